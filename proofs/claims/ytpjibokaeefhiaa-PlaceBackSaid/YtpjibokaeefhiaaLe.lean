import Derived.Test.YtpjibokaeefhiaaLd
/-! Parents, what is above, what is within: as the document tells them. -/
namespace Go.Proofs.Ytpjibokaeefhiaa
open Go.Proofs.Ytpjibokaeefhiaa.Tw
def Tree.id : Tree → Int | .node i _ _ _ => i
/-- What stands at the first n places of a path. -/
def upT (t : Tree) (p : List Int) (n : Nat) : Tree := (atT t (p.take n)).getD t0
def parentS (t : Tree) (id : Int) : Int × Int × Bool :=
  match pathT id t with
  | some (a :: q) => ((upT t (a :: q) q.length).id, ((a :: q)[q.length]?).getD 0, true)
  | _ => (0, 0, false)
def parentAV (r : Int × Int × Bool) : AV := .tup [.int .i64 r.1, .int .i64 r.2.1, .bool r.2.2]
theorem ints_take (l : List Int) (n : Nat) : (ints l).take n = ints (l.take n) := by simp [ints, List.map_take]
theorem Parent16 (A : Ar) {P : Program} (hP : P = Try.prog) (id : Int) (n : Nat) (hn : n ≤ 1000000) (t : Tree) (hw : within n t) : TPure P 16 [t.av, .int .i64 id] (parentAV (parentS t id)) := by
  refine TPure.of (TC.of_ewp A T0 (T0_ok hP) (hP ▸ Try.func16) rfl _ rfl (by simp) ?_)
  have h27 := Path27 A hP id n hn t hw
  have hpl := fun p => pathT_len id t n p hw
  unfold parentS
  have h29 := fun p hp => At29 A hP n t hw p hp
  have hpt := t.av_pur
  obtain ⟨i, k, s, ks⟩ := t
  simp only [Tree.av] at h27 h29 hpt ⊢
  generalize avs ks = aks at h27 h29 hpt
  cases hq : pathT id (.node i k s ks) with
  | none =>
    rw [hq] at h27
    simp only [pathAV, Option.getD_none, Option.isSome_none] at h27
    cbv
    ((try cbv) <;> (repeat ((with_reducible refine EW.of ?_); cbv)))
    refine ⟨Ent.of (hP ▸ Try.func27) rfl, ?_⟩
    refine TC.pure h27 (by simpa [purL, AV.pur] using hpt) ?_
    cbv
    ((try cbv) <;> (repeat ((with_reducible refine EW.of ?_); cbv)))
    exact ⟨_, _, VSV.pure rfl, rfl, rfl⟩
  | some p =>
    rw [hq] at h27
    have hpl := hpl p hq
    have hpp := ints_pur p
    have hpn := ints_len p
    simp only [pathAV, Option.getD_some, Option.isSome_some] at h27
    cases p with
    | nil =>
      cbv
      ((try cbv) <;> (repeat ((with_reducible refine EW.of ?_); cbv)))
      refine ⟨Ent.of (hP ▸ Try.func27) rfl, ?_⟩
      refine TC.pure h27 (by simpa [purL, AV.pur] using hpt) ?_
      cbv
      ((try cbv) <;> (repeat ((with_reducible refine EW.of ?_); cbv)))
      refine bsplit (fun h => ?_) (fun h => absurd rfl (eq_f h (A.ok_len _) rfl))
      ((try cbv) <;> (repeat ((with_reducible refine EW.of ?_); cbv)))
      exact ⟨_, _, VSV.pure rfl, rfl, rfl⟩
    | cons a q =>
      generalize hip : ints (a :: q) = ip at h27 hpp hpn
      simp only [List.length_cons] at hpn hpl
      cbv
      ((try cbv) <;> (repeat ((with_reducible refine EW.of ?_); cbv)))
      refine ⟨Ent.of (hP ▸ Try.func27) rfl, ?_⟩
      refine TC.pure h27 (by simpa [purL, AV.pur] using hpt) ?_
      cbv
      ((try cbv) <;> (repeat ((with_reducible refine EW.of ?_); cbv)))
      refine bsplit (fun h => ?_) (fun h => ?_)
      · have h : (ip.length : Int) = 0 := eq_t h (A.ok_len _) rfl
        omega
      · have h29 := h29 ((a :: q).take q.length) (by simp; omega)
        simp only [upT]
        generalize atT (.node i k s ks) ((a :: q).take q.length) = o at h29
        simp only [atAV] at h29
        generalize o.getD t0 = u at h29
        generalize o.isSome = ob at h29
        obtain ⟨i2, k2, s2, ks2⟩ := u
        simp only [Tree.av] at h29
        generalize avs ks2 = aks2 at h29
        have hes : ints ((a :: q).take q.length) = (ip.take q.length).drop 0 := by rw [← hip, ints_take]; rfl
        have hep := ints_pur ((a :: q).take q.length)
        obtain ⟨l2, hl2⟩ : ∃ l2, (a :: q)[q.length]? = some l2 := ⟨_, List.getElem?_eq_getElem (by simp)⟩
        have hla : ip[q.length]? = some (.int .i64 l2) := by rw [← hip]; exact ints_get hl2
        rw [hl2]
        generalize ints ((a :: q).take q.length) = ie at h29 hes hep
        have hsub : A.op .sub .i64 (A.len ip) 1 = ((q.length : Nat) : Int) := (sub_i64 (A := A) (A.ok_len ip) (rfl : (1 : Int) = 1) (by omega) (by omega)).trans (by omega)
        generalize q.length = m at *
        have hpu : purL [AV.agg [.int .i64 i, .int .i64 k, .str s, .sl 4 aks], AV.sl 1 ie] = true := by
          simp only [AV.pur, purL] at hpt ⊢
          rw [hep]
          simpa using hpt
        ((try cbv) <;> (repeat ((with_reducible refine EW.of ?_); cbv)))
        (refine TW.drawP (A := A) [(10, [some (.box 4 (.agg [.int .i64 0, .int .i64 0, .str ⟨⟨[]⟩⟩, .nils]))]), (11, [some (.box 4 (.agg [.int .i64 i2, .int .i64 k2, .str s2, .sl 4 aks2]))])] (T0_ok hP) (hP ▸ follows_mixed) (by cbv) rfl (by cbv) (by cbv) (by cbv) rfl rfl rfl ?_; cbv)
        refine ⟨m, hsub, ie, hes, Nat.zero_le _, by omega, ?_⟩
        cbv
        refine ⟨Ent.of (hP ▸ Try.func29) rfl, _, ⟨h29, hpu⟩, ?_⟩
        cbv
        refine ⟨rfl, rfl, ?_⟩
        ((try cbv) <;> (repeat ((with_reducible refine EW.of ?_); cbv)))
        (refine TW.draw (A := A) (T0_ok hP) (hP ▸ follows_mixed) (by kernel_rfl) rfl ?_; cbv)
        refine ⟨m, _, hsub, hla, ?_⟩
        cbv
        ((try cbv) <;> (repeat ((with_reducible refine EW.of ?_); cbv)))
        exact ⟨_, _, VSV.pure rfl, rfl, rfl⟩
end Go.Proofs.Ytpjibokaeefhiaa
