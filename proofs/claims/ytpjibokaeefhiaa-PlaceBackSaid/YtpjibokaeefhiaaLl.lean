import Derived.Test.YtpjibokaeefhiaaLk
/-! The parent, as the program tells it. -/
namespace Go.Proofs.Ytpjibokaeefhiaa
open Go.Proofs.Ytpjibokaeefhiaa.Tw
theorem Parent15 (A : Ar) {P : Program} (hP : P = Try.prog) (id : Int) (n : Nat) (hn : n ≤ 1000000) (t : Tree) (hw : within n t) : TPure P 15 [t.av, .int .i64 id] (parentAV (parentS t id)) := by
  refine TPure.of (TC.of_ewp A T0 (T0_ok hP) (hP ▸ Try.func15) rfl _ rfl (by simp) ?_)
  have h26 := Path26 A hP id n hn t hw
  have hpl := fun p => pathT_len id t n p hw
  unfold parentS
  have h57 := fun p hp => at57 A hP n t hw p hp
  have hpt := t.av_pur
  obtain ⟨i, k, s, ks⟩ := t
  simp only [Tree.av] at h26 h57 hpt ⊢
  generalize avs ks = aks at h26 h57 hpt
  cases hq : pathT id (.node i k s ks) with
  | none =>
    rw [hq] at h26
    simp only [pathAV, Option.getD_none, Option.isSome_none] at h26
    cbv
    ((try cbv) <;> (repeat ((with_reducible refine EW.of ?_); cbv)))
    refine ⟨Ent.of (hP ▸ Try.func26) rfl, ?_⟩
    refine TC.pure h26 (by simpa [purL, AV.pur] using hpt) ?_
    cbv
    ((try cbv) <;> (repeat ((with_reducible refine EW.of ?_); cbv)))
    refine bsplit (fun h => ?_) (fun h => ?_)
    · ((try cbv) <;> (repeat ((with_reducible refine EW.of ?_); cbv)))
      exact ⟨_, _, VSV.pure rfl, rfl, rfl⟩
    · have h : (0 : Int) ≤ -1 := lt_f h ((sub_i64 (A := A) (A.ok_len []) (rfl : (1 : Int) = 1) (by decide) (by decide)).trans (by decide)) rfl
      omega
  | some p =>
    rw [hq] at h26
    have hpl := hpl p hq
    have hpp := ints_pur p
    have hpn := ints_len p
    simp only [pathAV, Option.getD_some, Option.isSome_some] at h26
    cases p with
    | nil =>
      cbv
      ((try cbv) <;> (repeat ((with_reducible refine EW.of ?_); cbv)))
      refine ⟨Ent.of (hP ▸ Try.func26) rfl, ?_⟩
      refine TC.pure h26 (by simpa [purL, AV.pur] using hpt) ?_
      cbv
      ((try cbv) <;> (repeat ((with_reducible refine EW.of ?_); cbv)))
      refine bsplit (fun h => ?_) (fun h => ?_)
      · ((try cbv) <;> (repeat ((with_reducible refine EW.of ?_); cbv)))
        exact ⟨_, _, VSV.pure rfl, rfl, rfl⟩
      · have h : (0 : Int) ≤ -1 := lt_f h ((sub_i64 (A := A) (A.ok_len []) (rfl : (1 : Int) = 1) (by decide) (by decide)).trans (by decide)) rfl
        omega
    | cons a q =>
      generalize hip : ints (a :: q) = ip at h26 hpp hpn
      simp only [List.length_cons] at hpn hpl
      have h57 := h57 ((a :: q).take q.length) (by simp; omega)
      simp only [upT]
      generalize atT (.node i k s ks) ((a :: q).take q.length) = o at h57
      simp only [atAV] at h57
      generalize o.getD t0 = u at h57
      generalize o.isSome = ob at h57
      obtain ⟨i2, k2, s2, ks2⟩ := u
      simp only [Tree.av] at h57
      generalize avs ks2 = aks2 at h57
      have hes : ints ((a :: q).take q.length) = (ip.take q.length).drop 0 := by rw [← hip, ints_take]; rfl
      have hep := ints_pur ((a :: q).take q.length)
      obtain ⟨l2, hl2⟩ : ∃ l2, (a :: q)[q.length]? = some l2 := ⟨_, List.getElem?_eq_getElem (by simp)⟩
      have hla : ip[q.length]? = some (.int .i64 l2) := by rw [← hip]; exact ints_get hl2
      rw [hl2]
      generalize ints ((a :: q).take q.length) = ie at h57 hes hep
      have hsub : A.op .sub .i64 (A.len ip) 1 = ((q.length : Nat) : Int) := (sub_i64 (A := A) (A.ok_len ip) (rfl : (1 : Int) = 1) (by omega) (by omega)).trans (by omega)
      have hpu : purL [AV.agg [.int .i64 i, .int .i64 k, .str s, .sl 4 aks], AV.slt 1 ie] = true := by
        simp only [AV.pur, purL] at hpt ⊢
        rw [hep]
        simpa using hpt
      generalize q.length = m at *
      cbv
      ((try cbv) <;> (repeat ((with_reducible refine EW.of ?_); cbv)))
      refine ⟨Ent.of (hP ▸ Try.func26) rfl, ?_⟩
      refine TC.pure h26 (by simpa [purL, AV.pur] using hpt) ?_
      cbv
      ((try cbv) <;> (repeat ((with_reducible refine EW.of ?_); cbv)))
      refine bsplit (fun h => ?_) (fun h => ?_)
      · have h : ((m : Nat) : Int) < 0 := lt_t h hsub rfl
        omega
      · ((try cbv) <;> (repeat ((with_reducible refine EW.of ?_); cbv)))
        (refine TW.drawP (A := A) [(9, [some (.box 4 (.agg [.int .i64 0, .int .i64 0, .str ⟨⟨[]⟩⟩, .nils]))]), (10, [some (.box 4 (.agg [.int .i64 i2, .int .i64 k2, .str s2, .sl 4 aks2]))])] (T0_ok hP) (hP ▸ follows_mixed) (by cbv) rfl (by cbv) (by cbv) (by cbv) rfl rfl rfl ?_; cbv)
        refine ⟨m, hsub, m, hsub, rfl, ie, hes, Nat.zero_le _, by omega, ?_⟩
        cbv
        refine ⟨Ent.of (hP ▸ Try.func57) rfl, _, ⟨TPure.sub2 h57 (Sub.refl _) (Sub.slt 1 _), hpu⟩, ?_⟩
        cbv
        refine ⟨rfl, rfl, ?_⟩
        ((try cbv) <;> (repeat ((with_reducible refine EW.of ?_); cbv)))
        (refine TW.draw (A := A) (T0_ok hP) (hP ▸ follows_mixed) (by kernel_rfl) rfl ?_; cbv)
        refine ⟨m, _, hsub, hla, ?_⟩
        cbv
        ((try cbv) <;> (repeat ((with_reducible refine EW.of ?_); cbv)))
        exact ⟨_, _, VSV.pure rfl, rfl, rfl⟩
end Go.Proofs.Ytpjibokaeefhiaa
