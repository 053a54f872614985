import Derived.Test.YtpjibokaeefhiaaLn
/-! What is above, as the document tells it. -/
namespace Go.Proofs.Ytpjibokaeefhiaa
open Go.Proofs.Ytpjibokaeefhiaa.Tw
/-- The ids at the first m - 1, .., 1, 0 places of a path. -/
def upIds (t : Tree) (p : List Int) : Nat → List Int
  | 0 => []
  | m + 1 => (upT t p m).id :: upIds t p m
def aboveS (t : Tree) (id : Int) : List Int := match pathT id t with | some p => upIds t p p.length | none => []
theorem Above17 (A : Ar) {P : Program} (hP : P = Try.prog) (id : Int) (n : Nat) (hn : n ≤ 1000000) (t : Tree) (hw : within n t) : TPure P 17 [t.av, .int .i64 id] (.sl 1 (ints (aboveS t id))) := by
  refine TPure.of (TC.of_ewp A T0 (T0_ok hP) (hP ▸ Try.func17) rfl _ rfl (by simp) ?_)
  have h27 := Path27 A hP id n hn t hw
  have hpl := fun p => pathT_len id t n p hw
  have h29 := fun p hp => At29 A hP n t hw p hp
  have hpt := t.av_pur
  unfold aboveS
  generalize ht : t = t1
  obtain ⟨i, k, s, ks⟩ := t
  rw [← ht]
  simp only [Tree.av] at h27 h29 hpt ⊢
  generalize avs ks = aks at h27 h29 hpt
  cases hq : pathT id (.node i k s ks) with
  | none =>
    rw [hq] at h27
    simp only [pathAV, Option.getD_none, Option.isSome_none] at h27
    cbv
    ((try cbv) <;> (repeat ((with_reducible refine EW.of ?_); cbv)))
    refine ⟨Ent.of (hP ▸ Try.func27) rfl, ?_⟩
    refine TC.pure h27 (by simpa [purL, AV.pur] using hpt) ?_
    cbv
    ((try cbv) <;> (repeat ((with_reducible refine EW.of ?_); cbv)))
    exact ⟨_, _, VSV.trans (VSV.sub (v' := .sl 1 []) (Sub.nils 1)) (VSV.pure rfl), rfl, rfl⟩
  | some p =>
    rw [hq] at h27
    have hpl := hpl p hq
    have hpp := ints_pur p
    have hpn := ints_len p
    simp only [pathAV, Option.getD_some, Option.isSome_some] at h27
    generalize hip : ints p = ip at h27 hpp hpn
    cbv
    ((try cbv) <;> (repeat ((with_reducible refine EW.of ?_); cbv)))
    refine ⟨Ent.of (hP ▸ Try.func27) rfl, ?_⟩
    refine TC.pure h27 (by simpa [purL, AV.pur] using hpt) ?_
    cbv
    ((try cbv) <;> (repeat ((with_reducible refine EW.of ?_); cbv)))
    have hfin : (match some p with | some p => upIds t1 p p.length | none => []) = upIds t1 p p.length := rfl
    obtain ⟨J, hJ⟩ : ∃ J : Nat → AFr → Store → Prop, J = fun c fr L => ∃ (m : Nat) (v : Int) (done : List Int), c = m ∧ m ≤ p.length ∧ v = (m : Int) - 1 ∧ done.length + m = p.length ∧ done ++ upIds t1 p m = upIds t1 p p.length ∧
      ((fr = ⟨40, [(8, .int .i64 v), (7, .nils), (5, .sl 1 ip), (2, .ref 0 4 0 0)]⟩ ∧ L = [some (.box 4 (.agg [.int .i64 i, .int .i64 k, .str s, .sl 4 aks]))] ∧ done = []) ∨ (fr = ⟨40, [(8, .int .i64 v), (7, .row 1 1 0 done.length), (5, .sl 1 ip), (2, .ref 0 4 0 0)]⟩ ∧ L = [some (.box 4 (.agg [.int .i64 i, .int .i64 k, .str s, .sl 4 aks])), some (.arr 1 (ints done))])) := ⟨_, rfl⟩
    have hv0 : A.op .sub .i64 (A.len ip) 1 = (p.length : Int) - 1 := (sub_i64 (A := A) (A.ok_len ip) (rfl : (1 : Int) = 1) (by omega) (by omega)).trans (by omega)
    obtain ⟨v0, hv00⟩ : ∃ v0 : Int, v0 = (p.length : Int) - 1 := ⟨_, rfl⟩
    refine TW.loopE A (T0_ok hP) J (n0 := p.length) (fr0 := ⟨40, [(8, .int .i64 v0), (7, .nils), (5, .sl 1 ip), (2, .ref 0 4 0 0)]⟩) (L0 := [some (.box 4 (.agg [.int .i64 i, .int .i64 k, .str s, .sl 4 aks]))])
      (VS.pick rfl (.cons (Sub.int (hv0.trans hv00.symm)) (.cons (Sub.refl _) (.cons (Sub.refl _) (.cons (Sub.refl _) .nil)))))
      (by rw [hJ]; exact ⟨p.length, v0, [], rfl, Nat.le_refl _, hv00, by simp, rfl, .inl ⟨rfl, rfl, rfl⟩⟩) ?_
    intro c fr L hj
    rw [hJ] at hj
    obtain ⟨m, v, done, hc, hm, hv, hdl, hinv, ⟨rfl, rfl, rfl⟩ | ⟨rfl, rfl⟩⟩ := hj
    · cbv
      ((try cbv) <;> (repeat ((with_reducible refine EW.of ?_); cbv)))
      refine bsplit (fun h => ?_) (fun h => ?_)
      · have h : (0 : Int) ≤ v := le_t h rfl rfl
        have hm1 : ∀ (m : Nat) (v : Int), v = (m : Int) - 1 → 0 ≤ v → ∃ m' : Nat, m = m' + 1 ∧ v = (m' : Int) := fun m v h1 h2 => ⟨m - 1, by omega, by omega⟩
        obtain ⟨m, rfl, hvm⟩ := hm1 m v hv h
        have h29 := h29 (p.take m) (by simp; omega)
        generalize hu : atT (.node i k s ks) (p.take m) = o at h29
        simp only [atAV] at h29
        generalize huu : o.getD t0 = u at h29
        generalize o.isSome = ob at h29
        obtain ⟨i2, k2, s2, ks2⟩ := u
        simp only [Tree.av] at h29
        generalize avs ks2 = aks2 at h29
        have hes : ints (p.take m) = (ip.take m).drop 0 := by rw [← hip, ints_take]; rfl
        have hep := ints_pur (p.take m)
        generalize ints (p.take m) = ie at h29 hes hep
        have hpu : purL [AV.agg [.int .i64 i, .int .i64 k, .str s, .sl 4 aks], AV.sl 1 ie] = true := by
          simp only [AV.pur, purL] at hpt ⊢
          rw [hep]
          simpa using hpt
        ((try cbv) <;> (repeat ((with_reducible refine EW.of ?_); cbv)))
        (refine TW.drawP (A := A) [(8, [some (.box 4 (.agg [.int .i64 0, .int .i64 0, .str ⟨⟨[]⟩⟩, .nils]))]), (9, [some (.box 4 (.agg [.int .i64 i2, .int .i64 k2, .str s2, .sl 4 aks2]))])] (T0_ok hP) (hP ▸ follows_mixed) (by cbv) rfl (by cbv) (by cbv) (by cbv) rfl rfl rfl ?_; cbv)
        refine ⟨m, hvm, ie, hes, Nat.zero_le _, by omega, ?_⟩
        cbv
        refine ⟨Ent.of (hP ▸ Try.func29) rfl, _, ⟨h29, hpu⟩, ?_⟩
        cbv
        refine ⟨rfl, rfl, ?_⟩
        ((try cbv) <;> (repeat ((with_reducible refine EW.of ?_); cbv)))
        have hid : i2 = (upT t1 p m).id := by
          simp only [upT]
          rw [← ht, hu, huu]
          rfl
        refine ⟨⟨rfl⟩, 1, ints [i2], rfl, rfl, Nat.zero_le _, by omega, by omega, ?_⟩
        have hep2 := ints_pur [i2]
        obtain ⟨v1, hv1⟩ : ∃ v1 : Int, v1 = (m : Int) - 1 := ⟨_, rfl⟩
        have hvm' : v = Int.ofNat m := hvm
        rw [Int.ofNat_eq_natCast] at hvm'
        have hs1 : A.op .sub .i64 v 1 = v1 := (sub_i64 (A := A) hvm' (rfl : (1 : Int) = 1) (by omega) (by omega)).trans hv1.symm
        have hua := avs_pur ks
        have hup : uptoL 1 aks = true := uptoL_pur 1 _ (by simpa [AV.pur, purL] using hpt)
        generalize hea : ints [i2] = ea at hep2
        cbv
        ((try cbv) <;> (repeat ((with_reducible refine EW.of ?_); cbv)))
        refine ⟨m, ⟨40, [(8, .int .i64 v1), (7, .row 1 1 0 1), (5, .sl 1 ip), (2, .ref 0 4 0 0)]⟩, [some (.box 4 (.agg [.int .i64 i, .int .i64 k, .str s, .sl 4 aks])), some (.arr 1 ea)], by omega,
          VS.trans (VS.pick (l := [(8, .int .i64 v1), (7, .row 2 1 0 1), (5, .sl 1 ip), (2, .ref 0 4 0 0)]) rfl (.cons (Sub.int hs1) (.cons (Sub.refl _) (.cons (Sub.refl _) (.cons (Sub.refl _) .nil)))))
            (VS.settle (o := .arr 1 ea) 2 1 rfl (by decide) (by simp) rfl (uptoL_pur 1 _ hep2) (by simp [oUpto, AO.upto, AV.upto, uptoL, hup])
              (.cons (.keep _ rfl) (.cons (.row 1 0 1) (.cons (.keep _ (by simp [aget, agetL, AV.upto, uptoL_pur 1 _ hpp])) (.cons (.keep _ rfl) .nil))))), ?_⟩
        rw [hJ]
        exact ⟨m, v1, [i2], rfl, by omega, hv1, by simp at hdl ⊢; omega, by rw [← hinv, hid]; rfl, .inr ⟨rfl, by rw [hea]⟩⟩
      · have h : v < 0 := le_f h rfl rfl
        have hm0 : ∀ (m : Nat) (v : Int), v = (m : Int) - 1 → v < 0 → m = 0 := fun m v h1 h2 => by omega
        have hm0 := hm0 m v hv h
        subst hm0
        have he : upIds t1 p p.length = [] := by rw [← hinv]; rfl
        ((try cbv) <;> (repeat ((with_reducible refine EW.of ?_); cbv)))
        refine ⟨_, _, VSV.trans (VSV.sub (v' := .sl 1 []) (Sub.nils 1)) (VSV.pure rfl), ?_, rfl⟩
        show AEnd.ret (.sl 1 []) = AEnd.ret (.sl 1 (ints (upIds _ p p.length)))
        rw [ht, he]
        rfl
    · have hdp := ints_pur done
      have hdq := ints_len done
      have hdn : ∀ x, ints (done ++ [x]) = ints done ++ [.int .i64 x] := fun x => by simp [ints]
      generalize hed : ints done = ed at hdp hdq hdn
      generalize hdnn : done.length = dn at hdl hdq
      cbv
      ((try cbv) <;> (repeat ((with_reducible refine EW.of ?_); cbv)))
      refine bsplit (fun h => ?_) (fun h => ?_)
      · have h : (0 : Int) ≤ v := le_t h rfl rfl
        have hm1 : ∀ (m : Nat) (v : Int), v = (m : Int) - 1 → 0 ≤ v → ∃ m' : Nat, m = m' + 1 ∧ v = (m' : Int) := fun m v h1 h2 => ⟨m - 1, by omega, by omega⟩
        obtain ⟨m, rfl, hvm⟩ := hm1 m v hv h
        have h29 := h29 (p.take m) (by simp; omega)
        generalize hu : atT (.node i k s ks) (p.take m) = o at h29
        simp only [atAV] at h29
        generalize huu : o.getD t0 = u at h29
        generalize o.isSome = ob at h29
        obtain ⟨i2, k2, s2, ks2⟩ := u
        simp only [Tree.av] at h29
        generalize avs ks2 = aks2 at h29
        have hes : ints (p.take m) = (ip.take m).drop 0 := by rw [← hip, ints_take]; rfl
        have hep := ints_pur (p.take m)
        generalize ints (p.take m) = ie at h29 hes hep
        have hpu : purL [AV.agg [.int .i64 i, .int .i64 k, .str s, .sl 4 aks], AV.sl 1 ie] = true := by
          simp only [AV.pur, purL] at hpt ⊢
          rw [hep]
          simpa using hpt
        ((try cbv) <;> (repeat ((with_reducible refine EW.of ?_); cbv)))
        (refine TW.drawP (A := A) [(8, [some (.box 4 (.agg [.int .i64 0, .int .i64 0, .str ⟨⟨[]⟩⟩, .nils]))]), (9, [some (.box 4 (.agg [.int .i64 i2, .int .i64 k2, .str s2, .sl 4 aks2]))])] (T0_ok hP) (hP ▸ follows_mixed) (by cbv) rfl (by cbv) (by cbv) (by cbv) rfl rfl rfl ?_; cbv)
        refine ⟨m, hvm, ie, hes, Nat.zero_le _, by omega, ?_⟩
        cbv
        refine ⟨Ent.of (hP ▸ Try.func29) rfl, _, ⟨h29, hpu⟩, ?_⟩
        cbv
        refine ⟨rfl, rfl, ?_⟩
        ((try cbv) <;> (repeat ((with_reducible refine EW.of ?_); cbv)))
        have hid : i2 = (upT t1 p m).id := by
          simp only [upT]
          rw [← ht, hu, huu]
          rfl
        refine ⟨⟨rfl⟩, dn + 1, ints (done ++ [i2]), rfl, by rw [hdn, List.take_of_length_le (by omega)], by omega, by omega, by omega, ?_⟩
        have hep2 := ints_pur (done ++ [i2])
        obtain ⟨v1, hv1⟩ : ∃ v1 : Int, v1 = (m : Int) - 1 := ⟨_, rfl⟩
        have hvm' : v = Int.ofNat m := hvm
        rw [Int.ofNat_eq_natCast] at hvm'
        have hs1 : A.op .sub .i64 v 1 = v1 := (sub_i64 (A := A) hvm' (rfl : (1 : Int) = 1) (by omega) (by omega)).trans hv1.symm
        have hua := avs_pur ks
        have hup : uptoL 1 aks = true := uptoL_pur 1 _ (by simpa [AV.pur, purL] using hpt)
        generalize hea : ints (done ++ [i2]) = ea at hep2
        cbv
        ((try cbv) <;> (repeat ((with_reducible refine EW.of ?_); cbv)))
        refine ⟨m, ⟨40, [(8, .int .i64 v1), (7, .row 1 1 0 (dn + 1)), (5, .sl 1 ip), (2, .ref 0 4 0 0)]⟩, [some (.box 4 (.agg [.int .i64 i, .int .i64 k, .str s, .sl 4 aks])), some (.arr 1 ea)], by omega,
          VS.trans (VS.pick (l := [(8, .int .i64 v1), (7, .row 3 1 0 (dn + 1)), (5, .sl 1 ip), (2, .ref 0 4 0 0)]) rfl (.cons (Sub.int hs1) (.cons (Sub.refl _) (.cons (Sub.refl _) (.cons (Sub.refl _) .nil)))))
            (VS.settle (o := .arr 1 ea) 3 1 rfl (by decide) (by simp) rfl (uptoL_pur 1 _ hep2) (by simp [oUpto, AO.upto, AV.upto, uptoL, hup])
              (.cons (.keep _ rfl) (.cons (.row 1 0 (dn + 1)) (.cons (.keep _ (by simp [aget, agetL, AV.upto, uptoL_pur 1 _ hpp])) (.cons (.keep _ rfl) .nil))))), ?_⟩
        rw [hJ]
        exact ⟨m, v1, done ++ [i2], rfl, by omega, hv1, by simp at hdl ⊢; omega, by rw [← hinv, hid]; simp [upIds], .inr ⟨by simp [hdnn], by rw [hea]⟩⟩
      · have h : v < 0 := le_f h rfl rfl
        have hm0 : ∀ (m : Nat) (v : Int), v = (m : Int) - 1 → v < 0 → m = 0 := fun m v h1 h2 => by omega
        have hm0 := hm0 m v hv h
        subst hm0
        have he : upIds t1 p p.length = done := by rw [← hinv]; simp [upIds]
        ((try cbv) <;> (repeat ((with_reducible refine EW.of ?_); cbv)))
        refine ⟨_, _, VSV.trans (VSV.freeze (p := 1) (els := ed) (v' := .sl 1 ed) rfl (.whole hdq.symm)) (VSV.pure (by simpa [AV.pur] using hdp)), ?_, rfl⟩
        show AEnd.ret (.sl 1 ed) = AEnd.ret (.sl 1 (ints (upIds _ p p.length)))
        rw [ht, he, hed]
end Go.Proofs.Ytpjibokaeefhiaa
