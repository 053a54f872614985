import Derived.Test.YtpjibokaeefhiaaLg
/-! Within, as the document tells it. -/
namespace Go.Proofs.Ytpjibokaeefhiaa
open Go.Proofs.Ytpjibokaeefhiaa.Tw
/-- Is a row the beginning of another one? -/
def isPre (p q : List Int) : Bool := p == q.take p.length
def withinO (o1 o2 : Option (List Int)) : Bool :=
  match o1, o2 with
  | some p, some q => decide (p.length ≤ q.length) && isPre p q
  | _, _ => false
def withinS (t : Tree) (a b : Int) : Bool := withinO (pathT a t) (pathT b t)
theorem Within22 (A : Ar) {P : Program} (hP : P = Try.prog) (a b : Int) (n : Nat) (hn : n ≤ 1000000) (t : Tree) (hw : within n t) : TPure P 22 [t.av, .int .i64 a, .int .i64 b] (.bool (withinS t a b)) := by
  refine TPure.of (TC.of_ewp A T0 (T0_ok hP) (hP ▸ Try.func22) rfl _ rfl (by simp) ?_)
  have h1 := Path27 A hP a n hn t hw
  have h2 := Path27 A hP b n hn t hw
  have hl1 := fun p => pathT_len a t n p hw
  have hpt := t.av_pur
  unfold withinS
  obtain ⟨i, k, s, ks⟩ := t
  simp only [Tree.av] at h1 h2 hpt ⊢
  generalize avs ks = aks at h1 h2 hpt
  generalize pathT a (.node i k s ks) = o1 at h1 hl1
  generalize pathT b (.node i k s ks) = o2 at h2
  have hpu : ∀ x, purL [AV.agg [.int .i64 i, .int .i64 k, .str s, .sl 4 aks], AV.int .i64 x] = true := fun x => by
    simp only [AV.pur, purL] at hpt ⊢
    simpa using hpt
  simp only [pathAV] at h1 h2
  have hp1 := ints_len (o1.getD [])
  have hp2 := ints_len (o2.getD [])
  generalize hi1 : ints (o1.getD []) = i1 at h1 hp1
  generalize hi2 : ints (o2.getD []) = i2 at h2 hp2
  generalize hb1 : o1.isSome = b1 at h1
  generalize hb2 : o2.isSome = b2 at h2
  generalize hr : withinO o1 o2 = r
  cbv
  ((try cbv) <;> (repeat ((with_reducible refine EW.of ?_); cbv)))
  refine ⟨Ent.of (hP ▸ Try.func27) rfl, ?_⟩
  refine TC.pure h1 (hpu a) ?_
  cbv
  ((try cbv) <;> (repeat ((with_reducible refine EW.of ?_); cbv)))
  refine ⟨Ent.of (hP ▸ Try.func27) rfl, ?_⟩
  refine TC.pure h2 (hpu b) ?_
  have hf1 : b1 = false → r = false := fun h => by
    subst hr
    rw [h] at hb1
    cases o1 with
    | none => rfl
    | some p => simp at hb1
  have hf2 : b2 = false → r = false := fun h => by
    subst hr
    rw [h] at hb2
    cases o1 with
    | none => rfl
    | some p =>
      cases o2 with
      | none => rfl
      | some p => simp at hb2
  cases b1 with
  | false =>
    cbv
    ((try cbv) <;> (repeat ((with_reducible refine EW.of ?_); cbv)))
    exact ⟨_, _, VSV.pure rfl, by rw [hf1 rfl]; rfl, rfl⟩
  | true =>
    cases b2 with
    | false =>
      cbv
      ((try cbv) <;> (repeat ((with_reducible refine EW.of ?_); cbv)))
      exact ⟨_, _, VSV.pure rfl, by rw [hf2 rfl]; rfl, rfl⟩
    | true =>
      obtain ⟨p, rfl⟩ := Option.isSome_iff_exists.1 hb1
      obtain ⟨q, rfl⟩ := Option.isSome_iff_exists.1 hb2
      simp only [Option.getD_some] at hi1 hi2 hp1 hp2
      have hr : (decide (p.length ≤ q.length) && isPre p q) = r := hr
      have hpl := hl1 p rfl
      have hpp := ints_pur p
      have hqq := ints_pur q
      rw [hi1] at hpp
      rw [hi2] at hqq
      cbv
      ((try cbv) <;> (repeat ((with_reducible refine EW.of ?_); cbv)))
      refine bsplit (fun h => ?_) (fun h => ?_)
      · have h : i2.length < i1.length := lt_nt h (A.ok_len _) (A.ok_len _)
        ((try cbv) <;> (repeat ((with_reducible refine EW.of ?_); cbv)))
        refine ⟨_, _, VSV.pure rfl, ?_, rfl⟩
        have hlf : decide (p.length ≤ q.length) = false := decide_eq_false (by omega)
        simp only [hlf, Bool.false_and] at hr
        rw [← hr]
        rfl
      · have h : i1.length ≤ i2.length := lt_nf h (A.ok_len _) (A.ok_len _)
        have hle : decide (p.length ≤ q.length) = true := decide_eq_true (by omega)
        simp only [hle, Bool.true_and] at hr
        ((try cbv) <;> (repeat ((with_reducible refine EW.of ?_); cbv)))
        obtain ⟨J, hJ⟩ : ∃ J : Nat → AFr → Store → Prop, J = fun c fr L => ∃ m : Nat, c = p.length - m ∧ m ≤ p.length ∧ p.take m = q.take m ∧ fr = ⟨52, [(11, .int .i64 m), (7, .sl 1 i1), (9, .sl 1 i2)]⟩ ∧ L = [] := ⟨_, rfl⟩
        refine TW.loopE A (T0_ok hP) J (n0 := p.length) (fr0 := ⟨52, [(11, .int .i64 0), (7, .sl 1 i1), (9, .sl 1 i2)]⟩) (L0 := [])
          (VS.trans (VS.pick (l := [(11, .int .i64 0), (7, .sl 1 i1), (9, .sl 1 i2)]) rfl (.cons (Sub.refl _) (.cons (Sub.refl _) (.cons (Sub.refl _) .nil)))) (VS.trunc 0 (Nat.le_refl _) (by simp [AV.upto, uptoL_pur 0 _ hpp, uptoL_pur 0 _ hqq]) rfl))
          (by rw [hJ]; exact ⟨0, rfl, Nat.zero_le _, rfl, rfl, rfl⟩) ?_
        intro c fr L hj
        rw [hJ] at hj
        obtain ⟨m, hc, hm, ht, rfl, rfl⟩ := hj
        cbv
        ((try cbv) <;> (repeat ((with_reducible refine EW.of ?_); cbv)))
        refine bsplit (fun h => ?_) (fun h => ?_)
        · have h : m < i1.length := lt_nt h rfl (A.ok_len _)
          obtain ⟨x, hx⟩ : ∃ x, p[m]? = some x := ⟨_, List.getElem?_eq_getElem (by omega)⟩
          obtain ⟨y, hy⟩ : ∃ y, q[m]? = some y := ⟨_, List.getElem?_eq_getElem (by omega)⟩
          have hxa := ints_get hx
          have hya := ints_get hy
          rw [hi1] at hxa
          rw [hi2] at hya
          ((try cbv) <;> (repeat ((with_reducible refine EW.of ?_); cbv)))
          (refine TW.draw (A := A) (T0_ok hP) (hP ▸ follows_mixed) (by kernel_rfl) rfl ?_; cbv)
          refine ⟨m, _, rfl, hxa, ?_⟩
          cbv
          refine ⟨m, _, rfl, hya, ?_⟩
          cbv
          ((try cbv) <;> (repeat ((with_reducible refine EW.of ?_); cbv)))
          refine bsplit (fun h2 => ?_) (fun h2 => ?_)
          · ((try cbv) <;> (repeat ((with_reducible refine EW.of ?_); cbv)))
            have h2 : x ≠ y := ne_t h2 rfl rfl
            refine ⟨_, _, VSV.refl _ _ _, ?_, rfl⟩
            have hne : isPre p q = false := by
              simp only [isPre, beq_eq_false_iff_ne]
              intro e
              rw [e, List.getElem?_take, if_pos (by omega), hy] at hx
              exact h2 (Option.some.inj hx).symm
            rw [← hr, hne]
            rfl
          · ((try cbv) <;> (repeat ((with_reducible refine EW.of ?_); cbv)))
            have h2 : x = y := ne_f h2 rfl rfl
            refine ⟨p.length - (m + 1), ⟨52, [(11, .int .i64 ((m + 1 : Nat) : Int)), (7, .sl 1 i1), (9, .sl 1 i2)]⟩, [], by omega, VS.pick rfl (.cons (Sub.inc A (by omega)) (.cons (Sub.refl _) (.cons (Sub.refl _) .nil))), ?_⟩
            rw [hJ]
            exact ⟨m + 1, rfl, by omega, by rw [List.take_add_one, List.take_add_one, ht, hx, hy, h2], rfl, rfl⟩
        · have h : i1.length ≤ m := lt_nf h rfl (A.ok_len _)
          ((try cbv) <;> (repeat ((with_reducible refine EW.of ?_); cbv)))
          refine ⟨_, _, VSV.refl _ _ _, ?_, rfl⟩
          have heq : isPre p q = true := by
            have hmp : m = p.length := by omega
            subst hmp
            rw [List.take_length] at ht
            simp only [isPre, beq_iff_eq]
            exact ht
          rw [← hr, heq]
          rfl
end Go.Proofs.Ytpjibokaeefhiaa
