import Derived.Test.YtpjibokaeefhiaaLr
/-! first: the first round of an iterator. -/
namespace Go.Proofs.Ytpjibokaeefhiaa
open Go.Proofs.Ytpjibokaeefhiaa.Tw
theorem first20 (A : Ar) (E : Em) {P : Program} (hP : P = Try.prog) (id : Int) (n : Nat) (hn : n ≤ 1000000) (t : Tree) (hw : within n t) : TPure P 20 [E.tree.v t, .int .i64 id] (.int .i64 ((aboveS t id).headD 0)) := by
  refine TPure.ofE A T0 (T0_ok hP) (hP ▸ Try.func20) rfl _ rfl (by simp) ?_
  have h26 := Path26 A hP id n hn t hw
  have hpl : ((pathT id t).getD []).length ≤ 1000000 := by
    have := fun p => pathT_len id t n p hw
    cases hq : pathT id t with
    | none => simp
    | some p => have := this p hq; simp; omega
  have h57 := fun p hp => at57 A hP n t hw p hp
  simp only [E.av, E.ints] at h57
  obtain ⟨i, k, s, ks⟩ := t
  have h58 := Above58S A E hP i k s ks id
  simp only [E.av, pathAV, E.ints] at h26
  simp only [E.node] at h26 h57 h58 ⊢
  obtain ⟨fv, hfv⟩ : ∃ fv, fv = (aboveS (.node i k s ks) id).headD 0 := ⟨_, rfl⟩
  rw [← hfv]
  generalize hr : aboveS (.node i k s ks) id = r at hfv
  generalize hp : (pathT id (.node i k s ks)).getD [] = p at h26 hpl
  generalize (pathT id (.node i k s ks)).isSome = ob at h26
  have hrp : upIds (.node i k s ks) p p.length = r := by
    rw [← hr, ← hp]
    unfold aboveS
    cases pathT id (.node i k s ks) <;> rfl
  have h79 := Backward79S A E hP p
  cbv
  ((try cbv) <;> (repeat ((with_reducible refine EW.of ?_); cbv)))
  refine ⟨Ent.of (hP ▸ Try.func58) rfl, ?_⟩
  refine TC1.call [] h58 ?_
  cbv
  (repeat (first | exact trivial | refine And.intro (Emb.Pur _ _) ?_ | refine And.intro rfl ?_ | refine And.intro (Pur.mk rfl) ?_ | refine And.intro (Pur.mk (by assumption)) ?_))
  ((try cbv) <;> (repeat ((with_reducible refine EW.of ?_); cbv)))
  refine TW.range rfl rfl (Ent.of (hP ▸ Try.func78) rfl) ?_
  refine TC.of_ewp A T0 (T0_ok hP) (hP ▸ Try.func78) rfl _ rfl (by simp) ?_
  cbv
  ((try cbv) <;> (repeat ((with_reducible refine EW.of ?_); cbv)))
  refine ⟨Ent.of (hP ▸ Try.func26) rfl, ?_⟩
  refine TC.pureE h26 ?_
  cbv
  (repeat (first | exact trivial | refine And.intro (Emb.Pur _ _) ?_ | refine And.intro rfl ?_ | refine And.intro (Pur.mk rfl) ?_ | refine And.intro (Pur.mk (by assumption)) ?_))
  ((try cbv) <;> (repeat ((with_reducible refine EW.of ?_); cbv)))
  refine ⟨Ent.of (hP ▸ Try.func79) rfl, ?_⟩
  refine TC1.call [] h79 ?_
  cbv
  (repeat (first | exact trivial | refine And.intro (Emb.Pur _ _) ?_ | refine And.intro rfl ?_ | refine And.intro (Pur.mk rfl) ?_ | refine And.intro (Pur.mk (by assumption)) ?_))
  ((try cbv) <;> (repeat ((with_reducible refine EW.of ?_); cbv)))
  refine TW.range rfl rfl (Ent.of (hP ▸ Try.func83) rfl) ?_
  refine TC.of_ewp A T0 (T0_ok hP) (hP ▸ Try.func83) rfl _ rfl (by simp) ?_
  cbv
  ((try cbv) <;> (repeat ((with_reducible refine EW.of ?_); cbv)))
  have hlp := E.int.len p
  obtain ⟨S, hS⟩ : ∃ S : Store → LI Unit, S = fun L => ⟨fun x => [(3, .int .i64 (A.op .sub .i64 (A.len (E.int.l p)) 1)), (0, .yield 8), (1, .ref 7 1 0 0)], fun x => L, fun x => True, fun x => 0⟩ := ⟨_, rfl⟩
  refine TW.loopL A (T0_ok hP) S 19 rfl () ?_ ?_ ?_
  · rw [hS]; trivial
  · rw [hS]; cbv; (repeat (first | exact trivial | refine And.intro (Emb.Pur _ _) ?_ | refine And.intro rfl ?_ | refine And.intro (Pur.mk rfl) ?_ | refine And.intro (Pur.mk (by assumption)) ?_))
  rintro ⟨⟩ hj I l1 L1 e0 e1 e2
  rw [hS] at hj e1 e2
  dsimp only at e1 e2
  subst e1
  subst e2
  obtain ⟨v, hv⟩ : ∃ v : Int, v = A.op .sub .i64 (A.len (E.int.l p)) 1 := ⟨_, rfl⟩
  rw [← hv]
  replace hv : v = (p.length : Int) - 1 := hv.trans ((sub_i64 (A := A) (A.ok_len _) (rfl : (1 : Int) = 1) (by rw [hlp]; omega) (by rw [hlp]; omega)).trans (by rw [hlp]))
  cbv
  ((try cbv) <;> (repeat ((with_reducible refine EW.of ?_); cbv)))
  refine bsplit (fun h => ?_) (fun h => ?_)
  · have h : (0 : Int) ≤ v := le_t h rfl rfl
    obtain ⟨m, hpm, hvm⟩ := pred_of hv h
    obtain ⟨x, hx⟩ : ∃ x, p[m]? = some x := ⟨_, List.getElem?_eq_getElem (by omega)⟩
    ((try cbv) <;> (repeat ((with_reducible refine EW.of ?_); cbv)))
    refine ⟨m, _, hvm, E.geti hx, ?_⟩
    cbv
    ((try cbv) <;> (repeat ((with_reducible refine EW.of ?_); cbv)))
    refine YW.of fun k0 => ?_
    cbv
    ((try cbv) <;> (repeat ((with_reducible refine EW.of ?_); cbv)))
    have h57 := h57 (p.take m) (by simp; omega)
    have hid : (upT (.node i k s ks) p m).id = ((atT (.node i k s ks) (p.take m)).getD t0).id := rfl
    generalize atT (.node i k s ks) (p.take m) = o at h57 hid
    simp only [atAV] at h57
    generalize o.getD t0 = u at h57 hid
    generalize o.isSome = ob2 at h57
    obtain ⟨i2, k2, s2, ks2⟩ := u
    simp only [E.av, E.node] at h57
    replace hid : (upT (.node i k s ks) p m).id = i2 := hid
    (refine TW.drawP (A := A) [(9, [some (.box 4 (.agg [.int .i64 0, .int .i64 0, .str ⟨⟨[]⟩⟩, .nils]))]), (10, [some (.box 4 (.agg [.int .i64 i2, .int .i64 k2, .str s2, .sl 4 (E.tree.l ks2)]))])] (T0_ok hP) (hP ▸ follows_mixed) (by cbv) rfl (by cbv) (by cbv) (by cbv) rfl rfl rfl ?_; cbv)
    refine ⟨m, hvm, m, hvm, rfl, E.int.l (p.take m), (E.int.take p m).symm, Nat.zero_le _, by rw [hlp]; omega, ?_⟩
    cbv
    refine ⟨Ent.of (hP ▸ Try.func57) rfl, ?_⟩
    refine ⟨_, ⟨TPure.adj h57 (by cbv; (repeat (first | exact trivial | refine And.intro (Emb.Pur _ _) ?_ | refine And.intro rfl ?_ | refine And.intro (Pur.mk rfl) ?_ | refine And.intro (Pur.mk (by assumption)) ?_))), by (repeat (first | exact rfl | exact Emb.purL _ _ | assumption | apply pur_cons | apply pur_sl | apply pur_slt | apply pur_agg | apply pur_tup))⟩, ?_⟩
    cbv
    refine ⟨rfl, rfl, ?_⟩
    ((try cbv) <;> (repeat ((with_reducible refine EW.of ?_); cbv)))
    refine YW.of fun k1 => ?_
    cbv
    ((try cbv) <;> (repeat ((with_reducible refine EW.of ?_); cbv)))
    (refine ⟨_, _, VSV.refl _ _ _, ?_⟩; cbv; repeat ((with_reducible refine EW.of ?_); cbv))
    (refine ⟨_, _, VSV.refl _ _ _, ?_⟩; cbv; repeat ((with_reducible refine EW.of ?_); cbv))
    refine ⟨?_, trivial⟩
    rw [hfv, ← hrp, hpm, upIds, hid]
    rfl
  · have h : v < 0 := le_f h rfl rfl
    have hm0 := zero_of hv h
    ((try cbv) <;> (repeat ((with_reducible refine EW.of ?_); cbv)))
    (refine ⟨_, _, VSV.refl _ _ _, ?_⟩; cbv; repeat ((with_reducible refine EW.of ?_); cbv))
    (refine ⟨_, _, VSV.refl _ _ _, ?_⟩; cbv; repeat ((with_reducible refine EW.of ?_); cbv))
    refine ⟨?_, trivial⟩
    rw [hfv, ← hrp, hm0]
    rfl
end Go.Proofs.Ytpjibokaeefhiaa
