import Derived.Test.YtlngpfocngfokaaGl
/-! wakes: what the document says of a a b, and of a b a. -/
namespace Go.Proofs.Ytlngpfocngfokaa
open Go.Proofs.Ytlngpfocngfokaa.Tw
set_option maxRecDepth 100000 in
theorem check11 : checkB (rowG 1 1) = true := by decide +kernel
theorem check21 : checkB (rowG 2 1) = false := by decide +kernel
theorem fits112 : fitsB (rowG 1 1) 0 [1, 1, 2] = true := by decide +kernel
theorem fits121 : fitsB (rowG 1 1) 0 [1, 2, 1] = false := by decide +kernel
theorem textA : textB (rowG 1 1) 1 ⟨#[120]⟩ = true := by decide +kernel
theorem textC : textB (rowG 1 1) 2 ⟨#[120]⟩ = false := by decide +kernel
theorem findB : findO (rowG 1 1) ⟨#[98]⟩ = some 2 := by decide +kernel
theorem least0 {A : Ar} : leastI A (rowG 1 1) 0 = 1 := by
  have h : kindO (rowG 1 1) 0 = some ⟨⟨#[108, 105, 115, 116]⟩, false, [⟨[1], 0, 2⟩, ⟨[2], 1, 1⟩]⟩ := by
    unfold kindO
    rw [if_pos ⟨check11, by decide, by decide⟩]
    rfl
  unfold leastI
  rw [h]
  show A.op .add .i64 (A.op .add .i64 ((0 : Nat) : Int) ((0 : Nat) : Int)) ((1 : Nat) : Int) = 1
  rw [add_nat A (by decide), add_nat A (by decide)]
  rfl
set_option maxHeartbeats 4000000 in
theorem wakes11 (A : Ar) (E : Em) (G : EmG) (H : EmN) (R : EmR) {P : Program} (hP : P = Try.prog) : TPure P 11 [] (.bool true) := by
  have hg := rowG_ok 1 1
  have h36 := row36 A E G hP 1 1
  have h36b := row36 A E G hP 2 1
  have h16 := Find16 A E G H hP _ hg ⟨#[98]⟩
  have h14 := Check14 A E G H hP _ hg
  have h14b := Check14 A E G H hP _ (rowG_ok 2 1)
  have h12 := Fits12 A E G H R hP _ hg 0 [1, 1, 2] (by decide)
  have h12b := Fits12 A E G H R hP _ hg 0 [1, 2, 1] (by decide)
  have h15 := Least15 A E G H hP _ hg 0
  have h19 := Text19 A E G H hP _ hg 1 ⟨#[120]⟩
  have h19b := Text19 A E G H hP _ hg 2 ⟨#[120]⟩
  have e1 : E.int.l [1, 1, 2] = [.int .i64 1, .int .i64 1, .int .i64 2] := by simp only [E.int.cons, E.int.nil, E.iv]
  have e2 : E.int.l [1, 2, 1] = [.int .i64 1, .int .i64 2, .int .i64 1] := by simp only [E.int.cons, E.int.nil, E.iv]
  rw [check11] at h14
  rw [check21] at h14b
  rw [fits112, e1] at h12
  rw [fits121, e2] at h12b
  rw [textA] at h19
  rw [textC] at h19b
  rw [findB] at h16
  rw [least0] at h15
  unfold EmG.gv at h36 h36b h16 h14 h14b h12 h12b h15 h19 h19b
  have hk := G.kind.Pur (rowG 1 1).kinds
  have hkb := G.kind.Pur (rowG 2 1).kinds
  generalize G.kind.l (rowG 1 1).kinds = K at *
  generalize G.kind.l (rowG 2 1).kinds = K2 at *
  replace h36 : TPure P _ _ (.agg [.sl 3 K, .int .i64 0]) := h36
  replace h36b : TPure P _ _ (.agg [.sl 3 K2, .int .i64 0]) := h36b
  replace h16 : TPure P _ [.agg [.sl 3 K, .int .i64 0], _] (.tup [.int .i64 2, .bool true]) := h16
  replace h14 : TPure P _ [.agg [.sl 3 K, .int .i64 0]] (.int .i64 0) := h14
  replace h14b : TPure P _ [.agg [.sl 3 K2, .int .i64 0]] (.int .i64 50) := h14b
  replace h12 : TPure P _ [.agg [.sl 3 K, .int .i64 0], _, _] _ := h12
  replace h12b : TPure P _ [.agg [.sl 3 K, .int .i64 0], _, _] _ := h12b
  replace h15 : TPure P _ [.agg [.sl 3 K, .int .i64 0], _] _ := h15
  replace h19 : TPure P _ [.agg [.sl 3 K, .int .i64 0], _, _] _ := h19
  replace h19b : TPure P _ [.agg [.sl 3 K, .int .i64 0], _, _] _ := h19b
  have q : ∀ x : Int, A.eq x x = true := fun x => by rw [A.ok_eq]; exact decide_eq_true rfl
  refine TPure.ofE A T0 (T0_ok hP) (hP ▸ Try.func11) rfl _ rfl (by simp) ?_
  cbv
  ((try cbv) <;> (repeat ((with_reducible refine EW.of ?_); cbv)))
  (refine ⟨Ent.of (hP ▸ Try.func36) rfl, ?_⟩; refine TC.pureE h36 ?_; cbv; (repeat (first | exact trivial | refine And.intro (Emb.Pur _ _) ?_ | refine And.intro rfl ?_ | refine And.intro (Pur.mk rfl) ?_ | refine And.intro (Pur.mk (by assumption)) ?_)); ((try cbv) <;> (repeat ((with_reducible refine EW.of ?_); cbv))))
  (refine ⟨Ent.of (hP ▸ Try.func16) rfl, ?_⟩; refine TC.pureE h16 ?_; cbv; (repeat (first | exact trivial | refine And.intro (Emb.Pur _ _) ?_ | refine And.intro rfl ?_ | refine And.intro (Pur.mk rfl) ?_ | refine And.intro (Pur.mk (by assumption)) ?_)); ((try cbv) <;> (repeat ((with_reducible refine EW.of ?_); cbv))))
  refine ⟨hk, ?_⟩
  ((try cbv) <;> (repeat ((with_reducible refine EW.of ?_); cbv)))
  (refine ⟨Ent.of (hP ▸ Try.func14) rfl, ?_⟩; refine TC.pureE h14 ?_; cbv; (repeat (first | exact trivial | refine And.intro (Emb.Pur _ _) ?_ | refine And.intro rfl ?_ | refine And.intro (Pur.mk rfl) ?_ | refine And.intro (Pur.mk (by assumption)) ?_)); ((try cbv) <;> (repeat ((with_reducible refine EW.of ?_); cbv))))
  refine ⟨hk, ?_⟩
  ((try cbv) <;> (repeat ((with_reducible refine EW.of ?_); cbv)))
  (first | refine byes (eqT rfl) ?_ | refine byes (beqT rfl) ?_)
  cbv
  (refine ⟨Ent.of (hP ▸ Try.func12) rfl, ?_⟩; refine TC.pureE h12 ?_; cbv; (repeat (first | exact trivial | refine And.intro (Emb.Pur _ _) ?_ | refine And.intro rfl ?_ | refine And.intro (Pur.mk rfl) ?_ | refine And.intro (Pur.mk (by assumption)) ?_)); ((try cbv) <;> (repeat ((with_reducible refine EW.of ?_); cbv))))
  refine ⟨hk, Pur.mk rfl, ?_⟩
  ((try cbv) <;> (repeat ((with_reducible refine EW.of ?_); cbv)))
  (refine ⟨Ent.of (hP ▸ Try.func12) rfl, ?_⟩; refine TC.pureE h12b ?_; cbv; (repeat (first | exact trivial | refine And.intro (Emb.Pur _ _) ?_ | refine And.intro rfl ?_ | refine And.intro (Pur.mk rfl) ?_ | refine And.intro (Pur.mk (by assumption)) ?_)); ((try cbv) <;> (repeat ((with_reducible refine EW.of ?_); cbv))))
  refine ⟨hk, Pur.mk rfl, ?_⟩
  ((try cbv) <;> (repeat ((with_reducible refine EW.of ?_); cbv)))
  (first | refine byes (eqT rfl) ?_ | refine byes (beqT rfl) ?_)
  cbv
  ((try cbv) <;> (repeat ((with_reducible refine EW.of ?_); cbv)))
  (refine ⟨Ent.of (hP ▸ Try.func15) rfl, ?_⟩; refine TC.pureE h15 ?_; cbv; (repeat (first | exact trivial | refine And.intro (Emb.Pur _ _) ?_ | refine And.intro rfl ?_ | refine And.intro (Pur.mk rfl) ?_ | refine And.intro (Pur.mk (by assumption)) ?_)); ((try cbv) <;> (repeat ((with_reducible refine EW.of ?_); cbv))))
  refine ⟨hk, ?_⟩
  ((try cbv) <;> (repeat ((with_reducible refine EW.of ?_); cbv)))
  (first | refine byes (eqT rfl) ?_ | refine byes (beqT rfl) ?_)
  cbv
  ((try cbv) <;> (repeat ((with_reducible refine EW.of ?_); cbv)))
  (refine ⟨Ent.of (hP ▸ Try.func19) rfl, ?_⟩; refine TC.pureE h19 ?_; cbv; (repeat (first | exact trivial | refine And.intro (Emb.Pur _ _) ?_ | refine And.intro rfl ?_ | refine And.intro (Pur.mk rfl) ?_ | refine And.intro (Pur.mk (by assumption)) ?_)); ((try cbv) <;> (repeat ((with_reducible refine EW.of ?_); cbv))))
  refine ⟨hk, ?_⟩
  ((try cbv) <;> (repeat ((with_reducible refine EW.of ?_); cbv)))
  (refine ⟨Ent.of (hP ▸ Try.func19) rfl, ?_⟩; refine TC.pureE h19b ?_; cbv; (repeat (first | exact trivial | refine And.intro (Emb.Pur _ _) ?_ | refine And.intro rfl ?_ | refine And.intro (Pur.mk rfl) ?_ | refine And.intro (Pur.mk (by assumption)) ?_)); ((try cbv) <;> (repeat ((with_reducible refine EW.of ?_); cbv))))
  refine ⟨hk, ?_⟩
  ((try cbv) <;> (repeat ((with_reducible refine EW.of ?_); cbv)))
  (refine ⟨Ent.of (hP ▸ Try.func36) rfl, ?_⟩; refine TC.pureE h36b ?_; cbv; (repeat (first | exact trivial | refine And.intro (Emb.Pur _ _) ?_ | refine And.intro rfl ?_ | refine And.intro (Pur.mk rfl) ?_ | refine And.intro (Pur.mk (by assumption)) ?_)); ((try cbv) <;> (repeat ((with_reducible refine EW.of ?_); cbv))))
  (refine ⟨Ent.of (hP ▸ Try.func14) rfl, ?_⟩; refine TC.pureE h14b ?_; cbv; (repeat (first | exact trivial | refine And.intro (Emb.Pur _ _) ?_ | refine And.intro rfl ?_ | refine And.intro (Pur.mk rfl) ?_ | refine And.intro (Pur.mk (by assumption)) ?_)); ((try cbv) <;> (repeat ((with_reducible refine EW.of ?_); cbv))))
  refine ⟨hkb, ?_⟩
  ((try cbv) <;> (repeat ((with_reducible refine EW.of ?_); cbv)))
  exact ⟨q 50, trivial⟩
end Go.Proofs.Ytlngpfocngfokaa
