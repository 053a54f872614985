import Derived.Test.YtlngpfocngfokaaHk
/-! wakes: what the document says of a list whose two kids have one id. -/
namespace Go.Proofs.Ytlngpfocngfokaa
open Go.Proofs.Ytlngpfocngfokaa.Tw
def g7 : Gra := ⟨[⟨⟨#[108, 105, 115, 116]⟩, false, [⟨[1], 0, 3⟩]⟩, ⟨⟨#[97]⟩, true, []⟩], 0⟩
def k7 : Tree := .node 2 1 ⟨#[]⟩ []
def t7 : Tree := .node 1 0 ⟨#[]⟩ [k7, k7]
theorem g7_ok : g7.ok := by
  refine ⟨by simp [g7], fun k hk => ?_⟩
  simp only [g7, List.mem_cons, List.not_mem_nil, or_false] at hk
  rcases hk with rfl | rfl
  · refine ⟨by simp, fun s hs => ?_⟩
    simp only [List.mem_cons, List.not_mem_nil, or_false] at hs
    rcases hs with rfl
    simp
  · exact ⟨by simp, fun s hs => by cases hs⟩
/-- A contract, carried to arguments that say no less. -/
theorem tpure_sub {P : Program} {f : FuncId} {args args' : List AV} {r : AV} (h : TPure P f args r) (hs : Cells args' args) : TPure P f args' r := fun w I vs hI hv =>
  h w I vs hI ⟨hv.1.trans hs.len, fun j v c hj hc => by
    obtain ⟨a, ha, hac⟩ := hs.get j c hc
    exact hac w I [] v (hv.2 j v a hj ha)⟩
def g7L : AV := .agg [.slt 3 [.agg [.str ⟨#[108, 105, 115, 116]⟩, .bool false, .slt 3 [.agg [.slt 1 [.int .i64 1], .int .i64 0, .int .i64 3]]], .agg [.str ⟨#[97]⟩, .bool true, .nils]], .int .i64 0]
def k7L : AV := .agg [.int .i64 2, .int .i64 1, .str ⟨#[]⟩, .nils]
def t7L : AV := .agg [.int .i64 1, .int .i64 0, .str ⟨#[]⟩, .slt 4 [k7L, k7L]]
theorem g7S (E : Em) (G : EmG) : Tw.Sub g7L (G.gv g7) := by
  have e1 : ∀ x : Int, E.int.l [x] = [.int .i64 x] := fun x => by simp only [E.int.cons, E.int.nil, E.iv]
  have eS : G.slot.l [⟨[1], 0, 3⟩] = [.agg [.sl 1 [.int .i64 1], .int .i64 0, .int .i64 3]] := by simp only [G.slot.cons, G.slot.nil, G.sv E, e1]
  have eN : G.slot.l [] = [] := G.slot.nil
  have eK : G.kind.l g7.kinds = [.agg [.str ⟨#[108, 105, 115, 116]⟩, .bool false, .sl 3 [.agg [.sl 1 [.int .i64 1], .int .i64 0, .int .i64 3]]], .agg [.str ⟨#[97]⟩, .bool true, .sl 3 []]] := by
    unfold g7
    simp only [G.kind.cons, G.kind.nil, G.kv, eS, eN]
  unfold EmG.gv
  rw [eK]
  refine Cells.agg (.cons (Rows.sub ?_ (by simp [AV.cells])) (.cons (Sub.refl _) .nil))
  refine .cons (.cons (Sub.refl _) (.cons (Sub.refl _) (.cons (Rows.sub ?_ (by simp [AV.cells])) .nil))) (.cons (.cons (Sub.refl _) (.cons (Sub.refl _) (.cons (Sub.nils _) .nil))) .nil)
  exact .cons (.cons (Sub.slt _ _) (.cons (Sub.refl _) (.cons (Sub.refl _) .nil))) .nil
theorem k7C (E : Em) : Cells [.int .i64 2, .int .i64 1, .str ⟨#[]⟩, .nils] [.int .i64 2, .int .i64 1, .str ⟨#[]⟩, .sl 4 (E.tree.l [])] := by
  rw [E.tree.nil]
  exact .cons (Sub.refl _) (.cons (Sub.refl _) (.cons (Sub.refl _) (.cons (Sub.nils _) .nil)))
theorem k7S (E : Em) : Tw.Sub k7L (E.tree.v k7) := by
  unfold k7
  rw [E.node]
  exact Cells.agg (k7C E)
theorem t7S (E : Em) : Tw.Sub t7L (E.tree.v t7) := by
  have e : E.tree.l [k7, k7] = [.agg [.int .i64 2, .int .i64 1, .str ⟨#[]⟩, .sl 4 (E.tree.l [])], .agg [.int .i64 2, .int .i64 1, .str ⟨#[]⟩, .sl 4 (E.tree.l [])]] := by
    unfold k7
    simp only [E.tree.cons, E.tree.nil, E.node]
  unfold t7
  rw [E.node, e]
  exact Cells.agg (.cons (Sub.refl _) (.cons (Sub.refl _) (.cons (Sub.refl _) (.cons (Rows.sub (.cons (k7C E) (.cons (k7C E) .nil)) (by simp [AV.cells])) .nil))))
theorem k7_low : low 1 k7 := ⟨by decide, fun t ht => by cases ht⟩
theorem t7_low : low 2 t7 := ⟨by decide, fun t ht => by
  rcases List.mem_cons.1 ht with rfl | ht
  · exact k7_low
  · rcases List.mem_cons.1 ht with rfl | ht
    · exact k7_low
    · cases ht⟩
set_option maxRecDepth 100000 in
theorem tree7t : treeP g7 t7 = (2, 70) := by decide +kernel
set_option maxRecDepth 100000 in
theorem tree7k : treeP g7 k7 = (0, 70) := by decide +kernel
set_option maxRecDepth 100000 in
theorem sub7k : (subP g7 k7).2 = 0 := by decide +kernel
set_option maxHeartbeats 4000000 in
theorem wakes25 (A : Ar) (E : Em) (G : EmG) (H : EmN) (R : EmR) (M : EmI) {P : Program} (hP : P = Try.prog) : TPure P 25 [] (.bool true) := by
  have h1 := Tree26 A E G H R M hP g7 g7_ok 2 (by decide) t7 t7_low
  have h2 := Tree26 A E G H R M hP g7 g7_ok 1 (by decide) k7 k7_low
  have h3 := Sub28 A E G H R M hP g7 g7_ok 1 (by decide) k7 k7_low
  rw [subR_subP, sub7k] at h3
  rw [tree7t] at h1
  rw [tree7k] at h2
  replace h1 := tpure_sub h1 (.cons (g7S E G) (.cons (t7S E) .nil))
  replace h2 := tpure_sub h2 (.cons (g7S E G) (.cons (k7S E) .nil))
  replace h3 := tpure_sub h3 (.cons (g7S E G) (.cons (k7S E) .nil))
  obtain ⟨s, hs⟩ : ∃ s, s = (subP g7 k7).1 := ⟨_, rfl⟩
  rw [← hs] at h3
  unfold g7L t7L k7L at *
  have q : ∀ x : Int, A.eq x x = true := fun x => by rw [A.ok_eq]; exact decide_eq_true rfl
  refine TPure.ofE A T0 (T0_ok hP) (hP ▸ Try.func25) rfl _ rfl (by simp) ?_
  cbv
  ((try cbv) <;> (repeat ((with_reducible refine EW.of ?_); cbv)))
  (refine ⟨Ent.of (hP ▸ Try.func26) rfl, ?_⟩; refine TC.pureE h1 ?_; cbv; (repeat (first | exact trivial | refine And.intro (Emb.Pur _ _) ?_ | refine And.intro rfl ?_ | refine And.intro (Pur.mk rfl) ?_ | refine And.intro (Pur.mk (by assumption)) ?_)); ((try cbv) <;> (repeat ((with_reducible refine EW.of ?_); cbv))))
  ((try cbv) <;> (repeat ((with_reducible refine EW.of ?_); cbv)))
  (refine TW.draw (A := A) (T0_ok hP) (hP ▸ follows_mixed) (by kernel_rfl) rfl ?_; cbv)
  refine ⟨0, _, rfl, rfl, ?_⟩
  cbv
  (refine ⟨Ent.of (hP ▸ Try.func26) rfl, ?_⟩; refine ⟨_, TC.pureX h2 (by cbv; (repeat (first | exact trivial | refine And.intro (Emb.Pur _ _) ?_ | refine And.intro rfl ?_ | refine And.intro (Pur.mk rfl) ?_ | refine And.intro (Pur.mk (by assumption)) ?_))), ?_⟩; cbv)
  ((try cbv) <;> (repeat ((with_reducible refine EW.of ?_); cbv)))
  (refine TW.draw (A := A) (T0_ok hP) (hP ▸ follows_mixed) (by kernel_rfl) rfl ?_; cbv)
  refine ⟨0, _, rfl, rfl, ?_⟩
  cbv
  (refine ⟨Ent.of (hP ▸ Try.func28) rfl, ?_⟩; refine ⟨_, TC.pureX h3 (by cbv; (repeat (first | exact trivial | refine And.intro (Emb.Pur _ _) ?_ | refine And.intro rfl ?_ | refine And.intro (Pur.mk rfl) ?_ | refine And.intro (Pur.mk (by assumption)) ?_))), ?_⟩; cbv)
  ((try cbv) <;> (repeat ((with_reducible refine EW.of ?_); cbv)))
  refine byes (q 2) ?_
  ((try cbv) <;> (repeat ((with_reducible refine EW.of ?_); cbv)))
  refine byes (q 70) ?_
  ((try cbv) <;> (repeat ((with_reducible refine EW.of ?_); cbv)))
  refine byes (q 0) ?_
  ((try cbv) <;> (repeat ((with_reducible refine EW.of ?_); cbv)))
  refine byes (q 70) ?_
  ((try cbv) <;> (repeat ((with_reducible refine EW.of ?_); cbv)))
  exact ⟨q 0, trivial⟩
end Go.Proofs.Ytlngpfocngfokaa
