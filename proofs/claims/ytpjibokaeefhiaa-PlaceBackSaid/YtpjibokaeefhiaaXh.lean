import Derived.Test.YtpjibokaeefhiaaXg
/-! The reference's Put. -/
namespace Go.Proofs.Ytpjibokaeefhiaa
open Go.Proofs.Ytpjibokaeefhiaa.Tw
theorem RPut (A : Ar) (E : Em) {P : Program} (hP : P = Try.prog) (id : Int) (n : Nat) (hn : n ≤ 1000000) (t : Tree) (hw : within n t) (x : Tree) (hwx : within n x) (po : Option (List Nat)) (hpo : pathT id t = po.map (·.map Int.ofNat)) (hok : ∀ p, po = some p → p = [] ∨ okP (kidsX t) p) :
    TPure P 33 [E.tree.v t, .int .i64 id, E.tree.v x] (.tup [E.tree.v (putO id t x po).1, .int .i64 (putO id t x po).2]) := by
  have h27 := Path27 A hP id n hn t hw
  have h64 := fun p h => put64 A E hP x n hwx p n t hw h
  rw [hpo] at h27
  simp only [E.av, pathAV, E.ints] at h27
  obtain ⟨ix, kx, sx, kxs, hx⟩ : ∃ i k s ks, x = Tree.node i k s ks := by cases x; exact ⟨_, _, _, _, rfl⟩
  have eX : E.tree.v x = .agg [.int .i64 ix, .int .i64 kx, .str sx, .sl 4 (E.tree.l kxs)] := by rw [hx]; exact E.node ..
  obtain ⟨i, k, s, ks, htt⟩ : ∃ i k s ks, t = Tree.node i k s ks := by cases t; exact ⟨_, _, _, _, rfl⟩
  have eT : E.tree.v t = .agg [.int .i64 i, .int .i64 k, .str s, .sl 4 (E.tree.l ks)] := by rw [htt]; exact E.node ..
  rw [eX, eT] at h64 ⊢
  rw [eT] at h27
  cases po with
  | none =>
    replace h27 : TPure P _ _ (.tup [.sl 1 (E.int.l []), .bool false]) := h27
    rw [show E.tree.v (putO id t x none).1 = .agg [.int .i64 0, .int .i64 0, .str ⟨#[]⟩, .sl 4 (E.tree.l [])] from E.node .., show (putO id t x none).2 = 4 from rfl]
    rw [E.tree.nil]
    refine TPure.ofE A T0 (T0_ok hP) (hP ▸ Try.func33) rfl _ rfl (by simp) ?_
    cbv
    ((try cbv) <;> (repeat ((with_reducible refine EW.of ?_); cbv)))
    (refine ⟨Ent.of (hP ▸ Try.func27) rfl, ?_⟩; refine TC.pureE h27 ?_; cbv; (repeat (first | exact trivial | refine And.intro (Emb.Pur _ _) ?_ | refine And.intro rfl ?_ | refine And.intro (Pur.mk rfl) ?_ | refine And.intro (Pur.mk (by assumption)) ?_)); ((try cbv) <;> (repeat ((with_reducible refine EW.of ?_); cbv))))
  | some p =>
    replace h27 : TPure P _ _ (.tup [.sl 1 (E.int.l (p.map Int.ofNat)), .bool true]) := h27
    replace h64 := h64 p (hok p rfl)
    rw [show (putO id t x (some p)).1 = putX x t p from rfl, show (putO id t x (some p)).2 = 0 from rfl]
    generalize putX x t p = y at h64 ⊢
    obtain ⟨yi, yk, ys, yks⟩ := y
    rw [E.node] at h64 ⊢
    refine TPure.ofE A T0 (T0_ok hP) (hP ▸ Try.func33) rfl _ rfl (by simp) ?_
    cbv
    ((try cbv) <;> (repeat ((with_reducible refine EW.of ?_); cbv)))
    (refine ⟨Ent.of (hP ▸ Try.func27) rfl, ?_⟩; refine TC.pureE h27 ?_; cbv; (repeat (first | exact trivial | refine And.intro (Emb.Pur _ _) ?_ | refine And.intro rfl ?_ | refine And.intro (Pur.mk rfl) ?_ | refine And.intro (Pur.mk (by assumption)) ?_)); ((try cbv) <;> (repeat ((with_reducible refine EW.of ?_); cbv))))
    (refine ⟨Ent.of (hP ▸ Try.func64) rfl, ?_⟩; refine TC.pureE h64 ?_; cbv; (repeat (first | exact trivial | refine And.intro (Emb.Pur _ _) ?_ | refine And.intro rfl ?_ | refine And.intro (Pur.mk rfl) ?_ | refine And.intro (Pur.mk (by assumption)) ?_)); ((try cbv) <;> (repeat ((with_reducible refine EW.of ?_); cbv))))
    (repeat (first | exact trivial | refine And.intro (Emb.Pur _ _) ?_ | refine And.intro rfl ?_ | refine And.intro (Pur.mk rfl) ?_ | refine And.intro (Pur.mk (by assumption)) ?_))
end Go.Proofs.Ytpjibokaeefhiaa
