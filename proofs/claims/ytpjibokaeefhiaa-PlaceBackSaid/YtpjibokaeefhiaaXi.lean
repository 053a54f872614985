import Derived.Test.YtpjibokaeefhiaaXh
import Derived.Test.YtpjibokaeefhiaaLt
import Derived.Test.YtpjibokaeefhiaaLu
import Derived.Test.YtpjibokaeefhiaaLw
import Derived.Test.YtpjibokaeefhiaaNb
/-! The law PlacePuts, walked. -/
namespace Go.Proofs.Ytpjibokaeefhiaa
open Go.Proofs.Ytpjibokaeefhiaa.Tw
theorem within_put {m : Nat} {x : Tree} (hx : within m x) : ∀ (p : List Nat) (n : Nat) (t : Tree), within n t → (p = [] ∨ okP (kidsX t) p) → within (n + m) (putX x t p)
  | [], n, t, _, _ => by
    rw [show putX x t [] = x from by cases t; rfl]
    exact within_mono (by omega) hx
  | i :: p, 0, t, h, _ => h.elim
  | i :: p, n + 1, .node a b c ks, h, hp => by
    obtain ⟨t0, ht0, hp0⟩ := okP_get (ks := ks) (hp.resolve_left (by simp))
    have ih := within_put hx p n t0 (h.2 t0 (List.mem_of_getElem? ht0)) hp0
    rw [show n + 1 + m = (n + m) + 1 by omega]
    rw [show putX x (.node a b c ks) (i :: p) = .node a b c (putAt x ks (i :: p)) from rfl, putAt_set x (show ks[i]? = some t0 from ht0)]
    refine ⟨by rw [List.length_set]; exact h.1, fun t ht => ?_⟩
    rcases List.mem_or_eq_of_mem_set ht with h1 | h1
    · exact within_mono (by omega) (h.2 t h1)
    · rw [h1]; exact ih
theorem pathO (id : Int) (t : Tree) : ∃ po : Option (List Nat), pathT id t = po.map (·.map Int.ofNat) ∧ ∀ p, po = some p → p = [] ∨ okP (kidsX t) p := by
  cases h : pathT id t with
  | none => exact ⟨none, rfl, fun p hp => by cases hp⟩
  | some p =>
    obtain ⟨q, h1, h2⟩ := pathT_nat id t p h
    exact ⟨some q, by rw [h1]; rfl, fun p hp => by cases hp; exact h2⟩
theorem within_putO {id : Int} {t x : Tree} {n : Nat} (ht : within n t) (hx : within n x) (po : Option (List Nat)) (hok : ∀ p, po = some p → p = [] ∨ okP (kidsX t) p) (hn : 1 ≤ n) : within (n + n) (putO id t x po).1 := by
  cases po with
  | none => exact within_mono (n := 1) (by omega) ⟨by simp, fun t ht => by cases ht⟩
  | some p => exact within_put hx p n t ht (hok p rfl)
set_option maxHeartbeats 1000000 in
theorem law1 (A : Ar) (E : Em) {P : Program} (hP : P = Try.prog) (t x : Tree) (ht : t.ok) (hx : x.ok) (id : Int) : TPure P 6 [E.tree.v t, E.tree.v x, .int .i64 id] (.bool true) := by
  refine TPure.ofE A T0 (T0_ok hP) (hP ▸ Try.func6) rfl _ rfl (by simp) ?_
  have g1 := Great13 A hP t ht
  have g2 := Great13 A hP x hx
  have hg1 := @great_within t
  have hg2 := @great_within x
  have h14 := wakes14 A E hP
  obtain ⟨po, hpo, hok⟩ := pathO id t
  have hp := fun h1 h2 => PutX A E hP id 2000 (by decide) t h1 x h2 po hpo hok
  have hr := fun h1 h2 => RPut A E hP id 2000 (by decide) t h1 x h2 po hpo hok
  have hwy := fun (h1 : within 2000 t) (h2 : within 2000 x) => within_putO (id := id) h1 h2 po hok (by decide)
  generalize great t = b1 at g1 hg1
  generalize great x = b2 at g2 hg2
  generalize putO id t x po = y at hp hr hwy
  obtain ⟨y, e⟩ := y
  have h31 := fun hw => same31 A E hP 4000 y y hw
  simp only [sameT_refl] at h31
  dsimp only at hwy hp hr
  obtain ⟨i, k, s, ks, htt⟩ : ∃ i k s ks, t = Tree.node i k s ks := by cases t; exact ⟨_, _, _, _, rfl⟩
  have eT : E.tree.v t = .agg [.int .i64 i, .int .i64 k, .str s, .sl 4 (E.tree.l ks)] := by rw [htt]; exact E.node ..
  obtain ⟨ix, kx, sx, kxs, hxx⟩ : ∃ i k s ks, x = Tree.node i k s ks := by cases x; exact ⟨_, _, _, _, rfl⟩
  have eX : E.tree.v x = .agg [.int .i64 ix, .int .i64 kx, .str sx, .sl 4 (E.tree.l kxs)] := by rw [hxx]; exact E.node ..
  obtain ⟨iy, ky, sy, kys, hyy⟩ : ∃ i k s ks, y = Tree.node i k s ks := by cases y; exact ⟨_, _, _, _, rfl⟩
  have eY : E.tree.v y = .agg [.int .i64 iy, .int .i64 ky, .str sy, .sl 4 (E.tree.l kys)] := by rw [hyy]; exact E.node ..
  simp only [E.av] at g1 g2
  rw [eT, eX, eY] at hp hr
  rw [eY] at h31
  rw [eT] at g1
  rw [eX] at g2
  rw [eT, eX]
  cbv
  ((try cbv) <;> (repeat ((with_reducible refine EW.of ?_); cbv)))
  (refine ⟨Ent.of (hP ▸ Try.func13) rfl, ?_⟩; refine TC.pureE g1 ?_; cbv; (repeat (first | exact trivial | refine And.intro (Emb.Pur _ _) ?_ | refine And.intro rfl ?_ | refine And.intro (Pur.mk rfl) ?_ | refine And.intro (Pur.mk (by assumption)) ?_)); ((try cbv) <;> (repeat ((with_reducible refine EW.of ?_); cbv))))
  cases b1 with
  | true =>
    ((try cbv) <;> (repeat ((with_reducible refine EW.of ?_); cbv)))
    (refine ⟨Ent.of (hP ▸ Try.func14) rfl, ?_⟩; refine TC.pureE h14 ?_; cbv; (repeat (first | exact trivial | refine And.intro (Emb.Pur _ _) ?_ | refine And.intro rfl ?_ | refine And.intro (Pur.mk rfl) ?_ | refine And.intro (Pur.mk (by assumption)) ?_)); ((try cbv) <;> (repeat ((with_reducible refine EW.of ?_); cbv))))
  | false =>
    ((try cbv) <;> (repeat ((with_reducible refine EW.of ?_); cbv)))
    (refine ⟨Ent.of (hP ▸ Try.func13) rfl, ?_⟩; refine TC.pureE g2 ?_; cbv; (repeat (first | exact trivial | refine And.intro (Emb.Pur _ _) ?_ | refine And.intro rfl ?_ | refine And.intro (Pur.mk rfl) ?_ | refine And.intro (Pur.mk (by assumption)) ?_)); ((try cbv) <;> (repeat ((with_reducible refine EW.of ?_); cbv))))
    cases b2 with
    | true =>
      ((try cbv) <;> (repeat ((with_reducible refine EW.of ?_); cbv)))
      (refine ⟨Ent.of (hP ▸ Try.func14) rfl, ?_⟩; refine TC.pureE h14 ?_; cbv; (repeat (first | exact trivial | refine And.intro (Emb.Pur _ _) ?_ | refine And.intro rfl ?_ | refine And.intro (Pur.mk rfl) ?_ | refine And.intro (Pur.mk (by assumption)) ?_)); ((try cbv) <;> (repeat ((with_reducible refine EW.of ?_); cbv))))
    | false =>
      replace hp := hp (hg1 rfl) (hg2 rfl)
      replace hr := hr (hg1 rfl) (hg2 rfl)
      replace h31 := h31 (hwy (hg1 rfl) (hg2 rfl))
      ((try cbv) <;> (repeat ((with_reducible refine EW.of ?_); cbv)))
      (refine ⟨Ent.of (hP ▸ Try.func32) rfl, ?_⟩; refine TC.pureE hp ?_; cbv; (repeat (first | exact trivial | refine And.intro (Emb.Pur _ _) ?_ | refine And.intro rfl ?_ | refine And.intro (Pur.mk rfl) ?_ | refine And.intro (Pur.mk (by assumption)) ?_)); ((try cbv) <;> (repeat ((with_reducible refine EW.of ?_); cbv))))
      (refine ⟨Ent.of (hP ▸ Try.func33) rfl, ?_⟩; refine TC.pureE hr ?_; cbv; (repeat (first | exact trivial | refine And.intro (Emb.Pur _ _) ?_ | refine And.intro rfl ?_ | refine And.intro (Pur.mk rfl) ?_ | refine And.intro (Pur.mk (by assumption)) ?_)); ((try cbv) <;> (repeat ((with_reducible refine EW.of ?_); cbv))))
      (first | refine byes (eqT rfl) ?_ | refine byes (beqT rfl) ?_)
      ((try cbv) <;> (repeat ((with_reducible refine EW.of ?_); cbv)))
      (refine ⟨Ent.of (hP ▸ Try.func31) rfl, ?_⟩; refine TC.pureE h31 ?_; cbv; (repeat (first | exact trivial | refine And.intro (Emb.Pur _ _) ?_ | refine And.intro rfl ?_ | refine And.intro (Pur.mk rfl) ?_ | refine And.intro (Pur.mk (by assumption)) ?_)); ((try cbv) <;> (repeat ((with_reducible refine EW.of ?_); cbv))))
      ((try cbv) <;> (repeat ((with_reducible refine EW.of ?_); cbv)))
      (refine ⟨Ent.of (hP ▸ Try.func14) rfl, ?_⟩; refine TC.pureE h14 ?_; cbv; (repeat (first | exact trivial | refine And.intro (Emb.Pur _ _) ?_ | refine And.intro rfl ?_ | refine And.intro (Pur.mk rfl) ?_ | refine And.intro (Pur.mk (by assumption)) ?_)); ((try cbv) <;> (repeat ((with_reducible refine EW.of ?_); cbv))))
end Go.Proofs.Ytpjibokaeefhiaa
