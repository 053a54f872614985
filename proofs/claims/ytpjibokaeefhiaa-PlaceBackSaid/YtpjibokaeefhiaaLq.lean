import Derived.Test.YtpjibokaeefhiaaLp
/-! place.Common. -/
namespace Go.Proofs.Ytpjibokaeefhiaa
open Go.Proofs.Ytpjibokaeefhiaa.Tw
/-- How long two rows are alike. -/
def alike : List Int → List Int → Nat
  | a :: p, b :: q => if a = b then alike p q + 1 else 0
  | _, _ => 0
def commonO (t : Tree) (o1 o2 : Option (List Int)) : Int × Bool := match o1, o2 with
  | some p, some q => ((upT t p (alike p q)).id, true)
  | _, _ => (0, false)
def commonS (t : Tree) (a b : Int) : Int × Bool := commonO t (pathT a t) (pathT b t)
theorem alike_drop {p q : List Int} {j : Nat} {x y : Int} (hx : p[j]? = some x) (hy : q[j]? = some y) : alike (p.drop j) (q.drop j) = if x = y then alike (p.drop (j + 1)) (q.drop (j + 1)) + 1 else 0 := by
  have h1 := List.drop_eq_getElem?_toList_append (l := p) (i := j)
  have h2 := List.drop_eq_getElem?_toList_append (l := q) (i := j)
  rw [hx] at h1
  rw [hy] at h2
  rw [h1, h2]
  rfl
theorem alike_stop {p q : List Int} {j : Nat} (h : p.length ≤ j ∨ q.length ≤ j) : alike (p.drop j) (q.drop j) = 0 := by
  rcases h with h | h
  · rw [List.drop_eq_nil_of_le h]; rfl
  · rw [List.drop_eq_nil_of_le h]; cases p.drop j <;> rfl
theorem Common25 (A : Ar) (E : Em) {P : Program} (hP : P = Try.prog) (a b : Int) (n : Nat) (hn : n ≤ 1000000) (t : Tree) (hw : within n t) : TPure P 25 [E.tree.v t, .int .i64 a, .int .i64 b] (.tup [.int .i64 (commonS t a b).1, .bool (commonS t a b).2]) := by
  refine TPure.ofE A T0 (T0_ok hP) (hP ▸ Try.func25) rfl _ rfl (by simp) ?_
  have hb := both59 A hP a b n hn t hw
  have h57 := fun p hp => at57 A hP n t hw p hp
  have hl1 := fun p => pathT_len a t n p hw
  have hl2 := fun p => pathT_len b t n p hw
  unfold commonS
  generalize pathT a t = o1 at hb hl1
  generalize pathT b t = o2 at hb hl2
  generalize hr : commonO t o1 o2 = r
  obtain ⟨r1, r2⟩ := r
  simp only [E.av, bothAV, E.ints] at hb h57
  generalize ht : t = t1
  rw [ht] at hr
  obtain ⟨i, k, s, ks⟩ := t
  rw [← ht] at hr
  subst ht
  simp only [E.node] at hb h57 ⊢
  cbv
  ((try cbv) <;> (repeat ((with_reducible refine EW.of ?_); cbv)))
  refine ⟨Ent.of (hP ▸ Try.func59) rfl, ?_⟩
  refine TC.pureE hb ?_
  clear hb
  cases o1 with
  | none =>
    cases hr
    cbv
    refine ⟨E.tree.Pur ks, ?_⟩
    ((try cbv) <;> (repeat ((with_reducible refine EW.of ?_); cbv)))
  | some p =>
    cases o2 with
    | none =>
      cases hr
      cbv
      refine ⟨E.tree.Pur ks, ?_⟩
      ((try cbv) <;> (repeat ((with_reducible refine EW.of ?_); cbv)))
    | some q =>
      have hlp := hl1 p rfl
      have hlq := hl2 q rfl
      cbv
      refine ⟨E.tree.Pur ks, ?_⟩
      ((try cbv) <;> (repeat ((with_reducible refine EW.of ?_); cbv)))
      obtain ⟨S, hS⟩ : ∃ S : LI Nat, S = ⟨fun j => [(11, .int .i64 j), (9, .sl 1 (E.int.l q)), (8, .sl 1 (E.int.l p)), (3, .ref 0 4 0 0)], fun _ => [some (.box 4 (.agg [.int .i64 i, .int .i64 k, .str s, .sl 4 (E.tree.l ks)]))], fun j => j ≤ p.length ∧ j ≤ q.length ∧ alike p q = j + alike (p.drop j) (q.drop j), fun j => p.length - j⟩ := ⟨_, rfl⟩
      refine TW.loopM A (T0_ok hP) S 55 rfl 0 ?_ ?_ ?_
      · rw [hS]; exact ⟨by omega, by omega, by simp⟩
      · rw [hS]; cbv; (repeat (first | exact trivial | refine And.intro (Emb.Pur _ _) ?_ | refine And.intro rfl ?_ | refine And.intro (Pur.mk rfl) ?_ | refine And.intro (Pur.mk (by assumption)) ?_))
      intro j hj l1 L1 e1 e2; rw [hS] at hj e1 e2; dsimp only at hj e1 e2; obtain ⟨hjp, hjq, hal⟩ := hj; subst e1 e2
      cbv
      ((try cbv) <;> (repeat ((with_reducible refine EW.of ?_); cbv)))
      have hlp' := E.int.len p
      have hlq' := E.int.len q
      have hmn : ∀ m, m = A.mn (A.len (E.int.l p)) (A.len (E.int.l q)) → m = ((min p.length q.length : Nat) : Int) := by
        intro m hm
        rw [hm, A.ok_mn, A.ok_len, A.ok_len, hlp', hlq']
        split <;> omega
      (refine TW.draw (A := A) (T0_ok hP) (hP ▸ follows_mixed) (by kernel_rfl) rfl ?_; cbv)
      refine bsplit (fun h => ?_) (fun h => ?_)
      · have h : j < min p.length q.length := by
          exact lt_nt h rfl (hmn _ rfl)
        obtain ⟨x, hx⟩ : ∃ x, p[j]? = some x := ⟨_, List.getElem?_eq_getElem (by omega)⟩
        obtain ⟨y, hy⟩ : ∃ y, q[j]? = some y := ⟨_, List.getElem?_eq_getElem (by omega)⟩
        rw [alike_drop hx hy] at hal
        cbv
        refine ⟨j, _, rfl, E.geti hx, ?_⟩
        cbv
        refine ⟨j, _, rfl, E.geti hy, ?_⟩
        cbv
        ((try cbv) <;> (repeat ((with_reducible refine EW.of ?_); cbv)))
        refine bsplit (fun h2 => ?_) (fun h2 => ?_)
        · have h2 : x = y := eq_t h2 rfl rfl
          rw [if_pos h2] at hal
          ((try cbv) <;> (repeat ((with_reducible refine EW.of ?_); cbv)))
          refine LM.of (j + 1) rfl ?_ ?_ ?_
          · rw [hS]; exact ⟨by omega, by omega, by omega⟩
          · rw [hS]; show p.length - (j + 1) < p.length - j; omega
          · rw [hS]; cbv
            refine ⟨E.tree.Pur _, inc_eq A (by omega), ?_⟩
            (repeat (first | exact trivial | refine And.intro (Emb.Pur _ _) ?_ | refine And.intro rfl ?_ | refine And.intro (Pur.mk rfl) ?_ | refine And.intro (Pur.mk (by assumption)) ?_))
        · have h2 : x ≠ y := eq_f h2 rfl rfl
          rw [if_neg h2] at hal
          ((try cbv) <;> (repeat ((with_reducible refine EW.of ?_); cbv)))
          have hj : alike p q = j := by omega
          have h57 := h57 (p.take j) (by simp; omega)
          simp only [commonO, hj, upT] at hr
          generalize atT (.node i k s ks) (p.take j) = o at h57 hr
          simp only [atAV] at h57
          generalize o.getD t0 = u at h57 hr
          generalize o.isSome = ob at h57
          obtain ⟨i2, k2, s2, ks2⟩ := u
          simp only [E.av, E.node] at h57
          cases hr
          (refine TW.drawP (A := A) [(9, [some (.box 4 (.agg [.int .i64 0, .int .i64 0, .str ⟨⟨[]⟩⟩, .nils]))]), (10, [some (.box 4 (.agg [.int .i64 i2, .int .i64 k2, .str s2, .sl 4 (E.tree.l ks2)]))])] (T0_ok hP) (hP ▸ follows_mixed) (by cbv) rfl (by cbv) (by cbv) (by cbv) rfl rfl rfl ?_; cbv)
          refine ⟨j, rfl, j, rfl, rfl, E.int.l (p.take j), (E.int.take p j).symm, Nat.zero_le _, by rw [hlp']; omega, ?_⟩
          cbv
          refine ⟨Ent.of (hP ▸ Try.func57) rfl, ?_⟩
          refine ⟨_, ⟨TPure.adj h57 (by cbv; (repeat (first | exact trivial | refine And.intro (Emb.Pur _ _) ?_ | refine And.intro rfl ?_ | refine And.intro (Pur.mk rfl) ?_ | refine And.intro (Pur.mk (by assumption)) ?_))), by (repeat (first | exact rfl | exact Emb.purL _ _ | assumption | apply pur_cons | apply pur_sl | apply pur_slt | apply pur_agg | apply pur_tup))⟩, ?_⟩
          cbv
          refine ⟨rfl, rfl, ?_⟩
          ((try cbv) <;> (repeat ((with_reducible refine EW.of ?_); cbv)))
      · have h : min p.length q.length ≤ j := by
          exact lt_nf h rfl (hmn _ rfl)
        cbv
        ((try cbv) <;> (repeat ((with_reducible refine EW.of ?_); cbv)))
        have hj : alike p q = j := by rw [hal, alike_stop (by omega)]; omega
        have h57 := h57 (p.take j) (by simp; omega)
        simp only [commonO, hj, upT] at hr
        generalize atT (.node i k s ks) (p.take j) = o at h57 hr
        simp only [atAV] at h57
        generalize o.getD t0 = u at h57 hr
        generalize o.isSome = ob at h57
        obtain ⟨i2, k2, s2, ks2⟩ := u
        simp only [E.av, E.node] at h57
        cases hr
        (refine TW.drawP (A := A) [(9, [some (.box 4 (.agg [.int .i64 0, .int .i64 0, .str ⟨⟨[]⟩⟩, .nils]))]), (10, [some (.box 4 (.agg [.int .i64 i2, .int .i64 k2, .str s2, .sl 4 (E.tree.l ks2)]))])] (T0_ok hP) (hP ▸ follows_mixed) (by cbv) rfl (by cbv) (by cbv) (by cbv) rfl rfl rfl ?_; cbv)
        refine ⟨j, rfl, j, rfl, rfl, E.int.l (p.take j), (E.int.take p j).symm, Nat.zero_le _, by rw [hlp']; omega, ?_⟩
        cbv
        refine ⟨Ent.of (hP ▸ Try.func57) rfl, ?_⟩
        refine ⟨_, ⟨TPure.adj h57 (by cbv; (repeat (first | exact trivial | refine And.intro (Emb.Pur _ _) ?_ | refine And.intro rfl ?_ | refine And.intro (Pur.mk rfl) ?_ | refine And.intro (Pur.mk (by assumption)) ?_))), by (repeat (first | exact rfl | exact Emb.purL _ _ | assumption | apply pur_cons | apply pur_sl | apply pur_slt | apply pur_agg | apply pur_tup))⟩, ?_⟩
        cbv
        refine ⟨rfl, rfl, ?_⟩
        ((try cbv) <;> (repeat ((with_reducible refine EW.of ?_); cbv)))
end Go.Proofs.Ytpjibokaeefhiaa
