import Derived.Test.YtpjibokaeefhiaaNb
import Derived.Test.YtpjibokaeefhiaaMc
/-! ref08.Common, place.At. -/
namespace Go.Proofs.Ytpjibokaeefhiaa
open Go.Proofs.Ytpjibokaeefhiaa.Tw
theorem Common30 (A : Ar) (E : Em) {P : Program} (hP : P = Try.prog) (a b : Int) (n : Nat) (hn : n ≤ 1000000) (t : Tree) (hw : within n t) : TPure P 30 [E.tree.v t, .int .i64 a, .int .i64 b] (.tup [.int .i64 (commonS t a b).1, .bool (commonS t a b).2]) := by
  refine TPure.ofE A T0 (T0_ok hP) (hP ▸ Try.func30) rfl _ rfl (by simp) ?_
  have ha := Path27 A hP a n hn t hw
  have hb := Path27 A hP b n hn t hw
  have h29 := fun p hp => At29 A hP n t hw p hp
  have hl1 := fun p => pathT_len a t n p hw
  have hl2 := fun p => pathT_len b t n p hw
  unfold commonS
  generalize pathT a t = o1 at ha hl1
  generalize pathT b t = o2 at hb hl2
  generalize hr : commonO t o1 o2 = r
  obtain ⟨r1, r2⟩ := r
  simp only [E.av, pathAV, E.ints] at ha hb h29
  generalize ht : t = t1
  rw [ht] at hr
  obtain ⟨i, k, s, ks⟩ := t
  rw [← ht] at hr
  subst ht
  simp only [E.node] at ha hb h29 ⊢
  cbv
  ((try cbv) <;> (repeat ((with_reducible refine EW.of ?_); cbv)))
  (refine ⟨Ent.of (hP ▸ Try.func27) rfl, ?_⟩; refine TC.pureE ha ?_; cbv; (repeat (first | exact trivial | refine And.intro (Emb.Pur _ _) ?_ | refine And.intro rfl ?_ | refine And.intro (Pur.mk rfl) ?_ | refine And.intro (Pur.mk (by assumption)) ?_)); ((try cbv) <;> (repeat ((with_reducible refine EW.of ?_); cbv))))
  (refine ⟨Ent.of (hP ▸ Try.func27) rfl, ?_⟩; refine TC.pureE hb ?_; cbv; (repeat (first | exact trivial | refine And.intro (Emb.Pur _ _) ?_ | refine And.intro rfl ?_ | refine And.intro (Pur.mk rfl) ?_ | refine And.intro (Pur.mk (by assumption)) ?_)); ((try cbv) <;> (repeat ((with_reducible refine EW.of ?_); cbv))))
  clear ha hb
  cases o1 with
  | none =>
    cases hr
    cbv
    ((try cbv) <;> (repeat ((with_reducible refine EW.of ?_); cbv)))
  | some p =>
    cases o2 with
    | none =>
      cases hr
      ((try cbv) <;> (repeat ((with_reducible refine EW.of ?_); cbv)))
    | some q =>
      have hlp := hl1 p rfl
      have hlq := hl2 q rfl
      ((try cbv) <;> (repeat ((with_reducible refine EW.of ?_); cbv)))
      obtain ⟨S, hS⟩ : ∃ S : LI Nat, S = ⟨fun j => [(12, .int .i64 j), (10, .sl 1 (E.int.l q)), (8, .sl 1 (E.int.l p)), (3, .ref 0 4 0 0)], fun _ => [some (.box 4 (.agg [.int .i64 i, .int .i64 k, .str s, .sl 4 (E.tree.l ks)]))], fun j => j ≤ p.length ∧ j ≤ q.length ∧ alike p q = j + alike (p.drop j) (q.drop j), fun j => p.length - j⟩ := ⟨_, rfl⟩
      refine TW.loopM A (T0_ok hP) S 66 rfl 0 ?_ ?_ ?_
      · rw [hS]; exact ⟨by omega, by omega, by simp⟩
      · rw [hS]; cbv; (repeat (first | exact trivial | refine And.intro (Emb.Pur _ _) ?_ | refine And.intro rfl ?_ | refine And.intro (Pur.mk rfl) ?_ | refine And.intro (Pur.mk (by assumption)) ?_))
      intro j hj l1 L1 e1 e2; rw [hS] at hj e1 e2; dsimp only at hj e1 e2; obtain ⟨hjp, hjq, hal⟩ := hj; subst e1 e2
      cbv
      ((try cbv) <;> (repeat ((with_reducible refine EW.of ?_); cbv)))
      have hlp' := E.int.len p
      have hlq' := E.int.len q
      (refine TW.draw (A := A) (T0_ok hP) (hP ▸ follows_mixed) (by kernel_rfl) rfl ?_; cbv)
      refine bsplit (fun h => ?_) (fun h => ?_)
      rotate_left
      · have h : p.length ≤ j := by have : (E.int.l p).length ≤ j := lt_nf h rfl (A.ok_len _); omega
        ((try cbv) <;> (repeat ((with_reducible refine EW.of ?_); cbv)))
        have hj : alike p q = j := by rw [hal, alike_stop (by omega)]; omega
        have h29 := h29 (p.take j) (by simp; omega)
        simp only [commonO, hj, upT] at hr
        generalize atT (.node i k s ks) (p.take j) = o at h29 hr
        simp only [atAV] at h29
        generalize o.getD t0 = u at h29 hr
        generalize o.isSome = ob at h29
        obtain ⟨i2, k2, s2, ks2⟩ := u
        simp only [E.av, E.node] at h29
        cases hr
        (refine TW.drawP (A := A) [(8, [some (.box 4 (.agg [.int .i64 0, .int .i64 0, .str ⟨⟨[]⟩⟩, .nils]))]), (9, [some (.box 4 (.agg [.int .i64 i2, .int .i64 k2, .str s2, .sl 4 (E.tree.l ks2)]))])] (T0_ok hP) (hP ▸ follows_mixed) (by cbv) rfl (by cbv) (by cbv) (by cbv) rfl rfl rfl ?_; cbv)
        refine ⟨j, rfl, E.int.l (p.take j), (E.int.take p j).symm, Nat.zero_le _, by rw [hlp']; omega, ?_⟩
        cbv
        refine ⟨Ent.of (hP ▸ Try.func29) rfl, ?_⟩
        refine ⟨_, ⟨TPure.adj h29 (by cbv; (repeat (first | exact trivial | refine And.intro (Emb.Pur _ _) ?_ | refine And.intro rfl ?_ | refine And.intro (Pur.mk rfl) ?_ | refine And.intro (Pur.mk (by assumption)) ?_))), by (repeat (first | exact rfl | exact Emb.purL _ _ | assumption | apply pur_cons | apply pur_sl | apply pur_slt | apply pur_agg | apply pur_tup))⟩, ?_⟩
        cbv
        refine ⟨rfl, rfl, ?_⟩
        ((try cbv) <;> (repeat ((with_reducible refine EW.of ?_); cbv)))
      have h : j < p.length := by have : j < (E.int.l p).length := lt_nt h rfl (A.ok_len _); omega
      cbv
      refine bsplit (fun h1 => ?_) (fun h1 => ?_)
      · have h1 : j < q.length := by have : j < (E.int.l q).length := lt_nt h1 rfl (A.ok_len _); omega
        obtain ⟨x, hx⟩ : ∃ x, p[j]? = some x := ⟨_, List.getElem?_eq_getElem (by omega)⟩
        obtain ⟨y, hy⟩ : ∃ y, q[j]? = some y := ⟨_, List.getElem?_eq_getElem (by omega)⟩
        rw [alike_drop hx hy] at hal
        cbv
        refine ⟨j, _, rfl, E.geti hx, ?_⟩
        cbv
        refine ⟨j, _, rfl, E.geti hy, ?_⟩
        cbv
        ((try cbv) <;> (repeat ((with_reducible refine EW.of ?_); cbv)))
        refine bsplit (fun h2 => ?_) (fun h2 => ?_)
        · have h2 : x = y := eq_t h2 rfl rfl
          rw [if_pos h2] at hal
          ((try cbv) <;> (repeat ((with_reducible refine EW.of ?_); cbv)))
          refine LM.of (j + 1) rfl ?_ ?_ ?_
          · rw [hS]; exact ⟨by omega, by omega, by omega⟩
          · rw [hS]; show p.length - (j + 1) < p.length - j; omega
          · rw [hS]; cbv
            refine ⟨E.tree.Pur _, inc_eq A (by omega), ?_⟩
            (repeat (first | exact trivial | refine And.intro (Emb.Pur _ _) ?_ | refine And.intro rfl ?_ | refine And.intro (Pur.mk rfl) ?_ | refine And.intro (Pur.mk (by assumption)) ?_))
        · have h2 : x ≠ y := eq_f h2 rfl rfl
          rw [if_neg h2] at hal
          ((try cbv) <;> (repeat ((with_reducible refine EW.of ?_); cbv)))
          have hj : alike p q = j := by omega
          have h29 := h29 (p.take j) (by simp; omega)
          simp only [commonO, hj, upT] at hr
          generalize atT (.node i k s ks) (p.take j) = o at h29 hr
          simp only [atAV] at h29
          generalize o.getD t0 = u at h29 hr
          generalize o.isSome = ob at h29
          obtain ⟨i2, k2, s2, ks2⟩ := u
          simp only [E.av, E.node] at h29
          cases hr
          (refine TW.drawP (A := A) [(8, [some (.box 4 (.agg [.int .i64 0, .int .i64 0, .str ⟨⟨[]⟩⟩, .nils]))]), (9, [some (.box 4 (.agg [.int .i64 i2, .int .i64 k2, .str s2, .sl 4 (E.tree.l ks2)]))])] (T0_ok hP) (hP ▸ follows_mixed) (by cbv) rfl (by cbv) (by cbv) (by cbv) rfl rfl rfl ?_; cbv)
          refine ⟨j, rfl, E.int.l (p.take j), (E.int.take p j).symm, Nat.zero_le _, by rw [hlp']; omega, ?_⟩
          cbv
          refine ⟨Ent.of (hP ▸ Try.func29) rfl, ?_⟩
          refine ⟨_, ⟨TPure.adj h29 (by cbv; (repeat (first | exact trivial | refine And.intro (Emb.Pur _ _) ?_ | refine And.intro rfl ?_ | refine And.intro (Pur.mk rfl) ?_ | refine And.intro (Pur.mk (by assumption)) ?_))), by (repeat (first | exact rfl | exact Emb.purL _ _ | assumption | apply pur_cons | apply pur_sl | apply pur_slt | apply pur_agg | apply pur_tup))⟩, ?_⟩
          cbv
          refine ⟨rfl, rfl, ?_⟩
          ((try cbv) <;> (repeat ((with_reducible refine EW.of ?_); cbv)))
      · have h1 : q.length ≤ j := by have : (E.int.l q).length ≤ j := lt_nf h1 rfl (A.ok_len _); omega
        ((try cbv) <;> (repeat ((with_reducible refine EW.of ?_); cbv)))
        have hj : alike p q = j := by rw [hal, alike_stop (by omega)]; omega
        have h29 := h29 (p.take j) (by simp; omega)
        simp only [commonO, hj, upT] at hr
        generalize atT (.node i k s ks) (p.take j) = o at h29 hr
        simp only [atAV] at h29
        generalize o.getD t0 = u at h29 hr
        generalize o.isSome = ob at h29
        obtain ⟨i2, k2, s2, ks2⟩ := u
        simp only [E.av, E.node] at h29
        cases hr
        (refine TW.drawP (A := A) [(8, [some (.box 4 (.agg [.int .i64 0, .int .i64 0, .str ⟨⟨[]⟩⟩, .nils]))]), (9, [some (.box 4 (.agg [.int .i64 i2, .int .i64 k2, .str s2, .sl 4 (E.tree.l ks2)]))])] (T0_ok hP) (hP ▸ follows_mixed) (by cbv) rfl (by cbv) (by cbv) (by cbv) rfl rfl rfl ?_; cbv)
        refine ⟨j, rfl, E.int.l (p.take j), (E.int.take p j).symm, Nat.zero_le _, by rw [hlp']; omega, ?_⟩
        cbv
        refine ⟨Ent.of (hP ▸ Try.func29) rfl, ?_⟩
        refine ⟨_, ⟨TPure.adj h29 (by cbv; (repeat (first | exact trivial | refine And.intro (Emb.Pur _ _) ?_ | refine And.intro rfl ?_ | refine And.intro (Pur.mk rfl) ?_ | refine And.intro (Pur.mk (by assumption)) ?_))), by (repeat (first | exact rfl | exact Emb.purL _ _ | assumption | apply pur_cons | apply pur_sl | apply pur_slt | apply pur_agg | apply pur_tup))⟩, ?_⟩
        cbv
        refine ⟨rfl, rfl, ?_⟩
        ((try cbv) <;> (repeat ((with_reducible refine EW.of ?_); cbv)))
theorem atT_within : ∀ (p : List Int) {n : Nat} {t u : Tree}, within n t → atT t p = some u → within n u
  | [], n, t, u, hw, h => by simp only [atT] at h; cases h; exact hw
  | j :: p, 0, t, u, hw, h => hw.elim
  | j :: p, n + 1, .node i k s ks, u, hw, h => by
    simp only [atT] at h
    split at h
    · cases h
    split at h
    · rename_i k' hk
      exact within_mono (Nat.le_succ n) (atT_within p (hw.2 k' (List.mem_of_getElem? hk)) h)
    · cases h
theorem At28 (A : Ar) (E : Em) {P : Program} (hP : P = Try.prog) (n : Nat) (t : Tree) (hw : within n t) (p : List Int) (hp : p.length < 9223372036854775807) : TPure P 28 [E.tree.v t, .sl 1 (E.int.l p)] (.tup [E.tree.v ((atT t p).getD t0), .bool (atT t p).isSome]) := by
  refine TPure.ofE A T0 (T0_ok hP) (hP ▸ Try.func28) rfl _ rfl (by simp) ?_
  have h57 := at57 A hP n t hw p hp
  have hat : within (n + 1) ((atT t p).getD t0) := by
    cases h : atT t p with
    | none => exact ⟨by simp, fun t ht => by cases ht⟩
    | some u => exact within_mono (Nat.le_succ n) (atT_within p hw h)
  have h63 := copy63 A E hP (n + 1) _ hat
  simp only [E.av, E.ints, atAV] at h57
  generalize (atT t p).getD t0 = u at h57 h63
  generalize (atT t p).isSome = ob at h57
  obtain ⟨i, k, s, ks⟩ := t
  obtain ⟨i2, k2, s2, ks2⟩ := u
  simp only [E.node] at h57 h63 ⊢
  cbv
  ((try cbv) <;> (repeat ((with_reducible refine EW.of ?_); cbv)))
  (refine ⟨Ent.of (hP ▸ Try.func57) rfl, ?_⟩; refine TC.pureE h57 ?_; cbv; (repeat (first | exact trivial | refine And.intro (Emb.Pur _ _) ?_ | refine And.intro rfl ?_ | refine And.intro (Pur.mk rfl) ?_ | refine And.intro (Pur.mk (by assumption)) ?_)); ((try cbv) <;> (repeat ((with_reducible refine EW.of ?_); cbv))))
  (refine ⟨Ent.of (hP ▸ Try.func63) rfl, ?_⟩; refine TC.pureE h63 ?_; cbv; (repeat (first | exact trivial | refine And.intro (Emb.Pur _ _) ?_ | refine And.intro rfl ?_ | refine And.intro (Pur.mk rfl) ?_ | refine And.intro (Pur.mk (by assumption)) ?_)); ((try cbv) <;> (repeat ((with_reducible refine EW.of ?_); cbv))))
  (repeat (first | exact trivial | refine And.intro (Emb.Pur _ _) ?_ | refine And.intro rfl ?_ | refine And.intro (Pur.mk rfl) ?_ | refine And.intro (Pur.mk (by assumption)) ?_))
end Go.Proofs.Ytpjibokaeefhiaa
