import Derived.Test.YtpjibokaeefhiaaOg
import Derived.Test.YtpjibokaeefhiaaLm
/-! Rows compared. -/
namespace Go.Proofs.Ytpjibokaeefhiaa
open Go.Proofs.Ytpjibokaeefhiaa.Tw
theorem leases38 (A : Ar) (F : EmL) {P : Program} (hP : P = Try.prog) (a b : List Lease) (ha : a.length ≤ 1000000) : TPure P 38 [.sl 5 (F.l.l a), .sl 5 (F.l.l b)] (.bool (decide (a = b))) := by
  refine TPure.ofE A T0 (T0_ok hP) (hP ▸ Try.func38) rfl _ rfl (by simp) ?_
  have hla := F.l.len a
  have hlb := F.l.len b
  obtain ⟨r, hr⟩ : ∃ r, r = decide (a = b) := ⟨_, rfl⟩
  rw [← hr]
  cbv
  ((try cbv) <;> (repeat ((with_reducible refine EW.of ?_); cbv)))
  refine bsplit (fun h => ?_) (fun h => ?_)
  · have h := ne_t h (A.ok_len _) (A.ok_len _)
    have hne : r = false := by rw [hr]; exact decide_eq_false fun e => h (by rw [e])
    subst hne
    ((try cbv) <;> (repeat ((with_reducible refine EW.of ?_); cbv)))
  · have hab : a.length = b.length := by
      rw [← hla, ← hlb]
      exact Int.ofNat.inj (ne_f h (A.ok_len _) (A.ok_len _))
    ((try cbv) <;> (repeat ((with_reducible refine EW.of ?_); cbv)))
    obtain ⟨S, hS⟩ : ∃ S : LI Nat, S = ⟨fun j => [(5, .int .i64 j), (0, .sl 5 (F.l.l a)), (1, .sl 5 (F.l.l b))], fun _ => [], fun j => j ≤ a.length ∧ a.take j = b.take j, fun j => a.length - j⟩ := ⟨_, rfl⟩
    refine TW.loopM A (T0_ok hP) S _ rfl 0 ?_ ?_ ?_
    · rw [hS]; exact ⟨Nat.zero_le _, rfl⟩
    · rw [hS]; cbv; (repeat (first | exact trivial | refine And.intro (Emb.Pur _ _) ?_ | refine And.intro rfl ?_ | refine And.intro (Pur.mk rfl) ?_ | refine And.intro (Pur.mk (by assumption)) ?_))
    intro j hj l1 L1 e1 e2; rw [hS] at hj e1 e2; dsimp only at hj e1 e2; obtain ⟨hj, ht⟩ := hj; subst e1 e2
    cbv
    ((try cbv) <;> (repeat ((with_reducible refine EW.of ?_); cbv)))
    refine bsplit (fun h => ?_) (fun h => ?_)
    · have h : j < (F.l.l a).length := lt_nt h rfl (A.ok_len _)
      obtain ⟨x, hx⟩ : ∃ x, a[j]? = some x := ⟨_, List.getElem?_eq_getElem (by omega)⟩
      obtain ⟨y, hy⟩ : ∃ y, b[j]? = some y := ⟨_, List.getElem?_eq_getElem (by omega)⟩
      have htk : a.take (j + 1) = b.take (j + 1) ↔ x = y := by
        rw [List.take_add_one, List.take_add_one, hx, hy, ht]
        simp
      obtain ⟨x1, x2, x3, x4, x5⟩ := x
      obtain ⟨y1, y2, y3, y4, y5⟩ := y
      ((try cbv) <;> (repeat ((with_reducible refine EW.of ?_); cbv)))
      (refine TW.draw (A := A) (T0_ok hP) (hP ▸ follows_mixed) (by kernel_rfl) rfl ?_; cbv)
      refine ⟨j, _, rfl, F.get hx, ?_⟩
      cbv
      refine ⟨j, _, rfl, F.get hy, ?_⟩
      cbv
      have hval : A.bnot (A.bsel (A.eq x1 y1) (A.bsel (A.eq x2 y2) (A.bsel (A.eq x3 y3) (A.bsel (A.eq x4 y4) (A.bsel (A.eq x5 y5) true false) false) false) false) false) = !decide ((⟨x1, x2, x3, x4, x5⟩ : Lease) = ⟨y1, y2, y3, y4, y5⟩) := by
        simp only [A.ok_bnot, A.ok_bsel, A.ok_eq, Lease.mk.injEq]
        by_cases h1 : x1 = y1 <;> by_cases h2 : x2 = y2 <;> by_cases h3 : x3 = y3 <;> by_cases h4 : x4 = y4 <;> by_cases h5 : x5 = y5 <;> simp [h1, h2, h3, h4, h5]
      ((try cbv) <;> (repeat ((with_reducible refine EW.of ?_); cbv)))
      refine bsplit (fun h2 => ?_) (fun h2 => ?_)
      · have h3 := hval.symm.trans h2
        have hne : r = false := by
          rw [hr]
          refine decide_eq_false fun e => ?_
          have := htk.1 (by rw [e])
          rw [decide_eq_true this] at h3
          cases h3
        subst hne
        ((try cbv) <;> (repeat ((with_reducible refine EW.of ?_); cbv)))
      · have h3 := hval.symm.trans h2
        have he : (⟨x1, x2, x3, x4, x5⟩ : Lease) = ⟨y1, y2, y3, y4, y5⟩ := by
          refine Decidable.byContradiction fun e => ?_
          rw [decide_eq_false e] at h3
          cases h3
        ((try cbv) <;> (repeat ((with_reducible refine EW.of ?_); cbv)))
        refine LM.of (j + 1) rfl ?_ ?_ ?_
        · rw [hS]; exact ⟨by show j + 1 ≤ _; omega, htk.2 he⟩
        · rw [hS]; show a.length - (j + 1) < a.length - j; omega
        · rw [hS]; (cbv; (repeat (first | exact trivial | refine And.intro (Emb.Pur _ _) ?_ | refine And.intro rfl ?_ | refine And.intro (Pur.mk rfl) ?_ | refine And.intro (Pur.mk (by assumption)) ?_)); refine And.intro (inc_eq A (by omega)) ?_; (repeat (first | exact trivial | refine And.intro (Emb.Pur _ _) ?_ | refine And.intro rfl ?_ | refine And.intro (Pur.mk rfl) ?_ | refine And.intro (Pur.mk (by assumption)) ?_)))
    · have h : (F.l.l a).length ≤ j := lt_nf h rfl (A.ok_len _)
      rw [List.take_of_length_le (by omega), List.take_of_length_le (by omega)] at ht
      have ht : r = true := by rw [hr]; exact decide_eq_true ht
      subst ht
      ((try cbv) <;> (repeat ((with_reducible refine EW.of ?_); cbv)))
theorem ints41 (A : Ar) (E : Em) {P : Program} (hP : P = Try.prog) (a b : List Int) (ha : a.length ≤ 1000000) : TPure P 41 [.sl 1 (E.int.l a), .sl 1 (E.int.l b)] (.bool (decide (a = b))) := by
  refine TPure.ofE A T0 (T0_ok hP) (hP ▸ Try.func41) rfl _ rfl (by simp) ?_
  have hla := E.int.len a
  have hlb := E.int.len b
  obtain ⟨r, hr⟩ : ∃ r, r = decide (a = b) := ⟨_, rfl⟩
  rw [← hr]
  cbv
  ((try cbv) <;> (repeat ((with_reducible refine EW.of ?_); cbv)))
  refine bsplit (fun h => ?_) (fun h => ?_)
  · have h := ne_t h (A.ok_len _) (A.ok_len _)
    have hne : r = false := by rw [hr]; exact decide_eq_false fun e => h (by rw [e])
    subst hne
    ((try cbv) <;> (repeat ((with_reducible refine EW.of ?_); cbv)))
  · have hab : a.length = b.length := by
      rw [← hla, ← hlb]
      exact Int.ofNat.inj (ne_f h (A.ok_len _) (A.ok_len _))
    ((try cbv) <;> (repeat ((with_reducible refine EW.of ?_); cbv)))
    obtain ⟨S, hS⟩ : ∃ S : LI Nat, S = ⟨fun j => [(5, .int .i64 j), (0, .sl 1 (E.int.l a)), (1, .sl 1 (E.int.l b))], fun _ => [], fun j => j ≤ a.length ∧ a.take j = b.take j, fun j => a.length - j⟩ := ⟨_, rfl⟩
    refine TW.loopM A (T0_ok hP) S _ rfl 0 ?_ ?_ ?_
    · rw [hS]; exact ⟨Nat.zero_le _, rfl⟩
    · rw [hS]; cbv; (repeat (first | exact trivial | refine And.intro (Emb.Pur _ _) ?_ | refine And.intro rfl ?_ | refine And.intro (Pur.mk rfl) ?_ | refine And.intro (Pur.mk (by assumption)) ?_))
    intro j hj l1 L1 e1 e2; rw [hS] at hj e1 e2; dsimp only at hj e1 e2; obtain ⟨hj, ht⟩ := hj; subst e1 e2
    cbv
    ((try cbv) <;> (repeat ((with_reducible refine EW.of ?_); cbv)))
    refine bsplit (fun h => ?_) (fun h => ?_)
    · have h : j < (E.int.l a).length := lt_nt h rfl (A.ok_len _)
      obtain ⟨x, hx⟩ : ∃ x, a[j]? = some x := ⟨_, List.getElem?_eq_getElem (by omega)⟩
      obtain ⟨y, hy⟩ : ∃ y, b[j]? = some y := ⟨_, List.getElem?_eq_getElem (by omega)⟩
      have htk : a.take (j + 1) = b.take (j + 1) ↔ x = y := by
        rw [List.take_add_one, List.take_add_one, hx, hy, ht]
        simp
      ((try cbv) <;> (repeat ((with_reducible refine EW.of ?_); cbv)))
      (refine TW.draw (A := A) (T0_ok hP) (hP ▸ follows_mixed) (by kernel_rfl) rfl ?_; cbv)
      refine ⟨j, _, rfl, E.geti hx, ?_⟩
      cbv
      refine ⟨j, _, rfl, E.geti hy, ?_⟩
      cbv
      ((try cbv) <;> (repeat ((with_reducible refine EW.of ?_); cbv)))
      refine bsplit (fun h2 => ?_) (fun h2 => ?_)
      · have h2 : x ≠ y := ne_t h2 rfl rfl
        have hne : r = false := by
          rw [hr]
          exact decide_eq_false fun e => h2 (htk.1 (by rw [e]))
        subst hne
        ((try cbv) <;> (repeat ((with_reducible refine EW.of ?_); cbv)))
      · have he : x = y := ne_f h2 rfl rfl
        ((try cbv) <;> (repeat ((with_reducible refine EW.of ?_); cbv)))
        refine LM.of (j + 1) rfl ?_ ?_ ?_
        · rw [hS]; exact ⟨by show j + 1 ≤ _; omega, htk.2 he⟩
        · rw [hS]; show a.length - (j + 1) < a.length - j; omega
        · rw [hS]; (cbv; (repeat (first | exact trivial | refine And.intro (Emb.Pur _ _) ?_ | refine And.intro rfl ?_ | refine And.intro (Pur.mk rfl) ?_ | refine And.intro (Pur.mk (by assumption)) ?_)); refine And.intro (inc_eq A (by omega)) ?_; (repeat (first | exact trivial | refine And.intro (Emb.Pur _ _) ?_ | refine And.intro rfl ?_ | refine And.intro (Pur.mk rfl) ?_ | refine And.intro (Pur.mk (by assumption)) ?_)))
    · have h : (E.int.l a).length ≤ j := lt_nf h rfl (A.ok_len _)
      rw [List.take_of_length_le (by omega), List.take_of_length_le (by omega)] at ht
      have ht : r = true := by rw [hr]; exact decide_eq_true ht
      subst ht
      ((try cbv) <;> (repeat ((with_reducible refine EW.of ?_); cbv)))
theorem one46 (A : Ar) {P : Program} (hP : P = Try.prog) (id root : Int) : TPure P 46 [.int .i64 id, .int .i64 root] (.agg [.int .i64 id, .int .i64 root, .int .i64 1, .int .i64 id, .int .i64 id]) := by
  refine TPure.ofE A T0 (T0_ok hP) (hP ▸ Try.func46) rfl _ rfl (by simp) ?_
  cbv
  ((try cbv) <;> (repeat ((with_reducible refine EW.of ?_); cbv)))
def some16 : Tree := .node 1 0 ⟨#[]⟩ [.node 2 0 ⟨#[]⟩ [leaf 3], leaf 4]
theorem some65 (A : Ar) {P : Program} (hP : P = Try.prog) : TPure P 65 [] some16.av := by
  refine TPure.of (TC.of_ewp A T0 (T0_ok hP) (hP ▸ Try.func65) rfl _ rfl (by simp) ?_)
  cbv
  ((try cbv) <;> (repeat ((with_reducible refine EW.of ?_); cbv)))
  refine ⟨_, _, VSV.trans (VSV.sub (v' := some16.av) ?_) (VSV.pure (some16.av_pur)), rfl, rfl⟩
  exact (NSub.mk _ _ _ (Sub.kids (.cons (.mk _ _ _ (Sub.kids (.cons (.mk _ _ _ (Sub.nils 4)) .nil))) (.cons (.mk _ _ _ (Sub.nils 4)) .nil)))).sub
end Go.Proofs.Ytpjibokaeefhiaa
