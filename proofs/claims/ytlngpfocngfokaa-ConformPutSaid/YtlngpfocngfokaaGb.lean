import Derived.Test.YtlngpfocngfokaaGa
/-! Slots that may be. -/
namespace Go.Proofs.Ytlngpfocngfokaa
open Go.Proofs.Ytlngpfocngfokaa.Tw
/-- Kinds that there are, rising, above a last one. -/
def risF (n : Int) : Int → List Int → Bool
  | _, [] => true
  | last, k :: ks => decide (last < k) && (decide (k < n) && risF n k ks)
def risB (n : Int) (l : List Int) : Bool := decide (1 ≤ l.length) && (decide (l.length ≤ 32) && risF n (-1) l)
def slotB (n : Int) (s : Slo) : Bool := risB n s.kinds && (decide (0 ≤ s.least) && (decide (s.least ≤ s.most) && decide (s.most ≤ 1000)))
theorem risF_drop {n last : Int} {l : List Int} {j : Nat} {x : Int} (h : l[j]? = some x) : risF n last (l.drop j) = (decide (last < x) && (decide (x < n) && risF n x (l.drop (j + 1)))) := by
  rw [List.drop_eq_getElem?_toList_append, h]
  rfl
set_option maxHeartbeats 1000000 in
theorem slot41 (A : Ar) (E : Em) (G : EmG) {P : Program} (hP : P = Try.prog) (s : Slo) (hs : s.kinds.length ≤ 9223372036854775807) (n : Int) : TPure P 41 [.imm [.sl 1 (E.int.l s.kinds), .int .i64 s.least, .int .i64 s.most], .int .i64 n] (.bool (slotB n s)) := by
  obtain ⟨ks, least, most⟩ := s
  dsimp only at hs ⊢
  have hll := E.int.len ks
  have hlk : A.len (E.int.l ks) = (ks.length : Int) := by rw [A.ok_len, hll]
  obtain ⟨r, hr⟩ : ∃ r, r = slotB n ⟨ks, least, most⟩ := ⟨_, rfl⟩
  rw [← hr]
  unfold slotB risB at hr
  dsimp only at hr
  refine TPure.ofE A T0 (T0_ok hP) (hP ▸ Try.func41) rfl _ rfl (by simp) ?_
  cbv
  ((try cbv) <;> (repeat ((with_reducible refine EW.of ?_); cbv)))
  (refine TW.draw (A := A) (T0_ok hP) (hP ▸ follows_mixed) (by kernel_rfl) rfl ?_; cbv)
  refine bsplit (fun h => ?_) (fun h => ?_)
  · have h : ks.length < 1 := (by first | exact lt_t h (by first | rfl | assumption) (by first | rfl | assumption) | exact le_t h (by first | rfl | assumption) (by first | rfl | assumption) | exact eq_t h (by first | rfl | assumption) (by first | rfl | assumption) | exact ne_t h (by first | rfl | assumption) (by first | rfl | assumption) | exact lt_nt h (by first | rfl | assumption) (by first | rfl | assumption) | exact le_nt h (by first | rfl | assumption) (by first | rfl | assumption) | exact ne_nt h (by first | rfl | assumption) (by first | rfl | assumption) | exact seq_t h | exact (sne_t h))
    replace hr : r = false := by rw [Bool.eq_false_iff]; intro hc; rw [hr] at hc; simp only [Bool.and_eq_true, decide_eq_true_eq] at hc; omega
    subst hr
    cbv
    ((try cbv) <;> (repeat ((with_reducible refine EW.of ?_); cbv)))
  have h : ¬ (ks.length < 1) := (by first | exact not_lt_f h (by first | rfl | assumption) (by first | rfl | assumption) | exact not_le_f h (by first | rfl | assumption) (by first | rfl | assumption) | exact eq_f h (by first | rfl | assumption) (by first | rfl | assumption) | exact not_ne_f h (by first | rfl | assumption) (by first | rfl | assumption) | exact not_lt_nf h (by first | rfl | assumption) (by first | rfl | assumption) | exact not_le_nf h (by first | rfl | assumption) (by first | rfl | assumption) | exact not_ne_nf h (by first | rfl | assumption) (by first | rfl | assumption))
  ((try cbv) <;> (repeat ((with_reducible refine EW.of ?_); cbv)))
  have g1 := h
  refine bsplit (fun h => ?_) (fun h => ?_)
  · have h : 32 < ks.length := (by first | exact lt_t h (by first | rfl | assumption) (by first | rfl | assumption) | exact le_t h (by first | rfl | assumption) (by first | rfl | assumption) | exact eq_t h (by first | rfl | assumption) (by first | rfl | assumption) | exact ne_t h (by first | rfl | assumption) (by first | rfl | assumption) | exact lt_nt h (by first | rfl | assumption) (by first | rfl | assumption) | exact le_nt h (by first | rfl | assumption) (by first | rfl | assumption) | exact ne_nt h (by first | rfl | assumption) (by first | rfl | assumption) | exact seq_t h | exact (sne_t h))
    replace hr : r = false := by rw [Bool.eq_false_iff]; intro hc; rw [hr] at hc; simp only [Bool.and_eq_true, decide_eq_true_eq] at hc; omega
    subst hr
    cbv
    ((try cbv) <;> (repeat ((with_reducible refine EW.of ?_); cbv)))
  have h : ¬ (32 < ks.length) := (by first | exact not_lt_f h (by first | rfl | assumption) (by first | rfl | assumption) | exact not_le_f h (by first | rfl | assumption) (by first | rfl | assumption) | exact eq_f h (by first | rfl | assumption) (by first | rfl | assumption) | exact not_ne_f h (by first | rfl | assumption) (by first | rfl | assumption) | exact not_lt_nf h (by first | rfl | assumption) (by first | rfl | assumption) | exact not_le_nf h (by first | rfl | assumption) (by first | rfl | assumption) | exact not_ne_nf h (by first | rfl | assumption) (by first | rfl | assumption))
  ((try cbv) <;> (repeat ((with_reducible refine EW.of ?_); cbv)))
  have g2 := h
  refine bsplit (fun h => ?_) (fun h => ?_)
  · have h : least < 0 := (by first | exact lt_t h (by first | rfl | assumption) (by first | rfl | assumption) | exact le_t h (by first | rfl | assumption) (by first | rfl | assumption) | exact eq_t h (by first | rfl | assumption) (by first | rfl | assumption) | exact ne_t h (by first | rfl | assumption) (by first | rfl | assumption) | exact lt_nt h (by first | rfl | assumption) (by first | rfl | assumption) | exact le_nt h (by first | rfl | assumption) (by first | rfl | assumption) | exact ne_nt h (by first | rfl | assumption) (by first | rfl | assumption) | exact seq_t h | exact (sne_t h))
    replace hr : r = false := by rw [Bool.eq_false_iff]; intro hc; rw [hr] at hc; simp only [Bool.and_eq_true, decide_eq_true_eq] at hc; omega
    subst hr
    cbv
    ((try cbv) <;> (repeat ((with_reducible refine EW.of ?_); cbv)))
  have h : ¬ (least < 0) := (by first | exact not_lt_f h (by first | rfl | assumption) (by first | rfl | assumption) | exact not_le_f h (by first | rfl | assumption) (by first | rfl | assumption) | exact eq_f h (by first | rfl | assumption) (by first | rfl | assumption) | exact not_ne_f h (by first | rfl | assumption) (by first | rfl | assumption) | exact not_lt_nf h (by first | rfl | assumption) (by first | rfl | assumption) | exact not_le_nf h (by first | rfl | assumption) (by first | rfl | assumption) | exact not_ne_nf h (by first | rfl | assumption) (by first | rfl | assumption))
  ((try cbv) <;> (repeat ((with_reducible refine EW.of ?_); cbv)))
  have g3 := h
  refine bsplit (fun h => ?_) (fun h => ?_)
  · have h : most < least := (by first | exact lt_t h (by first | rfl | assumption) (by first | rfl | assumption) | exact le_t h (by first | rfl | assumption) (by first | rfl | assumption) | exact eq_t h (by first | rfl | assumption) (by first | rfl | assumption) | exact ne_t h (by first | rfl | assumption) (by first | rfl | assumption) | exact lt_nt h (by first | rfl | assumption) (by first | rfl | assumption) | exact le_nt h (by first | rfl | assumption) (by first | rfl | assumption) | exact ne_nt h (by first | rfl | assumption) (by first | rfl | assumption) | exact seq_t h | exact (sne_t h))
    replace hr : r = false := by rw [Bool.eq_false_iff]; intro hc; rw [hr] at hc; simp only [Bool.and_eq_true, decide_eq_true_eq] at hc; omega
    subst hr
    cbv
    ((try cbv) <;> (repeat ((with_reducible refine EW.of ?_); cbv)))
  have h : ¬ (most < least) := (by first | exact not_lt_f h (by first | rfl | assumption) (by first | rfl | assumption) | exact not_le_f h (by first | rfl | assumption) (by first | rfl | assumption) | exact eq_f h (by first | rfl | assumption) (by first | rfl | assumption) | exact not_ne_f h (by first | rfl | assumption) (by first | rfl | assumption) | exact not_lt_nf h (by first | rfl | assumption) (by first | rfl | assumption) | exact not_le_nf h (by first | rfl | assumption) (by first | rfl | assumption) | exact not_ne_nf h (by first | rfl | assumption) (by first | rfl | assumption))
  ((try cbv) <;> (repeat ((with_reducible refine EW.of ?_); cbv)))
  have g4 := h
  refine bsplit (fun h => ?_) (fun h => ?_)
  · have h : 1000 < most := (by first | exact lt_t h (by first | rfl | assumption) (by first | rfl | assumption) | exact le_t h (by first | rfl | assumption) (by first | rfl | assumption) | exact eq_t h (by first | rfl | assumption) (by first | rfl | assumption) | exact ne_t h (by first | rfl | assumption) (by first | rfl | assumption) | exact lt_nt h (by first | rfl | assumption) (by first | rfl | assumption) | exact le_nt h (by first | rfl | assumption) (by first | rfl | assumption) | exact ne_nt h (by first | rfl | assumption) (by first | rfl | assumption) | exact seq_t h | exact (sne_t h))
    replace hr : r = false := by rw [Bool.eq_false_iff]; intro hc; rw [hr] at hc; simp only [Bool.and_eq_true, decide_eq_true_eq] at hc; omega
    subst hr
    cbv
    ((try cbv) <;> (repeat ((with_reducible refine EW.of ?_); cbv)))
  have h : ¬ (1000 < most) := (by first | exact not_lt_f h (by first | rfl | assumption) (by first | rfl | assumption) | exact not_le_f h (by first | rfl | assumption) (by first | rfl | assumption) | exact eq_f h (by first | rfl | assumption) (by first | rfl | assumption) | exact not_ne_f h (by first | rfl | assumption) (by first | rfl | assumption) | exact not_lt_nf h (by first | rfl | assumption) (by first | rfl | assumption) | exact not_le_nf h (by first | rfl | assumption) (by first | rfl | assumption) | exact not_ne_nf h (by first | rfl | assumption) (by first | rfl | assumption))
  ((try cbv) <;> (repeat ((with_reducible refine EW.of ?_); cbv)))
  replace hr : r = risF n (-1) ks := by
    have e1 : 1 ≤ ks.length := by omega
    have e2 : ks.length ≤ 32 := by omega
    have e3 : 0 ≤ least := by omega
    have e4 : least ≤ most := by omega
    have e5 : most ≤ 1000 := by omega
    rw [hr]
    simp only [e1, e2, e3, e4, e5, decide_true, Bool.true_and, Bool.and_true]
  have hl32 : ks.length ≤ 32 := by omega
  obtain ⟨S, hS⟩ : ∃ S : LI (Nat × Int), S = ⟨fun x => [(52, .int .i64 x.1), (51, .int .i64 (A.len (E.int.l ks))), (50, .sl 1 (E.int.l ks)), (5, .int .i64 x.2), (4, .bool false), (1, .int .i64 n)], fun _ => [], fun x => x.1 ≤ ks.length ∧ r = risF n x.2 (ks.drop x.1), fun x => ks.length - x.1⟩ := ⟨_, rfl⟩
  refine TW.loopM A (T0_ok hP) S _ rfl (0, -1) ?_ ?_ ?_
  · rw [hS]; exact ⟨Nat.zero_le _, hr⟩
  · rw [hS]; cbv; (repeat (first | exact trivial | refine And.intro (Emb.Pur _ _) ?_ | refine And.intro rfl ?_ | refine And.intro (Pur.mk rfl) ?_ | refine And.intro (Pur.mk (by assumption)) ?_))
  rintro ⟨j, last⟩ hj l1 L1 e1 e2
  rw [hS] at hj e1 e2
  dsimp only at hj e1 e2
  obtain ⟨hj, hinv⟩ := hj
  subst e1 e2
  cbv
  ((try cbv) <;> (repeat ((with_reducible refine EW.of ?_); cbv)))
  refine bsplit (fun h => ?_) (fun h => ?_)
  · have h : j < ks.length := lt_nt h rfl hlk
    obtain ⟨x, hx⟩ : ∃ x, ks[j]? = some x := ⟨_, List.getElem?_eq_getElem h⟩
    rw [risF_drop hx] at hinv
    ((try cbv) <;> (repeat ((with_reducible refine EW.of ?_); cbv)))
    (refine ⟨_, _, rfl, (E.geti hx), ?_⟩; cbv; ((try cbv) <;> (repeat ((with_reducible refine EW.of ?_); cbv))))
    refine bsplit (fun h => ?_) (fun h => ?_)
    · have h : x ≤ last := (by first | exact lt_t h (by first | rfl | assumption) (by first | rfl | assumption) | exact le_t h (by first | rfl | assumption) (by first | rfl | assumption) | exact eq_t h (by first | rfl | assumption) (by first | rfl | assumption) | exact ne_t h (by first | rfl | assumption) (by first | rfl | assumption) | exact lt_nt h (by first | rfl | assumption) (by first | rfl | assumption) | exact le_nt h (by first | rfl | assumption) (by first | rfl | assumption) | exact ne_nt h (by first | rfl | assumption) (by first | rfl | assumption) | exact seq_t h | exact (sne_t h))
      replace hinv : r = false := by rw [Bool.eq_false_iff]; intro hc; rw [hinv] at hc; simp only [Bool.and_eq_true, decide_eq_true_eq] at hc; omega
      subst hinv
      cbv
      ((try cbv) <;> (repeat ((with_reducible refine EW.of ?_); cbv)))
    have h : ¬ (x ≤ last) := (by first | exact not_lt_f h (by first | rfl | assumption) (by first | rfl | assumption) | exact not_le_f h (by first | rfl | assumption) (by first | rfl | assumption) | exact eq_f h (by first | rfl | assumption) (by first | rfl | assumption) | exact not_ne_f h (by first | rfl | assumption) (by first | rfl | assumption) | exact not_lt_nf h (by first | rfl | assumption) (by first | rfl | assumption) | exact not_le_nf h (by first | rfl | assumption) (by first | rfl | assumption) | exact not_ne_nf h (by first | rfl | assumption) (by first | rfl | assumption))
    ((try cbv) <;> (repeat ((with_reducible refine EW.of ?_); cbv)))
    have g5 := h
    refine bsplit (fun h => ?_) (fun h => ?_)
    · have h : n ≤ x := (by first | exact lt_t h (by first | rfl | assumption) (by first | rfl | assumption) | exact le_t h (by first | rfl | assumption) (by first | rfl | assumption) | exact eq_t h (by first | rfl | assumption) (by first | rfl | assumption) | exact ne_t h (by first | rfl | assumption) (by first | rfl | assumption) | exact lt_nt h (by first | rfl | assumption) (by first | rfl | assumption) | exact le_nt h (by first | rfl | assumption) (by first | rfl | assumption) | exact ne_nt h (by first | rfl | assumption) (by first | rfl | assumption) | exact seq_t h | exact (sne_t h))
      replace hinv : r = false := by rw [Bool.eq_false_iff]; intro hc; rw [hinv] at hc; simp only [Bool.and_eq_true, decide_eq_true_eq] at hc; omega
      subst hinv
      cbv
      ((try cbv) <;> (repeat ((with_reducible refine EW.of ?_); cbv)))
    have h : ¬ (n ≤ x) := (by first | exact not_lt_f h (by first | rfl | assumption) (by first | rfl | assumption) | exact not_le_f h (by first | rfl | assumption) (by first | rfl | assumption) | exact eq_f h (by first | rfl | assumption) (by first | rfl | assumption) | exact not_ne_f h (by first | rfl | assumption) (by first | rfl | assumption) | exact not_lt_nf h (by first | rfl | assumption) (by first | rfl | assumption) | exact not_le_nf h (by first | rfl | assumption) (by first | rfl | assumption) | exact not_ne_nf h (by first | rfl | assumption) (by first | rfl | assumption))
    ((try cbv) <;> (repeat ((with_reducible refine EW.of ?_); cbv)))
    replace hinv : r = risF n x (ks.drop (j + 1)) := by
      have e1 : last < x := by omega
      have e2 : x < n := by omega
      rw [hinv]
      simp only [e1, e2, decide_true, Bool.true_and]
    refine LM.of (j + 1, x) rfl ?_ ?_ ?_
    · rw [hS]; exact ⟨by show j + 1 ≤ _; omega, hinv⟩
    · rw [hS]; show ks.length - (j + 1) < ks.length - j; omega
    · rw [hS]; (cbv; (repeat (first | exact trivial | refine And.intro (Emb.Pur _ _) ?_ | refine And.intro rfl ?_ | refine And.intro (Pur.mk rfl) ?_ | refine And.intro (Pur.mk (by assumption)) ?_)); refine And.intro (inc_eq A (by omega)) ?_; (repeat (first | exact trivial | refine And.intro (Emb.Pur _ _) ?_ | refine And.intro rfl ?_ | refine And.intro (Pur.mk rfl) ?_ | refine And.intro (Pur.mk (by assumption)) ?_)))
  · have h : ks.length ≤ j := lt_nf h rfl hlk
    rw [List.drop_eq_nil_of_le h] at hinv
    replace hinv : r = true := hinv
    subst hinv
    ((try cbv) <;> (repeat ((with_reducible refine EW.of ?_); cbv)))
theorem rising44 (A : Ar) (E : Em) {P : Program} (hP : P = Try.prog) (ks : List Int) (hs : ks.length ≤ 9223372036854775807) (n : Int) : TPure P 44 [.sl 1 (E.int.l ks), .int .i64 n] (.bool (risB n ks)) := by
  have hll := E.int.len ks
  have hlk : A.len (E.int.l ks) = (ks.length : Int) := by rw [A.ok_len, hll]
  obtain ⟨lk, hlk0⟩ : ∃ b, b = (decide (1 ≤ ks.length) && decide (ks.length ≤ 32)) := ⟨_, rfl⟩
  obtain ⟨r, hr⟩ : ∃ r, r = (lk && risF n (-1) ks) := ⟨_, rfl⟩
  have hr2 : risB n ks = r := by rw [hr, hlk0, risB, Bool.and_assoc]
  rw [hr2]
  clear hr2
  refine TPure.ofE A T0 (T0_ok hP) (hP ▸ Try.func44) rfl _ rfl (by simp) ?_
  cbv
  ((try cbv) <;> (repeat ((with_reducible refine EW.of ?_); cbv)))
  obtain ⟨S, hS⟩ : ∃ S : LI (Nat × Int), S = ⟨fun x => [(5, .int .i64 x.1), (4, .bool false), (0, .sl 1 (E.int.l ks)), (1, .int .i64 n)], fun _ => [], fun x => x.1 ≤ ks.length ∧ r = (lk && risF n x.2 (ks.drop x.1)) ∧ (0 < x.1 → ks[x.1 - 1]? = some x.2 ∧ 0 ≤ x.2) ∧ (x.1 = 0 → x.2 = -1), fun x => ks.length - x.1⟩ := ⟨_, rfl⟩
  refine TW.loopM A (T0_ok hP) S _ rfl (0, -1) ?_ ?_ ?_
  · rw [hS]; exact ⟨Nat.zero_le _, hr, fun h => absurd h (Nat.lt_irrefl 0), fun _ => rfl⟩
  · rw [hS]; cbv; (repeat (first | exact trivial | refine And.intro (Emb.Pur _ _) ?_ | refine And.intro rfl ?_ | refine And.intro (Pur.mk rfl) ?_ | refine And.intro (Pur.mk (by assumption)) ?_))
  rintro ⟨j, last⟩ hj l1 L1 e1 e2
  rw [hS] at hj e1 e2
  dsimp only at hj e1 e2
  obtain ⟨hj, hinv, hp, hz⟩ := hj
  subst e1 e2
  cbv
  ((try cbv) <;> (repeat ((with_reducible refine EW.of ?_); cbv)))
  refine bsplit (fun h => ?_) (fun h => ?_)
  · have h : j < ks.length := lt_nt h rfl hlk
    obtain ⟨x, hx⟩ : ∃ x, ks[j]? = some x := ⟨_, List.getElem?_eq_getElem h⟩
    rw [risF_drop hx] at hinv
    have hxm : j + 1 ≤ ks.length := h
    by_cases hj0 : j = 0
    · have hz := hz hj0
      ((try cbv) <;> (repeat ((with_reducible refine EW.of ?_); cbv)))
      (refine TW.draw (A := A) (T0_ok hP) (hP ▸ follows_mixed) (by kernel_rfl) rfl ?_; cbv)
      (refine ⟨_, _, rfl, (E.geti hx), ?_⟩; cbv; ((try cbv) <;> (repeat ((with_reducible refine EW.of ?_); cbv))))
      refine bsplit (fun h => ?_) (fun h => ?_)
      · have h : x < 0 := (by first | exact lt_t h (by first | rfl | assumption) (by first | rfl | assumption) | exact le_t h (by first | rfl | assumption) (by first | rfl | assumption) | exact eq_t h (by first | rfl | assumption) (by first | rfl | assumption) | exact ne_t h (by first | rfl | assumption) (by first | rfl | assumption) | exact lt_nt h (by first | rfl | assumption) (by first | rfl | assumption) | exact le_nt h (by first | rfl | assumption) (by first | rfl | assumption) | exact ne_nt h (by first | rfl | assumption) (by first | rfl | assumption) | exact seq_t h | exact (sne_t h))
        replace hinv : r = false := by rw [Bool.eq_false_iff]; intro hc; rw [hinv] at hc; simp only [Bool.and_eq_true, decide_eq_true_eq] at hc; omega
        subst hinv
        cbv
        ((try cbv) <;> (repeat ((with_reducible refine EW.of ?_); cbv)))
      have h : ¬ (x < 0) := (by first | exact not_lt_f h (by first | rfl | assumption) (by first | rfl | assumption) | exact not_le_f h (by first | rfl | assumption) (by first | rfl | assumption) | exact eq_f h (by first | rfl | assumption) (by first | rfl | assumption) | exact not_ne_f h (by first | rfl | assumption) (by first | rfl | assumption) | exact not_lt_nf h (by first | rfl | assumption) (by first | rfl | assumption) | exact not_le_nf h (by first | rfl | assumption) (by first | rfl | assumption) | exact not_ne_nf h (by first | rfl | assumption) (by first | rfl | assumption))
      ((try cbv) <;> (repeat ((with_reducible refine EW.of ?_); cbv)))
      have g1 := h
      (refine ⟨_, _, rfl, (E.geti hx), ?_⟩; cbv; ((try cbv) <;> (repeat ((with_reducible refine EW.of ?_); cbv))))
      refine bsplit (fun h => ?_) (fun h => ?_)
      · have h : n ≤ x := (by first | exact lt_t h (by first | rfl | assumption) (by first | rfl | assumption) | exact le_t h (by first | rfl | assumption) (by first | rfl | assumption) | exact eq_t h (by first | rfl | assumption) (by first | rfl | assumption) | exact ne_t h (by first | rfl | assumption) (by first | rfl | assumption) | exact lt_nt h (by first | rfl | assumption) (by first | rfl | assumption) | exact le_nt h (by first | rfl | assumption) (by first | rfl | assumption) | exact ne_nt h (by first | rfl | assumption) (by first | rfl | assumption) | exact seq_t h | exact (sne_t h))
        replace hinv : r = false := by rw [Bool.eq_false_iff]; intro hc; rw [hinv] at hc; simp only [Bool.and_eq_true, decide_eq_true_eq] at hc; omega
        subst hinv
        cbv
        ((try cbv) <;> (repeat ((with_reducible refine EW.of ?_); cbv)))
      have h : ¬ (n ≤ x) := (by first | exact not_lt_f h (by first | rfl | assumption) (by first | rfl | assumption) | exact not_le_f h (by first | rfl | assumption) (by first | rfl | assumption) | exact eq_f h (by first | rfl | assumption) (by first | rfl | assumption) | exact not_ne_f h (by first | rfl | assumption) (by first | rfl | assumption) | exact not_lt_nf h (by first | rfl | assumption) (by first | rfl | assumption) | exact not_le_nf h (by first | rfl | assumption) (by first | rfl | assumption) | exact not_ne_nf h (by first | rfl | assumption) (by first | rfl | assumption))
      ((try cbv) <;> (repeat ((with_reducible refine EW.of ?_); cbv)))
      have g2 := h
      refine bno (show A.lt 0 (j : Int) = false from ltF (by omega)) ?_
      replace hinv : r = (lk && risF n x (ks.drop (j + 1))) := by
        have e1 : last < x := by omega
        have e2 : x < n := by omega
        rw [hinv]
        simp only [e1, e2, decide_true, Bool.true_and]
      ((try cbv) <;> (repeat ((with_reducible refine EW.of ?_); cbv)))
      refine LM.of (j + 1, x) rfl ?_ ?_ ?_
      · rw [hS]; exact ⟨by show j + 1 ≤ _; omega, hinv, fun _ => ⟨by rw [show (j + 1, x).1 - 1 = j from rfl]; exact hx, by show 0 ≤ x; omega⟩, fun h => absurd h (Nat.succ_ne_zero _)⟩
      · rw [hS]; show ks.length - (j + 1) < ks.length - j; omega
      · rw [hS]; (cbv; (repeat (first | exact trivial | refine And.intro (Emb.Pur _ _) ?_ | refine And.intro rfl ?_ | refine And.intro (Pur.mk rfl) ?_ | refine And.intro (Pur.mk (by assumption)) ?_)); refine And.intro (inc_eq A (by omega)) ?_; (repeat (first | exact trivial | refine And.intro (Emb.Pur _ _) ?_ | refine And.intro rfl ?_ | refine And.intro (Pur.mk rfl) ?_ | refine And.intro (Pur.mk (by assumption)) ?_)))
    · obtain ⟨hp1, hp2⟩ := hp (Nat.pos_of_ne_zero hj0)
      have hsb : A.op .sub .i64 (j : Int) 1 = ((j - 1 : Nat) : Int) := by rw [sub_i64 rfl rfl (by omega) (by omega)]; omega
      ((try cbv) <;> (repeat ((with_reducible refine EW.of ?_); cbv)))
      (refine TW.draw (A := A) (T0_ok hP) (hP ▸ follows_mixed) (by kernel_rfl) rfl ?_; cbv)
      (refine ⟨_, _, rfl, (E.geti hx), ?_⟩; cbv; ((try cbv) <;> (repeat ((with_reducible refine EW.of ?_); cbv))))
      refine bsplit (fun h => ?_) (fun h => ?_)
      · have h : x < 0 := (by first | exact lt_t h (by first | rfl | assumption) (by first | rfl | assumption) | exact le_t h (by first | rfl | assumption) (by first | rfl | assumption) | exact eq_t h (by first | rfl | assumption) (by first | rfl | assumption) | exact ne_t h (by first | rfl | assumption) (by first | rfl | assumption) | exact lt_nt h (by first | rfl | assumption) (by first | rfl | assumption) | exact le_nt h (by first | rfl | assumption) (by first | rfl | assumption) | exact ne_nt h (by first | rfl | assumption) (by first | rfl | assumption) | exact seq_t h | exact (sne_t h))
        replace hinv : r = false := by rw [Bool.eq_false_iff]; intro hc; rw [hinv] at hc; simp only [Bool.and_eq_true, decide_eq_true_eq] at hc; omega
        subst hinv
        cbv
        ((try cbv) <;> (repeat ((with_reducible refine EW.of ?_); cbv)))
      have h : ¬ (x < 0) := (by first | exact not_lt_f h (by first | rfl | assumption) (by first | rfl | assumption) | exact not_le_f h (by first | rfl | assumption) (by first | rfl | assumption) | exact eq_f h (by first | rfl | assumption) (by first | rfl | assumption) | exact not_ne_f h (by first | rfl | assumption) (by first | rfl | assumption) | exact not_lt_nf h (by first | rfl | assumption) (by first | rfl | assumption) | exact not_le_nf h (by first | rfl | assumption) (by first | rfl | assumption) | exact not_ne_nf h (by first | rfl | assumption) (by first | rfl | assumption))
      ((try cbv) <;> (repeat ((with_reducible refine EW.of ?_); cbv)))
      have g1 := h
      (refine ⟨_, _, rfl, (E.geti hx), ?_⟩; cbv; ((try cbv) <;> (repeat ((with_reducible refine EW.of ?_); cbv))))
      refine bsplit (fun h => ?_) (fun h => ?_)
      · have h : n ≤ x := (by first | exact lt_t h (by first | rfl | assumption) (by first | rfl | assumption) | exact le_t h (by first | rfl | assumption) (by first | rfl | assumption) | exact eq_t h (by first | rfl | assumption) (by first | rfl | assumption) | exact ne_t h (by first | rfl | assumption) (by first | rfl | assumption) | exact lt_nt h (by first | rfl | assumption) (by first | rfl | assumption) | exact le_nt h (by first | rfl | assumption) (by first | rfl | assumption) | exact ne_nt h (by first | rfl | assumption) (by first | rfl | assumption) | exact seq_t h | exact (sne_t h))
        replace hinv : r = false := by rw [Bool.eq_false_iff]; intro hc; rw [hinv] at hc; simp only [Bool.and_eq_true, decide_eq_true_eq] at hc; omega
        subst hinv
        cbv
        ((try cbv) <;> (repeat ((with_reducible refine EW.of ?_); cbv)))
      have h : ¬ (n ≤ x) := (by first | exact not_lt_f h (by first | rfl | assumption) (by first | rfl | assumption) | exact not_le_f h (by first | rfl | assumption) (by first | rfl | assumption) | exact eq_f h (by first | rfl | assumption) (by first | rfl | assumption) | exact not_ne_f h (by first | rfl | assumption) (by first | rfl | assumption) | exact not_lt_nf h (by first | rfl | assumption) (by first | rfl | assumption) | exact not_le_nf h (by first | rfl | assumption) (by first | rfl | assumption) | exact not_ne_nf h (by first | rfl | assumption) (by first | rfl | assumption))
      ((try cbv) <;> (repeat ((with_reducible refine EW.of ?_); cbv)))
      have g2 := h
      refine byes (show A.lt 0 (j : Int) = true from ltT (by omega)) ?_
      ((try cbv) <;> (repeat ((with_reducible refine EW.of ?_); cbv)))
      (refine ⟨_, _, rfl, (E.geti hx), ?_⟩; cbv; ((try cbv) <;> (repeat ((with_reducible refine EW.of ?_); cbv))))
      refine ⟨j - 1, _, hsb, E.geti hp1, ?_⟩
      cbv
      ((try cbv) <;> (repeat ((with_reducible refine EW.of ?_); cbv)))
      refine bsplit (fun h => ?_) (fun h => ?_)
      · have h : x ≤ last := (by first | exact lt_t h (by first | rfl | assumption) (by first | rfl | assumption) | exact le_t h (by first | rfl | assumption) (by first | rfl | assumption) | exact eq_t h (by first | rfl | assumption) (by first | rfl | assumption) | exact ne_t h (by first | rfl | assumption) (by first | rfl | assumption) | exact lt_nt h (by first | rfl | assumption) (by first | rfl | assumption) | exact le_nt h (by first | rfl | assumption) (by first | rfl | assumption) | exact ne_nt h (by first | rfl | assumption) (by first | rfl | assumption) | exact seq_t h | exact (sne_t h))
        replace hinv : r = false := by rw [Bool.eq_false_iff]; intro hc; rw [hinv] at hc; simp only [Bool.and_eq_true, decide_eq_true_eq] at hc; omega
        subst hinv
        cbv
        ((try cbv) <;> (repeat ((with_reducible refine EW.of ?_); cbv)))
      have h : ¬ (x ≤ last) := (by first | exact not_lt_f h (by first | rfl | assumption) (by first | rfl | assumption) | exact not_le_f h (by first | rfl | assumption) (by first | rfl | assumption) | exact eq_f h (by first | rfl | assumption) (by first | rfl | assumption) | exact not_ne_f h (by first | rfl | assumption) (by first | rfl | assumption) | exact not_lt_nf h (by first | rfl | assumption) (by first | rfl | assumption) | exact not_le_nf h (by first | rfl | assumption) (by first | rfl | assumption) | exact not_ne_nf h (by first | rfl | assumption) (by first | rfl | assumption))
      ((try cbv) <;> (repeat ((with_reducible refine EW.of ?_); cbv)))
      have g3 := h
      replace hinv : r = (lk && risF n x (ks.drop (j + 1))) := by
        have e1 : last < x := by omega
        have e2 : x < n := by omega
        rw [hinv]
        simp only [e1, e2, decide_true, Bool.true_and]
      ((try cbv) <;> (repeat ((with_reducible refine EW.of ?_); cbv)))
      refine LM.of (j + 1, x) rfl ?_ ?_ ?_
      · rw [hS]; exact ⟨by show j + 1 ≤ _; omega, hinv, fun _ => ⟨by rw [show (j + 1, x).1 - 1 = j from rfl]; exact hx, by show 0 ≤ x; omega⟩, fun h => absurd h (Nat.succ_ne_zero _)⟩
      · rw [hS]; show ks.length - (j + 1) < ks.length - j; omega
      · rw [hS]; (cbv; (repeat (first | exact trivial | refine And.intro (Emb.Pur _ _) ?_ | refine And.intro rfl ?_ | refine And.intro (Pur.mk rfl) ?_ | refine And.intro (Pur.mk (by assumption)) ?_)); refine And.intro (inc_eq A (by omega)) ?_; (repeat (first | exact trivial | refine And.intro (Emb.Pur _ _) ?_ | refine And.intro rfl ?_ | refine And.intro (Pur.mk rfl) ?_ | refine And.intro (Pur.mk (by assumption)) ?_)))
  · have h : ks.length ≤ j := lt_nf h rfl hlk
    rw [List.drop_eq_nil_of_le h] at hinv
    replace hinv : r = lk := by rw [hinv, risF, Bool.and_true]
    ((try cbv) <;> (repeat ((with_reducible refine EW.of ?_); cbv)))
    refine bsplit (fun h => ?_) (fun h => ?_)
    rotate_left
    · have h : ¬ (1 ≤ ks.length) := (by first | exact not_lt_f h (by first | rfl | assumption) (by first | rfl | assumption) | exact not_le_f h (by first | rfl | assumption) (by first | rfl | assumption) | exact eq_f h (by first | rfl | assumption) (by first | rfl | assumption) | exact not_ne_f h (by first | rfl | assumption) (by first | rfl | assumption) | exact not_lt_nf h (by first | rfl | assumption) (by first | rfl | assumption) | exact not_le_nf h (by first | rfl | assumption) (by first | rfl | assumption) | exact not_ne_nf h (by first | rfl | assumption) (by first | rfl | assumption))
      replace hinv : r = false := by rw [hinv, Bool.eq_false_iff]; intro hc; rw [hlk0] at hc; simp only [Bool.and_eq_true, decide_eq_true_eq] at hc; omega
      subst hinv
      cbv
      ((try cbv) <;> (repeat ((with_reducible refine EW.of ?_); cbv)))
    have h : 1 ≤ ks.length := (by first | exact lt_t h (by first | rfl | assumption) (by first | rfl | assumption) | exact le_t h (by first | rfl | assumption) (by first | rfl | assumption) | exact eq_t h (by first | rfl | assumption) (by first | rfl | assumption) | exact ne_t h (by first | rfl | assumption) (by first | rfl | assumption) | exact lt_nt h (by first | rfl | assumption) (by first | rfl | assumption) | exact le_nt h (by first | rfl | assumption) (by first | rfl | assumption) | exact ne_nt h (by first | rfl | assumption) (by first | rfl | assumption) | exact seq_t h | exact (sne_t h))
    ((try cbv) <;> (repeat ((with_reducible refine EW.of ?_); cbv)))
    have g1 := h
    have hz : A.le (A.len (E.int.l ks)) 32 = r := by
      rw [hinv, hlk0, A.ok_le, A.ok_len, hll, decide_eq_true g1, Bool.true_and]
      exact decide_eq_decide.2 ⟨fun h => Int.ofNat_le.1 h, fun h => Int.ofNat_le.2 h⟩
    exact ⟨hz, trivial⟩
end Go.Proofs.Ytlngpfocngfokaa
