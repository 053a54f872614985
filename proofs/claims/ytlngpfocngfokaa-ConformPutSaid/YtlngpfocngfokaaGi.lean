import Derived.Test.YtlngpfocngfokaaGh
/-! Which rows fit: rows of truth values; may a kind stand in a slot. -/
namespace Go.Proofs.Ytlngpfocngfokaa
open Go.Proofs.Ytlngpfocngfokaa.Tw
/-- Rows of truth values, not reckoned out. -/
structure EmR where
  l : Nat → (Nat → Bool) → List AV
  ok : ∀ n f, l n f = (List.range n).map fun i => .bool (f i)
def emR0 : EmR := ⟨_, fun _ _ => rfl⟩
def upd (f : Nat → Bool) (i : Nat) (b : Bool) : Nat → Bool := fun j => if j = i then b else f j
namespace EmR
variable (R : EmR)
theorem len (n : Nat) (f : Nat → Bool) : (R.l n f).length = n := by rw [R.ok]; simp
theorem get {n i : Nat} (f : Nat → Bool) (h : i < n) : (R.l n f)[i]? = some (.bool (f i)) := by rw [R.ok]; simp [h]
theorem set {n i : Nat} (f : Nat → Bool) (b : Bool) : (R.l n f).set i (.bool b) = R.l n (upd f i b) := by
  rw [R.ok, R.ok]
  refine List.ext_getElem? fun j => ?_
  rw [List.getElem?_set, List.getElem?_map, List.getElem?_map]
  by_cases hj : j < n
  · rw [List.getElem?_range hj]
    by_cases e : i = j
    · subst e; simp [upd, hj]
    · simp [upd, e, Ne.symm e]
  · rw [List.getElem?_eq_none (by simp; omega)]
    split
    · simp; omega
    · rfl
theorem rep (n : Nat) : List.replicate n (.bool false) = R.l n fun _ => false := by
  rw [R.ok]
  refine List.ext_getElem? fun j => ?_
  rw [List.getElem?_replicate, List.getElem?_map]
  by_cases hj : j < n
  · rw [if_pos hj, List.getElem?_range hj]; rfl
  · rw [if_neg hj, List.getElem?_eq_none (by simp; omega)]; rfl
theorem purL (n : Nat) (f : Nat → Bool) : Tw.purL (R.l n f) = true := purL_of (by
  rw [R.ok]
  intro a ha
  obtain ⟨x, _, rfl⟩ := List.mem_map.1 ha
  rfl)
theorem Pur (n : Nat) (f : Nat → Bool) : Tw.Pur (R.l n f) := ⟨R.purL n f⟩
theorem scal (n : Nat) (f : Nat → Bool) : (R.l n f).all (·.scalar) = true := by
  rw [R.ok, List.all_map]
  exact List.all_eq_true.2 fun _ _ => rfl
theorem drop {n i : Nat} (f : Nat → Bool) (h : i < n) : ∃ rest, List.drop i (R.l n f) = .bool (f i) :: rest := by
  have h1 := R.get f h
  have hl : i < (R.l n f).length := by rw [R.len]; exact h
  rw [List.drop_eq_getElem_cons hl]
  rw [List.getElem?_eq_getElem hl] at h1
  exact ⟨_, by rw [Option.some.inj h1]⟩
end EmR
def mayB (k : Int) (l : List Int) : Bool := l.any fun x => decide (x = k)
set_option maxHeartbeats 1000000 in
theorem may39 (A : Ar) (E : Em) {P : Program} (hP : P = Try.prog) (ks : List Int) (hs : ks.length ≤ 9223372036854775807) (l m k : Int) : TPure P 39 [.agg [.sl 1 (E.int.l ks), .int .i64 l, .int .i64 m], .int .i64 k] (.bool (mayB k ks)) := by
  have hll := E.int.len ks
  have hlk : A.len (E.int.l ks) = (ks.length : Int) := by rw [A.ok_len, hll]
  obtain ⟨r, hr⟩ : ∃ r, r = mayB k ks := ⟨_, rfl⟩
  rw [← hr]
  replace hr : r = (ks.drop 0).any fun x => decide (x = k) := hr
  refine TPure.ofE A T0 (T0_ok hP) (hP ▸ Try.func39) rfl _ rfl (by simp) ?_
  cbv
  ((try cbv) <;> (repeat ((with_reducible refine EW.of ?_); cbv)))
  obtain ⟨S, hS⟩ : ∃ S : LI Nat, S = ⟨fun j => [(5, .int .i64 j), (4, .bool false), (2, .ref 0 3 0 0), (1, .int .i64 k)], fun _ => [some (.box 3 (.agg [.sl 1 (E.int.l ks), .int .i64 l, .int .i64 m]))], fun j => j ≤ ks.length ∧ r = (ks.drop j).any fun x => decide (x = k), fun j => ks.length - j⟩ := ⟨_, rfl⟩
  refine TW.loopM A (T0_ok hP) S _ rfl 0 ?_ ?_ ?_
  · rw [hS]; exact ⟨Nat.zero_le _, hr⟩
  · rw [hS]; cbv; (repeat (first | exact trivial | refine And.intro (Emb.Pur _ _) ?_ | refine And.intro rfl ?_ | refine And.intro (Pur.mk rfl) ?_ | refine And.intro (Pur.mk (by assumption)) ?_))
  intro j hj l1 L1 e1 e2; rw [hS] at hj e1 e2; dsimp only at hj e1 e2; obtain ⟨hj, hinv⟩ := hj; subst e1 e2
  cbv
  ((try cbv) <;> (repeat ((with_reducible refine EW.of ?_); cbv)))
  refine bsplit (fun h => ?_) (fun h => ?_)
  · have h : j < ks.length := lt_nt h rfl hlk
    obtain ⟨x, hx⟩ : ∃ x, ks[j]? = some x := ⟨_, List.getElem?_eq_getElem h⟩
    rw [any_drop hx] at hinv
    ((try cbv) <;> (repeat ((with_reducible refine EW.of ?_); cbv)))
    (refine ⟨_, _, rfl, (E.geti hx), ?_⟩; cbv; ((try cbv) <;> (repeat ((with_reducible refine EW.of ?_); cbv))))
    refine bsplit (fun h => ?_) (fun h => ?_)
    · have h : x = k := (by first | exact lt_t h (by first | rfl | assumption) (by first | rfl | assumption) | exact le_t h (by first | rfl | assumption) (by first | rfl | assumption) | exact eq_t h (by first | rfl | assumption) (by first | rfl | assumption) | exact ne_t h (by first | rfl | assumption) (by first | rfl | assumption) | exact lt_nt h (by first | rfl | assumption) (by first | rfl | assumption) | exact le_nt h (by first | rfl | assumption) (by first | rfl | assumption) | exact ne_nt h (by first | rfl | assumption) (by first | rfl | assumption) | exact seq_t h | exact (sne_t h))
      replace hinv : r = true := by rw [hinv, decide_eq_true h]; rfl
      subst hinv
      cbv
      ((try cbv) <;> (repeat ((with_reducible refine EW.of ?_); cbv)))
    have h : ¬ (x = k) := (by first | exact not_lt_f h (by first | rfl | assumption) (by first | rfl | assumption) | exact not_le_f h (by first | rfl | assumption) (by first | rfl | assumption) | exact eq_f h (by first | rfl | assumption) (by first | rfl | assumption) | exact not_ne_f h (by first | rfl | assumption) (by first | rfl | assumption) | exact not_lt_nf h (by first | rfl | assumption) (by first | rfl | assumption) | exact not_le_nf h (by first | rfl | assumption) (by first | rfl | assumption) | exact not_ne_nf h (by first | rfl | assumption) (by first | rfl | assumption))
    ((try cbv) <;> (repeat ((with_reducible refine EW.of ?_); cbv)))
    rw [decide_eq_false h, Bool.false_or] at hinv
    refine LM.of (j + 1) rfl ?_ ?_ ?_
    · rw [hS]; exact ⟨by show j + 1 ≤ _; omega, hinv⟩
    · rw [hS]; show ks.length - (j + 1) < ks.length - j; omega
    · rw [hS]; (cbv; (repeat (first | exact trivial | refine And.intro (Emb.Pur _ _) ?_ | refine And.intro rfl ?_ | refine And.intro (Pur.mk rfl) ?_ | refine And.intro (Pur.mk (by assumption)) ?_)); refine And.intro (inc_eq A (by omega)) ?_; (repeat (first | exact trivial | refine And.intro (Emb.Pur _ _) ?_ | refine And.intro rfl ?_ | refine And.intro (Pur.mk rfl) ?_ | refine And.intro (Pur.mk (by assumption)) ?_)))
  · have h : ks.length ≤ j := lt_nf h rfl hlk
    rw [List.drop_eq_nil_of_le h] at hinv
    replace hinv : r = false := hinv
    subst hinv
    ((try cbv) <;> (repeat ((with_reducible refine EW.of ?_); cbv)))
/-- Where a number stands, or below nought. -/
def indexI (k : Int) : List Int → Nat → Int
  | [], _ => -1
  | x :: l, j => if x = k then (j : Int) else indexI k l (j + 1)
theorem indexI_drop {k : Int} {l : List Int} {j : Nat} {x : Int} (h : l[j]? = some x) : indexI k (l.drop j) j = if x = k then (j : Int) else indexI k (l.drop (j + 1)) (j + 1) := by
  rw [List.drop_eq_getElem?_toList_append, h]
  rfl
theorem indexI_any (k : Int) : ∀ (l : List Int) (j : Nat), decide (0 ≤ indexI k l j) = mayB k l
  | [], j => rfl
  | x :: l, j => by
    rw [indexI, mayB, List.any_cons]
    by_cases e : x = k
    · rw [if_pos e, decide_eq_true e, decide_eq_true (by omega)]; rfl
    · rw [if_neg e, decide_eq_false e, Bool.false_or]; exact indexI_any k l (j + 1)
set_option maxHeartbeats 1000000 in
theorem Index53 (A : Ar) (E : Em) {P : Program} (hP : P = Try.prog) (ks : List Int) (hs : ks.length ≤ 9223372036854775807) (k : Int) : TPure P 53 [.sl 1 (E.int.l ks), .int .i64 k] (.int .i64 (indexI k ks 0)) := by
  have hll := E.int.len ks
  have hlk : A.len (E.int.l ks) = (ks.length : Int) := by rw [A.ok_len, hll]
  obtain ⟨r, hr⟩ : ∃ r, r = indexI k ks 0 := ⟨_, rfl⟩
  rw [← hr]
  refine TPure.ofE A T0 (T0_ok hP) (hP ▸ Try.func53) rfl _ rfl (by simp) ?_
  cbv
  ((try cbv) <;> (repeat ((with_reducible refine EW.of ?_); cbv)))
  obtain ⟨S, hS⟩ : ∃ S : LI Nat, S = ⟨fun j => [(8, .int .i64 j), (7, .int .i64 (A.len (E.int.l ks))), (4, .int .i64 0), (0, .sl 1 (E.int.l ks)), (1, .int .i64 k)], fun _ => [], fun j => j ≤ ks.length ∧ r = indexI k (ks.drop j) j, fun j => ks.length - j⟩ := ⟨_, rfl⟩
  refine TW.loopM A (T0_ok hP) S _ rfl 0 ?_ ?_ ?_
  · rw [hS]; exact ⟨Nat.zero_le _, hr⟩
  · rw [hS]; cbv; (repeat (first | exact trivial | refine And.intro (Emb.Pur _ _) ?_ | refine And.intro rfl ?_ | refine And.intro (Pur.mk rfl) ?_ | refine And.intro (Pur.mk (by assumption)) ?_))
  intro j hj l1 L1 e1 e2; rw [hS] at hj e1 e2; dsimp only at hj e1 e2; obtain ⟨hj, hinv⟩ := hj; subst e1 e2
  cbv
  ((try cbv) <;> (repeat ((with_reducible refine EW.of ?_); cbv)))
  refine bsplit (fun h => ?_) (fun h => ?_)
  · have h : j < ks.length := lt_nt h rfl hlk
    obtain ⟨x, hx⟩ : ∃ x, ks[j]? = some x := ⟨_, List.getElem?_eq_getElem h⟩
    rw [indexI_drop hx] at hinv
    ((try cbv) <;> (repeat ((with_reducible refine EW.of ?_); cbv)))
    (refine ⟨_, _, rfl, (E.geti hx), ?_⟩; cbv; ((try cbv) <;> (repeat ((with_reducible refine EW.of ?_); cbv))))
    refine bsplit (fun h => ?_) (fun h => ?_)
    · have h : k = x := (by first | exact lt_t h (by first | rfl | assumption) (by first | rfl | assumption) | exact le_t h (by first | rfl | assumption) (by first | rfl | assumption) | exact eq_t h (by first | rfl | assumption) (by first | rfl | assumption) | exact ne_t h (by first | rfl | assumption) (by first | rfl | assumption) | exact lt_nt h (by first | rfl | assumption) (by first | rfl | assumption) | exact le_nt h (by first | rfl | assumption) (by first | rfl | assumption) | exact ne_nt h (by first | rfl | assumption) (by first | rfl | assumption) | exact seq_t h | exact (sne_t h))
      rw [if_pos h.symm] at hinv
      subst hinv
      cbv
      ((try cbv) <;> (repeat ((with_reducible refine EW.of ?_); cbv)))
    have h : ¬ (k = x) := (by first | exact not_lt_f h (by first | rfl | assumption) (by first | rfl | assumption) | exact not_le_f h (by first | rfl | assumption) (by first | rfl | assumption) | exact eq_f h (by first | rfl | assumption) (by first | rfl | assumption) | exact not_ne_f h (by first | rfl | assumption) (by first | rfl | assumption) | exact not_lt_nf h (by first | rfl | assumption) (by first | rfl | assumption) | exact not_le_nf h (by first | rfl | assumption) (by first | rfl | assumption) | exact not_ne_nf h (by first | rfl | assumption) (by first | rfl | assumption))
    ((try cbv) <;> (repeat ((with_reducible refine EW.of ?_); cbv)))
    rw [if_neg (fun e => h e.symm)] at hinv
    refine LM.of (j + 1) rfl ?_ ?_ ?_
    · rw [hS]; exact ⟨by show j + 1 ≤ _; omega, hinv⟩
    · rw [hS]; show ks.length - (j + 1) < ks.length - j; omega
    · rw [hS]; (cbv; (repeat (first | exact trivial | refine And.intro (Emb.Pur _ _) ?_ | refine And.intro rfl ?_ | refine And.intro (Pur.mk rfl) ?_ | refine And.intro (Pur.mk (by assumption)) ?_)); refine And.intro (inc_eq A (by omega)) ?_; (repeat (first | exact trivial | refine And.intro (Emb.Pur _ _) ?_ | refine And.intro rfl ?_ | refine And.intro (Pur.mk rfl) ?_ | refine And.intro (Pur.mk (by assumption)) ?_)))
  · have h : ks.length ≤ j := lt_nf h rfl hlk
    rw [List.drop_eq_nil_of_le h] at hinv
    replace hinv : r = -1 := hinv
    subst hinv
    ((try cbv) <;> (repeat ((with_reducible refine EW.of ?_); cbv)))
theorem Contains38 (A : Ar) (E : Em) {P : Program} (hP : P = Try.prog) (ks : List Int) (hs : ks.length ≤ 9223372036854775807) (k : Int) : TPure P 38 [.sl 1 (E.int.l ks), .int .i64 k] (.bool (mayB k ks)) := by
  have h53 := Index53 A E hP ks hs k
  have hz : A.le 0 (indexI k ks 0) = mayB k ks := by rw [A.ok_le]; exact indexI_any k ks 0
  generalize indexI k ks 0 = i at h53 hz
  generalize mayB k ks = b at hz
  subst hz
  refine TPure.ofE A T0 (T0_ok hP) (hP ▸ Try.func38) rfl _ rfl (by simp) ?_
  cbv
  ((try cbv) <;> (repeat ((with_reducible refine EW.of ?_); cbv)))
  (refine ⟨Ent.of (hP ▸ Try.func53) rfl, ?_⟩; refine TC.pureE h53 ?_; cbv; (repeat (first | exact trivial | refine And.intro (Emb.Pur _ _) ?_ | refine And.intro rfl ?_ | refine And.intro (Pur.mk rfl) ?_ | refine And.intro (Pur.mk (by assumption)) ?_)); ((try cbv) <;> (repeat ((with_reducible refine EW.of ?_); cbv))))
end Go.Proofs.Ytlngpfocngfokaa
