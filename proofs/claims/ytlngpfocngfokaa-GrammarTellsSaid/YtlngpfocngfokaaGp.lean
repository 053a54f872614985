import Derived.Test.YtlngpfocngfokaaGm
/-! Grammars compared, by the program. -/
namespace Go.Proofs.Ytlngpfocngfokaa
open Go.Proofs.Ytlngpfocngfokaa.Tw
def all2 {α : Type} (p : α → α → Bool) : List α → List α → Bool
  | a :: us, b :: vs => p a b && all2 p us vs
  | _, _ => true
def eqL {α : Type} (p : α → α → Bool) (a b : List α) : Bool := decide (a.length = b.length) && all2 p a b
theorem all2_drop {α : Type} {p : α → α → Bool} {us vs : List α} {j : Nat} {x y : α} (hx : us[j]? = some x) (hy : vs[j]? = some y) : all2 p (us.drop j) (vs.drop j) = (p x y && all2 p (us.drop (j + 1)) (vs.drop (j + 1))) := by
  have h1 := List.drop_eq_getElem?_toList_append (l := us) (i := j)
  have h2 := List.drop_eq_getElem?_toList_append (l := vs) (i := j)
  rw [hx] at h1
  rw [hy] at h2
  rw [h1, h2]
  rfl
theorem all2_refl {α : Type} {p : α → α → Bool} (h : ∀ x, p x x = true) : ∀ l : List α, all2 p l l = true
  | [] => rfl
  | x :: l => by rw [all2, h, all2_refl h l]; rfl
theorem eqL_refl {α : Type} {p : α → α → Bool} (h : ∀ x, p x x = true) (l : List α) : eqL p l l = true := by
  unfold eqL
  rw [decide_eq_true rfl, all2_refl h]; rfl
def eqI (a b : Int) : Bool := decide (a = b)
def slotEq (s t : Slo) : Bool := decide (s.least = t.least) && (decide (s.most = t.most) && eqL eqI s.kinds t.kinds)
def kindEq (k l : Knd) : Bool := strEq k.name l.name && ((k.text == l.text) && eqL slotEq k.slots l.slots)
def sameB (g h : Gra) : Bool := decide (g.root = h.root) && eqL kindEq g.kinds h.kinds
theorem eqI_refl (x : Int) : eqI x x = true := decide_eq_true rfl
theorem slotEq_refl (s : Slo) : slotEq s s = true := by unfold slotEq; rw [decide_eq_true rfl, decide_eq_true rfl, eqL_refl eqI_refl]; rfl
theorem kindEq_refl (k : Knd) : kindEq k k = true := by unfold kindEq; rw [strEq_iff.2 rfl, eqL_refl slotEq_refl, beq_self_eq_true]; rfl
theorem sameB_refl (g : Gra) : sameB g g = true := by unfold sameB; rw [decide_eq_true rfl, eqL_refl kindEq_refl]; rfl
set_option maxHeartbeats 1000000 in
theorem Equal49 (A : Ar) (E : Em) {P : Program} (hP : P = Try.prog) (a b : List Int) (ha : a.length ≤ 9223372036854775807) : TPure P 49 [.sl 1 (E.int.l a), .sl 1 (E.int.l b)] (.bool (eqL eqI a b)) := by
  have hla := E.int.len a
  have hlb := E.int.len b
  have hka : A.len (E.int.l a) = (a.length : Int) := by rw [A.ok_len, hla]
  have hkb : A.len (E.int.l b) = (b.length : Int) := by rw [A.ok_len, hlb]
  obtain ⟨r, hr⟩ : ∃ r, r = eqL eqI a b := ⟨_, rfl⟩
  rw [← hr]
  unfold eqL at hr
  refine TPure.ofE A T0 (T0_ok hP) (hP ▸ Try.func49) rfl _ rfl (by simp) ?_
  cbv
  ((try cbv) <;> (repeat ((with_reducible refine EW.of ?_); cbv)))
  refine bsplit (fun h => ?_) (fun h => ?_)
  · have h : a.length ≠ b.length := (by first | exact lt_t h (by first | rfl | assumption) (by first | rfl | assumption) | exact le_t h (by first | rfl | assumption) (by first | rfl | assumption) | exact eq_t h (by first | rfl | assumption) (by first | rfl | assumption) | exact ne_t h (by first | rfl | assumption) (by first | rfl | assumption) | exact lt_nt h (by first | rfl | assumption) (by first | rfl | assumption) | exact le_nt h (by first | rfl | assumption) (by first | rfl | assumption) | exact ne_nt h (by first | rfl | assumption) (by first | rfl | assumption) | exact seq_t h | exact (sne_t h))
    rw [decide_eq_false (by exact h), Bool.false_and] at hr
    subst hr
    cbv
    ((try cbv) <;> (repeat ((with_reducible refine EW.of ?_); cbv)))
  have h : ¬ (a.length ≠ b.length) := (by first | exact not_lt_f h (by first | rfl | assumption) (by first | rfl | assumption) | exact not_le_f h (by first | rfl | assumption) (by first | rfl | assumption) | exact eq_f h (by first | rfl | assumption) (by first | rfl | assumption) | exact not_ne_f h (by first | rfl | assumption) (by first | rfl | assumption) | exact not_lt_nf h (by first | rfl | assumption) (by first | rfl | assumption) | exact not_le_nf h (by first | rfl | assumption) (by first | rfl | assumption) | exact not_ne_nf h (by first | rfl | assumption) (by first | rfl | assumption))
  ((try cbv) <;> (repeat ((with_reducible refine EW.of ?_); cbv)))
  have hl : a.length = b.length := Decidable.not_not.1 h
  rw [decide_eq_true hl, Bool.true_and] at hr
  replace hr : r = all2 eqI (a.drop 0) (b.drop 0) := hr
  obtain ⟨S, hS⟩ : ∃ S : LI Nat, S = ⟨fun j => [(13, .int .i64 j), (12, .int .i64 (A.len (E.int.l a))), (4, .bool false), (0, .sl 1 (E.int.l a)), (1, .sl 1 (E.int.l b))], fun _ => [], fun j => j ≤ a.length ∧ r = all2 eqI (a.drop j) (b.drop j), fun j => a.length - j⟩ := ⟨_, rfl⟩
  refine TW.loopM A (T0_ok hP) S _ rfl 0 ?_ ?_ ?_
  · rw [hS]; exact ⟨Nat.zero_le _, hr⟩
  · rw [hS]; cbv; (repeat (first | exact trivial | refine And.intro (Emb.Pur _ _) ?_ | refine And.intro rfl ?_ | refine And.intro (Pur.mk rfl) ?_ | refine And.intro (Pur.mk (by assumption)) ?_))
  intro j hj l1 L1 e1 e2; rw [hS] at hj e1 e2; dsimp only at hj e1 e2; obtain ⟨hj, hinv⟩ := hj; subst e1 e2
  cbv
  ((try cbv) <;> (repeat ((with_reducible refine EW.of ?_); cbv)))
  refine bsplit (fun h => ?_) (fun h => ?_)
  · have h : j < a.length := lt_nt h rfl hka
    obtain ⟨x, hx⟩ : ∃ x, a[j]? = some x := ⟨_, List.getElem?_eq_getElem h⟩
    obtain ⟨y, hy⟩ : ∃ y, b[j]? = some y := ⟨_, List.getElem?_eq_getElem (by omega)⟩
    rw [all2_drop hx hy] at hinv
    ((try cbv) <;> (repeat ((with_reducible refine EW.of ?_); cbv)))
    (refine TW.draw (A := A) (T0_ok hP) (hP ▸ follows_mixed) (by kernel_rfl) rfl ?_; cbv)
    refine ⟨j, _, rfl, E.geti hx, ?_⟩
    cbv
    refine ⟨j, _, rfl, E.geti hy, ?_⟩
    cbv
    ((try cbv) <;> (repeat ((with_reducible refine EW.of ?_); cbv)))
    refine bsplit (fun h2 => ?_) (fun h2 => ?_)
    · have h2 : x ≠ y := ne_t h2 rfl rfl
      replace hinv : r = false := by rw [hinv, eqI, decide_eq_false h2]; rfl
      subst hinv
      cbv
      ((try cbv) <;> (repeat ((with_reducible refine EW.of ?_); cbv)))
    · have h2 : x = y := ne_f h2 rfl rfl
      rw [eqI, decide_eq_true h2, Bool.true_and] at hinv
      ((try cbv) <;> (repeat ((with_reducible refine EW.of ?_); cbv)))
      refine LM.of (j + 1) rfl ?_ ?_ ?_
      · rw [hS]; exact ⟨by show j + 1 ≤ _; omega, hinv⟩
      · rw [hS]; show a.length - (j + 1) < a.length - j; omega
      · rw [hS]; (cbv; (repeat (first | exact trivial | refine And.intro (Emb.Pur _ _) ?_ | refine And.intro rfl ?_ | refine And.intro (Pur.mk rfl) ?_ | refine And.intro (Pur.mk (by assumption)) ?_)); refine And.intro (inc_eq A (by omega)) ?_; (repeat (first | exact trivial | refine And.intro (Emb.Pur _ _) ?_ | refine And.intro rfl ?_ | refine And.intro (Pur.mk rfl) ?_ | refine And.intro (Pur.mk (by assumption)) ?_)))
  · have h : a.length ≤ j := lt_nf h rfl hka
    rw [List.drop_eq_nil_of_le h] at hinv
    replace hinv : r = true := hinv
    subst hinv
    ((try cbv) <;> (repeat ((with_reducible refine EW.of ?_); cbv)))
set_option maxHeartbeats 1000000 in
theorem slot48 (A : Ar) (E : Em) {P : Program} (hP : P = Try.prog) (s t : Slo) (hs : s.kinds.length ≤ 9223372036854775807) : TPure P 48 [.agg [.sl 1 (E.int.l s.kinds), .int .i64 s.least, .int .i64 s.most], .agg [.sl 1 (E.int.l t.kinds), .int .i64 t.least, .int .i64 t.most]] (.bool (slotEq s t)) := by
  have h49 := Equal49 A E hP s.kinds t.kinds hs
  obtain ⟨r, hr⟩ : ∃ r, r = slotEq s t := ⟨_, rfl⟩
  rw [← hr]
  unfold slotEq at hr
  obtain ⟨sk, sl, sm⟩ := s
  obtain ⟨tk, tl, tm⟩ := t
  dsimp only at hr h49 ⊢
  refine TPure.ofE A T0 (T0_ok hP) (hP ▸ Try.func48) rfl _ rfl (by simp) ?_
  cbv
  ((try cbv) <;> (repeat ((with_reducible refine EW.of ?_); cbv)))
  refine bsplit (fun h => ?_) (fun h => ?_)
  rotate_left
  · have h : ¬ (sl = tl) := (by first | exact not_lt_f h (by first | rfl | assumption) (by first | rfl | assumption) | exact not_le_f h (by first | rfl | assumption) (by first | rfl | assumption) | exact eq_f h (by first | rfl | assumption) (by first | rfl | assumption) | exact not_ne_f h (by first | rfl | assumption) (by first | rfl | assumption) | exact not_lt_nf h (by first | rfl | assumption) (by first | rfl | assumption) | exact not_le_nf h (by first | rfl | assumption) (by first | rfl | assumption) | exact not_ne_nf h (by first | rfl | assumption) (by first | rfl | assumption))
    rw [decide_eq_false h, Bool.false_and] at hr
    subst hr
    cbv
    ((try cbv) <;> (repeat ((with_reducible refine EW.of ?_); cbv)))
  have h : sl = tl := (by first | exact lt_t h (by first | rfl | assumption) (by first | rfl | assumption) | exact le_t h (by first | rfl | assumption) (by first | rfl | assumption) | exact eq_t h (by first | rfl | assumption) (by first | rfl | assumption) | exact ne_t h (by first | rfl | assumption) (by first | rfl | assumption) | exact lt_nt h (by first | rfl | assumption) (by first | rfl | assumption) | exact le_nt h (by first | rfl | assumption) (by first | rfl | assumption) | exact ne_nt h (by first | rfl | assumption) (by first | rfl | assumption) | exact seq_t h | exact (sne_t h))
  ((try cbv) <;> (repeat ((with_reducible refine EW.of ?_); cbv)))
  rw [decide_eq_true h, Bool.true_and] at hr
  refine bsplit (fun h => ?_) (fun h => ?_)
  rotate_left
  · have h : ¬ (sm = tm) := (by first | exact not_lt_f h (by first | rfl | assumption) (by first | rfl | assumption) | exact not_le_f h (by first | rfl | assumption) (by first | rfl | assumption) | exact eq_f h (by first | rfl | assumption) (by first | rfl | assumption) | exact not_ne_f h (by first | rfl | assumption) (by first | rfl | assumption) | exact not_lt_nf h (by first | rfl | assumption) (by first | rfl | assumption) | exact not_le_nf h (by first | rfl | assumption) (by first | rfl | assumption) | exact not_ne_nf h (by first | rfl | assumption) (by first | rfl | assumption))
    rw [decide_eq_false h, Bool.false_and] at hr
    subst hr
    cbv
    ((try cbv) <;> (repeat ((with_reducible refine EW.of ?_); cbv)))
  have h : sm = tm := (by first | exact lt_t h (by first | rfl | assumption) (by first | rfl | assumption) | exact le_t h (by first | rfl | assumption) (by first | rfl | assumption) | exact eq_t h (by first | rfl | assumption) (by first | rfl | assumption) | exact ne_t h (by first | rfl | assumption) (by first | rfl | assumption) | exact lt_nt h (by first | rfl | assumption) (by first | rfl | assumption) | exact le_nt h (by first | rfl | assumption) (by first | rfl | assumption) | exact ne_nt h (by first | rfl | assumption) (by first | rfl | assumption) | exact seq_t h | exact (sne_t h))
  ((try cbv) <;> (repeat ((with_reducible refine EW.of ?_); cbv)))
  rw [decide_eq_true h, Bool.true_and] at hr
  rw [← hr] at h49
  (refine ⟨Ent.of (hP ▸ Try.func49) rfl, ?_⟩; refine TC.pureE h49 ?_; cbv; (repeat (first | exact trivial | refine And.intro (Emb.Pur _ _) ?_ | refine And.intro rfl ?_ | refine And.intro (Pur.mk rfl) ?_ | refine And.intro (Pur.mk (by assumption)) ?_)); ((try cbv) <;> (repeat ((with_reducible refine EW.of ?_); cbv))))
set_option maxHeartbeats 1000000 in
theorem Slots47 (A : Ar) (E : Em) (G : EmG) {P : Program} (hP : P = Try.prog) (a b : List Slo) (ha : a.length ≤ 9223372036854775807 ∧ ∀ s ∈ a, s.kinds.length ≤ 9223372036854775807) : TPure P 47 [.sl 3 (G.slot.l a), .sl 3 (G.slot.l b), .func (.func 48) [] []] (.bool (eqL slotEq a b)) := by
  have hka : A.len (G.slot.l a) = (a.length : Int) := by rw [A.ok_len, G.slot.len]
  have hkb : A.len (G.slot.l b) = (b.length : Int) := by rw [A.ok_len, G.slot.len]
  have ha9 := ha.1
  obtain ⟨r, hr⟩ : ∃ r, r = eqL slotEq a b := ⟨_, rfl⟩
  rw [← hr]
  unfold eqL at hr
  refine TPure.ofE A T0 (T0_ok hP) (hP ▸ Try.func47) rfl _ rfl (by simp) ?_
  cbv
  ((try cbv) <;> (repeat ((with_reducible refine EW.of ?_); cbv)))
  refine bsplit (fun h => ?_) (fun h => ?_)
  · have h : a.length ≠ b.length := (by first | exact lt_t h (by first | rfl | assumption) (by first | rfl | assumption) | exact le_t h (by first | rfl | assumption) (by first | rfl | assumption) | exact eq_t h (by first | rfl | assumption) (by first | rfl | assumption) | exact ne_t h (by first | rfl | assumption) (by first | rfl | assumption) | exact lt_nt h (by first | rfl | assumption) (by first | rfl | assumption) | exact le_nt h (by first | rfl | assumption) (by first | rfl | assumption) | exact ne_nt h (by first | rfl | assumption) (by first | rfl | assumption) | exact seq_t h | exact (sne_t h))
    rw [decide_eq_false (by exact h), Bool.false_and] at hr
    subst hr
    cbv
    ((try cbv) <;> (repeat ((with_reducible refine EW.of ?_); cbv)))
  have h : ¬ (a.length ≠ b.length) := (by first | exact not_lt_f h (by first | rfl | assumption) (by first | rfl | assumption) | exact not_le_f h (by first | rfl | assumption) (by first | rfl | assumption) | exact eq_f h (by first | rfl | assumption) (by first | rfl | assumption) | exact not_ne_f h (by first | rfl | assumption) (by first | rfl | assumption) | exact not_lt_nf h (by first | rfl | assumption) (by first | rfl | assumption) | exact not_le_nf h (by first | rfl | assumption) (by first | rfl | assumption) | exact not_ne_nf h (by first | rfl | assumption) (by first | rfl | assumption))
  ((try cbv) <;> (repeat ((with_reducible refine EW.of ?_); cbv)))
  have hl : a.length = b.length := Decidable.not_not.1 h
  rw [decide_eq_true hl, Bool.true_and] at hr
  replace hr : r = all2 slotEq (a.drop 0) (b.drop 0) := hr
  obtain ⟨S, hS⟩ : ∃ S : LI Nat, S = ⟨fun j => [(17, .int .i64 j), (16, .int .i64 (A.len (G.slot.l a))), (15, .sl 3 (G.slot.l a)), (6, .bool false), (1, .sl 3 (G.slot.l b)), (2, .func (.func 48) [] [])], fun _ => [], fun j => j ≤ a.length ∧ r = all2 slotEq (a.drop j) (b.drop j), fun j => a.length - j⟩ := ⟨_, rfl⟩
  refine TW.loopM A (T0_ok hP) S _ rfl 0 ?_ ?_ ?_
  · rw [hS]; exact ⟨Nat.zero_le _, hr⟩
  · rw [hS]; cbv; (repeat (first | exact trivial | refine And.intro (Emb.Pur _ _) ?_ | refine And.intro rfl ?_ | refine And.intro (Pur.mk rfl) ?_ | refine And.intro (Pur.mk (by assumption)) ?_))
  intro j hj l1 L1 e1 e2; rw [hS] at hj e1 e2; dsimp only at hj e1 e2; obtain ⟨hj, hinv⟩ := hj; subst e1 e2
  cbv
  ((try cbv) <;> (repeat ((with_reducible refine EW.of ?_); cbv)))
  refine bsplit (fun h => ?_) (fun h => ?_)
  · have h : j < a.length := lt_nt h rfl hka
    obtain ⟨x, hx⟩ : ∃ x, a[j]? = some x := ⟨_, List.getElem?_eq_getElem h⟩
    obtain ⟨y, hy⟩ : ∃ y, b[j]? = some y := ⟨_, List.getElem?_eq_getElem (by omega)⟩
    rw [all2_drop hx hy] at hinv
    have hgx := G.gets E hx
    have hgy := G.gets E hy
    have kk := slot48 A E hP x y (ha.2 x (List.mem_of_getElem? hx))
    obtain ⟨q, hq⟩ : ∃ q, q = slotEq x y := ⟨_, rfl⟩
    rw [← hq] at kk hinv
    ((try cbv) <;> (repeat ((with_reducible refine EW.of ?_); cbv)))
    (refine ⟨_, _, rfl, hgx, ?_⟩; cbv; ((try cbv) <;> (repeat ((with_reducible refine EW.of ?_); cbv))))
    (refine ⟨_, _, rfl, hgy, ?_⟩; cbv; ((try cbv) <;> (repeat ((with_reducible refine EW.of ?_); cbv))))
    (refine ⟨Ent.of (hP ▸ Try.func48) rfl, ?_⟩; refine TC.pureE kk ?_; cbv; (repeat (first | exact trivial | refine And.intro (Emb.Pur _ _) ?_ | refine And.intro rfl ?_ | refine And.intro (Pur.mk rfl) ?_ | refine And.intro (Pur.mk (by assumption)) ?_)); ((try cbv) <;> (repeat ((with_reducible refine EW.of ?_); cbv))))
    cases q with
    | false =>
      replace hinv : r = false := hinv
      subst hinv
      cbv
      ((try cbv) <;> (repeat ((with_reducible refine EW.of ?_); cbv)))
    | true =>
      rw [Bool.true_and] at hinv
      ((try cbv) <;> (repeat ((with_reducible refine EW.of ?_); cbv)))
      refine LM.of (j + 1) rfl ?_ ?_ ?_
      · rw [hS]; exact ⟨by show j + 1 ≤ _; omega, hinv⟩
      · rw [hS]; show a.length - (j + 1) < a.length - j; omega
      · rw [hS]; (cbv; (repeat (first | exact trivial | refine And.intro (Emb.Pur _ _) ?_ | refine And.intro rfl ?_ | refine And.intro (Pur.mk rfl) ?_ | refine And.intro (Pur.mk (by assumption)) ?_)); refine And.intro (inc_eq A (by omega)) ?_; (repeat (first | exact trivial | refine And.intro (Emb.Pur _ _) ?_ | refine And.intro rfl ?_ | refine And.intro (Pur.mk rfl) ?_ | refine And.intro (Pur.mk (by assumption)) ?_)))
  · have h : a.length ≤ j := lt_nf h rfl hka
    rw [List.drop_eq_nil_of_le h] at hinv
    replace hinv : r = true := hinv
    subst hinv
    ((try cbv) <;> (repeat ((with_reducible refine EW.of ?_); cbv)))
set_option maxHeartbeats 1000000 in
theorem kind46 (A : Ar) (E : Em) (G : EmG) {P : Program} (hP : P = Try.prog) (k l : Knd) (hk : k.slots.length ≤ 9223372036854775807 ∧ ∀ s ∈ k.slots, s.kinds.length ≤ 9223372036854775807) : TPure P 46 [.agg [.str k.name, .bool k.text, .sl 3 (G.slot.l k.slots)], .agg [.str l.name, .bool l.text, .sl 3 (G.slot.l l.slots)]] (.bool (kindEq k l)) := by
  have h47 := Slots47 A E G hP k.slots l.slots hk
  obtain ⟨r, hr⟩ : ∃ r, r = kindEq k l := ⟨_, rfl⟩
  rw [← hr]
  unfold kindEq at hr
  obtain ⟨kn, kt, ks⟩ := k
  obtain ⟨ln, lt, ls⟩ := l
  dsimp only at hr h47 ⊢
  refine TPure.ofE A T0 (T0_ok hP) (hP ▸ Try.func46) rfl _ rfl (by simp) ?_
  cbv
  ((try cbv) <;> (repeat ((with_reducible refine EW.of ?_); cbv)))
  refine bsplit (fun h => ?_) (fun h => ?_)
  rotate_left
  · have h := seq_f h
    rw [h, Bool.false_and] at hr
    subst hr
    cbv
    ((try cbv) <;> (repeat ((with_reducible refine EW.of ?_); cbv)))
  have h := seq_t h
  rw [h, Bool.true_and] at hr
  ((try cbv) <;> (repeat ((with_reducible refine EW.of ?_); cbv)))
  refine bsplit (fun h => ?_) (fun h => ?_)
  rotate_left
  · have h : (kt == lt) = false := (A.ok_beq kt lt).symm.trans h
    rw [h, Bool.false_and] at hr
    subst hr
    cbv
    ((try cbv) <;> (repeat ((with_reducible refine EW.of ?_); cbv)))
  have h : (kt == lt) = true := (A.ok_beq kt lt).symm.trans h
  rw [h, Bool.true_and] at hr
  rw [← hr] at h47
  ((try cbv) <;> (repeat ((with_reducible refine EW.of ?_); cbv)))
  (refine ⟨Ent.of (hP ▸ Try.func47) rfl, ?_⟩; refine TC.pureE h47 ?_; cbv; (repeat (first | exact trivial | refine And.intro (Emb.Pur _ _) ?_ | refine And.intro rfl ?_ | refine And.intro (Pur.mk rfl) ?_ | refine And.intro (Pur.mk (by assumption)) ?_)); ((try cbv) <;> (repeat ((with_reducible refine EW.of ?_); cbv))))
set_option maxHeartbeats 1000000 in
theorem Kinds45 (A : Ar) (E : Em) (G : EmG) {P : Program} (hP : P = Try.prog) (a b : List Knd) (ha : a.length ≤ 9223372036854775807 ∧ ∀ s ∈ a, s.slots.length ≤ 9223372036854775807 ∧ ∀ t ∈ s.slots, t.kinds.length ≤ 9223372036854775807) : TPure P 45 [.sl 3 (G.kind.l a), .sl 3 (G.kind.l b), .func (.func 46) [] []] (.bool (eqL kindEq a b)) := by
  have hka : A.len (G.kind.l a) = (a.length : Int) := by rw [A.ok_len, G.kind.len]
  have hkb : A.len (G.kind.l b) = (b.length : Int) := by rw [A.ok_len, G.kind.len]
  have ha9 := ha.1
  obtain ⟨r, hr⟩ : ∃ r, r = eqL kindEq a b := ⟨_, rfl⟩
  rw [← hr]
  unfold eqL at hr
  refine TPure.ofE A T0 (T0_ok hP) (hP ▸ Try.func45) rfl _ rfl (by simp) ?_
  cbv
  ((try cbv) <;> (repeat ((with_reducible refine EW.of ?_); cbv)))
  refine bsplit (fun h => ?_) (fun h => ?_)
  · have h : a.length ≠ b.length := (by first | exact lt_t h (by first | rfl | assumption) (by first | rfl | assumption) | exact le_t h (by first | rfl | assumption) (by first | rfl | assumption) | exact eq_t h (by first | rfl | assumption) (by first | rfl | assumption) | exact ne_t h (by first | rfl | assumption) (by first | rfl | assumption) | exact lt_nt h (by first | rfl | assumption) (by first | rfl | assumption) | exact le_nt h (by first | rfl | assumption) (by first | rfl | assumption) | exact ne_nt h (by first | rfl | assumption) (by first | rfl | assumption) | exact seq_t h | exact (sne_t h))
    rw [decide_eq_false (by exact h), Bool.false_and] at hr
    subst hr
    cbv
    ((try cbv) <;> (repeat ((with_reducible refine EW.of ?_); cbv)))
  have h : ¬ (a.length ≠ b.length) := (by first | exact not_lt_f h (by first | rfl | assumption) (by first | rfl | assumption) | exact not_le_f h (by first | rfl | assumption) (by first | rfl | assumption) | exact eq_f h (by first | rfl | assumption) (by first | rfl | assumption) | exact not_ne_f h (by first | rfl | assumption) (by first | rfl | assumption) | exact not_lt_nf h (by first | rfl | assumption) (by first | rfl | assumption) | exact not_le_nf h (by first | rfl | assumption) (by first | rfl | assumption) | exact not_ne_nf h (by first | rfl | assumption) (by first | rfl | assumption))
  ((try cbv) <;> (repeat ((with_reducible refine EW.of ?_); cbv)))
  have hl : a.length = b.length := Decidable.not_not.1 h
  rw [decide_eq_true hl, Bool.true_and] at hr
  replace hr : r = all2 kindEq (a.drop 0) (b.drop 0) := hr
  obtain ⟨S, hS⟩ : ∃ S : LI Nat, S = ⟨fun j => [(17, .int .i64 j), (16, .int .i64 (A.len (G.kind.l a))), (15, .sl 3 (G.kind.l a)), (6, .bool false), (1, .sl 3 (G.kind.l b)), (2, .func (.func 46) [] [])], fun _ => [], fun j => j ≤ a.length ∧ r = all2 kindEq (a.drop j) (b.drop j), fun j => a.length - j⟩ := ⟨_, rfl⟩
  refine TW.loopM A (T0_ok hP) S _ rfl 0 ?_ ?_ ?_
  · rw [hS]; exact ⟨Nat.zero_le _, hr⟩
  · rw [hS]; cbv; (repeat (first | exact trivial | refine And.intro (Emb.Pur _ _) ?_ | refine And.intro rfl ?_ | refine And.intro (Pur.mk rfl) ?_ | refine And.intro (Pur.mk (by assumption)) ?_))
  intro j hj l1 L1 e1 e2; rw [hS] at hj e1 e2; dsimp only at hj e1 e2; obtain ⟨hj, hinv⟩ := hj; subst e1 e2
  cbv
  ((try cbv) <;> (repeat ((with_reducible refine EW.of ?_); cbv)))
  refine bsplit (fun h => ?_) (fun h => ?_)
  · have h : j < a.length := lt_nt h rfl hka
    obtain ⟨x, hx⟩ : ∃ x, a[j]? = some x := ⟨_, List.getElem?_eq_getElem h⟩
    obtain ⟨y, hy⟩ : ∃ y, b[j]? = some y := ⟨_, List.getElem?_eq_getElem (by omega)⟩
    rw [all2_drop hx hy] at hinv
    have hgx := G.getk hx
    have hgy := G.getk hy
    have kk := kind46 A E G hP x y (ha.2 x (List.mem_of_getElem? hx))
    obtain ⟨q, hq⟩ : ∃ q, q = kindEq x y := ⟨_, rfl⟩
    rw [← hq] at kk hinv
    ((try cbv) <;> (repeat ((with_reducible refine EW.of ?_); cbv)))
    (refine ⟨_, _, rfl, hgx, ?_⟩; cbv; ((try cbv) <;> (repeat ((with_reducible refine EW.of ?_); cbv))))
    (refine ⟨_, _, rfl, hgy, ?_⟩; cbv; ((try cbv) <;> (repeat ((with_reducible refine EW.of ?_); cbv))))
    (refine ⟨Ent.of (hP ▸ Try.func46) rfl, ?_⟩; refine TC.pureE kk ?_; cbv; (repeat (first | exact trivial | refine And.intro (Emb.Pur _ _) ?_ | refine And.intro rfl ?_ | refine And.intro (Pur.mk rfl) ?_ | refine And.intro (Pur.mk (by assumption)) ?_)); ((try cbv) <;> (repeat ((with_reducible refine EW.of ?_); cbv))))
    cases q with
    | false =>
      replace hinv : r = false := hinv
      subst hinv
      cbv
      ((try cbv) <;> (repeat ((with_reducible refine EW.of ?_); cbv)))
    | true =>
      rw [Bool.true_and] at hinv
      ((try cbv) <;> (repeat ((with_reducible refine EW.of ?_); cbv)))
      refine LM.of (j + 1) rfl ?_ ?_ ?_
      · rw [hS]; exact ⟨by show j + 1 ≤ _; omega, hinv⟩
      · rw [hS]; show a.length - (j + 1) < a.length - j; omega
      · rw [hS]; (cbv; (repeat (first | exact trivial | refine And.intro (Emb.Pur _ _) ?_ | refine And.intro rfl ?_ | refine And.intro (Pur.mk rfl) ?_ | refine And.intro (Pur.mk (by assumption)) ?_)); refine And.intro (inc_eq A (by omega)) ?_; (repeat (first | exact trivial | refine And.intro (Emb.Pur _ _) ?_ | refine And.intro rfl ?_ | refine And.intro (Pur.mk rfl) ?_ | refine And.intro (Pur.mk (by assumption)) ?_)))
  · have h : a.length ≤ j := lt_nf h rfl hka
    rw [List.drop_eq_nil_of_le h] at hinv
    replace hinv : r = true := hinv
    subst hinv
    ((try cbv) <;> (repeat ((with_reducible refine EW.of ?_); cbv)))
set_option maxHeartbeats 1000000 in
theorem Same22 (A : Ar) (E : Em) (G : EmG) {P : Program} (hP : P = Try.prog) (g h : Gra) (hg : g.ok) : TPure P 22 [G.gv g, G.gv h] (.bool (sameB g h)) := by
  have h45 := Kinds45 A E G hP g.kinds h.kinds ⟨hg.kinds, hg.slots⟩
  obtain ⟨r, hr⟩ : ∃ r, r = sameB g h := ⟨_, rfl⟩
  rw [← hr]
  unfold sameB at hr
  unfold EmG.gv
  obtain ⟨ks, ro⟩ := g
  obtain ⟨ls, rp⟩ := h
  dsimp only at hr h45 ⊢
  refine TPure.ofE A T0 (T0_ok hP) (hP ▸ Try.func22) rfl _ rfl (by simp) ?_
  cbv
  ((try cbv) <;> (repeat ((with_reducible refine EW.of ?_); cbv)))
  refine bsplit (fun h => ?_) (fun h => ?_)
  rotate_left
  · have h : ¬ (ro = rp) := (by first | exact not_lt_f h (by first | rfl | assumption) (by first | rfl | assumption) | exact not_le_f h (by first | rfl | assumption) (by first | rfl | assumption) | exact eq_f h (by first | rfl | assumption) (by first | rfl | assumption) | exact not_ne_f h (by first | rfl | assumption) (by first | rfl | assumption) | exact not_lt_nf h (by first | rfl | assumption) (by first | rfl | assumption) | exact not_le_nf h (by first | rfl | assumption) (by first | rfl | assumption) | exact not_ne_nf h (by first | rfl | assumption) (by first | rfl | assumption))
    rw [decide_eq_false h, Bool.false_and] at hr
    subst hr
    cbv
    ((try cbv) <;> (repeat ((with_reducible refine EW.of ?_); cbv)))
  have h : ro = rp := (by first | exact lt_t h (by first | rfl | assumption) (by first | rfl | assumption) | exact le_t h (by first | rfl | assumption) (by first | rfl | assumption) | exact eq_t h (by first | rfl | assumption) (by first | rfl | assumption) | exact ne_t h (by first | rfl | assumption) (by first | rfl | assumption) | exact lt_nt h (by first | rfl | assumption) (by first | rfl | assumption) | exact le_nt h (by first | rfl | assumption) (by first | rfl | assumption) | exact ne_nt h (by first | rfl | assumption) (by first | rfl | assumption) | exact seq_t h | exact (sne_t h))
  ((try cbv) <;> (repeat ((with_reducible refine EW.of ?_); cbv)))
  rw [decide_eq_true h, Bool.true_and] at hr
  rw [← hr] at h45
  (refine ⟨Ent.of (hP ▸ Try.func45) rfl, ?_⟩; refine TC.pureE h45 ?_; cbv; (repeat (first | exact trivial | refine And.intro (Emb.Pur _ _) ?_ | refine And.intro rfl ?_ | refine And.intro (Pur.mk rfl) ?_ | refine And.intro (Pur.mk (by assumption)) ?_)); ((try cbv) <;> (repeat ((with_reducible refine EW.of ?_); cbv))))
end Go.Proofs.Ytlngpfocngfokaa
