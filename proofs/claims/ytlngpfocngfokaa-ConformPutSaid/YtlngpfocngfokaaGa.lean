import Derived.Test.YtlngpfocngfokaaLp
import Derived.Test.YtlngpfocngfokaaTw10
/-! Grammars as abstract values. -/
namespace Go.Proofs.Ytlngpfocngfokaa
open Go.Proofs.Ytlngpfocngfokaa.Tw
section
variable {A : Ar} {a b a' b' : Int}
theorem not_lt_f (h : A.lt a b = false) (ha : a = a') (hb : b = b') : ¬ (a' < b') := Int.not_lt.2 (lt_f h ha hb)
theorem not_le_f (h : A.le a b = false) (ha : a = a') (hb : b = b') : ¬ (a' ≤ b') := Int.not_le.2 (le_f h ha hb)
theorem not_ne_f (h : A.bnot (A.eq a b) = false) (ha : a = a') (hb : b = b') : ¬ (a' ≠ b') := fun hn => hn (ne_f h ha hb)
theorem not_lt_nf {i j : Nat} (h : A.lt a b = false) (ha : a = (i : Int)) (hb : b = (j : Int)) : ¬ (i < j) := Nat.not_lt.2 (lt_nf h ha hb)
theorem ne_nt {i j : Nat} (h : A.bnot (A.eq a b) = true) (ha : a = (i : Int)) (hb : b = (j : Int)) : i ≠ j := fun e => ne_t h ha hb (congrArg Nat.cast e)
theorem not_ne_nf {i j : Nat} (h : A.bnot (A.eq a b) = false) (ha : a = (i : Int)) (hb : b = (j : Int)) : ¬ (i ≠ j) := fun hn => hn (Int.ofNat_inj.1 (ne_f h ha hb))
theorem not_le_nf {i j : Nat} (h : A.le a b = false) (ha : a = (i : Int)) (hb : b = (j : Int)) : ¬ (i ≤ j) := Nat.not_le.2 (le_nf h ha hb)
end
theorem notF {b : Bool} : b = true → (match b with | true => false | false => true) = false := by rintro rfl; rfl
theorem notT {b : Bool} : b = false → (match b with | true => false | false => true) = true := by rintro rfl; rfl
structure Slo where
  kinds : List Int
  least : Int
  most : Int
structure Knd where
  name : ByteArray
  text : Bool
  slots : List Slo
structure Gra where
  kinds : List Knd
  root : Int
def Slo.av (s : Slo) : AV := .agg [.sl 1 (s.kinds.map fun i => .int .i64 i), .int .i64 s.least, .int .i64 s.most]
def Knd.av (k : Knd) : AV := .agg [.str k.name, .bool k.text, .sl 3 (k.slots.map Slo.av)]
theorem Slo.av_pur (s : Slo) : s.av.pur = true := by
  have := ints_pur s.kinds
  simp only [Slo.av, AV.pur, purL, Bool.and_true]
  exact this
theorem Knd.av_pur (k : Knd) : k.av.pur = true := by
  have : purL (k.slots.map Slo.av) = true := purL_of (by
    intro a ha
    obtain ⟨x, _, rfl⟩ := List.mem_map.1 ha
    exact x.av_pur)
  simp only [Knd.av, AV.pur, purL, Bool.and_true, Bool.true_and]
  exact this
/-- Slots and kinds, not reckoned out. -/
structure EmG where
  slot : Emb Slo
  kind : Emb Knd
  ok_slot : slot.v = Slo.av
  ok_kind : kind.v = Knd.av
def emG0 : EmG := ⟨⟨Slo.av, _, fun _ => rfl, Slo.av_pur⟩, ⟨Knd.av, _, fun _ => rfl, Knd.av_pur⟩, rfl, rfl⟩
namespace EmG
variable (G : EmG) (E : Em)
theorem sv (ks : List Int) (l m : Int) : G.slot.v ⟨ks, l, m⟩ = .agg [.sl 1 (E.int.l ks), .int .i64 l, .int .i64 m] := by
  rw [G.ok_slot, Slo.av, E.int.ok, E.ok_int]
theorem kv (n : ByteArray) (t : Bool) (ss : List Slo) : G.kind.v ⟨n, t, ss⟩ = .agg [.str n, .bool t, .sl 3 (G.slot.l ss)] := by
  rw [G.ok_kind, Knd.av, G.slot.ok, G.ok_slot]
theorem gets {l : List Slo} {j : Nat} {s : Slo} (h : l[j]? = some s) : (G.slot.l l)[j]? = some (.agg [.sl 1 (E.int.l s.kinds), .int .i64 s.least, .int .i64 s.most]) := by rw [G.slot.get h, ← G.sv E]
theorem getk {l : List Knd} {j : Nat} {k : Knd} (h : l[j]? = some k) : (G.kind.l l)[j]? = some (.agg [.str k.name, .bool k.text, .sl 3 (G.slot.l k.slots)]) := by rw [G.kind.get h, ← G.kv]
/-- A grammar as a value. -/
def gv (g : Gra) : AV := .agg [.sl 3 (G.kind.l g.kinds), .int .i64 g.root]
end EmG
/-- No row longer than the law goes through. -/
structure Gra.ok (g : Gra) : Prop where
  kinds : g.kinds.length ≤ 9223372036854775807
  slots : ∀ k ∈ g.kinds, k.slots.length ≤ 9223372036854775807 ∧ ∀ s ∈ k.slots, s.kinds.length ≤ 9223372036854775807
/-! A kind of rows that is too great. -/
def greatK (k : Knd) : Bool := decide (200 < k.name.size) || (decide (20 < k.slots.length) || k.slots.any fun s => decide (40 < s.kinds.length))
def greatG (g : Gra) : Bool := decide (40 < g.kinds.length) || g.kinds.any greatK
theorem any_drop {α : Type} {p : α → Bool} {l : List α} {j : Nat} {x : α} (h : l[j]? = some x) : (l.drop j).any p = (p x || (l.drop (j + 1)).any p) := by
  rw [List.drop_eq_getElem?_toList_append, h]
  simp
set_option maxHeartbeats 1000000 in
theorem Great10 (A : Ar) (E : Em) (G : EmG) {P : Program} (hP : P = Try.prog) (g : Gra) (hg : g.ok) : TPure P 10 [G.gv g] (.bool (greatG g)) := by
  obtain ⟨ks, root⟩ := g
  have hll := G.kind.len ks
  have hlk : A.len (G.kind.l ks) = (ks.length : Int) := by rw [A.ok_len, hll]
  have hk9 := hg.kinds
  dsimp only at hk9
  obtain ⟨r, hr⟩ : ∃ r, r = greatG ⟨ks, root⟩ := ⟨_, rfl⟩
  rw [← hr]
  unfold EmG.gv
  dsimp only
  refine TPure.ofE A T0 (T0_ok hP) (hP ▸ Try.func10) rfl _ rfl (by simp) ?_
  cbv
  ((try cbv) <;> (repeat ((with_reducible refine EW.of ?_); cbv)))
  refine bsplit (fun h => ?_) (fun h => ?_)
  · have h : 40 < ks.length := (by first | exact lt_t h (by first | rfl | assumption) (by first | rfl | assumption) | exact le_t h (by first | rfl | assumption) (by first | rfl | assumption) | exact eq_t h (by first | rfl | assumption) (by first | rfl | assumption) | exact ne_t h (by first | rfl | assumption) (by first | rfl | assumption) | exact lt_nt h (by first | rfl | assumption) (by first | rfl | assumption) | exact le_nt h (by first | rfl | assumption) (by first | rfl | assumption) | exact ne_nt h (by first | rfl | assumption) (by first | rfl | assumption) | exact seq_t h | exact (sne_t h))
    replace hr : r = true := by rw [hr]; simp [greatG, greatK, h]
    subst hr
    cbv
    ((try cbv) <;> (repeat ((with_reducible refine EW.of ?_); cbv)))
  have h : ¬ (40 < ks.length) := (by first | exact not_lt_f h (by first | rfl | assumption) (by first | rfl | assumption) | exact not_le_f h (by first | rfl | assumption) (by first | rfl | assumption) | exact eq_f h (by first | rfl | assumption) (by first | rfl | assumption) | exact not_ne_f h (by first | rfl | assumption) (by first | rfl | assumption) | exact not_lt_nf h (by first | rfl | assumption) (by first | rfl | assumption) | exact not_le_nf h (by first | rfl | assumption) (by first | rfl | assumption) | exact not_ne_nf h (by first | rfl | assumption) (by first | rfl | assumption))
  ((try cbv) <;> (repeat ((with_reducible refine EW.of ?_); cbv)))
  unfold greatG at hr
  rw [decide_eq_false (by omega), Bool.false_or] at hr
  dsimp only at hr
  obtain ⟨S, hS⟩ : ∃ S : LI Nat, S = ⟨fun j => [(12, .int .i64 j), (11, .int .i64 (A.len (G.kind.l ks))), (2, .bool false), (1, .ref 0 2 0 0)], fun _ => [some (.box 2 (.agg [.sl 3 (G.kind.l ks), .int .i64 root]))], fun j => j ≤ ks.length ∧ r = (ks.drop j).any greatK, fun j => ks.length - j⟩ := ⟨_, rfl⟩
  refine TW.loopM A (T0_ok hP) S _ rfl 0 ?_ ?_ ?_
  · rw [hS]; exact ⟨Nat.zero_le _, hr⟩
  · rw [hS]; cbv; (repeat (first | exact trivial | refine And.intro (Emb.Pur _ _) ?_ | refine And.intro rfl ?_ | refine And.intro (Pur.mk rfl) ?_ | refine And.intro (Pur.mk (by assumption)) ?_))
  intro j hj l1 L1 e1 e2; rw [hS] at hj e1 e2; dsimp only at hj e1 e2; obtain ⟨hj, hinv⟩ := hj; subst e1 e2
  cbv
  ((try cbv) <;> (repeat ((with_reducible refine EW.of ?_); cbv)))
  refine bsplit (fun h => ?_) (fun h => ?_)
  · have h : j < ks.length := lt_nt h rfl hlk
    obtain ⟨x, hx⟩ : ∃ x, ks[j]? = some x := ⟨_, List.getElem?_eq_getElem h⟩
    rw [any_drop hx] at hinv
    have hgx := G.getk hx
    have hxs := (hg.slots x (List.mem_of_getElem? hx)).1
    obtain ⟨name, tx, ss⟩ := x
    dsimp only at hgx hxs
    have hsl := G.slot.len ss
    have hsk : A.len (G.slot.l ss) = (ss.length : Int) := by rw [A.ok_len, hsl]
    have hnm := A.ok_slen name
    ((try cbv) <;> (repeat ((with_reducible refine EW.of ?_); cbv)))
    (refine ⟨_, _, rfl, hgx, ?_⟩; cbv; ((try cbv) <;> (repeat ((with_reducible refine EW.of ?_); cbv))))
    refine bsplit (fun h => ?_) (fun h => ?_)
    · have h : 200 < name.size := (by first | exact lt_t h (by first | rfl | assumption) (by first | rfl | assumption) | exact le_t h (by first | rfl | assumption) (by first | rfl | assumption) | exact eq_t h (by first | rfl | assumption) (by first | rfl | assumption) | exact ne_t h (by first | rfl | assumption) (by first | rfl | assumption) | exact lt_nt h (by first | rfl | assumption) (by first | rfl | assumption) | exact le_nt h (by first | rfl | assumption) (by first | rfl | assumption) | exact ne_nt h (by first | rfl | assumption) (by first | rfl | assumption) | exact seq_t h | exact (sne_t h))
      replace hinv : r = true := by rw [hinv]; simp [greatK, h]
      subst hinv
      cbv
      ((try cbv) <;> (repeat ((with_reducible refine EW.of ?_); cbv)))
    have h : ¬ (200 < name.size) := (by first | exact not_lt_f h (by first | rfl | assumption) (by first | rfl | assumption) | exact not_le_f h (by first | rfl | assumption) (by first | rfl | assumption) | exact eq_f h (by first | rfl | assumption) (by first | rfl | assumption) | exact not_ne_f h (by first | rfl | assumption) (by first | rfl | assumption) | exact not_lt_nf h (by first | rfl | assumption) (by first | rfl | assumption) | exact not_le_nf h (by first | rfl | assumption) (by first | rfl | assumption) | exact not_ne_nf h (by first | rfl | assumption) (by first | rfl | assumption))
    ((try cbv) <;> (repeat ((with_reducible refine EW.of ?_); cbv)))
    have h200 := h
    (refine ⟨_, _, rfl, hgx, ?_⟩; cbv; ((try cbv) <;> (repeat ((with_reducible refine EW.of ?_); cbv))))
    refine bsplit (fun h => ?_) (fun h => ?_)
    · have h : 20 < ss.length := (by first | exact lt_t h (by first | rfl | assumption) (by first | rfl | assumption) | exact le_t h (by first | rfl | assumption) (by first | rfl | assumption) | exact eq_t h (by first | rfl | assumption) (by first | rfl | assumption) | exact ne_t h (by first | rfl | assumption) (by first | rfl | assumption) | exact lt_nt h (by first | rfl | assumption) (by first | rfl | assumption) | exact le_nt h (by first | rfl | assumption) (by first | rfl | assumption) | exact ne_nt h (by first | rfl | assumption) (by first | rfl | assumption) | exact seq_t h | exact (sne_t h))
      replace hinv : r = true := by rw [hinv]; simp [greatK, h]
      subst hinv
      cbv
      ((try cbv) <;> (repeat ((with_reducible refine EW.of ?_); cbv)))
    have h : ¬ (20 < ss.length) := (by first | exact not_lt_f h (by first | rfl | assumption) (by first | rfl | assumption) | exact not_le_f h (by first | rfl | assumption) (by first | rfl | assumption) | exact eq_f h (by first | rfl | assumption) (by first | rfl | assumption) | exact not_ne_f h (by first | rfl | assumption) (by first | rfl | assumption) | exact not_lt_nf h (by first | rfl | assumption) (by first | rfl | assumption) | exact not_le_nf h (by first | rfl | assumption) (by first | rfl | assumption) | exact not_ne_nf h (by first | rfl | assumption) (by first | rfl | assumption))
    ((try cbv) <;> (repeat ((with_reducible refine EW.of ?_); cbv)))
    (refine ⟨_, _, rfl, hgx, ?_⟩; cbv; ((try cbv) <;> (repeat ((with_reducible refine EW.of ?_); cbv))))
    replace hinv : r = ((ss.drop 0).any (fun s => decide (40 < s.kinds.length)) || (ks.drop (j + 1)).any greatK) := by
      rw [hinv, greatK, decide_eq_false h200, decide_eq_false h]
      rfl
    obtain ⟨S2, hS2⟩ : ∃ S : LI Nat, S = ⟨fun i => [(40, .int .i64 i), (39, .int .i64 (A.len (G.slot.l ss))), (3, .int .i64 j), (12, .int .i64 j), (11, .int .i64 (A.len (G.kind.l ks))), (2, .bool false), (1, .ref 0 2 0 0)], fun _ => [some (.box 2 (.agg [.sl 3 (G.kind.l ks), .int .i64 root]))], fun i => i ≤ ss.length ∧ r = ((ss.drop i).any (fun s => decide (40 < s.kinds.length)) || (ks.drop (j + 1)).any greatK), fun i => ss.length - i⟩ := ⟨_, rfl⟩
    refine TW.loopM A (T0_ok hP) S2 _ rfl 0 ?_ ?_ ?_
    · rw [hS2]; exact ⟨Nat.zero_le _, hinv⟩
    · rw [hS2]; cbv; (repeat (first | exact trivial | refine And.intro (Emb.Pur _ _) ?_ | refine And.intro rfl ?_ | refine And.intro (Pur.mk rfl) ?_ | refine And.intro (Pur.mk (by assumption)) ?_))
    intro i hj l1 L1 e1 e2; rw [hS2] at hj e1 e2; dsimp only at hj e1 e2; obtain ⟨hi, hinv⟩ := hj; subst e1 e2
    cbv
    ((try cbv) <;> (repeat ((with_reducible refine EW.of ?_); cbv)))
    refine bsplit (fun h3 => ?_) (fun h3 => ?_)
    · have h3 : i < ss.length := lt_nt h3 rfl hsk
      obtain ⟨y, hy⟩ : ∃ y, ss[i]? = some y := ⟨_, List.getElem?_eq_getElem h3⟩
      rw [any_drop hy] at hinv
      have hgy := G.gets E hy
      have hyl := E.int.len y.kinds
      have hyk : A.len (E.int.l y.kinds) = (y.kinds.length : Int) := by rw [A.ok_len, hyl]
      obtain ⟨yk, yl, ym⟩ := y
      dsimp only at hgy hyl hyk hinv
      ((try cbv) <;> (repeat ((with_reducible refine EW.of ?_); cbv)))
      (refine ⟨_, _, rfl, hgx, ?_⟩; cbv; ((try cbv) <;> (repeat ((with_reducible refine EW.of ?_); cbv))))
      (refine ⟨_, _, rfl, hgy, ?_⟩; cbv; ((try cbv) <;> (repeat ((with_reducible refine EW.of ?_); cbv))))
      refine bsplit (fun h => ?_) (fun h => ?_)
      · have h : 40 < yk.length := (by first | exact lt_t h (by first | rfl | assumption) (by first | rfl | assumption) | exact le_t h (by first | rfl | assumption) (by first | rfl | assumption) | exact eq_t h (by first | rfl | assumption) (by first | rfl | assumption) | exact ne_t h (by first | rfl | assumption) (by first | rfl | assumption) | exact lt_nt h (by first | rfl | assumption) (by first | rfl | assumption) | exact le_nt h (by first | rfl | assumption) (by first | rfl | assumption) | exact ne_nt h (by first | rfl | assumption) (by first | rfl | assumption) | exact seq_t h | exact (sne_t h))
        replace hinv : r = true := by rw [hinv]; simp [greatK, h]
        subst hinv
        cbv
        ((try cbv) <;> (repeat ((with_reducible refine EW.of ?_); cbv)))
      have h : ¬ (40 < yk.length) := (by first | exact not_lt_f h (by first | rfl | assumption) (by first | rfl | assumption) | exact not_le_f h (by first | rfl | assumption) (by first | rfl | assumption) | exact eq_f h (by first | rfl | assumption) (by first | rfl | assumption) | exact not_ne_f h (by first | rfl | assumption) (by first | rfl | assumption) | exact not_lt_nf h (by first | rfl | assumption) (by first | rfl | assumption) | exact not_le_nf h (by first | rfl | assumption) (by first | rfl | assumption) | exact not_ne_nf h (by first | rfl | assumption) (by first | rfl | assumption))
      ((try cbv) <;> (repeat ((with_reducible refine EW.of ?_); cbv)))
      rw [decide_eq_false h, Bool.false_or] at hinv
      refine LM.of (i + 1) rfl ?_ ?_ ?_
      · rw [hS2]; exact ⟨by show i + 1 ≤ _; omega, hinv⟩
      · rw [hS2]; show ss.length - (i + 1) < ss.length - i; omega
      · rw [hS2]; (cbv; (repeat (first | exact trivial | refine And.intro (Emb.Pur _ _) ?_ | refine And.intro rfl ?_ | refine And.intro (Pur.mk rfl) ?_ | refine And.intro (Pur.mk (by assumption)) ?_)); refine And.intro (inc_eq A (by omega)) ?_; (repeat (first | exact trivial | refine And.intro (Emb.Pur _ _) ?_ | refine And.intro rfl ?_ | refine And.intro (Pur.mk rfl) ?_ | refine And.intro (Pur.mk (by assumption)) ?_)))
    · have h3 : ss.length ≤ i := lt_nf h3 rfl hsk
      rw [List.drop_eq_nil_of_le h3] at hinv
      replace hinv : r = (ks.drop (j + 1)).any greatK := by rw [hinv]; rfl
      ((try cbv) <;> (repeat ((with_reducible refine EW.of ?_); cbv)))
      refine LM.of (j + 1) rfl ?_ ?_ ?_
      · rw [hS]; exact ⟨by show j + 1 ≤ _; omega, hinv⟩
      · rw [hS]; show ks.length - (j + 1) < ks.length - j; omega
      · rw [hS]; (cbv; (repeat (first | exact trivial | refine And.intro (Emb.Pur _ _) ?_ | refine And.intro rfl ?_ | refine And.intro (Pur.mk rfl) ?_ | refine And.intro (Pur.mk (by assumption)) ?_)); refine And.intro (inc_eq A (by omega)) ?_; (repeat (first | exact trivial | refine And.intro (Emb.Pur _ _) ?_ | refine And.intro rfl ?_ | refine And.intro (Pur.mk rfl) ?_ | refine And.intro (Pur.mk (by assumption)) ?_)))
  · have h : ks.length ≤ j := lt_nf h rfl hlk
    rw [List.drop_eq_nil_of_le h] at hinv
    replace hinv : r = false := hinv
    subst hinv
    ((try cbv) <;> (repeat ((with_reducible refine EW.of ?_); cbv)))
end Go.Proofs.Ytlngpfocngfokaa
