import Derived.Test.YtlngpfocngfokaaGu
import Derived.Test.YtlngpfocngfokaaHc
/-! Kinds of kids. -/
namespace Go.Proofs.Ytlngpfocngfokaa
open Go.Proofs.Ytlngpfocngfokaa.Tw
def kindT : Tree → Int
  | .node _ k _ _ => k
def kidsT : Tree → List Tree
  | .node _ _ _ ks => ks
def textT : Tree → ByteArray
  | .node _ _ s _ => s
def idT : Tree → Int
  | .node i _ _ _ => i
def kidsL (t : Tree) : Nat := (kidsT t).length
def kindsT (t : Tree) : List Int := (kidsT t).map kindT
set_option maxHeartbeats 1000000 in
theorem Kinds32 (A : Ar) (E : Em) {P : Program} (hP : P = Try.prog) (t : Tree) (hl : kidsL t ≤ 1000000) : TPure P 32 [E.tree.v t] (.sl 1 (E.int.l (kindsT t))) := by
  obtain ⟨i, k, s, ks⟩ := t
  have hll := E.tree.len ks
  have hlk : A.len (E.tree.l ks) = (ks.length : Int) := by rw [A.ok_len, hll]
  have hl : ks.length ≤ 1000000 := hl
  obtain ⟨R, hR⟩ : ∃ R, R = ks.map kindT := ⟨_, rfl⟩
  show TPure P _ _ (.sl 1 (E.int.l (ks.map kindT)))
  rw [← hR, E.node]
  refine TPure.ofE A T0 (T0_ok hP) (hP ▸ Try.func32) rfl _ rfl (by simp) ?_
  cbv
  ((try cbv) <;> (repeat ((with_reducible refine EW.of ?_); cbv)))
  obtain ⟨S, hS⟩ : ∃ S : LI (Nat × Option (Nat × List Int)), S = ⟨fun x => [(8, .int .i64 x.1), (7, .int .i64 (A.len (E.tree.l ks))), (3, rowI 1 x.2), (1, .ref 0 4 0 0), (2, .nils)], fun x => stI E [some (.box 4 (.agg [.int .i64 i, .int .i64 k, .str s, .sl 4 (E.tree.l ks)]))] x.2, fun x => x.1 ≤ ks.length ∧ okI x.2 ∧ outI x.2 = R.take x.1, fun x => ks.length - x.1⟩ := ⟨_, rfl⟩
  refine TW.loopM A (T0_ok hP) S _ rfl (0, none) ?_ ?_ ?_
  · rw [hS]; exact ⟨Nat.zero_le _, trivial, rfl⟩
  · rw [hS]; cbv; (repeat (first | exact trivial | refine And.intro (Emb.Pur _ _) ?_ | refine And.intro rfl ?_ | refine And.intro (Pur.mk rfl) ?_ | refine And.intro (Pur.mk (by assumption)) ?_))
  rintro ⟨j, o⟩ hj l1 L1 e1 e2
  rw [hS] at hj e1 e2
  dsimp only at hj e1 e2
  obtain ⟨hj, hok, hout⟩ := hj
  subst e1
  obtain ⟨lo, hlo⟩ : ∃ l, l = outI o := ⟨_, rfl⟩
  rw [← hlo] at hout
  cases o with
  | none =>
    dsimp only [stI, rowI, outI, okI] at e2 hok hlo ⊢
    subst e2
    cbv
    ((try cbv) <;> (repeat ((with_reducible refine EW.of ?_); cbv)))
    refine bsplit (fun h => ?_) (fun h => ?_)
    · have h : j < ks.length := lt_nt h rfl hlk
      obtain ⟨t', ht'⟩ : ∃ t', ks[j]? = some t' := ⟨_, List.getElem?_eq_getElem h⟩
      have htk : R.take (j + 1) = R.take j ++ [kindT t'] := by rw [List.take_add_one, hR, List.getElem?_map, ht']; rfl
      obtain ⟨i', k', s', ks'⟩ := t'
      have hgt := E.getn ht'
      obtain ⟨y, hy⟩ : ∃ y, y = k' := ⟨_, rfl⟩
      have htk : R.take (j + 1) = lo ++ [y] := by rw [htk, hout, hy]; rfl
      rw [← hy] at hgt
      obtain ⟨l9, hl9⟩ : ∃ d, d = lo ++ [y] := ⟨_, rfl⟩
      obtain ⟨q9, hq9⟩ : ∃ q, q = l9.length := ⟨_, rfl⟩
      have hlen9 : l9.length ≤ 1000001 := by rw [hl9, ← htk, List.length_take, hR, List.length_map]; omega
      ((try cbv) <;> (repeat ((with_reducible refine EW.of ?_); cbv)))
      (refine ⟨_, _, rfl, hgt, ?_⟩; cbv; ((try cbv) <;> (repeat ((with_reducible refine EW.of ?_); cbv))))
      first
        | refine ⟨⟨rfl⟩, q9, E.int.l l9, by rw [hq9, hl9, hlo]; first | done | rfl, by rw [hl9, hlo, List.nil_append, E.int.cons, E.int.nil, E.iv]; first | done | rfl, Nat.zero_le _, by omega, by omega, ?_⟩
        | refine ⟨⟨rfl⟩, q9, E.int.l l9, by rw [hq9, hl9, hlo, hok]; simp, by rw [hl9, hlo, E.int.app, E.int.cons, E.int.nil, E.iv, List.take_of_length_le (by rw [E.int.len, hok]; exact Nat.le_refl _)], by rw [E.int.len, hok]; exact Nat.le_refl _, by omega, by omega, ?_⟩
      cbv
      ((try cbv) <;> (repeat ((with_reducible refine EW.of ?_); cbv)))
      refine LM.of (j + 1, some (q9, l9)) rfl ?_ ?_ ?_
      · rw [hS]; exact ⟨by show j + 1 ≤ _; omega, hq9, by show l9 = _; rw [hl9, htk]⟩
      · rw [hS]; show ks.length - (j + 1) < ks.length - j; omega
      · rw [hS]; (cbv; (repeat (first | exact trivial | refine And.intro (Emb.Pur _ _) ?_ | refine And.intro rfl ?_ | refine And.intro (Pur.mk rfl) ?_ | refine And.intro (Pur.mk (by assumption)) ?_)); refine And.intro (inc_eq A (by omega)) ?_; (repeat (first | exact trivial | refine And.intro (Emb.Pur _ _) ?_ | refine And.intro rfl ?_ | refine And.intro (Pur.mk rfl) ?_ | refine And.intro (Pur.mk (by assumption)) ?_)))
    · have h : ks.length ≤ j := lt_nf h rfl hlk
      have hfin : lo = R := by rw [hout, List.take_of_length_le (by rw [hR, List.length_map]; exact h)]
      ((try cbv) <;> (repeat ((with_reducible refine EW.of ?_); cbv)))
      exact ⟨by rw [← hfin, hlo]; exact E.int.nil.symm, trivial⟩
  | some x =>
    obtain ⟨q, l⟩ := x
    dsimp only [stI, rowI, outI, okI] at e2 hok hlo ⊢
    subst e2
    cbv
    ((try cbv) <;> (repeat ((with_reducible refine EW.of ?_); cbv)))
    refine bsplit (fun h => ?_) (fun h => ?_)
    · have h : j < ks.length := lt_nt h rfl hlk
      obtain ⟨t', ht'⟩ : ∃ t', ks[j]? = some t' := ⟨_, List.getElem?_eq_getElem h⟩
      have htk : R.take (j + 1) = R.take j ++ [kindT t'] := by rw [List.take_add_one, hR, List.getElem?_map, ht']; rfl
      obtain ⟨i', k', s', ks'⟩ := t'
      have hgt := E.getn ht'
      obtain ⟨y, hy⟩ : ∃ y, y = k' := ⟨_, rfl⟩
      have htk : R.take (j + 1) = lo ++ [y] := by rw [htk, hout, hy]; rfl
      rw [← hy] at hgt
      obtain ⟨l9, hl9⟩ : ∃ d, d = lo ++ [y] := ⟨_, rfl⟩
      obtain ⟨q9, hq9⟩ : ∃ q, q = l9.length := ⟨_, rfl⟩
      have hlen9 : l9.length ≤ 1000001 := by rw [hl9, ← htk, List.length_take, hR, List.length_map]; omega
      ((try cbv) <;> (repeat ((with_reducible refine EW.of ?_); cbv)))
      (refine ⟨_, _, rfl, hgt, ?_⟩; cbv; ((try cbv) <;> (repeat ((with_reducible refine EW.of ?_); cbv))))
      first
        | refine ⟨⟨rfl⟩, q9, E.int.l l9, by rw [hq9, hl9, hlo]; first | done | rfl, by rw [hl9, hlo, List.nil_append, E.int.cons, E.int.nil, E.iv]; first | done | rfl, Nat.zero_le _, by omega, by omega, ?_⟩
        | refine ⟨⟨rfl⟩, q9, E.int.l l9, by rw [hq9, hl9, hlo, hok]; simp, by rw [hl9, hlo, E.int.app, E.int.cons, E.int.nil, E.iv, List.take_of_length_le (by rw [E.int.len, hok]; exact Nat.le_refl _)], by rw [E.int.len, hok]; exact Nat.le_refl _, by omega, by omega, ?_⟩
      cbv
      ((try cbv) <;> (repeat ((with_reducible refine EW.of ?_); cbv)))
      refine LM.of (j + 1, some (q9, l9)) rfl ?_ ?_ ?_
      · rw [hS]; exact ⟨by show j + 1 ≤ _; omega, hq9, by show l9 = _; rw [hl9, htk]⟩
      · rw [hS]; show ks.length - (j + 1) < ks.length - j; omega
      · rw [hS]; (cbv; (repeat (first | exact trivial | refine And.intro (Emb.Pur _ _) ?_ | refine And.intro rfl ?_ | refine And.intro (Pur.mk rfl) ?_ | refine And.intro (Pur.mk (by assumption)) ?_)); refine And.intro (inc_eq A (by omega)) ?_; (repeat (first | exact trivial | refine And.intro (Emb.Pur _ _) ?_ | refine And.intro rfl ?_ | refine And.intro (Pur.mk rfl) ?_ | refine And.intro (Pur.mk (by assumption)) ?_)))
    · have h : ks.length ≤ j := lt_nf h rfl hlk
      have hfin : lo = R := by rw [hout, List.take_of_length_le (by rw [hR, List.length_map]; exact h)]
      ((try cbv) <;> (repeat ((with_reducible refine EW.of ?_); cbv)))
      exact ⟨by rw [← hfin, hlo]; exact E.int.cut hok, E.int.Pur _, trivial⟩
set_option maxHeartbeats 1000000 in
theorem Kinds33 (A : Ar) (E : Em) {P : Program} (hP : P = Try.prog) (t : Tree) (hl : kidsL t ≤ 1000000) : TPure P 33 [E.tree.v t] (.sl 1 (E.int.l (kindsT t))) := by
  obtain ⟨i, k, s, ks⟩ := t
  have hll := E.tree.len ks
  have hlk : A.len (E.tree.l ks) = (ks.length : Int) := by rw [A.ok_len, hll]
  have hl : ks.length ≤ 1000000 := hl
  obtain ⟨R, hR⟩ : ∃ R, R = ks.map kindT := ⟨_, rfl⟩
  show TPure P _ _ (.sl 1 (E.int.l (ks.map kindT)))
  rw [← hR, E.node]
  refine TPure.ofE A T0 (T0_ok hP) (hP ▸ Try.func33) rfl _ rfl (by simp) ?_
  cbv
  ((try cbv) <;> (repeat ((with_reducible refine EW.of ?_); cbv)))
  obtain ⟨S, hS⟩ : ∃ S : LI (Nat × Option (Nat × List Int)), S = ⟨fun x => [(4, .int .i64 x.1), (3, rowI 1 x.2), (1, .ref 0 4 0 0), (2, .nils)], fun x => stI E [some (.box 4 (.agg [.int .i64 i, .int .i64 k, .str s, .sl 4 (E.tree.l ks)]))] x.2, fun x => x.1 ≤ ks.length ∧ okI x.2 ∧ outI x.2 = R.take x.1, fun x => ks.length - x.1⟩ := ⟨_, rfl⟩
  refine TW.loopM A (T0_ok hP) S _ rfl (0, none) ?_ ?_ ?_
  · rw [hS]; exact ⟨Nat.zero_le _, trivial, rfl⟩
  · rw [hS]; cbv; (repeat (first | exact trivial | refine And.intro (Emb.Pur _ _) ?_ | refine And.intro rfl ?_ | refine And.intro (Pur.mk rfl) ?_ | refine And.intro (Pur.mk (by assumption)) ?_))
  rintro ⟨j, o⟩ hj l1 L1 e1 e2
  rw [hS] at hj e1 e2
  dsimp only at hj e1 e2
  obtain ⟨hj, hok, hout⟩ := hj
  subst e1
  obtain ⟨lo, hlo⟩ : ∃ l, l = outI o := ⟨_, rfl⟩
  rw [← hlo] at hout
  cases o with
  | none =>
    dsimp only [stI, rowI, outI, okI] at e2 hok hlo ⊢
    subst e2
    cbv
    ((try cbv) <;> (repeat ((with_reducible refine EW.of ?_); cbv)))
    refine bsplit (fun h => ?_) (fun h => ?_)
    · have h : j < ks.length := lt_nt h rfl hlk
      obtain ⟨t', ht'⟩ : ∃ t', ks[j]? = some t' := ⟨_, List.getElem?_eq_getElem h⟩
      have htk : R.take (j + 1) = R.take j ++ [kindT t'] := by rw [List.take_add_one, hR, List.getElem?_map, ht']; rfl
      obtain ⟨i', k', s', ks'⟩ := t'
      have hgt := E.getn ht'
      obtain ⟨y, hy⟩ : ∃ y, y = k' := ⟨_, rfl⟩
      have htk : R.take (j + 1) = lo ++ [y] := by rw [htk, hout, hy]; rfl
      rw [← hy] at hgt
      obtain ⟨l9, hl9⟩ : ∃ d, d = lo ++ [y] := ⟨_, rfl⟩
      obtain ⟨q9, hq9⟩ : ∃ q, q = l9.length := ⟨_, rfl⟩
      have hlen9 : l9.length ≤ 1000001 := by rw [hl9, ← htk, List.length_take, hR, List.length_map]; omega
      ((try cbv) <;> (repeat ((with_reducible refine EW.of ?_); cbv)))
      (refine ⟨_, _, rfl, hgt, ?_⟩; cbv; ((try cbv) <;> (repeat ((with_reducible refine EW.of ?_); cbv))))
      first
        | refine ⟨⟨rfl⟩, q9, E.int.l l9, by rw [hq9, hl9, hlo]; first | done | rfl, by rw [hl9, hlo, List.nil_append, E.int.cons, E.int.nil, E.iv]; first | done | rfl, Nat.zero_le _, by omega, by omega, ?_⟩
        | refine ⟨⟨rfl⟩, q9, E.int.l l9, by rw [hq9, hl9, hlo, hok]; simp, by rw [hl9, hlo, E.int.app, E.int.cons, E.int.nil, E.iv, List.take_of_length_le (by rw [E.int.len, hok]; exact Nat.le_refl _)], by rw [E.int.len, hok]; exact Nat.le_refl _, by omega, by omega, ?_⟩
      cbv
      ((try cbv) <;> (repeat ((with_reducible refine EW.of ?_); cbv)))
      refine LM.of (j + 1, some (q9, l9)) rfl ?_ ?_ ?_
      · rw [hS]; exact ⟨by show j + 1 ≤ _; omega, hq9, by show l9 = _; rw [hl9, htk]⟩
      · rw [hS]; show ks.length - (j + 1) < ks.length - j; omega
      · rw [hS]; (cbv; (repeat (first | exact trivial | refine And.intro (Emb.Pur _ _) ?_ | refine And.intro rfl ?_ | refine And.intro (Pur.mk rfl) ?_ | refine And.intro (Pur.mk (by assumption)) ?_)); refine And.intro (inc_eq A (by omega)) ?_; (repeat (first | exact trivial | refine And.intro (Emb.Pur _ _) ?_ | refine And.intro rfl ?_ | refine And.intro (Pur.mk rfl) ?_ | refine And.intro (Pur.mk (by assumption)) ?_)))
    · have h : ks.length ≤ j := lt_nf h rfl hlk
      have hfin : lo = R := by rw [hout, List.take_of_length_le (by rw [hR, List.length_map]; exact h)]
      ((try cbv) <;> (repeat ((with_reducible refine EW.of ?_); cbv)))
      exact ⟨by rw [← hfin, hlo]; exact E.int.nil.symm, trivial⟩
  | some x =>
    obtain ⟨q, l⟩ := x
    dsimp only [stI, rowI, outI, okI] at e2 hok hlo ⊢
    subst e2
    cbv
    ((try cbv) <;> (repeat ((with_reducible refine EW.of ?_); cbv)))
    refine bsplit (fun h => ?_) (fun h => ?_)
    · have h : j < ks.length := lt_nt h rfl hlk
      obtain ⟨t', ht'⟩ : ∃ t', ks[j]? = some t' := ⟨_, List.getElem?_eq_getElem h⟩
      have htk : R.take (j + 1) = R.take j ++ [kindT t'] := by rw [List.take_add_one, hR, List.getElem?_map, ht']; rfl
      obtain ⟨i', k', s', ks'⟩ := t'
      have hgt := E.getn ht'
      obtain ⟨y, hy⟩ : ∃ y, y = k' := ⟨_, rfl⟩
      have htk : R.take (j + 1) = lo ++ [y] := by rw [htk, hout, hy]; rfl
      rw [← hy] at hgt
      obtain ⟨l9, hl9⟩ : ∃ d, d = lo ++ [y] := ⟨_, rfl⟩
      obtain ⟨q9, hq9⟩ : ∃ q, q = l9.length := ⟨_, rfl⟩
      have hlen9 : l9.length ≤ 1000001 := by rw [hl9, ← htk, List.length_take, hR, List.length_map]; omega
      ((try cbv) <;> (repeat ((with_reducible refine EW.of ?_); cbv)))
      (refine ⟨_, _, rfl, hgt, ?_⟩; cbv; ((try cbv) <;> (repeat ((with_reducible refine EW.of ?_); cbv))))
      first
        | refine ⟨⟨rfl⟩, q9, E.int.l l9, by rw [hq9, hl9, hlo]; first | done | rfl, by rw [hl9, hlo, List.nil_append, E.int.cons, E.int.nil, E.iv]; first | done | rfl, Nat.zero_le _, by omega, by omega, ?_⟩
        | refine ⟨⟨rfl⟩, q9, E.int.l l9, by rw [hq9, hl9, hlo, hok]; simp, by rw [hl9, hlo, E.int.app, E.int.cons, E.int.nil, E.iv, List.take_of_length_le (by rw [E.int.len, hok]; exact Nat.le_refl _)], by rw [E.int.len, hok]; exact Nat.le_refl _, by omega, by omega, ?_⟩
      cbv
      ((try cbv) <;> (repeat ((with_reducible refine EW.of ?_); cbv)))
      refine LM.of (j + 1, some (q9, l9)) rfl ?_ ?_ ?_
      · rw [hS]; exact ⟨by show j + 1 ≤ _; omega, hq9, by show l9 = _; rw [hl9, htk]⟩
      · rw [hS]; show ks.length - (j + 1) < ks.length - j; omega
      · rw [hS]; (cbv; (repeat (first | exact trivial | refine And.intro (Emb.Pur _ _) ?_ | refine And.intro rfl ?_ | refine And.intro (Pur.mk rfl) ?_ | refine And.intro (Pur.mk (by assumption)) ?_)); refine And.intro (inc_eq A (by omega)) ?_; (repeat (first | exact trivial | refine And.intro (Emb.Pur _ _) ?_ | refine And.intro rfl ?_ | refine And.intro (Pur.mk rfl) ?_ | refine And.intro (Pur.mk (by assumption)) ?_)))
    · have h : ks.length ≤ j := lt_nf h rfl hlk
      have hfin : lo = R := by rw [hout, List.take_of_length_le (by rw [hR, List.length_map]; exact h)]
      ((try cbv) <;> (repeat ((with_reducible refine EW.of ?_); cbv)))
      exact ⟨by rw [← hfin, hlo]; exact E.int.cut hok, E.int.Pur _, trivial⟩
end Go.Proofs.Ytlngpfocngfokaa
