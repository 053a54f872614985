import Derived.Test.YtaieiigfheabfaaLp
/-! Steps; trees and steps compared. -/
namespace Go.Proofs.Ytaieiigfheabfaa
open Go.Proofs.Ytaieiigfheabfaa.Tw
structure Stp where
  op : Int
  id : Int
  par : Int
  pl : Int
  text : ByteArray
  sub : Tree
def Stp.av : Stp → AV
  | ⟨op, id, par, pl, text, .node i k s ks⟩ => .agg [.int .i8 op, .int .i64 id, .int .i64 par, .int .i64 pl, .str text, .int .i64 i, .int .i64 k, .str s, .sl 4 (avs ks)]
theorem Stp.av_pur : ∀ x : Stp, x.av.pur = true
  | ⟨op, id, par, pl, text, .node i k s ks⟩ => by simp only [Stp.av, AV.pur, Tw.purL, Bool.true_and, Bool.and_true]; exact avs_pur ks
/-- Steps, not reckoned out. -/
structure EmS where
  l : Emb Stp
  ok : l.v = Stp.av
def emS0 : EmS := ⟨⟨Stp.av, _, fun _ => rfl, Stp.av_pur⟩, rfl⟩
theorem EmS.v (F : EmS) (E : Em) (op id par pl : Int) (text : ByteArray) (i k : Int) (s : ByteArray) (ks : List Tree) : F.l.v ⟨op, id, par, pl, text, .node i k s ks⟩ = .agg [.int .i8 op, .int .i64 id, .int .i64 par, .int .i64 pl, .str text, .int .i64 i, .int .i64 k, .str s, .sl 4 (E.tree.l ks)] := by
  rw [F.ok, Stp.av, E.trees]
theorem EmS.get (F : EmS) (E : Em) {l : List Stp} {j : Nat} {op id par pl : Int} {text : ByteArray} {i k : Int} {s : ByteArray} {ks : List Tree} (h : l[j]? = some ⟨op, id, par, pl, text, .node i k s ks⟩) : (F.l.l l)[j]? = some (.agg [.int .i8 op, .int .i64 id, .int .i64 par, .int .i64 pl, .str text, .int .i64 i, .int .i64 k, .str s, .sl 4 (E.tree.l ks)]) := by rw [F.l.get h, F.v E]
mutual
def sameT : Tree → Tree → Bool
  | .node i k s ks, .node i' k' s' ks' => decide (i = i') && (decide (k = k') && (strEq s s' && sameK ks ks'))
def sameK : List Tree → List Tree → Bool
  | [], [] => true
  | t :: ts, u :: us => sameT t u && sameK ts us
  | _, _ => false
end
theorem sameK_len : ∀ {ts us : List Tree}, ts.length ≠ us.length → sameK ts us = false
  | [], [], h => absurd rfl h
  | t :: ts, u :: us, h => by
    simp only [sameK]
    rw [sameK_len (fun e => h (by simp [e])), Bool.and_false]
  | [], u :: us, _ => rfl
  | t :: ts, [], _ => rfl
theorem sameK_drop {ts us : List Tree} {j : Nat} {t u : Tree} (ht : ts[j]? = some t) (hu : us[j]? = some u) : sameK (ts.drop j) (us.drop j) = (sameT t u && sameK (ts.drop (j + 1)) (us.drop (j + 1))) := by
  have h1 := List.drop_eq_getElem?_toList_append (l := ts) (i := j)
  have h2 := List.drop_eq_getElem?_toList_append (l := us) (i := j)
  rw [ht] at h1
  rw [hu] at h2
  rw [h1, h2]
  rfl
mutual
theorem sameT_refl : ∀ t : Tree, sameT t t = true
  | .node i k s ks => by simp [sameT, sameK_refl ks, strEq]
theorem sameK_refl : ∀ ts : List Tree, sameK ts ts = true
  | [] => rfl
  | t :: ts => by simp [sameK, sameT_refl t, sameK_refl ts]
end
set_option maxHeartbeats 1000000 in
theorem sameN (A : Ar) (E : Em) {P : Program} (hP : P = Try.prog) : ∀ (n : Nat) (t u : Tree), SizeOf.sizeOf t < n → t.ok → TPure P 18 [E.tree.v t, E.tree.v u] (.bool (sameT t u)) := by
  intro n
  induction n with
  | zero => exact fun _ _ h => absurd h (Nat.not_lt_zero _)
  | succ n ih =>
  intro t u hsz hw
  refine TPure.ofE A T0 (T0_ok hP) (hP ▸ Try.func18) rfl _ rfl (by simp) ?_
  obtain ⟨i, k, s, ks⟩ := t
  obtain ⟨i', k', s', us⟩ := u
  have hll := E.tree.len ks
  have hlu := E.tree.len us
  have hwl := hw.len
  simp only [E.node, sameT]
  obtain ⟨r, hr⟩ : ∃ r, r = (decide (i = i') && (decide (k = k') && (strEq s s' && sameK ks us))) := ⟨_, rfl⟩
  rw [← hr]
  cbv
  ((try cbv) <;> (repeat ((with_reducible refine EW.of ?_); cbv)))
  refine bsplit (fun h => ?_) (fun h => ?_)
  · have h : i ≠ i' := ne_t h rfl rfl
    rw [decide_eq_false h] at hr
    replace hr : r = false := by rw [hr]; simp
    subst hr
    ((try cbv) <;> (repeat ((with_reducible refine EW.of ?_); cbv)))
  have h : i = i' := ne_f h rfl rfl
  rw [decide_eq_true h] at hr
  ((try cbv) <;> (repeat ((with_reducible refine EW.of ?_); cbv)))
  refine bsplit (fun h => ?_) (fun h => ?_)
  · have h : k ≠ k' := ne_t h rfl rfl
    rw [decide_eq_false h] at hr
    replace hr : r = false := by rw [hr]; simp
    subst hr
    ((try cbv) <;> (repeat ((with_reducible refine EW.of ?_); cbv)))
  have h : k = k' := ne_f h rfl rfl
  rw [decide_eq_true h] at hr
  ((try cbv) <;> (repeat ((with_reducible refine EW.of ?_); cbv)))
  refine bsplit (fun h => ?_) (fun h => ?_)
  · have h : strEq s s' = false := sne_t h
    rw [h] at hr
    replace hr : r = false := by rw [hr]; simp
    subst hr
    ((try cbv) <;> (repeat ((with_reducible refine EW.of ?_); cbv)))
  have h : strEq s s' = true := sne_f h
  rw [h] at hr
  ((try cbv) <;> (repeat ((with_reducible refine EW.of ?_); cbv)))
  refine bsplit (fun h => ?_) (fun h => ?_)
  · have h : (E.tree.l ks).length ≠ (E.tree.l us).length := lenne_t h
    rw [sameK_len (by omega)] at hr
    replace hr : r = false := by rw [hr]; simp
    subst hr
    ((try cbv) <;> (repeat ((with_reducible refine EW.of ?_); cbv)))
  have h : (E.tree.l ks).length = (E.tree.l us).length := lenne_f h
  replace hr : r = sameK ks us := by rw [hr]; rfl
  ((try cbv) <;> (repeat ((with_reducible refine EW.of ?_); cbv)))
  obtain ⟨z, hz⟩ : ∃ z : Store, z = [some (.box 4 (.agg [.int .i64 i, .int .i64 k, .str s, .sl 4 (E.tree.l ks)])), some (.box 4 (.agg [.int .i64 i', .int .i64 k', .str s', .sl 4 (E.tree.l us)]))] := ⟨_, rfl⟩
  obtain ⟨S, hS⟩ : ∃ S : LI Nat, S = ⟨fun j => [(5, .int .i64 j), (2, .ref 0 4 0 0), (3, .ref 1 4 0 0)], fun _ => z, fun j => j ≤ ks.length ∧ r = sameK (ks.drop j) (us.drop j), fun j => ks.length - j⟩ := ⟨_, rfl⟩
  refine TW.loopM A (T0_ok hP) S 53 rfl 0 ?_ ?_ ?_
  · rw [hS]; exact ⟨Nat.zero_le _, hr⟩
  · rw [hS, hz]; cbv; (repeat (first | exact trivial | refine And.intro (Emb.Pur _ _) ?_ | refine And.intro rfl ?_ | refine And.intro (Pur.mk rfl) ?_ | refine And.intro (Pur.mk (by assumption)) ?_))
  intro j hj l1 L1 e1 e2; rw [hS] at hj e1 e2; dsimp only at hj e1 e2; obtain ⟨hj, hinv⟩ := hj; subst e1 e2
  rw [hz]
  cbv
  ((try cbv) <;> (repeat ((with_reducible refine EW.of ?_); cbv)))
  refine bsplit (fun h2 => ?_) (fun h2 => ?_)
  · have h2 : j < (E.tree.l ks).length := lt_nt h2 rfl (A.ok_len _)
    obtain ⟨t', ht'⟩ : ∃ t', ks[j]? = some t' := ⟨_, List.getElem?_eq_getElem (by omega)⟩
    obtain ⟨u', hu'⟩ : ∃ u', us[j]? = some u' := ⟨_, List.getElem?_eq_getElem (by omega)⟩
    rw [sameK_drop ht' hu'] at hinv
    have hrec := ih t' u' (by have := Tree.kid_lt (i := i) (k := k) (s := s) (List.mem_of_getElem? ht'); omega) (hw.kid (List.mem_of_getElem? ht'))
    generalize sameT t' u' = b at hrec hinv
    obtain ⟨i1, k1, s1, ks1⟩ := t'
    obtain ⟨i2, k2, s2, ks2⟩ := u'
    simp only [E.node] at hrec
    ((try cbv) <;> (repeat ((with_reducible refine EW.of ?_); cbv)))
    (refine TW.draw (A := A) (T0_ok hP) (hP ▸ follows_mixed) (by kernel_rfl) rfl ?_; cbv)
    refine ⟨j, _, rfl, E.getn ht', ?_⟩
    cbv
    refine ⟨j, _, rfl, E.getn hu', ?_⟩
    cbv
    (refine ⟨Ent.of (hP ▸ Try.func18) rfl, ?_⟩; refine ⟨_, TC.pureX hrec (by cbv; (repeat (first | exact trivial | refine And.intro (Emb.Pur _ _) ?_ | refine And.intro rfl ?_ | refine And.intro (Pur.mk rfl) ?_ | refine And.intro (Pur.mk (by assumption)) ?_))), ?_⟩; cbv)
    cases b with
    | true =>
      replace hinv : r = sameK (ks.drop (j + 1)) (us.drop (j + 1)) := by rw [hinv]; rfl
      ((try cbv) <;> (repeat ((with_reducible refine EW.of ?_); cbv)))
      refine LM.of (j + 1) rfl ?_ ?_ ?_
      · rw [hS]; exact ⟨by show j + 1 ≤ _; omega, hinv⟩
      · rw [hS]; show ks.length - (j + 1) < ks.length - j; omega
      · rw [hS, hz]; (cbv; (repeat (first | exact trivial | refine And.intro (Emb.Pur _ _) ?_ | refine And.intro rfl ?_ | refine And.intro (Pur.mk rfl) ?_ | refine And.intro (Pur.mk (by assumption)) ?_)); refine And.intro (inc_eq A (by omega)) ?_; (repeat (first | exact trivial | refine And.intro (Emb.Pur _ _) ?_ | refine And.intro rfl ?_ | refine And.intro (Pur.mk rfl) ?_ | refine And.intro (Pur.mk (by assumption)) ?_)))
    | false =>
      replace hinv : r = false := by rw [hinv]; rfl
      subst hinv
      ((try cbv) <;> (repeat ((with_reducible refine EW.of ?_); cbv)))
  · have h2 : (E.tree.l ks).length ≤ j := lt_nf h2 rfl (A.ok_len _)
    rw [List.drop_eq_nil_of_le (by omega), List.drop_eq_nil_of_le (by omega)] at hinv
    replace hinv : r = true := hinv
    subst hinv
    ((try cbv) <;> (repeat ((with_reducible refine EW.of ?_); cbv)))
theorem Same28 (A : Ar) (E : Em) {P : Program} (hP : P = Try.prog) (t u : Tree) (hw : t.ok) : TPure P 18 [E.tree.v t, E.tree.v u] (.bool (sameT t u)) := sameN A E hP _ t u (Nat.lt_succ_self _) hw
/-- Are two steps the same? -/
def sameS (x y : Stp) : Bool := decide (x.op = y.op) && (decide (x.id = y.id) && (decide (x.par = y.par) && (decide (x.pl = y.pl) && (strEq x.text y.text && sameT x.sub y.sub))))
def sameL : List Stp → List Stp → Bool
  | [], [] => true
  | t :: ts, u :: us => sameS t u && sameL ts us
  | _, _ => false
theorem sameL_len : ∀ {ts us : List Stp}, ts.length ≠ us.length → sameL ts us = false
  | [], [], h => absurd rfl h
  | t :: ts, u :: us, h => by
    simp only [sameL]
    rw [sameL_len (fun e => h (by simp [e])), Bool.and_false]
  | [], u :: us, _ => rfl
  | t :: ts, [], _ => rfl
theorem sameL_drop {ts us : List Stp} {j : Nat} {t u : Stp} (ht : ts[j]? = some t) (hu : us[j]? = some u) : sameL (ts.drop j) (us.drop j) = (sameS t u && sameL (ts.drop (j + 1)) (us.drop (j + 1))) := by
  have h1 := List.drop_eq_getElem?_toList_append (l := ts) (i := j)
  have h2 := List.drop_eq_getElem?_toList_append (l := us) (i := j)
  rw [ht] at h1
  rw [hu] at h2
  rw [h1, h2]
  rfl
theorem sameS_refl (x : Stp) : sameS x x = true := by simp [sameS, sameT_refl, strEq]
theorem sameL_refl : ∀ ts : List Stp, sameL ts ts = true
  | [] => rfl
  | t :: ts => by simp [sameL, sameS_refl t, sameL_refl ts]
set_option maxHeartbeats 1000000 in
theorem SameStep58 (A : Ar) (E : Em) (F : EmS) {P : Program} (hP : P = Try.prog) (x y : Stp) (hw : x.sub.ok) : TPure P 28 [F.l.v x, F.l.v y] (.bool (sameS x y)) := by
  obtain ⟨op, id, par, pl, tx, ⟨i, k, s, ks⟩⟩ := x
  obtain ⟨op', id', par', pl', tx', ⟨i', k', s', ks'⟩⟩ := y
  have h28 := Same28 A E hP (.node i k s ks) (.node i' k' s' ks') hw
  rw [F.v E, F.v E]
  unfold sameS
  dsimp only
  obtain ⟨st, hst⟩ : ∃ b, b = sameT (.node i k s ks) (.node i' k' s' ks') := ⟨_, rfl⟩
  rw [← hst] at h28 ⊢
  obtain ⟨r, hr⟩ : ∃ r, r = (decide (op = op') && (decide (id = id') && (decide (par = par') && (decide (pl = pl') && (strEq tx tx' && st))))) := ⟨_, rfl⟩
  rw [← hr]
  rw [E.node, E.node] at h28
  refine TPure.ofE A T0 (T0_ok hP) (hP ▸ Try.func28) rfl _ rfl (by simp) ?_
  cbv
  ((try cbv) <;> (repeat ((with_reducible refine EW.of ?_); cbv)))
  refine bsplit (fun h => ?_) (fun h => ?_)
  rotate_left
  · have h : ¬ (op = op') := eq_f h rfl rfl
    rw [decide_eq_false h] at hr
    replace hr : r = false := by rw [hr]; simp
    subst hr
    cbv
    ((try cbv) <;> (repeat ((with_reducible refine EW.of ?_); cbv)))
  have h : op = op' := eq_t h rfl rfl
  rw [decide_eq_true h] at hr
  cbv
  refine bsplit (fun h => ?_) (fun h => ?_)
  rotate_left
  · have h : ¬ (id = id') := eq_f h rfl rfl
    rw [decide_eq_false h] at hr
    replace hr : r = false := by rw [hr]; simp
    subst hr
    cbv
    ((try cbv) <;> (repeat ((with_reducible refine EW.of ?_); cbv)))
  have h : id = id' := eq_t h rfl rfl
  rw [decide_eq_true h] at hr
  cbv
  refine bsplit (fun h => ?_) (fun h => ?_)
  rotate_left
  · have h : ¬ (par = par') := eq_f h rfl rfl
    rw [decide_eq_false h] at hr
    replace hr : r = false := by rw [hr]; simp
    subst hr
    cbv
    ((try cbv) <;> (repeat ((with_reducible refine EW.of ?_); cbv)))
  have h : par = par' := eq_t h rfl rfl
  rw [decide_eq_true h] at hr
  cbv
  refine bsplit (fun h => ?_) (fun h => ?_)
  rotate_left
  · have h : ¬ (pl = pl') := eq_f h rfl rfl
    rw [decide_eq_false h] at hr
    replace hr : r = false := by rw [hr]; simp
    subst hr
    cbv
    ((try cbv) <;> (repeat ((with_reducible refine EW.of ?_); cbv)))
  have h : pl = pl' := eq_t h rfl rfl
  rw [decide_eq_true h] at hr
  cbv
  refine bsplit (fun h => ?_) (fun h => ?_)
  rotate_left
  · have h : strEq tx tx' = false := seq_f h
    rw [h] at hr
    replace hr : r = false := by rw [hr]; simp
    subst hr
    cbv
    ((try cbv) <;> (repeat ((with_reducible refine EW.of ?_); cbv)))
  have h : strEq tx tx' = true := seq_t h
  rw [h] at hr
  replace hr : r = st := by rw [hr]; rfl
  subst hr
  cbv
  (refine ⟨Ent.of (hP ▸ Try.func18) rfl, ?_⟩; refine TC.pureE h28 ?_; cbv; (repeat (first | exact trivial | refine And.intro (Emb.Pur _ _) ?_ | refine And.intro rfl ?_ | refine And.intro (Pur.mk rfl) ?_ | refine And.intro (Pur.mk (by assumption)) ?_)); ((try cbv) <;> (repeat ((with_reducible refine EW.of ?_); cbv))))
set_option maxHeartbeats 1000000 in
theorem SameSteps31 (A : Ar) (E : Em) (F : EmS) {P : Program} (hP : P = Try.prog) (ks us : List Stp) (hw : ∀ x ∈ ks, x.sub.ok) (hkl : ks.length ≤ 9223372036854775807) : TPure P 12 [.sl 9 (F.l.l ks), .sl 9 (F.l.l us)] (.bool (sameL ks us)) := by
  have hll := F.l.len ks
  have hlu := F.l.len us
  obtain ⟨r, hr⟩ : ∃ r, r = sameL ks us := ⟨_, rfl⟩
  rw [← hr]
  refine TPure.ofE A T0 (T0_ok hP) (hP ▸ Try.func12) rfl _ rfl (by simp) ?_
  cbv
  ((try cbv) <;> (repeat ((with_reducible refine EW.of ?_); cbv)))
  refine bsplit (fun h => ?_) (fun h => ?_)
  · have h : (F.l.l ks).length ≠ (F.l.l us).length := lenne_t h
    rw [sameL_len (by omega)] at hr
    subst hr
    cbv
    ((try cbv) <;> (repeat ((with_reducible refine EW.of ?_); cbv)))
  have h : (F.l.l ks).length = (F.l.l us).length := lenne_f h
  cbv
  ((try cbv) <;> (repeat ((with_reducible refine EW.of ?_); cbv)))
  obtain ⟨S, hS⟩ : ∃ S : LI Nat, S = ⟨fun j => [(5, .int .i64 j), (4, .bool false), (0, .sl 9 (F.l.l ks)), (1, .sl 9 (F.l.l us))], fun _ => [], fun j => j ≤ ks.length ∧ r = sameL (ks.drop j) (us.drop j), fun j => ks.length - j⟩ := ⟨_, rfl⟩
  refine TW.loopM A (T0_ok hP) S _ rfl 0 ?_ ?_ ?_
  · rw [hS]; exact ⟨Nat.zero_le _, hr⟩
  · rw [hS]; cbv; (repeat (first | exact trivial | refine And.intro (Emb.Pur _ _) ?_ | refine And.intro rfl ?_ | refine And.intro (Pur.mk rfl) ?_ | refine And.intro (Pur.mk (by assumption)) ?_))
  intro j hj l1 L1 e1 e2; rw [hS] at hj e1 e2; dsimp only at hj e1 e2; obtain ⟨hj, hinv⟩ := hj; subst e1 e2
  cbv
  ((try cbv) <;> (repeat ((with_reducible refine EW.of ?_); cbv)))
  refine bsplit (fun h2 => ?_) (fun h2 => ?_)
  · have h2 : j < (F.l.l ks).length := lt_nt h2 rfl (A.ok_len _)
    obtain ⟨t', ht'⟩ : ∃ t', ks[j]? = some t' := ⟨_, List.getElem?_eq_getElem (by omega)⟩
    obtain ⟨u', hu'⟩ : ∃ u', us[j]? = some u' := ⟨_, List.getElem?_eq_getElem (by omega)⟩
    rw [sameL_drop ht' hu'] at hinv
    have hrec := SameStep58 A E F hP t' u' (hw t' (List.mem_of_getElem? ht'))
    generalize sameS t' u' = b at hrec hinv
    obtain ⟨op, id, par, pl, tx, ⟨i, k, s, ks1⟩⟩ := t'
    obtain ⟨op', id', par', pl', tx', ⟨i', k', s', ks2⟩⟩ := u'
    rw [F.v E, F.v E] at hrec
    ((try cbv) <;> (repeat ((with_reducible refine EW.of ?_); cbv)))
    (refine TW.draw (A := A) (T0_ok hP) (hP ▸ follows_mixed) (by kernel_rfl) rfl ?_; cbv)
    refine ⟨j, _, rfl, F.get E ht', ?_⟩
    cbv
    refine ⟨j, _, rfl, F.get E hu', ?_⟩
    cbv
    (refine ⟨Ent.of (hP ▸ Try.func28) rfl, ?_⟩; refine ⟨_, TC.pureX hrec (by cbv; (repeat (first | exact trivial | refine And.intro (Emb.Pur _ _) ?_ | refine And.intro rfl ?_ | refine And.intro (Pur.mk rfl) ?_ | refine And.intro (Pur.mk (by assumption)) ?_))), ?_⟩; cbv)
    cases b with
    | true =>
      replace hinv : r = sameL (ks.drop (j + 1)) (us.drop (j + 1)) := by rw [hinv]; rfl
      ((try cbv) <;> (repeat ((with_reducible refine EW.of ?_); cbv)))
      refine LM.of (j + 1) rfl ?_ ?_ ?_
      · rw [hS]; exact ⟨by show j + 1 ≤ _; omega, hinv⟩
      · rw [hS]; show ks.length - (j + 1) < ks.length - j; omega
      · rw [hS]; (cbv; (repeat (first | exact trivial | refine And.intro (Emb.Pur _ _) ?_ | refine And.intro rfl ?_ | refine And.intro (Pur.mk rfl) ?_ | refine And.intro (Pur.mk (by assumption)) ?_)); refine And.intro (inc_eq A (by omega)) ?_; (repeat (first | exact trivial | refine And.intro (Emb.Pur _ _) ?_ | refine And.intro rfl ?_ | refine And.intro (Pur.mk rfl) ?_ | refine And.intro (Pur.mk (by assumption)) ?_)))
    | false =>
      replace hinv : r = false := by rw [hinv]; rfl
      subst hinv
      ((try cbv) <;> (repeat ((with_reducible refine EW.of ?_); cbv)))
  · have h2 : (F.l.l ks).length ≤ j := lt_nf h2 rfl (A.ok_len _)
    rw [List.drop_eq_nil_of_le (by omega), List.drop_eq_nil_of_le (by omega)] at hinv
    replace hinv : r = true := hinv
    subst hinv
    ((try cbv) <;> (repeat ((with_reducible refine EW.of ?_); cbv)))
end Go.Proofs.Ytaieiigfheabfaa
