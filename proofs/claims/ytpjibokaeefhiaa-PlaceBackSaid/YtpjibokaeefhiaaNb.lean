import Derived.Test.YtpjibokaeefhiaaNa
/-! Two trees compared. -/
namespace Go.Proofs.Ytpjibokaeefhiaa
open Go.Proofs.Ytpjibokaeefhiaa.Tw
mutual
def sameT : Tree → Tree → Bool
  | .node i k s ks, .node i' k' s' ks' => decide (i = i') && (decide (k = k') && (strEq s s' && sameK ks ks'))
def sameK : List Tree → List Tree → Bool
  | [], [] => true
  | t :: ts, u :: us => sameT t u && sameK ts us
  | _, _ => false
end
theorem sameK_len : ∀ {ts us : List Tree}, ts.length ≠ us.length → sameK ts us = false
  | [], [], h => absurd rfl h
  | t :: ts, u :: us, h => by
    simp only [sameK]
    rw [sameK_len (fun e => h (by simp [e])), Bool.and_false]
  | [], u :: us, _ => rfl
  | t :: ts, [], _ => rfl
theorem sameK_drop {ts us : List Tree} {j : Nat} {t u : Tree} (ht : ts[j]? = some t) (hu : us[j]? = some u) : sameK (ts.drop j) (us.drop j) = (sameT t u && sameK (ts.drop (j + 1)) (us.drop (j + 1))) := by
  have h1 := List.drop_eq_getElem?_toList_append (l := ts) (i := j)
  have h2 := List.drop_eq_getElem?_toList_append (l := us) (i := j)
  rw [ht] at h1
  rw [hu] at h2
  rw [h1, h2]
  rfl
mutual
theorem sameT_refl : ∀ t : Tree, sameT t t = true
  | .node i k s ks => by simp [sameT, sameK_refl ks, strEq]
theorem sameK_refl : ∀ ts : List Tree, sameK ts ts = true
  | [] => rfl
  | t :: ts => by simp [sameK, sameT_refl t, sameK_refl ts]
end
set_option maxHeartbeats 1000000 in
theorem same31 (A : Ar) (E : Em) {P : Program} (hP : P = Try.prog) : ∀ (n : Nat) (t u : Tree), within n t → TPure P 31 [E.tree.v t, E.tree.v u] (.bool (sameT t u)) := by
  intro n
  induction n with
  | zero => exact fun _ _ h => h.elim
  | succ n ih =>
  intro t u hw
  refine TPure.ofE A T0 (T0_ok hP) (hP ▸ Try.func31) rfl _ rfl (by simp) ?_
  obtain ⟨i, k, s, ks⟩ := t
  obtain ⟨i', k', s', us⟩ := u
  have hll := E.tree.len ks
  have hlu := E.tree.len us
  have hwl := hw.len'
  simp only [E.node, sameT]
  obtain ⟨r, hr⟩ : ∃ r, r = (decide (i = i') && (decide (k = k') && (strEq s s' && sameK ks us))) := ⟨_, rfl⟩
  rw [← hr]
  cbv
  ((try cbv) <;> (repeat ((with_reducible refine EW.of ?_); cbv)))
  refine bsplit (fun h => ?_) (fun h => ?_)
  · have h : i ≠ i' := ne_t h rfl rfl
    rw [decide_eq_false h] at hr
    replace hr : r = false := by rw [hr]; simp
    subst hr
    ((try cbv) <;> (repeat ((with_reducible refine EW.of ?_); cbv)))
  have h : i = i' := ne_f h rfl rfl
  rw [decide_eq_true h] at hr
  ((try cbv) <;> (repeat ((with_reducible refine EW.of ?_); cbv)))
  refine bsplit (fun h => ?_) (fun h => ?_)
  · have h : k ≠ k' := ne_t h rfl rfl
    rw [decide_eq_false h] at hr
    replace hr : r = false := by rw [hr]; simp
    subst hr
    ((try cbv) <;> (repeat ((with_reducible refine EW.of ?_); cbv)))
  have h : k = k' := ne_f h rfl rfl
  rw [decide_eq_true h] at hr
  ((try cbv) <;> (repeat ((with_reducible refine EW.of ?_); cbv)))
  refine bsplit (fun h => ?_) (fun h => ?_)
  · have h : strEq s s' = false := sne_t h
    rw [h] at hr
    replace hr : r = false := by rw [hr]; simp
    subst hr
    ((try cbv) <;> (repeat ((with_reducible refine EW.of ?_); cbv)))
  have h : strEq s s' = true := sne_f h
  rw [h] at hr
  ((try cbv) <;> (repeat ((with_reducible refine EW.of ?_); cbv)))
  refine bsplit (fun h => ?_) (fun h => ?_)
  · have h : (E.tree.l ks).length ≠ (E.tree.l us).length := lenne_t h
    rw [sameK_len (by omega)] at hr
    replace hr : r = false := by rw [hr]; simp
    subst hr
    ((try cbv) <;> (repeat ((with_reducible refine EW.of ?_); cbv)))
  have h : (E.tree.l ks).length = (E.tree.l us).length := lenne_f h
  replace hr : r = sameK ks us := by rw [hr]; rfl
  ((try cbv) <;> (repeat ((with_reducible refine EW.of ?_); cbv)))
  obtain ⟨z, hz⟩ : ∃ z : Store, z = [some (.box 4 (.agg [.int .i64 i, .int .i64 k, .str s, .sl 4 (E.tree.l ks)])), some (.box 4 (.agg [.int .i64 i', .int .i64 k', .str s', .sl 4 (E.tree.l us)]))] := ⟨_, rfl⟩
  obtain ⟨S, hS⟩ : ∃ S : LI Nat, S = ⟨fun j => [(5, .int .i64 j), (2, .ref 0 4 0 0), (3, .ref 1 4 0 0)], fun _ => z, fun j => j ≤ ks.length ∧ r = sameK (ks.drop j) (us.drop j), fun j => ks.length - j⟩ := ⟨_, rfl⟩
  refine TW.loopM A (T0_ok hP) S 53 rfl 0 ?_ ?_ ?_
  · rw [hS]; exact ⟨Nat.zero_le _, hr⟩
  · rw [hS, hz]; cbv; (repeat (first | exact trivial | refine And.intro (Emb.Pur _ _) ?_ | refine And.intro rfl ?_ | refine And.intro (Pur.mk rfl) ?_ | refine And.intro (Pur.mk (by assumption)) ?_))
  intro j hj l1 L1 e1 e2; rw [hS] at hj e1 e2; dsimp only at hj e1 e2; obtain ⟨hj, hinv⟩ := hj; subst e1 e2
  rw [hz]
  cbv
  ((try cbv) <;> (repeat ((with_reducible refine EW.of ?_); cbv)))
  refine bsplit (fun h2 => ?_) (fun h2 => ?_)
  · have h2 : j < (E.tree.l ks).length := lt_nt h2 rfl (A.ok_len _)
    obtain ⟨t', ht'⟩ : ∃ t', ks[j]? = some t' := ⟨_, List.getElem?_eq_getElem (by omega)⟩
    obtain ⟨u', hu'⟩ : ∃ u', us[j]? = some u' := ⟨_, List.getElem?_eq_getElem (by omega)⟩
    rw [sameK_drop ht' hu'] at hinv
    have hrec := ih t' u' (hw.2 t' (List.mem_of_getElem? ht'))
    generalize sameT t' u' = b at hrec hinv
    obtain ⟨i1, k1, s1, ks1⟩ := t'
    obtain ⟨i2, k2, s2, ks2⟩ := u'
    simp only [E.node] at hrec
    ((try cbv) <;> (repeat ((with_reducible refine EW.of ?_); cbv)))
    (refine TW.draw (A := A) (T0_ok hP) (hP ▸ follows_mixed) (by kernel_rfl) rfl ?_; cbv)
    refine ⟨j, _, rfl, E.getn ht', ?_⟩
    cbv
    refine ⟨j, _, rfl, E.getn hu', ?_⟩
    cbv
    (refine ⟨Ent.of (hP ▸ Try.func31) rfl, ?_⟩; refine ⟨_, TC.pureX hrec (by cbv; (repeat (first | exact trivial | refine And.intro (Emb.Pur _ _) ?_ | refine And.intro rfl ?_ | refine And.intro (Pur.mk rfl) ?_ | refine And.intro (Pur.mk (by assumption)) ?_))), ?_⟩; cbv)
    cases b with
    | true =>
      replace hinv : r = sameK (ks.drop (j + 1)) (us.drop (j + 1)) := by rw [hinv]; rfl
      ((try cbv) <;> (repeat ((with_reducible refine EW.of ?_); cbv)))
      refine LM.of (j + 1) rfl ?_ ?_ ?_
      · rw [hS]; exact ⟨by show j + 1 ≤ _; omega, hinv⟩
      · rw [hS]; show ks.length - (j + 1) < ks.length - j; omega
      · rw [hS, hz]; (cbv; (repeat (first | exact trivial | refine And.intro (Emb.Pur _ _) ?_ | refine And.intro rfl ?_ | refine And.intro (Pur.mk rfl) ?_ | refine And.intro (Pur.mk (by assumption)) ?_)); refine And.intro (inc_eq A (by omega)) ?_; (repeat (first | exact trivial | refine And.intro (Emb.Pur _ _) ?_ | refine And.intro rfl ?_ | refine And.intro (Pur.mk rfl) ?_ | refine And.intro (Pur.mk (by assumption)) ?_)))
    | false =>
      replace hinv : r = false := by rw [hinv]; rfl
      subst hinv
      ((try cbv) <;> (repeat ((with_reducible refine EW.of ?_); cbv)))
  · have h2 : (E.tree.l ks).length ≤ j := lt_nf h2 rfl (A.ok_len _)
    rw [List.drop_eq_nil_of_le (by omega), List.drop_eq_nil_of_le (by omega)] at hinv
    replace hinv : r = true := hinv
    subst hinv
    ((try cbv) <;> (repeat ((with_reducible refine EW.of ?_); cbv)))
end Go.Proofs.Ytpjibokaeefhiaa
