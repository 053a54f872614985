import Derived.Test.YtmbbdabcbnemiaaRk
/-! Rows of steps behind bytes. -/
namespace Go.Proofs.Ytmbbdabcbnemiaa
open Go.Proofs.Ytmbbdabcbnemiaa.Tw
set_option maxHeartbeats 4000000 in
theorem Steps17 (A : Ar) (E : Em) (B : EmB) (F : EmS) {P : Program} (hP : P = Try.prog) (l : List Stp) (xs r : List UInt8) (hr : xs ++ (numBs l.length ++ stepsBs l) = r) (hb : r.length ≤ 100000000) :
    TPure P 17 [.sl 1 (B.l.l xs), .sl 9 (F.l.l l)] (.sl 1 (B.l.l r)) := by
  have hfl := F.l.len l
  have hlk : A.len (F.l.l l) = (l.length : Int) := by rw [A.ok_len, hfl]
  have hrl := app_len hr
  rw [List.length_append, numBs_len] at hrl
  have hge := stepsBs_ge l
  obtain ⟨x0, hx0⟩ : ∃ x0, xs ++ numBs (A.len (F.l.l l)) = x0 := ⟨_, rfl⟩
  rw [← hlk, ← List.append_assoc, hx0] at hr
  have hl0 := app_len hx0
  rw [numBs_len] at hl0
  have hl5 := app_len hr
  have c1 := Number11 A B hP xs (by omega) (A.len (F.l.l l)) x0 hx0
  clear hx0
  refine TPure.ofE A T0 (T0_ok hP) (hP ▸ Try.func17) rfl _ rfl (by simp) ?_
  cbv
  ((try cbv) <;> (repeat ((with_reducible refine EW.of ?_); cbv)))
  (refine ⟨Ent.of (hP ▸ Try.func11) rfl, ?_⟩; refine TC.pureE c1 ?_; cbv; (repeat (first | exact trivial | refine And.intro (Emb.Pur _ _) ?_ | refine And.intro rfl ?_ | refine And.intro (Pur.mk rfl) ?_ | refine And.intro (Pur.mk (by assumption)) ?_)); ((try cbv) <;> (repeat ((with_reducible refine EW.of ?_); cbv))))
  obtain ⟨S, hS⟩ : ∃ S : LI (Nat × List UInt8), S = ⟨fun x => [(5, .int .i64 x.1), (4, .nils), (0, .sl 1 (B.l.l x.2)), (1, .sl 9 (F.l.l l))], fun x => [], fun x => x.1 ≤ l.length ∧ x.2 = x0 ++ stepsBs (l.take x.1), fun x => l.length - x.1⟩ := ⟨_, rfl⟩
  refine TW.loopM A (T0_ok hP) S _ rfl (0, x0) ?_ ?_ ?_
  · rw [hS]; exact ⟨Nat.zero_le _, by rw [List.take_zero, stepsBs, List.append_nil]⟩
  · rw [hS]
    cbv
    (repeat (first | exact trivial | refine And.intro (Emb.Pur _ _) ?_ | refine And.intro rfl ?_))
  rintro ⟨j, m⟩ hj l1 L1 e1 e2
  rw [hS] at hj e1 e2
  dsimp only at hj e1 e2
  obtain ⟨hj, hm⟩ := hj
  subst e1 e2
  cbv
  ((try cbv) <;> (repeat ((with_reducible refine EW.of ?_); cbv)))
  refine bsplit (fun h => ?_) (fun h => ?_)
  · have h : j < l.length := lt_nt h rfl hlk
    obtain ⟨x, ht⟩ : ∃ x, l[j]? = some x := ⟨_, List.getElem?_eq_getElem h⟩
    have hnx := stepsBs_take ht
    obtain ⟨l2, hl2⟩ : ∃ l2, m ++ stepBs x = l2 := ⟨_, rfl⟩
    have hl2' : l2 = x0 ++ stepsBs (l.take (j + 1)) := by rw [hnx, ← List.append_assoc, ← hm, hl2]
    have hle := stepsBs_le l (j + 1)
    have hlen2 : l2.length = x0.length + (stepsBs (l.take (j + 1))).length := by rw [hl2', List.length_append]
    have hrec := Step41 A E B F hP x m l2 hl2 (by omega)
    have hget := F.l.get ht
    obtain ⟨op, id, par, pl, text, i, k, s, ks⟩ := x
    rw [F.v E] at hget hrec
    ((try cbv) <;> (repeat ((with_reducible refine EW.of ?_); cbv)))
    refine ⟨j, _, rfl, hget, ?_⟩
    cbv
    ((try cbv) <;> (repeat ((with_reducible refine EW.of ?_); cbv)))
    (refine ⟨Ent.of (hP ▸ Try.func41) rfl, ?_⟩; refine TC.pureE hrec ?_; cbv; (repeat (first | exact trivial | refine And.intro (Emb.Pur _ _) ?_ | refine And.intro rfl ?_ | refine And.intro (Pur.mk rfl) ?_ | refine And.intro (Pur.mk (by assumption)) ?_)); ((try cbv) <;> (repeat ((with_reducible refine EW.of ?_); cbv))))
    refine LM.of (j + 1, l2) rfl ?_ ?_ ?_
    · rw [hS]; exact ⟨by show j + 1 ≤ l.length; omega, hl2'⟩
    · rw [hS]; show l.length - (j + 1) < l.length - j; omega
    · rw [hS]
      cbv
      (repeat (first | exact trivial | refine And.intro (Emb.Pur _ _) ?_ | refine And.intro (inc_eq A (by omega)) ?_ | refine And.intro rfl ?_))
  · have h : l.length ≤ j := lt_nf h rfl hlk
    obtain rfl : m = r := by rw [hm, List.take_of_length_le (by omega), hr]
    ((try cbv) <;> (repeat ((with_reducible refine EW.of ?_); cbv)))
    exact And.intro (B.l.Pur _) trivial
end Go.Proofs.Ytmbbdabcbnemiaa
