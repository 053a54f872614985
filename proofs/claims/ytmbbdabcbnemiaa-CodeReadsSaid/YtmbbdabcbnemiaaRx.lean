import Derived.Test.YtmbbdabcbnemiaaRw
/-! A reader's rows of steps. -/
namespace Go.Proofs.Ytmbbdabcbnemiaa
open Go.Proofs.Ytmbbdabcbnemiaa.Tw
def rowS : Option (Nat × List Stp) → AV
  | none => .nils
  | some (m, _) => .row 1 9 0 m
def stS (F : EmS) (L : Store) : Option (Nat × List Stp) → Store
  | none => L
  | some (_, l) => L ++ [some (.arr 9 (F.l.l l))]
def outS : Option (Nat × List Stp) → List Stp
  | none => []
  | some (_, l) => l
def okS : Option (Nat × List Stp) → Prop
  | none => True
  | some (m, l) => m = l.length
set_option maxHeartbeats 2000000 in
theorem list54 (A : Ar) (E : Em) (B : EmB) (F : EmS) {P : Program} (hP : P = Try.prog) (bs : List UInt8) (bad : Int) (one : Nat → Nat → RN Stp)
    (h68 : ∀ c a, c ≤ 200 → a ≤ bs.length → TCX P 56 [.ref 0 3 0 0] [some (rdr B bs a bad)] ((one c a).fin F.l.v) [some (rdr B bs (one c a).pos bad)])
    (hgood : ∀ c a (x : Stp) c2 a2, c ≤ 200 → a ≤ bs.length → one c a = .ok x c2 a2 → c2 ≤ 200 ∧ a2 ≤ bs.length)
    (n : Nat) (hn : n ≤ 1000000000) (c a : Nat) (hc : c ≤ 200) (ha : a ≤ bs.length) (R : RN (List Stp)) (hR : listR one n c a = R) :
    TCX P 54 [.int .i64 n, .func (.func 56) [.ref 0 3 0 0] []] [some (rdr B bs a bad)] (R.fin fun ts => .sl 9 (F.l.l ts)) [some (rdr B bs R.pos bad)] := by
  obtain ⟨x, hx⟩ : ∃ x, x = R.fin fun ts => .sl 9 (F.l.l ts) := ⟨_, rfl⟩
  obtain ⟨M, hM⟩ : ∃ M, M = [some (rdr B bs R.pos bad)] := ⟨_, rfl⟩
  rw [← hx, ← hM]
  refine TCX.of A _ _ T0 (T0_ok hP) (hP ▸ Try.func54) rfl _ rfl (by simp) ?_
  unfold rdr
  cbv
  ((try cbv) <;> (repeat ((with_reducible refine EW.of ?_); cbv)))
  obtain ⟨S, hS⟩ : ∃ S : LI (Nat × Nat × Nat × Nat × Option (Nat × List Stp)), S = ⟨fun x => [(6, .int .i64 x.1), (5, .int .i64 n), (4, rowS x.2.2.2.2), (1, .func (.func 56) [.ref 0 3 0 0] [])], fun x => stS F [some (rdr B bs x.2.2.2.1 bad)] x.2.2.2.2, fun x => x.1 + x.2.1 = n ∧ x.2.2.1 ≤ 200 ∧ x.2.2.2.1 ≤ bs.length ∧ okS x.2.2.2.2 ∧ (outS x.2.2.2.2).length = x.1 ∧ R = (listR one x.2.1 x.2.2.1 x.2.2.2.1).pre (outS x.2.2.2.2), fun x => x.2.1⟩ := ⟨_, rfl⟩
  refine TW.loopM A (T0_ok hP) S _ rfl (0, n, c, a, none) ?_ ?_ ?_
  · rw [hS]; exact ⟨Nat.zero_add _, hc, ha, trivial, rfl, hR.symm.trans (RN.pre_nil _).symm⟩
  · rw [hS]
    cbv
    (repeat (first | exact trivial | refine And.intro (Emb.Pur _ _) ?_ | refine And.intro rfl ?_ | refine And.intro (Pur.mk rfl) ?_))
  rintro ⟨j, k, c1, a1, o⟩ hj l1 L1 e1 e2
  rw [hS] at hj e1 e2
  dsimp only at hj e1 e2
  obtain ⟨hj, hc1, ha1, hok, hlen, hinv⟩ := hj
  have h68' := h68 c1 a1 hc1 ha1
  have hg' := hgood c1 a1
  unfold rdr at h68'
  subst e1
  cases o with
  | none =>
    dsimp only [stS, rowS, outS, okS] at e2 hok hlen hinv ⊢
    subst e2
    unfold rdr
    cbv
    ((try cbv) <;> (repeat ((with_reducible refine EW.of ?_); cbv)))
    refine bsplit (fun h => ?_) (fun h => ?_)
    · have h : j < n := lt_nt h rfl rfl
      obtain ⟨k, rfl⟩ : ∃ k', k = k' + 1 := ⟨k - 1, by omega⟩
      ((try cbv) <;> (repeat ((with_reducible refine EW.of ?_); cbv)))
      refine ⟨Ent.of (hP ▸ Try.func56) rfl, ?_⟩
      cases hone : one c1 a1 with
      | no e c2 a2 =>
        rw [hone] at h68'
        replace h68' : TCX P 56 _ _ (.pan (failAV e)) [some (.box 3 (.agg [.sl 1 (B.l.l bs), .int .i64 a2, .int .i64 bad]))] := h68'
        rw [listR_no hone] at hinv
        subst hinv
        replace hx : x = .pan (failAV e) := hx
        replace hM : M = [some (.box 3 (.agg [.sl 1 (B.l.l bs), .int .i64 a2, .int .i64 bad]))] := hM
        unfold failAV at h68' hx
        subst hx hM
        refine TCX.call [0] h68' ?_
        cbv
        (repeat (first | exact trivial | refine And.intro (Emb.Pur _ _) ?_ | refine And.intro rfl ?_ | refine And.intro (Pur.mk rfl) ?_))
        refine R1.of ?_
        cbv
        (repeat (first | exact trivial | refine And.intro (Emb.Pur _ _) ?_ | refine And.intro rfl ?_ | refine And.intro (Pur.mk rfl) ?_))
      | ok t' c2 a2 =>
        rw [hone] at h68'
        replace h68' : TCX P 56 _ _ (.ret (F.l.v t')) [some (.box 3 (.agg [.sl 1 (B.l.l bs), .int .i64 a2, .int .i64 bad]))] := h68'
        have hg2 := hg' t' c2 a2 hc1 ha1 hone
        rw [listR_ok hone] at hinv
        obtain ⟨pv, hpv⟩ : ∃ pv, F.l.l [] = pv := ⟨_, rfl⟩
        obtain ⟨l1, hl1⟩ : ∃ d, d = [] ++ [t'] := ⟨_, rfl⟩
        rw [← hl1] at hinv
        obtain ⟨q1, hq1⟩ : ∃ q, q = l1.length := ⟨_, rfl⟩
        have hvl : F.l.l l1 = pv ++ [F.l.v t'] := by rw [hl1, F.l.app, hpv, F.l.cons, F.l.nil]
        have hq2 : q1 = j + 1 := by rw [hq1, hl1, List.length_append]; show _ + 1 = _; omega
        obtain ⟨op', id', par', pl', tx', i', k', s', ks'⟩ := t'
        rw [F.v E] at h68' hvl
        refine TCX.call [0] h68' ?_
        cbv
        (repeat (first | exact trivial | refine And.intro (Emb.Pur _ _) ?_ | refine And.intro rfl ?_ | refine And.intro (Pur.mk rfl) ?_))
        ((try cbv) <;> (repeat ((with_reducible refine EW.of ?_); cbv)))
        rw [← hpv, F.l.nil] at hvl
        refine ⟨⟨rfl⟩, q1, F.l.l l1, by rw [hq1, hl1]; rfl, by rw [hvl]; rfl, Nat.zero_le _, by omega, by omega, ?_⟩
        cbv
        ((try cbv) <;> (repeat ((with_reducible refine EW.of ?_); cbv)))
        refine LM.of (j + 1, k, c2, a2, some (q1, l1)) rfl ?_ ?_ ?_
        · rw [hS]; exact ⟨by show j + 1 + k = n; omega, hg2.1, hg2.2, hq1, by show l1.length = j + 1; omega, hinv⟩
        · rw [hS]; show k < k + 1; omega
        · rw [hS]
          cbv
          (repeat (first | exact trivial | refine And.intro (Emb.Pur _ _) ?_ | refine And.intro (inc_eq A (by omega)) ?_ | refine And.intro rfl ?_ | refine And.intro (Pur.mk rfl) ?_))
    · have h : n ≤ j := lt_nf h rfl rfl
      obtain rfl : k = 0 := by omega
      subst hinv
      replace hx : x = .ret (.sl 9 (F.l.l ([] ++ []))) := hx
      rw [List.nil_append, F.l.nil] at hx
      replace hM : M = [some (.box 3 (.agg [.sl 1 (B.l.l bs), .int .i64 a1, .int .i64 bad]))] := hM
      subst hx hM
      ((try cbv) <;> (repeat ((with_reducible refine EW.of ?_); cbv)))
      refine R1.of ?_
      cbv
      (repeat (first | exact trivial | refine And.intro (Emb.Pur _ _) ?_ | refine And.intro rfl ?_ | refine And.intro (F.l.cut hok) ?_ | refine And.intro (Pur.mk rfl) ?_))
  | some y =>
    obtain ⟨m, l⟩ := y
    dsimp only [stS, rowS, outS, okS] at e2 hok hlen hinv ⊢
    subst e2
    unfold rdr
    cbv
    ((try cbv) <;> (repeat ((with_reducible refine EW.of ?_); cbv)))
    refine bsplit (fun h => ?_) (fun h => ?_)
    · have h : j < n := lt_nt h rfl rfl
      obtain ⟨k, rfl⟩ : ∃ k', k = k' + 1 := ⟨k - 1, by omega⟩
      ((try cbv) <;> (repeat ((with_reducible refine EW.of ?_); cbv)))
      refine ⟨Ent.of (hP ▸ Try.func56) rfl, ?_⟩
      cases hone : one c1 a1 with
      | no e c2 a2 =>
        rw [hone] at h68'
        replace h68' : TCX P 56 _ _ (.pan (failAV e)) [some (.box 3 (.agg [.sl 1 (B.l.l bs), .int .i64 a2, .int .i64 bad]))] := h68'
        rw [listR_no hone] at hinv
        subst hinv
        replace hx : x = .pan (failAV e) := hx
        replace hM : M = [some (.box 3 (.agg [.sl 1 (B.l.l bs), .int .i64 a2, .int .i64 bad]))] := hM
        unfold failAV at h68' hx
        subst hx hM
        refine TCX.call [0] h68' ?_
        cbv
        (repeat (first | exact trivial | refine And.intro (Emb.Pur _ _) ?_ | refine And.intro rfl ?_ | refine And.intro (Pur.mk rfl) ?_))
        refine R1.of ?_
        cbv
        (repeat (first | exact trivial | refine And.intro (Emb.Pur _ _) ?_ | refine And.intro rfl ?_ | refine And.intro (Pur.mk rfl) ?_))
      | ok t' c2 a2 =>
        rw [hone] at h68'
        replace h68' : TCX P 56 _ _ (.ret (F.l.v t')) [some (.box 3 (.agg [.sl 1 (B.l.l bs), .int .i64 a2, .int .i64 bad]))] := h68'
        have hg2 := hg' t' c2 a2 hc1 ha1 hone
        rw [listR_ok hone] at hinv
        obtain ⟨pv, hpv⟩ : ∃ pv, F.l.l l = pv := ⟨_, rfl⟩
        obtain ⟨l1, hl1⟩ : ∃ d, d = l ++ [t'] := ⟨_, rfl⟩
        rw [← hl1] at hinv
        obtain ⟨q1, hq1⟩ : ∃ q, q = l1.length := ⟨_, rfl⟩
        have hvl : F.l.l l1 = pv ++ [F.l.v t'] := by rw [hl1, F.l.app, hpv, F.l.cons, F.l.nil]
        have hq2 : q1 = j + 1 := by rw [hq1, hl1, List.length_append]; show _ + 1 = _; omega
        obtain ⟨op', id', par', pl', tx', i', k', s', ks'⟩ := t'
        rw [F.v E] at h68' hvl
        refine TCX.call [0] h68' ?_
        cbv
        (repeat (first | exact trivial | refine And.intro (Emb.Pur _ _) ?_ | refine And.intro rfl ?_ | refine And.intro (Pur.mk rfl) ?_))
        ((try cbv) <;> (repeat ((with_reducible refine EW.of ?_); cbv)))
        have hll := F.l.len l
        rw [← hpv] at hvl
        refine ⟨⟨rfl⟩, q1, F.l.l l1, by rw [hq1, hl1, List.length_append, hok]; rfl, by rw [hvl, List.take_of_length_le (show (F.l.l l).length ≤ m by omega)], (show m ≤ (F.l.l l).length by omega), by omega, by omega, ?_⟩
        cbv
        ((try cbv) <;> (repeat ((with_reducible refine EW.of ?_); cbv)))
        refine LM.of (j + 1, k, c2, a2, some (q1, l1)) rfl ?_ ?_ ?_
        · rw [hS]; exact ⟨by show j + 1 + k = n; omega, hg2.1, hg2.2, hq1, by show l1.length = j + 1; omega, hinv⟩
        · rw [hS]; show k < k + 1; omega
        · rw [hS]
          cbv
          (repeat (first | exact trivial | refine And.intro (Emb.Pur _ _) ?_ | refine And.intro (inc_eq A (by omega)) ?_ | refine And.intro rfl ?_ | refine And.intro (Pur.mk rfl) ?_))
    · have h : n ≤ j := lt_nf h rfl rfl
      obtain rfl : k = 0 := by omega
      subst hinv
      replace hx : x = .ret (.sl 9 (F.l.l (l ++ []))) := hx
      rw [List.append_nil] at hx
      replace hM : M = [some (.box 3 (.agg [.sl 1 (B.l.l bs), .int .i64 a1, .int .i64 bad]))] := hM
      subst hx hM
      ((try cbv) <;> (repeat ((with_reducible refine EW.of ?_); cbv)))
      refine R1.of ?_
      cbv
      (repeat (first | exact trivial | refine And.intro (Emb.Pur _ _) ?_ | refine And.intro rfl ?_ | refine And.intro (F.l.cut hok) ?_ | refine And.intro (Pur.mk rfl) ?_))
end Go.Proofs.Ytmbbdabcbnemiaa
