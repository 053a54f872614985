import Derived.Test.YtmbbdabcbnemiaaRs
/-! A reader's nodes: rows of them. -/
namespace Go.Proofs.Ytmbbdabcbnemiaa
open Go.Proofs.Ytmbbdabcbnemiaa.Tw
/-- What reading nodes comes to: how many so far, and where. -/
inductive RN (α : Type) where
  | ok (v : α) (c a : Nat)
  | no (e : Int) (c a : Nat)
namespace RN
variable {α β : Type}
def fin (f : α → AV) : RN α → AEnd
  | .ok v _ _ => .ret (f v)
  | .no e _ _ => .pan (failAV e)
def pos : RN α → Nat
  | .ok _ _ a => a
  | .no _ _ a => a
def cnt : RN α → Nat
  | .ok _ c _ => c
  | .no _ c _ => c
def bind (r : RN α) (f : α → Nat → Nat → RN β) : RN β :=
  match r with
  | .ok v c a => f v c a
  | .no e c a => .no e c a
def pre (acc : List α) : RN (List α) → RN (List α)
  | .ok xs c a => .ok (acc ++ xs) c a
  | .no e c a => .no e c a
end RN
def RR.toN {α : Type} (r : RR α) (c : Nat) : RN α :=
  match r with
  | .ok v a => .ok v c a
  | .no e a => .no e c a
def listR {α : Type} (one : Nat → Nat → RN α) : Nat → Nat → Nat → RN (List α)
  | 0, c, a => .ok [] c a
  | n + 1, c, a => (one c a).bind fun x c a => (listR one n c a).bind fun xs c a => .ok (x :: xs) c a
theorem listR_ok {α : Type} {one : Nat → Nat → RN α} {n c a c2 a2 : Nat} {x : α} {acc : List α} (h : one c a = .ok x c2 a2) : (listR one (n + 1) c a).pre acc = (listR one n c2 a2).pre (acc ++ [x]) := by
  rw [listR, h]
  simp only [RN.bind]
  cases listR one n c2 a2 with
  | ok xs c3 a3 => simp [RN.pre]
  | no e c3 a3 => rfl
theorem listR_no {α : Type} {one : Nat → Nat → RN α} {n c a c2 a2 : Nat} {e : Int} {acc : List α} (h : one c a = .no e c2 a2) : (listR one (n + 1) c a).pre acc = .no e c2 a2 := by
  rw [listR, h]
  rfl
theorem RN.pre_nil {α : Type} (r : RN (List α)) : r.pre [] = r := by cases r <;> rfl
def fun66 : AV := .func (.func 66) [] [.ref 1 1 0 0, .ref 2 1 0 0, .ref 3 1 0 0]
def stN (B : EmB) (bs : List UInt8) (bad : Int) (c a : Nat) : Store := [some (rdr B bs a bad), some (.box 1 (.ref 0 3 0 0)), some (.box 1 (.int .i64 c)), some (.box 1 fun66)]
def fun68 (d : Int) : AV := .func (.func 68) [] [.ref 3 1 0 0, .imm [.int .i64 d]]
def rowT : Option (Nat × List Tree) → AV
  | none => .nils
  | some (m, _) => .row 4 4 0 m
def stT (E : Em) (L : Store) : Option (Nat × List Tree) → Store
  | none => L
  | some (_, l) => L ++ [some (.arr 4 (E.tree.l l))]
def outT : Option (Nat × List Tree) → List Tree
  | none => []
  | some (_, l) => l
def okT : Option (Nat × List Tree) → Prop
  | none => True
  | some (m, l) => m = l.length
set_option maxHeartbeats 2000000 in
theorem list67 (A : Ar) (E : Em) (B : EmB) {P : Program} (hP : P = Try.prog) (bs : List UInt8) (bad : Int) (d : Int) (one : Nat → Nat → RN Tree)
    (h68 : ∀ c a, c ≤ 200 → a ≤ bs.length → TCX P 68 [.ref 3 1 0 0, .imm [.int .i64 d]] (stN B bs bad c a) ((one c a).fin E.tree.v) (stN B bs bad (one c a).cnt (one c a).pos))
    (hgood : ∀ c a x c2 a2, c ≤ 200 → a ≤ bs.length → one c a = .ok x c2 a2 → c2 ≤ 200 ∧ a2 ≤ bs.length)
    (n : Nat) (hn : n ≤ 1000000000) (c a : Nat) (hc : c ≤ 200) (ha : a ≤ bs.length) (R : RN (List Tree)) (hR : listR one n c a = R) :
    TCX P 67 [.int .i64 n, fun68 d] (stN B bs bad c a) (R.fin fun ts => .sl 4 (E.tree.l ts)) (stN B bs bad R.cnt R.pos) := by
  obtain ⟨x, hx⟩ : ∃ x, x = R.fin fun ts => .sl 4 (E.tree.l ts) := ⟨_, rfl⟩
  obtain ⟨M, hM⟩ : ∃ M, M = stN B bs bad R.cnt R.pos := ⟨_, rfl⟩
  rw [← hx, ← hM]
  refine TCX.of A _ _ T0 (T0_ok hP) (hP ▸ Try.func67) rfl _ rfl (by simp) ?_
  unfold stN fun68 fun66 rdr
  cbv
  ((try cbv) <;> (repeat ((with_reducible refine EW.of ?_); cbv)))
  obtain ⟨S, hS⟩ : ∃ S : LI (Nat × Nat × Nat × Nat × Option (Nat × List Tree)), S = ⟨fun x => [(6, .int .i64 x.1), (5, .int .i64 n), (4, rowT x.2.2.2.2), (1, fun68 d)], fun x => stT E (stN B bs bad x.2.2.1 x.2.2.2.1) x.2.2.2.2, fun x => x.1 + x.2.1 = n ∧ x.2.2.1 ≤ 200 ∧ x.2.2.2.1 ≤ bs.length ∧ okT x.2.2.2.2 ∧ (outT x.2.2.2.2).length = x.1 ∧ R = (listR one x.2.1 x.2.2.1 x.2.2.2.1).pre (outT x.2.2.2.2), fun x => x.2.1⟩ := ⟨_, rfl⟩
  refine TW.loopM A (T0_ok hP) S _ rfl (0, n, c, a, none) ?_ ?_ ?_
  · rw [hS]; exact ⟨Nat.zero_add _, hc, ha, trivial, rfl, hR.symm.trans (RN.pre_nil _).symm⟩
  · rw [hS]
    cbv
    (repeat (first | exact trivial | refine And.intro (Emb.Pur _ _) ?_ | refine And.intro rfl ?_ | refine And.intro (Pur.mk rfl) ?_))
  rintro ⟨j, k, c1, a1, o⟩ hj l1 L1 e1 e2
  rw [hS] at hj e1 e2
  dsimp only at hj e1 e2
  obtain ⟨hj, hc1, ha1, hok, hlen, hinv⟩ := hj
  have h68' := h68 c1 a1 hc1 ha1
  have hg' := hgood c1 a1
  unfold stN fun66 rdr at h68'
  subst e1
  cases o with
  | none =>
    dsimp only [stT, rowT, outT, okT] at e2 hok hlen hinv ⊢
    subst e2
    unfold stN fun68 fun66 rdr
    cbv
    ((try cbv) <;> (repeat ((with_reducible refine EW.of ?_); cbv)))
    refine bsplit (fun h => ?_) (fun h => ?_)
    · have h : j < n := lt_nt h rfl rfl
      obtain ⟨k, rfl⟩ : ∃ k', k = k' + 1 := ⟨k - 1, by omega⟩
      ((try cbv) <;> (repeat ((with_reducible refine EW.of ?_); cbv)))
      refine ⟨Ent.of (hP ▸ Try.func68) rfl, ?_⟩
      cases hone : one c1 a1 with
      | no e c2 a2 =>
        rw [hone] at h68'
        replace h68' : TCX P 68 _ _ (.pan (failAV e)) [some (.box 3 (.agg [.sl 1 (B.l.l bs), .int .i64 a2, .int .i64 bad])), some (.box 1 (.ref 0 3 0 0)), some (.box 1 (.int .i64 c2)), some (.box 1 (.func (.func 66) [] [.ref 1 1 0 0, .ref 2 1 0 0, .ref 3 1 0 0]))] := h68'
        rw [listR_no hone] at hinv
        subst hinv
        replace hx : x = .pan (failAV e) := hx
        replace hM : M = [some (.box 3 (.agg [.sl 1 (B.l.l bs), .int .i64 a2, .int .i64 bad])), some (.box 1 (.ref 0 3 0 0)), some (.box 1 (.int .i64 c2)), some (.box 1 (.func (.func 66) [] [.ref 1 1 0 0, .ref 2 1 0 0, .ref 3 1 0 0]))] := hM
        unfold failAV at h68' hx
        subst hx hM
        refine TCX.call [0, 1, 2, 3] h68' ?_
        cbv
        (repeat (first | exact trivial | refine And.intro (Emb.Pur _ _) ?_ | refine And.intro rfl ?_ | refine And.intro (Pur.mk rfl) ?_))
        refine R1.of ?_
        cbv
        (repeat (first | exact trivial | refine And.intro (Emb.Pur _ _) ?_ | refine And.intro rfl ?_ | refine And.intro (Pur.mk rfl) ?_))
      | ok t' c2 a2 =>
        rw [hone] at h68'
        replace h68' : TCX P 68 _ _ (.ret (E.tree.v t')) [some (.box 3 (.agg [.sl 1 (B.l.l bs), .int .i64 a2, .int .i64 bad])), some (.box 1 (.ref 0 3 0 0)), some (.box 1 (.int .i64 c2)), some (.box 1 (.func (.func 66) [] [.ref 1 1 0 0, .ref 2 1 0 0, .ref 3 1 0 0]))] := h68'
        have hg2 := hg' t' c2 a2 hc1 ha1 hone
        rw [listR_ok hone] at hinv
        obtain ⟨pv, hpv⟩ : ∃ pv, E.tree.l [] = pv := ⟨_, rfl⟩
        obtain ⟨l1, hl1⟩ : ∃ d, d = [] ++ [t'] := ⟨_, rfl⟩
        rw [← hl1] at hinv
        obtain ⟨q1, hq1⟩ : ∃ q, q = l1.length := ⟨_, rfl⟩
        have hvl : E.tree.l l1 = pv ++ [E.tree.v t'] := by rw [hl1, E.tree.app, hpv, E.tree.cons, E.tree.nil]
        have hq2 : q1 = j + 1 := by rw [hq1, hl1, List.length_append]; show _ + 1 = _; omega
        obtain ⟨i', k', s', ks'⟩ := t'
        rw [E.node] at h68' hvl
        refine TCX.call [0, 1, 2, 3] h68' ?_
        cbv
        (repeat (first | exact trivial | refine And.intro (Emb.Pur _ _) ?_ | refine And.intro rfl ?_ | refine And.intro (Pur.mk rfl) ?_))
        ((try cbv) <;> (repeat ((with_reducible refine EW.of ?_); cbv)))
        rw [← hpv, E.tree.nil] at hvl
        refine ⟨⟨rfl⟩, q1, E.tree.l l1, by rw [hq1, hl1]; rfl, by rw [hvl]; rfl, Nat.zero_le _, by omega, by omega, ?_⟩
        cbv
        ((try cbv) <;> (repeat ((with_reducible refine EW.of ?_); cbv)))
        refine LM.of (j + 1, k, c2, a2, some (q1, l1)) rfl ?_ ?_ ?_
        · rw [hS]; exact ⟨by show j + 1 + k = n; omega, hg2.1, hg2.2, hq1, by show l1.length = j + 1; omega, hinv⟩
        · rw [hS]; show k < k + 1; omega
        · rw [hS]
          cbv
          (repeat (first | exact trivial | refine And.intro (Emb.Pur _ _) ?_ | refine And.intro (inc_eq A (by omega)) ?_ | refine And.intro rfl ?_ | refine And.intro (Pur.mk rfl) ?_))
    · have h : n ≤ j := lt_nf h rfl rfl
      obtain rfl : k = 0 := by omega
      subst hinv
      replace hx : x = .ret (.sl 4 (E.tree.l ([] ++ []))) := hx
      rw [List.nil_append, E.tree.nil] at hx
      replace hM : M = [some (.box 3 (.agg [.sl 1 (B.l.l bs), .int .i64 a1, .int .i64 bad])), some (.box 1 (.ref 0 3 0 0)), some (.box 1 (.int .i64 c1)), some (.box 1 (.func (.func 66) [] [.ref 1 1 0 0, .ref 2 1 0 0, .ref 3 1 0 0]))] := hM
      subst hx hM
      ((try cbv) <;> (repeat ((with_reducible refine EW.of ?_); cbv)))
      refine R1.of ?_
      cbv
      (repeat (first | exact trivial | refine And.intro (Emb.Pur _ _) ?_ | refine And.intro rfl ?_ | refine And.intro (E.tree.cut hok) ?_ | refine And.intro (Pur.mk rfl) ?_))
  | some y =>
    obtain ⟨m, l⟩ := y
    dsimp only [stT, rowT, outT, okT] at e2 hok hlen hinv ⊢
    subst e2
    unfold stN fun68 fun66 rdr
    cbv
    ((try cbv) <;> (repeat ((with_reducible refine EW.of ?_); cbv)))
    refine bsplit (fun h => ?_) (fun h => ?_)
    · have h : j < n := lt_nt h rfl rfl
      obtain ⟨k, rfl⟩ : ∃ k', k = k' + 1 := ⟨k - 1, by omega⟩
      ((try cbv) <;> (repeat ((with_reducible refine EW.of ?_); cbv)))
      refine ⟨Ent.of (hP ▸ Try.func68) rfl, ?_⟩
      cases hone : one c1 a1 with
      | no e c2 a2 =>
        rw [hone] at h68'
        replace h68' : TCX P 68 _ _ (.pan (failAV e)) [some (.box 3 (.agg [.sl 1 (B.l.l bs), .int .i64 a2, .int .i64 bad])), some (.box 1 (.ref 0 3 0 0)), some (.box 1 (.int .i64 c2)), some (.box 1 (.func (.func 66) [] [.ref 1 1 0 0, .ref 2 1 0 0, .ref 3 1 0 0]))] := h68'
        rw [listR_no hone] at hinv
        subst hinv
        replace hx : x = .pan (failAV e) := hx
        replace hM : M = [some (.box 3 (.agg [.sl 1 (B.l.l bs), .int .i64 a2, .int .i64 bad])), some (.box 1 (.ref 0 3 0 0)), some (.box 1 (.int .i64 c2)), some (.box 1 (.func (.func 66) [] [.ref 1 1 0 0, .ref 2 1 0 0, .ref 3 1 0 0]))] := hM
        unfold failAV at h68' hx
        subst hx hM
        refine TCX.call [0, 1, 2, 3] h68' ?_
        cbv
        (repeat (first | exact trivial | refine And.intro (Emb.Pur _ _) ?_ | refine And.intro rfl ?_ | refine And.intro (Pur.mk rfl) ?_))
        refine R1.of ?_
        cbv
        (repeat (first | exact trivial | refine And.intro (Emb.Pur _ _) ?_ | refine And.intro rfl ?_ | refine And.intro (Pur.mk rfl) ?_))
      | ok t' c2 a2 =>
        rw [hone] at h68'
        replace h68' : TCX P 68 _ _ (.ret (E.tree.v t')) [some (.box 3 (.agg [.sl 1 (B.l.l bs), .int .i64 a2, .int .i64 bad])), some (.box 1 (.ref 0 3 0 0)), some (.box 1 (.int .i64 c2)), some (.box 1 (.func (.func 66) [] [.ref 1 1 0 0, .ref 2 1 0 0, .ref 3 1 0 0]))] := h68'
        have hg2 := hg' t' c2 a2 hc1 ha1 hone
        rw [listR_ok hone] at hinv
        obtain ⟨pv, hpv⟩ : ∃ pv, E.tree.l l = pv := ⟨_, rfl⟩
        obtain ⟨l1, hl1⟩ : ∃ d, d = l ++ [t'] := ⟨_, rfl⟩
        rw [← hl1] at hinv
        obtain ⟨q1, hq1⟩ : ∃ q, q = l1.length := ⟨_, rfl⟩
        have hvl : E.tree.l l1 = pv ++ [E.tree.v t'] := by rw [hl1, E.tree.app, hpv, E.tree.cons, E.tree.nil]
        have hq2 : q1 = j + 1 := by rw [hq1, hl1, List.length_append]; show _ + 1 = _; omega
        obtain ⟨i', k', s', ks'⟩ := t'
        rw [E.node] at h68' hvl
        refine TCX.call [0, 1, 2, 3] h68' ?_
        cbv
        (repeat (first | exact trivial | refine And.intro (Emb.Pur _ _) ?_ | refine And.intro rfl ?_ | refine And.intro (Pur.mk rfl) ?_))
        ((try cbv) <;> (repeat ((with_reducible refine EW.of ?_); cbv)))
        have hll := E.tree.len l
        rw [← hpv] at hvl
        refine ⟨⟨rfl⟩, q1, E.tree.l l1, by rw [hq1, hl1, List.length_append, hok]; rfl, by rw [hvl, List.take_of_length_le (show (E.tree.l l).length ≤ m by omega)], (show m ≤ (E.tree.l l).length by omega), by omega, by omega, ?_⟩
        cbv
        ((try cbv) <;> (repeat ((with_reducible refine EW.of ?_); cbv)))
        refine LM.of (j + 1, k, c2, a2, some (q1, l1)) rfl ?_ ?_ ?_
        · rw [hS]; exact ⟨by show j + 1 + k = n; omega, hg2.1, hg2.2, hq1, by show l1.length = j + 1; omega, hinv⟩
        · rw [hS]; show k < k + 1; omega
        · rw [hS]
          cbv
          (repeat (first | exact trivial | refine And.intro (Emb.Pur _ _) ?_ | refine And.intro (inc_eq A (by omega)) ?_ | refine And.intro rfl ?_ | refine And.intro (Pur.mk rfl) ?_))
    · have h : n ≤ j := lt_nf h rfl rfl
      obtain rfl : k = 0 := by omega
      subst hinv
      replace hx : x = .ret (.sl 4 (E.tree.l (l ++ []))) := hx
      rw [List.append_nil] at hx
      replace hM : M = [some (.box 3 (.agg [.sl 1 (B.l.l bs), .int .i64 a1, .int .i64 bad])), some (.box 1 (.ref 0 3 0 0)), some (.box 1 (.int .i64 c1)), some (.box 1 (.func (.func 66) [] [.ref 1 1 0 0, .ref 2 1 0 0, .ref 3 1 0 0]))] := hM
      subst hx hM
      ((try cbv) <;> (repeat ((with_reducible refine EW.of ?_); cbv)))
      refine R1.of ?_
      cbv
      (repeat (first | exact trivial | refine And.intro (Emb.Pur _ _) ?_ | refine And.intro rfl ?_ | refine And.intro (E.tree.cut hok) ?_ | refine And.intro (Pur.mk rfl) ?_))
end Go.Proofs.Ytmbbdabcbnemiaa
