import Derived.Test.YtmbbdabcbnemiaaSh
/-! The reference's rows of steps. -/
namespace Go.Proofs.Ytmbbdabcbnemiaa
open Go.Proofs.Ytmbbdabcbnemiaa.Tw
def stepsF (A : Ar) (bs : List UInt8) (c a : Nat) (b : Int) : List Stp × Nat × Nat × Int :=
  let r := askR 0 bs a b (countR A bs a 57 60)
  let q := kidsF (fun _ a b => stepF A bs a b) r.1.toNat c r.2.1 r.2.2
  (if 0 ≤ q.2.2.2 then [] else q.1, q.2)
theorem stepF_pos {A : Ar} {bs : List UInt8} (hl : bs.length ≤ 1000000000) {a : Nat} (ha : a ≤ bs.length) {b : Int} : (stepF A bs a b).2.2.1 ≤ bs.length := by
  unfold stepF
  exact askT2_pos hl (askT_pos hl (askN_pos (askN_pos (askN_pos (askS_pos ha rfl) rfl) rfl) rfl) rfl) rfl
theorem listS_R {A : Ar} {bs : List UInt8} (hl : bs.length ≤ 1000000000) : ∀ (n c d a : Nat) (b : Int), b < 0 → a ≤ bs.length →
    (kidsF (fun _ a b => stepF A bs a b) n c a b).2.2 = ((listR (oneS A bs) n d a).pos, (listR (oneS A bs) n d a).bad b) ∧ (∀ t c2 a2, listR (oneS A bs) n d a = .ok t c2 a2 → (kidsF (fun _ a b => stepF A bs a b) n c a b).1 = t ∧ a2 ≤ bs.length) ∧ (∀ e c2 a2, listR (oneS A bs) n d a = .no e c2 a2 → 0 ≤ e ∧ a2 ≤ bs.length)
  | 0, c, d, a, b, hb, ha => ⟨rfl, fun t c2 a2 h => (by cases h; exact ⟨rfl, ha⟩), fun e c2 a2 h => (by cases h)⟩
  | n + 1, c, d, a, b, hb, ha => by
    have hb0 : ¬ 0 ≤ b := by omega
    obtain ⟨h1, h2⟩ := stepF_R (A := A) hl ha (b := b)
    have hp := stepF_pos (A := A) hl ha (b := b)
    rw [kidsF, if_neg hb0, listR]
    cases hr : stepR A bs a with
    | no e a3 =>
      rw [hr, askR_no hb0 rfl] at h1
      have he := h2 _ _ hr
      have h3 : (stepF A bs a b).2.2 = (a3, e) := (Prod.mk.inj h1).2
      have ho : oneS A bs d a = .no e d a3 := by unfold oneS; rw [hr]; rfl
      simp only [ho, RN.bind]
      dsimp only [RN.cnt, RN.pos, RN.bad]
      rw [h3] at hp ⊢
      dsimp only
      rw [kidsF_pos he]
      exact ⟨rfl, fun t c2 a2 h => (by cases h), fun e c2 a2 h => (by cases h; exact ⟨he, hp⟩)⟩
    | ok x a3 =>
      rw [hr, askR_ok hb0 rfl] at h1
      have h3 : (stepF A bs a b).2.2 = (a3, b) := (Prod.mk.inj h1).2
      have h4 : (stepF A bs a b).1 = x := (Prod.mk.inj h1).1
      have ho : oneS A bs d a = .ok x d a3 := by unfold oneS; rw [hr]; rfl
      simp only [ho, RN.bind]
      rw [h3, h4]
      rw [h3] at hp
      dsimp only at hp ⊢
      obtain ⟨j1, j2, j3⟩ := listS_R hl n (stepF A bs a b).2.1 d a3 b hb hp
      cases hq : listR (oneS A bs) n d a3 with
      | no e c4 a4 =>
        rw [hq] at j1
        exact ⟨j1, fun t c2 a2 h => (by cases h), fun e c2 a2 h => (by cases h; exact j3 _ _ _ hq)⟩
      | ok xs c4 a4 =>
        rw [hq] at j1
        have := j2 _ _ _ hq
        exact ⟨j1, fun t c2 a2 h => (by cases h; exact ⟨by rw [this.1], this.2⟩), fun e c2 a2 h => (by cases h)⟩
theorem stepsF_R {A : Ar} {bs : List UInt8} (hl : bs.length ≤ 1000000000) {c a : Nat} (ha : a ≤ bs.length) {b : Int} :
    ((stepsF A bs c a b).1, (stepsF A bs c a b).2.2) = askR [] bs a b (stepsR A bs a) ∧ (stepsF A bs c a b).2.2.1 ≤ bs.length := by
  by_cases hb : 0 ≤ b
  · unfold stepsF
    simp only [askR_pos hb, kidsF_pos hb, if_pos hb]
    exact ⟨trivial, ha⟩
  unfold stepsF stepsR
  cases h1 : countR A bs a 57 60 with
  | no e a3 =>
    have hx : 0 ≤ e := by rcases countR_no h1 with h | h <;> omega
    have hp : a3 ≤ bs.length := by rcases countR_no h1 with h | h <;> omega
    simp only [RR.bind, askR_no hb rfl, kidsF_pos hx, if_pos hx]
    exact ⟨trivial, hp⟩
  | ok n a3 =>
  have hp := (countR_ok hl h1).2.1
  simp only [RR.bind, askR_ok hb rfl]
  obtain ⟨j1, j2, j3⟩ := listS_R (A := A) hl n.toNat c 0 a3 b (by omega) hp
  cases hq : listR (oneS A bs) n.toNat 0 a3 with
  | no e c4 a4 =>
    rw [hq] at j1
    have he := j3 _ _ _ hq
    simp only [RN.toR, askR_no hb rfl]
    replace j1 : (kidsF (fun x a b => stepF A bs a b) n.toNat c a3 b).2.2 = (a4, e) := j1
    simp only [j1, if_pos he.1]
    exact ⟨trivial, he.2⟩
  | ok xs c4 a4 =>
    rw [hq] at j1
    have he := j2 _ _ _ hq
    simp only [RN.toR, askR_ok hb rfl]
    replace j1 : (kidsF (fun x a b => stepF A bs a b) n.toNat c a3 b).2.2 = (a4, b) := j1
    simp only [j1, if_neg hb, he.1]
    exact ⟨trivial, he.2⟩
set_option maxHeartbeats 4000000 in
theorem Steps30 (A : Ar) (E : Em) (B : EmB) (F : EmS) {P : Program} (hP : P = Try.prog) (bs : List UInt8) (hl : bs.length ≤ 1000000000) (a : Nat) (ha : a ≤ bs.length) (bad : Int) (c : Nat) (v : List Stp) (c2 a2 : Nat) (bad2 : Int) (h : stepsF A bs c a bad = (v, c2, a2, bad2)) :
    TC1 P 30 [.ref 0 4 0 0] [some (rdrF B bs a bad c)] (.sl 9 (F.l.l v)) [some (rdrF B bs a2 bad2 c2)] := by
  unfold stepsF at h
  obtain ⟨n, a0, b0, g0⟩ : ∃ x y z, askR 0 bs a bad (countR A bs a 57 60) = (x, y, z) := ⟨_, _, _, rfl⟩
  have k0 := Count33 A B hP bs hl a ha bad c 57 60 n a0 b0 g0
  have p0 := countR_pos hl ha g0
  obtain ⟨n, rfl, hn⟩ := askC_nat (most := 60) hl g0
  obtain ⟨ks, R, hks⟩ : ∃ ks R, kidsF (fun _ a b => stepF A bs a b) n c a0 b0 = (ks, R) := ⟨_, _, rfl⟩
  simp only [g0, Int.toNat_natCast, hks] at h
  obtain ⟨hv, rfl⟩ : (if 0 ≤ R.2.2 then [] else ks) = v ∧ R = (c2, a2, bad2) := by cases h; exact ⟨rfl, rfl⟩
  dsimp only at hv
  clear h g0
  obtain ⟨res, hres⟩ : ∃ res, F.l.l v = res := ⟨_, rfl⟩
  rw [hres]
  refine TC1.of A _ _ T0 (T0_ok hP) (hP ▸ Try.func30) rfl _ rfl (by simp) ?_
  unfold rdrF at *
  cbv
  ((try cbv) <;> (repeat ((with_reducible refine EW.of ?_); cbv)))
  refine ⟨Ent.of (hP ▸ Try.func33) rfl, ?_⟩
  refine TC1.call [0] k0 ?_
  cbv
  (repeat (first | exact trivial | refine And.intro (Emb.Pur _ _) ?_ | refine And.intro rfl ?_ | refine And.intro (Pur.mk rfl) ?_))
  ((try cbv) <;> (repeat ((with_reducible refine EW.of ?_); cbv)))
  obtain ⟨S, hS⟩ : ∃ S : LI (Nat × Nat × Nat × Nat × Int × Option (Nat × List Stp)), S = ⟨fun x => [(5, .int .i64 x.1), (4, rowS x.2.2.2.2.2), (3, .int .i64 n), (2, .nils), (0, .ref 0 4 0 0)], fun x => stS F [some (.box 4 (.agg [.sl 1 (B.l.l bs), .int .i64 x.2.2.2.1, .int .i64 x.2.2.2.2.1, .int .i64 x.2.2.1]))] x.2.2.2.2.2, fun x => x.1 + x.2.1 = n ∧ x.2.2.2.1 ≤ bs.length ∧ okS x.2.2.2.2.2 ∧ (outS x.2.2.2.2.2).length = x.1 ∧ (ks, c2, a2, bad2) = (outS x.2.2.2.2.2 ++ (kidsF (fun _ a b => stepF A bs a b) x.2.1 x.2.2.1 x.2.2.2.1 x.2.2.2.2.1).1, (kidsF (fun _ a b => stepF A bs a b) x.2.1 x.2.2.1 x.2.2.2.1 x.2.2.2.2.1).2), fun x => x.2.1⟩ := ⟨_, rfl⟩
  refine TW.loopM A (T0_ok hP) S _ rfl (0, n, c, a0, b0, none) ?_ ?_ ?_
  · rw [hS]; exact ⟨Nat.zero_add _, p0, trivial, rfl, by dsimp only [outS]; rw [hks]; rfl⟩
  · rw [hS]
    cbv
    (repeat (first | exact trivial | refine And.intro (Emb.Pur _ _) ?_ | refine And.intro rfl ?_ | refine And.intro (Pur.mk rfl) ?_))
  rintro ⟨j, k, c, a, b, o⟩ hj l1 L1 e1 e2
  rw [hS] at hj e1 e2
  dsimp only at hj e1 e2
  obtain ⟨hj, ha1, hok, hlen, hinv⟩ := hj
  subst e1
  clear k0
  cases o with
  | none =>
    dsimp only [stS, rowS, outS, okS] at e2 hok hlen hinv ⊢
    subst e2
    cbv
    ((try cbv) <;> (repeat ((with_reducible refine EW.of ?_); cbv)))
    refine bsplit (fun h => ?_) (fun h => ?_)
    · have h : j < n := lt_nt h rfl rfl
      obtain ⟨k, rfl⟩ : ∃ k', k = k' + 1 := ⟨k - 1, by omega⟩
      ((try cbv) <;> (repeat ((with_reducible refine EW.of ?_); cbv)))
      by_cases hb : 0 ≤ b
      · refine bno (ltF hb) ?_
        rw [kidsF_pos hb] at hinv
        obtain ⟨rfl, rfl, rfl, rfl⟩ : [] = ks ∧ c = c2 ∧ a = a2 ∧ b = bad2 := by cases hinv; exact ⟨rfl, rfl, rfl, rfl⟩
        by_cases hb2 : 0 ≤ b
        · rw [if_pos hb2] at hv
          rw [← hv, F.l.nil] at hres
          subst hres
          ((try cbv) <;> (repeat ((with_reducible refine EW.of ?_); cbv)))
          refine byes (leT hb2) ?_
          ((try cbv) <;> (repeat ((with_reducible refine EW.of ?_); cbv)))
          refine R1.of ?_
          cbv
          (repeat (first | exact trivial | refine And.intro (Emb.Pur _ _) ?_ | refine And.intro rfl ?_ | refine And.intro (Pur.mk rfl) ?_))
        · rw [if_neg hb2] at hv
          rw [← hv] at hres
          subst hres
          ((try cbv) <;> (repeat ((with_reducible refine EW.of ?_); cbv)))
          refine bno (leF (Int.not_le.1 hb2)) ?_
          ((try cbv) <;> (repeat ((with_reducible refine EW.of ?_); cbv)))
          refine R1.of ?_
          cbv
          (repeat (first | exact trivial | refine And.intro (Emb.Pur _ _) ?_ | refine And.intro rfl ?_ | refine And.intro F.l.nil.symm ?_ | refine And.intro (Pur.mk rfl) ?_))
      obtain ⟨t', c3, a6, b6, ht'⟩ : ∃ x y z u, stepF A bs a b = (x, y, z, u) := ⟨_, _, _, _, rfl⟩
      have hrec := Step57 A E B F hP bs hl a ha1 b c t' c3 a6 b6 ht'
      unfold rdrF at hrec
      have hg2 := stepF_pos (A := A) hl ha1 (b := b)
      rw [ht'] at hg2
      dsimp only at hg2
      rw [kidsF_step (x := t') (c2 := c3) (a2 := a6) (b2 := b6) hb ht'] at hinv
      refine byes (ltT (Int.not_le.1 hb)) ?_
      ((try cbv) <;> (repeat ((with_reducible refine EW.of ?_); cbv)))
      refine ⟨Ent.of (hP ▸ Try.func57) rfl, ?_⟩
      obtain ⟨pv, hpv⟩ : ∃ pv, F.l.l [] = pv := ⟨_, rfl⟩
      obtain ⟨l1, hl1⟩ : ∃ d, d = [] ++ [t'] := ⟨_, rfl⟩
      rw [← hl1] at hinv
      obtain ⟨q1, hq1⟩ : ∃ q, q = l1.length := ⟨_, rfl⟩
      have hvl : F.l.l l1 = pv ++ [F.l.v t'] := by rw [hl1, F.l.app, hpv, F.l.cons, F.l.nil]
      have hq2 : q1 = j + 1 := by rw [hq1, hl1, List.length_append]; show _ + 1 = _; omega
      obtain ⟨op, id, par, pl, s0, i, k0, s, ks'⟩ := t'
      rw [F.v E] at hrec hvl
      refine TC1.call [0] hrec ?_
      cbv
      (repeat (first | exact trivial | refine And.intro (Emb.Pur _ _) ?_ | refine And.intro rfl ?_ | refine And.intro (Pur.mk rfl) ?_))
      ((try cbv) <;> (repeat ((with_reducible refine EW.of ?_); cbv)))
      rw [← hpv, F.l.nil] at hvl
      refine ⟨⟨rfl⟩, q1, F.l.l l1, by rw [hq1, hl1]; rfl, by rw [hvl]; rfl, Nat.zero_le _, by omega, by omega, ?_⟩
      cbv
      ((try cbv) <;> (repeat ((with_reducible refine EW.of ?_); cbv)))
      refine LM.of (j + 1, k, c3, a6, b6, some (q1, l1)) rfl ?_ ?_ ?_
      · rw [hS]; exact ⟨by show j + 1 + k = n; omega, hg2, hq1, by show l1.length = j + 1; omega, hinv⟩
      · rw [hS]; show k < k + 1; omega
      · rw [hS]
        cbv
        (repeat (first | exact trivial | refine And.intro (Emb.Pur _ _) ?_ | refine And.intro (inc_eq A (by omega)) ?_ | refine And.intro rfl ?_ | refine And.intro (Pur.mk rfl) ?_))
    · have h : n ≤ j := lt_nf h rfl rfl
      obtain rfl : k = 0 := by omega
      rw [kidsF] at hinv
      obtain ⟨rfl, rfl, rfl, rfl⟩ : [] = ks ∧ c = c2 ∧ a = a2 ∧ b = bad2 := by cases hinv; exact ⟨rfl, rfl, rfl, rfl⟩
      by_cases hb2 : 0 ≤ b
      · rw [if_pos hb2] at hv
        rw [← hv, F.l.nil] at hres
        subst hres
        ((try cbv) <;> (repeat ((with_reducible refine EW.of ?_); cbv)))
        refine byes (leT hb2) ?_
        ((try cbv) <;> (repeat ((with_reducible refine EW.of ?_); cbv)))
        refine R1.of ?_
        cbv
        (repeat (first | exact trivial | refine And.intro (Emb.Pur _ _) ?_ | refine And.intro rfl ?_ | refine And.intro (Pur.mk rfl) ?_))
      · rw [if_neg hb2] at hv
        rw [← hv] at hres
        subst hres
        ((try cbv) <;> (repeat ((with_reducible refine EW.of ?_); cbv)))
        refine bno (leF (Int.not_le.1 hb2)) ?_
        ((try cbv) <;> (repeat ((with_reducible refine EW.of ?_); cbv)))
        refine R1.of ?_
        cbv
        (repeat (first | exact trivial | refine And.intro (Emb.Pur _ _) ?_ | refine And.intro rfl ?_ | refine And.intro F.l.nil.symm ?_ | refine And.intro (Pur.mk rfl) ?_))
  | some y =>
    obtain ⟨m, l⟩ := y
    dsimp only [stS, rowS, outS, okS] at e2 hok hlen hinv ⊢
    subst e2
    cbv
    ((try cbv) <;> (repeat ((with_reducible refine EW.of ?_); cbv)))
    refine bsplit (fun h => ?_) (fun h => ?_)
    · have h : j < n := lt_nt h rfl rfl
      obtain ⟨k, rfl⟩ : ∃ k', k = k' + 1 := ⟨k - 1, by omega⟩
      ((try cbv) <;> (repeat ((with_reducible refine EW.of ?_); cbv)))
      by_cases hb : 0 ≤ b
      · refine bno (ltF hb) ?_
        rw [kidsF_pos hb] at hinv
        obtain ⟨rfl, rfl, rfl, rfl⟩ : l = ks ∧ c = c2 ∧ a = a2 ∧ b = bad2 := by
          dsimp only at hinv
          rw [List.append_nil] at hinv
          cases hinv; exact ⟨rfl, rfl, rfl, rfl⟩
        by_cases hb2 : 0 ≤ b
        · rw [if_pos hb2] at hv
          rw [← hv, F.l.nil] at hres
          subst hres
          ((try cbv) <;> (repeat ((with_reducible refine EW.of ?_); cbv)))
          refine byes (leT hb2) ?_
          ((try cbv) <;> (repeat ((with_reducible refine EW.of ?_); cbv)))
          refine R1.of ?_
          cbv
          (repeat (first | exact trivial | refine And.intro (Emb.Pur _ _) ?_ | refine And.intro rfl ?_ | refine And.intro (Pur.mk rfl) ?_))
        · rw [if_neg hb2] at hv
          rw [← hv] at hres
          subst hres
          ((try cbv) <;> (repeat ((with_reducible refine EW.of ?_); cbv)))
          refine bno (leF (Int.not_le.1 hb2)) ?_
          ((try cbv) <;> (repeat ((with_reducible refine EW.of ?_); cbv)))
          refine R1.of ?_
          cbv
          (repeat (first | exact trivial | refine And.intro (Emb.Pur _ _) ?_ | refine And.intro rfl ?_ | refine And.intro (F.l.cut hok) ?_ | refine And.intro (Pur.mk rfl) ?_))
      obtain ⟨t', c3, a6, b6, ht'⟩ : ∃ x y z u, stepF A bs a b = (x, y, z, u) := ⟨_, _, _, _, rfl⟩
      have hrec := Step57 A E B F hP bs hl a ha1 b c t' c3 a6 b6 ht'
      unfold rdrF at hrec
      have hg2 := stepF_pos (A := A) hl ha1 (b := b)
      rw [ht'] at hg2
      dsimp only at hg2
      rw [kidsF_step (x := t') (c2 := c3) (a2 := a6) (b2 := b6) hb ht'] at hinv
      refine byes (ltT (Int.not_le.1 hb)) ?_
      ((try cbv) <;> (repeat ((with_reducible refine EW.of ?_); cbv)))
      refine ⟨Ent.of (hP ▸ Try.func57) rfl, ?_⟩
      obtain ⟨pv, hpv⟩ : ∃ pv, F.l.l l = pv := ⟨_, rfl⟩
      obtain ⟨l1, hl1⟩ : ∃ d, d = l ++ [t'] := ⟨_, rfl⟩
      rw [← hl1] at hinv
      obtain ⟨q1, hq1⟩ : ∃ q, q = l1.length := ⟨_, rfl⟩
      have hvl : F.l.l l1 = pv ++ [F.l.v t'] := by rw [hl1, F.l.app, hpv, F.l.cons, F.l.nil]
      have hq2 : q1 = j + 1 := by rw [hq1, hl1, List.length_append]; show _ + 1 = _; omega
      obtain ⟨op, id, par, pl, s0, i, k0, s, ks'⟩ := t'
      rw [F.v E] at hrec hvl
      refine TC1.call [0] hrec ?_
      cbv
      (repeat (first | exact trivial | refine And.intro (Emb.Pur _ _) ?_ | refine And.intro rfl ?_ | refine And.intro (Pur.mk rfl) ?_))
      ((try cbv) <;> (repeat ((with_reducible refine EW.of ?_); cbv)))
      have hll := F.l.len l
      rw [← hpv] at hvl
      refine ⟨⟨rfl⟩, q1, F.l.l l1, by rw [hq1, hl1, List.length_append, hok]; rfl, by rw [hvl, List.take_of_length_le (show (F.l.l l).length ≤ m by omega)], (show m ≤ (F.l.l l).length by omega), by omega, by omega, ?_⟩
      cbv
      ((try cbv) <;> (repeat ((with_reducible refine EW.of ?_); cbv)))
      refine LM.of (j + 1, k, c3, a6, b6, some (q1, l1)) rfl ?_ ?_ ?_
      · rw [hS]; exact ⟨by show j + 1 + k = n; omega, hg2, hq1, by show l1.length = j + 1; omega, hinv⟩
      · rw [hS]; show k < k + 1; omega
      · rw [hS]
        cbv
        (repeat (first | exact trivial | refine And.intro (Emb.Pur _ _) ?_ | refine And.intro (inc_eq A (by omega)) ?_ | refine And.intro rfl ?_ | refine And.intro (Pur.mk rfl) ?_))
    · have h : n ≤ j := lt_nf h rfl rfl
      obtain rfl : k = 0 := by omega
      rw [kidsF] at hinv
      obtain ⟨rfl, rfl, rfl, rfl⟩ : l = ks ∧ c = c2 ∧ a = a2 ∧ b = bad2 := by
        dsimp only at hinv
        rw [List.append_nil] at hinv
        cases hinv; exact ⟨rfl, rfl, rfl, rfl⟩
      by_cases hb2 : 0 ≤ b
      · rw [if_pos hb2] at hv
        rw [← hv, F.l.nil] at hres
        subst hres
        ((try cbv) <;> (repeat ((with_reducible refine EW.of ?_); cbv)))
        refine byes (leT hb2) ?_
        ((try cbv) <;> (repeat ((with_reducible refine EW.of ?_); cbv)))
        refine R1.of ?_
        cbv
        (repeat (first | exact trivial | refine And.intro (Emb.Pur _ _) ?_ | refine And.intro rfl ?_ | refine And.intro (Pur.mk rfl) ?_))
      · rw [if_neg hb2] at hv
        rw [← hv] at hres
        subst hres
        ((try cbv) <;> (repeat ((with_reducible refine EW.of ?_); cbv)))
        refine bno (leF (Int.not_le.1 hb2)) ?_
        ((try cbv) <;> (repeat ((with_reducible refine EW.of ?_); cbv)))
        refine R1.of ?_
        cbv
        (repeat (first | exact trivial | refine And.intro (Emb.Pur _ _) ?_ | refine And.intro rfl ?_ | refine And.intro (F.l.cut hok) ?_ | refine And.intro (Pur.mk rfl) ?_))
end Go.Proofs.Ytmbbdabcbnemiaa
