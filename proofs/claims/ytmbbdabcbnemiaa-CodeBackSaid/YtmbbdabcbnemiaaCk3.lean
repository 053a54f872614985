import Derived.Test.YtmbbdabcbnemiaaCk2
/-! The reference's nodes, walked. -/
namespace Go.Proofs.Ytmbbdabcbnemiaa
open Go.Proofs.Ytmbbdabcbnemiaa.Tw
theorem kidsF_step {α : Type} {one : Nat → Nat → Int → α × Nat × Nat × Int} {n c a : Nat} {b : Int} (hb : ¬ 0 ≤ b) {acc : List α} {x : α} {c2 a2 : Nat} {b2 : Int} (h : one c a b = (x, c2, a2, b2)) :
    (acc ++ (kidsF one (n + 1) c a b).1, (kidsF one (n + 1) c a b).2) = ((acc ++ [x]) ++ (kidsF one n c2 a2 b2).1, (kidsF one n c2 a2 b2).2) := by
  rw [kidsF, if_neg hb, h]
  simp
def rowA (p : Nat) : Option (Nat × List Tree) → AV
  | none => .nils
  | some (m, _) => .row p 4 0 m
set_option maxHeartbeats 4000000 in
theorem node51 (A : Ar) (E : Em) (B : EmB) {P : Program} (hP : P = Try.prog) (bs : List UInt8) (hl : bs.length ≤ 1000000000) : ∀ (f : Nat), f ≤ 40 → ∀ (d : Int), d = 41 - (f : Int) → ∀ (c a : Nat) (b : Int), goodF bs c a b → ∀ (t : Tree) (c2 a2 : Nat) (b2 : Int), nodeF A bs f c a b = (t, c2, a2, b2) →
    TC1 P 51 [.ref 0 4 0 0, .int .i64 d] [some (rdrF B bs a b c)] (E.tree.v t) [some (rdrF B bs a2 b2 c2)] := by
  intro f
  induction f with
  | zero =>
    intro _ d hd c a b hg t c2 a2 b2 h
    rw [nodeF] at h
    by_cases h0 : 0 ≤ b
    · rw [if_pos h0] at h
      obtain ⟨rfl, rfl, rfl, rfl⟩ : tree0 = t ∧ c = c2 ∧ a = a2 ∧ b = b2 := by cases h; exact ⟨rfl, rfl, rfl, rfl⟩
      rw [E.zero]
      refine TC1.of A _ _ T0 (T0_ok hP) (hP ▸ Try.func51) rfl _ rfl (by simp) ?_
      unfold rdrF
      cbv
      ((try cbv) <;> (repeat ((with_reducible refine EW.of ?_); cbv)))
      refine byes (leT h0) ?_
      ((try cbv) <;> (repeat ((with_reducible refine EW.of ?_); cbv)))
      refine R1.of ?_
      cbv
      (repeat (first | exact trivial | refine And.intro (Emb.Pur _ _) ?_ | refine And.intro rfl ?_ | refine And.intro (Pur.mk rfl) ?_ | refine And.intro (inc_eq A (by omega)) ?_))
    rw [if_neg h0] at h
    have hb : b < 0 := by omega
    obtain ⟨rfl, rfl, rfl, rfl⟩ : tree0 = t ∧ c + 1 = c2 ∧ a = a2 ∧ (a : Int) = b2 := by cases h; exact ⟨rfl, rfl, rfl, rfl⟩
    have h44 := fails44 A B hP bs a b (A.op .add .i64 (c : Int) 1) hb a
    rw [E.zero]
    refine TC1.of A _ _ T0 (T0_ok hP) (hP ▸ Try.func51) rfl _ rfl (by simp) ?_
    have hc : c ≤ 200 := hg.2.2 hb
    unfold rdrF at *
    cbv
    ((try cbv) <;> (repeat ((with_reducible refine EW.of ?_); cbv)))
    refine bno (leF hb) ?_
    ((try cbv) <;> (repeat ((with_reducible refine EW.of ?_); cbv)))
    refine byes (show A.lt 40 d = true from ltT (d41_0 hd)) ?_
    have hinc : A.op .add .i64 (c : Int) 1 = ((c + 1 : Nat) : Int) := inc_eq A (by omega)
    ((try cbv) <;> (repeat ((with_reducible refine EW.of ?_); cbv)))
    refine ⟨Ent.of (hP ▸ Try.func44) rfl, ?_⟩
    refine TC1.call [0] h44 ?_
    cbv
    (repeat (first | exact trivial | refine And.intro (Emb.Pur _ _) ?_ | refine And.intro rfl ?_ | refine And.intro (Pur.mk rfl) ?_ | refine And.intro (inc_eq A (by omega)) ?_))
    ((try cbv) <;> (repeat ((with_reducible refine EW.of ?_); cbv)))
    refine R1.of ?_
    cbv
    (repeat (first | exact trivial | refine And.intro (Emb.Pur _ _) ?_ | refine And.intro hinc ?_ | refine And.intro rfl ?_))
  | succ f ih =>
    intro hf d hd c a b hg t c2 a2 b2 h
    rw [nodeF] at h
    by_cases h0 : 0 ≤ b
    · rw [if_pos h0] at h
      obtain ⟨rfl, rfl, rfl, rfl⟩ : tree0 = t ∧ c = c2 ∧ a = a2 ∧ b = b2 := by cases h; exact ⟨rfl, rfl, rfl, rfl⟩
      rw [E.zero]
      refine TC1.of A _ _ T0 (T0_ok hP) (hP ▸ Try.func51) rfl _ rfl (by simp) ?_
      unfold rdrF
      cbv
      ((try cbv) <;> (repeat ((with_reducible refine EW.of ?_); cbv)))
      refine byes (leT h0) ?_
      ((try cbv) <;> (repeat ((with_reducible refine EW.of ?_); cbv)))
      refine R1.of ?_
      cbv
      (repeat (first | exact trivial | refine And.intro (Emb.Pur _ _) ?_ | refine And.intro rfl ?_ | refine And.intro (Pur.mk rfl) ?_ | refine And.intro (inc_eq A (by omega)) ?_))
    rw [if_neg h0] at h
    have hb : b < 0 := by omega
    have hc : c ≤ 200 := hg.2.2 hb
    have ha := hg.2.1
    have hinc : A.op .add .i64 (c : Int) 1 = ((c + 1 : Nat) : Int) := inc_eq A (by omega)
    by_cases h1 : 200 < c + 1
    · rw [if_pos h1] at h
      obtain ⟨rfl, rfl, rfl, rfl⟩ : tree0 = t ∧ c + 1 = c2 ∧ a = a2 ∧ (a : Int) = b2 := by cases h; exact ⟨rfl, rfl, rfl, rfl⟩
      have h44 := fails44 A B hP bs a b (A.op .add .i64 (c : Int) 1) hb a
      have h2 : A.lt 200 (A.op .add .i64 (c : Int) 1) = true := by rw [hinc]; exact ltT (by omega)
      rw [E.zero]
      refine TC1.of A _ _ T0 (T0_ok hP) (hP ▸ Try.func51) rfl _ rfl (by simp) ?_
      unfold rdrF at *
      cbv
      ((try cbv) <;> (repeat ((with_reducible refine EW.of ?_); cbv)))
      refine bno (leF hb) ?_
      ((try cbv) <;> (repeat ((with_reducible refine EW.of ?_); cbv)))
      refine bno (show A.lt 40 d = false from ltF (d41_s hd)) ?_
      ((try cbv) <;> (repeat ((with_reducible refine EW.of ?_); cbv)))
      refine byes h2 ?_
      ((try cbv) <;> (repeat ((with_reducible refine EW.of ?_); cbv)))
      refine ⟨Ent.of (hP ▸ Try.func44) rfl, ?_⟩
      refine TC1.call [0] h44 ?_
      cbv
      (repeat (first | exact trivial | refine And.intro (Emb.Pur _ _) ?_ | refine And.intro rfl ?_ | refine And.intro (Pur.mk rfl) ?_ | refine And.intro (inc_eq A (by omega)) ?_))
      ((try cbv) <;> (repeat ((with_reducible refine EW.of ?_); cbv)))
      refine R1.of ?_
      cbv
      (repeat (first | exact trivial | refine And.intro (Emb.Pur _ _) ?_ | refine And.intro hinc ?_ | refine And.intro rfl ?_))
    rw [if_neg h1] at h
    obtain ⟨v1, a1, b1, g1⟩ : ∃ v1 a1 b1, askR 0 bs a b (numR A bs a) = (v1, a1, b1) := ⟨_, _, _, rfl⟩
    rw [g1] at h
    dsimp only at h
    have hp1 := askN_pos ha g1
    have k1 := Number21 A B hP bs hl a ha b (A.op .add .i64 (c : Int) 1) v1 a1 b1 g1
    obtain ⟨v2, a3, b3, g2⟩ : ∃ x y z, askR 0 bs a1 b1 (numR A bs a1) = (x, y, z) := ⟨_, _, _, rfl⟩
    rw [g2] at h
    dsimp only at h
    have hp2 := askN_pos hp1 g2
    have k2 := Number21 A B hP bs hl a1 hp1 b1 (A.op .add .i64 (c : Int) 1) v2 a3 b3 g2
    obtain ⟨v3, a4, b4, g3⟩ : ∃ x y z, askR ⟨#[]⟩ bs a3 b3 (textR A bs a3) = (x, y, z) := ⟨_, _, _, rfl⟩
    rw [g3] at h
    dsimp only at h
    have hp3 := askT_pos hl hp2 g3
    have k3 := Text25 A B hP bs hl a3 hp2 b3 (A.op .add .i64 (c : Int) 1) v3 a4 b4 g3
    obtain ⟨v4, a5, b5, g4⟩ : ∃ x y z, askR 0 bs a4 b4 (countR A bs a4 32 bs.length) = (x, y, z) := ⟨_, _, _, rfl⟩
    rw [g4] at h
    dsimp only at h
    have hp4 := countR_pos hl hp3 g4
    obtain ⟨n, rfl, hn9⟩ := askC_nat hl g4
    have hlk : A.len (B.l.l bs) = (bs.length : Int) := by rw [A.ok_len, B.l.len bs]
    rw [← hlk] at g4
    have k4 := Count33 A B hP bs hl a4 hp3 b4 (A.op .add .i64 (c : Int) 1) 32 (A.len (B.l.l bs)) n a5 b5 g4
    rw [Int.toNat_natCast] at h
    have hgk : goodF bs (c + 1) a5 b5 := ⟨by omega, hp4, fun _ => by omega⟩
    clear g1 g2 g3 g4 hg
    obtain ⟨ks, R, hks⟩ : ∃ ks R, kidsF (nodeF A bs f) n (c + 1) a5 b5 = (ks, R) := ⟨_, _, rfl⟩
    rw [hks] at h
    obtain ⟨rfl, rfl⟩ : Tree.node v1 v2 v3 ks = t ∧ R = (c2, a2, b2) := by cases h; exact ⟨rfl, rfl⟩
    clear h
    rw [E.node]
    refine TC1.of A _ _ T0 (T0_ok hP) (hP ▸ Try.func51) rfl _ rfl (by simp) ?_
    unfold rdrF at *
    have h2 : A.lt 200 (A.op .add .i64 (c : Int) 1) = false := by rw [hinc]; exact ltF (by omega)
    cbv
    ((try cbv) <;> (repeat ((with_reducible refine EW.of ?_); cbv)))
    refine bno (leF hb) ?_
    ((try cbv) <;> (repeat ((with_reducible refine EW.of ?_); cbv)))
    refine bno (show A.lt 40 d = false from ltF (d41_s hd)) ?_
    ((try cbv) <;> (repeat ((with_reducible refine EW.of ?_); cbv)))
    refine bno h2 ?_
    ((try cbv) <;> (repeat ((with_reducible refine EW.of ?_); cbv)))
    refine ⟨Ent.of (hP ▸ Try.func21) rfl, ?_⟩
    refine TC1.call [0] k1 ?_
    cbv
    (repeat (first | exact trivial | refine And.intro (Emb.Pur _ _) ?_ | refine And.intro rfl ?_ | refine And.intro (Pur.mk rfl) ?_ | refine And.intro (inc_eq A (by omega)) ?_))
    ((try cbv) <;> (repeat ((with_reducible refine EW.of ?_); cbv)))
    refine ⟨Ent.of (hP ▸ Try.func21) rfl, ?_⟩
    refine TC1.call [0] k2 ?_
    cbv
    (repeat (first | exact trivial | refine And.intro (Emb.Pur _ _) ?_ | refine And.intro rfl ?_ | refine And.intro (Pur.mk rfl) ?_ | refine And.intro (inc_eq A (by omega)) ?_))
    ((try cbv) <;> (repeat ((with_reducible refine EW.of ?_); cbv)))
    refine ⟨Ent.of (hP ▸ Try.func25) rfl, ?_⟩
    refine TC1.call [0] k3 ?_
    cbv
    (repeat (first | exact trivial | refine And.intro (Emb.Pur _ _) ?_ | refine And.intro rfl ?_ | refine And.intro (Pur.mk rfl) ?_ | refine And.intro (inc_eq A (by omega)) ?_))
    ((try cbv) <;> (repeat ((with_reducible refine EW.of ?_); cbv)))
    refine ⟨Ent.of (hP ▸ Try.func33) rfl, ?_⟩
    refine TC1.call [0] k4 ?_
    cbv
    (repeat (first | exact trivial | refine And.intro (Emb.Pur _ _) ?_ | refine And.intro rfl ?_ | refine And.intro (Pur.mk rfl) ?_ | refine And.intro (inc_eq A (by omega)) ?_))
    ((try cbv) <;> (repeat ((with_reducible refine EW.of ?_); cbv)))
    obtain ⟨S, hS⟩ : ∃ S : LI (Nat × Nat × Nat × Nat × Int × Option (Nat × List Tree)), S = ⟨fun x => [(11, .int .i64 x.1), (10, .int .i64 n), (9, .ref 2 4 0 0), (4, .ref 1 4 0 0), (0, .ref 0 4 0 0), (1, .int .i64 d)], fun x => stT E [some (.box 4 (.agg [.sl 1 (B.l.l bs), .int .i64 x.2.2.2.1, .int .i64 x.2.2.2.2.1, .int .i64 x.2.2.1])), some (.box 4 (.agg [.int .i64 0, .int .i64 0, .str ⟨⟨[]⟩⟩, .nils])), some (.box 4 (.agg [.int .i64 v1, .int .i64 v2, .str v3, rowA 3 x.2.2.2.2.2]))] x.2.2.2.2.2, fun x => x.1 + x.2.1 = n ∧ goodF bs x.2.2.1 x.2.2.2.1 x.2.2.2.2.1 ∧ okT x.2.2.2.2.2 ∧ (outT x.2.2.2.2.2).length = x.1 ∧ (ks, c2, a2, b2) = (outT x.2.2.2.2.2 ++ (kidsF (nodeF A bs f) x.2.1 x.2.2.1 x.2.2.2.1 x.2.2.2.2.1).1, (kidsF (nodeF A bs f) x.2.1 x.2.2.1 x.2.2.2.1 x.2.2.2.2.1).2), fun x => x.2.1⟩ := ⟨_, rfl⟩
    refine TW.loopM A (T0_ok hP) S _ rfl (0, n, c + 1, a5, b5, none) ?_ ?_ ?_
    · rw [hS]; exact ⟨Nat.zero_add _, hgk, trivial, rfl, by dsimp only [outT]; rw [hks]; rfl⟩
    · rw [hS]
      cbv
      (repeat (first | exact trivial | refine And.intro (Emb.Pur _ _) ?_ | refine And.intro hinc ?_ | refine And.intro rfl ?_))
    rintro ⟨j, k, c, a, b, o⟩ hj l1 L1 e1 e2
    rw [hS] at hj e1 e2
    dsimp only at hj e1 e2
    obtain ⟨hj, hg, hok, hlen, hinv⟩ := hj
    subst e1
    clear k1 k2 k3 k4 hinc hp1 hp2 hp3 hp4 hc ha hb hgk h2
    cases o with
    | none =>
      dsimp only [stT, rowA, outT, okT] at e2 hok hlen hinv ⊢
      subst e2
      cbv
      ((try cbv) <;> (repeat ((with_reducible refine EW.of ?_); cbv)))
      refine bsplit (fun h => ?_) (fun h => ?_)
      · have h : j < n := lt_nt h rfl rfl
        obtain ⟨k, rfl⟩ : ∃ k', k = k' + 1 := ⟨k - 1, by omega⟩
        ((try cbv) <;> (repeat ((with_reducible refine EW.of ?_); cbv)))
        by_cases hb : 0 ≤ b
        · refine bno (ltF hb) ?_
          rw [kidsF_pos hb] at hinv
          obtain ⟨rfl, rfl, rfl, rfl⟩ : [] = ks ∧ c = c2 ∧ a = a2 ∧ b = b2 := by cases hinv; exact ⟨rfl, rfl, rfl, rfl⟩
          ((try cbv) <;> (repeat ((with_reducible refine EW.of ?_); cbv)))
          refine R1.of ?_
          cbv
          (repeat (first | exact trivial | refine And.intro (Emb.Pur _ _) ?_ | refine And.intro rfl ?_ | refine And.intro E.tree.nil.symm ?_ | refine And.intro (Pur.mk rfl) ?_))
        have hr1 : A.op .add .i64 d 1 = 41 - (f : Int) := d41_i A hf hd
        obtain ⟨t', c3, a6, b6, ht'⟩ : ∃ x y z u, nodeF A bs f c a b = (x, y, z, u) := ⟨_, _, _, _, rfl⟩
        have hrec := ih (by omega) _ rfl c a b hg t' c3 a6 b6 ht'
        rw [← hr1] at hrec
        obtain ⟨i', k', s', ks'⟩ := t'
        have hg2 := nodeF_good (A := A) hl f c a b hg
        rw [ht'] at hg2
        dsimp only at hg2
        rw [kidsF_step hb ht'] at hinv
        refine byes (ltT (Int.not_le.1 hb)) ?_
        ((try cbv) <;> (repeat ((with_reducible refine EW.of ?_); cbv)))
        refine ⟨Ent.of (hP ▸ Try.func51) rfl, ?_⟩
        obtain ⟨pv, hpv⟩ : ∃ pv, E.tree.l [] = pv := ⟨_, rfl⟩
        obtain ⟨l1, hl1⟩ : ∃ d, d = [] ++ [Tree.node i' k' s' ks'] := ⟨_, rfl⟩
        rw [← hl1] at hinv
        obtain ⟨q1, hq1⟩ : ∃ q, q = l1.length := ⟨_, rfl⟩
        have hvl : E.tree.l l1 = pv ++ [E.tree.v (.node i' k' s' ks')] := by rw [hl1, E.tree.app, hpv, E.tree.cons, E.tree.nil]
        have hq2 : q1 = j + 1 := by rw [hq1, hl1, List.length_append]; show _ + 1 = _; omega
        rw [E.node] at hrec hvl
        refine TC1.call [0] hrec ?_
        cbv
        (repeat (first | exact trivial | refine And.intro (Emb.Pur _ _) ?_ | refine And.intro rfl ?_ | refine And.intro (Pur.mk rfl) ?_ | refine And.intro (inc_eq A (by omega)) ?_))
        ((try cbv) <;> (repeat ((with_reducible refine EW.of ?_); cbv)))
        rw [← hpv, E.tree.nil] at hvl
        refine ⟨⟨rfl⟩, q1, E.tree.l l1, by rw [hq1, hl1]; rfl, by rw [hvl]; rfl, Nat.zero_le _, by omega, by omega, ?_⟩
        cbv
        ((try cbv) <;> (repeat ((with_reducible refine EW.of ?_); cbv)))
        refine LM.of (j + 1, k, c3, a6, b6, some (q1, l1)) rfl ?_ ?_ ?_
        · rw [hS]; exact ⟨by show j + 1 + k = n; omega, hg2, hq1, by show l1.length = j + 1; omega, hinv⟩
        · rw [hS]; show k < k + 1; omega
        · rw [hS]
          cbv
          (repeat (first | exact trivial | refine And.intro (Emb.Pur _ _) ?_ | refine And.intro (inc_eq A (by omega)) ?_ | refine And.intro rfl ?_ | refine And.intro (Pur.mk rfl) ?_))
      · have h : n ≤ j := lt_nf h rfl rfl
        obtain rfl : k = 0 := by omega
        rw [kidsF] at hinv
        obtain ⟨rfl, rfl, rfl, rfl⟩ : [] = ks ∧ c = c2 ∧ a = a2 ∧ b = b2 := by cases hinv; exact ⟨rfl, rfl, rfl, rfl⟩
        ((try cbv) <;> (repeat ((with_reducible refine EW.of ?_); cbv)))
        refine R1.of ?_
        cbv
        (repeat (first | exact trivial | refine And.intro (Emb.Pur _ _) ?_ | refine And.intro rfl ?_ | refine And.intro E.tree.nil.symm ?_ | refine And.intro (Pur.mk rfl) ?_))
    | some y =>
      obtain ⟨m, l⟩ := y
      dsimp only [stT, rowA, outT, okT] at e2 hok hlen hinv ⊢
      subst e2
      cbv
      ((try cbv) <;> (repeat ((with_reducible refine EW.of ?_); cbv)))
      refine bsplit (fun h => ?_) (fun h => ?_)
      · have h : j < n := lt_nt h rfl rfl
        obtain ⟨k, rfl⟩ : ∃ k', k = k' + 1 := ⟨k - 1, by omega⟩
        ((try cbv) <;> (repeat ((with_reducible refine EW.of ?_); cbv)))
        by_cases hb : 0 ≤ b
        · refine bno (ltF hb) ?_
          rw [kidsF_pos hb] at hinv
          obtain ⟨rfl, rfl, rfl, rfl⟩ : l = ks ∧ c = c2 ∧ a = a2 ∧ b = b2 := by
            dsimp only at hinv
            rw [List.append_nil] at hinv
            cases hinv; exact ⟨rfl, rfl, rfl, rfl⟩
          ((try cbv) <;> (repeat ((with_reducible refine EW.of ?_); cbv)))
          refine R1.of ?_
          cbv
          (repeat (first | exact trivial | refine And.intro (Emb.Pur _ _) ?_ | refine And.intro rfl ?_ | refine And.intro (E.tree.cut hok) ?_ | refine And.intro (Pur.mk rfl) ?_))
        have hr1 : A.op .add .i64 d 1 = 41 - (f : Int) := d41_i A hf hd
        obtain ⟨t', c3, a6, b6, ht'⟩ : ∃ x y z u, nodeF A bs f c a b = (x, y, z, u) := ⟨_, _, _, _, rfl⟩
        have hrec := ih (by omega) _ rfl c a b hg t' c3 a6 b6 ht'
        rw [← hr1] at hrec
        obtain ⟨i', k', s', ks'⟩ := t'
        have hg2 := nodeF_good (A := A) hl f c a b hg
        rw [ht'] at hg2
        dsimp only at hg2
        rw [kidsF_step hb ht'] at hinv
        refine byes (ltT (Int.not_le.1 hb)) ?_
        ((try cbv) <;> (repeat ((with_reducible refine EW.of ?_); cbv)))
        refine ⟨Ent.of (hP ▸ Try.func51) rfl, ?_⟩
        obtain ⟨pv, hpv⟩ : ∃ pv, E.tree.l l = pv := ⟨_, rfl⟩
        obtain ⟨l1, hl1⟩ : ∃ d, d = l ++ [Tree.node i' k' s' ks'] := ⟨_, rfl⟩
        rw [← hl1] at hinv
        obtain ⟨q1, hq1⟩ : ∃ q, q = l1.length := ⟨_, rfl⟩
        have hvl : E.tree.l l1 = pv ++ [E.tree.v (.node i' k' s' ks')] := by rw [hl1, E.tree.app, hpv, E.tree.cons, E.tree.nil]
        have hq2 : q1 = j + 1 := by rw [hq1, hl1, List.length_append]; show _ + 1 = _; omega
        rw [E.node] at hrec hvl
        refine TC1.call [0] hrec ?_
        cbv
        (repeat (first | exact trivial | refine And.intro (Emb.Pur _ _) ?_ | refine And.intro rfl ?_ | refine And.intro (Pur.mk rfl) ?_ | refine And.intro (inc_eq A (by omega)) ?_))
        ((try cbv) <;> (repeat ((with_reducible refine EW.of ?_); cbv)))
        have hll := E.tree.len l
        rw [← hpv] at hvl
        refine ⟨⟨rfl⟩, q1, E.tree.l l1, by rw [hq1, hl1, List.length_append, hok]; rfl, by rw [hvl, List.take_of_length_le (show (E.tree.l l).length ≤ m by omega)], (show m ≤ (E.tree.l l).length by omega), by omega, by omega, ?_⟩
        cbv
        ((try cbv) <;> (repeat ((with_reducible refine EW.of ?_); cbv)))
        refine LM.of (j + 1, k, c3, a6, b6, some (q1, l1)) rfl ?_ ?_ ?_
        · rw [hS]; exact ⟨by show j + 1 + k = n; omega, hg2, hq1, by show l1.length = j + 1; omega, hinv⟩
        · rw [hS]; show k < k + 1; omega
        · rw [hS]
          cbv
          (repeat (first | exact trivial | refine And.intro (Emb.Pur _ _) ?_ | refine And.intro (inc_eq A (by omega)) ?_ | refine And.intro rfl ?_ | refine And.intro (Pur.mk rfl) ?_))
      · have h : n ≤ j := lt_nf h rfl rfl
        obtain rfl : k = 0 := by omega
        rw [kidsF] at hinv
        obtain ⟨rfl, rfl, rfl, rfl⟩ : l = ks ∧ c = c2 ∧ a = a2 ∧ b = b2 := by
          dsimp only at hinv
          rw [List.append_nil] at hinv
          cases hinv; exact ⟨rfl, rfl, rfl, rfl⟩
        ((try cbv) <;> (repeat ((with_reducible refine EW.of ?_); cbv)))
        refine R1.of ?_
        cbv
        (repeat (first | exact trivial | refine And.intro (Emb.Pur _ _) ?_ | refine And.intro rfl ?_ | refine And.intro (E.tree.cut hok) ?_ | refine And.intro (Pur.mk rfl) ?_))
end Go.Proofs.Ytmbbdabcbnemiaa

/-! The reference's nodes are the program's. -/
namespace Go.Proofs.Ytmbbdabcbnemiaa
open Go.Proofs.Ytmbbdabcbnemiaa.Tw
/-- What a reading's failure puts. -/
def RN.bad {α : Type} (b : Int) : RN α → Int
  | .ok _ _ _ => b
  | .no e _ _ => e
theorem askR_pos {α : Type} {z : α} {bs : List UInt8} {a : Nat} {b : Int} {r : RR α} (hb : 0 ≤ b) : askR z bs a b r = (z, a, b) := by
  unfold askR; rw [if_pos hb]
theorem askR_no {α : Type} {z : α} {bs : List UInt8} {a a2 : Nat} {b e : Int} {r : RR α} (hb : ¬ 0 ≤ b) (h : r = .no e a2) : askR z bs a b r = (z, a2, e) := by
  rw [askR_neg hb, h]
theorem askR_ok {α : Type} {z v : α} {bs : List UInt8} {a a2 : Nat} {b : Int} {r : RR α} (hb : ¬ 0 ≤ b) (h : r = .ok v a2) : askR z bs a b r = (v, a2, b) := by
  rw [askR_neg hb, h]
theorem textR_no {A : Ar} {bs : List UInt8} {a a2 : Nat} {e : Int} (h : textR A bs a = .no e a2) : 0 ≤ e := by
  unfold textR at h
  cases hc : countR A bs a 1 bs.length with
  | no e2 a3 =>
    rw [hc] at h
    cases h
    rcases countR_no hc with h | h <;> omega
  | ok n a3 =>
    rw [hc] at h
    simp only [RR.bind] at h
    cases ht : takeR bs a3 n.toNat with
    | no e a4 => rw [ht] at h; cases h; rw [(takeR_no ht).1]; omega
    | ok l a4 => rw [ht] at h; cases h
theorem nodeF_R {A : Ar} {bs : List UInt8} (hl : bs.length ≤ 1000000000) : ∀ (f c a : Nat) (b : Int), b < 0 → goodF bs c a b →
    (nodeF A bs f c a b).2 = ((nodeR A bs f c a).cnt, (nodeR A bs f c a).pos, (nodeR A bs f c a).bad b) ∧ (∀ t c2 a2, nodeR A bs f c a = .ok t c2 a2 → (nodeF A bs f c a b).1 = t) ∧ (∀ e c2 a2, nodeR A bs f c a = .no e c2 a2 → 0 ≤ e) := by
  intro f
  induction f with
  | zero =>
    intro c a b hb ha
    rw [nodeF, nodeR, if_neg (by omega)]
    exact ⟨rfl, fun t c2 a2 h => (by cases h), fun e c2 a2 h => (by cases h; omega)⟩
  | succ f ih =>
    intro c a b hb ha
    have hks : ∀ (n c a : Nat) (b : Int), b < 0 → goodF bs c a b → (kidsF (nodeF A bs f) n c a b).2 = ((listR (nodeR A bs f) n c a).cnt, (listR (nodeR A bs f) n c a).pos, (listR (nodeR A bs f) n c a).bad b) ∧ (∀ t c2 a2, listR (nodeR A bs f) n c a = .ok t c2 a2 → (kidsF (nodeF A bs f) n c a b).1 = t) ∧ (∀ e c2 a2, listR (nodeR A bs f) n c a = .no e c2 a2 → 0 ≤ e) := by
      intro n
      induction n with
      | zero =>
        intro c a b hb ha
        exact ⟨rfl, fun t c2 a2 h => (by cases h; rfl), fun e c2 a2 h => (by cases h)⟩
      | succ n ihn =>
        intro c a b hb ha
        obtain ⟨i1, i2, i3⟩ := ih c a b hb ha
        rw [kidsF, if_neg (by omega), listR]
        have hp := nodeF_good (A := A) hl f c a b ha
        cases hr : nodeR A bs f c a with
        | no e c3 a3 =>
          rw [hr] at i1
          have he := i3 e c3 a3 hr
          simp only [RN.bind]
          dsimp only [RN.cnt, RN.pos, RN.bad] at i1 ⊢
          rw [i1]
          dsimp only
          rw [kidsF_pos he]
          exact ⟨rfl, fun t c2 a2 h => (by cases h), fun e c2 a2 h => (by cases h; exact he)⟩
        | ok x c3 a3 =>
          rw [hr] at i1
          have hx := i2 x c3 a3 hr
          simp only [RN.bind]
          dsimp only [RN.cnt, RN.pos, RN.bad] at i1 ⊢
          rw [i1, hx]
          dsimp only
          have ha3 : goodF bs c3 a3 b := by rw [i1] at hp; exact hp
          obtain ⟨j1, j2, j3⟩ := ihn c3 a3 b hb ha3
          cases hq : listR (nodeR A bs f) n c3 a3 with
          | no e c4 a4 =>
            rw [hq] at j1
            exact ⟨j1, fun t c2 a2 h => (by cases h), fun e c2 a2 h => (by cases h; exact j3 _ _ _ hq)⟩
          | ok xs c4 a4 =>
            rw [hq] at j1
            have := j2 _ _ _ hq
            exact ⟨j1, fun t c2 a2 h => (by cases h; rw [this]), fun e c2 a2 h => (by cases h)⟩
    have hb0 : ¬ 0 ≤ b := by omega
    have hc2 := ha.2.2 hb
    rw [nodeF, if_neg hb0, nodeR]
    by_cases h1 : 200 < c + 1
    · rw [if_pos h1, if_pos h1]
      exact ⟨rfl, fun t c2 a2 h => (by cases h), fun e c2 a2 h => (by cases h; omega)⟩
    rw [if_neg h1, if_neg h1]
    cases q1 : numR A bs a with
    | no e a1 =>
      have hx : 0 ≤ e := by have := numR_no q1; omega
      simp only [RR.toN, RN.bind, askR_no hb0 rfl]
      refine ⟨?_, fun t c2 a2 h => (by cases h), fun e c2 a2 h => (by cases h; omega)⟩
      simp only [askR_pos hx, kidsF_pos hx, RN.bad, RN.cnt, RN.pos]
    | ok v1 a1 =>
    have p1 := (numR_ok q1).2
    simp only [RR.toN, RN.bind, askR_ok hb0 rfl]
    cases q2 : numR A bs a1 with
    | no e a2 =>
      have hx : 0 ≤ e := by have := numR_no q2; omega
      simp only [askR_no hb0 rfl]
      refine ⟨?_, fun t c2 a2 h => (by cases h), fun e c2 a2 h => (by cases h; omega)⟩
      simp only [askR_pos hx, kidsF_pos hx, RN.bad, RN.cnt, RN.pos]
    | ok v2 a2 =>
    have p2 := (numR_ok q2).2
    simp only [askR_ok hb0 rfl]
    cases q3 : textR A bs a2 with
    | no e a3 =>
      have hx : 0 ≤ e := textR_no q3
      simp only [askR_no hb0 rfl]
      refine ⟨?_, fun t c2 a2 h => (by cases h), fun e c2 a2 h => (by cases h; omega)⟩
      simp only [askR_pos hx, kidsF_pos hx, RN.bad, RN.cnt, RN.pos]
    | ok v3 a3 =>
    have p3 := textR_ok q3
    simp only [askR_ok hb0 rfl]
    cases q4 : countR A bs a3 32 bs.length with
    | no e a4 =>
      have hx : 0 ≤ e := by rcases countR_no q4 with h | h <;> omega
      simp only [askR_no hb0 rfl]
      refine ⟨?_, fun t c2 a2 h => (by cases h), fun e c2 a2 h => (by cases h; omega)⟩
      simp only [askR_pos hx, kidsF_pos hx, RN.bad, RN.cnt, RN.pos]
    | ok v4 a4 =>
    have p4 := (countR_ok hl q4).2.1
    simp only [askR_ok hb0 rfl]
    obtain ⟨j1, j2, j3⟩ := hks v4.toNat (c + 1) a4 b hb ⟨by omega, p4, fun _ => by omega⟩
    cases hq : listR (nodeR A bs f) v4.toNat (c + 1) a4 with
    | no e c4 a4 =>
      rw [hq] at j1
      exact ⟨j1, fun t c2 a2 h => (by cases h), fun e c2 a2 h => (by cases h; exact j3 _ _ _ hq)⟩
    | ok xs c4 a4 =>
      rw [hq] at j1
      have := j2 _ _ _ hq
      exact ⟨j1, fun t c2 a2 h => (by cases h; rw [this]), fun e c2 a2 h => (by cases h)⟩
/-- How many nodes a reader counted. -/
def cntF (A : Ar) (bs : List UInt8) (a : Nat) (b : Int) : Nat := if 0 ≤ b then 0 else (nodeR A bs 40 0 a).cnt
set_option maxHeartbeats 2000000 in
theorem Node27 (A : Ar) (E : Em) (B : EmB) {P : Program} (hP : P = Try.prog) (bs : List UInt8) (hl : bs.length ≤ 1000000000) (a : Nat) (ha : a ≤ bs.length) (bad c : Int) (v : Tree) (a2 : Nat) (bad2 : Int) (h : askR tree0 bs a bad (nodeTR A bs a) = (v, a2, bad2)) :
    TC1 P 27 [.ref 0 4 0 0] [some (rdrF B bs a bad c)] (E.tree.v v) [some (rdrF B bs a2 bad2 (cntF A bs a bad))] := by
  have hg0 : goodF bs 0 a bad := ⟨by omega, ha, fun _ => by omega⟩
  have key : ∃ x, nodeF A bs 40 0 a bad = (x, cntF A bs a bad, a2, bad2) ∧ (if 0 ≤ bad2 then v = tree0 else v = x) := by
    by_cases h0 : 0 ≤ bad
    · rw [askR_pos h0] at h
      cases h
      refine ⟨tree0, ?_, ?_⟩
      · rw [nodeF, if_pos h0, cntF, if_pos h0]
      · rw [if_pos h0]
    · obtain ⟨j1, j2, j3⟩ := nodeF_R (A := A) hl 40 0 a bad (by omega) hg0
      rw [askR_neg h0] at h
      unfold nodeTR at h
      rw [cntF, if_neg h0]
      cases hr : nodeR A bs 40 0 a with
      | no e c3 a3 =>
        rw [hr] at h j1
        cases h
        refine ⟨(nodeF A bs 40 0 a bad).1, ?_, ?_⟩
        · rw [show (RN.no bad2 c3 a2 : RN Tree).cnt = c3 from rfl]
          exact Prod.ext rfl j1
        · rw [if_pos (j3 _ _ _ hr)]
      | ok x c3 a3 =>
        rw [hr] at h j1
        cases h
        refine ⟨v, ?_, ?_⟩
        · exact Prod.ext (j2 _ _ _ hr) j1
        · rw [if_neg h0]
  obtain ⟨x, hx, hv⟩ := key
  have h51 := node51 A E B hP bs hl 40 (Nat.le_refl _) 1 (by decide) 0 a bad hg0 x _ a2 bad2 hx
  obtain ⟨i, k, s, ks⟩ := x
  rw [E.node] at h51
  obtain ⟨cc, hcc⟩ : ∃ cc, cc = cntF A bs a bad := ⟨_, rfl⟩
  rw [← hcc] at h51 ⊢
  refine TC1.of A _ _ T0 (T0_ok hP) (hP ▸ Try.func27) rfl _ rfl (by simp) ?_
  unfold rdrF at *
  by_cases h2 : 0 ≤ bad2
  · rw [if_pos h2] at hv
    rw [hv, E.zero]
    cbv
    ((try cbv) <;> (repeat ((with_reducible refine EW.of ?_); cbv)))
    refine ⟨Ent.of (hP ▸ Try.func51) rfl, ?_⟩
    refine TC1.call [0] h51 ?_
    cbv
    (repeat (first | exact trivial | refine And.intro (Emb.Pur _ _) ?_ | refine And.intro rfl ?_ | refine And.intro (Pur.mk rfl) ?_))
    ((try cbv) <;> (repeat ((with_reducible refine EW.of ?_); cbv)))
    refine byes (leT h2) ?_
    ((try cbv) <;> (repeat ((with_reducible refine EW.of ?_); cbv)))
    refine R1.of ?_
    cbv
    (repeat (first | exact trivial | refine And.intro (Emb.Pur _ _) ?_ | refine And.intro rfl ?_ | refine And.intro (Pur.mk rfl) ?_))
  · rw [if_neg h2] at hv
    rw [hv, E.node]
    cbv
    ((try cbv) <;> (repeat ((with_reducible refine EW.of ?_); cbv)))
    refine ⟨Ent.of (hP ▸ Try.func51) rfl, ?_⟩
    refine TC1.call [0] h51 ?_
    cbv
    (repeat (first | exact trivial | refine And.intro (Emb.Pur _ _) ?_ | refine And.intro rfl ?_ | refine And.intro (Pur.mk rfl) ?_))
    ((try cbv) <;> (repeat ((with_reducible refine EW.of ?_); cbv)))
    refine bno (leF (Int.not_le.1 h2)) ?_
    ((try cbv) <;> (repeat ((with_reducible refine EW.of ?_); cbv)))
    refine R1.of ?_
    cbv
    (repeat (first | exact trivial | refine And.intro (Emb.Pur _ _) ?_ | refine And.intro rfl ?_ | refine And.intro (Pur.mk rfl) ?_))
end Go.Proofs.Ytmbbdabcbnemiaa

/-! The reference's steps. -/
namespace Go.Proofs.Ytmbbdabcbnemiaa
open Go.Proofs.Ytmbbdabcbnemiaa.Tw
def stp0 : Stp := ⟨0, 0, 0, 0, ⟨#[]⟩, tree0⟩
def stepF (A : Ar) (bs : List UInt8) (a : Nat) (b : Int) : Stp × Nat × Nat × Int :=
  let r0 := askR 0 bs a b (smallR A bs a)
  let r1 := askR 0 bs r0.2.1 r0.2.2 (numR A bs r0.2.1)
  let r2 := askR 0 bs r1.2.1 r1.2.2 (numR A bs r1.2.1)
  let r3 := askR 0 bs r2.2.1 r2.2.2 (numR A bs r2.2.1)
  let r4 := askR ⟨#[]⟩ bs r3.2.1 r3.2.2 (textR A bs r3.2.1)
  let r5 := askR tree0 bs r4.2.1 r4.2.2 (nodeTR A bs r4.2.1)
  (if 0 ≤ r5.2.2 then stp0 else ⟨r0.1, r1.1, r2.1, r3.1, r4.1, r5.1⟩, cntF A bs r4.2.1 r4.2.2, r5.2.1, r5.2.2)
theorem askS_pos {A : Ar} {bs : List UInt8} {a : Nat} {b : Int} {v : Int} {a2 : Nat} {b2 : Int} (ha : a ≤ bs.length) (h : askR 0 bs a b (smallR A bs a) = (v, a2, b2)) : a2 ≤ bs.length := by
  unfold askR at h
  split at h
  · cases h; exact ha
  unfold smallR at h
  cases hc : takeR bs a 1 with
  | no e a3 => rw [hc] at h; cases h; rw [(takeR_no hc).2]; exact ha
  | ok m a3 => rw [hc] at h; cases h; exact (takeR_ok hc).2.2
theorem smallR_no {A : Ar} {bs : List UInt8} {a a2 : Nat} {e : Int} (h : smallR A bs a = .no e a2) : 0 ≤ e := by
  unfold smallR at h
  cases hc : takeR bs a 1 with
  | no e a3 => rw [hc] at h; cases h; rw [(takeR_no hc).1]; omega
  | ok m a3 => rw [hc] at h; cases h
theorem nodeTR_no {A : Ar} {bs : List UInt8} (hl : bs.length ≤ 1000000000) {a a2 : Nat} {e : Int} (ha : a ≤ bs.length) (h : nodeTR A bs a = .no e a2) : 0 ≤ e := by
  unfold nodeTR at h
  cases hr : nodeR A bs 40 0 a with
  | no e c a3 => rw [hr] at h; cases h; exact (nodeF_R (A := A) hl 40 0 a (-1) (by omega) ⟨by omega, ha, fun _ => by omega⟩).2.2 _ _ _ hr
  | ok x c a3 => rw [hr] at h; cases h
theorem askT2_pos {A : Ar} {bs : List UInt8} (hl : bs.length ≤ 1000000000) {a : Nat} {b : Int} {v : Tree} {a2 : Nat} {b2 : Int} (ha : a ≤ bs.length) (h : askR tree0 bs a b (nodeTR A bs a) = (v, a2, b2)) : a2 ≤ bs.length := by
  by_cases h0 : 0 ≤ b
  · rw [askR_pos h0] at h; cases h; exact ha
  have hg0 : goodF bs 0 a b := ⟨by omega, ha, fun _ => by omega⟩
  have hp := nodeF_good (A := A) hl 40 0 a b hg0
  rw [(nodeF_R (A := A) hl 40 0 a b (by omega) hg0).1] at hp
  rw [askR_neg h0] at h
  unfold nodeTR at h
  cases hr : nodeR A bs 40 0 a with
  | no e c3 a3 => rw [hr] at h hp; cases h; exact hp.2.1
  | ok x c3 a3 => rw [hr] at h hp; cases h; exact hp.2.1
/-- The reference's step is the program's. -/
theorem stepF_R {A : Ar} {bs : List UInt8} (hl : bs.length ≤ 1000000000) {a : Nat} (ha : a ≤ bs.length) {b : Int} :
    ((stepF A bs a b).1, (stepF A bs a b).2.2) = askR stp0 bs a b (stepR A bs a) ∧ (∀ e a2, stepR A bs a = .no e a2 → 0 ≤ e) := by
  have hno : ∀ e a2, stepR A bs a = .no e a2 → 0 ≤ e := by
    intro e a2 h
    unfold stepR at h
    cases h0 : smallR A bs a with
    | no e a3 => rw [h0] at h; cases h; exact smallR_no h0
    | ok op b0 =>
    rw [h0] at h
    simp only [RR.bind] at h
    cases h1 : numR A bs b0 with
    | no e a3 => rw [h1] at h; cases h; have := numR_no h1; omega
    | ok id b1 =>
    rw [h1] at h
    simp only at h
    cases h2 : numR A bs b1 with
    | no e a3 => rw [h2] at h; cases h; have := numR_no h2; omega
    | ok par b2 =>
    rw [h2] at h
    simp only at h
    cases h3 : numR A bs b2 with
    | no e a3 => rw [h3] at h; cases h; have := numR_no h3; omega
    | ok pl b3 =>
    rw [h3] at h
    simp only at h
    cases h4 : textR A bs b3 with
    | no e a3 => rw [h4] at h; cases h; exact textR_no h4
    | ok s b4 =>
    rw [h4] at h
    simp only at h
    cases h5 : nodeTR A bs b4 with
    | no e a3 => rw [h5] at h; cases h; exact nodeTR_no hl (textR_ok h4) h5
    | ok t b5 => rw [h5] at h; cases h
  refine ⟨?_, hno⟩
  by_cases hb : 0 ≤ b
  · unfold stepF
    simp only [askR_pos hb, if_pos hb]
  unfold stepF stepR
  cases h0 : smallR A bs a with
  | no e a3 =>
    have hx := smallR_no h0
    simp only [RR.bind, askR_no hb rfl, askR_pos hx, if_pos hx]
  | ok op b0 =>
  simp only [RR.bind, askR_ok hb rfl]
  cases h1 : numR A bs b0 with
  | no e a3 =>
    have hx : 0 ≤ e := by have := numR_no h1; omega
    simp only [askR_no hb rfl, askR_pos hx, if_pos hx]
  | ok id b1 =>
  simp only [askR_ok hb rfl]
  cases h2 : numR A bs b1 with
  | no e a3 =>
    have hx : 0 ≤ e := by have := numR_no h2; omega
    simp only [askR_no hb rfl, askR_pos hx, if_pos hx]
  | ok par b2 =>
  simp only [askR_ok hb rfl]
  cases h3 : numR A bs b2 with
  | no e a3 =>
    have hx : 0 ≤ e := by have := numR_no h3; omega
    simp only [askR_no hb rfl, askR_pos hx, if_pos hx]
  | ok pl b3 =>
  simp only [askR_ok hb rfl]
  cases h4 : textR A bs b3 with
  | no e a3 =>
    have hx : 0 ≤ e := textR_no h4
    simp only [askR_no hb rfl, askR_pos hx, if_pos hx]
  | ok s b4 =>
  simp only [askR_ok hb rfl]
  cases h5 : nodeTR A bs b4 with
  | no e a3 =>
    have hx : 0 ≤ e := nodeTR_no hl (textR_ok h4) h5
    simp only [askR_no hb rfl, askR_pos hx, if_pos hx]
  | ok t b5 => simp only [askR_ok hb rfl, if_neg hb]
theorem EmS.zero (F : EmS) (E : Em) : F.l.v stp0 = .agg [.int .i8 0, .int .i64 0, .int .i64 0, .int .i64 0, .str ⟨#[]⟩, .int .i64 0, .int .i64 0, .str ⟨#[]⟩, .sl 4 []] := by
  unfold stp0 tree0
  rw [F.v E, E.tree.nil]
set_option maxHeartbeats 2000000 in
theorem Step57 (A : Ar) (E : Em) (B : EmB) (F : EmS) {P : Program} (hP : P = Try.prog) (bs : List UInt8) (hl : bs.length ≤ 1000000000) (a : Nat) (ha : a ≤ bs.length) (bad c : Int) (v : Stp) (c2 a2 : Nat) (bad2 : Int) (h : stepF A bs a bad = (v, c2, a2, bad2)) :
    TC1 P 57 [.ref 0 4 0 0] [some (rdrF B bs a bad c)] (F.l.v v) [some (rdrF B bs a2 bad2 c2)] := by
  unfold stepF at h
  obtain ⟨v0, a0, b0, g0⟩ : ∃ x y z, askR 0 bs a bad (smallR A bs a) = (x, y, z) := ⟨_, _, _, rfl⟩
  have k0 := Small23 A B hP bs hl a ha bad c v0 a0 b0 g0
  have p0 := askS_pos ha g0
  obtain ⟨v1, a1, b1, g1⟩ : ∃ x y z, askR 0 bs a0 b0 (numR A bs a0) = (x, y, z) := ⟨_, _, _, rfl⟩
  have k1 := Number21 A B hP bs hl a0 p0 b0 c v1 a1 b1 g1
  have p1 := askN_pos p0 g1
  obtain ⟨w2, e2, f2, g2⟩ : ∃ x y z, askR 0 bs a1 b1 (numR A bs a1) = (x, y, z) := ⟨_, _, _, rfl⟩
  have k2 := Number21 A B hP bs hl a1 p1 b1 c w2 e2 f2 g2
  have p2 := askN_pos p1 g2
  obtain ⟨v3, a3, b3, g3⟩ : ∃ x y z, askR 0 bs e2 f2 (numR A bs e2) = (x, y, z) := ⟨_, _, _, rfl⟩
  have k3 := Number21 A B hP bs hl e2 p2 f2 c v3 a3 b3 g3
  have p3 := askN_pos p2 g3
  obtain ⟨v4, a4, b4, g4⟩ : ∃ x y z, askR ⟨#[]⟩ bs a3 b3 (textR A bs a3) = (x, y, z) := ⟨_, _, _, rfl⟩
  have k4 := Text25 A B hP bs hl a3 p3 b3 c v4 a4 b4 g4
  have p4 := askT_pos hl p3 g4
  obtain ⟨v5, a5, b5, g5⟩ : ∃ x y z, askR tree0 bs a4 b4 (nodeTR A bs a4) = (x, y, z) := ⟨_, _, _, rfl⟩
  have k5 := Node27 A E B hP bs hl a4 p4 b4 c v5 a5 b5 g5
  simp only [g0, g1, g2, g3, g4, g5] at h
  obtain ⟨hv, rfl, rfl, rfl⟩ : (if 0 ≤ b5 then stp0 else ⟨v0, v1, w2, v3, v4, v5⟩) = v ∧ cntF A bs a4 b4 = c2 ∧ a5 = a2 ∧ b5 = bad2 := by cases h; exact ⟨rfl, rfl, rfl, rfl⟩
  clear h g0 g1 g2 g3 g4 g5
  obtain ⟨i, k, s, ks⟩ := v5
  rw [E.node] at k5
  obtain ⟨cc, hcc⟩ : ∃ cc, cc = cntF A bs a4 b4 := ⟨_, rfl⟩
  rw [← hcc] at k5 ⊢
  refine TC1.of A _ _ T0 (T0_ok hP) (hP ▸ Try.func57) rfl _ rfl (by simp) ?_
  unfold rdrF at *
  by_cases h2 : 0 ≤ b5
  · rw [if_pos h2] at hv
    rw [← hv, F.zero E]
    cbv
    ((try cbv) <;> (repeat ((with_reducible refine EW.of ?_); cbv)))
    refine ⟨Ent.of (hP ▸ Try.func23) rfl, ?_⟩
    refine TC1.call [0] k0 ?_
    cbv
    (repeat (first | exact trivial | refine And.intro (Emb.Pur _ _) ?_ | refine And.intro rfl ?_ | refine And.intro (Pur.mk rfl) ?_))
    ((try cbv) <;> (repeat ((with_reducible refine EW.of ?_); cbv)))
    refine ⟨Ent.of (hP ▸ Try.func21) rfl, ?_⟩
    refine TC1.call [0] k1 ?_
    cbv
    (repeat (first | exact trivial | refine And.intro (Emb.Pur _ _) ?_ | refine And.intro rfl ?_ | refine And.intro (Pur.mk rfl) ?_))
    ((try cbv) <;> (repeat ((with_reducible refine EW.of ?_); cbv)))
    refine ⟨Ent.of (hP ▸ Try.func21) rfl, ?_⟩
    refine TC1.call [0] k2 ?_
    cbv
    (repeat (first | exact trivial | refine And.intro (Emb.Pur _ _) ?_ | refine And.intro rfl ?_ | refine And.intro (Pur.mk rfl) ?_))
    ((try cbv) <;> (repeat ((with_reducible refine EW.of ?_); cbv)))
    refine ⟨Ent.of (hP ▸ Try.func21) rfl, ?_⟩
    refine TC1.call [0] k3 ?_
    cbv
    (repeat (first | exact trivial | refine And.intro (Emb.Pur _ _) ?_ | refine And.intro rfl ?_ | refine And.intro (Pur.mk rfl) ?_))
    ((try cbv) <;> (repeat ((with_reducible refine EW.of ?_); cbv)))
    refine ⟨Ent.of (hP ▸ Try.func25) rfl, ?_⟩
    refine TC1.call [0] k4 ?_
    cbv
    (repeat (first | exact trivial | refine And.intro (Emb.Pur _ _) ?_ | refine And.intro rfl ?_ | refine And.intro (Pur.mk rfl) ?_))
    ((try cbv) <;> (repeat ((with_reducible refine EW.of ?_); cbv)))
    refine ⟨Ent.of (hP ▸ Try.func27) rfl, ?_⟩
    refine TC1.call [0] k5 ?_
    cbv
    (repeat (first | exact trivial | refine And.intro (Emb.Pur _ _) ?_ | refine And.intro rfl ?_ | refine And.intro (Pur.mk rfl) ?_))
    ((try cbv) <;> (repeat ((with_reducible refine EW.of ?_); cbv)))
    refine byes (leT h2) ?_
    ((try cbv) <;> (repeat ((with_reducible refine EW.of ?_); cbv)))
    refine R1.of ?_
    cbv
    (repeat (first | exact trivial | refine And.intro (Emb.Pur _ _) ?_ | refine And.intro rfl ?_ | refine And.intro (Pur.mk rfl) ?_))
  · rw [if_neg h2] at hv
    rw [← hv, F.v E]
    cbv
    ((try cbv) <;> (repeat ((with_reducible refine EW.of ?_); cbv)))
    refine ⟨Ent.of (hP ▸ Try.func23) rfl, ?_⟩
    refine TC1.call [0] k0 ?_
    cbv
    (repeat (first | exact trivial | refine And.intro (Emb.Pur _ _) ?_ | refine And.intro rfl ?_ | refine And.intro (Pur.mk rfl) ?_))
    ((try cbv) <;> (repeat ((with_reducible refine EW.of ?_); cbv)))
    refine ⟨Ent.of (hP ▸ Try.func21) rfl, ?_⟩
    refine TC1.call [0] k1 ?_
    cbv
    (repeat (first | exact trivial | refine And.intro (Emb.Pur _ _) ?_ | refine And.intro rfl ?_ | refine And.intro (Pur.mk rfl) ?_))
    ((try cbv) <;> (repeat ((with_reducible refine EW.of ?_); cbv)))
    refine ⟨Ent.of (hP ▸ Try.func21) rfl, ?_⟩
    refine TC1.call [0] k2 ?_
    cbv
    (repeat (first | exact trivial | refine And.intro (Emb.Pur _ _) ?_ | refine And.intro rfl ?_ | refine And.intro (Pur.mk rfl) ?_))
    ((try cbv) <;> (repeat ((with_reducible refine EW.of ?_); cbv)))
    refine ⟨Ent.of (hP ▸ Try.func21) rfl, ?_⟩
    refine TC1.call [0] k3 ?_
    cbv
    (repeat (first | exact trivial | refine And.intro (Emb.Pur _ _) ?_ | refine And.intro rfl ?_ | refine And.intro (Pur.mk rfl) ?_))
    ((try cbv) <;> (repeat ((with_reducible refine EW.of ?_); cbv)))
    refine ⟨Ent.of (hP ▸ Try.func25) rfl, ?_⟩
    refine TC1.call [0] k4 ?_
    cbv
    (repeat (first | exact trivial | refine And.intro (Emb.Pur _ _) ?_ | refine And.intro rfl ?_ | refine And.intro (Pur.mk rfl) ?_))
    ((try cbv) <;> (repeat ((with_reducible refine EW.of ?_); cbv)))
    refine ⟨Ent.of (hP ▸ Try.func27) rfl, ?_⟩
    refine TC1.call [0] k5 ?_
    cbv
    (repeat (first | exact trivial | refine And.intro (Emb.Pur _ _) ?_ | refine And.intro rfl ?_ | refine And.intro (Pur.mk rfl) ?_))
    ((try cbv) <;> (repeat ((with_reducible refine EW.of ?_); cbv)))
    refine bno (leF (Int.not_le.1 h2)) ?_
    ((try cbv) <;> (repeat ((with_reducible refine EW.of ?_); cbv)))
    refine R1.of ?_
    cbv
    (repeat (first | exact trivial | refine And.intro (Emb.Pur _ _) ?_ | refine And.intro rfl ?_ | refine And.intro (Pur.mk rfl) ?_))
end Go.Proofs.Ytmbbdabcbnemiaa

/-! The reference's rows of steps. -/
namespace Go.Proofs.Ytmbbdabcbnemiaa
open Go.Proofs.Ytmbbdabcbnemiaa.Tw
def stepsF (A : Ar) (bs : List UInt8) (c a : Nat) (b : Int) : List Stp × Nat × Nat × Int :=
  let r := askR 0 bs a b (countR A bs a 57 60)
  let q := kidsF (fun _ a b => stepF A bs a b) r.1.toNat c r.2.1 r.2.2
  (if 0 ≤ q.2.2.2 then [] else q.1, q.2)
theorem stepF_pos {A : Ar} {bs : List UInt8} (hl : bs.length ≤ 1000000000) {a : Nat} (ha : a ≤ bs.length) {b : Int} : (stepF A bs a b).2.2.1 ≤ bs.length := by
  unfold stepF
  exact askT2_pos hl (askT_pos hl (askN_pos (askN_pos (askN_pos (askS_pos ha rfl) rfl) rfl) rfl) rfl) rfl
theorem listS_R {A : Ar} {bs : List UInt8} (hl : bs.length ≤ 1000000000) : ∀ (n c d a : Nat) (b : Int), b < 0 → a ≤ bs.length →
    (kidsF (fun _ a b => stepF A bs a b) n c a b).2.2 = ((listR (oneS A bs) n d a).pos, (listR (oneS A bs) n d a).bad b) ∧ (∀ t c2 a2, listR (oneS A bs) n d a = .ok t c2 a2 → (kidsF (fun _ a b => stepF A bs a b) n c a b).1 = t ∧ a2 ≤ bs.length) ∧ (∀ e c2 a2, listR (oneS A bs) n d a = .no e c2 a2 → 0 ≤ e ∧ a2 ≤ bs.length)
  | 0, c, d, a, b, hb, ha => ⟨rfl, fun t c2 a2 h => (by cases h; exact ⟨rfl, ha⟩), fun e c2 a2 h => (by cases h)⟩
  | n + 1, c, d, a, b, hb, ha => by
    have hb0 : ¬ 0 ≤ b := by omega
    obtain ⟨h1, h2⟩ := stepF_R (A := A) hl ha (b := b)
    have hp := stepF_pos (A := A) hl ha (b := b)
    rw [kidsF, if_neg hb0, listR]
    cases hr : stepR A bs a with
    | no e a3 =>
      rw [hr, askR_no hb0 rfl] at h1
      have he := h2 _ _ hr
      have h3 : (stepF A bs a b).2.2 = (a3, e) := (Prod.mk.inj h1).2
      have ho : oneS A bs d a = .no e d a3 := by unfold oneS; rw [hr]; rfl
      simp only [ho, RN.bind]
      dsimp only [RN.cnt, RN.pos, RN.bad]
      rw [h3] at hp ⊢
      dsimp only
      rw [kidsF_pos he]
      exact ⟨rfl, fun t c2 a2 h => (by cases h), fun e c2 a2 h => (by cases h; exact ⟨he, hp⟩)⟩
    | ok x a3 =>
      rw [hr, askR_ok hb0 rfl] at h1
      have h3 : (stepF A bs a b).2.2 = (a3, b) := (Prod.mk.inj h1).2
      have h4 : (stepF A bs a b).1 = x := (Prod.mk.inj h1).1
      have ho : oneS A bs d a = .ok x d a3 := by unfold oneS; rw [hr]; rfl
      simp only [ho, RN.bind]
      rw [h3, h4]
      rw [h3] at hp
      dsimp only at hp ⊢
      obtain ⟨j1, j2, j3⟩ := listS_R hl n (stepF A bs a b).2.1 d a3 b hb hp
      cases hq : listR (oneS A bs) n d a3 with
      | no e c4 a4 =>
        rw [hq] at j1
        exact ⟨j1, fun t c2 a2 h => (by cases h), fun e c2 a2 h => (by cases h; exact j3 _ _ _ hq)⟩
      | ok xs c4 a4 =>
        rw [hq] at j1
        have := j2 _ _ _ hq
        exact ⟨j1, fun t c2 a2 h => (by cases h; exact ⟨by rw [this.1], this.2⟩), fun e c2 a2 h => (by cases h)⟩
theorem stepsF_R {A : Ar} {bs : List UInt8} (hl : bs.length ≤ 1000000000) {c a : Nat} (ha : a ≤ bs.length) {b : Int} :
    ((stepsF A bs c a b).1, (stepsF A bs c a b).2.2) = askR [] bs a b (stepsR A bs a) ∧ (stepsF A bs c a b).2.2.1 ≤ bs.length := by
  by_cases hb : 0 ≤ b
  · unfold stepsF
    simp only [askR_pos hb, kidsF_pos hb, if_pos hb]
    exact ⟨trivial, ha⟩
  unfold stepsF stepsR
  cases h1 : countR A bs a 57 60 with
  | no e a3 =>
    have hx : 0 ≤ e := by rcases countR_no h1 with h | h <;> omega
    have hp : a3 ≤ bs.length := by rcases countR_no h1 with h | h <;> omega
    simp only [RR.bind, askR_no hb rfl, kidsF_pos hx, if_pos hx]
    exact ⟨trivial, hp⟩
  | ok n a3 =>
  have hp := (countR_ok hl h1).2.1
  simp only [RR.bind, askR_ok hb rfl]
  obtain ⟨j1, j2, j3⟩ := listS_R (A := A) hl n.toNat c 0 a3 b (by omega) hp
  cases hq : listR (oneS A bs) n.toNat 0 a3 with
  | no e c4 a4 =>
    rw [hq] at j1
    have he := j3 _ _ _ hq
    simp only [RN.toR, askR_no hb rfl]
    replace j1 : (kidsF (fun x a b => stepF A bs a b) n.toNat c a3 b).2.2 = (a4, e) := j1
    simp only [j1, if_pos he.1]
    exact ⟨trivial, he.2⟩
  | ok xs c4 a4 =>
    rw [hq] at j1
    have he := j2 _ _ _ hq
    simp only [RN.toR, askR_ok hb rfl]
    replace j1 : (kidsF (fun x a b => stepF A bs a b) n.toNat c a3 b).2.2 = (a4, b) := j1
    simp only [j1, if_neg hb, he.1]
    exact ⟨trivial, he.2⟩
set_option maxHeartbeats 4000000 in
theorem Steps30 (A : Ar) (E : Em) (B : EmB) (F : EmS) {P : Program} (hP : P = Try.prog) (bs : List UInt8) (hl : bs.length ≤ 1000000000) (a : Nat) (ha : a ≤ bs.length) (bad : Int) (c : Nat) (v : List Stp) (c2 a2 : Nat) (bad2 : Int) (h : stepsF A bs c a bad = (v, c2, a2, bad2)) :
    TC1 P 30 [.ref 0 4 0 0] [some (rdrF B bs a bad c)] (.sl 9 (F.l.l v)) [some (rdrF B bs a2 bad2 c2)] := by
  unfold stepsF at h
  obtain ⟨n, a0, b0, g0⟩ : ∃ x y z, askR 0 bs a bad (countR A bs a 57 60) = (x, y, z) := ⟨_, _, _, rfl⟩
  have k0 := Count33 A B hP bs hl a ha bad c 57 60 n a0 b0 g0
  have p0 := countR_pos hl ha g0
  obtain ⟨n, rfl, hn⟩ := askC_nat (most := 60) hl g0
  obtain ⟨ks, R, hks⟩ : ∃ ks R, kidsF (fun _ a b => stepF A bs a b) n c a0 b0 = (ks, R) := ⟨_, _, rfl⟩
  simp only [g0, Int.toNat_natCast, hks] at h
  obtain ⟨hv, rfl⟩ : (if 0 ≤ R.2.2 then [] else ks) = v ∧ R = (c2, a2, bad2) := by cases h; exact ⟨rfl, rfl⟩
  dsimp only at hv
  clear h g0
  obtain ⟨res, hres⟩ : ∃ res, F.l.l v = res := ⟨_, rfl⟩
  rw [hres]
  refine TC1.of A _ _ T0 (T0_ok hP) (hP ▸ Try.func30) rfl _ rfl (by simp) ?_
  unfold rdrF at *
  cbv
  ((try cbv) <;> (repeat ((with_reducible refine EW.of ?_); cbv)))
  refine ⟨Ent.of (hP ▸ Try.func33) rfl, ?_⟩
  refine TC1.call [0] k0 ?_
  cbv
  (repeat (first | exact trivial | refine And.intro (Emb.Pur _ _) ?_ | refine And.intro rfl ?_ | refine And.intro (Pur.mk rfl) ?_))
  ((try cbv) <;> (repeat ((with_reducible refine EW.of ?_); cbv)))
  obtain ⟨S, hS⟩ : ∃ S : LI (Nat × Nat × Nat × Nat × Int × Option (Nat × List Stp)), S = ⟨fun x => [(5, .int .i64 x.1), (4, rowS x.2.2.2.2.2), (3, .int .i64 n), (2, .nils), (0, .ref 0 4 0 0)], fun x => stS F [some (.box 4 (.agg [.sl 1 (B.l.l bs), .int .i64 x.2.2.2.1, .int .i64 x.2.2.2.2.1, .int .i64 x.2.2.1]))] x.2.2.2.2.2, fun x => x.1 + x.2.1 = n ∧ x.2.2.2.1 ≤ bs.length ∧ okS x.2.2.2.2.2 ∧ (outS x.2.2.2.2.2).length = x.1 ∧ (ks, c2, a2, bad2) = (outS x.2.2.2.2.2 ++ (kidsF (fun _ a b => stepF A bs a b) x.2.1 x.2.2.1 x.2.2.2.1 x.2.2.2.2.1).1, (kidsF (fun _ a b => stepF A bs a b) x.2.1 x.2.2.1 x.2.2.2.1 x.2.2.2.2.1).2), fun x => x.2.1⟩ := ⟨_, rfl⟩
  refine TW.loopM A (T0_ok hP) S _ rfl (0, n, c, a0, b0, none) ?_ ?_ ?_
  · rw [hS]; exact ⟨Nat.zero_add _, p0, trivial, rfl, by dsimp only [outS]; rw [hks]; rfl⟩
  · rw [hS]
    cbv
    (repeat (first | exact trivial | refine And.intro (Emb.Pur _ _) ?_ | refine And.intro rfl ?_ | refine And.intro (Pur.mk rfl) ?_))
  rintro ⟨j, k, c, a, b, o⟩ hj l1 L1 e1 e2
  rw [hS] at hj e1 e2
  dsimp only at hj e1 e2
  obtain ⟨hj, ha1, hok, hlen, hinv⟩ := hj
  subst e1
  clear k0
  cases o with
  | none =>
    dsimp only [stS, rowS, outS, okS] at e2 hok hlen hinv ⊢
    subst e2
    cbv
    ((try cbv) <;> (repeat ((with_reducible refine EW.of ?_); cbv)))
    refine bsplit (fun h => ?_) (fun h => ?_)
    · have h : j < n := lt_nt h rfl rfl
      obtain ⟨k, rfl⟩ : ∃ k', k = k' + 1 := ⟨k - 1, by omega⟩
      ((try cbv) <;> (repeat ((with_reducible refine EW.of ?_); cbv)))
      by_cases hb : 0 ≤ b
      · refine bno (ltF hb) ?_
        rw [kidsF_pos hb] at hinv
        obtain ⟨rfl, rfl, rfl, rfl⟩ : [] = ks ∧ c = c2 ∧ a = a2 ∧ b = bad2 := by cases hinv; exact ⟨rfl, rfl, rfl, rfl⟩
        by_cases hb2 : 0 ≤ b
        · rw [if_pos hb2] at hv
          rw [← hv, F.l.nil] at hres
          subst hres
          ((try cbv) <;> (repeat ((with_reducible refine EW.of ?_); cbv)))
          refine byes (leT hb2) ?_
          ((try cbv) <;> (repeat ((with_reducible refine EW.of ?_); cbv)))
          refine R1.of ?_
          cbv
          (repeat (first | exact trivial | refine And.intro (Emb.Pur _ _) ?_ | refine And.intro rfl ?_ | refine And.intro (Pur.mk rfl) ?_))
        · rw [if_neg hb2] at hv
          rw [← hv] at hres
          subst hres
          ((try cbv) <;> (repeat ((with_reducible refine EW.of ?_); cbv)))
          refine bno (leF (Int.not_le.1 hb2)) ?_
          ((try cbv) <;> (repeat ((with_reducible refine EW.of ?_); cbv)))
          refine R1.of ?_
          cbv
          (repeat (first | exact trivial | refine And.intro (Emb.Pur _ _) ?_ | refine And.intro rfl ?_ | refine And.intro F.l.nil.symm ?_ | refine And.intro (Pur.mk rfl) ?_))
      obtain ⟨t', c3, a6, b6, ht'⟩ : ∃ x y z u, stepF A bs a b = (x, y, z, u) := ⟨_, _, _, _, rfl⟩
      have hrec := Step57 A E B F hP bs hl a ha1 b c t' c3 a6 b6 ht'
      unfold rdrF at hrec
      have hg2 := stepF_pos (A := A) hl ha1 (b := b)
      rw [ht'] at hg2
      dsimp only at hg2
      rw [kidsF_step (x := t') (c2 := c3) (a2 := a6) (b2 := b6) hb ht'] at hinv
      refine byes (ltT (Int.not_le.1 hb)) ?_
      ((try cbv) <;> (repeat ((with_reducible refine EW.of ?_); cbv)))
      refine ⟨Ent.of (hP ▸ Try.func57) rfl, ?_⟩
      obtain ⟨pv, hpv⟩ : ∃ pv, F.l.l [] = pv := ⟨_, rfl⟩
      obtain ⟨l1, hl1⟩ : ∃ d, d = [] ++ [t'] := ⟨_, rfl⟩
      rw [← hl1] at hinv
      obtain ⟨q1, hq1⟩ : ∃ q, q = l1.length := ⟨_, rfl⟩
      have hvl : F.l.l l1 = pv ++ [F.l.v t'] := by rw [hl1, F.l.app, hpv, F.l.cons, F.l.nil]
      have hq2 : q1 = j + 1 := by rw [hq1, hl1, List.length_append]; show _ + 1 = _; omega
      obtain ⟨op, id, par, pl, s0, i, k0, s, ks'⟩ := t'
      rw [F.v E] at hrec hvl
      refine TC1.call [0] hrec ?_
      cbv
      (repeat (first | exact trivial | refine And.intro (Emb.Pur _ _) ?_ | refine And.intro rfl ?_ | refine And.intro (Pur.mk rfl) ?_))
      ((try cbv) <;> (repeat ((with_reducible refine EW.of ?_); cbv)))
      rw [← hpv, F.l.nil] at hvl
      refine ⟨⟨rfl⟩, q1, F.l.l l1, by rw [hq1, hl1]; rfl, by rw [hvl]; rfl, Nat.zero_le _, by omega, by omega, ?_⟩
      cbv
      ((try cbv) <;> (repeat ((with_reducible refine EW.of ?_); cbv)))
      refine LM.of (j + 1, k, c3, a6, b6, some (q1, l1)) rfl ?_ ?_ ?_
      · rw [hS]; exact ⟨by show j + 1 + k = n; omega, hg2, hq1, by show l1.length = j + 1; omega, hinv⟩
      · rw [hS]; show k < k + 1; omega
      · rw [hS]
        cbv
        (repeat (first | exact trivial | refine And.intro (Emb.Pur _ _) ?_ | refine And.intro (inc_eq A (by omega)) ?_ | refine And.intro rfl ?_ | refine And.intro (Pur.mk rfl) ?_))
    · have h : n ≤ j := lt_nf h rfl rfl
      obtain rfl : k = 0 := by omega
      rw [kidsF] at hinv
      obtain ⟨rfl, rfl, rfl, rfl⟩ : [] = ks ∧ c = c2 ∧ a = a2 ∧ b = bad2 := by cases hinv; exact ⟨rfl, rfl, rfl, rfl⟩
      by_cases hb2 : 0 ≤ b
      · rw [if_pos hb2] at hv
        rw [← hv, F.l.nil] at hres
        subst hres
        ((try cbv) <;> (repeat ((with_reducible refine EW.of ?_); cbv)))
        refine byes (leT hb2) ?_
        ((try cbv) <;> (repeat ((with_reducible refine EW.of ?_); cbv)))
        refine R1.of ?_
        cbv
        (repeat (first | exact trivial | refine And.intro (Emb.Pur _ _) ?_ | refine And.intro rfl ?_ | refine And.intro (Pur.mk rfl) ?_))
      · rw [if_neg hb2] at hv
        rw [← hv] at hres
        subst hres
        ((try cbv) <;> (repeat ((with_reducible refine EW.of ?_); cbv)))
        refine bno (leF (Int.not_le.1 hb2)) ?_
        ((try cbv) <;> (repeat ((with_reducible refine EW.of ?_); cbv)))
        refine R1.of ?_
        cbv
        (repeat (first | exact trivial | refine And.intro (Emb.Pur _ _) ?_ | refine And.intro rfl ?_ | refine And.intro F.l.nil.symm ?_ | refine And.intro (Pur.mk rfl) ?_))
  | some y =>
    obtain ⟨m, l⟩ := y
    dsimp only [stS, rowS, outS, okS] at e2 hok hlen hinv ⊢
    subst e2
    cbv
    ((try cbv) <;> (repeat ((with_reducible refine EW.of ?_); cbv)))
    refine bsplit (fun h => ?_) (fun h => ?_)
    · have h : j < n := lt_nt h rfl rfl
      obtain ⟨k, rfl⟩ : ∃ k', k = k' + 1 := ⟨k - 1, by omega⟩
      ((try cbv) <;> (repeat ((with_reducible refine EW.of ?_); cbv)))
      by_cases hb : 0 ≤ b
      · refine bno (ltF hb) ?_
        rw [kidsF_pos hb] at hinv
        obtain ⟨rfl, rfl, rfl, rfl⟩ : l = ks ∧ c = c2 ∧ a = a2 ∧ b = bad2 := by
          dsimp only at hinv
          rw [List.append_nil] at hinv
          cases hinv; exact ⟨rfl, rfl, rfl, rfl⟩
        by_cases hb2 : 0 ≤ b
        · rw [if_pos hb2] at hv
          rw [← hv, F.l.nil] at hres
          subst hres
          ((try cbv) <;> (repeat ((with_reducible refine EW.of ?_); cbv)))
          refine byes (leT hb2) ?_
          ((try cbv) <;> (repeat ((with_reducible refine EW.of ?_); cbv)))
          refine R1.of ?_
          cbv
          (repeat (first | exact trivial | refine And.intro (Emb.Pur _ _) ?_ | refine And.intro rfl ?_ | refine And.intro (Pur.mk rfl) ?_))
        · rw [if_neg hb2] at hv
          rw [← hv] at hres
          subst hres
          ((try cbv) <;> (repeat ((with_reducible refine EW.of ?_); cbv)))
          refine bno (leF (Int.not_le.1 hb2)) ?_
          ((try cbv) <;> (repeat ((with_reducible refine EW.of ?_); cbv)))
          refine R1.of ?_
          cbv
          (repeat (first | exact trivial | refine And.intro (Emb.Pur _ _) ?_ | refine And.intro rfl ?_ | refine And.intro (F.l.cut hok) ?_ | refine And.intro (Pur.mk rfl) ?_))
      obtain ⟨t', c3, a6, b6, ht'⟩ : ∃ x y z u, stepF A bs a b = (x, y, z, u) := ⟨_, _, _, _, rfl⟩
      have hrec := Step57 A E B F hP bs hl a ha1 b c t' c3 a6 b6 ht'
      unfold rdrF at hrec
      have hg2 := stepF_pos (A := A) hl ha1 (b := b)
      rw [ht'] at hg2
      dsimp only at hg2
      rw [kidsF_step (x := t') (c2 := c3) (a2 := a6) (b2 := b6) hb ht'] at hinv
      refine byes (ltT (Int.not_le.1 hb)) ?_
      ((try cbv) <;> (repeat ((with_reducible refine EW.of ?_); cbv)))
      refine ⟨Ent.of (hP ▸ Try.func57) rfl, ?_⟩
      obtain ⟨pv, hpv⟩ : ∃ pv, F.l.l l = pv := ⟨_, rfl⟩
      obtain ⟨l1, hl1⟩ : ∃ d, d = l ++ [t'] := ⟨_, rfl⟩
      rw [← hl1] at hinv
      obtain ⟨q1, hq1⟩ : ∃ q, q = l1.length := ⟨_, rfl⟩
      have hvl : F.l.l l1 = pv ++ [F.l.v t'] := by rw [hl1, F.l.app, hpv, F.l.cons, F.l.nil]
      have hq2 : q1 = j + 1 := by rw [hq1, hl1, List.length_append]; show _ + 1 = _; omega
      obtain ⟨op, id, par, pl, s0, i, k0, s, ks'⟩ := t'
      rw [F.v E] at hrec hvl
      refine TC1.call [0] hrec ?_
      cbv
      (repeat (first | exact trivial | refine And.intro (Emb.Pur _ _) ?_ | refine And.intro rfl ?_ | refine And.intro (Pur.mk rfl) ?_))
      ((try cbv) <;> (repeat ((with_reducible refine EW.of ?_); cbv)))
      have hll := F.l.len l
      rw [← hpv] at hvl
      refine ⟨⟨rfl⟩, q1, F.l.l l1, by rw [hq1, hl1, List.length_append, hok]; rfl, by rw [hvl, List.take_of_length_le (show (F.l.l l).length ≤ m by omega)], (show m ≤ (F.l.l l).length by omega), by omega, by omega, ?_⟩
      cbv
      ((try cbv) <;> (repeat ((with_reducible refine EW.of ?_); cbv)))
      refine LM.of (j + 1, k, c3, a6, b6, some (q1, l1)) rfl ?_ ?_ ?_
      · rw [hS]; exact ⟨by show j + 1 + k = n; omega, hg2, hq1, by show l1.length = j + 1; omega, hinv⟩
      · rw [hS]; show k < k + 1; omega
      · rw [hS]
        cbv
        (repeat (first | exact trivial | refine And.intro (Emb.Pur _ _) ?_ | refine And.intro (inc_eq A (by omega)) ?_ | refine And.intro rfl ?_ | refine And.intro (Pur.mk rfl) ?_))
    · have h : n ≤ j := lt_nf h rfl rfl
      obtain rfl : k = 0 := by omega
      rw [kidsF] at hinv
      obtain ⟨rfl, rfl, rfl, rfl⟩ : l = ks ∧ c = c2 ∧ a = a2 ∧ b = bad2 := by
        dsimp only at hinv
        rw [List.append_nil] at hinv
        cases hinv; exact ⟨rfl, rfl, rfl, rfl⟩
      by_cases hb2 : 0 ≤ b
      · rw [if_pos hb2] at hv
        rw [← hv, F.l.nil] at hres
        subst hres
        ((try cbv) <;> (repeat ((with_reducible refine EW.of ?_); cbv)))
        refine byes (leT hb2) ?_
        ((try cbv) <;> (repeat ((with_reducible refine EW.of ?_); cbv)))
        refine R1.of ?_
        cbv
        (repeat (first | exact trivial | refine And.intro (Emb.Pur _ _) ?_ | refine And.intro rfl ?_ | refine And.intro (Pur.mk rfl) ?_))
      · rw [if_neg hb2] at hv
        rw [← hv] at hres
        subst hres
        ((try cbv) <;> (repeat ((with_reducible refine EW.of ?_); cbv)))
        refine bno (leF (Int.not_le.1 hb2)) ?_
        ((try cbv) <;> (repeat ((with_reducible refine EW.of ?_); cbv)))
        refine R1.of ?_
        cbv
        (repeat (first | exact trivial | refine And.intro (Emb.Pur _ _) ?_ | refine And.intro rfl ?_ | refine And.intro (F.l.cut hok) ?_ | refine And.intro (Pur.mk rfl) ?_))
end Go.Proofs.Ytmbbdabcbnemiaa

/-! Trees and steps compared. -/
namespace Go.Proofs.Ytmbbdabcbnemiaa
open Go.Proofs.Ytmbbdabcbnemiaa.Tw
mutual
def sameT : Tree → Tree → Bool
  | .node i k s ks, .node i' k' s' ks' => decide (i = i') && (decide (k = k') && (strEq s s' && sameK ks ks'))
def sameK : List Tree → List Tree → Bool
  | [], [] => true
  | t :: ts, u :: us => sameT t u && sameK ts us
  | _, _ => false
end
theorem sameK_len : ∀ {ts us : List Tree}, ts.length ≠ us.length → sameK ts us = false
  | [], [], h => absurd rfl h
  | t :: ts, u :: us, h => by
    simp only [sameK]
    rw [sameK_len (fun e => h (by simp [e])), Bool.and_false]
  | [], u :: us, _ => rfl
  | t :: ts, [], _ => rfl
theorem sameK_drop {ts us : List Tree} {j : Nat} {t u : Tree} (ht : ts[j]? = some t) (hu : us[j]? = some u) : sameK (ts.drop j) (us.drop j) = (sameT t u && sameK (ts.drop (j + 1)) (us.drop (j + 1))) := by
  have h1 := List.drop_eq_getElem?_toList_append (l := ts) (i := j)
  have h2 := List.drop_eq_getElem?_toList_append (l := us) (i := j)
  rw [ht] at h1
  rw [hu] at h2
  rw [h1, h2]
  rfl
mutual
theorem sameT_refl : ∀ t : Tree, sameT t t = true
  | .node i k s ks => by simp [sameT, sameK_refl ks, strEq]
theorem sameK_refl : ∀ ts : List Tree, sameK ts ts = true
  | [] => rfl
  | t :: ts => by simp [sameK, sameT_refl t, sameK_refl ts]
end
set_option maxHeartbeats 1000000 in
theorem sameN (A : Ar) (E : Em) {P : Program} (hP : P = Try.prog) : ∀ (n : Nat) (t u : Tree), SizeOf.sizeOf t < n → t.ok → TPure P 28 [E.tree.v t, E.tree.v u] (.bool (sameT t u)) := by
  intro n
  induction n with
  | zero => exact fun _ _ h => absurd h (Nat.not_lt_zero _)
  | succ n ih =>
  intro t u hsz hw
  refine TPure.ofE A T0 (T0_ok hP) (hP ▸ Try.func28) rfl _ rfl (by simp) ?_
  obtain ⟨i, k, s, ks⟩ := t
  obtain ⟨i', k', s', us⟩ := u
  have hll := E.tree.len ks
  have hlu := E.tree.len us
  have hwl := hw.len
  simp only [E.node, sameT]
  obtain ⟨r, hr⟩ : ∃ r, r = (decide (i = i') && (decide (k = k') && (strEq s s' && sameK ks us))) := ⟨_, rfl⟩
  rw [← hr]
  cbv
  ((try cbv) <;> (repeat ((with_reducible refine EW.of ?_); cbv)))
  refine bsplit (fun h => ?_) (fun h => ?_)
  · have h : i ≠ i' := ne_t h rfl rfl
    rw [decide_eq_false h] at hr
    replace hr : r = false := by rw [hr]; simp
    subst hr
    ((try cbv) <;> (repeat ((with_reducible refine EW.of ?_); cbv)))
  have h : i = i' := ne_f h rfl rfl
  rw [decide_eq_true h] at hr
  ((try cbv) <;> (repeat ((with_reducible refine EW.of ?_); cbv)))
  refine bsplit (fun h => ?_) (fun h => ?_)
  · have h : k ≠ k' := ne_t h rfl rfl
    rw [decide_eq_false h] at hr
    replace hr : r = false := by rw [hr]; simp
    subst hr
    ((try cbv) <;> (repeat ((with_reducible refine EW.of ?_); cbv)))
  have h : k = k' := ne_f h rfl rfl
  rw [decide_eq_true h] at hr
  ((try cbv) <;> (repeat ((with_reducible refine EW.of ?_); cbv)))
  refine bsplit (fun h => ?_) (fun h => ?_)
  · have h : strEq s s' = false := sne_t h
    rw [h] at hr
    replace hr : r = false := by rw [hr]; simp
    subst hr
    ((try cbv) <;> (repeat ((with_reducible refine EW.of ?_); cbv)))
  have h : strEq s s' = true := sne_f h
  rw [h] at hr
  ((try cbv) <;> (repeat ((with_reducible refine EW.of ?_); cbv)))
  refine bsplit (fun h => ?_) (fun h => ?_)
  · have h : (E.tree.l ks).length ≠ (E.tree.l us).length := lenne_t h
    rw [sameK_len (by omega)] at hr
    replace hr : r = false := by rw [hr]; simp
    subst hr
    ((try cbv) <;> (repeat ((with_reducible refine EW.of ?_); cbv)))
  have h : (E.tree.l ks).length = (E.tree.l us).length := lenne_f h
  replace hr : r = sameK ks us := by rw [hr]; rfl
  ((try cbv) <;> (repeat ((with_reducible refine EW.of ?_); cbv)))
  obtain ⟨z, hz⟩ : ∃ z : Store, z = [some (.box 4 (.agg [.int .i64 i, .int .i64 k, .str s, .sl 4 (E.tree.l ks)])), some (.box 4 (.agg [.int .i64 i', .int .i64 k', .str s', .sl 4 (E.tree.l us)]))] := ⟨_, rfl⟩
  obtain ⟨S, hS⟩ : ∃ S : LI Nat, S = ⟨fun j => [(5, .int .i64 j), (2, .ref 0 4 0 0), (3, .ref 1 4 0 0)], fun _ => z, fun j => j ≤ ks.length ∧ r = sameK (ks.drop j) (us.drop j), fun j => ks.length - j⟩ := ⟨_, rfl⟩
  refine TW.loopM A (T0_ok hP) S 53 rfl 0 ?_ ?_ ?_
  · rw [hS]; exact ⟨Nat.zero_le _, hr⟩
  · rw [hS, hz]; cbv; (repeat (first | exact trivial | refine And.intro (Emb.Pur _ _) ?_ | refine And.intro rfl ?_ | refine And.intro (Pur.mk rfl) ?_ | refine And.intro (Pur.mk (by assumption)) ?_))
  intro j hj l1 L1 e1 e2; rw [hS] at hj e1 e2; dsimp only at hj e1 e2; obtain ⟨hj, hinv⟩ := hj; subst e1 e2
  rw [hz]
  cbv
  ((try cbv) <;> (repeat ((with_reducible refine EW.of ?_); cbv)))
  refine bsplit (fun h2 => ?_) (fun h2 => ?_)
  · have h2 : j < (E.tree.l ks).length := lt_nt h2 rfl (A.ok_len _)
    obtain ⟨t', ht'⟩ : ∃ t', ks[j]? = some t' := ⟨_, List.getElem?_eq_getElem (by omega)⟩
    obtain ⟨u', hu'⟩ : ∃ u', us[j]? = some u' := ⟨_, List.getElem?_eq_getElem (by omega)⟩
    rw [sameK_drop ht' hu'] at hinv
    have hrec := ih t' u' (by have := Tree.kid_lt (i := i) (k := k) (s := s) (List.mem_of_getElem? ht'); omega) (hw.kid (List.mem_of_getElem? ht'))
    generalize sameT t' u' = b at hrec hinv
    obtain ⟨i1, k1, s1, ks1⟩ := t'
    obtain ⟨i2, k2, s2, ks2⟩ := u'
    simp only [E.node] at hrec
    ((try cbv) <;> (repeat ((with_reducible refine EW.of ?_); cbv)))
    (refine TW.draw (A := A) (T0_ok hP) (hP ▸ follows_mixed) (by kernel_rfl) rfl ?_; cbv)
    refine ⟨j, _, rfl, E.getn ht', ?_⟩
    cbv
    refine ⟨j, _, rfl, E.getn hu', ?_⟩
    cbv
    (refine ⟨Ent.of (hP ▸ Try.func28) rfl, ?_⟩; refine ⟨_, TC.pureX hrec (by cbv; (repeat (first | exact trivial | refine And.intro (Emb.Pur _ _) ?_ | refine And.intro rfl ?_ | refine And.intro (Pur.mk rfl) ?_ | refine And.intro (Pur.mk (by assumption)) ?_))), ?_⟩; cbv)
    cases b with
    | true =>
      replace hinv : r = sameK (ks.drop (j + 1)) (us.drop (j + 1)) := by rw [hinv]; rfl
      ((try cbv) <;> (repeat ((with_reducible refine EW.of ?_); cbv)))
      refine LM.of (j + 1) rfl ?_ ?_ ?_
      · rw [hS]; exact ⟨by show j + 1 ≤ _; omega, hinv⟩
      · rw [hS]; show ks.length - (j + 1) < ks.length - j; omega
      · rw [hS, hz]; (cbv; (repeat (first | exact trivial | refine And.intro (Emb.Pur _ _) ?_ | refine And.intro rfl ?_ | refine And.intro (Pur.mk rfl) ?_ | refine And.intro (Pur.mk (by assumption)) ?_)); refine And.intro (inc_eq A (by omega)) ?_; (repeat (first | exact trivial | refine And.intro (Emb.Pur _ _) ?_ | refine And.intro rfl ?_ | refine And.intro (Pur.mk rfl) ?_ | refine And.intro (Pur.mk (by assumption)) ?_)))
    | false =>
      replace hinv : r = false := by rw [hinv]; rfl
      subst hinv
      ((try cbv) <;> (repeat ((with_reducible refine EW.of ?_); cbv)))
  · have h2 : (E.tree.l ks).length ≤ j := lt_nf h2 rfl (A.ok_len _)
    rw [List.drop_eq_nil_of_le (by omega), List.drop_eq_nil_of_le (by omega)] at hinv
    replace hinv : r = true := hinv
    subst hinv
    ((try cbv) <;> (repeat ((with_reducible refine EW.of ?_); cbv)))
theorem Same28 (A : Ar) (E : Em) {P : Program} (hP : P = Try.prog) (t u : Tree) (hw : t.ok) : TPure P 28 [E.tree.v t, E.tree.v u] (.bool (sameT t u)) := sameN A E hP _ t u (Nat.lt_succ_self _) hw
/-- Are two steps the same? -/
def sameS (x y : Stp) : Bool := decide (x.op = y.op) && (decide (x.id = y.id) && (decide (x.par = y.par) && (decide (x.pl = y.pl) && (strEq x.text y.text && sameT x.sub y.sub))))
def sameL : List Stp → List Stp → Bool
  | [], [] => true
  | t :: ts, u :: us => sameS t u && sameL ts us
  | _, _ => false
theorem sameL_len : ∀ {ts us : List Stp}, ts.length ≠ us.length → sameL ts us = false
  | [], [], h => absurd rfl h
  | t :: ts, u :: us, h => by
    simp only [sameL]
    rw [sameL_len (fun e => h (by simp [e])), Bool.and_false]
  | [], u :: us, _ => rfl
  | t :: ts, [], _ => rfl
theorem sameL_drop {ts us : List Stp} {j : Nat} {t u : Stp} (ht : ts[j]? = some t) (hu : us[j]? = some u) : sameL (ts.drop j) (us.drop j) = (sameS t u && sameL (ts.drop (j + 1)) (us.drop (j + 1))) := by
  have h1 := List.drop_eq_getElem?_toList_append (l := ts) (i := j)
  have h2 := List.drop_eq_getElem?_toList_append (l := us) (i := j)
  rw [ht] at h1
  rw [hu] at h2
  rw [h1, h2]
  rfl
theorem sameS_refl (x : Stp) : sameS x x = true := by simp [sameS, sameT_refl, strEq]
theorem sameL_refl : ∀ ts : List Stp, sameL ts ts = true
  | [] => rfl
  | t :: ts => by simp [sameL, sameS_refl t, sameL_refl ts]
set_option maxHeartbeats 1000000 in
theorem SameStep58 (A : Ar) (E : Em) (F : EmS) {P : Program} (hP : P = Try.prog) (x y : Stp) (hw : x.sub.ok) : TPure P 58 [F.l.v x, F.l.v y] (.bool (sameS x y)) := by
  obtain ⟨op, id, par, pl, tx, ⟨i, k, s, ks⟩⟩ := x
  obtain ⟨op', id', par', pl', tx', ⟨i', k', s', ks'⟩⟩ := y
  have h28 := Same28 A E hP (.node i k s ks) (.node i' k' s' ks') hw
  rw [F.v E, F.v E]
  unfold sameS
  dsimp only
  obtain ⟨st, hst⟩ : ∃ b, b = sameT (.node i k s ks) (.node i' k' s' ks') := ⟨_, rfl⟩
  rw [← hst] at h28 ⊢
  obtain ⟨r, hr⟩ : ∃ r, r = (decide (op = op') && (decide (id = id') && (decide (par = par') && (decide (pl = pl') && (strEq tx tx' && st))))) := ⟨_, rfl⟩
  rw [← hr]
  rw [E.node, E.node] at h28
  refine TPure.ofE A T0 (T0_ok hP) (hP ▸ Try.func58) rfl _ rfl (by simp) ?_
  cbv
  ((try cbv) <;> (repeat ((with_reducible refine EW.of ?_); cbv)))
  refine bsplit (fun h => ?_) (fun h => ?_)
  rotate_left
  · have h : ¬ (op = op') := eq_f h rfl rfl
    rw [decide_eq_false h] at hr
    replace hr : r = false := by rw [hr]; simp
    subst hr
    cbv
    ((try cbv) <;> (repeat ((with_reducible refine EW.of ?_); cbv)))
  have h : op = op' := eq_t h rfl rfl
  rw [decide_eq_true h] at hr
  cbv
  refine bsplit (fun h => ?_) (fun h => ?_)
  rotate_left
  · have h : ¬ (id = id') := eq_f h rfl rfl
    rw [decide_eq_false h] at hr
    replace hr : r = false := by rw [hr]; simp
    subst hr
    cbv
    ((try cbv) <;> (repeat ((with_reducible refine EW.of ?_); cbv)))
  have h : id = id' := eq_t h rfl rfl
  rw [decide_eq_true h] at hr
  cbv
  refine bsplit (fun h => ?_) (fun h => ?_)
  rotate_left
  · have h : ¬ (par = par') := eq_f h rfl rfl
    rw [decide_eq_false h] at hr
    replace hr : r = false := by rw [hr]; simp
    subst hr
    cbv
    ((try cbv) <;> (repeat ((with_reducible refine EW.of ?_); cbv)))
  have h : par = par' := eq_t h rfl rfl
  rw [decide_eq_true h] at hr
  cbv
  refine bsplit (fun h => ?_) (fun h => ?_)
  rotate_left
  · have h : ¬ (pl = pl') := eq_f h rfl rfl
    rw [decide_eq_false h] at hr
    replace hr : r = false := by rw [hr]; simp
    subst hr
    cbv
    ((try cbv) <;> (repeat ((with_reducible refine EW.of ?_); cbv)))
  have h : pl = pl' := eq_t h rfl rfl
  rw [decide_eq_true h] at hr
  cbv
  refine bsplit (fun h => ?_) (fun h => ?_)
  rotate_left
  · have h : strEq tx tx' = false := seq_f h
    rw [h] at hr
    replace hr : r = false := by rw [hr]; simp
    subst hr
    cbv
    ((try cbv) <;> (repeat ((with_reducible refine EW.of ?_); cbv)))
  have h : strEq tx tx' = true := seq_t h
  rw [h] at hr
  replace hr : r = st := by rw [hr]; rfl
  subst hr
  cbv
  (refine ⟨Ent.of (hP ▸ Try.func28) rfl, ?_⟩; refine TC.pureE h28 ?_; cbv; (repeat (first | exact trivial | refine And.intro (Emb.Pur _ _) ?_ | refine And.intro rfl ?_ | refine And.intro (Pur.mk rfl) ?_ | refine And.intro (Pur.mk (by assumption)) ?_)); ((try cbv) <;> (repeat ((with_reducible refine EW.of ?_); cbv))))
set_option maxHeartbeats 1000000 in
theorem SameSteps31 (A : Ar) (E : Em) (F : EmS) {P : Program} (hP : P = Try.prog) (ks us : List Stp) (hw : ∀ x ∈ ks, x.sub.ok) (hkl : ks.length ≤ 9223372036854775807) : TPure P 31 [.sl 9 (F.l.l ks), .sl 9 (F.l.l us)] (.bool (sameL ks us)) := by
  have hll := F.l.len ks
  have hlu := F.l.len us
  obtain ⟨r, hr⟩ : ∃ r, r = sameL ks us := ⟨_, rfl⟩
  rw [← hr]
  refine TPure.ofE A T0 (T0_ok hP) (hP ▸ Try.func31) rfl _ rfl (by simp) ?_
  cbv
  ((try cbv) <;> (repeat ((with_reducible refine EW.of ?_); cbv)))
  refine bsplit (fun h => ?_) (fun h => ?_)
  · have h : (F.l.l ks).length ≠ (F.l.l us).length := lenne_t h
    rw [sameL_len (by omega)] at hr
    subst hr
    cbv
    ((try cbv) <;> (repeat ((with_reducible refine EW.of ?_); cbv)))
  have h : (F.l.l ks).length = (F.l.l us).length := lenne_f h
  cbv
  ((try cbv) <;> (repeat ((with_reducible refine EW.of ?_); cbv)))
  obtain ⟨S, hS⟩ : ∃ S : LI Nat, S = ⟨fun j => [(5, .int .i64 j), (4, .bool false), (0, .sl 9 (F.l.l ks)), (1, .sl 9 (F.l.l us))], fun _ => [], fun j => j ≤ ks.length ∧ r = sameL (ks.drop j) (us.drop j), fun j => ks.length - j⟩ := ⟨_, rfl⟩
  refine TW.loopM A (T0_ok hP) S _ rfl 0 ?_ ?_ ?_
  · rw [hS]; exact ⟨Nat.zero_le _, hr⟩
  · rw [hS]; cbv; (repeat (first | exact trivial | refine And.intro (Emb.Pur _ _) ?_ | refine And.intro rfl ?_ | refine And.intro (Pur.mk rfl) ?_ | refine And.intro (Pur.mk (by assumption)) ?_))
  intro j hj l1 L1 e1 e2; rw [hS] at hj e1 e2; dsimp only at hj e1 e2; obtain ⟨hj, hinv⟩ := hj; subst e1 e2
  cbv
  ((try cbv) <;> (repeat ((with_reducible refine EW.of ?_); cbv)))
  refine bsplit (fun h2 => ?_) (fun h2 => ?_)
  · have h2 : j < (F.l.l ks).length := lt_nt h2 rfl (A.ok_len _)
    obtain ⟨t', ht'⟩ : ∃ t', ks[j]? = some t' := ⟨_, List.getElem?_eq_getElem (by omega)⟩
    obtain ⟨u', hu'⟩ : ∃ u', us[j]? = some u' := ⟨_, List.getElem?_eq_getElem (by omega)⟩
    rw [sameL_drop ht' hu'] at hinv
    have hrec := SameStep58 A E F hP t' u' (hw t' (List.mem_of_getElem? ht'))
    generalize sameS t' u' = b at hrec hinv
    obtain ⟨op, id, par, pl, tx, ⟨i, k, s, ks1⟩⟩ := t'
    obtain ⟨op', id', par', pl', tx', ⟨i', k', s', ks2⟩⟩ := u'
    rw [F.v E, F.v E] at hrec
    ((try cbv) <;> (repeat ((with_reducible refine EW.of ?_); cbv)))
    (refine TW.draw (A := A) (T0_ok hP) (hP ▸ follows_mixed) (by kernel_rfl) rfl ?_; cbv)
    refine ⟨j, _, rfl, F.get E ht', ?_⟩
    cbv
    refine ⟨j, _, rfl, F.get E hu', ?_⟩
    cbv
    (refine ⟨Ent.of (hP ▸ Try.func58) rfl, ?_⟩; refine ⟨_, TC.pureX hrec (by cbv; (repeat (first | exact trivial | refine And.intro (Emb.Pur _ _) ?_ | refine And.intro rfl ?_ | refine And.intro (Pur.mk rfl) ?_ | refine And.intro (Pur.mk (by assumption)) ?_))), ?_⟩; cbv)
    cases b with
    | true =>
      replace hinv : r = sameL (ks.drop (j + 1)) (us.drop (j + 1)) := by rw [hinv]; rfl
      ((try cbv) <;> (repeat ((with_reducible refine EW.of ?_); cbv)))
      refine LM.of (j + 1) rfl ?_ ?_ ?_
      · rw [hS]; exact ⟨by show j + 1 ≤ _; omega, hinv⟩
      · rw [hS]; show ks.length - (j + 1) < ks.length - j; omega
      · rw [hS]; (cbv; (repeat (first | exact trivial | refine And.intro (Emb.Pur _ _) ?_ | refine And.intro rfl ?_ | refine And.intro (Pur.mk rfl) ?_ | refine And.intro (Pur.mk (by assumption)) ?_)); refine And.intro (inc_eq A (by omega)) ?_; (repeat (first | exact trivial | refine And.intro (Emb.Pur _ _) ?_ | refine And.intro rfl ?_ | refine And.intro (Pur.mk rfl) ?_ | refine And.intro (Pur.mk (by assumption)) ?_)))
    | false =>
      replace hinv : r = false := by rw [hinv]; rfl
      subst hinv
      ((try cbv) <;> (repeat ((with_reducible refine EW.of ?_); cbv)))
  · have h2 : (F.l.l ks).length ≤ j := lt_nf h2 rfl (A.ok_len _)
    rw [List.drop_eq_nil_of_le (by omega), List.drop_eq_nil_of_le (by omega)] at hinv
    replace hinv : r = true := hinv
    subst hinv
    ((try cbv) <;> (repeat ((with_reducible refine EW.of ?_); cbv)))
end Go.Proofs.Ytmbbdabcbnemiaa

/-! CodeReads, walked whole. -/
namespace Go.Proofs.Ytmbbdabcbnemiaa
open Go.Proofs.Ytmbbdabcbnemiaa.Tw
theorem listR_all {α : Type} {p : α → Prop} {one : Nat → Nat → RN α} (h1 : ∀ c a x c2 a2, one c a = .ok x c2 a2 → p x) : ∀ (n c a : Nat) (xs : List α) (c2 a2 : Nat), listR one n c a = .ok xs c2 a2 → xs.length = n ∧ ∀ x ∈ xs, p x
  | 0, c, a, xs, c2, a2, h => by cases h; exact ⟨rfl, fun x hx => by cases hx⟩
  | n + 1, c, a, xs, c2, a2, h => by
    rw [listR] at h
    cases ho : one c a with
    | no e c3 a3 => rw [ho] at h; cases h
    | ok x c3 a3 =>
    rw [ho] at h
    simp only [RN.bind] at h
    cases hq : listR one n c3 a3 with
    | no e c4 a4 => rw [hq] at h; cases h
    | ok ys c4 a4 =>
    rw [hq] at h
    cases h
    have := listR_all h1 n c3 a3 ys c2 a2 hq
    refine ⟨by rw [List.length_cons, this.1], fun y hy => ?_⟩
    rcases List.mem_cons.1 hy with rfl | hy
    · exact h1 _ _ _ _ _ ho
    · exact this.2 y hy
theorem nodeR_tok {A : Ar} {bs : List UInt8} (hl : bs.length ≤ 1000000000) : ∀ (f c a : Nat) (t : Tree) (c2 a2 : Nat), nodeR A bs f c a = .ok t c2 a2 → t.ok
  | 0, c, a, t, c2, a2, h => by cases h
  | f + 1, c, a, t, c2, a2, h => by
    rw [nodeR] at h
    split at h
    · cases h
    cases h1 : numR A bs a with
    | no e a3 => rw [h1] at h; cases h
    | ok i a3 =>
    rw [h1] at h
    simp only [RR.toN, RN.bind] at h
    cases h2 : numR A bs a3 with
    | no e a4 => rw [h2] at h; cases h
    | ok k a4 =>
    rw [h2] at h
    simp only [RN.bind] at h
    cases h3 : textR A bs a4 with
    | no e a5 => rw [h3] at h; cases h
    | ok s a5 =>
    rw [h3] at h
    simp only [RN.bind] at h
    cases h4 : countR A bs a5 32 bs.length with
    | no e a6 => rw [h4] at h; cases h
    | ok n a6 =>
    rw [h4] at h
    simp only [RN.bind] at h
    cases h5 : listR (nodeR A bs f) n.toNat (c + 1) a6 with
    | no e c7 a7 => rw [h5] at h; cases h
    | ok ks c7 a7 =>
    rw [h5] at h
    cases h
    have h6 := listR_all (p := Tree.ok) (nodeR_tok hl f) _ _ _ _ _ _ h5
    have h7 := countR_ok hl h4
    exact .node (by omega) h6.2
theorem tree0_ok : tree0.ok := .node (by decide) (fun t ht => by cases ht)
theorem askT2_tok {A : Ar} {bs : List UInt8} (hl : bs.length ≤ 1000000000) {a : Nat} {b : Int} {v : Tree} {a2 : Nat} {b2 : Int} (h : askR tree0 bs a b (nodeTR A bs a) = (v, a2, b2)) : v.ok := by
  unfold askR at h
  split at h
  · cases h; exact tree0_ok
  unfold nodeTR at h
  cases hr : nodeR A bs 40 0 a with
  | no e c a3 => rw [hr] at h; cases h; exact tree0_ok
  | ok x c a3 => rw [hr] at h; cases h; exact nodeR_tok hl _ _ _ _ _ _ hr
theorem stepR_tok {A : Ar} {bs : List UInt8} (hl : bs.length ≤ 1000000000) {a a2 : Nat} {x : Stp} (h : stepR A bs a = .ok x a2) : x.sub.ok := by
  unfold stepR at h
  cases h0 : smallR A bs a with
  | no e a3 => rw [h0] at h; cases h
  | ok op b0 =>
  rw [h0] at h
  simp only [RR.bind] at h
  cases h1 : numR A bs b0 with
  | no e a3 => rw [h1] at h; cases h
  | ok id b1 =>
  rw [h1] at h
  simp only at h
  cases h2 : numR A bs b1 with
  | no e a3 => rw [h2] at h; cases h
  | ok par b2 =>
  rw [h2] at h
  simp only at h
  cases h3 : numR A bs b2 with
  | no e a3 => rw [h3] at h; cases h
  | ok pl b3 =>
  rw [h3] at h
  simp only at h
  cases h4 : textR A bs b3 with
  | no e a3 => rw [h4] at h; cases h
  | ok s b4 =>
  rw [h4] at h
  simp only at h
  cases h5 : nodeTR A bs b4 with
  | no e a3 => rw [h5] at h; cases h
  | ok t b5 =>
  rw [h5] at h
  cases h
  exact askT2_tok (A := A) (b := -1) hl (by rw [askR_ok (by decide) h5])
theorem askSt_tok {A : Ar} {bs : List UInt8} (hl : bs.length ≤ 1000000000) {a : Nat} {b : Int} {v : List Stp} {a2 : Nat} {b2 : Int} (h : askR [] bs a b (stepsR A bs a) = (v, a2, b2)) : v.length ≤ 60 ∧ ∀ x ∈ v, x.sub.ok := by
  have hn : (([] : List Stp).length ≤ 60 ∧ ∀ x ∈ ([] : List Stp), x.sub.ok) := ⟨by decide, fun x hx => by cases hx⟩
  unfold askR at h
  split at h
  · cases h; exact hn
  unfold stepsR at h
  cases hc : countR A bs a 57 60 with
  | no e a3 => rw [hc] at h; cases h; exact hn
  | ok n a3 =>
  rw [hc] at h
  simp only [RR.bind] at h
  have h7 := countR_ok hl hc
  cases hr : listR (oneS A bs) n.toNat 0 a3 with
  | no e c a4 => rw [hr] at h; cases h; exact hn
  | ok xs c a4 =>
    rw [hr] at h; cases h
    have h6 := listR_all (p := fun x : Stp => x.sub.ok) (one := oneS A bs) (fun c a x c2 a2 h => by
      unfold oneS at h
      cases hs : stepR A bs a with
      | no e a3 => rw [hs] at h; cases h
      | ok y a3 => rw [hs] at h; cases h; exact stepR_tok hl hs) _ _ _ _ _ _ hr
    exact ⟨by omega, h6.2⟩
theorem askSt_pos {A : Ar} {bs : List UInt8} (hl : bs.length ≤ 1000000000) {a : Nat} (ha : a ≤ bs.length) {b : Int} {v : List Stp} {a2 : Nat} {b2 : Int} (h : askR [] bs a b (stepsR A bs a) = (v, a2, b2)) : a2 ≤ bs.length := by
  have h2 := stepsF_R (A := A) (c := 0) hl ha (b := b)
  rw [h] at h2
  have h3 := (Prod.mk.inj h2.1).2
  have h4 := h2.2
  rw [h3] at h4
  exact h4
theorem notF {b : Bool} : b = true → (match b with | true => false | false => true) = false := by rintro rfl; rfl
set_option maxHeartbeats 16000000 in
theorem lawReads (A : Ar) (E : Em) (B : EmB) (F : EmS) {P : Program} (hP : P = Try.prog) (bs : List UInt8) (ks : List Int) (size most : Int) : TPure P 4 [.sl 1 (B.l.l bs), .sl 1 (E.int.l ks), .int .i64 size, .int .i64 most] (.bool true) := by
  have h9 := wakes9 A B hP
  have hll := B.l.len bs
  have hlk : A.len (B.l.l bs) = (bs.length : Int) := by rw [A.ok_len, hll]
  have hkl := E.int.len ks
  have hkk : A.len (E.int.l ks) = (ks.length : Int) := by rw [A.ok_len, hkl]
  refine TPure.ofE A T0 (T0_ok hP) (hP ▸ Try.func4) rfl _ rfl (by simp) ?_
  cbv
  ((try cbv) <;> (repeat ((with_reducible refine EW.of ?_); cbv)))
  refine bsplit (fun h1 => ?_) (fun h1 => ?_)
  · skip
    cbv
    ((try cbv) <;> (repeat ((with_reducible refine EW.of ?_); cbv)))
    (refine ⟨Ent.of (hP ▸ Try.func9) rfl, ?_⟩; refine TC.pureE h9 ?_; cbv; (repeat (first | exact trivial | refine And.intro (Emb.Pur _ _) ?_ | refine And.intro rfl ?_ | refine And.intro (Pur.mk rfl) ?_ | refine And.intro (Pur.mk (by assumption)) ?_)); ((try cbv) <;> (repeat ((with_reducible refine EW.of ?_); cbv))))
  have h1 : bs.length ≤ 20000 := lt_nf (i := 20000) h1 rfl hlk
  have hl : bs.length ≤ 1000000000 := by omega
  cbv
  refine bsplit (fun h2 => ?_) (fun h2 => ?_)
  · skip
    cbv
    ((try cbv) <;> (repeat ((with_reducible refine EW.of ?_); cbv)))
    (refine ⟨Ent.of (hP ▸ Try.func9) rfl, ?_⟩; refine TC.pureE h9 ?_; cbv; (repeat (first | exact trivial | refine And.intro (Emb.Pur _ _) ?_ | refine And.intro rfl ?_ | refine And.intro (Pur.mk rfl) ?_ | refine And.intro (Pur.mk (by assumption)) ?_)); ((try cbv) <;> (repeat ((with_reducible refine EW.of ?_); cbv))))
  have h2 : ks.length ≤ 60 := lt_nf (i := 60) h2 rfl hkk
  cbv
  ((try cbv) <;> (repeat ((with_reducible refine EW.of ?_); cbv)))
  refine bsplit (fun h3 => ?_) (fun h3 => ?_)
  · skip
    cbv
    ((try cbv) <;> (repeat ((with_reducible refine EW.of ?_); cbv)))
    (refine ⟨Ent.of (hP ▸ Try.func9) rfl, ?_⟩; refine TC.pureE h9 ?_; cbv; (repeat (first | exact trivial | refine And.intro (Emb.Pur _ _) ?_ | refine And.intro rfl ?_ | refine And.intro (Pur.mk rfl) ?_ | refine And.intro (Pur.mk (by assumption)) ?_)); ((try cbv) <;> (repeat ((with_reducible refine EW.of ?_); cbv))))
  have h18 := New18 A B hP bs hl
  have h19 := New19 A B hP bs
  unfold rdr at h18
  unfold rdrF at h19
  cbv
  ((try cbv) <;> (repeat ((with_reducible refine EW.of ?_); cbv)))
  refine ⟨Ent.of (hP ▸ Try.func18) rfl, ?_⟩
  refine TC1.call [] h18 ?_
  cbv
  (repeat (first | exact trivial | refine And.intro (Emb.Pur _ _) ?_ | refine And.intro rfl ?_ | refine And.intro (Pur.mk rfl) ?_))
  ((try cbv) <;> (repeat ((with_reducible refine EW.of ?_); cbv)))
  refine ⟨Ent.of (hP ▸ Try.func19) rfl, ?_⟩
  refine TC1.call [] h19 ?_
  cbv
  (repeat (first | exact trivial | refine And.intro (Emb.Pur _ _) ?_ | refine And.intro rfl ?_ | refine And.intro (Pur.mk rfl) ?_))
  ((try cbv) <;> (repeat ((with_reducible refine EW.of ?_); cbv)))
  obtain ⟨S, hS⟩ : ∃ S : LI (Nat × Nat × Int × Nat), S = ⟨fun x => [(49, .int .i64 x.1), (48, .int .i64 (A.len (E.int.l ks))), (47, .sl 1 (E.int.l ks)), (9, .ref 0 3 0 0), (10, .ref 1 4 0 0), (8, .bool false), (2, .int .i64 size), (3, .int .i64 most)], fun x => [some (.box 3 (.agg [.sl 1 (B.l.l bs), .int .i64 x.2.1, .int .i64 x.2.2.1])), some (.box 4 (.agg [.sl 1 (B.l.l bs), .int .i64 x.2.1, .int .i64 x.2.2.1, .int .i64 x.2.2.2]))], fun x => x.1 ≤ ks.length ∧ x.2.1 ≤ bs.length, fun x => ks.length - x.1⟩ := ⟨_, rfl⟩
  refine TW.loopM A (T0_ok hP) S _ rfl (0, 0, -1, 0) ?_ ?_ ?_
  · rw [hS]; exact ⟨Nat.zero_le _, Nat.zero_le _⟩
  · rw [hS]
    cbv
    (repeat (first | exact trivial | refine And.intro (Emb.Pur _ _) ?_ | refine And.intro rfl ?_ | refine And.intro (Pur.mk rfl) ?_))
  rintro ⟨j, a, b, c⟩ hj l1 L1 e1 e2
  rw [hS] at hj e1 e2
  dsimp only at hj e1 e2
  obtain ⟨hj, ha⟩ := hj
  subst e1 e2
  cbv
  ((try cbv) <;> (repeat ((with_reducible refine EW.of ?_); cbv)))
  refine bsplit (fun h => ?_) (fun h => ?_)
  · have h : j < (E.int.l ks).length := lt_nt h rfl (A.ok_len _)
    obtain ⟨i, hi⟩ : ∃ i, ks[j]? = some i := ⟨_, List.getElem?_eq_getElem (by omega)⟩
    have hjn : j + 1 ≤ ks.length := by omega
    ((try cbv) <;> (repeat ((with_reducible refine EW.of ?_); cbv)))
    refine ⟨j, _, rfl, E.geti hi, ?_⟩
    cbv
    ((try cbv) <;> (repeat ((with_reducible refine EW.of ?_); cbv)))
    refine bsplit (fun h => ?_) (fun h => ?_)
    · clear h
      obtain ⟨v, a2, b2, hq⟩ : ∃ x y z, askR 0 bs a b (numR A bs a) = (x, y, z) := ⟨_, _, _, rfl⟩
      have k1 := Number20 A B hP bs hl a ha b v a2 b2 hq
      have k2 := Number21 A B hP bs hl a ha b c v a2 b2 hq
      obtain ⟨c2, hc2⟩ : ∃ c2, c2 = c := ⟨_, rfl⟩
      rw [← hc2] at k2
      subst hc2
      have ha2 := askN_pos ha hq
      unfold rdr at k1
      unfold rdrF at k2
      ((try cbv) <;> (repeat ((with_reducible refine EW.of ?_); cbv)))
      refine ⟨Ent.of (hP ▸ Try.func20) rfl, ?_⟩
      refine TC1.call [0] k1 ?_
      cbv
      (repeat (first | exact trivial | refine And.intro (Emb.Pur _ _) ?_ | refine And.intro rfl ?_ | refine And.intro (Pur.mk rfl) ?_))
      ((try cbv) <;> (repeat ((with_reducible refine EW.of ?_); cbv)))
      refine ⟨Ent.of (hP ▸ Try.func21) rfl, ?_⟩
      refine TC1.call [1] k2 ?_
      cbv
      (repeat (first | exact trivial | refine And.intro (Emb.Pur _ _) ?_ | refine And.intro rfl ?_ | refine And.intro (Pur.mk rfl) ?_))
      ((try cbv) <;> (repeat ((with_reducible refine EW.of ?_); cbv)))
      obtain ⟨x, y, hend⟩ : ∃ x y, endR bs a2 b2 = (x, y) := ⟨_, _, rfl⟩
      have h34 := End34 A B hP bs a2 b2 x y hend
      have h35 := End35 A B hP bs a2 b2 c2 x y hend
      unfold rdr at h34
      unfold rdrF at h35
      refine ⟨Ent.of (hP ▸ Try.func34) rfl, ?_⟩
      refine TC1.call [0] h34 ?_
      cbv
      (repeat (first | exact trivial | refine And.intro (Emb.Pur _ _) ?_ | refine And.intro rfl ?_ | refine And.intro (Pur.mk rfl) ?_))
      ((try cbv) <;> (repeat ((with_reducible refine EW.of ?_); cbv)))
      refine ⟨Ent.of (hP ▸ Try.func35) rfl, ?_⟩
      refine TC1.call [1] h35 ?_
      cbv
      (repeat (first | exact trivial | refine And.intro (Emb.Pur _ _) ?_ | refine And.intro rfl ?_ | refine And.intro (Pur.mk rfl) ?_))
      ((try cbv) <;> (repeat ((with_reducible refine EW.of ?_); cbv)))
      refine bno (notF (eqT rfl)) ?_
      ((try cbv) <;> (repeat ((with_reducible refine EW.of ?_); cbv)))
      refine bno (neF rfl) ?_
      ((try cbv) <;> (repeat ((with_reducible refine EW.of ?_); cbv)))
      refine bno (neF rfl) ?_
      ((try cbv) <;> (repeat ((with_reducible refine EW.of ?_); cbv)))
      refine LM.of (j + 1, a2, b2, c2) rfl ?_ ?_ ?_
      · rw [hS]; exact ⟨hjn, ha2⟩
      · rw [hS]; show ks.length - (j + 1) < ks.length - j; omega
      · rw [hS]; (cbv; (repeat (first | exact trivial | refine And.intro (Emb.Pur _ _) ?_ | refine And.intro rfl ?_ | refine And.intro (Pur.mk rfl) ?_ | refine And.intro (Pur.mk (by assumption)) ?_)); refine And.intro (inc_eq A (by omega)) ?_; (repeat (first | exact trivial | refine And.intro (Emb.Pur _ _) ?_ | refine And.intro rfl ?_ | refine And.intro (Pur.mk rfl) ?_ | refine And.intro (Pur.mk (by assumption)) ?_)))
    clear h
    cbv
    ((try cbv) <;> (repeat ((with_reducible refine EW.of ?_); cbv)))
    refine bsplit (fun h => ?_) (fun h => ?_)
    · clear h
      obtain ⟨v, a2, b2, hq⟩ : ∃ x y z, askR 0 bs a b (smallR A bs a) = (x, y, z) := ⟨_, _, _, rfl⟩
      have k1 := Small22 A B hP bs hl a ha b v a2 b2 hq
      have k2 := Small23 A B hP bs hl a ha b c v a2 b2 hq
      obtain ⟨c2, hc2⟩ : ∃ c2, c2 = c := ⟨_, rfl⟩
      rw [← hc2] at k2
      subst hc2
      have ha2 := askS_pos ha hq
      unfold rdr at k1
      unfold rdrF at k2
      ((try cbv) <;> (repeat ((with_reducible refine EW.of ?_); cbv)))
      refine ⟨Ent.of (hP ▸ Try.func22) rfl, ?_⟩
      refine TC1.call [0] k1 ?_
      cbv
      (repeat (first | exact trivial | refine And.intro (Emb.Pur _ _) ?_ | refine And.intro rfl ?_ | refine And.intro (Pur.mk rfl) ?_))
      ((try cbv) <;> (repeat ((with_reducible refine EW.of ?_); cbv)))
      refine ⟨Ent.of (hP ▸ Try.func23) rfl, ?_⟩
      refine TC1.call [1] k2 ?_
      cbv
      (repeat (first | exact trivial | refine And.intro (Emb.Pur _ _) ?_ | refine And.intro rfl ?_ | refine And.intro (Pur.mk rfl) ?_))
      ((try cbv) <;> (repeat ((with_reducible refine EW.of ?_); cbv)))
      obtain ⟨x, y, hend⟩ : ∃ x y, endR bs a2 b2 = (x, y) := ⟨_, _, rfl⟩
      have h34 := End34 A B hP bs a2 b2 x y hend
      have h35 := End35 A B hP bs a2 b2 c2 x y hend
      unfold rdr at h34
      unfold rdrF at h35
      refine ⟨Ent.of (hP ▸ Try.func34) rfl, ?_⟩
      refine TC1.call [0] h34 ?_
      cbv
      (repeat (first | exact trivial | refine And.intro (Emb.Pur _ _) ?_ | refine And.intro rfl ?_ | refine And.intro (Pur.mk rfl) ?_))
      ((try cbv) <;> (repeat ((with_reducible refine EW.of ?_); cbv)))
      refine ⟨Ent.of (hP ▸ Try.func35) rfl, ?_⟩
      refine TC1.call [1] h35 ?_
      cbv
      (repeat (first | exact trivial | refine And.intro (Emb.Pur _ _) ?_ | refine And.intro rfl ?_ | refine And.intro (Pur.mk rfl) ?_))
      ((try cbv) <;> (repeat ((with_reducible refine EW.of ?_); cbv)))
      refine bno (notF (eqT rfl)) ?_
      ((try cbv) <;> (repeat ((with_reducible refine EW.of ?_); cbv)))
      refine bno (neF rfl) ?_
      ((try cbv) <;> (repeat ((with_reducible refine EW.of ?_); cbv)))
      refine bno (neF rfl) ?_
      ((try cbv) <;> (repeat ((with_reducible refine EW.of ?_); cbv)))
      refine LM.of (j + 1, a2, b2, c2) rfl ?_ ?_ ?_
      · rw [hS]; exact ⟨hjn, ha2⟩
      · rw [hS]; show ks.length - (j + 1) < ks.length - j; omega
      · rw [hS]; (cbv; (repeat (first | exact trivial | refine And.intro (Emb.Pur _ _) ?_ | refine And.intro rfl ?_ | refine And.intro (Pur.mk rfl) ?_ | refine And.intro (Pur.mk (by assumption)) ?_)); refine And.intro (inc_eq A (by omega)) ?_; (repeat (first | exact trivial | refine And.intro (Emb.Pur _ _) ?_ | refine And.intro rfl ?_ | refine And.intro (Pur.mk rfl) ?_ | refine And.intro (Pur.mk (by assumption)) ?_)))
    clear h
    cbv
    ((try cbv) <;> (repeat ((with_reducible refine EW.of ?_); cbv)))
    refine bsplit (fun h => ?_) (fun h => ?_)
    · clear h
      obtain ⟨v, a2, b2, hq⟩ : ∃ x y z, askR ⟨#[]⟩ bs a b (textR A bs a) = (x, y, z) := ⟨_, _, _, rfl⟩
      have k1 := Text24 A B hP bs hl a ha b v a2 b2 hq
      have k2 := Text25 A B hP bs hl a ha b c v a2 b2 hq
      obtain ⟨c2, hc2⟩ : ∃ c2, c2 = c := ⟨_, rfl⟩
      rw [← hc2] at k2
      subst hc2
      have ha2 := askT_pos hl ha hq
      unfold rdr at k1
      unfold rdrF at k2
      ((try cbv) <;> (repeat ((with_reducible refine EW.of ?_); cbv)))
      refine ⟨Ent.of (hP ▸ Try.func24) rfl, ?_⟩
      refine TC1.call [0] k1 ?_
      cbv
      (repeat (first | exact trivial | refine And.intro (Emb.Pur _ _) ?_ | refine And.intro rfl ?_ | refine And.intro (Pur.mk rfl) ?_))
      ((try cbv) <;> (repeat ((with_reducible refine EW.of ?_); cbv)))
      refine ⟨Ent.of (hP ▸ Try.func25) rfl, ?_⟩
      refine TC1.call [1] k2 ?_
      cbv
      (repeat (first | exact trivial | refine And.intro (Emb.Pur _ _) ?_ | refine And.intro rfl ?_ | refine And.intro (Pur.mk rfl) ?_))
      ((try cbv) <;> (repeat ((with_reducible refine EW.of ?_); cbv)))
      obtain ⟨x, y, hend⟩ : ∃ x y, endR bs a2 b2 = (x, y) := ⟨_, _, rfl⟩
      have h34 := End34 A B hP bs a2 b2 x y hend
      have h35 := End35 A B hP bs a2 b2 c2 x y hend
      unfold rdr at h34
      unfold rdrF at h35
      refine ⟨Ent.of (hP ▸ Try.func34) rfl, ?_⟩
      refine TC1.call [0] h34 ?_
      cbv
      (repeat (first | exact trivial | refine And.intro (Emb.Pur _ _) ?_ | refine And.intro rfl ?_ | refine And.intro (Pur.mk rfl) ?_))
      ((try cbv) <;> (repeat ((with_reducible refine EW.of ?_); cbv)))
      refine ⟨Ent.of (hP ▸ Try.func35) rfl, ?_⟩
      refine TC1.call [1] h35 ?_
      cbv
      (repeat (first | exact trivial | refine And.intro (Emb.Pur _ _) ?_ | refine And.intro rfl ?_ | refine And.intro (Pur.mk rfl) ?_))
      ((try cbv) <;> (repeat ((with_reducible refine EW.of ?_); cbv)))
      refine bno (notF (seqT rfl)) ?_
      ((try cbv) <;> (repeat ((with_reducible refine EW.of ?_); cbv)))
      refine bno (neF rfl) ?_
      ((try cbv) <;> (repeat ((with_reducible refine EW.of ?_); cbv)))
      refine bno (neF rfl) ?_
      ((try cbv) <;> (repeat ((with_reducible refine EW.of ?_); cbv)))
      refine LM.of (j + 1, a2, b2, c2) rfl ?_ ?_ ?_
      · rw [hS]; exact ⟨hjn, ha2⟩
      · rw [hS]; show ks.length - (j + 1) < ks.length - j; omega
      · rw [hS]; (cbv; (repeat (first | exact trivial | refine And.intro (Emb.Pur _ _) ?_ | refine And.intro rfl ?_ | refine And.intro (Pur.mk rfl) ?_ | refine And.intro (Pur.mk (by assumption)) ?_)); refine And.intro (inc_eq A (by omega)) ?_; (repeat (first | exact trivial | refine And.intro (Emb.Pur _ _) ?_ | refine And.intro rfl ?_ | refine And.intro (Pur.mk rfl) ?_ | refine And.intro (Pur.mk (by assumption)) ?_)))
    clear h
    cbv
    ((try cbv) <;> (repeat ((with_reducible refine EW.of ?_); cbv)))
    refine bsplit (fun h => ?_) (fun h => ?_)
    · clear h
      obtain ⟨v, a2, b2, hq⟩ : ∃ x y z, askR tree0 bs a b (nodeTR A bs a) = (x, y, z) := ⟨_, _, _, rfl⟩
      have k1 := Node26 A E B hP bs hl a ha b v a2 b2 hq
      have k2 := Node27 A E B hP bs hl a ha b c v a2 b2 hq
      obtain ⟨c2, hc2⟩ : ∃ c2, c2 = cntF A bs a b := ⟨_, rfl⟩
      rw [← hc2] at k2
      have ha2 := askT2_pos hl ha hq
      unfold rdr at k1
      unfold rdrF at k2
      have k3 := Same28 A E hP v v (askT2_tok hl hq)
      rw [sameT_refl] at k3
      obtain ⟨ti, tk, ts, tks⟩ := v
      rw [E.node] at k1 k2 k3
      ((try cbv) <;> (repeat ((with_reducible refine EW.of ?_); cbv)))
      refine ⟨Ent.of (hP ▸ Try.func26) rfl, ?_⟩
      refine TC1.call [0] k1 ?_
      cbv
      (repeat (first | exact trivial | refine And.intro (Emb.Pur _ _) ?_ | refine And.intro rfl ?_ | refine And.intro (Pur.mk rfl) ?_))
      ((try cbv) <;> (repeat ((with_reducible refine EW.of ?_); cbv)))
      refine ⟨Ent.of (hP ▸ Try.func27) rfl, ?_⟩
      refine TC1.call [1] k2 ?_
      cbv
      (repeat (first | exact trivial | refine And.intro (Emb.Pur _ _) ?_ | refine And.intro rfl ?_ | refine And.intro (Pur.mk rfl) ?_))
      ((try cbv) <;> (repeat ((with_reducible refine EW.of ?_); cbv)))
      (refine ⟨Ent.of (hP ▸ Try.func28) rfl, ?_⟩; refine TC.pureE k3 ?_; cbv; (repeat (first | exact trivial | refine And.intro (Emb.Pur _ _) ?_ | refine And.intro rfl ?_ | refine And.intro (Pur.mk rfl) ?_ | refine And.intro (Pur.mk (by assumption)) ?_)); ((try cbv) <;> (repeat ((with_reducible refine EW.of ?_); cbv))))
      obtain ⟨x, y, hend⟩ : ∃ x y, endR bs a2 b2 = (x, y) := ⟨_, _, rfl⟩
      have h34 := End34 A B hP bs a2 b2 x y hend
      have h35 := End35 A B hP bs a2 b2 c2 x y hend
      unfold rdr at h34
      unfold rdrF at h35
      refine ⟨Ent.of (hP ▸ Try.func34) rfl, ?_⟩
      refine TC1.call [0] h34 ?_
      cbv
      (repeat (first | exact trivial | refine And.intro (Emb.Pur _ _) ?_ | refine And.intro rfl ?_ | refine And.intro (Pur.mk rfl) ?_))
      ((try cbv) <;> (repeat ((with_reducible refine EW.of ?_); cbv)))
      refine ⟨Ent.of (hP ▸ Try.func35) rfl, ?_⟩
      refine TC1.call [1] h35 ?_
      cbv
      (repeat (first | exact trivial | refine And.intro (Emb.Pur _ _) ?_ | refine And.intro rfl ?_ | refine And.intro (Pur.mk rfl) ?_))
      ((try cbv) <;> (repeat ((with_reducible refine EW.of ?_); cbv)))
      refine bno (neF rfl) ?_
      ((try cbv) <;> (repeat ((with_reducible refine EW.of ?_); cbv)))
      refine bno (neF rfl) ?_
      ((try cbv) <;> (repeat ((with_reducible refine EW.of ?_); cbv)))
      refine LM.of (j + 1, a2, b2, c2) rfl ?_ ?_ ?_
      · rw [hS]; exact ⟨hjn, ha2⟩
      · rw [hS]; show ks.length - (j + 1) < ks.length - j; omega
      · rw [hS]; (cbv; (repeat (first | exact trivial | refine And.intro (Emb.Pur _ _) ?_ | refine And.intro rfl ?_ | refine And.intro (Pur.mk rfl) ?_ | refine And.intro (Pur.mk (by assumption)) ?_)); refine And.intro (inc_eq A (by omega)) ?_; (repeat (first | exact trivial | refine And.intro (Emb.Pur _ _) ?_ | refine And.intro rfl ?_ | refine And.intro (Pur.mk rfl) ?_ | refine And.intro (Pur.mk (by assumption)) ?_)))
    clear h
    cbv
    ((try cbv) <;> (repeat ((with_reducible refine EW.of ?_); cbv)))
    refine bsplit (fun h => ?_) (fun h => ?_)
    · clear h
      obtain ⟨v, a2, b2, hq⟩ : ∃ x y z, askR [] bs a b (stepsR A bs a) = (x, y, z) := ⟨_, _, _, rfl⟩
      have k1 := Steps29 A E B F hP bs hl a ha b v a2 b2 hq
      obtain ⟨v2, c2, R2, hq2⟩ : ∃ x y z, stepsF A bs c a b = (x, y, z) := ⟨_, _, _, rfl⟩
      have hq3 := (stepsF_R (A := A) (c := c) hl ha (b := b)).1
      rw [hq2, hq] at hq3
      obtain ⟨rfl, rfl⟩ : v2 = v ∧ R2 = (a2, b2) := by cases hq3; exact ⟨rfl, rfl⟩
      have k2 := Steps30 A E B F hP bs hl a ha b c v2 c2 a2 b2 hq2
      have ha2 := askSt_pos hl ha hq
      unfold rdr at k1
      unfold rdrF at k2
      have k3 := SameSteps31 A E F hP v2 v2 (askSt_tok hl hq).2 (by have := (askSt_tok hl hq).1; omega)
      rw [sameL_refl] at k3
      ((try cbv) <;> (repeat ((with_reducible refine EW.of ?_); cbv)))
      refine ⟨Ent.of (hP ▸ Try.func29) rfl, ?_⟩
      refine TC1.call [0] k1 ?_
      cbv
      (repeat (first | exact trivial | refine And.intro (Emb.Pur _ _) ?_ | refine And.intro rfl ?_ | refine And.intro (Pur.mk rfl) ?_))
      ((try cbv) <;> (repeat ((with_reducible refine EW.of ?_); cbv)))
      refine ⟨Ent.of (hP ▸ Try.func30) rfl, ?_⟩
      refine TC1.call [1] k2 ?_
      cbv
      (repeat (first | exact trivial | refine And.intro (Emb.Pur _ _) ?_ | refine And.intro rfl ?_ | refine And.intro (Pur.mk rfl) ?_))
      ((try cbv) <;> (repeat ((with_reducible refine EW.of ?_); cbv)))
      (refine ⟨Ent.of (hP ▸ Try.func31) rfl, ?_⟩; refine TC.pureE k3 ?_; cbv; (repeat (first | exact trivial | refine And.intro (Emb.Pur _ _) ?_ | refine And.intro rfl ?_ | refine And.intro (Pur.mk rfl) ?_ | refine And.intro (Pur.mk (by assumption)) ?_)); ((try cbv) <;> (repeat ((with_reducible refine EW.of ?_); cbv))))
      obtain ⟨x, y, hend⟩ : ∃ x y, endR bs a2 b2 = (x, y) := ⟨_, _, rfl⟩
      have h34 := End34 A B hP bs a2 b2 x y hend
      have h35 := End35 A B hP bs a2 b2 c2 x y hend
      unfold rdr at h34
      unfold rdrF at h35
      refine ⟨Ent.of (hP ▸ Try.func34) rfl, ?_⟩
      refine TC1.call [0] h34 ?_
      cbv
      (repeat (first | exact trivial | refine And.intro (Emb.Pur _ _) ?_ | refine And.intro rfl ?_ | refine And.intro (Pur.mk rfl) ?_))
      ((try cbv) <;> (repeat ((with_reducible refine EW.of ?_); cbv)))
      refine ⟨Ent.of (hP ▸ Try.func35) rfl, ?_⟩
      refine TC1.call [1] h35 ?_
      cbv
      (repeat (first | exact trivial | refine And.intro (Emb.Pur _ _) ?_ | refine And.intro rfl ?_ | refine And.intro (Pur.mk rfl) ?_))
      ((try cbv) <;> (repeat ((with_reducible refine EW.of ?_); cbv)))
      refine bno (neF rfl) ?_
      ((try cbv) <;> (repeat ((with_reducible refine EW.of ?_); cbv)))
      refine bno (neF rfl) ?_
      ((try cbv) <;> (repeat ((with_reducible refine EW.of ?_); cbv)))
      refine LM.of (j + 1, a2, b2, c2) rfl ?_ ?_ ?_
      · rw [hS]; exact ⟨hjn, ha2⟩
      · rw [hS]; show ks.length - (j + 1) < ks.length - j; omega
      · rw [hS]; (cbv; (repeat (first | exact trivial | refine And.intro (Emb.Pur _ _) ?_ | refine And.intro rfl ?_ | refine And.intro (Pur.mk rfl) ?_ | refine And.intro (Pur.mk (by assumption)) ?_)); refine And.intro (inc_eq A (by omega)) ?_; (repeat (first | exact trivial | refine And.intro (Emb.Pur _ _) ?_ | refine And.intro rfl ?_ | refine And.intro (Pur.mk rfl) ?_ | refine And.intro (Pur.mk (by assumption)) ?_)))
    clear h
    cbv
    ((try cbv) <;> (repeat ((with_reducible refine EW.of ?_); cbv)))
    refine bsplit (fun h => ?_) (fun h => ?_)
    · clear h
      obtain ⟨v, a2, b2, hq⟩ : ∃ x y z, askR 0 bs a b (countR A bs a size most) = (x, y, z) := ⟨_, _, _, rfl⟩
      have k1 := Count32 A B hP bs hl a ha b size most v a2 b2 hq
      have k2 := Count33 A B hP bs hl a ha b c size most v a2 b2 hq
      obtain ⟨c2, hc2⟩ : ∃ c2, c2 = c := ⟨_, rfl⟩
      rw [← hc2] at k2
      subst hc2
      have ha2 := countR_pos hl ha hq
      unfold rdr at k1
      unfold rdrF at k2
      ((try cbv) <;> (repeat ((with_reducible refine EW.of ?_); cbv)))
      refine ⟨Ent.of (hP ▸ Try.func32) rfl, ?_⟩
      refine TC1.call [0] k1 ?_
      cbv
      (repeat (first | exact trivial | refine And.intro (Emb.Pur _ _) ?_ | refine And.intro rfl ?_ | refine And.intro (Pur.mk rfl) ?_))
      ((try cbv) <;> (repeat ((with_reducible refine EW.of ?_); cbv)))
      refine ⟨Ent.of (hP ▸ Try.func33) rfl, ?_⟩
      refine TC1.call [1] k2 ?_
      cbv
      (repeat (first | exact trivial | refine And.intro (Emb.Pur _ _) ?_ | refine And.intro rfl ?_ | refine And.intro (Pur.mk rfl) ?_))
      ((try cbv) <;> (repeat ((with_reducible refine EW.of ?_); cbv)))
      obtain ⟨x, y, hend⟩ : ∃ x y, endR bs a2 b2 = (x, y) := ⟨_, _, rfl⟩
      have h34 := End34 A B hP bs a2 b2 x y hend
      have h35 := End35 A B hP bs a2 b2 c2 x y hend
      unfold rdr at h34
      unfold rdrF at h35
      refine ⟨Ent.of (hP ▸ Try.func34) rfl, ?_⟩
      refine TC1.call [0] h34 ?_
      cbv
      (repeat (first | exact trivial | refine And.intro (Emb.Pur _ _) ?_ | refine And.intro rfl ?_ | refine And.intro (Pur.mk rfl) ?_))
      ((try cbv) <;> (repeat ((with_reducible refine EW.of ?_); cbv)))
      refine ⟨Ent.of (hP ▸ Try.func35) rfl, ?_⟩
      refine TC1.call [1] h35 ?_
      cbv
      (repeat (first | exact trivial | refine And.intro (Emb.Pur _ _) ?_ | refine And.intro rfl ?_ | refine And.intro (Pur.mk rfl) ?_))
      ((try cbv) <;> (repeat ((with_reducible refine EW.of ?_); cbv)))
      refine bno (notF (eqT rfl)) ?_
      ((try cbv) <;> (repeat ((with_reducible refine EW.of ?_); cbv)))
      refine bno (neF rfl) ?_
      ((try cbv) <;> (repeat ((with_reducible refine EW.of ?_); cbv)))
      refine bno (neF rfl) ?_
      ((try cbv) <;> (repeat ((with_reducible refine EW.of ?_); cbv)))
      refine LM.of (j + 1, a2, b2, c2) rfl ?_ ?_ ?_
      · rw [hS]; exact ⟨hjn, ha2⟩
      · rw [hS]; show ks.length - (j + 1) < ks.length - j; omega
      · rw [hS]; (cbv; (repeat (first | exact trivial | refine And.intro (Emb.Pur _ _) ?_ | refine And.intro rfl ?_ | refine And.intro (Pur.mk rfl) ?_ | refine And.intro (Pur.mk (by assumption)) ?_)); refine And.intro (inc_eq A (by omega)) ?_; (repeat (first | exact trivial | refine And.intro (Emb.Pur _ _) ?_ | refine And.intro rfl ?_ | refine And.intro (Pur.mk rfl) ?_ | refine And.intro (Pur.mk (by assumption)) ?_)))
    clear h
    cbv
    ((try cbv) <;> (repeat ((with_reducible refine EW.of ?_); cbv)))
    obtain ⟨a2, b2, c2, ea, eb, ec⟩ : ∃ a2 b2 c2, a2 = a ∧ b2 = b ∧ c2 = c := ⟨_, _, _, rfl, rfl, rfl⟩
    rw [← ea] at ha
    subst ea eb ec
    have ha2 := ha
    obtain ⟨x, y, hend⟩ : ∃ x y, endR bs a2 b2 = (x, y) := ⟨_, _, rfl⟩
    have h34 := End34 A B hP bs a2 b2 x y hend
    have h35 := End35 A B hP bs a2 b2 c2 x y hend
    unfold rdr at h34
    unfold rdrF at h35
    refine ⟨Ent.of (hP ▸ Try.func34) rfl, ?_⟩
    refine TC1.call [0] h34 ?_
    cbv
    (repeat (first | exact trivial | refine And.intro (Emb.Pur _ _) ?_ | refine And.intro rfl ?_ | refine And.intro (Pur.mk rfl) ?_))
    ((try cbv) <;> (repeat ((with_reducible refine EW.of ?_); cbv)))
    refine ⟨Ent.of (hP ▸ Try.func35) rfl, ?_⟩
    refine TC1.call [1] h35 ?_
    cbv
    (repeat (first | exact trivial | refine And.intro (Emb.Pur _ _) ?_ | refine And.intro rfl ?_ | refine And.intro (Pur.mk rfl) ?_))
    ((try cbv) <;> (repeat ((with_reducible refine EW.of ?_); cbv)))
    refine bno (neF rfl) ?_
    ((try cbv) <;> (repeat ((with_reducible refine EW.of ?_); cbv)))
    refine bno (neF rfl) ?_
    ((try cbv) <;> (repeat ((with_reducible refine EW.of ?_); cbv)))
    refine LM.of (j + 1, a2, b2, c2) rfl ?_ ?_ ?_
    · rw [hS]; exact ⟨hjn, ha2⟩
    · rw [hS]; show ks.length - (j + 1) < ks.length - j; omega
    · rw [hS]; (cbv; (repeat (first | exact trivial | refine And.intro (Emb.Pur _ _) ?_ | refine And.intro rfl ?_ | refine And.intro (Pur.mk rfl) ?_ | refine And.intro (Pur.mk (by assumption)) ?_)); refine And.intro (inc_eq A (by omega)) ?_; (repeat (first | exact trivial | refine And.intro (Emb.Pur _ _) ?_ | refine And.intro rfl ?_ | refine And.intro (Pur.mk rfl) ?_ | refine And.intro (Pur.mk (by assumption)) ?_)))
  · ((try cbv) <;> (repeat ((with_reducible refine EW.of ?_); cbv)))
    (refine ⟨Ent.of (hP ▸ Try.func9) rfl, ?_⟩; refine TC.pureE h9 ?_; cbv; (repeat (first | exact trivial | refine And.intro (Emb.Pur _ _) ?_ | refine And.intro rfl ?_ | refine And.intro (Pur.mk rfl) ?_ | refine And.intro (Pur.mk (by assumption)) ?_)); ((try cbv) <;> (repeat ((with_reducible refine EW.of ?_); cbv))))
end Go.Proofs.Ytmbbdabcbnemiaa

/-! What was put is read as it was; what is read is put as it stood: numbers, texts. -/
namespace Go.Proofs.Ytmbbdabcbnemiaa
open Go.Proofs.Ytmbbdabcbnemiaa.Tw
theorem stepN_nat (A : Ar) {m : Nat} (hm : m < 72057594037927936) (b : UInt8) : stepN A (m : Int) b = ((m * 256 + b.toNat : Nat) : Int) := by
  have hb := b.toNat_lt
  have hb : b.toNat < 256 := hb
  unfold stepN
  rw [A.ok_or, A.ok_shl, A.ok_wrap]
  have e1 : IntKind.u64.wrap ((m : Int) * 2 ^ min (8 : Int).toNat IntKind.u64.bits) = ((m * 256 : Nat) : Int) := by
    show IntKind.u64.wrap ((m : Int) * 256) = _
    simp only [IntKind.wrap, IntKind.signed, IntKind.bits, Bool.false_and]
    simp
    omega
  have e2 : IntKind.u64.wrap ((b.toNat : Nat) : Int) = ((b.toNat : Nat) : Int) := by
    simp only [IntKind.wrap, IntKind.signed, IntKind.bits, Bool.false_and]
    simp
    omega
  rw [e1, e2, BitVec.ofInt_natCast, BitVec.ofInt_natCast, BitVec.toNat_or, BitVec.toNat_ofNat, BitVec.toNat_ofNat]
  have e3 : (2 : Nat) ^ IntKind.u64.bits = 18446744073709551616 := rfl
  rw [e3, Nat.mod_eq_of_lt (by omega), Nat.mod_eq_of_lt (by omega)]
  have e4 : m * 256 ||| b.toNat = m * 256 + b.toNat := by
    have := Nat.shiftLeft_add_eq_or_of_lt (i := 8) (b := b.toNat) (by omega) m
    rw [Nat.shiftLeft_eq] at this
    exact this.symm
  rw [e4]
  simp only [IntKind.wrap, IntKind.signed, IntKind.bits, Bool.false_and]
  simp
  omega
def valN (m : Nat) (l : List UInt8) : Nat := l.foldl (fun m b => m * 256 + b.toNat) m
theorem foldN_nat (A : Ar) : ∀ (l : List UInt8) (m : Nat), m < 256 ^ (8 - l.length) → l.length ≤ 8 → foldN A (m : Int) l = (valN m l : Nat)
  | [], m, hm, hl => rfl
  | b :: l, m, hm, hl => by
    have hb : b.toNat < 256 := b.toNat_lt
    simp only [List.length_cons] at hm hl
    have h1 : m < 72057594037927936 := Nat.lt_of_lt_of_le hm (show 256 ^ (8 - (l.length + 1)) ≤ 256 ^ 7 from Nat.pow_le_pow_right (by decide) (by omega))
    show foldN A (stepN A (m : Int) b) l = _
    rw [stepN_nat A h1]
    refine foldN_nat A l _ ?_ (by omega)
    have : 256 ^ (8 - l.length) = 256 ^ (8 - (l.length + 1)) * 256 := by
      rw [← Nat.pow_succ]; congr 1; omega
    omega
theorem numBs_val (n : Int) : ((valN 0 (numBs n) : Nat) : Int) = IntKind.u64.wrap n := by
  have h0 : 0 ≤ IntKind.u64.wrap n ∧ IntKind.u64.wrap n < 18446744073709551616 := by
    simp only [IntKind.wrap, IntKind.signed, IntKind.bits, Bool.false_and]
    simp
    omega
  unfold valN numBs numI
  generalize IntKind.u64.wrap n = u at h0
  obtain ⟨u, rfl⟩ : ∃ m : Nat, u = m := ⟨u.toNat, by omega⟩
  have key : ∀ k : Nat, (UInt8.ofNat (IntKind.u8.wrap ((u : Int).fdiv (2 ^ k))).toNat).toNat = u / 2 ^ k % 256 := by
    intro k
    have e : (u : Int).fdiv (2 ^ k) = ((u / 2 ^ k : Nat) : Int) := by
      rw [Int.fdiv_eq_ediv_of_nonneg _ (Int.le_of_lt (Int.pow_pos (by decide)))]
      simp
    rw [e, UInt8.toNat_ofNat']
    generalize u / 2 ^ k = w
    simp only [IntKind.wrap, IntKind.signed, IntKind.bits, Bool.false_and]
    simp
    omega
  have hr : List.range 8 = [0, 1, 2, 3, 4, 5, 6, 7] := rfl
  rw [hr]
  simp only [List.map_cons, List.map_nil, List.foldl_cons, List.foldl_nil, key]
  omega
theorem wrap_back {n : Int} (h1 : -9223372036854775808 ≤ n) (h2 : n ≤ 9223372036854775807) : IntKind.i64.wrap (IntKind.u64.wrap n) = n := by
  simp only [IntKind.wrap, IntKind.signed, IntKind.bits, Bool.false_and, Bool.true_and]
  simp
  split <;> omega
theorem numR_put (A : Ar) {bs rest : List UInt8} {a : Nat} {n : Int} (h1 : -9223372036854775808 ≤ n) (h2 : n ≤ 9223372036854775807) (h : bs.drop a = numBs n ++ rest) (ha : a ≤ bs.length) : numR A bs a = .ok n (a + 8) ∧ bs.drop (a + 8) = rest ∧ a + 8 ≤ bs.length := by
  have hlen : bs.length = a + 8 + rest.length := by
    have := congrArg List.length h
    rw [List.length_drop, List.length_append, numBs_len] at this
    omega
  refine ⟨?_, ?_, by omega⟩
  · unfold numR takeR
    rw [if_pos (by omega), h]
    have : (numBs n ++ rest).take 8 = numBs n := by
      rw [List.take_append_of_le_length (by rw [numBs_len]; exact Nat.le_refl _), List.take_of_length_le (by rw [numBs_len]; exact Nat.le_refl _)]
    simp only [RR.bind, this]
    have e := foldN_nat A (numBs n) 0 (by rw [numBs_len]; decide) (by rw [numBs_len]; decide)
    rw [show ((0 : Nat) : Int) = 0 from rfl] at e
    rw [e, numBs_val, A.ok_wrap, wrap_back h1 h2]
  · rw [← List.drop_drop, h, List.drop_append_of_le_length (by rw [numBs_len]; exact Nat.le_refl _), List.drop_of_length_le (by rw [numBs_len]; exact Nat.le_refl _), List.nil_append]
theorem countB_yes {A : Ar} {len a2 : Nat} {n size most : Int} (hl : len ≤ 1000000000) (ha : a2 ≤ len) (h0 : 0 ≤ n) (h1 : n ≤ most) (h2 : n * max size 1 ≤ ((len - a2 : Nat) : Int)) : countB A len a2 n size most = false := by
  unfold countB
  rw [A.ok_lt, A.ok_lt, A.ok_lt, decide_eq_false (by omega), if_neg (by decide), decide_eq_false (by omega), if_neg (by decide)]
  rw [sub_i64 rfl rfl (by omega) (by omega), show (len : Int) - (a2 : Int) = ((len - a2 : Nat) : Int) by omega, A.ok_quo, A.ok_mx]
  have hm : (if 1 > size then (1 : Int) else size) = max size 1 := by
    by_cases hs : 1 > size
    · rw [if_pos hs, Int.max_eq_right (by omega)]
    · rw [if_neg hs, Int.max_eq_left (by omega)]
  rw [hm]
  have hm1 : (1 : Int) ≤ max size 1 := Int.le_max_right _ _
  generalize max size 1 = m at h2 hm1
  have hq : (((len - a2 : Nat) : Int)).tdiv m = ((len - a2 : Nat) : Int) / m := Int.tdiv_eq_ediv_of_nonneg (by omega)
  have hq0 : 0 ≤ ((len - a2 : Nat) : Int) / m := Int.ediv_nonneg (by omega) (by omega)
  have hq1 : ((len - a2 : Nat) : Int) / m ≤ ((len - a2 : Nat) : Int) := Int.ediv_le_self _ (by omega)
  rw [hq, wrap_i64 (by omega) (by omega)]
  have := (Int.le_ediv_iff_mul_le (show 0 < m by omega)).2 h2
  exact decide_eq_false (by omega)
theorem countR_put (A : Ar) {bs rest : List UInt8} {a : Nat} {n : Nat} {size most : Int} (hl : bs.length ≤ 1000000000) (h : bs.drop a = numBs n ++ rest) (ha : a ≤ bs.length) (h1 : (n : Int) ≤ most) (h2 : n * max size 1 ≤ (rest.length : Int)) (hn : n ≤ 1000000000) : countR A bs a size most = .ok n (a + 8) := by
  obtain ⟨k1, k2, k3⟩ := numR_put A (n := n) (by omega) (by omega) h ha
  have hr : rest.length = bs.length - (a + 8) := by rw [← k2, List.length_drop]
  unfold countR
  rw [k1]
  simp only [RR.bind]
  rw [countB_yes hl k3 (by omega) h1 (by rw [← hr]; exact h2)]
  rfl
theorem textR_put (A : Ar) {bs rest : List UInt8} {a : Nat} {s : ByteArray} (hl : bs.length ≤ 1000000000) (h : bs.drop a = (numBs s.size ++ s.data.toList) ++ rest) (ha : a ≤ bs.length) : textR A bs a = .ok s (a + (8 + s.size)) ∧ bs.drop (a + (8 + s.size)) = rest ∧ a + (8 + s.size) ≤ bs.length := by
  have htx : s.data.toList.length = s.size := by rw [Array.length_toList]; rfl
  rw [List.append_assoc] at h
  have hlen : bs.length = a + 8 + (s.size + rest.length) := by
    have := congrArg List.length h
    rw [List.length_drop, List.length_append, List.length_append, numBs_len, htx] at this
    omega
  have h1 : max (1 : Int) 1 = 1 := rfl
  have hc := countR_put A (n := s.size) (size := 1) (most := bs.length) hl h ha (by omega) (by rw [h1, List.length_append, htx]; omega) (by omega)
  obtain ⟨k1, k2, k3⟩ := numR_put A (n := s.size) (by omega) (by omega) h ha
  have hd : bs.drop (a + 8 + s.size) = rest := by
    rw [← List.drop_drop, k2, List.drop_append_of_le_length (by omega), List.drop_of_length_le (by omega), List.nil_append]
  refine ⟨?_, by rw [← Nat.add_assoc]; exact hd, by omega⟩
  unfold textR
  rw [hc]
  simp only [RR.bind, Int.toNat_natCast]
  unfold takeR
  rw [if_pos (by omega), k2]
  have : (s.data.toList ++ rest).take s.size = s.data.toList := by
    rw [List.take_append_of_le_length (by omega), List.take_of_length_le (by omega)]
  simp only [this, Array.toArray_toList]
  rw [Nat.add_assoc]
end Go.Proofs.Ytmbbdabcbnemiaa

/-! Rows of steps behind bytes. -/
namespace Go.Proofs.Ytmbbdabcbnemiaa
open Go.Proofs.Ytmbbdabcbnemiaa.Tw
set_option maxHeartbeats 4000000 in
theorem Steps17 (A : Ar) (E : Em) (B : EmB) (F : EmS) {P : Program} (hP : P = Try.prog) (l : List Stp) (xs r : List UInt8) (hr : xs ++ (numBs l.length ++ stepsBs l) = r) (hb : r.length ≤ 100000000) :
    TPure P 17 [.sl 1 (B.l.l xs), .sl 9 (F.l.l l)] (.sl 1 (B.l.l r)) := by
  have hfl := F.l.len l
  have hlk : A.len (F.l.l l) = (l.length : Int) := by rw [A.ok_len, hfl]
  have hrl := app_len hr
  rw [List.length_append, numBs_len] at hrl
  have hge := stepsBs_ge l
  obtain ⟨x0, hx0⟩ : ∃ x0, xs ++ numBs (A.len (F.l.l l)) = x0 := ⟨_, rfl⟩
  rw [← hlk, ← List.append_assoc, hx0] at hr
  have hl0 := app_len hx0
  rw [numBs_len] at hl0
  have hl5 := app_len hr
  have c1 := Number11 A B hP xs (by omega) (A.len (F.l.l l)) x0 hx0
  clear hx0
  refine TPure.ofE A T0 (T0_ok hP) (hP ▸ Try.func17) rfl _ rfl (by simp) ?_
  cbv
  ((try cbv) <;> (repeat ((with_reducible refine EW.of ?_); cbv)))
  (refine ⟨Ent.of (hP ▸ Try.func11) rfl, ?_⟩; refine TC.pureE c1 ?_; cbv; (repeat (first | exact trivial | refine And.intro (Emb.Pur _ _) ?_ | refine And.intro rfl ?_ | refine And.intro (Pur.mk rfl) ?_ | refine And.intro (Pur.mk (by assumption)) ?_)); ((try cbv) <;> (repeat ((with_reducible refine EW.of ?_); cbv))))
  obtain ⟨S, hS⟩ : ∃ S : LI (Nat × List UInt8), S = ⟨fun x => [(5, .int .i64 x.1), (4, .nils), (0, .sl 1 (B.l.l x.2)), (1, .sl 9 (F.l.l l))], fun x => [], fun x => x.1 ≤ l.length ∧ x.2 = x0 ++ stepsBs (l.take x.1), fun x => l.length - x.1⟩ := ⟨_, rfl⟩
  refine TW.loopM A (T0_ok hP) S _ rfl (0, x0) ?_ ?_ ?_
  · rw [hS]; exact ⟨Nat.zero_le _, by rw [List.take_zero, stepsBs, List.append_nil]⟩
  · rw [hS]
    cbv
    (repeat (first | exact trivial | refine And.intro (Emb.Pur _ _) ?_ | refine And.intro rfl ?_))
  rintro ⟨j, m⟩ hj l1 L1 e1 e2
  rw [hS] at hj e1 e2
  dsimp only at hj e1 e2
  obtain ⟨hj, hm⟩ := hj
  subst e1 e2
  cbv
  ((try cbv) <;> (repeat ((with_reducible refine EW.of ?_); cbv)))
  refine bsplit (fun h => ?_) (fun h => ?_)
  · have h : j < l.length := lt_nt h rfl hlk
    obtain ⟨x, ht⟩ : ∃ x, l[j]? = some x := ⟨_, List.getElem?_eq_getElem h⟩
    have hnx := stepsBs_take ht
    obtain ⟨l2, hl2⟩ : ∃ l2, m ++ stepBs x = l2 := ⟨_, rfl⟩
    have hl2' : l2 = x0 ++ stepsBs (l.take (j + 1)) := by rw [hnx, ← List.append_assoc, ← hm, hl2]
    have hle := stepsBs_le l (j + 1)
    have hlen2 : l2.length = x0.length + (stepsBs (l.take (j + 1))).length := by rw [hl2', List.length_append]
    have hrec := Step41 A E B F hP x m l2 hl2 (by omega)
    have hget := F.l.get ht
    obtain ⟨op, id, par, pl, text, i, k, s, ks⟩ := x
    rw [F.v E] at hget hrec
    ((try cbv) <;> (repeat ((with_reducible refine EW.of ?_); cbv)))
    refine ⟨j, _, rfl, hget, ?_⟩
    cbv
    ((try cbv) <;> (repeat ((with_reducible refine EW.of ?_); cbv)))
    (refine ⟨Ent.of (hP ▸ Try.func41) rfl, ?_⟩; refine TC.pureE hrec ?_; cbv; (repeat (first | exact trivial | refine And.intro (Emb.Pur _ _) ?_ | refine And.intro rfl ?_ | refine And.intro (Pur.mk rfl) ?_ | refine And.intro (Pur.mk (by assumption)) ?_)); ((try cbv) <;> (repeat ((with_reducible refine EW.of ?_); cbv))))
    refine LM.of (j + 1, l2) rfl ?_ ?_ ?_
    · rw [hS]; exact ⟨by show j + 1 ≤ l.length; omega, hl2'⟩
    · rw [hS]; show l.length - (j + 1) < l.length - j; omega
    · rw [hS]
      cbv
      (repeat (first | exact trivial | refine And.intro (Emb.Pur _ _) ?_ | refine And.intro (inc_eq A (by omega)) ?_ | refine And.intro rfl ?_))
  · have h : l.length ≤ j := lt_nf h rfl hlk
    obtain rfl : m = r := by rw [hm, List.take_of_length_le (by omega), hr]
    ((try cbv) <;> (repeat ((with_reducible refine EW.of ?_); cbv)))
    exact And.intro (B.l.Pur _) trivial
end Go.Proofs.Ytmbbdabcbnemiaa

/-! Rows of steps behind bytes, by the program. -/
namespace Go.Proofs.Ytmbbdabcbnemiaa
open Go.Proofs.Ytmbbdabcbnemiaa.Tw
set_option maxHeartbeats 4000000 in
theorem Steps16 (A : Ar) (E : Em) (B : EmB) (F : EmS) {P : Program} (hP : P = Try.prog) (l : List Stp) (xs r : List UInt8) (hr : xs ++ (numBs l.length ++ stepsBs l) = r) (hb : r.length ≤ 100000000) :
    TPure P 16 [.sl 1 (B.l.l xs), .sl 9 (F.l.l l)] (.sl 1 (B.l.l r)) := by
  have hfl := F.l.len l
  have hlk : A.len (F.l.l l) = (l.length : Int) := by rw [A.ok_len, hfl]
  have hrl := app_len hr
  rw [List.length_append, numBs_len] at hrl
  have hge := stepsBs_ge l
  obtain ⟨x0, hx0⟩ : ∃ x0, xs ++ numBs (A.len (F.l.l l)) = x0 := ⟨_, rfl⟩
  rw [← hlk, ← List.append_assoc, hx0] at hr
  have hl0 := app_len hx0
  rw [numBs_len] at hl0
  have hl5 := app_len hr
  obtain ⟨q0, hq0⟩ : ∃ q, q = x0.length := ⟨_, rfl⟩
  obtain ⟨S, hS⟩ : ∃ S : LI (Nat × Nat × List UInt8), S = ⟨fun x => [(16, .int .i64 x.1), (15, .int .i64 (A.len (F.l.l l))), (4, .nils), (0, .row 0 1 0 x.2.1), (1, .sl 9 (F.l.l l))], fun x => [some (.arr 1 (B.l.l x.2.2))], fun x => x.1 ≤ l.length ∧ x.2.1 = x.2.2.length ∧ x.2.2 = x0 ++ stepsBs (l.take x.1), fun x => l.length - x.1⟩ := ⟨_, rfl⟩
  by_cases h0 : xs = []
  · subst h0
    rw [B.l.nil]
    rw [List.nil_append] at hx0
    have h38 := own38n A hP
    have c1 := number37n A B hP (A.len (F.l.l l)) x0 hx0
    rw [show (8 : Nat) = q0 by rw [hq0, hl0]; rfl] at c1
    refine TPure.ofE A T0 (T0_ok hP) (hP ▸ Try.func16) rfl _ rfl (by simp) ?_
    cbv
    ((try cbv) <;> (repeat ((with_reducible refine EW.of ?_); cbv)))
    (refine ⟨Ent.of (hP ▸ Try.func38) rfl, ?_⟩; refine TC.pureE h38 ?_; cbv; (repeat (first | exact trivial | refine And.intro (Emb.Pur _ _) ?_ | refine And.intro rfl ?_ | refine And.intro (Pur.mk rfl) ?_ | refine And.intro (Pur.mk (by assumption)) ?_)); ((try cbv) <;> (repeat ((with_reducible refine EW.of ?_); cbv))))
    refine ⟨Ent.of (hP ▸ Try.func37) rfl, ?_⟩
    refine TC1.call [] c1 ?_
    cbv
    (repeat (first | exact trivial | refine And.intro (Emb.Pur _ _) ?_ | refine And.intro rfl ?_))
    ((try cbv) <;> (repeat ((with_reducible refine EW.of ?_); cbv)))
    refine TW.loopM A (T0_ok hP) S _ rfl (0, q0, x0) ?_ ?_ ?_
    · rw [hS]; exact ⟨Nat.zero_le _, hq0, by rw [List.take_zero, stepsBs, List.append_nil]⟩
    · rw [hS]
      cbv
      (repeat (first | exact trivial | refine And.intro (Emb.Pur _ _) ?_ | refine And.intro rfl ?_))
    rintro ⟨j, m, cur⟩ hj l1 L1 e1 e2
    rw [hS] at hj e1 e2
    dsimp only at hj e1 e2
    obtain ⟨hj, hm, hl⟩ := hj
    subst e1 e2
    cbv
    ((try cbv) <;> (repeat ((with_reducible refine EW.of ?_); cbv)))
    refine bsplit (fun h => ?_) (fun h => ?_)
    · have h : j < l.length := lt_nt h rfl hlk
      obtain ⟨x, ht⟩ : ∃ x, l[j]? = some x := ⟨_, List.getElem?_eq_getElem h⟩
      have hnx := stepsBs_take ht
      have hle := stepsBs_le l (j + 1)
      have hget := F.l.get ht
      obtain ⟨op, id, par, pl, text, i, k, s, ks⟩ := x
      rw [F.v E] at hget
      obtain ⟨y0, hy0⟩ : ∃ y, cur ++ [opB op] = y := ⟨_, rfl⟩
      obtain ⟨y1, hy1⟩ : ∃ y, y0 ++ numBs id = y := ⟨_, rfl⟩
      obtain ⟨y2, hy2⟩ : ∃ y, y1 ++ numBs par = y := ⟨_, rfl⟩
      obtain ⟨y3, hy3⟩ : ∃ y, y2 ++ numBs pl = y := ⟨_, rfl⟩
      obtain ⟨y4, hy4⟩ : ∃ y, y3 ++ (numBs text.size ++ text.data.toList) = y := ⟨_, rfl⟩
      obtain ⟨y5, hy5⟩ : ∃ y, y4 ++ nodeBs (.node i k s ks) = y := ⟨_, rfl⟩
      have hl2' : y5 = x0 ++ stepsBs (l.take (j + 1)) := by
        rw [hnx, ← List.append_assoc, ← hl, stepBs, ← List.append_assoc, hy0, ← List.append_assoc, hy1, ← List.append_assoc, hy2, ← List.append_assoc, hy3, ← List.append_assoc, hy4, hy5]
      have hlen2 : y5.length = x0.length + (stepsBs (l.take (j + 1))).length := by rw [hl2', List.length_append]
      have g0 := app_len hy0
      have g1 := app_len hy1
      have g2 := app_len hy2
      have g3 := app_len hy3
      have g4 := app_len hy4
      have g5 := app_len hy5
      rw [numBs_len] at g1 g2 g3
      rw [text_len] at g4
      rw [show [opB op].length = 1 from rfl] at g0
      obtain ⟨k0, hk0⟩ : ∃ q, q = y0.length := ⟨_, rfl⟩
      obtain ⟨k1, hk1⟩ : ∃ q, q = y1.length := ⟨_, rfl⟩
      obtain ⟨k2, hk2⟩ : ∃ q, q = y2.length := ⟨_, rfl⟩
      obtain ⟨k3, hk3⟩ : ∃ q, q = y3.length := ⟨_, rfl⟩
      obtain ⟨k4, hk4⟩ : ∃ q, q = y4.length := ⟨_, rfl⟩
      obtain ⟨k5, hk5⟩ : ∃ q, q = y5.length := ⟨_, rfl⟩
      have c1 := number37r A B hP y0 k0 hk0 id y1 hy1 k1 hk1 (by omega)
      have c2 := number37r A B hP y1 k1 hk1 par y2 hy2 k2 hk2 (by omega)
      have c3 := number37r A B hP y2 k2 hk2 pl y3 hy3 k3 hk3 (by omega)
      have c4 := text39r A B hP y3 k3 hk3 text y4 hy4 k4 hk4 (by omega)
      have c5 := node40r A E B hP _ i k s ks (Nat.le_refl _) y4 k4 hk4 y5 hy5 k5 hk5 (by omega)
      have hy0' : B.l.l y0 = B.l.l cur ++ [.int .u8 (A.wrap .u8 op)] := by rw [← hy0, B.l.app, B.l.cons, B.l.nil, opB_op A B]
      have hll := B.l.len cur
      ((try cbv) <;> (repeat ((with_reducible refine EW.of ?_); cbv)))
      refine ⟨j, _, rfl, hget, ?_⟩
      cbv
      ((try cbv) <;> (repeat ((with_reducible refine EW.of ?_); cbv)))
      refine ⟨⟨rfl⟩, k0, B.l.l y0, by rw [hk0, g0, hm]; rfl, by rw [hy0', List.take_of_length_le (show (B.l.l cur).length ≤ m by omega)], (show m ≤ (B.l.l cur).length by omega), by show k0 * 1 ≤ _; omega, by omega, ?_⟩
      cbv
      ((try cbv) <;> (repeat ((with_reducible refine EW.of ?_); cbv)))
      (refine TW.draw (A := A) (T0_ok hP) (hP ▸ follows_mixed) (by kernel_rfl) rfl ?_; cbv)
      ((try cbv) <;> (repeat ((with_reducible refine EW.of ?_); cbv)))
      obtain ⟨S2, hS2⟩ : ∃ S2 : LI (Nat × Nat × List UInt8), S2 = ⟨fun x => [(43, .int .i64 x.1), (42, .agg [.int .i64 id, .int .i64 par, .int .i64 pl]), (16, .int .i64 j), (15, .int .i64 (A.len (F.l.l l))), (6, .imm [.int .i8 op, .int .i64 id, .int .i64 par, .int .i64 pl, .str text, .int .i64 i, .int .i64 k, .str s, .sl 4 (E.tree.l ks)]), (4, .nils), (0, .row 0 1 0 x.2.1), (1, .sl 9 (F.l.l l))], fun x => [some (.arr 1 (B.l.l x.2.2))], fun x => x = (0, k0, y0) ∨ x = (1, k1, y1) ∨ x = (2, k2, y2) ∨ x = (3, k3, y3), fun x => 3 - x.1⟩ := ⟨_, rfl⟩
      refine TW.loopM A (T0_ok hP) S2 _ rfl (0, k0, y0) ?_ ?_ ?_
      · rw [hS2]; exact .inl rfl
      · rw [hS2]
        cbv
        (repeat (first | exact trivial | refine And.intro (Emb.Pur _ _) ?_ | refine And.intro rfl ?_ | refine And.intro (Pur.mk (by (repeat (first | exact rfl | exact Emb.purL _ _ | assumption | apply pur_cons | apply pur_sl | apply pur_slt | apply pur_agg | apply pur_tup)))) ?_))
      intro x hx l1 L1 e1 e2
      rw [hS2] at hx e1 e2
      dsimp only at hx e1 e2
      rcases hx with rfl | rfl | rfl | rfl
      · subst e1 e2
        cbv
        ((try cbv) <;> (repeat ((with_reducible refine EW.of ?_); cbv)))
        refine byes (ltT (by decide)) ?_
        ((try cbv) <;> (repeat ((with_reducible refine EW.of ?_); cbv)))
        refine ⟨0, rfl, by decide, ?_⟩
        cbv
        ((try cbv) <;> (repeat ((with_reducible refine EW.of ?_); cbv)))
        refine ⟨Ent.of (hP ▸ Try.func37) rfl, ?_⟩
        refine TC1.call [0] c1 ?_
        cbv
        (repeat (first | exact trivial | refine And.intro (Emb.Pur _ _) ?_ | refine And.intro rfl ?_))
        ((try cbv) <;> (repeat ((with_reducible refine EW.of ?_); cbv)))
        refine LM.of (1, k1, y1) rfl ?_ ?_ ?_
        · rw [hS2]; exact .inr (.inl rfl)
        · rw [hS2]; show 3 - 1 < 3 - 0; decide
        · rw [hS2]
          cbv
          (repeat (first | exact trivial | refine And.intro (Emb.Pur _ _) ?_ | refine And.intro rfl ?_ | refine And.intro (Pur.mk (by (repeat (first | exact rfl | exact Emb.purL _ _ | assumption | apply pur_cons | apply pur_sl | apply pur_slt | apply pur_agg | apply pur_tup)))) ?_ | refine And.intro (inc_eq A (i := 0) (by omega)) ?_))
      · subst e1 e2
        cbv
        ((try cbv) <;> (repeat ((with_reducible refine EW.of ?_); cbv)))
        refine byes (ltT (by decide)) ?_
        ((try cbv) <;> (repeat ((with_reducible refine EW.of ?_); cbv)))
        refine ⟨1, rfl, by decide, ?_⟩
        cbv
        ((try cbv) <;> (repeat ((with_reducible refine EW.of ?_); cbv)))
        refine ⟨Ent.of (hP ▸ Try.func37) rfl, ?_⟩
        refine TC1.call [0] c2 ?_
        cbv
        (repeat (first | exact trivial | refine And.intro (Emb.Pur _ _) ?_ | refine And.intro rfl ?_))
        ((try cbv) <;> (repeat ((with_reducible refine EW.of ?_); cbv)))
        refine LM.of (2, k2, y2) rfl ?_ ?_ ?_
        · rw [hS2]; exact .inr (.inr (.inl rfl))
        · rw [hS2]; show 3 - 2 < 3 - 1; decide
        · rw [hS2]
          cbv
          (repeat (first | exact trivial | refine And.intro (Emb.Pur _ _) ?_ | refine And.intro rfl ?_ | refine And.intro (Pur.mk (by (repeat (first | exact rfl | exact Emb.purL _ _ | assumption | apply pur_cons | apply pur_sl | apply pur_slt | apply pur_agg | apply pur_tup)))) ?_ | refine And.intro (inc_eq A (i := 1) (by omega)) ?_))
      · subst e1 e2
        cbv
        ((try cbv) <;> (repeat ((with_reducible refine EW.of ?_); cbv)))
        refine byes (ltT (by decide)) ?_
        ((try cbv) <;> (repeat ((with_reducible refine EW.of ?_); cbv)))
        refine ⟨2, rfl, by decide, ?_⟩
        cbv
        ((try cbv) <;> (repeat ((with_reducible refine EW.of ?_); cbv)))
        refine ⟨Ent.of (hP ▸ Try.func37) rfl, ?_⟩
        refine TC1.call [0] c3 ?_
        cbv
        (repeat (first | exact trivial | refine And.intro (Emb.Pur _ _) ?_ | refine And.intro rfl ?_))
        ((try cbv) <;> (repeat ((with_reducible refine EW.of ?_); cbv)))
        refine LM.of (3, k3, y3) rfl ?_ ?_ ?_
        · rw [hS2]; exact .inr (.inr (.inr rfl))
        · rw [hS2]; show 3 - 3 < 3 - 2; decide
        · rw [hS2]
          cbv
          (repeat (first | exact trivial | refine And.intro (Emb.Pur _ _) ?_ | refine And.intro rfl ?_ | refine And.intro (Pur.mk (by (repeat (first | exact rfl | exact Emb.purL _ _ | assumption | apply pur_cons | apply pur_sl | apply pur_slt | apply pur_agg | apply pur_tup)))) ?_ | refine And.intro (inc_eq A (i := 2) (by omega)) ?_))
      · subst e1 e2
        cbv
        ((try cbv) <;> (repeat ((with_reducible refine EW.of ?_); cbv)))
        refine bno (ltF (by decide)) ?_
        ((try cbv) <;> (repeat ((with_reducible refine EW.of ?_); cbv)))
        (refine TW.drawC (A := A) [] _ [(5, [none, some (.arr 1 (B.l.l y4))]), (9, [none, none, some (.arr 1 (B.l.l y5))])] rfl (T0_ok hP) (hP ▸ follows_mixed) (by kernel_rfl) rfl (by kernel_rfl) (by cbv) (by first | kernel_rfl | cbv) rfl rfl rfl ?_; cbv)
        refine And.intro (Ent.of (hP ▸ Try.func39) rfl) ⟨.row 1 1 0 k4, [none, some (.arr 1 (B.l.l y4))], TC1.call [0] c4 ?_, ⟨rfl, ?_⟩⟩
        · skip
          cbv
          (repeat (first | exact trivial | refine And.intro (Emb.Pur _ _) ?_ | refine And.intro rfl ?_))
        cbv
        refine And.intro (Ent.of (hP ▸ Try.func40) rfl) ⟨.row 2 1 0 k5, [none, none, some (.arr 1 (B.l.l y5))], TC1.call [1] c5 ?_, ⟨rfl, ?_⟩⟩
        · skip
          cbv
          (repeat (first | exact trivial | refine And.intro (Emb.Pur _ _) ?_ | refine And.intro rfl ?_))
        cbv
        ((try cbv) <;> (repeat ((with_reducible refine EW.of ?_); cbv)))
        refine LM.of (j + 1, k5, y5) rfl ?_ ?_ ?_
        · rw [hS]; exact ⟨by show j + 1 ≤ l.length; omega, hk5, hl2'⟩
        · rw [hS]; show l.length - (j + 1) < l.length - j; omega
        · rw [hS]
          cbv
          (repeat (first | exact trivial | refine And.intro (Emb.Pur _ _) ?_ | refine And.intro (inc_eq A (by omega)) ?_ | refine And.intro rfl ?_))
    · have h : l.length ≤ j := lt_nf h rfl hlk
      obtain rfl : cur = r := by rw [hl, List.take_of_length_le (by omega), hr]
      ((try cbv) <;> (repeat ((with_reducible refine EW.of ?_); cbv)))
      exact And.intro (B.l.cut hm) (And.intro (B.l.Pur _) trivial)
  · obtain ⟨k0, hk0⟩ : ∃ k, k = xs.length := ⟨_, rfl⟩
    have h38 := own38 A B hP xs (by omega) h0 k0 hk0
    have c1 := number37r A B hP xs k0 hk0 (A.len (F.l.l l)) x0 hx0 q0 hq0 (by omega)
    refine TPure.ofE A T0 (T0_ok hP) (hP ▸ Try.func16) rfl _ rfl (by simp) ?_
    cbv
    ((try cbv) <;> (repeat ((with_reducible refine EW.of ?_); cbv)))
    refine ⟨Ent.of (hP ▸ Try.func38) rfl, ?_⟩
    refine TC1.call [] h38 ?_
    cbv
    (repeat (first | exact trivial | refine And.intro (Emb.Pur _ _) ?_ | refine And.intro rfl ?_))
    ((try cbv) <;> (repeat ((with_reducible refine EW.of ?_); cbv)))
    refine ⟨Ent.of (hP ▸ Try.func37) rfl, ?_⟩
    refine TC1.call [0] c1 ?_
    cbv
    (repeat (first | exact trivial | refine And.intro (Emb.Pur _ _) ?_ | refine And.intro rfl ?_))
    ((try cbv) <;> (repeat ((with_reducible refine EW.of ?_); cbv)))
    refine TW.loopM A (T0_ok hP) S _ rfl (0, q0, x0) ?_ ?_ ?_
    · rw [hS]; exact ⟨Nat.zero_le _, hq0, by rw [List.take_zero, stepsBs, List.append_nil]⟩
    · rw [hS]
      cbv
      (repeat (first | exact trivial | refine And.intro (Emb.Pur _ _) ?_ | refine And.intro rfl ?_))
    rintro ⟨j, m, cur⟩ hj l1 L1 e1 e2
    rw [hS] at hj e1 e2
    dsimp only at hj e1 e2
    obtain ⟨hj, hm, hl⟩ := hj
    subst e1 e2
    cbv
    ((try cbv) <;> (repeat ((with_reducible refine EW.of ?_); cbv)))
    refine bsplit (fun h => ?_) (fun h => ?_)
    · have h : j < l.length := lt_nt h rfl hlk
      obtain ⟨x, ht⟩ : ∃ x, l[j]? = some x := ⟨_, List.getElem?_eq_getElem h⟩
      have hnx := stepsBs_take ht
      have hle := stepsBs_le l (j + 1)
      have hget := F.l.get ht
      obtain ⟨op, id, par, pl, text, i, k, s, ks⟩ := x
      rw [F.v E] at hget
      obtain ⟨y0, hy0⟩ : ∃ y, cur ++ [opB op] = y := ⟨_, rfl⟩
      obtain ⟨y1, hy1⟩ : ∃ y, y0 ++ numBs id = y := ⟨_, rfl⟩
      obtain ⟨y2, hy2⟩ : ∃ y, y1 ++ numBs par = y := ⟨_, rfl⟩
      obtain ⟨y3, hy3⟩ : ∃ y, y2 ++ numBs pl = y := ⟨_, rfl⟩
      obtain ⟨y4, hy4⟩ : ∃ y, y3 ++ (numBs text.size ++ text.data.toList) = y := ⟨_, rfl⟩
      obtain ⟨y5, hy5⟩ : ∃ y, y4 ++ nodeBs (.node i k s ks) = y := ⟨_, rfl⟩
      have hl2' : y5 = x0 ++ stepsBs (l.take (j + 1)) := by
        rw [hnx, ← List.append_assoc, ← hl, stepBs, ← List.append_assoc, hy0, ← List.append_assoc, hy1, ← List.append_assoc, hy2, ← List.append_assoc, hy3, ← List.append_assoc, hy4, hy5]
      have hlen2 : y5.length = x0.length + (stepsBs (l.take (j + 1))).length := by rw [hl2', List.length_append]
      have g0 := app_len hy0
      have g1 := app_len hy1
      have g2 := app_len hy2
      have g3 := app_len hy3
      have g4 := app_len hy4
      have g5 := app_len hy5
      rw [numBs_len] at g1 g2 g3
      rw [text_len] at g4
      rw [show [opB op].length = 1 from rfl] at g0
      obtain ⟨k0, hk0⟩ : ∃ q, q = y0.length := ⟨_, rfl⟩
      obtain ⟨k1, hk1⟩ : ∃ q, q = y1.length := ⟨_, rfl⟩
      obtain ⟨k2, hk2⟩ : ∃ q, q = y2.length := ⟨_, rfl⟩
      obtain ⟨k3, hk3⟩ : ∃ q, q = y3.length := ⟨_, rfl⟩
      obtain ⟨k4, hk4⟩ : ∃ q, q = y4.length := ⟨_, rfl⟩
      obtain ⟨k5, hk5⟩ : ∃ q, q = y5.length := ⟨_, rfl⟩
      have c1 := number37r A B hP y0 k0 hk0 id y1 hy1 k1 hk1 (by omega)
      have c2 := number37r A B hP y1 k1 hk1 par y2 hy2 k2 hk2 (by omega)
      have c3 := number37r A B hP y2 k2 hk2 pl y3 hy3 k3 hk3 (by omega)
      have c4 := text39r A B hP y3 k3 hk3 text y4 hy4 k4 hk4 (by omega)
      have c5 := node40r A E B hP _ i k s ks (Nat.le_refl _) y4 k4 hk4 y5 hy5 k5 hk5 (by omega)
      have hy0' : B.l.l y0 = B.l.l cur ++ [.int .u8 (A.wrap .u8 op)] := by rw [← hy0, B.l.app, B.l.cons, B.l.nil, opB_op A B]
      have hll := B.l.len cur
      ((try cbv) <;> (repeat ((with_reducible refine EW.of ?_); cbv)))
      refine ⟨j, _, rfl, hget, ?_⟩
      cbv
      ((try cbv) <;> (repeat ((with_reducible refine EW.of ?_); cbv)))
      refine ⟨⟨rfl⟩, k0, B.l.l y0, by rw [hk0, g0, hm]; rfl, by rw [hy0', List.take_of_length_le (show (B.l.l cur).length ≤ m by omega)], (show m ≤ (B.l.l cur).length by omega), by show k0 * 1 ≤ _; omega, by omega, ?_⟩
      cbv
      ((try cbv) <;> (repeat ((with_reducible refine EW.of ?_); cbv)))
      (refine TW.draw (A := A) (T0_ok hP) (hP ▸ follows_mixed) (by kernel_rfl) rfl ?_; cbv)
      ((try cbv) <;> (repeat ((with_reducible refine EW.of ?_); cbv)))
      obtain ⟨S2, hS2⟩ : ∃ S2 : LI (Nat × Nat × List UInt8), S2 = ⟨fun x => [(43, .int .i64 x.1), (42, .agg [.int .i64 id, .int .i64 par, .int .i64 pl]), (16, .int .i64 j), (15, .int .i64 (A.len (F.l.l l))), (6, .imm [.int .i8 op, .int .i64 id, .int .i64 par, .int .i64 pl, .str text, .int .i64 i, .int .i64 k, .str s, .sl 4 (E.tree.l ks)]), (4, .nils), (0, .row 0 1 0 x.2.1), (1, .sl 9 (F.l.l l))], fun x => [some (.arr 1 (B.l.l x.2.2))], fun x => x = (0, k0, y0) ∨ x = (1, k1, y1) ∨ x = (2, k2, y2) ∨ x = (3, k3, y3), fun x => 3 - x.1⟩ := ⟨_, rfl⟩
      refine TW.loopM A (T0_ok hP) S2 _ rfl (0, k0, y0) ?_ ?_ ?_
      · rw [hS2]; exact .inl rfl
      · rw [hS2]
        cbv
        (repeat (first | exact trivial | refine And.intro (Emb.Pur _ _) ?_ | refine And.intro rfl ?_ | refine And.intro (Pur.mk (by (repeat (first | exact rfl | exact Emb.purL _ _ | assumption | apply pur_cons | apply pur_sl | apply pur_slt | apply pur_agg | apply pur_tup)))) ?_))
      intro x hx l1 L1 e1 e2
      rw [hS2] at hx e1 e2
      dsimp only at hx e1 e2
      rcases hx with rfl | rfl | rfl | rfl
      · subst e1 e2
        cbv
        ((try cbv) <;> (repeat ((with_reducible refine EW.of ?_); cbv)))
        refine byes (ltT (by decide)) ?_
        ((try cbv) <;> (repeat ((with_reducible refine EW.of ?_); cbv)))
        refine ⟨0, rfl, by decide, ?_⟩
        cbv
        ((try cbv) <;> (repeat ((with_reducible refine EW.of ?_); cbv)))
        refine ⟨Ent.of (hP ▸ Try.func37) rfl, ?_⟩
        refine TC1.call [0] c1 ?_
        cbv
        (repeat (first | exact trivial | refine And.intro (Emb.Pur _ _) ?_ | refine And.intro rfl ?_))
        ((try cbv) <;> (repeat ((with_reducible refine EW.of ?_); cbv)))
        refine LM.of (1, k1, y1) rfl ?_ ?_ ?_
        · rw [hS2]; exact .inr (.inl rfl)
        · rw [hS2]; show 3 - 1 < 3 - 0; decide
        · rw [hS2]
          cbv
          (repeat (first | exact trivial | refine And.intro (Emb.Pur _ _) ?_ | refine And.intro rfl ?_ | refine And.intro (Pur.mk (by (repeat (first | exact rfl | exact Emb.purL _ _ | assumption | apply pur_cons | apply pur_sl | apply pur_slt | apply pur_agg | apply pur_tup)))) ?_ | refine And.intro (inc_eq A (i := 0) (by omega)) ?_))
      · subst e1 e2
        cbv
        ((try cbv) <;> (repeat ((with_reducible refine EW.of ?_); cbv)))
        refine byes (ltT (by decide)) ?_
        ((try cbv) <;> (repeat ((with_reducible refine EW.of ?_); cbv)))
        refine ⟨1, rfl, by decide, ?_⟩
        cbv
        ((try cbv) <;> (repeat ((with_reducible refine EW.of ?_); cbv)))
        refine ⟨Ent.of (hP ▸ Try.func37) rfl, ?_⟩
        refine TC1.call [0] c2 ?_
        cbv
        (repeat (first | exact trivial | refine And.intro (Emb.Pur _ _) ?_ | refine And.intro rfl ?_))
        ((try cbv) <;> (repeat ((with_reducible refine EW.of ?_); cbv)))
        refine LM.of (2, k2, y2) rfl ?_ ?_ ?_
        · rw [hS2]; exact .inr (.inr (.inl rfl))
        · rw [hS2]; show 3 - 2 < 3 - 1; decide
        · rw [hS2]
          cbv
          (repeat (first | exact trivial | refine And.intro (Emb.Pur _ _) ?_ | refine And.intro rfl ?_ | refine And.intro (Pur.mk (by (repeat (first | exact rfl | exact Emb.purL _ _ | assumption | apply pur_cons | apply pur_sl | apply pur_slt | apply pur_agg | apply pur_tup)))) ?_ | refine And.intro (inc_eq A (i := 1) (by omega)) ?_))
      · subst e1 e2
        cbv
        ((try cbv) <;> (repeat ((with_reducible refine EW.of ?_); cbv)))
        refine byes (ltT (by decide)) ?_
        ((try cbv) <;> (repeat ((with_reducible refine EW.of ?_); cbv)))
        refine ⟨2, rfl, by decide, ?_⟩
        cbv
        ((try cbv) <;> (repeat ((with_reducible refine EW.of ?_); cbv)))
        refine ⟨Ent.of (hP ▸ Try.func37) rfl, ?_⟩
        refine TC1.call [0] c3 ?_
        cbv
        (repeat (first | exact trivial | refine And.intro (Emb.Pur _ _) ?_ | refine And.intro rfl ?_))
        ((try cbv) <;> (repeat ((with_reducible refine EW.of ?_); cbv)))
        refine LM.of (3, k3, y3) rfl ?_ ?_ ?_
        · rw [hS2]; exact .inr (.inr (.inr rfl))
        · rw [hS2]; show 3 - 3 < 3 - 2; decide
        · rw [hS2]
          cbv
          (repeat (first | exact trivial | refine And.intro (Emb.Pur _ _) ?_ | refine And.intro rfl ?_ | refine And.intro (Pur.mk (by (repeat (first | exact rfl | exact Emb.purL _ _ | assumption | apply pur_cons | apply pur_sl | apply pur_slt | apply pur_agg | apply pur_tup)))) ?_ | refine And.intro (inc_eq A (i := 2) (by omega)) ?_))
      · subst e1 e2
        cbv
        ((try cbv) <;> (repeat ((with_reducible refine EW.of ?_); cbv)))
        refine bno (ltF (by decide)) ?_
        ((try cbv) <;> (repeat ((with_reducible refine EW.of ?_); cbv)))
        (refine TW.drawC (A := A) [] _ [(5, [none, some (.arr 1 (B.l.l y4))]), (9, [none, none, some (.arr 1 (B.l.l y5))])] rfl (T0_ok hP) (hP ▸ follows_mixed) (by kernel_rfl) rfl (by kernel_rfl) (by cbv) (by first | kernel_rfl | cbv) rfl rfl rfl ?_; cbv)
        refine And.intro (Ent.of (hP ▸ Try.func39) rfl) ⟨.row 1 1 0 k4, [none, some (.arr 1 (B.l.l y4))], TC1.call [0] c4 ?_, ⟨rfl, ?_⟩⟩
        · skip
          cbv
          (repeat (first | exact trivial | refine And.intro (Emb.Pur _ _) ?_ | refine And.intro rfl ?_))
        cbv
        refine And.intro (Ent.of (hP ▸ Try.func40) rfl) ⟨.row 2 1 0 k5, [none, none, some (.arr 1 (B.l.l y5))], TC1.call [1] c5 ?_, ⟨rfl, ?_⟩⟩
        · skip
          cbv
          (repeat (first | exact trivial | refine And.intro (Emb.Pur _ _) ?_ | refine And.intro rfl ?_))
        cbv
        ((try cbv) <;> (repeat ((with_reducible refine EW.of ?_); cbv)))
        refine LM.of (j + 1, k5, y5) rfl ?_ ?_ ?_
        · rw [hS]; exact ⟨by show j + 1 ≤ l.length; omega, hk5, hl2'⟩
        · rw [hS]; show l.length - (j + 1) < l.length - j; omega
        · rw [hS]
          cbv
          (repeat (first | exact trivial | refine And.intro (Emb.Pur _ _) ?_ | refine And.intro (inc_eq A (by omega)) ?_ | refine And.intro rfl ?_))
    · have h : l.length ≤ j := lt_nf h rfl hlk
      obtain rfl : cur = r := by rw [hl, List.take_of_length_le (by omega), hr]
      ((try cbv) <;> (repeat ((with_reducible refine EW.of ?_); cbv)))
      exact And.intro (B.l.cut hm) (And.intro (B.l.Pur _) trivial)
end Go.Proofs.Ytmbbdabcbnemiaa

/-! How much the statements of codes go through. -/
namespace Go.Proofs.Ytmbbdabcbnemiaa
open Go.Proofs.Ytmbbdabcbnemiaa.Tw
def tsz : Tree × Nat → Nat
  | (.node _ _ s _, _) => s.size
def over3 : Nat → List (Tree × Nat) → Bool
  | _, [] => false
  | n, x :: l => decide (20000 < n + tsz x) || over3 (n + tsz x) l
def great3 (t : Tree) : Bool := over3 0 (walkT 251 t [] 1) || decide (250 < (walkT 251 t [] 1).length)
theorem over3_yes {n : Nat} {i k : Int} {s : ByteArray} {ks : List Tree} {d : Nat} {l : List (Tree × Nat)} (h : 20000 < n + s.size) : over3 n ((.node i k s ks, d) :: l) = true := by
  show (decide (20000 < n + s.size) || _) = true
  rw [decide_eq_true h, Bool.true_or]
theorem over3_no {n : Nat} {i k : Int} {s : ByteArray} {ks : List Tree} {d : Nat} {l : List (Tree × Nat)} (h : ¬ 20000 < n + s.size) : over3 n ((.node i k s ks, d) :: l) = over3 (n + s.size) l := by
  show (decide (20000 < n + s.size) || _) = _
  rw [decide_eq_false h, Bool.false_or]
  rfl
theorem lt_dec (A : Ar) {a b : Int} {i j : Nat} (ha : a = (i : Int)) (hb : b = (j : Int)) : A.lt a b = decide (i < j) := by
  subst ha hb
  rw [A.ok_lt]
  exact decide_eq_decide.2 Int.ofNat_lt
set_option maxHeartbeats 1000000 in
theorem Great7 (A : Ar) (E : Em) {P : Program} (hP : P = Try.prog) (t : Tree) (hok : t.ok) : TPure P 7 [E.tree.v t] (.bool (great3 t)) := by
  have h23 : TPure P 36 [t.av, .int .i64 251] (.sl 5 (spots (walkT 251 t [] 1))) := Walk23 A hP 251 (by decide) (by decide) t hok
  have hlen := (walkT_len 251 t [] 1).2 (Nat.zero_le _)
  unfold great3
  generalize walkT 251 t [] 1 = sp at h23 hlen ⊢
  rw [E.av, E.spots] at h23
  have hel := E.spot.len sp
  have hlk : A.len (E.spot.l sp) = (sp.length : Int) := by rw [A.ok_len, hel]
  obtain ⟨i0, k0, s0, ks0⟩ := t
  rw [E.node] at h23 ⊢
  obtain ⟨res, hres⟩ : ∃ b, b = (over3 0 sp || decide (250 < sp.length)) := ⟨_, rfl⟩
  rw [← hres]
  refine TPure.ofE A T0 (T0_ok hP) (hP ▸ Try.func7) rfl _ rfl (by simp) ?_
  cbv
  ((try cbv) <;> (repeat ((with_reducible refine EW.of ?_); cbv)))
  (refine ⟨Ent.of (hP ▸ Try.func36) rfl, ?_⟩; refine TC.pureE h23 ?_; cbv; (repeat (first | exact trivial | refine And.intro (Emb.Pur _ _) ?_ | refine And.intro rfl ?_ | refine And.intro (Pur.mk rfl) ?_ | refine And.intro (Pur.mk (by assumption)) ?_)); ((try cbv) <;> (repeat ((with_reducible refine EW.of ?_); cbv))))
  obtain ⟨S, hS⟩ : ∃ S : LI (Nat × Nat), S = ⟨fun x => [(10, .int .i64 x.1), (9, .int .i64 (A.len (E.spot.l sp))), (4, .int .i64 x.2), (3, .sl 5 (E.spot.l sp)), (2, .bool false)], fun x => [], fun x => x.1 ≤ sp.length ∧ x.2 ≤ 20000 ∧ over3 0 sp = over3 x.2 (sp.drop x.1), fun x => sp.length - x.1⟩ := ⟨_, rfl⟩
  refine TW.loopM A (T0_ok hP) S _ rfl (0, 0) ?_ ?_ ?_
  · rw [hS]; exact ⟨Nat.zero_le _, Nat.zero_le _, rfl⟩
  · rw [hS]
    cbv
    (repeat (first | exact trivial | refine And.intro (Emb.Pur _ _) ?_ | refine And.intro rfl ?_))
  rintro ⟨j, n⟩ hj l1 L1 e1 e2
  rw [hS] at hj e1 e2
  dsimp only at hj e1 e2
  obtain ⟨hj, hn, hov⟩ := hj
  subst e1 e2
  cbv
  ((try cbv) <;> (repeat ((with_reducible refine EW.of ?_); cbv)))
  refine bsplit (fun h => ?_) (fun h => ?_)
  · have h : j < sp.length := lt_nt h rfl hlk
    obtain ⟨⟨⟨i, k, s, ks⟩, d⟩, hx⟩ : ∃ x, sp[j]? = some x := ⟨_, List.getElem?_eq_getElem h⟩
    have hget := E.gets hx
    have hdr : sp.drop j = (.node i k s ks, d) :: sp.drop (j + 1) := by
      rw [List.drop_eq_getElem_cons h]
      rw [List.getElem?_eq_getElem h] at hx
      rw [Option.some.inj hx]
    rw [hdr] at hov
    have hsub : A.op .sub .i64 20000 (n : Int) = ((20000 - n : Nat) : Int) := by rw [sub_i64 rfl rfl (by omega) (by omega)]; omega
    ((try cbv) <;> (repeat ((with_reducible refine EW.of ?_); cbv)))
    refine ⟨j, _, rfl, hget, ?_⟩
    cbv
    ((try cbv) <;> (repeat ((with_reducible refine EW.of ?_); cbv)))
    refine bsplit (fun h2 => ?_) (fun h2 => ?_)
    · have h2 : 20000 - n < s.size := lt_nt h2 hsub (A.ok_slen s)
      ((try cbv) <;> (repeat ((with_reducible refine EW.of ?_); cbv)))
      rw [over3_yes (by omega)] at hov
      rw [hov, Bool.true_or] at hres
      exact And.intro hres.symm trivial
    · have h2 : s.size ≤ 20000 - n := lt_nf h2 hsub (A.ok_slen s)
      obtain ⟨n2, hn2⟩ : ∃ n2, n2 = n + s.size := ⟨_, rfl⟩
      have hadd : A.op .add .i64 (n : Int) (A.slen s) = (n2 : Int) := by rw [A.ok_slen, add_i64 rfl rfl (by omega) (by omega)]; omega
      rw [over3_no (by omega), ← hn2] at hov
      ((try cbv) <;> (repeat ((with_reducible refine EW.of ?_); cbv)))
      refine ⟨j, _, rfl, hget, ?_⟩
      cbv
      ((try cbv) <;> (repeat ((with_reducible refine EW.of ?_); cbv)))
      refine LM.of (j + 1, n2) rfl ?_ ?_ ?_
      · rw [hS]; exact ⟨by show j + 1 ≤ sp.length; omega, by show n2 ≤ 20000; omega, hov⟩
      · rw [hS]; show sp.length - (j + 1) < sp.length - j; omega
      · rw [hS]
        cbv
        (repeat (first | exact trivial | refine And.intro (Emb.Pur _ _) ?_ | refine And.intro hadd ?_ | refine And.intro (inc_eq A (by omega)) ?_ | refine And.intro rfl ?_))
  · have h : sp.length ≤ j := lt_nf h rfl hlk
    rw [List.drop_eq_nil_of_le h] at hov
    simp only [over3] at hov
    have hlt : A.lt 250 (A.len (E.spot.l sp)) = decide (250 < sp.length) := lt_dec A (i := 250) rfl hlk
    ((try cbv) <;> (repeat ((with_reducible refine EW.of ?_); cbv)))
    exact And.intro (by rw [hres, hov, Bool.false_or]; exact hlt) trivial
end Go.Proofs.Ytmbbdabcbnemiaa
