import Derived.Test.YtmbbdabcbnemiaaSe
/-! The reference's nodes, walked. -/
namespace Go.Proofs.Ytmbbdabcbnemiaa
open Go.Proofs.Ytmbbdabcbnemiaa.Tw
theorem kidsF_step {α : Type} {one : Nat → Nat → Int → α × Nat × Nat × Int} {n c a : Nat} {b : Int} (hb : ¬ 0 ≤ b) {acc : List α} {x : α} {c2 a2 : Nat} {b2 : Int} (h : one c a b = (x, c2, a2, b2)) :
    (acc ++ (kidsF one (n + 1) c a b).1, (kidsF one (n + 1) c a b).2) = ((acc ++ [x]) ++ (kidsF one n c2 a2 b2).1, (kidsF one n c2 a2 b2).2) := by
  rw [kidsF, if_neg hb, h]
  simp
def rowA (p : Nat) : Option (Nat × List Tree) → AV
  | none => .nils
  | some (m, _) => .row p 4 0 m
set_option maxHeartbeats 4000000 in
theorem node51 (A : Ar) (E : Em) (B : EmB) {P : Program} (hP : P = Try.prog) (bs : List UInt8) (hl : bs.length ≤ 1000000000) : ∀ (f : Nat), f ≤ 40 → ∀ (d : Int), d = 41 - (f : Int) → ∀ (c a : Nat) (b : Int), goodF bs c a b → ∀ (t : Tree) (c2 a2 : Nat) (b2 : Int), nodeF A bs f c a b = (t, c2, a2, b2) →
    TC1 P 51 [.ref 0 4 0 0, .int .i64 d] [some (rdrF B bs a b c)] (E.tree.v t) [some (rdrF B bs a2 b2 c2)] := by
  intro f
  induction f with
  | zero =>
    intro _ d hd c a b hg t c2 a2 b2 h
    rw [nodeF] at h
    by_cases h0 : 0 ≤ b
    · rw [if_pos h0] at h
      obtain ⟨rfl, rfl, rfl, rfl⟩ : tree0 = t ∧ c = c2 ∧ a = a2 ∧ b = b2 := by cases h; exact ⟨rfl, rfl, rfl, rfl⟩
      rw [E.zero]
      refine TC1.of A _ _ T0 (T0_ok hP) (hP ▸ Try.func51) rfl _ rfl (by simp) ?_
      unfold rdrF
      cbv
      ((try cbv) <;> (repeat ((with_reducible refine EW.of ?_); cbv)))
      refine byes (leT h0) ?_
      ((try cbv) <;> (repeat ((with_reducible refine EW.of ?_); cbv)))
      refine R1.of ?_
      cbv
      (repeat (first | exact trivial | refine And.intro (Emb.Pur _ _) ?_ | refine And.intro rfl ?_ | refine And.intro (Pur.mk rfl) ?_ | refine And.intro (inc_eq A (by omega)) ?_))
    rw [if_neg h0] at h
    have hb : b < 0 := by omega
    obtain ⟨rfl, rfl, rfl, rfl⟩ : tree0 = t ∧ c + 1 = c2 ∧ a = a2 ∧ (a : Int) = b2 := by cases h; exact ⟨rfl, rfl, rfl, rfl⟩
    have h44 := fails44 A B hP bs a b (A.op .add .i64 (c : Int) 1) hb a
    rw [E.zero]
    refine TC1.of A _ _ T0 (T0_ok hP) (hP ▸ Try.func51) rfl _ rfl (by simp) ?_
    have hc : c ≤ 200 := hg.2.2 hb
    unfold rdrF at *
    cbv
    ((try cbv) <;> (repeat ((with_reducible refine EW.of ?_); cbv)))
    refine bno (leF hb) ?_
    ((try cbv) <;> (repeat ((with_reducible refine EW.of ?_); cbv)))
    refine byes (show A.lt 40 d = true from ltT (d41_0 hd)) ?_
    have hinc : A.op .add .i64 (c : Int) 1 = ((c + 1 : Nat) : Int) := inc_eq A (by omega)
    ((try cbv) <;> (repeat ((with_reducible refine EW.of ?_); cbv)))
    refine ⟨Ent.of (hP ▸ Try.func44) rfl, ?_⟩
    refine TC1.call [0] h44 ?_
    cbv
    (repeat (first | exact trivial | refine And.intro (Emb.Pur _ _) ?_ | refine And.intro rfl ?_ | refine And.intro (Pur.mk rfl) ?_ | refine And.intro (inc_eq A (by omega)) ?_))
    ((try cbv) <;> (repeat ((with_reducible refine EW.of ?_); cbv)))
    refine R1.of ?_
    cbv
    (repeat (first | exact trivial | refine And.intro (Emb.Pur _ _) ?_ | refine And.intro hinc ?_ | refine And.intro rfl ?_))
  | succ f ih =>
    intro hf d hd c a b hg t c2 a2 b2 h
    rw [nodeF] at h
    by_cases h0 : 0 ≤ b
    · rw [if_pos h0] at h
      obtain ⟨rfl, rfl, rfl, rfl⟩ : tree0 = t ∧ c = c2 ∧ a = a2 ∧ b = b2 := by cases h; exact ⟨rfl, rfl, rfl, rfl⟩
      rw [E.zero]
      refine TC1.of A _ _ T0 (T0_ok hP) (hP ▸ Try.func51) rfl _ rfl (by simp) ?_
      unfold rdrF
      cbv
      ((try cbv) <;> (repeat ((with_reducible refine EW.of ?_); cbv)))
      refine byes (leT h0) ?_
      ((try cbv) <;> (repeat ((with_reducible refine EW.of ?_); cbv)))
      refine R1.of ?_
      cbv
      (repeat (first | exact trivial | refine And.intro (Emb.Pur _ _) ?_ | refine And.intro rfl ?_ | refine And.intro (Pur.mk rfl) ?_ | refine And.intro (inc_eq A (by omega)) ?_))
    rw [if_neg h0] at h
    have hb : b < 0 := by omega
    have hc : c ≤ 200 := hg.2.2 hb
    have ha := hg.2.1
    have hinc : A.op .add .i64 (c : Int) 1 = ((c + 1 : Nat) : Int) := inc_eq A (by omega)
    by_cases h1 : 200 < c + 1
    · rw [if_pos h1] at h
      obtain ⟨rfl, rfl, rfl, rfl⟩ : tree0 = t ∧ c + 1 = c2 ∧ a = a2 ∧ (a : Int) = b2 := by cases h; exact ⟨rfl, rfl, rfl, rfl⟩
      have h44 := fails44 A B hP bs a b (A.op .add .i64 (c : Int) 1) hb a
      have h2 : A.lt 200 (A.op .add .i64 (c : Int) 1) = true := by rw [hinc]; exact ltT (by omega)
      rw [E.zero]
      refine TC1.of A _ _ T0 (T0_ok hP) (hP ▸ Try.func51) rfl _ rfl (by simp) ?_
      unfold rdrF at *
      cbv
      ((try cbv) <;> (repeat ((with_reducible refine EW.of ?_); cbv)))
      refine bno (leF hb) ?_
      ((try cbv) <;> (repeat ((with_reducible refine EW.of ?_); cbv)))
      refine bno (show A.lt 40 d = false from ltF (d41_s hd)) ?_
      ((try cbv) <;> (repeat ((with_reducible refine EW.of ?_); cbv)))
      refine byes h2 ?_
      ((try cbv) <;> (repeat ((with_reducible refine EW.of ?_); cbv)))
      refine ⟨Ent.of (hP ▸ Try.func44) rfl, ?_⟩
      refine TC1.call [0] h44 ?_
      cbv
      (repeat (first | exact trivial | refine And.intro (Emb.Pur _ _) ?_ | refine And.intro rfl ?_ | refine And.intro (Pur.mk rfl) ?_ | refine And.intro (inc_eq A (by omega)) ?_))
      ((try cbv) <;> (repeat ((with_reducible refine EW.of ?_); cbv)))
      refine R1.of ?_
      cbv
      (repeat (first | exact trivial | refine And.intro (Emb.Pur _ _) ?_ | refine And.intro hinc ?_ | refine And.intro rfl ?_))
    rw [if_neg h1] at h
    obtain ⟨v1, a1, b1, g1⟩ : ∃ v1 a1 b1, askR 0 bs a b (numR A bs a) = (v1, a1, b1) := ⟨_, _, _, rfl⟩
    rw [g1] at h
    dsimp only at h
    have hp1 := askN_pos ha g1
    have k1 := Number21 A B hP bs hl a ha b (A.op .add .i64 (c : Int) 1) v1 a1 b1 g1
    obtain ⟨v2, a3, b3, g2⟩ : ∃ x y z, askR 0 bs a1 b1 (numR A bs a1) = (x, y, z) := ⟨_, _, _, rfl⟩
    rw [g2] at h
    dsimp only at h
    have hp2 := askN_pos hp1 g2
    have k2 := Number21 A B hP bs hl a1 hp1 b1 (A.op .add .i64 (c : Int) 1) v2 a3 b3 g2
    obtain ⟨v3, a4, b4, g3⟩ : ∃ x y z, askR ⟨#[]⟩ bs a3 b3 (textR A bs a3) = (x, y, z) := ⟨_, _, _, rfl⟩
    rw [g3] at h
    dsimp only at h
    have hp3 := askT_pos hl hp2 g3
    have k3 := Text25 A B hP bs hl a3 hp2 b3 (A.op .add .i64 (c : Int) 1) v3 a4 b4 g3
    obtain ⟨v4, a5, b5, g4⟩ : ∃ x y z, askR 0 bs a4 b4 (countR A bs a4 32 bs.length) = (x, y, z) := ⟨_, _, _, rfl⟩
    rw [g4] at h
    dsimp only at h
    have hp4 := countR_pos hl hp3 g4
    obtain ⟨n, rfl, hn9⟩ := askC_nat hl g4
    have hlk : A.len (B.l.l bs) = (bs.length : Int) := by rw [A.ok_len, B.l.len bs]
    rw [← hlk] at g4
    have k4 := Count33 A B hP bs hl a4 hp3 b4 (A.op .add .i64 (c : Int) 1) 32 (A.len (B.l.l bs)) n a5 b5 g4
    rw [Int.toNat_natCast] at h
    have hgk : goodF bs (c + 1) a5 b5 := ⟨by omega, hp4, fun _ => by omega⟩
    clear g1 g2 g3 g4 hg
    obtain ⟨ks, R, hks⟩ : ∃ ks R, kidsF (nodeF A bs f) n (c + 1) a5 b5 = (ks, R) := ⟨_, _, rfl⟩
    rw [hks] at h
    obtain ⟨rfl, rfl⟩ : Tree.node v1 v2 v3 ks = t ∧ R = (c2, a2, b2) := by cases h; exact ⟨rfl, rfl⟩
    clear h
    rw [E.node]
    refine TC1.of A _ _ T0 (T0_ok hP) (hP ▸ Try.func51) rfl _ rfl (by simp) ?_
    unfold rdrF at *
    have h2 : A.lt 200 (A.op .add .i64 (c : Int) 1) = false := by rw [hinc]; exact ltF (by omega)
    cbv
    ((try cbv) <;> (repeat ((with_reducible refine EW.of ?_); cbv)))
    refine bno (leF hb) ?_
    ((try cbv) <;> (repeat ((with_reducible refine EW.of ?_); cbv)))
    refine bno (show A.lt 40 d = false from ltF (d41_s hd)) ?_
    ((try cbv) <;> (repeat ((with_reducible refine EW.of ?_); cbv)))
    refine bno h2 ?_
    ((try cbv) <;> (repeat ((with_reducible refine EW.of ?_); cbv)))
    refine ⟨Ent.of (hP ▸ Try.func21) rfl, ?_⟩
    refine TC1.call [0] k1 ?_
    cbv
    (repeat (first | exact trivial | refine And.intro (Emb.Pur _ _) ?_ | refine And.intro rfl ?_ | refine And.intro (Pur.mk rfl) ?_ | refine And.intro (inc_eq A (by omega)) ?_))
    ((try cbv) <;> (repeat ((with_reducible refine EW.of ?_); cbv)))
    refine ⟨Ent.of (hP ▸ Try.func21) rfl, ?_⟩
    refine TC1.call [0] k2 ?_
    cbv
    (repeat (first | exact trivial | refine And.intro (Emb.Pur _ _) ?_ | refine And.intro rfl ?_ | refine And.intro (Pur.mk rfl) ?_ | refine And.intro (inc_eq A (by omega)) ?_))
    ((try cbv) <;> (repeat ((with_reducible refine EW.of ?_); cbv)))
    refine ⟨Ent.of (hP ▸ Try.func25) rfl, ?_⟩
    refine TC1.call [0] k3 ?_
    cbv
    (repeat (first | exact trivial | refine And.intro (Emb.Pur _ _) ?_ | refine And.intro rfl ?_ | refine And.intro (Pur.mk rfl) ?_ | refine And.intro (inc_eq A (by omega)) ?_))
    ((try cbv) <;> (repeat ((with_reducible refine EW.of ?_); cbv)))
    refine ⟨Ent.of (hP ▸ Try.func33) rfl, ?_⟩
    refine TC1.call [0] k4 ?_
    cbv
    (repeat (first | exact trivial | refine And.intro (Emb.Pur _ _) ?_ | refine And.intro rfl ?_ | refine And.intro (Pur.mk rfl) ?_ | refine And.intro (inc_eq A (by omega)) ?_))
    ((try cbv) <;> (repeat ((with_reducible refine EW.of ?_); cbv)))
    obtain ⟨S, hS⟩ : ∃ S : LI (Nat × Nat × Nat × Nat × Int × Option (Nat × List Tree)), S = ⟨fun x => [(11, .int .i64 x.1), (10, .int .i64 n), (9, .ref 2 4 0 0), (4, .ref 1 4 0 0), (0, .ref 0 4 0 0), (1, .int .i64 d)], fun x => stT E [some (.box 4 (.agg [.sl 1 (B.l.l bs), .int .i64 x.2.2.2.1, .int .i64 x.2.2.2.2.1, .int .i64 x.2.2.1])), some (.box 4 (.agg [.int .i64 0, .int .i64 0, .str ⟨⟨[]⟩⟩, .nils])), some (.box 4 (.agg [.int .i64 v1, .int .i64 v2, .str v3, rowA 3 x.2.2.2.2.2]))] x.2.2.2.2.2, fun x => x.1 + x.2.1 = n ∧ goodF bs x.2.2.1 x.2.2.2.1 x.2.2.2.2.1 ∧ okT x.2.2.2.2.2 ∧ (outT x.2.2.2.2.2).length = x.1 ∧ (ks, c2, a2, b2) = (outT x.2.2.2.2.2 ++ (kidsF (nodeF A bs f) x.2.1 x.2.2.1 x.2.2.2.1 x.2.2.2.2.1).1, (kidsF (nodeF A bs f) x.2.1 x.2.2.1 x.2.2.2.1 x.2.2.2.2.1).2), fun x => x.2.1⟩ := ⟨_, rfl⟩
    refine TW.loopM A (T0_ok hP) S _ rfl (0, n, c + 1, a5, b5, none) ?_ ?_ ?_
    · rw [hS]; exact ⟨Nat.zero_add _, hgk, trivial, rfl, by dsimp only [outT]; rw [hks]; rfl⟩
    · rw [hS]
      cbv
      (repeat (first | exact trivial | refine And.intro (Emb.Pur _ _) ?_ | refine And.intro hinc ?_ | refine And.intro rfl ?_))
    rintro ⟨j, k, c, a, b, o⟩ hj l1 L1 e1 e2
    rw [hS] at hj e1 e2
    dsimp only at hj e1 e2
    obtain ⟨hj, hg, hok, hlen, hinv⟩ := hj
    subst e1
    clear k1 k2 k3 k4 hinc hp1 hp2 hp3 hp4 hc ha hb hgk h2
    cases o with
    | none =>
      dsimp only [stT, rowA, outT, okT] at e2 hok hlen hinv ⊢
      subst e2
      cbv
      ((try cbv) <;> (repeat ((with_reducible refine EW.of ?_); cbv)))
      refine bsplit (fun h => ?_) (fun h => ?_)
      · have h : j < n := lt_nt h rfl rfl
        obtain ⟨k, rfl⟩ : ∃ k', k = k' + 1 := ⟨k - 1, by omega⟩
        ((try cbv) <;> (repeat ((with_reducible refine EW.of ?_); cbv)))
        by_cases hb : 0 ≤ b
        · refine bno (ltF hb) ?_
          rw [kidsF_pos hb] at hinv
          obtain ⟨rfl, rfl, rfl, rfl⟩ : [] = ks ∧ c = c2 ∧ a = a2 ∧ b = b2 := by cases hinv; exact ⟨rfl, rfl, rfl, rfl⟩
          ((try cbv) <;> (repeat ((with_reducible refine EW.of ?_); cbv)))
          refine R1.of ?_
          cbv
          (repeat (first | exact trivial | refine And.intro (Emb.Pur _ _) ?_ | refine And.intro rfl ?_ | refine And.intro E.tree.nil.symm ?_ | refine And.intro (Pur.mk rfl) ?_))
        have hr1 : A.op .add .i64 d 1 = 41 - (f : Int) := d41_i A hf hd
        obtain ⟨t', c3, a6, b6, ht'⟩ : ∃ x y z u, nodeF A bs f c a b = (x, y, z, u) := ⟨_, _, _, _, rfl⟩
        have hrec := ih (by omega) _ rfl c a b hg t' c3 a6 b6 ht'
        rw [← hr1] at hrec
        obtain ⟨i', k', s', ks'⟩ := t'
        have hg2 := nodeF_good (A := A) hl f c a b hg
        rw [ht'] at hg2
        dsimp only at hg2
        rw [kidsF_step hb ht'] at hinv
        refine byes (ltT (Int.not_le.1 hb)) ?_
        ((try cbv) <;> (repeat ((with_reducible refine EW.of ?_); cbv)))
        refine ⟨Ent.of (hP ▸ Try.func51) rfl, ?_⟩
        obtain ⟨pv, hpv⟩ : ∃ pv, E.tree.l [] = pv := ⟨_, rfl⟩
        obtain ⟨l1, hl1⟩ : ∃ d, d = [] ++ [Tree.node i' k' s' ks'] := ⟨_, rfl⟩
        rw [← hl1] at hinv
        obtain ⟨q1, hq1⟩ : ∃ q, q = l1.length := ⟨_, rfl⟩
        have hvl : E.tree.l l1 = pv ++ [E.tree.v (.node i' k' s' ks')] := by rw [hl1, E.tree.app, hpv, E.tree.cons, E.tree.nil]
        have hq2 : q1 = j + 1 := by rw [hq1, hl1, List.length_append]; show _ + 1 = _; omega
        rw [E.node] at hrec hvl
        refine TC1.call [0] hrec ?_
        cbv
        (repeat (first | exact trivial | refine And.intro (Emb.Pur _ _) ?_ | refine And.intro rfl ?_ | refine And.intro (Pur.mk rfl) ?_ | refine And.intro (inc_eq A (by omega)) ?_))
        ((try cbv) <;> (repeat ((with_reducible refine EW.of ?_); cbv)))
        rw [← hpv, E.tree.nil] at hvl
        refine ⟨⟨rfl⟩, q1, E.tree.l l1, by rw [hq1, hl1]; rfl, by rw [hvl]; rfl, Nat.zero_le _, by omega, by omega, ?_⟩
        cbv
        ((try cbv) <;> (repeat ((with_reducible refine EW.of ?_); cbv)))
        refine LM.of (j + 1, k, c3, a6, b6, some (q1, l1)) rfl ?_ ?_ ?_
        · rw [hS]; exact ⟨by show j + 1 + k = n; omega, hg2, hq1, by show l1.length = j + 1; omega, hinv⟩
        · rw [hS]; show k < k + 1; omega
        · rw [hS]
          cbv
          (repeat (first | exact trivial | refine And.intro (Emb.Pur _ _) ?_ | refine And.intro (inc_eq A (by omega)) ?_ | refine And.intro rfl ?_ | refine And.intro (Pur.mk rfl) ?_))
      · have h : n ≤ j := lt_nf h rfl rfl
        obtain rfl : k = 0 := by omega
        rw [kidsF] at hinv
        obtain ⟨rfl, rfl, rfl, rfl⟩ : [] = ks ∧ c = c2 ∧ a = a2 ∧ b = b2 := by cases hinv; exact ⟨rfl, rfl, rfl, rfl⟩
        ((try cbv) <;> (repeat ((with_reducible refine EW.of ?_); cbv)))
        refine R1.of ?_
        cbv
        (repeat (first | exact trivial | refine And.intro (Emb.Pur _ _) ?_ | refine And.intro rfl ?_ | refine And.intro E.tree.nil.symm ?_ | refine And.intro (Pur.mk rfl) ?_))
    | some y =>
      obtain ⟨m, l⟩ := y
      dsimp only [stT, rowA, outT, okT] at e2 hok hlen hinv ⊢
      subst e2
      cbv
      ((try cbv) <;> (repeat ((with_reducible refine EW.of ?_); cbv)))
      refine bsplit (fun h => ?_) (fun h => ?_)
      · have h : j < n := lt_nt h rfl rfl
        obtain ⟨k, rfl⟩ : ∃ k', k = k' + 1 := ⟨k - 1, by omega⟩
        ((try cbv) <;> (repeat ((with_reducible refine EW.of ?_); cbv)))
        by_cases hb : 0 ≤ b
        · refine bno (ltF hb) ?_
          rw [kidsF_pos hb] at hinv
          obtain ⟨rfl, rfl, rfl, rfl⟩ : l = ks ∧ c = c2 ∧ a = a2 ∧ b = b2 := by
            dsimp only at hinv
            rw [List.append_nil] at hinv
            cases hinv; exact ⟨rfl, rfl, rfl, rfl⟩
          ((try cbv) <;> (repeat ((with_reducible refine EW.of ?_); cbv)))
          refine R1.of ?_
          cbv
          (repeat (first | exact trivial | refine And.intro (Emb.Pur _ _) ?_ | refine And.intro rfl ?_ | refine And.intro (E.tree.cut hok) ?_ | refine And.intro (Pur.mk rfl) ?_))
        have hr1 : A.op .add .i64 d 1 = 41 - (f : Int) := d41_i A hf hd
        obtain ⟨t', c3, a6, b6, ht'⟩ : ∃ x y z u, nodeF A bs f c a b = (x, y, z, u) := ⟨_, _, _, _, rfl⟩
        have hrec := ih (by omega) _ rfl c a b hg t' c3 a6 b6 ht'
        rw [← hr1] at hrec
        obtain ⟨i', k', s', ks'⟩ := t'
        have hg2 := nodeF_good (A := A) hl f c a b hg
        rw [ht'] at hg2
        dsimp only at hg2
        rw [kidsF_step hb ht'] at hinv
        refine byes (ltT (Int.not_le.1 hb)) ?_
        ((try cbv) <;> (repeat ((with_reducible refine EW.of ?_); cbv)))
        refine ⟨Ent.of (hP ▸ Try.func51) rfl, ?_⟩
        obtain ⟨pv, hpv⟩ : ∃ pv, E.tree.l l = pv := ⟨_, rfl⟩
        obtain ⟨l1, hl1⟩ : ∃ d, d = l ++ [Tree.node i' k' s' ks'] := ⟨_, rfl⟩
        rw [← hl1] at hinv
        obtain ⟨q1, hq1⟩ : ∃ q, q = l1.length := ⟨_, rfl⟩
        have hvl : E.tree.l l1 = pv ++ [E.tree.v (.node i' k' s' ks')] := by rw [hl1, E.tree.app, hpv, E.tree.cons, E.tree.nil]
        have hq2 : q1 = j + 1 := by rw [hq1, hl1, List.length_append]; show _ + 1 = _; omega
        rw [E.node] at hrec hvl
        refine TC1.call [0] hrec ?_
        cbv
        (repeat (first | exact trivial | refine And.intro (Emb.Pur _ _) ?_ | refine And.intro rfl ?_ | refine And.intro (Pur.mk rfl) ?_ | refine And.intro (inc_eq A (by omega)) ?_))
        ((try cbv) <;> (repeat ((with_reducible refine EW.of ?_); cbv)))
        have hll := E.tree.len l
        rw [← hpv] at hvl
        refine ⟨⟨rfl⟩, q1, E.tree.l l1, by rw [hq1, hl1, List.length_append, hok]; rfl, by rw [hvl, List.take_of_length_le (show (E.tree.l l).length ≤ m by omega)], (show m ≤ (E.tree.l l).length by omega), by omega, by omega, ?_⟩
        cbv
        ((try cbv) <;> (repeat ((with_reducible refine EW.of ?_); cbv)))
        refine LM.of (j + 1, k, c3, a6, b6, some (q1, l1)) rfl ?_ ?_ ?_
        · rw [hS]; exact ⟨by show j + 1 + k = n; omega, hg2, hq1, by show l1.length = j + 1; omega, hinv⟩
        · rw [hS]; show k < k + 1; omega
        · rw [hS]
          cbv
          (repeat (first | exact trivial | refine And.intro (Emb.Pur _ _) ?_ | refine And.intro (inc_eq A (by omega)) ?_ | refine And.intro rfl ?_ | refine And.intro (Pur.mk rfl) ?_))
      · have h : n ≤ j := lt_nf h rfl rfl
        obtain rfl : k = 0 := by omega
        rw [kidsF] at hinv
        obtain ⟨rfl, rfl, rfl, rfl⟩ : l = ks ∧ c = c2 ∧ a = a2 ∧ b = b2 := by
          dsimp only at hinv
          rw [List.append_nil] at hinv
          cases hinv; exact ⟨rfl, rfl, rfl, rfl⟩
        ((try cbv) <;> (repeat ((with_reducible refine EW.of ?_); cbv)))
        refine R1.of ?_
        cbv
        (repeat (first | exact trivial | refine And.intro (Emb.Pur _ _) ?_ | refine And.intro rfl ?_ | refine And.intro (E.tree.cut hok) ?_ | refine And.intro (Pur.mk rfl) ?_))
end Go.Proofs.Ytmbbdabcbnemiaa
