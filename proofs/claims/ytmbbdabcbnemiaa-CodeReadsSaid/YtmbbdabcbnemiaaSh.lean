import Derived.Test.YtmbbdabcbnemiaaSg
/-! The reference's steps. -/
namespace Go.Proofs.Ytmbbdabcbnemiaa
open Go.Proofs.Ytmbbdabcbnemiaa.Tw
def stp0 : Stp := ⟨0, 0, 0, 0, ⟨#[]⟩, tree0⟩
def stepF (A : Ar) (bs : List UInt8) (a : Nat) (b : Int) : Stp × Nat × Nat × Int :=
  let r0 := askR 0 bs a b (smallR A bs a)
  let r1 := askR 0 bs r0.2.1 r0.2.2 (numR A bs r0.2.1)
  let r2 := askR 0 bs r1.2.1 r1.2.2 (numR A bs r1.2.1)
  let r3 := askR 0 bs r2.2.1 r2.2.2 (numR A bs r2.2.1)
  let r4 := askR ⟨#[]⟩ bs r3.2.1 r3.2.2 (textR A bs r3.2.1)
  let r5 := askR tree0 bs r4.2.1 r4.2.2 (nodeTR A bs r4.2.1)
  (if 0 ≤ r5.2.2 then stp0 else ⟨r0.1, r1.1, r2.1, r3.1, r4.1, r5.1⟩, cntF A bs r4.2.1 r4.2.2, r5.2.1, r5.2.2)
theorem askS_pos {A : Ar} {bs : List UInt8} {a : Nat} {b : Int} {v : Int} {a2 : Nat} {b2 : Int} (ha : a ≤ bs.length) (h : askR 0 bs a b (smallR A bs a) = (v, a2, b2)) : a2 ≤ bs.length := by
  unfold askR at h
  split at h
  · cases h; exact ha
  unfold smallR at h
  cases hc : takeR bs a 1 with
  | no e a3 => rw [hc] at h; cases h; rw [(takeR_no hc).2]; exact ha
  | ok m a3 => rw [hc] at h; cases h; exact (takeR_ok hc).2.2
theorem smallR_no {A : Ar} {bs : List UInt8} {a a2 : Nat} {e : Int} (h : smallR A bs a = .no e a2) : 0 ≤ e := by
  unfold smallR at h
  cases hc : takeR bs a 1 with
  | no e a3 => rw [hc] at h; cases h; rw [(takeR_no hc).1]; omega
  | ok m a3 => rw [hc] at h; cases h
theorem nodeTR_no {A : Ar} {bs : List UInt8} (hl : bs.length ≤ 1000000000) {a a2 : Nat} {e : Int} (ha : a ≤ bs.length) (h : nodeTR A bs a = .no e a2) : 0 ≤ e := by
  unfold nodeTR at h
  cases hr : nodeR A bs 40 0 a with
  | no e c a3 => rw [hr] at h; cases h; exact (nodeF_R (A := A) hl 40 0 a (-1) (by omega) ⟨by omega, ha, fun _ => by omega⟩).2.2 _ _ _ hr
  | ok x c a3 => rw [hr] at h; cases h
theorem askT2_pos {A : Ar} {bs : List UInt8} (hl : bs.length ≤ 1000000000) {a : Nat} {b : Int} {v : Tree} {a2 : Nat} {b2 : Int} (ha : a ≤ bs.length) (h : askR tree0 bs a b (nodeTR A bs a) = (v, a2, b2)) : a2 ≤ bs.length := by
  by_cases h0 : 0 ≤ b
  · rw [askR_pos h0] at h; cases h; exact ha
  have hg0 : goodF bs 0 a b := ⟨by omega, ha, fun _ => by omega⟩
  have hp := nodeF_good (A := A) hl 40 0 a b hg0
  rw [(nodeF_R (A := A) hl 40 0 a b (by omega) hg0).1] at hp
  rw [askR_neg h0] at h
  unfold nodeTR at h
  cases hr : nodeR A bs 40 0 a with
  | no e c3 a3 => rw [hr] at h hp; cases h; exact hp.2.1
  | ok x c3 a3 => rw [hr] at h hp; cases h; exact hp.2.1
/-- The reference's step is the program's. -/
theorem stepF_R {A : Ar} {bs : List UInt8} (hl : bs.length ≤ 1000000000) {a : Nat} (ha : a ≤ bs.length) {b : Int} :
    ((stepF A bs a b).1, (stepF A bs a b).2.2) = askR stp0 bs a b (stepR A bs a) ∧ (∀ e a2, stepR A bs a = .no e a2 → 0 ≤ e) := by
  have hno : ∀ e a2, stepR A bs a = .no e a2 → 0 ≤ e := by
    intro e a2 h
    unfold stepR at h
    cases h0 : smallR A bs a with
    | no e a3 => rw [h0] at h; cases h; exact smallR_no h0
    | ok op b0 =>
    rw [h0] at h
    simp only [RR.bind] at h
    cases h1 : numR A bs b0 with
    | no e a3 => rw [h1] at h; cases h; have := numR_no h1; omega
    | ok id b1 =>
    rw [h1] at h
    simp only at h
    cases h2 : numR A bs b1 with
    | no e a3 => rw [h2] at h; cases h; have := numR_no h2; omega
    | ok par b2 =>
    rw [h2] at h
    simp only at h
    cases h3 : numR A bs b2 with
    | no e a3 => rw [h3] at h; cases h; have := numR_no h3; omega
    | ok pl b3 =>
    rw [h3] at h
    simp only at h
    cases h4 : textR A bs b3 with
    | no e a3 => rw [h4] at h; cases h; exact textR_no h4
    | ok s b4 =>
    rw [h4] at h
    simp only at h
    cases h5 : nodeTR A bs b4 with
    | no e a3 => rw [h5] at h; cases h; exact nodeTR_no hl (textR_ok h4) h5
    | ok t b5 => rw [h5] at h; cases h
  refine ⟨?_, hno⟩
  by_cases hb : 0 ≤ b
  · unfold stepF
    simp only [askR_pos hb, if_pos hb]
  unfold stepF stepR
  cases h0 : smallR A bs a with
  | no e a3 =>
    have hx := smallR_no h0
    simp only [RR.bind, askR_no hb rfl, askR_pos hx, if_pos hx]
  | ok op b0 =>
  simp only [RR.bind, askR_ok hb rfl]
  cases h1 : numR A bs b0 with
  | no e a3 =>
    have hx : 0 ≤ e := by have := numR_no h1; omega
    simp only [askR_no hb rfl, askR_pos hx, if_pos hx]
  | ok id b1 =>
  simp only [askR_ok hb rfl]
  cases h2 : numR A bs b1 with
  | no e a3 =>
    have hx : 0 ≤ e := by have := numR_no h2; omega
    simp only [askR_no hb rfl, askR_pos hx, if_pos hx]
  | ok par b2 =>
  simp only [askR_ok hb rfl]
  cases h3 : numR A bs b2 with
  | no e a3 =>
    have hx : 0 ≤ e := by have := numR_no h3; omega
    simp only [askR_no hb rfl, askR_pos hx, if_pos hx]
  | ok pl b3 =>
  simp only [askR_ok hb rfl]
  cases h4 : textR A bs b3 with
  | no e a3 =>
    have hx : 0 ≤ e := textR_no h4
    simp only [askR_no hb rfl, askR_pos hx, if_pos hx]
  | ok s b4 =>
  simp only [askR_ok hb rfl]
  cases h5 : nodeTR A bs b4 with
  | no e a3 =>
    have hx : 0 ≤ e := nodeTR_no hl (textR_ok h4) h5
    simp only [askR_no hb rfl, askR_pos hx, if_pos hx]
  | ok t b5 => simp only [askR_ok hb rfl, if_neg hb]
theorem EmS.zero (F : EmS) (E : Em) : F.l.v stp0 = .agg [.int .i8 0, .int .i64 0, .int .i64 0, .int .i64 0, .str ⟨#[]⟩, .int .i64 0, .int .i64 0, .str ⟨#[]⟩, .sl 4 []] := by
  unfold stp0 tree0
  rw [F.v E, E.tree.nil]
set_option maxHeartbeats 2000000 in
theorem Step57 (A : Ar) (E : Em) (B : EmB) (F : EmS) {P : Program} (hP : P = Try.prog) (bs : List UInt8) (hl : bs.length ≤ 1000000000) (a : Nat) (ha : a ≤ bs.length) (bad c : Int) (v : Stp) (c2 a2 : Nat) (bad2 : Int) (h : stepF A bs a bad = (v, c2, a2, bad2)) :
    TC1 P 57 [.ref 0 4 0 0] [some (rdrF B bs a bad c)] (F.l.v v) [some (rdrF B bs a2 bad2 c2)] := by
  unfold stepF at h
  obtain ⟨v0, a0, b0, g0⟩ : ∃ x y z, askR 0 bs a bad (smallR A bs a) = (x, y, z) := ⟨_, _, _, rfl⟩
  have k0 := Small23 A B hP bs hl a ha bad c v0 a0 b0 g0
  have p0 := askS_pos ha g0
  obtain ⟨v1, a1, b1, g1⟩ : ∃ x y z, askR 0 bs a0 b0 (numR A bs a0) = (x, y, z) := ⟨_, _, _, rfl⟩
  have k1 := Number21 A B hP bs hl a0 p0 b0 c v1 a1 b1 g1
  have p1 := askN_pos p0 g1
  obtain ⟨w2, e2, f2, g2⟩ : ∃ x y z, askR 0 bs a1 b1 (numR A bs a1) = (x, y, z) := ⟨_, _, _, rfl⟩
  have k2 := Number21 A B hP bs hl a1 p1 b1 c w2 e2 f2 g2
  have p2 := askN_pos p1 g2
  obtain ⟨v3, a3, b3, g3⟩ : ∃ x y z, askR 0 bs e2 f2 (numR A bs e2) = (x, y, z) := ⟨_, _, _, rfl⟩
  have k3 := Number21 A B hP bs hl e2 p2 f2 c v3 a3 b3 g3
  have p3 := askN_pos p2 g3
  obtain ⟨v4, a4, b4, g4⟩ : ∃ x y z, askR ⟨#[]⟩ bs a3 b3 (textR A bs a3) = (x, y, z) := ⟨_, _, _, rfl⟩
  have k4 := Text25 A B hP bs hl a3 p3 b3 c v4 a4 b4 g4
  have p4 := askT_pos hl p3 g4
  obtain ⟨v5, a5, b5, g5⟩ : ∃ x y z, askR tree0 bs a4 b4 (nodeTR A bs a4) = (x, y, z) := ⟨_, _, _, rfl⟩
  have k5 := Node27 A E B hP bs hl a4 p4 b4 c v5 a5 b5 g5
  simp only [g0, g1, g2, g3, g4, g5] at h
  obtain ⟨hv, rfl, rfl, rfl⟩ : (if 0 ≤ b5 then stp0 else ⟨v0, v1, w2, v3, v4, v5⟩) = v ∧ cntF A bs a4 b4 = c2 ∧ a5 = a2 ∧ b5 = bad2 := by cases h; exact ⟨rfl, rfl, rfl, rfl⟩
  clear h g0 g1 g2 g3 g4 g5
  obtain ⟨i, k, s, ks⟩ := v5
  rw [E.node] at k5
  obtain ⟨cc, hcc⟩ : ∃ cc, cc = cntF A bs a4 b4 := ⟨_, rfl⟩
  rw [← hcc] at k5 ⊢
  refine TC1.of A _ _ T0 (T0_ok hP) (hP ▸ Try.func57) rfl _ rfl (by simp) ?_
  unfold rdrF at *
  by_cases h2 : 0 ≤ b5
  · rw [if_pos h2] at hv
    rw [← hv, F.zero E]
    cbv
    ((try cbv) <;> (repeat ((with_reducible refine EW.of ?_); cbv)))
    refine ⟨Ent.of (hP ▸ Try.func23) rfl, ?_⟩
    refine TC1.call [0] k0 ?_
    cbv
    (repeat (first | exact trivial | refine And.intro (Emb.Pur _ _) ?_ | refine And.intro rfl ?_ | refine And.intro (Pur.mk rfl) ?_))
    ((try cbv) <;> (repeat ((with_reducible refine EW.of ?_); cbv)))
    refine ⟨Ent.of (hP ▸ Try.func21) rfl, ?_⟩
    refine TC1.call [0] k1 ?_
    cbv
    (repeat (first | exact trivial | refine And.intro (Emb.Pur _ _) ?_ | refine And.intro rfl ?_ | refine And.intro (Pur.mk rfl) ?_))
    ((try cbv) <;> (repeat ((with_reducible refine EW.of ?_); cbv)))
    refine ⟨Ent.of (hP ▸ Try.func21) rfl, ?_⟩
    refine TC1.call [0] k2 ?_
    cbv
    (repeat (first | exact trivial | refine And.intro (Emb.Pur _ _) ?_ | refine And.intro rfl ?_ | refine And.intro (Pur.mk rfl) ?_))
    ((try cbv) <;> (repeat ((with_reducible refine EW.of ?_); cbv)))
    refine ⟨Ent.of (hP ▸ Try.func21) rfl, ?_⟩
    refine TC1.call [0] k3 ?_
    cbv
    (repeat (first | exact trivial | refine And.intro (Emb.Pur _ _) ?_ | refine And.intro rfl ?_ | refine And.intro (Pur.mk rfl) ?_))
    ((try cbv) <;> (repeat ((with_reducible refine EW.of ?_); cbv)))
    refine ⟨Ent.of (hP ▸ Try.func25) rfl, ?_⟩
    refine TC1.call [0] k4 ?_
    cbv
    (repeat (first | exact trivial | refine And.intro (Emb.Pur _ _) ?_ | refine And.intro rfl ?_ | refine And.intro (Pur.mk rfl) ?_))
    ((try cbv) <;> (repeat ((with_reducible refine EW.of ?_); cbv)))
    refine ⟨Ent.of (hP ▸ Try.func27) rfl, ?_⟩
    refine TC1.call [0] k5 ?_
    cbv
    (repeat (first | exact trivial | refine And.intro (Emb.Pur _ _) ?_ | refine And.intro rfl ?_ | refine And.intro (Pur.mk rfl) ?_))
    ((try cbv) <;> (repeat ((with_reducible refine EW.of ?_); cbv)))
    refine byes (leT h2) ?_
    ((try cbv) <;> (repeat ((with_reducible refine EW.of ?_); cbv)))
    refine R1.of ?_
    cbv
    (repeat (first | exact trivial | refine And.intro (Emb.Pur _ _) ?_ | refine And.intro rfl ?_ | refine And.intro (Pur.mk rfl) ?_))
  · rw [if_neg h2] at hv
    rw [← hv, F.v E]
    cbv
    ((try cbv) <;> (repeat ((with_reducible refine EW.of ?_); cbv)))
    refine ⟨Ent.of (hP ▸ Try.func23) rfl, ?_⟩
    refine TC1.call [0] k0 ?_
    cbv
    (repeat (first | exact trivial | refine And.intro (Emb.Pur _ _) ?_ | refine And.intro rfl ?_ | refine And.intro (Pur.mk rfl) ?_))
    ((try cbv) <;> (repeat ((with_reducible refine EW.of ?_); cbv)))
    refine ⟨Ent.of (hP ▸ Try.func21) rfl, ?_⟩
    refine TC1.call [0] k1 ?_
    cbv
    (repeat (first | exact trivial | refine And.intro (Emb.Pur _ _) ?_ | refine And.intro rfl ?_ | refine And.intro (Pur.mk rfl) ?_))
    ((try cbv) <;> (repeat ((with_reducible refine EW.of ?_); cbv)))
    refine ⟨Ent.of (hP ▸ Try.func21) rfl, ?_⟩
    refine TC1.call [0] k2 ?_
    cbv
    (repeat (first | exact trivial | refine And.intro (Emb.Pur _ _) ?_ | refine And.intro rfl ?_ | refine And.intro (Pur.mk rfl) ?_))
    ((try cbv) <;> (repeat ((with_reducible refine EW.of ?_); cbv)))
    refine ⟨Ent.of (hP ▸ Try.func21) rfl, ?_⟩
    refine TC1.call [0] k3 ?_
    cbv
    (repeat (first | exact trivial | refine And.intro (Emb.Pur _ _) ?_ | refine And.intro rfl ?_ | refine And.intro (Pur.mk rfl) ?_))
    ((try cbv) <;> (repeat ((with_reducible refine EW.of ?_); cbv)))
    refine ⟨Ent.of (hP ▸ Try.func25) rfl, ?_⟩
    refine TC1.call [0] k4 ?_
    cbv
    (repeat (first | exact trivial | refine And.intro (Emb.Pur _ _) ?_ | refine And.intro rfl ?_ | refine And.intro (Pur.mk rfl) ?_))
    ((try cbv) <;> (repeat ((with_reducible refine EW.of ?_); cbv)))
    refine ⟨Ent.of (hP ▸ Try.func27) rfl, ?_⟩
    refine TC1.call [0] k5 ?_
    cbv
    (repeat (first | exact trivial | refine And.intro (Emb.Pur _ _) ?_ | refine And.intro rfl ?_ | refine And.intro (Pur.mk rfl) ?_))
    ((try cbv) <;> (repeat ((with_reducible refine EW.of ?_); cbv)))
    refine bno (leF (Int.not_le.1 h2)) ?_
    ((try cbv) <;> (repeat ((with_reducible refine EW.of ?_); cbv)))
    refine R1.of ?_
    cbv
    (repeat (first | exact trivial | refine And.intro (Emb.Pur _ _) ?_ | refine And.intro rfl ?_ | refine And.intro (Pur.mk rfl) ?_))
end Go.Proofs.Ytmbbdabcbnemiaa
