import Derived.Test.YtmbbdabcbnemiaaSf
/-! The reference's nodes are the program's. -/
namespace Go.Proofs.Ytmbbdabcbnemiaa
open Go.Proofs.Ytmbbdabcbnemiaa.Tw
/-- What a reading's failure puts. -/
def RN.bad {α : Type} (b : Int) : RN α → Int
  | .ok _ _ _ => b
  | .no e _ _ => e
theorem askR_pos {α : Type} {z : α} {bs : List UInt8} {a : Nat} {b : Int} {r : RR α} (hb : 0 ≤ b) : askR z bs a b r = (z, a, b) := by
  unfold askR; rw [if_pos hb]
theorem askR_no {α : Type} {z : α} {bs : List UInt8} {a a2 : Nat} {b e : Int} {r : RR α} (hb : ¬ 0 ≤ b) (h : r = .no e a2) : askR z bs a b r = (z, a2, e) := by
  rw [askR_neg hb, h]
theorem askR_ok {α : Type} {z v : α} {bs : List UInt8} {a a2 : Nat} {b : Int} {r : RR α} (hb : ¬ 0 ≤ b) (h : r = .ok v a2) : askR z bs a b r = (v, a2, b) := by
  rw [askR_neg hb, h]
theorem textR_no {A : Ar} {bs : List UInt8} {a a2 : Nat} {e : Int} (h : textR A bs a = .no e a2) : 0 ≤ e := by
  unfold textR at h
  cases hc : countR A bs a 1 bs.length with
  | no e2 a3 =>
    rw [hc] at h
    cases h
    rcases countR_no hc with h | h <;> omega
  | ok n a3 =>
    rw [hc] at h
    simp only [RR.bind] at h
    cases ht : takeR bs a3 n.toNat with
    | no e a4 => rw [ht] at h; cases h; rw [(takeR_no ht).1]; omega
    | ok l a4 => rw [ht] at h; cases h
theorem nodeF_R {A : Ar} {bs : List UInt8} (hl : bs.length ≤ 1000000000) : ∀ (f c a : Nat) (b : Int), b < 0 → goodF bs c a b →
    (nodeF A bs f c a b).2 = ((nodeR A bs f c a).cnt, (nodeR A bs f c a).pos, (nodeR A bs f c a).bad b) ∧ (∀ t c2 a2, nodeR A bs f c a = .ok t c2 a2 → (nodeF A bs f c a b).1 = t) ∧ (∀ e c2 a2, nodeR A bs f c a = .no e c2 a2 → 0 ≤ e) := by
  intro f
  induction f with
  | zero =>
    intro c a b hb ha
    rw [nodeF, nodeR, if_neg (by omega)]
    exact ⟨rfl, fun t c2 a2 h => (by cases h), fun e c2 a2 h => (by cases h; omega)⟩
  | succ f ih =>
    intro c a b hb ha
    have hks : ∀ (n c a : Nat) (b : Int), b < 0 → goodF bs c a b → (kidsF (nodeF A bs f) n c a b).2 = ((listR (nodeR A bs f) n c a).cnt, (listR (nodeR A bs f) n c a).pos, (listR (nodeR A bs f) n c a).bad b) ∧ (∀ t c2 a2, listR (nodeR A bs f) n c a = .ok t c2 a2 → (kidsF (nodeF A bs f) n c a b).1 = t) ∧ (∀ e c2 a2, listR (nodeR A bs f) n c a = .no e c2 a2 → 0 ≤ e) := by
      intro n
      induction n with
      | zero =>
        intro c a b hb ha
        exact ⟨rfl, fun t c2 a2 h => (by cases h; rfl), fun e c2 a2 h => (by cases h)⟩
      | succ n ihn =>
        intro c a b hb ha
        obtain ⟨i1, i2, i3⟩ := ih c a b hb ha
        rw [kidsF, if_neg (by omega), listR]
        have hp := nodeF_good (A := A) hl f c a b ha
        cases hr : nodeR A bs f c a with
        | no e c3 a3 =>
          rw [hr] at i1
          have he := i3 e c3 a3 hr
          simp only [RN.bind]
          dsimp only [RN.cnt, RN.pos, RN.bad] at i1 ⊢
          rw [i1]
          dsimp only
          rw [kidsF_pos he]
          exact ⟨rfl, fun t c2 a2 h => (by cases h), fun e c2 a2 h => (by cases h; exact he)⟩
        | ok x c3 a3 =>
          rw [hr] at i1
          have hx := i2 x c3 a3 hr
          simp only [RN.bind]
          dsimp only [RN.cnt, RN.pos, RN.bad] at i1 ⊢
          rw [i1, hx]
          dsimp only
          have ha3 : goodF bs c3 a3 b := by rw [i1] at hp; exact hp
          obtain ⟨j1, j2, j3⟩ := ihn c3 a3 b hb ha3
          cases hq : listR (nodeR A bs f) n c3 a3 with
          | no e c4 a4 =>
            rw [hq] at j1
            exact ⟨j1, fun t c2 a2 h => (by cases h), fun e c2 a2 h => (by cases h; exact j3 _ _ _ hq)⟩
          | ok xs c4 a4 =>
            rw [hq] at j1
            have := j2 _ _ _ hq
            exact ⟨j1, fun t c2 a2 h => (by cases h; rw [this]), fun e c2 a2 h => (by cases h)⟩
    have hb0 : ¬ 0 ≤ b := by omega
    have hc2 := ha.2.2 hb
    rw [nodeF, if_neg hb0, nodeR]
    by_cases h1 : 200 < c + 1
    · rw [if_pos h1, if_pos h1]
      exact ⟨rfl, fun t c2 a2 h => (by cases h), fun e c2 a2 h => (by cases h; omega)⟩
    rw [if_neg h1, if_neg h1]
    cases q1 : numR A bs a with
    | no e a1 =>
      have hx : 0 ≤ e := by have := numR_no q1; omega
      simp only [RR.toN, RN.bind, askR_no hb0 rfl]
      refine ⟨?_, fun t c2 a2 h => (by cases h), fun e c2 a2 h => (by cases h; omega)⟩
      simp only [askR_pos hx, kidsF_pos hx, RN.bad, RN.cnt, RN.pos]
    | ok v1 a1 =>
    have p1 := (numR_ok q1).2
    simp only [RR.toN, RN.bind, askR_ok hb0 rfl]
    cases q2 : numR A bs a1 with
    | no e a2 =>
      have hx : 0 ≤ e := by have := numR_no q2; omega
      simp only [askR_no hb0 rfl]
      refine ⟨?_, fun t c2 a2 h => (by cases h), fun e c2 a2 h => (by cases h; omega)⟩
      simp only [askR_pos hx, kidsF_pos hx, RN.bad, RN.cnt, RN.pos]
    | ok v2 a2 =>
    have p2 := (numR_ok q2).2
    simp only [askR_ok hb0 rfl]
    cases q3 : textR A bs a2 with
    | no e a3 =>
      have hx : 0 ≤ e := textR_no q3
      simp only [askR_no hb0 rfl]
      refine ⟨?_, fun t c2 a2 h => (by cases h), fun e c2 a2 h => (by cases h; omega)⟩
      simp only [askR_pos hx, kidsF_pos hx, RN.bad, RN.cnt, RN.pos]
    | ok v3 a3 =>
    have p3 := textR_ok q3
    simp only [askR_ok hb0 rfl]
    cases q4 : countR A bs a3 32 bs.length with
    | no e a4 =>
      have hx : 0 ≤ e := by rcases countR_no q4 with h | h <;> omega
      simp only [askR_no hb0 rfl]
      refine ⟨?_, fun t c2 a2 h => (by cases h), fun e c2 a2 h => (by cases h; omega)⟩
      simp only [askR_pos hx, kidsF_pos hx, RN.bad, RN.cnt, RN.pos]
    | ok v4 a4 =>
    have p4 := (countR_ok hl q4).2.1
    simp only [askR_ok hb0 rfl]
    obtain ⟨j1, j2, j3⟩ := hks v4.toNat (c + 1) a4 b hb ⟨by omega, p4, fun _ => by omega⟩
    cases hq : listR (nodeR A bs f) v4.toNat (c + 1) a4 with
    | no e c4 a4 =>
      rw [hq] at j1
      exact ⟨j1, fun t c2 a2 h => (by cases h), fun e c2 a2 h => (by cases h; exact j3 _ _ _ hq)⟩
    | ok xs c4 a4 =>
      rw [hq] at j1
      have := j2 _ _ _ hq
      exact ⟨j1, fun t c2 a2 h => (by cases h; rw [this]), fun e c2 a2 h => (by cases h)⟩
/-- How many nodes a reader counted. -/
def cntF (A : Ar) (bs : List UInt8) (a : Nat) (b : Int) : Nat := if 0 ≤ b then 0 else (nodeR A bs 40 0 a).cnt
set_option maxHeartbeats 2000000 in
theorem Node27 (A : Ar) (E : Em) (B : EmB) {P : Program} (hP : P = Try.prog) (bs : List UInt8) (hl : bs.length ≤ 1000000000) (a : Nat) (ha : a ≤ bs.length) (bad c : Int) (v : Tree) (a2 : Nat) (bad2 : Int) (h : askR tree0 bs a bad (nodeTR A bs a) = (v, a2, bad2)) :
    TC1 P 27 [.ref 0 4 0 0] [some (rdrF B bs a bad c)] (E.tree.v v) [some (rdrF B bs a2 bad2 (cntF A bs a bad))] := by
  have hg0 : goodF bs 0 a bad := ⟨by omega, ha, fun _ => by omega⟩
  have key : ∃ x, nodeF A bs 40 0 a bad = (x, cntF A bs a bad, a2, bad2) ∧ (if 0 ≤ bad2 then v = tree0 else v = x) := by
    by_cases h0 : 0 ≤ bad
    · rw [askR_pos h0] at h
      cases h
      refine ⟨tree0, ?_, ?_⟩
      · rw [nodeF, if_pos h0, cntF, if_pos h0]
      · rw [if_pos h0]
    · obtain ⟨j1, j2, j3⟩ := nodeF_R (A := A) hl 40 0 a bad (by omega) hg0
      rw [askR_neg h0] at h
      unfold nodeTR at h
      rw [cntF, if_neg h0]
      cases hr : nodeR A bs 40 0 a with
      | no e c3 a3 =>
        rw [hr] at h j1
        cases h
        refine ⟨(nodeF A bs 40 0 a bad).1, ?_, ?_⟩
        · rw [show (RN.no bad2 c3 a2 : RN Tree).cnt = c3 from rfl]
          exact Prod.ext rfl j1
        · rw [if_pos (j3 _ _ _ hr)]
      | ok x c3 a3 =>
        rw [hr] at h j1
        cases h
        refine ⟨v, ?_, ?_⟩
        · exact Prod.ext (j2 _ _ _ hr) j1
        · rw [if_neg h0]
  obtain ⟨x, hx, hv⟩ := key
  have h51 := node51 A E B hP bs hl 40 (Nat.le_refl _) 1 (by decide) 0 a bad hg0 x _ a2 bad2 hx
  obtain ⟨i, k, s, ks⟩ := x
  rw [E.node] at h51
  obtain ⟨cc, hcc⟩ : ∃ cc, cc = cntF A bs a bad := ⟨_, rfl⟩
  rw [← hcc] at h51 ⊢
  refine TC1.of A _ _ T0 (T0_ok hP) (hP ▸ Try.func27) rfl _ rfl (by simp) ?_
  unfold rdrF at *
  by_cases h2 : 0 ≤ bad2
  · rw [if_pos h2] at hv
    rw [hv, E.zero]
    cbv
    ((try cbv) <;> (repeat ((with_reducible refine EW.of ?_); cbv)))
    refine ⟨Ent.of (hP ▸ Try.func51) rfl, ?_⟩
    refine TC1.call [0] h51 ?_
    cbv
    (repeat (first | exact trivial | refine And.intro (Emb.Pur _ _) ?_ | refine And.intro rfl ?_ | refine And.intro (Pur.mk rfl) ?_))
    ((try cbv) <;> (repeat ((with_reducible refine EW.of ?_); cbv)))
    refine byes (leT h2) ?_
    ((try cbv) <;> (repeat ((with_reducible refine EW.of ?_); cbv)))
    refine R1.of ?_
    cbv
    (repeat (first | exact trivial | refine And.intro (Emb.Pur _ _) ?_ | refine And.intro rfl ?_ | refine And.intro (Pur.mk rfl) ?_))
  · rw [if_neg h2] at hv
    rw [hv, E.node]
    cbv
    ((try cbv) <;> (repeat ((with_reducible refine EW.of ?_); cbv)))
    refine ⟨Ent.of (hP ▸ Try.func51) rfl, ?_⟩
    refine TC1.call [0] h51 ?_
    cbv
    (repeat (first | exact trivial | refine And.intro (Emb.Pur _ _) ?_ | refine And.intro rfl ?_ | refine And.intro (Pur.mk rfl) ?_))
    ((try cbv) <;> (repeat ((with_reducible refine EW.of ?_); cbv)))
    refine bno (leF (Int.not_le.1 h2)) ?_
    ((try cbv) <;> (repeat ((with_reducible refine EW.of ?_); cbv)))
    refine R1.of ?_
    cbv
    (repeat (first | exact trivial | refine And.intro (Emb.Pur _ _) ?_ | refine And.intro rfl ?_ | refine And.intro (Pur.mk rfl) ?_))
end Go.Proofs.Ytmbbdabcbnemiaa
