import Derived.Test.YtmbbdabcbnemiaaSb
/-! The reference's counts and texts. -/
namespace Go.Proofs.Ytmbbdabcbnemiaa
open Go.Proofs.Ytmbbdabcbnemiaa.Tw
theorem askR_bad {α : Type} {z v : α} {bs : List UInt8} {a a2 : Nat} {bad bad2 : Int} {r : RR α} (hb : 0 ≤ bad) (h : askR z bs a bad r = (v, a2, bad2)) : v = z ∧ a2 = a ∧ bad2 = bad := by
  unfold askR at h
  rw [if_pos hb] at h
  cases h
  exact ⟨rfl, rfl, rfl⟩
set_option maxHeartbeats 4000000 in
theorem Count33 (A : Ar) (B : EmB) {P : Program} (hP : P = Try.prog) (bs : List UInt8) (hl : bs.length ≤ 1000000000) (a : Nat) (ha : a ≤ bs.length) (bad c : Int) (size most : Int) (v : Int) (a2 : Nat) (bad2 : Int) (h : askR 0 bs a bad (countR A bs a size most) = (v, a2, bad2)) :
    TC1 P 33 [.ref 0 4 0 0, .int .i64 size, .int .i64 most] [some (rdrF B bs a bad c)] (.int .i64 v) [some (rdrF B bs a2 bad2 c)] := by
  refine TC1.of A _ _ T0 (T0_ok hP) (hP ▸ Try.func33) rfl _ rfl (by simp) ?_
  have hll := B.l.len bs
  have hlk : A.len (B.l.l bs) = (bs.length : Int) := by rw [A.ok_len, hll]
  by_cases h0 : 0 ≤ bad
  · obtain ⟨rfl, rfl, rfl⟩ := askR_bad h0 h
    have h21 := Number21 A B hP bs hl a2 ha bad2 c 0 a2 bad2 (by unfold askR; rw [if_pos h0])
    unfold rdrF at *
    cbv
    ((try cbv) <;> (repeat ((with_reducible refine EW.of ?_); cbv)))
    refine ⟨Ent.of (hP ▸ Try.func21) rfl, ?_⟩
    refine TC1.call [0] h21 ?_
    cbv
    (repeat (first | exact trivial | refine And.intro (Emb.Pur _ _) ?_ | refine And.intro rfl ?_ | refine And.intro (Pur.mk rfl) ?_))
    ((try cbv) <;> (repeat ((with_reducible refine EW.of ?_); cbv)))
    refine byes (leT h0) ?_
    ((try cbv) <;> (repeat ((with_reducible refine EW.of ?_); cbv)))
    refine R1.of ?_
    cbv
    (repeat (first | exact trivial | refine And.intro (Emb.Pur _ _) ?_ | refine And.intro rfl ?_ | refine And.intro (Pur.mk rfl) ?_))
  have hb : bad < 0 := by omega
  unfold askR at h
  rw [if_neg h0] at h
  unfold countR at h
  cases hn : numR A bs a with
  | no e a3 =>
    rw [hn] at h
    have he := numR_no hn
    obtain ⟨rfl, rfl, rfl⟩ : 0 = v ∧ a3 = a2 ∧ e = bad2 := by cases h; exact ⟨rfl, rfl, rfl⟩
    have h21 := Number21 A B hP bs hl a ha bad c 0 a3 e (by unfold askR; rw [if_neg h0, hn])
    have he0 : 0 ≤ e := by rw [he.1]; omega
    clear h he
    unfold rdrF at *
    cbv
    ((try cbv) <;> (repeat ((with_reducible refine EW.of ?_); cbv)))
    refine ⟨Ent.of (hP ▸ Try.func21) rfl, ?_⟩
    refine TC1.call [0] h21 ?_
    cbv
    (repeat (first | exact trivial | refine And.intro (Emb.Pur _ _) ?_ | refine And.intro rfl ?_ | refine And.intro (Pur.mk rfl) ?_))
    ((try cbv) <;> (repeat ((with_reducible refine EW.of ?_); cbv)))
    refine byes (leT he0) ?_
    ((try cbv) <;> (repeat ((with_reducible refine EW.of ?_); cbv)))
    refine R1.of ?_
    cbv
    (repeat (first | exact trivial | refine And.intro (Emb.Pur _ _) ?_ | refine And.intro rfl ?_ | refine And.intro (Pur.mk rfl) ?_))
  | ok n a3 =>
    rw [hn] at h
    have hn3 := numR_ok hn
    have h21 := Number21 A B hP bs hl a ha bad c n a3 bad (by unfold askR; rw [if_neg h0, hn])
    have h44 := fails44 A B hP bs a3 bad c hb a
    have hmx : A.mx size 1 ≠ 0 := by
      rw [A.ok_mx]
      split <;> omega
    simp only [RR.bind] at h
    obtain ⟨cb, hcb⟩ : ∃ b, b = countB A bs.length a3 n size most := ⟨_, rfl⟩
    rw [← hcb] at h
    obtain rfl : a3 = a2 := by
      cases cb <;> (cases h; rfl)
    have hy : cb = true → (0 = v ∧ (a : Int) = bad2) := by rintro rfl; cases h; exact ⟨rfl, rfl⟩
    have hn' : cb = false → (n = v ∧ bad = bad2) := by rintro rfl; cases h; exact ⟨rfl, rfl⟩
    unfold countB at hcb
    rw [← hlk] at hcb
    obtain ⟨q3, hq3⟩ : ∃ b, b = A.lt (A.op .quo .i64 (A.op .sub .i64 (A.len (B.l.l bs)) (a3 : Int)) (A.mx size 1)) n := ⟨_, rfl⟩
    rw [← hq3] at hcb
    clear hn hn3 h
    unfold rdrF at *
    cbv
    ((try cbv) <;> (repeat ((with_reducible refine EW.of ?_); cbv)))
    refine ⟨Ent.of (hP ▸ Try.func21) rfl, ?_⟩
    refine TC1.call [0] h21 ?_
    cbv
    (repeat (first | exact trivial | refine And.intro (Emb.Pur _ _) ?_ | refine And.intro rfl ?_ | refine And.intro (Pur.mk rfl) ?_))
    ((try cbv) <;> (repeat ((with_reducible refine EW.of ?_); cbv)))
    refine bno (leF hb) ?_
    ((try cbv) <;> (repeat ((with_reducible refine EW.of ?_); cbv)))
    (refine TW.draw (A := A) (T0_ok hP) (hP ▸ follows_mixed) (by kernel_rfl) rfl ?_; cbv)
    refine bsplit (fun h1 => ?_) (fun h1 => ?_)
    · rw [if_pos h1] at hcb
      have e1 := (hy hcb).1
      have e2 := (hy hcb).2
      cbv
      ((try cbv) <;> (repeat ((with_reducible refine EW.of ?_); cbv)))
      refine ⟨Ent.of (hP ▸ Try.func44) rfl, ?_⟩
      refine TC1.call [0] h44 ?_
      cbv
      (repeat (first | exact trivial | refine And.intro (Emb.Pur _ _) ?_ | refine And.intro rfl ?_ | refine And.intro (Pur.mk rfl) ?_))
      ((try cbv) <;> (repeat ((with_reducible refine EW.of ?_); cbv)))
      refine R1.of ?_
      cbv
      (repeat (first | exact trivial | refine And.intro (Emb.Pur _ _) ?_ | refine And.intro rfl ?_ | refine And.intro e1 ?_ | refine And.intro e2 ?_))
    rw [if_neg (show ¬ A.lt n 0 = true by rw [show A.lt n 0 = false from h1]; decide)] at hcb
    cbv
    refine bsplit (fun h2 => ?_) (fun h2 => ?_)
    · rw [if_pos h2] at hcb
      have e1 := (hy hcb).1
      have e2 := (hy hcb).2
      cbv
      ((try cbv) <;> (repeat ((with_reducible refine EW.of ?_); cbv)))
      refine ⟨Ent.of (hP ▸ Try.func44) rfl, ?_⟩
      refine TC1.call [0] h44 ?_
      cbv
      (repeat (first | exact trivial | refine And.intro (Emb.Pur _ _) ?_ | refine And.intro rfl ?_ | refine And.intro (Pur.mk rfl) ?_))
      ((try cbv) <;> (repeat ((with_reducible refine EW.of ?_); cbv)))
      refine R1.of ?_
      cbv
      (repeat (first | exact trivial | refine And.intro (Emb.Pur _ _) ?_ | refine And.intro rfl ?_ | refine And.intro e1 ?_ | refine And.intro e2 ?_))
    rw [if_neg (show ¬ A.lt most n = true by rw [show A.lt most n = false from h2]; decide)] at hcb
    cbv
    refine ⟨hmx, ?_⟩
    cbv
    ((try cbv) <;> (repeat ((with_reducible refine EW.of ?_); cbv)))
    refine bsplit (fun h3 => ?_) (fun h3 => ?_)
    · have h3 : q3 = true := hq3.trans h3
      rw [h3] at hcb
      have e1 := (hy hcb).1
      have e2 := (hy hcb).2
      cbv
      ((try cbv) <;> (repeat ((with_reducible refine EW.of ?_); cbv)))
      refine ⟨Ent.of (hP ▸ Try.func44) rfl, ?_⟩
      refine TC1.call [0] h44 ?_
      cbv
      (repeat (first | exact trivial | refine And.intro (Emb.Pur _ _) ?_ | refine And.intro rfl ?_ | refine And.intro (Pur.mk rfl) ?_))
      ((try cbv) <;> (repeat ((with_reducible refine EW.of ?_); cbv)))
      refine R1.of ?_
      cbv
      (repeat (first | exact trivial | refine And.intro (Emb.Pur _ _) ?_ | refine And.intro rfl ?_ | refine And.intro e1 ?_ | refine And.intro e2 ?_))
    have h3 : q3 = false := hq3.trans h3
    rw [h3] at hcb
    have e1 := (hn' hcb).1
    have e2 := (hn' hcb).2
    ((try cbv) <;> (repeat ((with_reducible refine EW.of ?_); cbv)))
    refine R1.of ?_
    cbv
    (repeat (first | exact trivial | refine And.intro (Emb.Pur _ _) ?_ | refine And.intro rfl ?_ | refine And.intro e1 ?_ | refine And.intro e2 ?_))
end Go.Proofs.Ytmbbdabcbnemiaa
