import Derived.Test.YtmbbdabcbnemiaaRx
/-! A reader's steps and counts, asked for. -/
namespace Go.Proofs.Ytmbbdabcbnemiaa
open Go.Proofs.Ytmbbdabcbnemiaa.Tw
theorem stepR_ok {A : Ar} {bs : List UInt8} {a a2 : Nat} {x : Stp} (h : stepR A bs a = .ok x a2) : a2 ≤ bs.length := by
  unfold stepR at h
  cases h0 : smallR A bs a with
  | no e a3 => rw [h0] at h; cases h
  | ok op b0 =>
  rw [h0] at h
  simp only [RR.bind] at h
  cases h1 : numR A bs b0 with
  | no e a3 => rw [h1] at h; cases h
  | ok id b1 =>
  rw [h1] at h
  simp only at h
  cases h2 : numR A bs b1 with
  | no e a3 => rw [h2] at h; cases h
  | ok par b2 =>
  rw [h2] at h
  simp only at h
  cases h3 : numR A bs b2 with
  | no e a3 => rw [h3] at h; cases h
  | ok pl b3 =>
  rw [h3] at h
  simp only at h
  cases h4 : textR A bs b3 with
  | no e a3 => rw [h4] at h; cases h
  | ok s b4 =>
  rw [h4] at h
  simp only at h
  cases h5 : nodeTR A bs b4 with
  | no e a3 => rw [h5] at h; cases h
  | ok t b5 =>
  rw [h5] at h
  cases h
  exact nodeTR_ok (textR_ok h4) h5
def oneS (A : Ar) (bs : List UInt8) (c a : Nat) : RN Stp := (stepR A bs a).toN c
def stepsR (A : Ar) (bs : List UInt8) (a : Nat) : RR (List Stp) := (countR A bs a 57 60).bind fun n a2 => (listR (oneS A bs) n.toNat 0 a2).toR
theorem oneS_good {A : Ar} {bs : List UInt8} (c a : Nat) (x : Stp) (c2 a2 : Nat) (hc : c ≤ 200) (ha : a ≤ bs.length) (h : oneS A bs c a = .ok x c2 a2) : c2 ≤ 200 ∧ a2 ≤ bs.length := by
  unfold oneS at h
  cases hs : stepR A bs a with
  | no e a3 => rw [hs] at h; cases h
  | ok y a3 => rw [hs] at h; cases h; exact ⟨hc, stepR_ok hs⟩
set_option maxHeartbeats 1000000 in
theorem steps53 (A : Ar) (E : Em) (B : EmB) (F : EmS) {P : Program} (hP : P = Try.prog) (bs : List UInt8) (hl : bs.length ≤ 1000000000) (a : Nat) (ha : a ≤ bs.length) (bad : Int) :
    TCX P 53 [.ref 0 1 0 0] [some (.box 1 (.ref 1 3 0 0)), some (rdr B bs a bad)] ((stepsR A bs a).fin fun l => .sl 9 (F.l.l l)) [some (.box 1 (.ref 1 3 0 0)), some (rdr B bs (stepsR A bs a).pos bad)] := by
  obtain ⟨R, hR⟩ : ∃ R, stepsR A bs a = R := ⟨_, rfl⟩
  rw [hR]
  obtain ⟨x, hx⟩ : ∃ x, x = R.fin fun l => .sl 9 (F.l.l l) := ⟨_, rfl⟩
  obtain ⟨M, hM⟩ : ∃ M, M = [some (.box 1 (.ref 1 3 0 0)), some (rdr B bs R.pos bad)] := ⟨_, rfl⟩
  rw [← hx, ← hM]
  unfold stepsR at hR
  refine TCX.of A _ _ T0 (T0_ok hP) (hP ▸ Try.func53) rfl _ rfl (by simp) ?_
  unfold rdr
  cbv
  ((try cbv) <;> (repeat ((with_reducible refine EW.of ?_); cbv)))
  have h55 := count55 A B hP bs hl a ha bad 57 60
  cases h4 : countR A bs a 57 60 with
  | no e a5 =>
    rw [h4] at h55 hR
    rw [← hR] at hx hM
    subst hx hM
    (refine TW.drawE (A := A) true [some (.box 1 (.ref 1 3 0 0))] [some (.box 3 (.agg [.sl 1 (B.l.l bs), .int .i64 a, .int .i64 bad]))] [(1, [none])] rfl (T0_ok hP) (hP ▸ follows_mixed) (by kernel_rfl) rfl (by kernel_rfl) (by cbv) (by first | kernel_rfl | cbv) rfl rfl rfl ?_; cbv)
    refine And.intro (And.intro (Ent.of (hP ▸ Try.func55) rfl) ?_) trivial
    refine TCX.call [1] h55 ?_
    cbv
    (repeat (first | exact trivial | refine And.intro (Emb.Pur _ _) ?_ | refine And.intro rfl ?_ | refine And.intro (Pur.mk rfl) ?_))
    refine R1.of ?_
    cbv
    (repeat (first | exact trivial | refine And.intro (Emb.Pur _ _) ?_ | refine And.intro rfl ?_ | refine And.intro (Pur.mk rfl) ?_))
  | ok n a5 =>
  rw [h4] at h55 hR
  have hc4 := countR_ok hl h4
  obtain ⟨m, rfl⟩ : ∃ m : Nat, n = m := ⟨n.toNat, by omega⟩
  simp only [RR.bind, Int.toNat_natCast] at hR
  replace h55 : TC1 P _ _ _ (.int .i64 (m : Int)) [some (rdr B bs a5 bad)] := h55
  have h54 := list54 A E B F hP bs bad (oneS A bs) (fun c a hc ha => by
    have h := step56 A E B F hP bs hl a ha bad
    unfold oneS
    cases hs : stepR A bs a with
    | no e a3 => rw [hs] at h; exact h
    | ok y a3 => rw [hs] at h; exact h) oneS_good m (by omega) 0 a5 (Nat.zero_le _) hc4.2.1 _ rfl
  cases h5 : listR (oneS A bs) m 0 a5 with
  | no e c6 a6 =>
    rw [h5] at h54 hR
    rw [← hR] at hx hM
    subst hx hM
    (refine TW.drawE (A := A) true [some (.box 1 (.ref 1 3 0 0))] [some (.box 3 (.agg [.sl 1 (B.l.l bs), .int .i64 a, .int .i64 bad]))] [(1, [some (.box 3 (.agg [.sl 1 (B.l.l bs), .int .i64 a5, .int .i64 bad]))]), (4, [none])] rfl (T0_ok hP) (hP ▸ follows_mixed) (by kernel_rfl) rfl (by kernel_rfl) (by cbv) (by first | kernel_rfl | cbv) rfl rfl rfl ?_; cbv)
    refine And.intro (Ent.of (hP ▸ Try.func55) rfl) ⟨.int .i64 m, [some (.box 1 (.ref 1 3 0 0)), some (.box 3 (.agg [.sl 1 (B.l.l bs), .int .i64 a5, .int .i64 bad]))], TC1.call [1] h55 ?_, ⟨rfl, ?_⟩⟩
    · skip
      cbv
      (repeat (first | exact trivial | refine And.intro (Emb.Pur _ _) ?_ | refine And.intro rfl ?_ | refine And.intro (Pur.mk rfl) ?_))
    cbv
    refine And.intro (And.intro (Ent.of (hP ▸ Try.func54) rfl) ?_) trivial
    refine TCX.call [1] h54 ?_
    cbv
    (repeat (first | exact trivial | refine And.intro (Emb.Pur _ _) ?_ | refine And.intro rfl ?_ | refine And.intro (Pur.mk rfl) ?_))
    refine R1.of ?_
    cbv
    (repeat (first | exact trivial | refine And.intro (Emb.Pur _ _) ?_ | refine And.intro rfl ?_ | refine And.intro (Pur.mk rfl) ?_))
  | ok xs c6 a6 =>
  rw [h5] at h54 hR
  replace hx : x = .ret (.sl 9 (F.l.l xs)) := by rw [hx, ← hR]; rfl
  replace hM : M = [some (.box 1 (.ref 1 3 0 0)), some (rdr B bs a6 bad)] := by rw [hM, ← hR]; rfl
  replace h54 : TC1 P _ _ _ (.sl 9 (F.l.l xs)) [some (rdr B bs a6 bad)] := h54
  subst hx hM
  (refine TW.drawE (A := A) false [some (.box 1 (.ref 1 3 0 0))] [some (.box 3 (.agg [.sl 1 (B.l.l bs), .int .i64 a, .int .i64 bad]))] [(1, [some (.box 3 (.agg [.sl 1 (B.l.l bs), .int .i64 a5, .int .i64 bad]))]), (4, [some (.box 3 (.agg [.sl 1 (B.l.l bs), .int .i64 a6, .int .i64 bad]))])] rfl (T0_ok hP) (hP ▸ follows_mixed) (by kernel_rfl) rfl (by kernel_rfl) (by cbv) (by first | kernel_rfl | cbv) rfl rfl rfl ?_; cbv)
  refine And.intro (Ent.of (hP ▸ Try.func55) rfl) ⟨.int .i64 m, [some (.box 1 (.ref 1 3 0 0)), some (.box 3 (.agg [.sl 1 (B.l.l bs), .int .i64 a5, .int .i64 bad]))], TC1.call [1] h55 ?_, ⟨rfl, ?_⟩⟩
  · skip
    cbv
    (repeat (first | exact trivial | refine And.intro (Emb.Pur _ _) ?_ | refine And.intro rfl ?_ | refine And.intro (Pur.mk rfl) ?_))
  cbv
  refine And.intro (Ent.of (hP ▸ Try.func54) rfl) ⟨.sl 9 (F.l.l xs), [some (.box 1 (.ref 1 3 0 0)), some (.box 3 (.agg [.sl 1 (B.l.l bs), .int .i64 a6, .int .i64 bad]))], TC1.call [1] h54 ?_, ⟨rfl, ?_⟩⟩
  · skip
    cbv
    (repeat (first | exact trivial | refine And.intro (Emb.Pur _ _) ?_ | refine And.intro rfl ?_ | refine And.intro (Pur.mk rfl) ?_))
  cbv
  ((try cbv) <;> (repeat ((with_reducible refine EW.of ?_); cbv)))
  refine R1.of ?_
  cbv
  (repeat (first | exact trivial | refine And.intro (Emb.Pur _ _) ?_ | refine And.intro rfl ?_ | refine And.intro (Pur.mk rfl) ?_))
theorem count59 (A : Ar) (B : EmB) {P : Program} (hP : P = Try.prog) (bs : List UInt8) (hl : bs.length ≤ 1000000000) (a : Nat) (ha : a ≤ bs.length) (bad : Int) (size most : Int) :
    TCX P 59 [.ref 1 1 0 0, .ref 2 1 0 0, .ref 3 1 0 0] [some (rdr B bs a bad), some (.box 1 (.ref 0 3 0 0)), some (.box 1 (.int .i64 size)), some (.box 1 (.int .i64 most))] ((countR A bs a size most).fin fun n => .int .i64 n) [some (rdr B bs (countR A bs a size most).pos bad), some (.box 1 (.ref 0 3 0 0)), some (.box 1 (.int .i64 size)), some (.box 1 (.int .i64 most))] := by
  have h55 := count55 A B hP bs hl a ha bad size most
  generalize countR A bs a size most = r at h55 ⊢
  refine TCX.of A _ _ T0 (T0_ok hP) (hP ▸ Try.func59) rfl _ rfl (by simp) ?_
  unfold rdr
  cases r with
  | no e a2 =>
    cbv
    ((try cbv) <;> (repeat ((with_reducible refine EW.of ?_); cbv)))
    refine ⟨Ent.of (hP ▸ Try.func55) rfl, ?_⟩
    refine TCX.call [0] h55 ?_
    cbv
    (repeat (first | exact trivial | refine And.intro (Emb.Pur _ _) ?_ | refine And.intro rfl ?_ | refine And.intro (Pur.mk rfl) ?_))
    refine R1.of ?_
    cbv
    (repeat (first | exact trivial | refine And.intro (Emb.Pur _ _) ?_ | refine And.intro rfl ?_ | refine And.intro (Pur.mk rfl) ?_))
  | ok n a2 =>
    cbv
    ((try cbv) <;> (repeat ((with_reducible refine EW.of ?_); cbv)))
    refine ⟨Ent.of (hP ▸ Try.func55) rfl, ?_⟩
    refine TCX.call [0] h55 ?_
    cbv
    (repeat (first | exact trivial | refine And.intro (Emb.Pur _ _) ?_ | refine And.intro rfl ?_ | refine And.intro (Pur.mk rfl) ?_))
    ((try cbv) <;> (repeat ((with_reducible refine EW.of ?_); cbv)))
    refine R1.of ?_
    cbv
    (repeat (first | exact trivial | refine And.intro (Emb.Pur _ _) ?_ | refine And.intro rfl ?_ | refine And.intro (Pur.mk rfl) ?_))
end Go.Proofs.Ytmbbdabcbnemiaa
