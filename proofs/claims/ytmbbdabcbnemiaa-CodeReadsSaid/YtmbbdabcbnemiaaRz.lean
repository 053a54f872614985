import Derived.Test.YtmbbdabcbnemiaaRy
/-! Steps and counts, asked of a reader. -/
namespace Go.Proofs.Ytmbbdabcbnemiaa
open Go.Proofs.Ytmbbdabcbnemiaa.Tw
set_option maxHeartbeats 1000000 in
theorem askL (A : Ar) (F : EmS) (B : EmB) {P : Program} (hP : P = Try.prog) (bs : List UInt8) (a : Nat) (bad : Int) (r : RR (List Stp))
    (hg : TCX P 53 [.ref 0 1 0 0] [some (.box 1 (.ref 1 3 0 0)), some (rdr B bs a bad)] (r.fin fun l => .sl 9 (F.l.l l)) [some (.box 1 (.ref 1 3 0 0)), some (rdr B bs r.pos bad)]) (t : (List Stp)) (a2 : Nat) (bad2 : Int) (h : askR [] bs a bad r = (t, a2, bad2)) :
    TCX P 52 [.ref 0 3 0 0, .func (.func 53) [] [.ref 1 1 0 0]] [some (rdr B bs a bad), some (.box 1 (.ref 0 3 0 0))] (.ret (.sl 9 (F.l.l t))) [some (rdr B bs a2 bad2), some (.box 1 (.ref 0 3 0 0))] := by
  unfold askR at h
  by_cases h0 : 0 ≤ bad
  · rw [if_pos h0] at h
    cases h
    rw [F.l.nil]
    unfold rdr at *
    refine TCX.ofD A _ _ T0 (T0_ok hP) (hP ▸ Try.func52) rfl _ rfl (by simp) ?_
    refine EWD.seq ?_
    cbv
    refine EWD.seq ?_
    cbv
    ((try cbv) <;> (repeat ((with_reducible refine EW.of ?_); cbv)))
    refine byes (leT h0) ?_
    cbv
    ((try cbv) <;> (repeat ((with_reducible refine EW.of ?_); cbv)))
    refine R1.of ?_
    cbv
    (repeat (first | exact trivial | refine And.intro (Emb.Pur _ _) ?_ | refine And.intro rfl ?_ | refine And.intro (Pur.mk rfl) ?_))
  · rw [if_neg h0] at h
    have hb : bad < 0 := by omega
    cases r with
    | no e a3 =>
      cases h
      rw [F.l.nil]
      replace hg : TCX P 53 _ _ (.pan (failAV bad2)) [some (.box 1 (.ref 1 3 0 0)), some (rdr B bs a2 bad)] := hg
      unfold rdr failAV at *
      refine TCX.ofD A _ _ T0 (T0_ok hP) (hP ▸ Try.func52) rfl _ rfl (by simp) ?_
      refine EWD.seq ?_
      cbv
      refine EWD.seq ?_
      cbv
      ((try cbv) <;> (repeat ((with_reducible refine EW.of ?_); cbv)))
      refine bno (leF hb) ?_
      cbv
      ((try cbv) <;> (repeat ((with_reducible refine EW.of ?_); cbv)))
      refine EWD.defer ?_
      cbv
      refine ⟨Ent.of (hP ▸ Try.func53) rfl, ?_⟩
      refine TCX.call [1, 0] hg ?_
      cbv
      (repeat (first | exact trivial | refine And.intro (Emb.Pur _ _) ?_ | refine And.intro rfl ?_ | refine And.intro (Pur.mk rfl) ?_))
      ((try cbv) <;> (repeat ((with_reducible refine EW.of ?_); cbv)))
      refine ⟨Ent.of (hP ▸ Try.func69) rfl, ?_⟩
      refine DC.of A T0 (T0_ok hP) (hP ▸ Try.func69) rfl _ rfl (by simp) rfl rfl rfl rfl rfl ?_
      cbv
      ((try cbv) <;> (repeat ((with_reducible refine EW.of ?_); cbv)))
      refine R1.of ?_
      cbv
      (repeat (first | exact trivial | refine And.intro (Emb.Pur _ _) ?_ | refine And.intro rfl ?_ | refine And.intro (Pur.mk rfl) ?_))
    | ok v a3 =>
      cases h
      replace hg : TCX P 53 _ _ (.ret (.sl 9 (F.l.l t))) [some (.box 1 (.ref 1 3 0 0)), some (rdr B bs a2 bad)] := hg
      unfold rdr at *
      refine TCX.ofD A _ _ T0 (T0_ok hP) (hP ▸ Try.func52) rfl _ rfl (by simp) ?_
      refine EWD.seq ?_
      cbv
      refine EWD.seq ?_
      cbv
      ((try cbv) <;> (repeat ((with_reducible refine EW.of ?_); cbv)))
      refine bno (leF hb) ?_
      cbv
      ((try cbv) <;> (repeat ((with_reducible refine EW.of ?_); cbv)))
      refine EWD.defer ?_
      cbv
      refine ⟨Ent.of (hP ▸ Try.func53) rfl, ?_⟩
      refine TCX.call [1, 0] hg ?_
      cbv
      (repeat (first | exact trivial | refine And.intro (Emb.Pur _ _) ?_ | refine And.intro rfl ?_ | refine And.intro (Pur.mk rfl) ?_))
      ((try cbv) <;> (repeat ((with_reducible refine EW.of ?_); cbv)))
      refine ⟨Ent.of (hP ▸ Try.func69) rfl, ?_⟩
      refine DC.of A T0 (T0_ok hP) (hP ▸ Try.func69) rfl _ rfl (by simp) rfl rfl rfl rfl rfl ?_
      cbv
      ((try cbv) <;> (repeat ((with_reducible refine EW.of ?_); cbv)))
      refine R1.of ?_
      cbv
      (repeat (first | exact trivial | refine And.intro (Emb.Pur _ _) ?_ | refine And.intro rfl ?_ | refine And.intro (Pur.mk rfl) ?_))
set_option maxHeartbeats 1000000 in
theorem askC (A : Ar) (size most : Int) (B : EmB) {P : Program} (hP : P = Try.prog) (bs : List UInt8) (a : Nat) (bad : Int) (r : RR Int)
    (hg : TCX P 59 [.ref 1 1 0 0, .ref 2 1 0 0, .ref 3 1 0 0] [some (rdr B bs a bad), some (.box 1 (.ref 0 3 0 0)), some (.box 1 (.int .i64 size)), some (.box 1 (.int .i64 most))] (r.fin fun n => .int .i64 n) [some (rdr B bs r.pos bad), some (.box 1 (.ref 0 3 0 0)), some (.box 1 (.int .i64 size)), some (.box 1 (.int .i64 most))]) (t : Int) (a2 : Nat) (bad2 : Int) (h : askR 0 bs a bad r = (t, a2, bad2)) :
    TCX P 42 [.ref 0 3 0 0, .func (.func 59) [] [.ref 1 1 0 0, .ref 2 1 0 0, .ref 3 1 0 0]] [some (rdr B bs a bad), some (.box 1 (.ref 0 3 0 0)), some (.box 1 (.int .i64 size)), some (.box 1 (.int .i64 most))] (.ret (.int .i64 t)) [some (rdr B bs a2 bad2), some (.box 1 (.ref 0 3 0 0)), some (.box 1 (.int .i64 size)), some (.box 1 (.int .i64 most))] := by
  unfold askR at h
  by_cases h0 : 0 ≤ bad
  · rw [if_pos h0] at h
    cases h
    skip
    unfold rdr at *
    refine TCX.ofD A _ _ T0 (T0_ok hP) (hP ▸ Try.func42) rfl _ rfl (by simp) ?_
    refine EWD.seq ?_
    cbv
    refine EWD.seq ?_
    cbv
    ((try cbv) <;> (repeat ((with_reducible refine EW.of ?_); cbv)))
    refine byes (leT h0) ?_
    cbv
    ((try cbv) <;> (repeat ((with_reducible refine EW.of ?_); cbv)))
    refine R1.of ?_
    cbv
    (repeat (first | exact trivial | refine And.intro (Emb.Pur _ _) ?_ | refine And.intro rfl ?_ | refine And.intro (Pur.mk rfl) ?_))
  · rw [if_neg h0] at h
    have hb : bad < 0 := by omega
    cases r with
    | no e a3 =>
      cases h
      skip
      replace hg : TCX P 59 _ _ (.pan (failAV bad2)) [some (rdr B bs a2 bad), some (.box 1 (.ref 0 3 0 0)), some (.box 1 (.int .i64 size)), some (.box 1 (.int .i64 most))] := hg
      unfold rdr failAV at *
      refine TCX.ofD A _ _ T0 (T0_ok hP) (hP ▸ Try.func42) rfl _ rfl (by simp) ?_
      refine EWD.seq ?_
      cbv
      refine EWD.seq ?_
      cbv
      ((try cbv) <;> (repeat ((with_reducible refine EW.of ?_); cbv)))
      refine bno (leF hb) ?_
      cbv
      ((try cbv) <;> (repeat ((with_reducible refine EW.of ?_); cbv)))
      refine EWD.defer ?_
      cbv
      refine ⟨Ent.of (hP ▸ Try.func59) rfl, ?_⟩
      refine TCX.call [0, 1, 2, 3] hg ?_
      cbv
      (repeat (first | exact trivial | refine And.intro (Emb.Pur _ _) ?_ | refine And.intro rfl ?_ | refine And.intro (Pur.mk rfl) ?_))
      ((try cbv) <;> (repeat ((with_reducible refine EW.of ?_); cbv)))
      refine ⟨Ent.of (hP ▸ Try.func61) rfl, ?_⟩
      refine DC.of A T0 (T0_ok hP) (hP ▸ Try.func61) rfl _ rfl (by simp) rfl rfl rfl rfl rfl ?_
      cbv
      ((try cbv) <;> (repeat ((with_reducible refine EW.of ?_); cbv)))
      refine R1.of ?_
      cbv
      (repeat (first | exact trivial | refine And.intro (Emb.Pur _ _) ?_ | refine And.intro rfl ?_ | refine And.intro (Pur.mk rfl) ?_))
    | ok v a3 =>
      cases h
      replace hg : TCX P 59 _ _ (.ret (.int .i64 t)) [some (rdr B bs a2 bad), some (.box 1 (.ref 0 3 0 0)), some (.box 1 (.int .i64 size)), some (.box 1 (.int .i64 most))] := hg
      unfold rdr at *
      refine TCX.ofD A _ _ T0 (T0_ok hP) (hP ▸ Try.func42) rfl _ rfl (by simp) ?_
      refine EWD.seq ?_
      cbv
      refine EWD.seq ?_
      cbv
      ((try cbv) <;> (repeat ((with_reducible refine EW.of ?_); cbv)))
      refine bno (leF hb) ?_
      cbv
      ((try cbv) <;> (repeat ((with_reducible refine EW.of ?_); cbv)))
      refine EWD.defer ?_
      cbv
      refine ⟨Ent.of (hP ▸ Try.func59) rfl, ?_⟩
      refine TCX.call [0, 1, 2, 3] hg ?_
      cbv
      (repeat (first | exact trivial | refine And.intro (Emb.Pur _ _) ?_ | refine And.intro rfl ?_ | refine And.intro (Pur.mk rfl) ?_))
      ((try cbv) <;> (repeat ((with_reducible refine EW.of ?_); cbv)))
      refine ⟨Ent.of (hP ▸ Try.func61) rfl, ?_⟩
      refine DC.of A T0 (T0_ok hP) (hP ▸ Try.func61) rfl _ rfl (by simp) rfl rfl rfl rfl rfl ?_
      cbv
      ((try cbv) <;> (repeat ((with_reducible refine EW.of ?_); cbv)))
      refine R1.of ?_
      cbv
      (repeat (first | exact trivial | refine And.intro (Emb.Pur _ _) ?_ | refine And.intro rfl ?_ | refine And.intro (Pur.mk rfl) ?_))
set_option maxHeartbeats 1000000 in
theorem Steps29 (A : Ar) (E : Em) (B : EmB) (F : EmS) {P : Program} (hP : P = Try.prog) (bs : List UInt8) (hl : bs.length ≤ 1000000000) (a : Nat) (ha : a ≤ bs.length) (bad : Int) (t : List Stp) (a2 : Nat) (bad2 : Int) (h : askR [] bs a bad (stepsR A bs a) = (t, a2, bad2)) :
    TC1 P 29 [.ref 0 3 0 0] [some (rdr B bs a bad)] (.sl 9 (F.l.l t)) [some (rdr B bs a2 bad2)] := by
  have h52 := askL A F B hP bs a bad _ (steps53 A E B F hP bs hl a ha bad) t a2 bad2 h
  unfold rdr at *
  refine TC1.of A _ _ T0 (T0_ok hP) (hP ▸ Try.func29) rfl _ rfl (by simp) ?_
  cbv
  ((try cbv) <;> (repeat ((with_reducible refine EW.of ?_); cbv)))
  refine ⟨Ent.of (hP ▸ Try.func52) rfl, ?_⟩
  refine TCX.call [0, 1] h52 ?_
  cbv
  (repeat (first | exact trivial | refine And.intro (Emb.Pur _ _) ?_ | refine And.intro rfl ?_ | refine And.intro (Pur.mk rfl) ?_))
  ((try cbv) <;> (repeat ((with_reducible refine EW.of ?_); cbv)))
  refine R1.of ?_
  cbv
  (repeat (first | exact trivial | refine And.intro (Emb.Pur _ _) ?_ | refine And.intro rfl ?_ | refine And.intro (Pur.mk rfl) ?_))
theorem Count32 (A : Ar) (B : EmB) {P : Program} (hP : P = Try.prog) (bs : List UInt8) (hl : bs.length ≤ 1000000000) (a : Nat) (ha : a ≤ bs.length) (bad : Int) (size most : Int) (t : Int) (a2 : Nat) (bad2 : Int) (h : askR 0 bs a bad (countR A bs a size most) = (t, a2, bad2)) :
    TC1 P 32 [.ref 0 3 0 0, .int .i64 size, .int .i64 most] [some (rdr B bs a bad)] (.int .i64 t) [some (rdr B bs a2 bad2)] := by
  have h42 := askC A size most B hP bs a bad _ (count59 A B hP bs hl a ha bad size most) t a2 bad2 h
  unfold rdr at *
  refine TC1.of A _ _ T0 (T0_ok hP) (hP ▸ Try.func32) rfl _ rfl (by simp) ?_
  cbv
  ((try cbv) <;> (repeat ((with_reducible refine EW.of ?_); cbv)))
  refine ⟨Ent.of (hP ▸ Try.func42) rfl, ?_⟩
  refine TCX.call [0, 1, 2, 3] h42 ?_
  cbv
  (repeat (first | exact trivial | refine And.intro (Emb.Pur _ _) ?_ | refine And.intro rfl ?_ | refine And.intro (Pur.mk rfl) ?_))
  ((try cbv) <;> (repeat ((with_reducible refine EW.of ?_); cbv)))
  refine R1.of ?_
  cbv
  (repeat (first | exact trivial | refine And.intro (Emb.Pur _ _) ?_ | refine And.intro rfl ?_ | refine And.intro (Pur.mk rfl) ?_))
end Go.Proofs.Ytmbbdabcbnemiaa
