import Derived.Test.YtmbbdabcbnemiaaRu
/-! A reader's nodes, asked for. -/
namespace Go.Proofs.Ytmbbdabcbnemiaa
open Go.Proofs.Ytmbbdabcbnemiaa.Tw
def RN.toR {α : Type} : RN α → RR α
  | .ok v _ a => .ok v a
  | .no e _ a => .no e a
def nodeTR (A : Ar) (bs : List UInt8) (a : Nat) : RR Tree := (nodeR A bs 40 0 a).toR
theorem nodeTR_ok {A : Ar} {bs : List UInt8} {a a2 : Nat} {t : Tree} (ha : a ≤ bs.length) (h : nodeTR A bs a = .ok t a2) : a2 ≤ bs.length := by
  unfold nodeTR at h
  cases hn : nodeR A bs 40 0 a with
  | no e c a3 => rw [hn] at h; cases h
  | ok v c a3 => rw [hn] at h; cases h; exact (nodeR_good _ _ _ _ _ _ (Nat.zero_le _) ha hn).2
set_option maxHeartbeats 1000000 in
theorem node50 (A : Ar) (E : Em) (B : EmB) {P : Program} (hP : P = Try.prog) (bs : List UInt8) (hl : bs.length ≤ 1000000000) (a : Nat) (ha : a ≤ bs.length) (bad : Int) :
    TCX P 50 [.ref 0 3 0 0] [some (rdr B bs a bad)] ((nodeTR A bs a).fin E.tree.v) [some (rdr B bs (nodeTR A bs a).pos bad)] := by
  have h66 := node66 A E B hP bs hl bad 40 (Nat.le_refl _) 1 (by decide) 0 a (Nat.zero_le _) ha
  unfold nodeTR
  generalize nodeR A bs 40 0 a = R at h66
  obtain ⟨x, hx⟩ : ∃ x, x = R.toR.fin E.tree.v := ⟨_, rfl⟩
  obtain ⟨M, hM⟩ : ∃ M, M = [some (rdr B bs R.toR.pos bad)] := ⟨_, rfl⟩
  rw [← hx, ← hM]
  refine TCX.of A _ _ T0 (T0_ok hP) (hP ▸ Try.func50) rfl _ rfl (by simp) ?_
  unfold rdr
  cbv
  ((try cbv) <;> (repeat ((with_reducible refine EW.of ?_); cbv)))
  refine ⟨Ent.of (hP ▸ Try.func66) rfl, ?_⟩
  cases R with
  | no e c2 a2 =>
    subst hx hM
    refine TCX.call [0, 1, 3, 4] h66 ?_
    cbv
    (repeat (first | exact trivial | refine And.intro (Emb.Pur _ _) ?_ | refine And.intro rfl ?_ | refine And.intro (Pur.mk rfl) ?_))
    refine R1.of ?_
    cbv
    (repeat (first | exact trivial | refine And.intro (Emb.Pur _ _) ?_ | refine And.intro rfl ?_ | refine And.intro (Pur.mk rfl) ?_))
  | ok t c2 a2 =>
    obtain ⟨i, k, s, ks⟩ := t
    replace h66 : TCX P _ _ _ (.ret (E.tree.v (.node i k s ks))) (stN B bs bad c2 a2) := h66
    replace hx : x = .ret (E.tree.v (.node i k s ks)) := hx
    rw [E.node] at h66 hx
    subst hx hM
    refine TCX.call [0, 1, 3, 4] h66 ?_
    cbv
    (repeat (first | exact trivial | refine And.intro (Emb.Pur _ _) ?_ | refine And.intro rfl ?_ | refine And.intro (Pur.mk rfl) ?_))
    ((try cbv) <;> (repeat ((with_reducible refine EW.of ?_); cbv)))
    refine R1.of ?_
    cbv
    (repeat (first | exact trivial | refine And.intro (Emb.Pur _ _) ?_ | refine And.intro rfl ?_ | refine And.intro (Pur.mk rfl) ?_))
def tree0 : Tree := .node 0 0 ⟨#[]⟩ []
theorem Em.zero (E : Em) : E.tree.v tree0 = .agg [.int .i64 0, .int .i64 0, .str ⟨#[]⟩, .sl 4 []] := by
  unfold tree0
  rw [E.node, E.tree.nil]
set_option maxHeartbeats 1000000 in
theorem askN (A : Ar) (E : Em) (B : EmB) {P : Program} (hP : P = Try.prog) (bs : List UInt8) (a : Nat) (bad : Int) (g : FuncId) (hen : Ent P g) (r : RR Tree)
    (hg : TCX P g [.ref 0 3 0 0] [some (rdr B bs a bad)] (r.fin E.tree.v) [some (rdr B bs r.pos bad)]) (t : Tree) (a2 : Nat) (bad2 : Int) (h : askR tree0 bs a bad r = (t, a2, bad2)) :
    TCX P 49 [.ref 0 3 0 0, .func (.func g) [.ref 0 3 0 0] []] [some (rdr B bs a bad)] (.ret (E.tree.v t)) [some (rdr B bs a2 bad2)] := by
  unfold askR at h
  by_cases h0 : 0 ≤ bad
  · rw [if_pos h0] at h
    cases h
    rw [E.zero]
    unfold rdr at *
    refine TCX.ofD A _ _ T0 (T0_ok hP) (hP ▸ Try.func49) rfl _ rfl (by simp) ?_
    refine EWD.seq ?_
    cbv
    refine EWD.seq ?_
    cbv
    ((try cbv) <;> (repeat ((with_reducible refine EW.of ?_); cbv)))
    refine byes (leT h0) ?_
    cbv
    ((try cbv) <;> (repeat ((with_reducible refine EW.of ?_); cbv)))
    refine R1.of ?_
    cbv
    (repeat (first | exact trivial | refine And.intro (Emb.Pur _ _) ?_ | refine And.intro rfl ?_ | refine And.intro (Pur.mk rfl) ?_))
  · rw [if_neg h0] at h
    have hb : bad < 0 := by omega
    cases r with
    | no e a3 =>
      cases h
      rw [E.zero]
      replace hg : TCX P g _ _ (.pan (failAV bad2)) [some (rdr B bs a2 bad)] := hg
      unfold rdr failAV at *
      refine TCX.ofD A _ _ T0 (T0_ok hP) (hP ▸ Try.func49) rfl _ rfl (by simp) ?_
      refine EWD.seq ?_
      cbv
      refine EWD.seq ?_
      cbv
      ((try cbv) <;> (repeat ((with_reducible refine EW.of ?_); cbv)))
      refine bno (leF hb) ?_
      cbv
      ((try cbv) <;> (repeat ((with_reducible refine EW.of ?_); cbv)))
      refine EWD.defer ?_
      cbv
      refine ⟨hen, ?_⟩
      refine TCX.call [0] hg ?_
      cbv
      (repeat (first | exact trivial | refine And.intro (Emb.Pur _ _) ?_ | refine And.intro rfl ?_ | refine And.intro (Pur.mk rfl) ?_ | refine And.intro (Pur.mk (by assumption)) ?_))
      ((try cbv) <;> (repeat ((with_reducible refine EW.of ?_); cbv)))
      refine ⟨Ent.of (hP ▸ Try.func65) rfl, ?_⟩
      refine DC.of A T0 (T0_ok hP) (hP ▸ Try.func65) rfl _ rfl (by simp) rfl rfl rfl rfl rfl ?_
      cbv
      ((try cbv) <;> (repeat ((with_reducible refine EW.of ?_); cbv)))
      (refine TW.drawE (A := A) false [] _ [(6, [some (.box 3 (.agg [.sl 1 (B.l.l bs), .int .i64 a2, .int .i64 bad2])), some (.box 1 (.ref 0 3 0 0)), some (.box 4 (.agg [.int .i64 0, .int .i64 0, .str ⟨#[]⟩, .nils])), some (.box 1 (.agg [.int .i64 bad2])), some (.box 4 (.agg [.int .i64 0, .int .i64 0, .str ⟨#[]⟩, .nils]))])] rfl (T0_ok hP) (hP ▸ follows_mixed) (by kernel_rfl) rfl (by kernel_rfl) (by cbv) (by first | kernel_rfl | cbv) rfl rfl rfl ?_; cbv)
      refine ⟨rfl, ?_⟩
      refine R1.of ?_
      cbv
      (repeat (first | exact trivial | refine And.intro (Emb.Pur _ _) ?_ | refine And.intro rfl ?_ | refine And.intro (Pur.mk rfl) ?_))
    | ok v a3 =>
      cases h
      replace hg : TCX P g _ _ (.ret (E.tree.v t)) [some (rdr B bs a2 bad)] := hg
      obtain ⟨i, k, s, ks⟩ := t
      rw [E.node] at hg ⊢
      unfold rdr at *
      refine TCX.ofD A _ _ T0 (T0_ok hP) (hP ▸ Try.func49) rfl _ rfl (by simp) ?_
      refine EWD.seq ?_
      cbv
      refine EWD.seq ?_
      cbv
      ((try cbv) <;> (repeat ((with_reducible refine EW.of ?_); cbv)))
      refine bno (leF hb) ?_
      cbv
      ((try cbv) <;> (repeat ((with_reducible refine EW.of ?_); cbv)))
      refine EWD.defer ?_
      cbv
      refine ⟨hen, ?_⟩
      refine TCX.call [0] hg ?_
      cbv
      (repeat (first | exact trivial | refine And.intro (Emb.Pur _ _) ?_ | refine And.intro rfl ?_ | refine And.intro (Pur.mk rfl) ?_))
      ((try cbv) <;> (repeat ((with_reducible refine EW.of ?_); cbv)))
      refine ⟨Ent.of (hP ▸ Try.func65) rfl, ?_⟩
      refine DC.of A T0 (T0_ok hP) (hP ▸ Try.func65) rfl _ rfl (by simp) rfl rfl rfl rfl rfl ?_
      cbv
      ((try cbv) <;> (repeat ((with_reducible refine EW.of ?_); cbv)))
      refine R1.of ?_
      cbv
      (repeat (first | exact trivial | refine And.intro (Emb.Pur _ _) ?_ | refine And.intro rfl ?_ | refine And.intro (Pur.mk rfl) ?_))
set_option maxHeartbeats 1000000 in
theorem Node26 (A : Ar) (E : Em) (B : EmB) {P : Program} (hP : P = Try.prog) (bs : List UInt8) (hl : bs.length ≤ 1000000000) (a : Nat) (ha : a ≤ bs.length) (bad : Int) (t : Tree) (a2 : Nat) (bad2 : Int) (h : askR tree0 bs a bad (nodeTR A bs a) = (t, a2, bad2)) :
    TC1 P 26 [.ref 0 3 0 0] [some (rdr B bs a bad)] (E.tree.v t) [some (rdr B bs a2 bad2)] := by
  have h49 := askN A E B hP bs a bad _ (Ent.of (hP ▸ Try.func50) rfl) _ (node50 A E B hP bs hl a ha bad) t a2 bad2 h
  obtain ⟨i, k, s, ks⟩ := t
  rw [E.node] at h49 ⊢
  unfold rdr at *
  refine TC1.of A _ _ T0 (T0_ok hP) (hP ▸ Try.func26) rfl _ rfl (by simp) ?_
  cbv
  ((try cbv) <;> (repeat ((with_reducible refine EW.of ?_); cbv)))
  refine ⟨Ent.of (hP ▸ Try.func49) rfl, ?_⟩
  refine TCX.call [0] h49 ?_
  cbv
  (repeat (first | exact trivial | refine And.intro (Emb.Pur _ _) ?_ | refine And.intro rfl ?_ | refine And.intro (Pur.mk rfl) ?_))
  ((try cbv) <;> (repeat ((with_reducible refine EW.of ?_); cbv)))
  refine R1.of ?_
  cbv
  (repeat (first | exact trivial | refine And.intro (Emb.Pur _ _) ?_ | refine And.intro rfl ?_ | refine And.intro (Pur.mk rfl) ?_))
theorem Small22 (A : Ar) (B : EmB) {P : Program} (hP : P = Try.prog) (bs : List UInt8) (hl : bs.length ≤ 1000000000) (a : Nat) (ha : a ≤ bs.length) (bad : Int) (v : Int) (a2 : Nat) (bad2 : Int) (h : askR 0 bs a bad (smallR A bs a) = (v, a2, bad2)) :
    TC1 P 22 [.ref 0 3 0 0] [some (rdr B bs a bad)] (.int .i8 v) [some (rdr B bs a2 bad2)] := by
  have hg : TCX P 45 [.ref 0 3 0 0, .func (.func 46) [.ref 0 3 0 0] []] [some (rdr B bs a bad)] (.ret (.int .i8 v)) [some (rdr B bs a2 bad2)] := by
    have h43 := small46 A B hP bs hl a ha bad
    unfold askR at h
    by_cases h0 : 0 ≤ bad
    · rw [if_pos h0] at h
      cases h
      exact askS_bad A B hP bs a bad h0 _
    · rw [if_neg h0] at h
      generalize smallR A bs a = r at h h43
      cases r with
      | ok v a2 => cases h; exact askS_small_ok A B hP bs a _ bad (by omega) _ h43
      | no e a2 => cases h; exact askS_small_no A B hP bs a _ bad _ (by omega) h43
  unfold rdr at *
  refine TC1.of A _ _ T0 (T0_ok hP) (hP ▸ Try.func22) rfl _ rfl (by simp) ?_
  cbv
  ((try cbv) <;> (repeat ((with_reducible refine EW.of ?_); cbv)))
  refine ⟨Ent.of (hP ▸ Try.func45) rfl, ?_⟩
  refine TCX.call [0] hg ?_
  cbv
  (repeat (first | exact trivial | refine And.intro (Emb.Pur _ _) ?_ | refine And.intro rfl ?_ | refine And.intro (Pur.mk rfl) ?_))
  ((try cbv) <;> (repeat ((with_reducible refine EW.of ?_); cbv)))
  refine R1.of ?_
  cbv
  (repeat (first | exact trivial | refine And.intro (Emb.Pur _ _) ?_ | refine And.intro rfl ?_ | refine And.intro (Pur.mk rfl) ?_))
theorem Text24 (A : Ar) (B : EmB) {P : Program} (hP : P = Try.prog) (bs : List UInt8) (hl : bs.length ≤ 1000000000) (a : Nat) (ha : a ≤ bs.length) (bad : Int) (v : ByteArray) (a2 : Nat) (bad2 : Int) (h : askR ⟨#[]⟩ bs a bad (textR A bs a) = (v, a2, bad2)) :
    TC1 P 24 [.ref 0 3 0 0] [some (rdr B bs a bad)] (.str v) [some (rdr B bs a2 bad2)] := by
  have hg : TCX P 47 [.ref 0 3 0 0, .func (.func 48) [.ref 0 3 0 0] []] [some (rdr B bs a bad)] (.ret (.str v)) [some (rdr B bs a2 bad2)] := by
    have h43 := text48 A B hP bs hl a ha bad
    unfold askR at h
    by_cases h0 : 0 ≤ bad
    · rw [if_pos h0] at h
      cases h
      exact askT_bad A B hP bs a bad h0 _
    · rw [if_neg h0] at h
      generalize textR A bs a = r at h h43
      cases r with
      | ok v a2 => cases h; exact askT_text_ok A B hP bs a _ bad (by omega) _ h43
      | no e a2 => cases h; exact askT_text_no A B hP bs a _ bad _ (by omega) h43
  unfold rdr at *
  refine TC1.of A _ _ T0 (T0_ok hP) (hP ▸ Try.func24) rfl _ rfl (by simp) ?_
  cbv
  ((try cbv) <;> (repeat ((with_reducible refine EW.of ?_); cbv)))
  refine ⟨Ent.of (hP ▸ Try.func47) rfl, ?_⟩
  refine TCX.call [0] hg ?_
  cbv
  (repeat (first | exact trivial | refine And.intro (Emb.Pur _ _) ?_ | refine And.intro rfl ?_ | refine And.intro (Pur.mk rfl) ?_))
  ((try cbv) <;> (repeat ((with_reducible refine EW.of ?_); cbv)))
  refine R1.of ?_
  cbv
  (repeat (first | exact trivial | refine And.intro (Emb.Pur _ _) ?_ | refine And.intro rfl ?_ | refine And.intro (Pur.mk rfl) ?_))
end Go.Proofs.Ytmbbdabcbnemiaa
