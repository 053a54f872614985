import Derived.Test.YtmbbdabcbnemiaaRv
import Derived.Test.YtmbbdabcbnemiaaRk
/-! A reader's steps. -/
namespace Go.Proofs.Ytmbbdabcbnemiaa
open Go.Proofs.Ytmbbdabcbnemiaa.Tw
def stepR (A : Ar) (bs : List UInt8) (a : Nat) : RR Stp :=
  (smallR A bs a).bind fun op a => (numR A bs a).bind fun id a => (numR A bs a).bind fun par a => (numR A bs a).bind fun pl a => (textR A bs a).bind fun s a => (nodeTR A bs a).bind fun t a => .ok ⟨op, id, par, pl, s, t⟩ a
theorem smallR_ok {A : Ar} {bs : List UInt8} {a a2 : Nat} {n : Int} (h : smallR A bs a = .ok n a2) : a2 ≤ bs.length := by
  unfold smallR at h
  cases ht : takeR bs a 1 with
  | ok l a3 => rw [ht] at h; cases h; exact (takeR_ok ht).2.2
  | no e a3 => rw [ht] at h; cases h
set_option maxHeartbeats 4000000 in
theorem step56 (A : Ar) (E : Em) (B : EmB) (F : EmS) {P : Program} (hP : P = Try.prog) (bs : List UInt8) (hl : bs.length ≤ 1000000000) (a : Nat) (ha : a ≤ bs.length) (bad : Int) :
    TCX P 56 [.ref 0 3 0 0] [some (rdr B bs a bad)] ((stepR A bs a).fin F.l.v) [some (rdr B bs (stepR A bs a).pos bad)] := by
  obtain ⟨R, hR⟩ : ∃ R, stepR A bs a = R := ⟨_, rfl⟩
  rw [hR]
  obtain ⟨x, hx⟩ : ∃ x, x = R.fin F.l.v := ⟨_, rfl⟩
  obtain ⟨M, hM⟩ : ∃ M, M = [some (rdr B bs R.pos bad)] := ⟨_, rfl⟩
  rw [← hx, ← hM]
  unfold stepR at hR
  refine TCX.of A _ _ T0 (T0_ok hP) (hP ▸ Try.func56) rfl _ rfl (by simp) ?_
  unfold rdr
  cbv
  ((try cbv) <;> (repeat ((with_reducible refine EW.of ?_); cbv)))
  have c0 := small46 A B hP bs hl a ha bad
  refine ⟨Ent.of (hP ▸ Try.func46) rfl, ?_⟩
  cases h0 : smallR A bs a with
  | no e a2 =>
    rw [h0] at c0 hR
    rw [← hR] at hx hM
    subst hx hM
    refine TCX.call [0] c0 ?_
    cbv
    (repeat (first | exact trivial | refine And.intro (Emb.Pur _ _) ?_ | refine And.intro rfl ?_ | refine And.intro (Pur.mk rfl) ?_))
    refine R1.of ?_
    cbv
    (repeat (first | exact trivial | refine And.intro (Emb.Pur _ _) ?_ | refine And.intro rfl ?_ | refine And.intro (Pur.mk rfl) ?_))
  | ok op a2 =>
  rw [h0] at c0 hR
  have ha2 := smallR_ok h0
  simp only [RR.bind] at hR
  refine TCX.call [0] c0 ?_
  cbv
  (repeat (first | exact trivial | refine And.intro (Emb.Pur _ _) ?_ | refine And.intro rfl ?_ | refine And.intro (Pur.mk rfl) ?_))
  ((try cbv) <;> (repeat ((with_reducible refine EW.of ?_); cbv)))
  have c1 := number43 A B hP bs hl a2 ha2 bad
  refine ⟨Ent.of (hP ▸ Try.func43) rfl, ?_⟩
  cases h1 : numR A bs a2 with
  | no e a3 =>
    rw [h1] at c1 hR
    rw [← hR] at hx hM
    subst hx hM
    refine TCX.call [0] c1 ?_
    cbv
    (repeat (first | exact trivial | refine And.intro (Emb.Pur _ _) ?_ | refine And.intro rfl ?_ | refine And.intro (Pur.mk rfl) ?_))
    refine R1.of ?_
    cbv
    (repeat (first | exact trivial | refine And.intro (Emb.Pur _ _) ?_ | refine And.intro rfl ?_ | refine And.intro (Pur.mk rfl) ?_))
  | ok id a3 =>
  rw [h1] at c1 hR
  have ha3 := (numR_ok h1).2
  simp only [RR.bind] at hR
  refine TCX.call [0] c1 ?_
  cbv
  (repeat (first | exact trivial | refine And.intro (Emb.Pur _ _) ?_ | refine And.intro rfl ?_ | refine And.intro (Pur.mk rfl) ?_))
  ((try cbv) <;> (repeat ((with_reducible refine EW.of ?_); cbv)))
  have c2 := number43 A B hP bs hl a3 ha3 bad
  refine ⟨Ent.of (hP ▸ Try.func43) rfl, ?_⟩
  cases h2 : numR A bs a3 with
  | no e a4 =>
    rw [h2] at c2 hR
    rw [← hR] at hx hM
    subst hx hM
    refine TCX.call [0] c2 ?_
    cbv
    (repeat (first | exact trivial | refine And.intro (Emb.Pur _ _) ?_ | refine And.intro rfl ?_ | refine And.intro (Pur.mk rfl) ?_))
    refine R1.of ?_
    cbv
    (repeat (first | exact trivial | refine And.intro (Emb.Pur _ _) ?_ | refine And.intro rfl ?_ | refine And.intro (Pur.mk rfl) ?_))
  | ok par a4 =>
  rw [h2] at c2 hR
  have ha4 := (numR_ok h2).2
  simp only [RR.bind] at hR
  refine TCX.call [0] c2 ?_
  cbv
  (repeat (first | exact trivial | refine And.intro (Emb.Pur _ _) ?_ | refine And.intro rfl ?_ | refine And.intro (Pur.mk rfl) ?_))
  ((try cbv) <;> (repeat ((with_reducible refine EW.of ?_); cbv)))
  have c3 := number43 A B hP bs hl a4 ha4 bad
  refine ⟨Ent.of (hP ▸ Try.func43) rfl, ?_⟩
  cases h3 : numR A bs a4 with
  | no e a5 =>
    rw [h3] at c3 hR
    rw [← hR] at hx hM
    subst hx hM
    refine TCX.call [0] c3 ?_
    cbv
    (repeat (first | exact trivial | refine And.intro (Emb.Pur _ _) ?_ | refine And.intro rfl ?_ | refine And.intro (Pur.mk rfl) ?_))
    refine R1.of ?_
    cbv
    (repeat (first | exact trivial | refine And.intro (Emb.Pur _ _) ?_ | refine And.intro rfl ?_ | refine And.intro (Pur.mk rfl) ?_))
  | ok pl a5 =>
  rw [h3] at c3 hR
  have ha5 := (numR_ok h3).2
  simp only [RR.bind] at hR
  refine TCX.call [0] c3 ?_
  cbv
  (repeat (first | exact trivial | refine And.intro (Emb.Pur _ _) ?_ | refine And.intro rfl ?_ | refine And.intro (Pur.mk rfl) ?_))
  ((try cbv) <;> (repeat ((with_reducible refine EW.of ?_); cbv)))
  have c4 := text48 A B hP bs hl a5 ha5 bad
  refine ⟨Ent.of (hP ▸ Try.func48) rfl, ?_⟩
  cases h4 : textR A bs a5 with
  | no e a6 =>
    rw [h4] at c4 hR
    rw [← hR] at hx hM
    subst hx hM
    refine TCX.call [0] c4 ?_
    cbv
    (repeat (first | exact trivial | refine And.intro (Emb.Pur _ _) ?_ | refine And.intro rfl ?_ | refine And.intro (Pur.mk rfl) ?_))
    refine R1.of ?_
    cbv
    (repeat (first | exact trivial | refine And.intro (Emb.Pur _ _) ?_ | refine And.intro rfl ?_ | refine And.intro (Pur.mk rfl) ?_))
  | ok s a6 =>
  rw [h4] at c4 hR
  have ha6 := textR_ok h4
  simp only [RR.bind] at hR
  refine TCX.call [0] c4 ?_
  cbv
  (repeat (first | exact trivial | refine And.intro (Emb.Pur _ _) ?_ | refine And.intro rfl ?_ | refine And.intro (Pur.mk rfl) ?_))
  ((try cbv) <;> (repeat ((with_reducible refine EW.of ?_); cbv)))
  have c5 := node50 A E B hP bs hl a6 ha6 bad
  refine ⟨Ent.of (hP ▸ Try.func50) rfl, ?_⟩
  cases h5 : nodeTR A bs a6 with
  | no e a7 =>
    rw [h5] at c5 hR
    rw [← hR] at hx hM
    subst hx hM
    refine TCX.call [0] c5 ?_
    cbv
    (repeat (first | exact trivial | refine And.intro (Emb.Pur _ _) ?_ | refine And.intro rfl ?_ | refine And.intro (Pur.mk rfl) ?_))
    refine R1.of ?_
    cbv
    (repeat (first | exact trivial | refine And.intro (Emb.Pur _ _) ?_ | refine And.intro rfl ?_ | refine And.intro (Pur.mk rfl) ?_))
  | ok t a7 =>
  rw [h5] at c5 hR
  have ha7 := nodeTR_ok ha6 h5
  simp only [RR.bind] at hR
  obtain ⟨i, k, st, ks⟩ := t
  replace c5 : TCX P _ _ _ (.ret (E.tree.v (.node i k st ks))) [some (rdr B bs a7 bad)] := c5
  rw [E.node] at c5
  replace hx : x = .ret (F.l.v ⟨op, id, par, pl, s, .node i k st ks⟩) := by rw [hx, ← hR]; rfl
  replace hM : M = [some (rdr B bs a7 bad)] := by rw [hM, ← hR]; rfl
  rw [F.v E] at hx
  subst hx hM
  refine TCX.call [0] c5 ?_
  cbv
  (repeat (first | exact trivial | refine And.intro (Emb.Pur _ _) ?_ | refine And.intro rfl ?_ | refine And.intro (Pur.mk rfl) ?_))
  ((try cbv) <;> (repeat ((with_reducible refine EW.of ?_); cbv)))
  refine R1.of ?_
  cbv
  (repeat (first | exact trivial | refine And.intro (Emb.Pur _ _) ?_ | refine And.intro rfl ?_ | refine And.intro (Pur.mk rfl) ?_))
end Go.Proofs.Ytmbbdabcbnemiaa
