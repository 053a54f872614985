import Derived.Test.YtmbbdabcbnemiaaSa
/-! The reference's small numbers, counts, texts. -/
namespace Go.Proofs.Ytmbbdabcbnemiaa
open Go.Proofs.Ytmbbdabcbnemiaa.Tw
set_option maxHeartbeats 2000000 in
theorem Small23 (A : Ar) (B : EmB) {P : Program} (hP : P = Try.prog) (bs : List UInt8) (hl : bs.length ≤ 1000000000) (a : Nat) (ha : a ≤ bs.length) (bad c : Int) (v : Int) (a2 : Nat) (bad2 : Int) (h : askR 0 bs a bad (smallR A bs a) = (v, a2, bad2)) :
    TC1 P 23 [.ref 0 4 0 0] [some (rdrF B bs a bad c)] (.int .i8 v) [some (rdrF B bs a2 bad2 c)] := by
  refine TC1.of A _ _ T0 (T0_ok hP) (hP ▸ Try.func23) rfl _ rfl (by simp) ?_
  have hll := B.l.len bs
  have hlk : A.len (B.l.l bs) = (bs.length : Int) := by rw [A.ok_len, hll]
  unfold askR at h
  by_cases h0 : 0 ≤ bad
  · rw [if_pos h0] at h
    cases h
    unfold rdrF
    cbv
    ((try cbv) <;> (repeat ((with_reducible refine EW.of ?_); cbv)))
    refine byes (leT h0) ?_
    ((try cbv) <;> (repeat ((with_reducible refine EW.of ?_); cbv)))
    refine R1.of ?_
    cbv
    (repeat (first | exact trivial | refine And.intro (Emb.Pur _ _) ?_ | refine And.intro rfl ?_ | refine And.intro (Pur.mk rfl) ?_))
  rw [if_neg h0] at h
  have hb : bad < 0 := by omega
  unfold smallR takeR at h
  by_cases h1 : a + 1 ≤ bs.length
  · rw [if_pos h1] at h
    obtain ⟨b, hb0⟩ : ∃ b, bs[a]? = some b := ⟨_, List.getElem?_eq_getElem (by omega)⟩
    have hl1 : (bs.drop a).take 1 = [b] := by
      rw [List.drop_eq_getElem_cons (by omega)]
      rw [List.getElem?_eq_getElem (by omega)] at hb0
      rw [Option.some.inj hb0]
      rfl
    simp only [RR.bind, hl1, List.headD_cons] at h
    obtain ⟨rfl, rfl, rfl⟩ : A.wrap .i8 b.toNat = v ∧ a + 1 = a2 ∧ bad = bad2 := by
      cases h; exact ⟨rfl, rfl, rfl⟩
    have h8 : (a : Int) < (bs.length : Int) := by omega
    obtain ⟨a8, ha8⟩ : ∃ a8, a8 = a + 1 := ⟨_, rfl⟩
    have hadd : A.op .add .i64 (a : Int) 1 = (a8 : Int) := by rw [add_i64 rfl rfl (by omega) (by omega)]; omega
    have hsb := sub_back A (a := a) (n := 1) (a2 := a + 1) rfl (by omega)
    clear h hl1
    rw [← ha8]
    unfold rdrF
    cbv
    ((try cbv) <;> (repeat ((with_reducible refine EW.of ?_); cbv)))
    refine bno (leF hb) ?_
    ((try cbv) <;> (repeat ((with_reducible refine EW.of ?_); cbv)))
    (refine TW.draw (A := A) (T0_ok hP) (hP ▸ follows_mixed) (by kernel_rfl) rfl ?_; cbv)
    ((try cbv) <;> (repeat ((with_reducible refine EW.of ?_); cbv)))
    refine bno (show A.le (A.len (B.l.l bs)) (a : Int) = false by rw [hlk]; exact leF h8) ?_
    ((try cbv) <;> (repeat ((with_reducible refine EW.of ?_); cbv)))
    (refine TW.draw (A := A) (T0_ok hP) (hP ▸ follows_mixed) (by kernel_rfl) rfl ?_; cbv)
    refine ⟨a, _, hsb, B.get hb0, ?_⟩
    cbv
    ((try cbv) <;> (repeat ((with_reducible refine EW.of ?_); cbv)))
    refine R1.of ?_
    cbv
    (repeat (first | exact trivial | refine And.intro (Emb.Pur _ _) ?_ | refine And.intro hadd ?_ | refine And.intro rfl ?_))
  · rw [if_neg h1] at h
    have h8 : (bs.length : Int) ≤ (a : Int) := by omega
    cases h
    have h44 := fails44 A B hP bs a bad c hb (A.len (B.l.l bs))
    unfold rdrF at *
    rw [← hlk] at h8 ⊢
    cbv
    ((try cbv) <;> (repeat ((with_reducible refine EW.of ?_); cbv)))
    refine bno (leF hb) ?_
    ((try cbv) <;> (repeat ((with_reducible refine EW.of ?_); cbv)))
    (refine TW.draw (A := A) (T0_ok hP) (hP ▸ follows_mixed) (by kernel_rfl) rfl ?_; cbv)
    ((try cbv) <;> (repeat ((with_reducible refine EW.of ?_); cbv)))
    refine byes (show A.le (A.len (B.l.l bs)) (a : Int) = true from leT h8) ?_
    ((try cbv) <;> (repeat ((with_reducible refine EW.of ?_); cbv)))
    refine ⟨Ent.of (hP ▸ Try.func44) rfl, ?_⟩
    refine TC1.call [0] h44 ?_
    cbv
    (repeat (first | exact trivial | refine And.intro (Emb.Pur _ _) ?_ | refine And.intro rfl ?_ | refine And.intro (Pur.mk rfl) ?_))
    ((try cbv) <;> (repeat ((with_reducible refine EW.of ?_); cbv)))
    refine R1.of ?_
    cbv
    (repeat (first | exact trivial | refine And.intro (Emb.Pur _ _) ?_ | refine And.intro rfl ?_ | refine And.intro (Pur.mk rfl) ?_))
end Go.Proofs.Ytmbbdabcbnemiaa
