import Derived.Test.YtmbbdabcbnemiaaSc
/-! The reference's texts. -/
namespace Go.Proofs.Ytmbbdabcbnemiaa
open Go.Proofs.Ytmbbdabcbnemiaa.Tw
theorem countR_pos {A : Ar} {bs : List UInt8} (hl : bs.length ≤ 1000000000) {a : Nat} (ha : a ≤ bs.length) {bad size most : Int} {n : Int} {a3 : Nat} {b3 : Int} (h : askR 0 bs a bad (countR A bs a size most) = (n, a3, b3)) : a3 ≤ bs.length := by
  unfold askR at h
  split at h
  · cases h; exact ha
  cases hc : countR A bs a size most with
  | no e a2 =>
    rw [hc] at h; cases h
    rcases countR_no hc with h | h <;> omega
  | ok m a2 => rw [hc] at h; cases h; exact (countR_ok hl hc).2.1
theorem textA {A : Ar} {bs : List UInt8} (hl : bs.length ≤ 1000000000) {a : Nat} {bad : Int} {v : ByteArray} {a2 : Nat} {bad2 : Int} (h : askR ⟨#[]⟩ bs a bad (textR A bs a) = (v, a2, bad2)) {n : Int} {a3 : Nat} {b3 : Int}
    (hc : askR 0 bs a bad (countR A bs a 1 bs.length) = (n, a3, b3)) :
    (0 ≤ b3 ∧ v = ⟨#[]⟩ ∧ a2 = a3 ∧ bad2 = b3) ∨ (b3 < 0 ∧ bad2 = b3 ∧ ∃ m : Nat, n = m ∧ a2 = a3 + m ∧ a2 ≤ bs.length ∧ v = ⟨⟨(bs.drop a3).take m⟩⟩) := by
  unfold askR at h hc
  by_cases h0 : 0 ≤ bad
  · rw [if_pos h0] at h hc
    cases h; cases hc
    exact .inl ⟨h0, rfl, rfl, rfl⟩
  rw [if_neg h0] at h hc
  unfold textR at h
  cases hr : countR A bs a 1 bs.length with
  | no e a4 =>
    rw [hr] at h hc
    cases h; cases hc
    refine .inl ⟨?_, rfl, rfl, rfl⟩
    rcases countR_no hr with h | h <;> omega
  | ok m a4 =>
    rw [hr] at h hc
    cases hc
    have hk := countR_ok hl hr
    have h1 : max (1 : Int) 1 = 1 := rfl
    rw [h1] at hk
    obtain ⟨k, rfl⟩ : ∃ k : Nat, n = k := ⟨n.toNat, by omega⟩
    simp only [RR.bind, Int.toNat_natCast] at h
    unfold takeR at h
    rw [if_pos (by omega)] at h
    cases h
    exact .inr ⟨by omega, rfl, k, rfl, rfl, by omega, rfl⟩
set_option maxHeartbeats 2000000 in
theorem Text25 (A : Ar) (B : EmB) {P : Program} (hP : P = Try.prog) (bs : List UInt8) (hl : bs.length ≤ 1000000000) (a : Nat) (ha : a ≤ bs.length) (bad c : Int) (v : ByteArray) (a2 : Nat) (bad2 : Int) (h : askR ⟨#[]⟩ bs a bad (textR A bs a) = (v, a2, bad2)) :
    TC1 P 25 [.ref 0 4 0 0] [some (rdrF B bs a bad c)] (.str v) [some (rdrF B bs a2 bad2 c)] := by
  refine TC1.of A _ _ T0 (T0_ok hP) (hP ▸ Try.func25) rfl _ rfl (by simp) ?_
  have hll := B.l.len bs
  have hlk : A.len (B.l.l bs) = (bs.length : Int) := by rw [A.ok_len, hll]
  obtain ⟨n, a3, b3, hc⟩ : ∃ n a3 b3, askR 0 bs a bad (countR A bs a 1 bs.length) = (n, a3, b3) := ⟨_, _, _, rfl⟩
  have hp := countR_pos hl ha hc
  have hx := textA hl h hc
  rw [← hlk] at hc
  have h33 := Count33 A B hP bs hl a ha bad c 1 (A.len (B.l.l bs)) n a3 b3 hc
  clear h hc
  rcases hx with ⟨h3, rfl, rfl, rfl⟩ | ⟨h3, rfl, m, rfl, rfl, h5, rfl⟩
  · skip
    unfold rdrF at *
    cbv
    ((try cbv) <;> (repeat ((with_reducible refine EW.of ?_); cbv)))
    refine ⟨Ent.of (hP ▸ Try.func33) rfl, ?_⟩
    refine TC1.call [0] h33 ?_
    cbv
    (repeat (first | exact trivial | refine And.intro (Emb.Pur _ _) ?_ | refine And.intro rfl ?_ | refine And.intro (Pur.mk rfl) ?_))
    ((try cbv) <;> (repeat ((with_reducible refine EW.of ?_); cbv)))
    refine byes (leT h3) ?_
    ((try cbv) <;> (repeat ((with_reducible refine EW.of ?_); cbv)))
    refine R1.of ?_
    cbv
    (repeat (first | exact trivial | refine And.intro (Emb.Pur _ _) ?_ | refine And.intro rfl ?_ | refine And.intro (Pur.mk rfl) ?_))
  · obtain ⟨a4, ha4⟩ : ∃ a4, a4 = a3 + m := ⟨_, rfl⟩
    have hadd : A.op .add .i64 (a3 : Int) (m : Int) = (a4 : Int) := by rw [add_i64 rfl rfl (by omega) (by omega)]; omega
    obtain ⟨r, hr⟩ : ∃ r, r = (bs.drop a3).take m := ⟨_, rfl⟩
    have hsb := sub_back A ha4 (by omega)
    rw [← ha4, ← hr]
    unfold rdrF at *
    cbv
    ((try cbv) <;> (repeat ((with_reducible refine EW.of ?_); cbv)))
    refine ⟨Ent.of (hP ▸ Try.func33) rfl, ?_⟩
    refine TC1.call [0] h33 ?_
    cbv
    (repeat (first | exact trivial | refine And.intro (Emb.Pur _ _) ?_ | refine And.intro rfl ?_ | refine And.intro (Pur.mk rfl) ?_))
    ((try cbv) <;> (repeat ((with_reducible refine EW.of ?_); cbv)))
    refine bno (leF h3) ?_
    ((try cbv) <;> (repeat ((with_reducible refine EW.of ?_); cbv)))
    (refine TW.draw (A := A) (T0_ok hP) (hP ▸ follows_mixed) (by kernel_rfl) rfl ?_; cbv)
    refine ⟨a3, hsb, a4, hadd, B.l.l r, ?_, (by omega), (by show a4 ≤ (B.l.l bs).length; omega), ?_⟩
    · show B.l.l r = List.drop a3 (List.take a4 (B.l.l bs))
      rw [B.l.take, B.l.drop, hr, ha4, List.drop_take]
      congr 2
      omega
    refine ⟨r, B.bytes r, ?_⟩
    cbv
    ((try cbv) <;> (repeat ((with_reducible refine EW.of ?_); cbv)))
    refine R1.of ?_
    cbv
    (repeat (first | exact trivial | refine And.intro (Emb.Pur _ _) ?_ | refine And.intro hadd ?_ | refine And.intro rfl ?_))
end Go.Proofs.Ytmbbdabcbnemiaa
