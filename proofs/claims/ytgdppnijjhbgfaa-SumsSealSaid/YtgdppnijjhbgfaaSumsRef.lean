import Derived.Test.YtgdppnijjhbgfaaPr3 -- home allotmentref04_Seal.f
import Derived.Test.YtgdppnijjhbgfaaSeal
/-! The document's sums, in the same plain words. -/
namespace Go.Proofs.Ytgdppnijjhbgfaa.Crc
open Go.RowKit Go.Proofs.YtgdppnijjhbgfaaW.PrintWords Go.Proofs.Ytgdppnijjhbgfaa.Sums Go.Proofs.Ytgdppnijjhbgfaa.Pr
set_option linter.unusedVariables false
set_option linter.unusedSimpArgs false

theorem ref_step (x : BitVec 32) : (bits .and .u32 (V x) 1 = 1 ↔ x.getLsbD 0 = true) := by
  rw [andV, ofInt_V, show BitVec.ofInt 32 1 = 1#32 from by decide, and_one]
  cases x.getLsbD 0
  · simp; decide
  · simp; decide
/-- The eight inner rounds from number j on, then the next byte. -/
theorem ref_inner (l : List Int) (i : Int) : ∀ (d k : Nat) (x : BitVec 32) (j : Nat), j + d = 8 → allotmentref04_More.l1 (k + d + 1) l (V x) i j = allotmentref04_More.l0 k l (V (stpN d x)) (wrap64 (i + 1)) := by
  intro d
  induction d with
  | zero =>
    intro k x j hj
    simp only [allotmentref04_More.l1]
    rw [if_neg (by omega)]
    rfl
  | succ d ih =>
    intro k x j hj
    have hs : stpN (d + 1) x = stpN d (stp x) := stpN_add d 1 x
    have hw : wrap64 ((j : Int) + 1) = ((j + 1 : Nat) : Int) := by unfold wrap64; omega
    rw [show k + (d + 1) + 1 = (k + d + 1) + 1 from by omega]
    simp only [allotmentref04_More.l1]
    rw [if_pos (by omega), hw, hs]
    cases h : x.getLsbD 0 with
    | true =>
      rw [if_pos ((ref_step x).2 h)]
      have e : bits .xor .u32 (V x / 2) 2197175160 = V (stp x) := by
        rw [xorV, ofInt_two]
        unfold stp
        rw [h]
        rfl
      rw [e]
      exact ih k (stp x) (j + 1) (by omega)
    | false =>
      rw [if_neg (fun hh => by rw [(ref_step x).1 hh] at h; cases h)]
      have e : V x / 2 = V (stp x) := by
        rw [stp_even x h, ← ofInt_two, V_of]
        all_goals (have := V_range x; omega)
      rw [e]
      exact ih k (stp x) (j + 1) (by omega)
theorem rd_drop (l : List Int) (i : Nat) (h : i < l.length) : l.drop i = rd l i :: l.drop (i + 1) := by
  rw [List.drop_eq_getElem_cons h]
  simp [rd, h]
theorem ref_outer (l : List Int) (hl : Bytes l) (hn : l.length ≤ 1000000000) : ∀ (d k : Nat) (x : BitVec 32) (i : Nat), i + d = l.length → allotmentref04_More.l0 (k + 10 * d + 1) l (V x) i = some (V (ones ^^^ F x (l.drop i))) := by
  intro d
  induction d with
  | zero =>
    intro k x i hi
    simp only [allotmentref04_More.l0]
    rw [if_neg (by omega), List.drop_eq_nil_of_le (by omega), show IntKind.u32.max = 4294967295 from rfl, xor_max]
    congr 3
    exact ofInt_V _
  | succ d ih =>
    intro k x i hi
    have hlt : i < l.length := by omega
    have hc : 0 ≤ rd l i ∧ rd l i < 256 := by
      have : rd l i ∈ l := by simp [rd, hlt]
      exact hl _ this
    have hw : wrap64 ((i : Int) + 1) = ((i + 1 : Nat) : Int) := by unfold wrap64; omega
    rw [show k + 10 * (d + 1) + 1 = (((k + 10 * d + 1) + 8 + 1)) + 1 from by omega]
    simp only [allotmentref04_More.l0]
    rw [if_pos (by omega), if_pos (by omega)]
    have e : bits .xor .u32 (V x) (rd l i % 4294967296) = V (x ^^^ B (rd l i)) := by
      rw [xorV, ofInt_V, show rd l i % 4294967296 = rd l i from by omega]
      rfl
    rw [e]
    have h := ref_inner l i 8 (k + 10 * d + 1) (x ^^^ B (rd l i)) 0 rfl
    rw [Int.natCast_zero] at h
    rw [h, hw, ih k _ (i + 1) (by omega), rd_drop l i hlt, F_cons]
    rfl
theorem ref_more (s : Int) (l : List Int) (hl : Bytes l) (hn : l.length ≤ 1000000000) (k : Nat) (hk : 10 * l.length + 1 ≤ k) : allotmentref04_More.f k s l = some (moreW s l) := by
  unfold allotmentref04_More.f moreW
  have h := ref_outer l hl hn l.length (k - (10 * l.length + 1)) (ones ^^^ B s) 0 (by omega)
  rw [show k - (10 * l.length + 1) + 10 * l.length + 1 = k from by omega] at h
  rw [show IntKind.u32.max = 4294967295 from rfl, xor_max]
  simpa using h
theorem ref_sum (l : List Int) (hl : Bytes l) (hn : l.length ≤ 1000000000) (k : Nat) (hk : 10 * l.length + 1 ≤ k) : allotmentref04_Sum.f k l = some (sumW l) := by
  unfold allotmentref04_Sum.f
  rw [ref_more 0 l hl hn k hk]; rfl
theorem ref_seal (l : List Int) (hl : Bytes l) (hn : l.length ≤ 1000000000) (k : Nat) (hk : 10 * l.length + 1 ≤ k) : allotmentref04_Seal.f k l = some (sealW l) := by
  unfold allotmentref04_Seal.f sealW
  rw [ref_sum l hl hn k hk]
  simp only [Option.bind_some]
  rw [if_pos (by simp; omega), if_pos (by simp; omega)]
  simp [be4]
end Go.Proofs.Ytgdppnijjhbgfaa.Crc
