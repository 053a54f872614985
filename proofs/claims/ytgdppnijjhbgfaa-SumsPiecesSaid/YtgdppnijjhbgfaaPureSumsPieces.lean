/- Sums of pieces, however cut, are that of the whole. -/
import Derived.Test.YtgdppnijjhbgfaaPr5 -- home allotmentlaw04_SumsPieces.f
import Derived.Test.YtgdppnijjhbgfaaSeal
namespace Go.Proofs.Ytgdppnijjhbgfaa.Pure
open Go.RowKit Go.Proofs.Ytgdppnijjhbgfaa.Pr Go.Proofs.YtgdppnijjhbgfaaW.PrintWords Go.Proofs.YtgdppnijjhbgfaaW.PrintLast Go.Proofs.Ytgdppnijjhbgfaa.Crc Go.Proofs.YtgdppnijjhbgfaaW.PrintMore
set_option linter.unusedVariables false
set_option linter.unusedSimpArgs false
theorem pieces_moreW (a b : List Int) : moreW (sumW a) b = sumW (a ++ b) := by
  have h : B (sumW a) = ones ^^^ F (ones ^^^ B 0) a := ofInt_V _
  unfold moreW
  rw [h, ← BitVec.xor_assoc, BitVec.xor_self, BitVec.zero_xor, sumW, moreW, F_append]
theorem pieces_rd (ps : List (List Int)) (hb : ∀ p ∈ ps, Bytes p) (i : Int) : Bytes (rd_L2 ps i) := by
  unfold rd_L2
  rw [List.getD_eq_getElem?_getD]
  cases h : ps[i.toNat]? with
  | none => intro x hx; simp at hx
  | some p => exact hb p (List.mem_of_getElem? h)
theorem pieces_round (ps : List (List Int)) (hb : ∀ p ∈ ps, Bytes p) (hn : ps.length ≤ 2000) : ∀ d (x : List Int) (i : Nat), ps.length = i + d → Bytes x → x.length ≤ 20000 →
    allotmentlaw04_SumsPieces.l0 (2 * d + 1) ps x (sumW x) (i : Int) = some true
  | 0, x, i, hi, hx, hl => by
    unfold allotmentlaw04_SumsPieces.l0
    rw [if_neg (by omega), sum_f x hx, Option.bind_some, if_pos rfl, wakes_f]
    rfl
  | d + 1, x, i, hi, hx, hl => by
    have hp := pieces_rd ps hb (i : Int)
    have ih := pieces_round ps hb hn d
    show allotmentlaw04_SumsPieces.l0 (2 * d + 1 + 1 + 1) ps x (sumW x) (i : Int) = some true
    unfold allotmentlaw04_SumsPieces.l0
    rw [if_pos (by omega), if_pos (by omega)]
    generalize hq : rd_L2 ps (i : Int) = q at hp
    have stop : allotmentlaw04_SumsPieces.j1 (2 * d + 1 + 1) ps x (sumW x) (i : Int) true = some true := by
      unfold allotmentlaw04_SumsPieces.j1
      rw [if_pos rfl, wakes_f]
      rfl
    by_cases h1 : (q.length : Int) > 20000
    · rw [if_pos h1]
      exact stop
    · rw [if_neg h1]
      have ew : wrap64 (20000 - (q.length : Int)) = 20000 - (q.length : Int) := by unfold wrap64; omega
      rw [ew]
      by_cases h2 : (x.length : Int) > 20000 - (q.length : Int)
      · rw [decide_eq_true h2]
        exact stop
      · rw [decide_eq_false h2]
        unfold allotmentlaw04_SumsPieces.j1
        rw [if_neg (by simp), if_pos (by omega), if_pos (by omega), hq, if_pos (by omega), more_f _ _ hp, Option.bind_some, pieces_moreW]
        have e1 : wrap64 ((i : Int) + 1) = ((i + 1 : Nat) : Int) := by
          clear ew
          unfold wrap64; omega
        rw [e1]
        exact ih (x ++ q) (i + 1) (by omega) (bytes_append hx hp) (by rw [List.length_append]; clear ew e1; omega)
theorem SumsPieces (ps : List (List Int)) (hb : ∀ p ∈ ps, Bytes p) : ∃ k, allotmentlaw04_SumsPieces.f k ps = some true := by
  refine ⟨2 * ps.length + 1, ?_⟩
  unfold allotmentlaw04_SumsPieces.f
  by_cases h : (ps.length : Int) > 2000
  · rw [if_pos h, wakes_f]; rfl
  · rw [if_neg h]
    exact pieces_round ps hb (by omega) ps.length [] 0 (by omega) (fun x hx => by simp at hx) (by simp)
end Go.Proofs.Ytgdppnijjhbgfaa.Pure
