/- The program's sum of bytes, and of more bytes behind a sum, is the document's, for any bytes of at most 20000 and any sum. -/
import Derived.Test.YtgdppnijjhbgfaaPr3 -- home allotmentlaw04_SumsTell.Pure
import Derived.Test.YtgdppnijjhbgfaaSumsRef
namespace Go.Proofs.Ytgdppnijjhbgfaa.Pure
open Go.RowKit Go.Proofs.Ytgdppnijjhbgfaa.Pr Go.Proofs.YtgdppnijjhbgfaaW.PrintWords Go.Proofs.YtgdppnijjhbgfaaW.PrintLast Go.Proofs.Ytgdppnijjhbgfaa.Crc
set_option linter.unusedVariables false
set_option linter.unusedSimpArgs false

theorem SumsTell : allotmentlaw04_SumsTell.Pure := by
  intro l a _ _ hl0 _
  have hl := wf_bytes hl0
  refine ⟨10 * l.length + 1, ?_⟩
  unfold allotmentlaw04_SumsTell.f
  by_cases h : (l.length : Int) > 20000
  · rw [if_pos h, wakes_f]; rfl
  · rw [if_neg h, sum_f l hl, ref_sum l hl (by omega) _ (Nat.le_refl _), more_f a l hl, ref_more a l hl (by omega) _ (Nat.le_refl _), wakes_f]
    simp

end Go.Proofs.Ytgdppnijjhbgfaa.Pure
