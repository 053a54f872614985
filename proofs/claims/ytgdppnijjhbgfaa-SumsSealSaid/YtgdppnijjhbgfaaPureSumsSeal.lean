/- Bytes sealed are as the document says, and opened again are the bytes; what is no sealed row is refused as the document says, for any bytes of at most 20000. -/
import Derived.Test.YtgdppnijjhbgfaaSealWalk
import Derived.Test.YtgdppnijjhbgfaaSumsRef
namespace Go.Proofs.Ytgdppnijjhbgfaa.Pure
open Go.RowKit Go.Proofs.Ytgdppnijjhbgfaa.Pr Go.Proofs.YtgdppnijjhbgfaaW.PrintWords Go.Proofs.YtgdppnijjhbgfaaW.PrintLast Go.Proofs.Ytgdppnijjhbgfaa.Crc
set_option linter.unusedVariables false
set_option linter.unusedSimpArgs false

theorem ref_open (l : List Int) (hl : Bytes l) (hn : l.length ≤ 1000000000) (k : Nat) (hk : 10 * l.length + 1 ≤ k) : allotmentref04_Open.f k l = some (openW l) := by
  unfold allotmentref04_Open.f openW
  have hw : wrap64 ((l.length : Int) - 4) = (l.length : Int) - 4 := by unfold wrap64; omega
  simp only [hw]
  by_cases h4 : l.length < 4
  · rw [if_pos (by omega), if_pos h4]
  · rw [if_neg (by omega), if_neg h4, if_pos (by omega), if_pos (by omega)]
    have e : ((l.length : Int) - 4).toNat = l.length - 4 := by omega
    rw [e, ref_seal _ (bytes_take hl _) (by rw [List.length_take]; omega) k (by rw [List.length_take]; omega)]
    simp only [Option.bind_some]
    by_cases hs : sealW (l.take (l.length - 4)) = l
    · rw [if_pos ((str_inj (sealW_bytes (bytes_take hl _)) hl).2 hs), if_pos hs, if_pos (by rw [List.length_take]; simp; omega)]
      rfl
    · rw [if_neg (fun h => hs ((str_inj (sealW_bytes (bytes_take hl _)) hl).1 h)), if_neg hs]
theorem SumsSeal : allotmentlaw04_SumsSeal.Pure := by
  intro l _ _ hl0
  have hl := wf_bytes hl0
  refine ⟨10 * l.length + 1, ?_⟩
  unfold allotmentlaw04_SumsSeal.f
  by_cases h : (l.length : Int) > 20000
  · rw [if_pos h, wakes_f]; rfl
  · rw [if_neg h, open_f l hl (by omega), ref_open l hl (by omega) _ (Nat.le_refl _), seal_f l hl (by omega), ref_seal l hl (by omega) _ (Nat.le_refl _), wakes_f]
    simp only [Option.bind_some]
    rw [open_f _ (sealW_bytes hl) (by simp [sealW, be4]; omega), open_seal]
    simp

end Go.Proofs.Ytgdppnijjhbgfaa.Pure
