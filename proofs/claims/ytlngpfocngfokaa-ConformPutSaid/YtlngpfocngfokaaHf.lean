import Derived.Test.YtlngpfocngfokaaHe
import Derived.DeepKeys4
/-! Keys that are structs of one number. -/
namespace Go.Proofs.Ytlngpfocngfokaa
open Go.Proofs.Ytlngpfocngfokaa.Tw
theorem laid7 : laidOutB Try.prog = true := by kernel_rfl
theorem keyed86 : Maps.Keyed Try.prog 86 := Maps.Keyed.of_law (deep_law_laid laid7 (m := 3) (by decide) (of_decide_eq_true (by kernel_rfl)) (by kernel_rfl) (by kernel_rfl))
theorem size86 : ∃ s, Try.prog.types.size = s + 1 := ⟨Try.prog.types.size - 1, by kernel_rfl⟩
theorem type86 : Try.prog.keyType 86 = true := by kernel_rfl
theorem cells86 : Try.prog.cellsOf 86 = 1 := by kernel_rfl
theorem cells3 : Try.prog.cellsOf 3 = 1 := by kernel_rfl
theorem keyOf86 {n : Int} (h : (Lit.int .i64 n).wf = true) : ∃ l, keyOf Try.prog 86 (.agg #[.int .i64 n]) = some l := by
  obtain ⟨s, hs⟩ := size86
  have h1 : (Value.agg #[.int .i64 n]).formed Try.prog 86 = true := by
    unfold Value.formed
    simp only [Try.underlying86, cells86]
    rfl
  unfold keyOf
  simp only [Try.underlying86, type86, h1, hs]
  simp [Value.cells, Program.keyLits, Try.underlying86, cells86, cells3, Try.underlying3, h]
end Go.Proofs.Ytlngpfocngfokaa
