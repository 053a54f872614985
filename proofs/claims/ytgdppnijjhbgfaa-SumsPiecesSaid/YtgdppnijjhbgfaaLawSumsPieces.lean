-- The row of the law allotmentlaw04_SumsPieces, out of its plain law and the printed walk.
import Derived.Test.YtgdppnijjhbgfaaRows
import Derived.Test.YtgdppnijjhbgfaaPr5
import Derived.Test.YtgdppnijjhbgfaaPureSumsPieces
import Derived.Test.YtgdppnijjhbgfaaOpen
import Derived.WalkKit
import Derived.ProofKit
import Derived.OpenShut
import Derived.ShutString
import Derived.ChangeOld
import Derived.Below
import Derived.SizedLaws
import Derived.Test.YtgdppnijjhbgfaaWSized
namespace Go.Proofs.Ytgdppnijjhbgfaa.sumsPieces
open Go.ChangeShapes Go.WideShapes Go.ChangeAt Go.RowKit Go.Proofs.YtgdppnijjhbgfaaW.PrintWords
open Go.ChangeMaps (open_string shut_string)
set_option linter.unusedVariables false
theorem own : ownKnob Try.prog.godebug = none := by kernel_rfl
theorem laidOut : laidOutB Try.prog = true := by kernel_rfl
set_option maxRecDepth 100000 in
theorem lifted (os : Os) (started : os.Started) (H : Type) (enc : TypeId × Value → H) :
    ReturnsInHanded {} Try.checked os 5 .any (Rows.sumsPiecesSpec.pre6 enc Try.prog Try.f5 Rows.sumsPiecesRow.domain false) (Rows.sumsPiecesSpec.post enc Try.prog Try.f5 false true false false) := by
  refine returnsInHanded_of_change_sized (C := Try.checked) own started (by kernel_rfl) Try.func5
    (ChangeSpec.witness6 (enc := enc) (C := Try.checked) false ⟨#[], #[.slice none 0 0], []⟩ 8 (by kernel_rfl) (by kernel_rfl) (by kernel_rfl) (by kernel_rfl)) ?_
  intro W base args ds gs before hval0 hW hcnd hsz0 _
  have hval : ∀ (j : Nat) t v, Try.f5.params[j]? = some t → args[j]? = some v → Value.okWide Try.prog W .any base t v := hval0
  have hW' := hW
  obtain ⟨p, q, hA0, hV, rfl, hfz, hnd⟩ := hW
  have hA : DataW.TrodAll enc Try.prog W 0 (fun _ => true) true Try.f5.params.toList args.toList ds p := hA0
  rw [Try.params5] at hA hval
  obtain ⟨v0, vs0, d0, ds0, p0, q0, hargs, rfl, rfl, h0, r0⟩ := trodAll_cons hA
  obtain ⟨rfl, rfl, rfl⟩ := trodAll_nil r0
  obtain rfl : args = #[v0] := by cases args; simp_all
  obtain ⟨rfl, rfl⟩ := trodVars_none hV
  obtain ⟨a0, len0, cap0, rfl⟩ := okWide_slice Try.underlying32 (hval 0 32 v0 rfl rfl)
  have k0 := h0
  have lt0 : ∀ x ∈ p0, x.block < W.heap.size := by obtain ⟨m, hm⟩ := k0; exact DataW.trod_lt m _ _ _ hm
  obtain ⟨l0, rfl, hc0, hr0, hw0⟩ : ∃ l0 : List (List Int), len0 = l0.length ∧ l0.length ≤ cap0 ∧ Kd.C (Kd.slice 5 (Kd.int .u8)) W a0 l0.length l0 ∧ ∀ l ∈ l0, ∀ x ∈ l, (Lit.int .u8 x).wf = true := by
    obtain ⟨fuel, hf⟩ := h0
    obtain ⟨l0, hk, hw⟩ := (Kd.opens_slice (e := 22) Try.underlying32 (by kernel_rfl) (Kd.opens_slice (e := 5) Try.underlying22 (by kernel_rfl) (Kd.opens_int Try.underlying5 fuel))) H enc W 0 (fun _ => true) true fuel _ _ (by omega) hf
    obtain ⟨A, c, hcs, hle, hC⟩ := hk
    simp [Value.cells] at hcs
    obtain ⟨rfl, rfl, rfl⟩ := hcs
    exact ⟨l0, rfl, hle, hC, fun l hl => (hw.2 l hl).2⟩
  obtain ⟨k, hf⟩ := Pure.SumsPieces l0 (fun l hl => Crc.wf_bytes (hw0 l hl))
  clear hA0 hval0 hsz0
  refine (Pr.allotmentlaw04_SumsPieces.calls k a0 cap0 l0 true W hr0 hc0 hf).mono fun e W' ⟨he, bel⟩ => ?_
  subst he
  exact ⟨_, rfl, _, _, _, [], _, [], hW', trodAll_mk1 (shut_bool Try.underlying4 _), (trodAll_cons_mk (Below.trod laidOut (by kernel_rfl) (of_decide_eq_true (by kernel_rfl)) k0 bel lt0) trodAll_mk0), rfl, bel.frame _, fun h => by cases h⟩
theorem over : Rows.sumsPiecesRow.holds Try.pinned (OpenSpec.ofChange Rows.sumsPiecesSpec) :=
  OpenClaim.holds_of_wide 5 Try.f5 rfl rfl rfl rfl rfl rfl rfl ⟨rfl, rfl, rfl, rfl, rfl⟩ rfl rfl rfl rfl rfl (by kernel_rfl) Try.func5 (by kernel_rfl)
    (of_decide_eq_true (by kernel_rfl)) (by unfold Func.isWrapper; first | (rw [if_pos (by decide +kernel)]; kernel_rfl) | (rw [if_neg (by decide +kernel)]; exact ⟨rfl, rfl⟩))
    (fun os started H enc _ => lifted os started H enc)
theorem proved : Rows.SumsPiecesSaid := over
#print axioms proved
end Go.Proofs.Ytgdppnijjhbgfaa.sumsPieces
namespace Go.Proofs.Ytgdppnijjhbgfaa
/-- The row, under a short name, for the claim. -/
theorem sumsPieces_holds : Rows.SumsPiecesSaid := sumsPieces.proved
end Go.Proofs.Ytgdppnijjhbgfaa
