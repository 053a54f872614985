/-
  ConformPut: for every grammar, two trees and a place, a part that conforms, put in the place of one of the same kind, leaves a tree that conforms, if ids, nodes and depth let it; the law returns true.
  Conditions: none; every input.
-/
import Derived.Test.YtlngpfocngfokaaRows
import Derived.Test.YtlngpfocngfokaaHv
import Derived.WalkKit
import Derived.ProofKit
import Derived.OpenShut
import Derived.ShutString
import Derived.ChangeOld
import Derived.Below
import Derived.SizedLaws
namespace Go.Proofs.Ytlngpfocngfokaa.conformPut
open Go.ChangeShapes Go.WideShapes Go.ChangeAt Go.RowKit
open Go.ChangeMaps (open_string shut_string)
set_option linter.unusedVariables false
theorem own : ownKnob Try.prog.godebug = none := by kernel_rfl
theorem laidOut : laidOutB Try.prog = true := by kernel_rfl
set_option maxRecDepth 100000 in
theorem lifted (os : Os) (started : os.Started) (H : Type) (enc : TypeId × Value → H) :
    ReturnsInHanded {} Try.checked os 9 .any (Rows.conformPutSpec.pre6 enc Try.prog Try.f9 Rows.conformPutRow.domain false) (Rows.conformPutSpec.post enc Try.prog Try.f9 false true false false) := by
  refine returnsInHanded_of_change_sized (C := Try.checked) own started (by kernel_rfl) Try.func9
    (ChangeSpec.witness6 (enc := enc) (C := Try.checked) false ⟨#[], #[.agg #[.slice none 0 0, .int .i64 0], .agg #[.int .i64 0, .int .i64 0, .string ⟨#[]⟩, .slice none 0 0], .agg #[.int .i64 0, .int .i64 0, .string ⟨#[]⟩, .slice none 0 0], .int .i64 0], []⟩ 8 (by kernel_rfl) (by kernel_rfl) (by kernel_rfl) (by kernel_rfl)) ?_
  intro W base args ds gs before hval0 hW hcnd hsz0 _
  have hval : ∀ (j : Nat) t v, Try.f9.params[j]? = some t → args[j]? = some v → Value.okWide Try.prog W .any base t v := hval0
  have hW' := hW
  obtain ⟨p, q, hA0, hV, rfl, hfz, hnd⟩ := hW
  have hA : DataW.TrodAll enc Try.prog W 0 (fun _ => true) true Try.f9.params.toList args.toList ds p := hA0
  rw [Try.params9] at hA hval
  obtain ⟨v0, vs0, d0, ds0, p0, q0, hargs, rfl, rfl, h0, r0⟩ := trodAll_cons hA
  obtain ⟨v1, vs1, d1, ds1, p1, q1, rfl, rfl, rfl, h1, r1⟩ := trodAll_cons r0
  obtain ⟨v2, vs2, d2, ds2, p2, q2, rfl, rfl, rfl, h2, r2⟩ := trodAll_cons r1
  obtain ⟨v3, vs3, d3, ds3, p3, q3, rfl, rfl, rfl, h3, r3⟩ := trodAll_cons r2
  obtain ⟨rfl, rfl, rfl⟩ := trodAll_nil r3
  obtain rfl : args = #[v0, v1, v2, v3] := by cases args; simp_all
  obtain ⟨rfl, rfl⟩ := trodVars_none hV
  have lt0 : ∀ x ∈ p0, x.block < W.heap.size := by obtain ⟨m, hm⟩ := h0; exact DataW.trod_lt m _ _ _ hm
  have lt1 : ∀ x ∈ p1, x.block < W.heap.size := by obtain ⟨m, hm⟩ := h1; exact DataW.trod_lt m _ _ _ hm
  have lt2 : ∀ x ∈ p2, x.block < W.heap.size := by obtain ⟨m, hm⟩ := h2; exact DataW.trod_lt m _ _ _ hm
  have lt3 : ∀ x ∈ p3, x.block < W.heap.size := by obtain ⟨m, hm⟩ := h3; exact DataW.trod_lt m _ _ _ hm
  obtain ⟨c0, rfl, _⟩ := okWide_struct Try.underlying24 (hval 0 _ v0 rfl rfl)
  obtain ⟨x0, e0, w0⟩ := Tw.opens_arg opens_grammar h0
  have rep0 := Tw.cr_rep e0 (by first | exact ⟨fun _ => ⟨_, rfl⟩, fun _ => ⟨_, rfl⟩⟩ | (cases x0; exact ⟨fun _ => ⟨_, rfl⟩, fun _ => ⟨_, rfl⟩⟩))
  obtain ⟨c1, rfl, _⟩ := okWide_struct Try.underlying46 (hval 1 _ v1 rfl rfl)
  obtain ⟨x1, e1, w1⟩ := Tw.opens_arg opens_tree h1
  have rep1 := Tw.cr_rep e1 (by first | exact ⟨fun _ => ⟨_, rfl⟩, fun _ => ⟨_, rfl⟩⟩ | (cases x1; exact ⟨fun _ => ⟨_, rfl⟩, fun _ => ⟨_, rfl⟩⟩))
  obtain ⟨c2, rfl, _⟩ := okWide_struct Try.underlying46 (hval 2 _ v2 rfl rfl)
  obtain ⟨x2, e2, w2⟩ := Tw.opens_arg opens_tree h2
  have rep2 := Tw.cr_rep e2 (by first | exact ⟨fun _ => ⟨_, rfl⟩, fun _ => ⟨_, rfl⟩⟩ | (cases x2; exact ⟨fun _ => ⟨_, rfl⟩, fun _ => ⟨_, rfl⟩⟩))
  obtain ⟨c3, rfl⟩ := okWide_int Try.underlying3 (hval 3 _ v3 rfl rfl)
  obtain ⟨x3, e3, w3⟩ := Tw.opens_arg (Tw.opens_int Try.underlying3) h3
  have rep3 := Tw.cr_rep e3 (⟨fun ⟨_, h⟩ => (by cases h), fun ⟨_, h⟩ => (by cases h)⟩)
  clear hA0 hval0 hsz0
  have hcall := law9 Tw.ar0 em0 emG0 emN0 emR0 emI0 emJ0 rfl x0 w0.ok x1 w1.ok x2 w2.ok x3 W (Tw.Ini W) [.agg c0, .agg c1, .agg c2, .int .i64 c3] (fun _ h => h) ⟨rfl, fun j v c hv hc => by
    match j, hv, hc with
    | 0, hv, hc => cases hv; cases hc; exact rep0
    | 1, hv, hc => cases hv; cases hc; exact rep1
    | 2, hv, hc => cases hv; cases hc; exact rep2
    | 3, hv, hc => cases hv; cases hc; exact rep3
    | j + 4, hv, hc => cases hv⟩
  refine (callsIn_wide.1 hcall).mono fun e W' ⟨v, he, hv, bel⟩ => ?_
  subst he
  obtain rfl := hv.bool_inv
  exact ⟨_, rfl, _, _, _, [], _, [], hW', trodAll_mk1 (shut_bool Try.underlying4 _), (trodAll_cons_mk (Below.trod laidOut (by kernel_rfl) (of_decide_eq_true (by kernel_rfl)) h0 bel lt0) (trodAll_cons_mk (Below.trod laidOut (by kernel_rfl) (of_decide_eq_true (by kernel_rfl)) h1 bel lt1) (trodAll_cons_mk (Below.trod laidOut (by kernel_rfl) (of_decide_eq_true (by kernel_rfl)) h2 bel lt2) (trodAll_cons_mk (Below.trod laidOut (by kernel_rfl) (of_decide_eq_true (by kernel_rfl)) h3 bel lt3) trodAll_mk0)))), rfl, bel.frame _, fun h => by cases h⟩
theorem over : Rows.conformPutRow.holds Try.pinned (OpenSpec.ofChange Rows.conformPutSpec) :=
  OpenClaim.holds_of_wide 9 Try.f9 rfl rfl rfl rfl rfl rfl rfl ⟨rfl, rfl, rfl, rfl, rfl⟩ rfl rfl rfl rfl rfl (by kernel_rfl) Try.func9 (by kernel_rfl)
    (of_decide_eq_true (by kernel_rfl)) (by unfold Func.isWrapper; first | (rw [if_pos (by decide +kernel)]; kernel_rfl) | (rw [if_neg (by decide +kernel)]; exact ⟨rfl, rfl⟩))
    (fun os started H enc _ => lifted os started H enc)
end Go.Proofs.Ytlngpfocngfokaa.conformPut
namespace Go.Proofs.Ytlngpfocngfokaa
/-- The row, under a short name, for the claim. -/
theorem conformPut_holds : Rows.ConformPutSaid := conformPut.over
#print axioms conformPut_holds
end Go.Proofs.Ytlngpfocngfokaa
