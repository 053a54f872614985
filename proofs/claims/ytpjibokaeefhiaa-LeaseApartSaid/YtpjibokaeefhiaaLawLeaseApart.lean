/-
  LeaseApart: of leases made by Add and Remove alone no one is in another's way, and what is refused as a conflict is; for every tree and every row of roots the law returns true.
  Conditions: none; every input.
-/
import Derived.Test.YtpjibokaeefhiaaRows
import Derived.Test.YtpjibokaeefhiaaOy
import Derived.WalkKit
import Derived.ProofKit
import Derived.OpenShut
import Derived.ShutString
import Derived.ChangeOld
import Derived.Below
import Derived.SizedLaws
namespace Go.Proofs.Ytpjibokaeefhiaa.leaseApart
open Go.ChangeShapes Go.WideShapes Go.ChangeAt Go.RowKit
open Go.ChangeMaps (open_string shut_string)
set_option linter.unusedVariables false
theorem own : ownKnob Try.prog.godebug = none := by kernel_rfl
theorem laidOut : laidOutB Try.prog = true := by kernel_rfl
set_option maxRecDepth 100000 in
theorem lifted (os : Os) (started : os.Started) (H : Type) (enc : TypeId × Value → H) :
    ReturnsInHanded {} Try.checked os 11 .any (Rows.leaseApartSpec.pre6 enc Try.prog Try.f11 Rows.leaseApartRow.domain false) (Rows.leaseApartSpec.post enc Try.prog Try.f11 false true false false) := by
  refine returnsInHanded_of_change_sized (C := Try.checked) own started (by kernel_rfl) Try.func11
    (ChangeSpec.witness6 (enc := enc) (C := Try.checked) false ⟨#[], #[.agg #[.int .i64 0, .int .i64 0, .string ⟨#[]⟩, .slice none 0 0], .slice none 0 0], []⟩ 8 (by kernel_rfl) (by kernel_rfl) (by kernel_rfl) (by kernel_rfl)) ?_
  intro W base args ds gs before hval0 hW hcnd hsz0 _
  have hval : ∀ (j : Nat) t v, Try.f11.params[j]? = some t → args[j]? = some v → Value.okWide Try.prog W .any base t v := hval0
  have hW' := hW
  obtain ⟨p, q, hA0, hV, rfl, hfz, hnd⟩ := hW
  have hA : DataW.TrodAll enc Try.prog W 0 (fun _ => true) true Try.f11.params.toList args.toList ds p := hA0
  rw [Try.params11] at hA hval
  obtain ⟨v0, vs0, d0, ds0, p0, q0, hargs, rfl, rfl, h0, r0⟩ := trodAll_cons hA
  obtain ⟨v1, vs1, d1, ds1, p1, q1, rfl, rfl, rfl, h1, r1⟩ := trodAll_cons r0
  obtain ⟨rfl, rfl, rfl⟩ := trodAll_nil r1
  obtain rfl : args = #[v0, v1] := by cases args; simp_all
  obtain ⟨rfl, rfl⟩ := trodVars_none hV
  have lt0 : ∀ x ∈ p0, x.block < W.heap.size := by obtain ⟨m, hm⟩ := h0; exact DataW.trod_lt m _ _ _ hm
  have lt1 : ∀ x ∈ p1, x.block < W.heap.size := by obtain ⟨m, hm⟩ := h1; exact DataW.trod_lt m _ _ _ hm
  obtain ⟨c0, rfl, _⟩ := okWide_struct Try.underlying24 (hval 0 _ v0 rfl rfl)
  obtain ⟨x0, e0, w0⟩ := Tw.opens_arg opens_tree h0
  have rep0 := Tw.cr_rep e0 (by first | exact ⟨fun _ => ⟨_, rfl⟩, fun _ => ⟨_, rfl⟩⟩ | (cases x0; exact ⟨fun _ => ⟨_, rfl⟩, fun _ => ⟨_, rfl⟩⟩))
  obtain ⟨a1, len1, cap1, rfl⟩ := okWide_slice Try.underlying29 (hval 1 _ v1 rfl rfl)
  obtain ⟨x1, e1, w1⟩ := Tw.opens_arg opens_ints h1
  have rep1 := Tw.cr_rep e1 (⟨fun ⟨_, h⟩ => (by cases h), fun ⟨_, h⟩ => (by cases h)⟩)
  clear hA0 hval0 hsz0
  have hcall := lawApart Tw.ar0 em0 emL0 rfl x0 w0.ok x1 W (Tw.Ini W) [.agg c0, .slice a1 len1 cap1] (fun _ h => h) ⟨rfl, fun j v c hv hc => by
    match j, hv, hc with
    | 0, hv, hc => cases hv; cases hc; exact rep0
    | 1, hv, hc => cases hv; cases hc; exact rep1
    | j + 2, hv, hc => cases hv⟩
  refine (callsIn_wide.1 hcall).mono fun e W' ⟨v, he, hv, bel⟩ => ?_
  subst he
  obtain rfl := hv.bool_inv
  exact ⟨_, rfl, _, _, _, [], _, [], hW', trodAll_mk1 (shut_bool Try.underlying4 _), (trodAll_cons_mk (Below.trod laidOut (by kernel_rfl) (of_decide_eq_true (by kernel_rfl)) h0 bel lt0) (trodAll_cons_mk (Below.trod laidOut (by kernel_rfl) (of_decide_eq_true (by kernel_rfl)) h1 bel lt1) trodAll_mk0)), rfl, bel.frame _, fun h => by cases h⟩
theorem over : Rows.leaseApartRow.holds Try.pinned (OpenSpec.ofChange Rows.leaseApartSpec) :=
  OpenClaim.holds_of_wide 11 Try.f11 rfl rfl rfl rfl rfl rfl rfl ⟨rfl, rfl, rfl, rfl, rfl⟩ rfl rfl rfl rfl rfl (by kernel_rfl) Try.func11 (by kernel_rfl)
    (of_decide_eq_true (by kernel_rfl)) (by unfold Func.isWrapper; first | (rw [if_pos (by decide +kernel)]; kernel_rfl) | (rw [if_neg (by decide +kernel)]; exact ⟨rfl, rfl⟩))
    (fun os started H enc _ => lifted os started H enc)
end Go.Proofs.Ytpjibokaeefhiaa.leaseApart
namespace Go.Proofs.Ytpjibokaeefhiaa
/-- The row, under a short name, for the claim. -/
theorem leaseApart_holds : Rows.LeaseApartSaid := leaseApart.over
#print axioms leaseApart_holds
end Go.Proofs.Ytpjibokaeefhiaa
