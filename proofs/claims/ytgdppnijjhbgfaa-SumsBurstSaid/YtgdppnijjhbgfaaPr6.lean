-- Written by the print's program with additions of this session (wip/tools/myprint.py). Not trusted: Lean checks it.
import Derived.Test.YtgdppnijjhbgfaaPr0
import Derived.Test.YtgdppnijjhbgfaaPr1
import Derived.Test.YtgdppnijjhbgfaaPr2
import Derived.Test.YtgdppnijjhbgfaaPr3
namespace Go.Proofs.Ytgdppnijjhbgfaa.Pr
open Go.RowKit Go.Proofs.YtgdppnijjhbgfaaW.PrintWords Go.Proofs.YtgdppnijjhbgfaaW.PrintLast Go.Proofs.YtgdppnijjhbgfaaW.PrintMore
attribute [local go_sem] max2_int min2_int max_two min_two max_three min_three max_four min_four   -- for this text's walks alone
set_option linter.unusedVariables false
set_option linter.unusedSimpArgs false

/-! ### allotmentlaw04_SumsBurst: function 6 -/
def allotmentlaw04_SumsBurst.l0 : Nat → List Int → Int → Int → List Int → Int → Option (Bool)
  | 0, _, _, _, _, _ => none
  | k + 1, x0, x1, x2, x7, x9 => if x9 < 32 then (if 0 ≤ x9 then (if (Go.bits .and .u32 (shr .u32 x1 x9) 1) = 1 then (if x2 < (wrap64 (8 * (x0.length : Int))) then (if (wrap64 (x2 + x9)) ≥ (wrap64 (8 * (x0.length : Int))) then (allotmentlaw04_SumsBurst.l0 k x0 x1 x2 x7 (wrap64 (x9 + 1))) else (if 0 ≤ (wrap64 (Int.tdiv (wrap64 (x2 + x9)) 8)) then (if (wrap64 (Int.tdiv (wrap64 (x2 + x9)) 8)) < (x7.length : Int) then (if 0 ≤ (Int.tmod (wrap64 (x2 + x9)) 8) then (allotmentlaw04_SumsBurst.l0 k x0 x1 x2 (x7.set ((wrap64 (Int.tdiv (wrap64 (x2 + x9)) 8)) : Int).toNat (Go.bits .xor .u8 (rd x7 (wrap64 (Int.tdiv (wrap64 (x2 + x9)) 8))) (shl .u8 1 (Int.tmod (wrap64 (x2 + x9)) 8)))) (wrap64 (x9 + 1))) else (none)) else (none)) else (none))) else (if 0 ≤ (wrap64 (Int.tdiv (wrap64 (x2 + x9)) 8)) then (if (wrap64 (Int.tdiv (wrap64 (x2 + x9)) 8)) < (x7.length : Int) then (if 0 ≤ (Int.tmod (wrap64 (x2 + x9)) 8) then (allotmentlaw04_SumsBurst.l0 k x0 x1 x2 (x7.set ((wrap64 (Int.tdiv (wrap64 (x2 + x9)) 8)) : Int).toNat (Go.bits .xor .u8 (rd x7 (wrap64 (Int.tdiv (wrap64 (x2 + x9)) 8))) (shl .u8 1 (Int.tmod (wrap64 (x2 + x9)) 8)))) (wrap64 (x9 + 1))) else (none)) else (none)) else (none))) else (allotmentlaw04_SumsBurst.l0 k x0 x1 x2 x7 (wrap64 (x9 + 1)))) else (none)) else ((sums_Open.f x7).bind fun bt198 => (if bt198.2 = true then (some false) else ((allotmentlaw04_wakes.f).bind fun t202 => (some t202))))
def allotmentlaw04_SumsBurst.f (k : Nat) (l0 : List Int) (a1 : Int) (a2 : Int) : Option (Bool) := if (l0.length : Int) > 20000 then ((allotmentlaw04_wakes.f).bind fun t194 => (some t194)) else ((sums_Seal.f l0).bind fun t195 => (if (t195.length : Int) = (wrap64 ((l0.length : Int) + 4)) then (if (wrap64 ((wrap64 (8 * (l0.length : Int))) + 1)) = 0 then (none) else (allotmentlaw04_SumsBurst.l0 k l0 (Go.bits .or .u32 a1 1) (Int.tmod (wrap64 ((Int.tmod a2 (wrap64 ((wrap64 (8 * (l0.length : Int))) + 1))) + (wrap64 ((wrap64 (8 * (l0.length : Int))) + 1)))) (wrap64 ((wrap64 (8 * (l0.length : Int))) + 1))) t195 0)) else (some false)))
theorem allotmentlaw04_SumsBurst.mono_l : ∀ k, (∀ y0 y1 y2 y3 y4, LeO (allotmentlaw04_SumsBurst.l0 k y0 y1 y2 y3 y4) (allotmentlaw04_SumsBurst.l0 (k + 1) y0 y1 y2 y3 y4))
  | 0 => fun _ _ _ _ _ r h => by simp [allotmentlaw04_SumsBurst.l0] at h
  | k + 1 => by
    have ih0 := allotmentlaw04_SumsBurst.mono_l k
    · intro y0 y1 y2 y3 y4
      unfold allotmentlaw04_SumsBurst.l0
      repeat' first
      | (with_reducible exact ih0 _ _ _ _ _)
      | (with_reducible exact LeO.refl _)
      | (with_reducible exact LeO.none _)
      | (with_reducible refine LeO.ite ?_ ?_)
      | (with_reducible refine LeO.bind ?_ (fun _ => ?_))
      | exact ih0 _ _ _ _ _
      | exact LeO.none _
      | refine LeO.ite ?_ ?_
      | refine LeO.bind ?_ (fun _ => ?_)
theorem allotmentlaw04_SumsBurst.mono : ∀ a0 a1 a2 k, LeO (allotmentlaw04_SumsBurst.f k a0 a1 a2) (allotmentlaw04_SumsBurst.f (k + 1) a0 a1 a2) := by
  intro a0 a1 a2 k
  have ih0 := allotmentlaw04_SumsBurst.mono_l k
  unfold allotmentlaw04_SumsBurst.f
  repeat' first
      | (with_reducible exact ih0 _ _ _ _ _)
      | (with_reducible exact LeO.refl _)
      | (with_reducible exact LeO.none _)
      | (with_reducible refine LeO.ite ?_ ?_)
      | (with_reducible refine LeO.bind ?_ (fun _ => ?_))
      | exact ih0 _ _ _ _ _
      | exact LeO.none _
      | refine LeO.ite ?_ ?_
      | refine LeO.bind ?_ (fun _ => ?_)
def allotmentlaw04_SumsBurst.T15 : Bool × List (List Nat × List Nat) := (true, [([], []), ([], []), ([1], [1]), ([], []), ([], []), ([4], [4]), ([3, 5], [3, 5]), ([6], [6]), ([], []), ([8], [8]), ([9], [9]), ([7, 10], [7, 10]), ([0, 2, 0, 1, 2, 3, 4, 5, 6, 7, 8, 9, 10, 11], [0, 2]), ([12, 11, 0, 1, 2, 3, 4, 5, 6, 7, 8, 9, 10, 11], [11, 12])])
def allotmentlaw04_SumsBurst.B15 : List Nat := [0, 0, 2, 0, 0, 16, 56, 120, 0, 256, 768, 2040, 4095, 8191]
theorem allotmentlaw04_SumsBurst.tab15 : rtab .any (opsOf Try.f6 15) = allotmentlaw04_SumsBurst.T15 := by kernel_rfl
theorem allotmentlaw04_SumsBurst.bits15 : waitsOk allotmentlaw04_SumsBurst.T15.2 allotmentlaw04_SumsBurst.B15 = true := by kernel_rfl
set_option maxHeartbeats 8000000 in
set_option maxRecDepth 100000 in
theorem allotmentlaw04_SumsBurst.calls (k : Nat) (A0 : Option Addr) (c0 : Nat) (l0 : List Int) (a1 : Int) (a2 : Int) (r : Bool) (w : World) (hr0 : Kd.C (Kd.int .u8) w A0 l0.length l0) (hc0 : l0.length ≤ c0) (h : allotmentlaw04_SumsBurst.f k l0 a1 a2 = some r) :
    Calls Try.prog 6 #[.slice A0 l0.length c0, .int .u32 a1, .int .i64 a2] w fun e w' => e = .returned (.bool r) ∧ Below w.heap.size w w' := by
  have HR0 := Aside0.mk hr0
  have HC0 := Aside0.mk hc0
  clear hr0 hc0
  have HB := Aside0.mk (Below.refl w.heap.size w)
  have H : (if (l0.length : Int) > 20000 then ((allotmentlaw04_wakes.f).bind fun t194 => (some t194)) else ((sums_Seal.f l0).bind fun t195 => (if (t195.length : Int) = (wrap64 ((l0.length : Int) + 4)) then (if (wrap64 ((wrap64 (8 * (l0.length : Int))) + 1)) = 0 then (none) else (allotmentlaw04_SumsBurst.l0 k l0 (Go.bits .or .u32 a1 1) (Int.tmod (wrap64 ((Int.tmod a2 (wrap64 ((wrap64 (8 * (l0.length : Int))) + 1))) + (wrap64 ((wrap64 (8 * (l0.length : Int))) + 1)))) (wrap64 ((wrap64 (8 * (l0.length : Int))) + 1))) t195 0)) else (some false)))) = some r := h
  clear h
  by_cases c4 : (l0.length : Int) > 20000
  · rw [if_pos c4] at H
    have c4b0 : decide (20000 < (l0.length : Int)) = true := decide_eq_true c4
    have c4b1 : decide (20000 < l0.length) = true := decide_eq_true (by omega)
    clear c4
    replace H := Option.bind_eq_some_iff.mp H
    obtain ⟨t194, A50, H⟩ := H
    replace H : (some t194) = some r := H
    have A5 := Aside0.mk A50
    clear A50
    obtain rfl := Option.some.inj H
    go_enter Try.func6, Try.ntmps6
    go_wp2_with (first | ((with_reducible refine gate_callee (f := 9) rfl ?_); refine goesL_ (some 16) rfl rfl Try.func9 (by kernel_rfl) rfl #[] rfl (by (try simp only [List.map_toArray, List.map_cons, List.map_nil]); first | done | rfl | (simp only [List.length_drop, List.length_take]; rfl)) ?_; (with_reducible refine (allotmentlaw04_wakes.calls  t194 _ A5.out).mono ?_); rintro e w6 ⟨rfl, hb⟩; refine ⟨_, rfl, ?_⟩; have n0_ := Aside0.mk (below_step (by repeat (first | (with_reducible first | exact HB.out | apply below_alloc | apply pw_below_drewN | apply below_drew1) | exact HB.out)) hb); clear HB; have HB := n0_; clear n0_; (try clear hb); (try clear hb2); (try clear hk); (try clear hi)))
    go_ret
    exact ⟨by first | rfl | (simp [errW_none, errW_some] <;> rfl) | (simp [*, errW_none, errW_some] <;> rfl), by repeat (first | (with_reducible first | exact HB.out | apply below_alloc | apply pw_below_drewN | apply below_drew1) | exact HB.out)⟩
  · rw [if_neg c4] at H
    have c4b0 : decide (20000 < (l0.length : Int)) = false := decide_eq_false c4
    have c4b1 : decide (20000 < l0.length) = false := decide_eq_false (by omega)
    clear c4
    replace H := Option.bind_eq_some_iff.mp H
    obtain ⟨t195, A70, H⟩ := H
    replace H : (if (t195.length : Int) = (wrap64 ((l0.length : Int) + 4)) then (if (wrap64 ((wrap64 (8 * (l0.length : Int))) + 1)) = 0 then (none) else (allotmentlaw04_SumsBurst.l0 k l0 (Go.bits .or .u32 a1 1) (Int.tmod (wrap64 ((Int.tmod a2 (wrap64 ((wrap64 (8 * (l0.length : Int))) + 1))) + (wrap64 ((wrap64 (8 * (l0.length : Int))) + 1)))) (wrap64 ((wrap64 (8 * (l0.length : Int))) + 1))) t195 0)) else (some false)) = some r := H
    have A7 := Aside0.mk A70
    clear A70
    by_cases c8 : (t195.length : Int) = (wrap64 ((l0.length : Int) + 4))
    · rw [if_pos c8] at H
      have c8b0 : ((t195.length : Int) == (wrap64 ((l0.length : Int) + 4))) = true := beq_iff_eq.mpr c8
      have c8b1 : ((t195.length : Int) != (wrap64 ((l0.length : Int) + 4))) = false := bne_eq_false_iff_eq.mpr c8
      clear c8
      by_cases c9 : (wrap64 ((wrap64 (8 * (l0.length : Int))) + 1)) = 0
      · rw [if_pos c9] at H
        exact absurd H (by simp)
      · rw [if_neg c9] at H
        have c9b0 : ((wrap64 ((wrap64 (8 * (l0.length : Int))) + 1)) == 0) = false := beq_eq_false_iff_ne.mpr c9
        have c9b1 : ((wrap64 ((wrap64 (8 * (l0.length : Int))) + 1)) != 0) = true := bne_iff_ne.mpr c9
        have H' := Aside0.mk H
        clear H
        go_enter Try.func6, Try.ntmps6
        go_wp2_with (first | ((with_reducible refine gate_callee (f := 16) rfl ?_); refine goesL_ (some 18) rfl rfl Try.func16 (by kernel_rfl) rfl #[.slice A0 l0.length c0] rfl (by (try simp only [List.map_toArray, List.map_cons, List.map_nil]); first | done | rfl | (simp only [List.length_drop, List.length_take]; rfl)) ?_; (with_reducible refine (sums_Seal.calls _ _ l0 t195 _ ?side1 ?side2 A7.out).mono ?_); (case side1 => repeat (first | exact HR0.out | (with_reducible refine Kd.C_alloc ?_ _) | (with_reducible refine Kd.C_drewN ?_ _) | (with_reducible refine Kd.C_drew ?_))); (case side2 => exact HC0.out); rintro e w10 ⟨v196, rfl, ho0, hb⟩; refine ⟨_, rfl, ?_⟩; have n0_ := Aside0.mk (Kd.R_lower ho0 (below_size (by repeat (first | (with_reducible first | exact HB.out | apply below_alloc | apply pw_below_drewN | apply below_drew1) | exact HB.out)))); have n1_ := Aside0.mk (below_step (by repeat (first | (with_reducible first | exact HB.out | apply below_alloc | apply pw_below_drewN | apply below_drew1) | exact HB.out)) hb); clear HB; have HO197 := n0_; have HB := n1_; clear n0_ n1_; (try clear hb); (try clear hb2); (try clear hk); (try clear hi); (try clear ho0); obtain ⟨Ao11, co11, eo11⟩ := Kd.R_slice HO197.out; subst eo11))
        go_loopg [9] k (fun kq v9 w' => ∃ (x7_1 : List Int) (x9_1 : Int), v9 = .int .i64 x9_1 ∧ Aside0 (allotmentlaw04_SumsBurst.l0 kq l0 (Go.bits .or .u32 a1 1) (Int.tmod (wrap64 ((Int.tmod a2 (wrap64 ((wrap64 (8 * (l0.length : Int))) + 1))) + (wrap64 ((wrap64 (8 * (l0.length : Int))) + 1)))) (wrap64 ((wrap64 (8 * (l0.length : Int))) + 1))) x7_1 x9_1 = some r) ∧ Aside0 (kq ≤ k) ∧ Aside0 (Kd.R (Kd.int .u8) 5 w' w.heap.size (fun _ => True) (.slice Ao11 t195.length co11) x7_1) ∧ Aside0 (Below w.heap.size w w'))
        case atStart => exact ⟨(t195), (0), (by first | rfl | (simp; done) | (simp [*]; done)), H', ⟨Nat.le_refl _⟩, ⟨by (with_reducible repeat (first | apply Kd.R_alloc | apply Kd.R_drewN | apply Kd.R_drew)); exact HO197.out⟩, ⟨by repeat (first | (with_reducible first | exact HB.out | apply below_alloc | apply pw_below_drewN | apply below_drew1) | exact HB.out)⟩⟩
        case round =>
          clear H'
          try clear c1
          try clear p2
          try clear c4
          try clear c4b0
          try clear c4b1
          try clear c6
          try clear p6
          try clear c8
          try clear c8b0
          try clear c8b1
          try clear c9
          try clear c9b0
          try clear c9b1
          obtain ⟨x7_1, x9_1, rfl, HA, HK1, HO_7, HB⟩ := hrel
          have hl7_1 := (Kd.R_reads' HO_7.out).1
          rw [hl7_1] at HO_7
          (try simp only [hl7_1])
          cases gk with
          | zero => exact absurd HA.out (by simp [allotmentlaw04_SumsBurst.l0])
          | succ k1 =>
            have H := HA.out
            clear HA
            simp only [allotmentlaw04_SumsBurst.l0] at H
            by_cases c12 : x9_1 < 32
            · rw [if_pos c12] at H
              have c12b0 : decide (x9_1 < 32) = true := decide_eq_true c12
              clear c12
              by_cases c13 : 0 ≤ x9_1
              · rw [if_pos c13] at H
                have c13b0 := eq_true c13
                have c13b1 : decide (0 ≤ x9_1) = true := decide_eq_true c13
                clear c13
                obtain ⟨ji14, hji14⟩ : ∃ j_ : Int, (shr .u32 (Go.bits .or .u32 a1 1) x9_1) = j_ := ⟨_, rfl⟩
                replace H : (if (Go.bits .and .u32 (ji14) 1) = 1 then (if (Int.tmod (wrap64 ((Int.tmod a2 (wrap64 ((wrap64 (8 * (l0.length : Int))) + 1))) + (wrap64 ((wrap64 (8 * (l0.length : Int))) + 1)))) (wrap64 ((wrap64 (8 * (l0.length : Int))) + 1))) < (wrap64 (8 * (l0.length : Int))) then (if (wrap64 ((Int.tmod (wrap64 ((Int.tmod a2 (wrap64 ((wrap64 (8 * (l0.length : Int))) + 1))) + (wrap64 ((wrap64 (8 * (l0.length : Int))) + 1)))) (wrap64 ((wrap64 (8 * (l0.length : Int))) + 1))) + x9_1)) ≥ (wrap64 (8 * (l0.length : Int))) then (allotmentlaw04_SumsBurst.l0 k1 l0 (Go.bits .or .u32 a1 1) (Int.tmod (wrap64 ((Int.tmod a2 (wrap64 ((wrap64 (8 * (l0.length : Int))) + 1))) + (wrap64 ((wrap64 (8 * (l0.length : Int))) + 1)))) (wrap64 ((wrap64 (8 * (l0.length : Int))) + 1))) x7_1 (wrap64 (x9_1 + 1))) else (if 0 ≤ (wrap64 (Int.tdiv (wrap64 ((Int.tmod (wrap64 ((Int.tmod a2 (wrap64 ((wrap64 (8 * (l0.length : Int))) + 1))) + (wrap64 ((wrap64 (8 * (l0.length : Int))) + 1)))) (wrap64 ((wrap64 (8 * (l0.length : Int))) + 1))) + x9_1)) 8)) then (if (wrap64 (Int.tdiv (wrap64 ((Int.tmod (wrap64 ((Int.tmod a2 (wrap64 ((wrap64 (8 * (l0.length : Int))) + 1))) + (wrap64 ((wrap64 (8 * (l0.length : Int))) + 1)))) (wrap64 ((wrap64 (8 * (l0.length : Int))) + 1))) + x9_1)) 8)) < (x7_1.length : Int) then (if 0 ≤ (Int.tmod (wrap64 ((Int.tmod (wrap64 ((Int.tmod a2 (wrap64 ((wrap64 (8 * (l0.length : Int))) + 1))) + (wrap64 ((wrap64 (8 * (l0.length : Int))) + 1)))) (wrap64 ((wrap64 (8 * (l0.length : Int))) + 1))) + x9_1)) 8) then (allotmentlaw04_SumsBurst.l0 k1 l0 (Go.bits .or .u32 a1 1) (Int.tmod (wrap64 ((Int.tmod a2 (wrap64 ((wrap64 (8 * (l0.length : Int))) + 1))) + (wrap64 ((wrap64 (8 * (l0.length : Int))) + 1)))) (wrap64 ((wrap64 (8 * (l0.length : Int))) + 1))) (x7_1.set ((wrap64 (Int.tdiv (wrap64 ((Int.tmod (wrap64 ((Int.tmod a2 (wrap64 ((wrap64 (8 * (l0.length : Int))) + 1))) + (wrap64 ((wrap64 (8 * (l0.length : Int))) + 1)))) (wrap64 ((wrap64 (8 * (l0.length : Int))) + 1))) + x9_1)) 8)) : Int).toNat (Go.bits .xor .u8 (rd x7_1 (wrap64 (Int.tdiv (wrap64 ((Int.tmod (wrap64 ((Int.tmod a2 (wrap64 ((wrap64 (8 * (l0.length : Int))) + 1))) + (wrap64 ((wrap64 (8 * (l0.length : Int))) + 1)))) (wrap64 ((wrap64 (8 * (l0.length : Int))) + 1))) + x9_1)) 8))) (shl .u8 1 (Int.tmod (wrap64 ((Int.tmod (wrap64 ((Int.tmod a2 (wrap64 ((wrap64 (8 * (l0.length : Int))) + 1))) + (wrap64 ((wrap64 (8 * (l0.length : Int))) + 1)))) (wrap64 ((wrap64 (8 * (l0.length : Int))) + 1))) + x9_1)) 8)))) (wrap64 (x9_1 + 1))) else (none)) else (none)) else (none))) else (if 0 ≤ (wrap64 (Int.tdiv (wrap64 ((Int.tmod (wrap64 ((Int.tmod a2 (wrap64 ((wrap64 (8 * (l0.length : Int))) + 1))) + (wrap64 ((wrap64 (8 * (l0.length : Int))) + 1)))) (wrap64 ((wrap64 (8 * (l0.length : Int))) + 1))) + x9_1)) 8)) then (if (wrap64 (Int.tdiv (wrap64 ((Int.tmod (wrap64 ((Int.tmod a2 (wrap64 ((wrap64 (8 * (l0.length : Int))) + 1))) + (wrap64 ((wrap64 (8 * (l0.length : Int))) + 1)))) (wrap64 ((wrap64 (8 * (l0.length : Int))) + 1))) + x9_1)) 8)) < (x7_1.length : Int) then (if 0 ≤ (Int.tmod (wrap64 ((Int.tmod (wrap64 ((Int.tmod a2 (wrap64 ((wrap64 (8 * (l0.length : Int))) + 1))) + (wrap64 ((wrap64 (8 * (l0.length : Int))) + 1)))) (wrap64 ((wrap64 (8 * (l0.length : Int))) + 1))) + x9_1)) 8) then (allotmentlaw04_SumsBurst.l0 k1 l0 (Go.bits .or .u32 a1 1) (Int.tmod (wrap64 ((Int.tmod a2 (wrap64 ((wrap64 (8 * (l0.length : Int))) + 1))) + (wrap64 ((wrap64 (8 * (l0.length : Int))) + 1)))) (wrap64 ((wrap64 (8 * (l0.length : Int))) + 1))) (x7_1.set ((wrap64 (Int.tdiv (wrap64 ((Int.tmod (wrap64 ((Int.tmod a2 (wrap64 ((wrap64 (8 * (l0.length : Int))) + 1))) + (wrap64 ((wrap64 (8 * (l0.length : Int))) + 1)))) (wrap64 ((wrap64 (8 * (l0.length : Int))) + 1))) + x9_1)) 8)) : Int).toNat (Go.bits .xor .u8 (rd x7_1 (wrap64 (Int.tdiv (wrap64 ((Int.tmod (wrap64 ((Int.tmod a2 (wrap64 ((wrap64 (8 * (l0.length : Int))) + 1))) + (wrap64 ((wrap64 (8 * (l0.length : Int))) + 1)))) (wrap64 ((wrap64 (8 * (l0.length : Int))) + 1))) + x9_1)) 8))) (shl .u8 1 (Int.tmod (wrap64 ((Int.tmod (wrap64 ((Int.tmod a2 (wrap64 ((wrap64 (8 * (l0.length : Int))) + 1))) + (wrap64 ((wrap64 (8 * (l0.length : Int))) + 1)))) (wrap64 ((wrap64 (8 * (l0.length : Int))) + 1))) + x9_1)) 8)))) (wrap64 (x9_1 + 1))) else (none)) else (none)) else (none))) else (allotmentlaw04_SumsBurst.l0 k1 l0 (Go.bits .or .u32 a1 1) (Int.tmod (wrap64 ((Int.tmod a2 (wrap64 ((wrap64 (8 * (l0.length : Int))) + 1))) + (wrap64 ((wrap64 (8 * (l0.length : Int))) + 1)))) (wrap64 ((wrap64 (8 * (l0.length : Int))) + 1))) x7_1 (wrap64 (x9_1 + 1)))) = some r := by first | (rw [hji14] at H; exact H) | (simp only [hji14] at H ⊢; exact H)
                have hji14_ : ((Go.bits .or .u32 a1 1) / 2 ^ min x9_1.toNat 32) = ji14 := hji14
                have hji14z : x9_1 ≤ 32 → ((Go.bits .or .u32 a1 1) / 2 ^ x9_1.toNat) = ji14 := shr_small hji14
                by_cases c15 : (Go.bits .and .u32 (ji14) 1) = 1
                · rw [if_pos c15] at H
                  have c15b0 : ((Go.bits .and .u32 (ji14) 1) == 1) = true := beq_iff_eq.mpr c15
                  have c15b1 : ((Go.bits .and .u32 (ji14) 1) != 1) = false := bne_eq_false_iff_eq.mpr c15
                  clear c15
                  by_cases c16 : (Int.tmod (wrap64 ((Int.tmod a2 (wrap64 ((wrap64 (8 * (l0.length : Int))) + 1))) + (wrap64 ((wrap64 (8 * (l0.length : Int))) + 1)))) (wrap64 ((wrap64 (8 * (l0.length : Int))) + 1))) < (wrap64 (8 * (l0.length : Int)))
                  · rw [if_pos c16] at H
                    have c16b0 : decide ((Int.tmod (wrap64 ((Int.tmod a2 (wrap64 ((wrap64 (8 * (l0.length : Int))) + 1))) + (wrap64 ((wrap64 (8 * (l0.length : Int))) + 1)))) (wrap64 ((wrap64 (8 * (l0.length : Int))) + 1))) < (wrap64 (8 * (l0.length : Int)))) = true := decide_eq_true c16
                    clear c16
                    by_cases c17 : (wrap64 ((Int.tmod (wrap64 ((Int.tmod a2 (wrap64 ((wrap64 (8 * (l0.length : Int))) + 1))) + (wrap64 ((wrap64 (8 * (l0.length : Int))) + 1)))) (wrap64 ((wrap64 (8 * (l0.length : Int))) + 1))) + x9_1)) ≥ (wrap64 (8 * (l0.length : Int)))
                    · rw [if_pos c17] at H
                      have c17b0 : decide ((wrap64 (8 * (l0.length : Int))) ≤ (wrap64 ((Int.tmod (wrap64 ((Int.tmod a2 (wrap64 ((wrap64 (8 * (l0.length : Int))) + 1))) + (wrap64 ((wrap64 (8 * (l0.length : Int))) + 1)))) (wrap64 ((wrap64 (8 * (l0.length : Int))) + 1))) + x9_1))) = true := decide_eq_true c17
                      clear c17
                      have H' := Aside0.mk H
                      clear H
                      go_wp2
                      (try simp only [← hl7_1])
                      go_roundg k1
                      case measure => have := HK1.out; omega
                      case rel => exact ⟨(x7_1), (wrap64 (x9_1 + 1)), (by first | rfl | (simp; done) | (simp [*]; done)), H', ⟨by have := HK1.out; omega⟩, ⟨by (try simp only [hl7_1]); (with_reducible repeat (first | apply Kd.R_alloc | apply Kd.R_drewN | apply Kd.R_drew)); exact HO_7.out⟩, ⟨by repeat (first | (with_reducible first | exact HB.out | apply below_alloc | apply pw_below_drewN | apply below_drew1) | exact HB.out)⟩⟩
                    · rw [if_neg c17] at H
                      have c17b0 : decide ((wrap64 (8 * (l0.length : Int))) ≤ (wrap64 ((Int.tmod (wrap64 ((Int.tmod a2 (wrap64 ((wrap64 (8 * (l0.length : Int))) + 1))) + (wrap64 ((wrap64 (8 * (l0.length : Int))) + 1)))) (wrap64 ((wrap64 (8 * (l0.length : Int))) + 1))) + x9_1))) = false := decide_eq_false c17
                      clear c17
                      obtain ⟨ji18, hji18⟩ : ∃ j_ : Int, (wrap64 (Int.tdiv (wrap64 ((Int.tmod (wrap64 ((Int.tmod a2 (wrap64 ((wrap64 (8 * (l0.length : Int))) + 1))) + (wrap64 ((wrap64 (8 * (l0.length : Int))) + 1)))) (wrap64 ((wrap64 (8 * (l0.length : Int))) + 1))) + x9_1)) 8)) = j_ := ⟨_, rfl⟩
                      replace H : (if 0 ≤ (ji18) then (if (ji18) < (x7_1.length : Int) then (if 0 ≤ (Int.tmod (wrap64 ((Int.tmod (wrap64 ((Int.tmod a2 (wrap64 ((wrap64 (8 * (l0.length : Int))) + 1))) + (wrap64 ((wrap64 (8 * (l0.length : Int))) + 1)))) (wrap64 ((wrap64 (8 * (l0.length : Int))) + 1))) + x9_1)) 8) then (allotmentlaw04_SumsBurst.l0 k1 l0 (Go.bits .or .u32 a1 1) (Int.tmod (wrap64 ((Int.tmod a2 (wrap64 ((wrap64 (8 * (l0.length : Int))) + 1))) + (wrap64 ((wrap64 (8 * (l0.length : Int))) + 1)))) (wrap64 ((wrap64 (8 * (l0.length : Int))) + 1))) (x7_1.set ((ji18) : Int).toNat (Go.bits .xor .u8 (rd x7_1 (ji18)) (shl .u8 1 (Int.tmod (wrap64 ((Int.tmod (wrap64 ((Int.tmod a2 (wrap64 ((wrap64 (8 * (l0.length : Int))) + 1))) + (wrap64 ((wrap64 (8 * (l0.length : Int))) + 1)))) (wrap64 ((wrap64 (8 * (l0.length : Int))) + 1))) + x9_1)) 8)))) (wrap64 (x9_1 + 1))) else (none)) else (none)) else (none)) = some r := by first | (rw [hji18] at H; exact H) | (simp only [hji18] at H ⊢; exact H)
                      have hji18w : (IntKind.i64.wrap (Int.tdiv (wrap64 ((Int.tmod (wrap64 ((Int.tmod a2 (wrap64 ((wrap64 (8 * (l0.length : Int))) + 1))) + (wrap64 ((wrap64 (8 * (l0.length : Int))) + 1)))) (wrap64 ((wrap64 (8 * (l0.length : Int))) + 1))) + x9_1)) 8)) = ji18 := (i64_w _).trans hji18
                      by_cases c19 : 0 ≤ (ji18)
                      · rw [if_pos c19] at H
                        have c19b0 : decide (0 ≤ (ji18)) = true := decide_eq_true c19
                        clear c19
                        by_cases c20 : (ji18) < (x7_1.length : Int)
                        · rw [if_pos c20] at H
                          have c20b0 : decide ((ji18) < (x7_1.length : Int)) = true := decide_eq_true c20
                          clear c20
                          obtain ⟨ji21, hji21⟩ : ∃ j_ : Int, (Int.tmod (wrap64 ((Int.tmod (wrap64 ((Int.tmod a2 (wrap64 ((wrap64 (8 * (l0.length : Int))) + 1))) + (wrap64 ((wrap64 (8 * (l0.length : Int))) + 1)))) (wrap64 ((wrap64 (8 * (l0.length : Int))) + 1))) + x9_1)) 8) = j_ := ⟨_, rfl⟩
                          replace H : (if 0 ≤ (ji21) then (allotmentlaw04_SumsBurst.l0 k1 l0 (Go.bits .or .u32 a1 1) (Int.tmod (wrap64 ((Int.tmod a2 (wrap64 ((wrap64 (8 * (l0.length : Int))) + 1))) + (wrap64 ((wrap64 (8 * (l0.length : Int))) + 1)))) (wrap64 ((wrap64 (8 * (l0.length : Int))) + 1))) (x7_1.set ((ji18) : Int).toNat (Go.bits .xor .u8 (rd x7_1 (ji18)) (shl .u8 1 (ji21)))) (wrap64 (x9_1 + 1))) else (none)) = some r := by first | (rw [hji21] at H; exact H) | (simp only [hji21] at H ⊢; exact H)
                          by_cases c22 : 0 ≤ (ji21)
                          · rw [if_pos c22] at H
                            have c22b0 := eq_true c22
                            have c22b1 : decide (0 ≤ (ji21)) = true := decide_eq_true c22
                            clear c22
                            obtain ⟨ji23, hji23⟩ : ∃ j_ : Int, (shl .u8 1 (ji21)) = j_ := ⟨_, rfl⟩
                            replace H : (allotmentlaw04_SumsBurst.l0 k1 l0 (Go.bits .or .u32 a1 1) (Int.tmod (wrap64 ((Int.tmod a2 (wrap64 ((wrap64 (8 * (l0.length : Int))) + 1))) + (wrap64 ((wrap64 (8 * (l0.length : Int))) + 1)))) (wrap64 ((wrap64 (8 * (l0.length : Int))) + 1))) (x7_1.set ((ji18) : Int).toNat (Go.bits .xor .u8 (rd x7_1 (ji18)) (ji23))) (wrap64 (x9_1 + 1))) = some r := by first | (rw [hji23] at H; exact H) | (simp only [hji23] at H ⊢; exact H)
                            have hji23_ : (IntKind.u8.wrap (1 * 2 ^ min (ji21).toNat 8)) = ji23 := hji23
                            have hji23z : (ji21) ≤ 8 → (IntKind.u8.wrap (1 * 2 ^ (ji21).toNat)) = ji23 := shl_small hji23
                            have hji23u : (IntKind.u8.wrap (2 ^ min (ji21).toNat 8)) = ji23 := by have h_ := hji23_; rw [Int.one_mul] at h_; exact h_
                            have hji23v : (ji21) ≤ 8 → (IntKind.u8.wrap (2 ^ (ji21).toNat)) = ji23 := fun hle_ => by have h_ := hji23z hle_; rw [Int.one_mul] at h_; exact h_
                            obtain ⟨y204, hy204⟩ : ∃ y_ : List Int, y_ = (x7_1.set ((ji18) : Int).toNat (Go.bits .xor .u8 (rd x7_1 (ji18)) (ji23))) := ⟨_, rfl⟩
                            replace H : (allotmentlaw04_SumsBurst.l0 k1 l0 (Go.bits .or .u32 a1 1) (Int.tmod (wrap64 ((Int.tmod a2 (wrap64 ((wrap64 (8 * (l0.length : Int))) + 1))) + (wrap64 ((wrap64 (8 * (l0.length : Int))) + 1)))) (wrap64 ((wrap64 (8 * (l0.length : Int))) + 1))) y204 (wrap64 (x9_1 + 1))) = some r := by first | (rw [hy204]; with_reducible exact H) | (have H2_ := (Option.bind_some _ _).symm.trans H; rw [hy204]; with_reducible exact H2_) | (have H2_ := (Option.bind_some _ _).symm.trans H; with_reducible exact H2_) | with_reducible exact H | (rw [hy204]; exact H) | exact H
                            have Ny204 := Aside0.mk hy204
                            clear hy204
                            have H' := Aside0.mk H
                            clear H
                            try go_wp2
                            have n0_ := Aside0.mk (Kd.R_drew HO_7.out)
                            have n1_ := Aside0.mk (below_drew1 HB.out)
                            clear HO_7
                            clear HB
                            have HO_7 := n0_
                            have HB := n1_
                            clear n0_ n1_
                            have p203 : 0 ≤ ((ji18) : Int) := of_decide_eq_true (by first | (with_reducible assumption) | assumption)
                            have q203 : (ji18) < (x7_1.length : Int) := of_decide_eq_true (by first | (with_reducible assumption) | assumption)
                            obtain ⟨ad203, e203, hx203_0⟩ := Kd.at_int (Kd.R_reads' HO_7.out).2.2 (ji18) p203 q203
                            cases e203
                            replace p203 := eq_true p203
                            replace q203 := eq_true q203
                            have p24 : 0 ≤ ((ji18) : Int) := of_decide_eq_true (by first | (with_reducible assumption) | assumption)
                            have q24 : ((ji18) : Int) < ((x7_1.length : Int) : Int) := of_decide_eq_true (by first | (with_reducible assumption) | assumption)
                            obtain ⟨go24, co24, eo24, gb24, gl24, cl24, HG24⟩ := Kd.R_form HO_7.out (by omega)
                            (first | cases eo24 | (injection eo24 with ea_ en_ ec_; (first | subst ea_ | (injection ea_ with ea_; subst ea_)); subst ec_; clear en_))
                            have GB24 := Aside0.mk gb24
                            have GG24 := Aside0.mk HG24
                            clear gb24 gl24 HG24
                            (first | simp only [add_plain] at hx203_0 | skip)
                            obtain ⟨hx24_0, hf24_0⟩ := Kd.R_celln 0 HO_7.out ((ji18) : Int) p24 q24
                            replace p24 := eq_true p24
                            replace q24 := eq_true q24
                            have HP26 := Kd.R_putn HO_7.out ((ji18) : Int) (Go.bits .xor .u8 (rd x7_1 (ji18)) (ji23))
                            rw [← Ny204.out] at HP26
                            have HQ26 := Aside0.mk HP26
                            clear HP26
                            refine start_ (n := 14) (S := fun w' => w'.cell? ⟨go24, ((ji18)).toNat, none⟩ = some (.int .u8 (rd x7_1 (ji18)))) (ds := [13]) #[false, false, false, false, false, false, false, false, false, false, false, false, false, false] (by kernel_rfl) rfl rfl (hx203_0) (fun hHeld => ?_); refine with_tabW allotmentlaw04_SumsBurst.tab15 allotmentlaw04_SumsBurst.bits15 (fun HT_ HW_ => ?_)
                            generalize wr.drew = w25 at HO_7 HB GG24 HQ26 hf24_0 hx203_0 hx24_0 hHeld ⊢
                            refine pure_ (i := 0) (N := some 62) (v := ?_) (a' := ?_) #[true, false, false, false, false, false, false, false, false, false, false, false, false, false] rfl rfl (any_of HT_.out (by kernel_rfl)) (fun _ _ _ h => h) (Or.inl ⟨by rfl, ?_⟩) ?_ ?_
                            rotate_left
                            · intro w'
                              go_simp
                              with_reducible rfl
                            rotate_left
                            · simp only [Act.put, List.setIfInBounds_toArray, List.set_cons_zero, List.set_cons_succ, i64_w, i32_w]
                              rfl
                            refine pure_ (i := 1) (N := some 63) (v := ?_) (a' := ?_) #[true, true, false, false, false, false, false, false, false, false, false, false, false, false] rfl rfl (any_of HT_.out (by kernel_rfl)) (fun _ _ _ h => h) (Or.inl ⟨by rfl, ?_⟩) ?_ ?_
                            rotate_left
                            · intro w'
                              go_simp
                              with_reducible rfl
                            rotate_left
                            · simp only [Act.put, List.setIfInBounds_toArray, List.set_cons_zero, List.set_cons_succ, i64_w, i32_w]
                              rfl
                            refine pure_ (i := 2) (N := some 64) (v := ?_) (a' := ?_) #[true, true, true, false, false, false, false, false, false, false, false, false, false, false] rfl rfl (any_of HT_.out (by kernel_rfl)) (fun _ _ _ h => h) (Or.inl ⟨by rfl, ?_⟩) ?_ ?_
                            rotate_left
                            · intro w'
                              go_simp
                              with_reducible rfl
                            rotate_left
                            · simp only [Act.put, List.setIfInBounds_toArray, List.set_cons_zero, List.set_cons_succ, i64_w, i32_w]
                              rfl
                            refine pure_ (i := 3) (N := some 65) (v := ?_) (a' := ?_) #[true, true, true, true, false, false, false, false, false, false, false, false, false, false] rfl rfl (any_of HT_.out (by kernel_rfl)) (fun _ _ _ h => h) (Or.inl ⟨by rfl, ?_⟩) ?_ ?_
                            rotate_left
                            · intro w'
                              go_simp
                              with_reducible rfl
                            rotate_left
                            · simp only [Act.put, List.setIfInBounds_toArray, List.set_cons_zero, List.set_cons_succ, i64_w, i32_w]
                              rfl
                            refine pure_ (i := 4) (N := some 66) (v := ?_) (a' := ?_) #[true, true, true, true, true, false, false, false, false, false, false, false, false, false] rfl rfl (any_of HT_.out (by kernel_rfl)) (fun _ _ _ h => h) (Or.inl ⟨by rfl, ?_⟩) ?_ ?_
                            rotate_left
                            · intro w'
                              go_simp
                              with_reducible rfl
                            rotate_left
                            · simp only [Act.put, List.setIfInBounds_toArray, List.set_cons_zero, List.set_cons_succ, i64_w, i32_w]
                              rfl
                            refine pure_ (i := 5) (N := some 67) (v := ?_) (a' := ?_) #[true, true, true, true, true, true, false, false, false, false, false, false, false, false] rfl rfl (any_of HT_.out (by kernel_rfl)) (fun _ _ _ h => h) (Or.inl ⟨by rfl, ?_⟩) ?_ ?_
                            rotate_left
                            · intro w'
                              go_simp
                              with_reducible rfl
                            rotate_left
                            · simp only [Act.put, List.setIfInBounds_toArray, List.set_cons_zero, List.set_cons_succ, i64_w, i32_w]
                              rfl
                            refine pure_ (i := 6) (N := some 68) (v := ?_) (a' := ?_) #[true, true, true, true, true, true, true, false, false, false, false, false, false, false] rfl rfl (any_of HT_.out (by kernel_rfl)) (fun _ _ _ h => h) (Or.inl ⟨by rfl, ?_⟩) ?_ ?_
                            rotate_left
                            · intro w'
                              go_simp
                              with_reducible rfl
                            rotate_left
                            · simp only [Act.put, List.setIfInBounds_toArray, List.set_cons_zero, List.set_cons_succ, i64_w, i32_w]
                              rfl
                            refine pure_ (i := 8) (N := some 70) (v := ?_) (a' := ?_) #[true, true, true, true, true, true, true, false, true, false, false, false, false, false] rfl rfl (any_of HT_.out (by kernel_rfl)) (fun _ _ _ h => h) (Or.inl ⟨by rfl, ?_⟩) ?_ ?_
                            rotate_left
                            · intro w'
                              go_simp
                              with_reducible rfl
                            rotate_left
                            · simp only [Act.put, List.setIfInBounds_toArray, List.set_cons_zero, List.set_cons_succ, i64_w, i32_w]
                              rfl
                            refine pure_ (i := 9) (N := some 71) (v := ?_) (a' := ?_) #[true, true, true, true, true, true, true, false, true, true, false, false, false, false] rfl rfl (any_of HT_.out (by kernel_rfl)) (fun _ _ _ h => h) (Or.inl ⟨by rfl, ?_⟩) ?_ ?_
                            rotate_left
                            · intro w'
                              go_simp
                              with_reducible rfl
                            rotate_left
                            · simp only [Act.put, List.setIfInBounds_toArray, List.set_cons_zero, List.set_cons_succ, i64_w, i32_w]
                              rfl
                            refine pure_ (i := 10) (N := some 72) (v := ?_) (a' := ?_) #[true, true, true, true, true, true, true, false, true, true, true, false, false, false] rfl rfl (any_of HT_.out (by kernel_rfl)) (fun _ _ _ h => h) (Or.inl ⟨by rfl, ?_⟩) ?_ ?_
                            rotate_left
                            · intro w'
                              go_simp
                              with_reducible rfl
                            rotate_left
                            · simp only [Act.put, List.setIfInBounds_toArray, List.set_cons_zero, List.set_cons_succ, i64_w, i32_w]
                              rfl
                            refine take_ (i := 7) (N := some 69) (v := ?_) (a' := ?_) #[true, true, true, true, true, true, true, true, true, true, true, false, false, false] rfl rfl (take_ofW HT_.out HW_.out (by kernel_rfl)) (fun _ _ _ h => h) (Or.inl ⟨by rfl, ?_⟩) hHeld ?_ ?_
                            rotate_left
                            · intro w' s0
                              go_simp
                              with_reducible rfl
                            rotate_left
                            · simp only [Act.put, List.setIfInBounds_toArray, List.set_cons_zero, List.set_cons_succ, i64_w, i32_w]
                              rfl
                            refine pure_ (i := 11) (N := some 73) (v := ?_) (a' := ?_) #[true, true, true, true, true, true, true, true, true, true, true, true, false, false] rfl rfl (any_of HT_.out (by kernel_rfl)) (fun _ _ _ h => h) (Or.inl ⟨by rfl, ?_⟩) ?_ ?_
                            rotate_left
                            · intro w'
                              go_simp
                              with_reducible rfl
                            rotate_left
                            · simp only [Act.put, List.setIfInBounds_toArray, List.set_cons_zero, List.set_cons_succ, i64_w, i32_w]
                              rfl
                            refine pure_ (i := 12) (N := some 74) (v := ?_) (a' := ?_) #[true, true, true, true, true, true, true, true, true, true, true, true, true, false] rfl rfl (any_of HT_.out (by kernel_rfl)) (fun _ _ _ h => h) (Or.inl ⟨by rfl, ?_⟩) ?_ ?_
                            rotate_left
                            · intro w'
                              go_simp
                              with_reducible rfl
                            rotate_left
                            · simp only [Act.put, List.setIfInBounds_toArray, List.set_cons_zero, List.set_cons_succ, i64_w, i32_w]
                              rfl
                            refine last_ (i := 13) (N := none) #[true, true, true, true, true, true, true, true, true, true, true, true, true, true] rfl rfl (one_of HT_.out (by kernel_rfl)) (by decide) (fun K hK => ?_)
                            refine skip_ (w1 := ?_) (by rfl) rfl ?_ ?_
                            rotate_left
                            · go_simp
                              rfl
                            refine hK.out _ _ ?_
                            clear hK K
                            refine done_ (done_of HT_.out (by kernel_rfl)) ?_
                            try go_wp2
                            (try simp only [← hl7_1])
                            go_roundg k1
                            case measure => have := HK1.out; omega
                            case rel => exact ⟨(y204), (wrap64 (x9_1 + 1)), (by first | rfl | (simp; done) | (simp [*]; done)), H', ⟨by have := HK1.out; omega⟩, ⟨by (try simp only [hl7_1]); (with_reducible repeat (first | apply Kd.R_alloc | apply Kd.R_drewN | apply Kd.R_drew)); exact HQ26.out⟩, ⟨by repeat (first | (with_reducible first | exact HB.out | apply below_alloc | apply pw_below_drewN | apply below_drew1 | refine below_set ?_ GB24.out) | exact HB.out)⟩⟩
                          · rw [if_neg c22] at H
                            exact absurd H (by simp)
                        · rw [if_neg c20] at H
                          exact absurd H (by simp)
                      · rw [if_neg c19] at H
                        exact absurd H (by simp)
                  · rw [if_neg c16] at H
                    have c16b0 : decide ((Int.tmod (wrap64 ((Int.tmod a2 (wrap64 ((wrap64 (8 * (l0.length : Int))) + 1))) + (wrap64 ((wrap64 (8 * (l0.length : Int))) + 1)))) (wrap64 ((wrap64 (8 * (l0.length : Int))) + 1))) < (wrap64 (8 * (l0.length : Int)))) = false := decide_eq_false c16
                    clear c16
                    obtain ⟨ji27, hji27⟩ : ∃ j_ : Int, (wrap64 (Int.tdiv (wrap64 ((Int.tmod (wrap64 ((Int.tmod a2 (wrap64 ((wrap64 (8 * (l0.length : Int))) + 1))) + (wrap64 ((wrap64 (8 * (l0.length : Int))) + 1)))) (wrap64 ((wrap64 (8 * (l0.length : Int))) + 1))) + x9_1)) 8)) = j_ := ⟨_, rfl⟩
                    replace H : (if 0 ≤ (ji27) then (if (ji27) < (x7_1.length : Int) then (if 0 ≤ (Int.tmod (wrap64 ((Int.tmod (wrap64 ((Int.tmod a2 (wrap64 ((wrap64 (8 * (l0.length : Int))) + 1))) + (wrap64 ((wrap64 (8 * (l0.length : Int))) + 1)))) (wrap64 ((wrap64 (8 * (l0.length : Int))) + 1))) + x9_1)) 8) then (allotmentlaw04_SumsBurst.l0 k1 l0 (Go.bits .or .u32 a1 1) (Int.tmod (wrap64 ((Int.tmod a2 (wrap64 ((wrap64 (8 * (l0.length : Int))) + 1))) + (wrap64 ((wrap64 (8 * (l0.length : Int))) + 1)))) (wrap64 ((wrap64 (8 * (l0.length : Int))) + 1))) (x7_1.set ((ji27) : Int).toNat (Go.bits .xor .u8 (rd x7_1 (ji27)) (shl .u8 1 (Int.tmod (wrap64 ((Int.tmod (wrap64 ((Int.tmod a2 (wrap64 ((wrap64 (8 * (l0.length : Int))) + 1))) + (wrap64 ((wrap64 (8 * (l0.length : Int))) + 1)))) (wrap64 ((wrap64 (8 * (l0.length : Int))) + 1))) + x9_1)) 8)))) (wrap64 (x9_1 + 1))) else (none)) else (none)) else (none)) = some r := by first | (rw [hji27] at H; exact H) | (simp only [hji27] at H ⊢; exact H)
                    have hji27w : (IntKind.i64.wrap (Int.tdiv (wrap64 ((Int.tmod (wrap64 ((Int.tmod a2 (wrap64 ((wrap64 (8 * (l0.length : Int))) + 1))) + (wrap64 ((wrap64 (8 * (l0.length : Int))) + 1)))) (wrap64 ((wrap64 (8 * (l0.length : Int))) + 1))) + x9_1)) 8)) = ji27 := (i64_w _).trans hji27
                    by_cases c28 : 0 ≤ (ji27)
                    · rw [if_pos c28] at H
                      have c28b0 : decide (0 ≤ (ji27)) = true := decide_eq_true c28
                      clear c28
                      by_cases c29 : (ji27) < (x7_1.length : Int)
                      · rw [if_pos c29] at H
                        have c29b0 : decide ((ji27) < (x7_1.length : Int)) = true := decide_eq_true c29
                        clear c29
                        obtain ⟨ji30, hji30⟩ : ∃ j_ : Int, (Int.tmod (wrap64 ((Int.tmod (wrap64 ((Int.tmod a2 (wrap64 ((wrap64 (8 * (l0.length : Int))) + 1))) + (wrap64 ((wrap64 (8 * (l0.length : Int))) + 1)))) (wrap64 ((wrap64 (8 * (l0.length : Int))) + 1))) + x9_1)) 8) = j_ := ⟨_, rfl⟩
                        replace H : (if 0 ≤ (ji30) then (allotmentlaw04_SumsBurst.l0 k1 l0 (Go.bits .or .u32 a1 1) (Int.tmod (wrap64 ((Int.tmod a2 (wrap64 ((wrap64 (8 * (l0.length : Int))) + 1))) + (wrap64 ((wrap64 (8 * (l0.length : Int))) + 1)))) (wrap64 ((wrap64 (8 * (l0.length : Int))) + 1))) (x7_1.set ((ji27) : Int).toNat (Go.bits .xor .u8 (rd x7_1 (ji27)) (shl .u8 1 (ji30)))) (wrap64 (x9_1 + 1))) else (none)) = some r := by first | (rw [hji30] at H; exact H) | (simp only [hji30] at H ⊢; exact H)
                        by_cases c31 : 0 ≤ (ji30)
                        · rw [if_pos c31] at H
                          have c31b0 := eq_true c31
                          have c31b1 : decide (0 ≤ (ji30)) = true := decide_eq_true c31
                          clear c31
                          obtain ⟨ji32, hji32⟩ : ∃ j_ : Int, (shl .u8 1 (ji30)) = j_ := ⟨_, rfl⟩
                          replace H : (allotmentlaw04_SumsBurst.l0 k1 l0 (Go.bits .or .u32 a1 1) (Int.tmod (wrap64 ((Int.tmod a2 (wrap64 ((wrap64 (8 * (l0.length : Int))) + 1))) + (wrap64 ((wrap64 (8 * (l0.length : Int))) + 1)))) (wrap64 ((wrap64 (8 * (l0.length : Int))) + 1))) (x7_1.set ((ji27) : Int).toNat (Go.bits .xor .u8 (rd x7_1 (ji27)) (ji32))) (wrap64 (x9_1 + 1))) = some r := by first | (rw [hji32] at H; exact H) | (simp only [hji32] at H ⊢; exact H)
                          have hji32_ : (IntKind.u8.wrap (1 * 2 ^ min (ji30).toNat 8)) = ji32 := hji32
                          have hji32z : (ji30) ≤ 8 → (IntKind.u8.wrap (1 * 2 ^ (ji30).toNat)) = ji32 := shl_small hji32
                          have hji32u : (IntKind.u8.wrap (2 ^ min (ji30).toNat 8)) = ji32 := by have h_ := hji32_; rw [Int.one_mul] at h_; exact h_
                          have hji32v : (ji30) ≤ 8 → (IntKind.u8.wrap (2 ^ (ji30).toNat)) = ji32 := fun hle_ => by have h_ := hji32z hle_; rw [Int.one_mul] at h_; exact h_
                          obtain ⟨y206, hy206⟩ : ∃ y_ : List Int, y_ = (x7_1.set ((ji27) : Int).toNat (Go.bits .xor .u8 (rd x7_1 (ji27)) (ji32))) := ⟨_, rfl⟩
                          replace H : (allotmentlaw04_SumsBurst.l0 k1 l0 (Go.bits .or .u32 a1 1) (Int.tmod (wrap64 ((Int.tmod a2 (wrap64 ((wrap64 (8 * (l0.length : Int))) + 1))) + (wrap64 ((wrap64 (8 * (l0.length : Int))) + 1)))) (wrap64 ((wrap64 (8 * (l0.length : Int))) + 1))) y206 (wrap64 (x9_1 + 1))) = some r := by first | (rw [hy206]; with_reducible exact H) | (have H2_ := (Option.bind_some _ _).symm.trans H; rw [hy206]; with_reducible exact H2_) | (have H2_ := (Option.bind_some _ _).symm.trans H; with_reducible exact H2_) | with_reducible exact H | (rw [hy206]; exact H) | exact H
                          have Ny206 := Aside0.mk hy206
                          clear hy206
                          have H' := Aside0.mk H
                          clear H
                          try go_wp2
                          have n0_ := Aside0.mk (Kd.R_drew HO_7.out)
                          have n1_ := Aside0.mk (below_drew1 HB.out)
                          clear HO_7
                          clear HB
                          have HO_7 := n0_
                          have HB := n1_
                          clear n0_ n1_
                          have p205 : 0 ≤ ((ji27) : Int) := of_decide_eq_true (by first | (with_reducible assumption) | assumption)
                          have q205 : (ji27) < (x7_1.length : Int) := of_decide_eq_true (by first | (with_reducible assumption) | assumption)
                          obtain ⟨ad205, e205, hx205_0⟩ := Kd.at_int (Kd.R_reads' HO_7.out).2.2 (ji27) p205 q205
                          cases e205
                          replace p205 := eq_true p205
                          replace q205 := eq_true q205
                          have p33 : 0 ≤ ((ji27) : Int) := of_decide_eq_true (by first | (with_reducible assumption) | assumption)
                          have q33 : ((ji27) : Int) < ((x7_1.length : Int) : Int) := of_decide_eq_true (by first | (with_reducible assumption) | assumption)
                          obtain ⟨go33, co33, eo33, gb33, gl33, cl33, HG33⟩ := Kd.R_form HO_7.out (by omega)
                          (first | cases eo33 | (injection eo33 with ea_ en_ ec_; (first | subst ea_ | (injection ea_ with ea_; subst ea_)); subst ec_; clear en_))
                          have GB33 := Aside0.mk gb33
                          have GG33 := Aside0.mk HG33
                          clear gb33 gl33 HG33
                          (first | simp only [add_plain] at hx205_0 | skip)
                          obtain ⟨hx33_0, hf33_0⟩ := Kd.R_celln 0 HO_7.out ((ji27) : Int) p33 q33
                          replace p33 := eq_true p33
                          replace q33 := eq_true q33
                          have HP35 := Kd.R_putn HO_7.out ((ji27) : Int) (Go.bits .xor .u8 (rd x7_1 (ji27)) (ji32))
                          rw [← Ny206.out] at HP35
                          have HQ35 := Aside0.mk HP35
                          clear HP35
                          refine start_ (n := 14) (S := fun w' => w'.cell? ⟨go33, ((ji27)).toNat, none⟩ = some (.int .u8 (rd x7_1 (ji27)))) (ds := [13]) #[false, false, false, false, false, false, false, false, false, false, false, false, false, false] (by kernel_rfl) rfl rfl (hx205_0) (fun hHeld => ?_); refine with_tabW allotmentlaw04_SumsBurst.tab15 allotmentlaw04_SumsBurst.bits15 (fun HT_ HW_ => ?_)
                          generalize wr.drew = w34 at HO_7 HB GG33 HQ35 hf33_0 hx205_0 hx33_0 hHeld ⊢
                          refine pure_ (i := 0) (N := some 62) (v := ?_) (a' := ?_) #[true, false, false, false, false, false, false, false, false, false, false, false, false, false] rfl rfl (any_of HT_.out (by kernel_rfl)) (fun _ _ _ h => h) (Or.inl ⟨by rfl, ?_⟩) ?_ ?_
                          rotate_left
                          · intro w'
                            go_simp
                            with_reducible rfl
                          rotate_left
                          · simp only [Act.put, List.setIfInBounds_toArray, List.set_cons_zero, List.set_cons_succ, i64_w, i32_w]
                            rfl
                          refine pure_ (i := 1) (N := some 63) (v := ?_) (a' := ?_) #[true, true, false, false, false, false, false, false, false, false, false, false, false, false] rfl rfl (any_of HT_.out (by kernel_rfl)) (fun _ _ _ h => h) (Or.inl ⟨by rfl, ?_⟩) ?_ ?_
                          rotate_left
                          · intro w'
                            go_simp
                            with_reducible rfl
                          rotate_left
                          · simp only [Act.put, List.setIfInBounds_toArray, List.set_cons_zero, List.set_cons_succ, i64_w, i32_w]
                            rfl
                          refine pure_ (i := 2) (N := some 64) (v := ?_) (a' := ?_) #[true, true, true, false, false, false, false, false, false, false, false, false, false, false] rfl rfl (any_of HT_.out (by kernel_rfl)) (fun _ _ _ h => h) (Or.inl ⟨by rfl, ?_⟩) ?_ ?_
                          rotate_left
                          · intro w'
                            go_simp
                            with_reducible rfl
                          rotate_left
                          · simp only [Act.put, List.setIfInBounds_toArray, List.set_cons_zero, List.set_cons_succ, i64_w, i32_w]
                            rfl
                          refine pure_ (i := 3) (N := some 65) (v := ?_) (a' := ?_) #[true, true, true, true, false, false, false, false, false, false, false, false, false, false] rfl rfl (any_of HT_.out (by kernel_rfl)) (fun _ _ _ h => h) (Or.inl ⟨by rfl, ?_⟩) ?_ ?_
                          rotate_left
                          · intro w'
                            go_simp
                            with_reducible rfl
                          rotate_left
                          · simp only [Act.put, List.setIfInBounds_toArray, List.set_cons_zero, List.set_cons_succ, i64_w, i32_w]
                            rfl
                          refine pure_ (i := 4) (N := some 66) (v := ?_) (a' := ?_) #[true, true, true, true, true, false, false, false, false, false, false, false, false, false] rfl rfl (any_of HT_.out (by kernel_rfl)) (fun _ _ _ h => h) (Or.inl ⟨by rfl, ?_⟩) ?_ ?_
                          rotate_left
                          · intro w'
                            go_simp
                            with_reducible rfl
                          rotate_left
                          · simp only [Act.put, List.setIfInBounds_toArray, List.set_cons_zero, List.set_cons_succ, i64_w, i32_w]
                            rfl
                          refine pure_ (i := 5) (N := some 67) (v := ?_) (a' := ?_) #[true, true, true, true, true, true, false, false, false, false, false, false, false, false] rfl rfl (any_of HT_.out (by kernel_rfl)) (fun _ _ _ h => h) (Or.inl ⟨by rfl, ?_⟩) ?_ ?_
                          rotate_left
                          · intro w'
                            go_simp
                            with_reducible rfl
                          rotate_left
                          · simp only [Act.put, List.setIfInBounds_toArray, List.set_cons_zero, List.set_cons_succ, i64_w, i32_w]
                            rfl
                          refine pure_ (i := 6) (N := some 68) (v := ?_) (a' := ?_) #[true, true, true, true, true, true, true, false, false, false, false, false, false, false] rfl rfl (any_of HT_.out (by kernel_rfl)) (fun _ _ _ h => h) (Or.inl ⟨by rfl, ?_⟩) ?_ ?_
                          rotate_left
                          · intro w'
                            go_simp
                            with_reducible rfl
                          rotate_left
                          · simp only [Act.put, List.setIfInBounds_toArray, List.set_cons_zero, List.set_cons_succ, i64_w, i32_w]
                            rfl
                          refine pure_ (i := 8) (N := some 70) (v := ?_) (a' := ?_) #[true, true, true, true, true, true, true, false, true, false, false, false, false, false] rfl rfl (any_of HT_.out (by kernel_rfl)) (fun _ _ _ h => h) (Or.inl ⟨by rfl, ?_⟩) ?_ ?_
                          rotate_left
                          · intro w'
                            go_simp
                            with_reducible rfl
                          rotate_left
                          · simp only [Act.put, List.setIfInBounds_toArray, List.set_cons_zero, List.set_cons_succ, i64_w, i32_w]
                            rfl
                          refine pure_ (i := 9) (N := some 71) (v := ?_) (a' := ?_) #[true, true, true, true, true, true, true, false, true, true, false, false, false, false] rfl rfl (any_of HT_.out (by kernel_rfl)) (fun _ _ _ h => h) (Or.inl ⟨by rfl, ?_⟩) ?_ ?_
                          rotate_left
                          · intro w'
                            go_simp
                            with_reducible rfl
                          rotate_left
                          · simp only [Act.put, List.setIfInBounds_toArray, List.set_cons_zero, List.set_cons_succ, i64_w, i32_w]
                            rfl
                          refine pure_ (i := 10) (N := some 72) (v := ?_) (a' := ?_) #[true, true, true, true, true, true, true, false, true, true, true, false, false, false] rfl rfl (any_of HT_.out (by kernel_rfl)) (fun _ _ _ h => h) (Or.inl ⟨by rfl, ?_⟩) ?_ ?_
                          rotate_left
                          · intro w'
                            go_simp
                            with_reducible rfl
                          rotate_left
                          · simp only [Act.put, List.setIfInBounds_toArray, List.set_cons_zero, List.set_cons_succ, i64_w, i32_w]
                            rfl
                          refine take_ (i := 7) (N := some 69) (v := ?_) (a' := ?_) #[true, true, true, true, true, true, true, true, true, true, true, false, false, false] rfl rfl (take_ofW HT_.out HW_.out (by kernel_rfl)) (fun _ _ _ h => h) (Or.inl ⟨by rfl, ?_⟩) hHeld ?_ ?_
                          rotate_left
                          · intro w' s0
                            go_simp
                            with_reducible rfl
                          rotate_left
                          · simp only [Act.put, List.setIfInBounds_toArray, List.set_cons_zero, List.set_cons_succ, i64_w, i32_w]
                            rfl
                          refine pure_ (i := 11) (N := some 73) (v := ?_) (a' := ?_) #[true, true, true, true, true, true, true, true, true, true, true, true, false, false] rfl rfl (any_of HT_.out (by kernel_rfl)) (fun _ _ _ h => h) (Or.inl ⟨by rfl, ?_⟩) ?_ ?_
                          rotate_left
                          · intro w'
                            go_simp
                            with_reducible rfl
                          rotate_left
                          · simp only [Act.put, List.setIfInBounds_toArray, List.set_cons_zero, List.set_cons_succ, i64_w, i32_w]
                            rfl
                          refine pure_ (i := 12) (N := some 74) (v := ?_) (a' := ?_) #[true, true, true, true, true, true, true, true, true, true, true, true, true, false] rfl rfl (any_of HT_.out (by kernel_rfl)) (fun _ _ _ h => h) (Or.inl ⟨by rfl, ?_⟩) ?_ ?_
                          rotate_left
                          · intro w'
                            go_simp
                            with_reducible rfl
                          rotate_left
                          · simp only [Act.put, List.setIfInBounds_toArray, List.set_cons_zero, List.set_cons_succ, i64_w, i32_w]
                            rfl
                          refine last_ (i := 13) (N := none) #[true, true, true, true, true, true, true, true, true, true, true, true, true, true] rfl rfl (one_of HT_.out (by kernel_rfl)) (by decide) (fun K hK => ?_)
                          refine skip_ (w1 := ?_) (by rfl) rfl ?_ ?_
                          rotate_left
                          · go_simp
                            rfl
                          refine hK.out _ _ ?_
                          clear hK K
                          refine done_ (done_of HT_.out (by kernel_rfl)) ?_
                          try go_wp2
                          (try simp only [← hl7_1])
                          go_roundg k1
                          case measure => have := HK1.out; omega
                          case rel => exact ⟨(y206), (wrap64 (x9_1 + 1)), (by first | rfl | (simp; done) | (simp [*]; done)), H', ⟨by have := HK1.out; omega⟩, ⟨by (try simp only [hl7_1]); (with_reducible repeat (first | apply Kd.R_alloc | apply Kd.R_drewN | apply Kd.R_drew)); exact HQ35.out⟩, ⟨by repeat (first | (with_reducible first | exact HB.out | apply below_alloc | apply pw_below_drewN | apply below_drew1 | refine below_set ?_ GB33.out) | exact HB.out)⟩⟩
                        · rw [if_neg c31] at H
                          exact absurd H (by simp)
                      · rw [if_neg c29] at H
                        exact absurd H (by simp)
                    · rw [if_neg c28] at H
                      exact absurd H (by simp)
                · rw [if_neg c15] at H
                  have c15b0 : ((Go.bits .and .u32 (ji14) 1) == 1) = false := beq_eq_false_iff_ne.mpr c15
                  have c15b1 : ((Go.bits .and .u32 (ji14) 1) != 1) = true := bne_iff_ne.mpr c15
                  have H' := Aside0.mk H
                  clear H
                  go_wp2
                  (try simp only [← hl7_1])
                  go_roundg k1
                  case measure => have := HK1.out; omega
                  case rel => exact ⟨(x7_1), (wrap64 (x9_1 + 1)), (by first | rfl | (simp; done) | (simp [*]; done)), H', ⟨by have := HK1.out; omega⟩, ⟨by (try simp only [hl7_1]); (with_reducible repeat (first | apply Kd.R_alloc | apply Kd.R_drewN | apply Kd.R_drew)); exact HO_7.out⟩, ⟨by repeat (first | (with_reducible first | exact HB.out | apply below_alloc | apply pw_below_drewN | apply below_drew1) | exact HB.out)⟩⟩
              · rw [if_neg c13] at H
                exact absurd H (by simp)
            · rw [if_neg c12] at H
              have c12b0 : decide (x9_1 < 32) = false := decide_eq_false c12
              clear c12
              replace H := Option.bind_eq_some_iff.mp H
              obtain ⟨⟨t198, t199⟩, A360, H⟩ := H
              replace H : (if t199 = true then (some false) else ((allotmentlaw04_wakes.f).bind fun t202 => (some t202))) = some r := H
              have A36 := Aside0.mk A360
              clear A360
              by_cases c37 : t199 = true
              · subst c37
                have H1 : (some false) = some r := by rw [if_pos rfl] at H; exact H
                clear H
                have H := H1
                clear H1
                obtain rfl := Option.some.inj H
                go_wp2_with (first | ((with_reducible refine gate_callee (f := 14) rfl ?_); refine goesL_ (some 77) rfl rfl Try.func14 (by kernel_rfl) rfl #[.slice Ao11 x7_1.length co11] rfl (by (try simp only [List.map_toArray, List.map_cons, List.map_nil]); first | done | rfl | (simp only [List.length_drop, List.length_take]; rfl)) ?_; (with_reducible refine (sums_Open.calls _ _ x7_1 t198 true _ ?side1 ?side2 A36.out).mono ?_); (case side1 => repeat (first | exact (Kd.R_reads' HO_7.out).2.2 | (with_reducible refine Kd.C_alloc ?_ _) | (with_reducible refine Kd.C_drewN ?_ _) | (with_reducible refine Kd.C_drew ?_))); (case side2 => exact (Kd.R_reads' HO_7.out).2.1); rintro e w38 ⟨v200, rfl, ho0, hb⟩; refine ⟨_, rfl, ?_⟩; have n0_ := Aside0.mk (Kd.R_elder' (by (with_reducible repeat (first | apply Kd.R_alloc | apply Kd.R_drewN | apply Kd.R_drew)); exact HO_7.out) (Kd.R_base ho0) hb); have n1_ := Aside0.mk (Kd.R_lower (Kd.R_new' ho0 (Kd.R_lt (by (with_reducible repeat (first | apply Kd.R_alloc | apply Kd.R_drewN | apply Kd.R_drew)); exact HO_7.out))) (below_size (by repeat (first | (with_reducible first | exact HB.out | apply below_alloc | apply pw_below_drewN | apply below_drew1) | exact HB.out)))); have n2_ := Aside0.mk (below_step (by repeat (first | (with_reducible first | exact HB.out | apply below_alloc | apply pw_below_drewN | apply below_drew1) | exact HB.out)) hb); clear HO_7; clear HB; have HO_7 := n0_; have HO201 := n1_; have HB := n2_; clear n0_ n1_ n2_; (try clear hb); (try clear hb2); (try clear hk); (try clear hi); (try clear ho0)))
                go_ret
                exact ⟨by first | rfl | (simp [errW_none, errW_some] <;> rfl) | (simp [*, errW_none, errW_some] <;> rfl), by repeat (first | (with_reducible first | exact HB.out | apply below_alloc | apply pw_below_drewN | apply below_drew1) | exact HB.out)⟩
              · replace c37 := Bool.eq_false_iff.mpr c37
                subst c37
                have H1 : ((allotmentlaw04_wakes.f).bind fun t202 => (some t202)) = some r := by rw [if_neg (show ¬ (false = true) by decide)] at H; exact H
                clear H
                have H := H1
                clear H1
                replace H := Option.bind_eq_some_iff.mp H
                obtain ⟨t202, A390, H⟩ := H
                replace H : (some t202) = some r := H
                have A39 := Aside0.mk A390
                clear A390
                obtain rfl := Option.some.inj H
                go_wp2_with (first | ((with_reducible refine gate_callee (f := 14) rfl ?_); refine goesL_ (some 77) rfl rfl Try.func14 (by kernel_rfl) rfl #[.slice Ao11 x7_1.length co11] rfl (by (try simp only [List.map_toArray, List.map_cons, List.map_nil]); first | done | rfl | (simp only [List.length_drop, List.length_take]; rfl)) ?_; (with_reducible refine (sums_Open.calls _ _ x7_1 t198 false _ ?side1 ?side2 A36.out).mono ?_); (case side1 => repeat (first | exact (Kd.R_reads' HO_7.out).2.2 | (with_reducible refine Kd.C_alloc ?_ _) | (with_reducible refine Kd.C_drewN ?_ _) | (with_reducible refine Kd.C_drew ?_))); (case side2 => exact (Kd.R_reads' HO_7.out).2.1); rintro e w40 ⟨v200, rfl, ho0, hb⟩; refine ⟨_, rfl, ?_⟩; have n0_ := Aside0.mk (Kd.R_elder' (by (with_reducible repeat (first | apply Kd.R_alloc | apply Kd.R_drewN | apply Kd.R_drew)); exact HO_7.out) (Kd.R_base ho0) hb); have n1_ := Aside0.mk (Kd.R_lower (Kd.R_new' ho0 (Kd.R_lt (by (with_reducible repeat (first | apply Kd.R_alloc | apply Kd.R_drewN | apply Kd.R_drew)); exact HO_7.out))) (below_size (by repeat (first | (with_reducible first | exact HB.out | apply below_alloc | apply pw_below_drewN | apply below_drew1) | exact HB.out)))); have n2_ := Aside0.mk (below_step (by repeat (first | (with_reducible first | exact HB.out | apply below_alloc | apply pw_below_drewN | apply below_drew1) | exact HB.out)) hb); clear HO_7; clear HB; have HO_7 := n0_; have HO201 := n1_; have HB := n2_; clear n0_ n1_ n2_; (try clear hb); (try clear hb2); (try clear hk); (try clear hi); (try clear ho0)) | (go_at_call 9; (with_reducible refine (allotmentlaw04_wakes.calls  t202 _ A39.out).mono ?_); rintro e w41 ⟨rfl, hb⟩; have n0_ := Aside0.mk (Kd.R_below (by (with_reducible repeat (first | apply Kd.R_alloc | apply Kd.R_drewN | apply Kd.R_drew)); exact HO_7.out) hb); have n1_ := Aside0.mk (Kd.R_below (by (with_reducible repeat (first | apply Kd.R_alloc | apply Kd.R_drewN | apply Kd.R_drew)); exact HO201.out) hb); have n2_ := Aside0.mk (below_step (by repeat (first | (with_reducible first | exact HB.out | apply below_alloc | apply pw_below_drewN | apply below_drew1) | exact HB.out)) hb); clear HO_7; clear HO201; clear HB; have HO_7 := n0_; have HO201 := n1_; have HB := n2_; clear n0_ n1_ n2_; (try clear hb); (try clear hb2); (try clear hk); (try clear hi)))
                go_ret
                exact ⟨by first | rfl | (simp [errW_none, errW_some] <;> rfl) | (simp [*, errW_none, errW_some] <;> rfl), by repeat (first | (with_reducible first | exact HB.out | apply below_alloc | apply pw_below_drewN | apply below_drew1) | exact HB.out)⟩
    · rw [if_neg c8] at H
      have c8b0 : ((t195.length : Int) == (wrap64 ((l0.length : Int) + 4))) = false := beq_eq_false_iff_ne.mpr c8
      have c8b1 : ((t195.length : Int) != (wrap64 ((l0.length : Int) + 4))) = true := bne_iff_ne.mpr c8
      obtain rfl := Option.some.inj H
      go_enter Try.func6, Try.ntmps6
      go_wp2_with (first | ((with_reducible refine gate_callee (f := 16) rfl ?_); refine goesL_ (some 18) rfl rfl Try.func16 (by kernel_rfl) rfl #[.slice A0 l0.length c0] rfl (by (try simp only [List.map_toArray, List.map_cons, List.map_nil]); first | done | rfl | (simp only [List.length_drop, List.length_take]; rfl)) ?_; (with_reducible refine (sums_Seal.calls _ _ l0 t195 _ ?side1 ?side2 A7.out).mono ?_); (case side1 => repeat (first | exact HR0.out | (with_reducible refine Kd.C_alloc ?_ _) | (with_reducible refine Kd.C_drewN ?_ _) | (with_reducible refine Kd.C_drew ?_))); (case side2 => exact HC0.out); rintro e w42 ⟨v196, rfl, ho0, hb⟩; refine ⟨_, rfl, ?_⟩; have n0_ := Aside0.mk (Kd.R_lower ho0 (below_size (by repeat (first | (with_reducible first | exact HB.out | apply below_alloc | apply pw_below_drewN | apply below_drew1) | exact HB.out)))); have n1_ := Aside0.mk (below_step (by repeat (first | (with_reducible first | exact HB.out | apply below_alloc | apply pw_below_drewN | apply below_drew1) | exact HB.out)) hb); clear HB; have HO197 := n0_; have HB := n1_; clear n0_ n1_; (try clear hb); (try clear hb2); (try clear hk); (try clear hi); (try clear ho0); obtain ⟨Ao43, co43, eo43⟩ := Kd.R_slice HO197.out; subst eo43))
      go_ret
      exact ⟨by first | rfl | (simp [errW_none, errW_some] <;> rfl) | (simp [*, errW_none, errW_some] <;> rfl), by repeat (first | (with_reducible first | exact HB.out | apply below_alloc | apply pw_below_drewN | apply below_drew1) | exact HB.out)⟩

/-- THE ONE PURE STATEMENT of allotmentlaw04_SumsBurst: yours. -/
def allotmentlaw04_SumsBurst.Pure : Prop := ∀ (l0 : List Int) (a1 : Int) (a2 : Int), l0.length ≤ maxLen → l0.length * 1 ≤ 140737488351232 → (∀ x ∈ l0, (Lit.int .u8 x).wf = true) → (Lit.int .u32 a1).wf = true → (Lit.int .i64 a2).wf = true → ∃ k, allotmentlaw04_SumsBurst.f k l0 a1 a2 = some true
theorem allotmentlaw04_SumsBurst.walk (P : allotmentlaw04_SumsBurst.Pure) (a0 : Option Addr) (len0 cap0 : Nat) (z0 : List Int) (a1 : Int) (a2 : Int) (w : World) (w0 : (a0 = none ∧ len0 = 0 ∧ cap0 = 0 ∧ z0 = []) ∨ ∃ x, a0 = some x ∧ len0 ≤ cap0 ∧ cap0 ≤ maxLen ∧ z0.length = cap0 ∧ (∀ i, i < z0.length → w.cell? (x.add i) = some (.int .u8 (z0.getD i 0))) ∧ ∀ n ∈ z0, (Lit.int .u8 n).wf = true) (y0 : len0 * 1 ≤ 140737488351232) (w1 : (Lit.int .u32 a1).wf = true) (w2 : (Lit.int .i64 a2).wf = true) :
    Calls Try.prog 6 #[.slice a0 len0 cap0, .int .u32 a1, .int .i64 a2] w fun e w' => e = .returned (.bool true) ∧ Below w.heap.size w w' := by
  obtain ⟨l0, rfl, hr0, hm0, hw0, hc0⟩ := ReadsInt.ofRowC w0
  obtain ⟨k, h⟩ := P l0 a1 a2 hm0 y0 hw0 w1 w2
  refine (allotmentlaw04_SumsBurst.calls k _ _ l0 a1 a2 true w (Kd.C_of_reads (d := (0 : Int)) (h1 := fun _ => rfl) hr0) hc0 h).mono ?_
  rintro e w' ⟨rfl, hd⟩
  exact ⟨rfl, hd⟩

end Go.Proofs.Ytgdppnijjhbgfaa.Pr
