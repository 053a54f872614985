import Derived.Test.YtgdppnijjhbgfaaRound
namespace Go.Proofs.Ytgdppnijjhbgfaa.Round
open Go.RowKit Go.Proofs.YtgdppnijjhbgfaaW.PrintWords Go.Proofs.Ytgdppnijjhbgfaa.Pr
set_option linter.unusedVariables false
set_option linter.unusedSimpArgs false
/-- The sum of what messages weigh, as the loop adds it up. -/
def sumF (l : List S55) (c : Int) : Int := l.foldl (fun n x => wrap64 (n + wF x.f0 c)) 0
theorem sumF_take (l : List S55) (c : Int) (k : Nat) (h : k < l.length) : sumF (l.take (k + 1)) c = wrap64 (sumF (l.take k) c + wF (rd_T55 l k).f0 c) := by
  unfold sumF
  rw [List.take_succ_eq_append_getElem h, List.foldl_append]
  simp [rd_T55, h]
set_option maxHeartbeats 1600000 in
set_option maxRecDepth 100000 in
theorem sum_calls (A : Option Addr) (cap : Nat) (l : List S55) (B : Nat) (c : Int) (w : World) (hr : Kd.C k55 w A l.length l) (hk : ∀ x ∈ l, -128 ≤ x.f0 ∧ x.f0 < 128) (hc : w.cell? ⟨B, 0, none⟩ = some (.int .i64 c)) :
    Calls Try.prog 26 #[.slice A l.length cap, .func (.func 27) #[] #[.pointer (some ⟨B, 0, none⟩)]] w fun e w' => e = .returned (.int .i64 (sumF l c)) ∧ Below w.heap.size w w' := by
  have hl : l.length ≤ 9223372036854775807 := hr.2.1
  have HR := Aside0.mk hr
  have HC := Aside0.mk hc
  have HKs := Aside0.mk hk
  clear hr hc hk
  go_enter Try.func26, Try.ntmps26
  go_wp2
  go_loopw [5, 10] (fun n i wr => ∃ k : Nat, k ≤ l.length ∧ i = .int .i64 k ∧ n = .int .i64 (sumF (l.take k) c) ∧ Aside0 (Below w.heap.size w wr)) (fun _ i _ => l.length - (intOf i).toNat)
  case atStart => exact ⟨0, by omega, rfl, rfl, ⟨Below.refl _ _⟩⟩
  case round =>
    obtain ⟨k, hk, rfl, rfl, HB⟩ := hrel
    by_cases hlt : k < l.length
    · obtain ⟨ad, A11, c11, A15, c15, hA, x0, x1, x2, x3, x4, x5, x6, x7, x8, x9, x10, x11, x12, x13, x14, x15, -⟩ := at_T55 HR.out (k : Int) (by omega) (by omega)
      have hr0 := HKs.out (rd_T55 l k) (by unfold rd_T55; rw [Int.toNat_natCast, List.getD_eq_getElem?_getD, List.getElem?_eq_getElem hlt]; exact List.getElem_mem hlt)
      replace x0 := (HB.out.cell (World.block_lt_of_cell? w _ x0)).trans x0
      replace x1 := (HB.out.cell (World.block_lt_of_cell? w _ x1)).trans x1
      replace x2 := (HB.out.cell (World.block_lt_of_cell? w _ x2)).trans x2
      replace x3 := (HB.out.cell (World.block_lt_of_cell? w _ x3)).trans x3
      replace x4 := (HB.out.cell (World.block_lt_of_cell? w _ x4)).trans x4
      replace x5 := (HB.out.cell (World.block_lt_of_cell? w _ x5)).trans x5
      replace x6 := (HB.out.cell (World.block_lt_of_cell? w _ x6)).trans x6
      replace x7 := (HB.out.cell (World.block_lt_of_cell? w _ x7)).trans x7
      replace x8 := (HB.out.cell (World.block_lt_of_cell? w _ x8)).trans x8
      replace x9 := (HB.out.cell (World.block_lt_of_cell? w _ x9)).trans x9
      replace x10 := (HB.out.cell (World.block_lt_of_cell? w _ x10)).trans x10
      replace x11 := (HB.out.cell (World.block_lt_of_cell? w _ x11)).trans x11
      replace x12 := (HB.out.cell (World.block_lt_of_cell? w _ x12)).trans x12
      replace x13 := (HB.out.cell (World.block_lt_of_cell? w _ x13)).trans x13
      replace x14 := (HB.out.cell (World.block_lt_of_cell? w _ x14)).trans x14
      replace x15 := (HB.out.cell (World.block_lt_of_cell? w _ x15)).trans x15
      simp only [Int.toNat_natCast] at x0 x1 x2 x3 x4 x5 x6 x7 x8 x9 x10 x11 x12 x13 x14 x15
      subst hA
      have HS := Lib.hid (sumF_take l c k hlt)
      generalize rd_T55 l k = m at *
      generalize sumF (l.take k) c = n0 at *
      have hsz := HB.out.size
      have HCw := (HB.out.cell (World.block_lt_of_cell? w _ HC.out)).trans HC.out
      have hBl := World.block_lt_of_cell? w _ HC.out
      obtain ⟨hlo, hhi⟩ := hr0
      go_wp2_with fail
      refine (sum1_calls m.f0 m.f1 m.f2 m.f3 m.f4 m.f5 m.f6 m.f7 m.f8 m.f9 m.f10 _ m.f12.f0 m.f12.f1 m.f12.f2 _ B c _ hlo hhi ?c1 rfl rfl).mono ?_
      case c1 => rw [World.cell?_alloc_past _ _ _ (by omega)]; exact HCw
      rintro e w1 ⟨rfl, hb⟩
      have HB' : Aside0 (Below w.heap.size w w1) := ⟨(HB.out.alloc hsz _).trans (hb.mono (by simp; omega))⟩
      clear hb HB x0 x1 x2 x3 x4 x5 x6 x7 x8 x9 x10 x11 x12 x13 x14 x15 HCw
      go_wp2
      go_roundw
      case rel => exact ⟨k + 1, by omega, by go_num, by rw [HS.out], HB'⟩
      case measure => simp [intOf]; omega
    · obtain rfl : k = l.length := by omega
      rw [List.take_length]
      go_wp2
      go_ret
      exact ⟨rfl, HB.out⟩

set_option maxHeartbeats 400000 in
theorem Sum_calls (A : Option Addr) (cap : Nat) (l : List S55) (c : Int) (w : World) (hr : Kd.C k55 w A l.length l) (hk : ∀ x ∈ l, -128 ≤ x.f0 ∧ x.f0 < 128) :
    Calls Try.prog 20 #[.slice A l.length cap, .int .i64 c] w fun e w' => e = .returned (.int .i64 (sumF l c)) ∧ Below w.heap.size w w' := by
  have HR := Aside0.mk hr
  have HKs := Aside0.mk hk
  clear hr hk
  have hmf : ∀ (fn : Fn) (first cap : Array Value) (w : World), (Instr.makeFunc fn first cap).run Try.prog w = .ok (.func fn first cap) w := fun _ _ _ _ => rfl
  go_enter Try.func20, Try.ntmps20
  go_wp2_with fail
  refine (sum_calls A cap l w.heap.size c _ (Kd.C_below HR.out ((Below.refl _ _).alloc (Nat.le_refl _) _)) HKs.out (by simp)).mono ?_
  rintro e w1 ⟨rfl, hb⟩
  have HB := Aside0.mk (((Below.refl w.heap.size w).alloc (Nat.le_refl _) _).trans (hb.mono (by simp)))
  clear hb
  go_wp2
  go_ret
  exact ⟨rfl, HB.out⟩
end Go.Proofs.Ytgdppnijjhbgfaa.Round
namespace Go.Proofs.Ytgdppnijjhbgfaa.Pr
open Go.RowKit Go.Proofs.YtgdppnijjhbgfaaW.PrintWords Go.Proofs.Ytgdppnijjhbgfaa.Round
set_option linter.unusedVariables false
set_option linter.unusedSimpArgs false
def round_Sum.f (l0 : List S55) (a1 : Int) : Option Int := if l0.all (fun x => decide (-128 ≤ x.f0) && decide (x.f0 < 128)) then some (sumF l0 a1) else none
theorem round_Sum.calls (A0 : Option Addr) (c0 : Nat) (l0 : List S55) (a1 : Int) (r : Int) (w : World) (hr0 : Kd.C k55 w A0 l0.length l0) (hc0 : l0.length ≤ c0) (h : round_Sum.f l0 a1 = some r) :
    Calls Try.prog 20 #[.slice A0 l0.length c0, .int .i64 a1] w fun e w' => e = .returned (.int .i64 r) ∧ Below w.heap.size w w' := by
  unfold round_Sum.f at h
  split at h
  · rename_i hk
    obtain rfl := Option.some.inj h
    exact Sum_calls A0 c0 l0 a1 w hr0 (by simpa [List.all_eq_true] using hk)
  · cases h
def round_Weight.f (a0_0 a0_1 a0_2 a0_3 a0_4 a0_5 a0_6 a0_7 a0_8 a0_9 a0_10 : Int) (l0_11 : List S79) (a0_12 a0_13 : Int) (a0_14 : ByteArray) (l0_15 : List S53) (a1 : Int) : Option Int := if -128 ≤ a0_0 ∧ a0_0 < 128 then some (wF a0_0 a1) else none
theorem round_Weight.calls (a0_0 a0_1 a0_2 a0_3 a0_4 a0_5 a0_6 a0_7 a0_8 a0_9 a0_10 : Int) (A0_11 : Option Addr) (c0_11 : Nat) (l0_11 : List S79) (a0_12 a0_13 : Int) (a0_14 : ByteArray) (A0_15 : Option Addr) (c0_15 : Nat) (l0_15 : List S53) (a1 : Int) (r : Int) (w : World)
    (hr0_11 : Kd.C k79 w A0_11 l0_11.length l0_11) (hc0_11 : l0_11.length ≤ c0_11) (hr0_15 : Kd.C k53 w A0_15 l0_15.length l0_15) (hc0_15 : l0_15.length ≤ c0_15)
    (h : round_Weight.f a0_0 a0_1 a0_2 a0_3 a0_4 a0_5 a0_6 a0_7 a0_8 a0_9 a0_10 l0_11 a0_12 a0_13 a0_14 l0_15 a1 = some r) :
    Calls Try.prog 25 #[.agg #[.int .i8 a0_0, .int .i64 a0_1, .int .i64 a0_2, .int .i64 a0_3, .int .i64 a0_4, .int .i64 a0_5, .int .i64 a0_6, .int .i64 a0_7, .int .i64 a0_8, .int .i64 a0_9, .int .i64 a0_10, .slice A0_11 l0_11.length c0_11, .int .i64 a0_12, .int .i64 a0_13, .string a0_14, .slice A0_15 l0_15.length c0_15], .int .i64 a1] w fun e w' => e = .returned (.int .i64 r) ∧ Below w.heap.size w w' := by
  unfold round_Weight.f at h
  split at h
  · rename_i hk
    obtain rfl := Option.some.inj h
    exact weight_calls _ a0_0 a1 w rfl hk.1 hk.2
  · cases h
end Go.Proofs.Ytgdppnijjhbgfaa.Pr
