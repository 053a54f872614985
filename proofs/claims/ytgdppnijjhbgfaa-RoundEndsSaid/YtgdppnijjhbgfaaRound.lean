import Derived.Test.YtgdppnijjhbgfaaPr0
import Derived.Lib.Hide
/-! Package round's functions that hold an array, or hand a function on. -/
namespace Go.Proofs.Ytgdppnijjhbgfaa.Round
open Go.RowKit Go.Proofs.YtgdppnijjhbgfaaW.PrintWords Go.Proofs.Ytgdppnijjhbgfaa.Pr
set_option linter.unusedVariables false
set_option linter.unusedSimpArgs false
theorem there_calls (c : Int) (w : World) : Calls Try.prog 28 #[.int .i64 c] w fun e w' => e = .returned (.bool (decide (1 ≤ c) && decide (c ≤ 8))) ∧ w = w' := by
  by_cases h : 1 ≤ c
  · have hb : decide (1 ≤ c) = true := by simpa using h
    go_enter Try.func28, Try.ntmps28
    go_wp2
    go_ret
    exact ⟨by simp [h], rfl⟩
  · have hb : decide (1 ≤ c) = false := by simpa using h
    go_enter Try.func28, Try.ntmps28
    go_wp2
    go_ret
    exact ⟨by simp [h], rfl⟩
/-- The weights by kinds, as the array holds them. -/
def wts (c : Int) : Array Value := #[.int .i64 0, .int .i64 0, .int .i64 2, .int .i64 0, .int .i64 0, .int .i64 (wrap64 (2 + wrap64 (3 * c))), .int .i64 0, .int .i64 0, .int .i64 3, .int .i64 2, .int .i64 1]
theorem weights_calls (c : Int) (w : World) : Calls Try.prog 31 #[.int .i64 c] w fun e w' => e = .returned (.agg (wts c)) ∧ w' = w.alloc (.cells (wts c) 61) := by
  go_enter Try.func31, Try.ntmps31
  go_wp2
  exact bodyPost_ret (v := .agg (wts c)) (by simp [results, Try.results31, go_sem, wts]) rfl ⟨rfl, rfl⟩

/-- What a kind weighs. -/
def wt (k c : Int) : Int := if k = 2 then 2 else if k = 5 then wrap64 (2 + wrap64 (3 * c)) else if k = 8 then 3 else if k = 9 then 2 else if k = 10 then 1 else 0
theorem wts_get (c : Int) (k : Nat) (h : k < 11) : (wts c)[k]? = some (.int .i64 (wt k c)) := by
  have : k = 0 ∨ k = 1 ∨ k = 2 ∨ k = 3 ∨ k = 4 ∨ k = 5 ∨ k = 6 ∨ k = 7 ∨ k = 8 ∨ k = 9 ∨ k = 10 := by omega
  rcases this with rfl | rfl | rfl | rfl | rfl | rfl | rfl | rfl | rfl | rfl | rfl <;> rfl
def wF (k c : Int) : Int := if 1 ≤ c ∧ c ≤ 8 then (if k < 0 then 1 else if k ≥ 11 then 1 else if wt k c = 0 then 1 else wt k c) else 0
theorem wF_no {k c : Int} (h : (decide (1 ≤ c) && decide (c ≤ 8)) = false) : wF k c = 0 := by
  unfold wF; rw [if_neg]; intro h2; simp [h2.1, h2.2] at h
theorem wF_yes {k c : Int} (h : (decide (1 ≤ c) && decide (c ≤ 8)) = true) : wF k c = if k < 0 then 1 else if k ≥ 11 then 1 else if wt k c = 0 then 1 else wt k c := by
  unfold wF; rw [if_pos]; simpa using h
def msg (a0 a1 a2 a3 a4 a5 a6 a7 a8 a9 a10 : Int) (v11 : Value) (a12 a13 : Int) (a14 : ByteArray) (v15 : Value) : Array Value :=
  #[.int .i8 a0, .int .i64 a1, .int .i64 a2, .int .i64 a3, .int .i64 a4, .int .i64 a5, .int .i64 a6, .int .i64 a7, .int .i64 a8, .int .i64 a9, .int .i64 a10, v11, .int .i64 a12, .int .i64 a13, .string a14, v15]
theorem weights_lit (c : Int) (w : World) : Calls Try.prog 31 #[.int .i64 c] w fun e w' => e = .returned (.agg #[.int .i64 0, .int .i64 0, .int .i64 2, .int .i64 0, .int .i64 0, .int .i64 (wrap64 (2 + wrap64 (3 * c))), .int .i64 0, .int .i64 0, .int .i64 3, .int .i64 2, .int .i64 1]) ∧ w' = w.alloc (.cells (wts c) 61) := weights_calls c w
set_option maxHeartbeats 800000 in
theorem weight_calls (cs : Array Value) (k c : Int) (w : World) (hk : cs[0]? = some (.int .i8 k)) (hlo : -128 ≤ k) (hhi : k < 128) : Calls Try.prog 25 #[.agg cs, .int .i64 c] w fun e w' => e = .returned (.int .i64 (wF k c)) ∧ Below w.heap.size w w' := by
  have HK := Lib.hid hk
  clear hk
  go_enter Try.func25, Try.ntmps25
  go_wp2_with (first | (go_at_call 31; refine (weights_lit _ _).mono ?_; rintro e w' ⟨rfl, rfl⟩) | (go_at_call 28; fail))
  have hc : ∀ (W : World) (h : W = (((w.alloc (.cells cs 55)).alloc (.cells (wts c) 61)).alloc (.cells (wts c) 61))), W.cell? ⟨w.heap.size, 0, none⟩ = some (.int .i8 k) ∧ (∀ n : Nat, n < 11 → W.cell? ⟨w.heap.size + 1 + 1, n, none⟩ = some (.int .i64 (wt n c))) ∧ Below w.heap.size w W := by
    rintro W rfl
    refine ⟨?_, fun n hn => ?_, (((Below.refl _ _).alloc (Nat.le_refl _) _).alloc (by simp) _).alloc (by simp; omega) _⟩
    · rw [World.cell?_alloc_past _ _ _ (by simp; omega), World.cell?_alloc_past _ _ _ (by simp), World.cell?_alloc_new]; exact HK.out
    · rw [World.cell?_alloc_at _ _ _ _ (by simp)]; exact wts_get c n hn
  refine (there_calls _ _).mono ?_
  rintro e w' ⟨rfl, hw⟩
  obtain ⟨h0, h1, hB⟩ := hc _ hw.symm
  have H1 := Lib.hid h1
  have HB := Lib.hid hB
  clear hw hc h1 hB
  cases ht : (decide (1 ≤ c) && decide (c ≤ 8)) with
  | false =>
    have hW := Lib.hid (wF_no (k := k) ht)
    clear ht
    go_wp2
    go_ret
    exact ⟨by rw [hW.out]; rfl, HB.out⟩
  | true =>
    have hW := wF_yes (k := k) ht
    clear ht
    by_cases hn : k < 0
    · have hV := Lib.hid (show wF k c = 1 by rw [hW, if_pos hn])
      have hnb : decide (k < 0) = true := by simpa using hn
      clear hn hW
      go_wp2
      go_ret
      exact ⟨by rw [hV.out]; rfl, HB.out⟩
    · by_cases hm : k ≥ 11
      · have hV := Lib.hid (show wF k c = 1 by rw [hW, if_neg hn, if_pos hm])
        have hnb : decide (k < 0) = false := by simpa using hn
        have hmb : decide (11 ≤ k) = true := by simpa using hm
        clear hn hm hW
        go_wp2
        go_ret
        exact ⟨by rw [hV.out]; rfl, HB.out⟩
      · have hx := H1.out k.toNat (by omega)
        have hnb : decide (k < 0) = false := by simpa using hn
        have hmb : decide (11 ≤ k) = false := by simp; omega
        have k0 : 0 ≤ k := by omega
        have k1 : k < 11 := by omega
        rw [show ((k.toNat : Nat) : Int) = k from by omega] at hx
        by_cases hz : wt k c = 0
        · have hV := Lib.hid (show wF k c = 1 by rw [hW, if_neg hn, if_neg hm, if_pos hz])
          have hzb : (wt k c == 0) = true := by simpa using hz
          clear hn hm hW hz
          have k0 := eq_true k0
          have k1 := eq_true k1
          go_wp2

          go_ret
          exact ⟨by rw [hV.out]; rfl, HB.out⟩
        · have hV := Lib.hid (show wF k c = wt k c by rw [hW, if_neg hn, if_neg hm, if_neg hz])
          have hzb : (wt k c == 0) = false := by simpa using hz
          clear hn hm hW hz
          have k0 := eq_true k0
          have k1 := eq_true k1
          go_wp2
          go_ret
          exact ⟨by rw [hV.out]; rfl, HB.out⟩

set_option maxHeartbeats 800000 in
theorem sum1_calls (a0 a1 a2 a3 a4 a5 a6 a7 a8 a9 a10 : Int) (v11 : Value) (a12 a13 : Int) (a14 : ByteArray) (v15 : Value) (B : Nat) (c : Int) (w : World) (hlo : -128 ≤ a0) (hhi : a0 < 128) (hc : w.cell? ⟨B, 0, none⟩ = some (.int .i64 c))
    (o11 : v11.oneCell' = true) (o15 : v15.oneCell' = true) :
    Calls Try.prog 27 #[.agg #[.int .i8 a0, .int .i64 a1, .int .i64 a2, .int .i64 a3, .int .i64 a4, .int .i64 a5, .int .i64 a6, .int .i64 a7, .int .i64 a8, .int .i64 a9, .int .i64 a10, v11, .int .i64 a12, .int .i64 a13, .string a14, v15], .pointer (some ⟨B, 0, none⟩)] w fun e w' => e = .returned (.int .i64 (wF a0 c)) ∧ Below w.heap.size w w' := by
  have hBl := World.block_lt_of_cell? w _ hc
  go_enter Try.func27, Try.ntmps27
  go_wp2_with fail
  refine (weight_calls _ a0 c _ rfl hlo hhi).mono ?_
  rintro e w1 ⟨rfl, hb⟩
  have HB := Lib.hid (((Below.refl w.heap.size w).alloc (Nat.le_refl _) (.cells #[.int .i8 a0, .int .i64 a1, .int .i64 a2, .int .i64 a3, .int .i64 a4, .int .i64 a5, .int .i64 a6, .int .i64 a7, .int .i64 a8, .int .i64 a9, .int .i64 a10, v11, .int .i64 a12, .int .i64 a13, .string a14, v15] 55)).trans (hb.mono (by simp)))
  clear hb
  go_wp2
  go_ret
  exact ⟨rfl, HB.out⟩

end Go.Proofs.Ytgdppnijjhbgfaa.Round
