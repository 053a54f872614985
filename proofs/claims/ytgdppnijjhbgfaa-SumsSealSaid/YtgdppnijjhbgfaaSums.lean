import Derived.Test.YtgdppnijjhbgfaaProg
import Derived.WalkKit
import Derived.Lib.Hide
import Derived.Test.YtgdppnijjhbgfaaWWords
namespace Go.Proofs.Ytgdppnijjhbgfaa.Sums
open Go.RowKit Go.Proofs.YtgdppnijjhbgfaaW.PrintWords
set_option linter.unusedVariables false
set_option linter.unusedSimpArgs false
def eStep (r : Int) : Int := bits .xor .u32 (r / 2) (bits .and .u32 2197175160 (-(bits .and .u32 r 1) % 4294967296))
def eIter : Nat → Int → Int
  | 0, r => r
  | k + 1, r => eStep (eIter k r)
theorem eIter_succ (k : Nat) (r : Int) : eIter (k + 1) r = eStep (eIter k r) := rfl
set_option maxHeartbeats 400000 in
theorem entry_calls (c : Int) (w : World) :
    Calls Try.prog 30 #[.int .u8 c] w fun e w' => e = .returned (.int .u32 (eIter 8 (c % 4294967296))) ∧ w = w' := by
  go_enter Try.func30, Try.ntmps30
  go_wp2
  go_loop [3, 6] (fun r i => ∃ k : Nat, k ≤ 8 ∧ i = .int .i64 k ∧ r = .int .u32 (eIter k (c % 4294967296))) (fun _ i => 8 - (intOf i).toNat)
  case atStart => exact ⟨0, by omega, rfl, rfl⟩
  case round =>
    obtain ⟨k, hk, rfl, rfl⟩ := hrel
    by_cases hlt : k < 8
    · have H := Lib.hid (eIter_succ k (c % 4294967296))
      generalize eIter k (c % 4294967296) = x at *
      go_wp2
      go_round
      case rel => exact ⟨k + 1, by omega, by go_num, by rw [H.out]; rfl⟩
      case measure => simp [intOf]; omega
    · obtain rfl : k = 8 := by omega
      go_wp2
      go_ret
      exact ⟨rfl, rfl⟩

set_option maxHeartbeats 400000 in
theorem known_seen (c : Int) (K S : Nat) (ks : Int) (w : World) (h0 : 0 ≤ c) (h1 : c < 256)
   (hK : w.cell? ⟨K, c.toNat, none⟩ = some (.int .u32 ks)) (hS : w.cell? ⟨S, c.toNat, none⟩ = some (.bool true)) :
    Calls Try.prog 29 #[.int .u8 c, .pointer (some ⟨S, 0, none⟩), .pointer (some ⟨K, 0, none⟩)] w fun e w' => e = .returned (.int .u32 ks) ∧ w = w' := by
  go_enter Try.func29, Try.ntmps29
  go_wp2
  go_ret
  exact ⟨rfl, rfl⟩

set_option maxHeartbeats 400000 in
theorem known_new (c : Int) (K S : Nat) (ks : Int) (w : World) (h0 : 0 ≤ c) (h1 : c < 256) (hKS : K ≠ S)
   (hK : w.cell? ⟨K, c.toNat, none⟩ = some (.int .u32 ks)) (hS : w.cell? ⟨S, c.toNat, none⟩ = some (.bool false)) 
   (hfK : w.frozen? ⟨K, c.toNat, none⟩ = false) (hfS : w.frozen? ⟨S, c.toNat, none⟩ = false) :
    Calls Try.prog 29 #[.int .u8 c, .pointer (some ⟨S, 0, none⟩), .pointer (some ⟨K, 0, none⟩)] w fun e w' => e = .returned (.int .u32 (eIter 8 (c % 4294967296))) ∧ 
      w' = (w.setCell ⟨K, c.toNat, none⟩ (.int .u32 (eIter 8 (c % 4294967296)))).setCell ⟨S, c.toNat, none⟩ (.bool true) := by
  go_enter Try.func29, Try.ntmps29
  go_wp2_with (first | (go_at_call 30; refine (entry_calls _ _).mono ?_; rintro e w' ⟨rfl, rfl⟩))
  go_ret
  exact ⟨rfl, rfl⟩

def Z32 : Array Value := Array.replicate 256 (.int .u32 0)
def ZB : Array Value := Array.replicate 256 (.bool false)
set_option maxRecDepth 100000 in
theorem zero59 (w : World) : (zeroValue 59).run Try.prog w = .ok (.agg Z32) w := by kernel_rfl
set_option maxRecDepth 100000 in
theorem zero60 (w : World) : (zeroValue 60).run Try.prog w = .ok (.agg ZB) w := by kernel_rfl

set_option maxHeartbeats 400000 in
theorem table_calls (w : World) :
    Calls Try.prog 24 #[] w fun e w' => e = .returned (.func (.func 29) #[] #[.pointer (some ⟨w.heap.size + 1, 0, none⟩), .pointer (some ⟨w.heap.size, 0, none⟩)]) ∧ 
      w' = (w.alloc (.cells Z32 59)).alloc (.cells ZB 60) := by
  have hmf : ∀ (fn : Fn) (first cap : Array Value) (w : World), (Instr.makeFunc fn first cap).run Try.prog w = .ok (.func fn first cap) w := fun _ _ _ _ => rfl
  have h59 := zero59
  have h60 := zero60
  go_enter Try.func24, Try.ntmps24
  go_wp2
  go_ret
  exact ⟨rfl, rfl⟩

/-- The memo table from block B on: what is seen is known. -/
def Memo (B : Nat) (w : World) : Prop := ∃ ks ss : Array Value, w.heap[B]? = some (.cells ks 59 (0, 0)) ∧ w.heap[B + 1]? = some (.cells ss 60 (0, 0)) ∧
  ∀ i : Nat, i < 256 → (ss[i]? = some (.bool false) ∧ ∃ x, ks[i]? = some (.int .u32 x)) ∨ (ss[i]? = some (.bool true) ∧ ks[i]? = some (.int .u32 (eIter 8 i)))

theorem set_get (a : Array Value) (i j : Nat) (v u : Value) (h : a[i]? = some u) : (a.setIfInBounds i v)[j]? = if i = j then some v else a[j]? := by
  have hi : i < a.size := (Array.getElem?_eq_some_iff.1 h).1
  by_cases e : i = j
  · subst e; simp [hi]
  · simp [e]

theorem memo_start (w : World) : Memo w.heap.size ((w.alloc (.cells Z32 59)).alloc (.cells ZB 60)) := by
  refine ⟨Z32, ZB, blk_alloc (blk_new w _) _, ?_, fun i hi => .inl ⟨?_, 0, ?_⟩⟩
  · have := blk_new (w.alloc (.cells Z32 59)) (.cells ZB 60); simpa using this
  · simp [ZB, hi]
  · simp [Z32, hi]

set_option maxHeartbeats 400000 in
theorem of_calls (c : Int) (B : Nat) (w : World) (h0 : 0 ≤ c) (h1 : c < 256) (hM : Memo B w) :
    Calls Try.prog 29 #[.int .u8 c, .pointer (some ⟨B + 1, 0, none⟩), .pointer (some ⟨B, 0, none⟩)] w fun e w' => e = .returned (.int .u32 (eIter 8 c)) ∧ Memo B w' ∧ Below B w w' ∧ w'.heap.size = w.heap.size := by
  obtain ⟨ks, ss, hk, hs, hm⟩ := hM
  have e4 : c % 4294967296 = c := by omega
  obtain ⟨n, rfl⟩ := Int.eq_ofNat_of_zero_le h0
  rcases hm n (by omega) with ⟨f, x, k⟩ | ⟨f, k⟩
  · refine (known_new (n : Int) B (B + 1) x w h0 h1 (by omega) ?_ ?_ (blk_frozen hk _) (blk_frozen hs _)).mono ?_
    · rw [blk_cell hk]; simpa using k
    · rw [blk_cell hs]; simpa using f
    · rintro e w' ⟨rfl, rfl⟩
      rw [e4]
      refine ⟨rfl, ⟨ks.setIfInBounds n (.int .u32 (eIter 8 n)), ss.setIfInBounds n (.bool true), ?_, ?_, fun i hi => ?_⟩, ?_, by simp⟩
      · exact blk_far (blk_set hk _ _) (by simp) _
      · exact blk_set (blk_far hs (by simp) _) _ _
      · rw [set_get _ _ _ _ _ f, set_get _ _ _ _ _ k]
        by_cases e : n = i
        · subst e; simp
        · simp only [if_neg e]; exact hm i hi
      · exact ((Below.refl _ _).setCell (by simp) _).setCell (by simp) _
  · refine (known_seen (n : Int) B (B + 1) (eIter 8 n) w h0 h1 ?_ ?_).mono ?_
    · rw [blk_cell hk]; simpa using k
    · rw [blk_cell hs]; simpa using f
    · rintro e w' ⟨rfl, rfl⟩
      exact ⟨rfl, ⟨ks, ss, hk, hs, hm⟩, Below.refl _ _, rfl⟩

theorem bits_u8 (op : BinOp) (x y : Int) : 0 ≤ bits op .u8 x y ∧ bits op .u8 x y < 256 := by
  unfold bits
  rw [IntKind.wrap_u8]
  omega
theorem bits_u32 (op : BinOp) (x y : Int) : 0 ≤ bits op .u32 x y ∧ bits op .u32 x y < 4294967296 := by
  unfold bits
  rw [IntKind.wrap_u32]
  omega
def mStep (r c : Int) : Int := bits .xor .u32 (r / 256) (eIter 8 (bits .xor .u8 (r % 256) c))
def mores (r : Int) (l : List Int) : Int := l.foldl mStep r
theorem mores_take (r : Int) (l : List Int) (k : Nat) (h : k < l.length) : mores r (l.take (k + 1)) = mStep (mores r (l.take k)) (rd l k) := by
  unfold mores
  rw [List.take_succ_eq_append_getElem h, List.foldl_append]
  simp [rd, h]

end Go.Proofs.Ytgdppnijjhbgfaa.Sums
namespace Go.Proofs.Ytgdppnijjhbgfaa.Pr
open Go.RowKit Go.Proofs.YtgdppnijjhbgfaaW.PrintWords Go.Proofs.Ytgdppnijjhbgfaa.Sums
set_option linter.unusedVariables false
set_option linter.unusedSimpArgs false
def sums_More.f (a0 : Int) (l1 : List Int) : Option Int := some (bits .xor .u32 4294967295 (mores (bits .xor .u32 4294967295 a0) l1))

set_option maxHeartbeats 400000 in
theorem sums_More.calls (a0 : Int) (A1 : Option Addr) (c1 : Nat) (l1 : List Int) (r : Int) (w : World) (hr1 : Kd.C (Kd.int .u8) w A1 l1.length l1) (hc1 : l1.length ≤ c1) (h : sums_More.f a0 l1 = some r) :
    Calls Try.prog 12 #[.int .u32 a0, .slice A1 l1.length c1] w fun e w' => e = .returned (.int .u32 r) ∧ Below w.heap.size w w' := by
  unfold sums_More.f at h
  have hl : l1.length ≤ 9223372036854775807 := hr1.2.1
  obtain rfl := Option.some.inj h
  have HR := Aside0.mk hr1
  clear h hr1
  have hmf : ∀ (fn : Fn) (first cap : Array Value) (w : World), (Instr.makeFunc fn first cap).run Try.prog w = .ok (.func fn first cap) w := fun _ _ _ _ => rfl
  go_enter Try.func12, Try.ntmps12
  go_wp2_with (first | (go_at_call 24; refine (table_calls _).mono ?_; rintro e w' ⟨rfl, rfl⟩))
  have hms := memo_start w
  generalize hx0 : bits BinOp.xor IntKind.u32 IntKind.u32.max a0 = x0
  have Hx0 := Lib.hid hx0
  clear hx0
  go_loopw [6, 14] (fun r i wr => ∃ k : Nat, k ≤ l1.length ∧ i = .int .i64 k ∧ r = .int .u32 (mores x0 (l1.take k)) ∧ Aside0 (Memo w.heap.size wr ∧ Below w.heap.size w wr)) (fun _ i _ => l1.length - (intOf i).toNat)
  case atStart => exact ⟨0, by omega, rfl, rfl, ⟨hms, ((Below.refl _ _).alloc (Nat.le_refl _) _).alloc (by simp) _⟩⟩
  case round =>
    obtain ⟨k, hk, rfl, rfl, HM⟩ := hrel
    clear hms
    by_cases hlt : k < l1.length
    · obtain ⟨ad, hA, hx⟩ := Kd.at_int HR.out (k : Int) (by omega) (by omega)
      have H := Lib.hid (mores_take x0 l1 k hlt)
      have hx' := (HM.out.2.cell (World.block_lt_of_cell? w _ hx)).trans hx
      clear hx
      subst hA
      rw [Int.toNat_natCast] at hx'
      generalize mores x0 (l1.take k) = m at *
      have hb8 := bits_u8 .xor (m % 256) (rd l1 (k : Int))
      go_wp2_with fail
      refine (of_calls _ _ _ hb8.1 hb8.2 HM.out.1).mono ?_
      rintro e w' ⟨rfl, hM', hb', hs'⟩
      have HM' : Aside0 (Memo w.heap.size w' ∧ Below w.heap.size w w') := ⟨hM', HM.out.2.trans hb'⟩
      clear hM' hb' hs' hx' HM hb8
      go_wp2
      go_roundw
      case rel => exact ⟨k + 1, by omega, by go_num, by rw [H.out]; rfl, HM'⟩
      case measure => simp [intOf]; omega
    · obtain rfl : k = l1.length := by omega
      rw [List.take_length]
      go_wp2
      go_ret
      have hx0 := Hx0.out
      subst hx0
      exact ⟨rfl, HM.out.2⟩
end Go.Proofs.Ytgdppnijjhbgfaa.Pr
