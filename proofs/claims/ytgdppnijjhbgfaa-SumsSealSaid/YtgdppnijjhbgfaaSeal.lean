import Derived.Test.YtgdppnijjhbgfaaPr2 -- home sums_Open.f
import Derived.Test.YtgdppnijjhbgfaaPr3 -- home allotmentlaw04_wakes.f
import Derived.Test.YtgdppnijjhbgfaaCrc
/-! What the program's sums, sealed bytes and opened bytes are, in plain words. -/
namespace Go.Proofs.Ytgdppnijjhbgfaa.Crc
open Go.RowKit Go.Proofs.YtgdppnijjhbgfaaW.PrintWords Go.Proofs.Ytgdppnijjhbgfaa.Sums Go.Proofs.Ytgdppnijjhbgfaa.Pr
set_option linter.unusedVariables false
set_option linter.unusedSimpArgs false

def ones : BitVec 32 := BitVec.allOnes 32
/-- The sum of bytes behind a sum. -/
def moreW (s : Int) (l : List Int) : Int := V (ones ^^^ F (ones ^^^ B s) l)
def sumW (l : List Int) : Int := moreW 0 l
def be4 (s : Int) : List Int := [(s / 16777216) % 256, (s / 65536) % 256, (s / 256) % 256, s % 256]
theorem xor_max (s : Int) : bits .xor .u32 4294967295 s = V (ones ^^^ B s) := by
  rw [xorV]; rfl
theorem more_f (s : Int) (l : List Int) (hl : Bytes l) : sums_More.f s l = some (moreW s l) := by
  unfold sums_More.f moreW
  rw [xor_max s, mores_V l hl, xor_max]
  congr 3
  exact ofInt_V _
theorem sum_f (l : List Int) (hl : Bytes l) : sums_Sum.f l = some (sumW l) := by
  unfold sums_Sum.f
  rw [more_f 0 l hl]; rfl
theorem sumW_range (l : List Int) : 0 ≤ sumW l ∧ sumW l < 4294967296 := V_range _
theorem be4_bytes (s : Int) : Bytes (be4 s) := by
  intro x hx
  simp [be4] at hx
  omega
theorem be4_inj {s t : Int} (hs : 0 ≤ s ∧ s < 4294967296) (ht : 0 ≤ t ∧ t < 4294967296) (h : be4 s = be4 t) : s = t := by
  simp [be4] at h
  omega
def sealW (l : List Int) : List Int := l ++ be4 (sumW l)
theorem bytes_append {a b : List Int} (ha : Bytes a) (hb : Bytes b) : Bytes (a ++ b) := by
  intro x hx
  rcases List.mem_append.1 hx with h | h
  · exact ha x h
  · exact hb x h
theorem bytes_take {a : List Int} (ha : Bytes a) (n : Nat) : Bytes (a.take n) := fun x hx => ha x (List.mem_of_mem_take hx)
theorem sealW_bytes {l : List Int} (hl : Bytes l) : Bytes (sealW l) := bytes_append hl (be4_bytes _)
theorem seal_f (l : List Int) (hl : Bytes l) (hn : l.length ≤ 1000000000) : sums_Seal.f l = some (sealW l) := by
  unfold sums_Seal.f sealW
  rw [sum_f l hl]
  have hw : wrap64 ((l.length : Int) + 4) = (l.length : Int) + 4 := by unfold wrap64; omega
  simp only [Option.bind_some, hw]
  rw [if_pos (by omega), if_pos (by omega), if_pos (by simp; omega), if_pos (by simp; omega)]
  rfl
theorem str_inj {a b : List Int} (ha : Bytes a) (hb : Bytes b) : (strOfNums a).toList = (strOfNums b).toList ↔ a = b := by
  rw [ByteArray.toList_eq, ByteArray.toList_eq, strOfNums_data, strOfNums_data]
  constructor
  · intro h
    induction a generalizing b with
    | nil => cases b with
      | nil => rfl
      | cons y b => simp at h
    | cons x a ih => cases b with
      | nil => simp at h
      | cons y b =>
        simp only [List.map_cons, List.cons.injEq] at h
        have hx := ha x (List.mem_cons_self ..)
        have hy := hb y (List.mem_cons_self ..)
        have := congrArg UInt8.toNat h.1
        simp [UInt8.toNat_ofNat'] at this
        rw [ih ha.tail hb.tail h.2]
        congr 1
        omega
  · rintro rfl; rfl
/-- Opened bytes: those ahead of the sum, if it is theirs. -/
def openW (l : List Int) : List Int × Bool := if l.length < 4 then ([], false) else if sealW (l.take (l.length - 4)) = l then (l.take (l.length - 4), true) else ([], false)
theorem open_f (l : List Int) (hl : Bytes l) (hn : l.length ≤ 1000000000) : sums_Open.f l = some (openW l) := by
  unfold sums_Open.f openW
  have hw : wrap64 ((l.length : Int) - 4) = (l.length : Int) - 4 := by unfold wrap64; omega
  simp only [hw]
  by_cases h4 : l.length < 4
  · rw [if_pos (by omega), if_pos h4]
  · rw [if_neg (by omega), if_neg h4, if_pos (by omega), if_pos (by omega)]
    have e : ((l.length : Int) - 4).toNat = l.length - 4 := by omega
    rw [e, seal_f _ (bytes_take hl _) (by rw [List.length_take]; omega)]
    simp only [Option.bind_some]
    by_cases hs : sealW (l.take (l.length - 4)) = l
    · rw [if_pos ((str_inj (sealW_bytes (bytes_take hl _)) hl).2 hs), if_pos hs, if_pos (by rw [List.length_take]; simp; omega)]
      rfl
    · rw [if_neg (fun h => hs ((str_inj (sealW_bytes (bytes_take hl _)) hl).1 h)), if_neg hs]
theorem open_seal (l : List Int) : openW (sealW l) = (l, true) := by
  unfold openW
  have hL : (sealW l).length = l.length + 4 := by simp [sealW, be4]
  rw [if_neg (by omega)]
  have : (sealW l).take ((sealW l).length - 4) = l := by rw [hL]; simp [sealW]
  rw [this, if_pos rfl]
theorem wakes_f : allotmentlaw04_wakes.f = some true := by decide +kernel
theorem wf_bytes {l : List Int} (h : ∀ x ∈ l, (Lit.int .u8 x).wf = true) : Bytes l := by
  intro x hx
  have := h x hx
  simp [Lit.wf, IntKind.min, IntKind.max, IntKind.bits, IntKind.signed] at this
  omega
theorem wf_u32 {x : Int} (h : (Lit.int .u32 x).wf = true) : 0 ≤ x ∧ x < 4294967296 := by
  simp [Lit.wf, IntKind.min, IntKind.max, IntKind.bits, IntKind.signed] at h
  omega
theorem wf_i64 {x : Int} (h : (Lit.int .i64 x).wf = true) : -9223372036854775808 ≤ x ∧ x ≤ 9223372036854775807 := by
  simp [Lit.wf, IntKind.min, IntKind.max, IntKind.bits, IntKind.signed] at h
  omega
end Go.Proofs.Ytgdppnijjhbgfaa.Crc
