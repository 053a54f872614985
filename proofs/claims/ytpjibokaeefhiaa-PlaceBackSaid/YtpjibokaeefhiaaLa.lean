import Derived.Test.YtpjibokaeefhiaaTy
import Derived.Test.YtpjibokaeefhiaaTw6
/-! Trees and rows as abstract values; the first functions. -/
namespace Go.Proofs.Ytpjibokaeefhiaa
open Go.Proofs.Ytpjibokaeefhiaa.Tw
def ints (l : List Int) : List AV := l.map fun i => .int .i64 i
theorem ints_len (l : List Int) : (ints l).length = l.length := by simp [ints]
theorem ints_get {l : List Int} {k : Nat} {i : Int} (h : l[k]? = some i) : (ints l)[k]? = some (.int .i64 i) := by simp [ints, h]
theorem ints_pur (l : List Int) : purL (ints l) = true := purL_of (by simp [ints, AV.pur])
theorem ints18 (A : Ar) {P : Program} (hP : P = Try.prog) (a b : List Int) (ha : a.length < 9223372036854775807) : TPure P 18 [.sl 1 (ints a), .sl 1 (ints b)] (.bool (a == b)) := by
  refine TPure.of (TC.of_ewp A T0 (T0_ok hP) (hP ▸ Try.func18) rfl _ rfl (by simp) ?_)
  generalize hia : ints a = ia
  generalize hib : ints b = ib
  have hla : ia.length = a.length := by rw [← hia, ints_len]
  have hlb : ib.length = b.length := by rw [← hib, ints_len]
  cbv
  ((try cbv) <;> (repeat ((with_reducible refine EW.of ?_); cbv)))
  refine bsplit (fun h => ?_) (fun h => ?_)
  · ((try cbv) <;> (repeat ((with_reducible refine EW.of ?_); cbv)))
    have h := ne_t h (A.ok_len _) (A.ok_len _)
    have hne : (a == b) = false := by
      simp only [beq_eq_false_iff_ne]
      rintro rfl
      apply h
      omega
    exact ⟨_, _, VSV.refl _ _ _, by rw [hne]; exact ⟨rfl, rfl⟩⟩
  · have h := ne_f h (A.ok_len _) (A.ok_len _)
    have hl : a.length = b.length := by omega
    ((try cbv) <;> (repeat ((with_reducible refine EW.of ?_); cbv)))
    refine TW.loopE A (T0_ok hP) (fun n fr L => ∃ i : Nat, n = a.length - i ∧ i ≤ a.length ∧ a.take i = b.take i ∧ fr = ⟨26, [(5, .int .i64 i), (0, .sl 1 ia), (1, .sl 1 ib)]⟩ ∧ L = []) (n0 := a.length) (fr0 := ⟨26, [(5, .int .i64 0), (0, .sl 1 ia), (1, .sl 1 ib)]⟩) (L0 := [])
      (VS.pick rfl (.cons (Sub.refl _) (.cons (Sub.refl _) (.cons (Sub.refl _) .nil)))) ⟨0, rfl, by omega, rfl, rfl, rfl⟩ ?_
    rintro n fr L ⟨i, hn, hi, ht, rfl, rfl⟩
    cbv
    ((try cbv) <;> (repeat ((with_reducible refine EW.of ?_); cbv)))
    refine bsplit (fun h => ?_) (fun h => ?_)
    · have h : i < ia.length := lt_nt h rfl (A.ok_len _)
      have hk : i < a.length := by omega
      have hk' : i < b.length := by omega
      ((try cbv) <;> (repeat ((with_reducible refine EW.of ?_); cbv)))
      obtain ⟨x, hx⟩ : ∃ x, a[i]? = some x := ⟨_, List.getElem?_eq_getElem hk⟩
      obtain ⟨y, hy⟩ : ∃ y, b[i]? = some y := ⟨_, List.getElem?_eq_getElem hk'⟩
      (refine TW.draw (A := A) (T0_ok hP) (hP ▸ follows_mixed) (by kernel_rfl) rfl ?_; cbv)
      refine ⟨i, .int .i64 x, rfl, by rw [← hia]; exact ints_get hx, ?_⟩
      refine ⟨i, .int .i64 y, rfl, by rw [← hib]; exact ints_get hy, ?_⟩
      ((try cbv) <;> (repeat ((with_reducible refine EW.of ?_); cbv)))
      refine bsplit (fun h2 => ?_) (fun h2 => ?_)
      · ((try cbv) <;> (repeat ((with_reducible refine EW.of ?_); cbv)))
        have h2 : x ≠ y := ne_t h2 rfl rfl
        refine ⟨_, _, VSV.refl _ _ _, ?_, rfl⟩
        have hne : (a == b) = false := by
          simp only [beq_eq_false_iff_ne]
          rintro rfl
          rw [hx] at hy
          exact h2 (Option.some.inj hy)
        rw [hne]
        rfl
      · ((try cbv) <;> (repeat ((with_reducible refine EW.of ?_); cbv)))
        have h2 : x = y := ne_f h2 rfl rfl
        exact ⟨⟨a.length - (i + 1), ⟨26, [(5, .int .i64 ((i + 1 : Nat) : Int)), (0, .sl 1 ia), (1, .sl 1 ib)]⟩, [], by omega, VS.pick rfl (.cons (Sub.inc A (by omega)) (.cons (Sub.refl _) (.cons (Sub.refl _) .nil))), i + 1, rfl, hk, by rw [List.take_add_one, List.take_add_one, ht, hx, hy, h2], rfl, rfl⟩⟩
    · have h : ia.length ≤ i := lt_nf h rfl (A.ok_len _)
      ((try cbv) <;> (repeat ((with_reducible refine EW.of ?_); cbv)))
      refine ⟨_, _, VSV.refl _ _ _, ?_, rfl⟩
      have heq : a = b := by
        have h1 : a.length ≤ i := by omega
        have h2 : b.length ≤ i := by omega
        rw [List.take_of_length_le h1, List.take_of_length_le h2] at ht
        exact ht
      have : (a == b) = true := by simpa using heq
      rw [this]
      rfl
end Go.Proofs.Ytpjibokaeefhiaa
