import Derived.Test.YtpjibokaeefhiaaOa
/-! Leases: found. -/
namespace Go.Proofs.Ytpjibokaeefhiaa
open Go.Proofs.Ytpjibokaeefhiaa.Tw
theorem firstI_find (so : Lease → Bool) : ∀ (l : List Lease) (n : Nat), (firstI so l n = -1 ∧ l.find? so = none ∧ l.any so = false) ∨ ∃ j x, firstI so l n = ((n + j : Nat) : Int) ∧ l[j]? = some x ∧ l.find? so = some x ∧ l.any so = true
  | [], n => .inl ⟨rfl, rfl, rfl⟩
  | x :: l, n => by
    by_cases h : so x = true
    · exact .inr ⟨0, x, by simp [firstI, h], rfl, by simp [h], by simp [h]⟩
    · simp only [Bool.not_eq_true] at h
      rcases firstI_find so l (n + 1) with ⟨h1, h2, h3⟩ | ⟨j, y, h1, h2, h3, h4⟩
      · exact .inl ⟨by simp [firstI, h, h1], by simp [h, h2], by simp [h]; simpa using h3⟩
      · exact .inr ⟨j + 1, y, by simp [firstI, h, h1]; omega, by simpa using h2, by simp [h, h3], by simp [h]; simpa using h4⟩
def lease0 : Lease := ⟨0, 0, 0, 0, 0⟩
def EmL.found (F : EmL) (o : Option Lease) : AV := .tup [F.l.v (o.getD lease0), .bool o.isSome]
theorem find74 (A : Ar) (E : Em) (F : EmL) {P : Program} (hP : P = Try.prog) (g : FuncId) (caps : List AV) (so : Lease → Bool) (hg : Tells P F g caps so) (l : List Lease) (hl : l.length ≤ 1000000) : TPure P 74 [.sl 5 (F.l.l l), .func (.func g) [] caps] (F.found (l.find? so)) := by
  refine TPure.ofE A T0 (T0_ok hP) (hP ▸ Try.func74) rfl _ rfl (by simp) ?_
  have h81 := index81 A E F hP g caps so hg l hl
  obtain ⟨hc, he, hg⟩ := hg
  rcases firstI_find so l 0 with ⟨h1, h2, _⟩ | ⟨j, x, h1, h2, h3, _⟩
  · rw [h1] at h81
    rw [h2]
    simp only [EmL.found, Option.getD_none, Option.isSome_none, lease0, F.row]
    cbv
    ((try cbv) <;> (repeat ((with_reducible refine EW.of ?_); cbv)))
    refine ⟨Ent.of (hP ▸ Try.func81) rfl, ?_⟩
    refine TC.pure h81 (by simp [purL, AV.pur, hc]; exact F.l.purL l) ?_
    cbv
    ((try cbv) <;> (repeat ((with_reducible refine EW.of ?_); cbv)))
    refine bno (leF (by decide)) ?_
    ((try cbv) <;> (repeat ((with_reducible refine EW.of ?_); cbv)))
  · rw [Nat.zero_add] at h1
    rw [h1] at h81
    rw [h3]
    obtain ⟨x1, x2, x3, x4, x5⟩ := x
    simp only [EmL.found, Option.getD_some, Option.isSome_some, F.row]
    cbv
    ((try cbv) <;> (repeat ((with_reducible refine EW.of ?_); cbv)))
    refine ⟨Ent.of (hP ▸ Try.func81) rfl, ?_⟩
    refine TC.pure h81 (by simp [purL, AV.pur, hc]; exact F.l.purL l) ?_
    cbv
    ((try cbv) <;> (repeat ((with_reducible refine EW.of ?_); cbv)))
    refine byes (leT (by exact Int.natCast_nonneg j)) ?_
    ((try cbv) <;> (repeat ((with_reducible refine EW.of ?_); cbv)))
    refine ⟨j, _, rfl, F.get h2, ?_⟩
    cbv
    ((try cbv) <;> (repeat ((with_reducible refine EW.of ?_); cbv)))
theorem contains66 (A : Ar) (E : Em) (F : EmL) {P : Program} (hP : P = Try.prog) (g : FuncId) (caps : List AV) (so : Lease → Bool) (hg : Tells P F g caps so) (l : List Lease) (hl : l.length ≤ 1000000) : TPure P 66 [.sl 5 (F.l.l l), .func (.func g) [] caps] (.bool (l.any so)) := by
  refine TPure.ofE A T0 (T0_ok hP) (hP ▸ Try.func66) rfl _ rfl (by simp) ?_
  have h81 := index81 A E F hP g caps so hg l hl
  obtain ⟨hc, he, hg⟩ := hg
  obtain ⟨r, hr⟩ : ∃ r, r = l.any so := ⟨_, rfl⟩
  rw [← hr]
  generalize hi : firstI so l 0 = i at h81
  cbv
  ((try cbv) <;> (repeat ((with_reducible refine EW.of ?_); cbv)))
  refine ⟨Ent.of (hP ▸ Try.func81) rfl, ?_⟩
  refine TC.pure h81 (by simp [purL, AV.pur, hc]; exact F.l.purL l) ?_
  cbv
  ((try cbv) <;> (repeat ((with_reducible refine EW.of ?_); cbv)))
  refine ⟨?_, trivial⟩
  rw [hr, ← hi]
  refine (A.ok_le _ _).trans ?_
  rcases firstI_find so l 0 with ⟨h1, _, h3⟩ | ⟨j, x, h1, _, _, h4⟩
  · rw [h1, h3]; rfl
  · rw [h1, h4]; exact decide_eq_true (Int.natCast_nonneg _)
end Go.Proofs.Ytpjibokaeefhiaa
