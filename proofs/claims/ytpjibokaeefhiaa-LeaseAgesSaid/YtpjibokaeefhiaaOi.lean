import Derived.Test.YtpjibokaeefhiaaOh
/-! A lease added. -/
namespace Go.Proofs.Ytpjibokaeefhiaa
open Go.Proofs.Ytpjibokaeefhiaa.Tw
theorem EmL.scal (F : EmL) (l : List Lease) : Scal (F.l.l l) := ⟨by
  rw [F.l.ok, F.ok]
  simp [escal, Lease.av, AV.cells, AV.scalar]⟩
theorem Clone68 (A : Ar) (F : EmL) {P : Program} (hP : P = Try.prog) (l : List Lease) (hl : l.length ≤ 1000000) : TPure P 68 [.sl 5 (F.l.l l)] (.sl 5 (F.l.l l)) := by
  refine TPure.ofE A T0 (T0_ok hP) (hP ▸ Try.func68) rfl _ rfl (by simp) ?_
  have hll := F.l.len l
  obtain ⟨r, hr⟩ : ∃ r, r = F.l.l l := ⟨_, rfl⟩
  rw [show AV.sl 5 (F.l.l l) = .sl 5 r from by rw [hr]]
  cases l with
  | nil =>
    rw [F.l.nil] at hr
    subst hr
    cbv
    ((try cbv) <;> (repeat ((with_reducible refine EW.of ?_); cbv)))
    refine And.intro (fun _ => ?_) ?_
    · cbv
      ((try cbv) <;> (repeat ((with_reducible refine EW.of ?_); cbv)))
    · ((try cbv) <;> (repeat ((with_reducible refine EW.of ?_); cbv)))
      exact ⟨⟨rfl⟩, trivial⟩
  | cons x xs =>
    obtain ⟨x1, x2, x3, x4, x5⟩ := x
    rw [F.l.cons, F.row] at hr
    cbv
    ((try cbv) <;> (repeat ((with_reducible refine EW.of ?_); cbv)))
    refine And.intro (fun h => by rw [hr] at h; cases h) ?_
    have hlr : r.length = xs.length + 1 := by rw [hr]; simp [F.l.len]
    ((try cbv) <;> (repeat ((with_reducible refine EW.of ?_); cbv)))
    rw [hr]
    cbv
    ((try cbv) <;> (repeat ((with_reducible refine EW.of ?_); cbv)))
    rw [← hr]
    have hsc := F.scal (⟨x1, x2, x3, x4, x5⟩ :: xs)
    rw [F.l.cons, F.row, ← hr] at hsc
    obtain ⟨q, hq⟩ : ∃ q, q = r.length := ⟨_, rfl⟩
    refine ⟨hsc, 0, rfl, q, r, by rw [hq, Nat.zero_add], by simp, Nat.zero_le _, ?_, ?_, ?_⟩
    · show q * 40 ≤ _
      simp only [List.length_cons] at hl
      omega
    · simp only [List.length_cons] at hl
      omega
    cbv
    ((try cbv) <;> (repeat ((with_reducible refine EW.of ?_); cbv)))
    refine ⟨⟨by rw [List.drop_zero, hq, List.take_length], by omega⟩, ⟨?_⟩, trivial⟩
    rw [hr, ← F.row, ← F.l.cons]
    exact F.l.purL _
end Go.Proofs.Ytpjibokaeefhiaa
