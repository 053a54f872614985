import Derived.Test.YtlngpfocngfokaaHh
/-! A walk's nodes, in order. -/
namespace Go.Proofs.Ytlngpfocngfokaa
open Go.Proofs.Ytlngpfocngfokaa.Tw
mutual
def ordT : Tree → Nat → List (Tree × Nat)
  | .node i k s ks, d => (.node i k s ks, d) :: ordK ks (d + 1)
def ordK : List Tree → Nat → List (Tree × Nat)
  | [], _ => []
  | t :: ts, d => ordT t d ++ ordK ts d
end
mutual
theorem walkT_ord (m : Nat) : ∀ (t : Tree) (l : List (Tree × Nat)) (d : Nat), l.length ≤ m → walkT m t l d = l ++ (ordT t d).take (m - l.length)
  | .node i k s ks, l, d, h => by
    rw [walkT, ordT]
    split
    · rename_i h2
      rw [show m - l.length = 0 by omega, List.take_zero, List.append_nil]
    · rename_i h2
      rw [walkK_ord m ks _ _ (by simp; omega), show m - l.length = (m - (l.length + 1)) + 1 by omega, List.take_succ_cons]
      simp
theorem walkK_ord (m : Nat) : ∀ (ts : List Tree) (l : List (Tree × Nat)) (d : Nat), l.length ≤ m → walkK m ts l d = l ++ (ordK ts d).take (m - l.length)
  | [], l, d, _ => by simp [walkK, ordK]
  | t :: ts, l, d, h => by
    rw [walkK, ordK, walkT_ord m t l d h, walkK_ord m ts _ d (by simp; omega)]
    rw [List.take_append, List.append_assoc, List.length_append, List.length_take]
    congr 2
    congr 1
    omega
end
section
variable {σ : Type} (f : σ → Tree → Nat → σ × Bool)
/-- One after the other, till one is the last. -/
def foldS : List (Tree × Nat) → σ → σ × Bool
  | [], x => (x, true)
  | (t, d) :: l, x => match f x t d with
    | (x1, true) => foldS l x1
    | (x1, false) => (x1, false)
theorem foldS_append : ∀ (a b : List (Tree × Nat)) (x : σ), foldS f (a ++ b) x = match foldS f a x with
    | (x1, true) => foldS f b x1
    | (x1, false) => (x1, false)
  | [], b, x => rfl
  | (t, d) :: a, b, x => by
    rw [List.cons_append, foldS, foldS]
    generalize f x t d = r
    obtain ⟨x1, c⟩ := r
    cases c with
    | true => exact foldS_append a b x1
    | false => rfl
mutual
theorem runT_ord : ∀ (t : Tree) (d : Nat) (x : σ), runT f t d x = foldS f (ordT t d) x
  | .node i k s ks, d, x => by
    rw [runT, ordT, foldS]
    generalize f x (.node i k s ks) d = r
    obtain ⟨x1, c⟩ := r
    cases c with
    | true => exact runK_ord ks (d + 1) x1
    | false => rfl
theorem runK_ord : ∀ (ts : List Tree) (d : Nat) (x : σ), runK f ts d x = foldS f (ordK ts d) x
  | [], d, x => rfl
  | t :: ts, d, x => by
    rw [runK, ordK, foldS_append, runT_ord t d x]
    generalize foldS f (ordT t d) x = r
    obtain ⟨x1, c⟩ := r
    cases c with
    | true => exact runK_ord ts d x1
    | false => rfl
end
end
theorem many_fold : ∀ (l : List (Tree × Nat)) (n : Nat), n ≤ 200 → (foldS manyF l (n, false)).1.2 = decide (200 < n + l.length)
  | [], n, h => by
    show false = _
    rw [decide_eq_false (by simp; omega)]
  | (t, d) :: l, n, h => by
    rw [foldS]
    by_cases hc : 200 < n + 1
    · rw [show manyF (n, false) t d = ((n + 1, true), false) from if_pos hc]
      show true = _
      rw [decide_eq_true (by simp; omega)]
    · rw [show manyF (n, false) t d = ((n + 1, false), true) from if_neg hc]
      show (foldS manyF l (n + 1, false)).1.2 = _
      rw [many_fold l (n + 1) (by omega), List.length_cons]
      congr 1
      simp only [eq_iff_iff]
      omega
theorem manyB_ord (t : Tree) : manyB t = decide (200 < (ordT t 1).length) := by
  unfold manyB
  rw [runT_ord, many_fold _ _ (by decide), Nat.zero_add]
/-- The first node that is to be refused. -/
def firstBad (g : Gra) : List Int → Nat → List (Tree × Nat) → Option Nat
  | _, _, [] => none
  | ids, i, (t, d) :: l => if badN g ids t d then some i else firstBad g (ids ++ [idT t]) (i + 1) l
theorem sub_fold (A : Ar) (g : Gra) : ∀ (l : List (Tree × Nat)) (ids : List Int) (i : Nat), i + l.length ≤ 1000000 →
    match firstBad g ids i l with
    | some j => (foldS (subF A g) l (ids, (i : Int), false)).1.2 = ((j : Int), true)
    | none => (foldS (subF A g) l (ids, (i : Int), false)).1.2.2 = false
  | [], ids, i, _ => rfl
  | (t, d) :: l, ids, i, h => by
    rw [firstBad, foldS]
    by_cases hb : badN g ids t d
    · rw [if_pos hb, show subF A g (ids, (i : Int), false) t d = ((ids, (i : Int), true), false) from if_pos hb]
    · rw [if_neg hb, show subF A g (ids, (i : Int), false) t d = ((ids ++ [idT t], A.op .add .i64 (i : Int) 1, false), true) from if_neg hb]
      have hi : A.op .add .i64 (i : Int) 1 = ((i + 1 : Nat) : Int) := inc_eq A (by simp at h; omega)
      rw [hi]
      exact sub_fold A g l (ids ++ [idT t]) (i + 1) (by simp at h; omega)
def subP (g : Gra) (t : Tree) : Int × Int :=
  if checkB g = false then (0, 50) else if 200 < (ordT t 1).length then (0, 70) else match firstBad g [] 0 (ordT t 1) with
    | some i => ((i : Int), 70)
    | none => (0, 0)
theorem subR_subP (A : Ar) (g : Gra) (t : Tree) : subR A g t = subP g t := by
  unfold subR subP
  rw [manyB_ord]
  split
  · rfl
  · by_cases h : 200 < (ordT t 1).length
    · rw [if_pos (decide_eq_true h), if_pos h]
    · rw [if_neg (by rw [decide_eq_false h]; decide), if_neg h]
      have := sub_fold A g (ordT t 1) [] 0 (by omega)
      rw [runT_ord]
      show (if (foldS (subF A g) (ordT t 1) ([], 0, false)).1.2.2 = true then ((foldS (subF A g) (ordT t 1) ([], 0, false)).1.2.1, 70) else (0, 0)) = _
      cases hf : firstBad g [] 0 (ordT t 1) with
      | some j =>
        rw [hf] at this
        have h2 : (foldS (subF A g) (ordT t 1) ([], 0, false)).1.2 = ((j : Int), true) := this
        rw [h2]
        rfl
      | none =>
        rw [hf] at this
        have h2 : (foldS (subF A g) (ordT t 1) ([], 0, false)).1.2.2 = false := this
        rw [h2]
        rfl
end Go.Proofs.Ytlngpfocngfokaa
