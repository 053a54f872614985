import Derived.Test.YtpjibokaeefhiaaXc
import Derived.Test.YtpjibokaeefhiaaLj
/-! Paths as natural numbers; a tree with another one at a path. -/
namespace Go.Proofs.Ytpjibokaeefhiaa
open Go.Proofs.Ytpjibokaeefhiaa.Tw
def kidsX : Tree → List Tree
  | .node _ _ _ ks => ks
theorem okP_cons {ks : List Tree} {j : Nat} {t : Tree} {q : List Nat} (h : ks[j]? = some t) (hq : q = [] ∨ okP (kidsX t) q) : okP ks (j :: q) := by
  cases q with
  | nil => exact (List.getElem?_eq_some_iff.1 h).1
  | cons i q =>
    obtain ⟨a, b, c, kks⟩ := t
    exact ⟨a, b, c, kks, h, hq.resolve_left (by simp)⟩
mutual
theorem pathT_nat (id : Int) : ∀ (t : Tree) (p : List Int), pathT id t = some p → ∃ q : List Nat, p = q.map Int.ofNat ∧ (q = [] ∨ okP (kidsX t) q)
  | .node i k s ks, p, h => by
    rw [pathT] at h
    split at h
    · cases h
      exact ⟨[], rfl, .inl rfl⟩
    · obtain ⟨j, q, h1, h2⟩ := pathK_nat id ks 0 p h
      exact ⟨j :: q, by rw [h1, Nat.zero_add]; rfl, .inr h2⟩
theorem pathK_nat (id : Int) : ∀ (ks : List Tree) (n : Nat) (p : List Int), pathK id ks n = some p → ∃ (j : Nat) (q : List Nat), p = ((n + j : Nat) : Int) :: q.map Int.ofNat ∧ okP ks (j :: q)
  | [], n, p, h => by rw [pathK] at h; cases h
  | t :: ts, n, p, h => by
    rw [pathK] at h
    cases hp : pathT id t with
    | some p' =>
      rw [hp] at h
      cases h
      obtain ⟨q, h1, h2⟩ := pathT_nat id t p' hp
      exact ⟨0, q, by rw [h1]; rfl, okP_cons (j := 0) rfl h2⟩
    | none =>
      rw [hp] at h
      obtain ⟨j, q, h1, h2⟩ := pathK_nat id ts (n + 1) p h
      refine ⟨j + 1, q, by rw [h1, show n + 1 + j = n + (j + 1) by omega], ?_⟩
      cases q with
      | nil => exact Nat.succ_lt_succ h2
      | cons i q => exact h2
end
/-- A tree with another one at a path. -/
def putX (x : Tree) : Tree → List Nat → Tree
  | _, [] => x
  | .node i k s ks, p => .node i k s (putAt x ks p)
end Go.Proofs.Ytpjibokaeefhiaa
