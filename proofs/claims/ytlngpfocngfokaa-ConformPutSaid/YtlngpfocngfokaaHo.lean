import Derived.Test.YtlngpfocngfokaaHm
/-! Each part of a tree that conforms conforms. -/
namespace Go.Proofs.Ytlngpfocngfokaa
open Go.Proofs.Ytlngpfocngfokaa.Tw
mutual
theorem ordT_up (n : Nat) : ∀ (t : Tree) (d : Nat), ordT t (d + n) = (ordT t d).map fun x => (x.1, x.2 + n)
  | .node i k s ks, d => by
    rw [ordT, ordT, List.map_cons, show d + n + 1 = (d + 1) + n by omega, ordK_up n ks (d + 1)]
theorem ordK_up (n : Nat) : ∀ (ts : List Tree) (d : Nat), ordK ts (d + n) = (ordK ts d).map fun x => (x.1, x.2 + n)
  | [], d => rfl
  | t :: ts, d => by rw [ordK, ordK, List.map_append, ordT_up n t d, ordK_up n ts d]
end
mutual
theorem ordT_in : ∀ (t : Tree) (d : Nat), ∀ x ∈ ordT t d, d ≤ x.2 ∧ ∃ p q, ordT t d = p ++ (ordT x.1 x.2 ++ q)
  | .node i k s ks, d, x, hx => by
    have e := hx
    rw [ordT] at e
    rcases List.mem_cons.1 e with rfl | h
    · exact ⟨Nat.le_refl _, [], [], by simp⟩
    · obtain ⟨h1, p, q, h2⟩ := ordK_in ks (d + 1) x h
      exact ⟨by omega, (.node i k s ks, d) :: p, q, by rw [ordT, h2, List.cons_append]⟩
theorem ordK_in : ∀ (ts : List Tree) (d : Nat), ∀ x ∈ ordK ts d, d ≤ x.2 ∧ ∃ p q, ordK ts d = p ++ (ordT x.1 x.2 ++ q)
  | [], d, x, hx => by cases hx
  | t :: ts, d, x, hx => by
    have e := hx
    rw [ordK] at e
    rcases List.mem_append.1 e with h | h
    · obtain ⟨h1, p, q, h2⟩ := ordT_in t d x h
      exact ⟨h1, p, q ++ ordK ts d, by rw [ordK, h2, List.append_assoc, List.append_assoc]⟩
    · obtain ⟨h1, p, q, h2⟩ := ordK_in ts d x h
      exact ⟨h1, ordT t d ++ p, q, by rw [ordK, h2, List.append_assoc]⟩
end
/-- None is to be refused. -/
def fine (g : Gra) : List Int → List (Tree × Nat) → Prop
  | _, [] => True
  | ids, (t, d) :: l => ¬ badN g ids t d ∧ fine g (ids ++ [idT t]) l
theorem fine_iff {g : Gra} : ∀ (l : List (Tree × Nat)) (ids : List Int) (i : Nat), firstBad g ids i l = none ↔ fine g ids l
  | [], ids, i => ⟨fun _ => trivial, fun _ => rfl⟩
  | (t, d) :: l, ids, i => by
    rw [firstBad, fine]
    by_cases h : badN g ids t d
    · rw [if_pos h]
      constructor
      · intro e; cases e
      · intro e; exact absurd h e.1
    · rw [if_neg h, fine_iff l]
      exact ⟨fun e => ⟨h, e⟩, fun e => e.2⟩
theorem fine_app {g : Gra} : ∀ (p : List (Tree × Nat)) {ids : List Int} {q : List (Tree × Nat)}, fine g ids (p ++ q) → fine g ids p ∧ fine g (ids ++ idsL p) q
  | [], ids, q, h => ⟨trivial, by simpa [idsL] using h⟩
  | (t, d) :: p, ids, q, h => by
    obtain ⟨h1, h2⟩ := h
    obtain ⟨h3, h4⟩ := fine_app p h2
    refine ⟨⟨h1, h3⟩, ?_⟩
    simpa [idsL] using h4
theorem fine_low {g : Gra} (n : Nat) : ∀ (l : List (Tree × Nat)) {ids ids' : List Int}, (∀ z ∈ ids, z ∈ ids') → fine g ids' (l.map fun x => (x.1, x.2 + n)) → fine g ids l
  | [], ids, ids', hs, h => trivial
  | (t, d) :: l, ids, ids', hs, h => by
    obtain ⟨h1, h2⟩ := h
    refine ⟨fun hb => h1 ?_, fine_low n l (fun z hz => ?_) h2⟩
    · rcases hb with c | c | c | c | c
      · exact .inl (by show 32 < d + n; omega)
      · exact .inr (.inl c)
      · exact .inr (.inr (.inl c))
      · exact .inr (.inr (.inr (.inl (hs _ c))))
      · exact .inr (.inr (.inr (.inr c)))
    · rcases List.mem_append.1 hz with hz | hz
      · exact List.mem_append.2 (.inl (hs z hz))
      · exact List.mem_append.2 (.inr hz)
theorem fine_node {g : Gra} : ∀ {l : List (Tree × Nat)} {ids : List Int}, fine g ids l → ∀ x ∈ l, nodeB g x.1 = true
  | [], ids, h, x, hx => by cases hx
  | (t, d) :: l, ids, h, x, hx => by
    obtain ⟨h1, h2⟩ := h
    rcases List.mem_cons.1 hx with rfl | hx
    · have := fun hb => h1 (.inr (.inr (.inr (.inr hb))))
      exact Bool.not_eq_false _ ▸ this
    · exact fine_node h2 x hx
theorem subP_ok {g : Gra} {t : Tree} : (subP g t).2 = 0 ↔ checkB g = true ∧ (ordT t 1).length ≤ 200 ∧ fine g [] (ordT t 1) := by
  unfold subP
  rw [← fine_iff _ _ 0]
  by_cases h1 : checkB g = false
  · rw [if_pos h1]
    exact ⟨fun e => absurd e (by decide), fun e => by rw [h1] at e; cases e.1⟩
  · rw [if_neg h1]
    by_cases h2 : 200 < (ordT t 1).length
    · rw [if_pos h2]
      exact ⟨fun e => absurd e (by decide), fun e => by omega⟩
    · rw [if_neg h2]
      cases h : firstBad g [] 0 (ordT t 1) with
      | none => exact ⟨fun _ => ⟨by simpa using h1, by omega, rfl⟩, fun _ => rfl⟩
      | some i => exact ⟨fun e => absurd (show (70 : Int) = 0 from e) (by decide), fun e => by cases e.2.2⟩
theorem parts {g : Gra} {t : Tree} (h : (subP g t).2 = 0) : ∀ x ∈ ordT t 1, (subP g x.1).2 = 0 ∧ nodeB g x.1 = true := fun x hx => by
  obtain ⟨h1, h2, h3⟩ := subP_ok.1 h
  refine ⟨?_, fine_node h3 x hx⟩
  obtain ⟨h4, p, q, h5⟩ := ordT_in t 1 x hx
  rw [h5] at h2 h3
  have e : ordT x.1 x.2 = (ordT x.1 1).map fun y => (y.1, y.2 + (x.2 - 1)) := by rw [← ordT_up, show 1 + (x.2 - 1) = x.2 by omega]
  refine subP_ok.2 ⟨h1, ?_, ?_⟩
  · rw [List.length_append, List.length_append, e, List.length_map] at h2
    omega
  · have := (fine_app _ (fine_app _ h3).2).1
    rw [e] at this
    exact fine_low _ _ (fun z hz => by cases hz) this
end Go.Proofs.Ytlngpfocngfokaa
