import Derived.Test.YtaieiigfheabfaaBc
/-! Depths, and walks whole (for seats without paths). -/
namespace Go.Proofs.Ytaieiigfheabfaa
open Go.Proofs.Ytaieiigfheabfaa.Tw
/-- No deeper than n, and no row longer than a number can tell. -/
def within : Nat → Tree → Prop
  | 0, _ => False
  | n + 1, .node _ _ _ ks => ks.length ≤ 1000000 ∧ ∀ t ∈ ks, within n t
theorem within.len' {n : Nat} {i k : Int} {s : ByteArray} {ks : List Tree} (h : within n (.node i k s ks)) : ks.length ≤ 1000000 := by cases n with | zero => exact h.elim | succ n => exact h.1
theorem within.len {n : Nat} {i k : Int} {s : ByteArray} {ks : List Tree} (h : within n (.node i k s ks)) : ks.length < 9223372036854775807 := by have := h.len'; omega
def t0 : Tree := .node 0 0 ⟨#[]⟩ []
mutual
theorem walkT_pre (m : Nat) : ∀ (t : Tree) (l : List (Tree × Nat)) (d : Nat), l <+: walkT m t l d
  | .node i k s ks, l, d => by
    simp only [walkT]
    split
    · exact List.prefix_refl _
    · exact List.IsPrefix.trans (List.prefix_append _ _) (walkK_pre m ks _ (d + 1))
theorem walkK_pre (m : Nat) : ∀ (ts : List Tree) (l : List (Tree × Nat)) (d : Nat), l <+: walkK m ts l d
  | [], l, d => List.prefix_refl _
  | t :: ts, l, d => by
    simp only [walkK]
    exact List.IsPrefix.trans (walkT_pre m t l d) (walkK_pre m ts _ d)
end
theorem walkT_more (m : Nat) (t : Tree) (l : List (Tree × Nat)) (d : Nat) (h : (walkT m t l d).length < m) : l.length + 1 ≤ (walkT m t l d).length ∧ (t, d) ∈ walkT m t l d := by
  obtain ⟨i, k, s, ks⟩ := t
  simp only [walkT] at h ⊢
  split at h
  · omega
  · rename_i hlt
    rw [if_neg hlt]
    have hp := walkK_pre m ks (l ++ [(.node i k s ks, d)]) (d + 1)
    exact ⟨by have := hp.length_le; simpa using this, hp.subset (by simp)⟩
mutual
theorem walkT_within (m D : Nat) (hm : m ≤ 1000000) : ∀ (t : Tree) (l : List (Tree × Nat)) (d : Nat), (walkT m t l d).length < m → (∀ x ∈ walkT m t l d, x.2 ≤ D) → d ≤ D ∧ within (D + 1 - d) t
  | .node i k s ks, l, d, h, hx => by
    have h1 := walkT_more m _ l d h
    have hd : d ≤ D := hx _ h1.2
    refine ⟨hd, ?_⟩
    simp only [walkT] at h hx
    split at h
    · omega
    rename_i hlt
    rw [if_neg hlt] at hx
    obtain ⟨h2, h3⟩ := walkK_within m D hm ks _ (d + 1) h hx
    rw [show D + 1 - d = (D + 1 - (d + 1)) + 1 from by omega]
    exact ⟨by omega, h3⟩
theorem walkK_within (m D : Nat) (hm : m ≤ 1000000) : ∀ (ts : List Tree) (l : List (Tree × Nat)) (d : Nat), (walkK m ts l d).length < m → (∀ x ∈ walkK m ts l d, x.2 ≤ D) → l.length + ts.length ≤ (walkK m ts l d).length ∧ ∀ t ∈ ts, within (D + 1 - d) t
  | [], l, d, h, hx => ⟨by simp [walkK], fun t ht => by cases ht⟩
  | t :: ts, l, d, h, hx => by
    simp only [walkK] at h hx ⊢
    have hp := walkK_pre m ts (walkT m t l d) d
    have hl := hp.length_le
    have h1 := walkT_within m D hm t l d (by omega) (fun x hx' => hx x (hp.subset hx'))
    have h2 := walkT_more m t l d (by omega)
    obtain ⟨h3, h4⟩ := walkK_within m D hm ts _ d h hx
    refine ⟨by simp only [List.length_cons]; omega, fun t' ht => ?_⟩
    rcases List.mem_cons.1 ht with rfl | ht
    · exact h1.2
    · exact h4 t' ht
end
theorem within_mono : ∀ {n m : Nat} {t : Tree}, n ≤ m → within n t → within m t
  | 0, _, _, _, h => h.elim
  | n + 1, 0, _, hn, h => by omega
  | n + 1, m + 1, .node i k s ks, hn, h => ⟨h.1, fun t ht => within_mono (by omega) (h.2 t ht)⟩
theorem great_within {t : Tree} (h : great t = false) : within 2000 t := by
  unfold great at h
  simp only [Bool.or_eq_false_iff, decide_eq_false_iff_not] at h
  have h2 : ∀ x ∈ walkT 2001 t [] 1, x.2 ≤ 2000 := fun x hx => by
    have := List.any_eq_false.1 h.2 x hx
    simpa using this
  exact (walkT_within 2001 2000 (by decide) t [] 1 (by omega) h2).2
mutual
/-- All nodes, with their depths, each ahead of its kids. -/
def preT : Tree → Nat → List (Tree × Nat)
  | .node i k s ks, d => (.node i k s ks, d) :: preK ks (d + 1)
def preK : List Tree → Nat → List (Tree × Nat)
  | [], _ => []
  | t :: ts, d => preT t d ++ preK ts d
end
mutual
theorem walkT_eq (m : Nat) : ∀ (t : Tree) (l : List (Tree × Nat)) (d : Nat), (walkT m t l d).length < m → walkT m t l d = l ++ preT t d
  | .node i k s ks, l, d, h => by
    simp only [walkT, preT] at h ⊢
    split at h
    · omega
    rename_i hlt
    rw [if_neg hlt, walkK_eq m ks _ (d + 1) h]
    simp
theorem walkK_eq (m : Nat) : ∀ (ts : List Tree) (l : List (Tree × Nat)) (d : Nat), (walkK m ts l d).length < m → walkK m ts l d = l ++ preK ts d
  | [], l, d, _ => by simp [walkK, preK]
  | t :: ts, l, d, h => by
    simp only [walkK, preK] at h ⊢
    have hp := (walkK_pre m ts (walkT m t l d) d).length_le
    rw [walkK_eq m ts _ d h, walkT_eq m t l d (by omega)]
    simp
end
mutual
theorem walkT_dep (m : Nat) : ∀ (t : Tree) (l : List (Tree × Nat)) (d : Nat), d ≤ l.length + 1 → ∀ x ∈ walkT m t l d, x ∈ l ∨ x.2 ≤ (walkT m t l d).length
  | .node i k s ks, l, d, hd, x, hx => by
    simp only [walkT] at hx ⊢
    split at hx
    · exact .inl hx
    rename_i hlt
    rw [if_neg hlt]
    have hp := (walkK_pre m ks (l ++ [(.node i k s ks, d)]) (d + 1)).length_le
    rcases walkK_dep m ks _ (d + 1) (by simp; omega) x hx with h | h
    · rcases List.mem_append.1 h with h | h
      · exact .inl h
      · simp at h
        subst h
        right
        simp at hp
        show d ≤ _
        omega
    · exact .inr h
theorem walkK_dep (m : Nat) : ∀ (ts : List Tree) (l : List (Tree × Nat)) (d : Nat), d ≤ l.length + 1 → ∀ x ∈ walkK m ts l d, x ∈ l ∨ x.2 ≤ (walkK m ts l d).length
  | [], l, d, _, x, hx => .inl hx
  | t :: ts, l, d, hd, x, hx => by
    simp only [walkK] at hx ⊢
    have hp := (walkK_pre m ts (walkT m t l d) d).length_le
    have hp2 := (walkT_pre m t l d).length_le
    rcases walkK_dep m ts _ d (by omega) x hx with h | h
    · rcases walkT_dep m t l d hd x h with h | h
      · exact .inl h
      · exact .inr (by omega)
    · exact .inr h
end
/-- A walk that was not cut: the tree is not deep. -/
theorem walk_within {m : Nat} {t : Tree} (hm : m ≤ 1000000) (h : (walkT m t [] 1).length < m) : within m t := by
  have hd : ∀ x ∈ walkT m t [] 1, x.2 ≤ m := fun x hx => by
    rcases walkT_dep m t [] 1 (by simp) x hx with h | h
    · cases h
    · omega
  exact within_mono (by omega) (walkT_within m m (by omega) t [] 1 h hd).2
def Tree.id : Tree → Int
  | .node i _ _ _ => i
mutual
def idsT : Tree → List Int
  | .node i _ _ ks => i :: idsK ks
def idsK : List Tree → List Int
  | [] => []
  | t :: ts => idsT t ++ idsK ts
end
mutual
theorem preT_ids : ∀ (t : Tree) (d : Nat), (preT t d).map (·.1.id) = idsT t
  | .node i k s ks, d => by simp only [preT, idsT, List.map_cons, preK_ids ks (d + 1)]; rfl
theorem preK_ids : ∀ (ts : List Tree) (d : Nat), (preK ts d).map (·.1.id) = idsK ts
  | [], _ => rfl
  | t :: ts, d => by simp only [preK, idsK, List.map_append, preT_ids t d, preK_ids ts d]
end
end Go.Proofs.Ytaieiigfheabfaa
