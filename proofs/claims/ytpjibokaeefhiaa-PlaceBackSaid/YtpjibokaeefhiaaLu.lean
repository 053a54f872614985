import Derived.Test.YtpjibokaeefhiaaLt
/-! A tree that is not great is not deep. -/
namespace Go.Proofs.Ytpjibokaeefhiaa
open Go.Proofs.Ytpjibokaeefhiaa.Tw
mutual
theorem walkT_pre (m : Nat) : ∀ (t : Tree) (l : List (Tree × Nat)) (d : Nat), l <+: walkT m t l d
  | .node i k s ks, l, d => by
    simp only [walkT]
    split
    · exact List.prefix_refl _
    · exact List.IsPrefix.trans (List.prefix_append _ _) (walkK_pre m ks _ (d + 1))
theorem walkK_pre (m : Nat) : ∀ (ts : List Tree) (l : List (Tree × Nat)) (d : Nat), l <+: walkK m ts l d
  | [], l, d => List.prefix_refl _
  | t :: ts, l, d => by
    simp only [walkK]
    exact List.IsPrefix.trans (walkT_pre m t l d) (walkK_pre m ts _ d)
end
theorem walkT_more (m : Nat) (t : Tree) (l : List (Tree × Nat)) (d : Nat) (h : (walkT m t l d).length < m) : l.length + 1 ≤ (walkT m t l d).length ∧ (t, d) ∈ walkT m t l d := by
  obtain ⟨i, k, s, ks⟩ := t
  simp only [walkT] at h ⊢
  split at h
  · omega
  · rename_i hlt
    rw [if_neg hlt]
    have hp := walkK_pre m ks (l ++ [(.node i k s ks, d)]) (d + 1)
    exact ⟨by have := hp.length_le; simpa using this, hp.subset (by simp)⟩
mutual
theorem walkT_within (m D : Nat) (hm : m ≤ 1000000) : ∀ (t : Tree) (l : List (Tree × Nat)) (d : Nat), (walkT m t l d).length < m → (∀ x ∈ walkT m t l d, x.2 ≤ D) → d ≤ D ∧ within (D + 1 - d) t
  | .node i k s ks, l, d, h, hx => by
    have h1 := walkT_more m _ l d h
    have hd : d ≤ D := hx _ h1.2
    refine ⟨hd, ?_⟩
    simp only [walkT] at h hx
    split at h
    · omega
    rename_i hlt
    rw [if_neg hlt] at hx
    obtain ⟨h2, h3⟩ := walkK_within m D hm ks _ (d + 1) h hx
    rw [show D + 1 - d = (D + 1 - (d + 1)) + 1 from by omega]
    exact ⟨by omega, h3⟩
theorem walkK_within (m D : Nat) (hm : m ≤ 1000000) : ∀ (ts : List Tree) (l : List (Tree × Nat)) (d : Nat), (walkK m ts l d).length < m → (∀ x ∈ walkK m ts l d, x.2 ≤ D) → l.length + ts.length ≤ (walkK m ts l d).length ∧ ∀ t ∈ ts, within (D + 1 - d) t
  | [], l, d, h, hx => ⟨by simp [walkK], fun t ht => by cases ht⟩
  | t :: ts, l, d, h, hx => by
    simp only [walkK] at h hx ⊢
    have hp := walkK_pre m ts (walkT m t l d) d
    have hl := hp.length_le
    have h1 := walkT_within m D hm t l d (by omega) (fun x hx' => hx x (hp.subset hx'))
    have h2 := walkT_more m t l d (by omega)
    obtain ⟨h3, h4⟩ := walkK_within m D hm ts _ d h hx
    refine ⟨by simp only [List.length_cons]; omega, fun t' ht => ?_⟩
    rcases List.mem_cons.1 ht with rfl | ht
    · exact h1.2
    · exact h4 t' ht
end
theorem within_mono : ∀ {n m : Nat} {t : Tree}, n ≤ m → within n t → within m t
  | 0, _, _, _, h => h.elim
  | n + 1, 0, _, hn, h => by omega
  | n + 1, m + 1, .node i k s ks, hn, h => ⟨h.1, fun t ht => within_mono (by omega) (h.2 t ht)⟩
theorem great_within {t : Tree} (h : great t = false) : within 2000 t := by
  unfold great at h
  simp only [Bool.or_eq_false_iff, decide_eq_false_iff_not] at h
  have h2 : ∀ x ∈ walkT 2001 t [] 1, x.2 ≤ 2000 := fun x hx => by
    have := List.any_eq_false.1 h.2 x hx
    simpa using this
  exact (walkT_within 2001 2000 (by decide) t [] 1 (by omega) h2).2
end Go.Proofs.Ytpjibokaeefhiaa
