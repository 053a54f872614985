import Derived.Test.YtmbbdabcbnemiaaRo
/-! What is not great is not long. -/
namespace Go.Proofs.Ytmbbdabcbnemiaa
open Go.Proofs.Ytmbbdabcbnemiaa.Tw
def tot : List (Tree × Nat) → Nat
  | [] => 0
  | x :: l => 32 + tsz x + tot l
theorem tot_app : ∀ a b : List (Tree × Nat), tot (a ++ b) = tot a + tot b
  | [], b => by rw [List.nil_append, tot, Nat.zero_add]
  | x :: a, b => by rw [List.cons_append, tot, tot, tot_app a b]; omega
theorem nodeBs_len (i k : Int) (s : ByteArray) (ks : List Tree) : (nodeBs (.node i k s ks)).length = 32 + s.size + (nodesBs ks).length := by
  have htx : s.data.toList.length = s.size := by rw [Array.length_toList]; rfl
  rw [nodeBs]
  simp only [List.length_append, numBs_len, htx]
  omega
mutual
theorem walkT_tot (m : Nat) : ∀ (t : Tree) (l : List (Tree × Nat)) (d : Nat), (walkT m t l d).length < m → tot (walkT m t l d) = tot l + (nodeBs t).length
  | .node i k s ks, l, d, h => by
    simp only [walkT] at h ⊢
    split at h
    · omega
    · rename_i hm
      rw [if_neg hm, walkK_tot m ks _ _ h, tot_app, nodeBs_len]
      simp only [tot, tsz]
      omega
theorem walkK_tot (m : Nat) : ∀ (ts : List Tree) (l : List (Tree × Nat)) (d : Nat), (walkK m ts l d).length < m → tot (walkK m ts l d) = tot l + (nodesBs ts).length
  | [], l, d, h => rfl
  | t :: ts, l, d, h => by
    simp only [walkK] at h ⊢
    have h2 := (walkK_len m ts (walkT m t l d) d).1
    rw [walkK_tot m ts _ _ h, walkT_tot m t l d (by omega), nodesBs, List.length_append]
    omega
end
theorem over3_tot : ∀ (l : List (Tree × Nat)) (n : Nat), over3 n l = false → n ≤ 20000 → tot l ≤ 32 * l.length + (20000 - n)
  | [], n, h, hn => Nat.zero_le _
  | x :: l, n, h, hn => by
    simp only [over3, Bool.or_eq_false_iff, decide_eq_false_iff_not] at h
    have := over3_tot l (n + tsz x) h.2 (by omega)
    rw [tot, List.length_cons]
    omega
theorem great3_len {t : Tree} (h : great3 t = false) : (nodeBs t).length ≤ 28000 := by
  simp only [great3, Bool.or_eq_false_iff, decide_eq_false_iff_not] at h
  have h1 := walkT_tot 251 t [] 1 (by omega)
  have h2 := over3_tot _ 0 h.1 (by omega)
  rw [tot] at h1
  omega
theorem stepBs_len (x : Stp) : (stepBs x).length = 33 + x.text.size + (nodeBs x.sub).length := by
  have htx : x.text.data.toList.length = x.text.size := by rw [Array.length_toList]; rfl
  rw [stepBs]
  simp only [List.length_append, numBs_len, htx, List.length_cons, List.length_nil]
  omega
theorem overS_len : ∀ (l : List Stp) (c n : Nat), overS c n l = false → n ≤ 20000 → (stepsBs l).length ≤ 28033 * l.length + (20000 - n)
  | [], c, n, h, hn => Nat.zero_le _
  | x :: l, c, n, h, hn => by
    simp only [overS, Bool.or_eq_false_iff, decide_eq_false_iff_not] at h
    have h1 := overS_len l _ _ h.2.2 (by omega)
    have h2 := great3_len h.1.1
    rw [stepsBs, List.length_append, stepBs_len, List.length_cons]
    omega
theorem greatS_len {l : List Stp} (h : greatS l = false) : l.length ≤ 70 ∧ (stepsBs l).length ≤ 2000000 := by
  simp only [greatS, Bool.or_eq_false_iff, decide_eq_false_iff_not] at h
  have := overS_len l 0 0 h.2 (by omega)
  exact ⟨by omega, by omega⟩
end Go.Proofs.Ytmbbdabcbnemiaa
