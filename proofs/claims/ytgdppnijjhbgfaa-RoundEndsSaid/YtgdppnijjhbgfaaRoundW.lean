import Derived.Test.YtgdppnijjhbgfaaPr7 -- home allotmentlaw29_bare.f
/-! What messages weigh, in plain words. -/
namespace Go.Proofs.Ytgdppnijjhbgfaa.RoundW
open Go.RowKit Go.Proofs.YtgdppnijjhbgfaaW.PrintWords Go.Proofs.Ytgdppnijjhbgfaa.Round Go.Proofs.Ytgdppnijjhbgfaa.Pr
set_option linter.unusedVariables false
set_option linter.unusedSimpArgs false
theorem ww (x : Int) (h0 : -9223372036854775808 ≤ x) (h1 : x ≤ 9223372036854775807) : wrap64 x = x := by unfold wrap64; omega
theorem wF_range (k c : Int) : 0 ≤ wF k c ∧ wF k c ≤ 26 := by
  unfold wF
  split
  · rename_i h
    have e1 : wrap64 (3 * c) = 3 * c := ww _ (by omega) (by omega)
    have e2 : wrap64 (2 + 3 * c) = 2 + 3 * c := ww _ (by omega) (by omega)
    unfold wt
    rw [e1, e2]
    clear e1 e2
    repeat' split
    all_goals omega
  · omega
theorem wF_in (k c : Int) (h : 1 ≤ c ∧ c ≤ 8) : wF k c = if k = 5 then 2 + 3 * c else if k = 2 then 2 else if k = 9 then 2 else if k = 8 then 3 else 1 := by
  unfold wF
  rw [if_pos h]
  have e1 : wrap64 (3 * c) = 3 * c := ww _ (by omega) (by omega)
  have e2 : wrap64 (2 + 3 * c) = 2 + 3 * c := ww _ (by omega) (by omega)
  unfold wt
  rw [e1, e2]
  clear e1 e2
  repeat' split
  all_goals omega
theorem wF_out (k c : Int) (h : ¬ (1 ≤ c ∧ c ≤ 8)) : wF k c = 0 := by unfold wF; rw [if_neg h]
def tot (c : Int) : List Int → Int
  | [] => 0
  | k :: l => wF k c + tot c l
theorem tot_append (c : Int) (a b : List Int) : tot c (a ++ b) = tot c a + tot c b := by
  induction a with
  | nil => simp [tot]
  | cons k a ih => simp only [List.cons_append, tot, ih]; omega
theorem tot_range (c : Int) (a : List Int) : 0 ≤ tot c a ∧ tot c a ≤ 26 * a.length := by
  induction a with
  | nil => simp [tot]
  | cons k a ih =>
    have := wF_range k c
    simp only [tot, List.length_cons]
    omega
theorem tot_len (c : Int) (h : 1 ≤ c ∧ c ≤ 8) (a : List Int) : (a.length : Int) ≤ tot c a := by
  induction a with
  | nil => simp [tot]
  | cons k a ih =>
    have : 1 ≤ wF k c := by
      rw [wF_in k c h]
      repeat' split
      all_goals omega
    simp only [tot, List.length_cons]
    omega
theorem tot_take (c : Int) (a : List Int) (j : Nat) : tot c (a.take j) ≤ tot c a := by
  have h := tot_append c (a.take j) (a.drop j)
  rw [List.take_append_drop] at h
  have := (tot_range c (a.drop j)).1
  omega
/-- A message's head. -/
def M (k : Int) : S55 := ⟨k, 0, 0, 0, 0, 0, 0, 0, 0, 0, 0, ([] : List S79), (⟨0, 0, (⟨#[]⟩ : ByteArray), ([] : List S53)⟩ : S53)⟩
def Small (l : List Int) : Prop := ∀ x, x ∈ l → -128 ≤ x ∧ x < 128
theorem fold_tot (c : Int) (l : List Int) : ∀ n : Int, 0 ≤ n → n + 26 * l.length ≤ 4611686018427387904 → (l.map M).foldl (fun n x => wrap64 (n + wF x.f0 c)) n = n + tot c l := by
  induction l with
  | nil => intro n _ _; simp [tot]
  | cons k l ih =>
    intro n h0 h1
    have hk := wF_range k c
    simp only [List.length_cons] at h1
    have e : wrap64 (n + wF k c) = n + wF k c := ww _ (by omega) (by omega)
    show (l.map M).foldl (fun n x => wrap64 (n + wF x.f0 c)) (wrap64 (n + wF k c)) = _
    rw [e, ih _ (by omega) (by omega)]
    simp only [tot]
    omega
theorem sum_f (c : Int) (l : List Int) (hs : Small l) (hn : l.length ≤ 1000000) : round_Sum.f (l.map M) c = some (tot c l) := by
  unfold round_Sum.f
  rw [if_pos]
  · have := fold_tot c l 0 (by omega) (by omega)
    unfold sumF
    rw [this]
    simp
  · rw [List.all_eq_true]
    intro x hx
    obtain ⟨k, hk, rfl⟩ := List.mem_map.1 hx
    have := hs k hk
    simp [M, this]
theorem bare_l0 (l : List Int) (hn : l.length ≤ 1000000) : ∀ (d k i : Nat), i + d = l.length → allotmentlaw29_bare.l0 (k + d + 1) ((l.take i).map M) l (l.length : Int) (i : Int) = some (l.map M) := by
  intro d
  induction d with
  | zero =>
    intro k i hi
    simp only [allotmentlaw29_bare.l0]
    rw [if_neg (by omega), List.take_of_length_le (by omega)]
  | succ d ih =>
    intro k i hi
    rw [show k + (d + 1) + 1 = (k + d + 1) + 1 from by omega]
    have h := ih k (i + 1) (by omega)
    generalize k + d + 1 = m at *
    simp only [allotmentlaw29_bare.l0]
    have e : (l.take i).map M ++ [M (rd l i)] = (l.take (i + 1)).map M := by
      rw [List.take_succ_eq_append_getElem (by omega), List.map_append]
      simp [rd, show i < l.length from by omega]
    have hw : wrap64 ((i : Int) + 1) = ((i + 1 : Nat) : Int) := ww _ (by omega) (by omega)
    rw [if_pos (by omega), if_pos (by omega), if_pos (by omega), if_pos (by simp; omega), hw]
    show allotmentlaw29_bare.l0 m ((l.take i).map M ++ [M (rd l i)]) l _ _ = _
    rw [e]
    exact h
theorem bare_f (l : List Int) (hn : l.length ≤ 1000000) (k : Nat) (hk : l.length + 1 ≤ k) : allotmentlaw29_bare.f k l = some (l.map M) := by
  unfold allotmentlaw29_bare.f
  have h := bare_l0 l hn l.length (k - (l.length + 1)) 0 (by omega)
  rw [show k - (l.length + 1) + l.length + 1 = k from by omega] at h
  simpa using h
theorem wakes_f : allotmentlaw29_wakes.f = some true := by decide +kernel
theorem wf_small {l : List Int} (h : ∀ x ∈ l, (Lit.int .i8 x).wf = true) : Small l := by
  intro x hx
  have := h x hx
  simp [Lit.wf, IntKind.min, IntKind.max, IntKind.bits, IntKind.signed] at this
  omega
end Go.Proofs.Ytgdppnijjhbgfaa.RoundW
