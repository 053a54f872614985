import Derived.Test.YtlngpfocngfokaaGj
/-! A row fits just if it can be cut. -/
namespace Go.Proofs.Ytlngpfocngfokaa
open Go.Proofs.Ytlngpfocngfokaa.Tw
/-- What a slot may take from a place on. -/
def Takes (kids : List Int) (s : Slo) (a n m : Nat) : Prop := ∀ i, n ≤ i → i ≤ m → ((i : Int) ≤ s.most ∧ (0 < i → mayB (kids.getD (a + i - 1) 0) s.kinds = true))
theorem inF_spec (kids : List Int) (s : Slo) (a b : Nat) : ∀ (f n : Nat) (nx : Nat → Bool), (inF kids s a f n nx b = true ↔ nx b = true ∨ ∃ m, n ≤ m ∧ m < n + f ∧ b = a + m ∧ s.least ≤ m ∧ Takes kids s a n m)
  | 0, n, nx => by
    rw [inF]
    refine ⟨.inl, fun h => h.elim id fun ⟨m, h1, h2, _⟩ => by omega⟩
  | f + 1, n, nx => by
    rw [inF]
    by_cases hc : s.most < n ∨ (0 < n ∧ mayB (kids.getD (a + n - 1) 0) s.kinds = false)
    · rw [if_pos hc]
      refine ⟨.inl, fun h => h.elim id fun ⟨m, h1, h2, h3, h4, h5⟩ => ?_⟩
      have h6 := h5 n (Nat.le_refl _) h1
      rcases hc with hc | ⟨hc, hd⟩
      · omega
      · rw [h6.2 hc] at hd; cases hd
    · rw [if_neg hc, inF_spec kids s a b f (n + 1)]
      have hn : (n : Int) ≤ s.most ∧ (0 < n → mayB (kids.getD (a + n - 1) 0) s.kinds = true) := by
        refine ⟨Int.not_lt.1 fun h => hc (.inl h), fun h => ?_⟩
        cases hm : mayB (kids.getD (a + n - 1) 0) s.kinds with
        | true => rfl
        | false => exact absurd (.inr ⟨h, hm⟩) hc
      unfold upd
      constructor
      · rintro (h | ⟨m, h1, h2, h3, h4, h5⟩)
        · by_cases e : b = a + n
          · rw [if_pos e, Bool.or_eq_true, decide_eq_true_eq] at h
            rcases h with h | h
            · exact .inl (e ▸ h)
            · refine .inr ⟨n, Nat.le_refl _, by omega, e, h, fun i hi hj => ?_⟩
              obtain rfl : i = n := by omega
              exact hn
          · rw [if_neg e] at h
            exact .inl h
        · refine .inr ⟨m, by omega, by omega, h3, h4, fun i hi hj => ?_⟩
          by_cases e : i = n
          · subst e; exact hn
          · exact h5 i (by omega) hj
      · rintro (h | ⟨m, h1, h2, h3, h4, h5⟩)
        · left
          by_cases e : b = a + n
          · rw [if_pos e, ← e, h]; rfl
          · rw [if_neg e]; exact h
        · by_cases e : m = n
          · subst e
            left
            rw [if_pos h3, decide_eq_true h4, Bool.or_true]
          · exact .inr ⟨m, by omega, by omega, h3, h4, fun i hi hj => h5 i (by omega) hj⟩
theorem outF_spec (kids : List Int) (s : Slo) (can : Nat → Bool) (b : Nat) : ∀ (f a : Nat) (nx : Nat → Bool), (outF kids s can f a nx b = true ↔ nx b = true ∨ ∃ c m, a ≤ c ∧ c < a + f ∧ can c = true ∧ c + m ≤ kids.length ∧ b = c + m ∧ s.least ≤ m ∧ Takes kids s c 0 m)
  | 0, a, nx => by
    rw [outF]
    refine ⟨.inl, fun h => h.elim id fun ⟨c, m, h1, h2, _⟩ => by omega⟩
  | f + 1, a, nx => by
    rw [outF, outF_spec kids s can b f (a + 1)]
    constructor
    · rintro (h | ⟨c, m, h1, h2, h3⟩)
      · by_cases e : can a = true
        · rw [if_pos e, inF_spec] at h
          rcases h with h | ⟨m, h1, h2, h3, h4, h5⟩
          · exact .inl h
          · exact .inr ⟨a, m, Nat.le_refl _, by omega, e, by omega, h3, h4, h5⟩
        · rw [if_neg e] at h
          exact .inl h
      · exact .inr ⟨c, m, by omega, by omega, h3⟩
    · rintro (h | ⟨c, m, h1, h2, h3, h4, h5, h6, h7⟩)
      · left
        by_cases e : can a = true
        · rw [if_pos e, inF_spec]; exact .inl h
        · rw [if_neg e]; exact h
      · by_cases e : c = a
        · subst e
          left
          rw [if_pos h3, inF_spec]
          exact .inr ⟨m, Nat.zero_le _, by omega, h5, h6, h7⟩
        · exact .inr ⟨c, m, by omega, by omega, h3, h4, h5, h6, h7⟩
/-- A row can be cut, a stretch for each slot. -/
def Cuts (kids : List Int) : List Slo → Nat → Nat → Prop
  | [], a, b => a = b
  | s :: ss, a, b => ∃ m, a + m ≤ kids.length ∧ s.least ≤ m ∧ Takes kids s a 0 m ∧ Cuts kids ss (a + m) b
theorem slotsF_spec (kids : List Int) (b : Nat) : ∀ (ss : List Slo) (can : Nat → Bool), (slotsF kids ss can b = true ↔ (ss = [] ∧ can b = true) ∨ (ss ≠ [] ∧ ∃ a, a ≤ kids.length ∧ can a = true ∧ Cuts kids ss a b))
  | [], can => by simp [slotsF]
  | s :: ss, can => by
    rw [slotsF, slotsF_spec kids b ss]
    constructor
    · rintro (⟨rfl, h⟩ | ⟨h0, a, h1, h2, h3⟩)
      · rw [outF_spec] at h
        rcases h with h | ⟨c, m, q1, q2, q3, q4, q5, q6, q7⟩
        · cases h
        · exact .inr ⟨by simp, c, by omega, q3, m, q4, q6, q7, q5.symm⟩
      · rw [outF_spec] at h2
        rcases h2 with h2 | ⟨c, m, q1, q2, q3, q4, q5, q6, q7⟩
        · cases h2
        · exact .inr ⟨by simp, c, by omega, q3, m, q4, q6, q7, q5 ▸ h3⟩
    · rintro (⟨h, _⟩ | ⟨_, a, h1, h2, m, h3, h4, h5, h6⟩)
      · cases h
      · have ho : outF kids s can (kids.length + 1) 0 (fun _ => false) (a + m) = true := by
          rw [outF_spec]
          exact .inr ⟨a, m, Nat.zero_le _, by omega, h2, h3, rfl, h4, h5⟩
        cases ss with
        | nil => exact .inl ⟨rfl, by rw [← show a + m = b from h6]; exact ho⟩
        | cons s' ss => exact .inr ⟨by simp, a + m, h3, ho, h6⟩
theorem slotsF_cuts (kids : List Int) (ss : List Slo) : slotsF kids ss can0 kids.length = true ↔ Cuts kids ss 0 kids.length := by
  rw [slotsF_spec]
  have h0 : ∀ a, can0 a = true ↔ a = 0 := fun a => by
    unfold can0 upd
    split <;> simp_all
  cases ss with
  | nil => simp [Cuts, h0, eq_comm]
  | cons s ss =>
    constructor
    · rintro (⟨h, _⟩ | ⟨_, a, _, h, hc⟩)
      · cases h
      · rw [h0] at h; subst h; exact hc
    · intro h
      exact .inr ⟨by simp, 0, Nat.zero_le _, (h0 0).2 rfl, h⟩
/-- A row put together of stretches, a slot's each. -/
def Made : List Slo → List Int → Prop
  | [], l => l = []
  | s :: ss, l => ∃ p q, l = p ++ q ∧ s.least ≤ p.length ∧ (p.length : Int) ≤ s.most ∧ (∀ x ∈ p, mayB x s.kinds = true) ∧ Made ss q
theorem Made.cuts : ∀ (ss : List Slo) (q pre : List Int), Made ss q → Cuts (pre ++ q) ss pre.length (pre ++ q).length
  | [], q, pre, h => by
    have h : q = [] := h
    subst h
    simp [Cuts]
  | s :: ss, q, pre, h => by
    obtain ⟨p, q', rfl, h1, h2, h3, h4⟩ := h
    refine ⟨p.length, by simp, h1, fun i _ hi => ⟨by omega, fun h0 => ?_⟩, ?_⟩
    · refine h3 _ ?_
      have hi' : i - 1 < p.length := by omega
      have e : (pre ++ (p ++ q')).getD (pre.length + i - 1) 0 = p[i - 1] := by
        rw [List.getD_eq_getElem?_getD, show pre.length + i - 1 = pre.length + (i - 1) by omega, List.getElem?_append_right (by omega), List.getElem?_append_left (by omega)]
        simp [hi']
      rw [e]
      exact List.getElem_mem hi'
    · have ih := Made.cuts ss q' (pre ++ p) h4
      rw [List.append_assoc, List.length_append] at ih
      exact ih
theorem Made.snoc {s : Slo} {p : List Int} (h1 : s.least ≤ p.length) (h2 : (p.length : Int) ≤ s.most) (h3 : ∀ x ∈ p, mayB x s.kinds = true) : ∀ (ss : List Slo) (l : List Int), Made ss l → Made (ss ++ [s]) (l ++ p)
  | [], l, h => by
    have h : l = [] := h
    subst h
    exact ⟨p, [], by simp, h1, h2, h3, rfl⟩
  | t :: ss, l, h => by
    obtain ⟨p', q', rfl, q1, q2, q3, q4⟩ := h
    exact ⟨p', q' ++ p, by simp, q1, q2, q3, Made.snoc h1 h2 h3 ss q' q4⟩
theorem Made.fits {ss : List Slo} {l : List Int} (h : Made ss l) : slotsF l ss can0 l.length = true := (slotsF_cuts l ss).2 (Made.cuts ss l [] h)
def sumI : List Slo → Int
  | [] => 0
  | s :: ss => s.least + sumI ss
theorem Cuts.least (kids : List Int) : ∀ (ss : List Slo) (a b : Nat), Cuts kids ss a b → (a : Int) + sumI ss ≤ b
  | [], a, b, h => by
    have h : a = b := h
    subst h
    simp [sumI]
  | s :: ss, a, b, h => by
    obtain ⟨m, h1, h2, h3, h4⟩ := h
    have ih := Cuts.least kids ss (a + m) b h4
    rw [sumI]
    omega
end Go.Proofs.Ytlngpfocngfokaa
