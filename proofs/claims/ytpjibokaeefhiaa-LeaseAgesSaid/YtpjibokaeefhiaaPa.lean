import Derived.Test.YtpjibokaeefhiaaOu
/-! Ages by definition: what the reference's tick does, and that it tells the same. -/
namespace Go.Proofs.Ytpjibokaeefhiaa
open Go.Proofs.Ytpjibokaeefhiaa.Tw
def hasL (l : List Lease) (i : Int) : Bool := l.any fun x => decide (x.id = i)
theorem hasL_app (a b : List Lease) (i : Int) : hasL (a ++ b) i = (hasL a i || hasL b i) := by simp [hasL, List.any_append]
def stepR (term : Int) (f0 : Int → Int) (x : Lease) (s : List Int × List Int × List Int) : List Int × List Int × List Int :=
  if s.1.contains x.id then s else (s.1 ++ [x.id], s.2.1 ++ [f0 x.id + 1], if term ≤ f0 x.id + 1 then s.2.2 ++ [x.id] else s.2.2)
def runR (term : Int) (f0 : Int → Int) : List Int × List Int × List Int → List Lease → List Int × List Int × List Int
  | s, [] => s
  | s, x :: l => runR term f0 (stepR term f0 x s) l
theorem runR_drop (term : Int) (f0 : Int → Int) (s : List Int × List Int × List Int) : ∀ {l : List Lease} {j : Nat} {x : Lease}, l[j]? = some x → runR term f0 s (l.drop j) = runR term f0 (stepR term f0 x s) (l.drop (j + 1))
  | [], j, x, h => by simp at h
  | y :: l, 0, x, h => by simp at h; subst h; rfl
  | y :: l, j + 1, x, h => by simp only [List.drop_succ_cons]; exact runR_drop term f0 s (by simpa using h)
theorem ageS_app (i k a : Int) : ∀ (is ns : List Int), is.length = ns.length → ageS i (is ++ [k]) (ns ++ [a]) = if is.contains i then ageS i is ns else if k = i then a else 0
  | [], [], _ => by simp [ageS]
  | [], _ :: _, h => by simp at h
  | _ :: _, [], h => by simp at h
  | x :: is, n :: ns, h => by
    have ih := ageS_app i k a is ns (by simpa using h)
    simp only [List.cons_append, ageS, ih]
    by_cases e : x = i
    · simp [e]
    · have e' : ¬ i = x := fun h => e h.symm
      simp [e, e']
theorem ageE_filter (p : Int → Bool) (i : Int) : ∀ m : List Ent3, ageE i (m.filter fun x => p x.2.1) = if p i then ageE i m else 0
  | [] => by simp [ageE]
  | x :: m => by
    have ih := ageE_filter p i m
    by_cases hp : p x.2.1 = true
    · rw [List.filter_cons_of_pos (by exact hp)]
      unfold ageE
      by_cases e : i = x.2.1
      · rw [if_pos e, if_pos e, e, if_pos hp]
      · rw [if_neg e, if_neg e, ih]
    · rw [List.filter_cons_of_neg (by exact hp), ih]
      by_cases hi : p i = true
      · rw [if_pos hi, if_pos hi, ageE, if_neg (fun e : i = x.2.1 => hp (e ▸ hi))]
      · rw [if_neg hi, if_neg hi]
theorem find_has (l : List Lease) (i : Int) : (l.find? fun y => decide (y.id = i)).isSome = hasL l i := (any_find _ _).symm
theorem tick_same (term : Int) (f0 : Int → Int) : ∀ (l pre : List Lease) (c : Nat) (m : List Ent3) (is ns out : List Int), is.length = ns.length → (∀ i, is.contains i = hasL pre i) →
    (∀ i, ageE i m = if hasL pre i then f0 i + 1 else if hasL l i then f0 i else 0) → (∀ i, ageS i is ns = if hasL pre i then f0 i + 1 else 0) →
    (runR term f0 (is, ns, out) l).2.2 = (runE term pre (c, m, out) l).2.2 ∧ (∀ i, ageE i (runE term pre (c, m, out) l).2.1 = ageS i (runR term f0 (is, ns, out) l).1 (runR term f0 (is, ns, out) l).2.1) ∧ (runR term f0 (is, ns, out) l).1.length = (runR term f0 (is, ns, out) l).2.1.length ∧
      (runR term f0 (is, ns, out) l).1.length ≤ is.length + l.length
  | [], pre, c, m, is, ns, out, hl, hc, he, hs => ⟨rfl, fun i => by
      show ageE i m = ageS i is ns
      rw [he, hs]
      simp [hasL], hl, Nat.le_refl _⟩
  | x :: l, pre, c, m, is, ns, out, hl, hc, he, hs => by
    show (runR term f0 (stepR term f0 x (is, ns, out)) l).2.2 = (runE term (pre ++ [x]) (tickE term pre x (c, m, out)) l).2.2 ∧ (∀ i, ageE i (runE term (pre ++ [x]) (tickE term pre x (c, m, out)) l).2.1 = ageS i (runR term f0 (stepR term f0 x (is, ns, out)) l).1 (runR term f0 (stepR term f0 x (is, ns, out)) l).2.1) ∧ (runR term f0 (stepR term f0 x (is, ns, out)) l).1.length = (runR term f0 (stepR term f0 x (is, ns, out)) l).2.1.length ∧ (runR term f0 (stepR term f0 x (is, ns, out)) l).1.length ≤ is.length + (l.length + 1)
    have hx : ∀ i, hasL (x :: l) i = (decide (x.id = i) || hasL l i) := fun i => rfl
    have hp : ∀ i, hasL (pre ++ [x]) i = (hasL pre i || decide (x.id = i)) := fun i => by simp [hasL_app, hasL]
    unfold stepR tickE
    dsimp only
    rw [find_has, hc]
    by_cases h : hasL pre x.id = true
    · rw [if_pos h, if_pos h]
      obtain ⟨a1, a2, a3, a4⟩ := tick_same term f0 l (pre ++ [x]) c m is ns out hl (fun i => by
        rw [hc, hp]
        by_cases e : x.id = i
        · subst e; simp [h]
        · simp [e]) (fun i => by
        rw [he, hp, hx]
        by_cases e : x.id = i
        · subst e; simp [h]
        · simp [e]) (fun i => by
        rw [hs, hp]
        by_cases e : x.id = i
        · subst e; simp [h]
        · simp [e])
      exact ⟨a1, a2, a3, by omega⟩
    · rw [if_neg h, if_neg h]
      have hf : ageE x.id m = f0 x.id := by rw [he, hx, if_neg h]; simp
      rw [hf]
      obtain ⟨a1, a2, a3, a4⟩ := tick_same term f0 l (pre ++ [x]) (upE c x.id (f0 x.id + 1) m).1 (upE c x.id (f0 x.id + 1) m).2 (is ++ [x.id]) (ns ++ [f0 x.id + 1]) (if term ≤ f0 x.id + 1 then out ++ [x.id] else out) (by simp [hl]) (fun i => by
        rw [hp, ← hc]
        by_cases e : x.id = i
        · subst e; simp
        · have e' : ¬ i = x.id := fun h => e h.symm
          simp [e, e']) (fun i => by
        rw [age_up, he, hp, hx]
        by_cases e : x.id = i
        · subst e; simp
        · have e' : ¬ i = x.id := fun h => e h.symm
          simp [e, e']) (fun i => by
        rw [ageS_app _ _ _ _ _ hl, hs, hp, hc]
        by_cases e : x.id = i
        · subst e; simp [h]
        · cases hasL pre i <;> simp [e])
      refine ⟨a1, a2, a3, ?_⟩
      simp only [List.length_append, List.length_singleton] at a4
      omega
/-- The reference's tick. -/
def tickR (term : Int) (l : List Lease) (is ns : List Int) : List Int × List Int × List Int := runR term (fun i => ageS i is ns) ([], [], []) l
theorem tick_law (term : Int) (l : List Lease) (c : Nat) (m : List Ent3) (is ns : List Int) (h : ∀ i, ageE i m = ageS i is ns) :
    (tickR term l is ns).2.2 = (tickS term l c m).2.2 ∧ (∀ i, ageE i (tickS term l c m).2.1 = ageS i (tickR term l is ns).1 (tickR term l is ns).2.1) ∧ (tickR term l is ns).1.length = (tickR term l is ns).2.1.length ∧ (tickR term l is ns).1.length ≤ l.length := by
  have := tick_same term (fun i => ageS i is ns) l [] c (m.filter fun x => l.any fun y => decide (y.id = x.2.1)) [] [] [] rfl (fun i => rfl) (fun i => by
    have := ageE_filter (fun i => hasL l i) i m
    simp only [hasL] at this ⊢
    rw [this, h]
    simp) (fun i => by simp [ageS, hasL])
  simpa [tickR, tickS] using this
theorem runE_ok (term : Int) : ∀ (l pre : List Lease) (c : Nat) (m : List Ent3) (out : List Int) (K : Int), 0 ≤ K → OkE c m K → OkE (runE term pre (c, m, out) l).1 (runE term pre (c, m, out) l).2.1 (K + l.length)
  | [], pre, c, m, out, K, h0, h => by simpa [runE] using h
  | x :: l, pre, c, m, out, K, h0, h => by
    show OkE (runE term (pre ++ [x]) (tickE term pre x (c, m, out)) l).1 (runE term (pre ++ [x]) (tickE term pre x (c, m, out)) l).2.1 (K + ((l.length + 1 : Nat) : Int))
    have e : K + ((l.length + 1 : Nat) : Int) = (K + 1) + (l.length : Int) := by omega
    rw [e]
    unfold tickE
    split
    · exact runE_ok term l _ c m out (K + 1) (by omega) (h.more (by omega))
    · have := OkE.age (c := c) (k := x.id) h0 h.lo h.hi
      exact runE_ok term l _ _ _ _ (K + 1) (by omega) (h.up x.id (by omega) (show 0 ≤ ageE x.id m + 1 by omega) (show ageE x.id m + 1 ≤ K + 1 by omega))
theorem tickS_ok {term : Int} {l : List Lease} {c : Nat} {m : List Ent3} {K : Int} (h0 : 0 ≤ K) (h : OkE c m K) : OkE (tickS term l c m).1 (tickS term l c m).2.1 (K + l.length) := runE_ok term l [] c _ [] K h0 (h.filter _)
end Go.Proofs.Ytpjibokaeefhiaa
