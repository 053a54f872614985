import Derived.Test.YtpjibokaeefhiaaOp
/-! A tick of ages (under way). -/
namespace Go.Proofs.Ytpjibokaeefhiaa
open Go.Proofs.Ytpjibokaeefhiaa.Tw
/-- A map's entries with one more said of a key. -/
def upE (c : Nat) (k v : Int) : List Ent3 → Nat × List Ent3
  | [] => (c + 1, [(c, k, v)])
  | x :: m => if k = x.2.1 then (c, (x.1, k, v) :: m) else ((upE c k v m).1, x :: (upE c k v m).2)
def ageE (k : Int) : List Ent3 → Int
  | [] => 0
  | x :: m => if k = x.2.1 then x.2.2 else ageE k m
theorem up_ent (c : Nat) (k v : Int) : ∀ m : List Ent3, upA c (.int .i64 k) (.int .i64 v) (m.map ent3) = ((upE c k v m).1, (upE c k v m).2.map ent3)
  | [] => rfl
  | x :: m => by
    have ih := up_ent c k v m
    unfold upE
    by_cases h : k = x.2.1
    · rw [if_pos h]
      simp [upA, idxA, ent3, keyEq, h]
    · rw [if_neg h]
      unfold upA at ih ⊢
      rw [List.map_cons, idxA, if_neg (by simp [ent3, keyEq, h])]
      cases hi : idxA (.int .i64 k) (m.map ent3) with
      | none => rw [hi] at ih; simp at ih ⊢; exact ⟨ih.1, ih.2⟩
      | some j => rw [hi] at ih; simp at ih ⊢; exact ⟨ih.1, ih.2⟩
theorem age_ent (k : Int) : ∀ m : List Ent3, (lkA (.int .i64 k) (m.map ent3)).getD (.int .i64 0) = .int .i64 (ageE k m)
  | [] => rfl
  | x :: m => by
    have ih := age_ent k m
    unfold ageE
    by_cases h : k = x.2.1
    · rw [if_pos h]
      simp [lkA, idxA, ent3, keyEq, h]
    · rw [if_neg h, ← ih]
      unfold lkA
      rw [List.map_cons, idxA, if_neg (by simp [ent3, keyEq, h])]
      cases idxA (.int .i64 k) (m.map ent3) <;> simp
theorem lk_up (c : Nat) (k v : Int) : ∀ m : List Ent3, lkA (.int .i64 k) ((upE c k v m).2.map ent3) = some (.int .i64 v)
  | [] => by simp [upE, lkA, idxA, ent3, keyEq]
  | x :: m => by
    have ih := lk_up c k v m
    unfold upE
    by_cases h : k = x.2.1
    · rw [if_pos h]
      simp [lkA, idxA, ent3, keyEq]
    · rw [if_neg h]
      unfold lkA at ih ⊢
      dsimp only
      rw [List.map_cons, idxA, if_neg (by simp [ent3, keyEq, h])]
      cases hi : idxA (.int .i64 k) (List.map ent3 (upE c k v m).2) with
      | none => rw [hi] at ih; simp at ih
      | some j => rw [hi] at ih; simpa using ih
theorem age_up (c : Nat) (k v i : Int) : ∀ m : List Ent3, ageE i (upE c k v m).2 = if i = k then v else ageE i m
  | [] => by simp [upE, ageE]
  | x :: m => by
    have ih := age_up c k v i m
    unfold upE
    by_cases h : k = x.2.1
    · rw [if_pos h]
      by_cases e : i = k
      · simp [ageE, e]
      · have e' : i ≠ x.2.1 := fun e2 => e (e2.trans h.symm)
        simp [ageE, e, e']
    · rw [if_neg h]
      dsimp only
      unfold ageE
      by_cases e : i = x.2.1
      · rw [if_pos e, if_pos e, if_neg (fun e2 => h (e2.symm.trans e))]
      · rw [if_neg e, if_neg e]; exact ih
/-- Entries that may stand in a map: places of birth and keys apart, ages within bounds. -/
structure OkE (c : Nat) (m : List Ent3) (K : Int) : Prop where
  born : (m.map (·.1)).Nodup
  lt : ∀ x ∈ m, x.1 < c
  keys : (m.map (·.2.1)).Nodup
  lo : ∀ x ∈ m, 0 ≤ x.2.2
  hi : ∀ x ∈ m, x.2.2 ≤ K
theorem OkE.age {c : Nat} {K k : Int} (h0 : 0 ≤ K) : ∀ {m : List Ent3}, (∀ x ∈ m, 0 ≤ x.2.2) → (∀ x ∈ m, x.2.2 ≤ K) → 0 ≤ ageE k m ∧ ageE k m ≤ K
  | [], _, _ => ⟨Int.le_refl _, h0⟩
  | x :: m, h1, h2 => by
    unfold ageE
    by_cases h : k = x.2.1
    · rw [if_pos h]; exact ⟨h1 x (List.mem_cons_self ..), h2 x (List.mem_cons_self ..)⟩
    · rw [if_neg h]; exact OkE.age (c := c) h0 (fun y hy => h1 y (List.mem_cons_of_mem _ hy)) (fun y hy => h2 y (List.mem_cons_of_mem _ hy))
theorem up_born (c : Nat) (k v : Int) : ∀ m : List Ent3, ((upE c k v m).1 = c ∧ (upE c k v m).2.map (·.1) = m.map (·.1) ∧ (upE c k v m).2.map (·.2.1) = m.map (·.2.1)) ∨ (k ∉ m.map (·.2.1) ∧ (upE c k v m).1 = c + 1 ∧ (upE c k v m).2 = m ++ [(c, k, v)])
  | [] => .inr ⟨by simp, rfl, rfl⟩
  | x :: m => by
    unfold upE
    by_cases h : k = x.2.1
    · rw [if_pos h]
      exact .inl ⟨rfl, by simp, by simp [h]⟩
    · rw [if_neg h]
      rcases up_born c k v m with ⟨h1, h2, h3⟩ | ⟨h1, h2, h3⟩
      · exact .inl ⟨h1, by simp [h2], by simp [h3]⟩
      · refine .inr ⟨?_, h2, by simp [h3]⟩
        rw [List.map_cons, List.mem_cons]
        exact fun e => e.elim h h1
theorem up_vals (c : Nat) (k v : Int) (p : Int → Prop) (hv : p v) : ∀ m : List Ent3, (∀ x ∈ m, p x.2.2) → ∀ x ∈ (upE c k v m).2, p x.2.2
  | [], _, x, hx => by simp [upE] at hx; subst hx; exact hv
  | y :: m, h, x, hx => by
    unfold upE at hx
    by_cases e : k = y.2.1
    · rw [if_pos e] at hx
      rcases List.mem_cons.1 hx with rfl | hx
      · exact hv
      · exact h x (List.mem_cons_of_mem _ hx)
    · rw [if_neg e] at hx
      rcases List.mem_cons.1 hx with rfl | hx
      · exact h x (List.mem_cons_self ..)
      · exact up_vals c k v p hv m (fun z hz => h z (List.mem_cons_of_mem _ hz)) x hx
theorem OkE.up {c : Nat} {m : List Ent3} {K K' v : Int} (h : OkE c m K) (k : Int) (hK : K ≤ K') (h0 : 0 ≤ v) (hv : v ≤ K') : OkE (upE c k v m).1 (upE c k v m).2 K' := by
  have lo := up_vals c k v (fun a => 0 ≤ a) h0 m h.lo
  have hi := up_vals c k v (fun a => a ≤ K') hv m (fun x hx => Int.le_trans (h.hi x hx) hK)
  rcases up_born c k v m with ⟨h1, h2, h3⟩ | ⟨h1, h2, h3⟩
  · refine ⟨by rw [h2]; exact h.born, fun x hx => ?_, by rw [h3]; exact h.keys, lo, hi⟩
    rw [h1]
    have : x.1 ∈ m.map (·.1) := by rw [← h2]; exact List.mem_map.2 ⟨x, hx, rfl⟩
    obtain ⟨y, hy, e⟩ := List.mem_map.1 this
    rw [← e]; exact h.lt y hy
  · refine ⟨?_, fun x hx => ?_, ?_, lo, hi⟩
    · rw [h3, List.map_append, List.nodup_append]
      refine ⟨h.born, by simp, fun a ha b hb e => ?_⟩
      obtain ⟨y, hy, e2⟩ := List.mem_map.1 ha
      have := h.lt y hy
      simp at hb
      omega
    · rw [h2]
      rw [h3, List.mem_append] at hx
      rcases hx with hx | hx
      · have := h.lt x hx; omega
      · simp at hx; subst hx; exact Nat.lt_succ_self _
    · rw [h3, List.map_append, List.nodup_append]
      refine ⟨h.keys, by simp, fun a ha b hb e => ?_⟩
      simp at hb
      exact h1 (by rw [← hb, ← e]; exact ha)
theorem OkE.filter {c : Nat} {m : List Ent3} {K : Int} (h : OkE c m K) (p : Ent3 → Bool) : OkE c (m.filter p) K :=
  ⟨h.born.sublist (List.filter_sublist.map _), fun x hx => h.lt x (List.mem_filter.1 hx).1, h.keys.sublist (List.filter_sublist.map _), fun x hx => h.lo x (List.mem_filter.1 hx).1, fun x hx => h.hi x (List.mem_filter.1 hx).1⟩
/-- What a tick does with one lease behind others. -/
def tickE (term : Int) (pre : List Lease) (x : Lease) (s : Nat × List Ent3 × List Int) : Nat × List Ent3 × List Int :=
  if (pre.find? (fun y => decide (y.id = x.id))).isSome then s else
  ((upE s.1 x.id (ageE x.id s.2.1 + 1) s.2.1).1, (upE s.1 x.id (ageE x.id s.2.1 + 1) s.2.1).2, if term ≤ ageE x.id s.2.1 + 1 then s.2.2 ++ [x.id] else s.2.2)
def runE (term : Int) : List Lease → Nat × List Ent3 × List Int → List Lease → Nat × List Ent3 × List Int
  | _, s, [] => s
  | pre, s, x :: l => runE term (pre ++ [x]) (tickE term pre x s) l
theorem runE_go (term : Int) (s : Nat × List Ent3 × List Int) : ∀ (l pre : List Lease) (j : Nat) (x : Lease), l[j]? = some x → runE term (pre ++ l.take j) s (l.drop j) = runE term (pre ++ l.take (j + 1)) (tickE term (pre ++ l.take j) x s) (l.drop (j + 1))
  | [], _, j, x, h => by simp at h
  | y :: l, pre, 0, x, h => by simp at h; subst h; simp [runE]
  | y :: l, pre, j + 1, x, h => by
    have := runE_go term s l (pre ++ [y]) j x (by simpa using h)
    simpa using this
theorem runE_drop (term : Int) (s : Nat × List Ent3 × List Int) {l : List Lease} {j : Nat} {x : Lease} (h : l[j]? = some x) : runE term (l.take j) s (l.drop j) = runE term (l.take (j + 1)) (tickE term (l.take j) x s) (l.drop (j + 1)) := by
  simpa using runE_go term s l [] j x h
/-- A tick's answer: the entries and what is over. -/
def tickS (term : Int) (l : List Lease) (c : Nat) (m : List Ent3) : Nat × List Ent3 × List Int :=
  runE term [] (c, m.filter (fun x => l.any fun y => decide (y.id = x.2.1)), []) l
theorem Tick42n (A : Ar) (F : EmL) {P : Program} (hP : P = Try.prog) (l : List Lease) : TPure P 42 [.nil, .sl 5 (F.l.l l)] (.sl 1 []) := by
  refine TPure.ofE A T0 (T0_ok hP) (hP ▸ Try.func42) rfl _ rfl (by simp) ?_
  cbv
  ((try cbv) <;> (repeat ((with_reducible refine EW.of ?_); cbv)))
end Go.Proofs.Ytpjibokaeefhiaa
