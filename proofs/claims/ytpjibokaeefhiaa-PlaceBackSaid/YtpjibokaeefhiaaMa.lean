import Derived.Test.YtpjibokaeefhiaaLw
/-! Trees whose ids are all different: where their nodes stand. -/
namespace Go.Proofs.Ytpjibokaeefhiaa
open Go.Proofs.Ytpjibokaeefhiaa.Tw
mutual
/-- All nodes, with their depths, each ahead of its kids. -/
def preT : Tree → Nat → List (Tree × Nat)
  | .node i k s ks, d => (.node i k s ks, d) :: preK ks (d + 1)
def preK : List Tree → Nat → List (Tree × Nat)
  | [], _ => []
  | t :: ts, d => preT t d ++ preK ts d
end
mutual
theorem walkT_eq (m : Nat) : ∀ (t : Tree) (l : List (Tree × Nat)) (d : Nat), (walkT m t l d).length < m → walkT m t l d = l ++ preT t d
  | .node i k s ks, l, d, h => by
    simp only [walkT, preT] at h ⊢
    split at h
    · omega
    rename_i hlt
    rw [if_neg hlt, walkK_eq m ks _ (d + 1) h]
    simp
theorem walkK_eq (m : Nat) : ∀ (ts : List Tree) (l : List (Tree × Nat)) (d : Nat), (walkK m ts l d).length < m → walkK m ts l d = l ++ preK ts d
  | [], l, d, _ => by simp [walkK, preK]
  | t :: ts, l, d, h => by
    simp only [walkK, preK] at h ⊢
    have hp := (walkK_pre m ts (walkT m t l d) d).length_le
    rw [walkK_eq m ts _ d h, walkT_eq m t l d (by omega)]
    simp
end
mutual
theorem walkT_dep (m : Nat) : ∀ (t : Tree) (l : List (Tree × Nat)) (d : Nat), d ≤ l.length + 1 → ∀ x ∈ walkT m t l d, x ∈ l ∨ x.2 ≤ (walkT m t l d).length
  | .node i k s ks, l, d, hd, x, hx => by
    simp only [walkT] at hx ⊢
    split at hx
    · exact .inl hx
    rename_i hlt
    rw [if_neg hlt]
    have hp := (walkK_pre m ks (l ++ [(.node i k s ks, d)]) (d + 1)).length_le
    rcases walkK_dep m ks _ (d + 1) (by simp; omega) x hx with h | h
    · rcases List.mem_append.1 h with h | h
      · exact .inl h
      · simp at h
        subst h
        right
        simp at hp
        show d ≤ _
        omega
    · exact .inr h
theorem walkK_dep (m : Nat) : ∀ (ts : List Tree) (l : List (Tree × Nat)) (d : Nat), d ≤ l.length + 1 → ∀ x ∈ walkK m ts l d, x ∈ l ∨ x.2 ≤ (walkK m ts l d).length
  | [], l, d, _, x, hx => .inl hx
  | t :: ts, l, d, hd, x, hx => by
    simp only [walkK] at hx ⊢
    have hp := (walkK_pre m ts (walkT m t l d) d).length_le
    have hp2 := (walkT_pre m t l d).length_le
    rcases walkK_dep m ts _ d (by omega) x hx with h | h
    · rcases walkT_dep m t l d hd x h with h | h
      · exact .inl h
      · exact .inr (by omega)
    · exact .inr h
end
/-- A walk that was not cut: the tree is not deep. -/
theorem walk_within {m : Nat} {t : Tree} (hm : m ≤ 1000000) (h : (walkT m t [] 1).length < m) : within m t := by
  have hd : ∀ x ∈ walkT m t [] 1, x.2 ≤ m := fun x hx => by
    rcases walkT_dep m t [] 1 (by simp) x hx with h | h
    · cases h
    · omega
  exact within_mono (by omega) (walkT_within m m (by omega) t [] 1 h hd).2
mutual
def idsT : Tree → List Int
  | .node i _ _ ks => i :: idsK ks
def idsK : List Tree → List Int
  | [] => []
  | t :: ts => idsT t ++ idsK ts
end
mutual
theorem preT_ids : ∀ (t : Tree) (d : Nat), (preT t d).map (·.1.id) = idsT t
  | .node i k s ks, d => by simp only [preT, idsT, List.map_cons, preK_ids ks (d + 1)]; rfl
theorem preK_ids : ∀ (ts : List Tree) (d : Nat), (preK ts d).map (·.1.id) = idsK ts
  | [], _ => rfl
  | t :: ts, d => by simp only [preK, idsK, List.map_append, preT_ids t d, preK_ids ts d]
end
mutual
theorem pathT_some (id : Int) : ∀ t : Tree, (pathT id t).isSome = decide (id ∈ idsT t)
  | .node i k s ks => by
    simp only [pathT, idsT]
    by_cases h : i = id
    · subst h; simp
    · rw [if_neg h, pathK_some id ks 0]
      have : ¬ id = i := fun e => h e.symm
      simp [this]
theorem pathK_some (id : Int) : ∀ (ts : List Tree) (n : Nat), (pathK id ts n).isSome = decide (id ∈ idsK ts)
  | [], n => by simp [pathK, idsK]
  | t :: ts, n => by
    simp only [pathK, idsK]
    have h1 := pathT_some id t
    cases hp : pathT id t with
    | some p => rw [hp] at h1; simp at h1; simp [h1]
    | none =>
      rw [hp] at h1
      simp at h1
      simp only [pathK_some id ts (n + 1)]
      simp [h1]
end
theorem pathT_mem {id : Int} {t : Tree} {p : List Int} (h : pathT id t = some p) : id ∈ idsT t := by
  have := pathT_some id t
  rw [h] at this
  simpa using this.symm
theorem mem_pathT {id : Int} {t : Tree} (h : id ∈ idsT t) : ∃ p, pathT id t = some p := by
  have := pathT_some id t
  rw [decide_eq_true h] at this
  exact Option.isSome_iff_exists.1 this
theorem not_pathT {id : Int} {t : Tree} (h : id ∉ idsT t) : pathT id t = none := by
  have := pathT_some id t
  rw [decide_eq_false h] at this
  simpa using this
theorem idsK_mem {id : Int} {t : Tree} : ∀ {ts : List Tree}, t ∈ ts → id ∈ idsT t → id ∈ idsK ts
  | s :: ts, ht, hi => by
    simp only [idsK, List.mem_append]
    rcases List.mem_cons.1 ht with rfl | ht
    · exact .inl hi
    · exact .inr (idsK_mem ht hi)
theorem atT_mem : ∀ (p : List Int) {t u : Tree}, atT t p = some u → u.id ∈ idsT t
  | [], .node i k s ks, u, h => by cases h; simp [idsT, Tree.id]
  | j :: p, .node i k s ks, u, h => by
    simp only [atT] at h
    split at h
    · cases h
    split at h
    · rename_i k' hk
      simp only [idsT, List.mem_cons]
      exact .inr (idsK_mem (List.mem_of_getElem? hk) (atT_mem p h))
    · cases h
theorem pathK_at {id : Int} {p : List Int} {k : Tree} : ∀ {ts : List Tree} {j n : Nat}, ts[j]? = some k → (idsK ts).Nodup → id ∈ idsT k → pathT id k = some p → pathK id ts n = some (((n + j : Nat) : Int) :: p)
  | t :: ts, 0, n, hk, _, _, hp => by
    simp at hk
    subst hk
    simp [pathK, hp]
  | t :: ts, j + 1, n, hk, hn, hi, hp => by
    simp only [idsK, List.nodup_append] at hn
    have hk' : ts[j]? = some k := by simpa using hk
    have hnot : id ∉ idsT t := fun h => hn.2.2 id h id (idsK_mem (List.mem_of_getElem? hk') hi) rfl
    simp only [pathK, not_pathT hnot]
    rw [pathK_at hk' hn.2.1 hi hp]
    congr 2
    omega
theorem idsK_nodup {k : Tree} : ∀ {ts : List Tree}, k ∈ ts → (idsK ts).Nodup → (idsT k).Nodup
  | t :: ts, hk, hn => by
    simp only [idsK, List.nodup_append] at hn
    rcases List.mem_cons.1 hk with rfl | hk
    · exact hn.1
    · exact idsK_nodup hk hn.2.1
/-- The path of the node at a path. -/
theorem path_at : ∀ (p : List Int) {t u : Tree}, (idsT t).Nodup → atT t p = some u → pathT u.id t = some p
  | [], .node i k s ks, u, hn, h => by cases h; simp [pathT, Tree.id]
  | j :: p, .node i k s ks, u, hn, h => by
    simp only [atT] at h
    split at h
    · cases h
    rename_i hj
    split at h
    · rename_i k' hk
      simp only [idsT, List.nodup_cons] at hn
      have hm := atT_mem p h
      have hmem := List.mem_of_getElem? hk
      have hne : i ≠ u.id := fun e => hn.1 (e ▸ idsK_mem hmem hm)
      simp only [pathT, if_neg hne]
      rw [pathK_at hk hn.2 hm (path_at p (idsK_nodup hmem hn.2) h)]
      congr 2
      omega
    · cases h
mutual
/-- What stands at a node's path. -/
theorem at_path (id : Int) : ∀ (t : Tree) (p : List Int), pathT id t = some p → ∃ u, atT t p = some u ∧ u.id = id
  | .node i k s ks, p, h => by
    simp only [pathT] at h
    split at h
    · rename_i e; cases h; exact ⟨_, rfl, e⟩
    · obtain ⟨j, q, u, h1, h2, h3, h4⟩ := at_pathK id ks 0 p h
      obtain ⟨t', ht', h5⟩ := h3
      refine ⟨u, ?_, h4⟩
      rw [h1]
      have h6 : ¬ (((0 + j : Nat) : Int) < 0) := by omega
      have h7 : ((0 + j : Nat) : Int).toNat = j := by omega
      simp only [atT, if_neg h6, h7, ht', h5]
theorem at_pathK (id : Int) : ∀ (ts : List Tree) (n : Nat) (p : List Int), pathK id ts n = some p → ∃ (j : Nat) (q : List Int) (u : Tree), p = ((n + j : Nat) : Int) :: q ∧ j < ts.length ∧ (∃ t, ts[j]? = some t ∧ atT t q = some u) ∧ u.id = id
  | [], n, p, h => by simp [pathK] at h
  | t :: ts, n, p, h => by
    simp only [pathK] at h
    split at h
    · rename_i q hq
      cases h
      obtain ⟨u, h1, h2⟩ := at_path id t q hq
      exact ⟨0, q, u, by simp, by simp, ⟨t, rfl, h1⟩, h2⟩
    · obtain ⟨j, q, u, h1, h2, ⟨t', h3, h4⟩, h5⟩ := at_pathK id ts (n + 1) p h
      exact ⟨j + 1, q, u, by rw [h1]; congr 1; omega, by simp; omega, ⟨t', by simpa using h3, h4⟩, h5⟩
end
theorem atT_take : ∀ (p : List Int) {t u : Tree} (n : Nat), atT t p = some u → ∃ v, atT t (p.take n) = some v
  | p, t, u, 0, h => ⟨t, by simp [atT]⟩
  | [], t, u, n + 1, h => ⟨u, by simpa using h⟩
  | j :: p, .node i k s ks, u, n + 1, h => by
    simp only [atT, List.take_succ_cons] at h ⊢
    split at h
    · cases h
    rename_i hj
    rw [if_neg hj]
    split at h
    · rename_i k' hk
      exact atT_take p n h
    · cases h
theorem alike_comm : ∀ p q : List Int, alike p q = alike q p
  | [], [] => rfl
  | [], _ :: _ => rfl
  | _ :: _, [] => rfl
  | a :: p, b :: q => by
    simp only [alike]
    by_cases h : a = b
    · subst h; simp [alike_comm p q]
    · rw [if_neg h, if_neg (fun e => h e.symm)]
theorem alike_take : ∀ p q : List Int, p.take (alike p q) = q.take (alike p q)
  | [], [] => rfl
  | [], _ :: _ => by simp [alike]
  | _ :: _, [] => by simp [alike]
  | a :: p, b :: q => by
    simp only [alike]
    by_cases h : a = b
    · subst h; simp [alike_take p q]
    · simp [if_neg h]
theorem isPre_nil (q : List Int) : isPre [] q = true := by simp [isPre]
theorem isPre_cons (a b : Int) (p q : List Int) : isPre (a :: p) (b :: q) = (decide (a = b) && isPre p q) := by
  simp only [isPre, List.length_cons, List.take_succ_cons]
  by_cases h : a = b
  · subst h; simp
  · simp [h]
theorem isPre_end (a : Int) (p : List Int) : isPre (a :: p) [] = false := by simp [isPre]
/-- Ahead of two rows: ahead of what they share. -/
theorem isPre_alike : ∀ x p q : List Int, (isPre x p && isPre x q) = isPre x (p.take (alike p q))
  | [], p, q => by simp [isPre_nil]
  | a :: x, [], q => by simp [isPre_end]
  | a :: x, b :: p, [] => by simp [isPre_end, alike]
  | a :: x, b :: p, c :: q => by
    simp only [isPre_cons, alike]
    by_cases h : b = c
    · subst h
      simp only [if_true, List.take_succ_cons, isPre_cons]
      rw [← isPre_alike x p q]
      cases decide (a = b) <;> simp
    · rw [if_neg h]
      simp only [List.take_zero, isPre_end]
      by_cases h1 : a = b
      · subst h1; simp [h]
      · simp [h1]
theorem withinO_some (p q : List Int) : withinO (some p) (some q) = isPre p q := by
  simp only [withinO]
  by_cases h : isPre p q = true
  · have h2 : p = q.take p.length := by simpa [isPre] using h
    have h3 := congrArg List.length h2
    rw [List.length_take] at h3
    rw [h, decide_eq_true (by omega)]
    rfl
  · simp only [Bool.not_eq_true] at h
    rw [h, Bool.and_false]
theorem common_comm (t : Tree) (a b : Int) : commonS t a b = commonS t b a := by
  unfold commonS
  cases pathT a t <;> cases pathT b t <;> simp only [commonO]
  rename_i p q
  rw [alike_comm q p]
  simp only [upT, alike_take p q]
/-- The lowest node above two is within all that both are within. -/
theorem common_law {t : Tree} (hn : (idsT t).Nodup) (a b x : Int) (hx : x ∈ idsT t) :
    ((commonS t a b).2 = true → (withinS t x a && withinS t x b) = withinS t x (commonS t a b).1) ∧ ((commonS t a b).2 = false → (withinS t x a && withinS t x b) = false) := by
  obtain ⟨px, hpx⟩ := mem_pathT hx
  unfold commonS withinS
  cases hpa : pathT a t with
  | none => simp [commonO, withinO, hpx]
  | some p =>
    cases hpb : pathT b t with
    | none => simp [commonO, withinO, hpx]
    | some q =>
      simp only [commonO, hpx, withinO_some]
      refine ⟨fun _ => ?_, fun h => by cases h⟩
      obtain ⟨u, hu, _⟩ := at_path a t p hpa
      obtain ⟨v, hv⟩ := atT_take p (alike p q) hu
      have hpc := path_at _ hn hv
      simp only [upT, hv, Option.getD_some, hpc, withinO_some]
      exact isPre_alike px p q
theorem common_none (t : Tree) (a b : Int) : (commonS t a b).2 = true ∨ (commonS t a b).1 = 0 := by
  unfold commonS
  cases pathT a t <;> cases pathT b t <;> simp [commonO]
end Go.Proofs.Ytpjibokaeefhiaa
