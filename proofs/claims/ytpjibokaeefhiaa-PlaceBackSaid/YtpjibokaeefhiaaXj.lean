import Derived.Test.YtpjibokaeefhiaaXi
import Derived.Test.YtpjibokaeefhiaaMc
/-! Plain: what stands at a node's path is the first of its id; put there it changes nothing. -/
namespace Go.Proofs.Ytpjibokaeefhiaa
open Go.Proofs.Ytpjibokaeefhiaa.Tw
def firstL (id : Int) (l : List (Tree × Nat)) : Option Tree := (l.find? fun x => decide (x.1.id = id)).map (·.1)
theorem firstL_app (id : Int) (l m : List (Tree × Nat)) : firstL id (l ++ m) = (firstL id l).or (firstL id m) := by
  unfold firstL
  rw [List.find?_append]
  cases l.find? fun x => decide (x.1.id = id) <;> rfl
mutual
theorem walk_all (m : Nat) : ∀ (t : Tree) (l : List (Tree × Nat)) (d : Nat), l.length + (preT t d).length ≤ m → walkT m t l d = l ++ preT t d
  | .node i k s ks, l, d, h => by
    simp only [preT, List.length_cons] at h
    simp only [walkT, preT]
    rw [if_neg (by omega), walk_allK m ks _ (d + 1) (by simp; omega)]
    simp
theorem walk_allK (m : Nat) : ∀ (ts : List Tree) (l : List (Tree × Nat)) (d : Nat), l.length + (preK ts d).length ≤ m → walkK m ts l d = l ++ preK ts d
  | [], l, d, _ => by simp [walkK, preK]
  | t :: ts, l, d, h => by
    simp only [preK, List.length_append] at h
    simp only [walkK, preK]
    rw [walk_all m t l d (by omega), walk_allK m ts _ d (by simp; omega)]
    simp
end
mutual
theorem first_pre (id : Int) : ∀ (t : Tree) (d : Nat), (∀ p, pathT id t = some p → ∃ u, atT t p = some u ∧ firstL id (preT t d) = some u) ∧ (pathT id t = none → firstL id (preT t d) = none)
  | .node i k s ks, d => by
    simp only [pathT, preT]
    by_cases h : i = id
    · rw [if_pos h]
      refine ⟨fun p hp => ?_, fun hp => by cases hp⟩
      cases hp
      refine ⟨_, rfl, ?_⟩
      simp [firstL, Tree.id, h]
    · rw [if_neg h]
      have e : firstL id ((Tree.node i k s ks, d) :: preK ks (d + 1)) = firstL id (preK ks (d + 1)) := by
        simp [firstL, Tree.id, h]
      rw [e]
      obtain ⟨h1, h2⟩ := first_preK id ks 0 (d + 1)
      refine ⟨fun p hp => ?_, h2⟩
      obtain ⟨j, q, u, t', hq, ht, hu, hf⟩ := h1 p hp
      refine ⟨u, ?_, hf⟩
      rw [hq]
      have h6 : ¬ (((0 + j : Nat) : Int) < 0) := by omega
      have h7 : ((0 + j : Nat) : Int).toNat = j := by omega
      simp only [atT, if_neg h6, h7, ht, hu]
theorem first_preK (id : Int) : ∀ (ts : List Tree) (n d : Nat), (∀ p, pathK id ts n = some p → ∃ (j : Nat) (q : List Int) (u t : Tree), p = ((n + j : Nat) : Int) :: q ∧ ts[j]? = some t ∧ atT t q = some u ∧ firstL id (preK ts d) = some u) ∧ (pathK id ts n = none → firstL id (preK ts d) = none)
  | [], n, d => ⟨fun p hp => by simp [pathK] at hp, fun _ => rfl⟩
  | t :: ts, n, d => by
    simp only [pathK, preK]
    rw [firstL_app]
    obtain ⟨a1, a2⟩ := first_pre id t d
    obtain ⟨b1, b2⟩ := first_preK id ts (n + 1) d
    cases hp : pathT id t with
    | some q =>
      obtain ⟨u, hu, hf⟩ := a1 q hp
      refine ⟨fun p h => ?_, fun h => by cases h⟩
      cases h
      exact ⟨0, q, u, t, by simp, rfl, hu, by rw [hf]; rfl⟩
    | none =>
      rw [a2 hp]
      refine ⟨fun p h => ?_, fun h => by rw [b2 h]; rfl⟩
      obtain ⟨j, q, u, t', h1, h2, h3, h4⟩ := b1 p h
      exact ⟨j + 1, q, u, t', by rw [h1]; congr 1; omega, by simpa using h2, h3, by rw [h4]; rfl⟩
end
theorem putX_self : ∀ (p : List Nat) (t u : Tree), atT t (p.map Int.ofNat) = some u → putX u t p = t
  | [], .node i k s ks, u, h => by cases h; rfl
  | j :: p, .node i k s ks, u, h => by
    have h6 : ¬ (Int.ofNat j < 0) := by have : Int.ofNat j = (j : Int) := rfl; omega
    have h7 : (Int.ofNat j).toNat = j := rfl
    simp only [List.map_cons, atT, if_neg h6, h7] at h
    cases hk : ks[j]? with
    | none => rw [hk] at h; cases h
    | some k' =>
      rw [hk] at h
      have ih := putX_self p k' u h
      rw [show putX u (.node i k s ks) (j :: p) = .node i k s (putAt u ks (j :: p)) from rfl, putAt_set u hk, ih]
      congr 1
      refine List.ext_getElem? fun x => ?_
      by_cases hx : j = x
      · subst hx
        rw [List.getElem?_set_self (List.getElem?_eq_some_iff.1 hk).1, hk]
      · rw [List.getElem?_set_ne hx]
theorem mem_up (t : Tree) (q : List Int) (x : Int) : ∀ m, x ∈ upIds t q m ↔ ∃ j, j < m ∧ x = (upT t q j).id
  | 0 => by simp [upIds]
  | m + 1 => by
    simp only [upIds, List.mem_cons, mem_up t q x m]
    constructor
    · rintro (h | ⟨j, hj, h⟩)
      · exact ⟨m, by omega, h⟩
      · exact ⟨j, by omega, h⟩
    · rintro ⟨j, hj, h⟩
      by_cases e : j = m
      · subst e; exact .inl h
      · exact .inr ⟨j, by omega, h⟩
theorem within_up {t : Tree} (hn : (idsT t).Nodup) {a b : Int} {p : List Int} (hp : pathT a t = some p) : withinS t a b = (((pathT b t).isSome && decide (a = b)) || ((aboveS t b).any fun x => (pathT b t).isSome && decide (x = a))) := by
  unfold withinS aboveS
  rw [hp]
  cases hq : pathT b t with
  | none => simp [withinO]
  | some q =>
    simp only [withinO_some, Option.isSome_some, Bool.true_and]
    obtain ⟨u, hu, hua⟩ := at_path a t p hp
    obtain ⟨v, hv, hvb⟩ := at_path b t q hq
    rw [Bool.eq_iff_iff]
    simp only [Bool.or_eq_true, decide_eq_true_eq, List.any_eq_true]
    constructor
    · intro h
      have h2 : p = q.take p.length := by simpa [isPre] using h
      rcases Nat.lt_or_ge p.length q.length with hl | hl
      · refine .inr ⟨a, (mem_up t q a _).2 ⟨p.length, hl, ?_⟩, rfl⟩
        unfold upT
        rw [← h2, hu]
        exact hua.symm
      · rw [List.take_of_length_le hl] at h2
        rw [h2, hv] at hu
        cases hu
        exact .inl (hua.symm.trans hvb)
    · rintro (h | ⟨x, hx, rfl⟩)
      · subst h
        rw [hp] at hq
        cases hq
        simp [isPre]
      · obtain ⟨j, hj, h⟩ := (mem_up t q x _).1 hx
        obtain ⟨w, hw⟩ := atT_take q j hv
        have h3 := path_at _ hn hw
        have h4 : w.id = x := by rw [h]; unfold upT; rw [hw]; rfl
        rw [h4, hp] at h3
        cases h3
        simp only [isPre, List.length_take]
        rw [Nat.min_eq_left (by omega)]
        simp
end Go.Proofs.Ytpjibokaeefhiaa
