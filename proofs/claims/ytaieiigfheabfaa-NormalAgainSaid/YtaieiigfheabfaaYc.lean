import Derived.Test.YtaieiigfheabfaaYb
/-! A text put to the first node of an id: plain. -/
namespace Go.Proofs.Ytaieiigfheabfaa
open Go.Proofs.Ytaieiigfheabfaa.Tw
mutual
def textT (id : Int) (s : ByteArray) : Tree → Tree × Bool
  | .node i k x ks => if i = id then (.node i k s ks, true) else (.node i k x (textTs id s ks).1, (textTs id s ks).2)
def textTs (id : Int) (s : ByteArray) : List Tree → List Tree × Bool
  | [] => ([], false)
  | t :: ts => if (textT id s t).2 = true then ((textT id s t).1 :: ts, true) else (t :: (textTs id s ts).1, (textTs id s ts).2)
end
mutual
def textD (id : Int) (s : ByteArray) : DT → DT × Bool
  | .node i k x o ks => if i = id then (.node i k s o ks, true) else (.node i k x o (textDs id s ks).1, (textDs id s ks).2)
def textDs (id : Int) (s : ByteArray) : List DT → List DT × Bool
  | [] => ([], false)
  | d :: ds => if (textD id s d).2 = true then ((textD id s d).1 :: ds, true) else (d :: (textDs id s ds).1, (textDs id s ds).2)
end
mutual
theorem textD_tree (id : Int) (s : ByteArray) : ∀ d : DT, textT id s d.tree = ((textD id s d).1.tree, (textD id s d).2)
  | .node i k x o ks => by
    rw [DT.tree, textT, textD]
    by_cases h : i = id
    · rw [if_pos h, if_pos h, DT.tree]
    · rw [if_neg h, if_neg h, DT.tree, textDs_tree id s ks]
theorem textDs_tree (id : Int) (s : ByteArray) : ∀ ks : List DT, textTs id s (treesD ks) = (treesD (textDs id s ks).1, (textDs id s ks).2)
  | [] => rfl
  | d :: ds => by
    rw [treesD, textTs, textDs, textD_tree id s d, textDs_tree id s ds]
    by_cases h : (textD id s d).2 = true
    · rw [if_pos h, if_pos h, treesD]
    · rw [if_neg h, if_neg h, treesD]
end
mutual
theorem textD_foot (id : Int) (s : ByteArray) : ∀ d : DT, (textD id s d).1.foot = d.foot
  | .node i k x o ks => by
    rw [textD]
    by_cases h : i = id
    · rw [if_pos h]; rfl
    · rw [if_neg h, DT.foot, DT.foot, textDs_foot id s ks]
theorem textDs_foot (id : Int) (s : ByteArray) : ∀ ks : List DT, footD (textDs id s ks).1 = footD ks
  | [] => rfl
  | d :: ds => by
    rw [textDs]
    by_cases h : (textD id s d).2 = true
    · rw [if_pos h, footD, footD, textD_foot id s d]
    · rw [if_neg h, footD, footD, textDs_foot id s ds]
end
mutual
theorem textD_no (id : Int) (s : ByteArray) : ∀ d : DT, (textD id s d).2 = false → (textD id s d).1 = d
  | .node i k x o ks => by
    rw [textD]
    by_cases h : i = id
    · rw [if_pos h]; exact fun h => by cases h
    · rw [if_neg h]; exact fun h => by rw [textDs_no id s ks h]
theorem textDs_no (id : Int) (s : ByteArray) : ∀ ks : List DT, (textDs id s ks).2 = false → (textDs id s ks).1 = ks
  | [], _ => rfl
  | d :: ds, h => by
    rw [textDs] at h ⊢
    by_cases hd : (textD id s d).2 = true
    · rw [if_pos hd] at h; cases h
    · rw [if_neg hd] at h ⊢
      rw [textDs_no id s ds h]
end
theorem textDs_len (id : Int) (s : ByteArray) : ∀ ks : List DT, (textDs id s ks).1.length = ks.length
  | [] => rfl
  | d :: ds => by
    rw [textDs]
    by_cases hd : (textD id s d).2 = true
    · rw [if_pos hd]; rfl
    · rw [if_neg hd, List.length_cons, List.length_cons, textDs_len id s ds]
/-- None of the first j kids is hit. -/
def missD (id : Int) (s : ByteArray) (ks : List DT) (j : Nat) : Prop := ∀ (i : Nat) (d : DT), i < j → ks[i]? = some d → (textD id s d).2 = false
theorem missD.succ {id : Int} {s : ByteArray} {ks : List DT} {j : Nat} {d : DT} (h : missD id s ks j) (hd : ks[j]? = some d) (hn : (textD id s d).2 = false) : missD id s ks (j + 1) := fun i e hi he => by
  by_cases hij : i = j
  · subst hij; rw [hd] at he; cases he; exact hn
  · exact h i e (by omega) he
theorem textDs_hit {id : Int} {s : ByteArray} : ∀ {ks : List DT} {j : Nat} {d : DT}, missD id s ks j → ks[j]? = some d → (textD id s d).2 = true → textDs id s ks = (ks.set j (textD id s d).1, true)
  | [], j, d, _, h, _ => by simp at h
  | e :: ks, 0, d, _, h, hd => by
    obtain rfl : e = d := by simpa using h
    rw [textDs, if_pos hd]; rfl
  | e :: ks, j + 1, d, hm, h, hd => by
    have he := hm 0 e (by omega) rfl
    rw [textDs, if_neg (by rw [he]; simp), textDs_hit (ks := ks) (j := j) (fun i x hi hx => hm (i + 1) x (by omega) (by simpa using hx)) (by simpa using h) hd]
    rfl
theorem textDs_miss {id : Int} {s : ByteArray} : ∀ {ks : List DT} {j : Nat}, missD id s ks j → ks.length ≤ j → textDs id s ks = (ks, false)
  | [], j, _, _ => rfl
  | e :: ks, 0, _, h => by simp at h
  | e :: ks, j + 1, hm, h => by
    have he := hm 0 e (by omega) rfl
    rw [textDs, if_neg (by rw [he]; simp), textDs_miss (ks := ks) (j := j) (fun i x hi hx => hm (i + 1) x (by omega) (by simpa using hx)) (by simpa using h)]
theorem foot_sep {ks : List DT} {j : Nat} {d : DT} (h : ks[j]? = some d) (hn : (footD ks).Nodup) : footD ks = footD (ks.take j) ++ (d.foot ++ footD (ks.drop (j + 1))) ∧ d.foot.Nodup := by
  have e : ks = ks.take j ++ (d :: ks.drop (j + 1)) := by
    conv => lhs; rw [← List.take_append_drop j ks, List.drop_eq_getElem?_toList_append, h]
    rfl
  have e2 : footD ks = footD (ks.take j) ++ (d.foot ++ footD (ks.drop (j + 1))) := by
    conv => lhs; rw [e, footD_app]
    rfl
  refine ⟨e2, ?_⟩
  rw [e2] at hn
  exact (List.nodup_append.1 (List.nodup_append.1 hn).2.1).1
/-- What a change within one kid's rows leaves of the other kids. -/
theorem oksD.set {L L' : Store} {ks : List DT} {j : Nat} {d d' : DT} (h : ks[j]? = some d) (hn : (footD ks).Nodup) (ho : oksD L ks) (hd : d'.ok L') (hs : ∀ x ∈ footD ks, x ∉ d.foot → L'[x]? = L[x]?) : oksD L' (ks.set j d') := by
  obtain ⟨e2, _⟩ := foot_sep h hn
  have e : ks = ks.take j ++ (d :: ks.drop (j + 1)) := by
    conv => lhs; rw [← List.take_append_drop j ks, List.drop_eq_getElem?_toList_append, h]
    rfl
  have hl := (List.getElem?_eq_some_iff.1 h).1
  have es : ks.set j d' = ks.take j ++ (d' :: ks.drop (j + 1)) := by
    rw [List.set_eq_take_append_cons_drop, if_pos hl]
  rw [e2] at hn hs
  have h1 := List.nodup_append.1 hn
  have h2 := List.nodup_append.1 h1.2.1
  rw [e, oksD_app] at ho
  rw [es, oksD_app]
  refine ⟨oksD.same (fun x hx => hs x (by simp [hx]) fun hm => h1.2.2 x hx x (List.mem_append_left _ hm) rfl) ho.1, hd, oksD.same (fun x hx => hs x (by simp [hx]) fun hm => h2.2.2 x hm x hx rfl) ho.2.2⟩
end Go.Proofs.Ytaieiigfheabfaa
