import Derived.Test.YtlngpfocngfokaaGu
/-! A wider slot lets be what was let be. -/
namespace Go.Proofs.Ytlngpfocngfokaa
open Go.Proofs.Ytlngpfocngfokaa.Tw
/-- A kind put into rising kinds. -/
def insF (o : Int) : List Int → Bool → List Int
  | [], true => []
  | [], false => [o]
  | k :: l, true => k :: insF o l true
  | k :: l, false => if o ≤ k then (if k = o then k :: insF o l true else o :: k :: insF o l true) else k :: insF o l false
theorem insF_true (o : Int) : ∀ l, insF o l true = l
  | [] => rfl
  | k :: l => by rw [insF, insF_true o l]
theorem insF_mem {o x : Int} : ∀ (l : List Int) (d : Bool), x ∈ l → x ∈ insF o l d
  | [], d, h => by cases h
  | k :: l, true, h => by rw [insF_true]; exact h
  | k :: l, false, h => by
    rw [insF]
    split
    · split
      · rw [insF_true]; exact h
      · rw [insF_true]; exact List.mem_cons_of_mem _ h
    · rcases List.mem_cons.1 h with h | h
      · rw [h]; exact List.mem_cons_self
      · exact List.mem_cons_of_mem _ (insF_mem l false h)
theorem insF_len (o : Int) : ∀ (l : List Int) (d : Bool), l.length ≤ (insF o l d).length ∧ (insF o l d).length ≤ l.length + 1
  | [], true => by simp [insF]
  | [], false => by simp [insF]
  | k :: l, true => by rw [insF_true]; omega
  | k :: l, false => by
    have ih := insF_len o l false
    rw [insF]
    split
    · split <;> simp only [insF_true, List.length_cons] <;> omega
    · simp only [List.length_cons]; omega
theorem insF_ris {o n : Int} (ho : o < n) : ∀ (l : List Int) (last : Int) (d : Bool), (d = false → last < o) → risF n last l = true → risF n last (insF o l d) = true
  | [], last, true, _, _ => rfl
  | [], last, false, hd, _ => by
    have := hd rfl
    simp [insF, risF, this, ho]
  | k :: l, last, true, _, h => by rw [insF_true]; exact h
  | k :: l, last, false, hd, h => by
    have hd := hd rfl
    simp only [risF, Bool.and_eq_true, decide_eq_true_eq] at h
    obtain ⟨h1, h2, h3⟩ := h
    rw [insF]
    split
    · split
      · rw [insF_true]; simp [risF, h1, h2, h3]
      · have : o < k := by omega
        rw [insF_true]; simp [risF, hd, ho, this, h2, h3]
    · have ih := insF_ris ho l k false (fun _ => by omega) h3
      simp [risF, h1, h2, ih]
theorem ris_len {n : Int} : ∀ (l : List Int) (last : Int), last < n → risF n last l = true → (l.length : Int) ≤ n - 1 - last
  | [], last, h, _ => by simp; omega
  | k :: l, last, h, hr => by
    simp only [risF, Bool.and_eq_true, decide_eq_true_eq] at hr
    have ih := ris_len l k hr.2.1 hr.2.2
    have := hr.1
    rw [List.length_cons]
    omega
theorem insF_drop {o k : Int} {l : List Int} {j : Nat} (h : l[j]? = some k) (d : Bool) : insF o (l.drop j) d = insF o (k :: l.drop (j + 1)) d := by
  rw [List.drop_eq_getElem?_toList_append, h]
  rfl
structure Wider (s t : Slo) : Prop where
  least : t.least = s.least
  most : s.most ≤ t.most
  may : ∀ x, mayB x s.kinds = true → mayB x t.kinds = true
theorem Takes.wide {kids : List Int} {s t : Slo} (w : Wider s t) {a n m : Nat} (h : Takes kids s a n m) : Takes kids t a n m := fun i hi hj =>
  ⟨Int.le_trans (h i hi hj).1 w.most, fun h0 => w.may _ ((h i hi hj).2 h0)⟩
theorem Cuts.wide {kids : List Int} {s t : Slo} (w : Wider s t) : ∀ (ss : List Slo) (i a b : Nat), ss[i]? = some s → Cuts kids ss a b → Cuts kids (ss.set i t) a b
  | [], i, a, b, h, _ => by simp at h
  | x :: ss, 0, a, b, h, hc => by
    simp at h
    subst h
    obtain ⟨m, h1, h2, h3, h4⟩ := hc
    exact ⟨m, h1, by rw [w.least]; exact h2, h3.wide w, h4⟩
  | x :: ss, i + 1, a, b, h, hc => by
    simp at h
    obtain ⟨m, h1, h2, h3, h4⟩ := hc
    exact ⟨m, h1, h2, h3, Cuts.wide w ss i _ b h h4⟩
theorem all_set {α : Type} {p : α → Bool} {l : List α} {i : Nat} {x : α} (h : l.all p = true) (hx : p x = true) : (l.set i x).all p = true := by
  rw [List.all_eq_true] at h ⊢
  intro y hy
  rcases List.mem_or_eq_of_mem_set hy with hy | rfl
  · exact h y hy
  · exact hx
theorem freshB_names : ∀ (l l' : List Knd) (acc : List ByteArray), l.map (·.name) = l'.map (·.name) → freshB acc l = freshB acc l'
  | [], l', acc, h => by
    cases l' with
    | nil => rfl
    | cons => simp at h
  | k :: l, [], acc, h => by simp at h
  | k :: l, k' :: l', acc, h => by
    simp only [List.map_cons, List.cons.injEq] at h
    rw [freshB, freshB, h.1, freshB_names l l' _ h.2]
theorem map_set {l : List Knd} {i : Nat} {k k' : Knd} (h : l[i]? = some k) (hn : k'.name = k.name) : (l.set i k').map (·.name) = l.map (·.name) := by
  apply List.ext_getElem?
  intro j
  rw [List.getElem?_map, List.getElem?_map, List.getElem?_set]
  split
  · rename_i e
    subst e
    have hl := (List.getElem?_eq_some_iff.1 h).1
    rw [if_pos hl, h]
    simp [hn]
  · rfl
/-- What is wider may be and lets be. -/
theorem wide_ok {ks : List Knd} {root : Int} {m i : Nat} {name : ByteArray} {text : Bool} {ss : List Slo} {s : Slo} (hc : checkB ⟨ks, root⟩ = true) (hx : ks[m]? = some ⟨name, text, ss⟩) (hs : ss[i]? = some s) {o : Int} {d : Bool} {v : Int} (ho : d = false → 0 ≤ o ∧ o < ks.length) (hv : s.most ≤ v ∧ v ≤ 1000) {ks' : List Knd}
    (hks : ks' = ks.set m ⟨name, text, ss.set i ⟨insF o s.kinds d, s.least, v⟩⟩) : checkB ⟨ks', root⟩ = true ∧ ∀ kids : List Int, fitsB ⟨ks, root⟩ m kids = true → fitsB ⟨ks', root⟩ m kids = true := by
  have hc0 := hc
  have hlen : ks'.length = ks.length := by rw [hks, List.length_set]
  have hml := (List.getElem?_eq_some_iff.1 hx).1
  have hkm : ks'[m]? = some ⟨name, text, ss.set i ⟨insF o s.kinds d, s.least, v⟩⟩ := by rw [hks, List.getElem?_set_self hml]
  unfold checkB at hc
  simp only [Bool.and_eq_true, decide_eq_true_eq] at hc
  obtain ⟨⟨c1, c2, c3, c4⟩, c5, c6⟩ := hc
  have hk := List.all_eq_true.1 c6 _ (List.mem_of_getElem? hx)
  unfold kindB at hk
  simp only [Bool.and_eq_true, decide_eq_true_eq] at hk
  obtain ⟨k1, k2, k3, k4⟩ := hk
  have hb := List.all_eq_true.1 k4 _ (List.mem_of_getElem? hs)
  unfold slotB risB at hb
  simp only [Bool.and_eq_true, decide_eq_true_eq] at hb
  obtain ⟨⟨b1, b2, b3⟩, b4, b5, b6⟩ := hb
  have il := insF_len o s.kinds d
  have hr : risF ks.length (-1) (insF o s.kinds d) = true := by
    cases d with
    | true => rw [insF_true]; exact b3
    | false => exact insF_ris (ho rfl).2 _ _ _ (fun _ => by have := (ho rfl).1; omega) b3
  have hl := ris_len _ _ (by omega) hr
  have hch : checkB ⟨ks', root⟩ = true := by
    unfold checkB
    simp only [Bool.and_eq_true, decide_eq_true_eq]
    rw [hlen]
    refine ⟨⟨c1, c2, c3, c4⟩, ?_, ?_⟩
    · rw [freshB_names ks' ks [] (by rw [hks]; exact map_set hx rfl)]; exact c5
    · rw [hks]
      refine all_set c6 ?_
      unfold kindB
      simp only [Bool.and_eq_true, decide_eq_true_eq]
      refine ⟨k1, k2, by rw [List.length_set]; exact k3, all_set k4 ?_⟩
      unfold slotB risB
      simp only [Bool.and_eq_true, decide_eq_true_eq]
      exact ⟨⟨by omega, by omega, hr⟩, b4, by omega, by omega⟩
  refine ⟨hch, fun kids hf => ?_⟩
  unfold fitsB kindO at hf ⊢
  rw [if_pos ⟨hc0, by omega, by show (m : Int) < ks.length; omega⟩] at hf
  rw [if_pos ⟨hch, by omega, by show (m : Int) < ks'.length; omega⟩]
  dsimp only at hf ⊢
  rw [Int.toNat_natCast] at hf ⊢
  rw [hx] at hf
  rw [hkm]
  simp only [fitsO] at hf ⊢
  split at hf
  · cases hf
  · rename_i h200
    rw [if_neg h200]
    rw [slotsF_cuts] at hf ⊢
    refine Cuts.wide (s := s) (t := ⟨insF o s.kinds d, s.least, v⟩) ⟨rfl, hv.1, fun x hx => ?_⟩ ss i _ _ hs hf
    unfold mayB at hx ⊢
    rw [List.any_eq_true] at hx ⊢
    obtain ⟨y, hy, e⟩ := hx
    exact ⟨y, insF_mem _ _ hy, e⟩
theorem mn_add (A : Ar) {sm more : Int} (h0 : 0 ≤ sm) (h : sm ≤ 1000) : sm ≤ A.mn (A.op .add .i64 sm (A.mn (A.mx more 0) 1000)) 1000 ∧ A.mn (A.op .add .i64 sm (A.mn (A.mx more 0) 1000)) 1000 ≤ 1000 := by
  have h1 : 0 ≤ A.mn (A.mx more 0) 1000 ∧ A.mn (A.mx more 0) 1000 ≤ 1000 := mn_mx A (by decide)
  generalize A.mn (A.mx more 0) 1000 = x at h1
  rw [add_i64 rfl rfl (by omega) (by omega), A.ok_mn]
  split <;> omega
end Go.Proofs.Ytlngpfocngfokaa
