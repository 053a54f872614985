import Derived.Test.YtpjibokaeefhiaaTwL
/-! What is known, said otherwise. -/
namespace Go.Proofs.Ytpjibokaeefhiaa.Tw
open Go.RowKit
set_option linter.unusedVariables false
set_option linter.unusedSimpArgs false
mutual
/-- Only objects ahead of place n. -/
def AV.upto (n : Nat) : AV → Bool
  | .ref p _ _ _ => decide (p < n)
  | .row p _ _ _ => decide (p < n)
  | .map p => decide (p < n)
  | .yield p => decide (p < n)
  | .imm cs => uptoL n cs
  | .sl _ es => uptoL n es
  | .slt _ es => uptoL n es
  | .agg cs => uptoL n cs
  | .tup cs => uptoL n cs
  | .func _ a b => uptoL n a && uptoL n b
  | .ifc _ v => v.upto n
  | .any => true
  | .int _ _ => true
  | .bool _ => true
  | .str _ => true
  | .nil => true
  | .nils => true
  | .nilf => true
  | .raw _ => true
def uptoL (n : Nat) : List AV → Bool
  | [] => true
  | a :: as => a.upto n && uptoL n as
end
mutual
theorem AV.upto_pur (n : Nat) : ∀ a : AV, a.pur = true → a.upto n = true
  | .ref .., h => by simp [AV.pur] at h
  | .row .., h => by simp [AV.pur] at h
  | .map _, h => by simp [AV.pur] at h
  | .yield _, h => by simp [AV.pur] at h
  | .imm cs, h => by simp only [AV.pur, AV.upto] at h ⊢; exact uptoL_pur n cs h
  | .sl _ cs, h => by simp only [AV.pur, AV.upto] at h ⊢; exact uptoL_pur n cs h
  | .slt _ cs, h => by simp only [AV.pur, AV.upto] at h ⊢; exact uptoL_pur n cs h
  | .agg cs, h => by simp only [AV.pur, AV.upto] at h ⊢; exact uptoL_pur n cs h
  | .tup cs, h => by simp only [AV.pur, AV.upto] at h ⊢; exact uptoL_pur n cs h
  | .func _ a b, h => by
    simp only [AV.pur, AV.upto, Bool.and_eq_true] at h ⊢
    exact ⟨uptoL_pur n a h.1, uptoL_pur n b h.2⟩
  | .ifc _ v, h => by simp only [AV.pur, AV.upto] at h ⊢; exact AV.upto_pur n v h
  | .any, _ => rfl
  | .int _ _, _ => rfl
  | .bool _, _ => rfl
  | .str _, _ => rfl
  | .nil, _ => rfl
  | .nils, _ => rfl
  | .nilf, _ => rfl
  | .raw _, _ => rfl
theorem uptoL_pur (n : Nat) : ∀ l : List AV, purL l = true → uptoL n l = true
  | [], _ => rfl
  | a :: l, h => by
    simp only [purL, uptoL, Bool.and_eq_true] at h ⊢
    exact ⟨AV.upto_pur n a h.1, uptoL_pur n l h.2⟩
end
theorem uptoL_mem {n : Nat} : ∀ {l : List AV} {a : AV}, uptoL n l = true → a ∈ l → a.upto n = true
  | b :: l, a, h, hm => by
    simp only [uptoL, Bool.and_eq_true] at h
    cases hm with
    | head => exact h.1
    | tail _ hm => exact uptoL_mem h.2 hm
theorem upto_cells {n : Nat} {e c : AV} (h : e.upto n = true) (hc : c ∈ e.cells) : c.upto n = true := by
  unfold AV.cells at hc
  split at hc
  · exact uptoL_mem (by simpa [AV.upto] using h) hc
  · simp at hc; exact hc ▸ h
theorem take_get {ρ : List Nat} {n p b : Nat} (h : ρ[p]? = some b) (hp : p < n) : (ρ.take n)[p]? = some b := by rw [List.getElem?_take, if_pos hp]; exact h
theorem Rep.take {w : World} {I : Nat → Prop} {ρ : List Nat} {v : Value} {a : AV} (h : Rep w I ρ v a) (n : Nat) : a.upto n = true → Rep w I (ρ.take n) v a := by
  induction h with
  | any v => exact fun _ => .any v
  | int k n => exact fun _ => .int k n
  | bool b => exact fun _ => .bool b
  | str s => exact fun _ => .str s
  | nil => exact fun _ => .nil
  | ref p wd i f b h => exact fun hb => .ref p wd i f b (take_get h (by simpa [AV.upto] using hb))
  | imm a cs vs hs hI hc hr ih => exact fun h => .imm a cs vs hs hI hc (fun j c hj => ih j c hj (uptoL_mem (by simpa [AV.upto] using h) (List.mem_of_getElem? hj)))
  | nils => exact fun _ => .nils
  | sl a A n c wd els vs hn hcap ha hw hc hr ih => exact fun h => .sl a A n c wd els vs hn hcap ha hw hc (fun i e j c he hc' => ih i e j c he hc' (upto_cells (uptoL_mem (by simpa [AV.upto] using h) (List.mem_of_getElem? he)) (List.mem_of_getElem? hc')))
  | slt a A n wd els vs hn ha hw hc hr ih => exact fun h => .slt a A n wd els vs hn ha hw hc (fun i e j c he hc' => ih i e j c he hc' (upto_cells (uptoL_mem (by simpa [AV.upto] using h) (List.mem_of_getElem? he)) (List.mem_of_getElem? hc')))
  | row p wd off n b c C t h hn hb hC => exact fun hb' => .row p wd off n b c C t (take_get h (by simpa [AV.upto] using hb')) hn hb hC
  | agg vs cs hl hr ih => exact fun h => .agg vs cs hl (fun j v c hv hc => ih j v c hv hc (uptoL_mem (by simpa [AV.upto] using h) (List.mem_of_getElem? hc)))
  | tup vs cs hl hr ih => exact fun h => .tup vs cs hl (fun j v c hv hc => ih j v c hv hc (uptoL_mem (by simpa [AV.upto] using h) (List.mem_of_getElem? hc)))
  | func fn fs gs fst cap hl hl' hr hr' ih ih' =>
    intro h
    simp only [AV.upto, Bool.and_eq_true] at h
    exact .func fn fs gs fst cap hl hl' (fun j v c hv hc => ih j v c hv hc (uptoL_mem h.1 (List.mem_of_getElem? hc))) (fun j v c hv hc => ih' j v c hv hc (uptoL_mem h.2 (List.mem_of_getElem? hc)))
  | nilf => exact fun _ => .nilf
  | map p b h => exact fun hb => .map p b (take_get h (by simpa [AV.upto] using hb))
  | yield p b h => exact fun hb => .yield p b (take_get h (by simpa [AV.upto] using hb))
  | ifc t v a h ih => exact fun h => .ifc t v a (ih (by simpa [AV.upto] using h))
  | raw v => exact fun _ => .raw v
def AO.upto (n : Nat) : AO → Bool
  | .arr _ els => uptoL n els
  | .box _ e => e.upto n
  | .mp es => es.all fun x => x.1.upto n && x.2.upto n
  | .loop _ _ _ l _ _ _ => l.all fun x => x.2.upto n
theorem agetL_upto {n : Nat} : ∀ {l : List (Nat × AV)}, (l.all fun x => x.2.upto n) = true → ∀ t, (agetL l t).upto n = true
  | [], _, t => rfl
  | (d, v) :: l, h, t => by
    simp only [List.all_cons, Bool.and_eq_true] at h
    simp only [agetL]
    split
    · exact h.1
    · exact agetL_upto h.2 t
theorem ObjRel.take {w : World} {I : Nat → Prop} {ρ : List Nat} {b : Nat} {o : AO} (h : ObjRel w I ρ b o) (n : Nat) (hb : o.upto n = true) : ObjRel w I (ρ.take n) b o := by
  cases o with
  | arr wd els =>
    obtain ⟨C, t, h1, h2, h3⟩ := h
    exact ⟨C, t, h1, h2, fun i e he => ⟨(h3 i e he).1, fun j c hc => let ⟨v, h4, h5⟩ := (h3 i e he).2 j c hc; ⟨v, h4, h5.take n (upto_cells (uptoL_mem hb (List.mem_of_getElem? he)) (List.mem_of_getElem? hc))⟩⟩⟩
  | box wd e =>
    obtain ⟨C, t, h1, h2, h3⟩ := h
    refine ⟨C, t, h1, h2, fun i e' he => ⟨(h3 i e' he).1, fun j c hc => ?_⟩⟩
    obtain ⟨v, h4, h5⟩ := (h3 i e' he).2 j c hc
    have : e' = e := by
      have := (List.getElem?_eq_some_iff.1 he).1
      simp at this
      subst this
      simpa using he.symm
    subst this
    exact ⟨v, h4, h5.take n (upto_cells hb (List.mem_of_getElem? hc))⟩
  | mp es =>
    obtain ⟨E, k, h1, h2, h3⟩ := h
    refine ⟨E, k, h1, h2, fun i x e hx he => ?_⟩
    have := List.all_eq_true.1 hb x (List.mem_of_getElem? hx)
    simp only [Bool.and_eq_true] at this
    exact ⟨(h3 i x e hx he).1.take n this.1, (h3 i x e hx he).2.take n this.2⟩
  | loop st pend m l ps as bd =>
    obtain ⟨fn, tmps, D, h1, h2, h3⟩ := h
    exact ⟨fn, tmps, D, h1, h2, fun t => (h3 t).take n (agetL_upto hb t)⟩
def oUpto (n : Nat) : Option AO → Bool
  | some o => o.upto n
  | none => true
theorem Owned.take {ρ : List Nat} {L : Store} {n b : Nat} (h : Owned (ρ.take n) (L.take n) b) : Owned ρ L b := by
  obtain ⟨p, o, h1, h2⟩ := h
  rw [List.getElem?_take] at h1 h2
  split at h1
  · rename_i hp
    rw [if_pos hp] at h2
    exact ⟨p, o, h1, h2⟩
  · cases h1
theorem VS.trunc {K : Nat} {fr : AFr} {L : Store} (n : Nat) (hK : K ≤ n) (hf : fr.l.all (fun x => x.2.upto n) = true) (hL : (L.take n).all (oUpto n) = true) : VS K fr L fr (L.take n) := fun w I ρ tmps h1 h2 => by
  refine ⟨I, ρ.take n, fun _ h => h, fun _ h => .inl h, fun _ h => h.take, fun p hp => by rw [List.getElem?_take, if_pos (by omega)], ⟨by simp [h1.len], fun p o b h3 h4 => ?_, fun p q o o' b h3 h4 h5 h6 => ?_, h1.imm⟩, h2.1, fun t => ?_⟩
  · have hm := List.all_eq_true.1 hL _ (List.mem_of_getElem? h3)
    rw [List.getElem?_take] at h3 h4
    split at h3
    · rename_i hp
      rw [if_pos hp] at h4
      obtain ⟨a1, a2, a3⟩ := h1.own p o b h3 h4
      exact ⟨a1, a2, a3.take n hm⟩
    · cases h3
  · rw [List.getElem?_take] at h3 h4 h5 h6
    split at h3
    · split at h4
      · rename_i hp hq
        rw [if_pos hp] at h5
        rw [if_pos hq] at h6
        exact h1.inj p q o o' b h3 h4 h5 h6
      · cases h4
    · cases h3
  · have key : ∀ (l : List (Nat × AV)) (v : Value), l.all (fun x => x.2.upto n) = true → Rep w I ρ v (agetL l t) → Rep w I (ρ.take n) v (agetL l t) := by
      intro l v
      induction l with
      | nil => exact fun _ _ => .any _
      | cons x l ih =>
        obtain ⟨d, u⟩ := x
        intro hl
        simp only [List.all_cons, Bool.and_eq_true] at hl
        simp only [agetL]
        split
        · exact fun h => h.take n hl.1
        · exact ih hl.2
    exact key fr.l _ hf (h2.2 t)
/-- One abstract value says no more than another. -/
def Sub (a b : AV) : Prop := ∀ w I ρ v, Rep w I ρ v a → Rep w I ρ v b
theorem Sub.refl (a : AV) : Sub a a := fun _ _ _ _ h => h
theorem Sub.any (a : AV) : Sub a .any := fun _ _ _ v _ => .any v
theorem Sub.nils (w : Nat) : Sub .nils (.sl w []) := fun _ _ _ v h => by
  cases h
  exact .sl none default 0 0 w [] (fun _ _ => undef) rfl (Nat.le_refl _) (.inl rfl) (fun _ h => by cases h) (fun i _ hi => by simp at hi) (fun i _ _ _ hi => by simp at hi)
theorem Sub.nils_slt (w : Nat) : Sub .nils (.slt w []) := fun _ _ _ v h => by
  cases h
  exact .slt none default 0 w [] (fun _ _ => undef) rfl (.inl rfl) (fun _ h => by cases h) (fun i _ hi => by simp at hi) (fun i _ _ _ hi => by simp at hi)
theorem Sub.slt (w : Nat) (els : List AV) : Sub (.slt w els) (.sl w els) := fun _ _ _ v h => by
  cases h with
  | slt a A n _ _ vs hn ha hw hc hr => exact .sl a A n n w els vs hn (Nat.le_refl _) ha hw hc hr
theorem Sub.agg {cs ds : List AV} (hl : cs.length = ds.length) (h : ∀ (j : Nat) (c d : AV), cs[j]? = some c → ds[j]? = some d → Sub c d) : Sub (.agg cs) (.agg ds) := fun w I ρ v hv => by
  cases hv with
  | agg vs _ hl' hr =>
    exact .agg vs ds (hl'.trans hl) fun j u d hu hd => by
      have hlt := (List.getElem?_eq_some_iff.1 hd).1
      have hc : cs[j]? = some (cs[j]'(by omega)) := List.getElem?_eq_getElem (by omega)
      exact h j _ d hc hd w I ρ u (hr j u _ hu hc)
theorem Sub.tup {cs ds : List AV} (hl : cs.length = ds.length) (h : ∀ (j : Nat) (c d : AV), cs[j]? = some c → ds[j]? = some d → Sub c d) : Sub (.tup cs) (.tup ds) := fun w I ρ v hv => by
  cases hv with
  | tup vs _ hl' hr =>
    exact .tup vs ds (hl'.trans hl) fun j u d hu hd => by
      have hlt := (List.getElem?_eq_some_iff.1 hd).1
      have hc : cs[j]? = some (cs[j]'(by omega)) := List.getElem?_eq_getElem (by omega)
      exact h j _ d hc hd w I ρ u (hr j u _ hu hc)
/-- Frames, entry by entry. -/
inductive SubL (fr : AFr) : List (Nat × AV) → Prop
  | nil : SubL fr []
  | cons {t : Nat} {v : AV} {l : List (Nat × AV)} (h : Sub (aget fr t) v) (k : SubL fr l) : SubL fr ((t, v) :: l)
theorem SubL.get {fr : AFr} {l : List (Nat × AV)} (h : SubL fr l) (t : Nat) : Sub (aget fr t) (agetL l t) := by
  induction h with
  | nil => exact Sub.any _
  | cons h k ih =>
    simp only [agetL]
    split
    · rename_i e; subst e; exact h
    · exact ih
theorem VS.sub {K : Nat} {fr : AFr} {L : Store} {l : List (Nat × AV)} (h : SubL fr l) : VS K fr L ⟨fr.n, l⟩ L := fun w I ρ tmps h1 h2 =>
  ⟨I, ρ, fun _ h => h, fun _ h => .inl h, fun _ h => h, fun _ _ => rfl, h1, h2.1, fun t => h.get t w I ρ _ (h2.2 t)⟩
/-- An object is dropped. -/
theorem VS.drop {K : Nat} {fr : AFr} {L : Store} (p : Nat) : VS K fr L fr (L.set p none) := fun w I ρ tmps h1 h2 =>
  ⟨I, ρ, fun _ h => h, fun _ h => .inl h, fun _ h => h.of_kill, fun _ _ => rfl, h1.kill p, h2⟩
/-- A row of ours becomes one that is never written. -/
inductive FSub (p wd : Nat) (els : List AV) : AV → AV → Prop
  | sub {a b : AV} (h : Sub a b) : FSub p wd els a b
  | row (off n : Nat) (h : off + n ≤ els.length) : FSub p wd els (.row p wd off n) (.sl wd ((els.drop off).take n))
  | agg (cs ds : List AV) (hl : cs.length = ds.length) (h : ∀ (j : Nat) (c d : AV), cs[j]? = some c → ds[j]? = some d → FSub p wd els c d) : FSub p wd els (.agg cs) (.agg ds)
  | tup (cs ds : List AV) (hl : cs.length = ds.length) (h : ∀ (j : Nat) (c d : AV), cs[j]? = some c → ds[j]? = some d → FSub p wd els c d) : FSub p wd els (.tup cs) (.tup ds)
theorem FSub.whole {p wd n : Nat} {els : List AV} (h : n = els.length) : FSub p wd els (.row p wd 0 n) (.sl wd els) := by
  have := FSub.row (p := p) (wd := wd) (els := els) 0 n (by omega)
  simpa [h] using this
theorem FSub.rep {p wd b : Nat} {els : List AV} {w : World} {I : Nat → Prop} {ρ : List Nat} (hb : ρ[p]? = some b) (hI : I b) (ho : ObjRel w I ρ b (.arr wd els)) {a c : AV} (h : FSub p wd els a c) : ∀ {v : Value}, Rep w I ρ v a → Rep w I ρ v c := by
  induction h with
  | sub h => exact fun hv => h w I ρ _ hv
  | row off n hle =>
    intro v hv
    cases hv with
    | row _ _ _ _ b' c C t hb' hn hB hC =>
      rw [hb] at hb'
      cases hb'
      obtain ⟨C', t', q1, q2, q3⟩ := ho
      rw [hB] at q1
      cases q1
      have hidx : ∀ (i : Nat) (e : AV), ((els.drop off).take n)[i]? = some e → els[off + i]? = some e := by
        intro i e he
        rw [List.getElem?_take] at he
        split at he
        · rwa [List.getElem?_drop] at he
        · cases he
      refine Rep.sl (some ⟨b, off * wd, none⟩) ⟨b, off * wd, none⟩ n c wd _ (fun i j => (C[(off + i) * wd + j]?).getD undef) (by simp; omega) hn (.inr ⟨rfl, rfl, hI⟩) (fun e he => ?_) (fun i j hi hj => ?_) (fun i e j cc he hc => ?_)
      · obtain ⟨i, hi⟩ := List.getElem?_of_mem he
        exact (q3 _ e (hidx i e hi)).1
      · obtain ⟨e, he⟩ : ∃ e, ((els.drop off).take n)[i]? = some e := ⟨_, List.getElem?_eq_getElem hi⟩
        obtain ⟨r1, r2⟩ := q3 _ e (hidx i e he)
        obtain ⟨u, hu, _⟩ := r2 j _ (List.getElem?_eq_getElem (by rw [r1]; exact hj))
        simp only [World.cell?, hB]
        rw [show off * wd + (i * wd + j) = (off + i) * wd + j from by rw [Nat.add_mul]; omega]
        simp [hu]
      · obtain ⟨u, hu, hr⟩ := (q3 _ e (hidx i e he)).2 j cc hc
        simp only [hu, Option.getD_some]
        exact hr
  | agg cs ds hl h ih =>
    intro v hv
    cases hv with
    | agg vs _ hl' hr =>
    exact .agg vs ds (hl'.trans hl) fun j u d hu hd => by
        have hlt := (List.getElem?_eq_some_iff.1 hd).1
        have hc : cs[j]? = some (cs[j]'(by omega)) := List.getElem?_eq_getElem (by omega)
        exact ih j _ d hc hd (hr j u _ hu hc)
  | tup cs ds hl h ih =>
    intro v hv
    cases hv with
    | tup vs _ hl' hr =>
    exact .tup vs ds (hl'.trans hl) fun j u d hu hd => by
        have hlt := (List.getElem?_eq_some_iff.1 hd).1
        have hc : cs[j]? = some (cs[j]'(by omega)) := List.getElem?_eq_getElem (by omega)
        exact ih j _ d hc hd (hr j u _ hu hc)
/-- Frames, at a row that is shut. -/
inductive FSubL (p wd : Nat) (els : List AV) (fr : AFr) : List (Nat × AV) → Prop
  | nil : FSubL p wd els fr []
  | cons {t : Nat} {v : AV} {l : List (Nat × AV)} (h : FSub p wd els (aget fr t) v) (k : FSubL p wd els fr l) : FSubL p wd els fr ((t, v) :: l)
theorem FSubL.get {p wd : Nat} {els : List AV} {fr : AFr} {l : List (Nat × AV)} (h : FSubL p wd els fr l) (t : Nat) : FSub p wd els (aget fr t) (agetL l t) := by
  induction h with
  | nil => exact .sub (Sub.any _)
  | cons h k ih =>
    simp only [agetL]
    split
    · rename_i e; subst e; exact h
    · exact ih
theorem VS.freeze {K : Nat} {fr : AFr} {L : Store} {p wd : Nat} {els : List AV} {l : List (Nat × AV)} (hp : aobj L p = some (.arr wd els)) (h : FSubL p wd els fr l) : VS K fr L ⟨fr.n, l⟩ (L.set p none) := fun w I ρ tmps h1 h2 => by
  obtain ⟨ob, hp', hnorm⟩ := join_some hp
  obtain ⟨b, hb⟩ : ∃ b, ρ[p]? = some b := ⟨_, List.getElem?_eq_getElem (by rw [h1.len]; exact (List.getElem?_eq_some_iff.1 hp').1)⟩
  obtain ⟨a1, a2, a3⟩ := own_norm h1 hp hb
  have hle : Le w I ρ w (fun c => I c ∨ c = b) ρ := ⟨fun _ _ => rfl, fun _ h => .inl h, fun _ _ h => h, fun b C t h => ⟨C, h, rfl⟩⟩
  refine ⟨fun c => I c ∨ c = b, ρ, fun _ h => .inl h, fun c hc => ?_, fun _ h => h.of_kill, fun _ _ => rfl, ⟨by simp [h1.len], fun q o c h3 h4 => ?_, fun q q' o o' c h3 h4 h5 h6 => h1.inj q q' o o' c (set_none h3).1 (set_none h4).1 h5 h6, fun c hc => ?_⟩, h2.1, fun t => ?_⟩
  · rcases hc with hc | rfl
    · exact .inl hc
    · exact .inr ⟨p, _, hp', hb⟩
  · obtain ⟨h3, hne⟩ := set_none h3
    obtain ⟨b1, b2, b3⟩ := h1.own q o c h3 h4
    refine ⟨b1, fun hc => ?_, b3.mono hle rfl⟩
    rcases hc with hc | rfl
    · exact b2 hc
    · exact hne (h1.inj q p o _ c h3 hp' h4 hb)
  · rcases hc with hc | rfl
    · exact h1.imm c hc
    · exact a1
  · exact (h.get t).rep hb (.inr rfl) (a3.mono hle rfl) ((h2.2 t).mono hle)
theorem VSV.freeze {K : Nat} {v v' : AV} {L : Store} {p wd : Nat} {els : List AV} (hp : aobj L p = some (.arr wd els)) (h : FSub p wd els v v') : VSV K v L v' (L.set p none) :=
  VS.freeze hp (.cons (by simpa [aget, agetL] using h) .nil)
theorem VSV.sub {K : Nat} {v v' : AV} {L : Store} (h : Sub v v') : VSV K v L v' L := VS.sub (fr := ⟨1, [(0, v)]⟩) (.cons (by simpa [aget, agetL] using h) .nil)
theorem VSV.trans {K : Nat} {v v' v'' : AV} {L L' L'' : Store} (h : VSV K v L v' L') (k : VSV K v' L' v'' L'') : VSV K v L v'' L'' := VS.trans h k
theorem VSV.trunc {K : Nat} {v : AV} {L : Store} (n : Nat) (hK : K ≤ n) (hv : v.upto n = true) (hL : (L.take n).all (oUpto n) = true) : VSV K v L v (L.take n) := VS.trunc n hK (by simpa using hv) hL
/-- All objects are dropped. -/
theorem VSV.pure {v : AV} {L : Store} (hv : v.pur = true) : VSV 0 v L v [] := by
  have := VSV.trunc (K := 0) (v := v) (L := L) 0 (Nat.le_refl _) (AV.upto_pur 0 v hv) (by simp)
  simpa using this
end Go.Proofs.Ytpjibokaeefhiaa.Tw
