import Derived.Test.YtaieiigfheabfaaTw11
/-! A row of ours that other objects lead to is shut. -/
namespace Go.Proofs.Ytaieiigfheabfaa.Tw
open Go.RowKit
set_option linter.unusedVariables false
set_option linter.unusedSimpArgs false
/-- Elements, at a row that is shut. -/
def FSubE (p wd : Nat) (els : List AV) (e e' : AV) : Prop := e.cells.length = e'.cells.length ∧ ∀ (j : Nat) (c c' : AV), e.cells[j]? = some c → e'.cells[j]? = some c' → FSub p wd els c c'
theorem FSubE.refl (p wd : Nat) (els : List AV) (e : AV) : FSubE p wd els e e := ⟨rfl, fun j c c' h h' => by rw [h] at h'; cases h'; exact .sub (Sub.refl _)⟩
inductive FSubO (p wd : Nat) (els : List AV) : AO → AO → Prop
  | refl (o : AO) : FSubO p wd els o o
  | arr (w : Nat) (es es' : List AV) (hl : es.length = es'.length) (h : ∀ (i : Nat) (e e' : AV), es[i]? = some e → es'[i]? = some e' → FSubE p wd els e e') : FSubO p wd els (.arr w es) (.arr w es')
  | box (w : Nat) (e e' : AV) (h : FSubE p wd els e e') : FSubO p wd els (.box w e) (.box w e')
theorem FSubE.cells {p wd b : Nat} {els : List AV} {w : World} {I : Nat → Prop} {ρ : List Nat} (hb : ρ[p]? = some b) (hI : I b) (ho : ObjRel w I ρ b (.arr wd els)) {e e' : AV} (h : FSubE p wd els e e') {n a : Nat} {C : Array Value}
    (hc : e.cells.length = n ∧ ∀ (j : Nat) (c : AV), e.cells[j]? = some c → ∃ v : Value, C[a + j]? = some v ∧ Rep w I ρ v c) : e'.cells.length = n ∧ ∀ (j : Nat) (c : AV), e'.cells[j]? = some c → ∃ v : Value, C[a + j]? = some v ∧ Rep w I ρ v c := by
  refine ⟨h.1.symm.trans hc.1, fun j c' hj => ?_⟩
  obtain ⟨c, hcj⟩ : ∃ c, e.cells[j]? = some c := ⟨_, List.getElem?_eq_getElem (by have := (List.getElem?_eq_some_iff.1 hj).1; rw [h.1]; exact this)⟩
  obtain ⟨v, hv, hr⟩ := hc.2 j c hcj
  exact ⟨v, hv, (h.2 j c c' hcj hj).rep hb hI ho hr⟩
theorem FSubO.rel {p wd b b' : Nat} {els : List AV} {w : World} {I : Nat → Prop} {ρ : List Nat} (hb : ρ[p]? = some b) (hI : I b) (ho : ObjRel w I ρ b (.arr wd els)) {o o' : AO} (h : FSubO p wd els o o') (hr : ObjRel w I ρ b' o) : ObjRel w I ρ b' o' := by
  cases h with
  | refl => exact hr
  | arr n es es' hl h =>
    obtain ⟨C, t, q1, q2, q3⟩ := hr
    refine ⟨C, t, q1, hl ▸ q2, fun i e' he' => ?_⟩
    obtain ⟨e, he⟩ : ∃ e, es[i]? = some e := ⟨_, List.getElem?_eq_getElem (by have := (List.getElem?_eq_some_iff.1 he').1; omega)⟩
    exact (h i e e' he he').cells hb hI ho (q3 i e he)
  | box n e e' h =>
    obtain ⟨C, t, q1, q2, q3⟩ := hr
    refine ⟨C, t, q1, q2, fun i x hx => ?_⟩
    match i, hx with
    | 0, hx =>
      cases hx
      exact h.cells hb hI ho (q3 0 e rfl)
    | i + 1, hx => simp at hx
/-- A row of ours is shut, in the frame and in the objects. -/
theorem VS.freezeG {K : Nat} {fr fr' : AFr} {L L' : Store} {p wd : Nat} {els : List AV} (hp : aobj L p = some (.arr wd els)) (hl : L'.length = L.length) (hno : ∀ o, L'[p]? ≠ some (some o))
    (hO : ∀ (q : Nat) (o' : AO), q ≠ p → L'[q]? = some (some o') → ∃ o, L[q]? = some (some o) ∧ FSubO p wd els o o') (hn : fr'.n = fr.n) (h : ∀ t, FSub p wd els (aget fr t) (aget fr' t)) : VS K fr L fr' L' := fun w I ρ tmps h1 h2 => by
  obtain ⟨ob, hp', hnorm⟩ := join_some hp
  obtain ⟨b, hb⟩ : ∃ b, ρ[p]? = some b := ⟨_, List.getElem?_eq_getElem (by rw [h1.len]; exact (List.getElem?_eq_some_iff.1 hp').1)⟩
  obtain ⟨a1, a2, a3⟩ := own_norm h1 hp hb
  have hle : Le w I ρ w (fun c => I c ∨ c = b) ρ := ⟨fun _ _ => rfl, fun _ h => .inl h, fun _ _ h => h, fun b C t h => ⟨C, h, rfl⟩⟩
  have hne : ∀ {q : Nat} {o' : AO}, L'[q]? = some (some o') → q ≠ p := fun hq e => by subst e; exact hno _ hq
  refine ⟨fun c => I c ∨ c = b, ρ, fun _ h => .inl h, fun c hc => ?_, fun c ⟨q, o', hq, hc⟩ => ?_, fun _ _ => rfl, ⟨by rw [h1.len, hl], fun q o' c h3 h4 => ?_, fun q q' o o' c h3 h4 h5 h6 => ?_, fun c hc => ?_⟩, hn ▸ h2.1, fun t => ?_⟩
  · rcases hc with hc | rfl
    · exact .inl hc
    · exact .inr ⟨p, _, hp', hb⟩
  · obtain ⟨o, ho, _⟩ := hO q o' (hne hq) hq
    exact ⟨q, o, ho, hc⟩
  · obtain ⟨o, ho, hf⟩ := hO q o' (hne h3) h3
    obtain ⟨b1, b2, b3⟩ := h1.own q o c ho h4
    refine ⟨b1, fun hc => ?_, hf.rel hb (.inr rfl) (a3.mono hle rfl) (b3.mono hle rfl)⟩
    rcases hc with hc | rfl
    · exact b2 hc
    · exact hne h3 (h1.inj q p o _ c ho hp' h4 hb)
  · obtain ⟨o1, ho1, _⟩ := hO q o (hne h3) h3
    obtain ⟨o2, ho2, _⟩ := hO q' o' (hne h4) h4
    exact h1.inj q q' o1 o2 c ho1 ho2 h5 h6
  · rcases hc with hc | rfl
    · exact h1.imm c hc
    · exact a1
  · exact (h t).rep hb (.inr rfl) (a3.mono hle rfl) ((h2.2 t).mono hle)
theorem VS.freezeO {K : Nat} {fr : AFr} {L L' : Store} {p wd : Nat} {els : List AV} {l : List (Nat × AV)} (hp : aobj L p = some (.arr wd els)) (hl : L'.length = L.length) (hno : ∀ o, L'[p]? ≠ some (some o))
    (hO : ∀ (q : Nat) (o' : AO), q ≠ p → L'[q]? = some (some o') → ∃ o, L[q]? = some (some o) ∧ FSubO p wd els o o') (h : FSubL p wd els fr l) : VS K fr L ⟨fr.n, l⟩ L' := VS.freezeG hp hl hno hO rfl fun t => h.get t
/-- The frame stays as it is told. -/
theorem VS.freezeS {K : Nat} {fr : AFr} {L L' : Store} {p wd : Nat} {els : List AV} (hp : aobj L p = some (.arr wd els)) (hl : L'.length = L.length) (hno : ∀ o, L'[p]? ≠ some (some o))
    (hO : ∀ (q : Nat) (o' : AO), q ≠ p → L'[q]? = some (some o') → ∃ o, L[q]? = some (some o) ∧ FSubO p wd els o o') : VS K fr L fr L' := VS.freezeG hp hl hno hO rfl fun t => .sub (Sub.refl _)
/-- The row p, to which the i-th thing of row q leads, is shut. -/
theorem VS.freezeIn {K : Nat} {fr : AFr} {L : Store} {p q w wd : Nat} {els es es' : List AV} (hpq : q ≠ p) (hp : L[p]? = some (some (.arr wd els))) (hq : L[q]? = some (some (.arr w es))) (hl : es.length = es'.length) (h : ∀ (i : Nat) (e e' : AV), es[i]? = some e → es'[i]? = some e' → FSubE p wd els e e') : VS K fr L fr ((L.set q (some (.arr w es'))).set p none) := by
  have hlp := (List.getElem?_eq_some_iff.1 hp).1
  have hlq := (List.getElem?_eq_some_iff.1 hq).1
  refine VS.freezeS (p := p) (wd := wd) (els := els) (by simp [aobj, hp, AO.norm]) (by simp) (fun o ho => ?_) (fun x o' hx ho => ?_)
  · rw [List.getElem?_set_self (by simp; exact hlp)] at ho
    cases ho
  · rw [List.getElem?_set_ne (Ne.symm hx)] at ho
    by_cases hxq : x = q
    · subst hxq
      rw [List.getElem?_set_self hlq] at ho
      cases ho
      exact ⟨_, hq, .arr w es es' hl h⟩
    · rw [List.getElem?_set_ne (fun e => hxq e.symm)] at ho
      exact ⟨o', ho, .refl _⟩
end Go.Proofs.Ytaieiigfheabfaa.Tw
