import Derived.Test.YtpjibokaeefhiaaTwV
/-! A row that boxes point to is moved down with all that points to it. -/
namespace Go.Proofs.Ytpjibokaeefhiaa.Tw
open Go.RowKit
set_option linter.unusedVariables false
set_option linter.unusedSimpArgs false
/-- Objects, when what lies at q lies at n from here on. -/
inductive MvO (q n : Nat) : AO → AO → Prop
  | keep (o : AO) (h : o.upto n = true) : MvO q n o o
  | box (w off k : Nat) : MvO q n (.box 1 (.row q w off k)) (.box 1 (.row n w off k))
theorem MvO.rel {q n b c : Nat} {w : World} {I : Nat → Prop} {ρ : List Nat} (hn : n ≤ ρ.length) (hb : ρ[q]? = some b) {o o' : AO} (h : MvO q n o o') (ho : ObjRel w I ρ c o) : ObjRel w I (ρ.take n ++ [b]) c o' := by
  have hle : Le w I (ρ.take n) w I (ρ.take n ++ [b]) := ⟨fun _ _ => rfl, fun _ h => h, fun _ _ h => rho_app h, fun _ C _ h => ⟨C, h, rfl⟩⟩
  cases h with
  | keep _ h => exact (ho.take n h).mono hle rfl
  | box wd off k =>
    obtain ⟨C, t, h1, h2, h3⟩ := ho
    refine ⟨C, t, h1, h2, fun i e he => ?_⟩
    have hi := (List.getElem?_eq_some_iff.1 he).1
    simp at hi
    subst hi
    simp at he
    subst he
    refine ⟨rfl, fun j x hx => ?_⟩
    cases j with
    | succ j => simp [AV.cells] at hx
    | zero =>
      simp [AV.cells] at hx
      subst hx
      obtain ⟨v, hv, hr⟩ := (h3 0 _ rfl).2 0 _ rfl
      exact ⟨v, hv, (Mv.row wd off k).rep hn hb hr⟩
inductive MvS (q n : Nat) : Nat → Store → Store → Prop
  | nil (p : Nat) (L : Store) : MvS q n p L []
  | gone {p : Nat} {x : Option AO} {L L0 : Store} (k : MvS q n (p + 1) L L0) : MvS q n p (x :: L) (none :: L0)
  | obj {p : Nat} {o o' : AO} {L L0 : Store} (h : MvO q n o o') (hp : p ≠ q) (k : MvS q n (p + 1) L L0) : MvS q n p (some o :: L) (some o' :: L0)
theorem MvS.get {q n p : Nat} {L L0 : Store} (h : MvS q n p L L0) : ∀ (i : Nat) (o' : AO), L0[i]? = some (some o') → ∃ o, L[i]? = some (some o) ∧ MvO q n o o' ∧ p + i ≠ q := by
  induction h with
  | nil => intro i o' h; simp at h
  | gone k ih =>
    intro i o' h
    cases i with
    | zero => simp at h
    | succ i =>
      obtain ⟨o, h1, h2, h3⟩ := ih i o' (by simpa using h)
      exact ⟨o, by simpa using h1, h2, by omega⟩
  | obj h hp k ih =>
    intro i o' h'
    cases i with
    | zero => simp at h'; subst h'; exact ⟨_, rfl, h, by simpa using hp⟩
    | succ i =>
      obtain ⟨o, h1, h2, h3⟩ := ih i o' (by simpa using h')
      exact ⟨o, by simpa using h1, h2, by omega⟩
theorem VS.settle2 {K m : Nat} {fr : AFr} {L L0 : Store} {l : List (Nat × AV)} {o : AO} (q n : Nat) (hm : fr.n = m) (hK : K ≤ n) (hq : n ≤ L.length) (ho : L[q]? = some (some o)) (hu : o.upto n = true) (hl : L0.length = n) (hL : MvS q n 0 L L0) (h : MvL q n fr l) : VS K fr L ⟨m, l⟩ (L0 ++ [some o]) := fun w I ρ tmps h1 h2 => by
  have hql := (List.getElem?_eq_some_iff.1 ho).1
  have hlen := h1.len
  obtain ⟨b, hb⟩ : ∃ b, ρ[q]? = some b := ⟨_, List.getElem?_eq_getElem (by omega)⟩
  have hnl : n ≤ ρ.length := by omega
  have hle : Le w I (ρ.take n) w I (ρ.take n ++ [b]) := ⟨fun _ _ => rfl, fun _ h => h, fun _ _ h => rho_app h, fun _ C _ h => ⟨C, h, rfl⟩⟩
  have cs : ∀ (p : Nat) (x : AO) (c : Nat), (L0 ++ [some o])[p]? = some (some x) → (ρ.take n ++ [b])[p]? = some c → (∃ x0, p ≠ q ∧ p < n ∧ L[p]? = some (some x0) ∧ ρ[p]? = some c ∧ MvO q n x0 x) ∨ (p = n ∧ x = o ∧ c = b) := by
    intro p x c h3 h4
    by_cases hp : p < n
    · rw [List.getElem?_append_left (by omega)] at h3
      rw [List.getElem?_append_left (by simp; omega), List.getElem?_take, if_pos hp] at h4
      obtain ⟨x0, q1, q2, q3⟩ := hL.get p x h3
      exact .inl ⟨x0, by omega, hp, q1, h4, q2⟩
    · have e2 : (ρ.take n).length = n := by simp; omega
      rw [List.getElem?_append_right (by omega), hl] at h3
      rw [List.getElem?_append_right (by omega), e2] at h4
      have : p - n = 0 := by
        have := (List.getElem?_eq_some_iff.1 h3).1
        simp at this
        omega
      rw [this] at h3 h4
      simp at h3 h4
      exact .inr ⟨by omega, h3.symm, h4.symm⟩
  refine ⟨I, ρ.take n ++ [b], fun _ h => h, fun _ h => .inl h, fun c ⟨p, x, h3, h4⟩ => ?_, fun p hp => ?_, ⟨by simp; omega, fun p x c h3 h4 => ?_, fun p p' x y c h3 h4 h5 h6 => ?_, h1.imm⟩, h2.1.trans hm, fun t => ?_⟩
  · rcases cs p x c h3 h4 with ⟨x0, _, _, q1, q2, _⟩ | ⟨rfl, rfl, rfl⟩
    · exact ⟨p, x0, q1, q2⟩
    · exact ⟨q, _, ho, hb⟩
  · rw [List.getElem?_append_left (by simp; omega), List.getElem?_take, if_pos (by omega)]
  · rcases cs p x c h3 h4 with ⟨x0, _, _, q1, q2, q3⟩ | ⟨rfl, rfl, rfl⟩
    · obtain ⟨a1, a2, a3⟩ := h1.own p x0 c q1 q2
      exact ⟨a1, a2, q3.rel hnl hb a3⟩
    · obtain ⟨a1, a2, a3⟩ := h1.own q _ c ho hb
      exact ⟨a1, a2, (a3.take p hu).mono hle rfl⟩
  · rcases cs p x c h3 h5 with ⟨x0, k0, k1, q1, q2, q3⟩ | ⟨rfl, rfl, rfl⟩ <;> rcases cs p' y c h4 h6 with ⟨y0, k0', k1', q1', q2', q3'⟩ | ⟨e1, e2, e3⟩
    · exact h1.inj p p' x0 y0 c q1 q1' q2 q2'
    · subst e3; exact absurd (h1.inj p q x0 o _ q1 ho q2 hb) k0
    · exact absurd (h1.inj p' q y0 _ _ q1' ho q2' hb) k0'
    · omega
  · rcases h.get t with e | e
    · show Rep w I _ _ (agetL l t); rw [e]; exact .any _
    · exact e.rep hnl hb (h2.2 t)
theorem VSV.settle2 {K : Nat} {v v' : AV} {L L0 : Store} {o : AO} (q n : Nat) (hK : K ≤ n) (hq : n ≤ L.length) (ho : L[q]? = some (some o)) (hu : o.upto n = true) (hl : L0.length = n) (hL : MvS q n 0 L L0) (h : Mv q n v v') : VSV K v L v' (L0 ++ [some o]) :=
  VS.settle2 q n rfl hK hq ho hu hl hL (.cons (by simpa [aget, agetL] using h) .nil)
end Go.Proofs.Ytpjibokaeefhiaa.Tw
