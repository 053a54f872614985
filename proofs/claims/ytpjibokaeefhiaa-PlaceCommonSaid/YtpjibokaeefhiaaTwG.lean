import Derived.Test.YtpjibokaeefhiaaTwF
/-! What making and writing does to the objects. -/
namespace Go.Proofs.Ytpjibokaeefhiaa.Tw
open Go.RowKit
set_option linter.unusedVariables false
set_option linter.unusedSimpArgs false
structure Push (w w' : World) (o : Obj) : Prop where
  heap : w'.heap = w.heap.push o
  os : w'.os = w.os
  tape : w'.tape = w.tape
  output : w'.output = w.output
theorem Push.lt {w w' : World} {o : Obj} (h : Push w w' o) {k : Nat} (hk : k < w.heap.size) : w'.heap[k]? = w.heap[k]? := by
  rw [h.heap, Array.getElem?_push]; rw [if_neg (by omega)]
theorem Push.new {w w' : World} {o : Obj} (h : Push w w' o) : w'.heap[w.heap.size]? = some o := by rw [h.heap]; simp
theorem Push.size {w w' : World} {o : Obj} (h : Push w w' o) : w'.heap.size = w.heap.size + 1 := by rw [h.heap]; simp
theorem push_alloc (w : World) (o : Obj) : Push w (w.alloc o) o := ⟨rfl, rfl, rfl, rfl⟩
theorem push_drew (w : World) (o : Obj) : Push w (w.drew.alloc o) o := ⟨rfl, rfl, rfl, rfl⟩
theorem ObjRel.mono {w w' : World} {I I' : Nat → Prop} {ρ ρ' : List Nat} (L : Le w I ρ w' I' ρ') {b : Nat} {o : AO} (hb : w'.heap[b]? = w.heap[b]?) (h : ObjRel w I ρ b o) : ObjRel w' I' ρ' b o := by
  cases o with
  | arr wd els =>
    obtain ⟨C, t, h1, h2, h3⟩ := h
    exact ⟨C, t, hb.trans h1, h2, fun i e he => ⟨(h3 i e he).1, fun j c hc => let ⟨v, h4, h5⟩ := (h3 i e he).2 j c hc; ⟨v, h4, h5.mono L⟩⟩⟩
  | box wd e =>
    obtain ⟨C, t, h1, h2, h3⟩ := h
    exact ⟨C, t, hb.trans h1, h2, fun i e he => ⟨(h3 i e he).1, fun j c hc => let ⟨v, h4, h5⟩ := (h3 i e he).2 j c hc; ⟨v, h4, h5.mono L⟩⟩⟩
  | mp es =>
    obtain ⟨E, k, h1, h2, h3⟩ := h
    exact ⟨E, k, hb.trans h1, h2, fun i x e hx he => ⟨(h3 i x e hx he).1.mono L, (h3 i x e hx he).2.mono L⟩⟩
  | loop st pend n l ps as bd =>
    obtain ⟨fn, tmps, D, h1, h2, h3⟩ := h
    exact ⟨fn, tmps, D, hb.trans h1, h2, fun t => (h3 t).mono L⟩
theorem ObjRel.shut {w w' : World} (L : Shut w w') {I : Nat → Prop} {ρ : List Nat} {b : Nat} {o : AO} (h : ObjRel w I ρ b o) : ObjRel w' I ρ b o := by
  cases o with
  | arr wd els =>
    obtain ⟨C, t, h1, h2, h3⟩ := h
    exact ⟨C, t, L.keep b _ h1 (by simp), h2, fun i e he => ⟨(h3 i e he).1, fun j c hc => let ⟨v, h4, h5⟩ := (h3 i e he).2 j c hc; ⟨v, h4, h5.shut L⟩⟩⟩
  | box wd e =>
    obtain ⟨C, t, h1, h2, h3⟩ := h
    exact ⟨C, t, L.keep b _ h1 (by simp), h2, fun i e he => ⟨(h3 i e he).1, fun j c hc => let ⟨v, h4, h5⟩ := (h3 i e he).2 j c hc; ⟨v, h4, h5.shut L⟩⟩⟩
  | mp es =>
    obtain ⟨E, k, h1, h2, h3⟩ := h
    exact ⟨E, k, L.keep b _ h1 (by simp), h2, fun i x e hx he => ⟨(h3 i x e hx he).1.shut L, (h3 i x e hx he).2.shut L⟩⟩
  | loop st pend n l ps as bd =>
    obtain ⟨fn, tmps, D, h1, h2, h3⟩ := h
    exact ⟨fn, tmps, D, L.keep b _ h1 (by simp), h2, fun t => (h3 t).shut L⟩
theorem Rel.shut {w w' : World} (S : Shut w w') {I : Nat → Prop} {ρ : List Nat} {L : Store} (h : Rel w I ρ L) : Rel w' I ρ L :=
  ⟨h.len, fun p o b h1 h2 => let ⟨a1, a2, a3⟩ := h.own p o b h1 h2; ⟨by rw [S.size]; exact a1, a2, a3.shut S⟩, h.inj, fun b hb => by rw [S.size]; exact h.imm b hb⟩
theorem rho_app {ρ : List Nat} {b p c : Nat} (h : ρ[p]? = some c) : (ρ ++ [b])[p]? = some c := by
  rw [List.getElem?_append_left (List.getElem?_eq_some_iff.1 h).1]; exact h
theorem push_le {w w' : World} {I I' : Nat → Prop} {ρ ρ' : List Nat} {L : Store} {o : Obj} (hr : Rel w I ρ L) (hp : Push w w' o) (hI : ∀ b, I b → I' b) (hρ : ∀ (p b : Nat), ρ[p]? = some b → ρ'[p]? = some b) : Le w I ρ w' I' ρ' :=
  ⟨fun b hb => hp.lt (hr.imm b hb), hI, hρ, fun b C t h => ⟨C, (hp.lt (Array.getElem?_eq_some_iff.1 h).1).trans h, rfl⟩⟩
theorem alloc_obj {K : Nat} {w w' : World} {I : Nat → Prop} {ρ : List Nat} {L : Store} {ob : Obj} {o : AO} (hr : Rel w I ρ L) (hp : Push w w' ob) (hK : K ≤ L.length)
    (ho : Le w I ρ w' I (ρ ++ [w.heap.size]) → ObjRel w' I (ρ ++ [w.heap.size]) w.heap.size o) :
    Rel w' I (ρ ++ [w.heap.size]) (L ++ [some o]) ∧ Le w I ρ w' I (ρ ++ [w.heap.size]) ∧ Ev K w I ρ L w' I (ρ ++ [w.heap.size]) (L ++ [some o]) := by
  have hle := push_le hr hp (fun _ h => h) (fun p b h => rho_app (b := w.heap.size) h)
  have hlen := hr.len
  have cases_ : ∀ (p : Nat) (x : AO) (b : Nat), (L ++ [some o])[p]? = some (some x) → (ρ ++ [w.heap.size])[p]? = some b → (L[p]? = some (some x) ∧ ρ[p]? = some b ∧ p < L.length) ∨ (p = L.length ∧ x = o ∧ b = w.heap.size) := by
    intro p x b h1 h2
    by_cases hlt : p < L.length
    · rw [List.getElem?_append_left hlt] at h1
      rw [List.getElem?_append_left (by omega)] at h2
      exact .inl ⟨h1, h2, hlt⟩
    · rw [List.getElem?_append_right (by omega)] at h1
      rw [List.getElem?_append_right (by omega)] at h2
      have : p - L.length = 0 := by
        have := (List.getElem?_eq_some_iff.1 h1).1
        simp at this
        omega
      rw [this] at h1
      rw [hlen, this] at h2
      simp at h1 h2
      exact .inr ⟨by omega, h1.symm, h2.symm⟩
  refine ⟨⟨by simp [hlen], fun p x b h1 h2 => ?_, fun p q x y b h1 h2 h3 h4 => ?_, fun b hb => by have := hr.imm b hb; have := hp.size; omega⟩, hle,
    ⟨hp.os, hp.tape, hp.output, by have := hp.size; omega, fun b hb _ => hp.lt hb, fun _ h => h, fun _ h => .inl h, fun b ⟨p, x, h1, h2⟩ => ?_, hle.size, fun p hp' => ?_⟩⟩
  · rcases cases_ p x b h1 h2 with ⟨h1, h2, _⟩ | ⟨rfl, rfl, rfl⟩
    · obtain ⟨a1, a2, a3⟩ := hr.own p x b h1 h2
      exact ⟨by have := hp.size; omega, a2, a3.mono hle (hp.lt a1)⟩
    · exact ⟨by have := hp.size; omega, fun h => by have := hr.imm _ h; omega, ho hle⟩
  · rcases cases_ p x b h1 h3 with ⟨k1, k3, _⟩ | ⟨rfl, rfl, rfl⟩ <;> rcases cases_ q y _ h2 h4 with ⟨k2, k4, _⟩ | ⟨rfl, rfl, e⟩
    · exact hr.inj p q x y b k1 k2 k3 k4
    · have := (hr.own p x b k1 k3).1; omega
    · have := (hr.own q y _ k2 k4).1; omega
    · rfl
  · rcases cases_ p x b h1 h2 with ⟨h1, h2, _⟩ | ⟨rfl, rfl, rfl⟩
    · exact .inl ⟨p, x, h1, h2⟩
    · exact .inr (Nat.le_refl _)
  · exact List.getElem?_append_left (by omega)
theorem alloc_imm {K : Nat} {w w' : World} {I : Nat → Prop} {ρ : List Nat} {L : Store} {ob : Obj} (hr : Rel w I ρ L) (hp : Push w w' ob) :
    Rel w' (fun b => I b ∨ b = w.heap.size) ρ L ∧ Le w I ρ w' (fun b => I b ∨ b = w.heap.size) ρ ∧ Ev K w I ρ L w' (fun b => I b ∨ b = w.heap.size) ρ L := by
  have hle := push_le (I' := fun b => I b ∨ b = w.heap.size) (ρ' := ρ) hr hp (fun _ h => Or.inl h) (fun p b h => h)
  refine ⟨⟨hr.len, fun p x b h1 h2 => ?_, hr.inj, fun b hb => ?_⟩, hle, ⟨hp.os, hp.tape, hp.output, by have := hp.size; omega, fun b hb _ => hp.lt hb, fun _ h => .inl h, fun b h => ?_, fun b h => .inl h, hle.size, fun _ _ => rfl⟩⟩
  · obtain ⟨a1, a2, a3⟩ := hr.own p x b h1 h2
    exact ⟨by have := hp.size; omega, fun h => by rcases h with h | h; exact a2 h; omega, a3.mono hle (hp.lt a1)⟩
  · rcases hb with hb | rfl
    · have := hr.imm b hb; have := hp.size; omega
    · have := hp.size; omega
  · rcases h with h | rfl
    · exact .inl h
    · exact .inr (.inl (Nat.le_refl _))
theorem set_none {L : Store} {p q : Nat} {o : AO} (h : (L.set p none)[q]? = some (some o)) : L[q]? = some (some o) ∧ q ≠ p := by
  rw [List.getElem?_set] at h
  split at h
  · split at h <;> cases h
  · rename_i e; exact ⟨h, fun h => e h.symm⟩
theorem Rel.kill {w : World} {I : Nat → Prop} {ρ : List Nat} {L : Store} (hr : Rel w I ρ L) (p : Nat) : Rel w I ρ (L.set p none) :=
  ⟨by simp [hr.len], fun q x b h1 h2 => hr.own q x b (set_none h1).1 h2, fun q q' x y b h1 h2 h3 h4 => hr.inj q q' x y b (set_none h1).1 (set_none h2).1 h3 h4, hr.imm⟩
theorem Owned.of_kill {ρ : List Nat} {L : Store} {p b : Nat} (h : Owned ρ (L.set p none) b) : Owned ρ L b := let ⟨q, o, h1, h2⟩ := h; ⟨q, o, (set_none h1).1, h2⟩
theorem Ev.kill {K : Nat} {w : World} {I : Nat → Prop} {ρ : List Nat} {L : Store} (p : Nat) : Ev K w I ρ L w I ρ (L.set p none) :=
  VS.ev (fun _ h => h) (fun _ h => .inl h) (fun _ h => h.of_kill) (fun _ _ => rfl)
structure Chg (w w' : World) (b : Nat) : Prop where
  os : w'.os = w.os
  tape : w'.tape = w.tape
  output : w'.output = w.output
  size : w'.heap.size = w.heap.size
  other : ∀ k, k ≠ b → w'.heap[k]? = w.heap[k]?
  cells : ∀ (C : Array Value) (t : TypeId), w.heap[b]? = some (Obj.cells C t (0, 0)) → ∃ C' : Array Value, w'.heap[b]? = some (Obj.cells C' t (0, 0)) ∧ C'.size = C.size
theorem chg_setRow {w : World} {b : Nat} {C C' : Array Value} {t : TypeId} (h : w.heap[b]? = some (Obj.cells C t (0, 0))) (hs : C'.size = C.size) : Chg w (w.setRow b C') b :=
  ⟨rfl, rfl, rfl, by simp, fun k hk => setRow_other w b k C' hk, fun C1 t1 h1 => by rw [h] at h1; cases h1; exact ⟨C', setRow_heap w b C C' t _ h, hs⟩⟩
theorem chg_le {w w' : World} {I : Nat → Prop} {ρ ρ' : List Nat} {b : Nat} (hc : Chg w w' b) (hI : ¬ I b) (hρ : ∀ (p c : Nat), ρ[p]? = some c → ρ'[p]? = some c) : Le w I ρ w' I ρ' :=
  ⟨fun k hk => hc.other k (fun e => hI (e ▸ hk)), fun _ h => h, hρ, fun k C t h => by
    by_cases e : k = b
    · subst e; exact hc.cells C t h
    · exact ⟨C, (hc.other k e).trans h, rfl⟩⟩
theorem chg_loop {w : World} {b : Nat} {r r' : Loop} (h : w.heap[b]? = some (.loop r)) : Chg w (w.putObj b (.loop r')) b :=
  ⟨rfl, rfl, rfl, by simp, fun k hk => World.putObj_heap_other hk, fun C t h1 => by rw [h] at h1; cases h1⟩
theorem write_obj {K : Nat} {w w' : World} {I : Nat → Prop} {ρ : List Nat} {L : Store} {p b : Nat} {o o' : AO} (hr : Rel w I ρ L) (hp : L[p]? = some (some o)) (hb : ρ[p]? = some b) (hc : Chg w w' b)
    (ho : Le w I ρ w' I ρ → ObjRel w' I ρ b o') : Rel w' I ρ (L.set p (some o')) ∧ Le w I ρ w' I ρ ∧ Ev K w I ρ L w' I ρ (L.set p (some o')) := by
  obtain ⟨a1, a2, a3⟩ := hr.own p o b hp hb
  have hle := chg_le (I := I) (ρ := ρ) (ρ' := ρ) hc a2 (fun _ _ h => h)
  have hlt := (List.getElem?_eq_some_iff.1 hp).1
  have cs : ∀ (q : Nat) (x : AO), (L.set p (some o'))[q]? = some (some x) → (q = p ∧ x = o') ∨ (q ≠ p ∧ L[q]? = some (some x)) := by
    intro q x h
    rw [List.getElem?_set] at h
    split at h
    · rename_i e
      simp [hlt] at h
      exact .inl ⟨e.symm, h.symm⟩
    · rename_i e; exact .inr ⟨fun h => e h.symm, h⟩
  refine ⟨⟨by simp [hr.len], fun q x c h1 h2 => ?_, fun q q' x y c h1 h2 h3 h4 => ?_, fun c hc' => by rw [hc.size]; exact hr.imm c hc'⟩, hle,
    ⟨hc.os, hc.tape, hc.output, by rw [hc.size]; exact Nat.le_refl _, fun c h1 h2 => hc.other c (fun e => h2 ⟨p, o, hp, e ▸ hb⟩), fun _ h => h, fun _ h => .inl h, fun c ⟨q, x, h1, h2⟩ => ?_, hle.size, fun _ _ => rfl⟩⟩
  · rcases cs q x h1 with ⟨rfl, rfl⟩ | ⟨hne, h1⟩
    · rw [hb] at h2; cases h2
      exact ⟨by rw [hc.size]; exact a1, a2, ho hle⟩
    · obtain ⟨b1, b2, b3⟩ := hr.own q x c h1 h2
      exact ⟨by rw [hc.size]; exact b1, b2, b3.mono hle (hc.other c (fun e => by subst e; exact hne (hr.inj q p x o _ h1 hp h2 hb)))⟩
  · rcases cs q x h1 with ⟨rfl, rfl⟩ | ⟨hne, k1⟩ <;> rcases cs q' y h2 with ⟨rfl, rfl⟩ | ⟨hne', k2⟩
    · rfl
    · exact absurd (hr.inj q' q y o c k2 hp h4 h3) hne'
    · exact absurd (hr.inj q q' x o c k1 hp h3 h4) hne
    · exact hr.inj q q' x y c k1 k2 h3 h4
  · rcases cs q x h1 with ⟨rfl, rfl⟩ | ⟨hne, h1⟩
    · exact .inl ⟨q, o, hp, h2⟩
    · exact .inl ⟨q, x, h1, h2⟩
/-- An object goes over into a new one in the same block. -/
theorem move_obj {K : Nat} {w w' : World} {I : Nat → Prop} {ρ : List Nat} {L : Store} {p b : Nat} {o o' : AO} (hr : Rel w I ρ L) (hp : L[p]? = some (some o)) (hb : ρ[p]? = some b) (hc : Chg w w' b) (hK : K ≤ L.length)
    (ho : Le w I ρ w' I (ρ ++ [b]) → ObjRel w' I (ρ ++ [b]) b o') :
    Rel w' I (ρ ++ [b]) (L.set p none ++ [some o']) ∧ Le w I ρ w' I (ρ ++ [b]) ∧ Ev K w I ρ L w' I (ρ ++ [b]) (L.set p none ++ [some o']) := by
  obtain ⟨a1, a2, a3⟩ := hr.own p o b hp hb
  have hle := chg_le (I := I) (ρ := ρ) (ρ' := ρ ++ [b]) hc a2 (fun _ _ h => rho_app h)
  have hlen := hr.len
  have cs : ∀ (q : Nat) (x : AO) (c : Nat), (L.set p none ++ [some o'])[q]? = some (some x) → (ρ ++ [b])[q]? = some c → (L[q]? = some (some x) ∧ ρ[q]? = some c ∧ q ≠ p ∧ q < L.length) ∨ (q = L.length ∧ x = o' ∧ c = b) := by
    intro q x c h1 h2
    by_cases hlt : q < L.length
    · rw [List.getElem?_append_left (by simpa using hlt)] at h1
      rw [List.getElem?_append_left (by omega)] at h2
      obtain ⟨h1, hne⟩ := set_none h1
      exact .inl ⟨h1, h2, hne, hlt⟩
    · rw [List.getElem?_append_right (by simp; omega)] at h1
      rw [List.getElem?_append_right (by omega)] at h2
      have : q - L.length = 0 := by
        have := (List.getElem?_eq_some_iff.1 h1).1
        simp at this
        omega
      rw [List.length_set, this] at h1
      rw [hlen, this] at h2
      simp at h1 h2
      exact .inr ⟨by omega, h1.symm, h2.symm⟩
  refine ⟨⟨by simp [hlen], fun q x c h1 h2 => ?_, fun q q' x y c h1 h2 h3 h4 => ?_, fun c hc' => by rw [hc.size]; exact hr.imm c hc'⟩, hle,
    ⟨hc.os, hc.tape, hc.output, by rw [hc.size]; exact Nat.le_refl _, fun c h1 h2 => hc.other c (fun e => h2 ⟨p, o, hp, e ▸ hb⟩), fun _ h => h, fun _ h => .inl h, fun c ⟨q, x, h1, h2⟩ => ?_, hle.size, fun q hq => List.getElem?_append_left (by omega)⟩⟩
  · rcases cs q x c h1 h2 with ⟨k1, k2, hne, _⟩ | ⟨rfl, rfl, rfl⟩
    · obtain ⟨b1, b2, b3⟩ := hr.own q x c k1 k2
      exact ⟨by rw [hc.size]; exact b1, b2, b3.mono hle (hc.other c (fun e => by subst e; exact hne (hr.inj q p x o _ k1 hp k2 hb)))⟩
    · exact ⟨by rw [hc.size]; exact a1, a2, ho hle⟩
  · rcases cs q x c h1 h3 with ⟨k1, k3, hne, _⟩ | ⟨rfl, rfl, rfl⟩ <;> rcases cs q' y _ h2 h4 with ⟨k2, k4, hne', _⟩ | ⟨rfl, rfl, e⟩
    · exact hr.inj q q' x y c k1 k2 k3 k4
    · exact absurd (hr.inj q p x o c k1 hp k3 (by rw [e]; exact hb)) hne
    · exact absurd (hr.inj q' p y o _ k2 hp k4 hb) hne'
    · rfl
  · rcases cs q x c h1 h2 with ⟨h1, h2, _, _⟩ | ⟨rfl, rfl, rfl⟩
    · exact .inl ⟨q, x, h1, h2⟩
    · exact .inl ⟨p, o, hp, hb⟩
end Go.Proofs.Ytpjibokaeefhiaa.Tw
