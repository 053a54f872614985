import Derived.Test.YtaieiigfheabfaaTw1
import Derived.ArgAppend
import Derived.Laws.MakeOwn
import Derived.Deep.AppendSrc
/-! What making and writing does to the objects. -/
namespace Go.Proofs.Ytaieiigfheabfaa.Tw
open Go.RowKit
set_option linter.unusedVariables false
set_option linter.unusedSimpArgs false
structure Push (w w' : World) (o : Obj) : Prop where
  heap : w'.heap = w.heap.push o
  os : w'.os = w.os
  tape : w'.tape = w.tape
  output : w'.output = w.output
theorem Push.lt {w w' : World} {o : Obj} (h : Push w w' o) {k : Nat} (hk : k < w.heap.size) : w'.heap[k]? = w.heap[k]? := by
  rw [h.heap, Array.getElem?_push]; rw [if_neg (by omega)]
theorem Push.new {w w' : World} {o : Obj} (h : Push w w' o) : w'.heap[w.heap.size]? = some o := by rw [h.heap]; simp
theorem Push.size {w w' : World} {o : Obj} (h : Push w w' o) : w'.heap.size = w.heap.size + 1 := by rw [h.heap]; simp
theorem push_alloc (w : World) (o : Obj) : Push w (w.alloc o) o := ⟨rfl, rfl, rfl, rfl⟩
theorem push_drew (w : World) (o : Obj) : Push w (w.drew.alloc o) o := ⟨rfl, rfl, rfl, rfl⟩
theorem ObjRel.mono {w w' : World} {I I' : Nat → Prop} {ρ ρ' : List Nat} (L : Le w I ρ w' I' ρ') {b : Nat} {o : AO} (hb : w'.heap[b]? = w.heap[b]?) (h : ObjRel w I ρ b o) : ObjRel w' I' ρ' b o := by
  cases o with
  | arr wd els =>
    obtain ⟨C, t, h1, h2, h3⟩ := h
    exact ⟨C, t, hb.trans h1, h2, fun i e he => ⟨(h3 i e he).1, fun j c hc => let ⟨v, h4, h5⟩ := (h3 i e he).2 j c hc; ⟨v, h4, h5.mono L⟩⟩⟩
  | box wd e =>
    obtain ⟨C, t, h1, h2, h3⟩ := h
    exact ⟨C, t, hb.trans h1, h2, fun i e he => ⟨(h3 i e he).1, fun j c hc => let ⟨v, h4, h5⟩ := (h3 i e he).2 j c hc; ⟨v, h4, h5.mono L⟩⟩⟩
  | mp c es =>
    obtain ⟨E, h1, h2, h3⟩ := h
    exact ⟨E, hb.trans h1, h2, fun i x e hx he => ⟨(h3 i x e hx he).1, (h3 i x e hx he).2.1.mono L, (h3 i x e hx he).2.2.mono L⟩⟩
  | it p since seen last =>
    obtain ⟨m, h1, h2⟩ := h
    exact ⟨m, L.rho _ _ h1, hb.trans h2⟩
  | loop st pend n l ps as bd =>
    obtain ⟨fn, tmps, D, h1, h2, h3⟩ := h
    exact ⟨fn, tmps, D, hb.trans h1, h2, fun t => (h3 t).mono L⟩
theorem ObjRel.shut {w w' : World} (L : Shut w w') {I : Nat → Prop} {ρ : List Nat} {b : Nat} {o : AO} (h : ObjRel w I ρ b o) : ObjRel w' I ρ b o := by
  cases o with
  | arr wd els =>
    obtain ⟨C, t, h1, h2, h3⟩ := h
    exact ⟨C, t, L.keep b _ h1 (by simp), h2, fun i e he => ⟨(h3 i e he).1, fun j c hc => let ⟨v, h4, h5⟩ := (h3 i e he).2 j c hc; ⟨v, h4, h5.shut L⟩⟩⟩
  | box wd e =>
    obtain ⟨C, t, h1, h2, h3⟩ := h
    exact ⟨C, t, L.keep b _ h1 (by simp), h2, fun i e he => ⟨(h3 i e he).1, fun j c hc => let ⟨v, h4, h5⟩ := (h3 i e he).2 j c hc; ⟨v, h4, h5.shut L⟩⟩⟩
  | mp c es =>
    obtain ⟨E, h1, h2, h3⟩ := h
    exact ⟨E, L.keep b _ h1 (by simp), h2, fun i x e hx he => ⟨(h3 i x e hx he).1, (h3 i x e hx he).2.1.shut L, (h3 i x e hx he).2.2.shut L⟩⟩
  | it p since seen last =>
    obtain ⟨m, h1, h2⟩ := h
    exact ⟨m, h1, L.keep b _ h2 (by simp)⟩
  | loop st pend n l ps as bd =>
    obtain ⟨fn, tmps, D, h1, h2, h3⟩ := h
    exact ⟨fn, tmps, D, L.keep b _ h1 (by simp), h2, fun t => (h3 t).shut L⟩
theorem Rel.shut {w w' : World} (S : Shut w w') {I : Nat → Prop} {ρ : List Nat} {L : Store} (h : Rel w I ρ L) : Rel w' I ρ L :=
  ⟨h.len, fun p o b h1 h2 => let ⟨a1, a2, a3⟩ := h.own p o b h1 h2; ⟨by rw [S.size]; exact a1, a2, a3.shut S⟩, h.inj, fun b hb => by rw [S.size]; exact h.imm b hb⟩
theorem rho_app {ρ : List Nat} {b p c : Nat} (h : ρ[p]? = some c) : (ρ ++ [b])[p]? = some c := by
  rw [List.getElem?_append_left (List.getElem?_eq_some_iff.1 h).1]; exact h
theorem push_le {w w' : World} {I I' : Nat → Prop} {ρ ρ' : List Nat} {L : Store} {o : Obj} (hr : Rel w I ρ L) (hp : Push w w' o) (hI : ∀ b, I b → I' b) (hρ : ∀ (p b : Nat), ρ[p]? = some b → ρ'[p]? = some b) : Le w I ρ w' I' ρ' :=
  ⟨fun b hb => hp.lt (hr.imm b hb), hI, hρ, fun b C t h => ⟨C, (hp.lt (Array.getElem?_eq_some_iff.1 h).1).trans h, rfl⟩⟩
theorem alloc_obj {K : Nat} {w w' : World} {I : Nat → Prop} {ρ : List Nat} {L : Store} {ob : Obj} {o : AO} (hr : Rel w I ρ L) (hp : Push w w' ob) (hK : K ≤ L.length)
    (ho : Le w I ρ w' I (ρ ++ [w.heap.size]) → ObjRel w' I (ρ ++ [w.heap.size]) w.heap.size o) :
    Rel w' I (ρ ++ [w.heap.size]) (L ++ [some o]) ∧ Le w I ρ w' I (ρ ++ [w.heap.size]) ∧ Ev K w I ρ L w' I (ρ ++ [w.heap.size]) (L ++ [some o]) := by
  have hle := push_le hr hp (fun _ h => h) (fun p b h => rho_app (b := w.heap.size) h)
  have hlen := hr.len
  have cases_ : ∀ (p : Nat) (x : AO) (b : Nat), (L ++ [some o])[p]? = some (some x) → (ρ ++ [w.heap.size])[p]? = some b → (L[p]? = some (some x) ∧ ρ[p]? = some b ∧ p < L.length) ∨ (p = L.length ∧ x = o ∧ b = w.heap.size) := by
    intro p x b h1 h2
    by_cases hlt : p < L.length
    · rw [List.getElem?_append_left hlt] at h1
      rw [List.getElem?_append_left (by omega)] at h2
      exact .inl ⟨h1, h2, hlt⟩
    · rw [List.getElem?_append_right (by omega)] at h1
      rw [List.getElem?_append_right (by omega)] at h2
      have : p - L.length = 0 := by
        have := (List.getElem?_eq_some_iff.1 h1).1
        simp at this
        omega
      rw [this] at h1
      rw [hlen, this] at h2
      simp at h1 h2
      exact .inr ⟨by omega, h1.symm, h2.symm⟩
  refine ⟨⟨by simp [hlen], fun p x b h1 h2 => ?_, fun p q x y b h1 h2 h3 h4 => ?_, fun b hb => by have := hr.imm b hb; have := hp.size; omega⟩, hle,
    ⟨hp.os, hp.tape, hp.output, by have := hp.size; omega, fun b hb _ => hp.lt hb, fun _ h => h, fun _ h => .inl h, fun b ⟨p, x, h1, h2⟩ => ?_, hle.size, fun p hp' => ?_⟩⟩
  · rcases cases_ p x b h1 h2 with ⟨h1, h2, _⟩ | ⟨rfl, rfl, rfl⟩
    · obtain ⟨a1, a2, a3⟩ := hr.own p x b h1 h2
      exact ⟨by have := hp.size; omega, a2, a3.mono hle (hp.lt a1)⟩
    · exact ⟨by have := hp.size; omega, fun h => by have := hr.imm _ h; omega, ho hle⟩
  · rcases cases_ p x b h1 h3 with ⟨k1, k3, _⟩ | ⟨rfl, rfl, rfl⟩ <;> rcases cases_ q y _ h2 h4 with ⟨k2, k4, _⟩ | ⟨rfl, rfl, e⟩
    · exact hr.inj p q x y b k1 k2 k3 k4
    · have := (hr.own p x b k1 k3).1; omega
    · have := (hr.own q y _ k2 k4).1; omega
    · rfl
  · rcases cases_ p x b h1 h2 with ⟨h1, h2, _⟩ | ⟨rfl, rfl, rfl⟩
    · exact .inl ⟨p, x, h1, h2⟩
    · exact .inr (Nat.le_refl _)
  · exact List.getElem?_append_left (by omega)
theorem alloc_imm {K : Nat} {w w' : World} {I : Nat → Prop} {ρ : List Nat} {L : Store} {ob : Obj} (hr : Rel w I ρ L) (hp : Push w w' ob) :
    Rel w' (fun b => I b ∨ b = w.heap.size) ρ L ∧ Le w I ρ w' (fun b => I b ∨ b = w.heap.size) ρ ∧ Ev K w I ρ L w' (fun b => I b ∨ b = w.heap.size) ρ L := by
  have hle := push_le (I' := fun b => I b ∨ b = w.heap.size) (ρ' := ρ) hr hp (fun _ h => Or.inl h) (fun p b h => h)
  refine ⟨⟨hr.len, fun p x b h1 h2 => ?_, hr.inj, fun b hb => ?_⟩, hle, ⟨hp.os, hp.tape, hp.output, by have := hp.size; omega, fun b hb _ => hp.lt hb, fun _ h => .inl h, fun b h => ?_, fun b h => .inl h, hle.size, fun _ _ => rfl⟩⟩
  · obtain ⟨a1, a2, a3⟩ := hr.own p x b h1 h2
    exact ⟨by have := hp.size; omega, fun h => by rcases h with h | h; exact a2 h; omega, a3.mono hle (hp.lt a1)⟩
  · rcases hb with hb | rfl
    · have := hr.imm b hb; have := hp.size; omega
    · have := hp.size; omega
  · rcases h with h | rfl
    · exact .inl h
    · exact .inr (.inl (Nat.le_refl _))
theorem set_none {L : Store} {p q : Nat} {o : AO} (h : (L.set p none)[q]? = some (some o)) : L[q]? = some (some o) ∧ q ≠ p := by
  rw [List.getElem?_set] at h
  split at h
  · split at h <;> cases h
  · rename_i e; exact ⟨h, fun h => e h.symm⟩
theorem Rel.kill {w : World} {I : Nat → Prop} {ρ : List Nat} {L : Store} (hr : Rel w I ρ L) (p : Nat) : Rel w I ρ (L.set p none) :=
  ⟨by simp [hr.len], fun q x b h1 h2 => hr.own q x b (set_none h1).1 h2, fun q q' x y b h1 h2 h3 h4 => hr.inj q q' x y b (set_none h1).1 (set_none h2).1 h3 h4, hr.imm⟩
theorem Owned.of_kill {ρ : List Nat} {L : Store} {p b : Nat} (h : Owned ρ (L.set p none) b) : Owned ρ L b := let ⟨q, o, h1, h2⟩ := h; ⟨q, o, (set_none h1).1, h2⟩
theorem Ev.kill {K : Nat} {w : World} {I : Nat → Prop} {ρ : List Nat} {L : Store} (p : Nat) : Ev K w I ρ L w I ρ (L.set p none) :=
  VS.ev (fun _ h => h) (fun _ h => .inl h) (fun _ h => h.of_kill) (fun _ _ => rfl)
structure Chg (w w' : World) (b : Nat) : Prop where
  os : w'.os = w.os
  tape : w'.tape = w.tape
  output : w'.output = w.output
  size : w'.heap.size = w.heap.size
  other : ∀ k, k ≠ b → w'.heap[k]? = w.heap[k]?
  cells : ∀ (C : Array Value) (t : TypeId), w.heap[b]? = some (Obj.cells C t (0, 0)) → ∃ C' : Array Value, w'.heap[b]? = some (Obj.cells C' t (0, 0)) ∧ C'.size = C.size
theorem chg_setRow {w : World} {b : Nat} {C C' : Array Value} {t : TypeId} (h : w.heap[b]? = some (Obj.cells C t (0, 0))) (hs : C'.size = C.size) : Chg w (w.setRow b C') b :=
  ⟨rfl, rfl, rfl, by simp, fun k hk => setRow_other w b k C' hk, fun C1 t1 h1 => by rw [h] at h1; cases h1; exact ⟨C', setRow_heap w b C C' t _ h, hs⟩⟩
theorem chg_le {w w' : World} {I : Nat → Prop} {ρ ρ' : List Nat} {b : Nat} (hc : Chg w w' b) (hI : ¬ I b) (hρ : ∀ (p c : Nat), ρ[p]? = some c → ρ'[p]? = some c) : Le w I ρ w' I ρ' :=
  ⟨fun k hk => hc.other k (fun e => hI (e ▸ hk)), fun _ h => h, hρ, fun k C t h => by
    by_cases e : k = b
    · subst e; exact hc.cells C t h
    · exact ⟨C, (hc.other k e).trans h, rfl⟩⟩
theorem chg_loop {w : World} {b : Nat} {r r' : Loop} (h : w.heap[b]? = some (.loop r)) : Chg w (w.putObj b (.loop r')) b :=
  ⟨rfl, rfl, rfl, by simp, fun k hk => World.putObj_heap_other hk, fun C t h1 => by rw [h] at h1; cases h1⟩
theorem write_obj {K : Nat} {w w' : World} {I : Nat → Prop} {ρ : List Nat} {L : Store} {p b : Nat} {o o' : AO} (hr : Rel w I ρ L) (hp : L[p]? = some (some o)) (hb : ρ[p]? = some b) (hc : Chg w w' b)
    (ho : Le w I ρ w' I ρ → ObjRel w' I ρ b o') : Rel w' I ρ (L.set p (some o')) ∧ Le w I ρ w' I ρ ∧ Ev K w I ρ L w' I ρ (L.set p (some o')) := by
  obtain ⟨a1, a2, a3⟩ := hr.own p o b hp hb
  have hle := chg_le (I := I) (ρ := ρ) (ρ' := ρ) hc a2 (fun _ _ h => h)
  have hlt := (List.getElem?_eq_some_iff.1 hp).1
  have cs : ∀ (q : Nat) (x : AO), (L.set p (some o'))[q]? = some (some x) → (q = p ∧ x = o') ∨ (q ≠ p ∧ L[q]? = some (some x)) := by
    intro q x h
    rw [List.getElem?_set] at h
    split at h
    · rename_i e
      simp [hlt] at h
      exact .inl ⟨e.symm, h.symm⟩
    · rename_i e; exact .inr ⟨fun h => e h.symm, h⟩
  refine ⟨⟨by simp [hr.len], fun q x c h1 h2 => ?_, fun q q' x y c h1 h2 h3 h4 => ?_, fun c hc' => by rw [hc.size]; exact hr.imm c hc'⟩, hle,
    ⟨hc.os, hc.tape, hc.output, by rw [hc.size]; exact Nat.le_refl _, fun c h1 h2 => hc.other c (fun e => h2 ⟨p, o, hp, e ▸ hb⟩), fun _ h => h, fun _ h => .inl h, fun c ⟨q, x, h1, h2⟩ => ?_, hle.size, fun _ _ => rfl⟩⟩
  · rcases cs q x h1 with ⟨rfl, rfl⟩ | ⟨hne, h1⟩
    · rw [hb] at h2; cases h2
      exact ⟨by rw [hc.size]; exact a1, a2, ho hle⟩
    · obtain ⟨b1, b2, b3⟩ := hr.own q x c h1 h2
      exact ⟨by rw [hc.size]; exact b1, b2, b3.mono hle (hc.other c (fun e => by subst e; exact hne (hr.inj q p x o _ h1 hp h2 hb)))⟩
  · rcases cs q x h1 with ⟨rfl, rfl⟩ | ⟨hne, k1⟩ <;> rcases cs q' y h2 with ⟨rfl, rfl⟩ | ⟨hne', k2⟩
    · rfl
    · exact absurd (hr.inj q' q y o c k2 hp h4 h3) hne'
    · exact absurd (hr.inj q q' x o c k1 hp h3 h4) hne
    · exact hr.inj q q' x y c k1 k2 h3 h4
  · rcases cs q x h1 with ⟨rfl, rfl⟩ | ⟨hne, h1⟩
    · exact .inl ⟨q, o, hp, h2⟩
    · exact .inl ⟨q, x, h1, h2⟩
/-- An object goes over into a new one in the same block. -/
theorem move_obj {K : Nat} {w w' : World} {I : Nat → Prop} {ρ : List Nat} {L : Store} {p b : Nat} {o o' : AO} (hr : Rel w I ρ L) (hp : L[p]? = some (some o)) (hb : ρ[p]? = some b) (hc : Chg w w' b) (hK : K ≤ L.length)
    (ho : Le w I ρ w' I (ρ ++ [b]) → ObjRel w' I (ρ ++ [b]) b o') :
    Rel w' I (ρ ++ [b]) (L.set p none ++ [some o']) ∧ Le w I ρ w' I (ρ ++ [b]) ∧ Ev K w I ρ L w' I (ρ ++ [b]) (L.set p none ++ [some o']) := by
  obtain ⟨a1, a2, a3⟩ := hr.own p o b hp hb
  have hle := chg_le (I := I) (ρ := ρ) (ρ' := ρ ++ [b]) hc a2 (fun _ _ h => rho_app h)
  have hlen := hr.len
  have cs : ∀ (q : Nat) (x : AO) (c : Nat), (L.set p none ++ [some o'])[q]? = some (some x) → (ρ ++ [b])[q]? = some c → (L[q]? = some (some x) ∧ ρ[q]? = some c ∧ q ≠ p ∧ q < L.length) ∨ (q = L.length ∧ x = o' ∧ c = b) := by
    intro q x c h1 h2
    by_cases hlt : q < L.length
    · rw [List.getElem?_append_left (by simpa using hlt)] at h1
      rw [List.getElem?_append_left (by omega)] at h2
      obtain ⟨h1, hne⟩ := set_none h1
      exact .inl ⟨h1, h2, hne, hlt⟩
    · rw [List.getElem?_append_right (by simp; omega)] at h1
      rw [List.getElem?_append_right (by omega)] at h2
      have : q - L.length = 0 := by
        have := (List.getElem?_eq_some_iff.1 h1).1
        simp at this
        omega
      rw [List.length_set, this] at h1
      rw [hlen, this] at h2
      simp at h1 h2
      exact .inr ⟨by omega, h1.symm, h2.symm⟩
  refine ⟨⟨by simp [hlen], fun q x c h1 h2 => ?_, fun q q' x y c h1 h2 h3 h4 => ?_, fun c hc' => by rw [hc.size]; exact hr.imm c hc'⟩, hle,
    ⟨hc.os, hc.tape, hc.output, by rw [hc.size]; exact Nat.le_refl _, fun c h1 h2 => hc.other c (fun e => h2 ⟨p, o, hp, e ▸ hb⟩), fun _ h => h, fun _ h => .inl h, fun c ⟨q, x, h1, h2⟩ => ?_, hle.size, fun q hq => List.getElem?_append_left (by omega)⟩⟩
  · rcases cs q x c h1 h2 with ⟨k1, k2, hne, _⟩ | ⟨rfl, rfl, rfl⟩
    · obtain ⟨b1, b2, b3⟩ := hr.own q x c k1 k2
      exact ⟨by rw [hc.size]; exact b1, b2, b3.mono hle (hc.other c (fun e => by subst e; exact hne (hr.inj q p x o _ k1 hp k2 hb)))⟩
    · exact ⟨by rw [hc.size]; exact a1, a2, ho hle⟩
  · rcases cs q x c h1 h3 with ⟨k1, k3, hne, _⟩ | ⟨rfl, rfl, rfl⟩ <;> rcases cs q' y _ h2 h4 with ⟨k2, k4, hne', _⟩ | ⟨rfl, rfl, e⟩
    · exact hr.inj q q' x y c k1 k2 k3 k4
    · exact absurd (hr.inj q p x o c k1 hp k3 (by rw [e]; exact hb)) hne
    · exact absurd (hr.inj q' p y o _ k2 hp k4 hb) hne'
    · rfl
  · rcases cs q x c h1 h2 with ⟨h1, h2, _, _⟩ | ⟨rfl, rfl, rfl⟩
    · exact .inl ⟨q, x, h1, h2⟩
    · exact .inl ⟨p, o, hp, hb⟩
end Go.Proofs.Ytaieiigfheabfaa.Tw

/-! The operations that make or write memory. -/
namespace Go.Proofs.Ytaieiigfheabfaa.Tw
open Go.RowKit
set_option linter.unusedVariables false
set_option linter.unusedSimpArgs false
/-- A value of one cell, for certain. -/
def AV.scalar : AV → Bool
  | .any => false
  | .raw _ => false
  | .agg _ => false
  | .tup _ => false
  | _ => true
theorem scalar_cell {w : World} {I : Nat → Prop} {ρ : List Nat} {v : Value} {a : AV} (h : Rep w I ρ v a) (hs : a.scalar = true) : v.oneCell' = true := by
  cases h <;> first | rfl | cases hs
/-- A new box. -/
def abox (K : Nat) (L : Store) (v : AV) (N : AV → Store → Prop) : Prop :=
  v.known = true ∧ K ≤ L.length ∧ N (.ref L.length v.cells.length 0 0) (L ++ [some (.box v.cells.length v)])
/-- What an operation that makes or writes leaves behind. -/
def WOk (P : Program) (K : Nat) (L : Store) (run : Act → World → Result Next) (fr : AFr) (N : AV → Store → Prop) : Prop :=
  ∃ av L', N av L' ∧ ∀ (a : Act) (w : World) (I : Nat → Prop) (ρ : List Nat), Rel w I ρ L → RepF w I ρ a.tmps fr →
    ∃ v w' I' ρ', (run a w = .ok (.value v) w' ∨ (run a w = .ok .skip w' ∧ v = undef)) ∧ Rel w' I' ρ' L' ∧ Rep w' I' ρ' v av ∧ Le w I ρ w' I' ρ' ∧ Ev K w I ρ L w' I' ρ' L'
theorem box_rel {w : World} {I : Nat → Prop} {ρ : List Nat} {b : Nat} {v : Value} {x : AV} {t : TypeId} (hb : w.heap[b]? = some (Obj.cells v.cells t (0, 0))) (hv : Rep w I ρ v x) (hk : x.known = true) : ObjRel w I ρ b (.box x.cells.length x) := by
  have hc := cells_rep hv hk
  refine ⟨v.cells, t, hb, by have := hc.1; simp at this ⊢; omega, fun i e he => ?_⟩
  obtain ⟨rfl, rfl⟩ : i = 0 ∧ e = x := by
    have := (List.getElem?_eq_some_iff.1 he).1
    simp at this
    subst this
    simp at he
    exact ⟨rfl, he.symm⟩
  refine ⟨rfl, fun j c hj => ?_⟩
  have hlt := (List.getElem?_eq_some_iff.1 hj).1
  have hlt' : j < v.cells.toList.length := by rw [hc.1]; exact hlt
  have hvj : v.cells.toList[j]? = some (v.cells.toList[j]'hlt') := List.getElem?_eq_getElem hlt'
  refine ⟨_, ?_, hc.2 j _ c hvj hj⟩
  rw [Nat.zero_mul, Nat.zero_add, ← Array.getElem?_toList]
  exact hvj
theorem box_new {K : Nat} {L : Store} {x : AV} {w w' : World} {I : Nat → Prop} {ρ : List Nat} {v : Value} {t : TypeId} (hr : Rel w I ρ L) (hp : Push w w' (Obj.cells v.cells t (0, 0))) (hv : Rep w I ρ v x) (hk : x.known = true) (hK : K ≤ L.length) :
    ∃ I' ρ', Rel w' I' ρ' (L ++ [some (.box x.cells.length x)]) ∧ Rep w' I' ρ' (.pointer (some ⟨w.heap.size, 0, none⟩)) (.ref L.length x.cells.length 0 0) ∧ Le w I ρ w' I' ρ' ∧ Ev K w I ρ L w' I' ρ' (L ++ [some (.box x.cells.length x)]) := by
  obtain ⟨h1, h2, h3⟩ := alloc_obj (o := .box x.cells.length x) hr hp hK (fun hle => box_rel (t := t) hp.new (hv.mono hle) hk)
  refine ⟨_, _, h1, ?_, h2, h3⟩
  have := Rep.ref (w := w') (I := I) (ρ := ρ ++ [w.heap.size]) L.length x.cells.length 0 0 w.heap.size (by rw [← hr.len]; simp)
  simpa using this
theorem abox_ok {P : Program} {K : Nat} {L : Store} {o : Oper} {t : TypeId} {x : Operand} {fr : AFr} {N : AV → Store → Prop} (ho : o.op = .box t x) (h : abox K L (aval fr x) N) : WOk P K L (fun a w => (execOp a.eval o).run P w) fr N := by
  obtain ⟨hk, hK, h⟩ := h
  refine ⟨_, _, h, fun a w I ρ hr hf => ?_⟩
  have hx := aval_rep hf x
  obtain ⟨I', ρ', h1, h2, h3, h4⟩ := box_new (t := t) hr (push_alloc w (Obj.cells (a.eval x).cells t (0, 0))) hx hk hK
  exact ⟨_, _, I', ρ', .inl (by simp [execOp, ho, Instr.box, newVar, newRow]), h1, h2, h3, h4⟩
def aalloc (P : Program) (K : Nat) (L : Store) (t : TypeId) (N : AV → Store → Prop) : Prop :=
  match azero P t with
  | some z => abox K L z N
  | none => False
theorem aalloc_ok {P : Program} {K : Nat} {L : Store} {o : Oper} {t : TypeId} {fr : AFr} {N : AV → Store → Prop} (ho : o.op = .alloc t) (h : aalloc P K L t N) : WOk P K L (fun a w => (execOp a.eval o).run P w) fr N := by
  unfold aalloc at h
  split at h
  · rename_i z hz
    obtain ⟨hk, hK, h⟩ := h
    refine ⟨_, _, h, fun a w I ρ hr hf => ?_⟩
    obtain ⟨v, hv, hrep⟩ := run_zeroValue hz
    obtain ⟨I', ρ', h1, h2, h3, h4⟩ := box_new (t := t) hr (push_alloc w (Obj.cells v.cells t (0, 0))) (hrep w I ρ) hk hK
    exact ⟨_, _, I', ρ', .inl (by simp [execOp, ho, Instr.alloc, newVar, newRow, hv]), h1, h2, h3, h4⟩
  · exact h.elim
/-- An element with other cells. -/
def reCell : AV → List AV → AV
  | .agg _, cs => .agg cs
  | _, [c] => c
  | _, cs => .agg cs
theorem reCell_cells {e : AV} {cs : List AV} (h : ∀ c ∈ cs, c.scalar = true) : (reCell e cs).cells = cs := by
  unfold reCell
  split
  · rfl
  · rename_i c hn
    have := h c (by simp)
    cases c <;> first | rfl | cases this
  · rfl
/-- Is it a box? -/
def aobjB (L : Store) (p : Nat) : Bool :=
  match (L[p]?).join with
  | some (.box _ _) => true
  | _ => false
def astore (P : Program) (L : Store) (t : TypeId) (a x : AV) (N : AV → Store → Prop) : Prop :=
  match a with
  | .ref p wd i f => ∃ els, aobj L p = some (.arr wd els) ∧ ∃ e, els[i]? = some e ∧
      ((P.info? t).isSome = true ∧ x.known = true ∧ x.cells.length = P.cellsOf t ∧ f + x.cells.length ≤ wd ∧ x.cells.all (·.scalar) = true ∧ (aput e.cells f x.cells).all (·.scalar) = true) ∧
      N .any (L.set p (some (match aobjB L p with | true => .box wd (reCell e (aput e.cells f x.cells)) | false => .arr wd (els.set i (reCell e (aput e.cells f x.cells))))))
  | _ => False
theorem objB {L : Store} {p wd i : Nat} {els : List AV} {e : AV} (h : aobj L p = some (.arr wd els)) (hb : aobjB L p = true) (hi : els[i]? = some e) : i = 0 ∧ els = [e] := by
  unfold aobj at h
  unfold aobjB at hb
  cases hl : L[p]? with
  | none => simp [hl] at h
  | some x => cases x with
    | none => simp [hl] at h
    | some y =>
      simp only [hl, Option.join_some, Option.map_some, Option.some.injEq] at h hb
      cases y with
      | box w' e' =>
        simp only [AO.norm, AO.arr.injEq] at h
        obtain ⟨rfl, rfl⟩ := h
        have hi0 := (List.getElem?_eq_some_iff.1 hi).1
        simp at hi0
        subst hi0
        simp at hi
        exact ⟨rfl, by rw [hi]⟩
      | arr w' els' => cases hb
      | mp c es => cases hb
      | it => cases hb
      | loop => cases hb
theorem aput_get : ∀ (us : List AV) (cs : List AV) (o j : Nat), o + us.length ≤ cs.length → (aput cs o us)[j]? = if o ≤ j ∧ j < o + us.length then us[j - o]? else cs[j]?
  | [], cs, o, j, h => by simp [aput]; omega
  | u :: us, cs, o, j, h => by
    simp only [List.length_cons] at h
    rw [aput, aput_get us _ (o + 1) j (by simp; omega)]
    by_cases h1 : j = o
    · subst h1
      rw [if_neg (by omega), if_pos (by simp), List.getElem?_set]
      simp; omega
    · by_cases h2 : o + 1 ≤ j ∧ j < o + 1 + us.length
      · rw [if_pos h2, if_pos (by simp; omega), show j - o = (j - (o + 1)) + 1 from by omega]
        simp
      · rw [if_neg h2, if_neg (by simp; omega), List.getElem?_set]
        rw [if_neg (by omega)]
theorem seg_get (C us : List Value) (o j : Nat) (h : o + us.length ≤ C.length) : (C.take o ++ us ++ C.drop (o + us.length))[j]? = if o ≤ j ∧ j < o + us.length then us[j - o]? else C[j]? := by
  by_cases h1 : j < o
  · rw [if_neg (by omega), List.append_assoc, List.getElem?_append_left (by simp; omega), List.getElem?_take, if_pos h1]
  · by_cases h2 : j < o + us.length
    · rw [if_pos ⟨by omega, h2⟩, List.append_assoc, List.getElem?_append_right (by simp; omega), List.getElem?_append_left (by simp; omega)]
      congr 1
      simp
      omega
    · rw [if_neg (by omega), List.getElem?_append_right (by simp; omega), List.getElem?_drop]
      congr 1
      simp
      omega
theorem astore_ok {P : Program} {K : Nat} {L : Store} {o : Oper} {t : TypeId} {ad x : Operand} {fr : AFr} {N : AV → Store → Prop} (ho : o.op = .store t ad x) (h : astore P L t (aval fr ad) (aval fr x) N) : WOk P K L (fun a w => (execOp a.eval o).run P w) fr N := by
  unfold astore at h
  split at h
  · rename_i p wd i f hax
    obtain ⟨els, hob, e, he, ⟨hi, hk, hsz, hfit, hs1, hs2⟩, h⟩ := h
    refine ⟨_, _, h, fun a w I ρ hr hf => ?_⟩
    obtain ⟨ob, hL, hnorm⟩ := join_some hob
    have ha := aval_rep hf ad
    rw [hax] at ha
    have hx := aval_rep hf x
    generalize hva : a.eval ad = va at ha
    generalize hvx : a.eval x = vx at hx
    cases ha with
    | ref _ _ _ _ b hb =>
      obtain ⟨hblt, hbI, C, ct, hC, hCs, hels⟩ := own_norm hr hob hb
      obtain ⟨hew, hec⟩ := hels i e he
      have hcx := cells_rep hx hk
      have hone : ∀ v ∈ vx.cells.toList, v.oneCell' = true := by
        intro v hv
        obtain ⟨j, hj⟩ := List.getElem?_of_mem hv
        have hjl := (List.getElem?_eq_some_iff.1 hj).1
        have hjl' : j < (aval fr x).cells.length := by rw [← hcx.1]; exact hjl
        have hc : (aval fr x).cells[j]? = some ((aval fr x).cells[j]'hjl') := List.getElem?_eq_getElem hjl'
        exact scalar_cell (hcx.2 j v _ hj hc) (List.all_eq_true.1 hs1 _ (List.getElem_mem _))
      have hil := (List.getElem?_eq_some_iff.1 he).1
      have hbig : (i + 1) * wd ≤ C.size := Nat.le_trans (Nat.mul_le_mul_right _ hil) hCs
      rw [Nat.add_mul, Nat.one_mul] at hbig
      have hlen : vx.cells.toList.length = (aval fr x).cells.length := hcx.1
      have hrun := run_storeCells_at P b (i * wd + f) ct vx.cells.toList 0 C w hC (by omega) hone
      simp only [Nat.add_zero] at hrun
      have hstore : (execOp a.eval o).run P w = .ok .skip (w.setRow b (C.toList.take (i * wd + f) ++ vx.cells.toList ++ C.toList.drop (i * wd + f + vx.cells.toList.length)).toArray) := by
        have hsz' : vx.cells.size = P.cellsOf t := by rw [← hsz, ← hlen]; simp
        simp [execOp, ho, hva, hvx, Instr.storeAt, Instr.sureAddr, storeVar, run_sizeOf' hi, hsz', hrun]
      have hC' : (C.toList.take (i * wd + f) ++ vx.cells.toList ++ C.toList.drop (i * wd + f + vx.cells.toList.length)).toArray.size = C.size := by
        have : vx.cells.toList.length = vx.cells.size := by simp
        simp
        omega
      have hob' : ∀ (w' : World) (I' : Nat → Prop) (ρ' : List Nat), ObjRel w' I' ρ' b (.arr wd (els.set i (reCell e (aput e.cells f (aval fr x).cells)))) → ObjRel w' I' ρ' b (match aobjB L p with | true => .box wd (reCell e (aput e.cells f (aval fr x).cells)) | false => .arr wd (els.set i (reCell e (aput e.cells f (aval fr x).cells)))) := by
        intro w' I' ρ' ho'
        cases hB : aobjB L p with
        | false => exact ho'
        | true =>
          obtain ⟨rfl, rfl⟩ := objB hob hB he
          exact ho'
      obtain ⟨h1, h2, h3⟩ := write_obj (K := K) (o' := match aobjB L p with | true => .box wd (reCell e (aput e.cells f (aval fr x).cells)) | false => .arr wd (els.set i (reCell e (aput e.cells f (aval fr x).cells)))) hr hL hb (chg_setRow hC hC') (fun hle => by
        refine hob' _ _ _ ?_
        refine ⟨_, ct, setRow_heap w b C _ ct _ hC, by rw [hC']; simpa using hCs, fun i' e' he' => ?_⟩
        rw [List.getElem?_set] at he'
        have hsc : ∀ c ∈ aput e.cells f (aval fr x).cells, c.scalar = true := List.all_eq_true.1 hs2
        split at he'
        · rename_i hii
          subst hii
          simp [hil] at he'
          subst he'
          rw [reCell_cells hsc]
          refine ⟨by rw [aput_length]; exact hew, fun j c hj => ?_⟩
          rw [aput_get _ _ _ _ (by omega)] at hj
          have hseg := seg_get C.toList vx.cells.toList (i * wd + f) (i * wd + j) (by simp at hlen ⊢; omega)
          split at hj
          · rename_i hjj
            rw [if_pos ⟨by omega, by omega⟩, show i * wd + j - (i * wd + f) = j - f from by omega] at hseg
            have hjl := (List.getElem?_eq_some_iff.1 hj).1
            have hv : vx.cells.toList[j - f]? = some vx.cells.toList[j - f] := List.getElem?_eq_getElem (by omega)
            exact ⟨_, by simpa [hv] using hseg, (hcx.2 _ _ c hv hj).mono hle⟩
          · rename_i hjj
            have hjw : j < wd := by have := (List.getElem?_eq_some_iff.1 hj).1; omega
            rw [if_neg (by omega)] at hseg
            obtain ⟨v, hv, hrep⟩ := hec j c hj
            exact ⟨v, by simpa [hv] using hseg, hrep.mono hle⟩
        · rename_i hii
          obtain ⟨h5, h6⟩ := hels i' e' he'
          refine ⟨h5, fun j c hj => ?_⟩
          have hjw : j < wd := by have := (List.getElem?_eq_some_iff.1 hj).1; omega
          have hseg := seg_get C.toList vx.cells.toList (i * wd + f) (i' * wd + j) (by simp at hlen ⊢; omega)
          have hne : ¬ (i * wd + f ≤ i' * wd + j ∧ i' * wd + j < i * wd + f + vx.cells.toList.length) := by
            rintro ⟨q1, q2⟩
            rcases Nat.lt_or_gt_of_ne hii with hlt | hlt
            · have := Nat.mul_le_mul_right wd (show i + 1 ≤ i' from hlt)
              rw [Nat.add_mul] at this
              omega
            · have := Nat.mul_le_mul_right wd (show i' + 1 ≤ i from hlt)
              rw [Nat.add_mul] at this
              omega
          rw [if_neg hne] at hseg
          obtain ⟨v, hv, hrep⟩ := h6 j c hj
          exact ⟨v, by simpa [hv] using hseg, hrep.mono hle⟩)
      exact ⟨undef, _, I, ρ, .inr ⟨hstore, rfl⟩, h1, .any _, h2, h3⟩
  · exact h.elim
end Go.Proofs.Ytaieiigfheabfaa.Tw

/-! Rows that grow. -/
namespace Go.Proofs.Ytaieiigfheabfaa.Tw
open Go.RowKit
set_option linter.unusedVariables false
set_option linter.unusedSimpArgs false
/-- Cells, one element behind the other. -/
def FlatRep (w : World) (I : Nat → Prop) (ρ : List Nat) (wd : Nat) (vals : List Value) (els : List AV) : Prop :=
  vals.length = els.length * wd ∧ ∀ (i : Nat) (e : AV), els[i]? = some e → e.cells.length = wd ∧ ∀ (j : Nat) (c : AV), e.cells[j]? = some c → ∃ v, vals[i * wd + j]? = some v ∧ Rep w I ρ v c
theorem FlatRep.mono {w w' : World} {I I' : Nat → Prop} {ρ ρ' : List Nat} (L : Le w I ρ w' I' ρ') {wd : Nat} {vals : List Value} {els : List AV} (h : FlatRep w I ρ wd vals els) : FlatRep w' I' ρ' wd vals els :=
  ⟨h.1, fun i e he => ⟨(h.2 i e he).1, fun j c hc => let ⟨v, h1, h2⟩ := (h.2 i e he).2 j c hc; ⟨v, h1, h2.mono L⟩⟩⟩
theorem FlatRep.append {w : World} {I : Nat → Prop} {ρ : List Nat} {wd : Nat} {vals us : List Value} {els fs : List AV} (h : FlatRep w I ρ wd vals els) (k : FlatRep w I ρ wd us fs) : FlatRep w I ρ wd (vals ++ us) (els ++ fs) := by
  refine ⟨by simp [h.1, k.1, Nat.add_mul], fun i e he => ?_⟩
  by_cases hi : i < els.length
  · rw [List.getElem?_append_left hi] at he
    obtain ⟨h1, h2⟩ := h.2 i e he
    refine ⟨h1, fun j c hc => ?_⟩
    obtain ⟨v, hv, hr⟩ := h2 j c hc
    exact ⟨v, by rw [List.getElem?_append_left (List.getElem?_eq_some_iff.1 hv).1]; exact hv, hr⟩
  · rw [List.getElem?_append_right (by omega)] at he
    obtain ⟨h1, h2⟩ := k.2 _ e he
    refine ⟨h1, fun j c hc => ?_⟩
    obtain ⟨v, hv, hr⟩ := h2 j c hc
    refine ⟨v, ?_, hr⟩
    have hle : els.length * wd ≤ i * wd := Nat.mul_le_mul_right _ (by omega)
    rw [List.getElem?_append_right (by rw [h.1]; omega), h.1]
    rw [Nat.sub_mul] at hv
    rw [← hv]
    congr 1
    omega
theorem FlatRep.cut {w : World} {I : Nat → Prop} {ρ : List Nat} {wd : Nat} {vals : List Value} {els : List AV} (h : FlatRep w I ρ wd vals els) (off n : Nat) (hn : off + n ≤ els.length) : FlatRep w I ρ wd ((vals.drop (off * wd)).take (n * wd)) ((els.drop off).take n) := by
  have hb : (off + n) * wd ≤ els.length * wd := Nat.mul_le_mul_right _ hn
  rw [Nat.add_mul] at hb
  refine ⟨by simp [h.1]; rw [Nat.min_eq_left (by omega), Nat.min_eq_left (by omega)], fun i e he => ?_⟩
  rw [List.getElem?_take] at he
  split at he
  · rename_i hi
    rw [List.getElem?_drop] at he
    obtain ⟨h1, h2⟩ := h.2 _ e he
    refine ⟨h1, fun j c hc => ?_⟩
    obtain ⟨v, hv, hr⟩ := h2 j c hc
    have hj : j < wd := by have := (List.getElem?_eq_some_iff.1 hc).1; omega
    have hlt : i * wd + j < n * wd := by
      have := Nat.mul_le_mul_right wd (show i + 1 ≤ n from hi)
      rw [Nat.add_mul] at this
      omega
    refine ⟨v, ?_, hr⟩
    rw [List.getElem?_take, if_pos hlt, List.getElem?_drop, ← hv]
    congr 1
    rw [Nat.add_mul]
    omega
  · cases he
theorem FlatRep.obj {w : World} {I : Nat → Prop} {ρ : List Nat} {wd b : Nat} {vals : List Value} {els : List AV} {C : Array Value} {t : TypeId} (h : FlatRep w I ρ wd vals els) (hb : w.heap[b]? = some (Obj.cells C t (0, 0))) (hC : ∀ (q : Nat) (v : Value), vals[q]? = some v → C[q]? = some v) (hs : vals.length ≤ C.size) : ObjRel w I ρ b (.arr wd els) :=
  ⟨C, t, hb, by have := h.1; omega, fun i e he => ⟨(h.2 i e he).1, fun j c hc => let ⟨v, h1, h2⟩ := (h.2 i e he).2 j c hc; ⟨v, hC _ v h1, h2⟩⟩⟩
theorem flat_of_obj {w : World} {I : Nat → Prop} {ρ : List Nat} {wd b : Nat} {els : List AV} (h : ObjRel w I ρ b (.arr wd els)) : ∃ (C : Array Value) (t : TypeId), w.heap[b]? = some (Obj.cells C t (0, 0)) ∧ els.length * wd ≤ C.size ∧ FlatRep w I ρ wd (C.toList.take (els.length * wd)) els := by
  obtain ⟨C, t, h1, h2, h3⟩ := h
  refine ⟨C, t, h1, h2, by simp; omega, fun i e he => ⟨(h3 i e he).1, fun j c hc => ?_⟩⟩
  obtain ⟨v, hv, hr⟩ := (h3 i e he).2 j c hc
  refine ⟨v, ?_, hr⟩
  have hj : j < wd := by have := (List.getElem?_eq_some_iff.1 hc).1; have := (h3 i e he).1; omega
  have hi := (List.getElem?_eq_some_iff.1 he).1
  have := Nat.mul_le_mul_right wd (show i + 1 ≤ els.length from hi)
  rw [Nat.add_mul] at this
  rw [List.getElem?_take, if_pos (by omega)]
  simpa using hv
/-- What is put behind a row. -/
def asrc (L : Store) (x : AV) (wd : Nat) (K : List AV → Prop) : Prop :=
  match x with
  | .nils => K []
  | .sl w els => w = wd ∧ K els
  | .slt w els => w = wd ∧ K els
  | .row p w off n => w = wd ∧ ∃ els, aobj L p = some (.arr w els) ∧ off + n ≤ els.length ∧ K ((els.drop off).take n)
  | _ => False
theorem pure_flat {w : World} {I : Nat → Prop} {ρ : List Nat} {wd : Nat} {els : List AV} {A : Addr} {vs : Nat → Nat → Value} (hs : A.spot = none) (hw : ∀ e ∈ els, e.cells.length = wd)
    (hc : ∀ i j, i < els.length → j < wd → w.cell? ⟨A.block, A.off + (i * wd + j), none⟩ = some (vs i j))
    (hr : ∀ (i : Nat) (e : AV) (j : Nat) (c : AV), els[i]? = some e → e.cells[j]? = some c → Rep w I ρ (vs i j) c) :
    ∃ news : List Value, (∀ (j : Nat) (v : Value), news[j]? = some v → w.cell? (A.add j) = some v) ∧ FlatRep w I ρ wd news els := by
  refine ⟨(List.range (els.length * wd)).map fun q => vs (q / wd) (q % wd), fun q v hq => ?_, by simp, fun i e he => ⟨hw e (List.mem_of_getElem? he), fun j c hc' => ?_⟩⟩
  · rw [List.getElem?_map] at hq
    by_cases hlt : q < els.length * wd
    · rw [List.getElem?_range hlt] at hq
      simp at hq
      subst hq
      have hwd : 0 < wd := by
        rcases Nat.eq_zero_or_pos wd with h | h
        · subst h; simp at hlt
        · exact h
      have := hc (q / wd) (q % wd) (by rw [Nat.div_lt_iff_lt_mul hwd]; exact hlt) (Nat.mod_lt _ hwd)
      rw [Nat.div_add_mod'] at this
      rw [add_none hs]
      exact this
    · rw [List.getElem?_eq_none (by simp; omega)] at hq
      cases hq
  · have hj : j < wd := by have := (List.getElem?_eq_some_iff.1 hc').1; have := hw e (List.mem_of_getElem? he); omega
    have hi := (List.getElem?_eq_some_iff.1 he).1
    have := Nat.mul_le_mul_right wd (show i + 1 ≤ els.length from hi)
    rw [Nat.add_mul] at this
    refine ⟨vs i j, ?_, hr i e j c he hc'⟩
    rw [List.getElem?_map, List.getElem?_range (by omega)]
    simp only [Option.map_some]
    rw [show (i * wd + j) / wd = i from by rw [Nat.mul_comm, Nat.mul_add_div (by omega), Nat.div_eq_of_lt hj]; omega, show (i * wd + j) % wd = j from by rw [Nat.mul_comm, Nat.mul_add_mod, Nat.mod_eq_of_lt hj]]
theorem asrc_ok {L : Store} {x : AV} {wd : Nat} {K : List AV → Prop} (h : asrc L x wd K) :
    ∃ els, K els ∧ ∀ (w : World) (I : Nat → Prop) (ρ : List Nat) (u : Value), Rel w I ρ L → Rep w I ρ u x → ∃ a n c, u = .slice a n c ∧ n = els.length ∧ (n = 0 ∨ ∃ A news, a = some A ∧ (∀ (j : Nat) (v : Value), news[j]? = some v → w.cell? (A.add j) = some v) ∧ FlatRep w I ρ wd news els) := by
  unfold asrc at h
  split at h
  · refine ⟨_, h, fun w I ρ u hr hu => ?_⟩
    cases hu
    exact ⟨none, 0, 0, rfl, rfl, .inl rfl⟩
  · obtain ⟨rfl, h⟩ := h
    refine ⟨_, h, fun w I ρ u hr hu => ?_⟩
    cases hu with
    | sl a A n c _ els vs hn hcap ha hw hc hr' =>
      refine ⟨a, n, c, rfl, hn, ?_⟩
      rcases ha with rfl | ⟨rfl, hs, hI⟩
      · exact .inl (by simpa using hn)
      · obtain ⟨news, h1, h2⟩ := pure_flat hs hw hc hr'
        exact .inr ⟨A, news, rfl, h1, h2⟩
  · obtain ⟨rfl, h⟩ := h
    refine ⟨_, h, fun w I ρ u hr hu => ?_⟩
    cases hu with
    | slt a A n _ els vs hn ha hw hc hr' =>
      refine ⟨a, n, n, rfl, hn, ?_⟩
      rcases ha with rfl | ⟨rfl, hs, hI⟩
      · exact .inl (by simpa using hn)
      · obtain ⟨news, h1, h2⟩ := pure_flat hs hw hc hr'
        exact .inr ⟨A, news, rfl, h1, h2⟩
  · rename_i p wd' off n
    obtain ⟨rfl, els, ho, hle, h⟩ := h
    refine ⟨_, h, fun w I ρ u hr hu => ?_⟩
    cases hu with
    | row _ _ _ _ b c C t hb hn hB hC =>
      refine ⟨_, n, c, rfl, by simp; omega, .inr ?_⟩
      obtain ⟨_, _, hobj⟩ := own_norm hr ho hb
      obtain ⟨C', t', h1, h2, h3⟩ := flat_of_obj hobj
      have hf := h3.cut off n hle
      refine ⟨_, _, rfl, fun j v hj => ?_, hf⟩
      rw [add_none rfl]
      rw [List.getElem?_take] at hj
      split at hj
      · rw [List.getElem?_drop, List.getElem?_take] at hj
        split at hj
        · simp only [World.cell?, h1]
          simpa using hj
        · cases hj
      · cases hj
  · exact h.elim
/-- What is known of an element's type. -/
def elemB (P : Program) (e : TypeId) (wd by' : Nat) : Bool :=
  (P.info? e).isSome && P.cellsOf e == wd && P.bytesOf e == by' && (match (P.info? e).bind (·.zero) with | some z => z.cells.size == wd | none => false)
theorem elemB_spec {P : Program} {e : TypeId} {wd by' : Nat} (h : elemB P e wd by' = true) : ∃ (i : TypeInfo) (z : Value), P.info? e = some i ∧ i.size = wd ∧ i.bytes = by' ∧ i.zero = some z ∧ z.cells.size = wd := by
  unfold elemB at h
  simp only [Bool.and_eq_true, beq_iff_eq] at h
  obtain ⟨⟨⟨h1, h2⟩, h3⟩, h4⟩ := h
  cases hi : P.info? e with
  | none => simp [hi] at h1
  | some i =>
    simp only [hi, Option.bind_some] at h4
    cases hz : i.zero with
    | none => simp [hz] at h4
    | some z =>
      simp only [hz, beq_iff_eq] at h4
      exact ⟨i, z, rfl, by simpa [Program.cellsOf, hi] using h2, by simpa [Program.bytesOf, hi] using h3, hz, h4⟩
/-- append: onto nothing, onto a row that is full, onto a row of ours. -/
def aappend (P : Program) (K : Nat) (L : Store) (t : TypeId) (s x : AV) (N : AV → Store → Prop) : Prop :=
  match P.underlying t with
  | some (.slice e) => ∃ wd by', elemB P e wd by' = true ∧ asrc L x wd fun els =>
    (K ≤ L.length ∧ els.all (fun v => v.cells.all (·.scalar)) = true) ∧ match s with
    | .nils => (els = [] → N .nils L) ∧ (els ≠ [] → els.length * by' ≤ 140737488355328 ∧ els.length ≤ 9223372036854775807 ∧ N (.row L.length wd 0 els.length) (L ++ [some (.arr wd els)]))
    | .sl w0 olds => els = [] ∧ N (.sl w0 olds) L
    | .slt w0 olds => w0 = wd ∧ (els = [] → N (.slt wd olds) L) ∧ (els ≠ [] → (olds.length + els.length) * by' ≤ 140737488355328 ∧ olds.length + els.length ≤ 9223372036854775807 ∧ N (.row L.length wd 0 (olds.length + els.length)) (L ++ [some (.arr wd (olds ++ els))]))
    | .row p w0 off n => (w0 = wd ∧ off = 0) ∧ ∃ olds, aobj L p = some (.arr wd olds) ∧ n ≤ olds.length ∧ (n + els.length) * by' ≤ 140737488355328 ∧ n + els.length ≤ 9223372036854775807 ∧ N (.row L.length wd 0 (n + els.length)) (L.set p none ++ [some (.arr wd (olds.take n ++ els))])
    | _ => False
  | _ => False
theorem flat_scalar {w : World} {I : Nat → Prop} {ρ : List Nat} {wd : Nat} {vals : List Value} {els : List AV} (h : FlatRep w I ρ wd vals els) (hs : els.all (fun v => v.cells.all (·.scalar)) = true) : ∀ u ∈ vals, u.oneCell' = true := by
  intro u hu
  obtain ⟨q, hq⟩ := List.getElem?_of_mem hu
  have hlt := (List.getElem?_eq_some_iff.1 hq).1
  rw [h.1] at hlt
  have hwd : 0 < wd := by
    rcases Nat.eq_zero_or_pos wd with e | e
    · subst e; simp at hlt
    · exact e
  have hi : q / wd < els.length := by rw [Nat.div_lt_iff_lt_mul hwd]; exact hlt
  have he : els[q / wd]? = some els[q / wd] := List.getElem?_eq_getElem hi
  obtain ⟨h1, h2⟩ := h.2 _ _ he
  have hj : q % wd < (els[q / wd]).cells.length := by rw [h1]; exact Nat.mod_lt _ hwd
  have hc : (els[q / wd]).cells[q % wd]? = some ((els[q / wd]).cells[q % wd]'hj) := List.getElem?_eq_getElem hj
  obtain ⟨v, hv, hr⟩ := h2 _ _ hc
  rw [Nat.div_add_mod'] at hv
  rw [hq] at hv
  cases hv
  exact scalar_cell hr (List.all_eq_true.1 (List.all_eq_true.1 hs _ (List.getElem_mem hi)) _ (List.getElem_mem hj))
theorem new_row {K : Nat} {L : Store} {w w' : World} {I : Nat → Prop} {ρ : List Nat} {wd cap : Nat} {vals : List Value} {els : List AV} {C : Array Value} {t : TypeId} (hr : Rel w I ρ L) (hp : Push w w' (Obj.cells C t (0, 0))) (hK : K ≤ L.length)
    (hf : FlatRep w I ρ wd vals els) (hC : ∀ (q : Nat) (v : Value), vals[q]? = some v → C[q]? = some v) (hcs : cap * wd = C.size) (hcap : els.length ≤ cap) :
    Rel w' I (ρ ++ [w.heap.size]) (L ++ [some (.arr wd els)]) ∧ Rep w' I (ρ ++ [w.heap.size]) (.slice (some ⟨w.heap.size, 0, none⟩) els.length cap) (.row L.length wd 0 els.length) ∧ Le w I ρ w' I (ρ ++ [w.heap.size]) ∧ Ev K w I ρ L w' I (ρ ++ [w.heap.size]) (L ++ [some (.arr wd els)]) := by
  have hsz : vals.length ≤ C.size := by rw [hf.1, ← hcs]; exact Nat.mul_le_mul_right _ hcap
  obtain ⟨h1, h2, h3⟩ := alloc_obj (o := .arr wd els) hr hp hK (fun hle => (hf.mono hle).obj hp.new hC hsz)
  refine ⟨h1, ?_, h2, h3⟩
  have := Rep.row (w := w') (I := I) (ρ := ρ ++ [w.heap.size]) L.length wd 0 els.length w.heap.size cap C t (by rw [← hr.len]; simp) hcap hp.new (by rw [Nat.zero_add]; omega)
  simpa using this
theorem kill_new_row {K : Nat} {L : Store} {w w' : World} {I : Nat → Prop} {ρ : List Nat} {wd cap p : Nat} {vals : List Value} {els : List AV} {C : Array Value} {t : TypeId} (hr : Rel w I ρ L) (hp : Push w w' (Obj.cells C t (0, 0))) (hK : K ≤ L.length)
    (hf : FlatRep w I ρ wd vals els) (hC : ∀ (q : Nat) (v : Value), vals[q]? = some v → C[q]? = some v) (hcs : cap * wd = C.size) (hcap : els.length ≤ cap) :
    Rel w' I (ρ ++ [w.heap.size]) (L.set p none ++ [some (.arr wd els)]) ∧ Rep w' I (ρ ++ [w.heap.size]) (.slice (some ⟨w.heap.size, 0, none⟩) els.length cap) (.row L.length wd 0 els.length) ∧ Le w I ρ w' I (ρ ++ [w.heap.size]) ∧ Ev K w I ρ L w' I (ρ ++ [w.heap.size]) (L.set p none ++ [some (.arr wd els)]) := by
  obtain ⟨h1, h2, h3, h4⟩ := new_row (K := K) (L := L.set p none) (hr.kill p) hp (by simpa using hK) hf hC hcs hcap
  exact ⟨h1, by simpa using h2, h3, (Ev.kill p).trans h4⟩
theorem grown_cells {olds news : List Value} {z : Array Value} {k wd : Nat} (hz : z.size = wd) (n : Nat) (h : (olds ++ news).length = n * wd) (hk : n ≤ k) :
    (∀ (q : Nat) (v : Value), (olds ++ news)[q]? = some v → (olds.toArray ++ news.toArray ++ Builtin.zeroCells z (k - n))[q]? = some v) ∧ k * wd = (olds.toArray ++ news.toArray ++ Builtin.zeroCells z (k - n)).size := by
  constructor
  · intro q v hq
    have hlt := (List.getElem?_eq_some_iff.1 hq).1
    rw [Array.getElem?_append_left (by simpa using hlt)]
    simpa using hq
  · have : (olds ++ news).length = olds.length + news.length := by simp
    simp only [Array.size_append, size_zeroCells, hz, List.size_toArray, Nat.sub_mul]
    have := Nat.mul_le_mul_right wd hk
    omega
theorem aappend_ok {P : Program} {K : Nat} {L : Store} {o : Oper} {t : TypeId} {s x : Operand} {fr : AFr} {N : AV → Store → Prop} (ho : o.op = .call ⟨.builtin .append, #[s, x], #[t, t]⟩) (h : aappend P K L t (aval fr s) (aval fr x) N) : WOk P K L (fun a w => (execOp a.eval o).run P w) fr N := by
  have hex : ∀ (a : Act) (w : World) (v : Value) (w' : World), (Builtin.append_ #[t, t] o.type #[a.eval s, a.eval x]).run P w = .ok v w' → (execOp a.eval o).run P w = .ok (.value v) w' := by
    intro a w v w' hrun
    simp [execOp, ho, resolve, invoke, builtin, hrun]
  unfold aappend at h
  split at h
  case h_2 => exact h.elim
  rename_i e ht
  obtain ⟨wd, by', hel, h⟩ := h
  obtain ⟨i, z, hi, hsz, hby, hz, hzs⟩ := elemB_spec hel
  obtain ⟨els, ⟨⟨hK, hsc⟩, h⟩, hsrc⟩ := asrc_ok h
  -- what the source gives
  have empty : ∀ (u : Value) (w : World) (a : Option Addr) (n cap : Nat) (sc : Nat) (b : Option Addr) (c : Nat), n ≤ cap → (Builtin.append_ #[t, t] o.type #[.slice a n cap, .slice b 0 c]).run P w = .ok (.slice a n cap) w := by
    intro u w a n cap sc b c hle
    cases a <;> cases b <;> simp [Builtin.append_, run_underlying ht, sizeOf, typeInfo, hi, Builtin.lenOf, Builtin.firstCells, hle, loadCells, loadCellsFrom, storeCells]
  split at h
  · rename_i hs
    obtain ⟨h1, h2⟩ := h
    by_cases he : els = []
    · subst he
      refine ⟨_, _, h1 rfl, fun a w I ρ hr hf => ?_⟩
      have hsv := aval_rep hf s
      rw [hs] at hsv
      obtain ⟨b, n, c, hx, hn, _⟩ := hsrc w I ρ _ hr (aval_rep hf x)
      have hsv' : a.eval s = .slice none 0 0 := by generalize a.eval s = v at hsv; cases hsv; rfl
      simp at hn
      subst hn
      refine ⟨.slice none 0 0, w, I, ρ, .inl (hex a w _ _ ?_), hr, .nils, .refl .., .refl ..⟩
      rw [hsv', hx]
      exact empty undef w none 0 0 0 b c (Nat.le_refl _)
    · obtain ⟨hb1, hb2, h2⟩ := h2 he
      refine ⟨_, _, h2, fun a w I ρ hr hf => ?_⟩
      have hsv := aval_rep hf s
      rw [hs] at hsv
      obtain ⟨b, n, c, hx, hn, hnews⟩ := hsrc w I ρ _ hr (aval_rep hf x)
      have hsv' : a.eval s = .slice none 0 0 := by generalize a.eval s = v at hsv; cases hsv; rfl
      have hpos : 0 < els.length := by rcases els with _ | _; exact absurd rfl he; simp
      rcases hnews with h0 | ⟨A, news, rfl, hcell, hflat⟩
      · omega
      · subst hn
        have hrun := run_append_nil (P := P) w t o.type e i z ht hi hz A els.length c news (by rw [hsz]; exact hflat.1) hcell hpos (by omega) (by rw [hby]; omega)
        have hg := grownCap_ge w els.length 0 e
        obtain ⟨g1, g2⟩ := grown_cells (olds := []) (news := news) (z := z.cells) (k := grownCap w els.length 0 e) hzs els.length (by simpa using hflat.1) hg
        simp only [List.nil_append] at g1 g2
        rw [show (#[] : Array Value) ++ news.toArray = news.toArray from by simp] at g1 g2
        obtain ⟨r1, r2, r3, r4⟩ := new_row (K := K) hr (push_drew w _) hK hflat g1 g2 hg
        exact ⟨_, _, I, _, .inl (hex a w _ _ (by rw [hsv', hx]; exact hrun)), r1, r2, r3, r4⟩
  · rename_i w0 olds hs
    obtain ⟨rfl, h⟩ := h
    refine ⟨_, _, h, fun a w I ρ hr hf => ?_⟩
    have hsv := aval_rep hf s
    rw [hs] at hsv
    obtain ⟨b, n, c, hx, hn, _⟩ := hsrc w I ρ _ hr (aval_rep hf x)
    simp at hn
    subst hn
    generalize hve : a.eval s = v at hsv
    have hsv' := hsv
    cases hsv with
    | sl a' A n' c' _ _ vs hn' hcap =>
      exact ⟨_, w, I, ρ, .inl (hex a w _ _ (by rw [hve, hx]; exact empty undef w a' n' c' 0 b c hcap)), hr, hsv', .refl .., .refl ..⟩
  · rename_i w0 olds hs
    obtain ⟨rfl, h1, h2⟩ := h
    by_cases he : els = []
    · subst he
      refine ⟨_, _, h1 rfl, fun a w I ρ hr hf => ?_⟩
      have hsv := aval_rep hf s
      rw [hs] at hsv
      obtain ⟨b, n, c, hx, hn, _⟩ := hsrc w I ρ _ hr (aval_rep hf x)
      simp at hn
      subst hn
      generalize hve : a.eval s = v at hsv
      have hsv' := hsv
      cases hsv with
      | slt a' A n' _ _ vs hn' =>
        exact ⟨_, w, I, ρ, .inl (hex a w _ _ (by rw [hve, hx]; exact empty undef w a' n' n' 0 b c (Nat.le_refl _))), hr, hsv', .refl .., .refl ..⟩
    · obtain ⟨hb1, hb2, h2⟩ := h2 he
      refine ⟨_, _, h2, fun a w I ρ hr hf => ?_⟩
      have hsv := aval_rep hf s
      rw [hs] at hsv
      obtain ⟨b, n, c, hx, hn, hnews⟩ := hsrc w I ρ _ hr (aval_rep hf x)
      have hpos : 0 < els.length := by rcases els with _ | _; exact absurd rfl he; simp
      rcases hnews with h0 | ⟨A, news, rfl, hcell, hflat⟩
      · omega
      · subst hn
        generalize hve : a.eval s = v at hsv
        cases hsv with
        | slt a' A' n' _ _ vs hn' ha' hw' hc' hr' =>
          subst hn'
          cases a' with
          | none =>
            have holds : olds = [] := by
              rcases ha' with h | ⟨h, _⟩
              · exact h
              · cases h
            subst holds
            have hrun := run_append_nil (P := P) w t o.type e i z ht hi hz A els.length c news (by rw [hsz]; exact hflat.1) hcell hpos (by omega) (by rw [hby]; simp at hb1; omega)
            have hg := grownCap_ge w els.length 0 e
            obtain ⟨g1, g2⟩ := grown_cells (olds := []) (news := news) (z := z.cells) (k := grownCap w els.length 0 e) hzs els.length (by simpa using hflat.1) hg
            simp only [List.nil_append] at g1 g2
            rw [show (#[] : Array Value) ++ news.toArray = news.toArray from by simp] at g1 g2
            obtain ⟨r1, r2, r3, r4⟩ := new_row (K := K) hr (push_drew w _) hK hflat g1 g2 hg
            simp only [List.length_nil, Nat.zero_add, List.nil_append]
            exact ⟨_, _, I, _, .inl (hex a w _ _ (by rw [hve, hx]; exact hrun)), r1, r2, r3, r4⟩
          | some a' =>
            have hflat0 : ∃ ov : List Value, (∀ (j : Nat) (v : Value), ov[j]? = some v → w.cell? (a'.add j) = some v) ∧ FlatRep w I ρ w0 ov olds := by
              rcases ha' with h | ⟨h, hsp, hI⟩
              · subst h; exact ⟨[], fun j v h => by simp at h, by simp, fun i e h => by simp at h⟩
              · cases h; exact pure_flat hsp hw' hc' hr'
            obtain ⟨ov, ho1, ho2⟩ := hflat0
            have hrun := run_append_grow (P := P) w t o.type e i z ht hi hz a' olds.length olds.length ov (by rw [hsz]; exact ho2.1) ho1 A els.length c news (by rw [hsz]; exact hflat.1) hcell (by omega) (by omega) (growslice_fits (by omega) (by rw [hby]; exact hb1))
            have hg := grownCap_ge w (olds.length + els.length) olds.length e
            obtain ⟨g1, g2⟩ := grown_cells (olds := ov) (news := news) (z := z.cells) (k := grownCap w (olds.length + els.length) olds.length e) hzs (olds.length + els.length) (by simp [ho2.1, hflat.1, Nat.add_mul]) hg
            obtain ⟨r1, r2, r3, r4⟩ := new_row (K := K) hr (push_drew w _) hK (ho2.append hflat) g1 g2 (by simpa using hg)
            simp only [List.length_append] at r2
            exact ⟨_, _, I, _, .inl (hex a w _ _ (by rw [hve, hx]; exact hrun)), r1, r2, r3, r4⟩
  · rename_i p w0 off n hs
    obtain ⟨⟨rfl, rfl⟩, olds, hob, hnle, hb1, hb2, h⟩ := h
    refine ⟨_, _, h, fun a w I ρ hr hf => ?_⟩
    have hsv := aval_rep hf s
    rw [hs] at hsv
    obtain ⟨b0, n0, c0, hx, hn0, hnews⟩ := hsrc w I ρ _ hr (aval_rep hf x)
    generalize hve : a.eval s = v at hsv
    cases hsv with
    | row _ _ _ _ b c C t' hb hn hB hC =>
      obtain ⟨hblt, hbI, hobj⟩ := own_norm hr hob hb
      obtain ⟨ob, hL, hnorm⟩ := join_some hob
      obtain ⟨C1, t1, hC1, hCs, hfl⟩ := flat_of_obj hobj
      rw [hB] at hC1
      cases hC1
      have hcut := hfl.cut 0 n (by omega)
      simp only [Nat.zero_mul, List.drop_zero, List.take_take] at hcut
      have hnw : n * w0 ≤ olds.length * w0 := Nat.mul_le_mul_right _ hnle
      rw [Nat.min_eq_left hnw] at hcut
      obtain ⟨news, hnl, hcell, hflat⟩ : ∃ news : List Value, (b0 = none ∧ n0 = 0 ∨ ∃ A, b0 = some A ∧ (∀ (j : Nat) (v : Value), news[j]? = some v → w.cell? (A.add j) = some v)) ∧ True ∧ FlatRep w I ρ w0 news els := by
        rcases hnews with h0 | ⟨A, news, rfl, hcell, hflat⟩
        · have : els = [] := List.eq_nil_of_length_eq_zero (by omega)
          subst this
          refine ⟨[], ?_, trivial, by simp, fun i e h => by simp at h⟩
          cases b0 with
          | none => exact .inl ⟨rfl, h0⟩
          | some A => exact .inr ⟨A, rfl, fun j v h => by simp at h⟩
        · exact ⟨news, .inr ⟨A, rfl, hcell⟩, trivial, hflat⟩
      have hall := FlatRep.append hcut hflat
      have hone := flat_scalar hflat hsc
      have hlen : (olds.take n).length = n := by simp; omega
      have hfull : (olds.take n ++ els).length = n + els.length := by simp; omega
      subst hn0
      by_cases hroom : n + els.length ≤ c
      · -- in place
        have hfit : n * w0 + news.length ≤ C.size := by
          rw [hflat.1, ← Nat.add_mul]
          refine Nat.le_trans (Nat.mul_le_mul_right _ hroom) (by simpa using hC)
        have hrun : (Builtin.append_ #[t, t] o.type #[.slice (some ⟨b, 0 * w0, none⟩) n c, .slice b0 els.length c0]).run P w = .ok (.slice (some ⟨b, 0 * w0, none⟩) (n + els.length) c) (w.setRow b (C.toList.take (n * w0) ++ news ++ C.toList.drop (n * w0 + news.length)).toArray) := by
          rw [Nat.zero_mul]
          rcases hnl with ⟨rfl, h0⟩ | ⟨A, rfl, hcell'⟩
          · have he : els = [] := List.eq_nil_of_length_eq_zero h0
            subst he
            have : news = [] := List.eq_nil_of_length_eq_zero (by rw [hflat.1]; simp)
            subst this
            have := empty undef w (some ⟨b, 0, none⟩) n c 0 none c0 (by simpa using hroom)
            simp only [List.length_nil, Nat.add_zero, List.append_nil, List.take_append_drop, Array.toArray_toList]
            rw [this, setRow_self w b C t' (0, 0) hB]
          · have hf := run_firstCells_some (P := P) w i.size els.length A els.length c0 news (by rw [hsz]; exact hflat.1) hcell'
            have hst := run_storeCells_at P b (n * i.size) t' news 0 C w hB (by rw [hsz]; simpa using hfit) hone
            simp only [Nat.add_zero] at hst
            rw [hsz] at hf hst
            simp [Builtin.append_, run_underlying ht, sizeOf, typeInfo, hi, hsz, Builtin.lenOf, hroom, hf, Addr.add_lit, hst]
        have hsize : (C.toList.take (n * w0) ++ news ++ C.toList.drop (n * w0 + news.length)).toArray.size = C.size := by simp; omega
        obtain ⟨r1, r2, r3⟩ := move_obj (K := K) (o' := .arr w0 (olds.take n ++ els)) hr hL hb (chg_setRow hB hsize) hK (fun hle => (hall.mono hle).obj (setRow_heap w b C _ t' _ hB) (fun q v hq => by
          have hlt := (List.getElem?_eq_some_iff.1 hq).1
          have : (C.toList.take (n * w0) ++ news ++ C.toList.drop (n * w0 + news.length))[q]? = some v := by
            rw [List.getElem?_append_left hlt]; exact hq
          simpa using this) (by rw [hsize]; have := hall.1; rw [hfull] at this; rw [this, Nat.add_mul]; rw [hflat.1] at hfit; exact hfit))
        refine ⟨_, _, I, _, .inl (hex a w _ _ (by rw [hve, hx]; exact hrun)), r1, ?_, r2, r3⟩
        exact Rep.row _ _ 0 _ b c _ t' (by rw [← hr.len]; simp) hroom (setRow_heap w b C _ t' _ hB) (by rw [hsize]; exact hC)
      · -- a new row
        have hpos : 0 < els.length := by omega
        rcases hnl with ⟨_, h0⟩ | ⟨A, rfl, hcell'⟩
        · omega
        · have hrun := run_append_grow (P := P) w t o.type e i z ht hi hz ⟨b, 0, none⟩ n c (C.toList.take (n * w0)) (by rw [hsz]; have := hcut.1; rw [hlen] at this; exact this) (fun j v hj => by
              rw [add_none rfl]
              rw [List.getElem?_take] at hj
              split at hj
              · simp only [World.cell?, hB]
                simpa using hj
              · cases hj) A els.length c0 news (by rw [hsz]; exact hflat.1) hcell' (by omega) (by omega) (growslice_fits (by omega) (by rw [hby]; exact hb1))
          have hg := grownCap_ge w (n + els.length) c e
          obtain ⟨g1, g2⟩ := grown_cells (olds := C.toList.take (n * w0)) (news := news) (z := z.cells) (k := grownCap w (n + els.length) c e) hzs (n + els.length) (by rw [hall.1, hfull]) hg
          obtain ⟨r1, r2, r3, r4⟩ := kill_new_row (K := K) (p := p) hr (push_drew w _) hK hall g1 g2 (by rw [hfull]; exact hg)
          rw [hfull] at r2
          refine ⟨_, _, I, _, .inl (hex a w _ _ (by rw [hve, hx, Nat.zero_mul]; exact hrun)), r1, r2, r3, r4⟩
  · exact h.elim
end Go.Proofs.Ytaieiigfheabfaa.Tw

/-! Rows that are made. -/
namespace Go.Proofs.Ytaieiigfheabfaa.Tw
open Go.RowKit
set_option linter.unusedVariables false
set_option linter.unusedSimpArgs false
theorem cput_get (us cs : List Value) : ∀ (o j : Nat), o + us.length ≤ cs.length → (cput cs o us)[j]? = if o ≤ j ∧ j < o + us.length then us[j - o]? else cs[j]? := by
  induction us generalizing cs with
  | nil => intro o j h; simp [cput]; omega
  | cons u us ih =>
    intro o j h
    simp only [List.length_cons] at h
    rw [cput, ih _ (o + 1) j (by simp; omega)]
    by_cases h1 : j = o
    · subst h1
      rw [if_neg (by omega), if_pos (by simp), List.getElem?_set]
      simp; omega
    · by_cases h2 : o + 1 ≤ j ∧ j < o + 1 + us.length
      · rw [if_pos h2, if_pos (by simp; omega), show j - o = (j - (o + 1)) + 1 from by omega]
        simp
      · rw [if_neg h2, if_neg (by simp; omega), List.getElem?_set]
        rw [if_neg (by omega)]
theorem fill_seq (wd : Nat) : ∀ (vs : List Value) (k : Nat) (C : Array Value), (∀ v ∈ vs, v.cells.size = wd) → (k + vs.length) * wd ≤ C.size →
    ∃ D, Instr.fill (fun i => some (i * wd, wd)) C ((vs.zipIdx k).map fun x => (x.2, x.1)) = some D ∧ D.size = C.size ∧ (∀ q, q < k * wd → D[q]? = C[q]?) ∧
      ∀ (i : Nat) (v : Value), vs[i]? = some v → ∀ (j : Nat) (u : Value), v.cells[j]? = some u → D[(k + i) * wd + j]? = some u
  | [], k, C, _, _ => ⟨C, rfl, rfl, fun _ _ => rfl, fun i v h => by simp at h⟩
  | v :: vs, k, C, hw, hC => by
    have hv := hw v (by simp)
    simp only [List.length_cons] at hC
    have hk : (k + 1) * wd ≤ (k + (vs.length + 1)) * wd := Nat.mul_le_mul_right _ (by omega)
    rw [Nat.add_mul, Nat.one_mul] at hk
    have hno : ¬ (v.cells.size ≠ wd || decide (k * wd + v.cells.size > C.size)) = true := by simp [hv]; omega
    have hfold : (v.cells.zipIdx.foldl (fun cs (x : Value × Nat) => cs.setIfInBounds (k * wd + x.2) x.1) C) = (cput C.toList (k * wd) v.cells.toList).toArray := by
      have := fold_cput (k * wd) v.cells.toList 0 C
      rw [← Array.foldl_toList]
      simpa using this
    have hsize : (cput C.toList (k * wd) v.cells.toList).toArray.size = C.size := by simp [cput_length]
    obtain ⟨D, h1, h2, h3, h4⟩ := fill_seq wd vs (k + 1) (cput C.toList (k * wd) v.cells.toList).toArray (fun u hu => hw u (by simp [hu])) (by rw [hsize, show k + 1 + vs.length = k + (vs.length + 1) from by omega]; exact hC)
    have hget : ∀ q, (cput C.toList (k * wd) v.cells.toList).toArray[q]? = if k * wd ≤ q ∧ q < k * wd + wd then v.cells[q - k * wd]? else C[q]? := by
      intro q
      have := cput_get v.cells.toList C.toList (k * wd) q (by simp [hv]; omega)
      simp only [Array.length_toList, hv] at this
      simpa using this
    refine ⟨D, ?_, by rw [h2, hsize], fun q hq => ?_, fun i u hu j x hx => ?_⟩
    · rw [List.zipIdx_cons, List.map_cons]
      simp only [Instr.fill]
      rw [if_neg hno, ← hfold] at *
      exact h1
    · rw [h3 q (by rw [Nat.add_mul]; omega), hget, if_neg (by omega)]
    · cases i with
      | zero =>
        simp at hu
        subst hu
        have hj : j < wd := by have := (Array.getElem?_eq_some_iff.1 hx).1; omega
        rw [Nat.add_zero, h3 _ (by rw [Nat.add_mul]; omega), hget, if_pos (by omega), show k * wd + j - k * wd = j from by omega]
        exact hx
      | succ i =>
        have := h4 i u (by simpa using hu) j x hx
        rwa [show k + 1 + i = k + (i + 1) from by omega] at this
def abuildSlice (P : Program) (K : Nat) (L : Store) (t : TypeId) (len : Nat) (parts : List (Nat × AV)) (N : AV → Store → Prop) : Prop :=
  match P.underlying t with
  | some (.slice e) => ∃ wd by', (elemB P e wd by' = true ∧ len * wd ≤ 16777216 ∧ parts.map (·.1) = List.range len ∧ parts.all (fun p => p.2.known && p.2.cells.length == wd) = true) ∧ N (.slt wd (parts.map (·.2))) L
  | _ => False
theorem zip_parts {α : Type} (ps : List (Nat × α)) (len : Nat) (h : ps.map (·.1) = List.range len) : ps = ((ps.map (·.2)).zipIdx 0).map fun x => (x.2, x.1) := by
  apply List.ext_getElem?
  intro j
  rw [List.getElem?_map, List.getElem?_zipIdx, List.getElem?_map]
  cases hj : ps[j]? with
  | none => simp
  | some p =>
    have := congrArg (fun l => l[j]?) h
    simp only [List.getElem?_map, hj, Option.map_some] at this
    have hl : j < len := by
      have h1 := (List.getElem?_eq_some_iff.1 hj).1
      have h2 := congrArg List.length h
      simp at h2
      omega
    rw [List.getElem?_range hl] at this
    simp at this
    simp [← this]
theorem abuildSlice_ok {P : Program} {K : Nat} {L : Store} {o : Oper} {t : TypeId} {len : Nat} {parts : Array (Nat × Operand)} {fr : AFr} {N : AV → Store → Prop} (ho : o.op = .buildSlice t len parts) (h : abuildSlice P K L t len (parts.toList.map fun p => (p.1, aval fr p.2)) N) :
    ∃ els, N (.slt (((P.underlying t).map fun | .slice e => P.cellsOf e | _ => 0).getD 0) els) L ∧ ∀ (a : Act) (w : World) (I : Nat → Prop) (ρ : List Nat), Rel w I ρ L → RepF w I ρ a.tmps fr →
      ∃ v w', (execOp a.eval o).run P w = .ok (.value v) w' ∧ Rel w' (fun b => I b ∨ b = w.heap.size) ρ L ∧ Rep w' (fun b => I b ∨ b = w.heap.size) ρ v (.slt (((P.underlying t).map fun | .slice e => P.cellsOf e | _ => 0).getD 0) els) ∧ Le w I ρ w' (fun b => I b ∨ b = w.heap.size) ρ ∧ Ev K w I ρ L w' (fun b => I b ∨ b = w.heap.size) ρ L := by
  unfold abuildSlice at h
  split at h
  case h_2 => exact h.elim
  rename_i e ht
  obtain ⟨wd, by', ⟨hel, hlen, hix, hall⟩, h⟩ := h
  obtain ⟨i, z, hi, hsz, hby, hz, hzs⟩ := elemB_spec hel
  have hwd : (((P.underlying t).map fun | .slice e => P.cellsOf e | _ => 0).getD 0) = wd := by simp [ht, Program.cellsOf, hi, hsz]
  rw [hwd]
  refine ⟨_, h, fun a w I ρ hr hf => ?_⟩
  have hnum : parts.toList.length = len := by have := congrArg List.length hix; simpa using this
  let vs := parts.toList.map fun p => a.eval p.2
  have hvs : ∀ (j : Nat) (v : Value) (x : AV), vs[j]? = some v → ((parts.toList.map fun p => (p.1, aval fr p.2)).map (·.2))[j]? = some x → Rep w I ρ v x ∧ x.known = true ∧ x.cells.length = wd := by
    intro j v x hv hx
    simp only [vs, List.getElem?_map] at hv hx
    cases hp : parts.toList[j]? with
    | none => rw [hp] at hv; cases hv
    | some p =>
      rw [hp] at hv hx
      cases hv; cases hx
      have := List.all_eq_true.1 hall (p.1, aval fr p.2) (List.mem_map.2 ⟨p, List.mem_of_getElem? hp, rfl⟩)
      simp only [Bool.and_eq_true, beq_iff_eq] at this
      exact ⟨aval_rep hf p.2, this.1, this.2⟩
  have hsizes : ∀ v ∈ vs, v.cells.size = wd := by
    intro v hv
    obtain ⟨j, hj⟩ := List.getElem?_of_mem hv
    obtain ⟨x, hx⟩ : ∃ x, ((parts.toList.map fun p => (p.1, aval fr p.2)).map (·.2))[j]? = some x := by
      have := (List.getElem?_eq_some_iff.1 hj).1
      exact ⟨_, List.getElem?_eq_getElem (by simpa [vs] using this)⟩
    obtain ⟨h1, h2, h3⟩ := hvs j v x hj hx
    have := (cells_rep h1 h2).1
    simp at this
    omega
  have hvl : vs.length = len := by simp [vs, hnum]
  let C0 : Array Value := (Array.range (len * wd)).map (fun q => (if len * wd = 0 then (#[] : Array Value) else z.cells)[q % (if len * wd = 0 then (#[] : Array Value) else z.cells).size]!)
  have hC0 : C0.size = len * wd := by simp [C0]
  obtain ⟨D, h1, h2, h3, h4⟩ := fill_seq wd vs 0 C0 hsizes (by rw [hC0, Nat.zero_add, hvl]; exact Nat.le_refl _)
  have hparts : (parts.map fun p => (p.1, a.eval p.2)).toList = (vs.zipIdx 0).map fun x => (x.2, x.1) := by
    have := zip_parts (parts.toList.map fun p => (p.1, a.eval p.2)) len (by rw [List.map_map] at hix ⊢; exact hix)
    simp only [Array.toList_map]
    rw [this, List.map_map]
    rfl
  have hrun : (execOp a.eval o).run P w = .ok (.value (.slice (some ⟨w.heap.size, 0, none⟩) len len)) (w.alloc (Obj.cells D e (0, 0))) := by
    have hb : (Instr.buildSlice t len (parts.map fun p => (p.1, a.eval p.2))).run P w = .ok (.slice (some ⟨w.heap.size, 0, none⟩) len len) (w.alloc (Obj.cells D e (0, 0))) := by
      have hno : ¬ (len * wd > 2 ^ 24) := by omega
      unfold Instr.buildSlice
      simp only [Sem.run_bind, run_underlying ht, Result.andThen_ok, sizeOf, typeInfo, run_program, Sem.run_pure, hi, hsz]
      rw [if_neg hno]
      have hfill : Instr.fill (fun i => some (i * wd, wd)) C0 (parts.map fun p => (p.1, a.eval p.2)).toList = some D := by rw [hparts]; exact h1
      by_cases h0 : len * wd = 0
      · have hC1 : C0 = (Array.range (len * wd)).map (fun q => (#[] : Array Value)[q % (#[] : Array Value).size]!) := by simp only [C0]; rw [if_pos h0]
        rw [if_pos h0]
        rw [hC1] at hfill
        simp only [Sem.run_bind, Sem.run_pure, Result.andThen_ok, hfill]
        simp [newRow]
      · have hC1 : C0 = (Array.range (len * wd)).map (fun q => z.cells[q % z.cells.size]!) := by simp only [C0]; rw [if_neg h0]
        rw [if_neg h0]
        rw [hC1] at hfill
        simp only [Sem.run_bind, Sem.run_pure, Result.andThen_ok, zeroValue, typeInfo, run_program, hi, hz, hfill]
        simp [newRow]
    simp only [execOp, ho, Sem.run_bind]
    rw [show (parts.map fun x => match x with | (i, x) => (i, a.eval x)) = parts.map fun p => (p.1, a.eval p.2) from rfl, hb]
    rfl
  obtain ⟨r1, r2, r3⟩ := alloc_imm (K := K) hr (push_alloc w (Obj.cells D e (0, 0)))
  refine ⟨_, _, hrun, r1, ?_, r2, r3⟩
  have hlen2 : ((parts.toList.map fun p => (p.1, aval fr p.2)).map (·.2)).length = len := by simp [hnum]
  have hcellv : ∀ (i : Nat) (e' : AV) (j : Nat) (c : AV), ((parts.toList.map fun p => (p.1, aval fr p.2)).map (·.2))[i]? = some e' → e'.cells[j]? = some c → ∃ v, D[i * wd + j]? = some v ∧ Rep w I ρ v c := by
    intro i' e' j c he hc
    have hil := (List.getElem?_eq_some_iff.1 he).1
    have hv : vs[i']? = some (vs[i']'(by omega)) := List.getElem?_eq_getElem (by omega)
    obtain ⟨q1, q2, q3⟩ := hvs i' _ e' hv he
    have hcr := cells_rep q1 q2
    have hjl := (List.getElem?_eq_some_iff.1 hc).1
    have hjl' : j < (vs[i']'(by omega)).cells.toList.length := by rw [hcr.1]; exact hjl
    have hu : (vs[i']'(by omega)).cells.toList[j]? = some ((vs[i']'(by omega)).cells.toList[j]'hjl') := List.getElem?_eq_getElem hjl'
    have := h4 i' _ hv j _ (by rw [← Array.getElem?_toList]; exact hu)
    rw [Nat.zero_add] at this
    exact ⟨_, this, hcr.2 j _ c hu hc⟩
  refine Rep.slt _ ⟨w.heap.size, 0, none⟩ len wd _ (fun i j => (D[i * wd + j]?).getD undef) hlen2.symm (.inr ⟨rfl, rfl, .inr rfl⟩) (fun e' he => ?_) (fun i' j hi' hj => ?_) (fun i' e' j c he hc => ?_)
  · obtain ⟨j, hj⟩ := List.getElem?_of_mem he
    have hjl := (List.getElem?_eq_some_iff.1 hj).1
    exact (hvs j _ e' (List.getElem?_eq_getElem (by omega)) hj).2.2
  · have he : ((parts.toList.map fun p => (p.1, aval fr p.2)).map (·.2))[i']? = some (((parts.toList.map fun p => (p.1, aval fr p.2)).map (·.2))[i']'hi') := List.getElem?_eq_getElem hi'
    have hv : vs[i']? = some (vs[i']'(by omega)) := List.getElem?_eq_getElem (by omega)
    have hl := (hvs i' _ _ hv he).2.2
    obtain ⟨v, hv, _⟩ := hcellv i' _ j _ he (List.getElem?_eq_getElem (by rw [hl]; exact hj))
    have hnew := (push_alloc w (Obj.cells D e (0, 0))).new
    simp only [World.cell?, hnew]
    simp [hv]
  · obtain ⟨v, hv, hrep⟩ := hcellv i' e' j c he hc
    simp only [hv, Option.getD_some]
    exact hrep.mono r2
/-- A row of bytes is made. -/
def amakeB (P : Program) (L : Store) (t : TypeId) (l c : AV) (N : AV → Store → Prop) : Prop :=
  match l, c with
  | .int _ n, .int _ m => (n = m ∧ 0 ≤ n ∧ n ≤ 1000000 ∧ ∃ e, P.underlying t = some (.slice e) ∧ elemB P e 1 1 = true ∧ azero P e = some (.int .u8 0)) ∧ N (.slt 1 (List.replicate n.toNat (.int .u8 0))) L
  | _, _ => False
theorem madeCells_one (v : Value) (m q : Nat) (h : q < m) : (madeCells #[v] m)[q]? = some v := by
  unfold madeCells
  rw [Array.getElem?_map]
  have : (Array.range m)[q]? = some q := by simp [h]
  rw [this]
  simp [Nat.mod_one]
theorem amakeB_ok {P : Program} {K : Nat} {o : Oper} {t : TypeId} {l c : Operand} {fr : AFr} {L : Store} {N : AV → Store → Prop} (ho : o.op = .makeSlice t l c) (h : amakeB P L t (aval fr l) (aval fr c) N) : WOk P K L (fun a w => (execOp a.eval o).run P w) fr N := by
  unfold amakeB at h
  split at h
  case h_2 => exact h.elim
  rename_i k n k' m hl hc
  obtain ⟨⟨rfl, h0, h1, e, ht, hel, hz0⟩, hN⟩ := h
  obtain ⟨i, z, hi, hsz, hby, hz, hzs⟩ := elemB_spec hel
  have hzv : z = .int .u8 0 := by
    simp only [azero, hi, Option.bind_some, hz, Option.map_some, Option.some.injEq] at hz0
    unfold ofVal at hz0
    split at hz0 <;> first | (cases hz0; rfl) | cases hz0
  subst hzv
  refine ⟨_, L, hN, fun a w I ρ hr hf => ?_⟩
  have hlv := aval_rep hf l
  have hcv := aval_rep hf c
  rw [hl] at hlv
  rw [hc] at hcv
  have hrun := run_makeSlice (P := P) w t e i _ ht hi hz k k' n n h0 (Int.le_refl _) (by rw [hsz]; omega) (by rw [hby]; omega) (by omega)
  have hex : (execOp a.eval o).run P w = .ok (.value (.slice (some ⟨w.heap.size, 0, none⟩) n.toNat n.toNat)) (w.alloc (.cells (madeCells (Value.int .u8 0).cells (n.toNat * i.size)) e)) := by
    simp [execOp, ho, hlv.int_inv, hcv.int_inv, hrun]
  obtain ⟨r1, r2, r3⟩ := alloc_imm (K := K) hr (push_alloc w (Obj.cells (madeCells (Value.int .u8 0).cells (n.toNat * i.size)) e (0, 0)))
  refine ⟨_, _, _, ρ, .inl hex, r1, ?_, r2, r3⟩
  have hnew := (push_alloc w (Obj.cells (madeCells (Value.int .u8 0).cells (n.toNat * i.size)) e (0, 0))).new
  refine Rep.slt _ ⟨w.heap.size, 0, none⟩ n.toNat 1 _ (fun _ _ => .int .u8 0) (by simp) (.inr ⟨rfl, rfl, .inr rfl⟩) (fun e' he => ?_) (fun i' j hi' hj => ?_) (fun i' e' j c' he hc' => ?_)
  · rw [List.mem_replicate] at he
    rw [he.2]
    rfl
  · simp at hi'
    obtain rfl : j = 0 := by omega
    simp only [World.cell?, hnew]
    exact madeCells_one _ _ _ (by rw [hsz]; omega)
  · have h2 := List.mem_of_getElem? he
    rw [List.mem_replicate] at h2
    rw [h2.2] at hc'
    have : c' = .int .u8 0 := by
      simp only [AV.cells] at hc'
      cases j with
      | zero => simpa using hc'.symm
      | succ j => simp at hc'
    rw [this]
    exact .int _ _
/-- A string's bytes, put behind a row. -/
def aappendS (P : Program) (K : Nat) (L : Store) (t u : TypeId) (s x : AV) (N : AV → Store → Prop) : Prop :=
  match s, x with
  | .row p w0 off n, .str str => (w0 = 1 ∧ off = 0 ∧ K ≤ L.length ∧ P.underlying u = some .string ∧ ∃ e, P.underlying t = some (.slice e) ∧ elemB P e 1 1 = true) ∧ ∃ olds, aobj L p = some (.arr 1 olds) ∧ n ≤ olds.length ∧ n + str.size ≤ 140737488355328 ∧
      N (.row L.length 1 0 (n + str.size)) (L.set p none ++ [some (.arr 1 (olds.take n ++ bytesAV str.data.toList))])
  | _, _ => False
theorem bytes_flat (w : World) (I : Nat → Prop) (ρ : List Nat) (s : ByteArray) : FlatRep w I ρ 1 (byteCells s) (bytesAV s.data.toList) := by
  refine ⟨by simp [byteCells, bytesAV], fun i e he => ?_⟩
  simp only [bytesAV, List.getElem?_map, Option.map_eq_some_iff] at he
  obtain ⟨b, hb, rfl⟩ := he
  refine ⟨rfl, fun j c hc => ?_⟩
  cases j with
  | zero =>
    simp [AV.cells] at hc
    subst hc
    exact ⟨.int .u8 b.toNat, by simp [byteCells, List.getElem?_map, hb], .int _ _⟩
  | succ j => simp [AV.cells] at hc
theorem aappendS_ok {P : Program} {K : Nat} {L : Store} {o : Oper} {t u : TypeId} {s x : Operand} {fr : AFr} {N : AV → Store → Prop} (ho : o.op = .call ⟨.builtin .append, #[s, x], #[t, u]⟩) (h : aappendS P K L t u (aval fr s) (aval fr x) N) : WOk P K L (fun a w => (execOp a.eval o).run P w) fr N := by
  have hex : ∀ (a : Act) (w : World) (v : Value) (w' : World), (Builtin.append_ #[t, u] o.type #[a.eval s, a.eval x]).run P w = .ok v w' → (execOp a.eval o).run P w = .ok (.value v) w' := by
    intro a w v w' hrun
    simp [execOp, ho, resolve, invoke, builtin, hrun]
  unfold aappendS at h
  split at h
  case h_2 => exact h.elim
  rename_i p w0 off n str hs hx
  obtain ⟨⟨rfl, rfl, hK, hu, e, ht, hel⟩, olds, hob, hnle, hb1, h⟩ := h
  obtain ⟨i, z, hi, hsz, hby, hz, hzs⟩ := elemB_spec hel
  refine ⟨_, _, h, fun a w I ρ hr hf => ?_⟩
  have hsv := aval_rep hf s
  have hxv := aval_rep hf x
  rw [hs] at hsv
  rw [hx] at hxv
  have hxe : a.eval x = .string str := by generalize a.eval x = v at hxv; cases hxv; rfl
  generalize hve : a.eval s = v at hsv
  cases hsv with
  | row _ _ _ _ b c C t' hb hn hB hC =>
    obtain ⟨hblt, hbI, hobj⟩ := own_norm hr hob hb
    obtain ⟨ob, hL, hnorm⟩ := join_some hob
    obtain ⟨C1, t1, hC1, hCs, hfl⟩ := flat_of_obj hobj
    rw [hB] at hC1
    cases hC1
    have hcut := hfl.cut 0 n (by omega)
    simp only [Nat.zero_mul, List.drop_zero, List.take_take] at hcut
    have hnw : n * 1 ≤ olds.length * 1 := Nat.mul_le_mul_right _ hnle
    rw [Nat.min_eq_left hnw] at hcut
    have hflat := bytes_flat w I ρ str
    have hlb : (bytesAV str.data.toList).length = str.size := by simp only [bytesAV, List.length_map, Array.length_toList]; rfl
    have hall := FlatRep.append hcut hflat
    have hsrc := Src.ofString (P := P) w hu str
    have hlen : (olds.take n).length = n := by simp; omega
    have hfull : (olds.take n ++ bytesAV str.data.toList).length = n + str.size := by rw [List.length_append, hlen, hlb]
    have hbl := byteCells_length str
    by_cases hroom : n + str.size ≤ c
    · have hfit : n * 1 + (byteCells str).length ≤ C.size := by rw [hbl]; simp at hC; omega
      have hrun : (Builtin.append_ #[t, u] o.type #[.slice (some ⟨b, 0 * 1, none⟩) n c, .string str]).run P w = .ok (.slice (some ⟨b, 0 * 1, none⟩) (n + str.size) c) (w.setRow b (C.toList.take (n * 1) ++ byteCells str ++ C.toList.drop (n * 1 + (byteCells str).length)).toArray) := by
        have hst := run_storeCells_at P b (n * i.size) t' (byteCells str) 0 C w hB (by rw [hsz]; simpa using hfit) hsrc.one
        simp only [Nat.add_zero] at hst
        rw [hsz] at hst
        have hc1 := hsrc.cells
        simp at hst
        simp [Builtin.append_, run_underlying ht, run_underlying hu, sizeOf, typeInfo, hi, hsz, hsrc.len, hroom, hc1, Addr.add_lit, hst]
      have hsize : (C.toList.take (n * 1) ++ byteCells str ++ C.toList.drop (n * 1 + (byteCells str).length)).toArray.size = C.size := by simp; omega
      obtain ⟨r1, r2, r3⟩ := move_obj (K := K) (o' := .arr 1 (olds.take n ++ bytesAV str.data.toList)) hr hL hb (chg_setRow hB hsize) hK (fun hle => (hall.mono hle).obj (setRow_heap w b C _ t' _ hB) (fun q v hq => by
        have hlt := (List.getElem?_eq_some_iff.1 hq).1
        have : (C.toList.take (n * 1) ++ byteCells str ++ C.toList.drop (n * 1 + (byteCells str).length))[q]? = some v := by
          rw [List.getElem?_append_left hlt]; exact hq
        simpa using this) (by rw [hsize]; simp at hfit ⊢; omega))
      refine ⟨_, _, I, _, .inl (hex a w _ _ (by rw [hve, hxe]; exact hrun)), r1, ?_, r2, r3⟩
      exact Rep.row _ _ 0 _ b c _ t' (by rw [← hr.len]; simp) hroom (setRow_heap w b C _ t' _ hB) (by rw [hsize]; exact hC)
    · have hold : (Builtin.firstCells i.size n (.slice (some ⟨b, 0, none⟩) n c)).run P w.drew = .ok (C.toList.take (n * 1)).toArray w.drew := by
        refine run_firstCells_some (P := P) w.drew i.size n ⟨b, 0, none⟩ n c _ (by rw [hsz]; have := hcut.1; rw [hlen] at this; exact this) (fun j v hj => ?_)
        rw [add_none rfl]
        rw [List.getElem?_take] at hj
        split at hj
        · have hd : w.drew.heap[b]? = some (Obj.cells C t' (0, 0)) := hB
          simp only [World.cell?, hd]
          simpa using hj
        · cases hj
      have hrun := run_append_grow_src (P := P) w t u o.type e i z ht hi hz (some ⟨b, 0, none⟩) n c (C.toList.take (n * 1)) hold (.string str) str.size (byteCells str) (by rw [hsz]; exact hsrc) (by omega) (by omega) (growslice_fits (by omega) (by rw [hby]; omega))
      rw [show (C.toList.take (n * 1) ++ byteCells str).toArray = (C.toList.take (n * 1)).toArray ++ (byteCells str).toArray from by simp] at hrun
      have hg := grownCap_ge w (n + str.size) c e
      obtain ⟨g1, g2⟩ := grown_cells (olds := C.toList.take (n * 1)) (news := byteCells str) (z := z.cells) (k := grownCap w (n + str.size) c e) hzs (n + str.size) (by rw [hall.1, hfull]) hg
      obtain ⟨r1, r2, r3, r4⟩ := kill_new_row (K := K) (p := p) hr (push_drew w _) hK hall g1 g2 (by rw [hfull]; exact hg)
      rw [hfull] at r2
      refine ⟨_, _, I, _, .inl (hex a w _ _ (by rw [hve, hxe, Nat.zero_mul]; exact hrun)), r1, r2, r3, r4⟩
/-- A row of truth values is made, ours. -/
def amakeR (P : Program) (K : Nat) (L : Store) (t : TypeId) (l c : AV) (N : AV → Store → Prop) : Prop :=
  match l, c with
  | .int _ n, .int _ m => (n = m ∧ 0 ≤ n ∧ n ≤ 1000000 ∧ K ≤ L.length ∧ ∃ e, P.underlying t = some (.slice e) ∧ elemB P e 1 1 = true ∧ azero P e = some (.bool false)) ∧ ∃ (q : Nat) (els : List AV), q = n.toNat ∧ els = List.replicate q (.bool false) ∧ N (.row L.length 1 0 q) (L ++ [some (.arr 1 els)])
  | _, _ => False
theorem amakeR_ok {P : Program} {K : Nat} {o : Oper} {t : TypeId} {l c : Operand} {fr : AFr} {L : Store} {N : AV → Store → Prop} (ho : o.op = .makeSlice t l c) (h : amakeR P K L t (aval fr l) (aval fr c) N) : WOk P K L (fun a w => (execOp a.eval o).run P w) fr N := by
  unfold amakeR at h
  split at h
  case h_2 => exact h.elim
  rename_i k n k' m hl hc
  obtain ⟨⟨rfl, h0, h1, hK, e, ht, hel, hz0⟩, q, els, hq, hels, hN⟩ := h
  subst hq
  obtain ⟨i, z, hi, hsz, hby, hz, hzs⟩ := elemB_spec hel
  have hzv : z = .bool false := by
    simp only [azero, hi, Option.bind_some, hz, Option.map_some, Option.some.injEq] at hz0
    unfold ofVal at hz0
    split at hz0 <;> first | (cases hz0; rfl) | cases hz0
  subst hzv
  refine ⟨_, _, hN, fun a w I ρ hr hf => ?_⟩
  have hlv := aval_rep hf l
  have hcv := aval_rep hf c
  rw [hl] at hlv
  rw [hc] at hcv
  have hrun := run_makeSlice (P := P) w t e i _ ht hi hz k k' n n h0 (Int.le_refl _) (by rw [hsz]; omega) (by rw [hby]; omega) (by omega)
  have hex : (execOp a.eval o).run P w = .ok (.value (.slice (some ⟨w.heap.size, 0, none⟩) n.toNat n.toNat)) (w.alloc (.cells (madeCells (Value.bool false).cells (n.toNat * i.size)) e)) := by
    simp [execOp, ho, hlv.int_inv, hcv.int_inv, hrun]
  have hlen : els.length = n.toNat := by rw [hels]; simp
  have hms : (madeCells (Value.bool false).cells (n.toNat * i.size)).size = n.toNat * 1 := by
    rw [hsz]; simp [madeCells]
  obtain ⟨r1, r2, r3, r4⟩ := new_row (K := K) (els := els) (wd := 1) (cap := n.toNat) (vals := List.replicate n.toNat (.bool false)) hr (push_alloc w (Obj.cells (madeCells (Value.bool false).cells (n.toNat * i.size)) e (0, 0))) hK
    ⟨by simp [hlen], fun j x hx => by
      have hm := List.mem_of_getElem? hx
      rw [hels, List.mem_replicate] at hm
      have hj := (List.getElem?_eq_some_iff.1 hx).1
      refine ⟨by rw [hm.2]; rfl, fun j' c' hc' => ?_⟩
      rw [hm.2] at hc'
      simp only [AV.cells] at hc'
      cases j' with
      | zero =>
        refine ⟨.bool false, by rw [List.getElem?_replicate, if_pos (by omega)], ?_⟩
        have : c' = .bool false := by simpa using hc'.symm
        rw [this]; exact .bool _
      | succ j' => simp at hc'⟩
    (fun j v hv => by
      have hm := List.mem_of_getElem? hv
      rw [List.mem_replicate] at hm
      have hj := (List.getElem?_eq_some_iff.1 hv).1
      simp at hj
      rw [hm.2]
      exact madeCells_one _ _ _ (by rw [hsz]; omega)) hms.symm (by rw [hlen]; exact Nat.le_refl _)
  rw [hlen] at r2
  refine ⟨_, _, I, _, .inl hex, r1, ?_, r3, r4⟩
  exact r2
end Go.Proofs.Ytaieiigfheabfaa.Tw
