import Derived.Test.YtpjibokaeefhiaaTwA
import Derived.Deep.LoopGhost
/-! Stores of objects; the abstract walk of code. -/
namespace Go.Proofs.Ytpjibokaeefhiaa.Tw
open Go.RowKit
set_option linter.unusedVariables false
abbrev Store := List (Option AO)
def agetL : List (Nat × AV) → Nat → AV
  | [], _ => .any
  | (d, v) :: fr, t => if t = d then v else agetL fr t
/-- An object as it lies in block b. -/
def ObjRel (w : World) (I : Nat → Prop) (ρ : List Nat) (b : Nat) : AO → Prop
  | .arr wd els => ∃ (C : Array Value) (t : TypeId), w.heap[b]? = some (Obj.cells C t (0, 0)) ∧ els.length * wd ≤ C.size ∧
      ∀ (i : Nat) (e : AV), els[i]? = some e → e.cells.length = wd ∧ ∀ (j : Nat) (c : AV), e.cells[j]? = some c → ∃ v : Value, C[i * wd + j]? = some v ∧ Rep w I ρ v c
  | .box wd e => ∃ (C : Array Value) (t : TypeId), w.heap[b]? = some (Obj.cells C t (0, 0)) ∧ [e].length * wd ≤ C.size ∧
      ∀ (i : Nat) (e' : AV), [e][i]? = some e' → e'.cells.length = wd ∧ ∀ (j : Nat) (c : AV), e'.cells[j]? = some c → ∃ v : Value, C[i * wd + j]? = some v ∧ Rep w I ρ v c
  | .mp es => ∃ (E : Array MapEntry) (k : Nat), w.heap[b]? = some (Obj.map E k) ∧ E.size = es.length ∧
      ∀ (i : Nat) (x : AV × AV) (e : MapEntry), es[i]? = some x → E[i]? = some e → Rep w I ρ e.key x.1 ∧ Rep w I ρ e.val x.2
  | .loop st pend n l ps assign body => ∃ (fn : FuncId) (tmps : Array Value) (D : Nat), w.heap[b]? = some (Obj.loop { state := st, pending := pend, fn, tmps, params := ps, assign, body, defers := D }) ∧ tmps.size = n ∧ ∀ t, Rep w I ρ (tmps.getD t undef) (agetL l t)
/-- The block of a live object. -/
def Owned (ρ : List Nat) (L : Store) (b : Nat) : Prop := ∃ (p : Nat) (o : AO), L[p]? = some (some o) ∧ ρ[p]? = some b
structure Rel (w : World) (I : Nat → Prop) (ρ : List Nat) (L : Store) : Prop where
  len : ρ.length = L.length
  own : ∀ (p : Nat) (o : AO) (b : Nat), L[p]? = some (some o) → ρ[p]? = some b → b < w.heap.size ∧ ¬ I b ∧ ObjRel w I ρ b o
  inj : ∀ (p q : Nat) (o o' : AO) (b : Nat), L[p]? = some (some o) → L[q]? = some (some o') → ρ[p]? = some b → ρ[q]? = some b → p = q
  imm : ∀ b, I b → b < w.heap.size
/-- What code may do: blocks that no object of ours has stay; the rest is new. -/
structure Ev (K : Nat) (w : World) (I : Nat → Prop) (ρ : List Nat) (L : Store) (w' : World) (I' : Nat → Prop) (ρ' : List Nat) (L' : Store) : Prop where
  os : w'.os = w.os
  tape : w'.tape = w.tape
  output : w'.output = w.output
  size : w.heap.size ≤ w'.heap.size
  keep : ∀ b, b < w.heap.size → ¬ Owned ρ L b → w'.heap[b]? = w.heap[b]?
  imm : ∀ b, I b → I' b
  imm' : ∀ b, I' b → I b ∨ w.heap.size ≤ b ∨ Owned ρ L b
  own : ∀ b, Owned ρ' L' b → Owned ρ L b ∨ w.heap.size ≤ b
  cells : ∀ (b : Nat) (C : Array Value) (t : TypeId), w.heap[b]? = some (Obj.cells C t (0, 0)) → ∃ C' : Array Value, w'.heap[b]? = some (Obj.cells C' t (0, 0)) ∧ C'.size = C.size
  rho : ∀ p, p < K → ρ'[p]? = ρ[p]?
theorem Ev.refl (K w I ρ L) : Ev K w I ρ L w I ρ L := ⟨rfl, rfl, rfl, Nat.le_refl _, fun _ _ _ => rfl, fun _ h => h, fun _ h => .inl h, fun _ h => .inl h, fun b C t h => ⟨C, h, rfl⟩, fun _ _ => rfl⟩
theorem Ev.trans {K w I ρ L w' I' ρ' L' w'' I'' ρ'' L''} (h : Ev K w I ρ L w' I' ρ' L') (k : Ev K w' I' ρ' L' w'' I'' ρ'' L'') : Ev K w I ρ L w'' I'' ρ'' L'' :=
  ⟨k.os.trans h.os, k.tape.trans h.tape, k.output.trans h.output, Nat.le_trans h.size k.size,
   fun b hb hn => (k.keep b (Nat.lt_of_lt_of_le hb h.size) (fun ho => by rcases h.own b ho with x | x; exact hn x; omega)).trans (h.keep b hb hn),
   fun b hb => k.imm b (h.imm b hb),
   fun b hb => by
    rcases k.imm' b hb with x | x | x
    · exact h.imm' b x
    · exact .inr (.inl (Nat.le_trans h.size x))
    · rcases h.own b x with y | y
      · exact .inr (.inr y)
      · exact .inr (.inl y),
   fun b hb => by
    rcases k.own b hb with x | x
    · exact h.own b x
    · exact .inr (Nat.le_trans h.size x),
   fun b C t hb => let ⟨C1, h1, e1⟩ := h.cells b C t hb; let ⟨C2, h2, e2⟩ := k.cells b C1 t h1; ⟨C2, h2, e2.trans e1⟩,
   fun p hp => (k.rho p hp).trans (h.rho p hp)⟩
theorem Rel.free {w I ρ L} (h : Rel w I ρ L) {b : Nat} (hb : I b) : ¬ Owned ρ L b := fun ⟨p, o, hp, hr⟩ => (h.own p o b hp hr).2.1 hb
/-- What is kept by a step keeps its meaning, if the objects' places stay. -/
theorem Ev.le {K w I ρ L w' I' ρ' L'} (h : Ev K w I ρ L w' I' ρ' L') (hr : Rel w I ρ L) (hρ : ∀ (p b : Nat), ρ[p]? = some b → ρ'[p]? = some b) : Le w I ρ w' I' ρ' :=
  ⟨fun b hb => h.keep b (hr.imm b hb) (hr.free hb), h.imm, hρ, h.cells⟩
/-- Frames: the newest entry of a temporary counts. -/
structure AFr where
  n : Nat
  l : List (Nat × AV)
def aget (fr : AFr) (t : Nat) : AV := agetL fr.l t
def RepF (w : World) (I : Nat → Prop) (ρ : List Nat) (tmps : Array Value) (fr : AFr) : Prop := tmps.size = fr.n ∧ ∀ t, Rep w I ρ (tmps.getD t undef) (aget fr t)
theorem RepF.mono {w w' : World} {I I' : Nat → Prop} {ρ ρ' : List Nat} (L : Le w I ρ w' I' ρ') {tmps : Array Value} {fr : AFr} (h : RepF w I ρ tmps fr) : RepF w' I' ρ' tmps fr := ⟨h.1, fun t => (h.2 t).mono L⟩
/-- The mark of a range over a function. -/
def markOf (D : Nat) : Deferred := { target := .collected D, args := #[] }
/-- The deferred calls: marks only, younger than S. -/
def DefOk (S : Nat) (w : World) (I : Nat → Prop) (ds : List Deferred) : Prop :=
  S ≤ w.heap.size ∧ ∃ Ds : List Nat, ds = Ds.map markOf ∧ Ds.Nodup ∧ ∀ D ∈ Ds, S ≤ D ∧ I D ∧ w.heap[D]? = some (.deferred (some []))
theorem DefOk.mono {S : Nat} {w w' : World} {I I' : Nat → Prop} {ρ ρ' : List Nat} (L : Le w I ρ w' I' ρ') (hsz : w.heap.size ≤ w'.heap.size) {ds : List Deferred} (h : DefOk S w I ds) : DefOk S w' I' ds := by
  obtain ⟨h0, Ds, h1, h2, h3⟩ := h
  exact ⟨Nat.le_trans h0 hsz, Ds, h1, h2, fun D hD => ⟨(h3 D hD).1, L.imm D (h3 D hD).2.1, (L.cell D (h3 D hD).2.1).trans (h3 D hD).2.2⟩⟩
theorem DefOk.nil {S : Nat} {w : World} {I : Nat → Prop} (h : S ≤ w.heap.size) : DefOk S w I [] := ⟨h, [], rfl, List.nodup_nil, fun _ h => by simp at h⟩
/-- Our fences: no bound; r: in a round of loop r. -/
def Fen (r : Option Nat) : Fence := { Fence.wide with round := r }
/-- How code is left. -/
inductive AEx where
  | normal
  | exit (id : Nat)
  | goto (l : Nat)
  | ret
  | pan (v : AV)
def ExRel (w : World) (I : Nat → Prop) (ρ : List Nat) : Exit → AEx → Prop
  | .normal, .normal => True
  | .exit a, .exit b => a = b
  | .goto a, .goto b => a = b
  | .ret, .ret => True
  | .panic ch, .pan av => ∃ v, ch = [{ v, recovered := false }] ∧ Rep w I ρ v av
  | _, _ => False
/-- The abstract walk of code: K: how many of the objects are the caller's. -/
def Post (S K : Nat) (Q : AEx → AFr → Store → Prop) (a : Act) (w : World) (I : Nat → Prop) (ρ : List Nat) (L : Store) (e : Exit) (a' : Act) (w' : World) : Prop :=
  ∃ x fr' L' I' ρ', ExRel w' I' ρ' e x ∧ Q x fr' L' ∧ Rel w' I' ρ' L' ∧ RepF w' I' ρ' a'.tmps fr' ∧ DefOk S w' I' a'.defers ∧ Ev K w I ρ L w' I' ρ' L' ∧ a'.tmps.size = a.tmps.size
def Tw (P : Program) (r : Option Nat) (K : Nat) (c : Code) (Q : AEx → AFr → Store → Prop) (fr : AFr) (L : Store) : Prop :=
  ∀ (S : Nat) (a : Act) (w : World) (I : Nat → Prop) (ρ : List Nat), Rel w I ρ L → RepF w I ρ a.tmps fr → DefOk S w I a.defers → c.wpIn (Fen r) 0 P (Post S K Q a w I ρ L) a w
section rules
variable {P : Program} {r : Option Nat} {K : Nat} {Q : AEx → AFr → Store → Prop} {fr : AFr} {L : Store}
theorem Post.mono {S : Nat} {Q' : AEx → AFr → Store → Prop} (hq : ∀ e fr L, Q e fr L → Q' e fr L) {a : Act} {w : World} {I : Nat → Prop} {ρ : List Nat} {e : Exit} {a' : Act} {w' : World} (h : Post S K Q a w I ρ L e a' w') : Post S K Q' a w I ρ L e a' w' :=
  let ⟨x, fr', L', I', ρ', hx, q, rest⟩ := h
  ⟨x, fr', L', I', ρ', hx, hq _ _ _ q, rest⟩
theorem Post.behind {S : Nat} {a a1 : Act} {w w1 : World} {I I1 : Nat → Prop} {ρ ρ1 : List Nat} {L1 : Store} (ev : Ev K w I ρ L w1 I1 ρ1 L1) (hs : a1.tmps.size = a.tmps.size) {e : Exit} {a' : Act} {w' : World} (h : Post S K Q a1 w1 I1 ρ1 L1 e a' w') : Post S K Q a w I ρ L e a' w' :=
  let ⟨x, fr', L', I', ρ', hx, q, r1, r2, r3, ev2, hs2⟩ := h
  ⟨x, fr', L', I', ρ', hx, q, r1, r2, r3, ev.trans ev2, hs2.trans hs⟩
theorem Tw.mono {c : Code} {Q' : AEx → AFr → Store → Prop} (h : Tw P r K c Q fr L) (hq : ∀ e fr L, Q e fr L → Q' e fr L) : Tw P r K c Q' fr L := fun S a w I ρ h1 h2 h3 => wpIn_mono (h S a w I ρ h1 h2 h3) fun e a' w' => Post.mono hq
theorem Tw.skip (h : Q .normal fr L) : Tw P r K .skip Q fr L := fun S a w I ρ h1 h2 h3 => wpIn_skip ⟨.normal, fr, L, I, ρ, trivial, h, h1, h2, h3, .refl .., rfl⟩
theorem Tw.ret (h : Q .ret fr L) : Tw P r K .ret Q fr L := fun S a w I ρ h1 h2 h3 => wpIn_ret ⟨.ret, fr, L, I, ρ, trivial, h, h1, h2, h3, .refl .., rfl⟩
theorem Tw.exit {id : Nat} (h : Q (.exit id) fr L) : Tw P r K (.exit id) Q fr L := fun S a w I ρ h1 h2 h3 => wpIn_exit ⟨.exit id, fr, L, I, ρ, rfl, h, h1, h2, h3, .refl .., rfl⟩
/-- What comes behind normal ends. -/
def thenQ (N : AFr → Store → Prop) (Q : AEx → AFr → Store → Prop) : AEx → AFr → Store → Prop
  | .normal, fr, L => N fr L
  | e, fr, L => Q e fr L
theorem then_post {S : Nat} {a : Act} {w : World} {I : Nat → Prop} {ρ : List Nat} {N : AFr → Store → Prop} {M : Act → World → Prop} {e : Exit} {a' : Act} {w' : World}
    (hN : ∀ a1 w1 I1 ρ1 fr1 L1, N fr1 L1 → Rel w1 I1 ρ1 L1 → RepF w1 I1 ρ1 a1.tmps fr1 → DefOk S w1 I1 a1.defers → Ev K w I ρ L w1 I1 ρ1 L1 → a1.tmps.size = a.tmps.size → M a1 w1)
    (h : Post S K (thenQ N Q) a w I ρ L e a' w') : Exit.then M (Post S K Q a w I ρ L) e a' w' := by
  obtain ⟨x, fr', L', I', ρ', hx, q, r1, r2, r3, ev, hs⟩ := h
  cases e with
  | normal => cases x <;> first | exact hx.elim | exact hN _ _ _ _ _ _ q r1 r2 r3 ev hs
  | exit id => cases x <;> first | exact hx.elim | exact ⟨_, fr', L', I', ρ', hx, q, r1, r2, r3, ev, hs⟩
  | goto id => cases x <;> first | exact hx.elim | exact ⟨_, fr', L', I', ρ', hx, q, r1, r2, r3, ev, hs⟩
  | ret => cases x <;> first | exact hx.elim | exact ⟨_, fr', L', I', ρ', hx, q, r1, r2, r3, ev, hs⟩
  | panic c => cases x <;> first | exact hx.elim | exact ⟨_, fr', L', I', ρ', hx, q, r1, r2, r3, ev, hs⟩
  | outgrown => cases x <;> exact hx.elim
theorem Tw.seq {x y : Code} (h : Tw P r K x (thenQ (Tw P r K y Q) Q) fr L) : Tw P r K (.seq x y) Q fr L := fun S a w I ρ h1 h2 h3 =>
  wpIn_seq (wpIn_mono (h S a w I ρ h1 h2 h3) fun e a' w' hp => then_post (fun a1 w1 I1 ρ1 fr1 L1 q r1 r2 r3 ev hs => wpIn_mono (q S a1 w1 I1 ρ1 r1 r2 r3) fun _ _ _ => Post.behind ev hs) hp)
/-- What is known may be said otherwise, the world staying. -/
def VS (K : Nat) (fr : AFr) (L : Store) (fr' : AFr) (L' : Store) : Prop :=
  ∀ w I ρ tmps, Rel w I ρ L → RepF w I ρ tmps fr → ∃ I' ρ', (∀ b, I b → I' b) ∧ (∀ b, I' b → I b ∨ Owned ρ L b) ∧ (∀ b, Owned ρ' L' b → Owned ρ L b) ∧ (∀ p, p < K → ρ'[p]? = ρ[p]?) ∧ Rel w I' ρ' L' ∧ RepF w I' ρ' tmps fr'
theorem VS.refl (K fr L) : VS K fr L fr L := fun w I ρ tmps h1 h2 => ⟨I, ρ, fun _ h => h, fun _ h => .inl h, fun _ h => h, fun _ _ => rfl, h1, h2⟩
theorem VS.trans {K fr L fr' L' fr'' L''} (h : VS K fr L fr' L') (k : VS K fr' L' fr'' L'') : VS K fr L fr'' L'' := fun w I ρ tmps h1 h2 => by
  obtain ⟨I', ρ', a1, a2, a3, a4, a5, a6⟩ := h w I ρ tmps h1 h2
  obtain ⟨I'', ρ'', b1, b2, b3, b4, b5, b6⟩ := k w I' ρ' tmps a5 a6
  exact ⟨I'', ρ'', fun b hb => b1 b (a1 b hb), fun b hb => (b2 b hb).elim (a2 b) (fun x => .inr (a3 b x)), fun b hb => a3 b (b3 b hb), fun p hp => (b4 p hp).trans (a4 p hp), b5, b6⟩
theorem VS.ev {K : Nat} {w : World} {I I' : Nat → Prop} {ρ ρ' : List Nat} {L L' : Store} (a1 : ∀ b, I b → I' b) (a2 : ∀ b, I' b → I b ∨ Owned ρ L b) (a3 : ∀ b, Owned ρ' L' b → Owned ρ L b) (a4 : ∀ p, p < K → ρ'[p]? = ρ[p]?) : Ev K w I ρ L w I' ρ' L' :=
  ⟨rfl, rfl, rfl, Nat.le_refl _, fun _ _ _ => rfl, a1, fun b hb => (a2 b hb).elim .inl (fun x => .inr (.inr x)), fun b hb => .inl (a3 b hb), fun b C t h => ⟨C, h, rfl⟩, a4⟩
theorem defOk_imm {S : Nat} {w : World} {I I' : Nat → Prop} (h : ∀ b, I b → I' b) {ds : List Deferred} (hd : DefOk S w I ds) : DefOk S w I' ds :=
  ⟨hd.1, hd.2.imp fun Ds h3 => ⟨h3.1, h3.2.1, fun D hD => ⟨(h3.2.2 D hD).1, h D (h3.2.2 D hD).2.1, (h3.2.2 D hD).2.2⟩⟩⟩
theorem Tw.vs {c : Code} {fr' : AFr} {L' : Store} (hv : VS K fr L fr' L') (h : Tw P r K c Q fr' L') : Tw P r K c Q fr L := fun S a w I ρ h1 h2 h3 => by
  obtain ⟨I', ρ', a1, a2, a3, a4, a5, a6⟩ := hv w I ρ a.tmps h1 h2
  exact wpIn_mono (h S a w I' ρ' a5 a6 (defOk_imm a1 h3)) fun e a' w' => Post.behind (VS.ev a1 a2 a3 a4) rfl
theorem Tw.vsPost {c : Code} (h : Tw P r K c (fun x fr L => (∃ v, x = .pan v ∧ Q x fr L) ∨ (∃ fr' L', (∀ v, x ≠ .pan v) ∧ VS K fr L fr' L' ∧ Q x fr' L')) fr L) : Tw P r K c Q fr L := fun S a w I ρ h1 h2 h3 =>
  wpIn_mono (h S a w I ρ h1 h2 h3) fun e a' w' ⟨x, fr1, L1, I1, ρ1, hx, q, r1, r2, r3, ev, hs⟩ => by
    rcases q with ⟨v, _, q⟩ | ⟨fr', L', hn, hv, q⟩
    · exact ⟨x, fr1, L1, I1, ρ1, hx, q, r1, r2, r3, ev, hs⟩
    · obtain ⟨I', ρ', a1, a2, a3, a4, a5, a6⟩ := hv w' I1 ρ1 a'.tmps r1 r2
      refine ⟨x, fr', L', I', ρ', ?_, q, a5, a6, defOk_imm a1 r3, ev.trans (VS.ev a1 a2 a3 a4), hs⟩
      cases e <;> cases x <;> first | exact hx | exact absurd rfl (hn _)
theorem Tw.loop {c : Code} (J : Nat → AFr → Store → Prop) {n0 : Nat} {fr0 : AFr} {L0 : Store} (hv : VS K fr L fr0 L0) (h0 : J n0 fr0 L0)
    (round : ∀ n fr L, J n fr L → Tw P r K c (thenQ (fun fr' L' => ∃ m fr'' L'', m < n ∧ VS K fr' L' fr'' L'' ∧ J m fr'' L'') Q) fr L) : Tw P r K (.loop c) Q fr L := by
  refine Tw.vs hv ?_
  intro S a w I ρ h1 h2 h3
  let J' : Nat → Act → World → Prop := fun n a1 w1 => ∃ fr1 L1 I1 ρ1, J n fr1 L1 ∧ Rel w1 I1 ρ1 L1 ∧ RepF w1 I1 ρ1 a1.tmps fr1 ∧ DefOk S w1 I1 a1.defers ∧ Ev K w I ρ L0 w1 I1 ρ1 L1 ∧ a1.tmps.size = a.tmps.size
  classical
  refine wpIn_loop (fun a1 w1 => ∃ n, J' n a1 w1) (fun a1 w1 => leastOf (fun n => J' n a1 w1)) ⟨n0, fr0, L0, I, ρ, h0, h1, h2, h3, .refl .., rfl⟩ ?_
  intro a1 w1 hJ
  have hm := (leastOf_spec hJ).1
  generalize leastOf (fun n => J' n a1 w1) = n at hm
  obtain ⟨fr1, L1, I1, ρ1, j1, r1, r2, r3, ev, hs⟩ := hm
  refine wpIn_mono (round n fr1 L1 j1 S a1 w1 I1 ρ1 r1 r2 r3) fun e a' w' hp => ?_
  have key := then_post (M := fun a' w' => (∃ n, J' n a' w') ∧ leastOf (fun n => J' n a' w') < n) (fun a2 w2 I2 ρ2 fr2 L2 q s1 s2 s3 ev2 hs2 => by
    obtain ⟨m, fr3, L3, hlt, hv3, j3⟩ := q
    obtain ⟨I', ρ', c1, c2, c3, c4, c5, c6⟩ := hv3 w2 I2 ρ2 a2.tmps s1 s2
    have hj : J' m a2 w2 := ⟨fr3, L3, I', ρ', j3, c5, c6, defOk_imm c1 s3, ev.trans (ev2.trans (VS.ev c1 c2 c3 c4)), hs2.trans hs⟩
    exact ⟨⟨m, hj⟩, Nat.lt_of_le_of_lt ((leastOf_spec ⟨m, hj⟩).2 m hj) hlt⟩) hp
  cases e <;> first | exact key | exact Post.behind ev hs key
/-- What an operand is, abstractly. -/
def ofVal : Value → AV
  | .int k n => .int k n
  | .bool b => .bool b
  | .string s => .str s
  | .pointer none => .nil
  | .slice none 0 0 => .nils
  | .nilFunc => .nilf
  | .agg cs => .agg (cs.toList.map fun
    | .int k n => .int k n
    | .bool b => .bool b
    | .string s => .str s
    | .pointer none => .nil
    | .slice none 0 0 => .nils
    | .nilFunc => .nilf
    | v => .raw v)
  | v => .raw v
theorem ofVal_rep (w : World) (I : Nat → Prop) (ρ : List Nat) (v : Value) : Rep w I ρ v (ofVal v) := by
  unfold ofVal
  split
  · exact .int _ _
  · exact .bool _
  · exact .str _
  · exact .nil
  · exact .nils
  · exact .nilf
  · rename_i cs
    have : cs = cs.toList.toArray := by simp
    rw [this]
    refine .agg _ _ (by simp) fun j v c hv hc => ?_
    simp only [List.getElem?_map, hv, Option.map_some, Option.some.injEq] at hc
    subst hc
    split
    · exact .int _ _
    · exact .bool _
    · exact .str _
    · exact .nil
    · exact .nils
    · exact .nilf
    · exact .raw _
  · exact .raw _
def aval (fr : AFr) : Operand → AV
  | .tmp t => aget fr t
  | .const v => ofVal v
  | .global _ => .any
  | .func f => .func (.func f) [] []
theorem aval_rep {w : World} {I : Nat → Prop} {ρ : List Nat} {a : Act} {fr : AFr} (h : RepF w I ρ a.tmps fr) (x : Operand) : Rep w I ρ (a.eval x) (aval fr x) := by
  cases x with
  | tmp t => exact h.2 t
  | const v => exact ofVal_rep ..
  | global g => exact .any _
  | func f => exact .func (.func f) [] [] [] [] rfl rfl (fun _ _ _ h => by simp at h) (fun _ _ _ h => by simp at h)
theorem Tw.cond {c : Operand} {x y : Code} {b : Bool} (hc : aval fr c = .bool b) (ht : b = true → Tw P r K x Q fr L) (hf : b = false → Tw P r K y Q fr L) : Tw P r K (.cond c x y) Q fr L := fun S a w I ρ h1 h2 h3 => by
  have hv : a.eval c = .bool b := by have := aval_rep h2 c; rw [hc] at this; exact this.bool_inv
  exact wpIn_cond_split hv (fun hb => ht hb S a w I ρ h1 h2 h3) (fun hb => hf hb S a w I ρ h1 h2 h3)
def blockQ (id : Nat) (Q : AEx → AFr → Store → Prop) : AEx → AFr → Store → Prop
  | .exit id', fr, L => if id' = id then Q .normal fr L else Q (.exit id') fr L
  | e, fr, L => Q e fr L
theorem Tw.block {id : Nat} {c : Code} (h : Tw P r K c (blockQ id Q) fr L) : Tw P r K (.block id c) Q fr L := fun S a w I ρ h1 h2 h3 => by
  refine wpIn_block (wpIn_mono (h S a w I ρ h1 h2 h3) fun e a' w' ⟨x, fr', L', I', ρ', hx, q, rest⟩ => ?_)
  cases e with
  | exit id' =>
    cases x <;> first | exact hx.elim | skip
    cases hx
    simp only [blockQ] at q
    simp only [Exit.inBlock]
    split
    · rename_i hi; rw [if_pos hi] at q; exact ⟨.normal, fr', L', I', ρ', trivial, q, rest⟩
    · rename_i hi; rw [if_neg hi] at q; exact ⟨.exit id', fr', L', I', ρ', rfl, q, rest⟩
  | normal => cases x <;> first | exact hx.elim | exact ⟨_, fr', L', I', ρ', hx, q, rest⟩
  | goto id => cases x <;> first | exact hx.elim | exact ⟨_, fr', L', I', ρ', hx, q, rest⟩
  | ret => cases x <;> first | exact hx.elim | exact ⟨_, fr', L', I', ρ', hx, q, rest⟩
  | panic c => cases x <;> first | exact hx.elim | exact ⟨_, fr', L', I', ρ', hx, q, rest⟩
  | outgrown => cases x <;> exact hx.elim
end rules
end Go.Proofs.Ytpjibokaeefhiaa.Tw
