import Derived.CallsIn
import Derived.Below
import Derived.RangeFuncLeaves
import Derived.RangeFuncRecord
import Derived.Deep.LoopGhost
import Derived.Laws.Rows
import Derived.Laws.Pointers
import Derived.Laws.Small
import Derived.Laws.CopyRow
import Derived.Laws.AppendOwn
import Derived.Laws.Strings3
import Derived.Laws.StructEq
import Derived.WalkSpells
import Derived.MapKept
import Derived.Maps.Keyed
import Derived.Laws.BytesString
import Derived.Laws.BytesArg
/-! What a value means: abstract values, and when a value of the model is one, in a world. -/
namespace Go.Proofs.Ytaieiigfheabfaa.Tw
set_option linter.unusedVariables false
/-- Abstract values. Positions p are places of a function's own objects. -/
inductive AV where
  | any
  | int (k : IntKind) (n : Int)
  | bool (b : Bool)
  | str (s : ByteArray)
  | nil
  | ref (p w i f : Nat)
  | imm (cells : List AV)
  | nils
  | sl (w : Nat) (els : List AV)
  | slt (w : Nat) (els : List AV)
  | row (p w off n : Nat)
  | agg (cells : List AV)
  | tup (vs : List AV)
  | func (fn : Fn) (first captured : List AV)
  | nilf
  | map (p : Nat)
  | ifc (t : TypeId) (v : AV)
  | raw (v : Value)
  | yield (p : Nat)
  deriving Inhabited
def AV.cells : AV → List AV
  | .agg cs => cs
  | v => [v]
/-- Objects: rows of elements (w cells each), maps. -/
inductive AO where
  | arr (w : Nat) (els : List AV)
  | box (w : Nat) (e : AV)
  | mp (c : Nat) (es : List (Nat × AV × AV))
  | it (p since : Nat) (seen : List Nat) (last : Nat)
  | loop (st : LoopState) (pend : Option Code) (n : Nat) (l : List (Nat × AV)) (ps : Array Tmp) (assign body : Code)
  deriving Inhabited
theorem add_none {a : Addr} (h : a.spot = none) (n : Nat) : a.add n = ⟨a.block, a.off + n, none⟩ := by
  unfold Addr.add
  split
  · rename_i hn; subst hn; cases a; simp_all
  · rfl
@[simp] theorem add_block (a : Addr) (n : Nat) : (a.add n).block = a.block := by unfold Addr.add; split <;> rfl
/-- The value v of the model is the abstract value, in world w; I: the blocks that are never written; ρ: where the objects lie. -/
inductive Rep (w : World) (I : Nat → Prop) (ρ : List Nat) : Value → AV → Prop
  | any (v) : Rep w I ρ v .any
  | int (k n) : Rep w I ρ (.int k n) (.int k n)
  | bool (b) : Rep w I ρ (.bool b) (.bool b)
  | str (s) : Rep w I ρ (.string s) (.str s)
  | nil : Rep w I ρ (.pointer none) .nil
  | ref (p wd i f b) (h : ρ[p]? = some b) : Rep w I ρ (.pointer (some ⟨b, i * wd + f, none⟩)) (.ref p wd i f)
  | imm (a : Addr) (cs : List AV) (vs : Nat → Value) (hs : a.spot = none) (hI : I a.block)
      (hc : ∀ j, j < cs.length → w.cell? ⟨a.block, a.off + j, none⟩ = some (vs j)) (hr : ∀ (j : Nat) (c : AV), cs[j]? = some c → Rep w I ρ (vs j) c) : Rep w I ρ (.pointer (some a)) (.imm cs)
  | nils : Rep w I ρ (.slice none 0 0) .nils
  | sl (a : Option Addr) (A : Addr) (n c wd : Nat) (els : List AV) (vs : Nat → Nat → Value) (hn : n = els.length) (hcap : n ≤ c)
      (ha : els = [] ∨ (a = some A ∧ A.spot = none ∧ I A.block)) (hw : ∀ e ∈ els, e.cells.length = wd)
      (hc : ∀ i j, i < els.length → j < wd → w.cell? ⟨A.block, A.off + (i * wd + j), none⟩ = some (vs i j))
      (hr : ∀ (i : Nat) (e : AV) (j : Nat) (c : AV), els[i]? = some e → e.cells[j]? = some c → Rep w I ρ (vs i j) c) : Rep w I ρ (.slice a n c) (.sl wd els)
  | slt (a : Option Addr) (A : Addr) (n wd : Nat) (els : List AV) (vs : Nat → Nat → Value) (hn : n = els.length)
      (ha : els = [] ∨ (a = some A ∧ A.spot = none ∧ I A.block)) (hw : ∀ e ∈ els, e.cells.length = wd)
      (hc : ∀ i j, i < els.length → j < wd → w.cell? ⟨A.block, A.off + (i * wd + j), none⟩ = some (vs i j))
      (hr : ∀ (i : Nat) (e : AV) (j : Nat) (c : AV), els[i]? = some e → e.cells[j]? = some c → Rep w I ρ (vs i j) c) : Rep w I ρ (.slice a n n) (.slt wd els)
  | row (p wd off n b c : Nat) (C : Array Value) (t : TypeId) (h : ρ[p]? = some b) (hn : n ≤ c) (hb : w.heap[b]? = some (.cells C t (0, 0))) (hC : (off + c) * wd ≤ C.size) :
      Rep w I ρ (.slice (some ⟨b, off * wd, none⟩) n c) (.row p wd off n)
  | agg (vs : List Value) (cs : List AV) (hl : vs.length = cs.length) (hr : ∀ (j : Nat) (v : Value) (c : AV), vs[j]? = some v → cs[j]? = some c → Rep w I ρ v c) : Rep w I ρ (.agg vs.toArray) (.agg cs)
  | tup (vs : List Value) (cs : List AV) (hl : vs.length = cs.length) (hr : ∀ (j : Nat) (v : Value) (c : AV), vs[j]? = some v → cs[j]? = some c → Rep w I ρ v c) : Rep w I ρ (.tuple vs.toArray) (.tup cs)
  | func (fn : Fn) (fs gs : List Value) (fst cap : List AV) (hl : fs.length = fst.length) (hl' : gs.length = cap.length)
      (hr : ∀ (j : Nat) (v : Value) (c : AV), fs[j]? = some v → fst[j]? = some c → Rep w I ρ v c) (hr' : ∀ (j : Nat) (v : Value) (c : AV), gs[j]? = some v → cap[j]? = some c → Rep w I ρ v c) : Rep w I ρ (.func fn fs.toArray gs.toArray) (.func fn fst cap)
  | nilf : Rep w I ρ .nilFunc .nilf
  | map (p b) (h : ρ[p]? = some b) : Rep w I ρ (.map (some b)) (.map p)
  | ifc (t v a) (h : Rep w I ρ v a) : Rep w I ρ (.iface t v) (.ifc t a)
  | raw (v) : Rep w I ρ v (.raw v)
  | yield (p b) (h : ρ[p]? = some b) : Rep w I ρ (.func (.yield b) #[] #[]) (.yield p)
/-- What holds in one place holds in a later one. -/
structure Le (w : World) (I : Nat → Prop) (ρ : List Nat) (w' : World) (I' : Nat → Prop) (ρ' : List Nat) : Prop where
  cell : ∀ b : Nat, I b → w'.heap[b]? = w.heap[b]?
  imm : ∀ b, I b → I' b
  rho : ∀ (p b : Nat), ρ[p]? = some b → ρ'[p]? = some b
  size : ∀ (b : Nat) (C : Array Value) (t : TypeId), w.heap[b]? = some (Obj.cells C t (0, 0)) → ∃ C' : Array Value, w'.heap[b]? = some (Obj.cells C' t (0, 0)) ∧ C'.size = C.size
theorem Le.refl (w : World) (I : Nat → Prop) (ρ : List Nat) : Le w I ρ w I ρ := ⟨fun _ _ => rfl, fun _ h => h, fun _ _ h => h, fun b C t h => ⟨C, h, rfl⟩⟩
theorem Le.trans {w w' w'' : World} {I I' I'' : Nat → Prop} {ρ ρ' ρ'' : List Nat} (h : Le w I ρ w' I' ρ') (k : Le w' I' ρ' w'' I'' ρ'') : Le w I ρ w'' I'' ρ'' :=
  ⟨fun b hb => (k.cell b (h.imm b hb)).trans (h.cell b hb), fun b hb => k.imm b (h.imm b hb), fun p b hp => k.rho p b (h.rho p b hp),
   fun b C t hb => let ⟨C1, h1, e1⟩ := h.size b C t hb; let ⟨C2, h2, e2⟩ := k.size b C1 t h1; ⟨C2, h2, e2.trans e1⟩⟩
theorem cell_eq {w w' : World} {b o : Nat} (h : w'.heap[b]? = w.heap[b]?) : w'.cell? ⟨b, o, none⟩ = w.cell? ⟨b, o, none⟩ := by unfold World.cell?; simp only [h]
theorem Rep.mono {w w' : World} {I I' : Nat → Prop} {ρ ρ' : List Nat} (L : Le w I ρ w' I' ρ') {v : Value} {a : AV} (h : Rep w I ρ v a) : Rep w' I' ρ' v a := by
  induction h with
  | any v => exact .any v
  | int k n => exact .int k n
  | bool b => exact .bool b
  | str s => exact .str s
  | nil => exact .nil
  | ref p wd i f b h => exact .ref p wd i f b (L.rho p b h)
  | imm a cs vs hs hI hc hr ih => exact .imm a cs vs hs (L.imm _ hI) (fun j hj => (cell_eq (L.cell _ hI)).trans (hc j hj)) ih
  | nils => exact .nils
  | sl a A n c wd els vs hn hcap ha hw hc hr ih =>
    refine .sl a A n c wd els vs hn hcap (ha.imp id fun ⟨x, y, z⟩ => ⟨x, y, L.imm _ z⟩) hw (fun i j hi hj => ?_) ih
    rcases ha with rfl | ⟨_, _, z⟩
    · simp at hi
    · exact (cell_eq (L.cell _ z)).trans (hc i j hi hj)
  | slt a A n wd els vs hn ha hw hc hr ih =>
    refine .slt a A n wd els vs hn (ha.imp id fun ⟨x, y, z⟩ => ⟨x, y, L.imm _ z⟩) hw (fun i j hi hj => ?_) ih
    rcases ha with rfl | ⟨_, _, z⟩
    · simp at hi
    · exact (cell_eq (L.cell _ z)).trans (hc i j hi hj)
  | row p wd off n b c C t h hn hb hC =>
    obtain ⟨C', h', e⟩ := L.size b C t hb
    exact .row p wd off n b c C' t (L.rho p b h) hn h' (by omega)
  | agg vs cs hl hr ih => exact .agg vs cs hl ih
  | tup vs cs hl hr ih => exact .tup vs cs hl ih
  | func fn fs gs fst cap hl hl' hr hr' ih ih' => exact .func fn fs gs fst cap hl hl' ih ih'
  | nilf => exact .nilf
  | map p b h => exact .map p b (L.rho p b h)
  | ifc t v a h ih => exact .ifc t v _ ih
  | raw v => exact .raw v
  | yield p b h => exact .yield p b (L.rho p b h)
/-- A later world in which some blocks that are no cells, maps or records of loops were changed. -/
structure Shut (w w' : World) : Prop where
  os : w'.os = w.os
  tape : w'.tape = w.tape
  output : w'.output = w.output
  size : w'.heap.size = w.heap.size
  keep : ∀ (b : Nat) (o : Obj), w.heap[b]? = some o → (∀ x, o ≠ .deferred x) → w'.heap[b]? = some o
theorem Shut.cell {w w' : World} (h : Shut w w') {b o : Nat} {v : Value} (hc : w.cell? ⟨b, o, none⟩ = some v) : w'.cell? ⟨b, o, none⟩ = some v := by
  unfold World.cell? at hc ⊢
  split at hc
  · rename_i c _ _ hb
    rw [h.keep b _ hb (by simp)]
    exact hc
  · cases hc
theorem Rep.shut {w w' : World} (L : Shut w w') {I : Nat → Prop} {ρ : List Nat} {v : Value} {a : AV} (h : Rep w I ρ v a) : Rep w' I ρ v a := by
  induction h with
  | any v => exact .any v
  | int k n => exact .int k n
  | bool b => exact .bool b
  | str s => exact .str s
  | nil => exact .nil
  | ref p wd i f b h => exact .ref p wd i f b h
  | imm a cs vs hs hI hc hr ih => exact .imm a cs vs hs hI (fun j hj => L.cell (hc j hj)) ih
  | nils => exact .nils
  | sl a A n c wd els vs hn hcap ha hw hc hr ih => exact .sl a A n c wd els vs hn hcap ha hw (fun i j hi hj => L.cell (hc i j hi hj)) ih
  | slt a A n wd els vs hn ha hw hc hr ih => exact .slt a A n wd els vs hn ha hw (fun i j hi hj => L.cell (hc i j hi hj)) ih
  | row p wd off n b c C t h hn hb hC => exact .row p wd off n b c C t h hn (L.keep b _ hb (by simp)) hC
  | agg vs cs hl hr ih => exact .agg vs cs hl ih
  | tup vs cs hl hr ih => exact .tup vs cs hl ih
  | func fn fs gs fst cap hl hl' hr hr' ih ih' => exact .func fn fs gs fst cap hl hl' ih ih'
  | nilf => exact .nilf
  | map p b h => exact .map p b h
  | ifc t v a h ih => exact .ifc t v _ ih
  | raw v => exact .raw v
  | yield p b h => exact .yield p b h
/-- The marks' blocks shut. -/
def shutAll : List Nat → World → World
  | [], w => w
  | D :: Ds, w => shutAll Ds (w.putObj D (.deferred none))
theorem shut_put {w : World} {D : Nat} {x : Option (List Deferred)} (h : w.heap[D]? = some (.deferred x)) : Shut w (w.putObj D (.deferred none)) :=
  ⟨rfl, rfl, rfl, by simp, fun b o hb hd => by
    by_cases e : b = D
    · subst e; rw [h] at hb; cases hb; exact absurd rfl (hd _)
    · rw [World.putObj_heap_other e]; exact hb⟩
theorem shutAll_spec : ∀ (Ds : List Nat) (w : World), Ds.Nodup → (∀ D ∈ Ds, w.heap[D]? = some (.deferred (some []))) → Shut w (shutAll Ds w) ∧ ∀ b, b ∉ Ds → (shutAll Ds w).heap[b]? = w.heap[b]?
  | [], w, _, _ => ⟨⟨rfl, rfl, rfl, rfl, fun _ _ h _ => h⟩, fun _ _ => rfl⟩
  | D :: Ds, w, hn, h => by
    have hn' := List.nodup_cons.1 hn
    obtain ⟨h1, h2⟩ := shutAll_spec Ds (w.putObj D (.deferred none)) hn'.2 (fun E hE => by
      rw [World.putObj_heap_other (fun e : E = D => hn'.1 (e ▸ hE))]; exact h E (List.mem_cons_of_mem _ hE))
    have h0 := shut_put (h D (by simp))
    refine ⟨⟨h1.os.trans h0.os, h1.tape.trans h0.tape, h1.output.trans h0.output, h1.size.trans h0.size, fun b o hb hd => h1.keep b o (h0.keep b o hb hd) hd⟩, fun b hb => ?_⟩
    simp only [List.mem_cons, not_or] at hb
    exact (h2 b hb.2).trans (World.putObj_heap_other hb.1)
/-! What a value is, by its abstract value. -/
section inv
variable {w : World} {I : Nat → Prop} {ρ : List Nat} {v : Value}
theorem Rep.int_inv {k : IntKind} {n : Int} (h : Rep w I ρ v (.int k n)) : v = .int k n := by cases h; rfl
theorem Rep.bool_inv {b : Bool} (h : Rep w I ρ v (.bool b)) : v = .bool b := by cases h; rfl
theorem Rep.str_inv {s : ByteArray} (h : Rep w I ρ v (.str s)) : v = .string s := by cases h; rfl
theorem Rep.agg_inv {cs : List AV} (h : Rep w I ρ v (.agg cs)) : ∃ vs : List Value, v = .agg vs.toArray ∧ vs.length = cs.length ∧ ∀ (j : Nat) (u : Value) (c : AV), vs[j]? = some u → cs[j]? = some c → Rep w I ρ u c := by
  cases h with | agg vs _ hl hr => exact ⟨vs, rfl, hl, hr⟩
theorem Rep.tup_inv {cs : List AV} (h : Rep w I ρ v (.tup cs)) : ∃ vs : List Value, v = .tuple vs.toArray ∧ vs.length = cs.length ∧ ∀ (j : Nat) (u : Value) (c : AV), vs[j]? = some u → cs[j]? = some c → Rep w I ρ u c := by
  cases h with | tup vs _ hl hr => exact ⟨vs, rfl, hl, hr⟩
end inv
/-- One cell, or several. -/
def RepL (w : World) (I : Nat → Prop) (ρ : List Nat) (vs : List Value) (cs : List AV) : Prop := vs.length = cs.length ∧ ∀ (j : Nat) v c, vs[j]? = some v → cs[j]? = some c → Rep w I ρ v c
theorem RepL.mono {w w' : World} {I I' : Nat → Prop} {ρ ρ' : List Nat} (L : Le w I ρ w' I' ρ') {vs : List Value} {cs : List AV} (h : RepL w I ρ vs cs) : RepL w' I' ρ' vs cs := ⟨h.1, fun j v c hv hc => (h.2 j v c hv hc).mono L⟩
end Go.Proofs.Ytaieiigfheabfaa.Tw

/-! Stores of objects; the abstract walk of code. -/
namespace Go.Proofs.Ytaieiigfheabfaa.Tw
open Go.RowKit
set_option linter.unusedVariables false
abbrev Store := List (Option AO)
def agetL : List (Nat × AV) → Nat → AV
  | [], _ => .any
  | (d, v) :: fr, t => if t = d then v else agetL fr t
/-- An object as it lies in block b. -/
def ObjRel (w : World) (I : Nat → Prop) (ρ : List Nat) (b : Nat) : AO → Prop
  | .arr wd els => ∃ (C : Array Value) (t : TypeId), w.heap[b]? = some (Obj.cells C t (0, 0)) ∧ els.length * wd ≤ C.size ∧
      ∀ (i : Nat) (e : AV), els[i]? = some e → e.cells.length = wd ∧ ∀ (j : Nat) (c : AV), e.cells[j]? = some c → ∃ v : Value, C[i * wd + j]? = some v ∧ Rep w I ρ v c
  | .box wd e => ∃ (C : Array Value) (t : TypeId), w.heap[b]? = some (Obj.cells C t (0, 0)) ∧ [e].length * wd ≤ C.size ∧
      ∀ (i : Nat) (e' : AV), [e][i]? = some e' → e'.cells.length = wd ∧ ∀ (j : Nat) (c : AV), e'.cells[j]? = some c → ∃ v : Value, C[i * wd + j]? = some v ∧ Rep w I ρ v c
  | .mp c es => ∃ E : Array MapEntry, w.heap[b]? = some (Obj.map E c) ∧ E.size = es.length ∧
      ∀ (i : Nat) (x : Nat × AV × AV) (e : MapEntry), es[i]? = some x → E[i]? = some e → e.born = x.1 ∧ Rep w I ρ e.key x.2.1 ∧ Rep w I ρ e.val x.2.2
  | .it p since seen last => ∃ m : Nat, ρ[p]? = some m ∧ w.heap[b]? = some (Obj.mapIter (some m) since seen.toArray last)
  | .loop st pend n l ps assign body => ∃ (fn : FuncId) (tmps : Array Value) (D : Nat), w.heap[b]? = some (Obj.loop { state := st, pending := pend, fn, tmps, params := ps, assign, body, defers := D }) ∧ tmps.size = n ∧ ∀ t, Rep w I ρ (tmps.getD t undef) (agetL l t)
/-- The block of a live object. -/
def Owned (ρ : List Nat) (L : Store) (b : Nat) : Prop := ∃ (p : Nat) (o : AO), L[p]? = some (some o) ∧ ρ[p]? = some b
structure Rel (w : World) (I : Nat → Prop) (ρ : List Nat) (L : Store) : Prop where
  len : ρ.length = L.length
  own : ∀ (p : Nat) (o : AO) (b : Nat), L[p]? = some (some o) → ρ[p]? = some b → b < w.heap.size ∧ ¬ I b ∧ ObjRel w I ρ b o
  inj : ∀ (p q : Nat) (o o' : AO) (b : Nat), L[p]? = some (some o) → L[q]? = some (some o') → ρ[p]? = some b → ρ[q]? = some b → p = q
  imm : ∀ b, I b → b < w.heap.size
/-- What code may do: blocks that no object of ours has stay; the rest is new. -/
structure Ev (K : Nat) (w : World) (I : Nat → Prop) (ρ : List Nat) (L : Store) (w' : World) (I' : Nat → Prop) (ρ' : List Nat) (L' : Store) : Prop where
  os : w'.os = w.os
  tape : w'.tape = w.tape
  output : w'.output = w.output
  size : w.heap.size ≤ w'.heap.size
  keep : ∀ b, b < w.heap.size → ¬ Owned ρ L b → w'.heap[b]? = w.heap[b]?
  imm : ∀ b, I b → I' b
  imm' : ∀ b, I' b → I b ∨ w.heap.size ≤ b ∨ Owned ρ L b
  own : ∀ b, Owned ρ' L' b → Owned ρ L b ∨ w.heap.size ≤ b
  cells : ∀ (b : Nat) (C : Array Value) (t : TypeId), w.heap[b]? = some (Obj.cells C t (0, 0)) → ∃ C' : Array Value, w'.heap[b]? = some (Obj.cells C' t (0, 0)) ∧ C'.size = C.size
  rho : ∀ p, p < K → ρ'[p]? = ρ[p]?
theorem Ev.refl (K w I ρ L) : Ev K w I ρ L w I ρ L := ⟨rfl, rfl, rfl, Nat.le_refl _, fun _ _ _ => rfl, fun _ h => h, fun _ h => .inl h, fun _ h => .inl h, fun b C t h => ⟨C, h, rfl⟩, fun _ _ => rfl⟩
theorem Ev.trans {K w I ρ L w' I' ρ' L' w'' I'' ρ'' L''} (h : Ev K w I ρ L w' I' ρ' L') (k : Ev K w' I' ρ' L' w'' I'' ρ'' L'') : Ev K w I ρ L w'' I'' ρ'' L'' :=
  ⟨k.os.trans h.os, k.tape.trans h.tape, k.output.trans h.output, Nat.le_trans h.size k.size,
   fun b hb hn => (k.keep b (Nat.lt_of_lt_of_le hb h.size) (fun ho => by rcases h.own b ho with x | x; exact hn x; omega)).trans (h.keep b hb hn),
   fun b hb => k.imm b (h.imm b hb),
   fun b hb => by
    rcases k.imm' b hb with x | x | x
    · exact h.imm' b x
    · exact .inr (.inl (Nat.le_trans h.size x))
    · rcases h.own b x with y | y
      · exact .inr (.inr y)
      · exact .inr (.inl y),
   fun b hb => by
    rcases k.own b hb with x | x
    · exact h.own b x
    · exact .inr (Nat.le_trans h.size x),
   fun b C t hb => let ⟨C1, h1, e1⟩ := h.cells b C t hb; let ⟨C2, h2, e2⟩ := k.cells b C1 t h1; ⟨C2, h2, e2.trans e1⟩,
   fun p hp => (k.rho p hp).trans (h.rho p hp)⟩
theorem Rel.free {w I ρ L} (h : Rel w I ρ L) {b : Nat} (hb : I b) : ¬ Owned ρ L b := fun ⟨p, o, hp, hr⟩ => (h.own p o b hp hr).2.1 hb
/-- What is kept by a step keeps its meaning, if the objects' places stay. -/
theorem Ev.le {K w I ρ L w' I' ρ' L'} (h : Ev K w I ρ L w' I' ρ' L') (hr : Rel w I ρ L) (hρ : ∀ (p b : Nat), ρ[p]? = some b → ρ'[p]? = some b) : Le w I ρ w' I' ρ' :=
  ⟨fun b hb => h.keep b (hr.imm b hb) (hr.free hb), h.imm, hρ, h.cells⟩
/-- Frames: the newest entry of a temporary counts. -/
structure AFr where
  n : Nat
  l : List (Nat × AV)
def aget (fr : AFr) (t : Nat) : AV := agetL fr.l t
def RepF (w : World) (I : Nat → Prop) (ρ : List Nat) (tmps : Array Value) (fr : AFr) : Prop := tmps.size = fr.n ∧ ∀ t, Rep w I ρ (tmps.getD t undef) (aget fr t)
theorem RepF.mono {w w' : World} {I I' : Nat → Prop} {ρ ρ' : List Nat} (L : Le w I ρ w' I' ρ') {tmps : Array Value} {fr : AFr} (h : RepF w I ρ tmps fr) : RepF w' I' ρ' tmps fr := ⟨h.1, fun t => (h.2 t).mono L⟩
/-- The mark of a range over a function. -/
def markOf (D : Nat) : Deferred := { target := .collected D, args := #[] }
/-- What was deferred when a walk began, and from which cell on the marks lie. -/
structure Base where
  n : Nat
  ds : List Deferred
/-- The deferred calls: marks, younger than S, ahead of those that were there. -/
def DefOk (S : Base) (w : World) (I : Nat → Prop) (ds : List Deferred) : Prop :=
  S.n ≤ w.heap.size ∧ ∃ Ds : List Nat, ds = Ds.map markOf ++ S.ds ∧ Ds.Nodup ∧ ∀ D ∈ Ds, S.n ≤ D ∧ I D ∧ w.heap[D]? = some (.deferred (some []))
theorem DefOk.mono {S : Base} {w w' : World} {I I' : Nat → Prop} {ρ ρ' : List Nat} (L : Le w I ρ w' I' ρ') (hsz : w.heap.size ≤ w'.heap.size) {ds : List Deferred} (h : DefOk S w I ds) : DefOk S w' I' ds := by
  obtain ⟨h0, Ds, h1, h2, h3⟩ := h
  exact ⟨Nat.le_trans h0 hsz, Ds, h1, h2, fun D hD => ⟨(h3 D hD).1, L.imm D (h3 D hD).2.1, (L.cell D (h3 D hD).2.1).trans (h3 D hD).2.2⟩⟩
theorem DefOk.base {S : Base} {w : World} {I : Nat → Prop} (h : S.n ≤ w.heap.size) : DefOk S w I S.ds := ⟨h, [], rfl, List.nodup_nil, fun _ h => by simp at h⟩
theorem DefOk.nil {n : Nat} {w : World} {I : Nat → Prop} (h : n ≤ w.heap.size) : DefOk ⟨n, []⟩ w I [] := ⟨h, [], rfl, List.nodup_nil, fun _ h => by simp at h⟩
/-- Our fences: no bound; r: in a round of loop r. -/
def Fen (r : Option Nat) : Fence := { Fence.wide with round := r }
/-- How code is left. -/
inductive AEx where
  | normal
  | exit (id : Nat)
  | goto (l : Nat)
  | ret
  | pan (v : AV)
def ExRel (w : World) (I : Nat → Prop) (ρ : List Nat) : Exit → AEx → Prop
  | .normal, .normal => True
  | .exit a, .exit b => a = b
  | .goto a, .goto b => a = b
  | .ret, .ret => True
  | .panic ch, .pan av => ∃ v, ch = [{ v, recovered := false }] ∧ Rep w I ρ v av
  | _, _ => False
/-- The abstract walk of code: K: how many of the objects are the caller's. -/
def Post (S : Base) (K : Nat) (Q : AEx → AFr → Store → Prop) (a : Act) (w : World) (I : Nat → Prop) (ρ : List Nat) (L : Store) (e : Exit) (a' : Act) (w' : World) : Prop :=
  ∃ x fr' L' I' ρ', ExRel w' I' ρ' e x ∧ Q x fr' L' ∧ Rel w' I' ρ' L' ∧ RepF w' I' ρ' a'.tmps fr' ∧ DefOk S w' I' a'.defers ∧ Ev K w I ρ L w' I' ρ' L' ∧ a'.tmps.size = a.tmps.size
def Tw (P : Program) (r : Option Nat) (K : Nat) (c : Code) (Q : AEx → AFr → Store → Prop) (fr : AFr) (L : Store) : Prop :=
  ∀ (S : Base) (a : Act) (w : World) (I : Nat → Prop) (ρ : List Nat), Rel w I ρ L → RepF w I ρ a.tmps fr → DefOk S w I a.defers → c.wpIn (Fen r) 0 P (Post S K Q a w I ρ L) a w
section rules
variable {P : Program} {r : Option Nat} {K : Nat} {Q : AEx → AFr → Store → Prop} {fr : AFr} {L : Store}
theorem Post.mono {S : Base} {Q' : AEx → AFr → Store → Prop} (hq : ∀ e fr L, Q e fr L → Q' e fr L) {a : Act} {w : World} {I : Nat → Prop} {ρ : List Nat} {e : Exit} {a' : Act} {w' : World} (h : Post S K Q a w I ρ L e a' w') : Post S K Q' a w I ρ L e a' w' :=
  let ⟨x, fr', L', I', ρ', hx, q, rest⟩ := h
  ⟨x, fr', L', I', ρ', hx, hq _ _ _ q, rest⟩
theorem Post.behind {S : Base} {a a1 : Act} {w w1 : World} {I I1 : Nat → Prop} {ρ ρ1 : List Nat} {L1 : Store} (ev : Ev K w I ρ L w1 I1 ρ1 L1) (hs : a1.tmps.size = a.tmps.size) {e : Exit} {a' : Act} {w' : World} (h : Post S K Q a1 w1 I1 ρ1 L1 e a' w') : Post S K Q a w I ρ L e a' w' :=
  let ⟨x, fr', L', I', ρ', hx, q, r1, r2, r3, ev2, hs2⟩ := h
  ⟨x, fr', L', I', ρ', hx, q, r1, r2, r3, ev.trans ev2, hs2.trans hs⟩
theorem Tw.mono {c : Code} {Q' : AEx → AFr → Store → Prop} (h : Tw P r K c Q fr L) (hq : ∀ e fr L, Q e fr L → Q' e fr L) : Tw P r K c Q' fr L := fun S a w I ρ h1 h2 h3 => wpIn_mono (h S a w I ρ h1 h2 h3) fun e a' w' => Post.mono hq
theorem Tw.skip (h : Q .normal fr L) : Tw P r K .skip Q fr L := fun S a w I ρ h1 h2 h3 => wpIn_skip ⟨.normal, fr, L, I, ρ, trivial, h, h1, h2, h3, .refl .., rfl⟩
theorem Tw.ret (h : Q .ret fr L) : Tw P r K .ret Q fr L := fun S a w I ρ h1 h2 h3 => wpIn_ret ⟨.ret, fr, L, I, ρ, trivial, h, h1, h2, h3, .refl .., rfl⟩
theorem Tw.exit {id : Nat} (h : Q (.exit id) fr L) : Tw P r K (.exit id) Q fr L := fun S a w I ρ h1 h2 h3 => wpIn_exit ⟨.exit id, fr, L, I, ρ, rfl, h, h1, h2, h3, .refl .., rfl⟩
/-- What comes behind normal ends. -/
def thenQ (N : AFr → Store → Prop) (Q : AEx → AFr → Store → Prop) : AEx → AFr → Store → Prop
  | .normal, fr, L => N fr L
  | e, fr, L => Q e fr L
theorem then_post {S : Base} {a : Act} {w : World} {I : Nat → Prop} {ρ : List Nat} {N : AFr → Store → Prop} {M : Act → World → Prop} {e : Exit} {a' : Act} {w' : World}
    (hN : ∀ a1 w1 I1 ρ1 fr1 L1, N fr1 L1 → Rel w1 I1 ρ1 L1 → RepF w1 I1 ρ1 a1.tmps fr1 → DefOk S w1 I1 a1.defers → Ev K w I ρ L w1 I1 ρ1 L1 → a1.tmps.size = a.tmps.size → M a1 w1)
    (h : Post S K (thenQ N Q) a w I ρ L e a' w') : Exit.then M (Post S K Q a w I ρ L) e a' w' := by
  obtain ⟨x, fr', L', I', ρ', hx, q, r1, r2, r3, ev, hs⟩ := h
  cases e with
  | normal => cases x <;> first | exact hx.elim | exact hN _ _ _ _ _ _ q r1 r2 r3 ev hs
  | exit id => cases x <;> first | exact hx.elim | exact ⟨_, fr', L', I', ρ', hx, q, r1, r2, r3, ev, hs⟩
  | goto id => cases x <;> first | exact hx.elim | exact ⟨_, fr', L', I', ρ', hx, q, r1, r2, r3, ev, hs⟩
  | ret => cases x <;> first | exact hx.elim | exact ⟨_, fr', L', I', ρ', hx, q, r1, r2, r3, ev, hs⟩
  | panic c => cases x <;> first | exact hx.elim | exact ⟨_, fr', L', I', ρ', hx, q, r1, r2, r3, ev, hs⟩
  | outgrown => cases x <;> exact hx.elim
theorem Tw.seq {x y : Code} (h : Tw P r K x (thenQ (Tw P r K y Q) Q) fr L) : Tw P r K (.seq x y) Q fr L := fun S a w I ρ h1 h2 h3 =>
  wpIn_seq (wpIn_mono (h S a w I ρ h1 h2 h3) fun e a' w' hp => then_post (fun a1 w1 I1 ρ1 fr1 L1 q r1 r2 r3 ev hs => wpIn_mono (q S a1 w1 I1 ρ1 r1 r2 r3) fun _ _ _ => Post.behind ev hs) hp)
/-- What is known may be said otherwise, the world staying. -/
def VS (K : Nat) (fr : AFr) (L : Store) (fr' : AFr) (L' : Store) : Prop :=
  ∀ w I ρ tmps, Rel w I ρ L → RepF w I ρ tmps fr → ∃ I' ρ', (∀ b, I b → I' b) ∧ (∀ b, I' b → I b ∨ Owned ρ L b) ∧ (∀ b, Owned ρ' L' b → Owned ρ L b) ∧ (∀ p, p < K → ρ'[p]? = ρ[p]?) ∧ Rel w I' ρ' L' ∧ RepF w I' ρ' tmps fr'
theorem VS.refl (K fr L) : VS K fr L fr L := fun w I ρ tmps h1 h2 => ⟨I, ρ, fun _ h => h, fun _ h => .inl h, fun _ h => h, fun _ _ => rfl, h1, h2⟩
theorem VS.trans {K fr L fr' L' fr'' L''} (h : VS K fr L fr' L') (k : VS K fr' L' fr'' L'') : VS K fr L fr'' L'' := fun w I ρ tmps h1 h2 => by
  obtain ⟨I', ρ', a1, a2, a3, a4, a5, a6⟩ := h w I ρ tmps h1 h2
  obtain ⟨I'', ρ'', b1, b2, b3, b4, b5, b6⟩ := k w I' ρ' tmps a5 a6
  exact ⟨I'', ρ'', fun b hb => b1 b (a1 b hb), fun b hb => (b2 b hb).elim (a2 b) (fun x => .inr (a3 b x)), fun b hb => a3 b (b3 b hb), fun p hp => (b4 p hp).trans (a4 p hp), b5, b6⟩
theorem VS.ev {K : Nat} {w : World} {I I' : Nat → Prop} {ρ ρ' : List Nat} {L L' : Store} (a1 : ∀ b, I b → I' b) (a2 : ∀ b, I' b → I b ∨ Owned ρ L b) (a3 : ∀ b, Owned ρ' L' b → Owned ρ L b) (a4 : ∀ p, p < K → ρ'[p]? = ρ[p]?) : Ev K w I ρ L w I' ρ' L' :=
  ⟨rfl, rfl, rfl, Nat.le_refl _, fun _ _ _ => rfl, a1, fun b hb => (a2 b hb).elim .inl (fun x => .inr (.inr x)), fun b hb => .inl (a3 b hb), fun b C t h => ⟨C, h, rfl⟩, a4⟩
theorem defOk_imm {S : Base} {w : World} {I I' : Nat → Prop} (h : ∀ b, I b → I' b) {ds : List Deferred} (hd : DefOk S w I ds) : DefOk S w I' ds :=
  ⟨hd.1, hd.2.imp fun Ds h3 => ⟨h3.1, h3.2.1, fun D hD => ⟨(h3.2.2 D hD).1, h D (h3.2.2 D hD).2.1, (h3.2.2 D hD).2.2⟩⟩⟩
theorem Tw.vs {c : Code} {fr' : AFr} {L' : Store} (hv : VS K fr L fr' L') (h : Tw P r K c Q fr' L') : Tw P r K c Q fr L := fun S a w I ρ h1 h2 h3 => by
  obtain ⟨I', ρ', a1, a2, a3, a4, a5, a6⟩ := hv w I ρ a.tmps h1 h2
  exact wpIn_mono (h S a w I' ρ' a5 a6 (defOk_imm a1 h3)) fun e a' w' => Post.behind (VS.ev a1 a2 a3 a4) rfl
theorem Tw.vsPost {c : Code} (h : Tw P r K c (fun x fr L => (∃ v, x = .pan v ∧ Q x fr L) ∨ (∃ fr' L', (∀ v, x ≠ .pan v) ∧ VS K fr L fr' L' ∧ Q x fr' L')) fr L) : Tw P r K c Q fr L := fun S a w I ρ h1 h2 h3 =>
  wpIn_mono (h S a w I ρ h1 h2 h3) fun e a' w' ⟨x, fr1, L1, I1, ρ1, hx, q, r1, r2, r3, ev, hs⟩ => by
    rcases q with ⟨v, _, q⟩ | ⟨fr', L', hn, hv, q⟩
    · exact ⟨x, fr1, L1, I1, ρ1, hx, q, r1, r2, r3, ev, hs⟩
    · obtain ⟨I', ρ', a1, a2, a3, a4, a5, a6⟩ := hv w' I1 ρ1 a'.tmps r1 r2
      refine ⟨x, fr', L', I', ρ', ?_, q, a5, a6, defOk_imm a1 r3, ev.trans (VS.ev a1 a2 a3 a4), hs⟩
      cases e <;> cases x <;> first | exact hx | exact absurd rfl (hn _)
theorem Tw.loop {c : Code} (J : Nat → AFr → Store → Prop) {n0 : Nat} {fr0 : AFr} {L0 : Store} (hv : VS K fr L fr0 L0) (h0 : J n0 fr0 L0)
    (round : ∀ n fr L, J n fr L → Tw P r K c (thenQ (fun fr' L' => ∃ m fr'' L'', m < n ∧ VS K fr' L' fr'' L'' ∧ J m fr'' L'') Q) fr L) : Tw P r K (.loop c) Q fr L := by
  refine Tw.vs hv ?_
  intro S a w I ρ h1 h2 h3
  let J' : Nat → Act → World → Prop := fun n a1 w1 => ∃ fr1 L1 I1 ρ1, J n fr1 L1 ∧ Rel w1 I1 ρ1 L1 ∧ RepF w1 I1 ρ1 a1.tmps fr1 ∧ DefOk S w1 I1 a1.defers ∧ Ev K w I ρ L0 w1 I1 ρ1 L1 ∧ a1.tmps.size = a.tmps.size
  classical
  refine wpIn_loop (fun a1 w1 => ∃ n, J' n a1 w1) (fun a1 w1 => leastOf (fun n => J' n a1 w1)) ⟨n0, fr0, L0, I, ρ, h0, h1, h2, h3, .refl .., rfl⟩ ?_
  intro a1 w1 hJ
  have hm := (leastOf_spec hJ).1
  generalize leastOf (fun n => J' n a1 w1) = n at hm
  obtain ⟨fr1, L1, I1, ρ1, j1, r1, r2, r3, ev, hs⟩ := hm
  refine wpIn_mono (round n fr1 L1 j1 S a1 w1 I1 ρ1 r1 r2 r3) fun e a' w' hp => ?_
  have key := then_post (M := fun a' w' => (∃ n, J' n a' w') ∧ leastOf (fun n => J' n a' w') < n) (fun a2 w2 I2 ρ2 fr2 L2 q s1 s2 s3 ev2 hs2 => by
    obtain ⟨m, fr3, L3, hlt, hv3, j3⟩ := q
    obtain ⟨I', ρ', c1, c2, c3, c4, c5, c6⟩ := hv3 w2 I2 ρ2 a2.tmps s1 s2
    have hj : J' m a2 w2 := ⟨fr3, L3, I', ρ', j3, c5, c6, defOk_imm c1 s3, ev.trans (ev2.trans (VS.ev c1 c2 c3 c4)), hs2.trans hs⟩
    exact ⟨⟨m, hj⟩, Nat.lt_of_le_of_lt ((leastOf_spec ⟨m, hj⟩).2 m hj) hlt⟩) hp
  cases e <;> first | exact key | exact Post.behind ev hs key
/-- What an operand is, abstractly. -/
def ofVal : Value → AV
  | .int k n => .int k n
  | .bool b => .bool b
  | .string s => .str s
  | .pointer none => .nil
  | .slice none 0 0 => .nils
  | .nilFunc => .nilf
  | .agg cs => .agg (cs.toList.map fun
    | .int k n => .int k n
    | .bool b => .bool b
    | .string s => .str s
    | .pointer none => .nil
    | .slice none 0 0 => .nils
    | .nilFunc => .nilf
    | v => .raw v)
  | v => .raw v
theorem ofVal_rep (w : World) (I : Nat → Prop) (ρ : List Nat) (v : Value) : Rep w I ρ v (ofVal v) := by
  unfold ofVal
  split
  · exact .int _ _
  · exact .bool _
  · exact .str _
  · exact .nil
  · exact .nils
  · exact .nilf
  · rename_i cs
    have : cs = cs.toList.toArray := by simp
    rw [this]
    refine .agg _ _ (by simp) fun j v c hv hc => ?_
    simp only [List.getElem?_map, hv, Option.map_some, Option.some.injEq] at hc
    subst hc
    split
    · exact .int _ _
    · exact .bool _
    · exact .str _
    · exact .nil
    · exact .nils
    · exact .nilf
    · exact .raw _
  · exact .raw _
def aval (fr : AFr) : Operand → AV
  | .tmp t => aget fr t
  | .const v => ofVal v
  | .global _ => .any
  | .func f => .func (.func f) [] []
theorem aval_rep {w : World} {I : Nat → Prop} {ρ : List Nat} {a : Act} {fr : AFr} (h : RepF w I ρ a.tmps fr) (x : Operand) : Rep w I ρ (a.eval x) (aval fr x) := by
  cases x with
  | tmp t => exact h.2 t
  | const v => exact ofVal_rep ..
  | global g => exact .any _
  | func f => exact .func (.func f) [] [] [] [] rfl rfl (fun _ _ _ h => by simp at h) (fun _ _ _ h => by simp at h)
theorem Tw.cond {c : Operand} {x y : Code} {b : Bool} (hc : aval fr c = .bool b) (ht : b = true → Tw P r K x Q fr L) (hf : b = false → Tw P r K y Q fr L) : Tw P r K (.cond c x y) Q fr L := fun S a w I ρ h1 h2 h3 => by
  have hv : a.eval c = .bool b := by have := aval_rep h2 c; rw [hc] at this; exact this.bool_inv
  exact wpIn_cond_split hv (fun hb => ht hb S a w I ρ h1 h2 h3) (fun hb => hf hb S a w I ρ h1 h2 h3)
def blockQ (id : Nat) (Q : AEx → AFr → Store → Prop) : AEx → AFr → Store → Prop
  | .exit id', fr, L => if id' = id then Q .normal fr L else Q (.exit id') fr L
  | e, fr, L => Q e fr L
theorem Tw.block {id : Nat} {c : Code} (h : Tw P r K c (blockQ id Q) fr L) : Tw P r K (.block id c) Q fr L := fun S a w I ρ h1 h2 h3 => by
  refine wpIn_block (wpIn_mono (h S a w I ρ h1 h2 h3) fun e a' w' ⟨x, fr', L', I', ρ', hx, q, rest⟩ => ?_)
  cases e with
  | exit id' =>
    cases x <;> first | exact hx.elim | skip
    cases hx
    simp only [blockQ] at q
    simp only [Exit.inBlock]
    split
    · rename_i hi; rw [if_pos hi] at q; exact ⟨.normal, fr', L', I', ρ', trivial, q, rest⟩
    · rename_i hi; rw [if_neg hi] at q; exact ⟨.exit id', fr', L', I', ρ', rfl, q, rest⟩
  | normal => cases x <;> first | exact hx.elim | exact ⟨_, fr', L', I', ρ', hx, q, rest⟩
  | goto id => cases x <;> first | exact hx.elim | exact ⟨_, fr', L', I', ρ', hx, q, rest⟩
  | ret => cases x <;> first | exact hx.elim | exact ⟨_, fr', L', I', ρ', hx, q, rest⟩
  | panic c => cases x <;> first | exact hx.elim | exact ⟨_, fr', L', I', ρ', hx, q, rest⟩
  | outgrown => cases x <;> exact hx.elim
end rules
/-! A scope that is gone through without a jump. -/
section
variable {P : Program} {b : Frame} {a : Act} {k : List Item} {cs : List Frame} {w : World}
theorem stepR_scope' {c : Code} : step P (lone (b.atR a (.code (.scope c) :: k)) cs w) = .next (lone (b.atR a (.code c :: .inScope c :: k)) cs w) :=
  step_lone_go (by simp [stepG, stepG.exec, Frame.atR])
theorem stepR_inScope' {c : Code} : step P (lone (b.atR a (.inScope c :: k)) cs w) = .next (lone (b.atR a k) cs w) :=
  step_lone_go (by simp [stepG, stepG.exec, Frame.atR])
def noGotoX (Q : Exit → Act → World → Prop) : Exit → Act → World → Prop
  | .goto _, _, _ => False
  | e, a, w => Q e a w
theorem wpIn_scope' {F : Fence} {n : Nat} {Q : Exit → Act → World → Prop} {c : Code} (h : c.wpIn F n P (noGotoX Q) a w) : (Code.scope c).wpIn F n P Q a w := by
  intro b k cs hro hb hr
  have h0 : (lone (b.atR a (.code (.scope c) :: k)) cs w).fenced P F := fenced_calm hb hr rfl
  obtain ⟨e, a₁, w₁, hq, harr⟩ := h b (.inScope c :: k) cs hro hb hr
  cases e with
  | normal => exact ⟨.normal, a₁, w₁, hq, .head h0 stepR_scope' (StepsIn.trans harr (.one (fenced_calm hb hr rfl) stepR_inScope'))⟩
  | exit id =>
    have hx : exitTo id (.inScope c :: k) = exitTo id k := by simp [exitTo]
    exact ⟨.exit id, a₁, w₁, hq, fun k' hk => .head h0 stepR_scope' (harr.1 k' (by rw [hx]; exact hk)),
      fun hr' hk => let ⟨k₁, h1, h2⟩ := harr.2 hr' (by rw [hx]; exact hk); ⟨k₁, h1, .head h0 stepR_scope' h2⟩⟩
  | goto l => exact hq.elim
  | ret => exact ⟨_, a₁, w₁, hq, .of_steps (.one h0 stepR_scope') harr⟩
  | panic ch => exact ⟨_, a₁, w₁, hq, .of_steps (.one h0 stepR_scope') harr⟩
  | outgrown => exact ⟨_, a₁, w₁, hq, .of_steps (.one h0 stepR_scope') harr⟩
end
def scopeQ (Q : AEx → AFr → Store → Prop) : AEx → AFr → Store → Prop
  | .goto _, _, _ => False
  | e, fr, L => Q e fr L
theorem Tw.label {P : Program} {r : Option Nat} {K : Nat} {Q : AEx → AFr → Store → Prop} {fr : AFr} {L : Store} {l : Nat} (h : Q .normal fr L) : Tw P r K (.label l) Q fr L := fun S a w I ρ h1 h2 h3 => wpIn_label ⟨.normal, fr, L, I, ρ, trivial, h, h1, h2, h3, .refl .., rfl⟩
theorem Tw.scope {P : Program} {r : Option Nat} {K : Nat} {Q : AEx → AFr → Store → Prop} {fr : AFr} {L : Store} {c : Code} (h : Tw P r K c (scopeQ Q) fr L) : Tw P r K (.scope c) Q fr L := fun S a w I ρ h1 h2 h3 => by
  refine wpIn_scope' (wpIn_mono (h S a w I ρ h1 h2 h3) fun e a' w' ⟨x, fr', L', I', ρ', hx, q, rest⟩ => ?_)
  cases e with
  | goto l => cases x <;> first | exact hx.elim | exact q.elim
  | exit id' => cases x <;> first | exact hx.elim | exact ⟨_, fr', L', I', ρ', hx, q, rest⟩
  | normal => cases x <;> first | exact hx.elim | exact ⟨_, fr', L', I', ρ', hx, q, rest⟩
  | ret => cases x <;> first | exact hx.elim | exact ⟨_, fr', L', I', ρ', hx, q, rest⟩
  | panic c => cases x <;> first | exact hx.elim | exact ⟨_, fr', L', I', ρ', hx, q, rest⟩
  | outgrown => cases x <;> exact hx.elim
end Go.Proofs.Ytaieiigfheabfaa.Tw

/-! The operations that only tell a value. -/
namespace Go.Proofs.Ytaieiigfheabfaa.Tw
open Go.RowKit
set_option linter.unusedVariables false
set_option linter.unusedSimpArgs false
def strEq (a b : ByteArray) : Bool := a.toList == b.toList
def nilK (k : Nat) : TypeDesc → Bool
  | .func _ _ _ => Nat.beq k 0
  | .slice _ => Nat.beq k 1
  | .interface _ => Nat.beq k 2
  | _ => false
def nilT (k : Nat) : Option TypeDesc → Bool
  | some d => nilK k d
  | none => false
theorem nilT_some {k : Nat} {o : Option TypeDesc} (h : nilT k o = true) : ∃ d, o = some d ∧ nilK k d = true := by
  cases o with
  | none => cases h
  | some d => exact ⟨d, rfl, h⟩
/-- A struct whose fields are all plain: where each lies and of which kind (0 a number, 1 a bool, 2 a string). -/
def flatK : Option TypeDesc → Option Nat
  | some (.int _) => some 0
  | some .bool => some 1
  | some .string => some 2
  | _ => none
def flatF (P : Program) : List Field → Option (List (Nat × Nat))
  | [] => some []
  | f :: fs => if f.name = "_" then none else
    match flatK (P.underlying f.type), flatF P fs with
    | some k, some l => some ((f.offset, k) :: l)
    | _, _ => none
def flatS (P : Program) (t : TypeId) : Option (List (Nat × Nat)) :=
  match P.stoodInHeld t with
  | true => none
  | false =>
    match P.underlying t with
    | some (.struct fs) => flatF P fs.toList
    | _ => none
def flat1 : Nat → AV → AV → Option Bool
  | 0, .int k a, .int k' b => if k = k' then some (decide (a = b)) else none
  | 1, .bool a, .bool b => some (a == b)
  | 2, .str a, .str b => some (strEq a b)
  | _, _, _ => none
def flatE : List (Nat × Nat) → List AV → List AV → Option Bool
  | [], _, _ => some true
  | (o, k) :: l, xs, ys =>
    match xs[o]?, ys[o]? with
    | some a, some b =>
      match flat1 k a b, flatE l xs ys with
      | some c, some d => some (c && d)
      | _, _ => none
    | _, _ => none
theorem flatF_cons {P : Program} {f : Field} {fs : List Field} {l : List (Nat × Nat)} (h : flatF P (f :: fs) = some l) : f.name ≠ "_" ∧ ∃ k l', flatK (P.underlying f.type) = some k ∧ flatF P fs = some l' ∧ l = (f.offset, k) :: l' := by
  unfold flatF at h
  split at h
  · cases h
  · rename_i hn
    split at h
    · rename_i k l' hk hl
      cases h
      exact ⟨hn, k, l', hk, hl, rfl⟩
    · cases h
theorem flatF_guard {P : Program} {d : Nat} : ∀ {fs : List Field} {l : List (Nat × Nat)}, flatF P fs = some l → (fs.any fun f => f.name != "_" && P.eqGuardType (d + 1) f.type) = false
  | [], _, _ => rfl
  | f :: fs, l, h => by
    obtain ⟨hn, k, l', hk, hl, rfl⟩ := flatF_cons h
    have hg : P.eqGuardType (d + 1) f.type = false := by
      unfold Program.eqGuardType
      cases hu : P.underlying f.type with
      | none => rfl
      | some u => rw [hu] at hk; cases u <;> first | rfl | cases hk
    simp only [List.any_cons, hg, Bool.and_false, Bool.false_or]
    exact flatF_guard hl
theorem flatK_inv {d : Option TypeDesc} {k : Nat} (h : flatK d = some k) : (k = 0 ∧ ∃ q, d = some (.int q)) ∨ (k = 1 ∧ d = some .bool) ∨ (k = 2 ∧ d = some .string) := by
  unfold flatK at h
  split at h
  · cases h; exact .inl ⟨rfl, _, rfl⟩
  · cases h; exact .inr (.inl ⟨rfl, rfl⟩)
  · cases h; exact .inr (.inr ⟨rfl, rfl⟩)
  · cases h
theorem flat1_inv {k : Nat} {a b : AV} {c : Bool} (h : flat1 k a b = some c) : (k = 0 ∧ ∃ q x y, a = .int q x ∧ b = .int q y ∧ c = decide (x = y)) ∨ (k = 1 ∧ ∃ x y, a = .bool x ∧ b = .bool y ∧ c = (x == y)) ∨ (k = 2 ∧ ∃ x y, a = .str x ∧ b = .str y ∧ c = strEq x y) := by
  unfold flat1 at h
  split at h
  · split at h
    · rename_i hk
      cases hk
      simp only [Option.some.injEq] at h
      exact .inl ⟨rfl, _, _, _, rfl, rfl, h.symm⟩
    · cases h
  · simp only [Option.some.injEq] at h
    exact .inr (.inl ⟨rfl, _, _, rfl, rfl, h.symm⟩)
  · simp only [Option.some.injEq] at h
    exact .inr (.inr ⟨rfl, _, _, rfl, rfl, h.symm⟩)
  · cases h
theorem flat1_run {P : Program} {ty : TypeId} {k d : Nat} {a b : AV} {c : Bool} {w : World} {I : Nat → Prop} {ρ : List Nat} {u v : Value} (hk : flatK (P.underlying ty) = some k) (h : flat1 k a b = some c) (hu : Rep w I ρ u a) (hv : Rep w I ρ v b) :
    (Op.equalIn (d + 1) ty u v).run P w = .ok c w := by
  rcases flatK_inv hk with ⟨rfl, q, hx⟩ | ⟨rfl, hx⟩ | ⟨rfl, hx⟩ <;> rcases flat1_inv h with ⟨h0, q', x, y, rfl, rfl, rfl⟩ | ⟨h0, x, y, rfl, rfl, rfl⟩ | ⟨h0, x, y, rfl, rfl, rfl⟩ <;> first | (exfalso; omega) | skip
  · rw [hu.int_inv, hv.int_inv, run_equalIn_int w d ty _ _ _ _ hx]
    rfl
  · rw [hu.bool_inv, hv.bool_inv, run_equalIn_bool' w d ty _ _ hx]
  · rw [hu.str_inv, hv.str_inv, run_equalIn_string w d ty _ _ hx]
    rfl
theorem flat_part {P : Program} {ty : TypeId} {k o : Nat} {vs : List Value} {v : Value} {w : World} (hk : flatK (P.underlying ty) = some k) (h : vs[o]? = some v) : (part ty vs.toArray o).run P w = .ok v w := by
  cases hx : P.underlying ty with
  | none => rw [hx] at hk; cases hk
  | some x =>
    rw [hx] at hk
    cases x <;> simp [flatK] at hk <;> simp [part, isAgg, run_underlying hx, h]
theorem flatE_run {P : Program} {d : Nat} {w : World} {I : Nat → Prop} {ρ : List Nat} {vs us : List Value} {xs ys : List AV} (hlx : vs.length = xs.length) (hly : us.length = ys.length)
    (hx : ∀ (j : Nat) (u : Value) (c : AV), vs[j]? = some u → xs[j]? = some c → Rep w I ρ u c) (hy : ∀ (j : Nat) (u : Value) (c : AV), us[j]? = some u → ys[j]? = some c → Rep w I ρ u c) :
    ∀ {fs : List Field} {l : List (Nat × Nat)} {b : Bool}, flatF P fs = some l → flatE l xs ys = some b → (Op.eqFields (d + 1) vs.toArray us.toArray fs).run P w = .ok b w
  | [], l, b, hf, hb => by cases hf; cases hb; rfl
  | f :: fs, l, b, hf, hb => by
    obtain ⟨hn, k, l', hk, hl, rfl⟩ := flatF_cons hf
    unfold flatE at hb
    split at hb
    · rename_i a b' ha hb'
      split at hb
      · rename_i c e hc he
        cases hb
        have hov : f.offset < xs.length := (List.getElem?_eq_some_iff.1 ha).1
        have hou : f.offset < ys.length := (List.getElem?_eq_some_iff.1 hb').1
        have hv : vs[f.offset]? = some (vs[f.offset]'(by omega)) := List.getElem?_eq_getElem _
        have hu : us[f.offset]? = some (us[f.offset]'(by omega)) := List.getElem?_eq_getElem _
        rw [Op.eqFields, if_pos hn]
        simp only [Sem.run_bind, flat_part hk hv, flat_part hk hu, Result.andThen_ok, flat1_run hk hc (hx _ _ _ hv ha) (hy _ _ _ hu hb')]
        cases c with
        | false => rfl
        | true => simpa using flatE_run hlx hly hx hy hl he
      · cases hb
    · cases hb
theorem flatS_run {P : Program} {t : TypeId} {l : List (Nat × Nat)} {w : World} {I : Nat → Prop} {ρ : List Nat} {u v : Value} {xs ys : List AV} {b : Bool} (h : flatS P t = some l) (hb : flatE l xs ys = some b) (hu : Rep w I ρ u (.agg xs)) (hv : Rep w I ρ v (.agg ys)) :
    (∀ op x y, (eqGuard op t x y u v).run P w = .ok () w) ∧ (binOp .eql t u v).run P w = .ok (.bool b) w ∧ (binOp .neq t u v).run P w = .ok (.bool (!b)) w := by
  obtain ⟨vs, rfl, hlv, hrv⟩ := hu.agg_inv
  obtain ⟨us, rfl, hlu, hru⟩ := hv.agg_inv
  unfold flatS at h
  split at h
  · cases h
  · rename_i hst
    split at h
    · rename_i fs hs
      have hfo : P.fieldsOf t = fs := by unfold Program.fieldsOf; rw [hs]
      have heq : (Op.equalIn 10000 t (.agg vs.toArray) (.agg us.toArray)).run P w = .ok b w := by
        rw [run_equalIn_struct w 9999 t _ _ (by rw [hs, hfo]) hst, hfo]
        exact flatE_run hlv hlu hrv hru h hb
      have hg : P.eqGuardType P.depth t = false := by
        obtain ⟨d, hd⟩ : ∃ d, P.depth = (d + 1) + 1 := ⟨2 * (P.types.size + Made.depth), rfl⟩
        rw [hd, Program.eqGuardType, hs]
        show (fs.any fun f => f.name != "_" && P.eqGuardType (d + 1) f.type) = false
        rw [← Array.any_toList]
        exact flatF_guard h
      refine ⟨fun op x y => run_eqGuard_agg w op t x y _ _ hg, ?_, ?_⟩
      · rw [run_eql_struct, heq]; rfl
      · rw [run_neq_struct, heq]; rfl
    · cases h
/-- Two operands. -/
def abin (P : Program) (t : TypeId) (op : BinOp) (x y : AV) (K : AV → Prop) : Prop :=
  match x, y with
  | .int k a, .int k' b =>
    match op with
    | .shl => 0 ≤ b ∧ K (.int k (k.wrap (a * 2 ^ min b.toNat k.bits)))
    | .shr => 0 ≤ b ∧ K (.int k (a.fdiv (2 ^ min b.toNat k.bits)))
    | .add => k = k' ∧ K (.int k (k.wrap (a + b)))
    | .sub => k = k' ∧ K (.int k (k.wrap (a - b)))
    | .mul => k = k' ∧ K (.int k (k.wrap (a * b)))
    | .quo => k = k' ∧ b ≠ 0 ∧ K (.int k (k.wrap (a.tdiv b)))
    | .rem => k = k' ∧ b ≠ 0 ∧ K (.int k (a.tmod b))
    | .and => k = k' ∧ K (.int k (k.wrap (BitVec.ofInt k.bits a &&& BitVec.ofInt k.bits b).toNat))
    | .or => k = k' ∧ K (.int k (k.wrap (BitVec.ofInt k.bits a ||| BitVec.ofInt k.bits b).toNat))
    | .xor => k = k' ∧ K (.int k (k.wrap (BitVec.ofInt k.bits a ^^^ BitVec.ofInt k.bits b).toNat))
    | .andNot => k = k' ∧ K (.int k (k.wrap (BitVec.ofInt k.bits a &&& ~~~(BitVec.ofInt k.bits b)).toNat))
    | .eql => k = k' ∧ K (.bool (decide (a = b)))
    | .neq => k = k' ∧ K (.bool (!decide (a = b)))
    | .lss => k = k' ∧ K (.bool (decide (a < b)))
    | .leq => k = k' ∧ K (.bool (decide (a ≤ b)))
    | .gtr => k = k' ∧ K (.bool (decide (b < a)))
    | .geq => k = k' ∧ K (.bool (decide (b ≤ a)))
  | .str a, .str b =>
    match op with
    | .add => a.size + b.size ≤ 9223372036854775807 ∧ K (.str (a ++ b))
    | .eql => K (.bool (strEq a b))
    | .neq => K (.bool (!strEq a b))
    | _ => False
  | .bool a, .bool b =>
    match op with
    | .eql => P.underlying t = some .bool ∧ K (.bool (a == b))
    | .neq => P.underlying t = some .bool ∧ K (.bool (!(a == b)))
    | _ => False
  | .ref .., .nil | .imm .., .nil =>
    match op with
    | .eql => P.underlying t = some (.pointer (P.pointee t)) ∧ K (.bool false)
    | .neq => P.underlying t = some (.pointer (P.pointee t)) ∧ K (.bool true)
    | _ => False
  | .nil, .nil =>
    match op with
    | .eql => P.underlying t = some (.pointer (P.pointee t)) ∧ K (.bool true)
    | .neq => P.underlying t = some (.pointer (P.pointee t)) ∧ K (.bool false)
    | _ => False
  | .func .., .nilf =>
    match op with
    | .eql => nilT 0 (P.underlying t) = true ∧ K (.bool false)
    | .neq => nilT 0 (P.underlying t) = true ∧ K (.bool true)
    | _ => False
  | .nilf, .nilf =>
    match op with
    | .eql => nilT 0 (P.underlying t) = true ∧ K (.bool true)
    | .neq => nilT 0 (P.underlying t) = true ∧ K (.bool false)
    | _ => False
  | .row .., .nils =>
    match op with
    | .eql => nilT 1 (P.underlying t) = true ∧ K (.bool false)
    | .neq => nilT 1 (P.underlying t) = true ∧ K (.bool true)
    | _ => False
  | .nils, .nils =>
    match op with
    | .eql => nilT 1 (P.underlying t) = true ∧ K (.bool true)
    | .neq => nilT 1 (P.underlying t) = true ∧ K (.bool false)
    | _ => False
  | .ifc _ _, .raw .nilIface =>
    match op with
    | .eql => nilT 2 (P.underlying t) = true ∧ K (.bool false)
    | .neq => nilT 2 (P.underlying t) = true ∧ K (.bool true)
    | _ => False
  | .agg xs, .agg ys =>
    match op with
    | .eql => ∃ l b, flatS P t = some l ∧ flatE l xs ys = some b ∧ K (.bool b)
    | .neq => ∃ l b, flatS P t = some l ∧ flatE l xs ys = some b ∧ K (.bool (!b))
    | _ => False
  | _, _ => False
def eqN : TypeDesc → Value → Value → Option Bool
  | .func _ _ _, .nilFunc, .nilFunc => some true
  | .func _ _ _, .func _ _ _, .nilFunc => some false
  | .slice _, .slice none _ _, .slice none _ _ => some true
  | .slice _, .slice (some _) _ _, .slice none _ _ => some false
  | .interface _, .iface _ _, .nilIface => some false
  | .interface _, .nilIface, .nilIface => some true
  | _, _, _ => none
theorem run_equal_of {P : Program} {t : TypeId} {d : TypeDesc} {x y : Value} {b : Bool} (w : World) (hu : P.underlying t = some d) (h : eqN d x y = some b) : (Op.equal t x y).run P w = .ok b w := by
  show (Op.equalIn (9999 + 1) t x y).run P w = _
  rw [Op.equalIn, Sem.run_bind, run_underlying hu w]
  simp only [Result.andThen_ok]
  unfold eqN at h
  split at h <;> first | (cases h; rfl) | cases h
theorem abin_ok {P : Program} {t : TypeId} {op : BinOp} {x y : AV} {K : AV → Prop} (h : abin P t op x y K) :
    ∃ av, K av ∧ ∀ (w : World) (I : Nat → Prop) (ρ : List Nat) (u v : Value) (ox oy : Operand), Rep w I ρ u x → Rep w I ρ v y → ∃ r, (do eqGuard op t ox oy u v; binOp op t u v : Sem Value).run P w = .ok r w ∧ Rep w I ρ r av := by
  unfold abin at h
  split at h
  · rename_i k a k' b
    cases op <;> dsimp only at h
    case shl =>
      obtain ⟨h0, h⟩ := h
      refine ⟨_, h, fun w I ρ u v ox oy hu hv => ⟨_, ?_, .int _ _⟩⟩
      rw [hu.int_inv, hv.int_inv]
      have : ¬ b < 0 := by omega
      simp [eqGuard, binOp, Op.shift, this]
    case shr =>
      obtain ⟨h0, h⟩ := h
      refine ⟨_, h, fun w I ρ u v ox oy hu hv => ⟨_, ?_, .int _ _⟩⟩
      rw [hu.int_inv, hv.int_inv]
      have : ¬ b < 0 := by omega
      simp [eqGuard, binOp, Op.shift, this]
    case quo =>
      obtain ⟨rfl, h0, h⟩ := h
      refine ⟨_, h, fun w I ρ u v ox oy hu hv => ⟨_, ?_, .int _ _⟩⟩
      rw [hu.int_inv, hv.int_inv]
      simp [eqGuard, binOp, Op.intDiv, h0]
    case rem =>
      obtain ⟨rfl, h0, h⟩ := h
      refine ⟨_, h, fun w I ρ u v ox oy hu hv => ⟨_, ?_, .int _ _⟩⟩
      rw [hu.int_inv, hv.int_inv]
      simp [eqGuard, binOp, Op.intDiv, h0]
    case eql =>
      obtain ⟨rfl, h⟩ := h
      refine ⟨_, h, fun w I ρ u v ox oy hu hv => ⟨_, ?_, .bool _⟩⟩
      rw [hu.int_inv, hv.int_inv]
      simp [eqGuard, binOp, Op.intCmp]
      rw [Bool.eq_iff_iff]; simp
    case neq =>
      obtain ⟨rfl, h⟩ := h
      refine ⟨_, h, fun w I ρ u v ox oy hu hv => ⟨_, ?_, .bool _⟩⟩
      rw [hu.int_inv, hv.int_inv]
      simp [eqGuard, binOp, Op.intCmp, bne]
      rw [Bool.eq_iff_iff]; simp
    case lss =>
      obtain ⟨rfl, h⟩ := h
      refine ⟨_, h, fun w I ρ u v ox oy hu hv => ⟨_, ?_, .bool _⟩⟩
      rw [hu.int_inv, hv.int_inv]
      simp [eqGuard, binOp, Op.intCmp]
    case leq =>
      obtain ⟨rfl, h⟩ := h
      refine ⟨_, h, fun w I ρ u v ox oy hu hv => ⟨_, ?_, .bool _⟩⟩
      rw [hu.int_inv, hv.int_inv]
      simp [eqGuard, binOp, Op.intCmp]
    case gtr =>
      obtain ⟨rfl, h⟩ := h
      refine ⟨_, h, fun w I ρ u v ox oy hu hv => ⟨_, ?_, .bool _⟩⟩
      rw [hu.int_inv, hv.int_inv]
      simp [eqGuard, binOp, Op.intCmp]
    case geq =>
      obtain ⟨rfl, h⟩ := h
      refine ⟨_, h, fun w I ρ u v ox oy hu hv => ⟨_, ?_, .bool _⟩⟩
      rw [hu.int_inv, hv.int_inv]
      simp [eqGuard, binOp, Op.intCmp]
    all_goals
      obtain ⟨rfl, h⟩ := h
      refine ⟨_, h, fun w I ρ u v ox oy hu hv => ⟨_, ?_, .int _ _⟩⟩
      rw [hu.int_inv, hv.int_inv]
      simp [eqGuard, binOp, Op.intArith, Op.intBits]
  · rename_i a b
    cases op <;> dsimp only at h <;> first | exact h.elim | skip
    case add =>
      obtain ⟨h0, h⟩ := h
      refine ⟨_, h, fun w I ρ u v ox oy hu hv => ⟨_, ?_, .str _⟩⟩
      rw [hu.str_inv, hv.str_inv]
      have : ¬ (9223372036854775807 < (a.size : Int) + (b.size : Int)) := by omega
      simp [eqGuard, binOp, Op.stringOp, this]
    all_goals
      refine ⟨_, h, fun w I ρ u v ox oy hu hv => ⟨_, ?_, .bool _⟩⟩
      rw [hu.str_inv, hv.str_inv]
      simp [eqGuard, binOp, Op.stringOp, strEq]
  · rename_i a b
    cases op <;> dsimp only at h <;> first | exact h.elim | skip
    all_goals
      obtain ⟨h0, h⟩ := h
      refine ⟨_, h, fun w I ρ u v ox oy hu hv => ⟨_, ?_, .bool _⟩⟩
      rw [hu.bool_inv, hv.bool_inv]
      simp [eqGuard, run_eql_bool w t _ _ h0, run_neq_bool w t _ _ h0]
  · cases op <;> dsimp only at h <;> first | exact h.elim | skip
    all_goals
      obtain ⟨h0, h⟩ := h
      refine ⟨_, h, fun w I ρ u v ox oy hu hv => ⟨_, ?_, .bool _⟩⟩
      cases hu; cases hv
      simp [eqGuard, run_eql_pointer_nil w t _ h0, run_neq_pointer_nil w t _ h0]
  · cases op <;> dsimp only at h <;> first | exact h.elim | skip
    all_goals
      obtain ⟨h0, h⟩ := h
      refine ⟨_, h, fun w I ρ u v ox oy hu hv => ⟨_, ?_, .bool _⟩⟩
      cases hu; cases hv
      simp [eqGuard, run_eql_pointer_nil w t _ h0, run_neq_pointer_nil w t _ h0]
  · cases op <;> dsimp only at h <;> first | exact h.elim | skip
    all_goals
      obtain ⟨h0, h⟩ := h
      refine ⟨_, h, fun w I ρ u v ox oy hu hv => ⟨_, ?_, .bool _⟩⟩
      cases hu; cases hv
      simp [eqGuard, run_eql_pointer_nil w t _ h0, run_neq_pointer_nil w t _ h0]
  · cases op <;> dsimp only at h <;> first | exact h.elim | skip
    all_goals
      obtain ⟨h0, h⟩ := h
      refine ⟨_, h, fun w I ρ u v ox oy hu hv => ⟨_, ?_, .bool _⟩⟩
      obtain ⟨d, hd, hk⟩ := nilT_some h0
      cases d <;> simp [nilK] at hk
      cases hu; cases hv
      simp [eqGuard, binOp]
      rw [run_equal_of (b := false) w hd] <;> rfl
  · cases op <;> dsimp only at h <;> first | exact h.elim | skip
    all_goals
      obtain ⟨h0, h⟩ := h
      refine ⟨_, h, fun w I ρ u v ox oy hu hv => ⟨_, ?_, .bool _⟩⟩
      obtain ⟨d, hd, hk⟩ := nilT_some h0
      cases d <;> simp [nilK] at hk
      cases hu; cases hv
      simp [eqGuard, binOp]
      rw [run_equal_of (b := true) w hd] <;> rfl
  · cases op <;> dsimp only at h <;> first | exact h.elim | skip
    all_goals
      obtain ⟨h0, h⟩ := h
      refine ⟨_, h, fun w I ρ u v ox oy hu hv => ⟨_, ?_, .bool _⟩⟩
      obtain ⟨d, hd, hk⟩ := nilT_some h0
      cases d <;> simp [nilK] at hk
      cases hu; cases hv
      simp [eqGuard, binOp]
      rw [run_equal_of (b := false) w hd] <;> rfl
  · cases op <;> dsimp only at h <;> first | exact h.elim | skip
    all_goals
      obtain ⟨h0, h⟩ := h
      refine ⟨_, h, fun w I ρ u v ox oy hu hv => ⟨_, ?_, .bool _⟩⟩
      obtain ⟨d, hd, hk⟩ := nilT_some h0
      cases d <;> simp [nilK] at hk
      cases hu; cases hv
      simp [eqGuard, binOp]
      rw [run_equal_of (b := true) w hd] <;> rfl
  · cases op <;> dsimp only at h <;> first | exact h.elim | skip
    all_goals
      obtain ⟨h0, h⟩ := h
      refine ⟨_, h, fun w I ρ u v ox oy hu hv => ⟨_, ?_, .bool _⟩⟩
      obtain ⟨d, hd, hk⟩ := nilT_some h0
      cases d <;> simp [nilK] at hk
      cases hu; cases hv
      simp [eqGuard, binOp]
      rw [run_equal_of (b := false) w hd] <;> rfl
  · cases op <;> dsimp only at h <;> first | exact h.elim | skip
    all_goals
      obtain ⟨l, b, h0, h1, h⟩ := h
      refine ⟨_, h, fun w I ρ u v ox oy hu hv => ⟨_, ?_, .bool _⟩⟩
      obtain ⟨hg, he, hn⟩ := flatS_run h0 h1 hu hv
      simp only [Sem.run_bind, hg, Result.andThen_ok]
      first | exact he | exact hn
  · exact h.elim
/-- A variable's value out of its cells. -/
def aload (P : Program) (t : TypeId) (cs : List AV) (K : AV → Prop) : Prop :=
  match P.underlying t with
  | some (.struct _) => (P.info? t).isSome = true ∧ P.cellsOf t ≤ cs.length ∧ K (.agg (cs.take (P.cellsOf t)))
  | some (.array _ _) => (P.info? t).isSome = true ∧ P.cellsOf t ≤ cs.length ∧ K (.agg (cs.take (P.cellsOf t)))
  | some _ => match cs with | c :: _ => K c | [] => False
  | none => False
def aggD : TypeDesc → Bool
  | .struct _ | .array _ _ => true
  | _ => false
theorem run_isAgg {P : Program} {t : TypeId} {d : TypeDesc} (h : P.underlying t = some d) (w : World) : (isAgg t).run P w = .ok (aggD d) w := by
  unfold isAgg
  rw [Sem.run_bind, run_underlying h w]
  cases d <;> rfl
theorem run_sizeOf' {P : Program} {t : TypeId} (h : (P.info? t).isSome = true) (w : World) : (sizeOf t).run P w = .ok (P.cellsOf t) w := by
  cases hi : P.info? t with
  | none => simp [hi] at h
  | some i => exact run_sizeOf (w := w) hi
theorem cell_add (w : World) (a : Addr) (h : a.spot = none) (j : Nat) : w.cell? (a.add j) = w.cell? ⟨a.block, a.off + j, none⟩ := by rw [add_none h]
theorem run_loadVar {P : Program} {t : TypeId} {cs : List AV} {K : AV → Prop} (h : aload P t cs K) :
    ∃ av, K av ∧ ∀ (w : World) (I : Nat → Prop) (ρ : List Nat) (b o : Nat), (∀ (j : Nat) (c : AV), cs[j]? = some c → ∃ v, w.cell? ⟨b, o + j, none⟩ = some v ∧ Rep w I ρ v c) →
      ∃ v, (loadVar t ⟨b, o, none⟩).run P w = .ok v w ∧ Rep w I ρ v av := by
  have agg : ∀ d, P.underlying t = some d → aggD d = true → (P.info? t).isSome = true → P.cellsOf t ≤ cs.length → ∀ (w : World) (I : Nat → Prop) (ρ : List Nat) (b o : Nat), (∀ (j : Nat) (c : AV), cs[j]? = some c → ∃ v, w.cell? ⟨b, o + j, none⟩ = some v ∧ Rep w I ρ v c) →
      ∃ v, (loadVar t ⟨b, o, none⟩).run P w = .ok v w ∧ Rep w I ρ v (.agg (cs.take (P.cellsOf t))) := by
    intro d hd h1 h2 h3 w I ρ b o hc
    have hl := run_loadCells (P := P) w ⟨b, o, none⟩ (P.cellsOf t) (fun j => (w.cell? ⟨b, o + j, none⟩).getD undef) (fun j hj => by
      obtain ⟨c, hc'⟩ : ∃ c, cs[j]? = some c := ⟨cs[j], List.getElem?_eq_getElem (by omega)⟩
      obtain ⟨v, hv, _⟩ := hc j c hc'
      rw [add_none rfl, hv]; rfl)
    refine ⟨_, by simp [loadVar, Sem.run_bind, run_isAgg hd, h1, run_sizeOf' h2, hl]; rfl, .agg _ _ (by simp; omega) fun j v c hv hc' => ?_⟩
    rw [List.getElem?_take] at hc'
    split at hc'
    · obtain ⟨u, hu, hr⟩ := hc j c hc'
      rename_i hlt
      simp [hlt] at hv
      rw [hu] at hv
      simp at hv
      exact hv ▸ hr
    · cases hc'
  unfold aload at h
  split at h
  · rename_i fs hd
    obtain ⟨h1, h2, h⟩ := h
    exact ⟨_, h, agg _ hd rfl h1 h2⟩
  · rename_i n e hd
    obtain ⟨h1, h2, h⟩ := h
    exact ⟨_, h, agg _ hd rfl h1 h2⟩
  · rename_i d hn1 hn2 hd
    cases cs with
    | nil => exact h.elim
    | cons c rest =>
      refine ⟨c, h, fun w I ρ b o hc => ?_⟩
      obtain ⟨v, hv, hr⟩ := hc 0 c rfl
      refine ⟨v, ?_, hr⟩
      have : aggD d = false := by cases d <;> first | rfl | exact absurd rfl (hn1 _) | exact absurd rfl (hn2 _ _)
      simp only [Nat.add_zero] at hv
      simp [loadVar, Sem.run_bind, run_isAgg hd, this, hv]
  · exact h.elim
/-- The object that a pointer leads into. -/
def AO.norm : AO → AO
  | .box w e => .arr w [e]
  | o => o
def aobj (L : Store) (p : Nat) : Option AO := ((L[p]?).join).map AO.norm
def aref (L : Store) (p w i : Nat) (K : AV → Prop) : Prop :=
  ∃ els, aobj L p = some (.arr w els) ∧ ∃ e, els[i]? = some e ∧ K e
theorem join_some {L : Store} {p : Nat} {o : AO} (h : aobj L p = some o) : ∃ o', L[p]? = some (some o') ∧ o'.norm = o := by
  unfold aobj at h
  cases hl : L[p]? with
  | none => simp [hl] at h
  | some x => cases x with
    | none => simp [hl] at h
    | some y => simp [hl] at h; exact ⟨y, rfl, h⟩
theorem norm_rel {w : World} {I : Nat → Prop} {ρ : List Nat} {b : Nat} (o : AO) : ObjRel w I ρ b o.norm ↔ ObjRel w I ρ b o := by cases o <;> exact Iff.rfl
theorem own_norm {w : World} {I : Nat → Prop} {ρ : List Nat} {L : Store} {p b : Nat} {o : AO} (hr : Rel w I ρ L) (h : aobj L p = some o) (hb : ρ[p]? = some b) : b < w.heap.size ∧ ¬ I b ∧ ObjRel w I ρ b o := by
  obtain ⟨o', h1, rfl⟩ := join_some h
  obtain ⟨a1, a2, a3⟩ := hr.own p o' b h1 hb
  exact ⟨a1, a2, (norm_rel o').2 a3⟩
/-- The objects are as they are told; more there may be. -/
def RelW (w : World) (I : Nat → Prop) (ρ : List Nat) (L : Store) : Prop := ∀ (p : Nat) (o : AO) (b : Nat), L[p]? = some (some o) → ρ[p]? = some b → b < w.heap.size ∧ ¬ I b ∧ ObjRel w I ρ b o
theorem own_normW {w : World} {I : Nat → Prop} {ρ : List Nat} {L : Store} {p b : Nat} {o : AO} (hr : RelW w I ρ L) (h : aobj L p = some o) (hb : ρ[p]? = some b) : b < w.heap.size ∧ ¬ I b ∧ ObjRel w I ρ b o :=
  let ⟨o', h1, h2⟩ := join_some h
  h2 ▸ let ⟨a1, a2, a3⟩ := hr p o' b h1 hb; ⟨a1, a2, (norm_rel o').2 a3⟩
theorem aref_ok {L : Store} {p wd i : Nat} {K : AV → Prop} (h : aref L p wd i K) :
    ∃ e els, K e ∧ aobj L p = some (.arr wd els) ∧ els[i]? = some e ∧ ∀ (w : World) (I : Nat → Prop) (ρ : List Nat) (b : Nat), RelW w I ρ L → ρ[p]? = some b → e.cells.length = wd ∧
      ∀ (j : Nat) (c : AV), e.cells[j]? = some c → ∃ v, w.cell? ⟨b, i * wd + j, none⟩ = some v ∧ Rep w I ρ v c := by
  obtain ⟨els, ho, e, he, h⟩ := h
  refine ⟨e, els, h, ho, he, fun w I ρ b hr hb => ?_⟩
  obtain ⟨hlt, hI, C, t, hC, hsz, hx⟩ := own_normW hr ho hb
  obtain ⟨h1, h2⟩ := hx i e he
  refine ⟨h1, fun j c hc => ?_⟩
  obtain ⟨v, hv, hrep⟩ := h2 j c hc
  exact ⟨v, by simp [World.cell?, hC, hv], hrep⟩
/-- A load. -/
def aloadAt (P : Program) (L : Store) (t : TypeId) (a : AV) (K : AV → Prop) : Prop :=
  match a with
  | .ref p w i f => aref L p w i fun e => aload P t (e.cells.drop f) K
  | .imm cs => aload P t cs K
  | _ => False
theorem aloadAt_ok {P : Program} {L : Store} {t : TypeId} {x : AV} {K : AV → Prop} (h : aloadAt P L t x K) :
    ∃ av, K av ∧ ∀ (w : World) (I : Nat → Prop) (ρ : List Nat) (u : Value), RelW w I ρ L → Rep w I ρ u x → ∃ r, (Instr.loadAt t u).run P w = .ok r w ∧ Rep w I ρ r av := by
  unfold aloadAt at h
  split at h
  · rename_i p wd i f
    obtain ⟨e, els, h, _, _, hcell⟩ := aref_ok h
    obtain ⟨av, hK, hl⟩ := run_loadVar h
    refine ⟨av, hK, fun w I ρ u hr hu => ?_⟩
    cases hu with
    | ref _ _ _ _ b hb =>
      obtain ⟨h1, h2⟩ := hcell w I ρ b hr hb
      obtain ⟨v, hv, hrep⟩ := hl w I ρ b (i * wd + f) (fun j c hc => by
        rw [List.getElem?_drop] at hc
        have := h2 (f + j) c hc
        rwa [← Nat.add_assoc] at this)
      exact ⟨v, by simp [Instr.loadAt, Instr.sureAddr, hv], hrep⟩
  · rename_i cs
    obtain ⟨av, hK, hl⟩ := run_loadVar h
    refine ⟨av, hK, fun w I ρ u hr hu => ?_⟩
    cases hu with
    | imm a _ vs hs hI hc hrep =>
      obtain ⟨b, o, s⟩ := a
      cases hs
      obtain ⟨v, hv, hr'⟩ := hl w I ρ b o (fun j c hc' => ⟨vs j, hc j (List.getElem?_eq_some_iff.1 hc').1, hrep j c hc'⟩)
      exact ⟨v, by simp [Instr.loadAt, Instr.sureAddr, hv], hr'⟩
  · exact h.elim
/-- A field's address. -/
def afaddr (P : Program) (s : TypeId) (x : AV) (f : Nat) (K : AV → Prop) : Prop :=
  match P.underlying s with
  | some (.struct fields) =>
    match fields[f]? with
    | some fd => ((P.info? fd.type).isSome = true ∧ P.cellsOf fd.type ≠ 0) ∧
      match x with
      | .ref p w i o => K (.ref p w i (o + fd.offset))
      | .imm cs => K (.imm (cs.drop fd.offset))
      | _ => False
    | none => False
  | _ => False
theorem afaddr_ok {P : Program} {s : TypeId} {x : AV} {f : Nat} {K : AV → Prop} (h : afaddr P s x f K) :
    ∃ av, K av ∧ ∀ (w : World) (I : Nat → Prop) (ρ : List Nat) (u : Value), Rep w I ρ u x → ∃ r, (Instr.fieldAt s u f).run P w = .ok r w ∧ Rep w I ρ r av := by
  unfold afaddr at h
  split at h
  · rename_i fields hs
    split at h
    · rename_i fd hf
      obtain ⟨⟨hi, hne⟩, h⟩ := h
      have hrun : ∀ (w : World) (a : Addr), (Instr.fieldAt s (.pointer (some a)) f).run P w = .ok (.pointer (some (a.add fd.offset))) w := by
        intro w a
        simp [Instr.fieldAt, Instr.sureAddr, run_underlying hs, hf, fieldPlace, run_sizeOf' hi, hne]
      split at h
      · rename_i p wd i o
        refine ⟨_, h, fun w I ρ u hu => ?_⟩
        cases hu with
        | ref _ _ _ _ b hb => exact ⟨_, hrun _ _, by rw [add_none rfl, Nat.add_assoc]; exact .ref _ _ _ _ _ hb⟩
      · rename_i cs
        refine ⟨_, h, fun w I ρ u hu => ?_⟩
        cases hu with
        | imm a _ vs hsp hI hc hrep =>
          refine ⟨_, hrun _ _, ?_⟩
          rw [add_none hsp]
          refine .imm _ _ (fun j => vs (fd.offset + j)) rfl hI (fun j hj => ?_) (fun j c hc' => hrep _ c (by rwa [List.getElem?_drop] at hc'))
          rw [List.length_drop] at hj
          have := hc (fd.offset + j) (by omega)
          rwa [← Nat.add_assoc] at this
      · exact h.elim
    · exact h.elim
  · exact h.elim
end Go.Proofs.Ytaieiigfheabfaa.Tw

/-! The operations that only tell a value: addresses, parts, cuts, lengths. -/
namespace Go.Proofs.Ytaieiigfheabfaa.Tw
open Go.RowKit
set_option linter.unusedVariables false
set_option linter.unusedSimpArgs false
/-- An element's address. -/
def aiaddr (P : Program) (t : TypeId) (x ix : AV) (K : AV → Prop) : Prop :=
  match ix with
  | .int _ i =>
    match P.underlying t, x with
    | some (.slice e), .sl w els => ((P.info? e).isSome = true ∧ P.cellsOf e = w) ∧ 0 ≤ i ∧ ∃ el, els[i.toNat]? = some el ∧ K (.imm el.cells)
    | some (.slice e), .slt w els => ((P.info? e).isSome = true ∧ P.cellsOf e = w) ∧ 0 ≤ i ∧ ∃ el, els[i.toNat]? = some el ∧ K (.imm el.cells)
    | some (.slice e), .row p w off n => ((P.info? e).isSome = true ∧ P.cellsOf e = w) ∧ 0 ≤ i ∧ i < n ∧ K (.ref p w (off + i.toNat) 0)
    | some (.array n e), .ref p w i0 f => ((P.info? e).isSome = true) ∧ 0 ≤ i ∧ i < n ∧ K (.ref p w i0 (f + i.toNat * P.cellsOf e))
    | some (.array n e), .imm cs => ((P.info? e).isSome = true) ∧ 0 ≤ i ∧ i < n ∧ K (.imm (cs.drop (i.toNat * P.cellsOf e)))
    | _, _ => False
  | _ => False
theorem run_indexAt_sl {P : Program} {t e : TypeId} (ht : P.underlying t = some (.slice e)) (hi : (P.info? e).isSome = true) (w : World) (A : Addr) (n c : Nat) (k : IntKind) (i : Int) (h0 : 0 ≤ i) (h1 : i < n) :
    (Instr.indexAt t (.slice (some A) n c) (.int k i)).run P w = .ok (.pointer (some (A.add (i.toNat * P.cellsOf e)))) w := by
  simp [Instr.indexAt, asIntOf, run_underlying ht, run_sizeOf' hi, h0, h1]
theorem run_indexAt_ar {P : Program} {t e : TypeId} {n : Nat} (ht : P.underlying t = some (.array n e)) (hi : (P.info? e).isSome = true) (w : World) (A : Addr) (k : IntKind) (i : Int) (h0 : 0 ≤ i) (h1 : i < n) :
    (Instr.indexAt t (.pointer (some A)) (.int k i)).run P w = .ok (.pointer (some (A.add (i.toNat * P.cellsOf e)))) w := by
  simp [Instr.indexAt, asIntOf, run_underlying ht, run_sizeOf' hi, h0, h1, Instr.sureAddr]
theorem aiaddr_ok {P : Program} {t : TypeId} {x ix : AV} {K : AV → Prop} (h : aiaddr P t x ix K) :
    ∃ av, K av ∧ ∀ (w : World) (I : Nat → Prop) (ρ : List Nat) (u v : Value), Rep w I ρ u x → Rep w I ρ v ix → ∃ r, (Instr.indexAt t u v).run P w = .ok r w ∧ Rep w I ρ r av := by
  unfold aiaddr at h
  split at h
  · rename_i k i
    have pure : ∀ (e : TypeId) (els : List AV) (el : AV) (w : World) (I : Nat → Prop) (ρ : List Nat) (a : Option Addr) (A : Addr) (n c : Nat) (vs : Nat → Nat → Value), P.underlying t = some (.slice e) → (P.info? e).isSome = true → 0 ≤ i → els[i.toNat]? = some el →
        n = els.length → (els = [] ∨ (a = some A ∧ A.spot = none ∧ I A.block)) → (∀ e' ∈ els, e'.cells.length = P.cellsOf e) →
        (∀ i j, i < els.length → j < P.cellsOf e → w.cell? ⟨A.block, A.off + (i * P.cellsOf e + j), none⟩ = some (vs i j)) →
        (∀ (i : Nat) (e' : AV) (j : Nat) (c : AV), els[i]? = some e' → e'.cells[j]? = some c → Rep w I ρ (vs i j) c) → ∃ r, (Instr.indexAt t (.slice a n c) (.int k i)).run P w = .ok r w ∧ Rep w I ρ r (.imm el.cells) := by
      intro e els el w I ρ a A n c vs ht hi h0 he hn ha hw hc hr
      have hlt : i.toNat < els.length := (List.getElem?_eq_some_iff.1 he).1
      rcases ha with rfl | ⟨rfl, hs, hI⟩
      · simp at hlt
      · refine ⟨_, run_indexAt_sl ht hi w A n c k i h0 (by omega), ?_⟩
        rw [add_none hs]
        have hl := hw el (List.mem_of_getElem? he)
        exact .imm _ _ (fun j => vs i.toNat j) rfl hI (fun j hj => by
          have := hc i.toNat j hlt (by omega)
          rwa [← Nat.add_assoc] at this) (fun j c hc' => hr _ _ j c he hc')
    split at h
    · rename_i e wd els ht
      obtain ⟨⟨hi, rfl⟩, h0, el, he, h⟩ := h
      refine ⟨_, h, fun w I ρ u v hu hv => ?_⟩
      rw [hv.int_inv]
      cases hu with
      | sl a A n c _ _ vs hn hcap ha hw hc hr => exact pure e els el w I ρ a A n c vs ht hi h0 he hn ha hw hc hr
    · rename_i e wd els ht
      obtain ⟨⟨hi, rfl⟩, h0, el, he, h⟩ := h
      refine ⟨_, h, fun w I ρ u v hu hv => ?_⟩
      rw [hv.int_inv]
      cases hu with
      | slt a A n _ _ vs hn ha hw hc hr => exact pure e els el w I ρ a A n n vs ht hi h0 he hn ha hw hc hr
    · rename_i e p wd off n ht
      obtain ⟨⟨hi, rfl⟩, h0, h1, h⟩ := h
      refine ⟨_, h, fun w I ρ u v hu hv => ?_⟩
      rw [hv.int_inv]
      cases hu with
      | row _ _ _ _ b c C t hb hn hB hC =>
        refine ⟨_, run_indexAt_sl ht hi w _ n c k i h0 h1, ?_⟩
        rw [add_none rfl, ← Nat.add_mul]
        exact .ref p _ (off + i.toNat) 0 b hb
    · rename_i n e p wd i0 f ht
      obtain ⟨hi, h0, h1, h⟩ := h
      refine ⟨_, h, fun w I ρ u v hu hv => ?_⟩
      rw [hv.int_inv]
      cases hu with
      | ref _ _ _ _ b hb =>
        refine ⟨_, run_indexAt_ar ht hi w _ k i h0 h1, ?_⟩
        rw [add_none rfl, Nat.add_assoc]
        exact .ref p _ _ _ b hb
    · rename_i n e cs ht
      obtain ⟨hi, h0, h1, h⟩ := h
      refine ⟨_, h, fun w I ρ u v hu hv => ?_⟩
      rw [hv.int_inv]
      cases hu with
      | imm a _ vs hsp hI hc hrep =>
        refine ⟨_, run_indexAt_ar ht hi w _ k i h0 h1, ?_⟩
        rw [add_none hsp]
        refine .imm _ _ (fun j => vs (i.toNat * P.cellsOf e + j)) rfl hI (fun j hj => ?_) (fun j c hc' => hrep _ c (by rwa [List.getElem?_drop] at hc'))
        rw [List.length_drop] at hj
        have := hc (i.toNat * P.cellsOf e + j) (by omega)
        rwa [← Nat.add_assoc] at this
    · exact h.elim
  · exact h.elim
/-- A part of a struct's or an array's cells. -/
theorem run_part {P : Program} {t : TypeId} {cs : List AV} {o : Nat} {K : AV → Prop} (h : aload P t (cs.drop o) K) :
    ∃ av, K av ∧ ∀ (w : World) (I : Nat → Prop) (ρ : List Nat) (vs : List Value), vs.length = cs.length → (∀ (j : Nat) (v : Value) (c : AV), vs[j]? = some v → cs[j]? = some c → Rep w I ρ v c) →
      ∃ v, (part t vs.toArray o).run P w = .ok v w ∧ Rep w I ρ v av := by
  have agg : ∀ d, P.underlying t = some d → aggD d = true → (P.info? t).isSome = true → P.cellsOf t ≤ (cs.drop o).length → ∀ (w : World) (I : Nat → Prop) (ρ : List Nat) (vs : List Value), vs.length = cs.length → (∀ (j : Nat) (v : Value) (c : AV), vs[j]? = some v → cs[j]? = some c → Rep w I ρ v c) →
      ∃ v, (part t vs.toArray o).run P w = .ok v w ∧ Rep w I ρ v (.agg ((cs.drop o).take (P.cellsOf t))) := by
    intro d hd h1 h2 h3 w I ρ vs hl hr
    refine ⟨.agg (vs.toArray.extract o (o + P.cellsOf t)), by simp [part, Sem.run_bind, run_isAgg hd, h1, run_sizeOf' h2], ?_⟩
    have : vs.toArray.extract o (o + P.cellsOf t) = ((vs.drop o).take (P.cellsOf t)).toArray := by simp
    rw [this]
    refine .agg _ _ (by simp [hl]) fun j v c hv hc => ?_
    rw [List.getElem?_take] at hv hc
    split at hv
    · rename_i hj
      rw [if_pos hj, List.getElem?_drop] at hc
      rw [List.getElem?_drop] at hv
      exact hr _ v c hv hc
    · cases hv
  unfold aload at h
  split at h
  · rename_i fs hd
    obtain ⟨h1, h2, h⟩ := h
    exact ⟨_, h, agg _ hd rfl h1 h2⟩
  · rename_i n e hd
    obtain ⟨h1, h2, h⟩ := h
    exact ⟨_, h, agg _ hd rfl h1 h2⟩
  · rename_i d hn1 hn2 hd
    cases hcs : cs.drop o with
    | nil => rw [hcs] at h; exact h.elim
    | cons c rest =>
      rw [hcs] at h
      refine ⟨c, h, fun w I ρ vs hl hr => ?_⟩
      have h0 : cs[o]? = some c := by
        have := congrArg (fun l => l[0]?) hcs
        simpa using this
      have hlt := (List.getElem?_eq_some_iff.1 h0).1
      have hv : vs[o]? = some vs[o] := List.getElem?_eq_getElem (by omega)
      have : aggD d = false := by cases d <;> first | rfl | exact absurd rfl (hn1 _) | exact absurd rfl (hn2 _ _)
      exact ⟨vs[o], by simp [part, Sem.run_bind, run_isAgg hd, this, hv], hr o _ c hv h0⟩
  · exact h.elim
def afield (P : Program) (t : TypeId) (x : AV) (f : Nat) (K : AV → Prop) : Prop :=
  match P.underlying t, x with
  | some (.struct fields), .agg cs => match fields[f]? with
    | some fd => aload P fd.type (cs.drop fd.offset) K
    | none => False
  | _, _ => False
theorem afield_ok {P : Program} {t : TypeId} {x : AV} {f : Nat} {K : AV → Prop} (h : afield P t x f K) :
    ∃ av, K av ∧ ∀ (w : World) (I : Nat → Prop) (ρ : List Nat) (u : Value), Rep w I ρ u x → ∃ r, (Instr.field t u f).run P w = .ok r w ∧ Rep w I ρ r av := by
  unfold afield at h
  split at h
  · rename_i fields cs ht
    split at h
    · rename_i fd hf
      obtain ⟨av, hK, hp⟩ := run_part h
      refine ⟨av, hK, fun w I ρ u hu => ?_⟩
      obtain ⟨vs, rfl, hl, hr⟩ := hu.agg_inv
      obtain ⟨v, hv, hrep⟩ := hp w I ρ vs hl hr
      exact ⟨v, by simp [Instr.field, run_underlying ht, hf, asAgg, hv], hrep⟩
    · exact h.elim
  · exact h.elim
def aindex (P : Program) (t : TypeId) (x ix : AV) (K : AV → Prop) : Prop :=
  match ix with
  | .int _ i =>
    match P.underlying t, x with
    | some .string, .str s => 0 ≤ i ∧ ∃ b, s.data[i.toNat]? = some b ∧ K (.int .u8 b.toNat)
    | some (.array n e), .agg cs => (P.info? e).isSome = true ∧ 0 ≤ i ∧ i < n ∧ aload P e (cs.drop (i.toNat * P.cellsOf e)) K
    | _, _ => False
  | _ => False
theorem aindex_ok {P : Program} {t : TypeId} {x ix : AV} {K : AV → Prop} (h : aindex P t x ix K) :
    ∃ av, K av ∧ ∀ (w : World) (I : Nat → Prop) (ρ : List Nat) (u v : Value), Rep w I ρ u x → Rep w I ρ v ix → ∃ r, (Instr.index t u v).run P w = .ok r w ∧ Rep w I ρ r av := by
  unfold aindex at h
  split at h
  · rename_i k i
    split at h
    · rename_i s ht
      obtain ⟨h0, b, hb, h⟩ := h
      refine ⟨_, h, fun w I ρ u v hu hv => ⟨_, ?_, .int _ _⟩⟩
      rw [hv.int_inv, hu.str_inv]
      have hlt := (Array.getElem?_eq_some_iff.1 hb)
      obtain ⟨hlt, hb'⟩ := hlt
      have h1 : i.toNat < s.size := hlt
      have h2 : s[i.toNat]? = some b := by rw [ByteArray.getElem?_lt' s _ h1]; exact congrArg some hb'
      simp [Instr.index, asIntOf, run_underlying ht, h0, h2]
    · rename_i n e cs ht
      obtain ⟨hi, h0, h1, h⟩ := h
      obtain ⟨av, hK, hp⟩ := run_part h
      refine ⟨av, hK, fun w I ρ u v hu hv => ?_⟩
      rw [hv.int_inv]
      obtain ⟨vs, rfl, hl, hr⟩ := hu.agg_inv
      obtain ⟨r, hr1, hrep⟩ := hp w I ρ vs hl hr
      exact ⟨r, by simp [Instr.index, asIntOf, run_underlying ht, h0, h1, run_sizeOf' hi, hr1], hrep⟩
    · exact h.elim
  · exact h.elim
/-- Lengths. -/
def alen (P : Program) (t : TypeId) (x : AV) (K : AV → Prop) : Prop :=
  match P.underlying t, x with
  | some .string, .str s => K (.int .i64 s.size)
  | some (.slice _), .nils => K (.int .i64 0)
  | some (.slice _), .sl _ els => K (.int .i64 els.length)
  | some (.slice _), .slt _ els => K (.int .i64 els.length)
  | some (.slice _), .row _ _ _ n => K (.int .i64 n)
  | some (.array n _), _ => K (.int .i64 n)
  | _, _ => False
theorem alen_ok {P : Program} {t : TypeId} {x : AV} {K : AV → Prop} (h : alen P t x K) :
    ∃ av, K av ∧ ∀ (w : World) (I : Nat → Prop) (ρ : List Nat) (u : Value) (ats : Array TypeId) (ty : TypeId), ats[0]? = some t → Rep w I ρ u x → ∃ r, (Builtin.len_ ats ty #[u]).run P w = .ok r w ∧ Rep w I ρ r av := by
  unfold alen at h
  split at h
  · rename_i ht; refine ⟨_, h, fun w I ρ u ats ty ha hu => ⟨_, ?_, .int _ _⟩⟩; cases hu; simp [Builtin.len_, ha, run_underlying ht, goInt]
  · rename_i ht; refine ⟨_, h, fun w I ρ u ats ty ha hu => ⟨_, ?_, .int _ _⟩⟩; cases hu; simp [Builtin.len_, ha, run_underlying ht, goInt]
  · rename_i ht; refine ⟨_, h, fun w I ρ u ats ty ha hu => ⟨_, ?_, .int _ _⟩⟩; cases hu with | sl a A n c _ _ vs hn => simp [Builtin.len_, ha, run_underlying ht, goInt, hn]
  · rename_i ht; refine ⟨_, h, fun w I ρ u ats ty ha hu => ⟨_, ?_, .int _ _⟩⟩; cases hu with | slt a A n _ _ vs hn => simp [Builtin.len_, ha, run_underlying ht, goInt, hn]
  · rename_i ht; refine ⟨_, h, fun w I ρ u ats ty ha hu => ⟨_, ?_, .int _ _⟩⟩; cases hu; simp [Builtin.len_, ha, run_underlying ht, goInt]
  · rename_i ht; refine ⟨_, h, fun w I ρ u ats ty ha hu => ⟨_, ?_, .int _ _⟩⟩; simp [Builtin.len_, ha, run_underlying ht, goInt]
  · exact h.elim
/-- A bound of a cut. -/
def abound (x : Option AV) (d : Nat) (K : Nat → Prop) : Prop :=
  match x with
  | none => K d
  | some (.int _ i) => 0 ≤ i ∧ K i.toNat
  | _ => False
theorem run_sliceBound' {P : Program} {w : World} (k : IntKind) (i : Int) (y : Nat) (code : BoundsCode) (h0 : 0 ≤ i) (h1 : i ≤ y) : (Instr.sliceBound (.int k i) y code).run P w = .ok i.toNat w := by
  simp [Instr.sliceBound, asIntOf, h0, h1]
/-- A cut of a slice or a string: what is cut lies within the length; without a third bound, or with one. -/
def aslice (P : Program) (t : TypeId) (x : AV) (lo hi mx : Option AV) (K : AV → Prop) : Prop :=
  match P.underlying t, x, mx with
  | some .string, .str s, none => abound lo 0 fun l => abound hi s.size fun h => l ≤ h ∧ h ≤ s.size ∧ K (.str (s.extract l h))
  | some (.slice e), .sl w els, none => (P.info? e).isSome = true ∧ P.cellsOf e = w ∧ abound lo 0 fun l => abound hi els.length fun h => l ≤ h ∧ h ≤ els.length ∧ K (.sl w ((els.take h).drop l))
  | some (.slice e), .sl w els, some m => (P.info? e).isSome = true ∧ P.cellsOf e = w ∧ hi.isSome = true ∧ abound lo 0 fun l => abound hi els.length fun h => abound (some m) 0 fun m => l ≤ h ∧ h = m ∧ h ≤ els.length ∧ K (.slt w ((els.take h).drop l))
  | some (.slice e), .slt w els, none => (P.info? e).isSome = true ∧ P.cellsOf e = w ∧ abound lo 0 fun l => abound hi els.length fun h => l ≤ h ∧ h ≤ els.length ∧ K (.sl w ((els.take h).drop l))
  | some (.slice e), .slt w els, some m => (P.info? e).isSome = true ∧ P.cellsOf e = w ∧ hi.isSome = true ∧ abound lo 0 fun l => abound hi els.length fun h => abound (some m) 0 fun m => l ≤ h ∧ h = m ∧ h ≤ els.length ∧ K (.slt w ((els.take h).drop l))
  | some (.slice e), .nils, none => (P.info? e).isSome = true ∧ abound lo 0 fun l => abound hi 0 fun h => l ≤ h ∧ h ≤ 0 ∧ K .nils
  | some (.slice e), .nils, some m => (P.info? e).isSome = true ∧ hi.isSome = true ∧ abound lo 0 fun l => abound hi 0 fun h => abound (some m) 0 fun m => l ≤ h ∧ h = m ∧ h ≤ 0 ∧ K .nils
  | some (.slice e), .row p w off n, none => (P.info? e).isSome = true ∧ P.cellsOf e = w ∧ match lo with
    | none => abound hi n fun h => h ≤ n ∧ K (.row p w off h)
    | some l => abound (some l) 0 fun l => abound hi n fun h => (l < h ∧ h ≤ n ∧ K (.row p w (off + l) (h - l))) ∨ (l = h ∧ h ≤ n ∧ K (.sl w []))
  | some (.slice e), .row p w off n, some m => (P.info? e).isSome = true ∧ P.cellsOf e = w ∧ hi.isSome = true ∧ lo = none ∧ abound hi n fun h => abound (some m) 0 fun m => h = m ∧ h ≤ n ∧ K (.row p w off h)
  | _, _, _ => False
/-- A bound of the model, by an abstract one. -/
def BoundRel (w : World) (I : Nat → Prop) (ρ : List Nat) : Option Value → Option AV → Prop
  | none, none => True
  | some v, some a => Rep w I ρ v a
  | _, _ => False
theorem abound_ok {x : Option AV} {d : Nat} {K : Nat → Prop} (h : abound x d K) : ∃ n, K n ∧ ∀ (P : Program) (w : World) (I : Nat → Prop) (ρ : List Nat) (v : Option Value), BoundRel w I ρ v x →
    (v = none ∧ x = none ∧ n = d) ∨ ∃ u, v = some u ∧ x.isSome = true ∧ ∀ (y : Nat) (code : BoundsCode), n ≤ y → (Instr.sliceBound u y code).run P w = .ok n w := by
  unfold abound at h
  split at h
  · refine ⟨d, h, fun P w I ρ v hv => ?_⟩
    cases v with
    | none => exact .inl ⟨rfl, rfl, rfl⟩
    | some v => exact hv.elim
  · rename_i k i
    obtain ⟨h0, h⟩ := h
    refine ⟨_, h, fun P w I ρ v hv => ?_⟩
    cases v with
    | none => exact hv.elim
    | some v =>
      have := Rep.int_inv hv
      subst this
      exact .inr ⟨_, rfl, rfl, fun y code hy => run_sliceBound' _ _ _ _ h0 (by omega)⟩
  · exact h.elim
theorem run_slice2 {P : Program} {t e : TypeId} (ht : P.underlying t = some (.slice e)) (hi : (P.info? e).isSome = true) (w : World) (a : Option Addr) (len cap l h : Nat) (lo hh : Option Value) (h1 : l ≤ h) (h2 : h ≤ len) (h3 : len ≤ cap)
    (hl : (lo = none ∧ l = 0) ∨ ∃ u, lo = some u ∧ ∀ (y : Nat) (code : BoundsCode), l ≤ y → (Instr.sliceBound u y code).run P w = .ok l w)
    (hhh : (hh = none ∧ h = len) ∨ ∃ u, hh = some u ∧ ∀ (y : Nat) (code : BoundsCode), h ≤ y → (Instr.sliceBound u y code).run P w = .ok h w) :
    (Instr.sliceAt t (.slice a len cap) lo hh none).run P w = .ok (.slice (if cap = l then a else a.map (·.add (l * P.cellsOf e))) (h - l) (cap - l)) w := by
  have hc : h ≤ cap := by omega
  rcases hl with ⟨rfl, rfl⟩ | ⟨u, rfl, hu⟩ <;> rcases hhh with ⟨rfl, rfl⟩ | ⟨v, rfl, hv⟩
  · simp [Instr.sliceAt, Instr.slice, run_underlying ht, Instr.sliceBounds, run_sizeOf' hi]
  · simp [Instr.sliceAt, Instr.slice, run_underlying ht, Instr.sliceBounds, run_sizeOf' hi, hv cap _ hc]
  · simp [Instr.sliceAt, Instr.slice, run_underlying ht, Instr.sliceBounds, run_sizeOf' hi, hu h _ h1]
  · simp [Instr.sliceAt, Instr.slice, run_underlying ht, Instr.sliceBounds, run_sizeOf' hi, hv cap _ hc, hu h _ h1]
theorem run_slice3 {P : Program} {t e : TypeId} (ht : P.underlying t = some (.slice e)) (hi : (P.info? e).isSome = true) (w : World) (a : Option Addr) (len cap l h m : Nat) (lo : Option Value) (hh mm : Value) (h1 : l ≤ h) (h2 : h ≤ m) (h3 : m ≤ cap)
    (hl : (lo = none ∧ l = 0) ∨ ∃ u, lo = some u ∧ ∀ (y : Nat) (code : BoundsCode), l ≤ y → (Instr.sliceBound u y code).run P w = .ok l w)
    (hhh : ∀ (y : Nat) (code : BoundsCode), h ≤ y → (Instr.sliceBound hh y code).run P w = .ok h w) (hmm : ∀ (y : Nat) (code : BoundsCode), m ≤ y → (Instr.sliceBound mm y code).run P w = .ok m w) :
    (Instr.sliceAt t (.slice a len cap) lo (some hh) (some mm)).run P w = .ok (.slice (if m = l then a else a.map (·.add (l * P.cellsOf e))) (h - l) (m - l)) w := by
  rcases hl with ⟨rfl, rfl⟩ | ⟨u, rfl, hu⟩
  · simp [Instr.sliceAt, Instr.slice, run_underlying ht, Instr.sliceBounds, run_sizeOf' hi, hmm cap _ h3, hhh m _ h2]
  · simp [Instr.sliceAt, Instr.slice, run_underlying ht, Instr.sliceBounds, run_sizeOf' hi, hmm cap _ h3, hhh m _ h2, hu h _ h1]
end Go.Proofs.Ytaieiigfheabfaa.Tw

/-! Cuts of slices and strings. -/
namespace Go.Proofs.Ytaieiigfheabfaa.Tw
open Go.RowKit
set_option linter.unusedVariables false
set_option linter.unusedSimpArgs false
/-- The cells of a part of a row that is never written. -/
theorem cut_cells {w : World} {I : Nat → Prop} {ρ : List Nat} {a : Option Addr} {A : Addr} {wd : Nat} {els : List AV} {vs : Nat → Nat → Value} (l h k : Nat) (hlh : l ≤ h) (hk : l < h → k ≠ l)
    (ha : els = [] ∨ (a = some A ∧ A.spot = none ∧ I A.block)) (hh : h ≤ els.length) (hw : ∀ e ∈ els, e.cells.length = wd)
    (hc : ∀ i j, i < els.length → j < wd → w.cell? ⟨A.block, A.off + (i * wd + j), none⟩ = some (vs i j))
    (hr : ∀ (i : Nat) (e : AV) (j : Nat) (c : AV), els[i]? = some e → e.cells[j]? = some c → Rep w I ρ (vs i j) c) :
    ((els.take h).drop l = [] ∨ ((if k = l then a else a.map (·.add (l * wd))) = some ⟨A.block, A.off + l * wd, none⟩ ∧ (⟨A.block, A.off + l * wd, none⟩ : Addr).spot = none ∧ I A.block)) ∧ (h - l = ((els.take h).drop l).length) ∧ (∀ e ∈ (els.take h).drop l, e.cells.length = wd) ∧
    (∀ i j, i < ((els.take h).drop l).length → j < wd → w.cell? ⟨A.block, A.off + l * wd + (i * wd + j), none⟩ = some (vs (l + i) j)) ∧
    (∀ (i : Nat) (e : AV) (j : Nat) (c : AV), ((els.take h).drop l)[i]? = some e → e.cells[j]? = some c → Rep w I ρ (vs (l + i) j) c) := by
  have hlen : ((els.take h).drop l).length = h - l := by simp; omega
  refine ⟨?_, hlen.symm, fun e he => hw e (List.mem_of_mem_take (List.mem_of_mem_drop he)), fun i j hi hj => ?_, fun i e j c he hc' => ?_⟩
  · by_cases e : l < h
    · refine .inr ?_
      rcases ha with rfl | ⟨rfl, hs, hI⟩
      · simp at hh; omega
      · rw [if_neg (hk e)]
        exact ⟨by rw [Option.map_some, add_none hs], rfl, hI⟩
    · left
      exact List.eq_nil_of_length_eq_zero (by omega)
  · have := hc (l + i) j (by omega) hj
    rw [Nat.add_mul] at this
    rwa [show A.off + l * wd + (i * wd + j) = A.off + (l * wd + i * wd + j) from by omega]
  · rw [List.getElem?_drop, List.getElem?_take] at he
    split at he
    · exact hr _ e j c he hc'
    · cases he
theorem bound_lo {x : Option AV} {n : Nat} {P : Program} {w : World} {I : Nat → Prop} {ρ : List Nat} {v : Option Value} {d : Nat}
    (h : (v = none ∧ x = none ∧ n = d) ∨ ∃ u, v = some u ∧ x.isSome = true ∧ ∀ (y : Nat) (code : BoundsCode), n ≤ y → (Instr.sliceBound u y code).run P w = .ok n w) :
    (v = none ∧ n = d) ∨ ∃ u, v = some u ∧ ∀ (y : Nat) (code : BoundsCode), n ≤ y → (Instr.sliceBound u y code).run P w = .ok n w :=
  h.imp (fun ⟨a, _, b⟩ => ⟨a, b⟩) (fun ⟨u, a, _, b⟩ => ⟨u, a, b⟩)
theorem bound_some {x : Option AV} {n : Nat} {P : Program} {w : World} {v : Option Value} {d : Nat} (hx : x.isSome = true)
    (h : (v = none ∧ x = none ∧ n = d) ∨ ∃ u, v = some u ∧ x.isSome = true ∧ ∀ (y : Nat) (code : BoundsCode), n ≤ y → (Instr.sliceBound u y code).run P w = .ok n w) :
    ∃ u, v = some u ∧ ∀ (y : Nat) (code : BoundsCode), n ≤ y → (Instr.sliceBound u y code).run P w = .ok n w := by
  rcases h with ⟨_, h, _⟩ | ⟨u, a, _, b⟩
  · subst h; cases hx
  · exact ⟨u, a, b⟩
theorem aslice_ok {P : Program} {t : TypeId} {x : AV} {lo hi mx : Option AV} {K : AV → Prop} (h : aslice P t x lo hi mx K) :
    ∃ av, K av ∧ ∀ (w : World) (I : Nat → Prop) (ρ : List Nat) (u : Value) (l h m : Option Value), Rep w I ρ u x → BoundRel w I ρ l lo → BoundRel w I ρ h hi → BoundRel w I ρ m mx → ∃ r, (Instr.sliceAt t u l h m).run P w = .ok r w ∧ Rep w I ρ r av := by
  unfold aslice at h
  split at h
  · rename_i s ht
    obtain ⟨l, h, hl⟩ := abound_ok h
    obtain ⟨hh, h, hhh⟩ := abound_ok h
    obtain ⟨h1, h2, h⟩ := h
    refine ⟨_, h, fun w I ρ u bl bh bm hu r1 r2 r3 => ⟨_, ?_, .str _⟩⟩
    have := hu.str_inv
    subst this
    cases bm with
    | some v => exact r3.elim
    | none =>
      rcases bound_lo (I := I) (ρ := ρ) (hl P w I ρ bl r1) with ⟨rfl, rfl⟩ | ⟨u, rfl, hu1⟩ <;> rcases bound_lo (I := I) (ρ := ρ) (hhh P w I ρ bh r2) with ⟨rfl, rfl⟩ | ⟨v, rfl, hv1⟩
      · simp [Instr.sliceAt, Instr.slice, run_underlying ht, Instr.sliceBounds]
      · simp [Instr.sliceAt, Instr.slice, run_underlying ht, Instr.sliceBounds, hv1 _ _ h2]
      · simp [Instr.sliceAt, Instr.slice, run_underlying ht, Instr.sliceBounds, hu1 _ _ h1]
      · simp [Instr.sliceAt, Instr.slice, run_underlying ht, Instr.sliceBounds, hv1 _ _ h2, hu1 _ _ h1]
  · rename_i e wd els ht
    obtain ⟨hi', rfl, h⟩ := h
    obtain ⟨l, h, hl⟩ := abound_ok h
    obtain ⟨hh, h, hhh⟩ := abound_ok h
    obtain ⟨h1, h2, h⟩ := h
    refine ⟨_, h, fun w I ρ u bl bh bm hu r1 r2 r3 => ?_⟩
    cases bm with
    | some v => exact r3.elim
    | none =>
      cases hu with
      | sl a A n c _ _ vs hn hcap ha hw hc hr =>
        subst hn
        obtain ⟨c1, c2, c3, c4, c5⟩ := cut_cells l hh c h1 (by omega) ha h2 hw hc hr
        exact ⟨_, run_slice2 ht hi' w a els.length c l hh _ _ h1 h2 hcap (bound_lo (I := I) (ρ := ρ) (hl P w I ρ bl r1)) (bound_lo (I := I) (ρ := ρ) (hhh P w I ρ bh r2)),
          .sl _ _ _ _ _ _ (fun i j => vs (l + i) j) c2 (by omega) c1 c3 c4 c5⟩
  · rename_i e wd els m0 ht
    obtain ⟨hi', rfl, hs, h⟩ := h
    obtain ⟨l, h, hl⟩ := abound_ok h
    obtain ⟨hh, h, hhh⟩ := abound_ok h
    obtain ⟨mm, h, hmm⟩ := abound_ok h
    obtain ⟨h1, rfl, h2, h⟩ := h
    refine ⟨_, h, fun w I ρ u bl bh bm hu r1 r2 r3 => ?_⟩
    obtain ⟨u2, rfl, q2⟩ := bound_some hs (hhh P w I ρ bh r2)
    obtain ⟨u3, rfl, q3⟩ := bound_some rfl (hmm P w I ρ bm r3)
    cases hu with
    | sl a A n c _ _ vs hn hcap ha hw hc hr =>
      subst hn
      obtain ⟨c1, c2, c3, c4, c5⟩ := cut_cells l hh hh h1 (by omega) ha h2 hw hc hr
      exact ⟨_, run_slice3 ht hi' w a els.length c l hh hh _ _ _ h1 (Nat.le_refl _) (by omega) (bound_lo (I := I) (ρ := ρ) (hl P w I ρ bl r1)) q2 q3,
        .slt _ _ _ _ _ (fun i j => vs (l + i) j) c2 c1 c3 c4 c5⟩
  · rename_i e wd els ht
    obtain ⟨hi', rfl, h⟩ := h
    obtain ⟨l, h, hl⟩ := abound_ok h
    obtain ⟨hh, h, hhh⟩ := abound_ok h
    obtain ⟨h1, h2, h⟩ := h
    refine ⟨_, h, fun w I ρ u bl bh bm hu r1 r2 r3 => ?_⟩
    cases bm with
    | some v => exact r3.elim
    | none =>
      cases hu with
      | slt a A n _ _ vs hn ha hw hc hr =>
        subst hn
        obtain ⟨c1, c2, c3, c4, c5⟩ := cut_cells l hh els.length h1 (by omega) ha h2 hw hc hr
        exact ⟨_, run_slice2 ht hi' w a els.length els.length l hh _ _ h1 h2 (Nat.le_refl _) (bound_lo (I := I) (ρ := ρ) (hl P w I ρ bl r1)) (bound_lo (I := I) (ρ := ρ) (hhh P w I ρ bh r2)),
          .sl _ _ _ _ _ _ (fun i j => vs (l + i) j) c2 (by omega) c1 c3 c4 c5⟩
  · rename_i e wd els m0 ht
    obtain ⟨hi', rfl, hs, h⟩ := h
    obtain ⟨l, h, hl⟩ := abound_ok h
    obtain ⟨hh, h, hhh⟩ := abound_ok h
    obtain ⟨mm, h, hmm⟩ := abound_ok h
    obtain ⟨h1, rfl, h2, h⟩ := h
    refine ⟨_, h, fun w I ρ u bl bh bm hu r1 r2 r3 => ?_⟩
    obtain ⟨u2, rfl, q2⟩ := bound_some hs (hhh P w I ρ bh r2)
    obtain ⟨u3, rfl, q3⟩ := bound_some rfl (hmm P w I ρ bm r3)
    cases hu with
    | slt a A n _ _ vs hn ha hw hc hr =>
      subst hn
      obtain ⟨c1, c2, c3, c4, c5⟩ := cut_cells l hh hh h1 (by omega) ha h2 hw hc hr
      exact ⟨_, run_slice3 ht hi' w a els.length els.length l hh hh _ _ _ h1 (Nat.le_refl _) (by omega) (bound_lo (I := I) (ρ := ρ) (hl P w I ρ bl r1)) q2 q3,
        .slt _ _ _ _ _ (fun i j => vs (l + i) j) c2 c1 c3 c4 c5⟩
  · rename_i e ht
    obtain ⟨hi', h⟩ := h
    obtain ⟨l, h, hl⟩ := abound_ok h
    obtain ⟨hh, h, hhh⟩ := abound_ok h
    obtain ⟨h1, h2, hK⟩ := h
    obtain rfl : hh = 0 := by omega
    obtain rfl : l = 0 := by omega
    refine ⟨_, hK, fun w I ρ u bl bh bm hu r1 r2 r3 => ?_⟩
    cases bm with
    | some v => exact r3.elim
    | none =>
      cases hu
      exact ⟨_, run_slice2 ht hi' w none 0 0 0 0 _ _ h1 h2 (Nat.le_refl _) (bound_lo (I := I) (ρ := ρ) (hl P w I ρ bl r1)) (bound_lo (I := I) (ρ := ρ) (hhh P w I ρ bh r2)), .nils⟩
  · rename_i e m0 ht
    obtain ⟨hi', hs, h⟩ := h
    obtain ⟨l, h, hl⟩ := abound_ok h
    obtain ⟨hh, h, hhh⟩ := abound_ok h
    obtain ⟨mm, h, hmm⟩ := abound_ok h
    obtain ⟨h1, rfl, h2, hK⟩ := h
    obtain rfl : hh = 0 := by omega
    obtain rfl : l = 0 := by omega
    refine ⟨_, hK, fun w I ρ u bl bh bm hu r1 r2 r3 => ?_⟩
    obtain ⟨u2, rfl, q2⟩ := bound_some hs (hhh P w I ρ bh r2)
    obtain ⟨u3, rfl, q3⟩ := bound_some rfl (hmm P w I ρ bm r3)
    cases hu
    exact ⟨_, run_slice3 ht hi' w none 0 0 0 0 0 _ _ _ h1 (Nat.le_refl _) (by omega) (bound_lo (I := I) (ρ := ρ) (hl P w I ρ bl r1)) q2 q3, .nils⟩
  · rename_i e p wd off n ht
    obtain ⟨hi', rfl, h⟩ := h
    split at h
    · obtain ⟨hh, h, hhh⟩ := abound_ok h
      obtain ⟨h2, h⟩ := h
      refine ⟨_, h, fun w I ρ u bl bh bm hu r1 r2 r3 => ?_⟩
      cases bl with
      | some v => exact r1.elim
      | none =>
      cases bm with
      | some v => exact r3.elim
      | none =>
        cases hu with
        | row _ _ _ _ b c C t' hb hn hB hC =>
          refine ⟨_, run_slice2 ht hi' w _ n c 0 hh _ _ (Nat.zero_le _) h2 hn (.inl ⟨rfl, rfl⟩) (bound_lo (I := I) (ρ := ρ) (hhh P w I ρ bh r2)), ?_⟩
          have : (if c = 0 then some (⟨b, off * P.cellsOf e, none⟩ : Addr) else (some (⟨b, off * P.cellsOf e, none⟩ : Addr)).map (·.add (0 * P.cellsOf e))) = some ⟨b, off * P.cellsOf e, none⟩ := by
            split
            · rfl
            · rw [Option.map_some, add_none rfl]; simp
          rw [this]
          exact .row _ _ _ _ b c C t' hb (by omega) hB hC
    · rename_i lo'
      obtain ⟨l, h, hl⟩ := abound_ok h
      obtain ⟨hh, h, hhh⟩ := abound_ok h
      rcases h with ⟨h1, h2, h⟩ | ⟨rfl, h2, h⟩
      · refine ⟨_, h, fun w I ρ u bl bh bm hu r1 r2 r3 => ?_⟩
        cases bm with
        | some v => exact r3.elim
        | none =>
          cases hu with
          | row _ _ _ _ b c C t' hb hn hB hC =>
            refine ⟨_, run_slice2 ht hi' w _ n c l hh _ _ (by omega) h2 hn (bound_lo (I := I) (ρ := ρ) (hl P w I ρ bl r1)) (bound_lo (I := I) (ρ := ρ) (hhh P w I ρ bh r2)), ?_⟩
            rw [if_neg (by omega), Option.map_some, add_none rfl, ← Nat.add_mul]
            refine .row _ _ _ _ b _ C t' hb (by omega) hB ?_
            rw [show off + l + (c - l) = off + c from by omega]
            exact hC
      · refine ⟨_, h, fun w I ρ u bl bh bm hu r1 r2 r3 => ?_⟩
        cases bm with
        | some v => exact r3.elim
        | none =>
          cases hu with
          | row _ _ _ _ b c C t' hb hn hB hC =>
            refine ⟨_, run_slice2 ht hi' w _ n c l l _ _ (by omega) h2 hn (bound_lo (I := I) (ρ := ρ) (hl P w I ρ bl r1)) (bound_lo (I := I) (ρ := ρ) (hhh P w I ρ bh r2)), ?_⟩
            exact .sl _ default _ _ _ [] (fun _ _ => undef) (by simp) (by omega) (.inl rfl) (fun _ h => by cases h) (fun i _ hi => by simp at hi) (fun i _ _ _ hi => by simp at hi)
  · rename_i e p wd off n m0 ht
    obtain ⟨hi', rfl, hs, rfl, h⟩ := h
    obtain ⟨hh, h, hhh⟩ := abound_ok h
    obtain ⟨mm, h, hmm⟩ := abound_ok h
    obtain ⟨rfl, h2, h⟩ := h
    refine ⟨_, h, fun w I ρ u bl bh bm hu r1 r2 r3 => ?_⟩
    obtain ⟨u2, rfl, q2⟩ := bound_some hs (hhh P w I ρ bh r2)
    obtain ⟨u3, rfl, q3⟩ := bound_some rfl (hmm P w I ρ bm r3)
    cases bl with
    | some v => exact r1.elim
    | none =>
    cases hu with
    | row _ _ _ _ b c C t' hb hn hB hC =>
      refine ⟨_, run_slice3 ht hi' w _ n c 0 hh hh _ _ _ (Nat.zero_le _) (Nat.le_refl _) (by omega) (.inl ⟨rfl, rfl⟩) q2 q3, ?_⟩
      have : (if hh = 0 then some (⟨b, off * P.cellsOf e, none⟩ : Addr) else (some (⟨b, off * P.cellsOf e, none⟩ : Addr)).map (·.add (0 * P.cellsOf e))) = some ⟨b, off * P.cellsOf e, none⟩ := by
        split
        · rfl
        · rw [Option.map_some, add_none rfl]; simp
      rw [this]
      refine .row _ _ _ _ b _ C t' hb (by omega) hB ?_
      exact Nat.le_trans (Nat.mul_le_mul_right _ (by omega)) hC
  · exact h.elim
end Go.Proofs.Ytaieiigfheabfaa.Tw

/-! All operations that only tell a value. -/
namespace Go.Proofs.Ytaieiigfheabfaa.Tw
open Go.RowKit
set_option linter.unusedVariables false
set_option linter.unusedSimpArgs false
def rawK : Value → Bool
  | .map none => true
  | .nilIface => true
  | _ => false
def AV.known : AV → Bool
  | .any => false
  | .raw v => rawK v
  | _ => true
theorem cells_rep {w : World} {I : Nat → Prop} {ρ : List Nat} {v : Value} {a : AV} (h : Rep w I ρ v a) (hk : a.known = true) : RepL w I ρ v.cells.toList a.cells := by
  cases h with
  | any => cases hk
  | raw =>
    have hk : rawK v = true := hk
    unfold rawK at hk
    split at hk
    · exact ⟨rfl, fun j u c hu hc => by
        cases j with
        | zero =>
          simp [Value.cells] at hu
          simp [AV.cells] at hc
          subst hu hc
          exact .raw _
        | succ j => simp [AV.cells] at hc⟩
    · exact ⟨rfl, fun j u c hu hc => by
        cases j with
        | zero =>
          simp [Value.cells] at hu
          simp [AV.cells] at hc
          subst hu hc
          exact .raw _
        | succ j => simp [AV.cells] at hc⟩
    · cases hk
  | agg vs cs hl hr => exact ⟨by simpa [Value.cells, AV.cells] using hl, by simpa [Value.cells, AV.cells] using hr⟩
  | _ =>
    refine ⟨rfl, fun j v c hv hc => ?_⟩
    cases j with
    | zero =>
      simp [Value.cells] at hv
      simp [AV.cells] at hc
      subst hv hc
      first
        | exact .int _ _
        | exact .bool _
        | exact .str _
        | exact .nil
        | (rename_i h; exact .ref _ _ _ _ _ h)
        | (rename_i h1 h2 h3 h4; exact .imm _ _ _ h1 h2 h3 h4)
        | exact .nils
        | (rename_i h1 h2 h3 h4 h5 h6; exact .sl _ _ _ _ _ _ _ h1 h2 h3 h4 h5 h6)
        | (rename_i h1 h3 h4 h5 h6; exact .slt _ _ _ _ _ _ h1 h3 h4 h5 h6)
        | (rename_i h1 h2 h3 h4; exact .row _ _ _ _ _ _ _ _ h1 h2 h3 h4)
        | (rename_i h1 h2; exact .tup _ _ h1 h2)
        | (rename_i h1 h2 h3 h4; exact .func _ _ _ _ _ h1 h2 h3 h4)
        | exact .nilf
        | (rename_i h; exact .map _ _ h)
        | (rename_i h; exact .ifc _ _ _ h)
        | (rename_i h; exact .yield _ _ h)
    | succ j =>
      simp [Value.cells] at hv
theorem repL_set {w : World} {I : Nat → Prop} {ρ : List Nat} {vs : List Value} {cs : List AV} {v : Value} {c : AV} (h : RepL w I ρ vs cs) (hv : Rep w I ρ v c) (o : Nat) : RepL w I ρ (vs.set o v) (cs.set o c) := by
  refine ⟨by simp [h.1], fun j u d hu hd => ?_⟩
  rw [List.getElem?_set] at hu hd
  split at hu
  · rename_i e
    rw [if_pos e] at hd
    split at hu
    · split at hd
      · cases hu; cases hd; exact hv
      · cases hd
    · cases hu
  · rename_i e
    rw [if_neg e] at hd
    exact h.2 j u d hu hd
def aput : List AV → Nat → List AV → List AV
  | cells, _, [] => cells
  | cells, o, c :: cs => aput (cells.set o c) (o + 1) cs
def cput : List Value → Nat → List Value → List Value
  | cells, _, [] => cells
  | cells, o, c :: cs => cput (cells.set o c) (o + 1) cs
theorem put_rep {w : World} {I : Nat → Prop} {ρ : List Nat} : ∀ (us : List Value) (ds : List AV) (vs : List Value) (cs : List AV) (o : Nat), RepL w I ρ vs cs → RepL w I ρ us ds → RepL w I ρ (cput vs o us) (aput cs o ds)
  | [], [], vs, cs, o, h, _ => h
  | [], _ :: _, _, _, _, _, hu => by have := hu.1; simp at this
  | _ :: _, [], _, _, _, _, hu => by have := hu.1; simp at this
  | u :: us, d :: ds, vs, cs, o, h, hu => put_rep us ds _ _ (o + 1) (repL_set h (hu.2 0 u d rfl rfl) o) ⟨by have := hu.1; simpa using this, fun j v c hv hc => hu.2 (j + 1) v c hv hc⟩
theorem cput_length : ∀ (us : List Value) (vs : List Value) (o : Nat), (cput vs o us).length = vs.length
  | [], _, _ => rfl
  | u :: us, vs, o => by rw [cput, cput_length us]; simp
theorem aput_length : ∀ (us : List AV) (vs : List AV) (o : Nat), (aput vs o us).length = vs.length
  | [], _, _ => rfl
  | u :: us, vs, o => by rw [aput, aput_length us]; simp
theorem fold_cput (off : Nat) : ∀ (us : List Value) (k : Nat) (C : Array Value), ((us.zipIdx k).foldl (fun cs (x : Value × Nat) => cs.setIfInBounds (off + x.2) x.1) C) = (cput C.toList (off + k) us).toArray
  | [], k, C => by simp [cput]
  | u :: us, k, C => by
    rw [List.zipIdx_cons, List.foldl_cons, fold_cput off us (k + 1)]
    simp [cput, Nat.add_assoc]
def afill (place : Nat → Option (Nat × Nat)) (cells : List AV) : List (Nat × AV) → Option (List AV)
  | [] => some cells
  | (i, v) :: rest =>
    match place i with
    | none => none
    | some (off, size) => if v.known = true ∧ v.cells.length = size ∧ off + size ≤ cells.length then afill place (aput cells off v.cells) rest else none
theorem fill_rep {w : World} {I : Nat → Prop} {ρ : List Nat} (place : Nat → Option (Nat × Nat)) : ∀ (ps : List (Nat × Value)) (qs : List (Nat × AV)) (C : Array Value) (cs out : List AV), RepL w I ρ C.toList cs →
    ps.length = qs.length → (∀ (j : Nat) p q, ps[j]? = some p → qs[j]? = some q → p.1 = q.1 ∧ Rep w I ρ p.2 q.2) → afill place cs qs = some out → ∃ D, Instr.fill place C ps = some D ∧ RepL w I ρ D.toList out
  | [], [], C, cs, out, h, _, _, hf => by simp [afill] at hf; subst hf; exact ⟨C, rfl, h⟩
  | [], _ :: _, _, _, _, _, hl, _, _ => by simp at hl
  | _ :: _, [], _, _, _, _, hl, _, _ => by simp at hl
  | (i, v) :: ps, (i', a) :: qs, C, cs, out, h, hl, hr, hf => by
    obtain ⟨rfl, hva⟩ := hr 0 (i, v) (i', a) rfl rfl
    simp only [afill] at hf
    simp only [Instr.fill]
    cases hp : place i with
    | none => simp [hp] at hf
    | some x =>
      obtain ⟨off, size⟩ := x
      simp only [hp] at hf ⊢
      split at hf
      · rename_i hc
        obtain ⟨hk, hs, hle⟩ := hc
        have hvr := cells_rep hva hk
        have hsz : v.cells.size = size := by rw [← hs, ← hvr.1]; simp
        have hC : C.size = cs.length := by rw [← h.1]; simp
        have hno : ¬ (v.cells.size ≠ size || decide (off + v.cells.size > C.size)) = true := by simp [hsz]; omega
        rw [if_neg hno]
        have hfold : (v.cells.zipIdx.foldl (fun cs (x : Value × Nat) => cs.setIfInBounds (off + x.2) x.1) C) = (cput C.toList off v.cells.toList).toArray := by
          have := fold_cput off v.cells.toList 0 C
          rw [← Array.foldl_toList]
          simpa using this
        have := fill_rep place ps qs (cput C.toList off v.cells.toList).toArray (aput cs off a.cells) out (by simpa using put_rep _ _ _ _ off h hvr) (by simpa using hl) (fun j p q hp hq => hr (j + 1) p q hp hq) hf
        rw [← hfold] at this
        exact this
      · cases hf
def azero (P : Program) (t : TypeId) : Option AV := ((P.info? t).bind (·.zero)).map ofVal
def abuild (P : Program) (t : TypeId) (parts : List (Nat × AV)) (K : AV → Prop) : Prop :=
  match azero P t, P.underlying t with
  | some z, some (.struct fields) => z.known = true ∧ (∀ f ∈ fields.toList, (P.info? f.type).isSome = true) ∧ ∃ cs, afill (fun i => (fields[i]?).map fun (f : Field) => (f.offset, P.cellsOf f.type)) z.cells parts = some cs ∧ K (.agg cs)
  | some z, some (.array _ e) => z.known = true ∧ (P.info? e).isSome = true ∧ ∃ cs, afill (fun i => some (i * P.cellsOf e, P.cellsOf e)) z.cells parts = some cs ∧ K (.agg cs)
  | _, _ => False
theorem run_zeroValue {P : Program} {t : TypeId} {z : AV} (h : azero P t = some z) : ∃ v, (∀ w, (zeroValue t).run P w = .ok v w) ∧ ∀ w I ρ, Rep w I ρ v z := by
  unfold azero at h
  cases hi : P.info? t with
  | none => simp [hi] at h
  | some i =>
    simp only [hi, Option.bind_some] at h
    cases hz : i.zero with
    | none => simp [hz] at h
    | some v =>
      simp [hz] at h
      subst h
      exact ⟨v, fun w => by simp [zeroValue, typeInfo, hi, hz], fun w I ρ => ofVal_rep ..⟩
theorem mapM_places {P : Program} : ∀ (fs : List Field) (w : World), (∀ f ∈ fs, (P.info? f.type).isSome = true) →
    (fs.mapM (m := Sem) fun (f : Field) => do pure (f.offset, ← sizeOf f.type)).run P w = .ok (fs.map fun (f : Field) => (f.offset, P.cellsOf f.type)) w
  | [], w, _ => by rw [List.mapM_nil]; rfl
  | f :: fs, w, h => by
    rw [List.mapM_cons]
    simp only [Sem.run_bind, run_sizeOf' (h f (by simp)), Result.andThen_ok, Sem.run_pure, mapM_places fs w (fun g hg => h g (by simp [hg])), List.map_cons]
theorem abuild_ok {P : Program} {t : TypeId} {parts : List (Nat × AV)} {K : AV → Prop} (h : abuild P t parts K) :
    ∃ av, K av ∧ ∀ (w : World) (I : Nat → Prop) (ρ : List Nat) (ps : Array (Nat × Value)), ps.toList.length = parts.length → (∀ (j : Nat) p q, ps.toList[j]? = some p → parts[j]? = some q → p.1 = q.1 ∧ Rep w I ρ p.2 q.2) →
      ∃ r, (Instr.build t ps).run P w = .ok r w ∧ Rep w I ρ r av := by
  unfold abuild at h
  split at h
  · rename_i z fields hz ht
    obtain ⟨hk, hfs, cs, hf, h⟩ := h
    refine ⟨_, h, fun w I ρ ps hl hr => ?_⟩
    obtain ⟨v, hv, hrep⟩ := run_zeroValue hz
    have hz' := cells_rep (hrep w I ρ) hk
    obtain ⟨D, hD, hDr⟩ := fill_rep (fun i => (fields[i]?).map fun (f : Field) => (f.offset, P.cellsOf f.type)) ps.toList parts v.cells z.cells cs hz' hl hr hf
    have hm : (fields.mapM (m := Sem) fun (f : Field) => do pure (f.offset, ← sizeOf f.type)).run P w = .ok (fields.map fun (f : Field) => (f.offset, P.cellsOf f.type)) w := by
      have := mapM_places (P := P) fields.toList w hfs
      rw [← Array.toArray_toList (xs := fields), List.mapM_toArray]
      rw [Sem.run_map, this]
      simp
      exact Array.ext' (by simp)
    have hplace : (fun i : Nat => (fields.map fun (f : Field) => (f.offset, P.cellsOf f.type))[i]?) = (fun i : Nat => (fields[i]?).map fun (f : Field) => (f.offset, P.cellsOf f.type)) := by
      funext i; simp
    refine ⟨.agg D, ?_, ?_⟩
    · simp only [Instr.build, Sem.run_bind, hv, Result.andThen_ok, run_underlying ht, hm, hplace, hD]
      rfl
    · have : D = D.toList.toArray := by simp
      rw [this]
      exact .agg _ _ hDr.1 hDr.2
  · rename_i z n e hz ht
    obtain ⟨hk, hi, cs, hf, h⟩ := h
    refine ⟨_, h, fun w I ρ ps hl hr => ?_⟩
    obtain ⟨v, hv, hrep⟩ := run_zeroValue hz
    have hz' := cells_rep (hrep w I ρ) hk
    obtain ⟨D, hD, hDr⟩ := fill_rep (fun i => some (i * P.cellsOf e, P.cellsOf e)) ps.toList parts v.cells z.cells cs hz' hl hr hf
    refine ⟨.agg D, ?_, ?_⟩
    · simp only [Instr.build, Sem.run_bind, hv, Result.andThen_ok, run_underlying ht, run_sizeOf' hi, hD]
      rfl
    · have : D = D.toList.toArray := by simp
      rw [this]
      exact .agg _ _ hDr.1 hDr.2
  · exact h.elim
def aun (op : UnOp) (x : AV) (K : AV → Prop) : Prop :=
  match op, x with
  | .neg, .int k n => K (.int k (k.wrap (0 - n)))
  | .xor, .int k n => K (.int k (k.wrap (BitVec.ofInt k.bits (if k.signed then -1 else k.max) ^^^ BitVec.ofInt k.bits n).toNat))
  | .not, .bool b => K (.bool !b)
  | _, _ => False
theorem aun_ok {P : Program} {op : UnOp} {x : AV} {K : AV → Prop} (h : aun op x K) :
    ∃ av, K av ∧ ∀ (w : World) (I : Nat → Prop) (ρ : List Nat) (u : Value), Rep w I ρ u x → ∃ r, (Op.unary op u).run P w = .ok r w ∧ Rep w I ρ r av := by
  unfold aun at h
  split at h
  · exact ⟨_, h, fun w I ρ u hu => ⟨_, by rw [hu.int_inv]; simp [Op.unary, Op.intArith], .int _ _⟩⟩
  · exact ⟨_, h, fun w I ρ u hu => ⟨_, by rw [hu.int_inv]; simp [Op.unary, Op.intBits], .int _ _⟩⟩
  · exact ⟨_, h, fun w I ρ u hu => ⟨_, by rw [hu.bool_inv]; simp [Op.unary], .bool _⟩⟩
  · exact h.elim
def bytesAV (bs : List UInt8) : List AV := bs.map fun b => .int .u8 b.toNat
def aconv (P : Program) (src dst : TypeId) (x : AV) (K : AV → Prop) : Prop :=
  match P.underlying src, P.underlying dst, x with
  | some _, some (.int k), .int _ n => K (.int k (k.wrap n))
  | some _, some .string, .str s => K (.str s)
  | some (.slice e), some .string, .nils => P.underlying e = some (.int .u8) ∧ K (.str .empty)
  | some (.slice e), some .string, .sl w els => P.underlying e = some (.int .u8) ∧ w = 1 ∧ ∃ bs, els = bytesAV bs ∧ K (.str ⟨bs.toArray⟩)
  | some (.slice e), some .string, .slt w els => P.underlying e = some (.int .u8) ∧ w = 1 ∧ ∃ bs, els = bytesAV bs ∧ K (.str ⟨bs.toArray⟩)
  | _, _, _ => False
theorem push_bytes : ∀ (bs : List UInt8) (s : ByteArray), ((bs.map fun b => (b.toNat : Int)).foldl (fun r n => r.push (UInt8.ofNat n.toNat)) s) = ⟨s.data ++ bs.toArray⟩
  | [], s => by simp
  | b :: bs, s => by
    rw [List.map_cons, List.foldl_cons, push_bytes bs]
    simp [ByteArray.push]
theorem conv_bytes {P : Program} {src dst e : TypeId} (hs : P.underlying src = some (.slice e)) (hd : P.underlying dst = some .string) (he : P.underlying e = some (.int .u8)) {w : World} {I : Nat → Prop} {ρ : List Nat} {a : Option Addr} {A : Addr} {n c : Nat} {bs : List UInt8} {vs : Nat → Nat → Value}
    (hn : n = (bytesAV bs).length) (ha : bytesAV bs = [] ∨ (a = some A ∧ A.spot = none ∧ I A.block)) (hc : ∀ i j, i < (bytesAV bs).length → j < 1 → w.cell? ⟨A.block, A.off + (i * 1 + j), none⟩ = some (vs i j))
    (hr : ∀ (i : Nat) (e : AV) (j : Nat) (c : AV), (bytesAV bs)[i]? = some e → e.cells[j]? = some c → Rep w I ρ (vs i j) c) : (convert src dst (.slice a n c)).run P w = .ok (.string ⟨bs.toArray⟩) w := by
  rw [run_convert_bytes_string w src dst e _ n c hs he hd]
  have hlen : (bytesAV bs).length = bs.length := by simp [bytesAV]
  cases bs with
  | nil =>
    obtain rfl : n = 0 := by simpa [bytesAV] using hn
    cases a with
    | none => simp [Conv.bytesToString]; rfl
    | some a => rw [run_bytesToString w a 0 c [] (by simp [loadCells, loadCellsFrom])]; rfl
  | cons x xs =>
    rcases ha with h | ⟨rfl, hs', hI⟩
    · simp [bytesAV] at h
    · have hl := run_loadCells_list (P := P) w A (((x :: xs).map fun b => (b.toNat : Int)).map (Value.int .u8)) (fun j m hj => by
        rw [List.getElem?_map, List.getElem?_map] at hj
        cases hb : (x :: xs)[j]? with
        | none => rw [hb] at hj; cases hj
        | some b =>
          rw [hb] at hj
          cases hj
          have hjl := (List.getElem?_eq_some_iff.1 hb).1
          have h1 := hc j 0 (by omega) (by omega)
          have h2 := hr j (.int .u8 b.toNat) 0 (.int .u8 b.toNat) (by simp only [bytesAV, List.getElem?_map, hb, Option.map_some]) rfl
          rw [h2.int_inv] at h1
          rw [add_none hs']
          simpa using h1)
      rw [run_bytesToString w A n c ((x :: xs).map fun b => (b.toNat : Int)) (by rw [← hl]; simp [hn, hlen])]
      rw [push_bytes, show ByteArray.empty.data = #[] from rfl, Array.empty_append]
theorem aconv_ok {P : Program} {src dst : TypeId} {x : AV} {K : AV → Prop} (h : aconv P src dst x K) :
    ∃ av, K av ∧ ∀ (w : World) (I : Nat → Prop) (ρ : List Nat) (u : Value), Rep w I ρ u x → ∃ r, (convert src dst u).run P w = .ok r w ∧ Rep w I ρ r av := by
  unfold aconv at h
  split at h
  · rename_i d k k' n hs hd
    refine ⟨_, h, fun w I ρ u hu => ⟨_, ?_, .int _ _⟩⟩
    rw [hu.int_inv]
    simp [convert, run_underlying hs, run_underlying hd, Conv.intToInt]
  · rename_i d s hs hd
    refine ⟨_, h, fun w I ρ u hu => ⟨_, ?_, .str _⟩⟩
    rw [hu.str_inv]
    cases d <;> simp [convert, run_underlying hs, run_underlying hd]
  · rename_i e hs hd
    obtain ⟨he, h⟩ := h
    refine ⟨_, h, fun w I ρ u hu => ⟨_, ?_, .str _⟩⟩
    cases hu
    rw [run_convert_bytes_string w src dst e _ 0 0 hs he hd]
    simp [Conv.bytesToString]
  · rename_i e wd els hs hd
    obtain ⟨he, rfl, bs, rfl, h⟩ := h
    refine ⟨_, h, fun w I ρ u hu => ⟨_, ?_, .str _⟩⟩
    cases hu with
    | sl a A n c _ _ vs hn hcap ha hw hc hr => exact conv_bytes hs hd he hn ha hc hr
  · rename_i e wd els hs hd
    obtain ⟨he, rfl, bs, rfl, h⟩ := h
    refine ⟨_, h, fun w I ρ u hu => ⟨_, ?_, .str _⟩⟩
    cases hu with
    | slt a A n _ _ vs hn ha hw hc hr => exact conv_bytes hs hd he hn ha hc hr
  · exact h.elim
abbrev Ents := List (Nat × AV × AV)
def keyEq : AV → AV → Bool
  | .int _ a, .int _ b => decide (a = b)
  | .str a, .str b => a == b
  | .bool a, .bool b => a == b
  | .agg [.int _ a], .agg [.int _ b] => decide (a = b)
  | _, _ => false
/-- A key of a kind of type. -/
def keyB : TypeDesc → AV → Bool
  | .int k, .int k' _ => decide (k = k')
  | .string, .str _ => true
  | .bool, .bool _ => true
  | _, _ => false
def idxA (k : AV) : Ents → Option Nat
  | [] => none
  | x :: es => if keyEq k x.2.1 then some 0 else (idxA k es).map (· + 1)
def lkA (k : AV) (es : Ents) : Option AV := (idxA k es).bind fun j => (es[j]?).map (·.2.2)
def upA (c : Nat) (k v : AV) (es : Ents) : Nat × Ents := match idxA k es with
  | some j => (c, es.modify j fun x => (x.1, k, v))
  | none => (c + 1, es ++ [(c, k, v)])
def delA (k : AV) (es : Ents) : Ents := match idxA k es with
  | some j => es.eraseIdx j
  | none => es
theorem keyB_cases {d : TypeDesc} {a : AV} (h : keyB d a = true) : (∃ k n, d = .int k ∧ a = .int k n) ∨ (∃ s, d = .string ∧ a = .str s) ∨ (∃ b, d = .bool ∧ a = .bool b) := by
  unfold keyB at h
  split at h
  · simp at h; subst h; exact .inl ⟨_, _, rfl, rfl⟩
  · exact .inr (.inl ⟨_, rfl, rfl⟩)
  · exact .inr (.inr ⟨_, rfl, rfl⟩)
  · cases h
theorem key_is {w : World} {I : Nat → Prop} {ρ : List Nat} {d : TypeDesc} {v : Value} {a : AV} (hr : Rep w I ρ v a) (hk : keyB d a = true) : MapKept.IsKey d v := by
  rcases keyB_cases hk with ⟨k, n, rfl, rfl⟩ | ⟨s, rfl, rfl⟩ | ⟨b, rfl, rfl⟩ <;> cases hr <;> simp [MapKept.IsKey]
theorem sameNow_A {w : World} {I : Nat → Prop} {ρ : List Nat} {d : TypeDesc} {u v : Value} {a b : AV} (hu : Rep w I ρ u a) (hv : Rep w I ρ v b) (ha : keyB d a = true) (hb : keyB d b = true) : Instr.sameNow d u v = some (keyEq a b) := by
  rcases keyB_cases ha with ⟨k, n, rfl, rfl⟩ | ⟨s, rfl, rfl⟩ | ⟨b1, rfl, rfl⟩ <;> rcases keyB_cases hb with ⟨k', n', e1, rfl⟩ | ⟨s', e1, rfl⟩ | ⟨b2, e1, rfl⟩ <;> cases e1 <;> cases hu <;> cases hv <;> simp [Instr.sameNow, keyEq]
  rw [Bool.eq_iff_iff]; simp
/-- Where a key stands, in the entries. -/
theorem findNow_A {w : World} {I : Nat → Prop} {ρ : List Nat} {d : TypeDesc} {u : Value} {k : AV} (hu : Rep w I ρ u k) (hk : keyB d k = true) : ∀ (l : List MapEntry) (es : Ents) (i : Nat), l.length = es.length → (∀ (j : Nat) (x : Nat × AV × AV) (e : MapEntry), es[j]? = some x → l[j]? = some e → Rep w I ρ e.key x.2.1) → (∀ x ∈ es, keyB d x.2.1 = true) →
    (idxA k es = none ∧ Instr.findNow d u l i = some none) ∨ ∃ j e, idxA k es = some j ∧ l[j]? = some e ∧ Instr.findNow d u l i = some (some (i + j, e.val)) ∧ ∃ x, es[j]? = some x ∧ keyEq k x.2.1 = true
  | [], [], i, _, _, _ => .inl ⟨rfl, rfl⟩
  | [], _ :: _, i, h, _, _ => by simp at h
  | _ :: _, [], i, h, _, _ => by simp at h
  | e :: l, x :: es, i, hl, hr, hks => by
    have h0 := sameNow_A hu (hr 0 x e rfl rfl) hk (hks x (by simp))
    by_cases hq : keyEq k x.2.1 = true
    · rw [hq] at h0
      exact .inr ⟨0, e, by simp [idxA, hq], rfl, by simp [Instr.findNow, h0], x, rfl, hq⟩
    · simp only [Bool.not_eq_true] at hq
      rw [hq] at h0
      rcases findNow_A hu hk l es (i + 1) (by simpa using hl) (fun j x e hx he => hr (j + 1) x e (by simpa using hx) (by simpa using he)) (fun x hx => hks x (by simp [hx])) with ⟨h1, h2⟩ | ⟨j, e', h1, h2, h3, y, h4, h5⟩
      · exact .inl ⟨by simp [idxA, hq, h1], by simp [Instr.findNow, h0, h2]⟩
      · exact .inr ⟨j + 1, e', by simp [idxA, hq, h1], by simpa using h2, by simp [Instr.findNow, h0, h3]; omega, y, by simpa using h4, h5⟩
/-- Keys of a kind, all of them. -/
structure Keys (d : TypeDesc) (k : AV) (es : Ents) : Prop where
  one : keyB d k = true
  all : ∀ x ∈ es, keyB d x.2.1 = true
def mapT (u : TypeId → Option TypeDesc) (t : TypeId) (K : TypeDesc → TypeId → Prop) : Prop := match u t with
  | some (.map k e) => match u k with
    | some d => K d e
    | none => False
  | _ => False
theorem mapT_ok {P : Program} {t : TypeId} {K : TypeDesc → TypeId → Prop} (h : mapT P.underlying t K) : ∃ k e d, P.underlying t = some (.map k e) ∧ P.underlying k = some d ∧ K d e := by
  unfold mapT at h
  split at h
  · rename_i k e hu
    split at h
    · rename_i d hd; exact ⟨k, e, d, hu, hd, h⟩
    · exact h.elim
  · exact h.elim
theorem oneat0 {L : Store} {p : Nat} {o : AO} (h : (L[p]?).join = some o) : L[p]? = some (some o) := by
  cases hl : L[p]? with
  | none => rw [hl] at h; cases h
  | some x => rw [hl] at h; simp at h; rw [h]
/-- A map's value at a key. -/
def okA (ok b : Bool) (v : AV) : AV := match ok with
  | true => .tup [v, .bool b]
  | false => v
def alookup (u : TypeId → Option TypeDesc) (zero : TypeId → Option AV) (L : Store) (t : TypeId) (x k : AV) (ok : Bool) (K : AV → Prop) : Prop := mapT u t fun d e => match x with
  | .map p => match (L[p]?).join with
    | some (.mp c es) => Keys d k es ∧ ∃ r, lkA k es = r ∧ match r with
      | some v => K (okA ok true v)
      | none => match zero e with
        | some z => K (okA ok false z)
        | none => False
    | _ => False
  | _ => False
theorem tup2_rep {w : World} {I : Nat → Prop} {ρ : List Nat} {u v : Value} {a b : AV} (h : Rep w I ρ u a) (k : Rep w I ρ v b) : Rep w I ρ (.tuple #[u, v]) (.tup [a, b]) :=
  .tup [u, v] [a, b] rfl fun j x c hx hc => by
    match j, hx, hc with
    | 0, hx, hc => simp at hx hc; subst hx hc; exact h
    | 1, hx, hc => simp at hx hc; subst hx hc; exact k
    | j + 2, hx, hc => simp at hx
theorem map_obj {w : World} {I : Nat → Prop} {ρ : List Nat} {L : Store} {p c b : Nat} {es : Ents} (hr : Rel w I ρ L) (hp : (L[p]?).join = some (.mp c es)) (hb : ρ[p]? = some b) :
    ∃ E : Array MapEntry, w.heap[b]? = some (Obj.map E c) ∧ E.toList.length = es.length ∧ ∀ (i : Nat) (x : Nat × AV × AV) (e : MapEntry), es[i]? = some x → E.toList[i]? = some e → e.born = x.1 ∧ Rep w I ρ e.key x.2.1 ∧ Rep w I ρ e.val x.2.2 := by
  obtain ⟨_, _, E, h1, h2, h3⟩ := hr.own p _ b (oneat0 hp) hb
  exact ⟨E, h1, by simpa using h2, fun i x e hx he => h3 i x e hx (by simpa using he)⟩
theorem alookup_ok {P : Program} {L : Store} {t : TypeId} {x k : AV} {ok : Bool} {K : AV → Prop} (h : alookup P.underlying (azero P) L t x k ok K) :
    ∃ av, K av ∧ ∀ (w : World) (I : Nat → Prop) (ρ : List Nat) (m u : Value), (∀ (p : Nat) (o : AO) (b : Nat), L[p]? = some (some o) → ρ[p]? = some b → b < w.heap.size ∧ ¬ I b ∧ ObjRel w I ρ b o) → Rep w I ρ m x → Rep w I ρ u k → ∃ v, (Instr.lookup t m u ok).run P w = .ok v w ∧ Rep w I ρ v av := by
  obtain ⟨kt, et, d, hu, hd, h⟩ := mapT_ok h
  obtain ⟨p, c, es, rfl, hp, hk, r, hr, h⟩ : ∃ p c es, x = .map p ∧ (L[p]?).join = some (.mp c es) ∧ Keys d k es ∧ ∃ r, lkA k es = r ∧ match r with
      | some v => K (okA ok true v)
      | none => match azero P et with
        | some z => K (okA ok false z)
        | none => False := by
    split at h
    · split at h
      · rename_i hp; exact ⟨_, _, _, rfl, hp, h⟩
      · exact h.elim
    · exact h.elim
  have run : ∀ (w : World) (I : Nat → Prop) (ρ : List Nat) (m u : Value), (∀ (p : Nat) (o : AO) (b : Nat), L[p]? = some (some o) → ρ[p]? = some b → b < w.heap.size ∧ ¬ I b ∧ ObjRel w I ρ b o) → Rep w I ρ m (.map p) → Rep w I ρ u k →
      ∃ (b : Nat) (E : Array MapEntry), m = .map (some b) ∧ w.heap[b]? = some (Obj.map E c) ∧ ((idxA k es = none ∧ Instr.findNow d u E.toList 0 = some none) ∨ ∃ j e, idxA k es = some j ∧ E.toList[j]? = some e ∧ Instr.findNow d u E.toList 0 = some (some (0 + j, e.val)) ∧ ∃ x, es[j]? = some x ∧ Rep w I ρ e.val x.2.2) := by
    intro w I ρ m u hown hm hku
    cases hm with
    | map _ b hb =>
      obtain ⟨_, _, E, h1, h2, h3⟩ := hown p _ b (oneat0 hp) hb
      refine ⟨b, E, rfl, h1, ?_⟩
      rcases findNow_A hku hk.one E.toList es 0 (by simpa using h2) (fun j x e hx he => (h3 j x e hx (by simpa using he)).2.1) hk.all with ⟨q1, q2⟩ | ⟨j, e, q1, q2, q3, x, q4, _⟩
      · exact .inl ⟨q1, q2⟩
      · exact .inr ⟨j, e, q1, q2, q3, x, q4, (h3 j x e q4 (by simpa using q2)).2.2⟩
  have hkey : ∀ {w : World} {I : Nat → Prop} {ρ : List Nat} {u : Value}, Rep w I ρ u k → MapKept.IsKey d u := fun h => key_is h hk.one
  cases hi : idxA k es with
  | none =>
    have : r = none := by rw [← hr]; simp [lkA, hi]
    subst this
    dsimp only at h
    split at h
    case h_2 => exact h.elim
    rename_i z hz
    obtain ⟨zv, hzv, hzr⟩ := run_zeroValue hz
    refine ⟨_, h, fun w I ρ m u hown hm hku => ?_⟩
    obtain ⟨b, E, rfl, q1, q2⟩ := run w I ρ m u hown hm hku
    rcases q2 with ⟨_, q2⟩ | ⟨j, e, q2, _⟩
    · refine ⟨if ok then .tuple #[zv, .bool false] else zv, ?_, ?_⟩
      · have hc := MapKept.run_checkKey (P := P) (w := w) hd (hkey hku) E.isEmpty 9999
        simp only [Instr.lookup, Sem.run_bind, run_underlying hu, Result.andThen_ok, MapKept.run_getObj_map q1, Sem.run_pure, hc, MapKept.run_findKey hd q2, hzv]
      · cases ok
        · exact hzr w I ρ
        · exact tup2_rep (hzr w I ρ) (.bool _)
    · rw [hi] at q2; cases q2
  | some j =>
    obtain ⟨x, hx⟩ : ∃ x, es[j]? = some x := by
      have hj : j < es.length := by
        have key : ∀ (es : Ents) (j : Nat), idxA k es = some j → j < es.length := by
          intro es
          induction es with
          | nil => intro j hj; simp [idxA] at hj
          | cons y es ih =>
            intro j hj
            simp only [idxA] at hj
            split at hj
            · cases hj; simp
            · obtain ⟨i, hi, rfl⟩ := Option.map_eq_some_iff.1 hj
              have := ih i hi
              simp; omega
        exact key es j hi
      exact ⟨_, List.getElem?_eq_getElem hj⟩
    have : r = some x.2.2 := by rw [← hr]; simp [lkA, hi, hx]
    subst this
    refine ⟨_, h, fun w I ρ m u hown hm hku => ?_⟩
    obtain ⟨b, E, rfl, q1, q2⟩ := run w I ρ m u hown hm hku
    rcases q2 with ⟨q2, _⟩ | ⟨j', e, q2, q3, q4, x', q5, q6⟩
    · rw [hi] at q2; cases q2
    · rw [hi] at q2
      cases q2
      rw [hx] at q5
      cases q5
      refine ⟨if ok then .tuple #[e.val, .bool true] else e.val, ?_, ?_⟩
      · have hc := MapKept.run_checkKey (P := P) (w := w) hd (hkey hku) E.isEmpty 9999
        simp only [Instr.lookup, Sem.run_bind, run_underlying hu, Result.andThen_ok, MapKept.run_getObj_map q1, Sem.run_pure, hc, MapKept.run_findKey hd q4]
      · cases ok
        · exact q6
        · exact tup2_rep q6 (.bool _)
/-- A key that is a struct of one number. -/
def keyS (P : Program) (kt : TypeId) (a : AV) : Prop := ∃ n l, a = .agg [.int .i64 n] ∧ keyOf P kt (.agg #[.int .i64 n]) = some l
structure KeysS (P : Program) (kt : TypeId) (k : AV) (es : Ents) : Prop where
  keyed : Maps.Keyed P kt
  one : keyS P kt k
  all : ∀ x ∈ es, keyS P kt x.2.1
  apart : es.Pairwise fun x y => keyEq x.2.1 y.2.1 = false
theorem repS {w : World} {I : Nat → Prop} {ρ : List Nat} {v : Value} {n : Int} (h : Rep w I ρ v (.agg [.int .i64 n])) : v = .agg #[.int .i64 n] := by
  obtain ⟨vs, rfl, hl, hr⟩ := h.agg_inv
  match vs, hl with
  | [x], _ => rw [(hr 0 x _ rfl rfl).int_inv]
theorem idxS_none {k : AV} : ∀ {es : Ents}, (∀ x ∈ es, keyEq k x.2.1 = false) → idxA k es = none
  | [], _ => rfl
  | x :: es, h => by
    rw [idxA, if_neg (by rw [h x (by simp)]; decide), idxS_none (fun y hy => h y (by simp [hy]))]
    rfl
theorem idxS_some {P : Program} {kt : TypeId} {k : AV} (hk : keyS P kt k) : ∀ {es : Ents} {j : Nat} {x : Nat × AV × AV}, (∀ x ∈ es, keyS P kt x.2.1) → (es.Pairwise fun x y => keyEq x.2.1 y.2.1 = false) → es[j]? = some x → keyEq k x.2.1 = true → idxA k es = some j
  | [], j, x, _, _, h, _ => by simp at h
  | y :: es, 0, x, _, _, h, he => by
    simp at h
    subst h
    rw [idxA, if_pos he]
  | y :: es, j + 1, x, ha, hp, h, he => by
    simp at h
    have hm := List.mem_of_getElem? h
    obtain ⟨h1, h2⟩ := List.pairwise_cons.1 hp
    have hne := h1 x hm
    obtain ⟨n, _, rfl, _⟩ := hk
    obtain ⟨m, _, e1, _⟩ := ha x (by simp [hm])
    obtain ⟨q, _, e2, _⟩ := ha y (by simp)
    rw [e1] at he hne
    rw [e2] at hne
    simp only [keyEq, decide_eq_true_eq, decide_eq_false_iff_not] at he hne
    have hq : keyEq (.agg [.int .i64 n]) y.2.1 = false := by
      rw [e2]
      simp only [keyEq, decide_eq_false_iff_not]
      omega
    rw [idxA, if_neg (by rw [hq]; decide), idxS_some ⟨n, _, rfl, by assumption⟩ (fun z hz => ha z (by simp [hz])) h2 h (by rw [e1]; simp [keyEq, he])]
    rfl
theorem findS_A {P : Program} {w0 w : World} {I : Nat → Prop} {ρ : List Nat} {kt : TypeId} {u : Value} {k : AV} {l : List MapEntry} {es : Ents} (hu : Rep w I ρ u k) (hk : KeysS P kt k es) (hl : l.length = es.length) (hr : ∀ (j : Nat) (x : Nat × AV × AV) (e : MapEntry), es[j]? = some x → l[j]? = some e → Rep w I ρ e.key x.2.1) :
    (idxA k es = none ∧ (Instr.findKey kt u l).run P w0 = .ok none w0) ∨ ∃ j e, idxA k es = some j ∧ l[j]? = some e ∧ (Instr.findKey kt u l).run P w0 = .ok (some (j, e.val)) w0 ∧ e.key = u ∧ ∃ x, es[j]? = some x := by
  have hone := hk.one
  obtain ⟨n, lx, rfl, hlx⟩ := hk.one
  have hu' := repS hu
  subst hu'
  have hkey : ∀ (j : Nat) (e : MapEntry), l[j]? = some e → ∃ x m l', es[j]? = some x ∧ x ∈ es ∧ x.2.1 = .agg [.int .i64 m] ∧ e.key = .agg #[.int .i64 m] ∧ keyOf P kt (.agg #[.int .i64 m]) = some l' := fun j e he => by
    obtain ⟨x, hx⟩ : ∃ x, es[j]? = some x := ⟨_, List.getElem?_eq_getElem (by rw [← hl]; exact (List.getElem?_eq_some_iff.1 he).1)⟩
    have hm := List.mem_of_getElem? hx
    obtain ⟨m, l', e1, e2⟩ := hk.all x hm
    have h1 := hr j x e hx he
    rw [e1] at h1
    exact ⟨x, m, l', hx, hm, e1, repS h1, e2⟩
  rcases hk.keyed.find w0 hlx l (fun e he => by
    obtain ⟨j, hj⟩ := List.getElem?_of_mem he
    obtain ⟨_, m, l', _, _, _, e3, e4⟩ := hkey j e hj
    exact ⟨l', by rw [e3]; exact e4⟩) with ⟨h1, h2⟩ | ⟨j, e, h1, h2, h3⟩
  · refine .inl ⟨idxS_none fun x hx => ?_, h1⟩
    obtain ⟨j, hj⟩ := List.getElem?_of_mem hx
    obtain ⟨e, he⟩ : ∃ e, l[j]? = some e := ⟨_, List.getElem?_eq_getElem (by rw [hl]; exact (List.getElem?_eq_some_iff.1 hj).1)⟩
    obtain ⟨x', m, l', q1, _, q2, q3, _⟩ := hkey j e he
    rw [hj] at q1
    cases q1
    have := h2 e (List.mem_of_getElem? he)
    rw [q3] at this
    rw [q2]
    simp only [keyEq, decide_eq_false_iff_not]
    exact fun h => this (by rw [h])
  · obtain ⟨x, m, l', q1, _, q2, q3, _⟩ := hkey j e h2
    rw [h3] at q3
    have hnm : n = m := by simpa using q3
    exact .inr ⟨j, e, idxS_some hone hk.all hk.apart q1 (by rw [q2]; simp [keyEq, hnm]), h2, h1, h3, x, q1⟩
def mapTS (u : TypeId → Option TypeDesc) (t : TypeId) (K : TypeId → TypeId → Prop) : Prop := match u t with
  | some (.map k e) => K k e
  | _ => False
def alookupS (P : Program) (u : TypeId → Option TypeDesc) (zero : TypeId → Option AV) (L : Store) (t : TypeId) (x k : AV) (ok : Bool) (K : AV → Prop) : Prop := mapTS u t fun kt e => match x with
  | .map p => match (L[p]?).join with
    | some (.mp c es) => KeysS P kt k es ∧ ∃ r, lkA k es = r ∧ match r with
      | some v => K (okA ok true v)
      | none => match zero e with
        | some z => K (okA ok false z)
        | none => False
    | _ => False
  | _ => False
theorem alookupS_ok {P : Program} {L : Store} {t : TypeId} {x k : AV} {ok : Bool} {K : AV → Prop} (h : alookupS P P.underlying (azero P) L t x k ok K) :
    ∃ av, K av ∧ ∀ (w : World) (I : Nat → Prop) (ρ : List Nat) (m u : Value), (∀ (p : Nat) (o : AO) (b : Nat), L[p]? = some (some o) → ρ[p]? = some b → b < w.heap.size ∧ ¬ I b ∧ ObjRel w I ρ b o) → Rep w I ρ m x → Rep w I ρ u k → ∃ v, (Instr.lookup t m u ok).run P w = .ok v w ∧ Rep w I ρ v av := by
  obtain ⟨kt, et, hu, h⟩ : ∃ kt et, P.underlying t = some (.map kt et) ∧ _ := by
    unfold alookupS mapTS at h
    split at h
    · rename_i kt et hu; exact ⟨kt, et, hu, h⟩
    · exact h.elim
  obtain ⟨p, c, es, rfl, hp, hk, r, hr, h⟩ : ∃ p c es, x = .map p ∧ (L[p]?).join = some (.mp c es) ∧ KeysS P kt k es ∧ ∃ r, lkA k es = r ∧ match r with
      | some v => K (okA ok true v)
      | none => match azero P et with
        | some z => K (okA ok false z)
        | none => False := by
    split at h
    · split at h
      · rename_i hp; exact ⟨_, _, _, rfl, hp, h⟩
      · exact h.elim
    · exact h.elim
  have run : ∀ (w : World) (I : Nat → Prop) (ρ : List Nat) (m u : Value), (∀ (p : Nat) (o : AO) (b : Nat), L[p]? = some (some o) → ρ[p]? = some b → b < w.heap.size ∧ ¬ I b ∧ ObjRel w I ρ b o) → Rep w I ρ m (.map p) → Rep w I ρ u k →
      ∃ (b : Nat) (E : Array MapEntry), m = .map (some b) ∧ w.heap[b]? = some (Obj.map E c) ∧ (Instr.checkKey E.isEmpty 10000 kt u).run P w = .ok () w ∧ ((idxA k es = none ∧ (Instr.findKey kt u E.toList).run P w = .ok none w) ∨ ∃ j e, idxA k es = some j ∧ E.toList[j]? = some e ∧ (Instr.findKey kt u E.toList).run P w = .ok (some (j, e.val)) w ∧ ∃ x, es[j]? = some x ∧ Rep w I ρ e.val x.2.2) := by
    intro w I ρ m u hown hm hku
    cases hm with
    | map _ b hb =>
      obtain ⟨_, _, E, h1, h2, h3⟩ := hown p _ b (oneat0 hp) hb
      refine ⟨b, E, rfl, h1, ?_, ?_⟩
      · obtain ⟨n, lx, e1, e2⟩ := hk.one
        rw [e1] at hku
        rw [repS hku]
        exact hk.keyed.check w E.isEmpty e2
      rcases findS_A (w0 := w) hku hk (l := E.toList) (by simpa using h2) (fun j x e hx he => (h3 j x e hx (by simpa using he)).2.1) with ⟨q1, q2⟩ | ⟨j, e, q1, q2, q3, _, x, q4⟩
      · exact .inl ⟨q1, q2⟩
      · exact .inr ⟨j, e, q1, q2, q3, x, q4, (h3 j x e q4 (by simpa using q2)).2.2⟩
  cases hi : idxA k es with
  | none =>
    have : r = none := by rw [← hr]; simp [lkA, hi]
    subst this
    dsimp only at h
    split at h
    case h_2 => exact h.elim
    rename_i z hz
    obtain ⟨zv, hzv, hzr⟩ := run_zeroValue hz
    refine ⟨_, h, fun w I ρ m u hown hm hku => ?_⟩
    obtain ⟨b, E, rfl, q1, qc, q2⟩ := run w I ρ m u hown hm hku
    rcases q2 with ⟨_, q2⟩ | ⟨j, e, q2, _⟩
    · refine ⟨if ok then .tuple #[zv, .bool false] else zv, ?_, ?_⟩
      · simp only [Instr.lookup, Sem.run_bind, run_underlying hu, Result.andThen_ok, MapKept.run_getObj_map q1, Sem.run_pure, qc, q2, hzv]
      · cases ok
        · exact hzr w I ρ
        · exact tup2_rep (hzr w I ρ) (.bool _)
    · rw [hi] at q2; cases q2
  | some j =>
    have hj : ∃ x, r = some x := by
      rw [← hr]
      simp only [lkA, hi, Option.bind_some]
      have key : ∀ (es : Ents) (j : Nat), idxA k es = some j → j < es.length := by
        intro es
        induction es with
        | nil => intro j hj; simp [idxA] at hj
        | cons y es ih =>
          intro j hj
          simp only [idxA] at hj
          split at hj
          · cases hj; simp
          · obtain ⟨i, hi, rfl⟩ := Option.map_eq_some_iff.1 hj
            have := ih i hi
            simp; omega
      rw [List.getElem?_eq_getElem (key es j hi)]
      exact ⟨_, rfl⟩
    obtain ⟨y, hy⟩ := hj
    subst hy
    refine ⟨_, h, fun w I ρ m u hown hm hku => ?_⟩
    obtain ⟨b, E, rfl, q1, qc, q2⟩ := run w I ρ m u hown hm hku
    rcases q2 with ⟨q2, _⟩ | ⟨j', e, q2, q3, q4, x', q5, q6⟩
    · rw [hi] at q2; cases q2
    · rw [hi] at q2
      cases q2
      have hyx : y = x'.2.2 := by
        simp only [lkA, hi, Option.bind_some, q5, Option.map_some, Option.some.injEq] at hr
        exact hr.symm
      refine ⟨if ok then .tuple #[e.val, .bool true] else e.val, ?_, ?_⟩
      · simp only [Instr.lookup, Sem.run_bind, run_underlying hu, Result.andThen_ok, MapKept.run_getObj_map q1, Sem.run_pure, qc, q4]
      · rw [hyx]
        cases ok
        · exact q6
        · exact tup2_rep q6 (.bool _)
/-- The entry at which a walk stands. -/
def aentry (L : Store) (x : AV) (K : AV → Prop) : Prop := match x with
  | .ref q wd i f => wd = 0 ∧ i = 0 ∧ f = 0 ∧ match (L[q]?).join with
    | some (.it p since seen last) => match (L[p]?).join with
      | some (.mp c es) => c = last ∧ ∃ b k v, seen.getLast? = some b ∧ (∃ j, es[j]? = some (b, k, v) ∧ ∀ (i : Nat) (x : Nat × AV × AV), es[i]? = some x → x.1 = b → i = j) ∧ K (.tup [k, v])
      | _ => False
    | _ => False
  | _ => False
theorem find_at {b : Nat} : ∀ {l : List MapEntry} {j : Nat} {e : MapEntry}, l[j]? = some e → e.born = b → (∀ i x, l[i]? = some x → x.born = b → i = j) → l.find? (·.born == b) = some e
  | [], j, e, h, _, _ => by simp at h
  | x :: l, 0, e, h, hb, _ => by simp at h; subst h; simp [hb]
  | x :: l, j + 1, e, h, hb, hu => by
    have hx : ¬ x.born = b := fun hx => by have := hu 0 x rfl hx; omega
    rw [List.find?_cons_of_neg (by simpa using hx)]
    exact find_at (by simpa using h) hb (fun i y hy hyb => by have := hu (i + 1) y (by simpa using hy) hyb; omega)
theorem aentry_ok {P : Program} {L : Store} {x : AV} {K : AV → Prop} (h : aentry L x K) :
    ∃ av, K av ∧ ∀ (w : World) (I : Nat → Prop) (ρ : List Nat) (u : Value), (∀ (p : Nat) (o : AO) (b : Nat), L[p]? = some (some o) → ρ[p]? = some b → b < w.heap.size ∧ ¬ I b ∧ ObjRel w I ρ b o) → Rep w I ρ u x → ∃ v, (Instr.entry u).run P w = .ok v w ∧ Rep w I ρ v av := by
  obtain ⟨q, p, since, seen, last, es, rfl, hq, hp, b, k, v, h1, ⟨j, h2, h3⟩, h⟩ : ∃ q p since seen last es, x = .ref q 0 0 0 ∧ (L[q]?).join = some (.it p since seen last) ∧ (L[p]?).join = some (.mp last es) ∧ ∃ b k v, seen.getLast? = some b ∧ (∃ j, es[j]? = some (b, k, v) ∧ ∀ (i : Nat) (x : Nat × AV × AV), es[i]? = some x → x.1 = b → i = j) ∧ K (.tup [k, v]) := by
    unfold aentry at h
    split at h
    · obtain ⟨rfl, rfl, rfl, h⟩ := h
      split at h
      · rename_i hq
        split at h
        · rename_i hp
          obtain ⟨rfl, h⟩ := h
          exact ⟨_, _, _, _, _, _, rfl, hq, hp, h⟩
        · exact h.elim
      · exact h.elim
    · exact h.elim
  refine ⟨_, h, fun w I ρ u hown hu => ?_⟩
  cases hu with
  | ref _ _ _ _ bq hbq =>
    obtain ⟨_, _, m, hm, hit⟩ := hown q _ bq (oneat0 hq) hbq
    obtain ⟨_, _, E, e1, e2, e3⟩ := hown p _ m (oneat0 hp) hm
    obtain ⟨e, he⟩ : ∃ e, E[j]? = some e := ⟨_, Array.getElem?_eq_getElem (by rw [e2]; exact (List.getElem?_eq_some_iff.1 h2).1)⟩
    obtain ⟨t1, t2, t3⟩ := e3 j _ e h2 he
    have hfind : E.find? (·.born == b) = some e := by
      rw [← Array.find?_toList]
      refine find_at (j := j) (by simpa using he) t1 (fun i x hx hxb => ?_)
      obtain ⟨y, hy⟩ : ∃ y, es[i]? = some y := ⟨_, List.getElem?_eq_getElem (by rw [← e2]; have := (List.getElem?_eq_some_iff.1 hx).1; simpa using this)⟩
      exact h3 i y hy (by rw [← (e3 i y x hy (by simpa using hx)).1]; exact hxb)
    refine ⟨.tuple #[e.key, e.val], ?_, tup2_rep t2 t3⟩
    have hback : (seen.toArray).back? = some b := by rw [List.back?_toArray]; exact h1
    simp [Instr.entry, getObj, Sem.run, hit, e1, hback, hfind, Result.andThen]
/-- Lengths, a map's too. -/
def alenL (P : Program) (L : Store) (t : TypeId) (x : AV) (K : AV → Prop) : Prop :=
  match x with
  | .map p => match P.underlying t with
    | some (.map _ _) => match (L[p]?).join with
      | some (.mp c es) => K (.int .i64 es.length)
      | _ => False
    | _ => False
  | _ => alen P t x K
theorem alenL_ok {P : Program} {L : Store} {t : TypeId} {x : AV} {K : AV → Prop} (h : alenL P L t x K) :
    ∃ av, K av ∧ ∀ (w : World) (I : Nat → Prop) (ρ : List Nat) (u : Value) (ats : Array TypeId) (ty : TypeId), RelW w I ρ L → ats[0]? = some t → Rep w I ρ u x → ∃ r, (Builtin.len_ ats ty #[u]).run P w = .ok r w ∧ Rep w I ρ r av := by
  unfold alenL at h
  split at h
  · rename_i p
    split at h
    · rename_i kt et hu
      split at h
      · rename_i c es hp
        refine ⟨_, h, fun w I ρ u ats ty hr ha hv => ?_⟩
        cases hv with
        | map _ b hb =>
          obtain ⟨_, _, E, h1, h2, h3⟩ := hr p _ b (oneat0 hp) hb
          refine ⟨_, ?_, .int _ _⟩
          simp [Builtin.len_, ha, run_underlying hu, goInt, MapKept.run_getObj_map h1, h2]
      · exact h.elim
    · exact h.elim
  · obtain ⟨av, hK, hl⟩ := alen_ok h
    exact ⟨av, hK, fun w I ρ u ats ty _ ha hv => hl w I ρ u ats ty ha hv⟩
/-- All of them. -/
def pop (P : Program) (L : Store) (o : Oper) (g : Operand → AV) (K : AV → Prop) : Prop :=
  match o.op with
  | .move x => K (g x)
  | .assign x => K (g x)
  | .pick c a b => match g c with
    | .bool t => K (if t then g a else g b)
    | _ => False
  | .load t a => aloadAt P L t (g a) K
  | .nilCheck x => match g x with
    | .ref p w i f => K (.ref p w i f)
    | .imm cs => K (.imm cs)
    | .func (.func f) fs cs => K (.func (.func f) fs cs)
    | .func (.yield f) fs cs => K (.func (.yield f) fs cs)
    | _ => False
  | .binOp op t x y _ => abin P t op (g x) (g y) K
  | .unOp op _ x => aun op (g x) K
  | .convert src dst x => aconv P src dst (g x) K
  | .makeInterface t x => match P.underlying t with
    | some (.interface _) => False
    | some _ => K (.ifc t (g x))
    | none => False
  | .makeFunc fn first captured => K (.func fn (first.toList.map g) (captured.toList.map g))
  | .slice t x lo hi mx => aslice P t (g x) (lo.map g) (hi.map g) (mx.map g) K
  | .fieldAddr s x f => afaddr P s (g x) f K
  | .field t x f => afield P t (g x) f K
  | .indexAddr t x ix => aiaddr P t (g x) (g ix) K
  | .index t x ix => aindex P t (g x) (g ix) K
  | .lookup t x k ok => alookup P.underlying (azero P) L t (g x) (g k) ok K ∨ alookupS P P.underlying (azero P) L t (g x) (g k) ok K
  | .entry x => aentry L (g x) K
  | .typeAssert x _ t ok => match g x with
    | .ifc t' v => match P.underlying t with
      | some (.interface _) => False
      | some _ => t' = t ∧ K (match ok with | true => .tup [v, .bool true] | false => v)
      | none => False
    | _ => False
  | .extract t ix => match g t with
    | .tup vs => ∃ v, vs[ix]? = some v ∧ K v
    | _ => False
  | .build t parts => abuild P t (parts.toList.map fun p => (p.1, g p.2)) K
  | .call c => match c.callee with
    | .builtin .len => match c.args.toList, c.argTypes.toList with
      | [x], [t] => alenL P L t (g x) K
      | _, _ => False
    | .builtin .min => match c.args.toList with
      | [x, y] => match g x, g y with
        | .int k a, .int _ b => K (.int k (if b < a then b else a))
        | _, _ => False
      | _ => False
    | .builtin .max => match c.args.toList with
      | [x, y] => match g x, g y with
        | .int k a, .int _ b => K (.int k (if b > a then b else a))
        | _, _ => False
      | _ => False
    | _ => False
  | _ => False
theorem boundRel {w : World} {I : Nat → Prop} {ρ : List Nat} {a : Act} {fr : AFr} (h : RepF w I ρ a.tmps fr) (x : Option Operand) : BoundRel w I ρ (x.map a.eval) (x.map (aval fr)) := by
  cases x with
  | none => trivial
  | some x => exact aval_rep h x
theorem pop_ok {P : Program} {L : Store} {o : Oper} {fr : AFr} {K : AV → Prop} (h : pop P L o (aval fr) K) :
    ∃ av, K av ∧ ∀ (a : Act) (w : World) (I : Nat → Prop) (ρ : List Nat), RelW w I ρ L → RepF w I ρ a.tmps fr → ∃ v, (execOp a.eval o).run P w = .ok (.value v) w ∧ Rep w I ρ v av := by
  obtain ⟨dst, op, type, pos, after, guard⟩ := o
  unfold pop at h
  cases op <;> dsimp only at h <;> first | exact h.elim | skip
  case move x => exact ⟨_, h, fun a w I ρ _ hf => ⟨_, rfl, aval_rep hf x⟩⟩
  case assign x => exact ⟨_, h, fun a w I ρ _ hf => ⟨_, rfl, aval_rep hf x⟩⟩
  case lookup t x k ok =>
    obtain ⟨av, hK, hr⟩ := h.elim alookup_ok alookupS_ok
    refine ⟨av, hK, fun a w I ρ ho hf => ?_⟩
    obtain ⟨v, hv, hrep⟩ := hr w I ρ (a.eval x) (a.eval k) ho (aval_rep hf x) (aval_rep hf k)
    exact ⟨v, by simp only [execOp, Sem.run_bind, hv, Result.andThen_ok]; rfl, hrep⟩
  case entry x =>
    obtain ⟨av, hK, hr⟩ := aentry_ok (P := P) h
    refine ⟨av, hK, fun a w I ρ ho hf => ?_⟩
    obtain ⟨v, hv, hrep⟩ := hr w I ρ (a.eval x) ho (aval_rep hf x)
    exact ⟨v, by simp only [execOp, Sem.run_bind, hv, Result.andThen_ok]; rfl, hrep⟩
  case pick c x y =>
    split at h
    · rename_i t hc
      refine ⟨_, h, fun a w I ρ _ hf => ?_⟩
      have h1 := aval_rep hf c
      rw [hc] at h1
      refine ⟨if t then a.eval x else a.eval y, by simp [execOp, h1.bool_inv, asBool], ?_⟩
      cases t
      · exact aval_rep hf y
      · exact aval_rep hf x
    · exact h.elim
  case load t x =>
    obtain ⟨av, hK, hl⟩ := aloadAt_ok h
    refine ⟨av, hK, fun a w I ρ hr hf => ?_⟩
    obtain ⟨r, h1, h2⟩ := hl w I ρ _ hr (aval_rep hf x)
    exact ⟨r, by simp [execOp, h1], h2⟩
  case nilCheck x =>
    split at h
    · rename_i hx
      refine ⟨_, h, fun a w I ρ _ hf => ?_⟩
      have h1 := aval_rep hf x
      rw [hx] at h1
      obtain ⟨v, hv⟩ : ∃ v, a.eval x = v := ⟨_, rfl⟩
      rw [hv] at h1
      refine ⟨v, ?_, h1⟩
      cases h1
      simp [execOp, hv]
    · rename_i hx
      refine ⟨_, h, fun a w I ρ _ hf => ?_⟩
      have h1 := aval_rep hf x
      rw [hx] at h1
      obtain ⟨v, hv⟩ : ∃ v, a.eval x = v := ⟨_, rfl⟩
      rw [hv] at h1
      refine ⟨v, ?_, h1⟩
      cases h1
      simp [execOp, hv]
    · rename_i hx
      refine ⟨_, h, fun a w I ρ _ hf => ?_⟩
      have h1 := aval_rep hf x
      rw [hx] at h1
      obtain ⟨v, hv⟩ : ∃ v, a.eval x = v := ⟨_, rfl⟩
      rw [hv] at h1
      refine ⟨v, ?_, h1⟩
      cases h1
      simp [execOp, hv]
    · rename_i hx
      refine ⟨_, h, fun a w I ρ _ hf => ?_⟩
      have h1 := aval_rep hf x
      rw [hx] at h1
      obtain ⟨v, hv⟩ : ∃ v, a.eval x = v := ⟨_, rfl⟩
      rw [hv] at h1
      refine ⟨v, ?_, h1⟩
      cases h1
      simp [execOp, hv]
    · exact h.elim
  case binOp bop t x y yt =>
    obtain ⟨av, hK, hl⟩ := abin_ok h
    refine ⟨av, hK, fun a w I ρ hr hf => ?_⟩
    obtain ⟨r, h1, h2⟩ := hl w I ρ _ _ x y (aval_rep hf x) (aval_rep hf y)
    exact ⟨r, by simp only [execOp, Sem.run_bind] at h1 ⊢; rw [h1]; rfl, h2⟩
  case unOp uop t x =>
    obtain ⟨av, hK, hl⟩ := aun_ok (P := P) h
    refine ⟨av, hK, fun a w I ρ hr hf => ?_⟩
    obtain ⟨r, h1, h2⟩ := hl w I ρ _ (aval_rep hf x)
    exact ⟨r, by simp [execOp, h1], h2⟩
  case convert s d x =>
    obtain ⟨av, hK, hl⟩ := aconv_ok h
    refine ⟨av, hK, fun a w I ρ hr hf => ?_⟩
    obtain ⟨r, h1, h2⟩ := hl w I ρ _ (aval_rep hf x)
    exact ⟨r, by simp [execOp, h1], h2⟩
  case makeInterface t x =>
    split at h
    · exact h.elim
    · rename_i d hn hd
      refine ⟨_, h, fun a w I ρ hr hf => ⟨_, ?_, .ifc _ _ _ (aval_rep hf x)⟩⟩
      cases d <;> first | exact absurd rfl (hn _) | simp [execOp, Instr.makeInterface, run_underlying hd]
    · exact h.elim
  case typeAssert x xt t ok =>
    split at h
    · rename_i t' v hx
      split at h
      · exact h.elim
      · rename_i d hn hd
        obtain ⟨rfl, h⟩ := h
        refine ⟨_, h, fun a w I ρ hr hf => ?_⟩
        have h1 := aval_rep hf x
        rw [hx] at h1
        obtain ⟨y, hy⟩ : ∃ y, a.eval x = y := ⟨_, rfl⟩
        rw [hy] at h1
        cases h1 with
        | ifc t v' a' hv =>
          cases ok with
          | false => exact ⟨v', by cases d <;> first | exact absurd rfl (hn _) | simp [execOp, hy, Instr.typeAssert, run_underlying hd], hv⟩
          | true => exact ⟨.tuple #[v', .bool true], by cases d <;> first | exact absurd rfl (hn _) | simp [execOp, hy, Instr.typeAssert, run_underlying hd], .tup [v', .bool true] [v, .bool true] rfl (fun j u c hu hc => by
              match j, hu, hc with
              | 0, hu, hc => cases hu; cases hc; exact hv
              | 1, hu, hc => cases hu; cases hc; exact .bool _
              | j + 2, hu, hc => cases hu)⟩
      · exact h.elim
    · exact h.elim
  case makeFunc fn first captured =>
    refine ⟨_, h, fun a w I ρ hr hf => ⟨_, rfl, ?_⟩⟩
    rw [← Array.toArray_toList (xs := first), ← Array.toArray_toList (xs := captured)]
    simp only [List.map_toArray]
    refine .func fn _ _ _ _ (by simp) (by simp) (fun j v c hv hc => ?_) (fun j v c hv hc => ?_)
    · rw [List.getElem?_map] at hv hc
      cases hx : first.toList[j]? with
      | none => rw [hx] at hv; cases hv
      | some x => rw [hx] at hv hc; cases hv; cases hc; exact aval_rep hf x
    · rw [List.getElem?_map] at hv hc
      cases hx : captured.toList[j]? with
      | none => rw [hx] at hv; cases hv
      | some x => rw [hx] at hv hc; cases hv; cases hc; exact aval_rep hf x
  case slice t x lo hi mx =>
    obtain ⟨av, hK, hl⟩ := aslice_ok h
    refine ⟨av, hK, fun a w I ρ hr hf => ?_⟩
    obtain ⟨r, h1, h2⟩ := hl w I ρ _ _ _ _ (aval_rep hf x) (boundRel hf lo) (boundRel hf hi) (boundRel hf mx)
    exact ⟨r, by simp [execOp, h1], h2⟩
  case fieldAddr s x f =>
    obtain ⟨av, hK, hl⟩ := afaddr_ok h
    refine ⟨av, hK, fun a w I ρ hr hf => ?_⟩
    obtain ⟨r, h1, h2⟩ := hl w I ρ _ (aval_rep hf x)
    exact ⟨r, by simp [execOp, h1], h2⟩
  case field t x f =>
    obtain ⟨av, hK, hl⟩ := afield_ok h
    refine ⟨av, hK, fun a w I ρ hr hf => ?_⟩
    obtain ⟨r, h1, h2⟩ := hl w I ρ _ (aval_rep hf x)
    exact ⟨r, by simp [execOp, h1], h2⟩
  case indexAddr t x ix =>
    obtain ⟨av, hK, hl⟩ := aiaddr_ok h
    refine ⟨av, hK, fun a w I ρ hr hf => ?_⟩
    obtain ⟨r, h1, h2⟩ := hl w I ρ _ _ (aval_rep hf x) (aval_rep hf ix)
    exact ⟨r, by simp [execOp, h1], h2⟩
  case index t x ix =>
    obtain ⟨av, hK, hl⟩ := aindex_ok h
    refine ⟨av, hK, fun a w I ρ hr hf => ?_⟩
    obtain ⟨r, h1, h2⟩ := hl w I ρ _ _ (aval_rep hf x) (aval_rep hf ix)
    exact ⟨r, by simp [execOp, h1], h2⟩
  case extract t ix =>
    split at h
    · rename_i vs hx
      obtain ⟨c, hc, h⟩ := h
      refine ⟨_, h, fun a w I ρ hr hf => ?_⟩
      have h1 := aval_rep hf t
      rw [hx] at h1
      obtain ⟨us, hu, hl, hrep⟩ := h1.tup_inv
      have hlt := (List.getElem?_eq_some_iff.1 hc).1
      have hv : us[ix]? = some us[ix] := List.getElem?_eq_getElem (by omega)
      exact ⟨us[ix], by simp [execOp, hu, Instr.extract, hv], hrep ix _ _ hv hc⟩
    · exact h.elim
  case build t parts =>
    obtain ⟨av, hK, hl⟩ := abuild_ok h
    refine ⟨av, hK, fun a w I ρ hr hf => ?_⟩
    obtain ⟨r, h1, h2⟩ := hl w I ρ (parts.map fun p => (p.1, a.eval p.2)) (by simp) (fun j p q hp hq => by
      simp only [Array.toList_map, List.getElem?_map] at hp hq
      cases hx : parts.toList[j]? with
      | none => rw [hx] at hp; cases hp
      | some x => rw [hx] at hp hq; cases hp; cases hq; exact ⟨rfl, aval_rep hf x.2⟩)
    exact ⟨r, by simp only [execOp, Sem.run_bind]; rw [show (parts.map fun x => match x with | (i, x) => (i, a.eval x)) = parts.map fun p => (p.1, a.eval p.2) from rfl, h1]; rfl, h2⟩
  case call c =>
    obtain ⟨callee, args, ats⟩ := c
    cases callee <;> dsimp only at h <;> first | exact h.elim | skip
    rename_i b
    cases b <;> dsimp only at h <;> first | exact h.elim | skip
    case len =>
      split at h
      · rename_i x t hx ht
        obtain ⟨av, hK, hl⟩ := alenL_ok h
        refine ⟨av, hK, fun a w I ρ hr hf => ?_⟩
        have e1 : args = #[x] := by rw [← Array.toArray_toList (xs := args), hx]
        have e2 : ats[0]? = some t := by rw [← Array.getElem?_toList, ht]; rfl
        obtain ⟨r, h1, h2⟩ := hl w I ρ _ ats type hr e2 (aval_rep hf x)
        exact ⟨r, by simp [execOp, resolve, invoke, builtin, e1, h1], h2⟩
      · exact h.elim
    case min =>
      split at h
      · rename_i x y hx
        split at h
        · rename_i k n k' m hgx hgy
          refine ⟨_, h, fun a w I ρ hr hf => ⟨_, ?_, .int _ _⟩⟩
          have e1 : args = #[x, y] := by rw [← Array.toArray_toList (xs := args), hx]
          have h1 := aval_rep hf x
          have h2 := aval_rep hf y
          rw [hgx] at h1
          rw [hgy] at h2
          simp [execOp, resolve, invoke, builtin, e1, h1.int_inv, h2.int_inv, run_min_int2]
        · exact h.elim
      · exact h.elim
    case max =>
      split at h
      · rename_i x y hx
        split at h
        · rename_i k n k' m hgx hgy
          refine ⟨_, h, fun a w I ρ hr hf => ⟨_, ?_, .int _ _⟩⟩
          have e1 : args = #[x, y] := by rw [← Array.toArray_toList (xs := args), hx]
          have h1 := aval_rep hf x
          have h2 := aval_rep hf y
          rw [hgx] at h1
          rw [hgy] at h2
          simp [execOp, resolve, invoke, builtin, e1, h1.int_inv, h2.int_inv, run_max_int2]
        · exact h.elim
      · exact h.elim
end Go.Proofs.Ytaieiigfheabfaa.Tw
