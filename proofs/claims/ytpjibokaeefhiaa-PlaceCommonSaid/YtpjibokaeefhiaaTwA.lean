import Derived.CallsIn
import Derived.Below
import Derived.RangeFuncLeaves
import Derived.RangeFuncRecord
/-! What a value means: abstract values, and when a value of the model is one, in a world. -/
namespace Go.Proofs.Ytpjibokaeefhiaa.Tw
set_option linter.unusedVariables false
/-- Abstract values. Positions p are places of a function's own objects. -/
inductive AV where
  | any
  | int (k : IntKind) (n : Int)
  | bool (b : Bool)
  | str (s : ByteArray)
  | nil
  | ref (p w i f : Nat)
  | imm (cells : List AV)
  | nils
  | sl (w : Nat) (els : List AV)
  | slt (w : Nat) (els : List AV)
  | row (p w off n : Nat)
  | agg (cells : List AV)
  | tup (vs : List AV)
  | func (fn : Fn) (first captured : List AV)
  | nilf
  | map (p : Nat)
  | ifc (t : TypeId) (v : AV)
  | raw (v : Value)
  | yield (p : Nat)
  deriving Inhabited
def AV.cells : AV → List AV
  | .agg cs => cs
  | v => [v]
/-- Objects: rows of elements (w cells each), maps. -/
inductive AO where
  | arr (w : Nat) (els : List AV)
  | box (w : Nat) (e : AV)
  | mp (es : List (AV × AV))
  | loop (st : LoopState) (pend : Option Code) (n : Nat) (l : List (Nat × AV)) (ps : Array Tmp) (assign body : Code)
  deriving Inhabited
theorem add_none {a : Addr} (h : a.spot = none) (n : Nat) : a.add n = ⟨a.block, a.off + n, none⟩ := by
  unfold Addr.add
  split
  · rename_i hn; subst hn; cases a; simp_all
  · rfl
@[simp] theorem add_block (a : Addr) (n : Nat) : (a.add n).block = a.block := by unfold Addr.add; split <;> rfl
/-- The value v of the model is the abstract value, in world w; I: the blocks that are never written; ρ: where the objects lie. -/
inductive Rep (w : World) (I : Nat → Prop) (ρ : List Nat) : Value → AV → Prop
  | any (v) : Rep w I ρ v .any
  | int (k n) : Rep w I ρ (.int k n) (.int k n)
  | bool (b) : Rep w I ρ (.bool b) (.bool b)
  | str (s) : Rep w I ρ (.string s) (.str s)
  | nil : Rep w I ρ (.pointer none) .nil
  | ref (p wd i f b) (h : ρ[p]? = some b) : Rep w I ρ (.pointer (some ⟨b, i * wd + f, none⟩)) (.ref p wd i f)
  | imm (a : Addr) (cs : List AV) (vs : Nat → Value) (hs : a.spot = none) (hI : I a.block)
      (hc : ∀ j, j < cs.length → w.cell? ⟨a.block, a.off + j, none⟩ = some (vs j)) (hr : ∀ (j : Nat) (c : AV), cs[j]? = some c → Rep w I ρ (vs j) c) : Rep w I ρ (.pointer (some a)) (.imm cs)
  | nils : Rep w I ρ (.slice none 0 0) .nils
  | sl (a : Option Addr) (A : Addr) (n c wd : Nat) (els : List AV) (vs : Nat → Nat → Value) (hn : n = els.length) (hcap : n ≤ c)
      (ha : els = [] ∨ (a = some A ∧ A.spot = none ∧ I A.block)) (hw : ∀ e ∈ els, e.cells.length = wd)
      (hc : ∀ i j, i < els.length → j < wd → w.cell? ⟨A.block, A.off + (i * wd + j), none⟩ = some (vs i j))
      (hr : ∀ (i : Nat) (e : AV) (j : Nat) (c : AV), els[i]? = some e → e.cells[j]? = some c → Rep w I ρ (vs i j) c) : Rep w I ρ (.slice a n c) (.sl wd els)
  | slt (a : Option Addr) (A : Addr) (n wd : Nat) (els : List AV) (vs : Nat → Nat → Value) (hn : n = els.length)
      (ha : els = [] ∨ (a = some A ∧ A.spot = none ∧ I A.block)) (hw : ∀ e ∈ els, e.cells.length = wd)
      (hc : ∀ i j, i < els.length → j < wd → w.cell? ⟨A.block, A.off + (i * wd + j), none⟩ = some (vs i j))
      (hr : ∀ (i : Nat) (e : AV) (j : Nat) (c : AV), els[i]? = some e → e.cells[j]? = some c → Rep w I ρ (vs i j) c) : Rep w I ρ (.slice a n n) (.slt wd els)
  | row (p wd off n b c : Nat) (C : Array Value) (t : TypeId) (h : ρ[p]? = some b) (hn : n ≤ c) (hb : w.heap[b]? = some (.cells C t (0, 0))) (hC : (off + c) * wd ≤ C.size) :
      Rep w I ρ (.slice (some ⟨b, off * wd, none⟩) n c) (.row p wd off n)
  | agg (vs : List Value) (cs : List AV) (hl : vs.length = cs.length) (hr : ∀ (j : Nat) (v : Value) (c : AV), vs[j]? = some v → cs[j]? = some c → Rep w I ρ v c) : Rep w I ρ (.agg vs.toArray) (.agg cs)
  | tup (vs : List Value) (cs : List AV) (hl : vs.length = cs.length) (hr : ∀ (j : Nat) (v : Value) (c : AV), vs[j]? = some v → cs[j]? = some c → Rep w I ρ v c) : Rep w I ρ (.tuple vs.toArray) (.tup cs)
  | func (fn : Fn) (fs gs : List Value) (fst cap : List AV) (hl : fs.length = fst.length) (hl' : gs.length = cap.length)
      (hr : ∀ (j : Nat) (v : Value) (c : AV), fs[j]? = some v → fst[j]? = some c → Rep w I ρ v c) (hr' : ∀ (j : Nat) (v : Value) (c : AV), gs[j]? = some v → cap[j]? = some c → Rep w I ρ v c) : Rep w I ρ (.func fn fs.toArray gs.toArray) (.func fn fst cap)
  | nilf : Rep w I ρ .nilFunc .nilf
  | map (p b) (h : ρ[p]? = some b) : Rep w I ρ (.map (some b)) (.map p)
  | ifc (t v a) (h : Rep w I ρ v a) : Rep w I ρ (.iface t v) (.ifc t a)
  | raw (v) : Rep w I ρ v (.raw v)
  | yield (p b) (h : ρ[p]? = some b) : Rep w I ρ (.func (.yield b) #[] #[]) (.yield p)
/-- What holds in one place holds in a later one. -/
structure Le (w : World) (I : Nat → Prop) (ρ : List Nat) (w' : World) (I' : Nat → Prop) (ρ' : List Nat) : Prop where
  cell : ∀ b : Nat, I b → w'.heap[b]? = w.heap[b]?
  imm : ∀ b, I b → I' b
  rho : ∀ (p b : Nat), ρ[p]? = some b → ρ'[p]? = some b
  size : ∀ (b : Nat) (C : Array Value) (t : TypeId), w.heap[b]? = some (Obj.cells C t (0, 0)) → ∃ C' : Array Value, w'.heap[b]? = some (Obj.cells C' t (0, 0)) ∧ C'.size = C.size
theorem Le.refl (w : World) (I : Nat → Prop) (ρ : List Nat) : Le w I ρ w I ρ := ⟨fun _ _ => rfl, fun _ h => h, fun _ _ h => h, fun b C t h => ⟨C, h, rfl⟩⟩
theorem Le.trans {w w' w'' : World} {I I' I'' : Nat → Prop} {ρ ρ' ρ'' : List Nat} (h : Le w I ρ w' I' ρ') (k : Le w' I' ρ' w'' I'' ρ'') : Le w I ρ w'' I'' ρ'' :=
  ⟨fun b hb => (k.cell b (h.imm b hb)).trans (h.cell b hb), fun b hb => k.imm b (h.imm b hb), fun p b hp => k.rho p b (h.rho p b hp),
   fun b C t hb => let ⟨C1, h1, e1⟩ := h.size b C t hb; let ⟨C2, h2, e2⟩ := k.size b C1 t h1; ⟨C2, h2, e2.trans e1⟩⟩
theorem cell_eq {w w' : World} {b o : Nat} (h : w'.heap[b]? = w.heap[b]?) : w'.cell? ⟨b, o, none⟩ = w.cell? ⟨b, o, none⟩ := by unfold World.cell?; simp only [h]
theorem Rep.mono {w w' : World} {I I' : Nat → Prop} {ρ ρ' : List Nat} (L : Le w I ρ w' I' ρ') {v : Value} {a : AV} (h : Rep w I ρ v a) : Rep w' I' ρ' v a := by
  induction h with
  | any v => exact .any v
  | int k n => exact .int k n
  | bool b => exact .bool b
  | str s => exact .str s
  | nil => exact .nil
  | ref p wd i f b h => exact .ref p wd i f b (L.rho p b h)
  | imm a cs vs hs hI hc hr ih => exact .imm a cs vs hs (L.imm _ hI) (fun j hj => (cell_eq (L.cell _ hI)).trans (hc j hj)) ih
  | nils => exact .nils
  | sl a A n c wd els vs hn hcap ha hw hc hr ih =>
    refine .sl a A n c wd els vs hn hcap (ha.imp id fun ⟨x, y, z⟩ => ⟨x, y, L.imm _ z⟩) hw (fun i j hi hj => ?_) ih
    rcases ha with rfl | ⟨_, _, z⟩
    · simp at hi
    · exact (cell_eq (L.cell _ z)).trans (hc i j hi hj)
  | slt a A n wd els vs hn ha hw hc hr ih =>
    refine .slt a A n wd els vs hn (ha.imp id fun ⟨x, y, z⟩ => ⟨x, y, L.imm _ z⟩) hw (fun i j hi hj => ?_) ih
    rcases ha with rfl | ⟨_, _, z⟩
    · simp at hi
    · exact (cell_eq (L.cell _ z)).trans (hc i j hi hj)
  | row p wd off n b c C t h hn hb hC =>
    obtain ⟨C', h', e⟩ := L.size b C t hb
    exact .row p wd off n b c C' t (L.rho p b h) hn h' (by omega)
  | agg vs cs hl hr ih => exact .agg vs cs hl ih
  | tup vs cs hl hr ih => exact .tup vs cs hl ih
  | func fn fs gs fst cap hl hl' hr hr' ih ih' => exact .func fn fs gs fst cap hl hl' ih ih'
  | nilf => exact .nilf
  | map p b h => exact .map p b (L.rho p b h)
  | ifc t v a h ih => exact .ifc t v _ ih
  | raw v => exact .raw v
  | yield p b h => exact .yield p b (L.rho p b h)
/-- A later world in which some blocks that are no cells, maps or records of loops were changed. -/
structure Shut (w w' : World) : Prop where
  os : w'.os = w.os
  tape : w'.tape = w.tape
  output : w'.output = w.output
  size : w'.heap.size = w.heap.size
  keep : ∀ (b : Nat) (o : Obj), w.heap[b]? = some o → (∀ x, o ≠ .deferred x) → w'.heap[b]? = some o
theorem Shut.cell {w w' : World} (h : Shut w w') {b o : Nat} {v : Value} (hc : w.cell? ⟨b, o, none⟩ = some v) : w'.cell? ⟨b, o, none⟩ = some v := by
  unfold World.cell? at hc ⊢
  split at hc
  · rename_i c _ _ hb
    rw [h.keep b _ hb (by simp)]
    exact hc
  · cases hc
theorem Rep.shut {w w' : World} (L : Shut w w') {I : Nat → Prop} {ρ : List Nat} {v : Value} {a : AV} (h : Rep w I ρ v a) : Rep w' I ρ v a := by
  induction h with
  | any v => exact .any v
  | int k n => exact .int k n
  | bool b => exact .bool b
  | str s => exact .str s
  | nil => exact .nil
  | ref p wd i f b h => exact .ref p wd i f b h
  | imm a cs vs hs hI hc hr ih => exact .imm a cs vs hs hI (fun j hj => L.cell (hc j hj)) ih
  | nils => exact .nils
  | sl a A n c wd els vs hn hcap ha hw hc hr ih => exact .sl a A n c wd els vs hn hcap ha hw (fun i j hi hj => L.cell (hc i j hi hj)) ih
  | slt a A n wd els vs hn ha hw hc hr ih => exact .slt a A n wd els vs hn ha hw (fun i j hi hj => L.cell (hc i j hi hj)) ih
  | row p wd off n b c C t h hn hb hC => exact .row p wd off n b c C t h hn (L.keep b _ hb (by simp)) hC
  | agg vs cs hl hr ih => exact .agg vs cs hl ih
  | tup vs cs hl hr ih => exact .tup vs cs hl ih
  | func fn fs gs fst cap hl hl' hr hr' ih ih' => exact .func fn fs gs fst cap hl hl' ih ih'
  | nilf => exact .nilf
  | map p b h => exact .map p b h
  | ifc t v a h ih => exact .ifc t v _ ih
  | raw v => exact .raw v
  | yield p b h => exact .yield p b h
/-- The marks' blocks shut. -/
def shutAll : List Nat → World → World
  | [], w => w
  | D :: Ds, w => shutAll Ds (w.putObj D (.deferred none))
theorem shut_put {w : World} {D : Nat} {x : Option (List Deferred)} (h : w.heap[D]? = some (.deferred x)) : Shut w (w.putObj D (.deferred none)) :=
  ⟨rfl, rfl, rfl, by simp, fun b o hb hd => by
    by_cases e : b = D
    · subst e; rw [h] at hb; cases hb; exact absurd rfl (hd _)
    · rw [World.putObj_heap_other e]; exact hb⟩
theorem shutAll_spec : ∀ (Ds : List Nat) (w : World), Ds.Nodup → (∀ D ∈ Ds, w.heap[D]? = some (.deferred (some []))) → Shut w (shutAll Ds w) ∧ ∀ b, b ∉ Ds → (shutAll Ds w).heap[b]? = w.heap[b]?
  | [], w, _, _ => ⟨⟨rfl, rfl, rfl, rfl, fun _ _ h _ => h⟩, fun _ _ => rfl⟩
  | D :: Ds, w, hn, h => by
    have hn' := List.nodup_cons.1 hn
    obtain ⟨h1, h2⟩ := shutAll_spec Ds (w.putObj D (.deferred none)) hn'.2 (fun E hE => by
      rw [World.putObj_heap_other (fun e : E = D => hn'.1 (e ▸ hE))]; exact h E (List.mem_cons_of_mem _ hE))
    have h0 := shut_put (h D (by simp))
    refine ⟨⟨h1.os.trans h0.os, h1.tape.trans h0.tape, h1.output.trans h0.output, h1.size.trans h0.size, fun b o hb hd => h1.keep b o (h0.keep b o hb hd) hd⟩, fun b hb => ?_⟩
    simp only [List.mem_cons, not_or] at hb
    exact (h2 b hb.2).trans (World.putObj_heap_other hb.1)
/-! What a value is, by its abstract value. -/
section inv
variable {w : World} {I : Nat → Prop} {ρ : List Nat} {v : Value}
theorem Rep.int_inv {k : IntKind} {n : Int} (h : Rep w I ρ v (.int k n)) : v = .int k n := by cases h; rfl
theorem Rep.bool_inv {b : Bool} (h : Rep w I ρ v (.bool b)) : v = .bool b := by cases h; rfl
theorem Rep.str_inv {s : ByteArray} (h : Rep w I ρ v (.str s)) : v = .string s := by cases h; rfl
theorem Rep.agg_inv {cs : List AV} (h : Rep w I ρ v (.agg cs)) : ∃ vs : List Value, v = .agg vs.toArray ∧ vs.length = cs.length ∧ ∀ (j : Nat) (u : Value) (c : AV), vs[j]? = some u → cs[j]? = some c → Rep w I ρ u c := by
  cases h with | agg vs _ hl hr => exact ⟨vs, rfl, hl, hr⟩
theorem Rep.tup_inv {cs : List AV} (h : Rep w I ρ v (.tup cs)) : ∃ vs : List Value, v = .tuple vs.toArray ∧ vs.length = cs.length ∧ ∀ (j : Nat) (u : Value) (c : AV), vs[j]? = some u → cs[j]? = some c → Rep w I ρ u c := by
  cases h with | tup vs _ hl hr => exact ⟨vs, rfl, hl, hr⟩
end inv
/-- One cell, or several. -/
def RepL (w : World) (I : Nat → Prop) (ρ : List Nat) (vs : List Value) (cs : List AV) : Prop := vs.length = cs.length ∧ ∀ (j : Nat) v c, vs[j]? = some v → cs[j]? = some c → Rep w I ρ v c
theorem RepL.mono {w w' : World} {I I' : Nat → Prop} {ρ ρ' : List Nat} (L : Le w I ρ w' I' ρ') {vs : List Value} {cs : List AV} (h : RepL w I ρ vs cs) : RepL w' I' ρ' vs cs := ⟨h.1, fun j v c hv hc => (h.2 j v c hv hc).mono L⟩
end Go.Proofs.Ytpjibokaeefhiaa.Tw
