import Derived.Test.YtpjibokaeefhiaaTwJ
import Derived.RangeFuncCalls
/-! Calls; regions in the order of their text. -/
namespace Go.Proofs.Ytpjibokaeefhiaa.Tw
open Go.RowKit
set_option linter.unusedVariables false
set_option linter.unusedSimpArgs false
mutual
/-- Of no object. -/
def AV.pur : AV → Bool
  | .ref _ _ _ _ => false
  | .row _ _ _ _ => false
  | .map _ => false
  | .imm cs => purL cs
  | .sl _ es => purL es
  | .slt _ es => purL es
  | .agg cs => purL cs
  | .tup cs => purL cs
  | .func _ a b => purL a && purL b
  | .ifc _ v => v.pur
  | .any => true
  | .int _ _ => true
  | .bool _ => true
  | .str _ => true
  | .nil => true
  | .nils => true
  | .nilf => true
  | .raw _ => true
  | .yield _ => false
def purL : List AV → Bool
  | [] => true
  | a :: as => a.pur && purL as
end
theorem purL_mem : ∀ {l : List AV} {a : AV}, purL l = true → a ∈ l → a.pur = true
  | b :: l, a, h, hm => by
    simp only [purL, Bool.and_eq_true] at h
    cases hm with
    | head => exact h.1
    | tail _ hm => exact purL_mem h.2 hm
theorem purL_of : ∀ {l : List AV}, (∀ a ∈ l, a.pur = true) → purL l = true
  | [], _ => rfl
  | a :: l, h => by
    have := purL_of (l := l) (fun b hb => h b (List.mem_cons_of_mem _ hb))
    simp [purL, h a (by simp), this]
theorem pur_cells {e c : AV} (h : e.pur = true) (hc : c ∈ e.cells) : c.pur = true := by
  unfold AV.cells at hc
  split at hc
  · exact purL_mem (by simpa [AV.pur] using h) hc
  · simp at hc; exact hc ▸ h
theorem Rep.pure {w : World} {I : Nat → Prop} {ρ : List Nat} {v : Value} {a : AV} (h : Rep w I ρ v a) (ρ' : List Nat) : a.pur = true → Rep w I ρ' v a := by
  induction h with
  | any v => exact fun _ => .any v
  | int k n => exact fun _ => .int k n
  | bool b => exact fun _ => .bool b
  | str s => exact fun _ => .str s
  | nil => exact fun _ => .nil
  | ref => intro h; simp [AV.pur] at h
  | imm a cs vs hs hI hc hr ih => exact fun h => .imm a cs vs hs hI hc (fun j c hj => ih j c hj (purL_mem (by simpa [AV.pur] using h) (List.mem_of_getElem? hj)))
  | nils => exact fun _ => .nils
  | sl a A n c wd els vs hn hcap ha hw hc hr ih => exact fun h => .sl a A n c wd els vs hn hcap ha hw hc (fun i e j c he hc' => ih i e j c he hc' (pur_cells (purL_mem (by simpa [AV.pur] using h) (List.mem_of_getElem? he)) (List.mem_of_getElem? hc')))
  | slt a A n wd els vs hn ha hw hc hr ih => exact fun h => .slt a A n wd els vs hn ha hw hc (fun i e j c he hc' => ih i e j c he hc' (pur_cells (purL_mem (by simpa [AV.pur] using h) (List.mem_of_getElem? he)) (List.mem_of_getElem? hc')))
  | row => intro h; simp [AV.pur] at h
  | agg vs cs hl hr ih => exact fun h => .agg vs cs hl (fun j v c hv hc => ih j v c hv hc (purL_mem (by simpa [AV.pur] using h) (List.mem_of_getElem? hc)))
  | tup vs cs hl hr ih => exact fun h => .tup vs cs hl (fun j v c hv hc => ih j v c hv hc (purL_mem (by simpa [AV.pur] using h) (List.mem_of_getElem? hc)))
  | func fn fs gs fst cap hl hl' hr hr' ih ih' =>
    intro h
    simp only [AV.pur, Bool.and_eq_true] at h
    exact .func fn fs gs fst cap hl hl' (fun j v c hv hc => ih j v c hv hc (purL_mem h.1 (List.mem_of_getElem? hc))) (fun j v c hv hc => ih' j v c hv hc (purL_mem h.2 (List.mem_of_getElem? hc)))
  | nilf => exact fun _ => .nilf
  | map => intro h; simp [AV.pur] at h
  | ifc t v a h ih => exact fun h => .ifc t v a (ih (by simpa [AV.pur] using h))
  | raw v => exact fun _ => .raw v
  | yield => intro h; simp [AV.pur] at h
/-- How a call ends. -/
inductive AEnd where
  | ret (v : AV)
  | pan (v : AV)
def EndRel (w : World) (I : Nat → Prop) (ρ : List Nat) : Ending → AEnd → Prop
  | .returned v, .ret a => Rep w I ρ v a
  | .panicked ch, .pan a => ∃ v, ch = [{ v, recovered := false }] ∧ Rep w I ρ v a
  | _, _ => False
/-- What a call does, the objects and all. -/
def TCall (P : Program) (f : FuncId) (args : List AV) (L : Store) (R : AEnd → Store → Prop) : Prop :=
  ∀ (w : World) (I : Nat → Prop) (ρ : List Nat) (vs : List Value), Rel w I ρ L → RepL w I ρ vs args → CallsIn (Fen none) 0 P f vs.toArray w fun e w' =>
    ∃ x L' I' ρ', EndRel w' I' ρ' e x ∧ R x L' ∧ Rel w' I' ρ' L' ∧ (∀ (p b : Nat), ρ[p]? = some b → ρ'[p]? = some b) ∧ Ev L.length w I ρ L w' I' ρ' L'
/-- A call of values: what it hands back. -/
def TPure (P : Program) (f : FuncId) (args : List AV) (r : AV) : Prop :=
  ∀ (w : World) (I : Nat → Prop) (vs : List Value), (∀ b, I b → b < w.heap.size) → RepL w I [] vs args → CallsIn (Fen none) 0 P f vs.toArray w fun e w' =>
    ∃ v, e = .returned v ∧ Rep w' (fun b => I b ∨ (w.heap.size ≤ b ∧ b < w'.heap.size)) [] v r ∧ Below w.heap.size w w'
theorem TCall.mono {P : Program} {f : FuncId} {args : List AV} {L : Store} {R R' : AEnd → Store → Prop} (h : TCall P f args L R) (hr : ∀ x L, R x L → R' x L) : TCall P f args L R' := fun w I ρ vs h1 h2 =>
  (h w I ρ vs h1 h2).mono fun e w' ⟨x, L', I', ρ', a, b, c⟩ => ⟨x, L', I', ρ', a, hr _ _ b, c⟩
theorem rel_nil {w : World} {I : Nat → Prop} (h : ∀ b, I b → b < w.heap.size) : Rel w I [] [] := ⟨rfl, fun p o b h => by simp at h, fun p q o o' b h => by simp at h, h⟩
theorem TCall.pure {P : Program} {f : FuncId} {args : List AV} {r : AV} (h : TCall P f args [] fun x L' => x = .ret r ∧ L' = []) : TPure P f args r := fun w I vs hI hv =>
  (h w I [] vs (rel_nil hI) hv).mono fun e w' ⟨x, L', I', ρ', a, ⟨b, c⟩, d, _, ev⟩ => by
    subst b c
    cases e with
    | returned v =>
      refine ⟨v, rfl, ?_, ?_⟩
      · have hρ : ρ' = [] := List.eq_nil_of_length_eq_zero d.len
        subst hρ
        exact Rep.mono ⟨fun _ _ => rfl, fun b hb => by
          rcases ev.imm' b hb with h | h | ⟨p, o, h, _⟩
          · exact .inl h
          · exact .inr ⟨h, d.imm b hb⟩
          · simp at h, fun _ _ h => h, fun b C t h => ⟨C, h, rfl⟩⟩ a
      · exact ⟨ev.os, ev.tape, ev.output, ev.size, fun k hk => ev.keep k hk (fun ⟨p, o, h, _⟩ => by simp at h)⟩
    | panicked c => exact a.elim
    | outgrown => exact a.elim
theorem below_le {w w' : World} {I : Nat → Prop} {ρ : List Nat} {L : Store} (hr : Rel w I ρ L) (hb : Below w.heap.size w w') : Le w I ρ w' (fun b => I b ∨ (w.heap.size ≤ b ∧ b < w'.heap.size)) ρ :=
  ⟨fun b h => hb.block b (hr.imm b h), fun b h => .inl h, fun _ _ h => h, fun b C t h => ⟨C, (hb.block b (Array.getElem?_eq_some_iff.1 h).1).trans h, rfl⟩⟩
theorem below_rel {K : Nat} {w w' : World} {I : Nat → Prop} {ρ : List Nat} {L : Store} (hr : Rel w I ρ L) (hb : Below w.heap.size w w') :
    Rel w' (fun b => I b ∨ (w.heap.size ≤ b ∧ b < w'.heap.size)) ρ L ∧ Ev K w I ρ L w' (fun b => I b ∨ (w.heap.size ≤ b ∧ b < w'.heap.size)) ρ L := by
  have hle := below_le hr hb
  refine ⟨⟨hr.len, fun p o b h1 h2 => ?_, hr.inj, fun b h => ?_⟩, ⟨hb.os, hb.tape, hb.output, hb.size, fun b h _ => hb.block b h, fun b h => .inl h, fun b h => ?_, fun b h => .inl h, hle.size, fun _ _ => rfl⟩⟩
  · obtain ⟨a1, a2, a3⟩ := hr.own p o b h1 h2
    exact ⟨Nat.lt_of_lt_of_le a1 hb.size, fun h => by rcases h with h | h; exact a2 h; omega, a3.mono hle (hb.block b a1)⟩
  · rcases h with h | h
    · exact Nat.lt_of_lt_of_le (hr.imm b h) hb.size
    · exact h.2
  · rcases h with h | h
    · exact .inl h
    · exact .inr (.inl h.1)
/-- A call of values, whatever objects there are. -/
theorem TPure.call {P : Program} {f : FuncId} {args : List AV} {r : AV} {L : Store} {R : AEnd → Store → Prop} (h : TPure P f args r) (hp : purL args = true) (hr : R (.ret r) L) : TCall P f args L R := fun w I ρ vs h1 h2 =>
  (h w I vs h1.imm ⟨h2.1, fun j v c hv hc => (h2.2 j v c hv hc).pure [] (purL_mem hp (List.mem_of_getElem? hc))⟩).mono fun e w' ⟨v, he, hv, hb⟩ => by
    subst he
    obtain ⟨r1, r2⟩ := below_rel (K := L.length) h1 hb
    exact ⟨.ret r, L, _, ρ, Rep.mono ⟨fun _ _ => rfl, fun _ h => h, fun _ _ h => by simp at h, fun b C t h => ⟨C, h, rfl⟩⟩ hv, hr, r1, fun _ _ h => h, r2⟩
/-- A function that may be entered. -/
def enterB (P : Program) (f : FuncId) : Bool :=
  match P.funcs[f]? with
  | some fn => fn.name != "runtime.NumGoroutine" && fn.body.isSome
  | none => false
theorem run_callFunc {P : Program} {f : FuncId} (h : enterB P f = true) (args : Array Value) (w : World) : (callFunc f args).run P w = .ok (.enter f args) w := by
  unfold enterB at h
  cases hf : P.funcs[f]? with
  | none => simp [hf] at h
  | some fn =>
    simp only [hf, Bool.and_eq_true] at h
    have h1 : fn.name ≠ "runtime.NumGoroutine" := by simpa using h.1
    cases hb : fn.body with
    | none => rw [hb] at h; exact absurd h.2 (by simp)
    | some c => simp [callFunc, hf, h1, hb, mark]
def aputf (dst : Option Tmp) (v : AV) (fr : AFr) : AFr :=
  match dst with
  | some d => if d < fr.n then ⟨fr.n, (d, v) :: fr.l⟩ else fr
  | none => fr
theorem put_repF {w : World} {I : Nat → Prop} {ρ : List Nat} {a : Act} {fr : AFr} {v : Value} {x : AV} (h : RepF w I ρ a.tmps fr) (hv : Rep w I ρ v x) (dst : Option Tmp) : RepF w I ρ (a.put dst v).tmps (aputf dst x fr) ∧ (a.put dst v).tmps.size = a.tmps.size := by
  cases dst with
  | none => exact ⟨h, rfl⟩
  | some d =>
    have h1 := h.1
    refine ⟨?_, by simp [Act.put]⟩
    simp only [aputf, Act.put]
    split
    · rename_i hd
      have hd0 : (d : Nat) < a.tmps.size := by rw [h1]; exact hd
      refine ⟨by simp [h1], fun t => ?_⟩
      simp only [aget, agetL]
      split
      · rename_i e
        subst e
        simpa [hd0] using hv
      · rename_i e
        have := h.2 t
        simpa [Array.getElem?_setIfInBounds_ne (show d ≠ t from fun h => e h.symm), aget] using this
    · rename_i hd
      have hd0 : ¬ ((d : Nat) < a.tmps.size) := by rw [h1]; exact hd
      have : a.tmps.setIfInBounds d v = a.tmps := by
        apply Array.ext_getElem?
        intro t
        by_cases e : d = t
        · subst e
          rw [Array.getElem?_eq_none (Nat.le_of_not_lt hd0), Array.getElem?_eq_none (by rw [Array.size_setIfInBounds]; exact Nat.le_of_not_lt hd0)]
        · rw [Array.getElem?_setIfInBounds_ne e]
      rw [this]
      exact h
section
variable {P : Program} {r : Option Nat} {K : Nat}
/-- One operation: what follows a value (N), a panic (E). -/
def OpTw (P : Program) (r : Option Nat) (K : Nat) (o : Oper) (N : AV → Store → Prop) (E : AEx → AFr → Store → Prop) (fr : AFr) (L : Store) : Prop :=
  ∀ (S : Nat) (a : Act) (w : World) (I : Nat → Prop) (ρ : List Nat), Rel w I ρ L → RepF w I ρ a.tmps fr → DefOk S w I a.defers → ∀ (nx : Act → World → Prop),
    (∀ v av L' w' I' ρ', N av L' → Rel w' I' ρ' L' → Rep w' I' ρ' v av → Le w I ρ w' I' ρ' → Ev K w I ρ L w' I' ρ' L' → nx (a.put o.dst v) w') →
    o.wpIn (Fen r) 0 P a w nx (Post S K E a w I ρ L)
theorem fen_fn (r : Option Nat) (f : FuncId) : (Fen r).fn f := trivial
theorem opTw_value {o : Oper} {N : AV → Store → Prop} {E : AEx → AFr → Store → Prop} {fr : AFr} {L : Store} (hd : ∀ c, o.op ≠ .defer c) (h : WOk P K L (fun a w => (execOp a.eval o).run P w) fr N) : OpTw P r K o N E fr L := by
  obtain ⟨av, L', hN, h⟩ := h
  intro S a w I ρ h1 h2 h3 nx hnx
  obtain ⟨v, w', I', ρ', hrun, r1, r2, r3, r4⟩ := h a w I ρ h1 h2
  refine ⟨fun f _ => fen_fn r f, ?_⟩
  rw [Oper.semAt_eq _ _ _ hd]
  rcases hrun with hrun | ⟨hrun, rfl⟩
  · simp only at hrun; rw [hrun]; exact hnx v av L' w' I' ρ' hN r1 r2 r3 r4
  · simp only at hrun; rw [hrun]; exact hnx undef av L' w' I' ρ' hN r1 r2 r3 r4
theorem wok_pop {o : Oper} {N : AV → Store → Prop} {fr : AFr} {L : Store} (h : pop P L o (aval fr) fun av => N av L) : WOk P K L (fun a w => (execOp a.eval o).run P w) fr N := by
  obtain ⟨av, hN, h⟩ := pop_ok h
  refine ⟨av, L, hN, fun a w I ρ h1 h2 => ?_⟩
  obtain ⟨v, hrun, hv⟩ := h a w I ρ h1.own h2
  exact ⟨v, w, I, ρ, .inl hrun, h1, hv, .refl .., .refl ..⟩
theorem wok_buildSlice {o : Oper} {t : TypeId} {len : Nat} {parts : Array (Nat × Operand)} {N : AV → Store → Prop} {fr : AFr} {L : Store} (ho : o.op = .buildSlice t len parts) (h : abuildSlice P K L t len (parts.toList.map fun p => (p.1, aval fr p.2)) N) : WOk P K L (fun a w => (execOp a.eval o).run P w) fr N := by
  obtain ⟨els, hN, h⟩ := abuildSlice_ok ho h
  refine ⟨_, L, hN, fun a w I ρ h1 h2 => ?_⟩
  obtain ⟨v, w', hrun, r1, r2, r3, r4⟩ := h a w I ρ h1 h2
  exact ⟨v, w', _, ρ, .inl hrun, r1, r2, r3, r4⟩
/-- What a call's end leads to. -/
def callQ (N : AV → Store → Prop) (E : AEx → AFr → Store → Prop) (fr : AFr) : AEnd → Store → Prop
  | .ret v, L => N v L
  | .pan v, L => E (.pan v) fr L
def aputs : List (Tmp × AV) → AFr → AFr
  | [], fr => fr
  | (d, v) :: l, fr => aputs l (aputf (some d) v fr)
theorem puts_repF {w : World} {I : Nat → Prop} {ρ : List Nat} : ∀ (ps : List Tmp) (vs : List Value) (xs : List AV) (tmps : Array Value) (fr : AFr), RepL w I ρ vs xs → RepF w I ρ tmps fr →
    RepF w I ρ ((ps.zip vs).foldl (fun tmps x => tmps.setIfInBounds x.1 x.2) tmps) (aputs (ps.zip xs) fr)
  | [], _, _, _, _, _, h => h
  | _ :: _, [], [], _, _, _, h => h
  | _ :: _, [], _ :: _, _, _, hl, _ => by have := hl.1; simp at this
  | _ :: _, _ :: _, [], _, _, hl, _ => by have := hl.1; simp at this
  | p :: ps, v :: vs, x :: xs, tmps, fr, hl, h => by
    have h1 := (put_repF (a := { tmps := tmps, defers := [] }) h (hl.2 0 v x rfl rfl) (some p)).1
    exact puts_repF ps vs xs _ _ ⟨by have := hl.1; simpa using this, fun j v c hv hc => hl.2 (j + 1) v c (by simpa using hv) (by simpa using hc)⟩ h1
theorem put_loop {K : Nat} {w : World} {I : Nat → Prop} {ρ : List Nat} {L : Store} {p b : Nat} {st : LoopState} {pend : Option Code} {n : Nat} {l : List (Nat × AV)} {ps : Array Tmp} {as bd : Code} (hr : Rel w I ρ L) (hp : L[p]? = some (some (.loop st pend n l ps as bd))) (hb : ρ[p]? = some b)
    (st' : LoopState) (pend' : Option Code) : ∃ r : Loop, w.heap[b]? = some (.loop r) ∧ r.state = st ∧ r.pending = pend ∧ r.params = ps ∧ r.assign = as ∧ r.body = bd ∧ RepF w I ρ r.tmps ⟨n, l⟩ ∧
      Rel (w.putObj b (.loop { r with state := st', pending := pend' })) I ρ (L.set p (some (.loop st' pend' n l ps as bd))) ∧ Le w I ρ (w.putObj b (.loop { r with state := st', pending := pend' })) I ρ ∧
      Ev K w I ρ L (w.putObj b (.loop { r with state := st', pending := pend' })) I ρ (L.set p (some (.loop st' pend' n l ps as bd))) := by
  obtain ⟨a1, a2, fn, tmps, D, h1, h2, h3⟩ := hr.own p _ b hp hb
  exact ⟨_, h1, rfl, rfl, rfl, rfl, rfl, ⟨h2, h3⟩, write_obj hr hp hb (chg_loop h1) (fun hle => ⟨fn, tmps, D, World.putObj_heap_same a1, h2, fun t => (h3 t).mono hle⟩)⟩
/-- How a round may end. -/
def roundQ (p : Nat) (R : AEnd → Store → Prop) : AEx → AFr → Store → Prop := fun e _ L =>
  match (L[p]?).join with
  | some (.loop .busy _ n l ps as bd) => match e with
    | .normal => R (.ret (.bool true)) (L.set p (some (.loop .ready none n l ps as bd)))
    | .ret => R (.ret (.bool false)) (L.set p (some (.loop .done (some .ret) n l ps as bd)))
    | .exit id => R (.ret (.bool false)) (L.set p (some (.loop .done (some (.exit id)) n l ps as bd)))
    | .goto t => R (.ret (.bool false)) (L.set p (some (.loop .done (some (.goto t)) n l ps as bd)))
    | .pan _ => False
  | _ => False
def assQ (P : Program) (k K p : Nat) (body : Code) (R : AEnd → Store → Prop) : AEx → AFr → Store → Prop := fun e fr L =>
  match e with
  | .normal => match (L[p]?).join with
    | some (.loop .ready pend n l ps as bd) => Tw P (some k) K body (roundQ p R) fr (L.set p (some (.loop .busy pend n l ps as bd)))
    | _ => False
  | _ => False
/-- A round of the loop whose record lies at p. -/
def ayield (P : Program) (L : Store) (p : Nat) (args : List AV) (R : AEnd → Store → Prop) : Prop :=
  match (L[p]?).join with
  | some (.loop .ready none n l ps assign body) => ps.size = args.length ∧ ∀ k, Tw P (some k) L.length assign (assQ P k L.length p body R) (aputs (ps.toList.zip args) ⟨n, l⟩) L
  | _ => False
def acallv (P : Program) (L : Store) (f : AV) (args : List AV) (R : AEnd → Store → Prop) : Prop :=
  match f with
  | .func (.func g) first captured => enterB P g = true ∧ TCall P g (first ++ args ++ captured) L R
  | .yield p => ayield P L p args R
  | _ => False
theorem oneat {L : Store} {p : Nat} {o : AO} (h : (L[p]?).join = some o) : L[p]? = some (some o) := by
  cases hl : L[p]? with
  | none => rw [hl] at h; cases h
  | some x => rw [hl] at h; simp at h; rw [h]
theorem ev_le {w : World} {I : Nat → Prop} {ρ : List Nat} {L : Store} {w' : World} {I' : Nat → Prop} {ρ' : List Nat} {L' : Store} (ev : Ev L.length w I ρ L w' I' ρ' L') (h1 : Rel w I ρ L) : Le w I ρ w' I' ρ' :=
  ev.le h1 (fun p b hp => by rw [ev.rho p (by have := (List.getElem?_eq_some_iff.1 hp).1; rw [h1.len] at this; exact this)]; exact hp)
theorem opTw_yield {o : Oper} {f : Operand} {args : Array Operand} {ats : Array TypeId} {N : AV → Store → Prop} {E : AEx → AFr → Store → Prop} {fr : AFr} {L : Store} {p : Nat} (ho : o.op = .call ⟨.value f, args, ats⟩) (hK : K ≤ L.length) (hfv : aval fr f = .yield p)
    (h : ayield P L p (args.toList.map (aval fr)) (callQ N E fr)) : OpTw P r K o N E fr L := by
  unfold ayield at h
  split at h
  case h_2 => exact h.elim
  rename_i n l ps assign body hL
  obtain ⟨hps, h⟩ := h
  intro S a w I ρ h1 h2 h3 nx hnx
  have hLp := oneat hL
  have hpl : p < L.length := (List.getElem?_eq_some_iff.1 hLp).1
  have hf := aval_rep h2 f
  rw [hfv] at hf
  generalize hve : a.eval f = fv at hf
  cases hf with
  | yield _ b hb =>
    obtain ⟨rec, q1, q2, q3, q4, q5, q6, q7, _⟩ := put_loop (K := K) h1 hLp hb .ready none
    have hargs : RepL w I ρ (args.toList.map a.eval) (args.toList.map (aval fr)) := by
      refine ⟨by simp, fun j v c hv hc => ?_⟩
      rw [List.getElem?_map] at hv hc
      cases hx : args.toList[j]? with
      | none => rw [hx] at hv; cases hv
      | some x => rw [hx] at hv hc; cases hv; cases hc; exact aval_rep h2 x
    obtain ⟨tmps', htmps⟩ : ∃ t, t = ((rec.params.zip (args.map a.eval)).foldl (fun tmps (t, a) => tmps.setIfInBounds t a) rec.tmps) := ⟨_, rfl⟩
    have hrun : (o.semAt (Fen r).round a.eval).run P w = .ok (.round b rec.fn tmps' assign body) w := by
      rw [Oper.semAt_eq _ _ _ (by rw [ho]; intro c h; cases h)]
      have hy := run_yield (P := P) (args := args.map a.eval) q1 (by rw [q4]; simp at hps ⊢; exact hps.symm)
      rw [q5, q6, ← htmps] at hy
      simp only [execOp, ho, resolve, Sem.run_bind, Deferred.ofValue, hve, Sem.run_pure, Result.andThen_ok, invoke]
      simpa using hy
    have htm : RepF w I ρ tmps' (aputs (ps.toList.zip (args.toList.map (aval fr))) ⟨n, l⟩) := by
      have := puts_repF (w := w) (I := I) (ρ := ρ) ps.toList (args.toList.map a.eval) _ rec.tmps ⟨n, l⟩ hargs q7
      rw [htmps, ← Array.foldl_toList, Array.toList_zip, q4]
      simpa using this
    refine ⟨fun f _ => fen_fn r f, ?_⟩
    rw [hrun]
    refine ⟨(fun h => by cases h), roundIn_of_wpIn trivial ?_⟩
    refine wpIn_mono (h b w.heap.size { tmps := tmps', defers := [] } w I ρ h1 htm (.nil (Nat.le_refl _))) ?_
    rintro e a1 w1 ⟨x, fr1, L1, I1, ρ1, hx, hq, r1, r2, r3, ev, hs⟩
    cases x <;> try exact hq.elim
    cases e <;> try exact hx.elim
    simp only [assQ] at hq
    split at hq
    case h_2 => exact hq.elim
    rename_i pend1 n1 l1 ps1 as1 bd1 hL1
    have hb1 : ρ1[p]? = some b := by rw [ev.rho p hpl]; exact hb
    obtain ⟨rec1, u1, u2, u3, u4, u5, u6, u7, u8, u9, u10⟩ := put_loop (K := L.length) r1 (oneat hL1) hb1 .busy pend1
    refine ⟨_, run_beginRound u1 u2, ?_⟩
    subst u3
    have r2' := r2.mono u9
    refine wpIn_mono (hq w.heap.size a1 _ I1 ρ1 u8 r2' (r3.mono u9 u10.size)) ?_
    rintro e3 a3 w3 ⟨x3, fr3, L3, I3, ρ3, hx3, hq3, s1, s2, s3, ev3, hs3⟩
    simp only [roundQ] at hq3
    split at hq3
    case h_2 => exact hq3.elim
    rename_i pend3 n3 l3 ps3 as3 bd3 hL3
    have hb3 : ρ3[p]? = some b := by rw [ev3.rho p hpl]; exact hb1
    have evA := (ev.trans u10).trans ev3
    have fin : ∀ (jump : Option Code), callQ N E fr (.ret (.bool jump.isNone)) (L3.set p (some (.loop (if jump.isNone then .ready else .done) jump n3 l3 ps3 as3 bd3))) →
        ∃ v w4, (Instr.endRound b jump).run P w3 = .ok v w4 ∧ nx (a.put o.dst v) w4 := fun jump hN => by
      obtain ⟨rec3, t1, t2, t3, t4, t5, t6, t7, t8, t9, t10⟩ := put_loop (K := L.length) s1 (oneat hL3) hb3 (if jump.isNone then .ready else .done) jump
      have evB := evA.trans t10
      exact ⟨_, _, run_endRound jump t1, hnx _ _ _ _ _ _ hN t8 (.bool _) (ev_le evB h1) { evB with rho := fun p hp => evB.rho p (Nat.lt_of_lt_of_le hp hK) }⟩
    cases e3 with
    | normal => cases x3 <;> first | exact hx3.elim | exact fin none hq3
    | ret => cases x3 <;> first | exact hx3.elim | exact fin (some .ret) hq3
    | exit id => cases x3 <;> first | exact hx3.elim | (cases hx3; exact fin (some (.exit _)) hq3)
    | goto id => cases x3 <;> first | exact hx3.elim | (cases hx3; exact fin (some (.goto _)) hq3)
    | panic c => cases x3 <;> first | exact hx3.elim | exact hq3.elim
    | outgrown => cases x3 <;> exact hx3.elim
theorem opTw_call {o : Oper} {f : Operand} {args : Array Operand} {ats : Array TypeId} {N : AV → Store → Prop} {E : AEx → AFr → Store → Prop} {fr : AFr} {L : Store} (ho : o.op = .call ⟨.value f, args, ats⟩) (hK : K ≤ L.length)
    (h : acallv P L (aval fr f) (args.toList.map (aval fr)) (callQ N E fr)) : OpTw P r K o N E fr L := by
  unfold acallv at h
  split at h
  case h_2 => rename_i p hfv; exact opTw_yield ho hK hfv h
  case h_3 => exact h.elim
  rename_i g first captured hfv
  obtain ⟨hen, h⟩ := h
  intro S a w I ρ h1 h2 h3 nx hnx
  have hf := aval_rep h2 f
  rw [hfv] at hf
  generalize hve : a.eval f = fv at hf
  cases hf with
  | func _ fs gs _ _ hl hl' hrf hrg =>
    have hargs : RepL w I ρ (fs ++ args.toList.map a.eval ++ gs) (first ++ args.toList.map (aval fr) ++ captured) := by
      refine ⟨by simp [hl, hl'], fun j v c hv hc => ?_⟩
      by_cases q1 : j < fs.length
      · rw [List.append_assoc, List.getElem?_append_left q1] at hv
        rw [List.append_assoc, List.getElem?_append_left (by omega)] at hc
        exact hrf j v c hv hc
      · rw [List.append_assoc, List.getElem?_append_right (by omega)] at hv
        rw [List.append_assoc, List.getElem?_append_right (by omega)] at hc
        rw [hl] at hv
        by_cases q2 : j - first.length < (args.toList.map a.eval).length
        · rw [List.getElem?_append_left q2] at hv
          rw [List.getElem?_append_left (by simpa using q2)] at hc
          rw [List.getElem?_map] at hv hc
          cases hx : args.toList[j - first.length]? with
          | none => rw [hx] at hv; cases hv
          | some x => rw [hx] at hv hc; cases hv; cases hc; exact aval_rep h2 x
        · rw [List.getElem?_append_right (by omega)] at hv
          rw [List.getElem?_append_right (by simp at q2 ⊢; omega)] at hc
          simp only [List.length_map] at hv hc
          exact hrg _ v c hv hc
    have hcall := h w I ρ _ h1 hargs
    have hrun : (o.semAt (Fen r).round a.eval).run P w = .ok (.enter g (fs ++ args.toList.map a.eval ++ gs).toArray) w := by
      rw [Oper.semAt_eq _ _ _ (by rw [ho]; intro c h; cases h)]
      have : fs.toArray ++ args.map a.eval ++ gs.toArray = (fs ++ args.toList.map a.eval ++ gs).toArray := by
        apply Array.ext'
        simp
      simp only [execOp, ho, resolve, Sem.run_bind, Deferred.ofValue, hve, Sem.run_pure, Result.andThen_ok, invoke, this]
      exact run_callFunc hen _ w
    refine ⟨fun f _ => fen_fn r f, ?_⟩
    rw [hrun]
    refine ⟨(fun h => by cases h), ?_⟩
    refine CallsIn.mono (R := fun e w' => ∃ x L' I' ρ', EndRel w' I' ρ' e x ∧ callQ N E fr x L' ∧ Rel w' I' ρ' L' ∧ (∀ (p b : Nat), ρ[p]? = some b → ρ'[p]? = some b) ∧ Ev L.length w I ρ L w' I' ρ' L') hcall ?_
    rintro e w' ⟨x, L', I', ρ', hx, hq, r1, hρ, ev⟩
    have hle := ev.le h1 hρ
    have ev' : Ev K w I ρ L w' I' ρ' L' := { ev with rho := fun p hp => ev.rho p (Nat.lt_of_lt_of_le hp hK) }
    cases e with
    | returned v =>
      cases x with
      | ret av => exact hnx v av L' w' I' ρ' hq r1 hx hle ev'
      | pan av => exact hx.elim
    | panicked ch =>
      cases x with
      | ret av => exact hx.elim
      | pan av => exact ⟨.pan av, fr, L', I', ρ', hx, hq, r1, h2.mono hle, h3.mono hle ev'.size, ev', rfl⟩
    | outgrown => exact hx.elim
/-- One operation, as text. -/
def rop (P : Program) (K : Nat) (o : Oper) (fr : AFr) (L : Store) (N : AV → Store → Prop) (E : AEx → AFr → Store → Prop) : Prop :=
  match o.op with
  | .box t x => abox K L (aval fr x) N
  | .alloc t => aalloc P K L t N
  | .store t ad x => astore P L t (aval fr ad) (aval fr x) N
  | .buildSlice t len parts => abuildSlice P K L t len (parts.toList.map fun p => (p.1, aval fr p.2)) N
  | .call c => match c.callee with
    | .value f => K ≤ L.length ∧ acallv P L (aval fr f) (c.args.toList.map (aval fr)) (callQ N E fr)
    | .builtin .append => match c.args.toList, c.argTypes.toList with
      | [s, x], [t, t'] => t = t' ∧ aappend P K L t (aval fr s) (aval fr x) N
      | _, _ => False
    | _ => pop P L o (aval fr) fun av => N av L
  | _ => pop P L o (aval fr) fun av => N av L
theorem pop_defer {o : Oper} {g : Operand → AV} {L : Store} {N : AV → Prop} (h : pop P L o g N) : ∀ c, o.op ≠ .defer c := by
  intro c hc
  unfold pop at h
  rw [hc] at h
  exact h
theorem rop_ok {o : Oper} {fr : AFr} {L : Store} {N : AV → Store → Prop} {E : AEx → AFr → Store → Prop} (h : rop P K o fr L N E) : OpTw P r K o N E fr L := by
  unfold rop at h
  split at h
  · rename_i t x ho; exact opTw_value (by rw [ho]; intro c h; cases h) (abox_ok ho h)
  · rename_i t ho; exact opTw_value (by rw [ho]; intro c h; cases h) (aalloc_ok ho h)
  · rename_i t ad x ho; exact opTw_value (by rw [ho]; intro c h; cases h) (astore_ok ho h)
  · rename_i t len parts ho; exact opTw_value (by rw [ho]; intro c h; cases h) (wok_buildSlice ho h)
  · rename_i c ho
    obtain ⟨callee, args, ats⟩ := c
    split at h
    · rename_i f hc
      simp only at hc
      subst hc
      exact opTw_call ho h.1 h.2
    · rename_i hc
      simp only at hc
      subst hc
      split at h
      · rename_i s x t t' hx ht
        obtain ⟨rfl, h⟩ := h
        simp only at hx ht
        have e1 : args = #[s, x] := by rw [← Array.toArray_toList (xs := args), hx]
        have e2 : ats = #[t, t] := by rw [← Array.toArray_toList (xs := ats), ht]
        subst e1 e2
        exact opTw_value (by rw [ho]; intro c h; cases h) (aappend_ok ho h)
      · exact h.elim
    · exact opTw_value (pop_defer h) (wok_pop h)
  · exact opTw_value (pop_defer h) (wok_pop h)
/-- A guard, as the frame tells it: is the operation carried out? -/
def aguard (ops : Array Oper) (o : Oper) (fr : AFr) (yes no : Prop) : Prop :=
  match o.guard with
  | none => yes
  | some (j, want) => match (ops[j]?).bind (·.dst) with
    | some d => d < fr.n ∧ match aget fr d with
      | .bool b => (b = want → yes) ∧ (b ≠ want → no)
      | .tup [] => no
      | _ => False
    | none => False
theorem aguard_ok {w : World} {I : Nat → Prop} {ρ : List Nat} {ops : Array Oper} {o : Oper} {fr : AFr} {yes no : Prop} {a : Act} (h : aguard ops o fr yes no) (hf : RepF w I ρ a.tmps fr) :
    (Region.wanted o (yielded ops a.tmps) = true ∧ yes) ∨ (Region.wanted o (yielded ops a.tmps) = false ∧ no) := by
  unfold aguard at h
  unfold Region.wanted
  split at h
  · rename_i hg
    simp only [hg]
    exact .inl ⟨trivial, h⟩
  · rename_i j want hg
    simp only [hg]
    split at h
    · rename_i d hd
      obtain ⟨hlt, h⟩ := h
      have hlt' : d < a.tmps.size := by rw [hf.1]; exact hlt
      have hr := hf.2 d
      have hy : yielded ops a.tmps j = match a.tmps.getD d undef with | .bool b => some b | _ => none := by
        unfold yielded
        simp only [hd, Option.bind_some, Array.getElem?_eq_getElem hlt', Array.getD_eq_getD_getElem?, Option.getD_some]
        split <;> simp_all
      split at h
      · rename_i b hb
        rw [hb] at hr
        rw [hy, hr.bool_inv]
        by_cases e : b = want
        · exact .inl ⟨by simp [e], h.1 e⟩
        · exact .inr ⟨by simpa using e, h.2 e⟩
      · rename_i hb
        rw [hb] at hr
        obtain ⟨vs, hvs, _⟩ := hr.tup_inv
        rw [hy, hvs]
        exact .inr ⟨by simp, h⟩
      · exact h.elim
    · exact h.elim
/-- The operations of a region, in the order of the text. -/
def rops (P : Program) (K : Nat) (ops : Array Oper) (Q : AEx → AFr → Store → Prop) : List Oper → AFr → Store → Prop
  | [], fr, L => Q .normal fr L
  | o :: rest, fr, L => aguard ops o fr (rop P K o fr L (fun av L' => rops P K ops Q rest (aputf o.dst av fr) L') Q) (rops P K ops Q rest (aputf o.dst (.tup []) fr) L)
theorem undef_rep (w : World) (I : Nat → Prop) (ρ : List Nat) : Rep w I ρ undef (.tup []) := .tup [] [] rfl (fun _ _ _ h => by simp at h)
theorem rops_ok {ops : Array Oper} {Q : AEx → AFr → Store → Prop} : ∀ (rest : List Oper) (i : Nat) (hi : ∀ j, rest[j]? = ops[i + j]?) (fr : AFr) (L : Store), rops P K ops Q rest fr L →
    ∀ (S : Nat) (a0 : Act) (w0 : World) (I0 : Nat → Prop) (ρ0 : List Nat) (L0 : Store) (a : Act) (w : World) (I : Nat → Prop) (ρ : List Nat), Rel w I ρ L → RepF w I ρ a.tmps fr → DefOk S w I a.defers → Ev K w0 I0 ρ0 L0 w I ρ L → a.tmps.size = a0.tmps.size →
      wpOpsIn (Fen r) 0 P ops (Post S K Q a0 w0 I0 ρ0 L0) ((List.range' i rest.length)) a w
  | [], i, hi, fr, L, h, S, a0, w0, I0, ρ0, L0, a, w, I, ρ, h1, h2, h3, ev, hs => ⟨.normal, fr, L, I, ρ, trivial, h, h1, h2, h3, ev, hs⟩
  | o :: rest, i, hi, fr, L, h, S, a0, w0, I0, ρ0, L0, a, w, I, ρ, h1, h2, h3, ev, hs => by
    have ho : ops[i]? = some o := by have := hi 0; simpa using this.symm
    have hi' : ∀ j, rest[j]? = ops[i + 1 + j]? := fun j => by have := hi (j + 1); rw [show i + 1 + j = i + (j + 1) from by omega]; simpa using this
    simp only [rops] at h
    rw [List.length_cons, List.range'_succ]
    simp only [wpOpsIn, ho]
    rcases aguard_ok h h2 with ⟨hw, h⟩ | ⟨hw, h⟩
    · simp only [hw, if_true]
      have hop := rop_ok (r := r) h S a w I ρ h1 h2 h3 (wpOpsIn (Fen r) 0 P ops (Post S K Q a0 w0 I0 ρ0 L0) (List.range' (i + 1) rest.length)) (fun v av L' w' I' ρ' hN r1 r2 r3 r4 => by
        obtain ⟨hp1, hp2⟩ := put_repF (h2.mono r3) r2 o.dst
        refine rops_ok rest (i + 1) hi' _ L' hN S a0 w0 I0 ρ0 L0 _ w' I' ρ' r1 hp1 ?_ (ev.trans r4) (hp2.trans hs)
        have : (a.put o.dst v).defers = a.defers := by cases o.dst <;> rfl
        rw [this]
        exact h3.mono r3 r4.size)
      refine ⟨hop.1, ?_⟩
      have hop2 := hop.2
      generalize (o.semAt (Fen r).round a.eval).run P w = res at hop2 ⊢
      cases res with
      | ok x w' =>
        cases x <;> simp only [Oper.uponIn] at hop2 ⊢ <;> first
          | exact hop2
          | exact ⟨hop2.1, hop2.2.mono fun e w'' he => by cases e <;> first | exact he | exact Post.behind ev hs he | exact he.elim (fun a1 h => h.elim fun w1 h => ⟨a1, w1, Post.behind ev hs h⟩)⟩
      | halt x w' => cases x <;> simp only [Oper.uponIn] at hop2 ⊢ <;> first | exact Post.behind ev hs hop2 | exact hop2
    · simp only [hw, Bool.false_eq_true, if_false]
      refine ⟨fun f _ => fen_fn r f, ?_⟩
      obtain ⟨hp1, hp2⟩ := put_repF h2 (undef_rep w I ρ) o.dst
      refine rops_ok rest (i + 1) hi' _ L h S a0 w0 I0 ρ0 L0 _ w I ρ h1 hp1 ?_ ev (hp2.trans hs)
      have : (a.put o.dst undef).defers = a.defers := by cases o.dst <;> rfl
      rw [this]
      exact h3
theorem Tw.region {id : Nat} {ops : Array Oper} {Q : AEx → AFr → Store → Prop} {fr : AFr} {L : Store} (h : rops P K ops Q ops.toList fr L) : Tw P r K (.region id ops false) Q fr L := fun S a w I ρ h1 h2 h3 => by
  refine wpIn_region ?_
  have := rops_ok (r := r) ops.toList 0 (fun j => by simp) fr L h S a w I ρ L a w I ρ h1 h2 h3 (.refl ..) rfl
  simpa [List.range_eq_range'] using this
end
end Go.Proofs.Ytpjibokaeefhiaa.Tw
