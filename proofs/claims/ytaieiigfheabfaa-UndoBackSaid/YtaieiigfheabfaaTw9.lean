import Derived.Test.YtaieiigfheabfaaTw8
import Derived.RecoverIn
/-! Functions with a deferred call, which may recover. -/
namespace Go.Proofs.Ytaieiigfheabfaa.Tw
open Go.RowKit
set_option linter.unusedVariables false
set_option linter.unusedSimpArgs false
/-- A deferred call of a closure. -/
def RepDef (w : World) (I : Nat → Prop) (ρ : List Nat) (d : Deferred) (g : FuncId) (avs : List AV) : Prop :=
  ∃ fs gs : List Value, d = { target := .fn (.func g) gs.toArray, args := fs.toArray } ∧ RepL w I ρ (fs ++ gs) avs
theorem RepDef.mono {w w' : World} {I I' : Nat → Prop} {ρ ρ' : List Nat} (L : Le w I ρ w' I' ρ') {d : Deferred} {g : FuncId} {avs : List AV} (h : RepDef w I ρ d g avs) : RepDef w' I' ρ' d g avs :=
  let ⟨fs, gs, e, h1, h2⟩ := h
  ⟨fs, gs, e, h1, fun j v c hv hc => (h2 j v c hv hc).mono L⟩
/-- Marks that lie there, shut by no one. -/
def Marks (n : Nat) (w : World) (I : Nat → Prop) (Ds : List Nat) : Prop := Ds.Nodup ∧ ∀ D ∈ Ds, n ≤ D ∧ I D ∧ w.heap[D]? = some (.deferred (some []))
theorem Marks.mono {n : Nat} {w w' : World} {I I' : Nat → Prop} {ρ ρ' : List Nat} (L : Le w I ρ w' I' ρ') {Ds : List Nat} (h : Marks n w I Ds) : Marks n w' I' Ds :=
  ⟨h.1, fun D hD => ⟨(h.2 D hD).1, L.imm D (h.2 D hD).2.1, (L.cell D (h.2 D hD).2.1).trans (h.2 D hD).2.2⟩⟩
def DefD (n : Nat) (w : World) (I : Nat → Prop) (ρ : List Nat) (ds : List Deferred) : Option (FuncId × List AV) → Prop
  | none => DefOk ⟨n, []⟩ w I ds
  | some (g, avs) => ∃ (m : Nat) (d : Deferred) (Os : List Nat), n ≤ m ∧ DefOk ⟨m, d :: Os.map markOf⟩ w I ds ∧ Marks n w I Os ∧ (∀ D ∈ Os, D < m) ∧ RepDef w I ρ d g avs
def PostD (n K : Nat) (Q : AEx → AFr → Store → Option (FuncId × List AV) → Prop) (a : Act) (w : World) (I : Nat → Prop) (ρ : List Nat) (L : Store) (e : Exit) (a' : Act) (w' : World) : Prop :=
  ∃ x fr' L' I' ρ' pd, ExRel w' I' ρ' e x ∧ Q x fr' L' pd ∧ Rel w' I' ρ' L' ∧ RepF w' I' ρ' a'.tmps fr' ∧ DefD n w' I' ρ' a'.defers pd ∧ Ev K w I ρ L w' I' ρ' L' ∧ a'.tmps.size = a.tmps.size
theorem PostD.behind {n K : Nat} {Q : AEx → AFr → Store → Option (FuncId × List AV) → Prop} {a a1 : Act} {w w1 : World} {I I1 : Nat → Prop} {ρ ρ1 : List Nat} {L L1 : Store} (ev : Ev K w I ρ L w1 I1 ρ1 L1) (hs : a1.tmps.size = a.tmps.size) {e : Exit} {a' : Act} {w' : World} (h : PostD n K Q a1 w1 I1 ρ1 L1 e a' w') : PostD n K Q a w I ρ L e a' w' :=
  let ⟨x, fr', L', I', ρ', pd, hx, q, r1, r2, r3, ev2, hs2⟩ := h
  ⟨x, fr', L', I', ρ', pd, hx, q, r1, r2, r3, ev.trans ev2, hs2.trans hs⟩
/-- A walk that may defer one call. -/
def TwD (P : Program) (K : Nat) (c : Code) (Q : AEx → AFr → Store → Option (FuncId × List AV) → Prop) (fr : AFr) (L : Store) : Prop :=
  ∀ (n : Nat) (a : Act) (w : World) (I : Nat → Prop) (ρ : List Nat), Rel w I ρ L → RepF w I ρ a.tmps fr → DefOk ⟨n, []⟩ w I a.defers → c.wpIn (Fen none) 0 P (PostD n K Q a w I ρ L) a w
section
variable {P : Program} {K : Nat} {Q : AEx → AFr → Store → Option (FuncId × List AV) → Prop} {fr : AFr} {L : Store}
theorem TwD.of_tw {c : Code} (h : Tw P none K c (fun e fr L => Q e fr L none) fr L) : TwD P K c Q fr L := fun n a w I ρ h1 h2 h3 =>
  wpIn_mono (h ⟨n, []⟩ a w I ρ h1 h2 h3) fun e a' w' ⟨x, fr', L', I', ρ', hx, q, r1, r2, r3, ev, hs⟩ => ⟨x, fr', L', I', ρ', none, hx, q, r1, r2, r3, ev, hs⟩
theorem TwD.seq {x y : Code} (h : Tw P none K x (thenQ (fun fr L => TwD P K y Q fr L) (fun e fr L => Q e fr L none)) fr L) : TwD P K (.seq x y) Q fr L := fun n a w I ρ h1 h2 h3 => by
  refine wpIn_seq (wpIn_mono (h ⟨n, []⟩ a w I ρ h1 h2 h3) fun e a' w' hp => ?_)
  obtain ⟨x, fr', L', I', ρ', hx, q, r1, r2, r3, ev, hs⟩ := hp
  cases e with
  | normal => cases x <;> first | exact hx.elim | exact wpIn_mono (q n _ _ _ _ r1 r2 r3) fun _ _ _ => PostD.behind ev hs
  | exit id => cases x <;> first | exact hx.elim | exact ⟨_, fr', L', I', ρ', none, hx, q, r1, r2, r3, ev, hs⟩
  | goto id => cases x <;> first | exact hx.elim | exact ⟨_, fr', L', I', ρ', none, hx, q, r1, r2, r3, ev, hs⟩
  | ret => cases x <;> first | exact hx.elim | exact ⟨_, fr', L', I', ρ', none, hx, q, r1, r2, r3, ev, hs⟩
  | panic c => cases x <;> first | exact hx.elim | exact ⟨_, fr', L', I', ρ', none, hx, q, r1, r2, r3, ev, hs⟩
  | outgrown => cases x <;> exact hx.elim
/-- The operations of a region whose last one defers a call. -/
def eropsD (A : Ar) (T : TyOps) (P : Program) (K : Nat) (N : FuncId → List AV → AFr → Store → Prop) : List Oper → AFr → Store → Prop
  | [], fr, L => False
  | o :: rest, fr, L => match o.guard with
    | some _ => False
    | none => match rest with
      | [] => match o.op with
        | .defer c => match c.callee with
          | .value f => match aval fr f with
            | .func (.func g) fst cap => N g (fst ++ (c.args.toList.map (aval fr) ++ cap)) (aputf o.dst (.tup []) fr) L
            | _ => False
          | _ => False
        | _ => False
      | o2 :: rest2 => erop A T P K o.op fr L (fun av L' => eropsD A T P K N (o2 :: rest2) (aputf o.dst av fr) L') fun _ _ _ => False
/-- What a region that ends by a deferred call leaves. -/
def PostR (n K : Nat) (N : FuncId → List AV → AFr → Store → Prop) (a0 : Act) (w0 : World) (I0 : Nat → Prop) (ρ0 : List Nat) (L0 : Store) (e : Exit) (a : Act) (w : World) : Prop :=
  e = .normal ∧ ∃ g avs fr L I ρ d ads, N g avs fr L ∧ Rel w I ρ L ∧ RepF w I ρ a.tmps fr ∧ a.defers = d :: ads ∧ DefOk ⟨n, []⟩ w I ads ∧ RepDef w I ρ d g avs ∧ Ev K w0 I0 ρ0 L0 w I ρ L ∧ a.tmps.size = a0.tmps.size
theorem eropsD_ok {A : Ar} {ops : Array Oper} {N : FuncId → List AV → AFr → Store → Prop} : ∀ (rest : List Oper) (fr : AFr) (L : Store), eropsD A (tyOf P) P K N rest fr L →
    ∀ (i : Nat) (hi : ∀ j, rest[j]? = ops[i + j]?) (n : Nat) (a0 : Act) (w0 : World) (I0 : Nat → Prop) (ρ0 : List Nat) (L0 : Store) (a : Act) (w : World) (I : Nat → Prop) (ρ : List Nat), Rel w I ρ L → RepF w I ρ a.tmps fr → DefOk ⟨n, []⟩ w I a.defers → Ev K w0 I0 ρ0 L0 w I ρ L → a.tmps.size = a0.tmps.size →
      wpOpsIn (Fen none) 0 P ops (PostR n K N a0 w0 I0 ρ0 L0) ((List.range' i rest.length)) a w
  | [], fr, L, h, i, hi, n, a0, w0, I0, ρ0, L0, a, w, I, ρ, h1, h2, h3, ev, hs => h.elim
  | o :: rest, fr, L, h, i, hi, n, a0, w0, I0, ρ0, L0, a, w, I, ρ, h1, h2, h3, ev, hs => by
    have ho : ops[i]? = some o := by have := hi 0; simpa using this.symm
    have hi' : ∀ j, rest[j]? = ops[i + 1 + j]? := fun j => by have := hi (j + 1); rw [show i + 1 + j = i + (j + 1) from by omega]; simpa using this
    rw [List.length_cons, List.range'_succ]
    simp only [wpOpsIn, ho]
    unfold eropsD at h
    split at h
    · exact h.elim
    rename_i hg
    have hw : Region.wanted o (yielded ops a.tmps) = true := by unfold Region.wanted; simp [hg]
    simp only [hw, if_true]
    cases rest with
    | nil =>
      dsimp only at h
      split at h
      case h_2 => exact h.elim
      rename_i c hc
      split at h
      case h_2 => exact h.elim
      rename_i f hf
      split at h
      case h_2 => exact h.elim
      rename_i g fst cap hfv
      obtain ⟨callee, args, ats⟩ := c
      dsimp only at hf h
      subst hf
      have hv := aval_rep h2 f
      rw [hfv] at hv
      generalize hve : a.eval f = v at hv
      cases hv with
      | func _ fs gs _ _ hl hl' hr hr' =>
        refine ⟨fun f _ => fen_fn none f, ?_⟩
        have hrun : (o.semAt (Fen none).round a.eval).run P w = .ok (.defer { target := .fn (.func g) gs.toArray, args := fs.toArray ++ args.map a.eval }) w := by
          show (o.semAt none a.eval).run P w = _
          rw [Oper.semAt_none]
          simp [execOp, hc, resolve, hve, Deferred.ofValue]
        rw [hrun]
        simp only [Oper.uponIn_defer]
        obtain ⟨hp1, hp2⟩ := put_repF (a := { a with defers := { target := .fn (.func g) gs.toArray, args := fs.toArray ++ args.map a.eval } :: a.defers }) h2 (undef_rep w I ρ) o.dst
        refine ⟨rfl, g, _, _, L, I, ρ, { target := .fn (.func g) gs.toArray, args := fs.toArray ++ args.map a.eval }, a.defers, h, h1, hp1, by cases o.dst <;> rfl, h3, ⟨fs ++ args.toList.map a.eval, gs, by simp, ?_⟩, ev, hp2.trans hs⟩
        refine ⟨by simp [hl, hl'], fun j v c hv hc => ?_⟩
        have hargs : ∀ (j : Nat) (v : Value) (c : AV), (args.toList.map a.eval)[j]? = some v → (args.toList.map (aval fr))[j]? = some c → Rep w I ρ v c := fun j v c hv hc => by
          rw [List.getElem?_map] at hv hc
          cases hx : args.toList[j]? with
          | none => rw [hx] at hv; cases hv
          | some x => rw [hx] at hv hc; cases hv; cases hc; exact aval_rep h2 x
        rw [List.append_assoc] at hv
        rcases Nat.lt_or_ge j fs.length with q | q
        · rw [List.getElem?_append_left q] at hv
          rw [List.getElem?_append_left (by omega)] at hc
          exact hr j v c hv hc
        · rw [List.getElem?_append_right q] at hv
          rw [List.getElem?_append_right (by omega), ← hl] at hc
          rcases Nat.lt_or_ge (j - fs.length) args.toList.length with q2 | q2
          · rw [List.getElem?_append_left (by simpa using q2)] at hv
            rw [List.getElem?_append_left (by simpa using q2)] at hc
            exact hargs _ v c hv hc
          · rw [List.getElem?_append_right (by simpa using q2)] at hv
            rw [List.getElem?_append_right (by simpa using q2)] at hc
            simp only [List.length_map] at hv hc
            exact hr' _ v c hv hc
    | cons o2 rest2 =>
      dsimp only at h
      have hop := rop_ok (r := none) (erop_ok h) ⟨n, []⟩ a w I ρ h1 h2 h3 (wpOpsIn (Fen none) 0 P ops (PostR n K N a0 w0 I0 ρ0 L0) (List.range' (i + 1) (o2 :: rest2).length)) (fun v av L' w' I' ρ' hN r1 r2 r3 r4 => by
        obtain ⟨hp1, hp2⟩ := put_repF (h2.mono r3) r2 o.dst
        refine eropsD_ok (o2 :: rest2) _ L' hN (i + 1) hi' n a0 w0 I0 ρ0 L0 _ w' I' ρ' r1 hp1 ?_ (ev.trans r4) (hp2.trans hs)
        have : (a.put o.dst v).defers = a.defers := by cases o.dst <;> rfl
        rw [this]
        exact h3.mono r3 r4.size)
      exact oper_swap (fun e a' w' hp => by obtain ⟨x, fr', L', I', ρ', hx, q, _⟩ := hp; exact q) hop
/-- A deferred call's region, and what follows. -/
theorem TwD.defer {A : Ar} {id : Nat} {ops : Array Oper} {y : Code} {N : FuncId → List AV → AFr → Store → Prop}
    (h : eropsD A (tyOf P) P K N ops.toList fr L) (hNN : ∀ g avs fr' L', N g avs fr' L' → K ≤ L'.length ∧ Tw P none L'.length y (fun e fr2 L2 => Q e fr2 L2 (some (g, avs))) fr' L') : TwD P K (.seq (.region id ops false) y) Q fr L := fun n a w I ρ h1 h2 h3 => by
  have hreg := eropsD_ok (ops := ops) ops.toList fr L h 0 (fun j => by simp) n a w I ρ L a w I ρ h1 h2 h3 (.refl ..) rfl
  refine wpIn_seq (wpIn_mono (wpIn_region (by simpa [List.range_eq_range'] using hreg)) fun e a1 w1 hp => ?_)
  obtain ⟨rfl, g, avs, fr1, L1, I1, ρ1, d, ads, hN0, r1, r2, hd, hads, hrep, ev, hs⟩ := hp
  obtain ⟨hK1, hN⟩ := hNN _ _ _ _ hN0
  obtain ⟨hn, Os, hOs, hnd, hDs⟩ := hads
  replace hOs : ads = Os.map markOf := hOs.trans (List.append_nil _)
  have hb : DefOk ⟨w1.heap.size, a1.defers⟩ w1 I1 a1.defers := DefOk.base (S := ⟨w1.heap.size, a1.defers⟩) (Nat.le_refl _)
  refine wpIn_mono (hN ⟨w1.heap.size, a1.defers⟩ a1 w1 I1 ρ1 r1 r2 hb) fun e a2 w2 ⟨x, fr2, L2, I2, ρ2, hx, q, s1, s2, s3, ev2, hs2⟩ => ?_
  have hle : Le w1 I1 ρ1 w2 I2 ρ2 := ev2.le r1 fun p b hp => by
    have hlt : p < L1.length := by rw [← r1.len]; exact (List.getElem?_eq_some_iff.1 hp).1
    rw [ev2.rho p hlt]; exact hp
  refine ⟨x, fr2, L2, I2, ρ2, some (g, avs), hx, q, s1, s2, ⟨w1.heap.size, d, Os, hn, ?_, Marks.mono hle ⟨hnd, hDs⟩, fun D hD => r1.imm D (hDs D hD).2.1, hrep.mono hle⟩, ev.trans { ev2 with rho := fun p hp => ev2.rho p (Nat.lt_of_lt_of_le hp hK1) }, hs2.trans hs⟩
  rw [hd, hOs] at s3
  exact s3
/-- A deferred call, run when its function ends: by a panic (pn) or not; afterwards the function goes on to hand back. -/
def TCD (P : Program) (g : FuncId) (args : List AV) (L : Store) (pn : Option AV) (R : Store → Prop) : Prop :=
  ∀ (w : World) (I : Nat → Prop) (ρ : List Nat) (vs : List Value) (u : FrameMode), Rel w I ρ L → RepL w I ρ vs args →
    (match pn with
      | none => u = .returning
      | some av => ∃ v, u = .panicking [{ v, recovered := false }] ∧ Rep w I ρ v av) →
    CallsDIn (Fen none) 0 P g vs.toArray u w fun e u' w' => (∃ v, e = .returned v) ∧ settle u' = .returning ∧ ∃ L' I' ρ', R L' ∧ Rel w' I' ρ' L' ∧ (∀ (p b : Nat), ρ[p]? = some b → ρ'[p]? = some b) ∧ Ev L.length w I ρ L w' I' ρ' L'
theorem leaves_marksT {fn : Func} {tmps : Array Value} {R : Ending → World → Prop} {u : FrameMode} (hu : u ≠ .run) (tail : List Deferred) : ∀ (Ds : List Nat) (w : World), Ds.Nodup → (∀ D ∈ Ds, w.heap[D]? = some (.deferred (some []))) →
    LeavesInM (Fen none) 0 P fn tmps R tail u (shutAll Ds w) → LeavesInM (Fen none) 0 P fn tmps R (Ds.map markOf ++ tail) u w
  | [], w, _, _, h => h
  | D :: Ds, w, hn, hm, h => by
    have hn' := List.nodup_cons.1 hn
    exact ⟨hu, .inl ⟨D, _, rfl, run_takeDeferred (hm D (by simp)), leaves_marksT hu tail Ds _ hn'.2 (fun E hE => by
      rw [World.putObj_heap_other (fun e : E = D => hn'.1 (e ▸ hE))]; exact hm E (List.mem_cons_of_mem _ hE)) h⟩⟩
/-- How a function ends that may have deferred a call. -/
def bodyQD (P : Program) (fn : Func) (K : Nat) (R : AEnd → Store → Prop) (x : AEx) (fr : AFr) (L : Store) (pd : Option (FuncId × List AV)) : Prop :=
  match pd with
  | none => bodyQ P fn K R x fr L
  | some (g, avs) => Ent P g ∧ match x with
    | .normal => TCD P g avs L none fun L2 => ares P fr L2 fn.results.toList fun vs => ∃ v' L'', VSV K (aone vs) L2 v' L'' ∧ R (.ret v') L''
    | .ret => TCD P g avs L none fun L2 => ares P fr L2 fn.results.toList fun vs => ∃ v' L'', VSV K (aone vs) L2 v' L'' ∧ R (.ret v') L''
    | .pan v => TCD P g avs L (some v) fun L2 => ares P fr L2 fn.results.toList fun vs => ∃ v' L'', VSV K (aone vs) L2 v' L'' ∧ R (.ret v') L''
    | _ => False
theorem Marks.shut {n : Nat} {w : World} {I : Nat → Prop} {L : Store} {ρ : List Nat} {Ds Os : List Nat} (h : Marks n w I Os) (hd : ∀ D ∈ Os, D ∉ Ds) (shk : ∀ b, b ∉ Ds → (shutAll Ds w).heap[b]? = w.heap[b]?) : Marks n (shutAll Ds w) I Os :=
  ⟨h.1, fun D hD => ⟨(h.2 D hD).1, (h.2 D hD).2.1, (shk D (hd D hD)).trans (h.2 D hD).2.2⟩⟩
theorem ev_shut {K : Nat} {w w' : World} {I I' : Nat → Prop} {ρ ρ' : List Nat} {L L' : Store} {Ds : List Nat} (ev : Ev K w I ρ L w' I' ρ' L') (hnd : Ds.Nodup) (hDs : ∀ D ∈ Ds, w.heap.size ≤ D ∧ w'.heap[D]? = some (.deferred (some []))) : Ev K w I ρ L (shutAll Ds w') I' ρ' L' := by
  obtain ⟨sh, shk⟩ := shutAll_spec Ds w' hnd (fun D hD => (hDs D hD).2)
  exact ⟨sh.os.trans ev.os, sh.tape.trans ev.tape, sh.output.trans ev.output, by rw [sh.size]; exact ev.size,
     fun b hb hnb => (shk b (fun hD => by have := (hDs b hD).1; omega)).trans (ev.keep b hb hnb), ev.imm, ev.imm', ev.own,
     fun b C t h => let ⟨C1, q1, q2⟩ := ev.cells b C t h; ⟨C1, sh.keep b _ q1 (by simp), q2⟩, ev.rho⟩
/-- A function's contract from its body, deferred call and all. -/
theorem TCall.of_twd {f : FuncId} {fn : Func} {c : Code} {args : List AV} {R : AEnd → Store → Prop} (hf : P.funcs[f]? = some fn) (hb : fn.body = some c) (hn : args.length ≤ fn.ntmps)
    (h : TwD P L.length c (bodyQD P fn L.length R) (frame0 fn.ntmps args) L) : TCall P f args L R := fun w I ρ vs h1 h2 => by
  refine callsIn_of_wp_marks hf hb trivial ?_
  refine wpIn_mono (h w.heap.size { tmps := vs.toArray ++ Array.replicate (fn.ntmps - vs.toArray.size) undef, defers := [] } w I ρ h1 (frame0_rep h2 hn) (.nil (Nat.le_refl _))) ?_
  rintro e a' w' ⟨x, fr', L', I', ρ', pd, hx, hq, r1, r2, r3, ev, hs⟩
  have wrap : ∀ {w1 : World} {I1 : Nat → Prop} {ρ1 : List Nat} {L1 : Store}, Ev L.length w I ρ L w1 I1 ρ1 L1 → ∀ (y : AEnd) (L2 : Store) (I2 : Nat → Prop) (ρ2 : List Nat) (en : Ending), EndRel w1 I2 ρ2 en y → R y L2 → Rel w1 I2 ρ2 L2 → Ev L.length w1 I1 ρ1 L1 w1 I2 ρ2 L2 →
      ∃ x L' I' ρ', EndRel w1 I' ρ' en x ∧ R x L' ∧ Rel w1 I' ρ' L' ∧ (∀ (p b : Nat), ρ[p]? = some b → ρ'[p]? = some b) ∧ Ev L.length w I ρ L w1 I' ρ' L' := by
    intro w1 I1 ρ1 L1 evS y L2 I2 ρ2 en q1 q2 q3 q4
    have ev2 := evS.trans q4
    refine ⟨y, L2, I2, ρ2, q1, q2, q3, fun p b hp => ?_, ev2⟩
    rw [ev2.rho p (by have := (List.getElem?_eq_some_iff.1 hp).1; rw [h1.len] at this; exact this)]
    exact hp
  cases pd with
  | none =>
    obtain ⟨hS, Ds, hds, hnd, hDs⟩ := r3
    replace hds : a'.defers = Ds.map markOf := hds.trans (List.append_nil _)
    obtain ⟨sh, shk⟩ := shutAll_spec Ds w' hnd (fun D hD => (hDs D hD).2.2)
    have evS := ev_shut ev hnd (fun D hD => ⟨(hDs D hD).1, (hDs D hD).2.2⟩)
    have r1S := r1.shut sh
    have r2S : RepF (shutAll Ds w') I' ρ' a'.tmps fr' := ⟨r2.1, fun t => (r2.2 t).shut sh⟩
    have done : ares P fr' L' fn.results.toList (fun vs => ∃ v' L'', VSV L.length (aone vs) L' v' L'' ∧ R (.ret v') L'') → LeavesInM (Fen none) 0 P fn a'.tmps (fun en w'' => ∃ x L' I' ρ', EndRel w'' I' ρ' en x ∧ R x L' ∧ Rel w'' I' ρ' L' ∧ (∀ (p b : Nat), ρ[p]? = some b → ρ'[p]? = some b) ∧ Ev L.length w I ρ L w'' I' ρ' L') a'.defers .returning w' := by
      intro hq
      rw [hds]
      refine leaves_marks (by simp) Ds w' hnd (fun D hD => (hDs D hD).2.2) ?_
      obtain ⟨avs, ⟨v', L2, hvs, hR⟩, hres⟩ := run_results hq
      obtain ⟨v, hv, hrep⟩ := hres (shutAll Ds w') I' ρ' a'.tmps r1S r2S
      obtain ⟨I2, ρ2, s1, s2, s3⟩ := vsv_use hvs r1S hrep
      exact ⟨v, hv, wrap evS (.ret v') L2 I2 ρ2 (.returned v) s2 hR s1 s3⟩
    cases e with
    | normal => cases x <;> first | exact hx.elim | exact done hq
    | ret => cases x <;> first | exact hx.elim | exact done hq
    | exit id => cases x <;> first | exact hx.elim | exact hq.elim
    | goto id => cases x <;> first | exact hx.elim | exact hq.elim
    | panic ch =>
      cases x with
      | pan av =>
        obtain ⟨v, rfl, hrep⟩ := hx
        obtain ⟨v', L2, hvs, hR⟩ := hq
        obtain ⟨I2, ρ2, s1, s2, s3⟩ := vsv_use hvs r1S (hrep.shut sh)
        show LeavesInM _ _ _ _ _ _ a'.defers _ _
        rw [hds]
        exact leaves_marks (by simp) Ds w' hnd (fun D hD => (hDs D hD).2.2) (wrap evS (.pan v') L2 I2 ρ2 (.panicked [{ v, recovered := false }]) ⟨v, rfl, s2⟩ hR s1 s3)
      | _ => exact hx.elim
    | outgrown => cases x <;> exact hx.elim
  | some ga =>
    obtain ⟨g, avs⟩ := ga
    obtain ⟨m, d, Os, hnm, ⟨hS, Ds, hds, hnd, hDs⟩, hOs, hOm, hrep⟩ := r3
    replace hds : a'.defers = Ds.map markOf ++ d :: Os.map markOf := hds
    obtain ⟨hen, hq⟩ := hq
    obtain ⟨sh, shk⟩ := shutAll_spec Ds w' hnd (fun D hD => (hDs D hD).2.2)
    have evS := ev_shut ev hnd (fun D hD => ⟨Nat.le_trans hnm (hDs D hD).1, (hDs D hD).2.2⟩)
    have r1S := r1.shut sh
    have r2S : RepF (shutAll Ds w') I' ρ' a'.tmps fr' := ⟨r2.1, fun t => (r2.2 t).shut sh⟩
    have hOS : Marks w.heap.size (shutAll Ds w') I' Os := hOs.shut (L := L) (ρ := ρ) (fun D hD hD2 => by have := hOm D hD; have : m ≤ D := (hDs D hD2).1; omega) shk
    obtain ⟨fs, gs, hd, hal, har⟩ := hrep
    have key : ∀ (pn : Option AV) (u : FrameMode), (match pn with
        | none => u = .returning
        | some av => ∃ v, u = .panicking [{ v, recovered := false }] ∧ Rep (shutAll Ds w') I' ρ' v av) → u ≠ .run →
        TCD P g avs L' pn (fun L2 => ares P fr' L2 fn.results.toList fun vs => ∃ v' L'', VSV L.length (aone vs) L2 v' L'' ∧ R (.ret v') L'') →
        LeavesInM (Fen none) 0 P fn a'.tmps (fun en w'' => ∃ x L' I' ρ', EndRel w'' I' ρ' en x ∧ R x L' ∧ Rel w'' I' ρ' L' ∧ (∀ (p b : Nat), ρ[p]? = some b → ρ'[p]? = some b) ∧ Ev L.length w I ρ L w'' I' ρ' L') a'.defers u w' := by
      intro pn u hu hrun ht
      rw [hds]
      refine leaves_marksT hrun _ Ds w' hnd (fun D hD => (hDs D hD).2.2) ?_
      refine ⟨hrun, .inr ⟨(fun h => by cases h), .func g, gs.toArray, g, (fs ++ gs).toArray, by rw [hd], ?_, fun f _ => trivial, ?_⟩⟩
      · rw [hd]
        simp only [invoke]
        have := run_callFunc hen.h (fs.toArray ++ gs.toArray) (shutAll Ds w')
        simpa using this
      · have := ht (shutAll Ds w') I' ρ' (fs ++ gs) u r1S ⟨hal, fun j v c hv hc => (har j v c hv hc).shut sh⟩ hu
        refine this.mono fun e u' w2 ⟨⟨v0, he⟩, hset, L2, I2, ρ2, hq2, s1, s2, ev2⟩ => ?_
        subst he
        show LeavesInM _ _ _ _ _ _ _ (settle u') w2
        rw [hset]
        have hle : Le (shutAll Ds w') I' ρ' w2 I2 ρ2 := ev2.le r1S s2
        have hO2 := Marks.mono hle hOS
        obtain ⟨sh2, shk2⟩ := shutAll_spec Os w2 hO2.1 (fun D hD => (hO2.2 D hD).2.2)
        refine leaves_marks (by simp) Os w2 hO2.1 (fun D hD => (hO2.2 D hD).2.2) ?_
        have s1S := s1.shut sh2
        have r2T : RepF (shutAll Os w2) I2 ρ2 a'.tmps fr' := ⟨r2S.1, fun t => ((r2S.2 t).mono hle).shut sh2⟩
        obtain ⟨avs2, ⟨v', L3, hvs, hR⟩, hres⟩ := run_results hq2
        obtain ⟨v, hv, hrep⟩ := hres (shutAll Os w2) I2 ρ2 a'.tmps s1S r2T
        obtain ⟨I3, ρ3, t1, t2, t3⟩ := vsv_use hvs s1S hrep
        have hKL : L.length ≤ L'.length := by
          rcases Nat.lt_or_ge L'.length L.length with hlt | hge
          · have e1 := ev.rho L'.length hlt
            rw [List.getElem?_eq_none (by rw [r1.len]; exact Nat.le_refl _)] at e1
            rw [eq_comm, List.getElem?_eq_none_iff, h1.len] at e1
            omega
          · exact hge
        have evA : Ev L.length w I ρ L (shutAll Os w2) I2 ρ2 L2 := ev_shut (evS.trans { ev2 with rho := fun p hp => ev2.rho p (Nat.lt_of_lt_of_le hp hKL) }) hO2.1 (fun D hD => ⟨(hO2.2 D hD).1, (hO2.2 D hD).2.2⟩)
        exact ⟨v, hv, wrap evA (.ret v') L3 I3 ρ3 (.returned v) t2 hR t1 t3⟩
    cases e with
    | normal => cases x <;> first | exact hx.elim | exact key none .returning rfl (by simp) hq
    | ret => cases x <;> first | exact hx.elim | exact key none .returning rfl (by simp) hq
    | exit id => cases x <;> first | exact hx.elim | exact hq.elim
    | goto id => cases x <;> first | exact hx.elim | exact hq.elim
    | panic ch =>
      cases x with
      | pan av =>
        obtain ⟨v, rfl, hrep⟩ := hx
        exact key (some av) _ ⟨v, rfl, hrep.shut sh⟩ (by simp) hq
      | _ => exact hx.elim
    | outgrown => cases x <;> exact hx.elim
/-- A frame on its way out shuts its marks. -/
theorem marks_steps : ∀ (Ds : List Nat) (w : World) (fr : Frame) (cs : List Frame), fr.mode = .returning → fr.defers = Ds.map markOf → Ds.Nodup → (∀ D ∈ Ds, w.heap[D]? = some (.deferred (some []))) → (Fen none).room (cs.length + 1 + 0) →
    StepsIn (Machine.fenced P (Fen none)) P (lone fr cs w) (lone { fr with defers := [] } cs (shutAll Ds w))
  | [], w, fr, cs, hm, hd, _, _, _ => by
    have : ({ fr with defers := [] } : Frame) = fr := by cases fr; simp at hd; subst hd; rfl
    rw [this]
    exact StepsIn.refl _
  | D :: Ds, w, fr, cs, hm, hd, hn, hD, hr => by
    have hn' := List.nodup_cons.1 hn
    have hk := run_takeDeferred (P := P) (hD D (by simp))
    have h1 := step_collected (P := P) (fr := fr) (cs := cs) (d := markOf D) (r := D) (ds := Ds.map markOf) (by rw [hm]; simp) hd rfl hk
    have i1 : (lone fr cs w).fenced P (Fen none) := fenced_out (n := 0) trivial hr (by rw [hm]; simp) hd (fun g hg => trivial)
    have h2 := marks_steps Ds (w.putObj D (.deferred none)) { fr with defers := [] ++ Ds.map markOf } cs hm rfl hn'.2 (fun E hE => by
      rw [World.putObj_heap_other (fun e : E = D => hn'.1 (e ▸ hE))]; exact hD E (List.mem_cons_of_mem _ hE)) hr
    exact .head i1 h1 h2
def postSM (P : Program) (fn : Func) (c₀ : Frame) (cs : List Frame) (R : Ending → FrameMode → World → Prop) (e : Exit) (a : Act) (cs' : List Frame) (w : World) : Prop :=
  (e = .normal ∨ e = .ret) ∧ ∃ Ds u', a.defers = Ds.map markOf ∧ Ds.Nodup ∧ (∀ D ∈ Ds, w.heap[D]? = some (.deferred (some []))) ∧ cs' = { c₀ with mode := u' } :: cs ∧ ∃ v, (results fn a.tmps).run P (shutAll Ds w) = .ok v (shutAll Ds w) ∧ R (.returned v) u' (shutAll Ds w)
theorem callsDIn_of_wpSM {f : FuncId} {fn : Func} {c : Code} {args : Array Value} {u : FrameMode} {w : World} {R : Ending → FrameMode → World → Prop}
    (hf : P.funcs[f]? = some fn) (hb : fn.body = some c)
    (h : ∀ (c₀ : Frame) (cs : List Frame), c₀.mode = u → c.wpSIn (Fen none) 0 P (postSM P fn c₀ cs R) { tmps := args ++ Array.replicate (fn.ntmps - args.size) undef, defers := [] } (c₀ :: cs) w) :
    CallsDIn (Fen none) 0 P f args u w R := by
  refine ⟨trivial, fun c₀ cs hu hroom => ?_⟩
  let b : Frame := { (default : Frame) with fn := f, kind := .deferred, roundOf := none }
  have henter : Frame.enter P f args .deferred =
      b.atR { tmps := args ++ Array.replicate (fn.ntmps - args.size) undef, defers := [] } [.code c] := by
    simp [Frame.enter, Frame.atR, hf, hb, b]
  obtain ⟨e, a', cs', w', hl, hq, harr⟩ := h c₀ cs hu b [] rfl rfl trivial hroom
  rw [← henter] at harr
  obtain ⟨he, Ds, u', hds, hnd, hD, rfl, v, hr, hR⟩ := hq
  have hroom' : (Fen none).room (({ c₀ with mode := u' } :: cs).length + 1 + 0) := hroom
  rcases he with rfl | rfl
  · have hs := marks_steps (P := P) Ds w' { b.atR a' [] with mode := .returning } ({ c₀ with mode := u' } :: cs) rfl hds hnd hD hroom'
    exact ⟨.returned v, u', shutAll Ds w', _, hR, StepsIn.trans harr (.head (fenced_calm (n := 0) (fr := b.atR a' []) trivial hroom' rfl) (stepR_end rfl) hs), rfl, rfl, rfl, rfl, fn, hf, hr⟩
  · obtain ⟨todo, hs0⟩ := harr.1 rfl
    have hs := marks_steps (P := P) Ds w' { b.atR a' todo with mode := .returning } ({ c₀ with mode := u' } :: cs) rfl hds hnd hD hroom'
    exact ⟨.returned v, u', shutAll Ds w', _, hR, StepsIn.trans hs0 hs, rfl, rfl, rfl, rfl, fn, hf, hr⟩
/-- What a deferred closure does that asks first of a panic: 'x := recover()', and what follows. -/
theorem TCD.of_tw {g : FuncId} {fn : Func} {id : Nat} {o0 o1 : Oper} {x : Operand} {ats : Array TypeId} {c : Code} {args : List AV} {pn : Option AV} {R : Store → Prop} (hf : P.funcs[g]? = some fn) (hb : fn.body = some (.seq (.region id #[o0, o1] false) c)) (hn : args.length ≤ fn.ntmps) (hres : fn.results = #[])
    (h0 : o0.op = .call { callee := .builtin .recover, args := #[], argTypes := ats }) (hg0 : o0.guard = none) (h1 : o1.op = .assign x) (hg1 : o1.guard = none)
    (h : Tw P none L.length c (fun e _ L' => (e = .normal ∨ e = .ret) ∧ R L') (aputf o1.dst (aval (aputf o0.dst (pn.getD (.raw .nilIface)) (frame0 fn.ntmps args)) x) (aputf o0.dst (pn.getD (.raw .nilIface)) (frame0 fn.ntmps args))) L) : TCD P g args L pn R := by
  intro w I ρ vs u hr1 hr2 hu
  refine callsDIn_of_wpSM hf hb fun c₀ cs hc => ?_
  have hrec : (execOp (Act.eval { tmps := vs.toArray ++ Array.replicate (fn.ntmps - vs.toArray.size) undef, defers := [] }) o0).run P w = .ok .recover w := by
    simp [execOp, h0, resolve, invoke, builtin]
  obtain ⟨v, u', hv, hset, hrd⟩ : ∃ (v : Value) (u' : FrameMode), Rep w I ρ v (pn.getD (.raw .nilIface)) ∧ settle u' = .returning ∧ (match recoverD (c₀ :: cs) with
      | some (v', cs') => v' = v ∧ cs' = { c₀ with mode := u' } :: cs
      | none => v = .nilIface ∧ u' = c₀.mode) := by
    cases pn with
    | none =>
      refine ⟨.nilIface, c₀.mode, .raw _, by rw [hc, hu]; rfl, ?_⟩
      have : recoverD (c₀ :: cs) = none := by simp [recoverD, hc, hu]
      rw [this]
      exact ⟨rfl, rfl⟩
    | some av =>
      obtain ⟨v, hu, hrep⟩ := hu
      refine ⟨v, .panicking [{ v, recovered := true }], hrep, rfl, ?_⟩
      have : recoverD (c₀ :: cs) = some (v, { c₀ with mode := .panicking [{ v, recovered := true }] } :: cs) := by simp [recoverD, hc, hu]
      rw [this]
      exact ⟨rfl, rfl⟩
  have hf0 := frame0_rep hr2 hn
  obtain ⟨hp1, hp2⟩ := put_repF (a := { tmps := vs.toArray ++ Array.replicate (fn.ntmps - vs.toArray.size) undef, defers := [] }) hf0 hv o0.dst
  obtain ⟨hq1, hq2⟩ := put_repF (a := Act.put { tmps := vs.toArray ++ Array.replicate (fn.ntmps - vs.toArray.size) undef, defers := [] } o0.dst v) hp1 (aval_rep hp1 x) o1.dst
  have hdef : ∀ (a : Act) (d : Option Tmp) (v : Value), (a.put d v).defers = a.defers := fun a d v => by cases d <;> rfl
  -- the rest, behind the region
  have hrest : ∀ (cs' : List Frame), cs' = { c₀ with mode := u' } :: cs →
      c.wpSIn (Fen none) 0 P (postSM P fn c₀ cs fun e u' w' => (∃ v, e = .returned v) ∧ settle u' = .returning ∧ ∃ L' I' ρ', R L' ∧ Rel w' I' ρ' L' ∧ (∀ (p b : Nat), ρ[p]? = some b → ρ'[p]? = some b) ∧ Ev L.length w I ρ L w' I' ρ' L')
        (Act.put (Act.put { tmps := vs.toArray ++ Array.replicate (fn.ntmps - vs.toArray.size) undef, defers := [] } o0.dst v) o1.dst ((Act.put { tmps := vs.toArray ++ Array.replicate (fn.ntmps - vs.toArray.size) undef, defers := [] } o0.dst v).eval x)) cs' w := by
    rintro cs' rfl
    refine wpSIn_of_wpIn rfl (wpIn_mono (h ⟨w.heap.size, []⟩ _ w I ρ hr1 hq1 (by rw [hdef, hdef]; exact .nil (Nat.le_refl _))) ?_)
    rintro e a' w' ⟨xx, fr', L', I', ρ', hx, ⟨he, hR⟩, r1, r2, ⟨hS, Ds, hds, hnd, hDs⟩, ev, hs⟩
    replace hds : a'.defers = Ds.map markOf := hds.trans (List.append_nil _)
    obtain ⟨sh, shk⟩ := shutAll_spec Ds w' hnd (fun D hD => (hDs D hD).2.2)
    have evS := ev_shut ev hnd (fun D hD => ⟨(hDs D hD).1, (hDs D hD).2.2⟩)
    have r1S := r1.shut sh
    have r2S : RepF (shutAll Ds w') I' ρ' a'.tmps fr' := ⟨r2.1, fun t => (r2.2 t).shut sh⟩
    obtain ⟨_, _, hrs⟩ := run_results (P := P) (fn := fn) (fr := fr') (L := L') (K := fun _ => True) (by rw [hres]; trivial)
    obtain ⟨rv, hrv, _⟩ := hrs (shutAll Ds w') I' ρ' a'.tmps r1S r2S
    refine ⟨?_, Ds, u', hds, hnd, fun D hD => (hDs D hD).2.2, rfl, rv, hrv, ⟨rv, rfl⟩, hset, L', I', ρ', hR, r1S, fun p b hp => ?_, evS⟩
    · rcases he with rfl | rfl
      · cases e <;> first | exact hx.elim | exact .inl rfl
      · cases e <;> first | exact hx.elim | exact .inr rfl
    · rw [evS.rho p (by have := (List.getElem?_eq_some_iff.1 hp).1; rw [hr1.len] at this; exact this)]
      exact hp
  refine wpSIn_seq (wpSIn_region ?_)
  show wpOpsSIn (Fen none) 0 P #[o0, o1] _ [0, 1] _ _ _
  have hw0 : ∀ (t : Array Value), Region.wanted o0 (yielded #[o0, o1] t) = true := fun t => by unfold Region.wanted; simp [hg0]
  have hw1 : ∀ (t : Array Value), Region.wanted o1 (yielded #[o0, o1] t) = true := fun t => by unfold Region.wanted; simp [hg1]
  have e0 : (#[o0, o1] : Array Oper)[0]? = some o0 := rfl
  have e1 : (#[o0, o1] : Array Oper)[1]? = some o1 := rfl
  rw [wpOpsSIn]
  simp only [e0]
  refine ⟨fun _ _ => trivial, ?_⟩
  rw [if_pos (hw0 _), hrec]
  dsimp only
  have fin : ∀ cs', cs' = { c₀ with mode := u' } :: cs → wpOpsSIn (Fen none) 0 P #[o0, o1] (Exit.thenS (c.wpSIn (Fen none) 0 P (postSM P fn c₀ cs fun e u' w' => (∃ v, e = .returned v) ∧ settle u' = .returning ∧ ∃ L' I' ρ', R L' ∧ Rel w' I' ρ' L' ∧ (∀ (p b : Nat), ρ[p]? = some b → ρ'[p]? = some b) ∧ Ev L.length w I ρ L w' I' ρ' L')) (postSM P fn c₀ cs fun e u' w' => (∃ v, e = .returned v) ∧ settle u' = .returning ∧ ∃ L' I' ρ', R L' ∧ Rel w' I' ρ' L' ∧ (∀ (p b : Nat), ρ[p]? = some b → ρ'[p]? = some b) ∧ Ev L.length w I ρ L w' I' ρ' L')) [1] (Act.put { tmps := vs.toArray ++ Array.replicate (fn.ntmps - vs.toArray.size) undef, defers := [] } o0.dst v) cs' w := by
    intro cs' hcs
    simp only [wpOpsSIn, e1]
    refine ⟨fun _ _ => trivial, ?_⟩
    rw [if_pos (hw1 _)]
    have : (execOp (Act.put { tmps := vs.toArray ++ Array.replicate (fn.ntmps - vs.toArray.size) undef, defers := [] } o0.dst v).eval o1).run P w = .ok (.value ((Act.put { tmps := vs.toArray ++ Array.replicate (fn.ntmps - vs.toArray.size) undef, defers := [] } o0.dst v).eval x)) w := by
      simp [execOp, h1]
    rw [this]
    exact hrest cs' hcs
  cases hrd2 : recoverD (c₀ :: cs) with
  | none =>
    rw [hrd2] at hrd
    obtain ⟨hv2, hu2⟩ := hrd
    dsimp only
    rw [← hv2]
    exact fin (c₀ :: cs) (by rw [hu2])
  | some p =>
    obtain ⟨v', cs'⟩ := p
    rw [hrd2] at hrd
    obtain ⟨hv2, hcs⟩ := hrd
    dsimp only
    rw [hv2]
    exact fin _ hcs
/-- A call's one end, by a panic too. -/
def TCX (P : Program) (f : FuncId) (args : List AV) (L : Store) (x : AEnd) (L' : Store) : Prop := TC P f args L fun y M => y = x ∧ M = L'
def AEnd.val : AEnd → AV
  | .ret v => v
  | .pan v => v
def AEnd.put : AEnd → AV → AEnd
  | .ret _, v => .ret v
  | .pan _, v => .pan v
theorem TCX.call {f : FuncId} {args args' : List AV} {Ls Ls' : Store} {x : AEnd} {R : AEnd → Store → Prop} (π : List Nat) (h : TCX P f args Ls x Ls')
    (he : chk (okπ 0 L.length π) (eobjs false false π L π Ls (ems false false π L args args' (chk (Nat.ble π.length Ls'.length) (ern (newsE L π Ls'.length) x.val fun v' => ernS (newsE L π Ls'.length) Ls' fun M => R (x.put v') (mergeP L π M)))))) : TC P f args' L R := by
  obtain ⟨hk, he⟩ := chk_iff.1 he
  simp only [okπ, Bool.and_eq_true] at hk
  obtain ⟨⟨_, hk2⟩, hk3⟩ := hk
  obtain ⟨e1, _, e3⟩ := eobjs_ok (ctx0 false L π) _ _ _ he
  obtain ⟨a1, _, hR⟩ := ems_ok (ctx0 false L π) _ _ _ e3
  have mk : ∀ (w : World) (I : Nat → Prop) (ρ ρs : List Nat), Rel w I ρ L → (∀ (i p : Nat), π[i]? = some p → ∃ b, ρs[i]? = some b ∧ ρ[p]? = some b) → Ctx false w I ρ L I ρs π := fun w I ρ ρs h1 hs =>
    ⟨fun p o b ho hb => (h1.own p o b ho hb).2.2, fun _ h => h, fun i p b hp hb => by
      obtain ⟨b', q1, q2⟩ := hs i p hp
      rw [hb] at q2
      cases q2
      exact q1, fun h => by cases h⟩
  refine ⟨TCall.frameG π h.h (nodupB_ok hk3) e1 (fun i p hp => ⟨allLt_ok hk2 p (List.mem_of_getElem? hp), fun o ho => ?_⟩) a1 (fun j a a' ha ha' w I ρ ρs h1 hs v hv => ?_) (fun y L' hle hx => ?_)⟩
  · obtain ⟨o1, ho1, _⟩ := (eobjs_ok (ctx0 false L π) _ _ _ he).2.1 i p o hp ho
    refine ⟨o1, ho1, fun w I ρ ρs b h1 hs hb => ?_⟩
    obtain ⟨o2, ho2, hr⟩ := (eobjs_ok (mk w I ρ ρs h1 hs) _ _ _ he).2.1 i p o hp ho
    rw [ho1] at ho2
    cases ho2
    exact hr b hb
  · exact (ems_ok (mk w I ρ ρs h1 hs) _ _ _ e3).2.1 j a a' ha ha' v hv
  · obtain ⟨rfl, rfl⟩ := hx
    have h1 := (chk_iff.1 hR).2
    have h2 := ernS_ok _ _ _ (ern_ok _ _ _ h1)
    have hn : newsE L π L'.length = news L π L' := by unfold newsE news; rw [upN_eq]
    rw [hn] at h2
    rw [mergeP_eq]
    cases y <;> exact h2
def ebodyX (T : TyOps) (rs : List ResultVar) (K : Nat) (x : AEnd) (M : Store) : AEx → AFr → Store → Prop
  | .normal, fr, L => match x with
    | .ret v => eres T fr L rs fun vs => R1 K v M (aone vs) L
    | .pan _ => False
  | .ret, fr, L => match x with
    | .ret v => eres T fr L rs fun vs => R1 K v M (aone vs) L
    | .pan _ => False
  | .pan u, fr, L => match x with
    | .pan v => R1 K v M u L
    | .ret _ => False
  | _, _, _ => False
theorem ebodyX_ok {fn : Func} {x : AEnd} {M : Store} {K : Nat} {e : AEx} {fr : AFr} {L : Store} (h : ebodyX (tyOf P) fn.results.toList K x M e fr L) : bodyQ P fn K (fun y L' => y = x ∧ L' = M) e fr L := by
  have key : ∀ v, x = .ret v → ∀ vs, R1 K v M (aone vs) L → ∃ v' L'', VSV K (aone vs) L v' L'' ∧ AEnd.ret v' = x ∧ L'' = M := fun v hx vs ⟨h⟩ => ⟨_, _, h, hx.symm, rfl⟩
  cases e <;> try exact h.elim
  · cases x <;> first | exact eres_ok (eres_mono (key _ rfl) h) | exact h.elim
  · cases x <;> first | exact eres_ok (eres_mono (key _ rfl) h) | exact h.elim
  · cases x
    · exact h.elim
    · exact ⟨_, _, h.h, rfl, rfl⟩
theorem TCX.of (A : Ar) {f : FuncId} {fn : Func} {c : Code} {args : List AV} (x : AEnd) (M : Store) (T : TyOps) (hT : T = tyOf P) (hf : P.funcs[f]? = some fn) (hb : fn.body = some c) (n : Nat) (hnt : fn.ntmps = n) (hn : args.length ≤ n)
    (h : ewp A T P none L.length c (ebodyX T fn.results.toList L.length x M) (frame0 n args) L) : TCX P f args L x M := by
  subst hT hnt
  exact ⟨TCall.of_tw hf hb hn ((Tw.of_ewp _ _ _ _ h).mono fun e fr L' hq => ebodyX_ok hq)⟩
theorem TwD.mono {c : Code} {Q Q' : AEx → AFr → Store → Option (FuncId × List AV) → Prop} {fr : AFr} (h : TwD P K c Q fr L) (hq : ∀ e fr L pd, Q e fr L pd → Q' e fr L pd) : TwD P K c Q' fr L := fun n a w I ρ h1 h2 h3 =>
  wpIn_mono (h n a w I ρ h1 h2 h3) fun e a' w' ⟨x, fr', L', I', ρ', pd, hx, q, rest⟩ => ⟨x, fr', L', I', ρ', pd, hx, hq _ _ _ _ q, rest⟩
/-- A walk that may defer, as a thing to be shown. -/
structure EWD (A : Ar) (T : TyOps) (P : Program) (K : Nat) (c : Code) (Q : AEx → AFr → Store → Option (FuncId × List AV) → Prop) (fr : AFr) (L : Store) : Prop where
  h : T = tyOf P → TwD P K c Q fr L
theorem EWD.of {A : Ar} {T : TyOps} {c : Code} {Q : AEx → AFr → Store → Option (FuncId × List AV) → Prop} {fr : AFr} (h : ewp A T P none K c (fun e fr L => Q e fr L none) fr L) : EWD A T P K c Q fr L :=
  ⟨fun e => by subst e; exact TwD.of_tw (Tw.of_ewp _ _ _ _ h)⟩
theorem EWD.seq {A : Ar} {T : TyOps} {x y : Code} {Q : AEx → AFr → Store → Option (FuncId × List AV) → Prop} {fr : AFr} (h : ewp A T P none K x (thenQ (fun fr L => EWD A T P K y Q fr L) (fun e fr L => Q e fr L none)) fr L) : EWD A T P K (.seq x y) Q fr L :=
  ⟨fun e => by
    subst e
    refine TwD.seq ((Tw.of_ewp _ _ _ _ h).mono fun e fr L hq => ?_)
    cases e <;> first | exact hq.h rfl | exact hq⟩
theorem EWD.defer {A : Ar} {T : TyOps} {id : Nat} {ops : Array Oper} {y : Code} {Q : AEx → AFr → Store → Option (FuncId × List AV) → Prop} {fr : AFr}
    (h : eropsD A T P K (fun g avs fr' L' => chk (Nat.ble K L'.length) (ewp A T P none L'.length y (fun e fr2 L2 => Q e fr2 L2 (some (g, avs))) fr' L')) ops.toList fr L) : EWD A T P K (.seq (.region id ops false) y) Q fr L :=
  ⟨fun e => by
    subst e
    refine TwD.defer (A := A) h fun g avs fr' L' h => ?_
    obtain ⟨h2, h⟩ := chk_iff.1 h
    exact ⟨by simpa using h2, Tw.of_ewp _ _ _ _ h⟩⟩
/-- A deferred call, as a thing to be shown. -/
structure DC (P : Program) (g : FuncId) (args : List AV) (L : Store) (pn : Option AV) (R : Store → Prop) : Prop where
  h : TCD P g args L pn R
theorem DC.mono {g : FuncId} {args : List AV} {pn : Option AV} {R R' : Store → Prop} (h : DC P g args L pn R) (hr : ∀ L, R L → R' L) : DC P g args L pn R' :=
  ⟨fun w I ρ vs u h1 h2 h3 => (h.h w I ρ vs u h1 h2 h3).mono fun e u' w' ⟨a, b, L', I', ρ', q, c⟩ => ⟨a, b, L', I', ρ', hr _ q, c⟩⟩
def ebodyD (T : TyOps) (P : Program) (rs : List ResultVar) (K : Nat) (x : AEnd) (M : Store) : AEx → AFr → Store → Option (FuncId × List AV) → Prop
  | e, fr, L, none => ebodyX T rs K x M e fr L
  | .normal, fr, L, some (g, avs) => Ent P g ∧ DC P g avs L none fun L2 => ebodyX T rs K x M .ret fr L2
  | .ret, fr, L, some (g, avs) => Ent P g ∧ DC P g avs L none fun L2 => ebodyX T rs K x M .ret fr L2
  | .pan v, fr, L, some (g, avs) => Ent P g ∧ DC P g avs L (some v) fun L2 => ebodyX T rs K x M .ret fr L2
  | _, _, _, _ => False
theorem TCX.ofD (A : Ar) {f : FuncId} {fn : Func} {c : Code} {args : List AV} (x : AEnd) (M : Store) (T : TyOps) (hT : T = tyOf P) (hf : P.funcs[f]? = some fn) (hb : fn.body = some c) (n : Nat) (hnt : fn.ntmps = n) (hn : args.length ≤ n)
    (h : EWD A T P L.length c (ebodyD T P fn.results.toList L.length x M) (frame0 n args) L) : TCX P f args L x M := by
  subst hT hnt
  refine ⟨TCall.of_twd hf hb hn ((h.h rfl).mono fun e fr L' pd hq => ?_)⟩
  cases pd with
  | none =>
    have : ebodyX (tyOf P) fn.results.toList L.length x M e fr L' := by cases e <;> exact hq
    exact ebodyX_ok this
  | some ga =>
    obtain ⟨g, avs⟩ := ga
    have conv : ∀ L2, ebodyX (tyOf P) fn.results.toList L.length x M .ret fr L2 → ares P fr L2 fn.results.toList fun vs => ∃ v' L'', VSV L.length (aone vs) L2 v' L'' ∧ (AEnd.ret v' = x ∧ L'' = M) := fun L2 h => ebodyX_ok h
    cases e <;> try exact hq.elim
    · exact ⟨hq.1, (hq.2.mono conv).h⟩
    · exact ⟨hq.1, (hq.2.mono conv).h⟩
    · exact ⟨hq.1, (hq.2.mono conv).h⟩
/-- The closure's walk, reckoned out. -/
theorem DC.of (A : Ar) {g : FuncId} {fn : Func} {id : Nat} {o0 o1 : Oper} {x : Operand} {ats : Array TypeId} {c : Code} {args : List AV} {pn : Option AV} {R : Store → Prop} (T : TyOps) (hT : T = tyOf P) (hf : P.funcs[g]? = some fn) (hb : fn.body = some (.seq (.region id #[o0, o1] false) c)) (n : Nat) (hnt : fn.ntmps = n) (hn : args.length ≤ n) (hres : fn.results = #[])
    (h0 : o0.op = .call { callee := .builtin .recover, args := #[], argTypes := ats }) (hg0 : o0.guard = none) (h1 : o1.op = .assign x) (hg1 : o1.guard = none)
    (h : ewp A T P none L.length c (fun e _ L' => match e with | .normal => R L' | .ret => R L' | _ => False) (aputf o1.dst (aval (aputf o0.dst (pn.getD (.raw .nilIface)) (frame0 n args)) x) (aputf o0.dst (pn.getD (.raw .nilIface)) (frame0 n args))) L) : DC P g args L pn R := by
  subst hT hnt
  exact ⟨TCD.of_tw hf hb hn hres h0 hg0 h1 hg1 ((Tw.of_ewp _ _ _ _ h).mono fun e fr L hq => by cases e <;> first | exact ⟨.inl rfl, hq⟩ | exact ⟨.inr rfl, hq⟩ | exact hq.elim)⟩
end
end Go.Proofs.Ytaieiigfheabfaa.Tw
