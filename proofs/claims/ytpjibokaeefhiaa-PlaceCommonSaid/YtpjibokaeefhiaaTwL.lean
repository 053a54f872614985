import Derived.Test.YtpjibokaeefhiaaTwK
/-! Functions, from their bodies. -/
namespace Go.Proofs.Ytpjibokaeefhiaa.Tw
open Go.RowKit
set_option linter.unusedVariables false
set_option linter.unusedSimpArgs false
/-- What a function hands back. -/
def ares (P : Program) (fr : AFr) (L : Store) : List ResultVar → (List AV → Prop) → Prop
  | [], K => K []
  | .tmp t :: rest, K => ares P fr L rest fun vs => K (aget fr t :: vs)
  | .cell a t :: rest, K => aloadAt P L t (aget fr a) fun v => ares P fr L rest fun vs => K (v :: vs)
def aone : List AV → AV
  | [v] => v
  | vs => .tup vs
def resOf (tmps : Array Value) : ResultVar → Sem Value
  | .tmp t => pure (tmps.getD t undef)
  | .cell a t => do loadVar t (← asAddr (tmps.getD a undef))
def packRes (vs : Array Value) : Value := if h : vs.size = 1 then vs[0] else .tuple vs
theorem results_eq (fn : Func) (tmps : Array Value) : results fn tmps = (do let vs ← fn.results.mapM (resOf tmps); pure (packRes vs)) := by
  unfold results
  refine congrArg (fun g => (Array.mapM g fn.results) >>= fun vs => pure (packRes vs)) ?_
  funext x
  cases x <;> rfl
theorem ares_ok {P : Program} {fr : AFr} {L : Store} : ∀ (rs : List ResultVar) (K : List AV → Prop), ares P fr L rs K → ∃ avs, K avs ∧ ∀ (w : World) (I : Nat → Prop) (ρ : List Nat) (tmps : Array Value), Rel w I ρ L → RepF w I ρ tmps fr →
    ∃ vs : List Value, (rs.mapM (resOf tmps)).run P w = .ok vs w ∧ RepL w I ρ vs avs
  | [], K, h => ⟨[], h, fun w I ρ tmps _ _ => ⟨[], by rw [List.mapM_nil]; rfl, rfl, fun _ _ _ h => by simp at h⟩⟩
  | .tmp t :: rest, K, h => by
    obtain ⟨avs, hK, hr⟩ := ares_ok rest _ h
    refine ⟨_, hK, fun w I ρ tmps h1 h2 => ?_⟩
    obtain ⟨vs, hv, hl, hrep⟩ := hr w I ρ tmps h1 h2
    refine ⟨tmps.getD t undef :: vs, ?_, by simp [hl], fun j v c hv' hc => ?_⟩
    · rw [List.mapM_cons]
      simp only [resOf, Sem.run_bind, Sem.run_pure, Result.andThen_ok]
      rw [hv]
      rfl
    · cases j with
      | zero => simp only [List.getElem?_cons_zero, Option.some.injEq] at hv' hc; subst hv' hc; exact h2.2 t
      | succ j => exact hrep j v c (by simpa using hv') (by simpa using hc)
  | .cell a t :: rest, K, h => by
    obtain ⟨av, hK1, hl1⟩ := aloadAt_ok h
    obtain ⟨avs, hK, hr⟩ := ares_ok rest _ hK1
    refine ⟨_, hK, fun w I ρ tmps h1 h2 => ?_⟩
    obtain ⟨vs, hv, hl, hrep⟩ := hr w I ρ tmps h1 h2
    have hra := h2.2 a
    obtain ⟨u, hu, hur⟩ := hl1 w I ρ _ h1.own hra
    refine ⟨u :: vs, ?_, by simp [hl], fun j v c hv' hc => ?_⟩
    · rw [List.mapM_cons]
      have hu' : (do loadVar t (← asAddr (tmps.getD a undef)) : Sem Value).run P w = .ok u w := by
        generalize tmps.getD a undef = p at hu ⊢
        cases p <;> first | (simp [Instr.loadAt, Instr.sureAddr] at hu; done) | skip
        rename_i ad
        cases ad with
        | none => simp [Instr.loadAt, Instr.sureAddr] at hu
        | some ad => simpa [Instr.loadAt, Instr.sureAddr, asAddr] using hu
      simp only [Sem.run_bind] at hu'
      simp only [resOf, Sem.run_bind]
      rw [hu']
      simp only [Result.andThen_ok]
      rw [hv]
      rfl
    · cases j with
      | zero => simp at hv' hc; subst hv' hc; exact hur
      | succ j => exact hrep j v c (by simpa using hv') (by simpa using hc)
theorem run_results {P : Program} {fn : Func} {fr : AFr} {L : Store} {K : List AV → Prop} (h : ares P fr L fn.results.toList K) : ∃ avs, K avs ∧ ∀ (w : World) (I : Nat → Prop) (ρ : List Nat) (tmps : Array Value), Rel w I ρ L → RepF w I ρ tmps fr →
    ∃ v, (results fn tmps).run P w = .ok v w ∧ Rep w I ρ v (aone avs) := by
  obtain ⟨avs, hK, hr⟩ := ares_ok _ _ h
  refine ⟨avs, hK, fun w I ρ tmps h1 h2 => ?_⟩
  obtain ⟨vs, hv, hl, hrep⟩ := hr w I ρ tmps h1 h2
  have hm : (fn.results.mapM (resOf tmps)).run P w = .ok vs.toArray w := by
    rw [← Array.toArray_toList (xs := fn.results), List.mapM_toArray, Sem.run_map, hv]
    rfl
  refine ⟨if h : vs.toArray.size = 1 then vs.toArray[0] else .tuple vs.toArray, ?_, ?_⟩
  · rw [results_eq, Sem.run_bind, hm]
    rfl
  · cases vs with
    | nil => cases avs with
      | nil => exact .tup [] [] rfl (fun _ _ _ h => by simp at h)
      | cons a as => simp at hl
    | cons v vs => cases avs with
      | nil => simp at hl
      | cons a as =>
        cases vs with
        | nil => cases as with
          | nil => exact hrep 0 v a rfl rfl
          | cons b bs => simp at hl
        | cons u us => cases as with
          | nil => simp at hl
          | cons b bs =>
            simp only [aone]
            rw [dif_neg (by simp)]
            exact .tup _ _ hl hrep
/-- A result, and the objects, said otherwise. -/
def VSV (K : Nat) (v : AV) (L : Store) (v' : AV) (L' : Store) : Prop := VS K ⟨1, [(0, v)]⟩ L ⟨1, [(0, v')]⟩ L'
theorem VSV.refl (K : Nat) (v : AV) (L : Store) : VSV K v L v L := VS.refl K _ L
theorem vsv_use {K : Nat} {v v' : AV} {L L' : Store} (h : VSV K v L v' L') {w : World} {I : Nat → Prop} {ρ : List Nat} {u : Value} (hr : Rel w I ρ L) (hv : Rep w I ρ u v) :
    ∃ I' ρ', Rel w I' ρ' L' ∧ Rep w I' ρ' u v' ∧ Ev K w I ρ L w I' ρ' L' := by
  obtain ⟨I', ρ', a1, a2, a3, a4, a5, a6⟩ := h w I ρ #[u] hr ⟨rfl, fun t => by
    simp only [aget, agetL]
    split
    · rename_i e; subst e; exact hv
    · exact .any _⟩
  have := a6.2 0
  exact ⟨I', ρ', a5, by simpa [aget, agetL] using this, VS.ev a1 a2 a3 a4⟩
def bodyQ (P : Program) (fn : Func) (K : Nat) (R : AEnd → Store → Prop) : AEx → AFr → Store → Prop
  | .normal, fr, L => ares P fr L fn.results.toList fun vs => ∃ v' L', VSV K (aone vs) L v' L' ∧ R (.ret v') L'
  | .ret, fr, L => ares P fr L fn.results.toList fun vs => ∃ v' L', VSV K (aone vs) L v' L' ∧ R (.ret v') L'
  | .pan v, fr, L => ∃ v' L', VSV K v L v' L' ∧ R (.pan v') L'
  | _, _, _ => False
/-- The frame in which a function begins. -/
def frame0 (n : Nat) (args : List AV) : AFr := ⟨n, (args.zipIdx).map fun x => (x.2, x.1)⟩
theorem agetL_zip : ∀ (l : List AV) (k t : Nat), agetL ((l.zipIdx k).map fun x => (x.2, x.1)) t = if t < k then .any else (l[t - k]?).getD .any
  | [], k, t => by simp [agetL]
  | a :: l, k, t => by
    rw [List.zipIdx_cons, List.map_cons, agetL, agetL_zip l (k + 1) t]
    by_cases h : t = k
    · subst h; simp
    · rw [if_neg h]
      by_cases h2 : t < k
      · rw [if_pos (by omega), if_pos h2]
      · rw [if_neg (by omega), if_neg h2, show t - k = (t - (k + 1)) + 1 from by omega]
        simp
theorem frame0_rep {w : World} {I : Nat → Prop} {ρ : List Nat} {vs : List Value} {args : List AV} {n : Nat} (h : RepL w I ρ vs args) (hn : args.length ≤ n) : RepF w I ρ (vs.toArray ++ Array.replicate (n - vs.toArray.size) undef) (frame0 n args) := by
  refine ⟨by simp [frame0, h.1]; omega, fun t => ?_⟩
  simp only [aget, frame0]
  rw [agetL_zip, if_neg (by omega), Nat.sub_zero]
  cases hc : args[t]? with
  | none => exact .any _
  | some c =>
    have hlt := (List.getElem?_eq_some_iff.1 hc).1
    have hv : vs[t]? = some (vs[t]'(by have := h.1; omega)) := List.getElem?_eq_getElem (by have := h.1; omega)
    have : (vs.toArray ++ Array.replicate (n - vs.toArray.size) undef).getD t undef = vs[t]'(by have := h.1; omega) := by
      rw [Array.getD_eq_getD_getElem?, Array.getElem?_append_left (by simp [h.1]; exact hlt)]
      simp [hv]
    rw [this]
    exact h.2 t _ c hv hc
theorem leaves_marks {P : Program} {fn : Func} {tmps : Array Value} {R : Ending → World → Prop} {u : FrameMode} (hu : u ≠ .run) : ∀ (Ds : List Nat) (w : World), Ds.Nodup → (∀ D ∈ Ds, w.heap[D]? = some (.deferred (some []))) →
    LeavesIn (Fen none) 0 P fn tmps R [] u (shutAll Ds w) → LeavesInM (Fen none) 0 P fn tmps R (Ds.map markOf) u w
  | [], w, _, _, h => h
  | D :: Ds, w, hn, hm, h => by
    have hn' := List.nodup_cons.1 hn
    exact ⟨hu, .inl ⟨D, _, rfl, run_takeDeferred (hm D (by simp)), leaves_marks hu Ds _ hn'.2 (fun E hE => by
      rw [World.putObj_heap_other (fun e : E = D => hn'.1 (e ▸ hE))]; exact hm E (List.mem_cons_of_mem _ hE)) h⟩⟩
theorem TCall.of_tw {P : Program} {f : FuncId} {fn : Func} {c : Code} {args : List AV} {L : Store} {R : AEnd → Store → Prop} (hf : P.funcs[f]? = some fn) (hb : fn.body = some c) (hn : args.length ≤ fn.ntmps)
    (h : Tw P none L.length c (bodyQ P fn L.length R) (frame0 fn.ntmps args) L) : TCall P f args L R := fun w I ρ vs h1 h2 => by
  refine callsIn_of_wp_marks hf hb trivial ?_
  refine wpIn_mono (h w.heap.size { tmps := vs.toArray ++ Array.replicate (fn.ntmps - vs.toArray.size) undef, defers := [] } w I ρ h1 (frame0_rep h2 hn) (.nil (Nat.le_refl _))) ?_
  rintro e a' w' ⟨x, fr', L', I', ρ', hx, hq, r1, r2, r3, ev, hs⟩
  obtain ⟨hS, Ds, hds, hnd, hDs⟩ := r3
  obtain ⟨sh, shk⟩ := shutAll_spec Ds w' hnd (fun D hD => (hDs D hD).2.2)
  have evS : Ev L.length w I ρ L (shutAll Ds w') I' ρ' L' :=
    ⟨sh.os.trans ev.os, sh.tape.trans ev.tape, sh.output.trans ev.output, by rw [sh.size]; exact ev.size,
     fun b hb hnb => (shk b (fun hD => by have := (hDs b hD).1; omega)).trans (ev.keep b hb hnb), ev.imm, ev.imm', ev.own,
     fun b C t h => let ⟨C1, q1, q2⟩ := ev.cells b C t h; ⟨C1, sh.keep b _ q1 (by simp), q2⟩, ev.rho⟩
  have r1S := r1.shut sh
  have r2S : RepF (shutAll Ds w') I' ρ' a'.tmps fr' := ⟨r2.1, fun t => (r2.2 t).shut sh⟩
  have fin : ∀ (y : AEnd) (L2 : Store) (I2 : Nat → Prop) (ρ2 : List Nat) (en : Ending), EndRel (shutAll Ds w') I2 ρ2 en y → R y L2 → Rel (shutAll Ds w') I2 ρ2 L2 → Ev L.length (shutAll Ds w') I' ρ' L' (shutAll Ds w') I2 ρ2 L2 → ∃ x L' I' ρ', EndRel (shutAll Ds w') I' ρ' en x ∧ R x L' ∧ Rel (shutAll Ds w') I' ρ' L' ∧ (∀ (p b : Nat), ρ[p]? = some b → ρ'[p]? = some b) ∧ Ev L.length w I ρ L (shutAll Ds w') I' ρ' L' := by
    intro y L2 I2 ρ2 en q1 q2 q3 q4
    have ev2 := evS.trans q4
    refine ⟨y, L2, I2, ρ2, q1, q2, q3, fun p b hp => ?_, ev2⟩
    rw [ev2.rho p (by have := (List.getElem?_eq_some_iff.1 hp).1; rw [h1.len] at this; exact this)]
    exact hp
  have done : ares P fr' L' fn.results.toList (fun vs => ∃ v' L'', VSV L.length (aone vs) L' v' L'' ∧ R (.ret v') L'') → LeavesInM (Fen none) 0 P fn a'.tmps (fun en w'' => ∃ x L' I' ρ', EndRel w'' I' ρ' en x ∧ R x L' ∧ Rel w'' I' ρ' L' ∧ (∀ (p b : Nat), ρ[p]? = some b → ρ'[p]? = some b) ∧ Ev L.length w I ρ L w'' I' ρ' L') a'.defers .returning w' := by
    intro hq
    rw [hds]
    refine leaves_marks (by simp) Ds w' hnd (fun D hD => (hDs D hD).2.2) ?_
    obtain ⟨avs, ⟨v', L2, hvs, hR⟩, hres⟩ := run_results hq
    obtain ⟨v, hv, hrep⟩ := hres (shutAll Ds w') I' ρ' a'.tmps r1S r2S
    obtain ⟨I2, ρ2, s1, s2, s3⟩ := vsv_use hvs r1S hrep
    exact ⟨v, hv, fin (.ret v') L2 I2 ρ2 (.returned v) s2 hR s1 s3⟩
  cases e with
  | normal => cases x <;> first | exact hx.elim | exact done hq
  | ret => cases x <;> first | exact hx.elim | exact done hq
  | exit id => cases x <;> first | exact hx.elim | exact hq.elim
  | goto id => cases x <;> first | exact hx.elim | exact hq.elim
  | panic ch =>
    cases x with
    | pan av =>
      obtain ⟨v, rfl, hrep⟩ := hx
      obtain ⟨v', L2, hvs, hR⟩ := hq
      obtain ⟨I2, ρ2, s1, s2, s3⟩ := vsv_use hvs r1S (hrep.shut sh)
      show LeavesInM _ _ _ _ _ _ a'.defers _ _
      rw [hds]
      exact leaves_marks (by simp) Ds w' hnd (fun D hD => (hDs D hD).2.2) (fin (.pan v') L2 I2 ρ2 (.panicked [{ v, recovered := false }]) ⟨v, rfl, s2⟩ hR s1 s3)
    | _ => exact hx.elim
  | outgrown => cases x <;> exact hx.elim
end Go.Proofs.Ytpjibokaeefhiaa.Tw
