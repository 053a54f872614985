import Derived.Test.YtpjibokaeefhiaaTwQ
/-! A range over a function. -/
namespace Go.Proofs.Ytpjibokaeefhiaa.Tw
open Go.RowKit
set_option linter.unusedVariables false
set_option linter.unusedSimpArgs false
/-- Behind the function that was ranged over: what the rounds have left. -/
def rangeQ (p : Nat) (fr : AFr) (Q : AEx → AFr → Store → Prop) : AEnd → Store → Prop
  | .ret _, L => match (L[p]?).join with
    | some (.loop st pend _ _ _ _ _) => match st with
      | .busy => False
      | _ => match pend with
        | none => Q .normal fr (L.set p none)
        | some .ret => Q .ret fr (L.set p none)
        | some (.exit id) => Q (.exit id) fr (L.set p none)
        | some (.goto t) => Q (.goto t) fr (L.set p none)
        | _ => False
    | _ => False
  | .pan v, L => Q (.pan v) fr L
theorem Tw.range {P : Program} {K : Nat} {g : Operand} {ps : Array Tmp} {assign body : Code} {Q : AEx → AFr → Store → Prop} {fr : AFr} {L : Store} {gf : FuncId} {first captured : List AV}
    (hg : aval fr g = .func (.func gf) first captured) (hen : enterB P gf = true) (hK : K ≤ L.length)
    (h : TCall P gf (first ++ ([.yield L.length] ++ captured)) (L ++ [some (.loop .ready none fr.n fr.l ps assign body)]) (rangeQ L.length fr Q)) : Tw P none K (.rangeFunc g ps assign body) Q fr L := by
  intro S a w I ρ h1 h2 h3
  have hv := aval_rep h2 g
  rw [hg] at hv
  generalize hve : a.eval g = gv at hv
  cases hv with
  | func _ fs gs _ _ hl hl' hrf hrg =>
    refine wpIn_rangeFunc ?_
    intro fn hfn
    let rec0 : Loop := { state := .ready, pending := none, fn, tmps := a.tmps, params := ps, assign, body, defers := w.heap.size }
    obtain ⟨k1, k2, k3⟩ := alloc_imm (K := L.length) h1 (push_alloc w (.deferred (some [])))
    have hsz : (w.alloc (.deferred (some []))).heap.size = w.heap.size + 1 := (push_alloc w (.deferred (some []))).size
    obtain ⟨m1, m2, m3⟩ := alloc_obj (K := L.length) (o := .loop .ready none fr.n fr.l ps assign body) k1 (push_alloc _ (.loop rec0)) (Nat.le_refl _) (fun hle =>
      ⟨fn, a.tmps, w.heap.size, (push_alloc _ (.loop rec0)).new, h2.1, fun t => ((h2.2 t).mono k2).mono hle⟩)
    rw [hsz] at m1 m2 m3
    have hle1 := k2.trans m2
    have ev1 := k3.trans m3
    obtain ⟨W1, hW1⟩ : ∃ W1, W1 = (w.alloc (.deferred (some []))).alloc (.loop rec0) := ⟨_, rfl⟩
    rw [← hW1] at m1 m2 m3 hle1 ev1
    have hargs : RepL W1 (fun b => I b ∨ b = w.heap.size) (ρ ++ [w.heap.size + 1]) (fs ++ ([.func (.yield (w.heap.size + 1)) #[] #[]] ++ gs)) (first ++ ([.yield L.length] ++ captured)) := by
      refine ⟨by simp [hl, hl'], fun j v c hv hc => ?_⟩
      by_cases q1 : j < fs.length
      · rw [List.getElem?_append_left q1] at hv
        rw [List.getElem?_append_left (by omega)] at hc
        exact (hrf j v c hv hc).mono hle1
      · rw [List.getElem?_append_right (by omega)] at hv
        rw [List.getElem?_append_right (by omega)] at hc
        rw [hl] at hv
        cases hj : j - first.length with
        | zero =>
          rw [hj] at hv hc
          simp at hv hc
          subst hv hc
          exact .yield _ _ (by rw [← h1.len]; simp)
        | succ i =>
          rw [hj] at hv hc
          simp at hv hc
          exact (hrg i v c hv hc).mono hle1
    refine ⟨w.heap.size + 1, [markOf w.heap.size], W1, { target := .fn (.func gf) gs.toArray, args := fs.toArray ++ #[Value.func (.yield (w.heap.size + 1)) #[] #[]] }, W1, gf, (fs ++ ([Value.func (.yield (w.heap.size + 1)) #[] #[]] ++ gs)).toArray, W1, ?_, ?_, fun _ _ => trivial, ?_, (fun h => by cases h), ?_⟩
    · rw [hW1]; exact run_enterLoop_outer _ _ _ _ _
    · simp only [resolve, hve, Deferred.ofValue, rangeCall, Sem.run_pure, Sem.run_bind, Result.andThen_ok]
      simp [Act.eval, go_sem]
    · have : fs.toArray ++ #[Value.func (.yield (w.heap.size + 1)) #[] #[]] ++ gs.toArray = (fs ++ ([Value.func (.yield (w.heap.size + 1)) #[] #[]] ++ gs)).toArray := by
        apply Array.ext'
        simp
      simp only [invoke, this]
      exact run_callFunc hen _ W1
    · refine (h W1 _ _ _ m1 hargs).mono ?_
      rintro e w3 ⟨x, L3, I3, ρ3, hx, hq, r1, hρ, ev⟩
      have ev' : Ev L.length W1 (fun b => I b ∨ b = w.heap.size) (ρ ++ [w.heap.size + 1]) (L ++ [some (.loop .ready none fr.n fr.l ps assign body)]) w3 I3 ρ3 L3 := { ev with rho := fun p hp => ev.rho p (by simp; omega) }
      have evA := ev1.trans ev'
      have hleA := hle1.trans (ev_le ev m1)
      have toK : ∀ {w' I' ρ' L'}, Ev L.length w I ρ L w' I' ρ' L' → Ev K w I ρ L w' I' ρ' L' := fun ev => { ev with rho := fun p hp => ev.rho p (Nat.lt_of_lt_of_le hp hK) }
      have hD : ∀ {w' : World} {I' : Nat → Prop} {ρ' : List Nat}, Le W1 (fun b => I b ∨ b = w.heap.size) (ρ ++ [w.heap.size + 1]) w' I' ρ' → W1.heap.size ≤ w'.heap.size → DefOk S w' I' ([markOf w.heap.size] ++ a.defers) := by
        intro w' I' ρ' hle hs
        obtain ⟨d0, Ds, d1, d2, d3⟩ := h3
        refine ⟨Nat.le_trans d0 (Nat.le_trans ev1.size hs), w.heap.size :: Ds, by rw [d1]; rfl, List.nodup_cons.2 ⟨fun hm => absurd (h1.imm _ (d3 _ hm).2.1) (Nat.lt_irrefl _), d2⟩, fun D hm => ?_⟩
        rcases List.mem_cons.1 hm with rfl | hm
        · refine ⟨d0, hle.imm _ (.inr rfl), (hle.cell _ (.inr rfl)).trans ?_⟩
          rw [hW1, (push_alloc _ (.loop rec0)).lt (by rw [hsz]; omega)]
          exact (push_alloc w _).new
        · obtain ⟨e1, e2, e3⟩ := d3 D hm
          exact ⟨e1, hle.imm _ (.inl e2), (hle.cell _ (.inl e2)).trans ((hle1.cell _ e2).trans e3)⟩
      cases e with
      | outgrown => cases x <;> exact hx.elim
      | panicked ch =>
        cases x with
        | ret _ => exact hx.elim
        | pan av =>
          exact ⟨.pan av, fr, L3, I3, ρ3, hx, hq, r1, h2.mono hleA, hD (ev_le ev m1) ev.size, toK evA, rfl⟩
      | returned v =>
        cases x with
        | pan _ => exact hx.elim
        | ret av =>
          simp only [rangeQ] at hq
          split at hq
          case h_2 => exact hq.elim
          rename_i st pend n3 l3 ps3 as3 bd3 hL3
          have hb3 : ρ3[L.length]? = some (w.heap.size + 1) := by
            rw [ev.rho L.length (by simp), ← h1.len]; simp
          obtain ⟨rec, t1, t2, t3, t4, t5, t6, t7, t8, t9, t10⟩ := put_loop (K := L.length) r1 (oneat hL3) hb3 .exhausted pend
          have hst : rec.state ≠ .busy := by
            rw [t2]
            intro e
            subst e
            exact hq.elim
          subst t3
          have t8' := t8.kill L.length
          have ev4 := (evA.trans t10).trans (Ev.kill (K := L.length) (w := w3.putObj (w.heap.size + 1) (.loop { rec with state := .exhausted })) (I := I3) (ρ := ρ3) L.length)
          rw [List.set_set] at t8' ev4
          have hle4 := hleA.trans t9
          have hD4 := hD ((ev_le ev m1).trans t9) (Nat.le_trans ev.size t10.size)
          refine ⟨rec.pending, _, run_endLoop t1 hst, ?_⟩
          have fin : ∀ (e : Exit) (x : AEx), ExRel (w3.putObj (w.heap.size + 1) (.loop { rec with state := .exhausted })) I3 ρ3 e x → Q x fr (L3.set L.length none) →
              Post S K Q a w I ρ L e { a with defers := [markOf w.heap.size] ++ a.defers } (w3.putObj (w.heap.size + 1) (.loop { rec with state := .exhausted })) :=
            fun e x hx hq => ⟨x, fr, L3.set L.length none, I3, ρ3, hx, hq, t8', h2.mono hle4, hD4, toK ev4, rfl⟩
          have hq' : match rec.pending with
            | none => Q .normal fr (L3.set L.length none)
            | some .ret => Q .ret fr (L3.set L.length none)
            | some (.exit id) => Q (.exit id) fr (L3.set L.length none)
            | some (.goto t) => Q (.goto t) fr (L3.set L.length none)
            | _ => False := by
            revert hq
            cases st <;> intro hq <;> first | exact hq.elim | exact hq
          cases hpd : rec.pending with
          | none => rw [hpd] at hq' fin; exact fin .normal .normal trivial hq'
          | some c =>
            rw [hpd] at hq' fin
            cases c with
            | ret => exact wpIn_ret (fin .ret .ret trivial hq')
            | exit id => exact wpIn_exit (fin (.exit id) (.exit id) rfl hq')
            | goto t => exact wpIn_goto (fin (.goto t) (.goto t) rfl hq')
            | _ => exact hq'.elim
/-- The statement, as a thing to be shown. -/
theorem TW.range {P : Program} {K : Nat} {g : Operand} {ps : Array Tmp} {assign body : Code} {Q : AEx → AFr → Store → Prop} {fr : AFr} {L : Store} {gf : FuncId} {first captured : List AV}
    (hg : aval fr g = .func (.func gf) first captured) (hK : Nat.ble K L.length = true) (hen : Ent P gf)
    (h : TC P gf (first ++ ([.yield L.length] ++ captured)) (L ++ [some (.loop .ready none fr.n fr.l ps assign body)]) (rangeQ L.length fr Q)) : TW P none K (.rangeFunc g ps assign body) Q fr L :=
  ⟨Tw.range hg hen.h (by simpa using hK) h.h⟩
end Go.Proofs.Ytpjibokaeefhiaa.Tw
