import Derived.Test.YtpjibokaeefhiaaTwI
/-! Rows that are made. -/
namespace Go.Proofs.Ytpjibokaeefhiaa.Tw
open Go.RowKit
set_option linter.unusedVariables false
set_option linter.unusedSimpArgs false
theorem cput_get (us cs : List Value) : ∀ (o j : Nat), o + us.length ≤ cs.length → (cput cs o us)[j]? = if o ≤ j ∧ j < o + us.length then us[j - o]? else cs[j]? := by
  induction us generalizing cs with
  | nil => intro o j h; simp [cput]; omega
  | cons u us ih =>
    intro o j h
    simp only [List.length_cons] at h
    rw [cput, ih _ (o + 1) j (by simp; omega)]
    by_cases h1 : j = o
    · subst h1
      rw [if_neg (by omega), if_pos (by simp), List.getElem?_set]
      simp; omega
    · by_cases h2 : o + 1 ≤ j ∧ j < o + 1 + us.length
      · rw [if_pos h2, if_pos (by simp; omega), show j - o = (j - (o + 1)) + 1 from by omega]
        simp
      · rw [if_neg h2, if_neg (by simp; omega), List.getElem?_set]
        rw [if_neg (by omega)]
theorem fill_seq (wd : Nat) : ∀ (vs : List Value) (k : Nat) (C : Array Value), (∀ v ∈ vs, v.cells.size = wd) → (k + vs.length) * wd ≤ C.size →
    ∃ D, Instr.fill (fun i => some (i * wd, wd)) C ((vs.zipIdx k).map fun x => (x.2, x.1)) = some D ∧ D.size = C.size ∧ (∀ q, q < k * wd → D[q]? = C[q]?) ∧
      ∀ (i : Nat) (v : Value), vs[i]? = some v → ∀ (j : Nat) (u : Value), v.cells[j]? = some u → D[(k + i) * wd + j]? = some u
  | [], k, C, _, _ => ⟨C, rfl, rfl, fun _ _ => rfl, fun i v h => by simp at h⟩
  | v :: vs, k, C, hw, hC => by
    have hv := hw v (by simp)
    simp only [List.length_cons] at hC
    have hk : (k + 1) * wd ≤ (k + (vs.length + 1)) * wd := Nat.mul_le_mul_right _ (by omega)
    rw [Nat.add_mul, Nat.one_mul] at hk
    have hno : ¬ (v.cells.size ≠ wd || decide (k * wd + v.cells.size > C.size)) = true := by simp [hv]; omega
    have hfold : (v.cells.zipIdx.foldl (fun cs (x : Value × Nat) => cs.setIfInBounds (k * wd + x.2) x.1) C) = (cput C.toList (k * wd) v.cells.toList).toArray := by
      have := fold_cput (k * wd) v.cells.toList 0 C
      rw [← Array.foldl_toList]
      simpa using this
    have hsize : (cput C.toList (k * wd) v.cells.toList).toArray.size = C.size := by simp [cput_length]
    obtain ⟨D, h1, h2, h3, h4⟩ := fill_seq wd vs (k + 1) (cput C.toList (k * wd) v.cells.toList).toArray (fun u hu => hw u (by simp [hu])) (by rw [hsize, show k + 1 + vs.length = k + (vs.length + 1) from by omega]; exact hC)
    have hget : ∀ q, (cput C.toList (k * wd) v.cells.toList).toArray[q]? = if k * wd ≤ q ∧ q < k * wd + wd then v.cells[q - k * wd]? else C[q]? := by
      intro q
      have := cput_get v.cells.toList C.toList (k * wd) q (by simp [hv]; omega)
      simp only [Array.length_toList, hv] at this
      simpa using this
    refine ⟨D, ?_, by rw [h2, hsize], fun q hq => ?_, fun i u hu j x hx => ?_⟩
    · rw [List.zipIdx_cons, List.map_cons]
      simp only [Instr.fill]
      rw [if_neg hno, ← hfold] at *
      exact h1
    · rw [h3 q (by rw [Nat.add_mul]; omega), hget, if_neg (by omega)]
    · cases i with
      | zero =>
        simp at hu
        subst hu
        have hj : j < wd := by have := (Array.getElem?_eq_some_iff.1 hx).1; omega
        rw [Nat.add_zero, h3 _ (by rw [Nat.add_mul]; omega), hget, if_pos (by omega), show k * wd + j - k * wd = j from by omega]
        exact hx
      | succ i =>
        have := h4 i u (by simpa using hu) j x hx
        rwa [show k + 1 + i = k + (i + 1) from by omega] at this
def abuildSlice (P : Program) (K : Nat) (L : Store) (t : TypeId) (len : Nat) (parts : List (Nat × AV)) (N : AV → Store → Prop) : Prop :=
  match P.underlying t with
  | some (.slice e) => ∃ wd by', (elemB P e wd by' = true ∧ len * wd ≤ 16777216 ∧ parts.map (·.1) = List.range len ∧ parts.all (fun p => p.2.known && p.2.cells.length == wd) = true) ∧ N (.slt wd (parts.map (·.2))) L
  | _ => False
theorem zip_parts {α : Type} (ps : List (Nat × α)) (len : Nat) (h : ps.map (·.1) = List.range len) : ps = ((ps.map (·.2)).zipIdx 0).map fun x => (x.2, x.1) := by
  apply List.ext_getElem?
  intro j
  rw [List.getElem?_map, List.getElem?_zipIdx, List.getElem?_map]
  cases hj : ps[j]? with
  | none => simp
  | some p =>
    have := congrArg (fun l => l[j]?) h
    simp only [List.getElem?_map, hj, Option.map_some] at this
    have hl : j < len := by
      have h1 := (List.getElem?_eq_some_iff.1 hj).1
      have h2 := congrArg List.length h
      simp at h2
      omega
    rw [List.getElem?_range hl] at this
    simp at this
    simp [← this]
theorem abuildSlice_ok {P : Program} {K : Nat} {L : Store} {o : Oper} {t : TypeId} {len : Nat} {parts : Array (Nat × Operand)} {fr : AFr} {N : AV → Store → Prop} (ho : o.op = .buildSlice t len parts) (h : abuildSlice P K L t len (parts.toList.map fun p => (p.1, aval fr p.2)) N) :
    ∃ els, N (.slt (((P.underlying t).map fun | .slice e => P.cellsOf e | _ => 0).getD 0) els) L ∧ ∀ (a : Act) (w : World) (I : Nat → Prop) (ρ : List Nat), Rel w I ρ L → RepF w I ρ a.tmps fr →
      ∃ v w', (execOp a.eval o).run P w = .ok (.value v) w' ∧ Rel w' (fun b => I b ∨ b = w.heap.size) ρ L ∧ Rep w' (fun b => I b ∨ b = w.heap.size) ρ v (.slt (((P.underlying t).map fun | .slice e => P.cellsOf e | _ => 0).getD 0) els) ∧ Le w I ρ w' (fun b => I b ∨ b = w.heap.size) ρ ∧ Ev K w I ρ L w' (fun b => I b ∨ b = w.heap.size) ρ L := by
  unfold abuildSlice at h
  split at h
  case h_2 => exact h.elim
  rename_i e ht
  obtain ⟨wd, by', ⟨hel, hlen, hix, hall⟩, h⟩ := h
  obtain ⟨i, z, hi, hsz, hby, hz, hzs⟩ := elemB_spec hel
  have hwd : (((P.underlying t).map fun | .slice e => P.cellsOf e | _ => 0).getD 0) = wd := by simp [ht, Program.cellsOf, hi, hsz]
  rw [hwd]
  refine ⟨_, h, fun a w I ρ hr hf => ?_⟩
  have hnum : parts.toList.length = len := by have := congrArg List.length hix; simpa using this
  let vs := parts.toList.map fun p => a.eval p.2
  have hvs : ∀ (j : Nat) (v : Value) (x : AV), vs[j]? = some v → ((parts.toList.map fun p => (p.1, aval fr p.2)).map (·.2))[j]? = some x → Rep w I ρ v x ∧ x.known = true ∧ x.cells.length = wd := by
    intro j v x hv hx
    simp only [vs, List.getElem?_map] at hv hx
    cases hp : parts.toList[j]? with
    | none => rw [hp] at hv; cases hv
    | some p =>
      rw [hp] at hv hx
      cases hv; cases hx
      have := List.all_eq_true.1 hall (p.1, aval fr p.2) (List.mem_map.2 ⟨p, List.mem_of_getElem? hp, rfl⟩)
      simp only [Bool.and_eq_true, beq_iff_eq] at this
      exact ⟨aval_rep hf p.2, this.1, this.2⟩
  have hsizes : ∀ v ∈ vs, v.cells.size = wd := by
    intro v hv
    obtain ⟨j, hj⟩ := List.getElem?_of_mem hv
    obtain ⟨x, hx⟩ : ∃ x, ((parts.toList.map fun p => (p.1, aval fr p.2)).map (·.2))[j]? = some x := by
      have := (List.getElem?_eq_some_iff.1 hj).1
      exact ⟨_, List.getElem?_eq_getElem (by simpa [vs] using this)⟩
    obtain ⟨h1, h2, h3⟩ := hvs j v x hj hx
    have := (cells_rep h1 h2).1
    simp at this
    omega
  have hvl : vs.length = len := by simp [vs, hnum]
  let C0 : Array Value := (Array.range (len * wd)).map (fun q => (if len * wd = 0 then (#[] : Array Value) else z.cells)[q % (if len * wd = 0 then (#[] : Array Value) else z.cells).size]!)
  have hC0 : C0.size = len * wd := by simp [C0]
  obtain ⟨D, h1, h2, h3, h4⟩ := fill_seq wd vs 0 C0 hsizes (by rw [hC0, Nat.zero_add, hvl]; exact Nat.le_refl _)
  have hparts : (parts.map fun p => (p.1, a.eval p.2)).toList = (vs.zipIdx 0).map fun x => (x.2, x.1) := by
    have := zip_parts (parts.toList.map fun p => (p.1, a.eval p.2)) len (by rw [List.map_map] at hix ⊢; exact hix)
    simp only [Array.toList_map]
    rw [this, List.map_map]
    rfl
  have hrun : (execOp a.eval o).run P w = .ok (.value (.slice (some ⟨w.heap.size, 0, none⟩) len len)) (w.alloc (Obj.cells D e (0, 0))) := by
    have hb : (Instr.buildSlice t len (parts.map fun p => (p.1, a.eval p.2))).run P w = .ok (.slice (some ⟨w.heap.size, 0, none⟩) len len) (w.alloc (Obj.cells D e (0, 0))) := by
      have hno : ¬ (len * wd > 2 ^ 24) := by omega
      unfold Instr.buildSlice
      simp only [Sem.run_bind, run_underlying ht, Result.andThen_ok, sizeOf, typeInfo, run_program, Sem.run_pure, hi, hsz]
      rw [if_neg hno]
      have hfill : Instr.fill (fun i => some (i * wd, wd)) C0 (parts.map fun p => (p.1, a.eval p.2)).toList = some D := by rw [hparts]; exact h1
      by_cases h0 : len * wd = 0
      · have hC1 : C0 = (Array.range (len * wd)).map (fun q => (#[] : Array Value)[q % (#[] : Array Value).size]!) := by simp only [C0]; rw [if_pos h0]
        rw [if_pos h0]
        rw [hC1] at hfill
        simp only [Sem.run_bind, Sem.run_pure, Result.andThen_ok, hfill]
        simp [newRow]
      · have hC1 : C0 = (Array.range (len * wd)).map (fun q => z.cells[q % z.cells.size]!) := by simp only [C0]; rw [if_neg h0]
        rw [if_neg h0]
        rw [hC1] at hfill
        simp only [Sem.run_bind, Sem.run_pure, Result.andThen_ok, zeroValue, typeInfo, run_program, hi, hz, hfill]
        simp [newRow]
    simp only [execOp, ho, Sem.run_bind]
    rw [show (parts.map fun x => match x with | (i, x) => (i, a.eval x)) = parts.map fun p => (p.1, a.eval p.2) from rfl, hb]
    rfl
  obtain ⟨r1, r2, r3⟩ := alloc_imm (K := K) hr (push_alloc w (Obj.cells D e (0, 0)))
  refine ⟨_, _, hrun, r1, ?_, r2, r3⟩
  have hlen2 : ((parts.toList.map fun p => (p.1, aval fr p.2)).map (·.2)).length = len := by simp [hnum]
  have hcellv : ∀ (i : Nat) (e' : AV) (j : Nat) (c : AV), ((parts.toList.map fun p => (p.1, aval fr p.2)).map (·.2))[i]? = some e' → e'.cells[j]? = some c → ∃ v, D[i * wd + j]? = some v ∧ Rep w I ρ v c := by
    intro i' e' j c he hc
    have hil := (List.getElem?_eq_some_iff.1 he).1
    have hv : vs[i']? = some (vs[i']'(by omega)) := List.getElem?_eq_getElem (by omega)
    obtain ⟨q1, q2, q3⟩ := hvs i' _ e' hv he
    have hcr := cells_rep q1 q2
    have hjl := (List.getElem?_eq_some_iff.1 hc).1
    have hjl' : j < (vs[i']'(by omega)).cells.toList.length := by rw [hcr.1]; exact hjl
    have hu : (vs[i']'(by omega)).cells.toList[j]? = some ((vs[i']'(by omega)).cells.toList[j]'hjl') := List.getElem?_eq_getElem hjl'
    have := h4 i' _ hv j _ (by rw [← Array.getElem?_toList]; exact hu)
    rw [Nat.zero_add] at this
    exact ⟨_, this, hcr.2 j _ c hu hc⟩
  refine Rep.slt _ ⟨w.heap.size, 0, none⟩ len wd _ (fun i j => (D[i * wd + j]?).getD undef) hlen2.symm (.inr ⟨rfl, rfl, .inr rfl⟩) (fun e' he => ?_) (fun i' j hi' hj => ?_) (fun i' e' j c he hc => ?_)
  · obtain ⟨j, hj⟩ := List.getElem?_of_mem he
    have hjl := (List.getElem?_eq_some_iff.1 hj).1
    exact (hvs j _ e' (List.getElem?_eq_getElem (by omega)) hj).2.2
  · have he : ((parts.toList.map fun p => (p.1, aval fr p.2)).map (·.2))[i']? = some (((parts.toList.map fun p => (p.1, aval fr p.2)).map (·.2))[i']'hi') := List.getElem?_eq_getElem hi'
    have hv : vs[i']? = some (vs[i']'(by omega)) := List.getElem?_eq_getElem (by omega)
    have hl := (hvs i' _ _ hv he).2.2
    obtain ⟨v, hv, _⟩ := hcellv i' _ j _ he (List.getElem?_eq_getElem (by rw [hl]; exact hj))
    have hnew := (push_alloc w (Obj.cells D e (0, 0))).new
    simp only [World.cell?, hnew]
    simp [hv]
  · obtain ⟨v, hv, hrep⟩ := hcellv i' e' j c he hc
    simp only [hv, Option.getD_some]
    exact hrep.mono r2
end Go.Proofs.Ytpjibokaeefhiaa.Tw
