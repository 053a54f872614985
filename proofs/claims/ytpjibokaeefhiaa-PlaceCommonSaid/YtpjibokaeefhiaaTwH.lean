import Derived.Test.YtpjibokaeefhiaaTwG
import Derived.ArgAppend
/-! The operations that make or write memory. -/
namespace Go.Proofs.Ytpjibokaeefhiaa.Tw
open Go.RowKit
set_option linter.unusedVariables false
set_option linter.unusedSimpArgs false
/-- A value of one cell, for certain. -/
def AV.scalar : AV → Bool
  | .any => false
  | .raw _ => false
  | .agg _ => false
  | .tup _ => false
  | _ => true
theorem scalar_cell {w : World} {I : Nat → Prop} {ρ : List Nat} {v : Value} {a : AV} (h : Rep w I ρ v a) (hs : a.scalar = true) : v.oneCell' = true := by
  cases h <;> first | rfl | cases hs
/-- A new box. -/
def abox (K : Nat) (L : Store) (v : AV) (N : AV → Store → Prop) : Prop :=
  v.known = true ∧ K ≤ L.length ∧ N (.ref L.length v.cells.length 0 0) (L ++ [some (.box v.cells.length v)])
/-- What an operation that makes or writes leaves behind. -/
def WOk (P : Program) (K : Nat) (L : Store) (run : Act → World → Result Next) (fr : AFr) (N : AV → Store → Prop) : Prop :=
  ∃ av L', N av L' ∧ ∀ (a : Act) (w : World) (I : Nat → Prop) (ρ : List Nat), Rel w I ρ L → RepF w I ρ a.tmps fr →
    ∃ v w' I' ρ', (run a w = .ok (.value v) w' ∨ (run a w = .ok .skip w' ∧ v = undef)) ∧ Rel w' I' ρ' L' ∧ Rep w' I' ρ' v av ∧ Le w I ρ w' I' ρ' ∧ Ev K w I ρ L w' I' ρ' L'
theorem box_rel {w : World} {I : Nat → Prop} {ρ : List Nat} {b : Nat} {v : Value} {x : AV} {t : TypeId} (hb : w.heap[b]? = some (Obj.cells v.cells t (0, 0))) (hv : Rep w I ρ v x) (hk : x.known = true) : ObjRel w I ρ b (.box x.cells.length x) := by
  have hc := cells_rep hv hk
  refine ⟨v.cells, t, hb, by have := hc.1; simp at this ⊢; omega, fun i e he => ?_⟩
  obtain ⟨rfl, rfl⟩ : i = 0 ∧ e = x := by
    have := (List.getElem?_eq_some_iff.1 he).1
    simp at this
    subst this
    simp at he
    exact ⟨rfl, he.symm⟩
  refine ⟨rfl, fun j c hj => ?_⟩
  have hlt := (List.getElem?_eq_some_iff.1 hj).1
  have hlt' : j < v.cells.toList.length := by rw [hc.1]; exact hlt
  have hvj : v.cells.toList[j]? = some (v.cells.toList[j]'hlt') := List.getElem?_eq_getElem hlt'
  refine ⟨_, ?_, hc.2 j _ c hvj hj⟩
  rw [Nat.zero_mul, Nat.zero_add, ← Array.getElem?_toList]
  exact hvj
theorem box_new {K : Nat} {L : Store} {x : AV} {w w' : World} {I : Nat → Prop} {ρ : List Nat} {v : Value} {t : TypeId} (hr : Rel w I ρ L) (hp : Push w w' (Obj.cells v.cells t (0, 0))) (hv : Rep w I ρ v x) (hk : x.known = true) (hK : K ≤ L.length) :
    ∃ I' ρ', Rel w' I' ρ' (L ++ [some (.box x.cells.length x)]) ∧ Rep w' I' ρ' (.pointer (some ⟨w.heap.size, 0, none⟩)) (.ref L.length x.cells.length 0 0) ∧ Le w I ρ w' I' ρ' ∧ Ev K w I ρ L w' I' ρ' (L ++ [some (.box x.cells.length x)]) := by
  obtain ⟨h1, h2, h3⟩ := alloc_obj (o := .box x.cells.length x) hr hp hK (fun hle => box_rel (t := t) hp.new (hv.mono hle) hk)
  refine ⟨_, _, h1, ?_, h2, h3⟩
  have := Rep.ref (w := w') (I := I) (ρ := ρ ++ [w.heap.size]) L.length x.cells.length 0 0 w.heap.size (by rw [← hr.len]; simp)
  simpa using this
theorem abox_ok {P : Program} {K : Nat} {L : Store} {o : Oper} {t : TypeId} {x : Operand} {fr : AFr} {N : AV → Store → Prop} (ho : o.op = .box t x) (h : abox K L (aval fr x) N) : WOk P K L (fun a w => (execOp a.eval o).run P w) fr N := by
  obtain ⟨hk, hK, h⟩ := h
  refine ⟨_, _, h, fun a w I ρ hr hf => ?_⟩
  have hx := aval_rep hf x
  obtain ⟨I', ρ', h1, h2, h3, h4⟩ := box_new (t := t) hr (push_alloc w (Obj.cells (a.eval x).cells t (0, 0))) hx hk hK
  exact ⟨_, _, I', ρ', .inl (by simp [execOp, ho, Instr.box, newVar, newRow]), h1, h2, h3, h4⟩
def aalloc (P : Program) (K : Nat) (L : Store) (t : TypeId) (N : AV → Store → Prop) : Prop :=
  match azero P t with
  | some z => abox K L z N
  | none => False
theorem aalloc_ok {P : Program} {K : Nat} {L : Store} {o : Oper} {t : TypeId} {fr : AFr} {N : AV → Store → Prop} (ho : o.op = .alloc t) (h : aalloc P K L t N) : WOk P K L (fun a w => (execOp a.eval o).run P w) fr N := by
  unfold aalloc at h
  split at h
  · rename_i z hz
    obtain ⟨hk, hK, h⟩ := h
    refine ⟨_, _, h, fun a w I ρ hr hf => ?_⟩
    obtain ⟨v, hv, hrep⟩ := run_zeroValue hz
    obtain ⟨I', ρ', h1, h2, h3, h4⟩ := box_new (t := t) hr (push_alloc w (Obj.cells v.cells t (0, 0))) (hrep w I ρ) hk hK
    exact ⟨_, _, I', ρ', .inl (by simp [execOp, ho, Instr.alloc, newVar, newRow, hv]), h1, h2, h3, h4⟩
  · exact h.elim
/-- An element with other cells. -/
def reCell : AV → List AV → AV
  | .agg _, cs => .agg cs
  | _, [c] => c
  | _, cs => .agg cs
theorem reCell_cells {e : AV} {cs : List AV} (h : ∀ c ∈ cs, c.scalar = true) : (reCell e cs).cells = cs := by
  unfold reCell
  split
  · rfl
  · rename_i c hn
    have := h c (by simp)
    cases c <;> first | rfl | cases this
  · rfl
/-- Is it a box? -/
def aobjB (L : Store) (p : Nat) : Bool :=
  match (L[p]?).join with
  | some (.box _ _) => true
  | _ => false
def astore (P : Program) (L : Store) (t : TypeId) (a x : AV) (N : AV → Store → Prop) : Prop :=
  match a with
  | .ref p wd i f => ∃ els, aobj L p = some (.arr wd els) ∧ ∃ e, els[i]? = some e ∧
      ((P.info? t).isSome = true ∧ x.known = true ∧ x.cells.length = P.cellsOf t ∧ f + x.cells.length ≤ wd ∧ x.cells.all (·.scalar) = true ∧ (aput e.cells f x.cells).all (·.scalar) = true) ∧
      N .any (L.set p (some (match aobjB L p with | true => .box wd (reCell e (aput e.cells f x.cells)) | false => .arr wd (els.set i (reCell e (aput e.cells f x.cells))))))
  | _ => False
theorem objB {L : Store} {p wd i : Nat} {els : List AV} {e : AV} (h : aobj L p = some (.arr wd els)) (hb : aobjB L p = true) (hi : els[i]? = some e) : i = 0 ∧ els = [e] := by
  unfold aobj at h
  unfold aobjB at hb
  cases hl : L[p]? with
  | none => simp [hl] at h
  | some x => cases x with
    | none => simp [hl] at h
    | some y =>
      simp only [hl, Option.join_some, Option.map_some, Option.some.injEq] at h hb
      cases y with
      | box w' e' =>
        simp only [AO.norm, AO.arr.injEq] at h
        obtain ⟨rfl, rfl⟩ := h
        have hi0 := (List.getElem?_eq_some_iff.1 hi).1
        simp at hi0
        subst hi0
        simp at hi
        exact ⟨rfl, by rw [hi]⟩
      | arr w' els' => cases hb
      | mp es => cases hb
      | loop => cases hb
theorem aput_get : ∀ (us : List AV) (cs : List AV) (o j : Nat), o + us.length ≤ cs.length → (aput cs o us)[j]? = if o ≤ j ∧ j < o + us.length then us[j - o]? else cs[j]?
  | [], cs, o, j, h => by simp [aput]; omega
  | u :: us, cs, o, j, h => by
    simp only [List.length_cons] at h
    rw [aput, aput_get us _ (o + 1) j (by simp; omega)]
    by_cases h1 : j = o
    · subst h1
      rw [if_neg (by omega), if_pos (by simp), List.getElem?_set]
      simp; omega
    · by_cases h2 : o + 1 ≤ j ∧ j < o + 1 + us.length
      · rw [if_pos h2, if_pos (by simp; omega), show j - o = (j - (o + 1)) + 1 from by omega]
        simp
      · rw [if_neg h2, if_neg (by simp; omega), List.getElem?_set]
        rw [if_neg (by omega)]
theorem seg_get (C us : List Value) (o j : Nat) (h : o + us.length ≤ C.length) : (C.take o ++ us ++ C.drop (o + us.length))[j]? = if o ≤ j ∧ j < o + us.length then us[j - o]? else C[j]? := by
  by_cases h1 : j < o
  · rw [if_neg (by omega), List.append_assoc, List.getElem?_append_left (by simp; omega), List.getElem?_take, if_pos h1]
  · by_cases h2 : j < o + us.length
    · rw [if_pos ⟨by omega, h2⟩, List.append_assoc, List.getElem?_append_right (by simp; omega), List.getElem?_append_left (by simp; omega)]
      congr 1
      simp
      omega
    · rw [if_neg (by omega), List.getElem?_append_right (by simp; omega), List.getElem?_drop]
      congr 1
      simp
      omega
theorem astore_ok {P : Program} {K : Nat} {L : Store} {o : Oper} {t : TypeId} {ad x : Operand} {fr : AFr} {N : AV → Store → Prop} (ho : o.op = .store t ad x) (h : astore P L t (aval fr ad) (aval fr x) N) : WOk P K L (fun a w => (execOp a.eval o).run P w) fr N := by
  unfold astore at h
  split at h
  · rename_i p wd i f hax
    obtain ⟨els, hob, e, he, ⟨hi, hk, hsz, hfit, hs1, hs2⟩, h⟩ := h
    refine ⟨_, _, h, fun a w I ρ hr hf => ?_⟩
    obtain ⟨ob, hL, hnorm⟩ := join_some hob
    have ha := aval_rep hf ad
    rw [hax] at ha
    have hx := aval_rep hf x
    generalize hva : a.eval ad = va at ha
    generalize hvx : a.eval x = vx at hx
    cases ha with
    | ref _ _ _ _ b hb =>
      obtain ⟨hblt, hbI, C, ct, hC, hCs, hels⟩ := own_norm hr hob hb
      obtain ⟨hew, hec⟩ := hels i e he
      have hcx := cells_rep hx hk
      have hone : ∀ v ∈ vx.cells.toList, v.oneCell' = true := by
        intro v hv
        obtain ⟨j, hj⟩ := List.getElem?_of_mem hv
        have hjl := (List.getElem?_eq_some_iff.1 hj).1
        have hjl' : j < (aval fr x).cells.length := by rw [← hcx.1]; exact hjl
        have hc : (aval fr x).cells[j]? = some ((aval fr x).cells[j]'hjl') := List.getElem?_eq_getElem hjl'
        exact scalar_cell (hcx.2 j v _ hj hc) (List.all_eq_true.1 hs1 _ (List.getElem_mem _))
      have hil := (List.getElem?_eq_some_iff.1 he).1
      have hbig : (i + 1) * wd ≤ C.size := Nat.le_trans (Nat.mul_le_mul_right _ hil) hCs
      rw [Nat.add_mul, Nat.one_mul] at hbig
      have hlen : vx.cells.toList.length = (aval fr x).cells.length := hcx.1
      have hrun := run_storeCells_at P b (i * wd + f) ct vx.cells.toList 0 C w hC (by omega) hone
      simp only [Nat.add_zero] at hrun
      have hstore : (execOp a.eval o).run P w = .ok .skip (w.setRow b (C.toList.take (i * wd + f) ++ vx.cells.toList ++ C.toList.drop (i * wd + f + vx.cells.toList.length)).toArray) := by
        have hsz' : vx.cells.size = P.cellsOf t := by rw [← hsz, ← hlen]; simp
        simp [execOp, ho, hva, hvx, Instr.storeAt, Instr.sureAddr, storeVar, run_sizeOf' hi, hsz', hrun]
      have hC' : (C.toList.take (i * wd + f) ++ vx.cells.toList ++ C.toList.drop (i * wd + f + vx.cells.toList.length)).toArray.size = C.size := by
        have : vx.cells.toList.length = vx.cells.size := by simp
        simp
        omega
      have hob' : ∀ (w' : World) (I' : Nat → Prop) (ρ' : List Nat), ObjRel w' I' ρ' b (.arr wd (els.set i (reCell e (aput e.cells f (aval fr x).cells)))) → ObjRel w' I' ρ' b (match aobjB L p with | true => .box wd (reCell e (aput e.cells f (aval fr x).cells)) | false => .arr wd (els.set i (reCell e (aput e.cells f (aval fr x).cells)))) := by
        intro w' I' ρ' ho'
        cases hB : aobjB L p with
        | false => exact ho'
        | true =>
          obtain ⟨rfl, rfl⟩ := objB hob hB he
          exact ho'
      obtain ⟨h1, h2, h3⟩ := write_obj (K := K) (o' := match aobjB L p with | true => .box wd (reCell e (aput e.cells f (aval fr x).cells)) | false => .arr wd (els.set i (reCell e (aput e.cells f (aval fr x).cells)))) hr hL hb (chg_setRow hC hC') (fun hle => by
        refine hob' _ _ _ ?_
        refine ⟨_, ct, setRow_heap w b C _ ct _ hC, by rw [hC']; simpa using hCs, fun i' e' he' => ?_⟩
        rw [List.getElem?_set] at he'
        have hsc : ∀ c ∈ aput e.cells f (aval fr x).cells, c.scalar = true := List.all_eq_true.1 hs2
        split at he'
        · rename_i hii
          subst hii
          simp [hil] at he'
          subst he'
          rw [reCell_cells hsc]
          refine ⟨by rw [aput_length]; exact hew, fun j c hj => ?_⟩
          rw [aput_get _ _ _ _ (by omega)] at hj
          have hseg := seg_get C.toList vx.cells.toList (i * wd + f) (i * wd + j) (by simp at hlen ⊢; omega)
          split at hj
          · rename_i hjj
            rw [if_pos ⟨by omega, by omega⟩, show i * wd + j - (i * wd + f) = j - f from by omega] at hseg
            have hjl := (List.getElem?_eq_some_iff.1 hj).1
            have hv : vx.cells.toList[j - f]? = some vx.cells.toList[j - f] := List.getElem?_eq_getElem (by omega)
            exact ⟨_, by simpa [hv] using hseg, (hcx.2 _ _ c hv hj).mono hle⟩
          · rename_i hjj
            have hjw : j < wd := by have := (List.getElem?_eq_some_iff.1 hj).1; omega
            rw [if_neg (by omega)] at hseg
            obtain ⟨v, hv, hrep⟩ := hec j c hj
            exact ⟨v, by simpa [hv] using hseg, hrep.mono hle⟩
        · rename_i hii
          obtain ⟨h5, h6⟩ := hels i' e' he'
          refine ⟨h5, fun j c hj => ?_⟩
          have hjw : j < wd := by have := (List.getElem?_eq_some_iff.1 hj).1; omega
          have hseg := seg_get C.toList vx.cells.toList (i * wd + f) (i' * wd + j) (by simp at hlen ⊢; omega)
          have hne : ¬ (i * wd + f ≤ i' * wd + j ∧ i' * wd + j < i * wd + f + vx.cells.toList.length) := by
            rintro ⟨q1, q2⟩
            rcases Nat.lt_or_gt_of_ne hii with hlt | hlt
            · have := Nat.mul_le_mul_right wd (show i + 1 ≤ i' from hlt)
              rw [Nat.add_mul] at this
              omega
            · have := Nat.mul_le_mul_right wd (show i' + 1 ≤ i from hlt)
              rw [Nat.add_mul] at this
              omega
          rw [if_neg hne] at hseg
          obtain ⟨v, hv, hrep⟩ := h6 j c hj
          exact ⟨v, by simpa [hv] using hseg, hrep.mono hle⟩)
      exact ⟨undef, _, I, ρ, .inr ⟨hstore, rfl⟩, h1, .any _, h2, h3⟩
  · exact h.elim
end Go.Proofs.Ytpjibokaeefhiaa.Tw
