import Derived.Test.YtpjibokaeefhiaaTwH
/-! Rows that grow. -/
namespace Go.Proofs.Ytpjibokaeefhiaa.Tw
open Go.RowKit
set_option linter.unusedVariables false
set_option linter.unusedSimpArgs false
/-- Cells, one element behind the other. -/
def FlatRep (w : World) (I : Nat → Prop) (ρ : List Nat) (wd : Nat) (vals : List Value) (els : List AV) : Prop :=
  vals.length = els.length * wd ∧ ∀ (i : Nat) (e : AV), els[i]? = some e → e.cells.length = wd ∧ ∀ (j : Nat) (c : AV), e.cells[j]? = some c → ∃ v, vals[i * wd + j]? = some v ∧ Rep w I ρ v c
theorem FlatRep.mono {w w' : World} {I I' : Nat → Prop} {ρ ρ' : List Nat} (L : Le w I ρ w' I' ρ') {wd : Nat} {vals : List Value} {els : List AV} (h : FlatRep w I ρ wd vals els) : FlatRep w' I' ρ' wd vals els :=
  ⟨h.1, fun i e he => ⟨(h.2 i e he).1, fun j c hc => let ⟨v, h1, h2⟩ := (h.2 i e he).2 j c hc; ⟨v, h1, h2.mono L⟩⟩⟩
theorem FlatRep.append {w : World} {I : Nat → Prop} {ρ : List Nat} {wd : Nat} {vals us : List Value} {els fs : List AV} (h : FlatRep w I ρ wd vals els) (k : FlatRep w I ρ wd us fs) : FlatRep w I ρ wd (vals ++ us) (els ++ fs) := by
  refine ⟨by simp [h.1, k.1, Nat.add_mul], fun i e he => ?_⟩
  by_cases hi : i < els.length
  · rw [List.getElem?_append_left hi] at he
    obtain ⟨h1, h2⟩ := h.2 i e he
    refine ⟨h1, fun j c hc => ?_⟩
    obtain ⟨v, hv, hr⟩ := h2 j c hc
    exact ⟨v, by rw [List.getElem?_append_left (List.getElem?_eq_some_iff.1 hv).1]; exact hv, hr⟩
  · rw [List.getElem?_append_right (by omega)] at he
    obtain ⟨h1, h2⟩ := k.2 _ e he
    refine ⟨h1, fun j c hc => ?_⟩
    obtain ⟨v, hv, hr⟩ := h2 j c hc
    refine ⟨v, ?_, hr⟩
    have hle : els.length * wd ≤ i * wd := Nat.mul_le_mul_right _ (by omega)
    rw [List.getElem?_append_right (by rw [h.1]; omega), h.1]
    rw [Nat.sub_mul] at hv
    rw [← hv]
    congr 1
    omega
theorem FlatRep.cut {w : World} {I : Nat → Prop} {ρ : List Nat} {wd : Nat} {vals : List Value} {els : List AV} (h : FlatRep w I ρ wd vals els) (off n : Nat) (hn : off + n ≤ els.length) : FlatRep w I ρ wd ((vals.drop (off * wd)).take (n * wd)) ((els.drop off).take n) := by
  have hb : (off + n) * wd ≤ els.length * wd := Nat.mul_le_mul_right _ hn
  rw [Nat.add_mul] at hb
  refine ⟨by simp [h.1]; rw [Nat.min_eq_left (by omega), Nat.min_eq_left (by omega)], fun i e he => ?_⟩
  rw [List.getElem?_take] at he
  split at he
  · rename_i hi
    rw [List.getElem?_drop] at he
    obtain ⟨h1, h2⟩ := h.2 _ e he
    refine ⟨h1, fun j c hc => ?_⟩
    obtain ⟨v, hv, hr⟩ := h2 j c hc
    have hj : j < wd := by have := (List.getElem?_eq_some_iff.1 hc).1; omega
    have hlt : i * wd + j < n * wd := by
      have := Nat.mul_le_mul_right wd (show i + 1 ≤ n from hi)
      rw [Nat.add_mul] at this
      omega
    refine ⟨v, ?_, hr⟩
    rw [List.getElem?_take, if_pos hlt, List.getElem?_drop, ← hv]
    congr 1
    rw [Nat.add_mul]
    omega
  · cases he
theorem FlatRep.obj {w : World} {I : Nat → Prop} {ρ : List Nat} {wd b : Nat} {vals : List Value} {els : List AV} {C : Array Value} {t : TypeId} (h : FlatRep w I ρ wd vals els) (hb : w.heap[b]? = some (Obj.cells C t (0, 0))) (hC : ∀ (q : Nat) (v : Value), vals[q]? = some v → C[q]? = some v) (hs : vals.length ≤ C.size) : ObjRel w I ρ b (.arr wd els) :=
  ⟨C, t, hb, by have := h.1; omega, fun i e he => ⟨(h.2 i e he).1, fun j c hc => let ⟨v, h1, h2⟩ := (h.2 i e he).2 j c hc; ⟨v, hC _ v h1, h2⟩⟩⟩
theorem flat_of_obj {w : World} {I : Nat → Prop} {ρ : List Nat} {wd b : Nat} {els : List AV} (h : ObjRel w I ρ b (.arr wd els)) : ∃ (C : Array Value) (t : TypeId), w.heap[b]? = some (Obj.cells C t (0, 0)) ∧ els.length * wd ≤ C.size ∧ FlatRep w I ρ wd (C.toList.take (els.length * wd)) els := by
  obtain ⟨C, t, h1, h2, h3⟩ := h
  refine ⟨C, t, h1, h2, by simp; omega, fun i e he => ⟨(h3 i e he).1, fun j c hc => ?_⟩⟩
  obtain ⟨v, hv, hr⟩ := (h3 i e he).2 j c hc
  refine ⟨v, ?_, hr⟩
  have hj : j < wd := by have := (List.getElem?_eq_some_iff.1 hc).1; have := (h3 i e he).1; omega
  have hi := (List.getElem?_eq_some_iff.1 he).1
  have := Nat.mul_le_mul_right wd (show i + 1 ≤ els.length from hi)
  rw [Nat.add_mul] at this
  rw [List.getElem?_take, if_pos (by omega)]
  simpa using hv
/-- What is put behind a row. -/
def asrc (L : Store) (x : AV) (wd : Nat) (K : List AV → Prop) : Prop :=
  match x with
  | .nils => K []
  | .sl w els => w = wd ∧ K els
  | .slt w els => w = wd ∧ K els
  | .row p w off n => w = wd ∧ ∃ els, aobj L p = some (.arr w els) ∧ off + n ≤ els.length ∧ K ((els.drop off).take n)
  | _ => False
theorem pure_flat {w : World} {I : Nat → Prop} {ρ : List Nat} {wd : Nat} {els : List AV} {A : Addr} {vs : Nat → Nat → Value} (hs : A.spot = none) (hw : ∀ e ∈ els, e.cells.length = wd)
    (hc : ∀ i j, i < els.length → j < wd → w.cell? ⟨A.block, A.off + (i * wd + j), none⟩ = some (vs i j))
    (hr : ∀ (i : Nat) (e : AV) (j : Nat) (c : AV), els[i]? = some e → e.cells[j]? = some c → Rep w I ρ (vs i j) c) :
    ∃ news : List Value, (∀ (j : Nat) (v : Value), news[j]? = some v → w.cell? (A.add j) = some v) ∧ FlatRep w I ρ wd news els := by
  refine ⟨(List.range (els.length * wd)).map fun q => vs (q / wd) (q % wd), fun q v hq => ?_, by simp, fun i e he => ⟨hw e (List.mem_of_getElem? he), fun j c hc' => ?_⟩⟩
  · rw [List.getElem?_map] at hq
    by_cases hlt : q < els.length * wd
    · rw [List.getElem?_range hlt] at hq
      simp at hq
      subst hq
      have hwd : 0 < wd := by
        rcases Nat.eq_zero_or_pos wd with h | h
        · subst h; simp at hlt
        · exact h
      have := hc (q / wd) (q % wd) (by rw [Nat.div_lt_iff_lt_mul hwd]; exact hlt) (Nat.mod_lt _ hwd)
      rw [Nat.div_add_mod'] at this
      rw [add_none hs]
      exact this
    · rw [List.getElem?_eq_none (by simp; omega)] at hq
      cases hq
  · have hj : j < wd := by have := (List.getElem?_eq_some_iff.1 hc').1; have := hw e (List.mem_of_getElem? he); omega
    have hi := (List.getElem?_eq_some_iff.1 he).1
    have := Nat.mul_le_mul_right wd (show i + 1 ≤ els.length from hi)
    rw [Nat.add_mul] at this
    refine ⟨vs i j, ?_, hr i e j c he hc'⟩
    rw [List.getElem?_map, List.getElem?_range (by omega)]
    simp only [Option.map_some]
    rw [show (i * wd + j) / wd = i from by rw [Nat.mul_comm, Nat.mul_add_div (by omega), Nat.div_eq_of_lt hj]; omega, show (i * wd + j) % wd = j from by rw [Nat.mul_comm, Nat.mul_add_mod, Nat.mod_eq_of_lt hj]]
theorem asrc_ok {L : Store} {x : AV} {wd : Nat} {K : List AV → Prop} (h : asrc L x wd K) :
    ∃ els, K els ∧ ∀ (w : World) (I : Nat → Prop) (ρ : List Nat) (u : Value), Rel w I ρ L → Rep w I ρ u x → ∃ a n c, u = .slice a n c ∧ n = els.length ∧ (n = 0 ∨ ∃ A news, a = some A ∧ (∀ (j : Nat) (v : Value), news[j]? = some v → w.cell? (A.add j) = some v) ∧ FlatRep w I ρ wd news els) := by
  unfold asrc at h
  split at h
  · refine ⟨_, h, fun w I ρ u hr hu => ?_⟩
    cases hu
    exact ⟨none, 0, 0, rfl, rfl, .inl rfl⟩
  · obtain ⟨rfl, h⟩ := h
    refine ⟨_, h, fun w I ρ u hr hu => ?_⟩
    cases hu with
    | sl a A n c _ els vs hn hcap ha hw hc hr' =>
      refine ⟨a, n, c, rfl, hn, ?_⟩
      rcases ha with rfl | ⟨rfl, hs, hI⟩
      · exact .inl (by simpa using hn)
      · obtain ⟨news, h1, h2⟩ := pure_flat hs hw hc hr'
        exact .inr ⟨A, news, rfl, h1, h2⟩
  · obtain ⟨rfl, h⟩ := h
    refine ⟨_, h, fun w I ρ u hr hu => ?_⟩
    cases hu with
    | slt a A n _ els vs hn ha hw hc hr' =>
      refine ⟨a, n, n, rfl, hn, ?_⟩
      rcases ha with rfl | ⟨rfl, hs, hI⟩
      · exact .inl (by simpa using hn)
      · obtain ⟨news, h1, h2⟩ := pure_flat hs hw hc hr'
        exact .inr ⟨A, news, rfl, h1, h2⟩
  · rename_i p wd' off n
    obtain ⟨rfl, els, ho, hle, h⟩ := h
    refine ⟨_, h, fun w I ρ u hr hu => ?_⟩
    cases hu with
    | row _ _ _ _ b c C t hb hn hB hC =>
      refine ⟨_, n, c, rfl, by simp; omega, .inr ?_⟩
      obtain ⟨_, _, hobj⟩ := own_norm hr ho hb
      obtain ⟨C', t', h1, h2, h3⟩ := flat_of_obj hobj
      have hf := h3.cut off n hle
      refine ⟨_, _, rfl, fun j v hj => ?_, hf⟩
      rw [add_none rfl]
      rw [List.getElem?_take] at hj
      split at hj
      · rw [List.getElem?_drop, List.getElem?_take] at hj
        split at hj
        · simp only [World.cell?, h1]
          simpa using hj
        · cases hj
      · cases hj
  · exact h.elim
/-- What is known of an element's type. -/
def elemB (P : Program) (e : TypeId) (wd by' : Nat) : Bool :=
  (P.info? e).isSome && P.cellsOf e == wd && P.bytesOf e == by' && (match (P.info? e).bind (·.zero) with | some z => z.cells.size == wd | none => false)
theorem elemB_spec {P : Program} {e : TypeId} {wd by' : Nat} (h : elemB P e wd by' = true) : ∃ (i : TypeInfo) (z : Value), P.info? e = some i ∧ i.size = wd ∧ i.bytes = by' ∧ i.zero = some z ∧ z.cells.size = wd := by
  unfold elemB at h
  simp only [Bool.and_eq_true, beq_iff_eq] at h
  obtain ⟨⟨⟨h1, h2⟩, h3⟩, h4⟩ := h
  cases hi : P.info? e with
  | none => simp [hi] at h1
  | some i =>
    simp only [hi, Option.bind_some] at h4
    cases hz : i.zero with
    | none => simp [hz] at h4
    | some z =>
      simp only [hz, beq_iff_eq] at h4
      exact ⟨i, z, rfl, by simpa [Program.cellsOf, hi] using h2, by simpa [Program.bytesOf, hi] using h3, hz, h4⟩
/-- append: onto nothing, onto a row that is full, onto a row of ours. -/
def aappend (P : Program) (K : Nat) (L : Store) (t : TypeId) (s x : AV) (N : AV → Store → Prop) : Prop :=
  match P.underlying t with
  | some (.slice e) => ∃ wd by', elemB P e wd by' = true ∧ asrc L x wd fun els =>
    (K ≤ L.length ∧ els.all (fun v => v.cells.all (·.scalar)) = true) ∧ match s with
    | .nils => (els = [] → N .nils L) ∧ (els ≠ [] → els.length * by' ≤ 140737488355328 ∧ els.length ≤ 9223372036854775807 ∧ N (.row L.length wd 0 els.length) (L ++ [some (.arr wd els)]))
    | .sl w0 olds => els = [] ∧ N (.sl w0 olds) L
    | .slt w0 olds => w0 = wd ∧ (els = [] → N (.slt wd olds) L) ∧ (els ≠ [] → (olds.length + els.length) * by' ≤ 140737488355328 ∧ olds.length + els.length ≤ 9223372036854775807 ∧ N (.row L.length wd 0 (olds.length + els.length)) (L ++ [some (.arr wd (olds ++ els))]))
    | .row p w0 off n => (w0 = wd ∧ off = 0) ∧ ∃ olds, aobj L p = some (.arr wd olds) ∧ n ≤ olds.length ∧ (n + els.length) * by' ≤ 140737488355328 ∧ n + els.length ≤ 9223372036854775807 ∧ N (.row L.length wd 0 (n + els.length)) (L.set p none ++ [some (.arr wd (olds.take n ++ els))])
    | _ => False
  | _ => False
theorem flat_scalar {w : World} {I : Nat → Prop} {ρ : List Nat} {wd : Nat} {vals : List Value} {els : List AV} (h : FlatRep w I ρ wd vals els) (hs : els.all (fun v => v.cells.all (·.scalar)) = true) : ∀ u ∈ vals, u.oneCell' = true := by
  intro u hu
  obtain ⟨q, hq⟩ := List.getElem?_of_mem hu
  have hlt := (List.getElem?_eq_some_iff.1 hq).1
  rw [h.1] at hlt
  have hwd : 0 < wd := by
    rcases Nat.eq_zero_or_pos wd with e | e
    · subst e; simp at hlt
    · exact e
  have hi : q / wd < els.length := by rw [Nat.div_lt_iff_lt_mul hwd]; exact hlt
  have he : els[q / wd]? = some els[q / wd] := List.getElem?_eq_getElem hi
  obtain ⟨h1, h2⟩ := h.2 _ _ he
  have hj : q % wd < (els[q / wd]).cells.length := by rw [h1]; exact Nat.mod_lt _ hwd
  have hc : (els[q / wd]).cells[q % wd]? = some ((els[q / wd]).cells[q % wd]'hj) := List.getElem?_eq_getElem hj
  obtain ⟨v, hv, hr⟩ := h2 _ _ hc
  rw [Nat.div_add_mod'] at hv
  rw [hq] at hv
  cases hv
  exact scalar_cell hr (List.all_eq_true.1 (List.all_eq_true.1 hs _ (List.getElem_mem hi)) _ (List.getElem_mem hj))
theorem new_row {K : Nat} {L : Store} {w w' : World} {I : Nat → Prop} {ρ : List Nat} {wd cap : Nat} {vals : List Value} {els : List AV} {C : Array Value} {t : TypeId} (hr : Rel w I ρ L) (hp : Push w w' (Obj.cells C t (0, 0))) (hK : K ≤ L.length)
    (hf : FlatRep w I ρ wd vals els) (hC : ∀ (q : Nat) (v : Value), vals[q]? = some v → C[q]? = some v) (hcs : cap * wd = C.size) (hcap : els.length ≤ cap) :
    Rel w' I (ρ ++ [w.heap.size]) (L ++ [some (.arr wd els)]) ∧ Rep w' I (ρ ++ [w.heap.size]) (.slice (some ⟨w.heap.size, 0, none⟩) els.length cap) (.row L.length wd 0 els.length) ∧ Le w I ρ w' I (ρ ++ [w.heap.size]) ∧ Ev K w I ρ L w' I (ρ ++ [w.heap.size]) (L ++ [some (.arr wd els)]) := by
  have hsz : vals.length ≤ C.size := by rw [hf.1, ← hcs]; exact Nat.mul_le_mul_right _ hcap
  obtain ⟨h1, h2, h3⟩ := alloc_obj (o := .arr wd els) hr hp hK (fun hle => (hf.mono hle).obj hp.new hC hsz)
  refine ⟨h1, ?_, h2, h3⟩
  have := Rep.row (w := w') (I := I) (ρ := ρ ++ [w.heap.size]) L.length wd 0 els.length w.heap.size cap C t (by rw [← hr.len]; simp) hcap hp.new (by rw [Nat.zero_add]; omega)
  simpa using this
theorem kill_new_row {K : Nat} {L : Store} {w w' : World} {I : Nat → Prop} {ρ : List Nat} {wd cap p : Nat} {vals : List Value} {els : List AV} {C : Array Value} {t : TypeId} (hr : Rel w I ρ L) (hp : Push w w' (Obj.cells C t (0, 0))) (hK : K ≤ L.length)
    (hf : FlatRep w I ρ wd vals els) (hC : ∀ (q : Nat) (v : Value), vals[q]? = some v → C[q]? = some v) (hcs : cap * wd = C.size) (hcap : els.length ≤ cap) :
    Rel w' I (ρ ++ [w.heap.size]) (L.set p none ++ [some (.arr wd els)]) ∧ Rep w' I (ρ ++ [w.heap.size]) (.slice (some ⟨w.heap.size, 0, none⟩) els.length cap) (.row L.length wd 0 els.length) ∧ Le w I ρ w' I (ρ ++ [w.heap.size]) ∧ Ev K w I ρ L w' I (ρ ++ [w.heap.size]) (L.set p none ++ [some (.arr wd els)]) := by
  obtain ⟨h1, h2, h3, h4⟩ := new_row (K := K) (L := L.set p none) (hr.kill p) hp (by simpa using hK) hf hC hcs hcap
  exact ⟨h1, by simpa using h2, h3, (Ev.kill p).trans h4⟩
theorem grown_cells {olds news : List Value} {z : Array Value} {k wd : Nat} (hz : z.size = wd) (n : Nat) (h : (olds ++ news).length = n * wd) (hk : n ≤ k) :
    (∀ (q : Nat) (v : Value), (olds ++ news)[q]? = some v → (olds.toArray ++ news.toArray ++ Builtin.zeroCells z (k - n))[q]? = some v) ∧ k * wd = (olds.toArray ++ news.toArray ++ Builtin.zeroCells z (k - n)).size := by
  constructor
  · intro q v hq
    have hlt := (List.getElem?_eq_some_iff.1 hq).1
    rw [Array.getElem?_append_left (by simpa using hlt)]
    simpa using hq
  · have : (olds ++ news).length = olds.length + news.length := by simp
    simp only [Array.size_append, size_zeroCells, hz, List.size_toArray, Nat.sub_mul]
    have := Nat.mul_le_mul_right wd hk
    omega
theorem aappend_ok {P : Program} {K : Nat} {L : Store} {o : Oper} {t : TypeId} {s x : Operand} {fr : AFr} {N : AV → Store → Prop} (ho : o.op = .call ⟨.builtin .append, #[s, x], #[t, t]⟩) (h : aappend P K L t (aval fr s) (aval fr x) N) : WOk P K L (fun a w => (execOp a.eval o).run P w) fr N := by
  have hex : ∀ (a : Act) (w : World) (v : Value) (w' : World), (Builtin.append_ #[t, t] o.type #[a.eval s, a.eval x]).run P w = .ok v w' → (execOp a.eval o).run P w = .ok (.value v) w' := by
    intro a w v w' hrun
    simp [execOp, ho, resolve, invoke, builtin, hrun]
  unfold aappend at h
  split at h
  case h_2 => exact h.elim
  rename_i e ht
  obtain ⟨wd, by', hel, h⟩ := h
  obtain ⟨i, z, hi, hsz, hby, hz, hzs⟩ := elemB_spec hel
  obtain ⟨els, ⟨⟨hK, hsc⟩, h⟩, hsrc⟩ := asrc_ok h
  -- what the source gives
  have empty : ∀ (u : Value) (w : World) (a : Option Addr) (n cap : Nat) (sc : Nat) (b : Option Addr) (c : Nat), n ≤ cap → (Builtin.append_ #[t, t] o.type #[.slice a n cap, .slice b 0 c]).run P w = .ok (.slice a n cap) w := by
    intro u w a n cap sc b c hle
    cases a <;> cases b <;> simp [Builtin.append_, run_underlying ht, sizeOf, typeInfo, hi, Builtin.lenOf, Builtin.firstCells, hle, loadCells, loadCellsFrom, storeCells]
  split at h
  · rename_i hs
    obtain ⟨h1, h2⟩ := h
    by_cases he : els = []
    · subst he
      refine ⟨_, _, h1 rfl, fun a w I ρ hr hf => ?_⟩
      have hsv := aval_rep hf s
      rw [hs] at hsv
      obtain ⟨b, n, c, hx, hn, _⟩ := hsrc w I ρ _ hr (aval_rep hf x)
      have hsv' : a.eval s = .slice none 0 0 := by generalize a.eval s = v at hsv; cases hsv; rfl
      simp at hn
      subst hn
      refine ⟨.slice none 0 0, w, I, ρ, .inl (hex a w _ _ ?_), hr, .nils, .refl .., .refl ..⟩
      rw [hsv', hx]
      exact empty undef w none 0 0 0 b c (Nat.le_refl _)
    · obtain ⟨hb1, hb2, h2⟩ := h2 he
      refine ⟨_, _, h2, fun a w I ρ hr hf => ?_⟩
      have hsv := aval_rep hf s
      rw [hs] at hsv
      obtain ⟨b, n, c, hx, hn, hnews⟩ := hsrc w I ρ _ hr (aval_rep hf x)
      have hsv' : a.eval s = .slice none 0 0 := by generalize a.eval s = v at hsv; cases hsv; rfl
      have hpos : 0 < els.length := by rcases els with _ | _; exact absurd rfl he; simp
      rcases hnews with h0 | ⟨A, news, rfl, hcell, hflat⟩
      · omega
      · subst hn
        have hrun := run_append_nil (P := P) w t o.type e i z ht hi hz A els.length c news (by rw [hsz]; exact hflat.1) hcell hpos (by omega) (by rw [hby]; omega)
        have hg := grownCap_ge w els.length 0 e
        obtain ⟨g1, g2⟩ := grown_cells (olds := []) (news := news) (z := z.cells) (k := grownCap w els.length 0 e) hzs els.length (by simpa using hflat.1) hg
        simp only [List.nil_append] at g1 g2
        rw [show (#[] : Array Value) ++ news.toArray = news.toArray from by simp] at g1 g2
        obtain ⟨r1, r2, r3, r4⟩ := new_row (K := K) hr (push_drew w _) hK hflat g1 g2 hg
        exact ⟨_, _, I, _, .inl (hex a w _ _ (by rw [hsv', hx]; exact hrun)), r1, r2, r3, r4⟩
  · rename_i w0 olds hs
    obtain ⟨rfl, h⟩ := h
    refine ⟨_, _, h, fun a w I ρ hr hf => ?_⟩
    have hsv := aval_rep hf s
    rw [hs] at hsv
    obtain ⟨b, n, c, hx, hn, _⟩ := hsrc w I ρ _ hr (aval_rep hf x)
    simp at hn
    subst hn
    generalize hve : a.eval s = v at hsv
    have hsv' := hsv
    cases hsv with
    | sl a' A n' c' _ _ vs hn' hcap =>
      exact ⟨_, w, I, ρ, .inl (hex a w _ _ (by rw [hve, hx]; exact empty undef w a' n' c' 0 b c hcap)), hr, hsv', .refl .., .refl ..⟩
  · rename_i w0 olds hs
    obtain ⟨rfl, h1, h2⟩ := h
    by_cases he : els = []
    · subst he
      refine ⟨_, _, h1 rfl, fun a w I ρ hr hf => ?_⟩
      have hsv := aval_rep hf s
      rw [hs] at hsv
      obtain ⟨b, n, c, hx, hn, _⟩ := hsrc w I ρ _ hr (aval_rep hf x)
      simp at hn
      subst hn
      generalize hve : a.eval s = v at hsv
      have hsv' := hsv
      cases hsv with
      | slt a' A n' _ _ vs hn' =>
        exact ⟨_, w, I, ρ, .inl (hex a w _ _ (by rw [hve, hx]; exact empty undef w a' n' n' 0 b c (Nat.le_refl _))), hr, hsv', .refl .., .refl ..⟩
    · obtain ⟨hb1, hb2, h2⟩ := h2 he
      refine ⟨_, _, h2, fun a w I ρ hr hf => ?_⟩
      have hsv := aval_rep hf s
      rw [hs] at hsv
      obtain ⟨b, n, c, hx, hn, hnews⟩ := hsrc w I ρ _ hr (aval_rep hf x)
      have hpos : 0 < els.length := by rcases els with _ | _; exact absurd rfl he; simp
      rcases hnews with h0 | ⟨A, news, rfl, hcell, hflat⟩
      · omega
      · subst hn
        generalize hve : a.eval s = v at hsv
        cases hsv with
        | slt a' A' n' _ _ vs hn' ha' hw' hc' hr' =>
          subst hn'
          cases a' with
          | none =>
            have holds : olds = [] := by
              rcases ha' with h | ⟨h, _⟩
              · exact h
              · cases h
            subst holds
            have hrun := run_append_nil (P := P) w t o.type e i z ht hi hz A els.length c news (by rw [hsz]; exact hflat.1) hcell hpos (by omega) (by rw [hby]; simp at hb1; omega)
            have hg := grownCap_ge w els.length 0 e
            obtain ⟨g1, g2⟩ := grown_cells (olds := []) (news := news) (z := z.cells) (k := grownCap w els.length 0 e) hzs els.length (by simpa using hflat.1) hg
            simp only [List.nil_append] at g1 g2
            rw [show (#[] : Array Value) ++ news.toArray = news.toArray from by simp] at g1 g2
            obtain ⟨r1, r2, r3, r4⟩ := new_row (K := K) hr (push_drew w _) hK hflat g1 g2 hg
            simp only [List.length_nil, Nat.zero_add, List.nil_append]
            exact ⟨_, _, I, _, .inl (hex a w _ _ (by rw [hve, hx]; exact hrun)), r1, r2, r3, r4⟩
          | some a' =>
            have hflat0 : ∃ ov : List Value, (∀ (j : Nat) (v : Value), ov[j]? = some v → w.cell? (a'.add j) = some v) ∧ FlatRep w I ρ w0 ov olds := by
              rcases ha' with h | ⟨h, hsp, hI⟩
              · subst h; exact ⟨[], fun j v h => by simp at h, by simp, fun i e h => by simp at h⟩
              · cases h; exact pure_flat hsp hw' hc' hr'
            obtain ⟨ov, ho1, ho2⟩ := hflat0
            have hrun := run_append_grow (P := P) w t o.type e i z ht hi hz a' olds.length olds.length ov (by rw [hsz]; exact ho2.1) ho1 A els.length c news (by rw [hsz]; exact hflat.1) hcell (by omega) (by omega) (growslice_fits (by omega) (by rw [hby]; exact hb1))
            have hg := grownCap_ge w (olds.length + els.length) olds.length e
            obtain ⟨g1, g2⟩ := grown_cells (olds := ov) (news := news) (z := z.cells) (k := grownCap w (olds.length + els.length) olds.length e) hzs (olds.length + els.length) (by simp [ho2.1, hflat.1, Nat.add_mul]) hg
            obtain ⟨r1, r2, r3, r4⟩ := new_row (K := K) hr (push_drew w _) hK (ho2.append hflat) g1 g2 (by simpa using hg)
            simp only [List.length_append] at r2
            exact ⟨_, _, I, _, .inl (hex a w _ _ (by rw [hve, hx]; exact hrun)), r1, r2, r3, r4⟩
  · rename_i p w0 off n hs
    obtain ⟨⟨rfl, rfl⟩, olds, hob, hnle, hb1, hb2, h⟩ := h
    refine ⟨_, _, h, fun a w I ρ hr hf => ?_⟩
    have hsv := aval_rep hf s
    rw [hs] at hsv
    obtain ⟨b0, n0, c0, hx, hn0, hnews⟩ := hsrc w I ρ _ hr (aval_rep hf x)
    generalize hve : a.eval s = v at hsv
    cases hsv with
    | row _ _ _ _ b c C t' hb hn hB hC =>
      obtain ⟨hblt, hbI, hobj⟩ := own_norm hr hob hb
      obtain ⟨ob, hL, hnorm⟩ := join_some hob
      obtain ⟨C1, t1, hC1, hCs, hfl⟩ := flat_of_obj hobj
      rw [hB] at hC1
      cases hC1
      have hcut := hfl.cut 0 n (by omega)
      simp only [Nat.zero_mul, List.drop_zero, List.take_take] at hcut
      have hnw : n * w0 ≤ olds.length * w0 := Nat.mul_le_mul_right _ hnle
      rw [Nat.min_eq_left hnw] at hcut
      obtain ⟨news, hnl, hcell, hflat⟩ : ∃ news : List Value, (b0 = none ∧ n0 = 0 ∨ ∃ A, b0 = some A ∧ (∀ (j : Nat) (v : Value), news[j]? = some v → w.cell? (A.add j) = some v)) ∧ True ∧ FlatRep w I ρ w0 news els := by
        rcases hnews with h0 | ⟨A, news, rfl, hcell, hflat⟩
        · have : els = [] := List.eq_nil_of_length_eq_zero (by omega)
          subst this
          refine ⟨[], ?_, trivial, by simp, fun i e h => by simp at h⟩
          cases b0 with
          | none => exact .inl ⟨rfl, h0⟩
          | some A => exact .inr ⟨A, rfl, fun j v h => by simp at h⟩
        · exact ⟨news, .inr ⟨A, rfl, hcell⟩, trivial, hflat⟩
      have hall := FlatRep.append hcut hflat
      have hone := flat_scalar hflat hsc
      have hlen : (olds.take n).length = n := by simp; omega
      have hfull : (olds.take n ++ els).length = n + els.length := by simp; omega
      subst hn0
      by_cases hroom : n + els.length ≤ c
      · -- in place
        have hfit : n * w0 + news.length ≤ C.size := by
          rw [hflat.1, ← Nat.add_mul]
          refine Nat.le_trans (Nat.mul_le_mul_right _ hroom) (by simpa using hC)
        have hrun : (Builtin.append_ #[t, t] o.type #[.slice (some ⟨b, 0 * w0, none⟩) n c, .slice b0 els.length c0]).run P w = .ok (.slice (some ⟨b, 0 * w0, none⟩) (n + els.length) c) (w.setRow b (C.toList.take (n * w0) ++ news ++ C.toList.drop (n * w0 + news.length)).toArray) := by
          rw [Nat.zero_mul]
          rcases hnl with ⟨rfl, h0⟩ | ⟨A, rfl, hcell'⟩
          · have he : els = [] := List.eq_nil_of_length_eq_zero h0
            subst he
            have : news = [] := List.eq_nil_of_length_eq_zero (by rw [hflat.1]; simp)
            subst this
            have := empty undef w (some ⟨b, 0, none⟩) n c 0 none c0 (by simpa using hroom)
            simp only [List.length_nil, Nat.add_zero, List.append_nil, List.take_append_drop, Array.toArray_toList]
            rw [this, setRow_self w b C t' (0, 0) hB]
          · have hf := run_firstCells_some (P := P) w i.size els.length A els.length c0 news (by rw [hsz]; exact hflat.1) hcell'
            have hst := run_storeCells_at P b (n * i.size) t' news 0 C w hB (by rw [hsz]; simpa using hfit) hone
            simp only [Nat.add_zero] at hst
            rw [hsz] at hf hst
            simp [Builtin.append_, run_underlying ht, sizeOf, typeInfo, hi, hsz, Builtin.lenOf, hroom, hf, Addr.add_lit, hst]
        have hsize : (C.toList.take (n * w0) ++ news ++ C.toList.drop (n * w0 + news.length)).toArray.size = C.size := by simp; omega
        obtain ⟨r1, r2, r3⟩ := move_obj (K := K) (o' := .arr w0 (olds.take n ++ els)) hr hL hb (chg_setRow hB hsize) hK (fun hle => (hall.mono hle).obj (setRow_heap w b C _ t' _ hB) (fun q v hq => by
          have hlt := (List.getElem?_eq_some_iff.1 hq).1
          have : (C.toList.take (n * w0) ++ news ++ C.toList.drop (n * w0 + news.length))[q]? = some v := by
            rw [List.getElem?_append_left hlt]; exact hq
          simpa using this) (by rw [hsize]; have := hall.1; rw [hfull] at this; rw [this, Nat.add_mul]; rw [hflat.1] at hfit; exact hfit))
        refine ⟨_, _, I, _, .inl (hex a w _ _ (by rw [hve, hx]; exact hrun)), r1, ?_, r2, r3⟩
        exact Rep.row _ _ 0 _ b c _ t' (by rw [← hr.len]; simp) hroom (setRow_heap w b C _ t' _ hB) (by rw [hsize]; exact hC)
      · -- a new row
        have hpos : 0 < els.length := by omega
        rcases hnl with ⟨_, h0⟩ | ⟨A, rfl, hcell'⟩
        · omega
        · have hrun := run_append_grow (P := P) w t o.type e i z ht hi hz ⟨b, 0, none⟩ n c (C.toList.take (n * w0)) (by rw [hsz]; have := hcut.1; rw [hlen] at this; exact this) (fun j v hj => by
              rw [add_none rfl]
              rw [List.getElem?_take] at hj
              split at hj
              · simp only [World.cell?, hB]
                simpa using hj
              · cases hj) A els.length c0 news (by rw [hsz]; exact hflat.1) hcell' (by omega) (by omega) (growslice_fits (by omega) (by rw [hby]; exact hb1))
          have hg := grownCap_ge w (n + els.length) c e
          obtain ⟨g1, g2⟩ := grown_cells (olds := C.toList.take (n * w0)) (news := news) (z := z.cells) (k := grownCap w (n + els.length) c e) hzs (n + els.length) (by rw [hall.1, hfull]) hg
          obtain ⟨r1, r2, r3, r4⟩ := kill_new_row (K := K) (p := p) hr (push_drew w _) hK hall g1 g2 (by rw [hfull]; exact hg)
          rw [hfull] at r2
          refine ⟨_, _, I, _, .inl (hex a w _ _ (by rw [hve, hx, Nat.zero_mul]; exact hrun)), r1, r2, r3, r4⟩
  · exact h.elim
end Go.Proofs.Ytpjibokaeefhiaa.Tw
