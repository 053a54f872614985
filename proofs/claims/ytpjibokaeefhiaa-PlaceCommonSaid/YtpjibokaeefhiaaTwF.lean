import Derived.Test.YtpjibokaeefhiaaTwE
import Derived.Laws.BytesString
import Derived.Laws.BytesArg
/-! All operations that only tell a value. -/
namespace Go.Proofs.Ytpjibokaeefhiaa.Tw
open Go.RowKit
set_option linter.unusedVariables false
set_option linter.unusedSimpArgs false
def AV.known : AV → Bool
  | .any => false
  | .raw _ => false
  | _ => true
theorem cells_rep {w : World} {I : Nat → Prop} {ρ : List Nat} {v : Value} {a : AV} (h : Rep w I ρ v a) (hk : a.known = true) : RepL w I ρ v.cells.toList a.cells := by
  cases h with
  | any => cases hk
  | raw => cases hk
  | agg vs cs hl hr => exact ⟨by simpa [Value.cells, AV.cells] using hl, by simpa [Value.cells, AV.cells] using hr⟩
  | _ =>
    refine ⟨rfl, fun j v c hv hc => ?_⟩
    cases j with
    | zero =>
      simp [Value.cells] at hv
      simp [AV.cells] at hc
      subst hv hc
      first
        | exact .int _ _
        | exact .bool _
        | exact .str _
        | exact .nil
        | (rename_i h; exact .ref _ _ _ _ _ h)
        | (rename_i h1 h2 h3 h4; exact .imm _ _ _ h1 h2 h3 h4)
        | exact .nils
        | (rename_i h1 h2 h3 h4 h5 h6; exact .sl _ _ _ _ _ _ _ h1 h2 h3 h4 h5 h6)
        | (rename_i h1 h3 h4 h5 h6; exact .slt _ _ _ _ _ _ h1 h3 h4 h5 h6)
        | (rename_i h1 h2 h3 h4; exact .row _ _ _ _ _ _ _ _ h1 h2 h3 h4)
        | (rename_i h1 h2; exact .tup _ _ h1 h2)
        | (rename_i h1 h2 h3 h4; exact .func _ _ _ _ _ h1 h2 h3 h4)
        | exact .nilf
        | (rename_i h; exact .map _ _ h)
        | (rename_i h; exact .ifc _ _ _ h)
        | (rename_i h; exact .yield _ _ h)
    | succ j =>
      simp [Value.cells] at hv
theorem repL_set {w : World} {I : Nat → Prop} {ρ : List Nat} {vs : List Value} {cs : List AV} {v : Value} {c : AV} (h : RepL w I ρ vs cs) (hv : Rep w I ρ v c) (o : Nat) : RepL w I ρ (vs.set o v) (cs.set o c) := by
  refine ⟨by simp [h.1], fun j u d hu hd => ?_⟩
  rw [List.getElem?_set] at hu hd
  split at hu
  · rename_i e
    rw [if_pos e] at hd
    split at hu
    · split at hd
      · cases hu; cases hd; exact hv
      · cases hd
    · cases hu
  · rename_i e
    rw [if_neg e] at hd
    exact h.2 j u d hu hd
def aput : List AV → Nat → List AV → List AV
  | cells, _, [] => cells
  | cells, o, c :: cs => aput (cells.set o c) (o + 1) cs
def cput : List Value → Nat → List Value → List Value
  | cells, _, [] => cells
  | cells, o, c :: cs => cput (cells.set o c) (o + 1) cs
theorem put_rep {w : World} {I : Nat → Prop} {ρ : List Nat} : ∀ (us : List Value) (ds : List AV) (vs : List Value) (cs : List AV) (o : Nat), RepL w I ρ vs cs → RepL w I ρ us ds → RepL w I ρ (cput vs o us) (aput cs o ds)
  | [], [], vs, cs, o, h, _ => h
  | [], _ :: _, _, _, _, _, hu => by have := hu.1; simp at this
  | _ :: _, [], _, _, _, _, hu => by have := hu.1; simp at this
  | u :: us, d :: ds, vs, cs, o, h, hu => put_rep us ds _ _ (o + 1) (repL_set h (hu.2 0 u d rfl rfl) o) ⟨by have := hu.1; simpa using this, fun j v c hv hc => hu.2 (j + 1) v c hv hc⟩
theorem cput_length : ∀ (us : List Value) (vs : List Value) (o : Nat), (cput vs o us).length = vs.length
  | [], _, _ => rfl
  | u :: us, vs, o => by rw [cput, cput_length us]; simp
theorem aput_length : ∀ (us : List AV) (vs : List AV) (o : Nat), (aput vs o us).length = vs.length
  | [], _, _ => rfl
  | u :: us, vs, o => by rw [aput, aput_length us]; simp
theorem fold_cput (off : Nat) : ∀ (us : List Value) (k : Nat) (C : Array Value), ((us.zipIdx k).foldl (fun cs (x : Value × Nat) => cs.setIfInBounds (off + x.2) x.1) C) = (cput C.toList (off + k) us).toArray
  | [], k, C => by simp [cput]
  | u :: us, k, C => by
    rw [List.zipIdx_cons, List.foldl_cons, fold_cput off us (k + 1)]
    simp [cput, Nat.add_assoc]
def afill (place : Nat → Option (Nat × Nat)) (cells : List AV) : List (Nat × AV) → Option (List AV)
  | [] => some cells
  | (i, v) :: rest =>
    match place i with
    | none => none
    | some (off, size) => if v.known = true ∧ v.cells.length = size ∧ off + size ≤ cells.length then afill place (aput cells off v.cells) rest else none
theorem fill_rep {w : World} {I : Nat → Prop} {ρ : List Nat} (place : Nat → Option (Nat × Nat)) : ∀ (ps : List (Nat × Value)) (qs : List (Nat × AV)) (C : Array Value) (cs out : List AV), RepL w I ρ C.toList cs →
    ps.length = qs.length → (∀ (j : Nat) p q, ps[j]? = some p → qs[j]? = some q → p.1 = q.1 ∧ Rep w I ρ p.2 q.2) → afill place cs qs = some out → ∃ D, Instr.fill place C ps = some D ∧ RepL w I ρ D.toList out
  | [], [], C, cs, out, h, _, _, hf => by simp [afill] at hf; subst hf; exact ⟨C, rfl, h⟩
  | [], _ :: _, _, _, _, _, hl, _, _ => by simp at hl
  | _ :: _, [], _, _, _, _, hl, _, _ => by simp at hl
  | (i, v) :: ps, (i', a) :: qs, C, cs, out, h, hl, hr, hf => by
    obtain ⟨rfl, hva⟩ := hr 0 (i, v) (i', a) rfl rfl
    simp only [afill] at hf
    simp only [Instr.fill]
    cases hp : place i with
    | none => simp [hp] at hf
    | some x =>
      obtain ⟨off, size⟩ := x
      simp only [hp] at hf ⊢
      split at hf
      · rename_i hc
        obtain ⟨hk, hs, hle⟩ := hc
        have hvr := cells_rep hva hk
        have hsz : v.cells.size = size := by rw [← hs, ← hvr.1]; simp
        have hC : C.size = cs.length := by rw [← h.1]; simp
        have hno : ¬ (v.cells.size ≠ size || decide (off + v.cells.size > C.size)) = true := by simp [hsz]; omega
        rw [if_neg hno]
        have hfold : (v.cells.zipIdx.foldl (fun cs (x : Value × Nat) => cs.setIfInBounds (off + x.2) x.1) C) = (cput C.toList off v.cells.toList).toArray := by
          have := fold_cput off v.cells.toList 0 C
          rw [← Array.foldl_toList]
          simpa using this
        have := fill_rep place ps qs (cput C.toList off v.cells.toList).toArray (aput cs off a.cells) out (by simpa using put_rep _ _ _ _ off h hvr) (by simpa using hl) (fun j p q hp hq => hr (j + 1) p q hp hq) hf
        rw [← hfold] at this
        exact this
      · cases hf
def azero (P : Program) (t : TypeId) : Option AV := ((P.info? t).bind (·.zero)).map ofVal
def abuild (P : Program) (t : TypeId) (parts : List (Nat × AV)) (K : AV → Prop) : Prop :=
  match azero P t, P.underlying t with
  | some z, some (.struct fields) => z.known = true ∧ (∀ f ∈ fields.toList, (P.info? f.type).isSome = true) ∧ ∃ cs, afill (fun i => (fields[i]?).map fun (f : Field) => (f.offset, P.cellsOf f.type)) z.cells parts = some cs ∧ K (.agg cs)
  | some z, some (.array _ e) => z.known = true ∧ (P.info? e).isSome = true ∧ ∃ cs, afill (fun i => some (i * P.cellsOf e, P.cellsOf e)) z.cells parts = some cs ∧ K (.agg cs)
  | _, _ => False
theorem run_zeroValue {P : Program} {t : TypeId} {z : AV} (h : azero P t = some z) : ∃ v, (∀ w, (zeroValue t).run P w = .ok v w) ∧ ∀ w I ρ, Rep w I ρ v z := by
  unfold azero at h
  cases hi : P.info? t with
  | none => simp [hi] at h
  | some i =>
    simp only [hi, Option.bind_some] at h
    cases hz : i.zero with
    | none => simp [hz] at h
    | some v =>
      simp [hz] at h
      subst h
      exact ⟨v, fun w => by simp [zeroValue, typeInfo, hi, hz], fun w I ρ => ofVal_rep ..⟩
theorem mapM_places {P : Program} : ∀ (fs : List Field) (w : World), (∀ f ∈ fs, (P.info? f.type).isSome = true) →
    (fs.mapM (m := Sem) fun (f : Field) => do pure (f.offset, ← sizeOf f.type)).run P w = .ok (fs.map fun (f : Field) => (f.offset, P.cellsOf f.type)) w
  | [], w, _ => by rw [List.mapM_nil]; rfl
  | f :: fs, w, h => by
    rw [List.mapM_cons]
    simp only [Sem.run_bind, run_sizeOf' (h f (by simp)), Result.andThen_ok, Sem.run_pure, mapM_places fs w (fun g hg => h g (by simp [hg])), List.map_cons]
theorem abuild_ok {P : Program} {t : TypeId} {parts : List (Nat × AV)} {K : AV → Prop} (h : abuild P t parts K) :
    ∃ av, K av ∧ ∀ (w : World) (I : Nat → Prop) (ρ : List Nat) (ps : Array (Nat × Value)), ps.toList.length = parts.length → (∀ (j : Nat) p q, ps.toList[j]? = some p → parts[j]? = some q → p.1 = q.1 ∧ Rep w I ρ p.2 q.2) →
      ∃ r, (Instr.build t ps).run P w = .ok r w ∧ Rep w I ρ r av := by
  unfold abuild at h
  split at h
  · rename_i z fields hz ht
    obtain ⟨hk, hfs, cs, hf, h⟩ := h
    refine ⟨_, h, fun w I ρ ps hl hr => ?_⟩
    obtain ⟨v, hv, hrep⟩ := run_zeroValue hz
    have hz' := cells_rep (hrep w I ρ) hk
    obtain ⟨D, hD, hDr⟩ := fill_rep (fun i => (fields[i]?).map fun (f : Field) => (f.offset, P.cellsOf f.type)) ps.toList parts v.cells z.cells cs hz' hl hr hf
    have hm : (fields.mapM (m := Sem) fun (f : Field) => do pure (f.offset, ← sizeOf f.type)).run P w = .ok (fields.map fun (f : Field) => (f.offset, P.cellsOf f.type)) w := by
      have := mapM_places (P := P) fields.toList w hfs
      rw [← Array.toArray_toList (xs := fields), List.mapM_toArray]
      rw [Sem.run_map, this]
      simp
      exact Array.ext' (by simp)
    have hplace : (fun i : Nat => (fields.map fun (f : Field) => (f.offset, P.cellsOf f.type))[i]?) = (fun i : Nat => (fields[i]?).map fun (f : Field) => (f.offset, P.cellsOf f.type)) := by
      funext i; simp
    refine ⟨.agg D, ?_, ?_⟩
    · simp only [Instr.build, Sem.run_bind, hv, Result.andThen_ok, run_underlying ht, hm, hplace, hD]
      rfl
    · have : D = D.toList.toArray := by simp
      rw [this]
      exact .agg _ _ hDr.1 hDr.2
  · rename_i z n e hz ht
    obtain ⟨hk, hi, cs, hf, h⟩ := h
    refine ⟨_, h, fun w I ρ ps hl hr => ?_⟩
    obtain ⟨v, hv, hrep⟩ := run_zeroValue hz
    have hz' := cells_rep (hrep w I ρ) hk
    obtain ⟨D, hD, hDr⟩ := fill_rep (fun i => some (i * P.cellsOf e, P.cellsOf e)) ps.toList parts v.cells z.cells cs hz' hl hr hf
    refine ⟨.agg D, ?_, ?_⟩
    · simp only [Instr.build, Sem.run_bind, hv, Result.andThen_ok, run_underlying ht, run_sizeOf' hi, hD]
      rfl
    · have : D = D.toList.toArray := by simp
      rw [this]
      exact .agg _ _ hDr.1 hDr.2
  · exact h.elim
def aun (op : UnOp) (x : AV) (K : AV → Prop) : Prop :=
  match op, x with
  | .neg, .int k n => K (.int k (k.wrap (0 - n)))
  | .xor, .int k n => K (.int k (k.wrap (BitVec.ofInt k.bits (if k.signed then -1 else k.max) ^^^ BitVec.ofInt k.bits n).toNat))
  | .not, .bool b => K (.bool !b)
  | _, _ => False
theorem aun_ok {P : Program} {op : UnOp} {x : AV} {K : AV → Prop} (h : aun op x K) :
    ∃ av, K av ∧ ∀ (w : World) (I : Nat → Prop) (ρ : List Nat) (u : Value), Rep w I ρ u x → ∃ r, (Op.unary op u).run P w = .ok r w ∧ Rep w I ρ r av := by
  unfold aun at h
  split at h
  · exact ⟨_, h, fun w I ρ u hu => ⟨_, by rw [hu.int_inv]; simp [Op.unary, Op.intArith], .int _ _⟩⟩
  · exact ⟨_, h, fun w I ρ u hu => ⟨_, by rw [hu.int_inv]; simp [Op.unary, Op.intBits], .int _ _⟩⟩
  · exact ⟨_, h, fun w I ρ u hu => ⟨_, by rw [hu.bool_inv]; simp [Op.unary], .bool _⟩⟩
  · exact h.elim
def bytesAV (bs : List UInt8) : List AV := bs.map fun b => .int .u8 b.toNat
def aconv (P : Program) (src dst : TypeId) (x : AV) (K : AV → Prop) : Prop :=
  match P.underlying src, P.underlying dst, x with
  | some _, some (.int k), .int _ n => K (.int k (k.wrap n))
  | some _, some .string, .str s => K (.str s)
  | some (.slice e), some .string, .nils => P.underlying e = some (.int .u8) ∧ K (.str .empty)
  | some (.slice e), some .string, .sl w els => P.underlying e = some (.int .u8) ∧ w = 1 ∧ ∃ bs, els = bytesAV bs ∧ K (.str ⟨bs.toArray⟩)
  | some (.slice e), some .string, .slt w els => P.underlying e = some (.int .u8) ∧ w = 1 ∧ ∃ bs, els = bytesAV bs ∧ K (.str ⟨bs.toArray⟩)
  | _, _, _ => False
theorem push_bytes : ∀ (bs : List UInt8) (s : ByteArray), ((bs.map fun b => (b.toNat : Int)).foldl (fun r n => r.push (UInt8.ofNat n.toNat)) s) = ⟨s.data ++ bs.toArray⟩
  | [], s => by simp
  | b :: bs, s => by
    rw [List.map_cons, List.foldl_cons, push_bytes bs]
    simp [ByteArray.push]
theorem conv_bytes {P : Program} {src dst e : TypeId} (hs : P.underlying src = some (.slice e)) (hd : P.underlying dst = some .string) (he : P.underlying e = some (.int .u8)) {w : World} {I : Nat → Prop} {ρ : List Nat} {a : Option Addr} {A : Addr} {n c : Nat} {bs : List UInt8} {vs : Nat → Nat → Value}
    (hn : n = (bytesAV bs).length) (ha : bytesAV bs = [] ∨ (a = some A ∧ A.spot = none ∧ I A.block)) (hc : ∀ i j, i < (bytesAV bs).length → j < 1 → w.cell? ⟨A.block, A.off + (i * 1 + j), none⟩ = some (vs i j))
    (hr : ∀ (i : Nat) (e : AV) (j : Nat) (c : AV), (bytesAV bs)[i]? = some e → e.cells[j]? = some c → Rep w I ρ (vs i j) c) : (convert src dst (.slice a n c)).run P w = .ok (.string ⟨bs.toArray⟩) w := by
  rw [run_convert_bytes_string w src dst e _ n c hs he hd]
  have hlen : (bytesAV bs).length = bs.length := by simp [bytesAV]
  cases bs with
  | nil =>
    obtain rfl : n = 0 := by simpa [bytesAV] using hn
    cases a with
    | none => simp [Conv.bytesToString]; rfl
    | some a => rw [run_bytesToString w a 0 c [] (by simp [loadCells, loadCellsFrom])]; rfl
  | cons x xs =>
    rcases ha with h | ⟨rfl, hs', hI⟩
    · simp [bytesAV] at h
    · have hl := run_loadCells_list (P := P) w A (((x :: xs).map fun b => (b.toNat : Int)).map (Value.int .u8)) (fun j m hj => by
        rw [List.getElem?_map, List.getElem?_map] at hj
        cases hb : (x :: xs)[j]? with
        | none => rw [hb] at hj; cases hj
        | some b =>
          rw [hb] at hj
          cases hj
          have hjl := (List.getElem?_eq_some_iff.1 hb).1
          have h1 := hc j 0 (by omega) (by omega)
          have h2 := hr j (.int .u8 b.toNat) 0 (.int .u8 b.toNat) (by simp only [bytesAV, List.getElem?_map, hb, Option.map_some]) rfl
          rw [h2.int_inv] at h1
          rw [add_none hs']
          simpa using h1)
      rw [run_bytesToString w A n c ((x :: xs).map fun b => (b.toNat : Int)) (by rw [← hl]; simp [hn, hlen])]
      rw [push_bytes, show ByteArray.empty.data = #[] from rfl, Array.empty_append]
theorem aconv_ok {P : Program} {src dst : TypeId} {x : AV} {K : AV → Prop} (h : aconv P src dst x K) :
    ∃ av, K av ∧ ∀ (w : World) (I : Nat → Prop) (ρ : List Nat) (u : Value), Rep w I ρ u x → ∃ r, (convert src dst u).run P w = .ok r w ∧ Rep w I ρ r av := by
  unfold aconv at h
  split at h
  · rename_i d k k' n hs hd
    refine ⟨_, h, fun w I ρ u hu => ⟨_, ?_, .int _ _⟩⟩
    rw [hu.int_inv]
    simp [convert, run_underlying hs, run_underlying hd, Conv.intToInt]
  · rename_i d s hs hd
    refine ⟨_, h, fun w I ρ u hu => ⟨_, ?_, .str _⟩⟩
    rw [hu.str_inv]
    cases d <;> simp [convert, run_underlying hs, run_underlying hd]
  · rename_i e hs hd
    obtain ⟨he, h⟩ := h
    refine ⟨_, h, fun w I ρ u hu => ⟨_, ?_, .str _⟩⟩
    cases hu
    rw [run_convert_bytes_string w src dst e _ 0 0 hs he hd]
    simp [Conv.bytesToString]
  · rename_i e wd els hs hd
    obtain ⟨he, rfl, bs, rfl, h⟩ := h
    refine ⟨_, h, fun w I ρ u hu => ⟨_, ?_, .str _⟩⟩
    cases hu with
    | sl a A n c _ _ vs hn hcap ha hw hc hr => exact conv_bytes hs hd he hn ha hc hr
  · rename_i e wd els hs hd
    obtain ⟨he, rfl, bs, rfl, h⟩ := h
    refine ⟨_, h, fun w I ρ u hu => ⟨_, ?_, .str _⟩⟩
    cases hu with
    | slt a A n _ _ vs hn ha hw hc hr => exact conv_bytes hs hd he hn ha hc hr
  · exact h.elim
/-- All of them. -/
def pop (P : Program) (L : Store) (o : Oper) (g : Operand → AV) (K : AV → Prop) : Prop :=
  match o.op with
  | .move x => K (g x)
  | .assign x => K (g x)
  | .pick c a b => match g c with
    | .bool t => K (if t then g a else g b)
    | _ => False
  | .load t a => aloadAt P L t (g a) K
  | .nilCheck x => match g x with
    | .ref p w i f => K (.ref p w i f)
    | .imm cs => K (.imm cs)
    | .func (.func f) fs cs => K (.func (.func f) fs cs)
    | .func (.yield f) fs cs => K (.func (.yield f) fs cs)
    | _ => False
  | .binOp op t x y _ => abin P t op (g x) (g y) K
  | .unOp op _ x => aun op (g x) K
  | .convert src dst x => aconv P src dst (g x) K
  | .makeInterface t x => match P.underlying t with
    | some (.interface _) => False
    | some _ => K (.ifc t (g x))
    | none => False
  | .makeFunc fn first captured => K (.func fn (first.toList.map g) (captured.toList.map g))
  | .slice t x lo hi mx => aslice P t (g x) (lo.map g) (hi.map g) (mx.map g) K
  | .fieldAddr s x f => afaddr P s (g x) f K
  | .field t x f => afield P t (g x) f K
  | .indexAddr t x ix => aiaddr P t (g x) (g ix) K
  | .index t x ix => aindex P t (g x) (g ix) K
  | .extract t ix => match g t with
    | .tup vs => ∃ v, vs[ix]? = some v ∧ K v
    | _ => False
  | .build t parts => abuild P t (parts.toList.map fun p => (p.1, g p.2)) K
  | .call c => match c.callee with
    | .builtin .len => match c.args.toList, c.argTypes.toList with
      | [x], [t] => alen P t (g x) K
      | _, _ => False
    | .builtin .min => match c.args.toList with
      | [x, y] => match g x, g y with
        | .int k a, .int _ b => K (.int k (if b < a then b else a))
        | _, _ => False
      | _ => False
    | .builtin .max => match c.args.toList with
      | [x, y] => match g x, g y with
        | .int k a, .int _ b => K (.int k (if b > a then b else a))
        | _, _ => False
      | _ => False
    | _ => False
  | _ => False
theorem boundRel {w : World} {I : Nat → Prop} {ρ : List Nat} {a : Act} {fr : AFr} (h : RepF w I ρ a.tmps fr) (x : Option Operand) : BoundRel w I ρ (x.map a.eval) (x.map (aval fr)) := by
  cases x with
  | none => trivial
  | some x => exact aval_rep h x
theorem pop_ok {P : Program} {L : Store} {o : Oper} {fr : AFr} {K : AV → Prop} (h : pop P L o (aval fr) K) :
    ∃ av, K av ∧ ∀ (a : Act) (w : World) (I : Nat → Prop) (ρ : List Nat), RelW w I ρ L → RepF w I ρ a.tmps fr → ∃ v, (execOp a.eval o).run P w = .ok (.value v) w ∧ Rep w I ρ v av := by
  obtain ⟨dst, op, type, pos, after, guard⟩ := o
  unfold pop at h
  cases op <;> dsimp only at h <;> first | exact h.elim | skip
  case move x => exact ⟨_, h, fun a w I ρ _ hf => ⟨_, rfl, aval_rep hf x⟩⟩
  case assign x => exact ⟨_, h, fun a w I ρ _ hf => ⟨_, rfl, aval_rep hf x⟩⟩
  case pick c x y =>
    split at h
    · rename_i t hc
      refine ⟨_, h, fun a w I ρ _ hf => ?_⟩
      have h1 := aval_rep hf c
      rw [hc] at h1
      refine ⟨if t then a.eval x else a.eval y, by simp [execOp, h1.bool_inv, asBool], ?_⟩
      cases t
      · exact aval_rep hf y
      · exact aval_rep hf x
    · exact h.elim
  case load t x =>
    obtain ⟨av, hK, hl⟩ := aloadAt_ok h
    refine ⟨av, hK, fun a w I ρ hr hf => ?_⟩
    obtain ⟨r, h1, h2⟩ := hl w I ρ _ hr (aval_rep hf x)
    exact ⟨r, by simp [execOp, h1], h2⟩
  case nilCheck x =>
    split at h
    · rename_i hx
      refine ⟨_, h, fun a w I ρ _ hf => ?_⟩
      have h1 := aval_rep hf x
      rw [hx] at h1
      obtain ⟨v, hv⟩ : ∃ v, a.eval x = v := ⟨_, rfl⟩
      rw [hv] at h1
      refine ⟨v, ?_, h1⟩
      cases h1
      simp [execOp, hv]
    · rename_i hx
      refine ⟨_, h, fun a w I ρ _ hf => ?_⟩
      have h1 := aval_rep hf x
      rw [hx] at h1
      obtain ⟨v, hv⟩ : ∃ v, a.eval x = v := ⟨_, rfl⟩
      rw [hv] at h1
      refine ⟨v, ?_, h1⟩
      cases h1
      simp [execOp, hv]
    · rename_i hx
      refine ⟨_, h, fun a w I ρ _ hf => ?_⟩
      have h1 := aval_rep hf x
      rw [hx] at h1
      obtain ⟨v, hv⟩ : ∃ v, a.eval x = v := ⟨_, rfl⟩
      rw [hv] at h1
      refine ⟨v, ?_, h1⟩
      cases h1
      simp [execOp, hv]
    · rename_i hx
      refine ⟨_, h, fun a w I ρ _ hf => ?_⟩
      have h1 := aval_rep hf x
      rw [hx] at h1
      obtain ⟨v, hv⟩ : ∃ v, a.eval x = v := ⟨_, rfl⟩
      rw [hv] at h1
      refine ⟨v, ?_, h1⟩
      cases h1
      simp [execOp, hv]
    · exact h.elim
  case binOp bop t x y yt =>
    obtain ⟨av, hK, hl⟩ := abin_ok h
    refine ⟨av, hK, fun a w I ρ hr hf => ?_⟩
    obtain ⟨r, h1, h2⟩ := hl w I ρ _ _ x y (aval_rep hf x) (aval_rep hf y)
    exact ⟨r, by simp only [execOp, Sem.run_bind] at h1 ⊢; rw [h1]; rfl, h2⟩
  case unOp uop t x =>
    obtain ⟨av, hK, hl⟩ := aun_ok (P := P) h
    refine ⟨av, hK, fun a w I ρ hr hf => ?_⟩
    obtain ⟨r, h1, h2⟩ := hl w I ρ _ (aval_rep hf x)
    exact ⟨r, by simp [execOp, h1], h2⟩
  case convert s d x =>
    obtain ⟨av, hK, hl⟩ := aconv_ok h
    refine ⟨av, hK, fun a w I ρ hr hf => ?_⟩
    obtain ⟨r, h1, h2⟩ := hl w I ρ _ (aval_rep hf x)
    exact ⟨r, by simp [execOp, h1], h2⟩
  case makeInterface t x =>
    split at h
    · exact h.elim
    · rename_i d hn hd
      refine ⟨_, h, fun a w I ρ hr hf => ⟨_, ?_, .ifc _ _ _ (aval_rep hf x)⟩⟩
      cases d <;> first | exact absurd rfl (hn _) | simp [execOp, Instr.makeInterface, run_underlying hd]
    · exact h.elim
  case makeFunc fn first captured =>
    refine ⟨_, h, fun a w I ρ hr hf => ⟨_, rfl, ?_⟩⟩
    rw [← Array.toArray_toList (xs := first), ← Array.toArray_toList (xs := captured)]
    simp only [List.map_toArray]
    refine .func fn _ _ _ _ (by simp) (by simp) (fun j v c hv hc => ?_) (fun j v c hv hc => ?_)
    · rw [List.getElem?_map] at hv hc
      cases hx : first.toList[j]? with
      | none => rw [hx] at hv; cases hv
      | some x => rw [hx] at hv hc; cases hv; cases hc; exact aval_rep hf x
    · rw [List.getElem?_map] at hv hc
      cases hx : captured.toList[j]? with
      | none => rw [hx] at hv; cases hv
      | some x => rw [hx] at hv hc; cases hv; cases hc; exact aval_rep hf x
  case slice t x lo hi mx =>
    obtain ⟨av, hK, hl⟩ := aslice_ok h
    refine ⟨av, hK, fun a w I ρ hr hf => ?_⟩
    obtain ⟨r, h1, h2⟩ := hl w I ρ _ _ _ _ (aval_rep hf x) (boundRel hf lo) (boundRel hf hi) (boundRel hf mx)
    exact ⟨r, by simp [execOp, h1], h2⟩
  case fieldAddr s x f =>
    obtain ⟨av, hK, hl⟩ := afaddr_ok h
    refine ⟨av, hK, fun a w I ρ hr hf => ?_⟩
    obtain ⟨r, h1, h2⟩ := hl w I ρ _ (aval_rep hf x)
    exact ⟨r, by simp [execOp, h1], h2⟩
  case field t x f =>
    obtain ⟨av, hK, hl⟩ := afield_ok h
    refine ⟨av, hK, fun a w I ρ hr hf => ?_⟩
    obtain ⟨r, h1, h2⟩ := hl w I ρ _ (aval_rep hf x)
    exact ⟨r, by simp [execOp, h1], h2⟩
  case indexAddr t x ix =>
    obtain ⟨av, hK, hl⟩ := aiaddr_ok h
    refine ⟨av, hK, fun a w I ρ hr hf => ?_⟩
    obtain ⟨r, h1, h2⟩ := hl w I ρ _ _ (aval_rep hf x) (aval_rep hf ix)
    exact ⟨r, by simp [execOp, h1], h2⟩
  case index t x ix =>
    obtain ⟨av, hK, hl⟩ := aindex_ok h
    refine ⟨av, hK, fun a w I ρ hr hf => ?_⟩
    obtain ⟨r, h1, h2⟩ := hl w I ρ _ _ (aval_rep hf x) (aval_rep hf ix)
    exact ⟨r, by simp [execOp, h1], h2⟩
  case extract t ix =>
    split at h
    · rename_i vs hx
      obtain ⟨c, hc, h⟩ := h
      refine ⟨_, h, fun a w I ρ hr hf => ?_⟩
      have h1 := aval_rep hf t
      rw [hx] at h1
      obtain ⟨us, hu, hl, hrep⟩ := h1.tup_inv
      have hlt := (List.getElem?_eq_some_iff.1 hc).1
      have hv : us[ix]? = some us[ix] := List.getElem?_eq_getElem (by omega)
      exact ⟨us[ix], by simp [execOp, hu, Instr.extract, hv], hrep ix _ _ hv hc⟩
    · exact h.elim
  case build t parts =>
    obtain ⟨av, hK, hl⟩ := abuild_ok h
    refine ⟨av, hK, fun a w I ρ hr hf => ?_⟩
    obtain ⟨r, h1, h2⟩ := hl w I ρ (parts.map fun p => (p.1, a.eval p.2)) (by simp) (fun j p q hp hq => by
      simp only [Array.toList_map, List.getElem?_map] at hp hq
      cases hx : parts.toList[j]? with
      | none => rw [hx] at hp; cases hp
      | some x => rw [hx] at hp hq; cases hp; cases hq; exact ⟨rfl, aval_rep hf x.2⟩)
    exact ⟨r, by simp only [execOp, Sem.run_bind]; rw [show (parts.map fun x => match x with | (i, x) => (i, a.eval x)) = parts.map fun p => (p.1, a.eval p.2) from rfl, h1]; rfl, h2⟩
  case call c =>
    obtain ⟨callee, args, ats⟩ := c
    cases callee <;> dsimp only at h <;> first | exact h.elim | skip
    rename_i b
    cases b <;> dsimp only at h <;> first | exact h.elim | skip
    case len =>
      split at h
      · rename_i x t hx ht
        obtain ⟨av, hK, hl⟩ := alen_ok h
        refine ⟨av, hK, fun a w I ρ hr hf => ?_⟩
        have e1 : args = #[x] := by rw [← Array.toArray_toList (xs := args), hx]
        have e2 : ats[0]? = some t := by rw [← Array.getElem?_toList, ht]; rfl
        obtain ⟨r, h1, h2⟩ := hl w I ρ _ ats type e2 (aval_rep hf x)
        exact ⟨r, by simp [execOp, resolve, invoke, builtin, e1, h1], h2⟩
      · exact h.elim
    case min =>
      split at h
      · rename_i x y hx
        split at h
        · rename_i k n k' m hgx hgy
          refine ⟨_, h, fun a w I ρ hr hf => ⟨_, ?_, .int _ _⟩⟩
          have e1 : args = #[x, y] := by rw [← Array.toArray_toList (xs := args), hx]
          have h1 := aval_rep hf x
          have h2 := aval_rep hf y
          rw [hgx] at h1
          rw [hgy] at h2
          simp [execOp, resolve, invoke, builtin, e1, h1.int_inv, h2.int_inv, run_min_int2]
        · exact h.elim
      · exact h.elim
    case max =>
      split at h
      · rename_i x y hx
        split at h
        · rename_i k n k' m hgx hgy
          refine ⟨_, h, fun a w I ρ hr hf => ⟨_, ?_, .int _ _⟩⟩
          have e1 : args = #[x, y] := by rw [← Array.toArray_toList (xs := args), hx]
          have h1 := aval_rep hf x
          have h2 := aval_rep hf y
          rw [hgx] at h1
          rw [hgy] at h2
          simp [execOp, resolve, invoke, builtin, e1, h1.int_inv, h2.int_inv, run_max_int2]
        · exact h.elim
      · exact h.elim
end Go.Proofs.Ytpjibokaeefhiaa.Tw
