import Derived.Test.YtpjibokaeefhiaaTwC
/-! The operations that only tell a value: addresses, parts, cuts, lengths. -/
namespace Go.Proofs.Ytpjibokaeefhiaa.Tw
open Go.RowKit
set_option linter.unusedVariables false
set_option linter.unusedSimpArgs false
/-- An element's address. -/
def aiaddr (P : Program) (t : TypeId) (x ix : AV) (K : AV → Prop) : Prop :=
  match ix with
  | .int _ i =>
    match P.underlying t, x with
    | some (.slice e), .sl w els => ((P.info? e).isSome = true ∧ P.cellsOf e = w) ∧ 0 ≤ i ∧ ∃ el, els[i.toNat]? = some el ∧ K (.imm el.cells)
    | some (.slice e), .slt w els => ((P.info? e).isSome = true ∧ P.cellsOf e = w) ∧ 0 ≤ i ∧ ∃ el, els[i.toNat]? = some el ∧ K (.imm el.cells)
    | some (.slice e), .row p w off n => ((P.info? e).isSome = true ∧ P.cellsOf e = w) ∧ 0 ≤ i ∧ i < n ∧ K (.ref p w (off + i.toNat) 0)
    | some (.array n e), .ref p w i0 f => ((P.info? e).isSome = true) ∧ 0 ≤ i ∧ i < n ∧ K (.ref p w i0 (f + i.toNat * P.cellsOf e))
    | some (.array n e), .imm cs => ((P.info? e).isSome = true) ∧ 0 ≤ i ∧ i < n ∧ K (.imm (cs.drop (i.toNat * P.cellsOf e)))
    | _, _ => False
  | _ => False
theorem run_indexAt_sl {P : Program} {t e : TypeId} (ht : P.underlying t = some (.slice e)) (hi : (P.info? e).isSome = true) (w : World) (A : Addr) (n c : Nat) (k : IntKind) (i : Int) (h0 : 0 ≤ i) (h1 : i < n) :
    (Instr.indexAt t (.slice (some A) n c) (.int k i)).run P w = .ok (.pointer (some (A.add (i.toNat * P.cellsOf e)))) w := by
  simp [Instr.indexAt, asIntOf, run_underlying ht, run_sizeOf' hi, h0, h1]
theorem run_indexAt_ar {P : Program} {t e : TypeId} {n : Nat} (ht : P.underlying t = some (.array n e)) (hi : (P.info? e).isSome = true) (w : World) (A : Addr) (k : IntKind) (i : Int) (h0 : 0 ≤ i) (h1 : i < n) :
    (Instr.indexAt t (.pointer (some A)) (.int k i)).run P w = .ok (.pointer (some (A.add (i.toNat * P.cellsOf e)))) w := by
  simp [Instr.indexAt, asIntOf, run_underlying ht, run_sizeOf' hi, h0, h1, Instr.sureAddr]
theorem aiaddr_ok {P : Program} {t : TypeId} {x ix : AV} {K : AV → Prop} (h : aiaddr P t x ix K) :
    ∃ av, K av ∧ ∀ (w : World) (I : Nat → Prop) (ρ : List Nat) (u v : Value), Rep w I ρ u x → Rep w I ρ v ix → ∃ r, (Instr.indexAt t u v).run P w = .ok r w ∧ Rep w I ρ r av := by
  unfold aiaddr at h
  split at h
  · rename_i k i
    have pure : ∀ (e : TypeId) (els : List AV) (el : AV) (w : World) (I : Nat → Prop) (ρ : List Nat) (a : Option Addr) (A : Addr) (n c : Nat) (vs : Nat → Nat → Value), P.underlying t = some (.slice e) → (P.info? e).isSome = true → 0 ≤ i → els[i.toNat]? = some el →
        n = els.length → (els = [] ∨ (a = some A ∧ A.spot = none ∧ I A.block)) → (∀ e' ∈ els, e'.cells.length = P.cellsOf e) →
        (∀ i j, i < els.length → j < P.cellsOf e → w.cell? ⟨A.block, A.off + (i * P.cellsOf e + j), none⟩ = some (vs i j)) →
        (∀ (i : Nat) (e' : AV) (j : Nat) (c : AV), els[i]? = some e' → e'.cells[j]? = some c → Rep w I ρ (vs i j) c) → ∃ r, (Instr.indexAt t (.slice a n c) (.int k i)).run P w = .ok r w ∧ Rep w I ρ r (.imm el.cells) := by
      intro e els el w I ρ a A n c vs ht hi h0 he hn ha hw hc hr
      have hlt : i.toNat < els.length := (List.getElem?_eq_some_iff.1 he).1
      rcases ha with rfl | ⟨rfl, hs, hI⟩
      · simp at hlt
      · refine ⟨_, run_indexAt_sl ht hi w A n c k i h0 (by omega), ?_⟩
        rw [add_none hs]
        have hl := hw el (List.mem_of_getElem? he)
        exact .imm _ _ (fun j => vs i.toNat j) rfl hI (fun j hj => by
          have := hc i.toNat j hlt (by omega)
          rwa [← Nat.add_assoc] at this) (fun j c hc' => hr _ _ j c he hc')
    split at h
    · rename_i e wd els ht
      obtain ⟨⟨hi, rfl⟩, h0, el, he, h⟩ := h
      refine ⟨_, h, fun w I ρ u v hu hv => ?_⟩
      rw [hv.int_inv]
      cases hu with
      | sl a A n c _ _ vs hn hcap ha hw hc hr => exact pure e els el w I ρ a A n c vs ht hi h0 he hn ha hw hc hr
    · rename_i e wd els ht
      obtain ⟨⟨hi, rfl⟩, h0, el, he, h⟩ := h
      refine ⟨_, h, fun w I ρ u v hu hv => ?_⟩
      rw [hv.int_inv]
      cases hu with
      | slt a A n _ _ vs hn ha hw hc hr => exact pure e els el w I ρ a A n n vs ht hi h0 he hn ha hw hc hr
    · rename_i e p wd off n ht
      obtain ⟨⟨hi, rfl⟩, h0, h1, h⟩ := h
      refine ⟨_, h, fun w I ρ u v hu hv => ?_⟩
      rw [hv.int_inv]
      cases hu with
      | row _ _ _ _ b c C t hb hn hB hC =>
        refine ⟨_, run_indexAt_sl ht hi w _ n c k i h0 h1, ?_⟩
        rw [add_none rfl, ← Nat.add_mul]
        exact .ref p _ (off + i.toNat) 0 b hb
    · rename_i n e p wd i0 f ht
      obtain ⟨hi, h0, h1, h⟩ := h
      refine ⟨_, h, fun w I ρ u v hu hv => ?_⟩
      rw [hv.int_inv]
      cases hu with
      | ref _ _ _ _ b hb =>
        refine ⟨_, run_indexAt_ar ht hi w _ k i h0 h1, ?_⟩
        rw [add_none rfl, Nat.add_assoc]
        exact .ref p _ _ _ b hb
    · rename_i n e cs ht
      obtain ⟨hi, h0, h1, h⟩ := h
      refine ⟨_, h, fun w I ρ u v hu hv => ?_⟩
      rw [hv.int_inv]
      cases hu with
      | imm a _ vs hsp hI hc hrep =>
        refine ⟨_, run_indexAt_ar ht hi w _ k i h0 h1, ?_⟩
        rw [add_none hsp]
        refine .imm _ _ (fun j => vs (i.toNat * P.cellsOf e + j)) rfl hI (fun j hj => ?_) (fun j c hc' => hrep _ c (by rwa [List.getElem?_drop] at hc'))
        rw [List.length_drop] at hj
        have := hc (i.toNat * P.cellsOf e + j) (by omega)
        rwa [← Nat.add_assoc] at this
    · exact h.elim
  · exact h.elim
/-- A part of a struct's or an array's cells. -/
theorem run_part {P : Program} {t : TypeId} {cs : List AV} {o : Nat} {K : AV → Prop} (h : aload P t (cs.drop o) K) :
    ∃ av, K av ∧ ∀ (w : World) (I : Nat → Prop) (ρ : List Nat) (vs : List Value), vs.length = cs.length → (∀ (j : Nat) (v : Value) (c : AV), vs[j]? = some v → cs[j]? = some c → Rep w I ρ v c) →
      ∃ v, (part t vs.toArray o).run P w = .ok v w ∧ Rep w I ρ v av := by
  have agg : ∀ d, P.underlying t = some d → aggD d = true → (P.info? t).isSome = true → P.cellsOf t ≤ (cs.drop o).length → ∀ (w : World) (I : Nat → Prop) (ρ : List Nat) (vs : List Value), vs.length = cs.length → (∀ (j : Nat) (v : Value) (c : AV), vs[j]? = some v → cs[j]? = some c → Rep w I ρ v c) →
      ∃ v, (part t vs.toArray o).run P w = .ok v w ∧ Rep w I ρ v (.agg ((cs.drop o).take (P.cellsOf t))) := by
    intro d hd h1 h2 h3 w I ρ vs hl hr
    refine ⟨.agg (vs.toArray.extract o (o + P.cellsOf t)), by simp [part, Sem.run_bind, run_isAgg hd, h1, run_sizeOf' h2], ?_⟩
    have : vs.toArray.extract o (o + P.cellsOf t) = ((vs.drop o).take (P.cellsOf t)).toArray := by simp
    rw [this]
    refine .agg _ _ (by simp [hl]) fun j v c hv hc => ?_
    rw [List.getElem?_take] at hv hc
    split at hv
    · rename_i hj
      rw [if_pos hj, List.getElem?_drop] at hc
      rw [List.getElem?_drop] at hv
      exact hr _ v c hv hc
    · cases hv
  unfold aload at h
  split at h
  · rename_i fs hd
    obtain ⟨h1, h2, h⟩ := h
    exact ⟨_, h, agg _ hd rfl h1 h2⟩
  · rename_i n e hd
    obtain ⟨h1, h2, h⟩ := h
    exact ⟨_, h, agg _ hd rfl h1 h2⟩
  · rename_i d hn1 hn2 hd
    cases hcs : cs.drop o with
    | nil => rw [hcs] at h; exact h.elim
    | cons c rest =>
      rw [hcs] at h
      refine ⟨c, h, fun w I ρ vs hl hr => ?_⟩
      have h0 : cs[o]? = some c := by
        have := congrArg (fun l => l[0]?) hcs
        simpa using this
      have hlt := (List.getElem?_eq_some_iff.1 h0).1
      have hv : vs[o]? = some vs[o] := List.getElem?_eq_getElem (by omega)
      have : aggD d = false := by cases d <;> first | rfl | exact absurd rfl (hn1 _) | exact absurd rfl (hn2 _ _)
      exact ⟨vs[o], by simp [part, Sem.run_bind, run_isAgg hd, this, hv], hr o _ c hv h0⟩
  · exact h.elim
def afield (P : Program) (t : TypeId) (x : AV) (f : Nat) (K : AV → Prop) : Prop :=
  match P.underlying t, x with
  | some (.struct fields), .agg cs => match fields[f]? with
    | some fd => aload P fd.type (cs.drop fd.offset) K
    | none => False
  | _, _ => False
theorem afield_ok {P : Program} {t : TypeId} {x : AV} {f : Nat} {K : AV → Prop} (h : afield P t x f K) :
    ∃ av, K av ∧ ∀ (w : World) (I : Nat → Prop) (ρ : List Nat) (u : Value), Rep w I ρ u x → ∃ r, (Instr.field t u f).run P w = .ok r w ∧ Rep w I ρ r av := by
  unfold afield at h
  split at h
  · rename_i fields cs ht
    split at h
    · rename_i fd hf
      obtain ⟨av, hK, hp⟩ := run_part h
      refine ⟨av, hK, fun w I ρ u hu => ?_⟩
      obtain ⟨vs, rfl, hl, hr⟩ := hu.agg_inv
      obtain ⟨v, hv, hrep⟩ := hp w I ρ vs hl hr
      exact ⟨v, by simp [Instr.field, run_underlying ht, hf, asAgg, hv], hrep⟩
    · exact h.elim
  · exact h.elim
def aindex (P : Program) (t : TypeId) (x ix : AV) (K : AV → Prop) : Prop :=
  match ix with
  | .int _ i =>
    match P.underlying t, x with
    | some .string, .str s => 0 ≤ i ∧ ∃ b, s.data[i.toNat]? = some b ∧ K (.int .u8 b.toNat)
    | some (.array n e), .agg cs => (P.info? e).isSome = true ∧ 0 ≤ i ∧ i < n ∧ aload P e (cs.drop (i.toNat * P.cellsOf e)) K
    | _, _ => False
  | _ => False
theorem aindex_ok {P : Program} {t : TypeId} {x ix : AV} {K : AV → Prop} (h : aindex P t x ix K) :
    ∃ av, K av ∧ ∀ (w : World) (I : Nat → Prop) (ρ : List Nat) (u v : Value), Rep w I ρ u x → Rep w I ρ v ix → ∃ r, (Instr.index t u v).run P w = .ok r w ∧ Rep w I ρ r av := by
  unfold aindex at h
  split at h
  · rename_i k i
    split at h
    · rename_i s ht
      obtain ⟨h0, b, hb, h⟩ := h
      refine ⟨_, h, fun w I ρ u v hu hv => ⟨_, ?_, .int _ _⟩⟩
      rw [hv.int_inv, hu.str_inv]
      have hlt := (Array.getElem?_eq_some_iff.1 hb)
      obtain ⟨hlt, hb'⟩ := hlt
      have h1 : i.toNat < s.size := hlt
      have h2 : s[i.toNat]? = some b := by rw [ByteArray.getElem?_lt' s _ h1]; exact congrArg some hb'
      simp [Instr.index, asIntOf, run_underlying ht, h0, h2]
    · rename_i n e cs ht
      obtain ⟨hi, h0, h1, h⟩ := h
      obtain ⟨av, hK, hp⟩ := run_part h
      refine ⟨av, hK, fun w I ρ u v hu hv => ?_⟩
      rw [hv.int_inv]
      obtain ⟨vs, rfl, hl, hr⟩ := hu.agg_inv
      obtain ⟨r, hr1, hrep⟩ := hp w I ρ vs hl hr
      exact ⟨r, by simp [Instr.index, asIntOf, run_underlying ht, h0, h1, run_sizeOf' hi, hr1], hrep⟩
    · exact h.elim
  · exact h.elim
/-- Lengths. -/
def alen (P : Program) (t : TypeId) (x : AV) (K : AV → Prop) : Prop :=
  match P.underlying t, x with
  | some .string, .str s => K (.int .i64 s.size)
  | some (.slice _), .nils => K (.int .i64 0)
  | some (.slice _), .sl _ els => K (.int .i64 els.length)
  | some (.slice _), .slt _ els => K (.int .i64 els.length)
  | some (.slice _), .row _ _ _ n => K (.int .i64 n)
  | some (.array n _), _ => K (.int .i64 n)
  | _, _ => False
theorem alen_ok {P : Program} {t : TypeId} {x : AV} {K : AV → Prop} (h : alen P t x K) :
    ∃ av, K av ∧ ∀ (w : World) (I : Nat → Prop) (ρ : List Nat) (u : Value) (ats : Array TypeId) (ty : TypeId), ats[0]? = some t → Rep w I ρ u x → ∃ r, (Builtin.len_ ats ty #[u]).run P w = .ok r w ∧ Rep w I ρ r av := by
  unfold alen at h
  split at h
  · rename_i ht; refine ⟨_, h, fun w I ρ u ats ty ha hu => ⟨_, ?_, .int _ _⟩⟩; cases hu; simp [Builtin.len_, ha, run_underlying ht, goInt]
  · rename_i ht; refine ⟨_, h, fun w I ρ u ats ty ha hu => ⟨_, ?_, .int _ _⟩⟩; cases hu; simp [Builtin.len_, ha, run_underlying ht, goInt]
  · rename_i ht; refine ⟨_, h, fun w I ρ u ats ty ha hu => ⟨_, ?_, .int _ _⟩⟩; cases hu with | sl a A n c _ _ vs hn => simp [Builtin.len_, ha, run_underlying ht, goInt, hn]
  · rename_i ht; refine ⟨_, h, fun w I ρ u ats ty ha hu => ⟨_, ?_, .int _ _⟩⟩; cases hu with | slt a A n _ _ vs hn => simp [Builtin.len_, ha, run_underlying ht, goInt, hn]
  · rename_i ht; refine ⟨_, h, fun w I ρ u ats ty ha hu => ⟨_, ?_, .int _ _⟩⟩; cases hu; simp [Builtin.len_, ha, run_underlying ht, goInt]
  · rename_i ht; refine ⟨_, h, fun w I ρ u ats ty ha hu => ⟨_, ?_, .int _ _⟩⟩; simp [Builtin.len_, ha, run_underlying ht, goInt]
  · exact h.elim
/-- A bound of a cut. -/
def abound (x : Option AV) (d : Nat) (K : Nat → Prop) : Prop :=
  match x with
  | none => K d
  | some (.int _ i) => 0 ≤ i ∧ K i.toNat
  | _ => False
theorem run_sliceBound' {P : Program} {w : World} (k : IntKind) (i : Int) (y : Nat) (code : BoundsCode) (h0 : 0 ≤ i) (h1 : i ≤ y) : (Instr.sliceBound (.int k i) y code).run P w = .ok i.toNat w := by
  simp [Instr.sliceBound, asIntOf, h0, h1]
/-- A cut of a slice or a string: what is cut lies within the length; without a third bound, or with one. -/
def aslice (P : Program) (t : TypeId) (x : AV) (lo hi mx : Option AV) (K : AV → Prop) : Prop :=
  match P.underlying t, x, mx with
  | some .string, .str s, none => abound lo 0 fun l => abound hi s.size fun h => l ≤ h ∧ h ≤ s.size ∧ K (.str (s.extract l h))
  | some (.slice e), .sl w els, none => (P.info? e).isSome = true ∧ P.cellsOf e = w ∧ abound lo 0 fun l => abound hi els.length fun h => l ≤ h ∧ h ≤ els.length ∧ K (.sl w ((els.take h).drop l))
  | some (.slice e), .sl w els, some m => (P.info? e).isSome = true ∧ P.cellsOf e = w ∧ hi.isSome = true ∧ abound lo 0 fun l => abound hi els.length fun h => abound (some m) 0 fun m => l ≤ h ∧ h = m ∧ h ≤ els.length ∧ K (.slt w ((els.take h).drop l))
  | some (.slice e), .slt w els, none => (P.info? e).isSome = true ∧ P.cellsOf e = w ∧ abound lo 0 fun l => abound hi els.length fun h => l ≤ h ∧ h ≤ els.length ∧ K (.sl w ((els.take h).drop l))
  | some (.slice e), .slt w els, some m => (P.info? e).isSome = true ∧ P.cellsOf e = w ∧ hi.isSome = true ∧ abound lo 0 fun l => abound hi els.length fun h => abound (some m) 0 fun m => l ≤ h ∧ h = m ∧ h ≤ els.length ∧ K (.slt w ((els.take h).drop l))
  | some (.slice e), .nils, none => (P.info? e).isSome = true ∧ abound lo 0 fun l => abound hi 0 fun h => l ≤ h ∧ h ≤ 0 ∧ K .nils
  | some (.slice e), .nils, some m => (P.info? e).isSome = true ∧ hi.isSome = true ∧ abound lo 0 fun l => abound hi 0 fun h => abound (some m) 0 fun m => l ≤ h ∧ h = m ∧ h ≤ 0 ∧ K .nils
  | some (.slice e), .row p w off n, none => (P.info? e).isSome = true ∧ P.cellsOf e = w ∧ match lo with
    | none => abound hi n fun h => h ≤ n ∧ K (.row p w off h)
    | some l => abound (some l) 0 fun l => abound hi n fun h => (l < h ∧ h ≤ n ∧ K (.row p w (off + l) (h - l))) ∨ (l = h ∧ h ≤ n ∧ K (.sl w []))
  | some (.slice e), .row p w off n, some m => (P.info? e).isSome = true ∧ P.cellsOf e = w ∧ hi.isSome = true ∧ lo = none ∧ abound hi n fun h => abound (some m) 0 fun m => h = m ∧ h ≤ n ∧ K (.row p w off h)
  | _, _, _ => False
/-- A bound of the model, by an abstract one. -/
def BoundRel (w : World) (I : Nat → Prop) (ρ : List Nat) : Option Value → Option AV → Prop
  | none, none => True
  | some v, some a => Rep w I ρ v a
  | _, _ => False
theorem abound_ok {x : Option AV} {d : Nat} {K : Nat → Prop} (h : abound x d K) : ∃ n, K n ∧ ∀ (P : Program) (w : World) (I : Nat → Prop) (ρ : List Nat) (v : Option Value), BoundRel w I ρ v x →
    (v = none ∧ x = none ∧ n = d) ∨ ∃ u, v = some u ∧ x.isSome = true ∧ ∀ (y : Nat) (code : BoundsCode), n ≤ y → (Instr.sliceBound u y code).run P w = .ok n w := by
  unfold abound at h
  split at h
  · refine ⟨d, h, fun P w I ρ v hv => ?_⟩
    cases v with
    | none => exact .inl ⟨rfl, rfl, rfl⟩
    | some v => exact hv.elim
  · rename_i k i
    obtain ⟨h0, h⟩ := h
    refine ⟨_, h, fun P w I ρ v hv => ?_⟩
    cases v with
    | none => exact hv.elim
    | some v =>
      have := Rep.int_inv hv
      subst this
      exact .inr ⟨_, rfl, rfl, fun y code hy => run_sliceBound' _ _ _ _ h0 (by omega)⟩
  · exact h.elim
theorem run_slice2 {P : Program} {t e : TypeId} (ht : P.underlying t = some (.slice e)) (hi : (P.info? e).isSome = true) (w : World) (a : Option Addr) (len cap l h : Nat) (lo hh : Option Value) (h1 : l ≤ h) (h2 : h ≤ len) (h3 : len ≤ cap)
    (hl : (lo = none ∧ l = 0) ∨ ∃ u, lo = some u ∧ ∀ (y : Nat) (code : BoundsCode), l ≤ y → (Instr.sliceBound u y code).run P w = .ok l w)
    (hhh : (hh = none ∧ h = len) ∨ ∃ u, hh = some u ∧ ∀ (y : Nat) (code : BoundsCode), h ≤ y → (Instr.sliceBound u y code).run P w = .ok h w) :
    (Instr.sliceAt t (.slice a len cap) lo hh none).run P w = .ok (.slice (if cap = l then a else a.map (·.add (l * P.cellsOf e))) (h - l) (cap - l)) w := by
  have hc : h ≤ cap := by omega
  rcases hl with ⟨rfl, rfl⟩ | ⟨u, rfl, hu⟩ <;> rcases hhh with ⟨rfl, rfl⟩ | ⟨v, rfl, hv⟩
  · simp [Instr.sliceAt, Instr.slice, run_underlying ht, Instr.sliceBounds, run_sizeOf' hi]
  · simp [Instr.sliceAt, Instr.slice, run_underlying ht, Instr.sliceBounds, run_sizeOf' hi, hv cap _ hc]
  · simp [Instr.sliceAt, Instr.slice, run_underlying ht, Instr.sliceBounds, run_sizeOf' hi, hu h _ h1]
  · simp [Instr.sliceAt, Instr.slice, run_underlying ht, Instr.sliceBounds, run_sizeOf' hi, hv cap _ hc, hu h _ h1]
theorem run_slice3 {P : Program} {t e : TypeId} (ht : P.underlying t = some (.slice e)) (hi : (P.info? e).isSome = true) (w : World) (a : Option Addr) (len cap l h m : Nat) (lo : Option Value) (hh mm : Value) (h1 : l ≤ h) (h2 : h ≤ m) (h3 : m ≤ cap)
    (hl : (lo = none ∧ l = 0) ∨ ∃ u, lo = some u ∧ ∀ (y : Nat) (code : BoundsCode), l ≤ y → (Instr.sliceBound u y code).run P w = .ok l w)
    (hhh : ∀ (y : Nat) (code : BoundsCode), h ≤ y → (Instr.sliceBound hh y code).run P w = .ok h w) (hmm : ∀ (y : Nat) (code : BoundsCode), m ≤ y → (Instr.sliceBound mm y code).run P w = .ok m w) :
    (Instr.sliceAt t (.slice a len cap) lo (some hh) (some mm)).run P w = .ok (.slice (if m = l then a else a.map (·.add (l * P.cellsOf e))) (h - l) (m - l)) w := by
  rcases hl with ⟨rfl, rfl⟩ | ⟨u, rfl, hu⟩
  · simp [Instr.sliceAt, Instr.slice, run_underlying ht, Instr.sliceBounds, run_sizeOf' hi, hmm cap _ h3, hhh m _ h2]
  · simp [Instr.sliceAt, Instr.slice, run_underlying ht, Instr.sliceBounds, run_sizeOf' hi, hmm cap _ h3, hhh m _ h2, hu h _ h1]
end Go.Proofs.Ytpjibokaeefhiaa.Tw
