import Derived.Test.YtpjibokaeefhiaaTwB
import Derived.Laws.Rows
import Derived.Laws.Pointers
import Derived.Laws.Small
import Derived.Laws.CopyRow
import Derived.Laws.AppendOwn
import Derived.Laws.Strings3
import Derived.WalkSpells
/-! The operations that only tell a value. -/
namespace Go.Proofs.Ytpjibokaeefhiaa.Tw
open Go.RowKit
set_option linter.unusedVariables false
set_option linter.unusedSimpArgs false
def strEq (a b : ByteArray) : Bool := a.toList == b.toList
def nilK (k : Nat) : TypeDesc → Bool
  | .func _ _ _ => Nat.beq k 0
  | .slice _ => Nat.beq k 1
  | .interface _ => Nat.beq k 2
  | _ => false
def nilT (k : Nat) : Option TypeDesc → Bool
  | some d => nilK k d
  | none => false
theorem nilT_some {k : Nat} {o : Option TypeDesc} (h : nilT k o = true) : ∃ d, o = some d ∧ nilK k d = true := by
  cases o with
  | none => cases h
  | some d => exact ⟨d, rfl, h⟩
/-- Two operands. -/
def abin (P : Program) (t : TypeId) (op : BinOp) (x y : AV) (K : AV → Prop) : Prop :=
  match x, y with
  | .int k a, .int k' b =>
    match op with
    | .shl => 0 ≤ b ∧ K (.int k (k.wrap (a * 2 ^ min b.toNat k.bits)))
    | .shr => 0 ≤ b ∧ K (.int k (a.fdiv (2 ^ min b.toNat k.bits)))
    | .add => k = k' ∧ K (.int k (k.wrap (a + b)))
    | .sub => k = k' ∧ K (.int k (k.wrap (a - b)))
    | .mul => k = k' ∧ K (.int k (k.wrap (a * b)))
    | .quo => k = k' ∧ b ≠ 0 ∧ K (.int k (k.wrap (a.tdiv b)))
    | .rem => k = k' ∧ b ≠ 0 ∧ K (.int k (a.tmod b))
    | .and => k = k' ∧ K (.int k (k.wrap (BitVec.ofInt k.bits a &&& BitVec.ofInt k.bits b).toNat))
    | .or => k = k' ∧ K (.int k (k.wrap (BitVec.ofInt k.bits a ||| BitVec.ofInt k.bits b).toNat))
    | .xor => k = k' ∧ K (.int k (k.wrap (BitVec.ofInt k.bits a ^^^ BitVec.ofInt k.bits b).toNat))
    | .andNot => k = k' ∧ K (.int k (k.wrap (BitVec.ofInt k.bits a &&& ~~~(BitVec.ofInt k.bits b)).toNat))
    | .eql => k = k' ∧ K (.bool (decide (a = b)))
    | .neq => k = k' ∧ K (.bool (!decide (a = b)))
    | .lss => k = k' ∧ K (.bool (decide (a < b)))
    | .leq => k = k' ∧ K (.bool (decide (a ≤ b)))
    | .gtr => k = k' ∧ K (.bool (decide (b < a)))
    | .geq => k = k' ∧ K (.bool (decide (b ≤ a)))
  | .str a, .str b =>
    match op with
    | .add => a.size + b.size ≤ 9223372036854775807 ∧ K (.str (a ++ b))
    | .eql => K (.bool (strEq a b))
    | .neq => K (.bool (!strEq a b))
    | _ => False
  | .bool a, .bool b =>
    match op with
    | .eql => P.underlying t = some .bool ∧ K (.bool (a == b))
    | .neq => P.underlying t = some .bool ∧ K (.bool (!(a == b)))
    | _ => False
  | .ref .., .nil | .imm .., .nil =>
    match op with
    | .eql => P.underlying t = some (.pointer (P.pointee t)) ∧ K (.bool false)
    | .neq => P.underlying t = some (.pointer (P.pointee t)) ∧ K (.bool true)
    | _ => False
  | .nil, .nil =>
    match op with
    | .eql => P.underlying t = some (.pointer (P.pointee t)) ∧ K (.bool true)
    | .neq => P.underlying t = some (.pointer (P.pointee t)) ∧ K (.bool false)
    | _ => False
  | .func .., .nilf =>
    match op with
    | .eql => nilT 0 (P.underlying t) = true ∧ K (.bool false)
    | .neq => nilT 0 (P.underlying t) = true ∧ K (.bool true)
    | _ => False
  | .nilf, .nilf =>
    match op with
    | .eql => nilT 0 (P.underlying t) = true ∧ K (.bool true)
    | .neq => nilT 0 (P.underlying t) = true ∧ K (.bool false)
    | _ => False
  | .row .., .nils =>
    match op with
    | .eql => nilT 1 (P.underlying t) = true ∧ K (.bool false)
    | .neq => nilT 1 (P.underlying t) = true ∧ K (.bool true)
    | _ => False
  | .nils, .nils =>
    match op with
    | .eql => nilT 1 (P.underlying t) = true ∧ K (.bool true)
    | .neq => nilT 1 (P.underlying t) = true ∧ K (.bool false)
    | _ => False
  | .ifc _ _, .raw .nilIface =>
    match op with
    | .eql => nilT 2 (P.underlying t) = true ∧ K (.bool false)
    | .neq => nilT 2 (P.underlying t) = true ∧ K (.bool true)
    | _ => False
  | _, _ => False
def eqN : TypeDesc → Value → Value → Option Bool
  | .func _ _ _, .nilFunc, .nilFunc => some true
  | .func _ _ _, .func _ _ _, .nilFunc => some false
  | .slice _, .slice none _ _, .slice none _ _ => some true
  | .slice _, .slice (some _) _ _, .slice none _ _ => some false
  | .interface _, .iface _ _, .nilIface => some false
  | _, _, _ => none
theorem run_equal_of {P : Program} {t : TypeId} {d : TypeDesc} {x y : Value} {b : Bool} (w : World) (hu : P.underlying t = some d) (h : eqN d x y = some b) : (Op.equal t x y).run P w = .ok b w := by
  show (Op.equalIn (9999 + 1) t x y).run P w = _
  rw [Op.equalIn, Sem.run_bind, run_underlying hu w]
  simp only [Result.andThen_ok]
  unfold eqN at h
  split at h <;> first | (cases h; rfl) | cases h
theorem abin_ok {P : Program} {t : TypeId} {op : BinOp} {x y : AV} {K : AV → Prop} (h : abin P t op x y K) :
    ∃ av, K av ∧ ∀ (w : World) (I : Nat → Prop) (ρ : List Nat) (u v : Value) (ox oy : Operand), Rep w I ρ u x → Rep w I ρ v y → ∃ r, (do eqGuard op t ox oy u v; binOp op t u v : Sem Value).run P w = .ok r w ∧ Rep w I ρ r av := by
  unfold abin at h
  split at h
  · rename_i k a k' b
    cases op <;> dsimp only at h
    case shl =>
      obtain ⟨h0, h⟩ := h
      refine ⟨_, h, fun w I ρ u v ox oy hu hv => ⟨_, ?_, .int _ _⟩⟩
      rw [hu.int_inv, hv.int_inv]
      have : ¬ b < 0 := by omega
      simp [eqGuard, binOp, Op.shift, this]
    case shr =>
      obtain ⟨h0, h⟩ := h
      refine ⟨_, h, fun w I ρ u v ox oy hu hv => ⟨_, ?_, .int _ _⟩⟩
      rw [hu.int_inv, hv.int_inv]
      have : ¬ b < 0 := by omega
      simp [eqGuard, binOp, Op.shift, this]
    case quo =>
      obtain ⟨rfl, h0, h⟩ := h
      refine ⟨_, h, fun w I ρ u v ox oy hu hv => ⟨_, ?_, .int _ _⟩⟩
      rw [hu.int_inv, hv.int_inv]
      simp [eqGuard, binOp, Op.intDiv, h0]
    case rem =>
      obtain ⟨rfl, h0, h⟩ := h
      refine ⟨_, h, fun w I ρ u v ox oy hu hv => ⟨_, ?_, .int _ _⟩⟩
      rw [hu.int_inv, hv.int_inv]
      simp [eqGuard, binOp, Op.intDiv, h0]
    case eql =>
      obtain ⟨rfl, h⟩ := h
      refine ⟨_, h, fun w I ρ u v ox oy hu hv => ⟨_, ?_, .bool _⟩⟩
      rw [hu.int_inv, hv.int_inv]
      simp [eqGuard, binOp, Op.intCmp]
      rw [Bool.eq_iff_iff]; simp
    case neq =>
      obtain ⟨rfl, h⟩ := h
      refine ⟨_, h, fun w I ρ u v ox oy hu hv => ⟨_, ?_, .bool _⟩⟩
      rw [hu.int_inv, hv.int_inv]
      simp [eqGuard, binOp, Op.intCmp, bne]
      rw [Bool.eq_iff_iff]; simp
    case lss =>
      obtain ⟨rfl, h⟩ := h
      refine ⟨_, h, fun w I ρ u v ox oy hu hv => ⟨_, ?_, .bool _⟩⟩
      rw [hu.int_inv, hv.int_inv]
      simp [eqGuard, binOp, Op.intCmp]
    case leq =>
      obtain ⟨rfl, h⟩ := h
      refine ⟨_, h, fun w I ρ u v ox oy hu hv => ⟨_, ?_, .bool _⟩⟩
      rw [hu.int_inv, hv.int_inv]
      simp [eqGuard, binOp, Op.intCmp]
    case gtr =>
      obtain ⟨rfl, h⟩ := h
      refine ⟨_, h, fun w I ρ u v ox oy hu hv => ⟨_, ?_, .bool _⟩⟩
      rw [hu.int_inv, hv.int_inv]
      simp [eqGuard, binOp, Op.intCmp]
    case geq =>
      obtain ⟨rfl, h⟩ := h
      refine ⟨_, h, fun w I ρ u v ox oy hu hv => ⟨_, ?_, .bool _⟩⟩
      rw [hu.int_inv, hv.int_inv]
      simp [eqGuard, binOp, Op.intCmp]
    all_goals
      obtain ⟨rfl, h⟩ := h
      refine ⟨_, h, fun w I ρ u v ox oy hu hv => ⟨_, ?_, .int _ _⟩⟩
      rw [hu.int_inv, hv.int_inv]
      simp [eqGuard, binOp, Op.intArith, Op.intBits]
  · rename_i a b
    cases op <;> dsimp only at h <;> first | exact h.elim | skip
    case add =>
      obtain ⟨h0, h⟩ := h
      refine ⟨_, h, fun w I ρ u v ox oy hu hv => ⟨_, ?_, .str _⟩⟩
      rw [hu.str_inv, hv.str_inv]
      have : ¬ (9223372036854775807 < (a.size : Int) + (b.size : Int)) := by omega
      simp [eqGuard, binOp, Op.stringOp, this]
    all_goals
      refine ⟨_, h, fun w I ρ u v ox oy hu hv => ⟨_, ?_, .bool _⟩⟩
      rw [hu.str_inv, hv.str_inv]
      simp [eqGuard, binOp, Op.stringOp, strEq]
  · rename_i a b
    cases op <;> dsimp only at h <;> first | exact h.elim | skip
    all_goals
      obtain ⟨h0, h⟩ := h
      refine ⟨_, h, fun w I ρ u v ox oy hu hv => ⟨_, ?_, .bool _⟩⟩
      rw [hu.bool_inv, hv.bool_inv]
      simp [eqGuard, run_eql_bool w t _ _ h0, run_neq_bool w t _ _ h0]
  · cases op <;> dsimp only at h <;> first | exact h.elim | skip
    all_goals
      obtain ⟨h0, h⟩ := h
      refine ⟨_, h, fun w I ρ u v ox oy hu hv => ⟨_, ?_, .bool _⟩⟩
      cases hu; cases hv
      simp [eqGuard, run_eql_pointer_nil w t _ h0, run_neq_pointer_nil w t _ h0]
  · cases op <;> dsimp only at h <;> first | exact h.elim | skip
    all_goals
      obtain ⟨h0, h⟩ := h
      refine ⟨_, h, fun w I ρ u v ox oy hu hv => ⟨_, ?_, .bool _⟩⟩
      cases hu; cases hv
      simp [eqGuard, run_eql_pointer_nil w t _ h0, run_neq_pointer_nil w t _ h0]
  · cases op <;> dsimp only at h <;> first | exact h.elim | skip
    all_goals
      obtain ⟨h0, h⟩ := h
      refine ⟨_, h, fun w I ρ u v ox oy hu hv => ⟨_, ?_, .bool _⟩⟩
      cases hu; cases hv
      simp [eqGuard, run_eql_pointer_nil w t _ h0, run_neq_pointer_nil w t _ h0]
  · cases op <;> dsimp only at h <;> first | exact h.elim | skip
    all_goals
      obtain ⟨h0, h⟩ := h
      refine ⟨_, h, fun w I ρ u v ox oy hu hv => ⟨_, ?_, .bool _⟩⟩
      obtain ⟨d, hd, hk⟩ := nilT_some h0
      cases d <;> simp [nilK] at hk
      cases hu; cases hv
      simp [eqGuard, binOp]
      rw [run_equal_of (b := false) w hd] <;> rfl
  · cases op <;> dsimp only at h <;> first | exact h.elim | skip
    all_goals
      obtain ⟨h0, h⟩ := h
      refine ⟨_, h, fun w I ρ u v ox oy hu hv => ⟨_, ?_, .bool _⟩⟩
      obtain ⟨d, hd, hk⟩ := nilT_some h0
      cases d <;> simp [nilK] at hk
      cases hu; cases hv
      simp [eqGuard, binOp]
      rw [run_equal_of (b := true) w hd] <;> rfl
  · cases op <;> dsimp only at h <;> first | exact h.elim | skip
    all_goals
      obtain ⟨h0, h⟩ := h
      refine ⟨_, h, fun w I ρ u v ox oy hu hv => ⟨_, ?_, .bool _⟩⟩
      obtain ⟨d, hd, hk⟩ := nilT_some h0
      cases d <;> simp [nilK] at hk
      cases hu; cases hv
      simp [eqGuard, binOp]
      rw [run_equal_of (b := false) w hd] <;> rfl
  · cases op <;> dsimp only at h <;> first | exact h.elim | skip
    all_goals
      obtain ⟨h0, h⟩ := h
      refine ⟨_, h, fun w I ρ u v ox oy hu hv => ⟨_, ?_, .bool _⟩⟩
      obtain ⟨d, hd, hk⟩ := nilT_some h0
      cases d <;> simp [nilK] at hk
      cases hu; cases hv
      simp [eqGuard, binOp]
      rw [run_equal_of (b := true) w hd] <;> rfl
  · cases op <;> dsimp only at h <;> first | exact h.elim | skip
    all_goals
      obtain ⟨h0, h⟩ := h
      refine ⟨_, h, fun w I ρ u v ox oy hu hv => ⟨_, ?_, .bool _⟩⟩
      obtain ⟨d, hd, hk⟩ := nilT_some h0
      cases d <;> simp [nilK] at hk
      cases hu; cases hv
      simp [eqGuard, binOp]
      rw [run_equal_of (b := false) w hd] <;> rfl
  · exact h.elim
/-- A variable's value out of its cells. -/
def aload (P : Program) (t : TypeId) (cs : List AV) (K : AV → Prop) : Prop :=
  match P.underlying t with
  | some (.struct _) => (P.info? t).isSome = true ∧ P.cellsOf t ≤ cs.length ∧ K (.agg (cs.take (P.cellsOf t)))
  | some (.array _ _) => (P.info? t).isSome = true ∧ P.cellsOf t ≤ cs.length ∧ K (.agg (cs.take (P.cellsOf t)))
  | some _ => match cs with | c :: _ => K c | [] => False
  | none => False
def aggD : TypeDesc → Bool
  | .struct _ | .array _ _ => true
  | _ => false
theorem run_isAgg {P : Program} {t : TypeId} {d : TypeDesc} (h : P.underlying t = some d) (w : World) : (isAgg t).run P w = .ok (aggD d) w := by
  unfold isAgg
  rw [Sem.run_bind, run_underlying h w]
  cases d <;> rfl
theorem run_sizeOf' {P : Program} {t : TypeId} (h : (P.info? t).isSome = true) (w : World) : (sizeOf t).run P w = .ok (P.cellsOf t) w := by
  cases hi : P.info? t with
  | none => simp [hi] at h
  | some i => exact run_sizeOf (w := w) hi
theorem cell_add (w : World) (a : Addr) (h : a.spot = none) (j : Nat) : w.cell? (a.add j) = w.cell? ⟨a.block, a.off + j, none⟩ := by rw [add_none h]
theorem run_loadVar {P : Program} {t : TypeId} {cs : List AV} {K : AV → Prop} (h : aload P t cs K) :
    ∃ av, K av ∧ ∀ (w : World) (I : Nat → Prop) (ρ : List Nat) (b o : Nat), (∀ (j : Nat) (c : AV), cs[j]? = some c → ∃ v, w.cell? ⟨b, o + j, none⟩ = some v ∧ Rep w I ρ v c) →
      ∃ v, (loadVar t ⟨b, o, none⟩).run P w = .ok v w ∧ Rep w I ρ v av := by
  have agg : ∀ d, P.underlying t = some d → aggD d = true → (P.info? t).isSome = true → P.cellsOf t ≤ cs.length → ∀ (w : World) (I : Nat → Prop) (ρ : List Nat) (b o : Nat), (∀ (j : Nat) (c : AV), cs[j]? = some c → ∃ v, w.cell? ⟨b, o + j, none⟩ = some v ∧ Rep w I ρ v c) →
      ∃ v, (loadVar t ⟨b, o, none⟩).run P w = .ok v w ∧ Rep w I ρ v (.agg (cs.take (P.cellsOf t))) := by
    intro d hd h1 h2 h3 w I ρ b o hc
    have hl := run_loadCells (P := P) w ⟨b, o, none⟩ (P.cellsOf t) (fun j => (w.cell? ⟨b, o + j, none⟩).getD undef) (fun j hj => by
      obtain ⟨c, hc'⟩ : ∃ c, cs[j]? = some c := ⟨cs[j], List.getElem?_eq_getElem (by omega)⟩
      obtain ⟨v, hv, _⟩ := hc j c hc'
      rw [add_none rfl, hv]; rfl)
    refine ⟨_, by simp [loadVar, Sem.run_bind, run_isAgg hd, h1, run_sizeOf' h2, hl]; rfl, .agg _ _ (by simp; omega) fun j v c hv hc' => ?_⟩
    rw [List.getElem?_take] at hc'
    split at hc'
    · obtain ⟨u, hu, hr⟩ := hc j c hc'
      rename_i hlt
      simp [hlt] at hv
      rw [hu] at hv
      simp at hv
      exact hv ▸ hr
    · cases hc'
  unfold aload at h
  split at h
  · rename_i fs hd
    obtain ⟨h1, h2, h⟩ := h
    exact ⟨_, h, agg _ hd rfl h1 h2⟩
  · rename_i n e hd
    obtain ⟨h1, h2, h⟩ := h
    exact ⟨_, h, agg _ hd rfl h1 h2⟩
  · rename_i d hn1 hn2 hd
    cases cs with
    | nil => exact h.elim
    | cons c rest =>
      refine ⟨c, h, fun w I ρ b o hc => ?_⟩
      obtain ⟨v, hv, hr⟩ := hc 0 c rfl
      refine ⟨v, ?_, hr⟩
      have : aggD d = false := by cases d <;> first | rfl | exact absurd rfl (hn1 _) | exact absurd rfl (hn2 _ _)
      simp only [Nat.add_zero] at hv
      simp [loadVar, Sem.run_bind, run_isAgg hd, this, hv]
  · exact h.elim
/-- The object that a pointer leads into. -/
def AO.norm : AO → AO
  | .box w e => .arr w [e]
  | o => o
def aobj (L : Store) (p : Nat) : Option AO := ((L[p]?).join).map AO.norm
def aref (L : Store) (p w i : Nat) (K : AV → Prop) : Prop :=
  ∃ els, aobj L p = some (.arr w els) ∧ ∃ e, els[i]? = some e ∧ K e
theorem join_some {L : Store} {p : Nat} {o : AO} (h : aobj L p = some o) : ∃ o', L[p]? = some (some o') ∧ o'.norm = o := by
  unfold aobj at h
  cases hl : L[p]? with
  | none => simp [hl] at h
  | some x => cases x with
    | none => simp [hl] at h
    | some y => simp [hl] at h; exact ⟨y, rfl, h⟩
theorem norm_rel {w : World} {I : Nat → Prop} {ρ : List Nat} {b : Nat} (o : AO) : ObjRel w I ρ b o.norm ↔ ObjRel w I ρ b o := by cases o <;> exact Iff.rfl
theorem own_norm {w : World} {I : Nat → Prop} {ρ : List Nat} {L : Store} {p b : Nat} {o : AO} (hr : Rel w I ρ L) (h : aobj L p = some o) (hb : ρ[p]? = some b) : b < w.heap.size ∧ ¬ I b ∧ ObjRel w I ρ b o := by
  obtain ⟨o', h1, rfl⟩ := join_some h
  obtain ⟨a1, a2, a3⟩ := hr.own p o' b h1 hb
  exact ⟨a1, a2, (norm_rel o').2 a3⟩
/-- The objects are as they are told; more there may be. -/
def RelW (w : World) (I : Nat → Prop) (ρ : List Nat) (L : Store) : Prop := ∀ (p : Nat) (o : AO) (b : Nat), L[p]? = some (some o) → ρ[p]? = some b → b < w.heap.size ∧ ¬ I b ∧ ObjRel w I ρ b o
theorem own_normW {w : World} {I : Nat → Prop} {ρ : List Nat} {L : Store} {p b : Nat} {o : AO} (hr : RelW w I ρ L) (h : aobj L p = some o) (hb : ρ[p]? = some b) : b < w.heap.size ∧ ¬ I b ∧ ObjRel w I ρ b o :=
  let ⟨o', h1, h2⟩ := join_some h
  h2 ▸ let ⟨a1, a2, a3⟩ := hr p o' b h1 hb; ⟨a1, a2, (norm_rel o').2 a3⟩
theorem aref_ok {L : Store} {p wd i : Nat} {K : AV → Prop} (h : aref L p wd i K) :
    ∃ e els, K e ∧ aobj L p = some (.arr wd els) ∧ els[i]? = some e ∧ ∀ (w : World) (I : Nat → Prop) (ρ : List Nat) (b : Nat), RelW w I ρ L → ρ[p]? = some b → e.cells.length = wd ∧
      ∀ (j : Nat) (c : AV), e.cells[j]? = some c → ∃ v, w.cell? ⟨b, i * wd + j, none⟩ = some v ∧ Rep w I ρ v c := by
  obtain ⟨els, ho, e, he, h⟩ := h
  refine ⟨e, els, h, ho, he, fun w I ρ b hr hb => ?_⟩
  obtain ⟨hlt, hI, C, t, hC, hsz, hx⟩ := own_normW hr ho hb
  obtain ⟨h1, h2⟩ := hx i e he
  refine ⟨h1, fun j c hc => ?_⟩
  obtain ⟨v, hv, hrep⟩ := h2 j c hc
  exact ⟨v, by simp [World.cell?, hC, hv], hrep⟩
/-- A load. -/
def aloadAt (P : Program) (L : Store) (t : TypeId) (a : AV) (K : AV → Prop) : Prop :=
  match a with
  | .ref p w i f => aref L p w i fun e => aload P t (e.cells.drop f) K
  | .imm cs => aload P t cs K
  | _ => False
theorem aloadAt_ok {P : Program} {L : Store} {t : TypeId} {x : AV} {K : AV → Prop} (h : aloadAt P L t x K) :
    ∃ av, K av ∧ ∀ (w : World) (I : Nat → Prop) (ρ : List Nat) (u : Value), RelW w I ρ L → Rep w I ρ u x → ∃ r, (Instr.loadAt t u).run P w = .ok r w ∧ Rep w I ρ r av := by
  unfold aloadAt at h
  split at h
  · rename_i p wd i f
    obtain ⟨e, els, h, _, _, hcell⟩ := aref_ok h
    obtain ⟨av, hK, hl⟩ := run_loadVar h
    refine ⟨av, hK, fun w I ρ u hr hu => ?_⟩
    cases hu with
    | ref _ _ _ _ b hb =>
      obtain ⟨h1, h2⟩ := hcell w I ρ b hr hb
      obtain ⟨v, hv, hrep⟩ := hl w I ρ b (i * wd + f) (fun j c hc => by
        rw [List.getElem?_drop] at hc
        have := h2 (f + j) c hc
        rwa [← Nat.add_assoc] at this)
      exact ⟨v, by simp [Instr.loadAt, Instr.sureAddr, hv], hrep⟩
  · rename_i cs
    obtain ⟨av, hK, hl⟩ := run_loadVar h
    refine ⟨av, hK, fun w I ρ u hr hu => ?_⟩
    cases hu with
    | imm a _ vs hs hI hc hrep =>
      obtain ⟨b, o, s⟩ := a
      cases hs
      obtain ⟨v, hv, hr'⟩ := hl w I ρ b o (fun j c hc' => ⟨vs j, hc j (List.getElem?_eq_some_iff.1 hc').1, hrep j c hc'⟩)
      exact ⟨v, by simp [Instr.loadAt, Instr.sureAddr, hv], hr'⟩
  · exact h.elim
/-- A field's address. -/
def afaddr (P : Program) (s : TypeId) (x : AV) (f : Nat) (K : AV → Prop) : Prop :=
  match P.underlying s with
  | some (.struct fields) =>
    match fields[f]? with
    | some fd => ((P.info? fd.type).isSome = true ∧ P.cellsOf fd.type ≠ 0) ∧
      match x with
      | .ref p w i o => K (.ref p w i (o + fd.offset))
      | .imm cs => K (.imm (cs.drop fd.offset))
      | _ => False
    | none => False
  | _ => False
theorem afaddr_ok {P : Program} {s : TypeId} {x : AV} {f : Nat} {K : AV → Prop} (h : afaddr P s x f K) :
    ∃ av, K av ∧ ∀ (w : World) (I : Nat → Prop) (ρ : List Nat) (u : Value), Rep w I ρ u x → ∃ r, (Instr.fieldAt s u f).run P w = .ok r w ∧ Rep w I ρ r av := by
  unfold afaddr at h
  split at h
  · rename_i fields hs
    split at h
    · rename_i fd hf
      obtain ⟨⟨hi, hne⟩, h⟩ := h
      have hrun : ∀ (w : World) (a : Addr), (Instr.fieldAt s (.pointer (some a)) f).run P w = .ok (.pointer (some (a.add fd.offset))) w := by
        intro w a
        simp [Instr.fieldAt, Instr.sureAddr, run_underlying hs, hf, fieldPlace, run_sizeOf' hi, hne]
      split at h
      · rename_i p wd i o
        refine ⟨_, h, fun w I ρ u hu => ?_⟩
        cases hu with
        | ref _ _ _ _ b hb => exact ⟨_, hrun _ _, by rw [add_none rfl, Nat.add_assoc]; exact .ref _ _ _ _ _ hb⟩
      · rename_i cs
        refine ⟨_, h, fun w I ρ u hu => ?_⟩
        cases hu with
        | imm a _ vs hsp hI hc hrep =>
          refine ⟨_, hrun _ _, ?_⟩
          rw [add_none hsp]
          refine .imm _ _ (fun j => vs (fd.offset + j)) rfl hI (fun j hj => ?_) (fun j c hc' => hrep _ c (by rwa [List.getElem?_drop] at hc'))
          rw [List.length_drop] at hj
          have := hc (fd.offset + j) (by omega)
          rwa [← Nat.add_assoc] at this
      · exact h.elim
    · exact h.elim
  · exact h.elim
end Go.Proofs.Ytpjibokaeefhiaa.Tw
