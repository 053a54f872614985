import Derived.Test.YtlngpfocngfokaaProg
import Derived.Test.YtlngpfocngfokaaTw4
import Derived.KernelRfl
/-! The table of the program's types, for the abstract walk. Written by a program of ours (wip/tools/gentypes.py) out of the translation. -/
namespace Go.Proofs.Ytlngpfocngfokaa.Tw
open Go
set_option maxRecDepth 100000
structure TyRow where
  d : TypeDesc
  c : Nat
  b : Nat
  z : Option Value
  s : Option (List (Nat × Nat))
def ty0 : List TyRow := [⟨.tuple #[], 1, 0, some (.tuple #[]), none⟩,
  ⟨.func #[] #[] false, 1, 8, some .nilFunc, none⟩,
  ⟨.int .i64, 1, 8, some (.int .i64 0), none⟩,
  ⟨.int .i64, 1, 8, some (.int .i64 0), none⟩,
  ⟨.bool, 1, 1, some (.bool false), none⟩,
  ⟨.int .u8, 1, 1, some (.int .u8 0), none⟩,
  ⟨.int .u8, 1, 1, some (.int .u8 0), none⟩,
  ⟨.struct #[⟨ "x", 2, 0, false, "", "runtime", 0⟩, ⟨ "y", 3, 1, false, "", "runtime", 8⟩, ⟨ "signed", 4, 2, false, "", "runtime", 16⟩, ⟨ "code", 6, 3, false, "", "runtime", 17⟩], 4, 24, some (.agg #[.int .i64 0, .int .i64 0, .bool false, .int .u8 0]), some [(0, 0), (1, 0), (2, 1), (3, 0)]⟩,
  ⟨.struct #[⟨ "x", 2, 0, false, "", "runtime", 0⟩, ⟨ "y", 3, 1, false, "", "runtime", 8⟩, ⟨ "signed", 4, 2, false, "", "runtime", 16⟩, ⟨ "code", 6, 3, false, "", "runtime", 17⟩], 4, 24, some (.agg #[.int .i64 0, .int .i64 0, .bool false, .int .u8 0]), some [(0, 0), (1, 0), (2, 1), (3, 0)]⟩,
  ⟨.string, 1, 16, some (.string ⟨#[]⟩), none⟩,
  ⟨.string, 1, 16, some (.string ⟨#[]⟩), none⟩,
  ⟨.string, 1, 16, some (.string ⟨#[]⟩), none⟩,
  ⟨.int .u64, 1, 8, some (.int .u64 0), none⟩,
  ⟨.struct #[⟨ "msg", 9, 0, false, "", "runtime", 0⟩, ⟨ "addr", 12, 1, false, "", "runtime", 16⟩], 2, 24, some (.agg #[.string ⟨#[]⟩, .int .u64 0]), none⟩,
  ⟨.struct #[⟨ "msg", 9, 0, false, "", "runtime", 0⟩, ⟨ "addr", 12, 1, false, "", "runtime", 16⟩], 2, 24, some (.agg #[.string ⟨#[]⟩, .int .u64 0]), none⟩,
  ⟨.pointer 92, 1, 8, some (.pointer none), none⟩]
def ty1 : List TyRow := [⟨.pointer 95, 1, 8, some (.pointer none), none⟩,
  ⟨.pointer 105, 1, 8, some (.pointer none), none⟩,
  ⟨.struct #[⟨ "typ", 17, 0, false, "", "internal/runtime/maps", 0⟩], 1, 8, some (.agg #[.pointer none]), none⟩,
  ⟨.struct #[⟨ "typ", 17, 0, false, "", "internal/runtime/maps", 0⟩], 1, 8, some (.agg #[.pointer none]), none⟩,
  ⟨.interface #[], 1, 16, some .nilIface, none⟩,
  ⟨.int .i32, 1, 4, some (.int .i32 0), none⟩,
  ⟨.slice 33, 1, 24, some (.slice none 0 0), none⟩,
  ⟨.struct #[⟨ "Kinds", 22, 0, false, "", "", 0⟩, ⟨ "Root", 3, 1, false, "", "", 24⟩], 2, 32, some (.agg #[.slice none 0 0, .int .i64 0]), none⟩,
  ⟨.struct #[⟨ "Kinds", 22, 0, false, "", "", 0⟩, ⟨ "Root", 3, 1, false, "", "", 24⟩], 2, 32, some (.agg #[.slice none 0 0, .int .i64 0]), none⟩,
  ⟨.slice 3, 1, 24, some (.slice none 0 0), none⟩,
  ⟨.func #[24] #[4] false, 1, 8, some .nilFunc, none⟩,
  ⟨.func #[] #[4] false, 1, 8, some .nilFunc, none⟩,
  ⟨.func #[24, 3, 25] #[4] false, 1, 8, some .nilFunc, none⟩,
  ⟨.int .i64, 1, 8, some (.int .i64 0), none⟩,
  ⟨.func #[24] #[29] false, 1, 8, some .nilFunc, none⟩,
  ⟨.slice 35, 1, 24, some (.slice none 0 0), none⟩]
def ty2 : List TyRow := [⟨.struct #[⟨ "Name", 9, 0, false, "", "", 0⟩, ⟨ "Text", 4, 1, false, "", "", 16⟩, ⟨ "Slots", 31, 2, false, "", "", 24⟩], 3, 48, some (.agg #[.string ⟨#[]⟩, .bool false, .slice none 0 0]), none⟩,
  ⟨.struct #[⟨ "Name", 9, 0, false, "", "", 0⟩, ⟨ "Text", 4, 1, false, "", "", 16⟩, ⟨ "Slots", 31, 2, false, "", "", 24⟩], 3, 48, some (.agg #[.string ⟨#[]⟩, .bool false, .slice none 0 0]), none⟩,
  ⟨.struct #[⟨ "Kinds", 25, 0, false, "", "", 0⟩, ⟨ "Least", 3, 1, false, "", "", 24⟩, ⟨ "Most", 3, 2, false, "", "", 32⟩], 3, 40, some (.agg #[.slice none 0 0, .int .i64 0, .int .i64 0]), none⟩,
  ⟨.struct #[⟨ "Kinds", 25, 0, false, "", "", 0⟩, ⟨ "Least", 3, 1, false, "", "", 24⟩, ⟨ "Most", 3, 2, false, "", "", 32⟩], 3, 40, some (.agg #[.slice none 0 0, .int .i64 0, .int .i64 0]), none⟩,
  ⟨.func #[24, 3] #[3] false, 1, 8, some .nilFunc, none⟩,
  ⟨.func #[24, 3, 25, 25, 25] #[4] false, 1, 8, some .nilFunc, none⟩,
  ⟨.func #[24, 3, 3, 3, 3, 25] #[4] false, 1, 8, some .nilFunc, none⟩,
  ⟨.tuple #[3, 4], 1, 0, some (.tuple #[.int .i64 0, .bool false]), none⟩,
  ⟨.func #[24, 9] #[3, 4] false, 1, 8, some .nilFunc, none⟩,
  ⟨.func #[24, 3, 9] #[4] false, 1, 8, some .nilFunc, none⟩,
  ⟨.func #[24, 24] #[4] false, 1, 8, some .nilFunc, none⟩,
  ⟨.func #[24, 24, 3, 9] #[4] false, 1, 8, some .nilFunc, none⟩,
  ⟨.slice 46, 1, 24, some (.slice none 0 0), none⟩,
  ⟨.struct #[⟨ "Id", 3, 0, false, "", "", 0⟩, ⟨ "Kind", 3, 1, false, "", "", 8⟩, ⟨ "Text", 9, 2, false, "", "", 16⟩, ⟨ "Kids", 44, 3, false, "", "", 32⟩], 4, 56, some (.agg #[.int .i64 0, .int .i64 0, .string ⟨#[]⟩, .slice none 0 0]), none⟩,
  ⟨.struct #[⟨ "Id", 3, 0, false, "", "", 0⟩, ⟨ "Kind", 3, 1, false, "", "", 8⟩, ⟨ "Text", 9, 2, false, "", "", 16⟩, ⟨ "Kids", 44, 3, false, "", "", 32⟩], 4, 56, some (.agg #[.int .i64 0, .int .i64 0, .string ⟨#[]⟩, .slice none 0 0]), none⟩,
  ⟨.func #[46] #[4] false, 1, 8, some .nilFunc, none⟩]
def ty3 : List TyRow := [⟨.tuple #[3, 29], 1, 0, some (.tuple #[.int .i64 0, .int .i64 0]), none⟩,
  ⟨.func #[24, 46] #[3, 29] false, 1, 8, some .nilFunc, none⟩,
  ⟨.func #[24, 46] #[4] false, 1, 8, some .nilFunc, none⟩,
  ⟨.func #[46] #[25] false, 1, 8, some .nilFunc, none⟩,
  ⟨.slice 55, 1, 24, some (.slice none 0 0), none⟩,
  ⟨.func #[46, 3] #[52] false, 1, 8, some .nilFunc, none⟩,
  ⟨.struct #[⟨ "X", 46, 0, false, "", "", 0⟩, ⟨ "Depth", 3, 4, false, "", "", 56⟩], 5, 64, some (.agg #[.int .i64 0, .int .i64 0, .string ⟨#[]⟩, .slice none 0 0, .int .i64 0]), none⟩,
  ⟨.struct #[⟨ "X", 46, 0, false, "", "", 0⟩, ⟨ "Depth", 3, 4, false, "", "", 56⟩], 5, 64, some (.agg #[.int .i64 0, .int .i64 0, .string ⟨#[]⟩, .slice none 0 0, .int .i64 0]), none⟩,
  ⟨.func #[46, 46, 3, 57] #[46] false, 1, 8, some .nilFunc, none⟩,
  ⟨.pointer 3, 1, 8, some (.pointer none), none⟩,
  ⟨.map 3 4, 1, 8, some (.map none), none⟩,
  ⟨.func #[24, 46, 46, 3] #[4] false, 1, 8, some .nilFunc, none⟩,
  ⟨.func #[3, 3] #[24] false, 1, 8, some .nilFunc, none⟩,
  ⟨.pointer 33, 1, 8, some (.pointer none), none⟩,
  ⟨.func #[63, 3] #[61] false, 1, 8, some .nilFunc, none⟩,
  ⟨.pointer 24, 1, 8, some (.pointer none), none⟩]
def ty4 : List TyRow := [⟨.array 201 4, 201, 201, some (.agg #[.bool false, .bool false, .bool false, .bool false, .bool false, .bool false, .bool false, .bool false, .bool false, .bool false, .bool false, .bool false, .bool false, .bool false, .bool false, .bool false, .bool false, .bool false, .bool false, .bool false, .bool false, .bool false, .bool false, .bool false, .bool false, .bool false, .bool false, .bool false, .bool false, .bool false, .bool false, .bool false, .bool false, .bool false, .bool false, .bool false, .bool false, .bool false, .bool false, .bool false, .bool false, .bool false, .bool false, .bool false, .bool false, .bool false, .bool false, .bool false, .bool false, .bool false, .bool false, .bool false, .bool false, .bool false, .bool false, .bool false, .bool false, .bool false, .bool false, .bool false, .bool false, .bool false, .bool false, .bool false, .bool false, .bool false, .bool false, .bool false, .bool false, .bool false, .bool false, .bool false, .bool false, .bool false, .bool false, .bool false, .bool false, .bool false, .bool false, .bool false, .bool false, .bool false, .bool false, .bool false, .bool false, .bool false, .bool false, .bool false, .bool false, .bool false, .bool false, .bool false, .bool false, .bool false, .bool false, .bool false, .bool false, .bool false, .bool false, .bool false, .bool false, .bool false, .bool false, .bool false, .bool false, .bool false, .bool false, .bool false, .bool false, .bool false, .bool false, .bool false, .bool false, .bool false, .bool false, .bool false, .bool false, .bool false, .bool false, .bool false, .bool false, .bool false, .bool false, .bool false, .bool false, .bool false, .bool false, .bool false, .bool false, .bool false, .bool false, .bool false, .bool false, .bool false, .bool false, .bool false, .bool false, .bool false, .bool false, .bool false, .bool false, .bool false, .bool false, .bool false, .bool false, .bool false, .bool false, .bool false, .bool false, .bool false, .bool false, .bool false, .bool false, .bool false, .bool false, .bool false, .bool false, .bool false, .bool false, .bool false, .bool false, .bool false, .bool false, .bool false, .bool false, .bool false, .bool false, .bool false, .bool false, .bool false, .bool false, .bool false, .bool false, .bool false, .bool false, .bool false, .bool false, .bool false, .bool false, .bool false, .bool false, .bool false, .bool false, .bool false, .bool false, .bool false, .bool false, .bool false, .bool false, .bool false, .bool false, .bool false, .bool false, .bool false, .bool false, .bool false, .bool false, .bool false, .bool false, .bool false, .bool false]), none⟩,
  ⟨.pointer 35, 1, 8, some (.pointer none), none⟩,
  ⟨.func #[25, 3] #[4] false, 1, 8, some .nilFunc, none⟩,
  ⟨.slice 4, 1, 24, some (.slice none 0 0), none⟩,
  ⟨.func #[35, 3] #[4] false, 1, 8, some .nilFunc, none⟩,
  ⟨.map 9 3, 1, 8, some (.map none), none⟩,
  ⟨.func #[63] #[69] false, 1, 8, some .nilFunc, none⟩,
  ⟨.func #[65, 3] #[4] false, 1, 8, some .nilFunc, none⟩,
  ⟨.func #[31, 73] #[3] false, 1, 8, some .nilFunc, none⟩,
  ⟨.func #[65] #[3] false, 1, 8, some .nilFunc, none⟩,
  ⟨.func #[22, 22, 78] #[4] false, 1, 8, some .nilFunc, none⟩,
  ⟨.func #[31, 31, 77] #[4] false, 1, 8, some .nilFunc, none⟩,
  ⟨.func #[25, 25] #[4] false, 1, 8, some .nilFunc, none⟩,
  ⟨.func #[35, 35] #[4] false, 1, 8, some .nilFunc, none⟩,
  ⟨.func #[33, 33] #[4] false, 1, 8, some .nilFunc, none⟩,
  ⟨.func #[80] #[4] false, 1, 8, some .nilFunc, none⟩]
def ty5 : List TyRow := [⟨.pointer 46, 1, 8, some (.pointer none), none⟩,
  ⟨.map 86 4, 1, 8, some (.map none), none⟩,
  ⟨.func #[89] #[] false, 1, 8, some .nilFunc, none⟩,
  ⟨.func #[89] #[] false, 1, 8, some .nilFunc, none⟩,
  ⟨.func #[80, 3] #[83] false, 1, 8, some .nilFunc, none⟩,
  ⟨.struct #[⟨ "n", 3, 0, false, "", "allotment/conform", 0⟩], 1, 8, some (.agg #[.int .i64 0]), some [(0, 0)]⟩,
  ⟨.struct #[⟨ "n", 3, 0, false, "", "allotment/conform", 0⟩], 1, 8, some (.agg #[.int .i64 0]), some [(0, 0)]⟩,
  ⟨.func #[52, 46, 3, 3] #[52] false, 1, 8, some .nilFunc, none⟩,
  ⟨.func #[25, 3] #[3] false, 1, 8, some .nilFunc, none⟩,
  ⟨.func #[80, 3] #[4] false, 1, 8, some .nilFunc, none⟩,
  ⟨.func #[] #[9] false, 1, 8, some .nilFunc, none⟩,
  ⟨.struct #[⟨ "_interface", 17, 0, false, "", "runtime", 0⟩, ⟨ "concrete", 17, 1, false, "", "runtime", 8⟩, ⟨ "asserted", 17, 2, false, "", "runtime", 16⟩, ⟨ "missingMethod", 9, 3, false, "", "runtime", 24⟩], 4, 40, some (.agg #[.pointer none, .pointer none, .pointer none, .string ⟨#[]⟩]), none⟩,
  ⟨.struct #[⟨ "_interface", 17, 0, false, "", "runtime", 0⟩, ⟨ "concrete", 17, 1, false, "", "runtime", 8⟩, ⟨ "asserted", 17, 2, false, "", "runtime", 16⟩, ⟨ "missingMethod", 9, 3, false, "", "runtime", 24⟩], 4, 40, some (.agg #[.pointer none, .pointer none, .pointer none, .string ⟨#[]⟩]), none⟩,
  ⟨.array 0 16, 0, 0, some (.agg #[]), none⟩,
  ⟨.struct #[⟨ "_", 93, 0, false, "", "runtime", 0⟩], 0, 0, some (.agg #[]), none⟩,
  ⟨.struct #[⟨ "_", 93, 0, false, "", "runtime", 0⟩], 0, 0, some (.agg #[]), none⟩]
def ty6 : List TyRow := [⟨.func #[] #[3] false, 1, 8, some .nilFunc, none⟩,
  ⟨.int .u32, 1, 4, some (.int .u32 0), none⟩,
  ⟨.int .u8, 1, 1, some (.int .u8 0), none⟩,
  ⟨.int .u8, 1, 1, some (.int .u8 0), none⟩,
  ⟨.func #[106, 106] #[4] false, 1, 8, some .nilFunc, none⟩,
  ⟨.pointer 5, 1, 8, some (.pointer none), none⟩,
  ⟨.int .i32, 1, 4, some (.int .i32 0), none⟩,
  ⟨.int .i32, 1, 4, some (.int .i32 0), none⟩,
  ⟨.struct #[⟨ "Size_", 12, 0, false, "", "", 0⟩, ⟨ "PtrBytes", 12, 1, false, "", "", 8⟩, ⟨ "Hash", 97, 2, false, "", "", 16⟩, ⟨ "TFlag", 98, 3, false, "", "", 20⟩, ⟨ "Align_", 5, 4, false, "", "", 21⟩, ⟨ "FieldAlign_", 5, 5, false, "", "", 22⟩, ⟨ "Kind_", 99, 6, false, "", "", 23⟩, ⟨ "Equal", 100, 7, false, "", "", 24⟩, ⟨ "GCData", 101, 8, false, "", "", 32⟩, ⟨ "Str", 102, 9, false, "", "", 40⟩, ⟨ "PtrToThis", 103, 10, false, "", "", 44⟩], 11, 48, some (.agg #[.int .u64 0, .int .u64 0, .int .u32 0, .int .u8 0, .int .u8 0, .int .u8 0, .int .u8 0, .nilFunc, .pointer none, .int .i32 0, .int .i32 0]), none⟩,
  ⟨.struct #[⟨ "Size_", 12, 0, false, "", "", 0⟩, ⟨ "PtrBytes", 12, 1, false, "", "", 8⟩, ⟨ "Hash", 97, 2, false, "", "", 16⟩, ⟨ "TFlag", 98, 3, false, "", "", 20⟩, ⟨ "Align_", 5, 4, false, "", "", 21⟩, ⟨ "FieldAlign_", 5, 5, false, "", "", 22⟩, ⟨ "Kind_", 99, 6, false, "", "", 23⟩, ⟨ "Equal", 100, 7, false, "", "", 24⟩, ⟨ "GCData", 101, 8, false, "", "", 32⟩, ⟨ "Str", 102, 9, false, "", "", 40⟩, ⟨ "PtrToThis", 103, 10, false, "", "", 44⟩], 11, 48, some (.agg #[.int .u64 0, .int .u64 0, .int .u32 0, .int .u8 0, .int .u8 0, .int .u8 0, .int .u8 0, .nilFunc, .pointer none, .int .i32 0, .int .i32 0]), none⟩,
  ⟨.unsafePointer, 1, 8, some (.pointer none), none⟩]
def tyTab : List (List TyRow) := [ty0, ty1, ty2, ty3, ty4, ty5, ty6]
def tyRow (t : TypeId) : Option TyRow := match tyTab[t / 16]? with
  | some l => l[t % 16]?
  | none => none
noncomputable def tyU (t : TypeId) : Option TypeDesc := match tyRow t with
  | some r => some r.d
  | none => Try.prog.underlying t
noncomputable def tyI (t : TypeId) : Bool := match tyRow t with
  | some _ => true
  | none => (Try.prog.info? t).isSome
noncomputable def tyC (t : TypeId) : Nat := match tyRow t with
  | some r => r.c
  | none => Try.prog.cellsOf t
noncomputable def tyB (t : TypeId) : Nat := match tyRow t with
  | some r => r.b
  | none => Try.prog.bytesOf t
noncomputable def tyZ (t : TypeId) : Option Value := match tyRow t with
  | some r => r.z
  | none => (Try.prog.info? t).bind (·.zero)
noncomputable def tyS (t : TypeId) : Option (List (Nat × Nat)) := match tyRow t with
  | some r => r.s
  | none => flatS Try.prog t
noncomputable def T0 : TyOps := ⟨tyU, tyI, tyC, tyB, tyZ, tyS⟩
theorem ty_range {α : Type} (f g : Nat → α) (n : Nat) (h : (List.range n).map f = (List.range n).map g) (hn : ∀ t, n ≤ t → f t = g t) : f = g := by
  funext t
  by_cases ht : t < n
  · have := congrArg (fun l => l[t]?) h
    simpa [List.getElem?_range ht] using this
  · exact hn t (by omega)
theorem tyRow_none (t : Nat) (h : 107 ≤ t) : tyRow t = none := by
  unfold tyRow
  have h1 : 6 ≤ t / 16 := by omega
  rcases Nat.lt_or_ge (t / 16) 7 with h2 | h2
  · have : t / 16 = 6 := by omega
    rw [this]
    have h3 : 11 ≤ t % 16 := by omega
    show ty6[t % 16]? = none
    exact List.getElem?_eq_none (Nat.le_trans (by decide) h3)
  · have : tyTab[t / 16]? = none := List.getElem?_eq_none (Nat.le_trans (by decide) h2)
    rw [this]
theorem tyU_ok : tyU = Try.prog.underlying := ty_range _ _ 107 (by kernel_rfl) fun t h => by
  simp only [tyU, tyRow_none t h]
theorem tyI_ok : tyI = fun t => (Try.prog.info? t).isSome := ty_range _ _ 107 (by kernel_rfl) fun t h => by
  simp only [tyI, tyRow_none t h]
theorem tyC_ok : tyC = Try.prog.cellsOf := ty_range _ _ 107 (by kernel_rfl) fun t h => by
  simp only [tyC, tyRow_none t h]
theorem tyB_ok : tyB = Try.prog.bytesOf := ty_range _ _ 107 (by kernel_rfl) fun t h => by
  simp only [tyB, tyRow_none t h]
theorem tyZ_ok : tyZ = fun t => (Try.prog.info? t).bind (·.zero) := ty_range _ _ 107 (by kernel_rfl) fun t h => by
  simp only [tyZ, tyRow_none t h]
theorem tyS_ok : tyS = flatS Try.prog := ty_range _ _ 107 (by kernel_rfl) fun t h => by
  simp only [tyS, tyRow_none t h]
theorem T0_ok {P : Program} (hP : P = Try.prog) : T0 = tyOf P := by
  subst hP
  simp only [T0, tyOf, tyU_ok, tyI_ok, tyC_ok, tyB_ok, tyZ_ok, tyS_ok]
theorem follows_mixed : Try.prog.follows .mixedOrders = true := by kernel_rfl
end Go.Proofs.Ytlngpfocngfokaa.Tw
