import Derived.Test.YtmbbdabcbnemiaaProg
import Derived.Test.YtmbbdabcbnemiaaTw4
import Derived.KernelRfl
/-! The table of the program's types, for the abstract walk. Written by a program of ours (wip/tools/gentypes.py) out of the translation. -/
namespace Go.Proofs.Ytmbbdabcbnemiaa.Tw
open Go
set_option maxRecDepth 100000
structure TyRow where
  d : TypeDesc
  c : Nat
  b : Nat
  z : Option Value
  s : Option (List (Nat × Nat))
def ty0 : List TyRow := [⟨.tuple #[], 1, 0, some (.tuple #[]), none⟩,
  ⟨.func #[] #[] false, 1, 8, some .nilFunc, none⟩,
  ⟨.int .i64, 1, 8, some (.int .i64 0), none⟩,
  ⟨.int .i64, 1, 8, some (.int .i64 0), none⟩,
  ⟨.bool, 1, 1, some (.bool false), none⟩,
  ⟨.int .u8, 1, 1, some (.int .u8 0), none⟩,
  ⟨.int .u8, 1, 1, some (.int .u8 0), none⟩,
  ⟨.struct #[⟨ "x", 2, 0, false, "", "runtime", 0⟩, ⟨ "y", 3, 1, false, "", "runtime", 8⟩, ⟨ "signed", 4, 2, false, "", "runtime", 16⟩, ⟨ "code", 6, 3, false, "", "runtime", 17⟩], 4, 24, some (.agg #[.int .i64 0, .int .i64 0, .bool false, .int .u8 0]), some [(0, 0), (1, 0), (2, 1), (3, 0)]⟩,
  ⟨.struct #[⟨ "x", 2, 0, false, "", "runtime", 0⟩, ⟨ "y", 3, 1, false, "", "runtime", 8⟩, ⟨ "signed", 4, 2, false, "", "runtime", 16⟩, ⟨ "code", 6, 3, false, "", "runtime", 17⟩], 4, 24, some (.agg #[.int .i64 0, .int .i64 0, .bool false, .int .u8 0]), some [(0, 0), (1, 0), (2, 1), (3, 0)]⟩,
  ⟨.string, 1, 16, some (.string ⟨#[]⟩), none⟩,
  ⟨.string, 1, 16, some (.string ⟨#[]⟩), none⟩,
  ⟨.string, 1, 16, some (.string ⟨#[]⟩), none⟩,
  ⟨.int .u64, 1, 8, some (.int .u64 0), none⟩,
  ⟨.struct #[⟨ "msg", 9, 0, false, "", "runtime", 0⟩, ⟨ "addr", 12, 1, false, "", "runtime", 16⟩], 2, 24, some (.agg #[.string ⟨#[]⟩, .int .u64 0]), none⟩,
  ⟨.struct #[⟨ "msg", 9, 0, false, "", "runtime", 0⟩, ⟨ "addr", 12, 1, false, "", "runtime", 16⟩], 2, 24, some (.agg #[.string ⟨#[]⟩, .int .u64 0]), none⟩,
  ⟨.pointer 90, 1, 8, some (.pointer none), none⟩]
def ty1 : List TyRow := [⟨.pointer 93, 1, 8, some (.pointer none), none⟩,
  ⟨.pointer 102, 1, 8, some (.pointer none), none⟩,
  ⟨.struct #[⟨ "typ", 17, 0, false, "", "internal/runtime/maps", 0⟩], 1, 8, some (.agg #[.pointer none]), none⟩,
  ⟨.struct #[⟨ "typ", 17, 0, false, "", "internal/runtime/maps", 0⟩], 1, 8, some (.agg #[.pointer none]), none⟩,
  ⟨.interface #[], 1, 16, some .nilIface, none⟩,
  ⟨.int .i32, 1, 4, some (.int .i32 0), none⟩,
  ⟨.slice 5, 1, 24, some (.slice none 0 0), none⟩,
  ⟨.slice 25, 1, 24, some (.slice none 0 0), none⟩,
  ⟨.struct #[⟨ "Id", 3, 0, false, "", "", 0⟩, ⟨ "Kind", 3, 1, false, "", "", 8⟩, ⟨ "Text", 9, 2, false, "", "", 16⟩, ⟨ "Kids", 23, 3, false, "", "", 32⟩], 4, 56, some (.agg #[.int .i64 0, .int .i64 0, .string ⟨#[]⟩, .slice none 0 0]), none⟩,
  ⟨.struct #[⟨ "Id", 3, 0, false, "", "", 0⟩, ⟨ "Kind", 3, 1, false, "", "", 8⟩, ⟨ "Text", 9, 2, false, "", "", 16⟩, ⟨ "Kids", 23, 3, false, "", "", 32⟩], 4, 56, some (.agg #[.int .i64 0, .int .i64 0, .string ⟨#[]⟩, .slice none 0 0]), none⟩,
  ⟨.slice 55, 1, 24, some (.slice none 0 0), none⟩,
  ⟨.func #[25] #[4] false, 1, 8, some .nilFunc, none⟩,
  ⟨.func #[26] #[4] false, 1, 8, some .nilFunc, none⟩,
  ⟨.func #[] #[4] false, 1, 8, some .nilFunc, none⟩,
  ⟨.func #[22, 3] #[22] false, 1, 8, some .nilFunc, none⟩,
  ⟨.func #[22, 9] #[22] false, 1, 8, some .nilFunc, none⟩]
def ty2 : List TyRow := [⟨.func #[22, 25] #[22] false, 1, 8, some .nilFunc, none⟩,
  ⟨.func #[22, 26] #[22] false, 1, 8, some .nilFunc, none⟩,
  ⟨.func #[22, 3, 9, 25, 26] #[4] false, 1, 8, some .nilFunc, none⟩,
  ⟨.slice 3, 1, 24, some (.slice none 0 0), none⟩,
  ⟨.pointer 70, 1, 8, some (.pointer none), none⟩,
  ⟨.func #[22] #[36] false, 1, 8, some .nilFunc, none⟩,
  ⟨.pointer 72, 1, 8, some (.pointer none), none⟩,
  ⟨.func #[22] #[38] false, 1, 8, some .nilFunc, none⟩,
  ⟨.func #[] #[3] false, 1, 8, some .nilFunc, none⟩,
  ⟨.int .i8, 1, 1, some (.int .i8 0), none⟩,
  ⟨.func #[] #[41] false, 1, 8, some .nilFunc, none⟩,
  ⟨.func #[] #[9] false, 1, 8, some .nilFunc, none⟩,
  ⟨.func #[] #[25] false, 1, 8, some .nilFunc, none⟩,
  ⟨.func #[25, 25] #[4] false, 1, 8, some .nilFunc, none⟩,
  ⟨.func #[] #[26] false, 1, 8, some .nilFunc, none⟩,
  ⟨.func #[26, 26] #[4] false, 1, 8, some .nilFunc, none⟩]
def ty3 : List TyRow := [⟨.func #[3, 3] #[3] false, 1, 8, some .nilFunc, none⟩,
  ⟨.int .i64, 1, 8, some (.int .i64 0), none⟩,
  ⟨.tuple #[3, 49], 1, 0, some (.tuple #[.int .i64 0, .int .i64 0]), none⟩,
  ⟨.func #[] #[3, 49] false, 1, 8, some .nilFunc, none⟩,
  ⟨.func #[22, 35, 3, 3] #[4] false, 1, 8, some .nilFunc, none⟩,
  ⟨.func #[3, 3] #[4] false, 1, 8, some .nilFunc, none⟩,
  ⟨.struct #[⟨ "Op", 41, 0, false, "", "", 0⟩, ⟨ "Id", 3, 1, false, "", "", 8⟩, ⟨ "Parent", 3, 2, false, "", "", 16⟩, ⟨ "Place", 3, 3, false, "", "", 24⟩, ⟨ "Text", 9, 4, false, "", "", 32⟩, ⟨ "Sub", 25, 5, false, "", "", 48⟩], 9, 104, some (.agg #[.int .i8 0, .int .i64 0, .int .i64 0, .int .i64 0, .string ⟨#[]⟩, .int .i64 0, .int .i64 0, .string ⟨#[]⟩, .slice none 0 0]), none⟩,
  ⟨.struct #[⟨ "Op", 41, 0, false, "", "", 0⟩, ⟨ "Id", 3, 1, false, "", "", 8⟩, ⟨ "Parent", 3, 2, false, "", "", 16⟩, ⟨ "Place", 3, 3, false, "", "", 24⟩, ⟨ "Text", 9, 4, false, "", "", 32⟩, ⟨ "Sub", 25, 5, false, "", "", 48⟩], 9, 104, some (.agg #[.int .i8 0, .int .i64 0, .int .i64 0, .int .i64 0, .string ⟨#[]⟩, .int .i64 0, .int .i64 0, .string ⟨#[]⟩, .slice none 0 0]), none⟩,
  ⟨.slice 59, 1, 24, some (.slice none 0 0), none⟩,
  ⟨.func #[25, 3] #[56] false, 1, 8, some .nilFunc, none⟩,
  ⟨.struct #[⟨ "X", 25, 0, false, "", "", 0⟩, ⟨ "Depth", 3, 4, false, "", "", 56⟩], 5, 64, some (.agg #[.int .i64 0, .int .i64 0, .string ⟨#[]⟩, .slice none 0 0, .int .i64 0]), none⟩,
  ⟨.struct #[⟨ "X", 25, 0, false, "", "", 0⟩, ⟨ "Depth", 3, 4, false, "", "", 56⟩], 5, 64, some (.agg #[.int .i64 0, .int .i64 0, .string ⟨#[]⟩, .slice none 0 0, .int .i64 0]), none⟩,
  ⟨.func #[3, 9, 25, 26, 22] #[4] false, 1, 8, some .nilFunc, none⟩,
  ⟨.func #[22] #[22] false, 1, 8, some .nilFunc, none⟩,
  ⟨.int .u64, 1, 8, some (.int .u64 0), none⟩,
  ⟨.int .u64, 1, 8, some (.int .u64 0), none⟩]
def ty4 : List TyRow := [⟨.func #[22, 65] #[22] false, 1, 8, some .nilFunc, none⟩,
  ⟨.pointer 25, 1, 8, some (.pointer none), none⟩,
  ⟨.pointer 55, 1, 8, some (.pointer none), none⟩,
  ⟨.array 3 3, 3, 24, some (.agg #[.int .i64 0, .int .i64 0, .int .i64 0]), none⟩,
  ⟨.func #[22, 55] #[22] false, 1, 8, some .nilFunc, none⟩,
  ⟨.struct #[⟨ "b", 22, 0, false, "", "allotment/code", 0⟩, ⟨ "at", 3, 1, false, "", "allotment/code", 24⟩, ⟨ "bad", 3, 2, false, "", "allotment/code", 32⟩], 3, 40, some (.agg #[.slice none 0 0, .int .i64 0, .int .i64 0]), none⟩,
  ⟨.struct #[⟨ "b", 22, 0, false, "", "allotment/code", 0⟩, ⟨ "at", 3, 1, false, "", "allotment/code", 24⟩, ⟨ "bad", 3, 2, false, "", "allotment/code", 32⟩], 3, 40, some (.agg #[.slice none 0 0, .int .i64 0, .int .i64 0]), none⟩,
  ⟨.struct #[⟨ "B", 22, 0, false, "", "", 0⟩, ⟨ "At", 3, 1, false, "", "", 24⟩, ⟨ "Bad", 3, 2, false, "", "", 32⟩, ⟨ "Nodes", 3, 3, false, "", "", 40⟩], 4, 48, some (.agg #[.slice none 0 0, .int .i64 0, .int .i64 0, .int .i64 0]), none⟩,
  ⟨.struct #[⟨ "B", 22, 0, false, "", "", 0⟩, ⟨ "At", 3, 1, false, "", "", 24⟩, ⟨ "Bad", 3, 2, false, "", "", 32⟩, ⟨ "Nodes", 3, 3, false, "", "", 40⟩], 4, 48, some (.agg #[.slice none 0 0, .int .i64 0, .int .i64 0, .int .i64 0]), none⟩,
  ⟨.func #[36, 40] #[3] false, 1, 8, some .nilFunc, none⟩,
  ⟨.func #[3] #[] false, 1, 8, some .nilFunc, none⟩,
  ⟨.func #[36, 42] #[41] false, 1, 8, some .nilFunc, none⟩,
  ⟨.func #[36, 43] #[9] false, 1, 8, some .nilFunc, none⟩,
  ⟨.func #[36, 44] #[25] false, 1, 8, some .nilFunc, none⟩,
  ⟨.func #[3] #[25] false, 1, 8, some .nilFunc, none⟩,
  ⟨.func #[36, 46] #[26] false, 1, 8, some .nilFunc, none⟩]
def ty5 : List TyRow := [⟨.func #[3, 81] #[26] false, 1, 8, some .nilFunc, none⟩,
  ⟨.func #[] #[55] false, 1, 8, some .nilFunc, none⟩,
  ⟨.func #[55, 55] #[4] false, 1, 8, some .nilFunc, none⟩,
  ⟨.func #[56, 25, 3, 3] #[56] false, 1, 8, some .nilFunc, none⟩,
  ⟨.struct #[⟨ "at", 3, 0, false, "", "allotment/code", 0⟩], 1, 8, some (.agg #[.int .i64 0]), some [(0, 0)]⟩,
  ⟨.struct #[⟨ "at", 3, 0, false, "", "allotment/code", 0⟩], 1, 8, some (.agg #[.int .i64 0]), some [(0, 0)]⟩,
  ⟨.tuple #[85, 4], 1, 0, some (.tuple #[.agg #[.int .i64 0], .bool false]), none⟩,
  ⟨.func #[3] #[22] false, 1, 8, some .nilFunc, none⟩,
  ⟨.func #[3, 44] #[23] false, 1, 8, some .nilFunc, none⟩,
  ⟨.struct #[⟨ "_interface", 17, 0, false, "", "runtime", 0⟩, ⟨ "concrete", 17, 1, false, "", "runtime", 8⟩, ⟨ "asserted", 17, 2, false, "", "runtime", 16⟩, ⟨ "missingMethod", 9, 3, false, "", "runtime", 24⟩], 4, 40, some (.agg #[.pointer none, .pointer none, .pointer none, .string ⟨#[]⟩]), none⟩,
  ⟨.struct #[⟨ "_interface", 17, 0, false, "", "runtime", 0⟩, ⟨ "concrete", 17, 1, false, "", "runtime", 8⟩, ⟨ "asserted", 17, 2, false, "", "runtime", 16⟩, ⟨ "missingMethod", 9, 3, false, "", "runtime", 24⟩], 4, 40, some (.agg #[.pointer none, .pointer none, .pointer none, .string ⟨#[]⟩]), none⟩,
  ⟨.array 0 16, 0, 0, some (.agg #[]), none⟩,
  ⟨.struct #[⟨ "_", 91, 0, false, "", "runtime", 0⟩], 0, 0, some (.agg #[]), none⟩,
  ⟨.struct #[⟨ "_", 91, 0, false, "", "runtime", 0⟩], 0, 0, some (.agg #[]), none⟩,
  ⟨.int .u32, 1, 4, some (.int .u32 0), none⟩,
  ⟨.int .u8, 1, 1, some (.int .u8 0), none⟩]
def ty6 : List TyRow := [⟨.int .u8, 1, 1, some (.int .u8 0), none⟩,
  ⟨.func #[103, 103] #[4] false, 1, 8, some .nilFunc, none⟩,
  ⟨.pointer 5, 1, 8, some (.pointer none), none⟩,
  ⟨.int .i32, 1, 4, some (.int .i32 0), none⟩,
  ⟨.int .i32, 1, 4, some (.int .i32 0), none⟩,
  ⟨.struct #[⟨ "Size_", 12, 0, false, "", "", 0⟩, ⟨ "PtrBytes", 12, 1, false, "", "", 8⟩, ⟨ "Hash", 94, 2, false, "", "", 16⟩, ⟨ "TFlag", 95, 3, false, "", "", 20⟩, ⟨ "Align_", 5, 4, false, "", "", 21⟩, ⟨ "FieldAlign_", 5, 5, false, "", "", 22⟩, ⟨ "Kind_", 96, 6, false, "", "", 23⟩, ⟨ "Equal", 97, 7, false, "", "", 24⟩, ⟨ "GCData", 98, 8, false, "", "", 32⟩, ⟨ "Str", 99, 9, false, "", "", 40⟩, ⟨ "PtrToThis", 100, 10, false, "", "", 44⟩], 11, 48, some (.agg #[.int .u64 0, .int .u64 0, .int .u32 0, .int .u8 0, .int .u8 0, .int .u8 0, .int .u8 0, .nilFunc, .pointer none, .int .i32 0, .int .i32 0]), none⟩,
  ⟨.struct #[⟨ "Size_", 12, 0, false, "", "", 0⟩, ⟨ "PtrBytes", 12, 1, false, "", "", 8⟩, ⟨ "Hash", 94, 2, false, "", "", 16⟩, ⟨ "TFlag", 95, 3, false, "", "", 20⟩, ⟨ "Align_", 5, 4, false, "", "", 21⟩, ⟨ "FieldAlign_", 5, 5, false, "", "", 22⟩, ⟨ "Kind_", 96, 6, false, "", "", 23⟩, ⟨ "Equal", 97, 7, false, "", "", 24⟩, ⟨ "GCData", 98, 8, false, "", "", 32⟩, ⟨ "Str", 99, 9, false, "", "", 40⟩, ⟨ "PtrToThis", 100, 10, false, "", "", 44⟩], 11, 48, some (.agg #[.int .u64 0, .int .u64 0, .int .u32 0, .int .u8 0, .int .u8 0, .int .u8 0, .int .u8 0, .nilFunc, .pointer none, .int .i32 0, .int .i32 0]), none⟩,
  ⟨.unsafePointer, 1, 8, some (.pointer none), none⟩]
def tyTab : List (List TyRow) := [ty0, ty1, ty2, ty3, ty4, ty5, ty6]
def tyRow (t : TypeId) : Option TyRow := match tyTab[t / 16]? with
  | some l => l[t % 16]?
  | none => none
noncomputable def tyU (t : TypeId) : Option TypeDesc := match tyRow t with
  | some r => some r.d
  | none => Try.prog.underlying t
noncomputable def tyI (t : TypeId) : Bool := match tyRow t with
  | some _ => true
  | none => (Try.prog.info? t).isSome
noncomputable def tyC (t : TypeId) : Nat := match tyRow t with
  | some r => r.c
  | none => Try.prog.cellsOf t
noncomputable def tyB (t : TypeId) : Nat := match tyRow t with
  | some r => r.b
  | none => Try.prog.bytesOf t
noncomputable def tyZ (t : TypeId) : Option Value := match tyRow t with
  | some r => r.z
  | none => (Try.prog.info? t).bind (·.zero)
noncomputable def tyS (t : TypeId) : Option (List (Nat × Nat)) := match tyRow t with
  | some r => r.s
  | none => flatS Try.prog t
noncomputable def T0 : TyOps := ⟨tyU, tyI, tyC, tyB, tyZ, tyS⟩
theorem ty_range {α : Type} (f g : Nat → α) (n : Nat) (h : (List.range n).map f = (List.range n).map g) (hn : ∀ t, n ≤ t → f t = g t) : f = g := by
  funext t
  by_cases ht : t < n
  · have := congrArg (fun l => l[t]?) h
    simpa [List.getElem?_range ht] using this
  · exact hn t (by omega)
theorem tyRow_none (t : Nat) (h : 104 ≤ t) : tyRow t = none := by
  unfold tyRow
  have h1 : 6 ≤ t / 16 := by omega
  rcases Nat.lt_or_ge (t / 16) 7 with h2 | h2
  · have : t / 16 = 6 := by omega
    rw [this]
    have h3 : 8 ≤ t % 16 := by omega
    show ty6[t % 16]? = none
    exact List.getElem?_eq_none (Nat.le_trans (by decide) h3)
  · have : tyTab[t / 16]? = none := List.getElem?_eq_none (Nat.le_trans (by decide) h2)
    rw [this]
theorem tyU_ok : tyU = Try.prog.underlying := ty_range _ _ 104 (by kernel_rfl) fun t h => by
  simp only [tyU, tyRow_none t h]
theorem tyI_ok : tyI = fun t => (Try.prog.info? t).isSome := ty_range _ _ 104 (by kernel_rfl) fun t h => by
  simp only [tyI, tyRow_none t h]
theorem tyC_ok : tyC = Try.prog.cellsOf := ty_range _ _ 104 (by kernel_rfl) fun t h => by
  simp only [tyC, tyRow_none t h]
theorem tyB_ok : tyB = Try.prog.bytesOf := ty_range _ _ 104 (by kernel_rfl) fun t h => by
  simp only [tyB, tyRow_none t h]
theorem tyZ_ok : tyZ = fun t => (Try.prog.info? t).bind (·.zero) := ty_range _ _ 104 (by kernel_rfl) fun t h => by
  simp only [tyZ, tyRow_none t h]
theorem tyS_ok : tyS = flatS Try.prog := ty_range _ _ 104 (by kernel_rfl) fun t h => by
  simp only [tyS, tyRow_none t h]
theorem T0_ok {P : Program} (hP : P = Try.prog) : T0 = tyOf P := by
  subst hP
  simp only [T0, tyOf, tyU_ok, tyI_ok, tyC_ok, tyB_ok, tyZ_ok, tyS_ok]
theorem follows_mixed : Try.prog.follows .mixedOrders = true := by kernel_rfl
end Go.Proofs.Ytmbbdabcbnemiaa.Tw
