import Derived.Test.YtaieiigfheabfaaProg
import Derived.Test.YtaieiigfheabfaaTw4
import Derived.KernelRfl
/-! The table of the program's types, for the abstract walk. Written by a program of ours (wip/tools/gentypes.py) out of the translation. -/
namespace Go.Proofs.Ytaieiigfheabfaa.Tw
open Go
set_option maxRecDepth 100000
structure TyRow where
  d : TypeDesc
  c : Nat
  b : Nat
  z : Option Value
  s : Option (List (Nat × Nat))
def ty0 : List TyRow := [⟨.tuple #[], 1, 0, some (.tuple #[]), none⟩,
  ⟨.func #[] #[] false, 1, 8, some .nilFunc, none⟩,
  ⟨.int .i64, 1, 8, some (.int .i64 0), none⟩,
  ⟨.int .i64, 1, 8, some (.int .i64 0), none⟩,
  ⟨.bool, 1, 1, some (.bool false), none⟩,
  ⟨.int .u8, 1, 1, some (.int .u8 0), none⟩,
  ⟨.int .u8, 1, 1, some (.int .u8 0), none⟩,
  ⟨.struct #[⟨ "x", 2, 0, false, "", "runtime", 0⟩, ⟨ "y", 3, 1, false, "", "runtime", 8⟩, ⟨ "signed", 4, 2, false, "", "runtime", 16⟩, ⟨ "code", 6, 3, false, "", "runtime", 17⟩], 4, 24, some (.agg #[.int .i64 0, .int .i64 0, .bool false, .int .u8 0]), some [(0, 0), (1, 0), (2, 1), (3, 0)]⟩,
  ⟨.struct #[⟨ "x", 2, 0, false, "", "runtime", 0⟩, ⟨ "y", 3, 1, false, "", "runtime", 8⟩, ⟨ "signed", 4, 2, false, "", "runtime", 16⟩, ⟨ "code", 6, 3, false, "", "runtime", 17⟩], 4, 24, some (.agg #[.int .i64 0, .int .i64 0, .bool false, .int .u8 0]), some [(0, 0), (1, 0), (2, 1), (3, 0)]⟩,
  ⟨.string, 1, 16, some (.string ⟨#[]⟩), none⟩,
  ⟨.string, 1, 16, some (.string ⟨#[]⟩), none⟩,
  ⟨.string, 1, 16, some (.string ⟨#[]⟩), none⟩,
  ⟨.int .u64, 1, 8, some (.int .u64 0), none⟩,
  ⟨.struct #[⟨ "msg", 9, 0, false, "", "runtime", 0⟩, ⟨ "addr", 12, 1, false, "", "runtime", 16⟩], 2, 24, some (.agg #[.string ⟨#[]⟩, .int .u64 0]), none⟩,
  ⟨.struct #[⟨ "msg", 9, 0, false, "", "runtime", 0⟩, ⟨ "addr", 12, 1, false, "", "runtime", 16⟩], 2, 24, some (.agg #[.string ⟨#[]⟩, .int .u64 0]), none⟩,
  ⟨.pointer 128, 1, 8, some (.pointer none), none⟩]
def ty1 : List TyRow := [⟨.pointer 131, 1, 8, some (.pointer none), none⟩,
  ⟨.pointer 141, 1, 8, some (.pointer none), none⟩,
  ⟨.struct #[⟨ "typ", 17, 0, false, "", "internal/runtime/maps", 0⟩], 1, 8, some (.agg #[.pointer none]), none⟩,
  ⟨.struct #[⟨ "typ", 17, 0, false, "", "internal/runtime/maps", 0⟩], 1, 8, some (.agg #[.pointer none]), none⟩,
  ⟨.interface #[], 1, 16, some .nilIface, none⟩,
  ⟨.int .i32, 1, 4, some (.int .i32 0), none⟩,
  ⟨.int .i8, 1, 1, some (.int .i8 0), none⟩,
  ⟨.slice 25, 1, 24, some (.slice none 0 0), none⟩,
  ⟨.struct #[⟨ "Id", 3, 0, false, "", "", 0⟩, ⟨ "Kind", 3, 1, false, "", "", 8⟩, ⟨ "Text", 9, 2, false, "", "", 16⟩, ⟨ "Kids", 23, 3, false, "", "", 32⟩], 4, 56, some (.agg #[.int .i64 0, .int .i64 0, .string ⟨#[]⟩, .slice none 0 0]), none⟩,
  ⟨.struct #[⟨ "Id", 3, 0, false, "", "", 0⟩, ⟨ "Kind", 3, 1, false, "", "", 8⟩, ⟨ "Text", 9, 2, false, "", "", 16⟩, ⟨ "Kids", 23, 3, false, "", "", 32⟩], 4, 56, some (.agg #[.int .i64 0, .int .i64 0, .string ⟨#[]⟩, .slice none 0 0]), none⟩,
  ⟨.struct #[⟨ "Op", 22, 0, false, "", "", 0⟩, ⟨ "Id", 3, 1, false, "", "", 8⟩, ⟨ "Parent", 3, 2, false, "", "", 16⟩, ⟨ "Place", 3, 3, false, "", "", 24⟩, ⟨ "Text", 9, 4, false, "", "", 32⟩, ⟨ "Sub", 25, 5, false, "", "", 48⟩], 9, 104, some (.agg #[.int .i8 0, .int .i64 0, .int .i64 0, .int .i64 0, .string ⟨#[]⟩, .int .i64 0, .int .i64 0, .string ⟨#[]⟩, .slice none 0 0]), none⟩,
  ⟨.struct #[⟨ "Op", 22, 0, false, "", "", 0⟩, ⟨ "Id", 3, 1, false, "", "", 8⟩, ⟨ "Parent", 3, 2, false, "", "", 16⟩, ⟨ "Place", 3, 3, false, "", "", 24⟩, ⟨ "Text", 9, 4, false, "", "", 32⟩, ⟨ "Sub", 25, 5, false, "", "", 48⟩], 9, 104, some (.agg #[.int .i8 0, .int .i64 0, .int .i64 0, .int .i64 0, .string ⟨#[]⟩, .int .i64 0, .int .i64 0, .string ⟨#[]⟩, .slice none 0 0]), none⟩,
  ⟨.func #[29] #[4] false, 1, 8, some .nilFunc, none⟩,
  ⟨.slice 27, 1, 24, some (.slice none 0 0), none⟩,
  ⟨.func #[] #[4] false, 1, 8, some .nilFunc, none⟩,
  ⟨.tuple #[29, 4], 1, 0, some (.tuple #[.slice none 0 0, .bool false]), none⟩]
def ty2 : List TyRow := [⟨.func #[27, 27] #[29, 4] false, 1, 8, some .nilFunc, none⟩,
  ⟨.func #[29, 29] #[4] false, 1, 8, some .nilFunc, none⟩,
  ⟨.func #[27, 27] #[4] false, 1, 8, some .nilFunc, none⟩,
  ⟨.func #[29] #[29] false, 1, 8, some .nilFunc, none⟩,
  ⟨.slice 115, 1, 24, some (.slice none 0 0), none⟩,
  ⟨.struct #[⟨ "Kinds", 36, 0, false, "", "", 0⟩, ⟨ "Root", 3, 1, false, "", "", 24⟩], 2, 32, some (.agg #[.slice none 0 0, .int .i64 0]), none⟩,
  ⟨.struct #[⟨ "Kinds", 36, 0, false, "", "", 0⟩, ⟨ "Root", 3, 1, false, "", "", 24⟩], 2, 32, some (.agg #[.slice none 0 0, .int .i64 0]), none⟩,
  ⟨.slice 66, 1, 24, some (.slice none 0 0), none⟩,
  ⟨.func #[25, 3] #[39] false, 1, 8, some .nilFunc, none⟩,
  ⟨.func #[25] #[4] false, 1, 8, some .nilFunc, none⟩,
  ⟨.tuple #[25, 4], 1, 0, some (.tuple #[.agg #[.int .i64 0, .int .i64 0, .string ⟨#[]⟩, .slice none 0 0], .bool false]), none⟩,
  ⟨.func #[25, 29] #[25, 4] false, 1, 8, some .nilFunc, none⟩,
  ⟨.func #[25, 25] #[4] false, 1, 8, some .nilFunc, none⟩,
  ⟨.func #[38, 25, 29] #[25, 4] false, 1, 8, some .nilFunc, none⟩,
  ⟨.func #[38, 25, 29] #[4] false, 1, 8, some .nilFunc, none⟩,
  ⟨.int .i64, 1, 8, some (.int .i64 0), none⟩]
def ty3 : List TyRow := [⟨.tuple #[25, 47], 1, 0, some (.tuple #[.agg #[.int .i64 0, .int .i64 0, .string ⟨#[]⟩, .slice none 0 0], .int .i64 0]), none⟩,
  ⟨.func #[25, 27] #[25, 47] false, 1, 8, some .nilFunc, none⟩,
  ⟨.tuple #[27, 47], 1, 0, some (.tuple #[.agg #[.int .i8 0, .int .i64 0, .int .i64 0, .int .i64 0, .string ⟨#[]⟩, .int .i64 0, .int .i64 0, .string ⟨#[]⟩, .slice none 0 0], .int .i64 0]), none⟩,
  ⟨.func #[25, 27] #[27, 47] false, 1, 8, some .nilFunc, none⟩,
  ⟨.func #[25, 27] #[4] false, 1, 8, some .nilFunc, none⟩,
  ⟨.func #[25, 29] #[4] false, 1, 8, some .nilFunc, none⟩,
  ⟨.func #[3, 9] #[27] false, 1, 8, some .nilFunc, none⟩,
  ⟨.slice 57, 1, 24, some (.slice none 0 0), none⟩,
  ⟨.func #[] #[55] false, 1, 8, some .nilFunc, none⟩,
  ⟨.func #[27, 27] #[29, 4] false, 1, 8, some .nilFunc, none⟩,
  ⟨.func #[27] #[27] false, 1, 8, some .nilFunc, none⟩,
  ⟨.func #[25, 3, 9] #[25, 4] false, 1, 8, some .nilFunc, none⟩,
  ⟨.func #[28] #[] false, 1, 8, some .nilFunc, none⟩,
  ⟨.func #[28] #[] false, 1, 8, some .nilFunc, none⟩,
  ⟨.func #[29] #[61] false, 1, 8, some .nilFunc, none⟩,
  ⟨.func #[29] #[29, 4] false, 1, 8, some .nilFunc, none⟩]
def ty4 : List TyRow := [⟨.func #[39, 25, 3, 3] #[39] false, 1, 8, some .nilFunc, none⟩,
  ⟨.struct #[⟨ "X", 25, 0, false, "", "", 0⟩, ⟨ "Depth", 3, 4, false, "", "", 56⟩], 5, 64, some (.agg #[.int .i64 0, .int .i64 0, .string ⟨#[]⟩, .slice none 0 0, .int .i64 0]), none⟩,
  ⟨.struct #[⟨ "X", 25, 0, false, "", "", 0⟩, ⟨ "Depth", 3, 4, false, "", "", 56⟩], 5, 64, some (.agg #[.int .i64 0, .int .i64 0, .string ⟨#[]⟩, .slice none 0 0, .int .i64 0]), none⟩,
  ⟨.func #[38, 25, 27] #[25, 47] false, 1, 8, some .nilFunc, none⟩,
  ⟨.func #[] #[25] false, 1, 8, some .nilFunc, none⟩,
  ⟨.func #[74, 76] #[47] false, 1, 8, some .nilFunc, none⟩,
  ⟨.func #[74, 76] #[47] false, 1, 8, some .nilFunc, none⟩,
  ⟨.array 5 70, 5, 40, some (.agg #[.nilFunc, .nilFunc, .nilFunc, .nilFunc, .nilFunc]), none⟩,
  ⟨.func #[] #[71] false, 1, 8, some .nilFunc, none⟩,
  ⟨.func #[74] #[4] false, 1, 8, some .nilFunc, none⟩,
  ⟨.pointer 25, 1, 8, some (.pointer none), none⟩,
  ⟨.func #[74] #[25] false, 1, 8, some .nilFunc, none⟩,
  ⟨.pointer 27, 1, 8, some (.pointer none), none⟩,
  ⟨.func #[25, 27] #[27] false, 1, 8, some .nilFunc, none⟩,
  ⟨.array 5 77, 5, 40, some (.agg #[.nilFunc, .nilFunc, .nilFunc, .nilFunc, .nilFunc]), none⟩,
  ⟨.func #[] #[78] false, 1, 8, some .nilFunc, none⟩]
def ty5 : List TyRow := [⟨.func #[22] #[57] false, 1, 8, some .nilFunc, none⟩,
  ⟨.func #[74, 3, 9] #[4] false, 1, 8, some .nilFunc, none⟩,
  ⟨.func #[25] #[25] false, 1, 8, some .nilFunc, none⟩,
  ⟨.tuple #[3, 47], 1, 0, some (.tuple #[.int .i64 0, .int .i64 0]), none⟩,
  ⟨.func #[38, 25] #[3, 47] false, 1, 8, some .nilFunc, none⟩,
  ⟨.func #[74, 3] #[74] false, 1, 8, some .nilFunc, none⟩,
  ⟨.func #[74, 3] #[25, 4] false, 1, 8, some .nilFunc, none⟩,
  ⟨.func #[74, 88] #[4] false, 1, 8, some .nilFunc, none⟩,
  ⟨.pointer 3, 1, 8, some (.pointer none), none⟩,
  ⟨.func #[25, 3] #[25, 4] false, 1, 8, some .nilFunc, none⟩,
  ⟨.tuple #[3, 3, 4], 1, 0, some (.tuple #[.int .i64 0, .int .i64 0, .bool false]), none⟩,
  ⟨.func #[25, 3] #[3, 3, 4] false, 1, 8, some .nilFunc, none⟩,
  ⟨.func #[25, 3] #[25, 3, 3] false, 1, 8, some .nilFunc, none⟩,
  ⟨.tuple #[25, 3, 3], 1, 0, some (.tuple #[.agg #[.int .i64 0, .int .i64 0, .string ⟨#[]⟩, .slice none 0 0], .int .i64 0, .int .i64 0]), none⟩,
  ⟨.func #[25, 3, 23, 9] #[25] false, 1, 8, some .nilFunc, none⟩,
  ⟨.func #[25, 3] #[25] false, 1, 8, some .nilFunc, none⟩]
def ty6 : List TyRow := [⟨.func #[38] #[47] false, 1, 8, some .nilFunc, none⟩,
  ⟨.map 3 4, 1, 8, some (.map none), none⟩,
  ⟨.func #[74, 3, 25] #[] false, 1, 8, some .nilFunc, none⟩,
  ⟨.func #[120] #[] false, 1, 8, some .nilFunc, none⟩,
  ⟨.func #[120] #[] false, 1, 8, some .nilFunc, none⟩,
  ⟨.func #[25] #[100] false, 1, 8, some .nilFunc, none⟩,
  ⟨.slice 3, 1, 24, some (.slice none 0 0), none⟩,
  ⟨.tuple #[102, 4], 1, 0, some (.tuple #[.slice none 0 0, .bool false]), none⟩,
  ⟨.func #[25, 3] #[102, 4] false, 1, 8, some .nilFunc, none⟩,
  ⟨.func #[25, 102] #[25, 4] false, 1, 8, some .nilFunc, none⟩,
  ⟨.func #[23, 3, 25] #[23] false, 1, 8, some .nilFunc, none⟩,
  ⟨.pointer 109, 1, 8, some (.pointer none), none⟩,
  ⟨.struct #[⟨ "id", 3, 0, false, "", "allotment/allotmentref09", 0⟩, ⟨ "kids", 23, 1, false, "", "allotment/allotmentref09", 8⟩, ⟨ "text", 9, 2, false, "", "allotment/allotmentref09", 32⟩, ⟨ "done", 4, 3, false, "", "allotment/allotmentref09", 48⟩], 4, 56, some (.agg #[.int .i64 0, .slice none 0 0, .string ⟨#[]⟩, .bool false]), none⟩,
  ⟨.struct #[⟨ "id", 3, 0, false, "", "allotment/allotmentref09", 0⟩, ⟨ "kids", 23, 1, false, "", "allotment/allotmentref09", 8⟩, ⟨ "text", 9, 2, false, "", "allotment/allotmentref09", 32⟩, ⟨ "done", 4, 3, false, "", "allotment/allotmentref09", 48⟩], 4, 56, some (.agg #[.int .i64 0, .slice none 0 0, .string ⟨#[]⟩, .bool false]), none⟩,
  ⟨.tuple #[25, 3, 4], 1, 0, some (.tuple #[.agg #[.int .i64 0, .int .i64 0, .string ⟨#[]⟩, .slice none 0 0], .int .i64 0, .bool false]), none⟩,
  ⟨.func #[25, 3] #[25, 3, 4] false, 1, 8, some .nilFunc, none⟩]
def ty7 : List TyRow := [⟨.func #[25, 3, 23] #[25] false, 1, 8, some .nilFunc, none⟩,
  ⟨.slice 117, 1, 24, some (.slice none 0 0), none⟩,
  ⟨.struct #[⟨ "Name", 9, 0, false, "", "", 0⟩, ⟨ "Text", 4, 1, false, "", "", 16⟩, ⟨ "Slots", 113, 2, false, "", "", 24⟩], 3, 48, some (.agg #[.string ⟨#[]⟩, .bool false, .slice none 0 0]), none⟩,
  ⟨.struct #[⟨ "Name", 9, 0, false, "", "", 0⟩, ⟨ "Text", 4, 1, false, "", "", 16⟩, ⟨ "Slots", 113, 2, false, "", "", 24⟩], 3, 48, some (.agg #[.string ⟨#[]⟩, .bool false, .slice none 0 0]), none⟩,
  ⟨.struct #[⟨ "Kinds", 102, 0, false, "", "", 0⟩, ⟨ "Least", 3, 1, false, "", "", 24⟩, ⟨ "Most", 3, 2, false, "", "", 32⟩], 3, 40, some (.agg #[.slice none 0 0, .int .i64 0, .int .i64 0]), none⟩,
  ⟨.struct #[⟨ "Kinds", 102, 0, false, "", "", 0⟩, ⟨ "Least", 3, 1, false, "", "", 24⟩, ⟨ "Most", 3, 2, false, "", "", 32⟩], 3, 40, some (.agg #[.slice none 0 0, .int .i64 0, .int .i64 0]), none⟩,
  ⟨.func #[102, 3] #[4] false, 1, 8, some .nilFunc, none⟩,
  ⟨.func #[38, 25] #[4] false, 1, 8, some .nilFunc, none⟩,
  ⟨.func #[3, 25] #[4] false, 1, 8, some .nilFunc, none⟩,
  ⟨.func #[38, 3, 9] #[4] false, 1, 8, some .nilFunc, none⟩,
  ⟨.func #[38, 3, 102] #[4] false, 1, 8, some .nilFunc, none⟩,
  ⟨.func #[25] #[102] false, 1, 8, some .nilFunc, none⟩,
  ⟨.slice 4, 1, 24, some (.slice none 0 0), none⟩,
  ⟨.func #[117, 3] #[4] false, 1, 8, some .nilFunc, none⟩,
  ⟨.func #[] #[9] false, 1, 8, some .nilFunc, none⟩,
  ⟨.struct #[⟨ "_interface", 17, 0, false, "", "runtime", 0⟩, ⟨ "concrete", 17, 1, false, "", "runtime", 8⟩, ⟨ "asserted", 17, 2, false, "", "runtime", 16⟩, ⟨ "missingMethod", 9, 3, false, "", "runtime", 24⟩], 4, 40, some (.agg #[.pointer none, .pointer none, .pointer none, .string ⟨#[]⟩]), none⟩]
def ty8 : List TyRow := [⟨.struct #[⟨ "_interface", 17, 0, false, "", "runtime", 0⟩, ⟨ "concrete", 17, 1, false, "", "runtime", 8⟩, ⟨ "asserted", 17, 2, false, "", "runtime", 16⟩, ⟨ "missingMethod", 9, 3, false, "", "runtime", 24⟩], 4, 40, some (.agg #[.pointer none, .pointer none, .pointer none, .string ⟨#[]⟩]), none⟩,
  ⟨.array 0 16, 0, 0, some (.agg #[]), none⟩,
  ⟨.struct #[⟨ "_", 129, 0, false, "", "runtime", 0⟩], 0, 0, some (.agg #[]), none⟩,
  ⟨.struct #[⟨ "_", 129, 0, false, "", "runtime", 0⟩], 0, 0, some (.agg #[]), none⟩,
  ⟨.func #[] #[3] false, 1, 8, some .nilFunc, none⟩,
  ⟨.int .u32, 1, 4, some (.int .u32 0), none⟩,
  ⟨.int .u8, 1, 1, some (.int .u8 0), none⟩,
  ⟨.int .u8, 1, 1, some (.int .u8 0), none⟩,
  ⟨.func #[142, 142] #[4] false, 1, 8, some .nilFunc, none⟩,
  ⟨.pointer 5, 1, 8, some (.pointer none), none⟩,
  ⟨.int .i32, 1, 4, some (.int .i32 0), none⟩,
  ⟨.int .i32, 1, 4, some (.int .i32 0), none⟩,
  ⟨.struct #[⟨ "Size_", 12, 0, false, "", "", 0⟩, ⟨ "PtrBytes", 12, 1, false, "", "", 8⟩, ⟨ "Hash", 133, 2, false, "", "", 16⟩, ⟨ "TFlag", 134, 3, false, "", "", 20⟩, ⟨ "Align_", 5, 4, false, "", "", 21⟩, ⟨ "FieldAlign_", 5, 5, false, "", "", 22⟩, ⟨ "Kind_", 135, 6, false, "", "", 23⟩, ⟨ "Equal", 136, 7, false, "", "", 24⟩, ⟨ "GCData", 137, 8, false, "", "", 32⟩, ⟨ "Str", 138, 9, false, "", "", 40⟩, ⟨ "PtrToThis", 139, 10, false, "", "", 44⟩], 11, 48, some (.agg #[.int .u64 0, .int .u64 0, .int .u32 0, .int .u8 0, .int .u8 0, .int .u8 0, .int .u8 0, .nilFunc, .pointer none, .int .i32 0, .int .i32 0]), none⟩,
  ⟨.struct #[⟨ "Size_", 12, 0, false, "", "", 0⟩, ⟨ "PtrBytes", 12, 1, false, "", "", 8⟩, ⟨ "Hash", 133, 2, false, "", "", 16⟩, ⟨ "TFlag", 134, 3, false, "", "", 20⟩, ⟨ "Align_", 5, 4, false, "", "", 21⟩, ⟨ "FieldAlign_", 5, 5, false, "", "", 22⟩, ⟨ "Kind_", 135, 6, false, "", "", 23⟩, ⟨ "Equal", 136, 7, false, "", "", 24⟩, ⟨ "GCData", 137, 8, false, "", "", 32⟩, ⟨ "Str", 138, 9, false, "", "", 40⟩, ⟨ "PtrToThis", 139, 10, false, "", "", 44⟩], 11, 48, some (.agg #[.int .u64 0, .int .u64 0, .int .u32 0, .int .u8 0, .int .u8 0, .int .u8 0, .int .u8 0, .nilFunc, .pointer none, .int .i32 0, .int .i32 0]), none⟩,
  ⟨.unsafePointer, 1, 8, some (.pointer none), none⟩]
def tyTab : List (List TyRow) := [ty0, ty1, ty2, ty3, ty4, ty5, ty6, ty7, ty8]
def tyRow (t : TypeId) : Option TyRow := match tyTab[t / 16]? with
  | some l => l[t % 16]?
  | none => none
noncomputable def tyU (t : TypeId) : Option TypeDesc := match tyRow t with
  | some r => some r.d
  | none => Try.prog.underlying t
noncomputable def tyI (t : TypeId) : Bool := match tyRow t with
  | some _ => true
  | none => (Try.prog.info? t).isSome
noncomputable def tyC (t : TypeId) : Nat := match tyRow t with
  | some r => r.c
  | none => Try.prog.cellsOf t
noncomputable def tyB (t : TypeId) : Nat := match tyRow t with
  | some r => r.b
  | none => Try.prog.bytesOf t
noncomputable def tyZ (t : TypeId) : Option Value := match tyRow t with
  | some r => r.z
  | none => (Try.prog.info? t).bind (·.zero)
noncomputable def tyS (t : TypeId) : Option (List (Nat × Nat)) := match tyRow t with
  | some r => r.s
  | none => flatS Try.prog t
noncomputable def T0 : TyOps := ⟨tyU, tyI, tyC, tyB, tyZ, tyS⟩
theorem ty_range {α : Type} (f g : Nat → α) (n : Nat) (h : (List.range n).map f = (List.range n).map g) (hn : ∀ t, n ≤ t → f t = g t) : f = g := by
  funext t
  by_cases ht : t < n
  · have := congrArg (fun l => l[t]?) h
    simpa [List.getElem?_range ht] using this
  · exact hn t (by omega)
theorem tyRow_none (t : Nat) (h : 143 ≤ t) : tyRow t = none := by
  unfold tyRow
  have h1 : 8 ≤ t / 16 := by omega
  rcases Nat.lt_or_ge (t / 16) 9 with h2 | h2
  · have : t / 16 = 8 := by omega
    rw [this]
    have h3 : 15 ≤ t % 16 := by omega
    show ty8[t % 16]? = none
    exact List.getElem?_eq_none (Nat.le_trans (by decide) h3)
  · have : tyTab[t / 16]? = none := List.getElem?_eq_none (Nat.le_trans (by decide) h2)
    rw [this]
theorem tyU_ok : tyU = Try.prog.underlying := ty_range _ _ 143 (by kernel_rfl) fun t h => by
  simp only [tyU, tyRow_none t h]
theorem tyI_ok : tyI = fun t => (Try.prog.info? t).isSome := ty_range _ _ 143 (by kernel_rfl) fun t h => by
  simp only [tyI, tyRow_none t h]
theorem tyC_ok : tyC = Try.prog.cellsOf := ty_range _ _ 143 (by kernel_rfl) fun t h => by
  simp only [tyC, tyRow_none t h]
theorem tyB_ok : tyB = Try.prog.bytesOf := ty_range _ _ 143 (by kernel_rfl) fun t h => by
  simp only [tyB, tyRow_none t h]
theorem tyZ_ok : tyZ = fun t => (Try.prog.info? t).bind (·.zero) := ty_range _ _ 143 (by kernel_rfl) fun t h => by
  simp only [tyZ, tyRow_none t h]
theorem tyS_ok : tyS = flatS Try.prog := ty_range _ _ 143 (by kernel_rfl) fun t h => by
  simp only [tyS, tyRow_none t h]
theorem T0_ok {P : Program} (hP : P = Try.prog) : T0 = tyOf P := by
  subst hP
  simp only [T0, tyOf, tyU_ok, tyI_ok, tyC_ok, tyB_ok, tyZ_ok, tyS_ok]
theorem follows_mixed : Try.prog.follows .mixedOrders = true := by kernel_rfl
end Go.Proofs.Ytaieiigfheabfaa.Tw
