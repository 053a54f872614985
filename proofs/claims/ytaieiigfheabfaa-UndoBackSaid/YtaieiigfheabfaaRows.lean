/-
  NARROWER THAN 'FOR EVERY INPUT', by the rows' own cells (each row's printed sentence says how): NormalPairs: loops · NormalAgain: loops · NormalSame: loops · UndoBack: loops · UndoRow: loops.
  DERIVED. THE GIVEN ROWS OF THIS SEAT. 5 by the template 'for every input the law returns true; each argument reads behind the call as it read before'; 0 by the template 'total and deterministic' (their statements: YtaieiigfheabfaaTotals.lean).
  GIVEN WITH THE SEED: the statements are not yours to turn. If you find one false, say at which input.
  Laid BY PROGRAM, IN A SANDBOX (cutbox-rows.mjs): the forced cells as the released guide's own fill.sh prints them over the translation e64a8f12606996a0… (all of the seat's roots in one cut). By AI agents, Wed Nov 11 2026. No macro, syntax, notation, axiom, sorry.
-/
import Derived.Test.YtaieiigfheabfaaChecked
import GoSem.Claim
import GoSem.ClaimJoined
import GoSem.ClaimMapViews
import Derived.JoinedTies
import Derived.KernelRfl
namespace Go.Proofs.Ytaieiigfheabfaa
/- THE CELL 'sum', in the pinned program and in every row, IS THE sha256 OF THE DUMP (.gsa) THAT YtaieiigfheabfaaProg.lean LOADS. Nothing in Lean hashes anything: it is a label: what it is worth is what the hold of that sum in a sandbox is worth. -/
noncomputable def Try.pinned : Pinned := { name := "ytaieiigfheabfaa", sum := "e64a8f12606996a09c8df9a7ea68cc40935bf0d1d3464fb2f6d155ae4cc2af51", checked := Try.checked }
namespace Rows
def none {H : Type} : Left H := { results := [], args := [] }

/-- 'allotmentlaw12.NormalPairs': WHATEVER THE INPUT: true; the input reads as it did. -/
def normalPairsSpec : ChangeSpec := { name := "normalPairs", fn := fun _ => fun
  | [d1, d2] => { results := [.lit (.bool true)], args := [d1, d2] }
  | _ => none }
def normalPairsRow : OpenClaim := { program := "ytaieiigfheabfaa", sum := "e64a8f12606996a09c8df9a7ea68cc40935bf0d1d3464fb2f6d155ae4cc2af51", func := "allotment/allotmentlaw12.NormalPairs", spec := "normalPairs", unfollowed := true, recurses := true, loops := true, apart := false }
def NormalPairsSaid : Prop := normalPairsRow.holds Try.pinned (OpenSpec.ofChange normalPairsSpec)

/-- ITS FALSE NEIGHBOUR: 'it returns false'. Refute it at one input. -/
def normalPairsWrong : ChangeSpec := { name := "normalPairs", fn := fun _ => fun
  | [d1, d2] => { results := [.lit (.bool false)], args := [d1, d2] }
  | _ => none }
def NormalPairsWrongFalsely : Prop := normalPairsRow.holds Try.pinned (OpenSpec.ofChange normalPairsWrong)

/-- 'allotmentlaw12.NormalAgain': WHATEVER THE INPUT: true; the input reads as it did. -/
def normalAgainSpec : ChangeSpec := { name := "normalAgain", fn := fun _ => fun
  | [d] => { results := [.lit (.bool true)], args := [d] }
  | _ => none }
def normalAgainRow : OpenClaim := { program := "ytaieiigfheabfaa", sum := "e64a8f12606996a09c8df9a7ea68cc40935bf0d1d3464fb2f6d155ae4cc2af51", func := "allotment/allotmentlaw12.NormalAgain", spec := "normalAgain", unfollowed := true, recurses := true, loops := true, apart := false }
def NormalAgainSaid : Prop := normalAgainRow.holds Try.pinned (OpenSpec.ofChange normalAgainSpec)

/-- ITS FALSE NEIGHBOUR: 'it returns false'. Refute it at one input. -/
def normalAgainWrong : ChangeSpec := { name := "normalAgain", fn := fun _ => fun
  | [d] => { results := [.lit (.bool false)], args := [d] }
  | _ => none }
def NormalAgainWrongFalsely : Prop := normalAgainRow.holds Try.pinned (OpenSpec.ofChange normalAgainWrong)

/-- 'allotmentlaw12.NormalSame': WHATEVER THE INPUT: true; the input reads as it did. -/
def normalSameSpec : ChangeSpec := { name := "normalSame", fn := fun _ => fun
  | [d1, d2, d3] => { results := [.lit (.bool true)], args := [d1, d2, d3] }
  | _ => none }
def normalSameRow : OpenClaim := { program := "ytaieiigfheabfaa", sum := "e64a8f12606996a09c8df9a7ea68cc40935bf0d1d3464fb2f6d155ae4cc2af51", func := "allotment/allotmentlaw12.NormalSame", spec := "normalSame", unfollowed := true, recurses := true, loops := true, apart := false }
def NormalSameSaid : Prop := normalSameRow.holds Try.pinned (OpenSpec.ofChange normalSameSpec)

/-- ITS FALSE NEIGHBOUR: 'it returns false'. Refute it at one input. -/
def normalSameWrong : ChangeSpec := { name := "normalSame", fn := fun _ => fun
  | [d1, d2, d3] => { results := [.lit (.bool false)], args := [d1, d2, d3] }
  | _ => none }
def NormalSameWrongFalsely : Prop := normalSameRow.holds Try.pinned (OpenSpec.ofChange normalSameWrong)

/-- 'allotmentlaw10.UndoBack': WHATEVER THE INPUT: true; the input reads as it did. -/
def undoBackSpec : ChangeSpec := { name := "undoBack", fn := fun _ => fun
  | [d1, d2] => { results := [.lit (.bool true)], args := [d1, d2] }
  | _ => none }
def undoBackRow : OpenClaim := { program := "ytaieiigfheabfaa", sum := "e64a8f12606996a09c8df9a7ea68cc40935bf0d1d3464fb2f6d155ae4cc2af51", func := "allotment/allotmentlaw10.UndoBack", spec := "undoBack", unfollowed := true, recurses := true, loops := true, apart := false }
def UndoBackSaid : Prop := undoBackRow.holds Try.pinned (OpenSpec.ofChange undoBackSpec)

/-- ITS FALSE NEIGHBOUR: 'it returns false'. Refute it at one input. -/
def undoBackWrong : ChangeSpec := { name := "undoBack", fn := fun _ => fun
  | [d1, d2] => { results := [.lit (.bool false)], args := [d1, d2] }
  | _ => none }
def UndoBackWrongFalsely : Prop := undoBackRow.holds Try.pinned (OpenSpec.ofChange undoBackWrong)

/-- 'allotmentlaw10.UndoRow': WHATEVER THE INPUT: true; the input reads as it did. -/
def undoRowSpec : ChangeSpec := { name := "undoRow", fn := fun _ => fun
  | [d1, d2] => { results := [.lit (.bool true)], args := [d1, d2] }
  | _ => none }
def undoRowRow : OpenClaim := { program := "ytaieiigfheabfaa", sum := "e64a8f12606996a09c8df9a7ea68cc40935bf0d1d3464fb2f6d155ae4cc2af51", func := "allotment/allotmentlaw10.UndoRow", spec := "undoRow", unfollowed := true, recurses := true, loops := true, apart := false }
def UndoRowSaid : Prop := undoRowRow.holds Try.pinned (OpenSpec.ofChange undoRowSpec)

/-- ITS FALSE NEIGHBOUR: 'it returns false'. Refute it at one input. -/
def undoRowWrong : ChangeSpec := { name := "undoRow", fn := fun _ => fun
  | [d1, d2] => { results := [.lit (.bool false)], args := [d1, d2] }
  | _ => none }
def UndoRowWrongFalsely : Prop := undoRowRow.holds Try.pinned (OpenSpec.ofChange undoRowWrong)

/- THE SECOND FORM. 'bulk': how many values and letters a reading holds, each counted each time it is reached (what is shared counts as often as it is met; a slice's spare places count too). A statement '..UptoSaid' is the law's where the arguments, and the package variables that the reading takes, are together of bulk at most 1048576: NARROWER than '..Said'. Prove '..Said' where nothing that the law and all that it calls make is longer than what came in: it says more and counts as full. Else prove '..UptoSaid'. A law counts once. -/
mutual
def uptoBulk {H : Type} : DataW H → Nat
  | .lit (.string bytes) => bytes.length + 1
  | .lit _ => 1
  | .nil => 1
  | .ptr d => uptoBulk d + 1
  | .slice elems spare => uptoBulkAll elems + uptoBulkAll spare + 1
  | .agg parts => uptoBulkAll parts + 1
  | .iface _ d => uptoBulk d + 1
  | .map entries => uptoBulkEntries entries + 1
  | .held _ => 1
def uptoBulkAll {H : Type} : List (DataW H) → Nat
  | [] => 0
  | d :: r => uptoBulk d + uptoBulkAll r
def uptoBulkEntries {H : Type} : List (Lit × DataW H) → Nat
  | [] => 0
  | x :: r => uptoBulkEntry x + uptoBulkEntries r
def uptoBulkEntry {H : Type} : Lit × DataW H → Nat
  | (.string bytes, d) => bytes.length + uptoBulk d + 1
  | (_, d) => uptoBulk d + 1
 end
def uptoSmall : (H : Type) → List (DataW H) → Bool := fun _ ds => decide (uptoBulkAll ds ≤ 1048576)
def OpenSpec.upto (s : _root_.Go.ChangeSpec) : _root_.Go.OpenSpec := { _root_.Go.OpenSpec.ofChange s with cond := some uptoSmall }

/-- 'allotmentlaw12.NormalPairs', WHERE WHAT IT READS IS OF BULK AT MOST 1048576: true; the input reads as it did. -/
def normalPairsUptoRow : OpenClaim := { program := "ytaieiigfheabfaa", sum := "e64a8f12606996a09c8df9a7ea68cc40935bf0d1d3464fb2f6d155ae4cc2af51", func := "allotment/allotmentlaw12.NormalPairs", spec := "normalPairs", unfollowed := true, recurses := true, loops := true, apart := false, narrowed := true }
def NormalPairsUptoSaid : Prop := normalPairsUptoRow.holds Try.pinned (OpenSpec.upto normalPairsSpec)

/-- 'allotmentlaw12.NormalAgain', WHERE WHAT IT READS IS OF BULK AT MOST 1048576: true; the input reads as it did. -/
def normalAgainUptoRow : OpenClaim := { program := "ytaieiigfheabfaa", sum := "e64a8f12606996a09c8df9a7ea68cc40935bf0d1d3464fb2f6d155ae4cc2af51", func := "allotment/allotmentlaw12.NormalAgain", spec := "normalAgain", unfollowed := true, recurses := true, loops := true, apart := false, narrowed := true }
def NormalAgainUptoSaid : Prop := normalAgainUptoRow.holds Try.pinned (OpenSpec.upto normalAgainSpec)

/-- 'allotmentlaw12.NormalSame', WHERE WHAT IT READS IS OF BULK AT MOST 1048576: true; the input reads as it did. -/
def normalSameUptoRow : OpenClaim := { program := "ytaieiigfheabfaa", sum := "e64a8f12606996a09c8df9a7ea68cc40935bf0d1d3464fb2f6d155ae4cc2af51", func := "allotment/allotmentlaw12.NormalSame", spec := "normalSame", unfollowed := true, recurses := true, loops := true, apart := false, narrowed := true }
def NormalSameUptoSaid : Prop := normalSameUptoRow.holds Try.pinned (OpenSpec.upto normalSameSpec)

/-- 'allotmentlaw10.UndoBack', WHERE WHAT IT READS IS OF BULK AT MOST 1048576: true; the input reads as it did. -/
def undoBackUptoRow : OpenClaim := { program := "ytaieiigfheabfaa", sum := "e64a8f12606996a09c8df9a7ea68cc40935bf0d1d3464fb2f6d155ae4cc2af51", func := "allotment/allotmentlaw10.UndoBack", spec := "undoBack", unfollowed := true, recurses := true, loops := true, apart := false, narrowed := true }
def UndoBackUptoSaid : Prop := undoBackUptoRow.holds Try.pinned (OpenSpec.upto undoBackSpec)

/-- 'allotmentlaw10.UndoRow', WHERE WHAT IT READS IS OF BULK AT MOST 1048576: true; the input reads as it did. -/
def undoRowUptoRow : OpenClaim := { program := "ytaieiigfheabfaa", sum := "e64a8f12606996a09c8df9a7ea68cc40935bf0d1d3464fb2f6d155ae4cc2af51", func := "allotment/allotmentlaw10.UndoRow", spec := "undoRow", unfollowed := true, recurses := true, loops := true, apart := false, narrowed := true }
def UndoRowUptoSaid : Prop := undoRowUptoRow.holds Try.pinned (OpenSpec.upto undoRowSpec)

end Rows
end Go.Proofs.Ytaieiigfheabfaa
