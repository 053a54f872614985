/-
  No cell of these rows narrows 'for every input' (looked for: loops, veiled, ifaces, maps, wideKeys, modest, calm, conditions, laid).
  DERIVED. THE GIVEN ROWS OF THIS SEAT. 6 by the template 'for every input the law returns true; each argument reads behind the call as it read before'; 0 by the template 'total and deterministic' (their statements: YtgdppnijjhbgfaaTotals.lean).
  GIVEN WITH THE SEED: the statements are not yours to turn. If you find one false, say at which input.
  Laid BY PROGRAM, IN A SANDBOX (cutbox-rows.mjs): the forced cells as the released guide's own fill.sh prints them over the translation 580eaf0badc437b0… (all of the seat's roots in one cut). By AI agents, Wed Nov 11 2026. No macro, syntax, notation, axiom, sorry.
-/
import Derived.Test.YtgdppnijjhbgfaaChecked
import GoSem.Claim
import GoSem.ClaimJoined
import GoSem.ClaimMapViews
import Derived.JoinedTies
import Derived.KernelRfl
namespace Go.Proofs.Ytgdppnijjhbgfaa
/- THE CELL 'sum', in the pinned program and in every row, IS THE sha256 OF THE DUMP (.gsa) THAT YtgdppnijjhbgfaaProg.lean LOADS. Nothing in Lean hashes anything: it is a label: what it is worth is what the hold of that sum in a sandbox is worth. -/
noncomputable def Try.pinned : Pinned := { name := "ytgdppnijjhbgfaa", sum := "580eaf0badc437b04953320aec23e0ff57982cf798d44bcfc801bb1b57270969", checked := Try.checked }
namespace Rows
def none {H : Type} : Left H := { results := [], args := [] }

/-- 'allotmentlaw04.SumsTell': WHATEVER THE INPUT: true; the input reads as it did. -/
def sumsTellSpec : ChangeSpec := { name := "sumsTell", fn := fun _ => fun
  | [d1, d2] => { results := [.lit (.bool true)], args := [d1, d2] }
  | _ => none }
def sumsTellRow : OpenClaim := { program := "ytgdppnijjhbgfaa", sum := "580eaf0badc437b04953320aec23e0ff57982cf798d44bcfc801bb1b57270969", func := "allotment/allotmentlaw04.SumsTell", spec := "sumsTell", unfollowed := true, recurses := true, apart := false }
def SumsTellSaid : Prop := sumsTellRow.holds Try.pinned (OpenSpec.ofChange sumsTellSpec)

/-- ITS FALSE NEIGHBOUR: 'it returns false'. Refute it at one input. -/
def sumsTellWrong : ChangeSpec := { name := "sumsTell", fn := fun _ => fun
  | [d1, d2] => { results := [.lit (.bool false)], args := [d1, d2] }
  | _ => none }
def SumsTellWrongFalsely : Prop := sumsTellRow.holds Try.pinned (OpenSpec.ofChange sumsTellWrong)

/-- 'allotmentlaw04.SumsSeal': WHATEVER THE INPUT: true; the input reads as it did. -/
def sumsSealSpec : ChangeSpec := { name := "sumsSeal", fn := fun _ => fun
  | [d] => { results := [.lit (.bool true)], args := [d] }
  | _ => none }
def sumsSealRow : OpenClaim := { program := "ytgdppnijjhbgfaa", sum := "580eaf0badc437b04953320aec23e0ff57982cf798d44bcfc801bb1b57270969", func := "allotment/allotmentlaw04.SumsSeal", spec := "sumsSeal", unfollowed := true, recurses := true, apart := false }
def SumsSealSaid : Prop := sumsSealRow.holds Try.pinned (OpenSpec.ofChange sumsSealSpec)

/-- ITS FALSE NEIGHBOUR: 'it returns false'. Refute it at one input. -/
def sumsSealWrong : ChangeSpec := { name := "sumsSeal", fn := fun _ => fun
  | [d] => { results := [.lit (.bool false)], args := [d] }
  | _ => none }
def SumsSealWrongFalsely : Prop := sumsSealRow.holds Try.pinned (OpenSpec.ofChange sumsSealWrong)

/-- 'allotmentlaw04.SumsPieces': WHATEVER THE INPUT: true; the input reads as it did. -/
def sumsPiecesSpec : ChangeSpec := { name := "sumsPieces", fn := fun _ => fun
  | [d] => { results := [.lit (.bool true)], args := [d] }
  | _ => none }
def sumsPiecesRow : OpenClaim := { program := "ytgdppnijjhbgfaa", sum := "580eaf0badc437b04953320aec23e0ff57982cf798d44bcfc801bb1b57270969", func := "allotment/allotmentlaw04.SumsPieces", spec := "sumsPieces", unfollowed := true, recurses := true, apart := false }
def SumsPiecesSaid : Prop := sumsPiecesRow.holds Try.pinned (OpenSpec.ofChange sumsPiecesSpec)

/-- ITS FALSE NEIGHBOUR: 'it returns false'. Refute it at one input. -/
def sumsPiecesWrong : ChangeSpec := { name := "sumsPieces", fn := fun _ => fun
  | [d] => { results := [.lit (.bool false)], args := [d] }
  | _ => none }
def SumsPiecesWrongFalsely : Prop := sumsPiecesRow.holds Try.pinned (OpenSpec.ofChange sumsPiecesWrong)

/-- 'allotmentlaw04.SumsBurst': WHATEVER THE INPUT: true; the input reads as it did. -/
def sumsBurstSpec : ChangeSpec := { name := "sumsBurst", fn := fun _ => fun
  | [d1, d2, d3] => { results := [.lit (.bool true)], args := [d1, d2, d3] }
  | _ => none }
def sumsBurstRow : OpenClaim := { program := "ytgdppnijjhbgfaa", sum := "580eaf0badc437b04953320aec23e0ff57982cf798d44bcfc801bb1b57270969", func := "allotment/allotmentlaw04.SumsBurst", spec := "sumsBurst", unfollowed := true, recurses := true, apart := false }
def SumsBurstSaid : Prop := sumsBurstRow.holds Try.pinned (OpenSpec.ofChange sumsBurstSpec)

/-- ITS FALSE NEIGHBOUR: 'it returns false'. Refute it at one input. -/
def sumsBurstWrong : ChangeSpec := { name := "sumsBurst", fn := fun _ => fun
  | [d1, d2, d3] => { results := [.lit (.bool false)], args := [d1, d2, d3] }
  | _ => none }
def SumsBurstWrongFalsely : Prop := sumsBurstRow.holds Try.pinned (OpenSpec.ofChange sumsBurstWrong)

/-- 'allotmentlaw29.RoundSums': WHATEVER THE INPUT: true; the input reads as it did. -/
def roundSumsSpec : ChangeSpec := { name := "roundSums", fn := fun _ => fun
  | [d1, d2, d3] => { results := [.lit (.bool true)], args := [d1, d2, d3] }
  | _ => none }
def roundSumsRow : OpenClaim := { program := "ytgdppnijjhbgfaa", sum := "580eaf0badc437b04953320aec23e0ff57982cf798d44bcfc801bb1b57270969", func := "allotment/allotmentlaw29.RoundSums", spec := "roundSums", unfollowed := true, recurses := true, apart := false }
def RoundSumsSaid : Prop := roundSumsRow.holds Try.pinned (OpenSpec.ofChange roundSumsSpec)

/-- ITS FALSE NEIGHBOUR: 'it returns false'. Refute it at one input. -/
def roundSumsWrong : ChangeSpec := { name := "roundSums", fn := fun _ => fun
  | [d1, d2, d3] => { results := [.lit (.bool false)], args := [d1, d2, d3] }
  | _ => none }
def RoundSumsWrongFalsely : Prop := roundSumsRow.holds Try.pinned (OpenSpec.ofChange roundSumsWrong)

/-- 'allotmentlaw29.RoundEnds': WHATEVER THE INPUT: true; the input reads as it did. -/
def roundEndsSpec : ChangeSpec := { name := "roundEnds", fn := fun _ => fun
  | [d1, d2, d3] => { results := [.lit (.bool true)], args := [d1, d2, d3] }
  | _ => none }
def roundEndsRow : OpenClaim := { program := "ytgdppnijjhbgfaa", sum := "580eaf0badc437b04953320aec23e0ff57982cf798d44bcfc801bb1b57270969", func := "allotment/allotmentlaw29.RoundEnds", spec := "roundEnds", unfollowed := true, recurses := true, apart := false }
def RoundEndsSaid : Prop := roundEndsRow.holds Try.pinned (OpenSpec.ofChange roundEndsSpec)

/-- ITS FALSE NEIGHBOUR: 'it returns false'. Refute it at one input. -/
def roundEndsWrong : ChangeSpec := { name := "roundEnds", fn := fun _ => fun
  | [d1, d2, d3] => { results := [.lit (.bool false)], args := [d1, d2, d3] }
  | _ => none }
def RoundEndsWrongFalsely : Prop := roundEndsRow.holds Try.pinned (OpenSpec.ofChange roundEndsWrong)

/- THE SECOND FORM. 'bulk': how many values and letters a reading holds, each counted each time it is reached (what is shared counts as often as it is met; a slice's spare places count too). A statement '..UptoSaid' is the law's where the arguments, and the package variables that the reading takes, are together of bulk at most 1048576: NARROWER than '..Said'. Prove '..Said' where nothing that the law and all that it calls make is longer than what came in: it says more and counts as full. Else prove '..UptoSaid'. A law counts once. -/
mutual
def uptoBulk {H : Type} : DataW H → Nat
  | .lit (.string bytes) => bytes.length + 1
  | .lit _ => 1
  | .nil => 1
  | .ptr d => uptoBulk d + 1
  | .slice elems spare => uptoBulkAll elems + uptoBulkAll spare + 1
  | .agg parts => uptoBulkAll parts + 1
  | .iface _ d => uptoBulk d + 1
  | .map entries => uptoBulkEntries entries + 1
  | .held _ => 1
def uptoBulkAll {H : Type} : List (DataW H) → Nat
  | [] => 0
  | d :: r => uptoBulk d + uptoBulkAll r
def uptoBulkEntries {H : Type} : List (Lit × DataW H) → Nat
  | [] => 0
  | x :: r => uptoBulkEntry x + uptoBulkEntries r
def uptoBulkEntry {H : Type} : Lit × DataW H → Nat
  | (.string bytes, d) => bytes.length + uptoBulk d + 1
  | (_, d) => uptoBulk d + 1
 end
def uptoSmall : (H : Type) → List (DataW H) → Bool := fun _ ds => decide (uptoBulkAll ds ≤ 1048576)
def OpenSpec.upto (s : _root_.Go.ChangeSpec) : _root_.Go.OpenSpec := { _root_.Go.OpenSpec.ofChange s with cond := some uptoSmall }

/-- 'allotmentlaw04.SumsTell', WHERE WHAT IT READS IS OF BULK AT MOST 1048576: true; the input reads as it did. -/
def sumsTellUptoRow : OpenClaim := { program := "ytgdppnijjhbgfaa", sum := "580eaf0badc437b04953320aec23e0ff57982cf798d44bcfc801bb1b57270969", func := "allotment/allotmentlaw04.SumsTell", spec := "sumsTell", unfollowed := true, recurses := true, apart := false, narrowed := true }
def SumsTellUptoSaid : Prop := sumsTellUptoRow.holds Try.pinned (OpenSpec.upto sumsTellSpec)

/-- 'allotmentlaw04.SumsSeal', WHERE WHAT IT READS IS OF BULK AT MOST 1048576: true; the input reads as it did. -/
def sumsSealUptoRow : OpenClaim := { program := "ytgdppnijjhbgfaa", sum := "580eaf0badc437b04953320aec23e0ff57982cf798d44bcfc801bb1b57270969", func := "allotment/allotmentlaw04.SumsSeal", spec := "sumsSeal", unfollowed := true, recurses := true, apart := false, narrowed := true }
def SumsSealUptoSaid : Prop := sumsSealUptoRow.holds Try.pinned (OpenSpec.upto sumsSealSpec)

/-- 'allotmentlaw04.SumsPieces', WHERE WHAT IT READS IS OF BULK AT MOST 1048576: true; the input reads as it did. -/
def sumsPiecesUptoRow : OpenClaim := { program := "ytgdppnijjhbgfaa", sum := "580eaf0badc437b04953320aec23e0ff57982cf798d44bcfc801bb1b57270969", func := "allotment/allotmentlaw04.SumsPieces", spec := "sumsPieces", unfollowed := true, recurses := true, apart := false, narrowed := true }
def SumsPiecesUptoSaid : Prop := sumsPiecesUptoRow.holds Try.pinned (OpenSpec.upto sumsPiecesSpec)

/-- 'allotmentlaw04.SumsBurst', WHERE WHAT IT READS IS OF BULK AT MOST 1048576: true; the input reads as it did. -/
def sumsBurstUptoRow : OpenClaim := { program := "ytgdppnijjhbgfaa", sum := "580eaf0badc437b04953320aec23e0ff57982cf798d44bcfc801bb1b57270969", func := "allotment/allotmentlaw04.SumsBurst", spec := "sumsBurst", unfollowed := true, recurses := true, apart := false, narrowed := true }
def SumsBurstUptoSaid : Prop := sumsBurstUptoRow.holds Try.pinned (OpenSpec.upto sumsBurstSpec)

/-- 'allotmentlaw29.RoundSums', WHERE WHAT IT READS IS OF BULK AT MOST 1048576: true; the input reads as it did. -/
def roundSumsUptoRow : OpenClaim := { program := "ytgdppnijjhbgfaa", sum := "580eaf0badc437b04953320aec23e0ff57982cf798d44bcfc801bb1b57270969", func := "allotment/allotmentlaw29.RoundSums", spec := "roundSums", unfollowed := true, recurses := true, apart := false, narrowed := true }
def RoundSumsUptoSaid : Prop := roundSumsUptoRow.holds Try.pinned (OpenSpec.upto roundSumsSpec)

/-- 'allotmentlaw29.RoundEnds', WHERE WHAT IT READS IS OF BULK AT MOST 1048576: true; the input reads as it did. -/
def roundEndsUptoRow : OpenClaim := { program := "ytgdppnijjhbgfaa", sum := "580eaf0badc437b04953320aec23e0ff57982cf798d44bcfc801bb1b57270969", func := "allotment/allotmentlaw29.RoundEnds", spec := "roundEnds", unfollowed := true, recurses := true, apart := false, narrowed := true }
def RoundEndsUptoSaid : Prop := roundEndsUptoRow.holds Try.pinned (OpenSpec.upto roundEndsSpec)

end Rows
end Go.Proofs.Ytgdppnijjhbgfaa
