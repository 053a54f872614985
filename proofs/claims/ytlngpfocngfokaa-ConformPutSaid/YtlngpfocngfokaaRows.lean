/-
  NARROWER THAN 'FOR EVERY INPUT', by the rows' own cells (each row's printed sentence says how): ConformTells: loops · ConformParts: loops · ConformPut: loops.
  DERIVED. THE GIVEN ROWS OF THIS SEAT. 7 by the template 'for every input the law returns true; each argument reads behind the call as it read before'; 0 by the template 'total and deterministic' (their statements: YtlngpfocngfokaaTotals.lean).
  GIVEN WITH THE SEED: the statements are not yours to turn. If you find one false, say at which input.
  Laid BY PROGRAM, IN A SANDBOX (cutbox-rows.mjs): the forced cells as the released guide's own fill.sh prints them over the translation d956b8d42ac32666… (all of the seat's roots in one cut). By AI agents, Wed Nov 11 2026. No macro, syntax, notation, axiom, sorry.
-/
import Derived.Test.YtlngpfocngfokaaChecked
import GoSem.Claim
import GoSem.ClaimJoined
import GoSem.ClaimMapViews
import Derived.JoinedTies
import Derived.KernelRfl
namespace Go.Proofs.Ytlngpfocngfokaa
/- THE CELL 'sum', in the pinned program and in every row, IS THE sha256 OF THE DUMP (.gsa) THAT YtlngpfocngfokaaProg.lean LOADS. Nothing in Lean hashes anything: it is a label: what it is worth is what the hold of that sum in a sandbox is worth. -/
noncomputable def Try.pinned : Pinned := { name := "ytlngpfocngfokaa", sum := "d956b8d42ac32666e19b22b4e538e61ad2915b5e071b1f070ad76c67346d1f00", checked := Try.checked }
namespace Rows
def none {H : Type} : Left H := { results := [], args := [] }

/-- 'allotmentlaw05.GrammarFits': WHATEVER THE INPUT: true; the input reads as it did. -/
def grammarFitsSpec : ChangeSpec := { name := "grammarFits", fn := fun _ => fun
  | [d1, d2, d3] => { results := [.lit (.bool true)], args := [d1, d2, d3] }
  | _ => none }
def grammarFitsRow : OpenClaim := { program := "ytlngpfocngfokaa", sum := "d956b8d42ac32666e19b22b4e538e61ad2915b5e071b1f070ad76c67346d1f00", func := "allotment/allotmentlaw05.GrammarFits", spec := "grammarFits", unfollowed := true, recurses := true, plainKeys := false, apart := false }
def GrammarFitsSaid : Prop := grammarFitsRow.holds Try.pinned (OpenSpec.ofChange grammarFitsSpec)

/-- ITS FALSE NEIGHBOUR: 'it returns false'. Refute it at one input. -/
def grammarFitsWrong : ChangeSpec := { name := "grammarFits", fn := fun _ => fun
  | [d1, d2, d3] => { results := [.lit (.bool false)], args := [d1, d2, d3] }
  | _ => none }
def GrammarFitsWrongFalsely : Prop := grammarFitsRow.holds Try.pinned (OpenSpec.ofChange grammarFitsWrong)

/-- 'allotmentlaw05.GrammarCut': WHATEVER THE INPUT: true; the input reads as it did. -/
def grammarCutSpec : ChangeSpec := { name := "grammarCut", fn := fun _ => fun
  | [d1, d2, d3, d4, d5] => { results := [.lit (.bool true)], args := [d1, d2, d3, d4, d5] }
  | _ => none }
def grammarCutRow : OpenClaim := { program := "ytlngpfocngfokaa", sum := "d956b8d42ac32666e19b22b4e538e61ad2915b5e071b1f070ad76c67346d1f00", func := "allotment/allotmentlaw05.GrammarCut", spec := "grammarCut", unfollowed := true, recurses := true, plainKeys := false, apart := false }
def GrammarCutSaid : Prop := grammarCutRow.holds Try.pinned (OpenSpec.ofChange grammarCutSpec)

/-- ITS FALSE NEIGHBOUR: 'it returns false'. Refute it at one input. -/
def grammarCutWrong : ChangeSpec := { name := "grammarCut", fn := fun _ => fun
  | [d1, d2, d3, d4, d5] => { results := [.lit (.bool false)], args := [d1, d2, d3, d4, d5] }
  | _ => none }
def GrammarCutWrongFalsely : Prop := grammarCutRow.holds Try.pinned (OpenSpec.ofChange grammarCutWrong)

/-- 'allotmentlaw05.GrammarWider': WHATEVER THE INPUT: true; the input reads as it did. -/
def grammarWiderSpec : ChangeSpec := { name := "grammarWider", fn := fun _ => fun
  | [d1, d2, d3, d4, d5, d6] => { results := [.lit (.bool true)], args := [d1, d2, d3, d4, d5, d6] }
  | _ => none }
def grammarWiderRow : OpenClaim := { program := "ytlngpfocngfokaa", sum := "d956b8d42ac32666e19b22b4e538e61ad2915b5e071b1f070ad76c67346d1f00", func := "allotment/allotmentlaw05.GrammarWider", spec := "grammarWider", unfollowed := true, recurses := true, plainKeys := false, apart := false }
def GrammarWiderSaid : Prop := grammarWiderRow.holds Try.pinned (OpenSpec.ofChange grammarWiderSpec)

/-- ITS FALSE NEIGHBOUR: 'it returns false'. Refute it at one input. -/
def grammarWiderWrong : ChangeSpec := { name := "grammarWider", fn := fun _ => fun
  | [d1, d2, d3, d4, d5, d6] => { results := [.lit (.bool false)], args := [d1, d2, d3, d4, d5, d6] }
  | _ => none }
def GrammarWiderWrongFalsely : Prop := grammarWiderRow.holds Try.pinned (OpenSpec.ofChange grammarWiderWrong)

/-- 'allotmentlaw05.GrammarTells': WHATEVER THE INPUT: true; the input reads as it did. -/
def grammarTellsSpec : ChangeSpec := { name := "grammarTells", fn := fun _ => fun
  | [d1, d2, d3, d4] => { results := [.lit (.bool true)], args := [d1, d2, d3, d4] }
  | _ => none }
def grammarTellsRow : OpenClaim := { program := "ytlngpfocngfokaa", sum := "d956b8d42ac32666e19b22b4e538e61ad2915b5e071b1f070ad76c67346d1f00", func := "allotment/allotmentlaw05.GrammarTells", spec := "grammarTells", unfollowed := true, recurses := true, plainKeys := false, apart := false }
def GrammarTellsSaid : Prop := grammarTellsRow.holds Try.pinned (OpenSpec.ofChange grammarTellsSpec)

/-- ITS FALSE NEIGHBOUR: 'it returns false'. Refute it at one input. -/
def grammarTellsWrong : ChangeSpec := { name := "grammarTells", fn := fun _ => fun
  | [d1, d2, d3, d4] => { results := [.lit (.bool false)], args := [d1, d2, d3, d4] }
  | _ => none }
def GrammarTellsWrongFalsely : Prop := grammarTellsRow.holds Try.pinned (OpenSpec.ofChange grammarTellsWrong)

/-- 'allotmentlaw07.ConformTells': WHATEVER THE INPUT: true; the input reads as it did. -/
def conformTellsSpec : ChangeSpec := { name := "conformTells", fn := fun _ => fun
  | [d1, d2] => { results := [.lit (.bool true)], args := [d1, d2] }
  | _ => none }
def conformTellsRow : OpenClaim := { program := "ytlngpfocngfokaa", sum := "d956b8d42ac32666e19b22b4e538e61ad2915b5e071b1f070ad76c67346d1f00", func := "allotment/allotmentlaw07.ConformTells", spec := "conformTells", unfollowed := true, recurses := true, loops := true, plainKeys := false, apart := false }
def ConformTellsSaid : Prop := conformTellsRow.holds Try.pinned (OpenSpec.ofChange conformTellsSpec)

/-- ITS FALSE NEIGHBOUR: 'it returns false'. Refute it at one input. -/
def conformTellsWrong : ChangeSpec := { name := "conformTells", fn := fun _ => fun
  | [d1, d2] => { results := [.lit (.bool false)], args := [d1, d2] }
  | _ => none }
def ConformTellsWrongFalsely : Prop := conformTellsRow.holds Try.pinned (OpenSpec.ofChange conformTellsWrong)

/-- 'allotmentlaw07.ConformParts': WHATEVER THE INPUT: true; the input reads as it did. -/
def conformPartsSpec : ChangeSpec := { name := "conformParts", fn := fun _ => fun
  | [d1, d2] => { results := [.lit (.bool true)], args := [d1, d2] }
  | _ => none }
def conformPartsRow : OpenClaim := { program := "ytlngpfocngfokaa", sum := "d956b8d42ac32666e19b22b4e538e61ad2915b5e071b1f070ad76c67346d1f00", func := "allotment/allotmentlaw07.ConformParts", spec := "conformParts", unfollowed := true, recurses := true, loops := true, plainKeys := false, apart := false }
def ConformPartsSaid : Prop := conformPartsRow.holds Try.pinned (OpenSpec.ofChange conformPartsSpec)

/-- ITS FALSE NEIGHBOUR: 'it returns false'. Refute it at one input. -/
def conformPartsWrong : ChangeSpec := { name := "conformParts", fn := fun _ => fun
  | [d1, d2] => { results := [.lit (.bool false)], args := [d1, d2] }
  | _ => none }
def ConformPartsWrongFalsely : Prop := conformPartsRow.holds Try.pinned (OpenSpec.ofChange conformPartsWrong)

/-- 'allotmentlaw07.ConformPut': WHATEVER THE INPUT: true; the input reads as it did. -/
def conformPutSpec : ChangeSpec := { name := "conformPut", fn := fun _ => fun
  | [d1, d2, d3, d4] => { results := [.lit (.bool true)], args := [d1, d2, d3, d4] }
  | _ => none }
def conformPutRow : OpenClaim := { program := "ytlngpfocngfokaa", sum := "d956b8d42ac32666e19b22b4e538e61ad2915b5e071b1f070ad76c67346d1f00", func := "allotment/allotmentlaw07.ConformPut", spec := "conformPut", unfollowed := true, recurses := true, loops := true, plainKeys := false, apart := false }
def ConformPutSaid : Prop := conformPutRow.holds Try.pinned (OpenSpec.ofChange conformPutSpec)

/-- ITS FALSE NEIGHBOUR: 'it returns false'. Refute it at one input. -/
def conformPutWrong : ChangeSpec := { name := "conformPut", fn := fun _ => fun
  | [d1, d2, d3, d4] => { results := [.lit (.bool false)], args := [d1, d2, d3, d4] }
  | _ => none }
def ConformPutWrongFalsely : Prop := conformPutRow.holds Try.pinned (OpenSpec.ofChange conformPutWrong)

/- THE SECOND FORM. 'bulk': how many values and letters a reading holds, each counted each time it is reached (what is shared counts as often as it is met; a slice's spare places count too). A statement '..UptoSaid' is the law's where the arguments, and the package variables that the reading takes, are together of bulk at most 1048576: NARROWER than '..Said'. Prove '..Said' where nothing that the law and all that it calls make is longer than what came in: it says more and counts as full. Else prove '..UptoSaid'. A law counts once. -/
mutual
def uptoBulk {H : Type} : DataW H → Nat
  | .lit (.string bytes) => bytes.length + 1
  | .lit _ => 1
  | .nil => 1
  | .ptr d => uptoBulk d + 1
  | .slice elems spare => uptoBulkAll elems + uptoBulkAll spare + 1
  | .agg parts => uptoBulkAll parts + 1
  | .iface _ d => uptoBulk d + 1
  | .map entries => uptoBulkEntries entries + 1
  | .held _ => 1
def uptoBulkAll {H : Type} : List (DataW H) → Nat
  | [] => 0
  | d :: r => uptoBulk d + uptoBulkAll r
def uptoBulkEntries {H : Type} : List (Lit × DataW H) → Nat
  | [] => 0
  | x :: r => uptoBulkEntry x + uptoBulkEntries r
def uptoBulkEntry {H : Type} : Lit × DataW H → Nat
  | (.string bytes, d) => bytes.length + uptoBulk d + 1
  | (_, d) => uptoBulk d + 1
 end
def uptoSmall : (H : Type) → List (DataW H) → Bool := fun _ ds => decide (uptoBulkAll ds ≤ 1048576)
def OpenSpec.upto (s : _root_.Go.ChangeSpec) : _root_.Go.OpenSpec := { _root_.Go.OpenSpec.ofChange s with cond := some uptoSmall }

/-- 'allotmentlaw05.GrammarFits', WHERE WHAT IT READS IS OF BULK AT MOST 1048576: true; the input reads as it did. -/
def grammarFitsUptoRow : OpenClaim := { program := "ytlngpfocngfokaa", sum := "d956b8d42ac32666e19b22b4e538e61ad2915b5e071b1f070ad76c67346d1f00", func := "allotment/allotmentlaw05.GrammarFits", spec := "grammarFits", unfollowed := true, recurses := true, plainKeys := false, apart := false, narrowed := true }
def GrammarFitsUptoSaid : Prop := grammarFitsUptoRow.holds Try.pinned (OpenSpec.upto grammarFitsSpec)

/-- 'allotmentlaw05.GrammarCut', WHERE WHAT IT READS IS OF BULK AT MOST 1048576: true; the input reads as it did. -/
def grammarCutUptoRow : OpenClaim := { program := "ytlngpfocngfokaa", sum := "d956b8d42ac32666e19b22b4e538e61ad2915b5e071b1f070ad76c67346d1f00", func := "allotment/allotmentlaw05.GrammarCut", spec := "grammarCut", unfollowed := true, recurses := true, plainKeys := false, apart := false, narrowed := true }
def GrammarCutUptoSaid : Prop := grammarCutUptoRow.holds Try.pinned (OpenSpec.upto grammarCutSpec)

/-- 'allotmentlaw05.GrammarWider', WHERE WHAT IT READS IS OF BULK AT MOST 1048576: true; the input reads as it did. -/
def grammarWiderUptoRow : OpenClaim := { program := "ytlngpfocngfokaa", sum := "d956b8d42ac32666e19b22b4e538e61ad2915b5e071b1f070ad76c67346d1f00", func := "allotment/allotmentlaw05.GrammarWider", spec := "grammarWider", unfollowed := true, recurses := true, plainKeys := false, apart := false, narrowed := true }
def GrammarWiderUptoSaid : Prop := grammarWiderUptoRow.holds Try.pinned (OpenSpec.upto grammarWiderSpec)

/-- 'allotmentlaw05.GrammarTells', WHERE WHAT IT READS IS OF BULK AT MOST 1048576: true; the input reads as it did. -/
def grammarTellsUptoRow : OpenClaim := { program := "ytlngpfocngfokaa", sum := "d956b8d42ac32666e19b22b4e538e61ad2915b5e071b1f070ad76c67346d1f00", func := "allotment/allotmentlaw05.GrammarTells", spec := "grammarTells", unfollowed := true, recurses := true, plainKeys := false, apart := false, narrowed := true }
def GrammarTellsUptoSaid : Prop := grammarTellsUptoRow.holds Try.pinned (OpenSpec.upto grammarTellsSpec)

/-- 'allotmentlaw07.ConformTells', WHERE WHAT IT READS IS OF BULK AT MOST 1048576: true; the input reads as it did. -/
def conformTellsUptoRow : OpenClaim := { program := "ytlngpfocngfokaa", sum := "d956b8d42ac32666e19b22b4e538e61ad2915b5e071b1f070ad76c67346d1f00", func := "allotment/allotmentlaw07.ConformTells", spec := "conformTells", unfollowed := true, recurses := true, loops := true, plainKeys := false, apart := false, narrowed := true }
def ConformTellsUptoSaid : Prop := conformTellsUptoRow.holds Try.pinned (OpenSpec.upto conformTellsSpec)

/-- 'allotmentlaw07.ConformParts', WHERE WHAT IT READS IS OF BULK AT MOST 1048576: true; the input reads as it did. -/
def conformPartsUptoRow : OpenClaim := { program := "ytlngpfocngfokaa", sum := "d956b8d42ac32666e19b22b4e538e61ad2915b5e071b1f070ad76c67346d1f00", func := "allotment/allotmentlaw07.ConformParts", spec := "conformParts", unfollowed := true, recurses := true, loops := true, plainKeys := false, apart := false, narrowed := true }
def ConformPartsUptoSaid : Prop := conformPartsUptoRow.holds Try.pinned (OpenSpec.upto conformPartsSpec)

/-- 'allotmentlaw07.ConformPut', WHERE WHAT IT READS IS OF BULK AT MOST 1048576: true; the input reads as it did. -/
def conformPutUptoRow : OpenClaim := { program := "ytlngpfocngfokaa", sum := "d956b8d42ac32666e19b22b4e538e61ad2915b5e071b1f070ad76c67346d1f00", func := "allotment/allotmentlaw07.ConformPut", spec := "conformPut", unfollowed := true, recurses := true, loops := true, plainKeys := false, apart := false, narrowed := true }
def ConformPutUptoSaid : Prop := conformPutUptoRow.holds Try.pinned (OpenSpec.upto conformPutSpec)

end Rows
end Go.Proofs.Ytlngpfocngfokaa
