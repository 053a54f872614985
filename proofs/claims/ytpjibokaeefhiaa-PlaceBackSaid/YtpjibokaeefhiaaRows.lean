/-
  NARROWER THAN 'FOR EVERY INPUT', by the rows' own cells (each row's printed sentence says how): PlaceParents: loops · PlaceCommon: loops · PlacePaths: loops · PlacePuts: loops · PlaceBack: loops · LeaseAdds: loops · LeaseApart: loops · LeaseFinds: loops.
  DERIVED. THE GIVEN ROWS OF THIS SEAT. 10 by the template 'for every input the law returns true; each argument reads behind the call as it read before'; 0 by the template 'total and deterministic' (their statements: YtpjibokaeefhiaaTotals.lean).
  GIVEN WITH THE SEED: the statements are not yours to turn. If you find one false, say at which input.
  Laid BY PROGRAM, IN A SANDBOX (cutbox-rows.mjs): the forced cells as the released guide's own fill.sh prints them over the translation b832a8156221ecc4… (all of the seat's roots in one cut). By AI agents, Wed Nov 11 2026. No macro, syntax, notation, axiom, sorry.
-/
import Derived.Test.YtpjibokaeefhiaaChecked
import GoSem.Claim
import GoSem.ClaimJoined
import GoSem.ClaimMapViews
import Derived.JoinedTies
import Derived.KernelRfl
namespace Go.Proofs.Ytpjibokaeefhiaa
/- THE CELL 'sum', in the pinned program and in every row, IS THE sha256 OF THE DUMP (.gsa) THAT YtpjibokaeefhiaaProg.lean LOADS. Nothing in Lean hashes anything: it is a label: what it is worth is what the hold of that sum in a sandbox is worth. -/
noncomputable def Try.pinned : Pinned := { name := "ytpjibokaeefhiaa", sum := "b832a8156221ecc4d2b5de4c4445ff799d808ab2696ec9f9fa757a9a02c5004d", checked := Try.checked }
namespace Rows
def none {H : Type} : Left H := { results := [], args := [] }

/-- 'allotmentlaw08.PlaceParents': WHATEVER THE INPUT: true; the input reads as it did. -/
def placeParentsSpec : ChangeSpec := { name := "placeParents", fn := fun _ => fun
  | [d1, d2, d3] => { results := [.lit (.bool true)], args := [d1, d2, d3] }
  | _ => none }
def placeParentsRow : OpenClaim := { program := "ytpjibokaeefhiaa", sum := "b832a8156221ecc4d2b5de4c4445ff799d808ab2696ec9f9fa757a9a02c5004d", func := "allotment/allotmentlaw08.PlaceParents", spec := "placeParents", unfollowed := true, recurses := true, loops := true, apart := false }
def PlaceParentsSaid : Prop := placeParentsRow.holds Try.pinned (OpenSpec.ofChange placeParentsSpec)

/-- ITS FALSE NEIGHBOUR: 'it returns false'. Refute it at one input. -/
def placeParentsWrong : ChangeSpec := { name := "placeParents", fn := fun _ => fun
  | [d1, d2, d3] => { results := [.lit (.bool false)], args := [d1, d2, d3] }
  | _ => none }
def PlaceParentsWrongFalsely : Prop := placeParentsRow.holds Try.pinned (OpenSpec.ofChange placeParentsWrong)

/-- 'allotmentlaw08.PlaceCommon': WHATEVER THE INPUT: true; the input reads as it did. -/
def placeCommonSpec : ChangeSpec := { name := "placeCommon", fn := fun _ => fun
  | [d1, d2, d3] => { results := [.lit (.bool true)], args := [d1, d2, d3] }
  | _ => none }
def placeCommonRow : OpenClaim := { program := "ytpjibokaeefhiaa", sum := "b832a8156221ecc4d2b5de4c4445ff799d808ab2696ec9f9fa757a9a02c5004d", func := "allotment/allotmentlaw08.PlaceCommon", spec := "placeCommon", unfollowed := true, recurses := true, loops := true, apart := false }
def PlaceCommonSaid : Prop := placeCommonRow.holds Try.pinned (OpenSpec.ofChange placeCommonSpec)

/-- ITS FALSE NEIGHBOUR: 'it returns false'. Refute it at one input. -/
def placeCommonWrong : ChangeSpec := { name := "placeCommon", fn := fun _ => fun
  | [d1, d2, d3] => { results := [.lit (.bool false)], args := [d1, d2, d3] }
  | _ => none }
def PlaceCommonWrongFalsely : Prop := placeCommonRow.holds Try.pinned (OpenSpec.ofChange placeCommonWrong)

/-- 'allotmentlaw08.PlacePaths': WHATEVER THE INPUT: true; the input reads as it did. -/
def placePathsSpec : ChangeSpec := { name := "placePaths", fn := fun _ => fun
  | [d1, d2, d3, d4] => { results := [.lit (.bool true)], args := [d1, d2, d3, d4] }
  | _ => none }
def placePathsRow : OpenClaim := { program := "ytpjibokaeefhiaa", sum := "b832a8156221ecc4d2b5de4c4445ff799d808ab2696ec9f9fa757a9a02c5004d", func := "allotment/allotmentlaw08.PlacePaths", spec := "placePaths", unfollowed := true, recurses := true, loops := true, apart := false }
def PlacePathsSaid : Prop := placePathsRow.holds Try.pinned (OpenSpec.ofChange placePathsSpec)

/-- ITS FALSE NEIGHBOUR: 'it returns false'. Refute it at one input. -/
def placePathsWrong : ChangeSpec := { name := "placePaths", fn := fun _ => fun
  | [d1, d2, d3, d4] => { results := [.lit (.bool false)], args := [d1, d2, d3, d4] }
  | _ => none }
def PlacePathsWrongFalsely : Prop := placePathsRow.holds Try.pinned (OpenSpec.ofChange placePathsWrong)

/-- 'allotmentlaw08.PlacePuts': WHATEVER THE INPUT: true; the input reads as it did. -/
def placePutsSpec : ChangeSpec := { name := "placePuts", fn := fun _ => fun
  | [d1, d2, d3] => { results := [.lit (.bool true)], args := [d1, d2, d3] }
  | _ => none }
def placePutsRow : OpenClaim := { program := "ytpjibokaeefhiaa", sum := "b832a8156221ecc4d2b5de4c4445ff799d808ab2696ec9f9fa757a9a02c5004d", func := "allotment/allotmentlaw08.PlacePuts", spec := "placePuts", unfollowed := true, recurses := true, loops := true, apart := false }
def PlacePutsSaid : Prop := placePutsRow.holds Try.pinned (OpenSpec.ofChange placePutsSpec)

/-- ITS FALSE NEIGHBOUR: 'it returns false'. Refute it at one input. -/
def placePutsWrong : ChangeSpec := { name := "placePuts", fn := fun _ => fun
  | [d1, d2, d3] => { results := [.lit (.bool false)], args := [d1, d2, d3] }
  | _ => none }
def PlacePutsWrongFalsely : Prop := placePutsRow.holds Try.pinned (OpenSpec.ofChange placePutsWrong)

/-- 'allotmentlaw08.PlaceBack': WHATEVER THE INPUT: true; the input reads as it did. -/
def placeBackSpec : ChangeSpec := { name := "placeBack", fn := fun _ => fun
  | [d1, d2, d3] => { results := [.lit (.bool true)], args := [d1, d2, d3] }
  | _ => none }
def placeBackRow : OpenClaim := { program := "ytpjibokaeefhiaa", sum := "b832a8156221ecc4d2b5de4c4445ff799d808ab2696ec9f9fa757a9a02c5004d", func := "allotment/allotmentlaw08.PlaceBack", spec := "placeBack", unfollowed := true, recurses := true, loops := true, apart := false }
def PlaceBackSaid : Prop := placeBackRow.holds Try.pinned (OpenSpec.ofChange placeBackSpec)

/-- ITS FALSE NEIGHBOUR: 'it returns false'. Refute it at one input. -/
def placeBackWrong : ChangeSpec := { name := "placeBack", fn := fun _ => fun
  | [d1, d2, d3] => { results := [.lit (.bool false)], args := [d1, d2, d3] }
  | _ => none }
def PlaceBackWrongFalsely : Prop := placeBackRow.holds Try.pinned (OpenSpec.ofChange placeBackWrong)

/-- 'allotmentlaw16.LeaseAdds': WHATEVER THE INPUT: true; the input reads as it did. -/
def leaseAddsSpec : ChangeSpec := { name := "leaseAdds", fn := fun _ => fun
  | [d1, d2, d3] => { results := [.lit (.bool true)], args := [d1, d2, d3] }
  | _ => none }
def leaseAddsRow : OpenClaim := { program := "ytpjibokaeefhiaa", sum := "b832a8156221ecc4d2b5de4c4445ff799d808ab2696ec9f9fa757a9a02c5004d", func := "allotment/allotmentlaw16.LeaseAdds", spec := "leaseAdds", unfollowed := true, recurses := true, loops := true, apart := false }
def LeaseAddsSaid : Prop := leaseAddsRow.holds Try.pinned (OpenSpec.ofChange leaseAddsSpec)

/-- ITS FALSE NEIGHBOUR: 'it returns false'. Refute it at one input. -/
def leaseAddsWrong : ChangeSpec := { name := "leaseAdds", fn := fun _ => fun
  | [d1, d2, d3] => { results := [.lit (.bool false)], args := [d1, d2, d3] }
  | _ => none }
def LeaseAddsWrongFalsely : Prop := leaseAddsRow.holds Try.pinned (OpenSpec.ofChange leaseAddsWrong)

/-- 'allotmentlaw16.LeaseAges': WHATEVER THE INPUT: true; the input reads as it did. -/
def leaseAgesSpec : ChangeSpec := { name := "leaseAges", fn := fun _ => fun
  | [d1, d2, d3] => { results := [.lit (.bool true)], args := [d1, d2, d3] }
  | _ => none }
def leaseAgesRow : OpenClaim := { program := "ytpjibokaeefhiaa", sum := "b832a8156221ecc4d2b5de4c4445ff799d808ab2696ec9f9fa757a9a02c5004d", func := "allotment/allotmentlaw16.LeaseAges", spec := "leaseAges", unfollowed := true, recurses := true, apart := false }
def LeaseAgesSaid : Prop := leaseAgesRow.holds Try.pinned (OpenSpec.ofChange leaseAgesSpec)

/-- ITS FALSE NEIGHBOUR: 'it returns false'. Refute it at one input. -/
def leaseAgesWrong : ChangeSpec := { name := "leaseAges", fn := fun _ => fun
  | [d1, d2, d3] => { results := [.lit (.bool false)], args := [d1, d2, d3] }
  | _ => none }
def LeaseAgesWrongFalsely : Prop := leaseAgesRow.holds Try.pinned (OpenSpec.ofChange leaseAgesWrong)

/-- 'allotmentlaw16.LeaseOver': WHATEVER THE INPUT: true; the input reads as it did. -/
def leaseOverSpec : ChangeSpec := { name := "leaseOver", fn := fun _ => fun
  | [d1, d2, d3] => { results := [.lit (.bool true)], args := [d1, d2, d3] }
  | _ => none }
def leaseOverRow : OpenClaim := { program := "ytpjibokaeefhiaa", sum := "b832a8156221ecc4d2b5de4c4445ff799d808ab2696ec9f9fa757a9a02c5004d", func := "allotment/allotmentlaw16.LeaseOver", spec := "leaseOver", unfollowed := true, recurses := true, apart := false }
def LeaseOverSaid : Prop := leaseOverRow.holds Try.pinned (OpenSpec.ofChange leaseOverSpec)

/-- ITS FALSE NEIGHBOUR: 'it returns false'. Refute it at one input. -/
def leaseOverWrong : ChangeSpec := { name := "leaseOver", fn := fun _ => fun
  | [d1, d2, d3] => { results := [.lit (.bool false)], args := [d1, d2, d3] }
  | _ => none }
def LeaseOverWrongFalsely : Prop := leaseOverRow.holds Try.pinned (OpenSpec.ofChange leaseOverWrong)

/-- 'allotmentlaw16.LeaseApart': WHATEVER THE INPUT: true; the input reads as it did. -/
def leaseApartSpec : ChangeSpec := { name := "leaseApart", fn := fun _ => fun
  | [d1, d2] => { results := [.lit (.bool true)], args := [d1, d2] }
  | _ => none }
def leaseApartRow : OpenClaim := { program := "ytpjibokaeefhiaa", sum := "b832a8156221ecc4d2b5de4c4445ff799d808ab2696ec9f9fa757a9a02c5004d", func := "allotment/allotmentlaw16.LeaseApart", spec := "leaseApart", unfollowed := true, recurses := true, loops := true, apart := false }
def LeaseApartSaid : Prop := leaseApartRow.holds Try.pinned (OpenSpec.ofChange leaseApartSpec)

/-- ITS FALSE NEIGHBOUR: 'it returns false'. Refute it at one input. -/
def leaseApartWrong : ChangeSpec := { name := "leaseApart", fn := fun _ => fun
  | [d1, d2] => { results := [.lit (.bool false)], args := [d1, d2] }
  | _ => none }
def LeaseApartWrongFalsely : Prop := leaseApartRow.holds Try.pinned (OpenSpec.ofChange leaseApartWrong)

/-- 'allotmentlaw16.LeaseFinds': WHATEVER THE INPUT: true; the input reads as it did. -/
def leaseFindsSpec : ChangeSpec := { name := "leaseFinds", fn := fun _ => fun
  | [d1, d2, d3, d4] => { results := [.lit (.bool true)], args := [d1, d2, d3, d4] }
  | _ => none }
def leaseFindsRow : OpenClaim := { program := "ytpjibokaeefhiaa", sum := "b832a8156221ecc4d2b5de4c4445ff799d808ab2696ec9f9fa757a9a02c5004d", func := "allotment/allotmentlaw16.LeaseFinds", spec := "leaseFinds", unfollowed := true, recurses := true, loops := true, apart := false }
def LeaseFindsSaid : Prop := leaseFindsRow.holds Try.pinned (OpenSpec.ofChange leaseFindsSpec)

/-- ITS FALSE NEIGHBOUR: 'it returns false'. Refute it at one input. -/
def leaseFindsWrong : ChangeSpec := { name := "leaseFinds", fn := fun _ => fun
  | [d1, d2, d3, d4] => { results := [.lit (.bool false)], args := [d1, d2, d3, d4] }
  | _ => none }
def LeaseFindsWrongFalsely : Prop := leaseFindsRow.holds Try.pinned (OpenSpec.ofChange leaseFindsWrong)

/- THE SECOND FORM. 'bulk': how many values and letters a reading holds, each counted each time it is reached (what is shared counts as often as it is met; a slice's spare places count too). A statement '..UptoSaid' is the law's where the arguments, and the package variables that the reading takes, are together of bulk at most 1048576: NARROWER than '..Said'. Prove '..Said' where nothing that the law and all that it calls make is longer than what came in: it says more and counts as full. Else prove '..UptoSaid'. A law counts once. -/
mutual
def uptoBulk {H : Type} : DataW H → Nat
  | .lit (.string bytes) => bytes.length + 1
  | .lit _ => 1
  | .nil => 1
  | .ptr d => uptoBulk d + 1
  | .slice elems spare => uptoBulkAll elems + uptoBulkAll spare + 1
  | .agg parts => uptoBulkAll parts + 1
  | .iface _ d => uptoBulk d + 1
  | .map entries => uptoBulkEntries entries + 1
  | .held _ => 1
def uptoBulkAll {H : Type} : List (DataW H) → Nat
  | [] => 0
  | d :: r => uptoBulk d + uptoBulkAll r
def uptoBulkEntries {H : Type} : List (Lit × DataW H) → Nat
  | [] => 0
  | x :: r => uptoBulkEntry x + uptoBulkEntries r
def uptoBulkEntry {H : Type} : Lit × DataW H → Nat
  | (.string bytes, d) => bytes.length + uptoBulk d + 1
  | (_, d) => uptoBulk d + 1
 end
def uptoSmall : (H : Type) → List (DataW H) → Bool := fun _ ds => decide (uptoBulkAll ds ≤ 1048576)
def OpenSpec.upto (s : _root_.Go.ChangeSpec) : _root_.Go.OpenSpec := { _root_.Go.OpenSpec.ofChange s with cond := some uptoSmall }

/-- 'allotmentlaw08.PlaceParents', WHERE WHAT IT READS IS OF BULK AT MOST 1048576: true; the input reads as it did. -/
def placeParentsUptoRow : OpenClaim := { program := "ytpjibokaeefhiaa", sum := "b832a8156221ecc4d2b5de4c4445ff799d808ab2696ec9f9fa757a9a02c5004d", func := "allotment/allotmentlaw08.PlaceParents", spec := "placeParents", unfollowed := true, recurses := true, loops := true, apart := false, narrowed := true }
def PlaceParentsUptoSaid : Prop := placeParentsUptoRow.holds Try.pinned (OpenSpec.upto placeParentsSpec)

/-- 'allotmentlaw08.PlaceCommon', WHERE WHAT IT READS IS OF BULK AT MOST 1048576: true; the input reads as it did. -/
def placeCommonUptoRow : OpenClaim := { program := "ytpjibokaeefhiaa", sum := "b832a8156221ecc4d2b5de4c4445ff799d808ab2696ec9f9fa757a9a02c5004d", func := "allotment/allotmentlaw08.PlaceCommon", spec := "placeCommon", unfollowed := true, recurses := true, loops := true, apart := false, narrowed := true }
def PlaceCommonUptoSaid : Prop := placeCommonUptoRow.holds Try.pinned (OpenSpec.upto placeCommonSpec)

/-- 'allotmentlaw08.PlacePaths', WHERE WHAT IT READS IS OF BULK AT MOST 1048576: true; the input reads as it did. -/
def placePathsUptoRow : OpenClaim := { program := "ytpjibokaeefhiaa", sum := "b832a8156221ecc4d2b5de4c4445ff799d808ab2696ec9f9fa757a9a02c5004d", func := "allotment/allotmentlaw08.PlacePaths", spec := "placePaths", unfollowed := true, recurses := true, loops := true, apart := false, narrowed := true }
def PlacePathsUptoSaid : Prop := placePathsUptoRow.holds Try.pinned (OpenSpec.upto placePathsSpec)

/-- 'allotmentlaw08.PlacePuts', WHERE WHAT IT READS IS OF BULK AT MOST 1048576: true; the input reads as it did. -/
def placePutsUptoRow : OpenClaim := { program := "ytpjibokaeefhiaa", sum := "b832a8156221ecc4d2b5de4c4445ff799d808ab2696ec9f9fa757a9a02c5004d", func := "allotment/allotmentlaw08.PlacePuts", spec := "placePuts", unfollowed := true, recurses := true, loops := true, apart := false, narrowed := true }
def PlacePutsUptoSaid : Prop := placePutsUptoRow.holds Try.pinned (OpenSpec.upto placePutsSpec)

/-- 'allotmentlaw08.PlaceBack', WHERE WHAT IT READS IS OF BULK AT MOST 1048576: true; the input reads as it did. -/
def placeBackUptoRow : OpenClaim := { program := "ytpjibokaeefhiaa", sum := "b832a8156221ecc4d2b5de4c4445ff799d808ab2696ec9f9fa757a9a02c5004d", func := "allotment/allotmentlaw08.PlaceBack", spec := "placeBack", unfollowed := true, recurses := true, loops := true, apart := false, narrowed := true }
def PlaceBackUptoSaid : Prop := placeBackUptoRow.holds Try.pinned (OpenSpec.upto placeBackSpec)

/-- 'allotmentlaw16.LeaseAdds', WHERE WHAT IT READS IS OF BULK AT MOST 1048576: true; the input reads as it did. -/
def leaseAddsUptoRow : OpenClaim := { program := "ytpjibokaeefhiaa", sum := "b832a8156221ecc4d2b5de4c4445ff799d808ab2696ec9f9fa757a9a02c5004d", func := "allotment/allotmentlaw16.LeaseAdds", spec := "leaseAdds", unfollowed := true, recurses := true, loops := true, apart := false, narrowed := true }
def LeaseAddsUptoSaid : Prop := leaseAddsUptoRow.holds Try.pinned (OpenSpec.upto leaseAddsSpec)

/-- 'allotmentlaw16.LeaseAges', WHERE WHAT IT READS IS OF BULK AT MOST 1048576: true; the input reads as it did. -/
def leaseAgesUptoRow : OpenClaim := { program := "ytpjibokaeefhiaa", sum := "b832a8156221ecc4d2b5de4c4445ff799d808ab2696ec9f9fa757a9a02c5004d", func := "allotment/allotmentlaw16.LeaseAges", spec := "leaseAges", unfollowed := true, recurses := true, apart := false, narrowed := true }
def LeaseAgesUptoSaid : Prop := leaseAgesUptoRow.holds Try.pinned (OpenSpec.upto leaseAgesSpec)

/-- 'allotmentlaw16.LeaseOver', WHERE WHAT IT READS IS OF BULK AT MOST 1048576: true; the input reads as it did. -/
def leaseOverUptoRow : OpenClaim := { program := "ytpjibokaeefhiaa", sum := "b832a8156221ecc4d2b5de4c4445ff799d808ab2696ec9f9fa757a9a02c5004d", func := "allotment/allotmentlaw16.LeaseOver", spec := "leaseOver", unfollowed := true, recurses := true, apart := false, narrowed := true }
def LeaseOverUptoSaid : Prop := leaseOverUptoRow.holds Try.pinned (OpenSpec.upto leaseOverSpec)

/-- 'allotmentlaw16.LeaseApart', WHERE WHAT IT READS IS OF BULK AT MOST 1048576: true; the input reads as it did. -/
def leaseApartUptoRow : OpenClaim := { program := "ytpjibokaeefhiaa", sum := "b832a8156221ecc4d2b5de4c4445ff799d808ab2696ec9f9fa757a9a02c5004d", func := "allotment/allotmentlaw16.LeaseApart", spec := "leaseApart", unfollowed := true, recurses := true, loops := true, apart := false, narrowed := true }
def LeaseApartUptoSaid : Prop := leaseApartUptoRow.holds Try.pinned (OpenSpec.upto leaseApartSpec)

/-- 'allotmentlaw16.LeaseFinds', WHERE WHAT IT READS IS OF BULK AT MOST 1048576: true; the input reads as it did. -/
def leaseFindsUptoRow : OpenClaim := { program := "ytpjibokaeefhiaa", sum := "b832a8156221ecc4d2b5de4c4445ff799d808ab2696ec9f9fa757a9a02c5004d", func := "allotment/allotmentlaw16.LeaseFinds", spec := "leaseFinds", unfollowed := true, recurses := true, loops := true, apart := false, narrowed := true }
def LeaseFindsUptoSaid : Prop := leaseFindsUptoRow.holds Try.pinned (OpenSpec.upto leaseFindsSpec)

end Rows
end Go.Proofs.Ytpjibokaeefhiaa
