import Derived.Test.YtpjibokaeefhiaaOi
/-! A lease added. -/
namespace Go.Proofs.Ytpjibokaeefhiaa
open Go.Proofs.Ytpjibokaeefhiaa.Tw
def inWay (t : Tree) (node : Int) (x : Lease) : Bool := withinS t x.root node || withinS t node x.root
def addS (t : Tree) (l : List Lease) (x : Lease) : List Lease × Int :=
  if x.id < 1 then ([], 2) else if x.epoch < 1 then ([], 2) else if x.request < 1 then ([], 2) else if x.client < 1 then ([], 2) else if 8 < x.client then ([], 2) else
  if (pathT x.root t).isNone then ([], 4) else if l.any (fun y => decide (x.id ≤ y.id)) then ([], 60) else if (l.find? (inWay t x.root)).isSome then ([], 163) else if 16 ≤ l.length then ([], 20) else (l ++ [x], 0)
def EmL.added (F : EmL) (o : List Lease × Int) : AV := .tup [.sl 5 (F.l.l o.1), .int .i64 o.2]
theorem EmL.added_no (F : EmL) (e : Int) : F.added ([], e) = .tup [.sl 5 [], .int .i64 e] := by simp only [EmL.added, F.l.nil]
end Go.Proofs.Ytpjibokaeefhiaa
