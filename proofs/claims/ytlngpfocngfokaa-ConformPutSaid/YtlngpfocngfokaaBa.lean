import Derived.Test.YtlngpfocngfokaaTy
import Derived.Test.YtlngpfocngfokaaTw6
/-! Trees and rows as abstract values; the first functions. -/
namespace Go.Proofs.Ytlngpfocngfokaa
open Go.Proofs.Ytlngpfocngfokaa.Tw
def ints (l : List Int) : List AV := l.map fun i => .int .i64 i
theorem ints_len (l : List Int) : (ints l).length = l.length := by simp [ints]
theorem ints_get {l : List Int} {k : Nat} {i : Int} (h : l[k]? = some i) : (ints l)[k]? = some (.int .i64 i) := by simp [ints, h]
theorem ints_pur (l : List Int) : purL (ints l) = true := purL_of (by simp [ints, AV.pur])
end Go.Proofs.Ytlngpfocngfokaa
