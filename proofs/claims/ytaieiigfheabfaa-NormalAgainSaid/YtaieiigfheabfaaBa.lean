import Derived.Test.YtaieiigfheabfaaTy
import Derived.Test.YtaieiigfheabfaaTw6
/-! Trees and rows as abstract values; the first functions. -/
namespace Go.Proofs.Ytaieiigfheabfaa
open Go.Proofs.Ytaieiigfheabfaa.Tw
def ints (l : List Int) : List AV := l.map fun i => .int .i64 i
theorem ints_len (l : List Int) : (ints l).length = l.length := by simp [ints]
theorem ints_get {l : List Int} {k : Nat} {i : Int} (h : l[k]? = some i) : (ints l)[k]? = some (.int .i64 i) := by simp [ints, h]
theorem ints_pur (l : List Int) : purL (ints l) = true := purL_of (by simp [ints, AV.pur])
end Go.Proofs.Ytaieiigfheabfaa
