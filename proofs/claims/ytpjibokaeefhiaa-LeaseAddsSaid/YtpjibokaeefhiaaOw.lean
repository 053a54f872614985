import Derived.Test.YtpjibokaeefhiaaOv
import Derived.Test.YtpjibokaeefhiaaOr
import Derived.Test.YtpjibokaeefhiaaOs
import Derived.Test.YtpjibokaeefhiaaOq
/-! Two laws of leases, with the example walked. -/
namespace Go.Proofs.Ytpjibokaeefhiaa
open Go.Proofs.Ytpjibokaeefhiaa.Tw
theorem lawAdds (A : Ar) (E : Em) (F : EmL) {P : Program} (hP : P = Try.prog) (t : Tree) (hok : t.ok) (l : List Lease) (hlm : l.length ≤ maxLen) (x : Lease) : TPure P 8 [E.tree.v t, .sl 5 (F.l.l l), F.l.v x] (.bool true) := law8' A E F hP (wakes35 A hP) t hok l hlm x
theorem lawFinds (A : Ar) (E : Em) (F : EmL) {P : Program} (hP : P = Try.prog) (t : Tree) (hok : t.ok) (l : List Lease) (id : Int) (ids : List Int) : TPure P 12 [E.tree.v t, .sl 5 (F.l.l l), .int .i64 id, .sl 1 (E.int.l ids)] (.bool true) := law12' A E F hP (wakes35 A hP) t hok l id ids
end Go.Proofs.Ytpjibokaeefhiaa
