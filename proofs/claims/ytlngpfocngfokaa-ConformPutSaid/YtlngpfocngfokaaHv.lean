import Derived.Test.YtlngpfocngfokaaHu
import Derived.Test.YtlngpfocngfokaaGo
/-! Joined for the row. -/
