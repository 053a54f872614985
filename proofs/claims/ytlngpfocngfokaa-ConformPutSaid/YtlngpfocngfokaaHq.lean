import Derived.Test.YtlngpfocngfokaaHp
import Derived.Test.YtlngpfocngfokaaGo
/-! Joined for the row. -/
