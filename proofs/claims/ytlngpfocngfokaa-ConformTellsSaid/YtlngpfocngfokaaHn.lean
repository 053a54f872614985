import Derived.Test.YtlngpfocngfokaaHm
import Derived.Test.YtlngpfocngfokaaGo
/-! Joined for the row. -/
