import Derived.Test.YtlngpfocngfokaaGr
import Derived.Test.YtlngpfocngfokaaGo
/-! Joined for the row. -/
