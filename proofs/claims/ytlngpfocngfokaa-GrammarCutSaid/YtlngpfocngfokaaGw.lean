import Derived.Test.YtlngpfocngfokaaGv
import Derived.Test.YtlngpfocngfokaaGo
/-! Joined for the row. -/
