import Derived.Test.YtlngpfocngfokaaGy
import Derived.Test.YtlngpfocngfokaaGo
/-! Joined for the row. -/
