import Derived.Test.YtmbbdabcbnemiaaSk
import Derived.Test.YtmbbdabcbnemiaaRr
/-! Joined for the rows. -/
