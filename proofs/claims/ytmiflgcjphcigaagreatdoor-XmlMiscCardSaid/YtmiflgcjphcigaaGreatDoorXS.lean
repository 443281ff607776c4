/-
  The contracts that the reader leans on, gathered; no theorem of its own.
-/
import Derived.Test.YtmiflgcjphcigaaGreatDoorX1
import Derived.Test.YtmiflgcjphcigaaGreatDoorXSH
import Derived.Test.YtmiflgcjphcigaaGreatDoorXB
import Derived.Lib.SlTrimSet
import Derived.Lib.ParseIntB
import Derived.Lib.OthersKept
import Derived.Lib.FrozenHead2
import Derived.Lib.Replace
import Derived.Lib.ConvBytes
import Derived.Lib.UnsafeStr
import Derived.Lib.Bytealg
import Derived.Lib.Index
