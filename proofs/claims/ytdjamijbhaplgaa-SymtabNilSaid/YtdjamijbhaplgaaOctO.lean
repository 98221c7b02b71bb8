/- the reference: Open. -/
import Derived.Test.YtdjamijbhaplgaaOctN
import Derived.Test.YtdjamijbhaplgaaApp
import Derived.Deep.RegionLaw
import Derived.Deep.DeepCutAuto
namespace Go.Proofs.Ytdjamijbhaplgaa
open Go.RowKit

theorem sOf_toList (l : List UInt8) : (sOf l).toList = l := by rw [ByteArray.toList_eq]; rfl

end Go.Proofs.Ytdjamijbhaplgaa
