/- the reference: Frames, Same; the law's huge. -/
import Derived.Test.YtdjamijbhaplgaaOctO
namespace Go.Proofs.Ytdjamijbhaplgaa
open Go.RowKit

end Go.Proofs.Ytdjamijbhaplgaa
