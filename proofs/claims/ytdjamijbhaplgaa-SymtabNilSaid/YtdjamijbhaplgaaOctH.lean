/- the reference: Put, PutInt, PutText. -/
import Derived.Test.YtdjamijbhaplgaaOctG
namespace Go.Proofs.Ytdjamijbhaplgaa
open Go.RowKit

end Go.Proofs.Ytdjamijbhaplgaa
