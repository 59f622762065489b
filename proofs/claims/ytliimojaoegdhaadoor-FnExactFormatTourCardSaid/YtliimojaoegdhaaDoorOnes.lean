/- math/bits.OnesCount at numbers below 256, walked. -/
import Derived.Test.YtliimojaoegdhaaDoorLib
import Derived.Test.YtliimojaoegdhaaDoorBitOps
namespace Go.Proofs.YtliimojaoegdhaaDoor
open Go.RowKit


end Go.Proofs.YtliimojaoegdhaaDoor
