/- The walk of crc.Open. -/
import Derived.Test.YtmjigpnpcacefaaDoorRefE
import Derived.Test.YtmjigpnpcacefaaDoorHeld
import Derived.Deep.RegionHeld3
namespace Go.Proofs.YtmjigpnpcacefaaDoor
open Go Go.RowKit Go.Shelf

end Go.Proofs.YtmjigpnpcacefaaDoor
