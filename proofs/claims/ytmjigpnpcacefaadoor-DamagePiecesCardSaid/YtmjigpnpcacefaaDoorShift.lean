/- The walks of crc.turned, Shift, Join, bit, Bit. -/
import Derived.Test.YtmjigpnpcacefaaDoorMem
namespace Go.Proofs.YtmjigpnpcacefaaDoor
open Go Go.RowKit Go.Shelf



end Go.Proofs.YtmjigpnpcacefaaDoor
