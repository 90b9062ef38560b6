/- The functions of layer 4, walked. -/
import Derived.Test.YtmcmicgdkdbgjaaDoorClassP
namespace Go.Proofs.YtmcmicgdkdbgjaaDoor
open Go.RowKit

end Go.Proofs.YtmcmicgdkdbgjaaDoor
