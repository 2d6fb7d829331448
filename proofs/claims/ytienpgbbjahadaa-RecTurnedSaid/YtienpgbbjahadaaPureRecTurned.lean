/- missivelaw02.RecTurned returns true at every input: with another byte in its bytes, or in its sum, a frame is none; no condition. -/
import Derived.Test.YtienpgbbjahadaaTLaws
namespace Go.Proofs.Ytienpgbbjahadaa.Pure
open Go.Proofs.Ytienpgbbjahadaa.PA

theorem RecTurned : missivelaw02_RecTurned.Pure := Go.Proofs.YtienpgbbjahadaaV.RecTurned_law

end Go.Proofs.Ytienpgbbjahadaa.Pure
