/- missivelaw02.RecFrames returns true at every input: a record's frame, its sum, and the record that bytes begin with are those of the reference; no condition. -/
import Derived.Test.YtienpgbbjahadaaRLaws
namespace Go.Proofs.Ytienpgbbjahadaa.Pure
open Go.Proofs.Ytienpgbbjahadaa.PA

theorem RecFrames : missivelaw02_RecFrames.Pure := Go.Proofs.YtienpgbbjahadaaV.RecFrames_law

end Go.Proofs.Ytienpgbbjahadaa.Pure
