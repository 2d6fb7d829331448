/- missivelaw02.RecBack returns true at every input: what was framed is told next, and what was behind it stays; no condition. -/
import Derived.Test.YtienpgbbjahadaaRLaws
namespace Go.Proofs.Ytienpgbbjahadaa.Pure
open Go.Proofs.Ytienpgbbjahadaa.PA

theorem RecBack : missivelaw02_RecBack.Pure := Go.Proofs.YtienpgbbjahadaaV.RecBack_law

end Go.Proofs.Ytienpgbbjahadaa.Pure
