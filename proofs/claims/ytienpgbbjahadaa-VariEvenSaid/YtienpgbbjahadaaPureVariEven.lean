/- missivelaw01.VariEven returns true at every input: the even form and its way back are those of the reference, and undo each other; no condition. -/
import Derived.Test.YtienpgbbjahadaaVLaws
namespace Go.Proofs.Ytienpgbbjahadaa.Pure
open Go.Proofs.Ytienpgbbjahadaa.PA

theorem VariEven : missivelaw01_VariEven.Pure := Go.Proofs.YtienpgbbjahadaaV.VariEven_law

end Go.Proofs.Ytienpgbbjahadaa.Pure
