/- missivelaw01.VariFew returns true at every input: a greater number has no fewer bytes, and one below the k-th power of 128 at most k; no condition. -/
import Derived.Test.YtienpgbbjahadaaVLaws
namespace Go.Proofs.Ytienpgbbjahadaa.Pure
open Go.Proofs.Ytienpgbbjahadaa.PA

theorem VariFew : missivelaw01_VariFew.Pure := Go.Proofs.YtienpgbbjahadaaV.VariFew_law

end Go.Proofs.Ytienpgbbjahadaa.Pure
