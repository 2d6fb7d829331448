/- missivelaw01.VariNumbers returns true at every input: a number's bytes, its size, and what bytes begin with are those of the reference; no condition. -/
import Derived.Test.YtienpgbbjahadaaVLaws
namespace Go.Proofs.Ytienpgbbjahadaa.Pure
open Go.Proofs.Ytienpgbbjahadaa.PA

theorem VariNumbers : missivelaw01_VariNumbers.Pure := Go.Proofs.YtienpgbbjahadaaV.VariNumbers_law

end Go.Proofs.Ytienpgbbjahadaa.Pure
