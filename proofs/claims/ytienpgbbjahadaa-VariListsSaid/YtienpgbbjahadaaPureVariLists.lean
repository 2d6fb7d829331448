/- missivelaw01.VariLists returns true at every input: a list's bytes, and the list that bytes begin with, are those of the reference; no condition. -/
import Derived.Test.YtienpgbbjahadaaLLaws
namespace Go.Proofs.Ytienpgbbjahadaa.Pure
open Go.Proofs.Ytienpgbbjahadaa.PA

theorem VariLists : missivelaw01_VariLists.Pure := Go.Proofs.YtienpgbbjahadaaV.VariLists_law

end Go.Proofs.Ytienpgbbjahadaa.Pure
