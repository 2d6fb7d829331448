/- missivelaw01.VariRead returns true at every input: a list's bytes are read as the list, and what is read rises and has its bytes; no condition. -/
import Derived.Test.YtienpgbbjahadaaLLaws
namespace Go.Proofs.Ytienpgbbjahadaa.Pure
open Go.Proofs.Ytienpgbbjahadaa.PA

theorem VariRead : missivelaw01_VariRead.Pure := Go.Proofs.YtienpgbbjahadaaV.VariRead_law

end Go.Proofs.Ytienpgbbjahadaa.Pure
