/- missivelaw01.VariBack returns true at every input: what is put is got with what was behind it left, and what is got has its bytes; no condition. -/
import Derived.Test.YtienpgbbjahadaaVLaws
namespace Go.Proofs.Ytienpgbbjahadaa.Pure
open Go.Proofs.Ytienpgbbjahadaa.PA

theorem VariBack : missivelaw01_VariBack.Pure := Go.Proofs.YtienpgbbjahadaaV.VariBack_law

end Go.Proofs.Ytienpgbbjahadaa.Pure
