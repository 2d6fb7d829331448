/- missivetop.TopFramed returns true at every input: lists that rise, each framed, are read again one by one, whatever stands behind them that is no frame; no condition. -/
import Derived.Test.YtpmoellbfgcefaaTopFramed
namespace Go.Proofs.Ytpmoellbfgcefaa.Pure
open Go.Proofs.Ytpmoellbfgcefaa.PA

theorem TopFramed : missivetop_TopFramed.Pure := Go.Proofs.YtpmoellbfgcefaaV.TopFramed_law

end Go.Proofs.Ytpmoellbfgcefaa.Pure
