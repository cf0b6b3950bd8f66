import Derived.Test.YtombnejipaoinaaGreatExo
import Derived.Test.YtombnejipaoinaaGreatProg
import Derived.KernelRfl
import Derived.Test.YtombnejipaoinaaGreatExr4
namespace Go.Ex
open Go
set_option maxRecDepth 1000000
theorem pieceEnd : endB (envOf Go.Proofs.Tryz.prog) liveF.results.toList 1769 (codeX (envOf Go.Proofs.Tryz.prog) 100000 none 151 (tailC 7 liveC) (mkTm tl4 0) (mkSt hl4 1769)) = true := by kernel_rfl
end Go.Ex
