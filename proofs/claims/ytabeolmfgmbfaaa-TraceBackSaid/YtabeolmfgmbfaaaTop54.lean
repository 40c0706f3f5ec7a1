/- The trace laws' walks and their arguments, together. -/
import Derived.Test.YtabeolmfgmbfaaaLaw54b
import Derived.Test.YtabeolmfgmbfaaaOpen54
namespace Go.Proofs.Ytabeolmfgmbfaaa
end Go.Proofs.Ytabeolmfgmbfaaa
