import Derived.Test.YtlfcemfcgmidlaaDoorHvSix
namespace Go.Hv
open Go.RowKit Go.Proofs Go.V Go.Proofs
end Go.Hv
