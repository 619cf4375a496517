import Derived.Test.YtlfcemfcgmidlaaDoorHvAns
namespace Go.Hv
open Go.RowKit Go.Proofs Go.V
end Go.Hv
