/- What was read is as it was, or not. -/
import Derived.Test.YtlfcemfcgmidlaaDoorHvAns
namespace Go.Hv
open Go.RowKit Go.Proofs Go.V
end Go.Hv
