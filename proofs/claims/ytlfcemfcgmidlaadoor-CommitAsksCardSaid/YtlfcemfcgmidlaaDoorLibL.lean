import Derived.Test.YtlfcemfcgmidlaaDoorLibK
import Derived.Below
namespace Go.V
open Go.RowKit
section
variable {c:Ctx} {w:World} {ats:Array TypeId} {st xt e ty:TypeId} {i ei:TyInfo}
end
section
variable {c:Ctx} {f cc:FuncId} {t:Nat×Nat}
end
end Go.V
