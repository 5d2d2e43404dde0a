/- What the world bears throughout: the table that the library's number texts read. No condition. -/
import Derived.Test.YtopkjoalbinljaaDoorV27
import Derived.Test.YtopkjoalbinljaaDoorSh
import Derived.Test.YtopkjoalbinljaaDoorProg
set_option linter.unusedVariables false
namespace Go.Proofs.YtopkjoalbinljaaDoor
open Go Go.Vw
instance : Tabs Tryd.prog := Tabs.one 0 "internal/strconv.uint64pow10" .u64 Lib.pow10Tab (by kernel_rfl)
theorem tab_pow10 {w : World} (h : Tabs.J Tryd.prog w) : Lib.TabIs Tryd.prog w "internal/strconv.uint64pow10" .u64 Lib.pow10Tab := h
end Go.Proofs.YtopkjoalbinljaaDoor
