/- What the world bears throughout: the tables that the library's number texts read, the errors of strconv, a number of bytealg's. No condition. -/
import Derived.Test.YtopkjoalbinljaaDoorV29
import Derived.Test.YtopkjoalbinljaaDoorSh
import Derived.Test.YtopkjoalbinljaaDoorProg
set_option linter.unusedVariables false
namespace Go.Proofs.YtopkjoalbinljaaDoor
open Go Go.Vw
instance : Tabs Tryd.prog := Tabs.and (Tabs.one 0 "internal/strconv.uint64pow10" .u64 Lib.pow10Tab (by kernel_rfl))
  (Tabs.and (Tabs.err 2 "strconv.ErrSyntax" (by kernel_rfl)) (Tabs.and (Tabs.err 3 "strconv.ErrRange" (by kernel_rfl)) (Tabs.num 1)))
theorem tab_pow10 {w : World} (h : Tabs.J Tryd.prog w) : Lib.TabIs Tryd.prog w "internal/strconv.uint64pow10" .u64 Lib.pow10Tab := h.1
theorem tab_syntax {w : World} (h : Tabs.J Tryd.prog w) : HasErr Tryd.prog "strconv.ErrSyntax" w := h.2.1
theorem tab_range {w : World} (h : Tabs.J Tryd.prog w) : HasErr Tryd.prog "strconv.ErrRange" w := h.2.2.1
theorem tab_maxlen {w : World} (h : Tabs.J Tryd.prog w) : HasInt 1 w := h.2.2.2
end Go.Proofs.YtopkjoalbinljaaDoor
