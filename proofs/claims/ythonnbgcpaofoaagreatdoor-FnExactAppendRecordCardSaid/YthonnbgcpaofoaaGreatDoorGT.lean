/- What the world bears throughout: the tables that the library's number texts read, the errors of strconv. No condition. -/
import Derived.Test.YthonnbgcpaofoaaGreatDoorV41
import Derived.Test.YthonnbgcpaofoaaGreatDoorSh
import Derived.Test.YthonnbgcpaofoaaGreatDoorProg
set_option linter.unusedVariables false
set_option linter.constructorNameAsVariable false
set_option linter.unusedSimpArgs false
namespace Go.Proofs.YthonnbgcpaofoaaGreatDoor
open Go Go.Vw
instance : Tabs Tryz.prog := Tabs.and (Tabs.one 3 "internal/strconv.uint64pow10" .u64 Lib.pow10Tab (by kernel_rfl))
  (Tabs.and (Tabs.err 1 "strconv.ErrSyntax" (by kernel_rfl)) (Tabs.err 2 "strconv.ErrRange" (by kernel_rfl)))
theorem tab_pow10 {w : World} (h : Tabs.J Tryz.prog w) : Lib.TabIs Tryz.prog w "internal/strconv.uint64pow10" .u64 Lib.pow10Tab := h.1
theorem tab_syntax {w : World} (h : Tabs.J Tryz.prog w) : HasErr Tryz.prog "strconv.ErrSyntax" w := h.2.1
theorem tab_range {w : World} (h : Tabs.J Tryz.prog w) : HasErr Tryz.prog "strconv.ErrRange" w := h.2.2
end Go.Proofs.YthonnbgcpaofoaaGreatDoor
