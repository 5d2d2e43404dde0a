/- What the world bears throughout: the tables that the library's number texts read, the errors of strconv, a number of bytealg's. No condition. -/
import Derived.Test.YtpfmfdioonjccaaGreatDoorV41
import Derived.Test.YtpfmfdioonjccaaGreatDoorSh
import Derived.Test.YtpfmfdioonjccaaGreatDoorProg
set_option linter.unusedVariables false
set_option linter.constructorNameAsVariable false
set_option linter.unusedSimpArgs false
namespace Go.Proofs.YtpfmfdioonjccaaGreatDoor
open Go Go.Vw
instance : Tabs Tryz.prog := Tabs.and (Tabs.one 3 "internal/strconv.uint64pow10" .u64 Lib.pow10Tab (by kernel_rfl))
  (Tabs.and (Tabs.err 1 "strconv.ErrSyntax" (by kernel_rfl)) (Tabs.and (Tabs.err 2 "strconv.ErrRange" (by kernel_rfl)) (Tabs.num 0)))
theorem tab_pow10 {w : World} (h : Tabs.J Tryz.prog w) : Lib.TabIs Tryz.prog w "internal/strconv.uint64pow10" .u64 Lib.pow10Tab := h.1
theorem tab_syntax {w : World} (h : Tabs.J Tryz.prog w) : HasErr Tryz.prog "strconv.ErrSyntax" w := h.2.1
theorem tab_range {w : World} (h : Tabs.J Tryz.prog w) : HasErr Tryz.prog "strconv.ErrRange" w := h.2.2.1
theorem tab_maxlen {w : World} (h : Tabs.J Tryz.prog w) : HasInt 0 w := h.2.2.2
end Go.Proofs.YtpfmfdioonjccaaGreatDoor
