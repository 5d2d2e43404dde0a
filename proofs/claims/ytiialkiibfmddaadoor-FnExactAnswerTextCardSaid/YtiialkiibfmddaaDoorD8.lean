/- The words of codes: contracts; the conditions are the theorems' own. -/
import Derived.Test.YtiialkiibfmddaaDoorD7
set_option linter.unusedVariables false
set_option linter.unusedSimpArgs false
set_option linter.unusedSectionVars false
set_option maxRecDepth 20000
namespace Go.Proofs.YtiialkiibfmddaaDoor
open Go Go.Vw

def wl : List (List UInt8) := [[111, 107], [98, 97, 100], [108, 111, 110, 103], [102, 111, 114, 109], [114, 97, 110, 103, 101], [110, 111, 110, 101], [109, 97, 110, 121], [102, 117, 108, 108], [115, 105, 122, 101], [116, 104, 101, 114, 101], [118, 101, 114, 115, 105, 111, 110], [102, 97, 117, 108, 116], [104, 101, 108, 100], [115, 116, 97, 108, 101], [108, 97, 116, 101], [98, 101, 108, 111, 119], [103, 97, 112], [100, 97, 109, 97, 103, 101, 100], [105, 100, 108, 101], [107, 101, 121]]
def W (i : Nat) : List UInt8 := wl.getD i []
theorem isCode_fn (n : Int) : VFn Tryd.prog 41 [.int .i64 n] (.bool (within n 0 19)) := by
  refine VFn.intro Tryd.call41 Tryd.func41 rfl rfl ?_
  refine CallG.mk _ (callR_sca (within_fn _ _ _) rfl rfl) ?_
  exact And.intro trivial (AVle.refl _)
theorem codeWords_fn : VFn Tryd.prog 47 [] (.sl 1 20 fun i => [.str (B (W i))]) := by
  refine VFn.intro Tryd.call47 Tryd.func47 rfl rfl ?_
  refine And.intro trivial (AVle.sl rfl fun n hn => ?_)
  have h : n = 0 ∨ n = 1 ∨ n = 2 ∨ n = 3 ∨ n = 4 ∨ n = 5 ∨ n = 6 ∨ n = 7 ∨ n = 8 ∨ n = 9 ∨ n = 10 ∨ n = 11 ∨ n = 12 ∨ n = 13 ∨ n = 14 ∨ n = 15 ∨ n = 16 ∨ n = 17 ∨ n = 18 ∨ n = 19 := by omega
  rcases h with rfl | rfl | rfl | rfl | rfl | rfl | rfl | rfl | rfl | rfl | rfl | rfl | rfl | rfl | rfl | rfl | rfl | rfl | rfl | rfl
  all_goals rfl
theorem specCodeWord_fn (n : Nat) (hn : n < 20) : VFn Tryd.prog 38 [.int .i64 (n : Int)] (.str (B (W n))) := by
  have h : n = 0 ∨ n = 1 ∨ n = 2 ∨ n = 3 ∨ n = 4 ∨ n = 5 ∨ n = 6 ∨ n = 7 ∨ n = 8 ∨ n = 9 ∨ n = 10 ∨ n = 11 ∨ n = 12 ∨ n = 13 ∨ n = 14 ∨ n = 15 ∨ n = 16 ∨ n = 17 ∨ n = 18 ∨ n = 19 := by omega
  rcases h with rfl | rfl | rfl | rfl | rfl | rfl | rfl | rfl | rfl | rfl | rfl | rfl | rfl | rfl | rfl | rfl | rfl | rfl | rfl | rfl
  all_goals
    refine VFn.intro Tryd.call38 Tryd.func38 rfl rfl ?_
    refine And.intro (by decide) ?_
    exact And.intro trivial (AVle.refl _)
theorem CodeWord_fn (n : Nat) (hn : n < 20) : VFn Tryd.prog 43 [.int .i64 (n : Int)] (.str (B (W n))) := by
  have hw : within (n : Int) 0 19 = true := by simp [within]; omega
  refine VFn.intro Tryd.call43 Tryd.func43 rfl rfl ?_
  refine CallG.mk _ (callR_sca (r := .bool true) (hw ▸ isCode_fn _) rfl rfl) ?_
  refine CallG.mk _ (callR_nl codeWords_fn rfl rfl) ?_
  refine And.intro (by omega) ?_
  exact And.intro trivial (AVle.refl _)
end Go.Proofs.YtiialkiibfmddaaDoor
