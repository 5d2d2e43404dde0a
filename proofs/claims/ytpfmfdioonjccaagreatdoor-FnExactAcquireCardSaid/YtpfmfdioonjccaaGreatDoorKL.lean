/- laws.FnExactRenew. The conditions are the theorem's own. -/
import Derived.Test.YtpfmfdioonjccaaGreatDoorKK
set_option linter.unusedVariables false
set_option linter.constructorNameAsVariable false
set_option linter.unusedSimpArgs false
set_option maxRecDepth 20000
namespace Go.Proofs.YtpfmfdioonjccaaGreatDoor
open Go Go.Vw

theorem isNow_fn (n : Int) : VFn Tryz.prog 67 [.int .i64 n] (.bool (within n 0 101000)) := by
  refine VFn.introC Tryz.call67 Tryz.func67 rfl rfl ?_
  conv => whnf
  refine CallC.sca _ (within_fn _ _ _) ?_ ?_
  · exact rfl
  exact And.intro trivial (AVle.refl _)
theorem now_b {now : Int} (h : within now 0 101000 = true) : 0 ≤ now ∧ now ≤ 101000 := by simpa [within] using h
theorem renewC (s : Sto) (who now : Int) {b : Bool} (h : (!within who 0 9 || !within now 0 101000) = b) : (if (!s.ok) = true then (1 : Int) else if b = true then 4 else 0) = ask s who now := by
  subst h
  unfold ask
  cases s.ok <;> cases within who 0 9 <;> cases within now 0 101000 <;> rfl
end Go.Proofs.YtpfmfdioonjccaaGreatDoor
