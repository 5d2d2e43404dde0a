/- What each function under laws.FnExactAnswerText computes: contracts; the conditions are the theorems' own. -/
import Derived.Test.YtiialkiibfmddaaDoorD8
set_option linter.unusedVariables false
set_option linter.unusedSimpArgs false
set_option linter.unusedSectionVars false
set_option maxRecDepth 20000
namespace Go.Proofs.YtiialkiibfmddaaDoor
open Go Go.Vw

def isRange (a b : Int) : Bool := decide (0 ≤ a) && (decide (a ≤ b) && decide (b ≤ 100000))
theorem isRange_fn (a b : Int) : VFn Tryd.prog 40 [.int .i64 a, .int .i64 b] (.bool (isRange a b)) := by
  refine VFn.intro Tryd.call40 Tryd.func40 rfl rfl ?_
  refine Grd.intro (fun h1 => ?_) (fun h1 => ?_)
  · refine Grd.intro (fun h2 => ?_) (fun h2 => ?_)
    · exact And.intro trivial (AVle.of_eq (congrArg AV.bool (by simp_all [isRange])))
    · exact And.intro trivial (AVle.of_eq (congrArg AV.bool (by simp_all [isRange]; omega)))
  · exact And.intro trivial (AVle.of_eq (congrArg AV.bool (by simp_all [isRange]; omega)))
theorem l04Range_fn (a b : Int) : VFn Tryd.prog 24 [.int .i64 a, .int .i64 b] (.bool (isRange a b)) := by
  refine VFn.intro Tryd.call24 Tryd.func24 rfl rfl ?_
  refine CallG.mk _ (callR_sca (l01In_fn _ _ _) rfl rfl) ?_
  refine Grd.intro (fun h1 => ?_) (fun h1 => ?_)
  · refine CallG.mk _ (callR_sca (l01In_fn _ _ _) rfl rfl) ?_
    exact And.intro trivial (AVle.of_eq (congrArg AV.bool (by simp_all [isRange, within])))
  · exact And.intro trivial (AVle.of_eq (congrArg AV.bool (by simp_all [isRange, within]; omega)))
theorem isTier_fn (n : Int) : VFn Tryd.prog 39 [.int .i64 n] (.bool (within n 0 2)) := by
  refine VFn.intro Tryd.call39 Tryd.func39 rfl rfl ?_
  refine CallG.mk _ (callR_sca (within_fn _ _ _) rfl rfl) ?_
  exact And.intro trivial (AVle.refl _)
theorem l04Tier_fn (n : Int) : VFn Tryd.prog 23 [.int .i64 n] (.bool (within n 0 2)) := by
  refine VFn.intro Tryd.call23 Tryd.func23 rfl rfl ?_
  refine CallG.mk _ (callR_sca (l01In_fn _ _ _) rfl rfl) ?_
  exact And.intro trivial (AVle.refl _)

def ansAV (t f o c : Int) (a : Ag) : AV := .agg [.int .i64 t, .int .i64 f, .int .i64 o, .int .i64 c, .int .i64 a.c, .int .i64 a.s, .int .i64 a.mn, .int .i64 a.mx, .int .i64 a.f, .int .i64 a.l]
def ansOK (t f o c : Int) (a : Ag) : Bool := within t 0 2 && isRange f o && within c 0 19 && a.ok
theorem answerOK_fn (t f o c : Int) (a : Ag) : VFn Tryd.prog 27 [ansAV t f o c a] (.bool (ansOK t f o c a)) := by
  refine VFn.intro Tryd.call27 Tryd.func27 rfl rfl ?_
  refine CallG.mk _ (callR_sca (isTier_fn _) rfl rfl) ?_
  refine Grd.intro (fun h1 => ?_) (fun h1 => ?_)
  · refine CallG.mk _ (callR_sca (isRange_fn _ _) rfl rfl) ?_
    refine Grd.intro (fun h2 => ?_) (fun h2 => ?_)
    · refine CallG.mk _ (callR_sca (isCode_fn _) rfl rfl) ?_
      refine Grd.intro (fun h3 => ?_) (fun h3 => ?_)
      · refine CallG.mk _ (callR_sca (AggOK_fn a) rfl rfl) ?_
        exact And.intro trivial (AVle.of_eq (congrArg AV.bool (show a.ok = ansOK t f o c a by
          have q1 : within t 0 2 = true := h1
          have q2 : isRange f o = true := h2
          have q3 : within c 0 19 = true := h3
          simp [ansOK, q1, q2, q3])))
      · exact And.intro trivial (AVle.of_eq (congrArg AV.bool (show false = ansOK t f o c a by have q : within c 0 19 = false := h3; simp [ansOK, q])))
    · exact And.intro trivial (AVle.of_eq (congrArg AV.bool (show false = ansOK t f o c a by have q : isRange f o = false := h2; simp [ansOK, q])))
  · exact And.intro trivial (AVle.of_eq (congrArg AV.bool (show false = ansOK t f o c a by have q : within t 0 2 = false := h1; simp [ansOK, q])))
end Go.Proofs.YtiialkiibfmddaaDoor
