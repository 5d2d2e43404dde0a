/- spec.AnswerText, laws.FnExactAnswerText: contracts; the conditions are the theorems' own. -/
import Derived.Test.YtiialkiibfmddaaDoorDB
set_option linter.unusedVariables false
set_option linter.unusedSimpArgs false
set_option linter.unusedSectionVars false
set_option maxRecDepth 20000
namespace Go.Proofs.YtiialkiibfmddaaDoor
open Go Go.Vw
theorem specAnswerText_fn (t f o c : Int) (a : Ag) : VFn Tryd.prog 12 [ansAV t f o c a] (.tup [.str (B (anres t f o c a)), .int .i64 (ancode t f o c a)]) := by
  have bad : ansOK t f o c a = false → AV.tup [.str (B []), .int .i64 1] = .tup [.str (B (anres t f o c a)), .int .i64 (ancode t f o c a)] := fun h => by simp [anres, ancode, h]
  refine VFn.intro Tryd.call12 Tryd.func12 rfl rfl ?_
  refine CallG.mk _ (callR_sca (l04Tier_fn _) rfl rfl) ?_
  refine Grd.intro (fun h1 => ?_) (fun h1 => ?_)
  · exact And.intro trivial (AVle.of_eq (bad (by have q : (!within t 0 2) = true := h1; simp at q; simp [ansOK, q])))
  · refine CallG.mk _ (callR_sca (l04Range_fn _ _) rfl rfl) ?_
    refine Grd.intro (fun h2 => ?_) (fun h2 => ?_)
    · exact And.intro trivial (AVle.of_eq (bad (by have q : (!isRange f o) = true := h2; simp at q; simp [ansOK, q])))
    · refine CallG.mk _ (callR_sca (l01In_fn _ _ _) rfl rfl) ?_
      refine Grd.intro (fun h3 => ?_) (fun h3 => ?_)
      · exact And.intro trivial (AVle.of_eq (bad (by have q : (!within c 0 19) = true := h3; simp at q; simp [ansOK, q])))
      · refine CallG.mk _ (callR_sca (specAggOK_fn a) rfl rfl) ?_
        refine Grd.intro (fun h4 => ?_) (fun h4 => ?_)
        · exact And.intro trivial (AVle.of_eq (bad (by have q : (!a.ok) = true := h4; simp at q; simp [ansOK, q])))
        · have h : ansOK t f o c a = true := by
            have q1 : (!within t 0 2) = false := h1
            have q2 : (!isRange f o) = false := h2
            have q3 : (!within c 0 19) = false := h3
            have q4 : (!a.ok) = false := h4
            simp at q1 q2 q3 q4
            simp [ansOK, q1, q2, q3, q4]
          refine CallG.mk _ (callR_sca (l15_fn t f o c a h) rfl rfl) ?_
          exact And.intro trivial (AVle.of_eq (show AV.tup [.str (B (anText t f o c a)), .int .i64 0] = _ by simp [anres, ancode, h]))
theorem answer_law (t f o c : Int) (a : Ag) : VFn Tryd.prog 5 [ansAV t f o c a] (.bool true) := by
  refine VFn.intro Tryd.call5 Tryd.func5 rfl rfl ?_
  refine CallG.mk _ (callR_sca (toAnswer_fn t f o c a) rfl rfl) ?_
  refine CallG.mk _ (callR_sca (specAnswerText_fn t f o c a) rfl rfl) ?_
  refine CallG.mk _ (callR_sca (toAnswer_fn t f o c a) rfl rfl) ?_
  refine CallG.mk _ (callR_sca (AnswerText_fn t f o c a) rfl rfl) ?_
  refine Grd.intro (fun h => absurd h (by simp)) (fun _ => ?_)
  refine Grd.intro (fun h => absurd h (by simp)) (fun _ => ?_)
  exact And.intro trivial (AVle.refl _)
end Go.Proofs.YtiialkiibfmddaaDoor
