/- laws.FnExactAnswerText: contracts; the conditions are the theorems' own. -/
import Derived.Test.YtiialkiibfmddaaDoorDA
set_option linter.unusedVariables false
set_option linter.unusedSimpArgs false
set_option linter.unusedSectionVars false
set_option maxRecDepth 20000
namespace Go.Proofs.YtiialkiibfmddaaDoor
open Go Go.Vw

theorem l15_fn (t f o c : Int) (a : Ag) (h : ansOK t f o c a = true) : VFn Tryd.prog 26 [ansAV t f o c a] (.str (B (anText t f o c a))) := by
  obtain ⟨ht, hf, ho, ha, k, hk, rfl⟩ := ok_of h
  have e1 := itoa_len (n := t) (by unfold num at *; omega) ht.2
  have e2 := itoa_len (n := f) (by unfold num at *; omega) hf.2
  have e3 := itoa_len (n := o) (by unfold num at *; omega) ho.2
  have sz : ∀ x y : List UInt8, x.length ≤ 1000 → y.length ≤ 1000 → (((B x).size + (B y).size : Nat) : Int) ≤ 9223372036854775807 := fun x y hx hy => by rw [B_size, B_size]; omega
  have hw := W_len hk
  have hat := atext_len ha
  refine VFn.intro Tryd.call26 Tryd.func26 rfl rfl ?_
  refine DrawG.mk 16 rfl (by kernel_rfl) ?_
  refine PCallG.sca _ (digits_fn t ht.1 ht.2) rfl ?_
  refine And.intro (sz [116, 105, 101, 114, 32] (Lib.itoa t) (by simp) (by omega)) ?_
  refine And.intro (show (((B [116, 105, 101, 114, 32] ++ B (Lib.itoa t)).size + (B [32]).size : Nat) : Int) ≤ 9223372036854775807 by rw [B_app]; exact sz _ _ (by simp; omega) (by simp)) ?_
  refine PCallG.sca _ (digits_fn f hf.1 hf.2) rfl ?_
  refine And.intro (show (((B [116, 105, 101, 114, 32] ++ B (Lib.itoa t) ++ B [32]).size + (B (Lib.itoa f)).size : Nat) : Int) ≤ 9223372036854775807 by rw [B_app, B_app]; exact sz _ _ (by simp; omega) (by omega)) ?_
  refine And.intro (show (((B [116, 105, 101, 114, 32] ++ B (Lib.itoa t) ++ B [32] ++ B (Lib.itoa f)).size + (B [32, 116, 111, 32]).size : Nat) : Int) ≤ 9223372036854775807 by rw [B_app, B_app, B_app]; exact sz _ _ (by simp; omega) (by simp)) ?_
  refine PCallG.sca _ (digits_fn o ho.1 ho.2) rfl ?_
  refine And.intro (show (((B [116, 105, 101, 114, 32] ++ B (Lib.itoa t) ++ B [32] ++ B (Lib.itoa f) ++ B [32, 116, 111, 32]).size + (B (Lib.itoa o)).size : Nat) : Int) ≤ 9223372036854775807 by rw [B_app, B_app, B_app, B_app]; exact sz _ _ (by simp; omega) (by omega)) ?_
  refine And.intro (show (((B [116, 105, 101, 114, 32] ++ B (Lib.itoa t) ++ B [32] ++ B (Lib.itoa f) ++ B [32, 116, 111, 32] ++ B (Lib.itoa o)).size + (B [32]).size : Nat) : Int) ≤ 9223372036854775807 by rw [B_app, B_app, B_app, B_app, B_app]; exact sz _ _ (by simp; omega) (by simp)) ?_
  have head : B [116, 105, 101, 114, 32] ++ B (Lib.itoa t) ++ B [32] ++ B (Lib.itoa f) ++ B [32, 116, 111, 32] ++ B (Lib.itoa o) ++ B [32] = B (headT t f o ++ [32]) := by
    rw [B_app, B_app, B_app, B_app, B_app, B_app]; congr 1; simp [headT]
  have hl := head_len ht hf ho
  refine Grd.intro (fun h1 => ?_) (fun h1 => ?_)
  · have hc : ¬ (k : Int) = 0 := by simpa using h1
    refine CallG.mk _ (callR_sca (specCodeWord_fn k hk) rfl rfl) ?_
    refine And.intro (show (((B [116, 105, 101, 114, 32] ++ B (Lib.itoa t) ++ B [32] ++ B (Lib.itoa f) ++ B [32, 116, 111, 32] ++ B (Lib.itoa o) ++ B [32]).size + (B (W k)).size : Nat) : Int) ≤ 9223372036854775807 by rw [head]; exact sz _ _ (by simp; omega) (by omega)) ?_
    exact And.intro trivial (AVle.of_eq (congrArg AV.str (show B [116, 105, 101, 114, 32] ++ B (Lib.itoa t) ++ B [32] ++ B (Lib.itoa f) ++ B [32, 116, 111, 32] ++ B (Lib.itoa o) ++ B [32] ++ B (W k) = B (anText t f o k a) by
      rw [head, B_app]; unfold anText tailT; rw [if_neg hc, List.append_assoc]; rfl)))
  · have hc : (k : Int) = 0 := by simpa using h1
    refine CallG.mk _ (callR_sca (l02Text_fn a ha) rfl rfl) ?_
    refine And.intro (show (((B [116, 105, 101, 114, 32] ++ B (Lib.itoa t) ++ B [32] ++ B (Lib.itoa f) ++ B [32, 116, 111, 32] ++ B (Lib.itoa o) ++ B [32]).size + (B (atext a)).size : Nat) : Int) ≤ 9223372036854775807 by rw [head]; exact sz _ _ (by simp; omega) (by omega)) ?_
    exact And.intro trivial (AVle.of_eq (congrArg AV.str (show B [116, 105, 101, 114, 32] ++ B (Lib.itoa t) ++ B [32] ++ B (Lib.itoa f) ++ B [32, 116, 111, 32] ++ B (Lib.itoa o) ++ B [32] ++ B (atext a) = B (anText t f o k a) by
      rw [head, B_app]; unfold anText tailT; rw [if_pos hc, List.append_assoc])))

def anres (t f o c : Int) (a : Ag) : List UInt8 := if ansOK t f o c a = true then anText t f o c a else []
def ancode (t f o c : Int) (a : Ag) : Int := if ansOK t f o c a = true then 0 else 1
theorem AnswerText_fn (t f o c : Int) (a : Ag) : VFn Tryd.prog 14 [ansAV t f o c a] (.tup [.str (B (anres t f o c a)), .int .i64 (ancode t f o c a)]) := by
  refine VFn.intro Tryd.call14 Tryd.func14 rfl rfl ?_
  refine CallG.mk _ (callR_sca (answerOK_fn t f o c a) rfl rfl) ?_
  refine Grd.intro (fun h1 => ?_) (fun h1 => ?_)
  · exact And.intro trivial (AVle.of_eq (show AV.tup [.str (B []), .int .i64 1] = _ by simp at h1; simp [anres, ancode, h1]))
  · simp at h1
    refine CallG.mk _ (callR_sca (answerText_fn t f o c a h1) rfl rfl) ?_
    exact And.intro trivial (AVle.of_eq (show AV.tup [.str (B (anText t f o c a)), .int .i64 0] = _ by simp [anres, ancode, h1]))
theorem toAnswer_fn (t f o c : Int) (a : Ag) : VFn Tryd.prog 13 [ansAV t f o c a] (ansAV t f o c a) := by
  refine VFn.intro Tryd.call13 Tryd.func13 rfl rfl ?_
  refine CallG.mk _ (callR_sca (toAgg_fn a) rfl rfl) ?_
  exact And.intro trivial (AVle.refl _)
end Go.Proofs.YtiialkiibfmddaaDoor
