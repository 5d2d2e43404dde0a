/- What each function under laws.FnExactLeaseText computes: contracts; the conditions are the theorems' own. -/
import Derived.Test.YtiialkiibfmddaaDoorD2
set_option linter.unusedVariables false
set_option linter.unusedSimpArgs false
set_option linter.unusedSectionVars false
namespace Go.Proofs.YtiialkiibfmddaaDoor
open Go Go.Vw

def within (n lo hi : Int) : Bool := decide (lo ≤ n) && decide (n ≤ hi)
theorem within_fn (n lo hi : Int) : VFn Tryd.prog 35 [.int .i64 n, .int .i64 lo, .int .i64 hi] (.bool (within n lo hi)) := by
  refine VFn.intro Tryd.call35 Tryd.func35 rfl rfl ?_
  refine Grd.intro (fun h1 => ?_) (fun h1 => ?_)
  · refine And.intro trivial (AVle.of_eq (congrArg AV.bool ?_))
    simp_all [within]
  · refine And.intro trivial (AVle.of_eq (congrArg AV.bool ?_))
    simp_all [within]; omega
theorem l01In_fn (n lo hi : Int) : VFn Tryd.prog 25 [.int .i64 n, .int .i64 lo, .int .i64 hi] (.bool (within n lo hi)) := by
  refine VFn.intro Tryd.call25 Tryd.func25 rfl rfl ?_
  refine Grd.intro (fun h1 => ?_) (fun h1 => ?_)
  · refine And.intro trivial (AVle.of_eq (congrArg AV.bool ?_))
    simp_all [within]
  · refine And.intro trivial (AVle.of_eq (congrArg AV.bool ?_))
    simp_all [within]; omega
theorem isToken_fn (n : Int) : VFn Tryd.prog 30 [.int .i64 n] (.bool (within n 1 999999)) := by
  refine VFn.intro Tryd.call30 Tryd.func30 rfl rfl ?_
  refine CallG.mk _ (callR_sca (within_fn _ _ _) rfl rfl) ?_
  exact And.intro trivial (AVle.refl _)
theorem isId_fn (n : Int) : VFn Tryd.prog 31 [.int .i64 n] (.bool (within n 0 9)) := by
  refine VFn.intro Tryd.call31 Tryd.func31 rfl rfl ?_
  refine CallG.mk _ (callR_sca (within_fn _ _ _) rfl rfl) ?_
  exact And.intro trivial (AVle.refl _)
theorem isUntil_fn (n : Int) : VFn Tryd.prog 32 [.int .i64 n] (.bool (within n 0 200000)) := by
  refine VFn.intro Tryd.call32 Tryd.func32 rfl rfl ?_
  refine CallG.mk _ (callR_sca (within_fn _ _ _) rfl rfl) ?_
  exact And.intro trivial (AVle.refl _)

abbrev lease (a b c : Int) : AV := .agg [.int .i64 a, .int .i64 b, .int .i64 c]
def leaseOK (a b c : Int) : Bool := within a 1 999999 && within b 0 9 && within c 0 200000
theorem LeaseOK_fn (a b c : Int) : VFn Tryd.prog 17 [lease a b c] (.bool (leaseOK a b c)) := by
  refine VFn.intro Tryd.call17 Tryd.func17 rfl rfl ?_
  refine CallG.mk _ (callR_sca (isToken_fn _) rfl rfl) ?_
  refine Grd.intro (fun h1 => ?_) (fun h1 => ?_)
  · refine CallG.mk _ (callR_sca (isId_fn _) rfl rfl) ?_
    refine Grd.intro (fun h2 => ?_) (fun h2 => ?_)
    · refine CallG.mk _ (callR_sca (isUntil_fn _) rfl rfl) ?_
      exact And.intro trivial (AVle.of_eq (congrArg AV.bool (by simp_all [leaseOK])))
    · exact And.intro trivial (AVle.of_eq (congrArg AV.bool (by simp_all [leaseOK])))
  · exact And.intro trivial (AVle.of_eq (congrArg AV.bool (by simp_all [leaseOK])))
theorem specLeaseOK_fn (a b c : Int) : VFn Tryd.prog 15 [lease a b c] (.bool (leaseOK a b c)) := by
  refine VFn.intro Tryd.call15 Tryd.func15 rfl rfl ?_
  refine CallG.mk _ (callR_sca (l01In_fn _ _ _) rfl rfl) ?_
  refine Grd.intro (fun h1 => ?_) (fun h1 => ?_)
  · refine CallG.mk _ (callR_sca (l01In_fn _ _ _) rfl rfl) ?_
    refine Grd.intro (fun h2 => ?_) (fun h2 => ?_)
    · refine CallG.mk _ (callR_sca (l01In_fn _ _ _) rfl rfl) ?_
      exact And.intro trivial (AVle.of_eq (congrArg AV.bool (by simp_all [leaseOK])))
    · exact And.intro trivial (AVle.of_eq (congrArg AV.bool (by simp_all [leaseOK])))
  · exact And.intro trivial (AVle.of_eq (congrArg AV.bool (by simp_all [leaseOK])))

def tri (a b c : Int) : Nat → Int
  | 0 => a
  | 1 => b
  | _ => c
theorem tri_nums {a b c : Int} (h : leaseOK a b c = true) : nums (tri a b c) 3 := by
  simp [leaseOK, within] at h
  intro i hi
  match i, hi with
  | 0, _ => show _ ≤ a ∧ a ≤ _; omega
  | 1, _ => show _ ≤ b ∧ b ≤ _; omega
  | 2, _ => show _ ≤ c ∧ c ≤ _; omega
  | i + 3, h => omega
def ltext (a b c : Int) : List UInt8 := jn (it (tri a b c)) [44] 3
theorem leaseText_fn (a b c : Int) (h : leaseOK a b c = true) : VFn Tryd.prog 18 [lease a b c] (.str (B (ltext a b c))) := by
  refine VFn.intro Tryd.call18 Tryd.func18 rfl rfl ?_
  refine CallG.mk _ (callR_sca ((joined_fn (tri a b c) 3 (by omega) (tri_nums h) [44] (by decide)).weak (AVsle.cons (AVle.refl _) (AVsle.cons (AVle.sl rfl fun i hi => ?_) AVsle.nil)) (AVle.refl _)) rfl rfl) ?_
  · match i, hi with
    | 0, _ => rfl
    | 1, _ => rfl
    | 2, _ => rfl
    | i + 3, h => omega
  exact And.intro trivial (AVle.refl _)
theorem l05Text_fn (a b c : Int) (h : leaseOK a b c = true) : VFn Tryd.prog 16 [lease a b c] (.str (B (ltext a b c))) := by
  refine VFn.intro Tryd.call16 Tryd.func16 rfl rfl ?_
  refine CallG.mk _ (callR_sca ((l02Join_fn (tri a b c) 3 (by omega) (tri_nums h)).weak (AVsle.cons (AVle.sl rfl fun i hi => ?_) AVsle.nil) (AVle.refl _)) rfl rfl) ?_
  · match i, hi with
    | 0, _ => rfl
    | 1, _ => rfl
    | 2, _ => rfl
    | i + 3, h => omega
  exact And.intro trivial (AVle.refl _)

def lres (a b c : Int) : List UInt8 := if leaseOK a b c = true then ltext a b c else []
def lcode (a b c : Int) : Int := if leaseOK a b c = true then 0 else 1
theorem LeaseText_fn (a b c : Int) : VFn Tryd.prog 8 [lease a b c] (.tup [.str (B (lres a b c)), .int .i64 (lcode a b c)]) := by
  refine VFn.intro Tryd.call8 Tryd.func8 rfl rfl ?_
  refine CallG.mk _ (callR_sca (LeaseOK_fn _ _ _) rfl rfl) ?_
  refine Grd.intro (fun h1 => ?_) (fun h1 => ?_)
  · exact And.intro trivial (AVle.of_eq (show AV.tup [.str (B []), .int .i64 1] = _ by simp at h1; simp [lres, lcode, h1]))
  · simp at h1
    refine CallG.mk _ (callR_sca (leaseText_fn a b c h1) rfl rfl) ?_
    exact And.intro trivial (AVle.of_eq (show AV.tup [.str (B (ltext a b c)), .int .i64 0] = _ by simp [lres, lcode, h1]))
theorem specLeaseText_fn (a b c : Int) : VFn Tryd.prog 6 [lease a b c] (.tup [.str (B (lres a b c)), .int .i64 (lcode a b c)]) := by
  refine VFn.intro Tryd.call6 Tryd.func6 rfl rfl ?_
  refine CallG.mk _ (callR_sca (specLeaseOK_fn _ _ _) rfl rfl) ?_
  refine Grd.intro (fun h1 => ?_) (fun h1 => ?_)
  · exact And.intro trivial (AVle.of_eq (show AV.tup [.str (B []), .int .i64 1] = _ by simp at h1; simp [lres, lcode, h1]))
  · simp at h1
    refine CallG.mk _ (callR_sca (l05Text_fn a b c h1) rfl rfl) ?_
    exact And.intro trivial (AVle.of_eq (show AV.tup [.str (B (ltext a b c)), .int .i64 0] = _ by simp [lres, lcode, h1]))
theorem toLease_fn (a b c : Int) : VFn Tryd.prog 7 [lease a b c] (lease a b c) := by
  refine VFn.intro Tryd.call7 Tryd.func7 rfl rfl ?_
  exact And.intro trivial (AVle.refl _)
theorem lease_law (a b c : Int) : VFn Tryd.prog 3 [lease a b c] (.bool true) := by
  refine VFn.intro Tryd.call3 Tryd.func3 rfl rfl ?_
  refine CallG.mk _ (callR_sca (toLease_fn a b c) rfl rfl) ?_
  refine CallG.mk _ (callR_sca (specLeaseText_fn a b c) rfl rfl) ?_
  refine CallG.mk _ (callR_sca (toLease_fn a b c) rfl rfl) ?_
  refine CallG.mk _ (callR_sca (LeaseText_fn a b c) rfl rfl) ?_
  refine Grd.intro (fun h => absurd h (by simp)) (fun _ => ?_)
  refine Grd.intro (fun h => absurd h (by simp)) (fun _ => ?_)
  exact And.intro trivial (AVle.refl _)
end Go.Proofs.YtiialkiibfmddaaDoor
