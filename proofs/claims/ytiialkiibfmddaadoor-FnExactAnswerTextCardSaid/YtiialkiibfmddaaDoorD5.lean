/- What each function under laws.FnExactAggText computes: contracts; the conditions are the theorems' own. -/
import Derived.Test.YtiialkiibfmddaaDoorD3
set_option linter.unusedVariables false
set_option linter.unusedSimpArgs false
set_option linter.unusedSectionVars false
namespace Go.Proofs.YtiialkiibfmddaaDoor
open Go Go.Vw

structure Ag where
  c : Int
  s : Int
  mn : Int
  mx : Int
  f : Int
  l : Int
def Ag.av (a : Ag) : AV := .agg [.int .i64 a.c, .int .i64 a.s, .int .i64 a.mn, .int .i64 a.mx, .int .i64 a.f, .int .i64 a.l]
def Ag.nul (a : Ag) : Bool := decide (a.c = 0) && (decide (a.s = 0) && (decide (a.mn = 0) && (decide (a.mx = 0) && (decide (a.f = 0) && (decide (a.l = 0) && true)))))
def Ag.some (a : Ag) : Bool := within a.c 1 100000 && within a.mn (-1000000) 1000000 && within a.mx (-1000000) 1000000 && within a.f a.mn a.mx && within a.l a.mn a.mx && within a.s (a.c * a.mn) (a.c * a.mx)
def Ag.ok (a : Ag) : Bool := a.nul || a.some
theorem mul_b {c m : Int} (h1 : within c 1 100000 = true) (h2 : within m (-1000000) 1000000 = true) : -100000000000 ≤ c * m ∧ c * m ≤ 100000000000 := by
  simp [within] at h1 h2
  have e1 : c * m ≤ c * 1000000 := Int.mul_le_mul_of_nonneg_left h2.2 (by omega)
  have e2 : c * (-1000000) ≤ c * m := Int.mul_le_mul_of_nonneg_left h2.1 (by omega)
  omega

theorem isValue_fn (n : Int) : VFn Tryd.prog 36 [.int .i64 n] (.bool (within n (-1000000) 1000000)) := by
  refine VFn.intro Tryd.call36 Tryd.func36 rfl rfl ?_
  refine CallG.mk _ (callR_sca (within_fn _ _ _) rfl rfl) ?_
  exact And.intro trivial (AVle.refl _)
theorem l02Value_fn (n : Int) : VFn Tryd.prog 34 [.int .i64 n] (.bool (within n (-1000000) 1000000)) := by
  refine VFn.intro Tryd.call34 Tryd.func34 rfl rfl ?_
  refine CallG.mk _ (callR_sca (l01In_fn _ _ _) rfl rfl) ?_
  exact And.intro trivial (AVle.refl _)

theorem AggOK_fn (a : Ag) : VFn Tryd.prog 21 [a.av] (.bool a.ok) := by
  refine VFn.intro Tryd.call21 Tryd.func21 rfl rfl ?_
  refine And.intro (by kernel_rfl) ?_
  refine Grd.intro (fun h0 => ?_) (fun h0 => ?_)
  · exact And.intro trivial (AVle.of_eq (congrArg AV.bool (show true = a.ok by have : a.nul = true := h0; simp [Ag.ok, this])))
  have hn : a.nul = false := h0
  have no : a.some = false → AV.bool false = .bool a.ok := fun h => by simp [Ag.ok, hn, h]
  refine CallG.mk _ (callR_sca (within_fn _ _ _) rfl rfl) ?_
  refine Grd.intro (fun h1 => ?_) (fun h1 => ?_)
  · refine CallG.mk _ (callR_sca (isValue_fn _) rfl rfl) ?_
    refine Grd.intro (fun h2 => ?_) (fun h2 => ?_)
    · refine CallG.mk _ (callR_sca (isValue_fn _) rfl rfl) ?_
      refine Grd.intro (fun h3 => ?_) (fun h3 => ?_)
      · refine CallG.mk _ (callR_sca (within_fn _ _ _) rfl rfl) ?_
        refine Grd.intro (fun h4 => ?_) (fun h4 => ?_)
        · refine CallG.mk _ (callR_sca (within_fn _ _ _) rfl rfl) ?_
          refine Grd.intro (fun h5 => ?_) (fun h5 => ?_)
          · have b1 := mul_b h1 h2
            have b2 := mul_b h1 h3
            refine And.intro (inI64 (by omega) (by omega)) ?_
            refine And.intro (inI64 (by omega) (by omega)) ?_
            refine CallG.mk _ (callR_sca (within_fn _ _ _) rfl rfl) ?_
            exact And.intro trivial (AVle.of_eq (congrArg AV.bool (show within a.s (a.c * a.mn) (a.c * a.mx) = a.ok by
              have q1 : within a.c 1 100000 = true := h1
              have q2 : within a.mn (-1000000) 1000000 = true := h2
              have q3 : within a.mx (-1000000) 1000000 = true := h3
              have q4 : within a.f a.mn a.mx = true := h4
              have q5 : within a.l a.mn a.mx = true := h5
              simp [Ag.ok, Ag.some, hn, q1, q2, q3, q4, q5])))
          · exact And.intro trivial (AVle.of_eq (no (by have q : within a.l a.mn a.mx = false := h5; simp [Ag.some, q])))
        · exact And.intro trivial (AVle.of_eq (no (by have q : within a.f a.mn a.mx = false := h4; simp [Ag.some, q])))
      · exact And.intro trivial (AVle.of_eq (no (by have q : within a.mx (-1000000) 1000000 = false := h3; simp [Ag.some, q])))
    · exact And.intro trivial (AVle.of_eq (no (by have q : within a.mn (-1000000) 1000000 = false := h2; simp [Ag.some, q])))
  · exact And.intro trivial (AVle.of_eq (no (by have q : within a.c 1 100000 = false := h1; simp [Ag.some, q])))

theorem specAggOK_fn (a : Ag) : VFn Tryd.prog 19 [a.av] (.bool a.ok) := by
  refine VFn.intro Tryd.call19 Tryd.func19 rfl rfl ?_
  refine Grd.intro (fun h0 => ?_) (fun h0 => ?_)
  · refine And.intro (by kernel_rfl) ?_
    have hc : a.c = 0 := of_decide_eq_true h0
    exact And.intro trivial (AVle.of_eq (congrArg AV.bool (show a.nul = a.ok by
      have q : within a.c 1 100000 = false := by rw [hc]; rfl
      simp [Ag.ok, Ag.some, q])))
  have hc : ¬ a.c = 0 := of_decide_eq_false h0
  have hn : a.nul = false := by simp [Ag.nul, hc]
  have no : a.some = false → AV.bool false = .bool a.ok := fun h => by simp [Ag.ok, hn, h]
  refine CallG.mk _ (callR_sca (l01In_fn _ _ _) rfl rfl) ?_
  refine Grd.intro (fun h1 => ?_) (fun h1 => ?_)
  · refine CallG.mk _ (callR_sca (l02Value_fn _) rfl rfl) ?_
    refine Grd.intro (fun h2 => ?_) (fun h2 => ?_)
    · refine CallG.mk _ (callR_sca (l02Value_fn _) rfl rfl) ?_
      refine Grd.intro (fun h3 => ?_) (fun h3 => ?_)
      · refine CallG.mk _ (callR_sca (l01In_fn _ _ _) rfl rfl) ?_
        refine Grd.intro (fun h4 => ?_) (fun h4 => ?_)
        · refine CallG.mk _ (callR_sca (l01In_fn _ _ _) rfl rfl) ?_
          refine Grd.intro (fun h5 => ?_) (fun h5 => ?_)
          · have b1 := mul_b h1 h2
            have b2 := mul_b h1 h3
            refine And.intro (inI64 (by omega) (by omega)) ?_
            refine And.intro (inI64 (by omega) (by omega)) ?_
            refine CallG.mk _ (callR_sca (l01In_fn _ _ _) rfl rfl) ?_
            exact And.intro trivial (AVle.of_eq (congrArg AV.bool (show within a.s (a.c * a.mn) (a.c * a.mx) = a.ok by
              have q1 : within a.c 1 100000 = true := h1
              have q2 : within a.mn (-1000000) 1000000 = true := h2
              have q3 : within a.mx (-1000000) 1000000 = true := h3
              have q4 : within a.f a.mn a.mx = true := h4
              have q5 : within a.l a.mn a.mx = true := h5
              simp [Ag.ok, Ag.some, hn, q1, q2, q3, q4, q5])))
          · exact And.intro trivial (AVle.of_eq (no (by have q : within a.l a.mn a.mx = false := h5; simp [Ag.some, q])))
        · exact And.intro trivial (AVle.of_eq (no (by have q : within a.f a.mn a.mx = false := h4; simp [Ag.some, q])))
      · exact And.intro trivial (AVle.of_eq (no (by have q : within a.mx (-1000000) 1000000 = false := h3; simp [Ag.some, q])))
    · exact And.intro trivial (AVle.of_eq (no (by have q : within a.mn (-1000000) 1000000 = false := h2; simp [Ag.some, q])))
  · exact And.intro trivial (AVle.of_eq (no (by have q : within a.c 1 100000 = false := h1; simp [Ag.some, q])))

def six (a : Ag) : Nat → Int
  | 0 => a.c
  | 1 => a.s
  | 2 => a.mn
  | 3 => a.mx
  | 4 => a.f
  | _ => a.l
theorem six_nums {a : Ag} (h : a.ok = true) : nums (six a) 6 := by
  have key : -100000000000 ≤ a.c ∧ a.c ≤ 100000000000 ∧ -100000000000 ≤ a.s ∧ a.s ≤ 100000000000 ∧ -100000000000 ≤ a.mn ∧ a.mn ≤ 100000000000 ∧ -100000000000 ≤ a.mx ∧ a.mx ≤ 100000000000 ∧
      -100000000000 ≤ a.f ∧ a.f ≤ 100000000000 ∧ -100000000000 ≤ a.l ∧ a.l ≤ 100000000000 := by
    simp only [Ag.ok, Bool.or_eq_true] at h
    rcases h with h | h
    · simp [Ag.nul] at h; omega
    · simp only [Ag.some, Bool.and_eq_true] at h
      obtain ⟨⟨⟨⟨⟨h1, h2⟩, h3⟩, h4⟩, h5⟩, h6⟩ := h
      have b1 := mul_b h1 h2
      have b2 := mul_b h1 h3
      simp [within] at h1 h2 h3 h4 h5 h6
      omega
  intro i hi
  match i, hi with
  | 0, _ => show _ ≤ a.c ∧ a.c ≤ _; omega
  | 1, _ => show _ ≤ a.s ∧ a.s ≤ _; omega
  | 2, _ => show _ ≤ a.mn ∧ a.mn ≤ _; omega
  | 3, _ => show _ ≤ a.mx ∧ a.mx ≤ _; omega
  | 4, _ => show _ ≤ a.f ∧ a.f ≤ _; omega
  | 5, _ => show _ ≤ a.l ∧ a.l ≤ _; omega
  | i + 6, h => omega
def atext (a : Ag) : List UInt8 := jn (it (six a)) [44] 6
theorem six_rows {r : Nat → List AV} {q : Int → AV} {a : Ag} (h0 : r 0 = [q a.c]) (h1 : r 1 = [q a.s]) (h2 : r 2 = [q a.mn]) (h3 : r 3 = [q a.mx]) (h4 : r 4 = [q a.f]) (h5 : r 5 = [q a.l]) : ∀ i, i < 6 → r i = [q (six a i)]
  | 0, _ => h0
  | 1, _ => h1
  | 2, _ => h2
  | 3, _ => h3
  | 4, _ => h4
  | 5, _ => h5
  | i + 6, h => by omega
theorem aggText_fn (a : Ag) (h : a.ok = true) : VFn Tryd.prog 22 [a.av] (.str (B (atext a))) := by
  refine VFn.intro Tryd.call22 Tryd.func22 rfl rfl ?_
  refine CallG.mk _ (callR_sca ((joined_fn (six a) 6 (by omega) (six_nums h) [44] (by decide)).weak (AVsle.cons (AVle.refl _) (AVsle.cons (AVle.sl rfl (six_rows (q := fun n => .iface 3 (.int .i64 n)) (a := a) (by kernel_rfl) (by kernel_rfl) (by kernel_rfl) (by kernel_rfl) (by kernel_rfl) (by kernel_rfl))) AVsle.nil)) (AVle.refl _)) rfl rfl) ?_
  exact And.intro trivial (AVle.refl _)
theorem l02Text_fn (a : Ag) (h : a.ok = true) : VFn Tryd.prog 20 [a.av] (.str (B (atext a))) := by
  refine VFn.intro Tryd.call20 Tryd.func20 rfl rfl ?_
  refine CallG.mk _ (callR_sca ((l02Join_fn (six a) 6 (by omega) (six_nums h)).weak (AVsle.cons (AVle.sl rfl (six_rows (q := fun n => .int .i64 n) (a := a) (by kernel_rfl) (by kernel_rfl) (by kernel_rfl) (by kernel_rfl) (by kernel_rfl) (by kernel_rfl))) AVsle.nil) (AVle.refl _)) rfl rfl) ?_
  exact And.intro trivial (AVle.refl _)
def ares (a : Ag) : List UInt8 := if a.ok = true then atext a else []
def acode (a : Ag) : Int := if a.ok = true then 0 else 1
theorem AggText_fn (a : Ag) : VFn Tryd.prog 11 [a.av] (.tup [.str (B (ares a)), .int .i64 (acode a)]) := by
  refine VFn.intro Tryd.call11 Tryd.func11 rfl rfl ?_
  refine CallG.mk _ (callR_sca (AggOK_fn a) rfl rfl) ?_
  refine Grd.intro (fun h1 => ?_) (fun h1 => ?_)
  · exact And.intro trivial (AVle.of_eq (show AV.tup [.str (B []), .int .i64 1] = _ by simp at h1; simp [ares, acode, h1]))
  · simp at h1
    refine CallG.mk _ (callR_sca (aggText_fn a h1) rfl rfl) ?_
    exact And.intro trivial (AVle.of_eq (show AV.tup [.str (B (atext a)), .int .i64 0] = _ by simp [ares, acode, h1]))
theorem specAggText_fn (a : Ag) : VFn Tryd.prog 9 [a.av] (.tup [.str (B (ares a)), .int .i64 (acode a)]) := by
  refine VFn.intro Tryd.call9 Tryd.func9 rfl rfl ?_
  refine CallG.mk _ (callR_sca (specAggOK_fn a) rfl rfl) ?_
  refine Grd.intro (fun h1 => ?_) (fun h1 => ?_)
  · exact And.intro trivial (AVle.of_eq (show AV.tup [.str (B []), .int .i64 1] = _ by simp at h1; simp [ares, acode, h1]))
  · simp at h1
    refine CallG.mk _ (callR_sca (l02Text_fn a h1) rfl rfl) ?_
    exact And.intro trivial (AVle.of_eq (show AV.tup [.str (B (atext a)), .int .i64 0] = _ by simp [ares, acode, h1]))
theorem toAgg_fn (a : Ag) : VFn Tryd.prog 10 [a.av] a.av := by
  refine VFn.intro Tryd.call10 Tryd.func10 rfl rfl ?_
  exact And.intro trivial (AVle.refl _)
theorem agg_law (a : Ag) : VFn Tryd.prog 4 [a.av] (.bool true) := by
  refine VFn.intro Tryd.call4 Tryd.func4 rfl rfl ?_
  refine CallG.mk _ (callR_sca (toAgg_fn a) rfl rfl) ?_
  refine CallG.mk _ (callR_sca (specAggText_fn a) rfl rfl) ?_
  refine CallG.mk _ (callR_sca (toAgg_fn a) rfl rfl) ?_
  refine CallG.mk _ (callR_sca (AggText_fn a) rfl rfl) ?_
  refine Grd.intro (fun h => absurd h (by simp)) (fun _ => ?_)
  refine Grd.intro (fun h => absurd h (by simp)) (fun _ => ?_)
  exact And.intro trivial (AVle.refl _)
end Go.Proofs.YtiialkiibfmddaaDoor
