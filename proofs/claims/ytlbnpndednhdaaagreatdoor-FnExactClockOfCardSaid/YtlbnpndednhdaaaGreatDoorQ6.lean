/- Contracts of functions that the claim reaches, and the plain law of what they compute; each theorem bears its own conditions. -/
import Derived.Test.YtlbnpndednhdaaaGreatDoorQ5
import Derived.Test.YtlbnpndednhdaaaGreatDoorQ3
set_option linter.unusedVariables false
set_option linter.constructorNameAsVariable false
set_option linter.unusedSimpArgs false
set_option maxRecDepth 20000
namespace Go.Proofs.YtlbnpndednhdaaaGreatDoor
open Go Go.Vw

theorem FlIn.nx {s : Fl} (h : FlIn s) : -9223372036854775808 ≤ s.st.next ∧ s.st.next ≤ 9223372036854775807 := by
  have := h.st.nxt
  exact this
def Fl.skew (s : Fl) (i : Int) : Int := if i = 0 then s.k0 else if i = 1 then s.k1 else if i = 2 then s.k2 else if i = 3 then s.k3 else if i = 4 then s.k4 else if i = 5 then s.k5 else s.k6
def Fl.clockV (s : Fl) (who : Int) : AV := if s.ok = true then if within who 0 6 = true then .tup [.int .i64 (s.clk + s.skew who), .int .i64 0] else .tup [.int .i64 0, .int .i64 4] else .tup [.int .i64 0, .int .i64 1]
theorem Fl.ok_cons {s : Fl} (h : s.ok = true) : within s.clk 3 100000 = true ∧ s.skOK = true ∧ s.an.all An.ok = true ∧ s.an.length ≤ 4096 := by
  simp only [Fl.ok, Fl.fin, Bool.and_eq_true] at h
  obtain ⟨_, h1, h2, _, _, _, _, h3, h4⟩ := h
  exact ⟨h1, h2, h4, by simpa using h3⟩
theorem within_iff {n lo hi : Int} (h : within n lo hi = true) : lo ≤ n ∧ n ≤ hi := by
  simpa [within] using h
theorem Now_fn (s : Fl) (h1 : within s.clk 3 100000 = true) (h2 : s.skOK = true) (who : Int) (hw : within who 0 6 = true) : VFn Tryz.prog 87 [s.av, .int .i64 who] (.int .i64 (s.clk + s.skew who)) := by
  have h1 := within_iff h1
  have hw := within_iff hw
  have h2 : ∀ e ∈ [s.k0, s.k1, s.k2, s.k3, s.k4, s.k5, s.k6], within e (-3) 3 = true := List.all_eq_true.1 h2
  have q0 := within_iff (h2 s.k0 (by simp))
  have q1 := within_iff (h2 s.k1 (by simp))
  have q2 := within_iff (h2 s.k2 (by simp))
  have q3 := within_iff (h2 s.k3 (by simp))
  have q4 := within_iff (h2 s.k4 (by simp))
  have q5 := within_iff (h2 s.k5 (by simp))
  have q6 := within_iff (h2 s.k6 (by simp))
  have hw : who = 0 ∨ who = 1 ∨ who = 2 ∨ who = 3 ∨ who = 4 ∨ who = 5 ∨ who = 6 := by omega
  rcases hw with rfl | rfl | rfl | rfl | rfl | rfl | rfl
  all_goals
    refine VFn.introC Tryz.call87 Tryz.func87 rfl rfl ?_
    refine DrawC.mk 7 rfl (by kernel_rfl) ?_
    refine And.intro (by decide) ?_
    refine And.intro (inI64 (by omega) (by omega)) ?_
    exact And.intro trivial (AVle.refl _)
theorem specClockOf_fn (s : Fl) (hS : s.small) (hI : -9223372036854775808 ≤ s.st.next ∧ s.st.next ≤ 9223372036854775807) (who : Int) : VFn Tryz.prog 19 [s.av, .int .i64 who] (s.clockV who) := by
  have c := specFleetOK_fn s hS hI
  unfold Fl.clockV
  by_cases ho : s.ok = true
  · rw [if_pos ho]
    rw [ho] at c
    obtain ⟨o1, o2, _, _⟩ := Fl.ok_cons ho
    have cw := l01In_fn who 0 6
    by_cases hw : within who 0 6 = true
    · rw [if_pos hw]
      rw [hw] at cw
      refine VFn.introC Tryz.call19 Tryz.func19 rfl rfl ?_
      conv => whnf
      refine CallC.sca _ (c) ?_ ?_
      · exact rfl
      conv => whnf
      refine CallC.sca _ (cw) ?_ ?_
      · exact rfl
      conv => whnf
      refine CallC.sca _ (Now_fn s o1 o2 who hw) ?_ ?_
      · exact rfl
      exact And.intro trivial (AVle.refl _)
    · rw [if_neg hw]
      have hw : within who 0 6 = false := by simpa using hw
      rw [hw] at cw
      refine VFn.introC Tryz.call19 Tryz.func19 rfl rfl ?_
      conv => whnf
      refine CallC.sca _ (c) ?_ ?_
      · exact rfl
      conv => whnf
      refine CallC.sca _ (cw) ?_ ?_
      · exact rfl
      exact And.intro trivial (AVle.refl _)
  · rw [if_neg ho]
    have ho : s.ok = false := by simpa using ho
    rw [ho] at c
    refine VFn.introC Tryz.call19 Tryz.func19 rfl rfl ?_
    conv => whnf
    refine CallC.sca _ (c) ?_ ?_
    · exact rfl
    exact And.intro trivial (AVle.refl _)
theorem ClockOf_fn (s : Fl) (hS : s.small) (who : Int) : VFn Tryz.prog 20 [s.av, .int .i64 who] (s.clockV who) := by
  have c := FleetOK_fn s hS
  unfold Fl.clockV
  by_cases ho : s.ok = true
  · rw [if_pos ho]
    rw [ho] at c
    obtain ⟨h1, h2, _, _⟩ := Fl.ok_cons ho
    have cw := isActor_fn who
    by_cases hw : within who 0 6 = true
    · rw [if_pos hw]
      rw [hw] at cw
      have h1 := within_iff h1
      have hw := within_iff hw
      have h2 : ∀ e ∈ [s.k0, s.k1, s.k2, s.k3, s.k4, s.k5, s.k6], within e (-3) 3 = true := List.all_eq_true.1 h2
      have q0 := within_iff (h2 s.k0 (by simp))
      have q1 := within_iff (h2 s.k1 (by simp))
      have q2 := within_iff (h2 s.k2 (by simp))
      have q3 := within_iff (h2 s.k3 (by simp))
      have q4 := within_iff (h2 s.k4 (by simp))
      have q5 := within_iff (h2 s.k5 (by simp))
      have q6 := within_iff (h2 s.k6 (by simp))
      have hw : who = 0 ∨ who = 1 ∨ who = 2 ∨ who = 3 ∨ who = 4 ∨ who = 5 ∨ who = 6 := by omega
      rcases hw with rfl | rfl | rfl | rfl | rfl | rfl | rfl
      all_goals
        refine VFn.introC Tryz.call20 Tryz.func20 rfl rfl ?_
        conv => whnf
        refine CallC.sca _ (c) ?_ ?_
        · exact rfl
        conv => whnf
        refine CallC.sca _ (cw) ?_ ?_
        · exact rfl
        conv => whnf
        refine CallC.sca _ (first2_of _ _ _ _ ⟨rfl, rfl, rfl, rfl, trivial⟩ rfl (show (if false = true then (1 : Int) else if false = true then 4 else 0) = 0 by decide)) ?_ ?_
        · exact rfl
        refine DrawC.mk 9 rfl (by kernel_rfl) ?_
        refine And.intro (by decide) ?_
        refine And.intro (inI64 (by omega) (by omega)) ?_
        exact And.intro trivial (AVle.refl _)
    · rw [if_neg hw]
      have hw : within who 0 6 = false := by simpa using hw
      rw [hw] at cw
      refine VFn.introC Tryz.call20 Tryz.func20 rfl rfl ?_
      conv => whnf
      refine CallC.sca _ (c) ?_ ?_
      · exact rfl
      conv => whnf
      refine CallC.sca _ (cw) ?_ ?_
      · exact rfl
      conv => whnf
      refine CallC.sca _ (first2_of _ _ _ _ ⟨rfl, rfl, rfl, rfl, trivial⟩ rfl (show (if false = true then (1 : Int) else if true = true then 4 else 0) = 4 by decide)) ?_ ?_
      · exact rfl
      exact And.intro trivial (AVle.refl _)
  · rw [if_neg ho]
    have ho : s.ok = false := by simpa using ho
    rw [ho] at c
    refine VFn.introC Tryz.call20 Tryz.func20 rfl rfl ?_
    conv => whnf
    refine CallC.sca _ (c) ?_ ?_
    · exact rfl
    conv => whnf
    refine CallC.sca _ (isActor_fn who) ?_ ?_
    · exact rfl
    conv => whnf
    refine CallC.sca _ (first2_of _ _ _ _ ⟨rfl, rfl, rfl, rfl, trivial⟩ rfl (show (if true = true then (1 : Int) else if (!within who 0 6) = true then 4 else 0) = 1 by simp)) ?_ ?_
    · exact rfl
    exact And.intro trivial (AVle.refl _)
def An.here (a : An) : Bool := !decide (a.code = 5) && !decide (a.code = 17)
theorem law_ClockOf (s : Fl) (h : FlIn s) (who : Int) (_ : IntKind.i64.min ≤ who ∧ who ≤ IntKind.i64.max) : VFn Tryz.prog 5 [s.av, .int .i64 who] (.bool true) := by
  by_cases hf : (flN s : Int) ≤ 1048576
  · have hs := Fl.small_of hf
    have c1 := specClockOf_fn s hs h.nx who
    have c2 := ClockOf_fn s hs who
    unfold Fl.clockV at c1 c2
    generalize s.ok = b at c1 c2
    generalize within who 0 6 = d at c1 c2
    cases b <;> cases d
    all_goals simp only [if_true, Bool.false_eq_true, if_false] at c1 c2
    all_goals
      refine VFn.introC Tryz.call5 Tryz.func5 rfl rfl ?_
      conv => whnf
      refine CallC.sca _ (szFleet_fn s 1048576 (by decide) (by decide) h) ?_ ?_
      · exact rfl
      rw [szr_yes hf]
      refine Grd.intro (fun h => absurd (of_decide_eq_true h) (by omega)) (fun _ => ?_)
      conv => whnf
      refine CallC.nl _ (toFleet_fn s hs) ?_ ?_
      · exact rfl
      conv => whnf
      refine CallC.sca _ (c1) ?_ ?_
      · exact rfl
      conv => whnf
      refine CallC.nl _ (toFleet_fn s hs) ?_ ?_
      · exact rfl
      conv => whnf
      refine CallC.sca _ (c2) ?_ ?_
      · exact rfl
      conv => whnf
      try refine Grd.intro (fun h => absurd h (by simp)) (fun _ => ?_)
      conv => whnf
      refine DrawC.mk 5 rfl (by kernel_rfl) ?_
      refine PCallC.nl _ (toFleet_fn s hs) rfl ?_
      refine PCallC.sca _ (eqFleet_fn s hs) rfl ?_
      exact And.intro trivial (AVle.refl _)
  · refine VFn.introC Tryz.call5 Tryz.func5 rfl rfl ?_
    conv => whnf
    refine CallC.sca _ (szFleet_fn s 1048576 (by decide) (by decide) h) ?_ ?_
    · exact rfl
    rw [szr_no hf]
    exact And.intro trivial (AVle.refl _)
end Go.Proofs.YtlbnpndednhdaaaGreatDoor
