/- Contracts of functions that the claim reaches, and the plain law of what they compute; each theorem bears its own conditions. -/
import Derived.Test.YtlbnpndednhdaaaGreatDoorQ5
import Derived.Test.YtlbnpndednhdaaaGreatDoorQ3
set_option linter.unusedVariables false
set_option linter.constructorNameAsVariable false
set_option linter.unusedSimpArgs false
set_option maxRecDepth 20000
namespace Go.Proofs.YtlbnpndednhdaaaGreatDoor
open Go Go.Vw

theorem FlIn.nx {s : Fl} (h : FlIn s) : -9223372036854775808 ≤ s.st.next ∧ s.st.next ≤ 9223372036854775807 := by
  have := h.st.nxt
  exact this
def Fl.skew (s : Fl) (i : Int) : Int := if i = 0 then s.k0 else if i = 1 then s.k1 else if i = 2 then s.k2 else if i = 3 then s.k3 else if i = 4 then s.k4 else if i = 5 then s.k5 else s.k6
def Fl.clockV (s : Fl) (who : Int) : AV := if s.ok = true then if within who 0 6 = true then .tup [.int .i64 (s.clk + s.skew who), .int .i64 0] else .tup [.int .i64 0, .int .i64 4] else .tup [.int .i64 0, .int .i64 1]
def An.here (a : An) : Bool := !decide (a.code = 5) && !decide (a.code = 17)
theorem NothingGone1_fn (a : An) : VFn Tryz.prog 86 [a.av] (.bool a.here) := by
  refine VFn.introC Tryz.call86 Tryz.func86 rfl rfl ?_
  repeat' (conv => whnf
           first
             | (refine Grd.intro (fun h => ?_) (fun h => ?_); rotate_left; focus (exfalso; simp_all; done))
             | (refine Grd.intro (fun h => ?_) (fun h => ?_); focus (exfalso; simp_all; done))
             | refine Grd.intro (fun h => ?_) (fun h => ?_)
             | (refine And.intro trivial (AVle.of_eq (congrArg AV.bool ?_)); focus (simp_all [An.here]; done))
             | (refine And.intro trivial (AVle.of_eq (congrArg AV.bool ?_)); focus (simp only [An.here, *, cond_true, cond_false, Bool.true_and, Bool.and_true, Bool.false_and, Bool.and_false, Bool.not_true, Bool.not_false, Bool.true_or, Bool.or_true, Bool.false_or, Bool.or_false, if_true, ite_true, reduceIte]; done))
             | (refine And.intro trivial (AVle.of_eq (congrArg AV.bool ?_)); focus (simp_all [An.here]; intros; omega))
             | (refine And.intro trivial (AVle.of_eq (congrArg AV.bool ?_)); focus (simp only [cond_true, cond_false, Bool.not_eq_true', Bool.not_eq_false'] at *; simp only [An.here, *, cond_true, cond_false, Bool.true_and, Bool.and_true, Bool.false_and, Bool.and_false, Bool.not_true, Bool.not_false, Bool.true_or, Bool.or_true, Bool.false_or, Bool.or_false, if_true, ite_true, reduceIte]; done))
             | fail)
theorem NothingGone_fn (s : Fl) (hS : s.small) : VFn Tryz.prog 18 [s.av] (.tup [.bool (s.ok && s.an.all An.here), .int .i64 (if s.ok then 0 else 1)]) := by
  have c := FleetOK_fn s hS
  have hA := hS.an
  by_cases ho : s.ok = true
  · rw [ho] at c ⊢
    refine VFn.introC Tryz.call18 Tryz.func18 rfl rfl ?_
    conv => whnf
    refine CallC.sca _ (c) ?_ ?_
    · exact rfl
    conv => whnf
    refine CallC.sca _ (allAn_fn s.an (by omega) 86 An.here (fun e _ => NothingGone1_fn e)) ?_ ?_
    · exact rfl
    exact And.intro trivial (AVle.refl _)
  · have ho : s.ok = false := by simpa using ho
    rw [ho] at c ⊢
    refine VFn.introC Tryz.call18 Tryz.func18 rfl rfl ?_
    conv => whnf
    refine CallC.sca _ (c) ?_ ?_
    · exact rfl
    exact And.intro trivial (AVle.refl _)
theorem specNothingGone_fn (s : Fl) (hS : s.small) (hI : -9223372036854775808 ≤ s.st.next ∧ s.st.next ≤ 9223372036854775807) : VFn Tryz.prog 17 [s.av] (.tup [.bool (s.ok && s.an.all An.here), .int .i64 (if s.ok then 0 else 1)]) := by
  have c := specFleetOK_fn s hS hI
  have hA := hS.an
  by_cases ho : s.ok = true
  · rw [ho] at c ⊢
    refine VFn.introC Tryz.call17 Tryz.func17 rfl rfl ?_
    conv => whnf
    refine CallC.sca _ (c) ?_ ?_
    · exact rfl
    refine LoopC.mk (fun i : Nat => i ≤ s.an.length ∧ ∀ j, j < i → An.here (ix s.an j) = true) (fun i => [(1, .bptr 0 0), (4, .int .i64 i)]) (fun i => [(0, .box s.row)]) 1 (fun i => s.an.length - i) 0
      ⟨⟨Nat.zero_le _, fun j hj => absurd hj (Nat.not_lt_zero j)⟩, [(0, 0)], rfl, rfl, ⟨AVle.refl _, AVle.refl _, trivial⟩, ⟨MOle.refl _, trivial⟩⟩ ?_
    intro i hi
    obtain ⟨hi, h0⟩ := hi
    refine Grd.intro (fun g => ?_) (fun g => ?_)
    · have hin : i < s.an.length := by have := of_decide_eq_true g; omega
      by_cases ha : An.here (ix s.an i) = true
      · have ha2 := ha
        simp only [An.here, Bool.and_eq_true] at ha2
        obtain ⟨a1, a2⟩ := ha2
        repeat' (conv => whnf
                 first
                   | (refine Grd.intro (fun h => ?_) (fun h => ?_); rotate_left; focus (exfalso; simp_all; done))
                   | (refine Grd.intro (fun h => ?_) (fun h => ?_); focus (exfalso; simp_all; done))
                   | refine Grd.intro (fun h => ?_) (fun h => ?_)
                   | (refine And.intro trivial (AVle.of_eq (congrArg AV.bool ?_)); focus (simp_all [An.here]; done))
                   | (refine And.intro trivial (AVle.of_eq (congrArg AV.bool ?_)); focus (simp only [An.here, *, cond_true, cond_false, Bool.true_and, Bool.and_true, Bool.false_and, Bool.and_false, Bool.not_true, Bool.not_false, Bool.true_or, Bool.or_true, Bool.false_or, Bool.or_false, if_true, ite_true, reduceIte]; done))
                   | (refine And.intro trivial (AVle.of_eq (congrArg AV.bool ?_)); focus (simp_all [An.here]; intros; omega))
                   | (refine And.intro trivial (AVle.of_eq (congrArg AV.bool ?_)); focus (simp only [cond_true, cond_false, Bool.not_eq_true', Bool.not_eq_false'] at *; simp only [An.here, *, cond_true, cond_false, Bool.true_and, Bool.and_true, Bool.false_and, Bool.and_false, Bool.not_true, Bool.not_false, Bool.true_or, Bool.or_true, Bool.false_or, Bool.or_false, if_true, ite_true, reduceIte]; done))
                   | refine And.intro (by omega) ?_
                   | refine And.intro (inI64 (by omega) (by omega)) ?_
                   | exact ⟨i + 1, ⟨hin, fun j hj => by
                      rcases Nat.lt_or_ge j i with h' | h'
                      · exact h0 j h'
                      · rw [show j = i by omega]; exact ha⟩, by omega, [(0, 0)], rfl, rfl, ⟨AVle.refl _, AVle.of_eq (congrArg (AV.int .i64) (by simp)), trivial⟩, ⟨MOle.refl _, trivial⟩⟩
                   | fail)
      · have ha : An.here (ix s.an i) = false := by simpa using ha
        rw [all_bad hin ha]
        simp only [An.here, Bool.and_eq_false_iff] at ha
        clear h0
        repeat' (conv => whnf
                 first
                   | (refine Grd.intro (fun h => ?_) (fun h => ?_); rotate_left; focus (exfalso; simp_all; done))
                   | (refine Grd.intro (fun h => ?_) (fun h => ?_); focus (exfalso; simp_all; done))
                   | refine Grd.intro (fun h => ?_) (fun h => ?_)
                   | (refine And.intro trivial (AVle.of_eq (congrArg AV.bool ?_)); focus (simp_all [An.here]; done))
                   | (refine And.intro trivial (AVle.of_eq (congrArg AV.bool ?_)); focus (simp only [An.here, *, cond_true, cond_false, Bool.true_and, Bool.and_true, Bool.false_and, Bool.and_false, Bool.not_true, Bool.not_false, Bool.true_or, Bool.or_true, Bool.false_or, Bool.or_false, if_true, ite_true, reduceIte]; done))
                   | (refine And.intro trivial (AVle.of_eq (congrArg AV.bool ?_)); focus (simp_all [An.here]; intros; omega))
                   | (refine And.intro trivial (AVle.of_eq (congrArg AV.bool ?_)); focus (simp only [cond_true, cond_false, Bool.not_eq_true', Bool.not_eq_false'] at *; simp only [An.here, *, cond_true, cond_false, Bool.true_and, Bool.and_true, Bool.false_and, Bool.and_false, Bool.not_true, Bool.not_false, Bool.true_or, Bool.or_true, Bool.false_or, Bool.or_false, if_true, ite_true, reduceIte]; done))
                   | refine And.intro (by omega) ?_
                   | (refine And.intro trivial (AVle.refl _); done)
                   | fail)
    · have : i = s.an.length := by have := of_decide_eq_false g; omega
      subst this
      rw [all_pre h0]
      exact And.intro trivial (AVle.refl _)
  · have ho : s.ok = false := by simpa using ho
    rw [ho] at c ⊢
    refine VFn.introC Tryz.call17 Tryz.func17 rfl rfl ?_
    conv => whnf
    refine CallC.sca _ (c) ?_ ?_
    · exact rfl
    exact And.intro trivial (AVle.refl _)
theorem law_NothingGone (s : Fl) (h : FlIn s) : VFn Tryz.prog 4 [s.av] (.bool true) := by
  by_cases hf : (flN s : Int) ≤ 1048576
  · have hs := Fl.small_of hf
    have c1 := specNothingGone_fn s hs h.nx
    have c2 := NothingGone_fn s hs
    generalize s.ok = b at c1 c2
    generalize s.an.all An.here = d at c1 c2
    cases b <;> cases d
    all_goals
      refine VFn.introC Tryz.call4 Tryz.func4 rfl rfl ?_
      conv => whnf
      refine CallC.sca _ (szFleet_fn s 1048576 (by decide) (by decide) h) ?_ ?_
      · exact rfl
      rw [szr_yes hf]
      refine Grd.intro (fun h => absurd (of_decide_eq_true h) (by omega)) (fun _ => ?_)
      conv => whnf
      refine CallC.nl _ (toFleet_fn s hs) ?_ ?_
      · exact rfl
      conv => whnf
      refine CallC.sca _ (c1) ?_ ?_
      · exact rfl
      conv => whnf
      refine CallC.nl _ (toFleet_fn s hs) ?_ ?_
      · exact rfl
      conv => whnf
      refine CallC.sca _ (c2) ?_ ?_
      · exact rfl
      conv => whnf
      refine OpC.bneq rfl rfl rfl rfl rfl ?_
      conv => whnf
      refine DrawC.mk 5 rfl (by kernel_rfl) ?_
      refine PCallC.nl _ (toFleet_fn s hs) rfl ?_
      refine PCallC.sca _ (eqFleet_fn s hs) rfl ?_
      exact And.intro trivial (AVle.refl _)
  · refine VFn.introC Tryz.call4 Tryz.func4 rfl rfl ?_
    conv => whnf
    refine CallC.sca _ (szFleet_fn s 1048576 (by decide) (by decide) h) ?_ ?_
    · exact rfl
    rw [szr_no hf]
    exact And.intro trivial (AVle.refl _)
end Go.Proofs.YtlbnpndednhdaaaGreatDoor
