/- The law FnRenew; the conditions are the theorem's own. -/
import Derived.Test.YtgiaaaejobhngaaGreatDoorND
import Derived.Test.YtgiaaaejobhngaaGreatDoorQ7
set_option linter.unusedVariables false
set_option linter.constructorNameAsVariable false
set_option linter.unusedSimpArgs false
set_option maxRecDepth 20000
namespace Go.Proofs.YtgiaaaejobhngaaGreatDoor
open Go Go.Vw

theorem LeaseText_ok (l : Lea) (h : l.ok = true) : VFn Tryz.prog 22 [l.av] (.tup [.str (B l.text), .int .i64 0]) := by
  have c := LeaseOK_fn l
  rw [h] at c
  have lb : ∀ x ∈ [l.tok, l.who, l.til], -9223372036854775807 ≤ x ∧ x ≤ 9223372036854775807 := by
    simp only [Lea.ok, within, Bool.and_eq_true, decide_eq_true_eq] at h
    intro x hx
    simp at hx
    rcases hx with rfl | rfl | rfl <;> omega
  refine VFn.introC Tryz.call22 Tryz.func22 rfl rfl ?_
  conv => whnf
  refine CallC.sca _ (c) ?_ ?_
  · exact rfl
  conv => whnf
  refine CallC.sca _ (leaText_fn l lb) ?_ ?_
  · exact rfl
  exact And.intro trivial (AVle.refl _)
theorem ReadLease_ok (l : Lea) (h : l.ok = true) : VFn Tryz.prog 23 [.str (B l.text)] (.tup [l.av, .int .i64 0]) := by
  have lb : ∀ x ∈ [l.tok, l.who, l.til], -9223372036854775807 ≤ x ∧ x ≤ 9223372036854775807 := by
    have h := h
    simp only [Lea.ok, within, Bool.and_eq_true, decide_eq_true_eq] at h
    intro x hx
    simp at hx
    rcases hx with rfl | rfl | rfl <;> omega
  have hl := Lea.text_len l lb
  refine VFn.introC Tryz.call23 Tryz.func23 rfl rfl ?_
  refine CallC.sca (.bool false) ((isLong_fn [l.text] (show 1 ≤ _ by decide)).weak (AVsle.cons (AVle.sl1 rfl) AVsle.nil) (AVle.of_eq ?_)) ?_ ?_
  · congr 1; simp; omega
  · exact rfl
  conv => whnf
  refine CallC.sca _ (readLease_yes l.text (by omega) (leaText_back h)) ?_ ?_
  · exact rfl
  exact And.intro trivial (AVle.refl _)
theorem law_Renew2 (code : List UInt8) (hc : code.length ≤ 9223372036854775807) (more : List UInt8) (hm : more.length ≤ 9223372036854775807) : VFn Tryz.prog 4 [byts code, byts more] (.bool true) := by
  by_cases hL : 1048576 < code.length
  · refine VFn.introC Tryz.call4 Tryz.func4 rfl rfl ?_
    refine Grd.intro (fun _ => ?_) (fun h => absurd (of_decide_eq_false h) (by omega))
    exact And.intro trivial (AVle.refl _)
  by_cases hL2 : 1048576 < more.length
  · refine VFn.introC Tryz.call4 Tryz.func4 rfl rfl ?_
    refine Grd.intro (fun h => absurd (of_decide_eq_true h) (by omega)) (fun _ => ?_)
    refine Grd.intro (fun _ => ?_) (fun h => absurd (of_decide_eq_false h) (by omega))
    exact And.intro trivial (AVle.refl _)
  obtain ⟨t, hO, hO1, hO2⟩ := leased_old (srcOf code) (src_ok code (by omega)) (by omega)
  have cl := LeasedStore_fn code (by omega)
  generalize (srcOf code).leased = s at hO hO1 hO2 cl
  obtain ⟨v0, hv0, c0⟩ := at_fn more 0 50 (by omega) (by omega) (by omega)
  have ht := hO.tk
  -- acquired
  obtain ⟨f1, f2⟩ := old_free hO (now := 100 + v0) (by omega)
  obtain ⟨x1, x2, x3, x4, x5⟩ := acq_free (who := 3) (now := 100 + v0) hO.ok (by omega) (by omega) (by omega) (by omega) (by omega) f1
  have cA := AcquireF s 3 (100 + v0) hO.ok (by omega) (by omega)
  rw [x2, x3] at cA
  generalize acqS s 3 (100 + v0) = x at x1 x4 x5 cA
  rw [f2] at x1 cA
  -- renewed
  have cB := RenewF x 3 (t + 1) (100 + v0 + 15) x1.ok (by omega) (by omega)
  have cS := specRenew_yes x (rd_of x1.ok) 3 (t + 1) (100 + v0 + 15) (ask_of x1.ok (by omega) (by omega))
  obtain ⟨y1, y2, y3, y4⟩ := held_chg (til := 100 + v0 + 15 + 20) x1 (show (100 + v0 + 20 : Int) ≠ 0 by omega) (by omega) (by omega) (by omega)
  have y1 : Held (x.chg 3 (t + 1) (100 + v0 + 15 + 20)).1 ⟨t + 1, 3, 100 + v0 + 15 + 20⟩ := y1
  have y2 : (x.chg 3 (t + 1) (100 + v0 + 15 + 20)).2 = 0 := y2
  have y3 : (x.chg 3 (t + 1) (100 + v0 + 15 + 20)).1.next = x.next + 1 := y3
  have y4 : (x.chg 3 (t + 1) (100 + v0 + 15 + 20)).1.os.length ≤ x.os.length + 1 := y4
  rw [y2] at cB cS
  generalize (x.chg 3 (t + 1) (100 + v0 + 15 + 20)).1 = y at y1 y3 y4 cB cS
  have cL := LeaseOf_fn y y1.ok
  rw [y1.lea] at cL
  have cL : VFn Tryz.prog 14 [y.av] (.tup [.agg [.int .i64 (t + 1), .int .i64 3, .int .i64 (100 + v0 + 15 + 20)], .int .i64 0]) := cL
  -- another one, too early
  have e1 := held_held y1 (now := 100 + v0 + 15 + 20) (show (100 + v0 + 15 + 20 : Int) ≠ 0 by omega) (show 100 + v0 + 15 + 20 ≤ 100 + v0 + 15 + 20 + 6 by omega)
  have cE := AcquireF y 2 (100 + v0 + 15 + 20) y1.ok (by omega) (by omega)
  have cER : acqR y 2 (100 + v0 + 15 + 20) = 12 := by unfold acqR; rw [e1, if_neg (by decide)]
  rw [cER] at cE
  have cF := RenewF y 2 (t + 1) (100 + v0) y1.ok (by omega) (by omega)
  rw [held_stale y1 (.inl (show (3 : Int) ≠ 2 by decide))] at cF
  -- its text
  have cT := LeaseText_ok ⟨t + 1, 3, 100 + v0 + 15 + 20⟩ y1.lok
  have cR := ReadLease_ok ⟨t + 1, 3, 100 + v0 + 15 + 20⟩ y1.lok
  have cO := LeaseOK_fn ⟨t + 1, 3, 100 + v0 + 15 + 20⟩
  rw [y1.lok] at cO
  refine VFn.introC Tryz.call4 Tryz.func4 rfl rfl ?_
  refine Grd.intro (fun h => absurd (of_decide_eq_true h) (by omega)) (fun _ => ?_)
  refine Grd.intro (fun h => absurd (of_decide_eq_true h) (by omega)) (fun _ => ?_)
  conv => whnf
  refine CallC.nl _ (cl) ?_ ?_
  · exact rfl
  conv => whnf
  refine CallC.sca _ (c0) ?_ ?_
  · exact rfl
  refine And.intro (inI64 (by omega) (by omega)) ?_
  conv => whnf
  refine CallC.nl _ (cA) ?_ ?_
  · exact rfl
  refine And.intro (inI64 (by omega) (by omega)) ?_
  conv => whnf
  refine CallC.nl _ (cB) ?_ ?_
  · exact rfl
  refine And.intro (inI64 (by omega) (by omega)) ?_
  conv => whnf
  refine CallC.nl _ (cS) ?_ ?_
  · exact rfl
  conv => whnf
  refine CallC.sca _ (cL) ?_ ?_
  · exact rfl
  refine And.intro (inI64 (by omega) (by omega)) ?_
  refine And.intro (inI64 (by omega) (by omega)) ?_
  conv => whnf
  refine CallC.nl _ (cE) ?_ ?_
  · exact rfl
  conv => whnf
  refine CallC.nl _ (cF) ?_ ?_
  · exact rfl
  conv => whnf
  refine CallC.sca _ (cT) ?_ ?_
  · exact rfl
  conv => whnf
  refine CallC.sca _ (cR) ?_ ?_
  · exact rfl
  conv => whnf
  refine CallC.sca _ (sameStore_fn y (by omega)) ?_ ?_
  · exact rfl
  refine And.intro (inI64 (by omega) (by omega)) ?_
  refine And.intro (inI64 (by omega) (by omega)) ?_
  refine And.intro (by kernel_rfl) ?_
  refine Grd.intro (fun _ => ?_) (fun h => absurd h (by simp))
  refine And.intro (by kernel_rfl) ?_
  refine Grd.intro (fun _ => ?_) (fun h => absurd h (by simp))
  conv => whnf
  refine CallC.sca _ (cO) ?_ ?_
  · exact rfl
  exact And.intro trivial (AVle.refl _)
end Go.Proofs.YtgiaaaejobhngaaGreatDoor
