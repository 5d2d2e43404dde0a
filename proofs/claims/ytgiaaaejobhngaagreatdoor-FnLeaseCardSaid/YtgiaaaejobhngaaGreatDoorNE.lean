/- The law FnLease; the conditions are the theorem's own. -/
import Derived.Test.YtgiaaaejobhngaaGreatDoorND
set_option linter.unusedVariables false
set_option linter.constructorNameAsVariable false
set_option linter.unusedSimpArgs false
set_option maxRecDepth 20000
namespace Go.Proofs.YtgiaaaejobhngaaGreatDoor
open Go Go.Vw

theorem law_Lease (code : List UInt8) (hc : code.length ≤ 9223372036854775807) (more : List UInt8) (hm : more.length ≤ 9223372036854775807) : VFn Tryz.prog 3 [byts code, byts more] (.bool true) := by
  by_cases hL : 1048576 < code.length
  · refine VFn.introC Tryz.call3 Tryz.func3 rfl rfl ?_
    refine Grd.intro (fun _ => ?_) (fun h => absurd (of_decide_eq_false h) (by omega))
    exact And.intro trivial (AVle.refl _)
  by_cases hL2 : 1048576 < more.length
  · refine VFn.introC Tryz.call3 Tryz.func3 rfl rfl ?_
    refine Grd.intro (fun h => absurd (of_decide_eq_true h) (by omega)) (fun _ => ?_)
    refine Grd.intro (fun _ => ?_) (fun h => absurd (of_decide_eq_false h) (by omega))
    exact And.intro trivial (AVle.refl _)
  obtain ⟨t, hO, hO1, hO2⟩ := leased_old (srcOf code) (src_ok code (by omega)) (by omega)
  have cl := LeasedStore_fn code (by omega)
  generalize (srcOf code).leased = s at hO hO1 hO2 cl
  obtain ⟨v0, hv0, c0⟩ := at_fn more 0 50 (by omega) (by omega) (by omega)
  obtain ⟨v1, hv1, c1⟩ := at_fn more 1 27 (by omega) (by omega) (by omega)
  obtain ⟨v2, hv2, c2⟩ := at_fn more 2 9 (by omega) (by omega) (by omega)
  have ht := hO.tk
  -- the first to acquire
  obtain ⟨f1, f2⟩ := old_free hO (now := 100 + v0) (by omega)
  obtain ⟨x1, x2, x3, x4, x5⟩ := acq_free (who := 1) (now := 100 + v0) hO.ok (by omega) (by omega) (by omega) (by omega) (by omega) f1
  have cA := AcquireF s 1 (100 + v0) hO.ok (by omega) (by omega)
  have cS := specAcquire_yes s (rd_of hO.ok) 1 (100 + v0) (ask_of hO.ok (by omega) (by omega))
  rw [x2, x3] at cA cS
  generalize acqS s 1 (100 + v0) = x at x1 x4 x5 cA cS
  rw [f2] at x1 cA cS
  have cL0 := LeaseOf_fn s hO.ok
  have cL1 := LeaseOf_fn x x1.ok
  rw [x1.lea] at cL1
  have cL1 : VFn Tryz.prog 14 [x.av] (.tup [.agg [.int .i64 (t + 1), .int .i64 1, .int .i64 (100 + v0 + 20)], .int .i64 0]) := cL1
  -- the second, too early
  have d1 := held_held x1 (now := 100 + v0 + v1) (show (100 + v0 + 20 : Int) ≠ 0 by omega) (show 100 + v0 + v1 ≤ 100 + v0 + 20 + 6 by omega)
  have cD := AcquireF x 2 (100 + v0 + v1) x1.ok (by omega) (by omega)
  have cDR : acqR x 2 (100 + v0 + v1) = 12 := by unfold acqR; rw [d1, if_neg (by decide)]
  rw [cDR] at cD
  -- the second, behind the end
  have e1 := held_free x1 (now := 100 + v0 + 20 + 6 + 1 + v2) (.inr (show 100 + v0 + 20 + 6 < 100 + v0 + 20 + 6 + 1 + v2 by omega)) (show t + 1 ≤ 1000 + 1 by omega)
  obtain ⟨y1, y2, y3, y4, y5⟩ := acq_free (who := 2) (now := 100 + v0 + 20 + 6 + 1 + v2) x1.ok (by omega) (by omega) (by omega) (by omega) (by rw [x1.lea]; show 0 ≤ t + 1 ∧ t + 1 ≤ 2000; omega) e1
  have cE := AcquireF x 2 (100 + v0 + 20 + 6 + 1 + v2) x1.ok (by omega) (by omega)
  rw [y2, y3] at cE
  generalize acqS x 2 (100 + v0 + 20 + 6 + 1 + v2) = y at y1 y4 y5 cE
  have tx : x.lea.1.tok = t + 1 := by rw [x1.lea]
  rw [tx] at y1 cE
  have cF := RenewF y 1 (t + 1) (100 + v0) y1.ok (by omega) (by omega)
  rw [held_stale y1 (.inl (show (2 : Int) ≠ 1 by decide))] at cF
  have cG := ReleaseF y 1 (t + 1) y1.ok (by omega)
  rw [held_stale y1 (.inl (show (2 : Int) ≠ 1 by decide))] at cG
  -- let go
  have cH := ReleaseF x 1 (t + 1) x1.ok (by omega)
  obtain ⟨z1, z2, z3, z4⟩ := held_chg (til := 0) x1 (show (100 + v0 + 20 : Int) ≠ 0 by omega) (by omega) (by omega) (by omega)
  have z1 : Held (x.chg 1 (t + 1) 0).1 ⟨t + 1, 1, 0⟩ := z1
  have z2 : (x.chg 1 (t + 1) 0).2 = 0 := z2
  have z3 : (x.chg 1 (t + 1) 0).1.next = x.next + 1 := z3
  have z4 : (x.chg 1 (t + 1) 0).1.os.length ≤ x.os.length + 1 := z4
  rw [z2] at cH
  generalize (x.chg 1 (t + 1) 0).1 = z at z1 z3 z4 cH
  have g1 := held_free z1 (now := 100 + v0) (.inl rfl) (show t + 1 ≤ 1000 + 1 by omega)
  obtain ⟨u1, u2, u3, u4, u5⟩ := acq_free (who := 2) (now := 100 + v0) z1.ok (by omega) (by omega) (by omega) (by omega) (by rw [z1.lea]; show 0 ≤ t + 1 ∧ t + 1 ≤ 2000; omega) g1
  have cI := AcquireF z 2 (100 + v0) z1.ok (by omega) (by omega)
  rw [u2, u3] at cI
  generalize acqS z 2 (100 + v0) = u at u1 u4 u5 cI
  have tz : z.lea.1.tok = t + 1 := by rw [z1.lea]
  rw [tz] at cI
  have cO := StoreOK_fn u (by have := (rd_of u1.ok).len; omega) (rd_of u1.ok).key
  rw [u1.ok] at cO
  have hcs : s.lea.2 = 0 ∨ s.lea.2 = 5 := by
    rcases hO.lea with h | h
    · exact .inr h.1
    · exact .inl h.1
  generalize s.lea = sl at hcs f2 cL0
  obtain ⟨o, oc⟩ := sl
  have hcs : oc = 0 ∨ oc = 5 := hcs
  have f2 : o.tok = t := f2
  have cL0 : VFn Tryz.prog 14 [s.av] (.tup [o.av, .int .i64 oc]) := cL0
  rcases hcs with rfl | rfl
  all_goals
    refine VFn.introC Tryz.call3 Tryz.func3 rfl rfl ?_
    refine Grd.intro (fun h => absurd (of_decide_eq_true h) (by omega)) (fun _ => ?_)
    refine Grd.intro (fun h => absurd (of_decide_eq_true h) (by omega)) (fun _ => ?_)
    conv => whnf
    refine CallC.nl _ (cl) ?_ ?_
    · exact rfl
    conv => whnf
    refine CallC.sca _ (c0) ?_ ?_
    · exact rfl
    refine And.intro (inI64 (by omega) (by omega)) ?_
    conv => whnf
    refine CallC.sca _ (cL0) ?_ ?_
    · exact rfl
    conv => whnf
    refine CallC.nl _ (cA) ?_ ?_
    · exact rfl
    conv => whnf
    refine CallC.nl _ (cS) ?_ ?_
    · exact rfl
    conv => whnf
    refine CallC.sca _ (cL1) ?_ ?_
    · exact rfl
    refine DrawC.mkQ 13 [(.inr 10, 11)] rfl (by kernel_rfl) ?_; refine And.intro (by kernel_rfl) ?_
    conv => whnf
    refine PCallQ.sca _ (c1) rfl ?_
    refine And.intro (inI64 (by omega) (by omega)) ?_
    conv => whnf
    refine PCallQ.nl _ (cD) rfl ?_
    conv => whnf
    refine DrawC.mkQ 16 [(.inr 13, 14)] rfl (by kernel_rfl) ?_; refine And.intro (by kernel_rfl) ?_
    refine And.intro (inI64 (by omega) (by omega)) ?_
    refine And.intro (inI64 (by omega) (by omega)) ?_
    refine And.intro (inI64 (by omega) (by omega)) ?_
    conv => whnf
    refine PCallQ.sca _ (c2) rfl ?_
    refine And.intro (inI64 (by omega) (by omega)) ?_
    conv => whnf
    refine PCallQ.nl _ (cE) rfl ?_
    conv => whnf
    conv => whnf
    refine CallC.nl _ (cF) ?_ ?_
    · exact rfl
    conv => whnf
    refine CallC.nl _ (cG) ?_ ?_
    · exact rfl
    conv => whnf
    refine CallC.nl _ (cH) ?_ ?_
    · exact rfl
    conv => whnf
    refine CallC.nl _ (cI) ?_ ?_
    · exact rfl
    conv => whnf
    refine CallC.sca _ (sameStore_fn x (by omega)) ?_ ?_
    · exact rfl
    refine Grd.intro (fun h => absurd h (by simp)) (fun _ => ?_)
    refine Grd.intro (fun h => absurd h (by simp; omega)) (fun _ => ?_)
    refine Grd.intro (fun h => absurd h (by simp)) (fun _ => ?_)
    refine And.intro (inI64 (by omega) (by omega)) ?_
    refine Grd.intro (fun h => absurd h (by simp)) (fun _ => ?_)
    refine And.intro (inI64 (by omega) (by omega)) ?_
    refine Grd.intro (fun _ => ?_) (fun h => absurd h (by simp))
    refine And.intro (inI64 (by omega) (by omega)) ?_
    refine Grd.intro (fun _ => ?_) (fun h => absurd h (by simp))
    conv => whnf
    refine CallC.sca _ (cO) ?_ ?_
    · exact rfl
    exact And.intro trivial (AVle.refl _)
end Go.Proofs.YtgiaaaejobhngaaGreatDoor
