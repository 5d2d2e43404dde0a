/- laws.FnExactStateLines. The conditions are the theorem's own. -/
import Derived.Test.YtopkjoalbinljaaGreatDoorHG
set_option linter.unusedVariables false
set_option linter.unusedSimpArgs false
set_option maxRecDepth 20000
namespace Go.Proofs.YtopkjoalbinljaaGreatDoor
open Go Go.Vw

theorem law_StateLines (s : Sta) (h : s.read) : VFn Tryz.prog 5 [s.av] (.bool true) := by
  refine VFn.introC Tryz.call5 Tryz.func5 rfl rfl ?_
  conv => whnf
  refine CallC.sca _ (szState_fn s 1048576 (by decide) (by decide) h) ?_ ?_
  · exact rfl
  by_cases hl : (s.size : Int) ≤ 1048576
  case neg =>
    rw [szr_no hl]
    exact And.intro trivial (AVle.refl _)
  rw [szr_yes hl]
  obtain ⟨m1, m2, m3, m4⟩ := Sta.small hl
  have b1 : s.es.length ≤ 1000000000 := by omega
  have b2 : s.ts.length ≤ 1000000000 := by omega
  have b3 : ∀ e ∈ s.es, e.key.length ≤ 1000000000 := fun e he => Nat.le_trans (m3 e he) (by decide)
  have b4 : ∀ e ∈ s.ts, e.key.length ≤ 1000000000 := fun e he => Nat.le_trans (m4 e he) (by decide)
  refine Grd.intro (fun h2 => absurd (of_decide_eq_true h2) (by omega)) (fun _ => ?_)
  conv => whnf
  refine CallC.nl _ (toState_fn s m1 m2) ?_ ?_
  · exact rfl
  by_cases hok : s.ok = true
  · conv => whnf
    refine CallC.nl _ (specStateLines_ok s b1 b2 b3 b4 hok) ?_ ?_
    · exact rfl
    conv => whnf
    refine CallC.k [] (toState_own s m1 m2) rfl rfl (AVsle.refl _) trivial rfl ?_
    conv => whnf
    refine CallC.m [] (StateLines_own s b1 b2 hok) rfl rfl (AVsle.refl _) trivial rfl ⟨fun i hi => rfl, trivial⟩ rfl ?_
    conv => whnf
    refine CallC.sca _ (eqStringS_fn s.ls (show 4 ≤ 1048576 by decide)) ?_ ?_
    · exact rfl
    refine DrawC.mk 5 rfl (by kernel_rfl) ?_
    refine PCallC.nl _ (toState_fn s m1 m2) rfl ?_
    refine PCallC.sca _ (eqState_fn s m1 m2) rfl ?_
    conv => whnf
    refine CallC.k [(1, 0), (2, 1)] (markState_fn s s.es.length s.ts.length _ _ m1 m2 1 (by omega)) rfl rfl (AVsle.refl _) ⟨MOle.refl _, MOle.refl _, trivial⟩ rfl ?_
    conv => whnf
    refine CallC.sca _ (eqStringS_fn s.ls (show 4 ≤ 1048576 by decide)) ?_ ?_
    · exact rfl
    conv => whnf
    refine CallC.k [(4, 0)] (markStringS_fn s.ls (show 4 ≤ 1048576 by decide) 1 (by omega)) rfl rfl (AVsle.refl _) ⟨MOle.refl _, trivial⟩ rfl ?_
    conv => whnf
    refine CallC.sca _ (heldStringS_fn 4 (by decide) 1 (by omega)) ?_ ?_
    · exact rfl
    conv => whnf
    refine CallC.nl _ (toState_fn s m1 m2) ?_ ?_
    · exact rfl
    conv => whnf
    refine CallC.m [] (StateLines_own s b1 b2 hok) rfl rfl (AVsle.refl _) trivial rfl ⟨fun i hi => rfl, trivial⟩ rfl ?_
    conv => whnf
    refine CallC.sca _ (eqStringS_fn s.ls (show 4 ≤ 1048576 by decide)) ?_ ?_
    · exact rfl
    conv => whnf
    refine CallC.sca _ (heldStringS_fn 4 (by decide) 1 (by omega)) ?_ ?_
    · exact rfl
    exact And.intro trivial (AVle.refl _)
  · have hok : s.ok = false := by simpa using hok
    conv => whnf
    refine CallC.nl _ (specStateLines_bad s b1 b2 b3 b4 hok) ?_ ?_
    · exact rfl
    conv => whnf
    refine CallC.k [] (toState_own s m1 m2) rfl rfl (AVsle.refl _) trivial rfl ?_
    conv => whnf
    refine CallC.sca _ (StateLines_bad s b1 b2 hok) ?_ ?_
    · exact rfl
    conv => whnf
    refine CallC.sca _ (eqNil_fn) ?_ ?_
    · exact rfl
    refine DrawC.mk 5 rfl (by kernel_rfl) ?_
    refine PCallC.nl _ (toState_fn s m1 m2) rfl ?_
    refine PCallC.sca _ (eqState_fn s m1 m2) rfl ?_
    conv => whnf
    refine CallC.k [(1, 0), (2, 1)] (markState_fn s s.es.length s.ts.length _ _ m1 m2 1 (by omega)) rfl rfl (AVsle.refl _) ⟨MOle.refl _, MOle.refl _, trivial⟩ rfl ?_
    conv => whnf
    refine CallC.sca _ (eqNil_fn) ?_ ?_
    · exact rfl
    conv => whnf
    refine CallC.sca _ (markNil_fn 1) ?_ ?_
    · exact rfl
    conv => whnf
    refine CallC.sca _ (heldNil_fn 1) ?_ ?_
    · exact rfl
    conv => whnf
    refine CallC.nl _ (toState_fn s m1 m2) ?_ ?_
    · exact rfl
    conv => whnf
    refine CallC.sca _ (StateLines_bad s b1 b2 hok) ?_ ?_
    · exact rfl
    conv => whnf
    refine CallC.sca _ (eqNil_fn) ?_ ?_
    · exact rfl
    conv => whnf
    refine CallC.sca _ (heldNil_fn 1) ?_ ?_
    · exact rfl
    exact And.intro trivial (AVle.refl _)
end Go.Proofs.YtopkjoalbinljaaGreatDoor
