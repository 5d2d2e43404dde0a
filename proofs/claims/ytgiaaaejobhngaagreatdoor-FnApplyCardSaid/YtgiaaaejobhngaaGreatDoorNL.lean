/- The law FnApply; the conditions are the theorem's own. -/
import Derived.Test.YtgiaaaejobhngaaGreatDoorNK
set_option linter.unusedVariables false
set_option linter.constructorNameAsVariable false
set_option linter.unusedSimpArgs false
set_option maxRecDepth 20000
namespace Go.Proofs.YtgiaaaejobhngaaGreatDoor
open Go Go.Vw

theorem law_Apply (code : List UInt8) (hc : code.length ≤ 9223372036854775807) (more : List UInt8) (hm : more.length ≤ 9223372036854775807) : VFn Tryz.prog 10 [byts code, byts more] (.bool true) := by
  by_cases hL : 1048576 < code.length
  · refine VFn.introC Tryz.call10 Tryz.func10 rfl rfl ?_
    refine Grd.intro (fun _ => ?_) (fun h => absurd (of_decide_eq_false h) (by omega))
    exact And.intro trivial (AVle.refl _)
  by_cases hL2 : 1048576 < more.length
  · refine VFn.introC Tryz.call10 Tryz.func10 rfl rfl ?_
    refine Grd.intro (fun h => absurd (of_decide_eq_true h) (by omega)) (fun _ => ?_)
    refine Grd.intro (fun _ => ?_) (fun h => absurd (of_decide_eq_false h) (by omega))
    exact And.intro trivial (AVle.refl _)
  obtain ⟨x, hx, cx⟩ := StateDrawn_fn code (by omega)
  obtain ⟨r, hr, _, cr⟩ := RecordFor_fn more (by omega) hx (by omega)
  have c1 := specRecordOK_fn r (by omega)
  have c2 := RecordOK_fn r
  by_cases ho : r.ok = true
  · rw [ho] at c1 c2
    have c3 := ApplyRecordF x r hx (by omega) ho
    have c4 := specApplyRecordF x r hx (by omega) ho
    obtain ⟨k1, k2, k3, k4⟩ := hx
    have hO := (staOK_iff x).1 k1
    have hl := appL_len x r
    have hq := app_seq x r
    have c5 := sameState_fn (x.app r) (by omega) (by omega)
    have c6 := StateOK_fn (x.app r) (by omega) (by omega)
    rw [(staOK_iff _).2 (app_staOK hO ho (by omega) (by omega))] at c6
    have hb := hO.q
    by_cases ht : x.takes r = true
    · rw [ht] at c3 c4
      generalize x.app r = y at c3 c4 c5 c6 hl hq
      refine VFn.introC Tryz.call10 Tryz.func10 rfl rfl ?_
      refine Grd.intro (fun h => absurd (of_decide_eq_true h) (by omega)) (fun _ => ?_)
      refine Grd.intro (fun h => absurd (of_decide_eq_true h) (by omega)) (fun _ => ?_)
      conv => whnf
      refine CallC.nl _ (cx) ?_ ?_
      · exact rfl
      conv => whnf
      refine CallC.nl _ (cr) ?_ ?_
      · exact rfl
      conv => whnf
      refine CallC.sca _ (c1) ?_ ?_
      · exact rfl
      conv => whnf
      refine CallC.nl _ (c3) ?_ ?_
      · exact rfl
      conv => whnf
      refine CallC.nl _ (c4) ?_ ?_
      · exact rfl
      conv => whnf
      refine OpC.bneq rfl rfl rfl rfl rfl ?_
      conv => whnf
      refine CallC.nl _ (c5) ?_ ?_
      · exact rfl
      conv => whnf
      refine CallC.nl _ (c6) ?_ ?_
      · exact rfl
      refine And.intro (inI64 (by omega) (by omega)) ?_
      refine Grd.intro (fun h => absurd h (by simp [hq])) (fun _ => ?_)
      exact And.intro trivial (AVle.refl _)
    · have e : x.app r = x.tick := if_neg ht
      rw [show x.takes r = false by simpa using ht] at c3 c4
      rw [e] at c3 c4 c5 c6
      have c7 := sameState_fn x (by omega) (by omega)
      have c8 := SameState_fn x (by omega) (by omega)
      refine VFn.introC Tryz.call10 Tryz.func10 rfl rfl ?_
      refine Grd.intro (fun h => absurd (of_decide_eq_true h) (by omega)) (fun _ => ?_)
      refine Grd.intro (fun h => absurd (of_decide_eq_true h) (by omega)) (fun _ => ?_)
      conv => whnf
      refine CallC.nl _ (cx) ?_ ?_
      · exact rfl
      conv => whnf
      refine CallC.nl _ (cr) ?_ ?_
      · exact rfl
      conv => whnf
      refine CallC.sca _ (c1) ?_ ?_
      · exact rfl
      conv => whnf
      refine CallC.nl _ (c3) ?_ ?_
      · exact rfl
      conv => whnf
      refine CallC.nl _ (c4) ?_ ?_
      · exact rfl
      conv => whnf
      refine OpC.bneq rfl rfl rfl rfl rfl ?_
      conv => whnf
      refine CallC.nl _ (c5) ?_ ?_
      · exact rfl
      conv => whnf
      refine CallC.nl _ (c6) ?_ ?_
      · exact rfl
      refine And.intro (inI64 (by omega) (by omega)) ?_
      refine Grd.intro (fun h => absurd h (by simp [Sta.tick])) (fun _ => ?_)
      conv => whnf
      refine CallC.nl _ (c7) ?_ ?_
      · exact rfl
      conv => whnf
      refine CallC.nl _ (c8) ?_ ?_
      · exact rfl
      exact And.intro trivial (AVle.refl _)
  · rw [show r.ok = false by simpa using ho] at c1 c2
    refine VFn.introC Tryz.call10 Tryz.func10 rfl rfl ?_
    refine Grd.intro (fun h => absurd (of_decide_eq_true h) (by omega)) (fun _ => ?_)
    refine Grd.intro (fun h => absurd (of_decide_eq_true h) (by omega)) (fun _ => ?_)
    conv => whnf
    refine CallC.nl _ (cx) ?_ ?_
    · exact rfl
    conv => whnf
    refine CallC.nl _ (cr) ?_ ?_
    · exact rfl
    conv => whnf
    refine CallC.sca _ (c1) ?_ ?_
    · exact rfl
    conv => whnf
    refine CallC.sca _ (c2) ?_ ?_
    · exact rfl
    exact And.intro trivial (AVle.refl _)
end Go.Proofs.YtgiaaaejobhngaaGreatDoor
