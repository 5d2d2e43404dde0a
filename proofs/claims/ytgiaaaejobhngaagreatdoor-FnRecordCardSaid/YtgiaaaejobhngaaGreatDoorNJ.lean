/- The law FnRecord; the conditions are the theorem's own. -/
import Derived.Test.YtgiaaaejobhngaaGreatDoorNH
import Derived.Test.YtgiaaaejobhngaaGreatDoorNI
import Derived.Test.YtgiaaaejobhngaaGreatDoorQ2
set_option linter.unusedVariables false
set_option linter.constructorNameAsVariable false
set_option linter.unusedSimpArgs false
set_option maxRecDepth 20000
namespace Go.Proofs.YtgiaaaejobhngaaGreatDoor
open Go Go.Vw

theorem law_Record (code : List UInt8) (hc : code.length ≤ 9223372036854775807) (more : List UInt8) (hm : more.length ≤ 9223372036854775807) : VFn Tryz.prog 9 [byts code, byts more] (.bool true) := by
  by_cases hL : 1048576 < code.length
  · refine VFn.introC Tryz.call9 Tryz.func9 rfl rfl ?_
    refine Grd.intro (fun _ => ?_) (fun h => absurd (of_decide_eq_false h) (by omega))
    exact And.intro trivial (AVle.refl _)
  by_cases hL2 : 1048576 < more.length
  · refine VFn.introC Tryz.call9 Tryz.func9 rfl rfl ?_
    refine Grd.intro (fun h => absurd (of_decide_eq_true h) (by omega)) (fun _ => ?_)
    refine Grd.intro (fun _ => ?_) (fun h => absurd (of_decide_eq_false h) (by omega))
    exact And.intro trivial (AVle.refl _)
  obtain ⟨x, hx, cx⟩ := StateDrawn_fn code (by omega)
  obtain ⟨r, hr, _, cr⟩ := RecordFor_fn more (by omega) hx (by omega)
  have c1 := RecordText_fn r
  have c2 := specRecordText_fn r (by omega)
  have c3 := RecordOK_fn r
  by_cases ho : r.ok = true
  · have hk := (Rc.okN ho).2
    have hh := Rc.head_len ho
    have hl : r.text.length ≤ 300 := by unfold Rc.text; simp only [List.length_append, List.length_cons, List.length_nil]; omega
    have e1 : r.res = r.text := if_pos ho
    have e2 : r.code = 0 := if_pos ho
    rw [e1, e2] at c1 c2
    rw [ho] at c3
    have c4 := ReadRecord_yes r.text (by omega) (text_back ho)
    have c5 := ReadRecord_no (r.text ++ [32, 120]) (by simp; omega) (text_more ho)
    rw [← B_app] at c5
    refine VFn.introC Tryz.call9 Tryz.func9 rfl rfl ?_
    refine Grd.intro (fun h => absurd (of_decide_eq_true h) (by omega)) (fun _ => ?_)
    refine Grd.intro (fun h => absurd (of_decide_eq_true h) (by omega)) (fun _ => ?_)
    conv => whnf
    refine CallC.nl _ (cx) ?_ ?_
    · exact rfl
    conv => whnf
    refine CallC.nl _ (cr) ?_ ?_
    · exact rfl
    conv => whnf
    refine CallC.sca _ (c1) ?_ ?_
    · exact rfl
    conv => whnf
    refine CallC.sca _ (c2) ?_ ?_
    · exact rfl
    refine Grd.intro (fun h => absurd h (by simp)) (fun _ => ?_)
    conv => whnf
    refine CallC.sca _ (c3) ?_ ?_
    · exact rfl
    conv => whnf
    refine OpC.bneq rfl rfl rfl rfl rfl ?_
    conv => whnf
    refine CallC.nl _ (c4) ?_ ?_
    · exact rfl
    refine And.intro (by rw [B_size]; show (((r.text.length + 2 : Nat)) : Int) ≤ 9223372036854775807; omega) ?_
    conv => whnf
    refine CallC.nl _ (c5) ?_ ?_
    · exact rfl
    refine And.intro (by kernel_rfl) ?_
    refine Grd.intro (fun _ => ?_) (fun h => absurd h (by simp))
    exact And.intro trivial (AVle.refl _)
  · have e2 : r.code = 1 := if_neg ho
    rw [e2] at c1 c2
    generalize r.res = t at c1 c2
    rw [show r.ok = false by simpa using ho] at c3
    refine VFn.introC Tryz.call9 Tryz.func9 rfl rfl ?_
    refine Grd.intro (fun h => absurd (of_decide_eq_true h) (by omega)) (fun _ => ?_)
    refine Grd.intro (fun h => absurd (of_decide_eq_true h) (by omega)) (fun _ => ?_)
    conv => whnf
    refine CallC.nl _ (cx) ?_ ?_
    · exact rfl
    conv => whnf
    refine CallC.nl _ (cr) ?_ ?_
    · exact rfl
    conv => whnf
    refine CallC.sca _ (c1) ?_ ?_
    · exact rfl
    conv => whnf
    refine CallC.sca _ (c2) ?_ ?_
    · exact rfl
    refine Grd.intro (fun h => absurd h (by simp)) (fun _ => ?_)
    conv => whnf
    refine CallC.sca _ (c3) ?_ ?_
    · exact rfl
    conv => whnf
    refine OpC.bneq rfl rfl rfl rfl rfl ?_
    exact And.intro trivial (AVle.refl _)
end Go.Proofs.YtgiaaaejobhngaaGreatDoor
