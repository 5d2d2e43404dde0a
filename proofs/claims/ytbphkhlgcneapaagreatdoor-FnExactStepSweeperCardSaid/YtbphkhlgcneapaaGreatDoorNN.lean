/- The law StepSweeper; the conditions are the theorems' own. -/
import Derived.Test.YtbphkhlgcneapaaGreatDoorMZ
import Derived.Test.YtbphkhlgcneapaaGreatDoorMX
set_option linter.unusedVariables false
set_option linter.constructorNameAsVariable false
set_option linter.unusedSimpArgs false
set_option maxRecDepth 20000
namespace Go.Proofs.YtbphkhlgcneapaaGreatDoor
open Go Go.Vw

def swS (x : Sto) (now : Int) : Sto × Int := if (swT x now).2 = 18 then swO x else swT x now
theorem swS_len {x : Sto} (hs : x.ok = true) (now : Int) : (swS x now).1.os.length ≤ 301 := by
  unfold swS
  split
  · exact Nat.le_trans (swO_len hs) (by decide)
  · exact swT_len hs now
theorem sweep_fn (x : Sto) (hs : x.ok = true) (now : Int) : VFn Tryz.prog 49 [x.av, .int .i64 now] (.tup [(swS x now).1.av, .int .i64 (swS x now).2]) := by
  have c := sweepTombs_fn x hs now
  unfold swS
  by_cases h : (swT x now).2 = 18
  · rw [if_pos h]
    rw [h] at c
    refine VFn.introC Tryz.call49 Tryz.func49 rfl rfl ?_
    conv => whnf
    refine CallC.nl _ (c) ?_ ?_
    · exact rfl
    conv => whnf
    refine CallC.nl _ (sweepOrphans_fn x hs) ?_ ?_
    · exact rfl
    exact And.intro trivial (AVle.refl _)
  · rw [if_neg h]
    refine VFn.introC Tryz.call49 Tryz.func49 rfl rfl ?_
    conv => whnf
    refine CallC.nl _ (c) ?_ ?_
    · exact rfl
    refine Grd.intro (fun _ => ?_) (fun g => absurd (by simpa using g) h)
    exact And.intro trivial (AVle.refl _)
theorem l11Step_fn (x : Sto) (hs : x.ok = true) (now : Int) : VFn Tryz.prog 45 [x.av, .int .i64 now] (.tup [(swS x now).1.av, .int .i64 (swS x now).2]) := by
  have c := l11Tombs_fn x hs now
  unfold swS
  by_cases h : (swT x now).2 = 18
  · rw [if_pos h]
    rw [h] at c
    refine VFn.introC Tryz.call45 Tryz.func45 rfl rfl ?_
    conv => whnf
    refine CallC.nl _ (c) ?_ ?_
    · exact rfl
    conv => whnf
    refine CallC.nl _ (l11Orphans_fn x hs) ?_ ?_
    · exact rfl
    exact And.intro trivial (AVle.refl _)
  · rw [if_neg h]
    refine VFn.introC Tryz.call45 Tryz.func45 rfl rfl ?_
    conv => whnf
    refine CallC.nl _ (c) ?_ ?_
    · exact rfl
    refine Grd.intro (fun _ => ?_) (fun g => absurd (by simpa using g) h)
    exact And.intro trivial (AVle.refl _)
theorem StepSweeper_own (x : Sto) (hr : StoRd x) (now : Int) (ha : swC x now = 0) : FnM Tryz.prog 14 0 [x.av, .int .i64 now] [] (.tup [(swS x now).1.own, .int .i64 (swS x now).2]) [(0, .arr 155 3 (swS x now).1.os.length fun i => (ix (swS x now).1.os i).row)] 1 := by
  have hs := swC_ok ha
  have c := sweepCode_fn x hr now
  rw [ha] at c
  have hl := swS_len hs now
  refine FnM.introC Tryz.call14 Tryz.func14 rfl rfl ?_
  conv => whnf
  refine CallC.sca _ (c) ?_ ?_
  · exact rfl
  conv => whnf
  refine CallC.nl _ (sweep_fn x hs now) ?_ ?_
  · exact rfl
  conv => whnf
  refine CallC.k [] (copied_own (swS x now).1 (by omega)) rfl rfl (AVsle.refl _) trivial rfl ?_
  exact And.intro trivial ⟨[(3, 0)], rfl, AVle.refl _, ⟨MOle.refl _, trivial⟩⟩
theorem StepSweeper_no (x : Sto) (hr : StoRd x) (now : Int) (ha : swC x now ≠ 0) : VFn Tryz.prog 14 [x.av, .int .i64 now] (.tup [sto0, .int .i64 (swC x now)]) := by
  refine VFn.introC Tryz.call14 Tryz.func14 rfl rfl ?_
  conv => whnf
  refine CallC.sca _ (sweepCode_fn x hr now) ?_ ?_
  · exact rfl
  refine Grd.intro (fun _ => ?_) (fun h => absurd (by simpa using h) ha)
  exact And.intro trivial (AVle.refl _)
theorem specStepSweeper_yes (x : Sto) (hr : StoRd x) (now : Int) (ha : swC x now = 0) : VFn Tryz.prog 12 [x.av, .int .i64 now] (.tup [(swS x now).1.av, .int .i64 (swS x now).2]) := by
  have hs := swC_ok ha
  have c := l11Ask_fn x hr now
  rw [ha] at c
  have hl := swS_len hs now
  refine VFn.introC Tryz.call12 Tryz.func12 rfl rfl ?_
  conv => whnf
  refine CallC.sca _ (c) ?_ ?_
  · exact rfl
  conv => whnf
  refine CallC.nl _ (l11Step_fn x hs now) ?_ ?_
  · exact rfl
  conv => whnf
  refine CallC.nl _ (l01Own_fn (swS x now).1 (by omega)) ?_ ?_
  · exact rfl
  exact And.intro trivial (AVle.refl _)
theorem specStepSweeper_no (x : Sto) (hr : StoRd x) (now : Int) (ha : swC x now ≠ 0) : VFn Tryz.prog 12 [x.av, .int .i64 now] (.tup [sto0, .int .i64 (swC x now)]) := by
  refine VFn.introC Tryz.call12 Tryz.func12 rfl rfl ?_
  conv => whnf
  refine CallC.sca _ (l11Ask_fn x hr now) ?_ ?_
  · exact rfl
  refine Grd.intro (fun _ => ?_) (fun h => absurd (by simpa using h) ha)
  exact And.intro trivial (AVle.refl _)
theorem lawStepSweeper (s : Sto) (now : Int) (h : StoIn s) : VFn Tryz.prog 3 [s.av, .int .i64 now] (.bool true) := by
  refine VFn.introC Tryz.call3 Tryz.func3 rfl rfl ?_
  conv => whnf
  refine CallC.sca _ (szStore_fn s h) ?_ ?_
  · exact rfl
  by_cases hl : (stoN s : Int) ≤ 1048576
  case neg =>
    rw [szr_no hl]
    exact And.intro trivial (AVle.refl _)
  rw [szr_yes hl]
  obtain ⟨m1, m2, m3⟩ := Sto_small hl
  have hr : StoRd s := ⟨m1, fun o ho => Nat.le_trans (m2 o ho) (by decide), h.nxt⟩
  refine Grd.intro (fun h2 => absurd (of_decide_eq_true h2) (by omega)) (fun _ => ?_)
  conv => whnf
  refine CallC.nl _ (toStore_fn s m1) ?_ ?_
  · exact rfl
  by_cases ha : swC s now = 0
  · have hs := swC_ok ha
    have hcl := swS_len hs now
    obtain ⟨s', hs'⟩ : ∃ s', s' = (swS s now).1 := ⟨_, rfl⟩
    obtain ⟨c', hc'⟩ : ∃ c', c' = (swS s now).2 := ⟨_, rfl⟩
    have c1 := specStepSweeper_yes s hr now ha
    have c2 := StepSweeper_own s hr now ha
    rw [← hs', ← hc'] at c1 c2
    rw [← hs'] at hcl
    conv => whnf
    refine CallC.nl _ (c1) ?_ ?_
    · exact rfl
    conv => whnf
    refine CallC.k [] (toStore_own s m1) rfl rfl (AVsle.refl _) trivial rfl ?_
    conv => whnf
    refine CallC.m [] c2 rfl rfl (AVsle.refl _) trivial rfl ⟨fun i hi => rfl, trivial⟩ rfl ?_
    conv => whnf
    refine CallC.sca _ (eqStore_fn s' (by omega)) ?_ ?_
    · exact rfl
    refine Grd.intro (fun h => absurd h (by simp)) (fun _ => ?_)
    refine DrawC.mk 5 rfl (by kernel_rfl) ?_
    refine PCallC.nl _ (toStore_fn s m1) rfl ?_
    refine PCallC.sca _ (eqStore_fn s m1) rfl ?_
    conv => whnf
    refine CallC.k [(2, 0)] (markStore_fn s.os.length _ s.next (fun i hi => ⟨_, _, _, rfl⟩) m1 1 (by omega)) rfl rfl (AVsle.refl _) ⟨MOle.refl _, trivial⟩ rfl ?_
    conv => whnf
    refine CallC.sca _ (eqStore_fn s' (by omega)) ?_ ?_
    · exact rfl
    refine Grd.intro (fun h => absurd h (by simp)) (fun _ => ?_)
    conv => whnf
    refine CallC.k [(4, 0)] (markStore_fn s'.os.length _ s'.next (fun i hi => ⟨_, _, _, rfl⟩) (by omega) 1 (by omega)) rfl rfl (AVsle.refl _) ⟨MOle.refl _, trivial⟩ rfl ?_
    conv => whnf
    refine CallC.sca _ (heldStore_fn s'.os.length s'.next (by omega) 1 (by omega)) ?_ ?_
    · exact rfl
    refine Grd.intro (fun h => absurd h (by simp)) (fun _ => ?_)
    conv => whnf
    refine CallC.nl _ (toStore_fn s m1) ?_ ?_
    · exact rfl
    conv => whnf
    refine CallC.k [] c2 rfl rfl (AVsle.refl _) trivial rfl ?_
    conv => whnf
    refine CallC.sca _ (eqStore_fn s' (by omega)) ?_ ?_
    · exact rfl
    refine Grd.intro (fun h => absurd h (by simp)) (fun _ => ?_)
    conv => whnf
    refine CallC.sca _ (heldStore_fn s'.os.length s'.next (by omega) 1 (by omega)) ?_ ?_
    · exact rfl
    refine Grd.intro (fun h => absurd h (by simp)) (fun _ => ?_)
    exact And.intro trivial (AVle.refl _)
  · have c1 := specStepSweeper_no s hr now ha
    have c2 := StepSweeper_no s hr now ha
    conv => whnf
    refine CallC.nl _ (c1) ?_ ?_
    · exact rfl
    conv => whnf
    refine CallC.k [] (toStore_own s m1) rfl rfl (AVsle.refl _) trivial rfl ?_
    conv => whnf
    refine CallC.sca _ (c2) ?_ ?_
    · exact rfl
    conv => whnf
    refine CallC.sca _ (eqStore0_fn) ?_ ?_
    · exact rfl
    refine Grd.intro (fun h => absurd h (by simp)) (fun _ => ?_)
    refine DrawC.mk 5 rfl (by kernel_rfl) ?_
    refine PCallC.nl _ (toStore_fn s m1) rfl ?_
    refine PCallC.sca _ (eqStore_fn s m1) rfl ?_
    conv => whnf
    refine CallC.k [(2, 0)] (markStore_fn s.os.length _ s.next (fun i hi => ⟨_, _, _, rfl⟩) m1 1 (by omega)) rfl rfl (AVsle.refl _) ⟨MOle.refl _, trivial⟩ rfl ?_
    conv => whnf
    refine CallC.sca _ (eqStore0_fn) ?_ ?_
    · exact rfl
    refine Grd.intro (fun h => absurd h (by simp)) (fun _ => ?_)
    conv => whnf
    refine CallC.sca _ (markStore0_fn 1) ?_ ?_
    · exact rfl
    conv => whnf
    refine CallC.sca _ (heldStore0_fn) ?_ ?_
    · exact rfl
    conv => whnf
    refine CallC.nl _ (toStore_fn s m1) ?_ ?_
    · exact rfl
    conv => whnf
    refine CallC.nl _ (c2) ?_ ?_
    · exact rfl
    conv => whnf
    refine CallC.sca _ (eqStore0_fn) ?_ ?_
    · exact rfl
    refine Grd.intro (fun h => absurd h (by simp)) (fun _ => ?_)
    conv => whnf
    refine CallC.sca _ (heldStore0_fn) ?_ ?_
    · exact rfl
    exact And.intro trivial (AVle.refl _)
theorem law_StepSweeper (s : Sto) (h : StoIn s) (now : Int) (_ : IntKind.i64.min ≤ now ∧ now ≤ IntKind.i64.max) : VFn Tryz.prog 3 [s.av, .int .i64 now] (.bool true) := lawStepSweeper s now h
end Go.Proofs.YtbphkhlgcneapaaGreatDoor
