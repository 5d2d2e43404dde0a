/- laws.FnExactActText: what is handed over, and back: contracts; the conditions are the theorems' own. -/
import Derived.Test.YtopkjoalbinljaaDoorGF
set_option linter.unusedVariables false
set_option maxRecDepth 20000
namespace Go.Proofs.YtopkjoalbinljaaDoor
open Go Go.Vw

theorem toSample_fn (s : Smp) : VFn Tryd.prog 96 [.agg s.row] (.agg s.row) := by
  refine VFn.introC Tryd.call96 Tryd.func96 rfl rfl ?_
  exact And.intro trivial (AVle.refl _)
theorem eqSample_fn (s : Smp) : VFn Tryd.prog 105 [.agg s.row, .agg s.row] (.bool true) := by
  refine VFn.introC Tryd.call105 Tryd.func105 rfl rfl ?_
  iterate 2 (refine Grd.intro (fun h => absurd h (by simp)) (fun _ => ?_))
  exact And.intro trivial (AVle.refl _)
theorem toSampleS_fn (L : List Smp) (hL : L.length ≤ 1048576) : VFn Tryd.prog 50 [smps L] (smps L) := by
  refine VFn.introC Tryd.call50 Tryd.func50 rfl rfl ?_
  refine And.intro ⟨by omega, rfl, (show (16 : Int) * L.length ≤ 140737488355328 by omega), by omega⟩ ?_
  refine LoopC.mk (fun i : Nat => i ≤ L.length) (fun i => [(0, smps L), (3, .osl 0), (4, .int .i64 i)])
    (fun i => [(0, .arr 142 2 L.length (wr (fun i => (ix L i).row) (fun _ => (default : Smp).row) i))]) 1 (fun i => L.length - i) 0
    ⟨Nat.zero_le _, [(0, 0)], rfl, rfl, ⟨AVle.refl _, AVle.refl _, AVle.refl _, trivial⟩, ⟨MOle.arr rfl fun i hi => by rw [wr_ge (Nat.zero_le i)]; rfl, trivial⟩⟩ ?_
  intro i hi
  refine Grd.intro (fun h2 => ?_) (fun h2 => ?_)
  · have hin : i < L.length := by have := of_decide_eq_true h2; omega
    refine And.intro (by omega) ?_
    conv => whnf
    refine CallC.sca _ (toSample_fn (ix L i)) ?_ ?_
    · exact rfl
    refine And.intro (by omega) ?_
    refine And.intro (inI64 (by omega) (by omega)) ?_
    exact ⟨i + 1, hin, by omega, [(0, 0)], rfl, rfl, ⟨AVle.refl _, AVle.refl _, AVle.of_eq (congrArg (AV.int .i64) (by simp)), trivial⟩, ⟨MOle.arr rfl fun k hk => wr_next fun e => by subst e; rw [wr_ge (Nat.le_refl _)]; rfl, trivial⟩⟩
  · have : i = L.length := by have := of_decide_eq_false h2; omega
    subst this
    exact And.intro trivial (AVle.sl rfl fun k hk => wr_lt hk)
theorem eqSampleS_fn (L : List Smp) (hL : L.length ≤ 1048576) : VFn Tryd.prog 54 [smps L, smps L] (.bool true) := by
  refine VFn.introC Tryd.call54 Tryd.func54 rfl rfl ?_
  refine Grd.intro (fun h => absurd h (by simp)) (fun _ => ?_)
  refine LoopC.mk (fun i : Nat => i ≤ L.length) (fun i => [(0, smps L), (1, smps L), (5, .int .i64 i)]) (fun _ => []) 0 (fun i => L.length - i) 0
    ⟨Nat.zero_le _, [], rfl, rfl, ⟨AVle.refl _, AVle.refl _, AVle.refl _, trivial⟩, trivial⟩ ?_
  intro i hi
  refine Grd.intro (fun h2 => ?_) (fun h2 => ?_)
  · have hin : i < L.length := by have := of_decide_eq_true h2; omega
    refine DrawC.mk 10 rfl (by kernel_rfl) ?_
    refine And.intro (by omega) ?_
    refine And.intro (by omega) ?_
    refine PCallC.sca _ (eqSample_fn (ix L i)) rfl ?_
    refine And.intro (inI64 (by omega) (by omega)) ?_
    exact ⟨i + 1, hin, by omega, [], rfl, rfl, ⟨AVle.refl _, AVle.refl _, AVle.of_eq (congrArg (AV.int .i64) (by simp)), trivial⟩, trivial⟩
  · exact And.intro trivial (AVle.refl _)
theorem szSampleS_no (L : List Smp) (hL : L.length ≤ 9223372036854775807) (h : 1048576 < L.length) : VFn Tryd.prog 47 [smps L, .int .i64 1048576] (.int .i64 (-1)) := by
  refine VFn.introC Tryd.call47 Tryd.func47 rfl rfl ?_
  refine And.intro (inI64 (by omega) (by omega)) ?_
  refine Grd.intro (fun _ => ?_) (fun h2 => absurd (of_decide_eq_false h2) (by omega))
  exact And.intro trivial (AVle.refl _)
theorem szSampleS_yes (L : List Smp) (h : L.length ≤ 1048576) : VFn Tryd.prog 47 [smps L, .int .i64 1048576] (.int .i64 (1048576 - L.length)) := by
  refine VFn.introC Tryd.call47 Tryd.func47 rfl rfl ?_
  refine And.intro (inI64 (by omega) (by omega)) ?_
  refine Grd.intro (fun h2 => absurd (of_decide_eq_true h2) (by omega)) (fun _ => ?_)
  exact And.intro trivial (AVle.refl _)
theorem szAct_no (a : Act) (hL : a.b.length ≤ 9223372036854775807) (h : 1048576 < a.b.length) : VFn Tryd.prog 14 [a.av, .int .i64 1048576] (.int .i64 (-1)) := by
  refine VFn.introC Tryd.call14 Tryd.func14 rfl rfl ?_
  conv => whnf
  refine CallC.sca _ (szSampleS_no a.b hL h) ?_ ?_
  · exact rfl
  exact And.intro trivial (AVle.refl _)
theorem szAct_yes (a : Act) (h : a.b.length ≤ 1048576) : VFn Tryd.prog 14 [a.av, .int .i64 1048576] (.int .i64 (1048576 - a.b.length)) := by
  refine VFn.introC Tryd.call14 Tryd.func14 rfl rfl ?_
  conv => whnf
  refine CallC.sca _ (szSampleS_yes a.b h) ?_ ?_
  · exact rfl
  refine Grd.intro (fun h2 => absurd (of_decide_eq_true h2) (by omega)) (fun _ => ?_)
  exact And.intro trivial (AVle.refl _)
theorem toAct_fn (a : Act) (h : a.b.length ≤ 1048576) : VFn Tryd.prog 16 [a.av] a.av := by
  refine VFn.introC Tryd.call16 Tryd.func16 rfl rfl ?_
  conv => whnf
  refine CallC.nl _ (toSampleS_fn a.b h) ?_ ?_
  · exact rfl
  exact And.intro trivial (AVle.refl _)
theorem eqAct_fn (a : Act) (h : a.b.length ≤ 1048576) : VFn Tryd.prog 18 [a.av, a.av] (.bool true) := by
  refine VFn.introC Tryd.call18 Tryd.func18 rfl rfl ?_
  iterate 6 (refine Grd.intro (fun h => absurd h (by simp)) (fun _ => ?_))
  conv => whnf
  refine CallC.sca _ (eqSampleS_fn a.b h) ?_ ?_
  · exact rfl
  exact And.intro trivial (AVle.refl _)
theorem law_ActText (a : Act) (hL : a.b.length ≤ maxLen) : VFn Tryd.prog 4 [a.av] (.bool true) := by
  unfold maxLen at hL
  refine VFn.introC Tryd.call4 Tryd.func4 rfl rfl ?_
  by_cases h : a.b.length ≤ 1048576
  · conv => whnf
    refine CallC.sca _ (szAct_yes a h) ?_ ?_
    · exact rfl
    refine Grd.intro (fun h2 => absurd (of_decide_eq_true h2) (by omega)) (fun _ => ?_)
    conv => whnf
    refine CallC.nl _ (toAct_fn a h) ?_ ?_
    · exact rfl
    conv => whnf
    refine CallC.sca _ (specActText_fn a) ?_ ?_
    · exact rfl
    conv => whnf
    refine CallC.nl _ (toAct_fn a h) ?_ ?_
    · exact rfl
    conv => whnf
    refine CallC.sca _ (ActText_fn a) ?_ ?_
    · exact rfl
    refine Grd.intro (fun h2 => absurd h2 (by simp)) (fun _ => ?_)
    refine Grd.intro (fun h2 => absurd h2 (by simp)) (fun _ => ?_)
    refine DrawC.mk 5 rfl (by kernel_rfl) ?_
    refine PCallC.nl _ (toAct_fn a h) rfl ?_
    refine PCallC.sca _ (eqAct_fn a h) rfl ?_
    exact And.intro trivial (AVle.refl _)
  · conv => whnf
    refine CallC.sca _ (szAct_no a hL (by omega)) ?_ ?_
    · exact rfl
    exact And.intro trivial (AVle.refl _)
end Go.Proofs.YtopkjoalbinljaaDoor
