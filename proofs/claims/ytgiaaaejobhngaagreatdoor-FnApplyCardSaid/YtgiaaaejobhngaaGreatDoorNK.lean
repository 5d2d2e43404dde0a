/- States compared; ApplyRecord: contracts; the conditions are the theorems' own. -/
import Derived.Test.YtgiaaaejobhngaaGreatDoorNH
import Derived.Test.YtgiaaaejobhngaaGreatDoorQ3
import Derived.Test.YtgiaaaejobhngaaGreatDoorQ2
import Derived.Test.YtgiaaaejobhngaaGreatDoorV46
set_option linter.unusedVariables false
set_option linter.constructorNameAsVariable false
set_option linter.unusedSimpArgs false
set_option maxRecDepth 20000
namespace Go.Proofs.YtgiaaaejobhngaaGreatDoor
open Go Go.Vw

theorem sameEntries_fn (L : List En) (hL : L.length ≤ 1000000) : VFn Tryz.prog 124 [ents L, ents L] (.bool true) := by
  refine VFn.introC Tryz.call124 Tryz.func124 rfl rfl ?_
  refine Grd.intro (fun h => absurd h (by simp)) (fun _ => ?_)
  refine LoopC.mk (fun i : Nat => i ≤ L.length) (fun i => [(0, ents L), (1, ents L), (5, .int .i64 i)]) (fun i => []) 0 (fun i => L.length - i) 0
    ⟨Nat.zero_le _, [], rfl, rfl, ⟨AVle.refl _, AVle.refl _, AVle.refl _, trivial⟩, trivial⟩ ?_
  intro i hi
  refine Grd.intro (fun h2 => ?_) (fun h2 => ?_)
  · have hin : i < L.length := by have := of_decide_eq_true h2; omega
    refine DrawC.mk 8 rfl (by kernel_rfl) ?_
    refine And.intro (by omega) ?_
    refine And.intro (by omega) ?_
    refine And.intro (by kernel_rfl) ?_
    refine Grd.intro (fun h => absurd h (by simp)) (fun _ => ?_)
    refine And.intro (inI64 (by omega) (by omega)) ?_
    exact ⟨i + 1, hin, by omega, [], rfl, rfl, ⟨AVle.refl _, AVle.refl _, AVle.of_eq (congrArg (AV.int .i64) (by simp)), trivial⟩, trivial⟩
  · exact And.intro trivial (AVle.refl _)
theorem EqualEn_fn (L : List En) (hL : L.length ≤ 1000000) : VFn Tryz.prog 128 [ents L, ents L] (.bool true) := by
  refine VFn.introC Tryz.call128 Tryz.func128 rfl rfl ?_
  refine Grd.intro (fun h => absurd h (by simp)) (fun _ => ?_)
  refine LoopC.mk (fun i : Nat => i ≤ L.length) (fun i => [(0, ents L), (1, ents L), (12, .int .i64 L.length), (13, .int .i64 i)]) (fun i => []) 0 (fun i => L.length - i) 0
    ⟨Nat.zero_le _, [], rfl, rfl, ⟨AVle.refl _, AVle.refl _, AVle.refl _, AVle.refl _, trivial⟩, trivial⟩ ?_
  intro i hi
  refine Grd.intro (fun h2 => ?_) (fun h2 => ?_)
  · have hin : i < L.length := by have := of_decide_eq_true h2; omega
    refine DrawC.mk 8 rfl (by kernel_rfl) ?_
    refine And.intro (by omega) ?_
    refine And.intro (by omega) ?_
    refine And.intro (by kernel_rfl) ?_
    refine Grd.intro (fun h => absurd h (by simp)) (fun _ => ?_)
    refine And.intro (inI64 (by omega) (by omega)) ?_
    exact ⟨i + 1, hin, by omega, [], rfl, rfl, ⟨AVle.refl _, AVle.refl _, AVle.refl _, AVle.of_eq (congrArg (AV.int .i64) (by simp)), trivial⟩, trivial⟩
  · exact And.intro trivial (AVle.refl _)
theorem EqualTb_fn (L : List Tb) (hL : L.length ≤ 1000000) : VFn Tryz.prog 129 [tbs L, tbs L] (.bool true) := by
  refine VFn.introC Tryz.call129 Tryz.func129 rfl rfl ?_
  refine Grd.intro (fun h => absurd h (by simp)) (fun _ => ?_)
  refine LoopC.mk (fun i : Nat => i ≤ L.length) (fun i => [(0, tbs L), (1, tbs L), (12, .int .i64 L.length), (13, .int .i64 i)]) (fun i => []) 0 (fun i => L.length - i) 0
    ⟨Nat.zero_le _, [], rfl, rfl, ⟨AVle.refl _, AVle.refl _, AVle.refl _, AVle.refl _, trivial⟩, trivial⟩ ?_
  intro i hi
  refine Grd.intro (fun h2 => ?_) (fun h2 => ?_)
  · have hin : i < L.length := by have := of_decide_eq_true h2; omega
    refine DrawC.mk 8 rfl (by kernel_rfl) ?_
    refine And.intro (by omega) ?_
    refine And.intro (by omega) ?_
    refine And.intro (by kernel_rfl) ?_
    refine Grd.intro (fun h => absurd h (by simp)) (fun _ => ?_)
    refine And.intro (inI64 (by omega) (by omega)) ?_
    exact ⟨i + 1, hin, by omega, [], rfl, rfl, ⟨AVle.refl _, AVle.refl _, AVle.refl _, AVle.of_eq (congrArg (AV.int .i64) (by simp)), trivial⟩, trivial⟩
  · exact And.intro trivial (AVle.refl _)
theorem sameState_fn (s : Sta) (h1 : s.es.length ≤ 1000000) (h2 : s.ts.length ≤ 1000000) : VFn Tryz.prog 50 [s.av, s.av] (.bool true) := by
  refine VFn.introC Tryz.call50 Tryz.func50 rfl rfl ?_
  refine Grd.intro (fun h => absurd h (by simp)) (fun _ => ?_)
  refine Grd.intro (fun h => absurd h (by simp)) (fun _ => ?_)
  conv => whnf
  refine OpC.a3neq rfl (by kernel_rfl) rfl rfl rfl ?_
  refine Grd.intro (fun h => absurd h (by simp)) (fun _ => ?_)
  conv => whnf
  refine OpC.a3neq rfl (by kernel_rfl) rfl rfl rfl ?_
  refine Grd.intro (fun h => absurd h (by simp)) (fun _ => ?_)
  conv => whnf
  refine CallC.sca _ (sameEntries_fn s.es h1) ?_ ?_
  · exact rfl
  refine Grd.intro (fun h => absurd h (by simp)) (fun _ => ?_)
  refine LoopC.mk (fun i : Nat => i ≤ s.ts.length) (fun i => [(2, .bptr 0 0), (3, .bptr 1 0), (5, .int .i64 i)]) (fun i => [(0, .box s.row), (1, .box s.row)]) 2 (fun i => s.ts.length - i) 0
    ⟨Nat.zero_le _, [(0, 0), (1, 1)], rfl, rfl, ⟨AVle.refl _, AVle.refl _, AVle.refl _, trivial⟩, ⟨MOle.refl _, MOle.refl _, trivial⟩⟩ ?_
  intro i hi
  refine Grd.intro (fun g2 => ?_) (fun g2 => ?_)
  · have hin : i < s.ts.length := by have := of_decide_eq_true g2; omega
    refine DrawC.mk 10 rfl (by kernel_rfl) ?_
    refine And.intro (by omega) ?_
    refine And.intro (by omega) ?_
    refine And.intro (by kernel_rfl) ?_
    refine Grd.intro (fun h => absurd h (by simp)) (fun _ => ?_)
    refine And.intro (inI64 (by omega) (by omega)) ?_
    exact ⟨i + 1, hin, by omega, [(0, 0), (1, 1)], rfl, rfl, ⟨AVle.refl _, AVle.refl _, AVle.of_eq (congrArg (AV.int .i64) (by simp)), trivial⟩, ⟨MOle.refl _, MOle.refl _, trivial⟩⟩
  · exact And.intro trivial (AVle.refl _)
theorem SameState_fn (s : Sta) (h1 : s.es.length ≤ 1000000) (h2 : s.ts.length ≤ 1000000) : VFn Tryz.prog 52 [s.av, s.av] (.bool true) := by
  refine VFn.introC Tryz.call52 Tryz.func52 rfl rfl ?_
  refine Grd.intro (fun _ => ?_) (fun h => absurd h (by simp))
  refine Grd.intro (fun _ => ?_) (fun h => absurd h (by simp))
  conv => whnf
  refine CallC.sca _ (EqualEn_fn s.es h1) ?_ ?_
  · exact rfl
  conv => whnf
  refine CallC.sca _ (EqualTb_fn s.ts h2) ?_ ?_
  · exact rfl
  conv => whnf
  refine OpC.a3eq rfl (by kernel_rfl) rfl rfl rfl ?_
  refine Grd.intro (fun _ => ?_) (fun h => absurd h (by simp))
  conv => whnf
  refine OpC.a3eq rfl (by kernel_rfl) rfl rfl rfl ?_
  refine And.intro trivial (AVle.of_eq (congrArg AV.bool ?_))
  simp
theorem ApplyRecordF (s : Sta) (r : Rc) {i : Nat} (h : Dr i s) (hi : i ≤ 4000) (hr : r.ok = true) : VFn Tryz.prog 48 [s.av, r.av] (.tup [(s.app r).av, .bool (s.takes r), .int .i64 0]) := by
  obtain ⟨k1, k2, k3, k4⟩ := h
  have hO := (staOK_iff s).1 k1
  have hl := appL_len s r
  have c1 := StateOK_fn s (by omega) (by omega)
  have c2 := RecordOK_fn r
  rw [k1] at c1
  rw [hr] at c2
  refine VFn.introC Tryz.call48 Tryz.func48 rfl rfl ?_
  conv => whnf
  refine CallC.sca _ (c1) ?_ ?_
  · exact rfl
  conv => whnf
  refine CallC.sca _ (c2) ?_ ?_
  · exact rfl
  conv => whnf
  refine CallC.nl _ (apply_frz s (by omega) ⟨hO.q.1, by omega⟩ r hr) ?_ ?_
  · exact rfl
  conv => whnf
  refine CallC.nl _ ((copiedS_own (s.app r) (by omega) (by omega)).vfn) ?_ ?_
  · exact rfl
  exact And.intro trivial (AVle.refl _)
theorem specApplyRecordF (s : Sta) (r : Rc) {i : Nat} (h : Dr i s) (hi : i ≤ 4000) (hr : r.ok = true) : VFn Tryz.prog 49 [s.av, r.av] (.tup [(s.app r).av, .bool (s.takes r), .int .i64 0]) := by
  obtain ⟨k1, k2, k3, k4⟩ := h
  have hO := (staOK_iff s).1 k1
  have c1 := specStateOK_ok s (by omega) (by omega) (fun e he => Nat.le_trans (key_len (by have := hO.es e he; unfold En.ok at this; simp only [Bool.and_eq_true] at this; exact this.1)) (by decide)) (fun e he => Nat.le_trans (key_len (hO.ts e he).1) (by decide))
  have c2 := specRecordOK_fn r (Nat.le_trans (Rc.okN hr).2 (by decide))
  rw [k1] at c1
  rw [hr] at c2
  refine VFn.introC Tryz.call49 Tryz.func49 rfl rfl ?_
  conv => whnf
  refine CallC.sca _ (c1) ?_ ?_
  · exact rfl
  conv => whnf
  refine CallC.sca _ (c2) ?_ ?_
  · exact rfl
  refine Grd.intro (fun g => absurd (of_decide_eq_true (p := s.seq = 999999) g) (by omega)) (fun _ => ?_)
  refine And.intro (inI64 (by omega) (by omega)) ?_
  refine Grd.intro (fun g => ?_) (fun _ => ?_)
  · exact absurd (of_decide_eq_true (p := ((s.es.length : Int) + (s.ts.length : Int) = 4096)) g) (by omega)
  conv => whnf
  refine CallC.nl _ (l06Apply_fn s (by omega) ⟨hO.q.1, by omega⟩ hO.nd r hr) ?_ ?_
  · exact rfl
  exact And.intro trivial (AVle.refl _)
end Go.Proofs.YtgiaaaejobhngaaGreatDoor
