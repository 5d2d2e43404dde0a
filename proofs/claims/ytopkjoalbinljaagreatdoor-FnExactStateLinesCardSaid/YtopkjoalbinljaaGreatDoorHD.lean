/- States marked, handed over as one's own: contracts; the conditions are the theorems' own. -/
import Derived.Test.YtopkjoalbinljaaGreatDoorHC
import Derived.Test.YtopkjoalbinljaaGreatDoorGS
set_option linter.unusedVariables false
set_option linter.unusedSimpArgs false
set_option maxRecDepth 20000
namespace Go.Proofs.YtopkjoalbinljaaGreatDoor
open Go Go.Vw

theorem markEntryS_fn (n : Nat) (rows : Nat → List AV) (hn : n ≤ 1048576) (k : Int) (hk : 0 ≤ k ∧ k ≤ 1000000000) :
    FnM Tryz.prog 87 1 [.osl 0, .int .i64 k] [(0, .arr 33 4 n rows)] (.int .i64 (k + 4 * n)) [] 1 := by
  refine FnM.introC Tryz.call87 Tryz.func87 rfl rfl ?_
  refine LoopC.mk (fun i : Nat × (Nat → List AV) => i.1 ≤ n) (fun i => [(0, .osl 0), (1, .int .i64 (k + 4 * i.1)), (5, .int .i64 i.1)]) (fun i => [(0, .arr 33 4 n i.2)]) 1 (fun i => n - i.1) (0, rows)
    ⟨Nat.zero_le _, [(0, 0)], rfl, rfl, ⟨AVle.refl _, AVle.of_eq (congrArg (AV.int .i64) (by simp)), AVle.refl _, trivial⟩, ⟨MOle.refl _, trivial⟩⟩ ?_
  rintro ⟨i, rs⟩ hi
  have hi' : i ≤ n := hi
  refine Grd.intro (fun h2 => ?_) (fun h2 => ?_)
  · have hin : i < n := by have := of_decide_eq_true h2; omega
    refine And.intro (by (try dsimp only); omega) ?_
    refine And.intro (show inI .i64 (k + 4 * i + 1) from inI64 (by omega) (by omega)) ?_
    refine And.intro (by (try dsimp only); omega) ?_
    refine And.intro (show inI .i64 (k + 4 * i + 1 + 1) from inI64 (by omega) (by omega)) ?_
    refine And.intro (by (try dsimp only); omega) ?_
    refine And.intro (show inI .i64 (k + 4 * i + 1 + 1 + 1) from inI64 (by omega) (by omega)) ?_
    conv => whnf
    refine CallC.sca _ (markText_fn (k + 4 * i + 1 + 1 + 1) (by omega)) ?_ ?_
    · exact rfl
    refine And.intro (by (try dsimp only); omega) ?_
    refine And.intro (show inI .i64 (k + 4 * i + 1 + 1 + 1 + 1) from inI64 (by omega) (by omega)) ?_
    refine And.intro (show inI .i64 ((i : Int) + 1) from inI64 (by omega) (by omega)) ?_
    exact ⟨(i + 1, _), hin, by dsimp only; omega, [(0, 0)], rfl, rfl, ⟨AVle.refl _, AVle.of_eq (congrArg (AV.int .i64) (show k + 4 * i + 1 + 1 + 1 + 1 = _ by simp; omega)), AVle.of_eq (congrArg (AV.int .i64) (show (i : Int) + 1 = _ by simp)), trivial⟩, ⟨MOle.refl _, trivial⟩⟩
  · have : i = n := by have := of_decide_eq_false h2; omega
    subst this
    exact And.intro trivial ⟨[(0, 0)], rfl, AVle.refl _, trivial⟩
theorem markTombS_fn (n : Nat) (rows : Nat → List AV) (hn : n ≤ 1048576) (k : Int) (hk : 0 ≤ k ∧ k ≤ 1000000000) :
    FnM Tryz.prog 88 1 [.osl 0, .int .i64 k] [(0, .arr 104 2 n rows)] (.int .i64 (k + 2 * n)) [] 1 := by
  refine FnM.introC Tryz.call88 Tryz.func88 rfl rfl ?_
  refine LoopC.mk (fun i : Nat × (Nat → List AV) => i.1 ≤ n) (fun i => [(0, .osl 0), (1, .int .i64 (k + 2 * i.1)), (5, .int .i64 i.1)]) (fun i => [(0, .arr 104 2 n i.2)]) 1 (fun i => n - i.1) (0, rows)
    ⟨Nat.zero_le _, [(0, 0)], rfl, rfl, ⟨AVle.refl _, AVle.of_eq (congrArg (AV.int .i64) (by simp)), AVle.refl _, trivial⟩, ⟨MOle.refl _, trivial⟩⟩ ?_
  rintro ⟨i, rs⟩ hi
  have hi' : i ≤ n := hi
  refine Grd.intro (fun h2 => ?_) (fun h2 => ?_)
  · have hin : i < n := by have := of_decide_eq_true h2; omega
    refine And.intro (by (try dsimp only); omega) ?_
    refine And.intro (show inI .i64 (k + 2 * i + 1) from inI64 (by omega) (by omega)) ?_
    conv => whnf
    refine CallC.sca _ (markText_fn (k + 2 * i + 1) (by omega)) ?_ ?_
    · exact rfl
    refine And.intro (by (try dsimp only); omega) ?_
    refine And.intro (show inI .i64 (k + 2 * i + 1 + 1) from inI64 (by omega) (by omega)) ?_
    refine And.intro (show inI .i64 ((i : Int) + 1) from inI64 (by omega) (by omega)) ?_
    exact ⟨(i + 1, _), hin, by dsimp only; omega, [(0, 0)], rfl, rfl, ⟨AVle.refl _, AVle.of_eq (congrArg (AV.int .i64) (show k + 2 * i + 1 + 1 = _ by simp; omega)), AVle.of_eq (congrArg (AV.int .i64) (show (i : Int) + 1 = _ by simp)), trivial⟩, ⟨MOle.refl _, trivial⟩⟩
  · have : i = n := by have := of_decide_eq_false h2; omega
    subst this
    exact And.intro trivial ⟨[(0, 0)], rfl, AVle.refl _, trivial⟩
def Sta.own (s : Sta) : AV := .agg [.int .i64 s.seq, .int .i64 s.fence, .osl 0, .osl 1, .int .i64 s.l0, .int .i64 s.l1, .int .i64 s.l2, .int .i64 s.h0, .int .i64 s.h1, .int .i64 s.h2]
theorem markState_fn (s : Sta) (n m : Nat) (r1 r2 : Nat → List AV) (hn : n ≤ 1048576) (hm : m ≤ 1048576) (k : Int) (hk : 0 ≤ k ∧ k ≤ 1000000) :
    FnM Tryz.prog 32 2 [s.own, .int .i64 k] [(0, .arr 33 4 n r1), (1, .arr 104 2 m r2)] (.int .i64 (k + 4 * n + 2 * m)) [] 2 := by
  refine FnM.introC Tryz.call32 Tryz.func32 rfl rfl ?_
  conv => whnf
  refine CallC.k [(0, 0)] (markEntryS_fn n r1 hn k (by omega)) rfl rfl (AVsle.refl _) ⟨MOle.refl _, trivial⟩ rfl ?_
  conv => whnf
  refine CallC.k [(1, 0)] (markTombS_fn m r2 hm (k + 4 * n) (by omega)) rfl rfl (AVsle.refl _) ⟨MOle.refl _, trivial⟩ rfl ?_
  exact And.intro trivial ⟨[(0, 0), (1, 1)], rfl, AVle.refl _, trivial⟩
end Go.Proofs.YtopkjoalbinljaaGreatDoor
