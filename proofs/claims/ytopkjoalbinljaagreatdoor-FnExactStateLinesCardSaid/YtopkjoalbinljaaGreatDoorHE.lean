/- States handed over as one's own: contracts; the conditions are the theorems' own. -/
import Derived.Test.YtopkjoalbinljaaGreatDoorHD
set_option linter.unusedVariables false
set_option linter.unusedSimpArgs false
set_option maxRecDepth 20000
namespace Go.Proofs.YtopkjoalbinljaaGreatDoor
open Go Go.Vw

theorem toEntryS_own (L : List En) (hL : L.length ≤ 1048576) : FnM Tryz.prog 80 0 [ents L] [] (.osl 0) [(0, .arr 33 4 L.length fun i => (ix L i).row)] 1 := by
  refine FnM.introC Tryz.call80 Tryz.func80 rfl rfl ?_
  refine And.intro ⟨by omega, rfl, (show (40 : Int) * L.length ≤ 140737488355328 by omega), by omega⟩ ?_
  refine LoopC.mk (fun i : Nat => i ≤ L.length) (fun i => [(0, ents L), (3, .osl 0), (4, .int .i64 i)])
    (fun i => [(0, .arr 33 4 L.length (wr (fun i => (ix L i).row) (fun _ => (default : En).row) i))]) 1 (fun i => L.length - i) 0
    ⟨Nat.zero_le _, [(0, 0)], rfl, rfl, ⟨AVle.refl _, AVle.refl _, AVle.refl _, trivial⟩, ⟨MOle.arr rfl fun i hi => by rw [wr_ge (Nat.zero_le i)]; rfl, trivial⟩⟩ ?_
  intro i hi
  refine Grd.intro (fun h2 => ?_) (fun h2 => ?_)
  · have hin : i < L.length := by have := of_decide_eq_true h2; omega
    refine And.intro (by omega) ?_
    conv => whnf
    refine CallC.sca _ (toEntry_fn (ix L i)) ?_ ?_
    · exact rfl
    refine And.intro (by omega) ?_
    refine And.intro (inI64 (by omega) (by omega)) ?_
    exact ⟨i + 1, hin, by omega, [(0, 0)], rfl, rfl, ⟨AVle.refl _, AVle.refl _, AVle.of_eq (congrArg (AV.int .i64) (by simp)), trivial⟩, ⟨MOle.arr rfl fun k hk => wr_next fun e => by subst e; rw [wr_ge (Nat.le_refl _)]; rfl, trivial⟩⟩
  · have : i = L.length := by have := of_decide_eq_false h2; omega
    subst this
    exact And.intro trivial ⟨[(0, 0)], rfl, AVle.refl _, ⟨MOle.arr rfl fun k hk => wr_lt hk, trivial⟩⟩
theorem toTombS_own (L : List Tb) (hL : L.length ≤ 1048576) : FnM Tryz.prog 81 0 [tbs L] [] (.osl 0) [(0, .arr 104 2 L.length fun i => (ix L i).row)] 1 := by
  refine FnM.introC Tryz.call81 Tryz.func81 rfl rfl ?_
  refine And.intro ⟨by omega, rfl, (show (24 : Int) * L.length ≤ 140737488355328 by omega), by omega⟩ ?_
  refine LoopC.mk (fun i : Nat => i ≤ L.length) (fun i => [(0, tbs L), (3, .osl 0), (4, .int .i64 i)])
    (fun i => [(0, .arr 104 2 L.length (wr (fun i => (ix L i).row) (fun _ => (default : Tb).row) i))]) 1 (fun i => L.length - i) 0
    ⟨Nat.zero_le _, [(0, 0)], rfl, rfl, ⟨AVle.refl _, AVle.refl _, AVle.refl _, trivial⟩, ⟨MOle.arr rfl fun i hi => by rw [wr_ge (Nat.zero_le i)]; rfl, trivial⟩⟩ ?_
  intro i hi
  refine Grd.intro (fun h2 => ?_) (fun h2 => ?_)
  · have hin : i < L.length := by have := of_decide_eq_true h2; omega
    refine And.intro (by omega) ?_
    conv => whnf
    refine CallC.sca _ (toTomb_fn (ix L i)) ?_ ?_
    · exact rfl
    refine And.intro (by omega) ?_
    refine And.intro (inI64 (by omega) (by omega)) ?_
    exact ⟨i + 1, hin, by omega, [(0, 0)], rfl, rfl, ⟨AVle.refl _, AVle.refl _, AVle.of_eq (congrArg (AV.int .i64) (by simp)), trivial⟩, ⟨MOle.arr rfl fun k hk => wr_next fun e => by subst e; rw [wr_ge (Nat.le_refl _)]; rfl, trivial⟩⟩
  · have : i = L.length := by have := of_decide_eq_false h2; omega
    subst this
    exact And.intro trivial ⟨[(0, 0)], rfl, AVle.refl _, ⟨MOle.arr rfl fun k hk => wr_lt hk, trivial⟩⟩
theorem toState_own (s : Sta) (h1 : s.es.length ≤ 1048576) (h2 : s.ts.length ≤ 1048576) : FnM Tryz.prog 28 0 [s.av] [] s.own [(0, .arr 33 4 s.es.length fun i => (ix s.es i).row), (1, .arr 104 2 s.ts.length fun i => (ix s.ts i).row)] 2 := by
  refine FnM.introC Tryz.call28 Tryz.func28 rfl rfl ?_
  conv => whnf
  refine CallC.k [] (toEntryS_own s.es h1) rfl rfl (AVsle.refl _) trivial rfl ?_
  conv => whnf
  refine CallC.k [] (toTombS_own s.ts h2) rfl rfl (AVsle.refl _) trivial rfl ?_
  conv => whnf
  refine CallC.sca _ (toIntA3_fn s.l0 s.l1 s.l2) ?_ ?_
  · exact rfl
  conv => whnf
  refine CallC.sca _ (toIntA3_fn s.h0 s.h1 s.h2) ?_ ?_
  · exact rfl
  exact And.intro trivial ⟨[(3, 0), (4, 1)], rfl, AVle.refl _, ⟨MOle.refl _, MOle.refl _, trivial⟩⟩
end Go.Proofs.YtopkjoalbinljaaGreatDoor
