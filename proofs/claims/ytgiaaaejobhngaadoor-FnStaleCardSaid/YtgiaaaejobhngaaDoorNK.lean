/- States compared; ApplyRecord: contracts; the conditions are the theorems' own. -/
import Derived.Test.YtgiaaaejobhngaaDoorNH
import Derived.Test.YtgiaaaejobhngaaDoorQ2
import Derived.Test.YtgiaaaejobhngaaDoorV46
set_option linter.unusedVariables false
set_option linter.constructorNameAsVariable false
set_option linter.unusedSimpArgs false
set_option maxRecDepth 20000
namespace Go.Proofs.YtgiaaaejobhngaaDoor
open Go Go.Vw

theorem sameEntries_fn (L : List En) (hL : L.length ≤ 1000000) : VFn Tryd.prog 9 [ents L, ents L] (.bool true) := by
  refine VFn.introC Tryd.call9 Tryd.func9 rfl rfl ?_
  refine Grd.intro (fun h => absurd h (by simp)) (fun _ => ?_)
  refine LoopC.mk (fun i : Nat => i ≤ L.length) (fun i => [(0, ents L), (1, ents L), (5, .int .i64 i)]) (fun i => []) 0 (fun i => L.length - i) 0
    ⟨Nat.zero_le _, [], rfl, rfl, ⟨AVle.refl _, AVle.refl _, AVle.refl _, trivial⟩, trivial⟩ ?_
  intro i hi
  refine Grd.intro (fun h2 => ?_) (fun h2 => ?_)
  · have hin : i < L.length := by have := of_decide_eq_true h2; omega
    refine DrawC.mk 8 rfl (by kernel_rfl) ?_
    refine And.intro (by omega) ?_
    refine And.intro (by omega) ?_
    refine And.intro (by kernel_rfl) ?_
    refine Grd.intro (fun h => absurd h (by simp)) (fun _ => ?_)
    refine And.intro (inI64 (by omega) (by omega)) ?_
    exact ⟨i + 1, hin, by omega, [], rfl, rfl, ⟨AVle.refl _, AVle.refl _, AVle.of_eq (congrArg (AV.int .i64) (by simp)), trivial⟩, trivial⟩
  · exact And.intro trivial (AVle.refl _)
theorem ApplyRecordF (s : Sta) (r : Rc) {i : Nat} (h : Dr i s) (hi : i ≤ 4000) (hr : r.ok = true) : VFn Tryd.prog 5 [s.av, r.av] (.tup [(s.app r).av, .bool (s.takes r), .int .i64 0]) := by
  obtain ⟨k1, k2, k3, k4⟩ := h
  have hO := (staOK_iff s).1 k1
  have hl := appL_len s r
  have c1 := StateOK_fn s (by omega) (by omega)
  have c2 := RecordOK_fn r
  rw [k1] at c1
  rw [hr] at c2
  refine VFn.introC Tryd.call5 Tryd.func5 rfl rfl ?_
  conv => whnf
  refine CallC.sca _ (c1) ?_ ?_
  · exact rfl
  conv => whnf
  refine CallC.sca _ (c2) ?_ ?_
  · exact rfl
  conv => whnf
  refine CallC.nl _ (apply_frz s (by omega) ⟨hO.q.1, by omega⟩ r hr) ?_ ?_
  · exact rfl
  conv => whnf
  refine CallC.nl _ ((copiedS_own (s.app r) (by omega) (by omega)).vfn) ?_ ?_
  · exact rfl
  exact And.intro trivial (AVle.refl _)
end Go.Proofs.YtgiaaaejobhngaaDoor
