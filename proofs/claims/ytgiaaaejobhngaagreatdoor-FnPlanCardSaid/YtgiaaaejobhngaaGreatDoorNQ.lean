/- What expires, what touches a range: contracts; the conditions are the theorems' own. -/
import Derived.Test.YtgiaaaejobhngaaGreatDoorNP
import Derived.Test.YtgiaaaejobhngaaGreatDoorQ7
set_option linter.unusedVariables false
set_option linter.constructorNameAsVariable false
set_option linter.unusedSimpArgs false
set_option maxRecDepth 20000
namespace Go.Proofs.YtgiaaaejobhngaaGreatDoor
open Go Go.Vw

theorem isNow0 (n : Int) : VFn Tryz.prog 66 [.int .i64 n] (.bool (within n 0 101000)) := by
  refine VFn.introC Tryz.call66 Tryz.func66 rfl rfl ?_
  conv => whnf
  refine CallC.sca _ (within_fn _ _ _) ?_ ?_
  · exact rfl
  exact And.intro trivial (AVle.refl _)
theorem l05Now0 (n : Int) : VFn Tryz.prog 133 [.int .i64 n] (.bool (within n 0 101000)) := by
  refine VFn.introC Tryz.call133 Tryz.func133 rfl rfl ?_
  conv => whnf
  refine CallC.sca _ (l01In_fn _ _ _) ?_ ?_
  · exact rfl
  exact And.intro trivial (AVle.refl _)
theorem ExpiredEntry_fn (s : Sta) (now : Int) (hn : 0 ≤ now ∧ now ≤ 101000) (h : s.ok = true) : VFn Tryz.prog 55 [s.av, .int .i64 now] (.tup [(expR s now).1.av, .bool (expR s now).2, .int .i64 0]) := by
  have hL := ((staOK_iff s).1 h).len
  have c := StateOK_fn s (by omega) (by omega)
  have cn := isNow0 now
  rw [h] at c
  rw [show within now 0 101000 = true by simp [within]; omega] at cn
  refine VFn.introC Tryz.call55 Tryz.func55 rfl rfl ?_
  conv => whnf
  refine CallC.sca _ (c) ?_ ?_
  · exact rfl
  conv => whnf
  refine CallC.sca _ (cn) ?_ ?_
  · exact rfl
  conv => whnf
  refine CallC.sca _ (first2_of _ _ _ _ ⟨rfl, rfl, rfl, rfl, trivial⟩ rfl (show (if (!true) = true then (1 : Int) else if (!true) = true then 4 else 0) = 0 from rfl)) ?_ ?_
  · exact rfl
  conv => whnf
  refine CallC.sca _ (expired_fn s now (by omega) h) ?_ ?_
  · exact rfl
  exact And.intro trivial (AVle.refl _)
theorem specExpiredEntry_fn (s : Sta) (now : Int) (hn : 0 ≤ now ∧ now ≤ 101000) (h : s.ok = true) (hk1 : ∀ e ∈ s.es, e.key.length ≤ 1000000000) (hk2 : ∀ e ∈ s.ts, e.key.length ≤ 1000000000) : VFn Tryz.prog 56 [s.av, .int .i64 now] (.tup [(expR s now).1.av, .bool (expR s now).2, .int .i64 0]) := by
  have hL := ((staOK_iff s).1 h).len
  have c := specStateOK_ok s (by omega) (by omega) hk1 hk2
  have cn := l05Now0 now
  rw [h] at c
  rw [show within now 0 101000 = true by simp [within]; omega] at cn
  refine VFn.introC Tryz.call56 Tryz.func56 rfl rfl ?_
  conv => whnf
  refine CallC.sca _ (c) ?_ ?_
  · exact rfl
  conv => whnf
  refine CallC.sca _ (cn) ?_ ?_
  · exact rfl
  conv => whnf
  refine CallC.sca _ (l07Expired_fn s now (by omega) h) ?_ ?_
  · exact rfl
  exact And.intro trivial (AVle.refl _)
theorem touching_own (s : Sta) (k x y : Int) (hL : s.es.length ≤ 1000000) : FnM Tryz.prog 139 0 [s.av, .int .i64 k, .int .i64 x, .int .i64 y] [] (.osl 0) [(0, .arr 79 4 ((ofT s.es k).filter (tch x y)).length fun i => (ix ((ofT s.es k).filter (tch x y)) i).row)] 1 := by
  have cO := ofS_fn s (by omega) k
  have hl : (ofT s.es k).length ≤ s.es.length := List.length_filter_le _ _
  generalize ofT s.es k = L at cO hl
  refine FnM.introC Tryz.call139 Tryz.func139 rfl rfl ?_
  conv => whnf
  refine CallC.nl _ (cO) ?_ ?_
  · exact rfl
  refine LoopC.mk (fun i : Nat => i ≤ L.length) (fun i => [(2, .int .i64 x), (3, .int .i64 y), (9, .osl 0), (15, ents L), (16, .int .i64 L.length), (17, .int .i64 i)])
    (fun i => [(0, .arr 79 4 ((L.take i).filter (tch x y)).length fun j => (ix ((L.take i).filter (tch x y)) j).row)]) 1 (fun i => L.length - i) 0
    ⟨Nat.zero_le _, [(1, 0)], rfl, rfl, ⟨AVle.refl _, AVle.refl _, AVle.refl _, AVle.refl _, AVle.refl _, AVle.refl _, trivial⟩, ⟨MOle.arr rfl fun i hi => absurd hi (Nat.not_lt_zero i), trivial⟩⟩ ?_
  intro i hi
  refine Grd.intro (fun g1 => ?_) (fun g1 => ?_)
  · have hin : i < L.length := by have := of_decide_eq_true g1; omega
    have hfl : ((L.take i).filter (tch x y)).length ≤ 1000000 := Nat.le_trans (List.length_filter_le _ _) (by rw [List.length_take]; omega)
    have hq : (L.take (i + 1)).filter (tch x y) = if tch x y (ix L i) = true then (L.take i).filter (tch x y) ++ [ix L i] else (L.take i).filter (tch x y) := filter_snoc hin
    refine And.intro (by omega) ?_
    refine Grd.intro (fun g2 => ?_) (fun g2 => ?_)
    · have g2 : tch x y (ix L i) = true := g2
      rw [if_pos g2] at hq
      refine And.intro ⟨show (((L.take i).filter (tch x y)).length + 1) * 40 ≤ 140737488355328 by omega, all1 rfl⟩ ?_
      refine And.intro (inI64 (by omega) (by omega)) ?_
      exact ⟨i + 1, hin, by omega, [(3, 0)], rfl, rfl, ⟨AVle.refl _, AVle.refl _, AVle.refl _, AVle.refl _, AVle.refl _, AVle.of_eq (congrArg (AV.int .i64) (by simp)), trivial⟩, ⟨arr_next (f := En.row) hq rfl, trivial⟩⟩
    · have g2 : tch x y (ix L i) = false := g2
      rw [if_neg (by rw [g2]; simp)] at hq
      refine And.intro (inI64 (by omega) (by omega)) ?_
      exact ⟨i + 1, hin, by omega, [(0, 0)], rfl, rfl, ⟨AVle.refl _, AVle.refl _, AVle.refl _, AVle.refl _, AVle.refl _, AVle.of_eq (congrArg (AV.int .i64) (by simp)), trivial⟩, ⟨MOle.of_eq (show MO.arr 79 4 ((L.take i).filter (tch x y)).length (fun j => (ix ((L.take i).filter (tch x y)) j).row) = _ by rw [hq]), trivial⟩⟩
  · have : i = L.length := by have := of_decide_eq_false g1; omega
    subst this
    rw [List.take_of_length_le (Nat.le_refl _)]
    exact And.intro trivial ⟨[(0, 0)], rfl, AVle.refl _, ⟨MOle.refl _, trivial⟩⟩
theorem InputsOf_fn (s : Sta) (k x y : Int) (h : s.ok = true) (hk : k = 1 ∨ k = 2) (hxy : isRange x y = true) : VFn Tryz.prog 60 [s.av, .int .i64 k, .int .i64 x, .int .i64 y] (.tup [ents ((ofT s.es (k - 1)).filter (tch x y)), .int .i64 0]) := by
  have hL := ((staOK_iff s).1 h).len
  have c := StateOK_fn s (by omega) (by omega)
  have ct := isTier_fn k
  have cr := isRange_fn x y
  rw [h] at c
  rw [hxy] at cr
  rw [show within k 0 2 = true by simp [within]; omega] at ct
  rcases hk with rfl | rfl
  all_goals
    refine VFn.introC Tryz.call60 Tryz.func60 rfl rfl ?_
    conv => whnf
    refine CallC.sca _ (c) ?_ ?_
    · exact rfl
    conv => whnf
    refine CallC.sca _ (ct) ?_ ?_
    · exact rfl
    conv => whnf
    refine CallC.sca _ (cr) ?_ ?_
    · exact rfl
    conv => whnf
    refine CallC.sca _ (first2_of _ _ _ _ ⟨rfl, rfl, rfl, rfl, trivial⟩ rfl (show (if (!true) = true then (1 : Int) else if (!true) = true then 4 else 0) = 0 from rfl)) ?_ ?_
    · exact rfl
    refine And.intro (inI64 (by omega) (by omega)) ?_
    conv => whnf
    refine CallC.k [] (touching_own s _ x y (by omega)) rfl rfl (AVsle.refl _) trivial rfl ?_
    exact And.intro trivial (AVle.refl _)
end Go.Proofs.YtgiaaaejobhngaaGreatDoor
