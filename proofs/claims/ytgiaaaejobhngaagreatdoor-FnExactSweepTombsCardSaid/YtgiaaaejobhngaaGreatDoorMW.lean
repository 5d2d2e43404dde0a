/- Data keys, orphans: contracts. The conditions are the theorems' own. -/
import Derived.Test.YtgiaaaejobhngaaGreatDoorMV
import Derived.Test.YtgiaaaejobhngaaGreatDoorQ10
import Derived.Test.YtgiaaaejobhngaaGreatDoorQ3
set_option linter.unusedVariables false
set_option linter.constructorNameAsVariable false
set_option linter.unusedSimpArgs false
set_option maxRecDepth 20000
namespace Go.Proofs.YtgiaaaejobhngaaGreatDoor
open Go Go.Vw

theorem map_take_filter {α β : Type} [Inhabited α] {f : α → β} {p : β → Bool} {L : List α} {i : Nat} (h : i < L.length) : ((L.take (i + 1)).map f).filter p = if p (f (ix L i)) = true then ((L.take i).map f).filter p ++ [f (ix L i)] else ((L.take i).map f).filter p := by
  rw [take_snoc h, List.map_append, List.filter_append]
  by_cases hp : p (f (ix L i)) = true
  · rw [if_pos hp]; simp [hp]
  · rw [if_neg hp]; simp [hp]
theorem dataKeys_fn (x : Sto) (hL : x.os.length ≤ 1000000) : VFn Tryz.prog 181 [x.av] (txts (dataKs x)) := by
  have hle : ∀ i, (((x.os.take i).map (·.key)).filter kOk).length ≤ i := fun i => Nat.le_trans (List.length_filter_le _ _) (by simp; omega)
  refine VFn.introC Tryz.call181 Tryz.func181 rfl rfl ?_
  refine LoopC.mk (fun i : Nat => i ≤ x.os.length) (fun i => [(1, .bptr 0 0), (3, .osl 1), (12, obs x.os), (13, .int .i64 x.os.length), (14, .int .i64 i)])
    (fun i => [(0, .box x.row), (1, .arr 9 1 (((x.os.take i).map (·.key)).filter kOk).length fun j => [.str (B (ix (((x.os.take i).map (·.key)).filter kOk) j))])]) 2 (fun i => x.os.length - i) 0
    ⟨Nat.zero_le _, [(0, 0), (1, 1)], rfl, rfl, ⟨AVle.refl _, AVle.refl _, AVle.refl _, AVle.refl _, AVle.refl _, trivial⟩, ⟨MOle.refl _, MOle.arr rfl fun i hi => absurd hi (Nat.not_lt_zero i), trivial⟩⟩ ?_
  intro i hi
  have hli := hle i
  refine Grd.intro (fun h2 => ?_) (fun h2 => ?_)
  · have hin : i < x.os.length := by have := of_decide_eq_true h2; omega
    have hs := map_take_filter (f := fun o : Ob => o.key) (p := kOk) hin
    refine And.intro (by omega) ?_
    conv => whnf
    refine CallC.sca _ (readDataKey_fn (ix x.os i).key) ?_ ?_
    · exact rfl
    refine Grd.intro (fun h3 => ?_) (fun h3 => ?_)
    · rw [if_pos h3] at hs
      refine And.intro ⟨show ((((x.os.take i).map (·.key)).filter kOk).length + 1) * 16 ≤ 140737488355328 by omega, all1 rfl⟩ ?_
      refine And.intro (inI64 (by omega) (by omega)) ?_
      exact ⟨i + 1, hin, by omega, [(0, 0), (4, 1)], rfl, rfl, ⟨AVle.refl _, AVle.refl _, AVle.refl _, AVle.refl _, AVle.of_eq (congrArg (AV.int .i64) (by simp)), trivial⟩, ⟨MOle.refl _, arr_next (f := fun s : List UInt8 => [.str (B s)]) hs rfl, trivial⟩⟩
    · rw [if_neg (by rw [h3]; simp)] at hs
      refine And.intro (inI64 (by omega) (by omega)) ?_
      exact ⟨i + 1, hin, by omega, [(0, 0), (1, 1)], rfl, rfl, ⟨AVle.refl _, AVle.refl _, AVle.refl _, AVle.refl _, AVle.of_eq (congrArg (AV.int .i64) (by simp)), trivial⟩, ⟨MOle.refl _, MOle.of_eq (show MO.arr 9 1 (((x.os.take i).map (·.key)).filter kOk).length (fun j => [.str (B (ix (((x.os.take i).map (·.key)).filter kOk) j))]) = _ by rw [hs]), trivial⟩⟩
  · have : i = x.os.length := by have := of_decide_eq_false h2; omega
    subst this
    have e : ((x.os.take x.os.length).map (·.key)).filter kOk = dataKs x := by rw [List.take_of_length_le (Nat.le_refl _)]; rfl
    rw [e]
    exact And.intro trivial (AVle.sl rfl fun j hj => rfl)
theorem l11Keys_fn (x : Sto) (hL : x.os.length ≤ 1000000) (hk : ∀ o ∈ x.os, o.key.length ≤ 1000000000) : VFn Tryz.prog 179 [x.av] (txts (dataKs x)) := by
  have hle : ∀ i, (((x.os.take i).map (·.key)).filter kOk).length ≤ i := fun i => Nat.le_trans (List.length_filter_le _ _) (by simp; omega)
  refine VFn.introC Tryz.call179 Tryz.func179 rfl rfl ?_
  refine LoopC.mk (fun i : Nat => i ≤ x.os.length) (fun i => [(1, .bptr 0 0), (3, .osl 1), (4, .int .i64 i)])
    (fun i => [(0, .box x.row), (1, .arr 9 1 (((x.os.take i).map (·.key)).filter kOk).length fun j => [.str (B (ix (((x.os.take i).map (·.key)).filter kOk) j))])]) 2 (fun i => x.os.length - i) 0
    ⟨Nat.zero_le _, [(0, 0), (1, 1)], rfl, rfl, ⟨AVle.refl _, AVle.refl _, AVle.refl _, trivial⟩, ⟨MOle.refl _, MOle.arr rfl fun i hi => absurd hi (Nat.not_lt_zero i), trivial⟩⟩ ?_
  intro i hi
  have hli := hle i
  refine Grd.intro (fun h2 => ?_) (fun h2 => ?_)
  · have hin : i < x.os.length := by have := of_decide_eq_true h2; omega
    have hs := map_take_filter (f := fun o : Ob => o.key) (p := kOk) hin
    refine And.intro (by omega) ?_
    conv => whnf
    refine CallC.sca _ (l03ToKey_fn (ix x.os i).key (hk _ (getD_mem hin))) ?_ ?_
    · exact rfl
    refine Grd.intro (fun h3 => ?_) (fun h3 => ?_)
    · rw [if_pos h3] at hs
      refine And.intro (by omega) ?_
      refine And.intro ⟨show ((((x.os.take i).map (·.key)).filter kOk).length + 1) * 16 ≤ 140737488355328 by omega, all1 rfl⟩ ?_
      refine And.intro (inI64 (by omega) (by omega)) ?_
      exact ⟨i + 1, hin, by omega, [(0, 0), (3, 1)], rfl, rfl, ⟨AVle.refl _, AVle.refl _, AVle.of_eq (congrArg (AV.int .i64) (by simp)), trivial⟩, ⟨MOle.refl _, arr_next (f := fun s : List UInt8 => [.str (B s)]) hs rfl, trivial⟩⟩
    · rw [if_neg (by rw [h3]; simp)] at hs
      refine And.intro (inI64 (by omega) (by omega)) ?_
      exact ⟨i + 1, hin, by omega, [(0, 0), (1, 1)], rfl, rfl, ⟨AVle.refl _, AVle.refl _, AVle.of_eq (congrArg (AV.int .i64) (by simp)), trivial⟩, ⟨MOle.refl _, MOle.of_eq (show MO.arr 9 1 (((x.os.take i).map (·.key)).filter kOk).length (fun j => [.str (B (ix (((x.os.take i).map (·.key)).filter kOk) j))]) = _ by rw [hs]), trivial⟩⟩
  · have : i = x.os.length := by have := of_decide_eq_false h2; omega
    subst this
    have e : ((x.os.take x.os.length).map (·.key)).filter kOk = dataKs x := by rw [List.take_of_length_le (Nat.le_refl _)]; rfl
    rw [e]
    exact And.intro trivial (AVle.sl rfl fun j hj => rfl)
set_option maxHeartbeats 1000000 in
theorem orphans_fn (s : Sta) (hE : s.es.length ≤ 1000000000) (hT : s.ts.length ≤ 1000000000) (L : List (List UInt8)) (hL : L.length ≤ 1000000) : VFn Tryz.prog 180 [s.av, txts L] (txts (L.filter s.orph)) := by
  have hle : ∀ i, ((L.take i).filter s.orph).length ≤ i := fun i => Nat.le_trans (List.length_filter_le _ _) (by simp; omega)
  refine VFn.introC Tryz.call180 Tryz.func180 rfl rfl ?_
  refine LoopC.mk (fun i : Nat => i ≤ L.length) (fun i => [(2, .bptr 0 0), (5, .osl 1), (13, txts L), (14, .int .i64 L.length), (15, .int .i64 i)])
    (fun i => [(0, .box s.row), (1, .arr 9 1 ((L.take i).filter s.orph).length fun j => [.str (B (ix ((L.take i).filter s.orph) j))])]) 2 (fun i => L.length - i) 0
    ⟨Nat.zero_le _, [(0, 0), (1, 1)], rfl, rfl, ⟨AVle.refl _, AVle.refl _, AVle.refl _, AVle.refl _, AVle.refl _, trivial⟩, ⟨MOle.refl _, MOle.arr rfl fun i hi => absurd hi (Nat.not_lt_zero i), trivial⟩⟩ ?_
  intro i hi
  have hli := hle i
  refine Grd.intro (fun h2 => ?_) (fun h2 => ?_)
  · have hin : i < L.length := by have := of_decide_eq_true h2; omega
    have hs := filter_snoc (p := s.orph) hin
    have ch := hasKey_fn s hE hT (ix L i)
    have app : s.orph (ix L i) = true → (L.take (i + 1)).filter s.orph = (L.take i).filter s.orph ++ [ix L i] := fun h => by rw [hs, if_pos h]
    have skp : s.orph (ix L i) = false → (L.take (i + 1)).filter s.orph = (L.take i).filter s.orph := fun h => by rw [hs, if_neg (by rw [h]; simp)]
    clear hs
    have hO : s.orph (ix L i) = (kOk (ix L i) && (!s.has (ix L i) && ((decide (kT (ix L i) = 0) && decide (kN (ix L i) ≤ s.seq)) || (decide (0 < kT (ix L i)) && decide (kW (ix L i) < s.fence))))) := rfl
    refine And.intro (by omega) ?_
    conv => whnf
    refine CallC.sca _ (readDataKey_fn (ix L i)) ?_ ?_
    · exact rfl
    repeat' (conv => whnf
             first
      | refine Grd.intro (fun h => ?_) (fun h => ?_)
      | refine PCallC.sca _ ch rfl ?_
      | (refine CallC.sca _ ch ?_ ?_; exact rfl)
      | refine And.intro ⟨show (0 : Int) ≤ ((i : Nat) : Int) by omega, show ((i : Nat) : Int) < ((L.length : Nat) : Int) by omega⟩ ?_
      | refine And.intro ⟨show (((L.take i).filter s.orph).length + 1) * 16 ≤ 140737488355328 by omega, all1 rfl⟩ ?_
      | refine And.intro (show inI .i64 ((i : Int) + 1) from inI64 (by omega) (by omega)) ?_)
    all_goals first
      | (have hq := app (by rw [hO]; first | (simp_all; done) | (simp_all; intros; omega))
         exact ⟨i + 1, hin, by omega, [(0, 0), (3, 1)], rfl, rfl, ⟨AVle.refl _, AVle.refl _, AVle.refl _, AVle.refl _, AVle.of_eq (congrArg (AV.int .i64) (by simp)), trivial⟩, ⟨MOle.refl _, arr_next (f := fun s : List UInt8 => [.str (B s)]) hq rfl, trivial⟩⟩)
      | (have hq := skp (by rw [hO]; first | (simp_all; done) | (simp_all; intros; omega))
         exact ⟨i + 1, hin, by omega, [(0, 0), (1, 1)], rfl, rfl, ⟨AVle.refl _, AVle.refl _, AVle.refl _, AVle.refl _, AVle.of_eq (congrArg (AV.int .i64) (by simp)), trivial⟩, ⟨MOle.refl _, MOle.of_eq (show MO.arr 9 1 ((L.take i).filter s.orph).length (fun j => [.str (B (ix ((L.take i).filter s.orph) j))]) = _ by rw [hq]), trivial⟩⟩)
  · have : i = L.length := by have := of_decide_eq_false h2; omega
    subst this
    have e : (L.take L.length).filter s.orph = L.filter s.orph := by rw [List.take_of_length_le (Nat.le_refl _)]
    rw [e]
    exact And.intro trivial (AVle.sl rfl fun j hj => rfl)
set_option maxHeartbeats 1000000 in
theorem l07Orphans_fn (s : Sta) (hE : s.es.length ≤ 1000000000) (hT : s.ts.length ≤ 1000000000) (L : List (List UInt8)) (hL : L.length ≤ 1000000) (hk : ∀ k ∈ L, k.length ≤ 1000000000) : VFn Tryz.prog 178 [s.av, txts L] (txts (L.filter s.orph)) := by
  have hle : ∀ i, ((L.take i).filter s.orph).length ≤ i := fun i => Nat.le_trans (List.length_filter_le _ _) (by simp; omega)
  refine VFn.introC Tryz.call178 Tryz.func178 rfl rfl ?_
  refine LoopC.mk (fun i : Nat => i ≤ L.length) (fun i => [(1, txts L), (2, .bptr 0 0), (5, .osl 1), (6, .int .i64 i)])
    (fun i => [(0, .box s.row), (1, .arr 9 1 ((L.take i).filter s.orph).length fun j => [.str (B (ix ((L.take i).filter s.orph) j))])]) 2 (fun i => L.length - i) 0
    ⟨Nat.zero_le _, [(0, 0), (1, 1)], rfl, rfl, ⟨AVle.refl _, AVle.refl _, AVle.refl _, AVle.refl _, trivial⟩, ⟨MOle.refl _, MOle.arr rfl fun i hi => absurd hi (Nat.not_lt_zero i), trivial⟩⟩ ?_
  intro i hi
  have hli := hle i
  refine Grd.intro (fun h2 => ?_) (fun h2 => ?_)
  · have hin : i < L.length := by have := of_decide_eq_true h2; omega
    have hs := filter_snoc (p := s.orph) hin
    have ch := l06Named_fn s hE hT (ix L i)
    have app : s.orph (ix L i) = true → (L.take (i + 1)).filter s.orph = (L.take i).filter s.orph ++ [ix L i] := fun h => by rw [hs, if_pos h]
    have skp : s.orph (ix L i) = false → (L.take (i + 1)).filter s.orph = (L.take i).filter s.orph := fun h => by rw [hs, if_neg (by rw [h]; simp)]
    clear hs
    have hO : s.orph (ix L i) = (kOk (ix L i) && (!s.has (ix L i) && ((decide (kT (ix L i) = 0) && decide (kN (ix L i) ≤ s.seq)) || (decide (0 < kT (ix L i)) && decide (kW (ix L i) < s.fence))))) := rfl
    refine And.intro (by omega) ?_
    conv => whnf
    refine CallC.sca _ (l03ToKey_fn (ix L i) (hk _ (getD_mem hin))) ?_ ?_
    · exact rfl
    refine DrawC.mk 30 rfl (by kernel_rfl) ?_
    repeat' (conv => whnf
             first
      | refine Grd.intro (fun h => ?_) (fun h => ?_)
      | refine PCallC.sca _ ch rfl ?_
      | (refine CallC.sca _ ch ?_ ?_; exact rfl)
      | refine And.intro ⟨show (0 : Int) ≤ ((i : Nat) : Int) by omega, show ((i : Nat) : Int) < ((L.length : Nat) : Int) by omega⟩ ?_
      | refine And.intro ⟨show (((L.take i).filter s.orph).length + 1) * 16 ≤ 140737488355328 by omega, all1 rfl⟩ ?_
      | refine And.intro (show inI .i64 ((i : Int) + 1) from inI64 (by omega) (by omega)) ?_)
    all_goals first
      | (have hq := app (by rw [hO]; first | (simp_all; done) | (simp_all; intros; omega))
         exact ⟨i + 1, hin, by omega, [(0, 0), (33, 1)], rfl, rfl, ⟨AVle.refl _, AVle.refl _, AVle.refl _, AVle.of_eq (congrArg (AV.int .i64) (by simp)), trivial⟩, ⟨MOle.refl _, arr_next (f := fun s : List UInt8 => [.str (B s)]) hq rfl, trivial⟩⟩)
      | (have hq := skp (by rw [hO]; first | (simp_all; done) | (simp_all; intros; omega))
         exact ⟨i + 1, hin, by omega, [(0, 0), (1, 1)], rfl, rfl, ⟨AVle.refl _, AVle.refl _, AVle.refl _, AVle.of_eq (congrArg (AV.int .i64) (by simp)), trivial⟩, ⟨MOle.refl _, MOle.of_eq (show MO.arr 9 1 ((L.take i).filter s.orph).length (fun j => [.str (B (ix ((L.take i).filter s.orph) j))]) = _ by rw [hq]), trivial⟩⟩)
  · have : i = L.length := by have := of_decide_eq_false h2; omega
    subst this
    have e : (L.take L.length).filter s.orph = L.filter s.orph := by rw [List.take_of_length_le (Nat.le_refl _)]
    rw [e]
    exact And.intro trivial (AVle.sl rfl fun j hj => rfl)
end Go.Proofs.YtgiaaaejobhngaaGreatDoor
