/- Contracts of functions that the claim reaches, and the plain law of what they compute; each theorem bears its own conditions. -/
import Derived.Test.YtbphkhlgcneapaaGreatDoorQ7
import Derived.Test.YtbphkhlgcneapaaGreatDoorQ3
import Derived.Test.YtbphkhlgcneapaaGreatDoorQ1
import Derived.Test.YtbphkhlgcneapaaGreatDoorV46
set_option linter.unusedVariables false
set_option linter.constructorNameAsVariable false
set_option linter.unusedSimpArgs false
set_option maxRecDepth 20000
namespace Go.Proofs.YtbphkhlgcneapaaGreatDoor
open Go Go.Vw

theorem map_take_filter {α β : Type} [Inhabited α] {f : α → β} {p : β → Bool} {L : List α} {i : Nat} (h : i < L.length) : ((L.take (i + 1)).map f).filter p = if p (f (ix L i)) = true then ((L.take i).map f).filter p ++ [f (ix L i)] else ((L.take i).map f).filter p := by
  rw [take_snoc h, List.map_append, List.filter_append]
  by_cases hp : p (f (ix L i)) = true
  · rw [if_pos hp]; simp [hp]
  · rw [if_neg hp]; simp [hp]
theorem dataKeys_fn (x : Sto) (hL : x.os.length ≤ 1000000) : VFn Tryz.prog 209 [x.av] (txts (dataKs x)) := by
  have hle : ∀ i, (((x.os.take i).map (·.key)).filter kOk).length ≤ i := fun i => Nat.le_trans (List.length_filter_le _ _) (by simp; omega)
  refine VFn.introC Tryz.call209 Tryz.func209 rfl rfl ?_
  refine LoopC.mk (fun i : Nat => i ≤ x.os.length) (fun i => [(1, .bptr 0 0), (3, .osl 1), (12, obs x.os), (13, .int .i64 x.os.length), (14, .int .i64 i)])
    (fun i => [(0, .box x.row), (1, .arr 9 1 (((x.os.take i).map (·.key)).filter kOk).length fun j => [.str (B (ix (((x.os.take i).map (·.key)).filter kOk) j))])]) 2 (fun i => x.os.length - i) 0
    ⟨Nat.zero_le _, [(0, 0), (1, 1)], rfl, rfl, ⟨AVle.refl _, AVle.refl _, AVle.refl _, AVle.refl _, AVle.refl _, trivial⟩, ⟨MOle.refl _, MOle.arr rfl fun i hi => absurd hi (Nat.not_lt_zero i), trivial⟩⟩ ?_
  intro i hi
  have hli := hle i
  refine Grd.intro (fun h2 => ?_) (fun h2 => ?_)
  · have hin : i < x.os.length := by have := of_decide_eq_true h2; omega
    have hs := map_take_filter (f := fun o : Ob => o.key) (p := kOk) hin
    refine And.intro (by omega) ?_
    conv => whnf
    refine CallC.sca _ (readDataKey_fn (ix x.os i).key) ?_ ?_
    · exact rfl
    refine Grd.intro (fun h3 => ?_) (fun h3 => ?_)
    · rw [if_pos h3] at hs
      refine And.intro ⟨show ((((x.os.take i).map (·.key)).filter kOk).length + 1) * 16 ≤ 140737488355328 by omega, all1 rfl⟩ ?_
      refine And.intro (inI64 (by omega) (by omega)) ?_
      exact ⟨i + 1, hin, by omega, [(0, 0), (4, 1)], rfl, rfl, ⟨AVle.refl _, AVle.refl _, AVle.refl _, AVle.refl _, AVle.of_eq (congrArg (AV.int .i64) (by simp)), trivial⟩, ⟨MOle.refl _, arr_next (f := fun s : List UInt8 => [.str (B s)]) hs rfl, trivial⟩⟩
    · rw [if_neg (by rw [h3]; simp)] at hs
      refine And.intro (inI64 (by omega) (by omega)) ?_
      exact ⟨i + 1, hin, by omega, [(0, 0), (1, 1)], rfl, rfl, ⟨AVle.refl _, AVle.refl _, AVle.refl _, AVle.refl _, AVle.of_eq (congrArg (AV.int .i64) (by simp)), trivial⟩, ⟨MOle.refl _, MOle.of_eq (show MO.arr 9 1 (((x.os.take i).map (·.key)).filter kOk).length (fun j => [.str (B (ix (((x.os.take i).map (·.key)).filter kOk) j))]) = _ by rw [hs]), trivial⟩⟩
  · have : i = x.os.length := by have := of_decide_eq_false h2; omega
    subst this
    have e : ((x.os.take x.os.length).map (·.key)).filter kOk = dataKs x := by rw [List.take_of_length_le (Nat.le_refl _)]; rfl
    rw [e]
    exact And.intro trivial (AVle.sl rfl fun j hj => rfl)
theorem l11Keys_fn (x : Sto) (hL : x.os.length ≤ 1000000) (hk : ∀ o ∈ x.os, o.key.length ≤ 1000000000) : VFn Tryz.prog 202 [x.av] (txts (dataKs x)) := by
  have hle : ∀ i, (((x.os.take i).map (·.key)).filter kOk).length ≤ i := fun i => Nat.le_trans (List.length_filter_le _ _) (by simp; omega)
  refine VFn.introC Tryz.call202 Tryz.func202 rfl rfl ?_
  refine LoopC.mk (fun i : Nat => i ≤ x.os.length) (fun i => [(1, .bptr 0 0), (3, .osl 1), (4, .int .i64 i)])
    (fun i => [(0, .box x.row), (1, .arr 9 1 (((x.os.take i).map (·.key)).filter kOk).length fun j => [.str (B (ix (((x.os.take i).map (·.key)).filter kOk) j))])]) 2 (fun i => x.os.length - i) 0
    ⟨Nat.zero_le _, [(0, 0), (1, 1)], rfl, rfl, ⟨AVle.refl _, AVle.refl _, AVle.refl _, trivial⟩, ⟨MOle.refl _, MOle.arr rfl fun i hi => absurd hi (Nat.not_lt_zero i), trivial⟩⟩ ?_
  intro i hi
  have hli := hle i
  refine Grd.intro (fun h2 => ?_) (fun h2 => ?_)
  · have hin : i < x.os.length := by have := of_decide_eq_true h2; omega
    have hs := map_take_filter (f := fun o : Ob => o.key) (p := kOk) hin
    refine And.intro (by omega) ?_
    conv => whnf
    refine CallC.sca _ (l03ToKey_fn (ix x.os i).key (hk _ (getD_mem hin))) ?_ ?_
    · exact rfl
    refine Grd.intro (fun h3 => ?_) (fun h3 => ?_)
    · rw [if_pos h3] at hs
      refine And.intro (by omega) ?_
      refine And.intro ⟨show ((((x.os.take i).map (·.key)).filter kOk).length + 1) * 16 ≤ 140737488355328 by omega, all1 rfl⟩ ?_
      refine And.intro (inI64 (by omega) (by omega)) ?_
      exact ⟨i + 1, hin, by omega, [(0, 0), (3, 1)], rfl, rfl, ⟨AVle.refl _, AVle.refl _, AVle.of_eq (congrArg (AV.int .i64) (by simp)), trivial⟩, ⟨MOle.refl _, arr_next (f := fun s : List UInt8 => [.str (B s)]) hs rfl, trivial⟩⟩
    · rw [if_neg (by rw [h3]; simp)] at hs
      refine And.intro (inI64 (by omega) (by omega)) ?_
      exact ⟨i + 1, hin, by omega, [(0, 0), (1, 1)], rfl, rfl, ⟨AVle.refl _, AVle.refl _, AVle.of_eq (congrArg (AV.int .i64) (by simp)), trivial⟩, ⟨MOle.refl _, MOle.of_eq (show MO.arr 9 1 (((x.os.take i).map (·.key)).filter kOk).length (fun j => [.str (B (ix (((x.os.take i).map (·.key)).filter kOk) j))]) = _ by rw [hs]), trivial⟩⟩
  · have : i = x.os.length := by have := of_decide_eq_false h2; omega
    subst this
    have e : ((x.os.take x.os.length).map (·.key)).filter kOk = dataKs x := by rw [List.take_of_length_le (Nat.le_refl _)]; rfl
    rw [e]
    exact And.intro trivial (AVle.sl rfl fun j hj => rfl)
set_option maxHeartbeats 1000000 in
theorem orphans_fn (s : Sta) (hE : s.es.length ≤ 1000000000) (hT : s.ts.length ≤ 1000000000) (L : List (List UInt8)) (hL : L.length ≤ 1000000) : VFn Tryz.prog 208 [s.av, txts L] (txts (L.filter s.orph)) := by
  have hle : ∀ i, ((L.take i).filter s.orph).length ≤ i := fun i => Nat.le_trans (List.length_filter_le _ _) (by simp; omega)
  refine VFn.introC Tryz.call208 Tryz.func208 rfl rfl ?_
  refine LoopC.mk (fun i : Nat => i ≤ L.length) (fun i => [(2, .bptr 0 0), (5, .osl 1), (13, txts L), (14, .int .i64 L.length), (15, .int .i64 i)])
    (fun i => [(0, .box s.row), (1, .arr 9 1 ((L.take i).filter s.orph).length fun j => [.str (B (ix ((L.take i).filter s.orph) j))])]) 2 (fun i => L.length - i) 0
    ⟨Nat.zero_le _, [(0, 0), (1, 1)], rfl, rfl, ⟨AVle.refl _, AVle.refl _, AVle.refl _, AVle.refl _, AVle.refl _, trivial⟩, ⟨MOle.refl _, MOle.arr rfl fun i hi => absurd hi (Nat.not_lt_zero i), trivial⟩⟩ ?_
  intro i hi
  have hli := hle i
  refine Grd.intro (fun h2 => ?_) (fun h2 => ?_)
  · have hin : i < L.length := by have := of_decide_eq_true h2; omega
    have hs := filter_snoc (p := s.orph) hin
    have ch := hasKey_fn s hE hT (ix L i)
    have app : s.orph (ix L i) = true → (L.take (i + 1)).filter s.orph = (L.take i).filter s.orph ++ [ix L i] := fun h => by rw [hs, if_pos h]
    have skp : s.orph (ix L i) = false → (L.take (i + 1)).filter s.orph = (L.take i).filter s.orph := fun h => by rw [hs, if_neg (by rw [h]; simp)]
    clear hs
    have hO : s.orph (ix L i) = (kOk (ix L i) && (!s.has (ix L i) && ((decide (kT (ix L i) = 0) && decide (kN (ix L i) ≤ s.seq)) || (decide (0 < kT (ix L i)) && decide (kW (ix L i) < s.fence))))) := rfl
    refine And.intro (by omega) ?_
    conv => whnf
    refine CallC.sca _ (readDataKey_fn (ix L i)) ?_ ?_
    · exact rfl
    repeat' (conv => whnf
             first
      | refine Grd.intro (fun h => ?_) (fun h => ?_)
      | refine PCallC.sca _ ch rfl ?_
      | (refine CallC.sca _ ch ?_ ?_; exact rfl)
      | refine And.intro ⟨show (0 : Int) ≤ ((i : Nat) : Int) by omega, show ((i : Nat) : Int) < ((L.length : Nat) : Int) by omega⟩ ?_
      | refine And.intro ⟨show (((L.take i).filter s.orph).length + 1) * 16 ≤ 140737488355328 by omega, all1 rfl⟩ ?_
      | refine And.intro (show inI .i64 ((i : Int) + 1) from inI64 (by omega) (by omega)) ?_)
    all_goals first
      | (have hq := app (by rw [hO]; first | (simp_all; done) | (simp_all; intros; omega))
         exact ⟨i + 1, hin, by omega, [(0, 0), (3, 1)], rfl, rfl, ⟨AVle.refl _, AVle.refl _, AVle.refl _, AVle.refl _, AVle.of_eq (congrArg (AV.int .i64) (by simp)), trivial⟩, ⟨MOle.refl _, arr_next (f := fun s : List UInt8 => [.str (B s)]) hq rfl, trivial⟩⟩)
      | (have hq := skp (by rw [hO]; first | (simp_all; done) | (simp_all; intros; omega))
         exact ⟨i + 1, hin, by omega, [(0, 0), (1, 1)], rfl, rfl, ⟨AVle.refl _, AVle.refl _, AVle.refl _, AVle.refl _, AVle.of_eq (congrArg (AV.int .i64) (by simp)), trivial⟩, ⟨MOle.refl _, MOle.of_eq (show MO.arr 9 1 ((L.take i).filter s.orph).length (fun j => [.str (B (ix ((L.take i).filter s.orph) j))]) = _ by rw [hq]), trivial⟩⟩)
  · have : i = L.length := by have := of_decide_eq_false h2; omega
    subst this
    have e : (L.take L.length).filter s.orph = L.filter s.orph := by rw [List.take_of_length_le (Nat.le_refl _)]
    rw [e]
    exact And.intro trivial (AVle.sl rfl fun j hj => rfl)
set_option maxHeartbeats 1000000 in
theorem l07Orphans_fn (s : Sta) (hE : s.es.length ≤ 1000000000) (hT : s.ts.length ≤ 1000000000) (L : List (List UInt8)) (hL : L.length ≤ 1000000) (hk : ∀ k ∈ L, k.length ≤ 1000000000) : VFn Tryz.prog 201 [s.av, txts L] (txts (L.filter s.orph)) := by
  have hle : ∀ i, ((L.take i).filter s.orph).length ≤ i := fun i => Nat.le_trans (List.length_filter_le _ _) (by simp; omega)
  refine VFn.introC Tryz.call201 Tryz.func201 rfl rfl ?_
  refine LoopC.mk (fun i : Nat => i ≤ L.length) (fun i => [(1, txts L), (2, .bptr 0 0), (5, .osl 1), (6, .int .i64 i)])
    (fun i => [(0, .box s.row), (1, .arr 9 1 ((L.take i).filter s.orph).length fun j => [.str (B (ix ((L.take i).filter s.orph) j))])]) 2 (fun i => L.length - i) 0
    ⟨Nat.zero_le _, [(0, 0), (1, 1)], rfl, rfl, ⟨AVle.refl _, AVle.refl _, AVle.refl _, AVle.refl _, trivial⟩, ⟨MOle.refl _, MOle.arr rfl fun i hi => absurd hi (Nat.not_lt_zero i), trivial⟩⟩ ?_
  intro i hi
  have hli := hle i
  refine Grd.intro (fun h2 => ?_) (fun h2 => ?_)
  · have hin : i < L.length := by have := of_decide_eq_true h2; omega
    have hs := filter_snoc (p := s.orph) hin
    have ch := l06Named_fn s hE hT (ix L i)
    have app : s.orph (ix L i) = true → (L.take (i + 1)).filter s.orph = (L.take i).filter s.orph ++ [ix L i] := fun h => by rw [hs, if_pos h]
    have skp : s.orph (ix L i) = false → (L.take (i + 1)).filter s.orph = (L.take i).filter s.orph := fun h => by rw [hs, if_neg (by rw [h]; simp)]
    clear hs
    have hO : s.orph (ix L i) = (kOk (ix L i) && (!s.has (ix L i) && ((decide (kT (ix L i) = 0) && decide (kN (ix L i) ≤ s.seq)) || (decide (0 < kT (ix L i)) && decide (kW (ix L i) < s.fence))))) := rfl
    refine And.intro (by omega) ?_
    conv => whnf
    refine CallC.sca _ (l03ToKey_fn (ix L i) (hk _ (getD_mem hin))) ?_ ?_
    · exact rfl
    refine DrawC.mk 30 rfl (by kernel_rfl) ?_
    repeat' (conv => whnf
             first
      | refine Grd.intro (fun h => ?_) (fun h => ?_)
      | refine PCallC.sca _ ch rfl ?_
      | (refine CallC.sca _ ch ?_ ?_; exact rfl)
      | refine And.intro ⟨show (0 : Int) ≤ ((i : Nat) : Int) by omega, show ((i : Nat) : Int) < ((L.length : Nat) : Int) by omega⟩ ?_
      | refine And.intro ⟨show (((L.take i).filter s.orph).length + 1) * 16 ≤ 140737488355328 by omega, all1 rfl⟩ ?_
      | refine And.intro (show inI .i64 ((i : Int) + 1) from inI64 (by omega) (by omega)) ?_)
    all_goals first
      | (have hq := app (by rw [hO]; first | (simp_all; done) | (simp_all; intros; omega))
         exact ⟨i + 1, hin, by omega, [(0, 0), (33, 1)], rfl, rfl, ⟨AVle.refl _, AVle.refl _, AVle.refl _, AVle.of_eq (congrArg (AV.int .i64) (by simp)), trivial⟩, ⟨MOle.refl _, arr_next (f := fun s : List UInt8 => [.str (B s)]) hq rfl, trivial⟩⟩)
      | (have hq := skp (by rw [hO]; first | (simp_all; done) | (simp_all; intros; omega))
         exact ⟨i + 1, hin, by omega, [(0, 0), (1, 1)], rfl, rfl, ⟨AVle.refl _, AVle.refl _, AVle.refl _, AVle.of_eq (congrArg (AV.int .i64) (by simp)), trivial⟩, ⟨MOle.refl _, MOle.of_eq (show MO.arr 9 1 ((L.take i).filter s.orph).length (fun j => [.str (B (ix ((L.take i).filter s.orph) j))]) = _ by rw [hq]), trivial⟩⟩)
  · have : i = L.length := by have := of_decide_eq_false h2; omega
    subst this
    have e : (L.take L.length).filter s.orph = L.filter s.orph := by rw [List.take_of_length_le (Nat.le_refl _)]
    rw [e]
    exact And.intro trivial (AVle.sl rfl fun j hj => rfl)
end Go.Proofs.YtbphkhlgcneapaaGreatDoor
set_option linter.unusedVariables false
set_option linter.constructorNameAsVariable false
set_option linter.unusedSimpArgs false
set_option maxRecDepth 20000
namespace Go.Proofs.YtbphkhlgcneapaaGreatDoor
open Go Go.Vw

theorem l05Now_fn (n : Int) : VFn Tryz.prog 122 [.int .i64 n] (.bool (within n 0 101000)) := by
  refine VFn.introC Tryz.call122 Tryz.func122 rfl rfl ?_
  conv => whnf
  refine CallC.sca _ (l01In_fn _ _ _) ?_ ?_
  · exact rfl
  exact And.intro trivial (AVle.refl _)
def ask (s : Sto) (who now : Int) : Int := if s.ok = true then (if within who 0 9 = true ∧ within now 0 101000 = true then 0 else 4) else 1
end Go.Proofs.YtbphkhlgcneapaaGreatDoor
set_option linter.unusedVariables false
set_option linter.constructorNameAsVariable false
set_option linter.unusedSimpArgs false
set_option maxRecDepth 20000
namespace Go.Proofs.YtbphkhlgcneapaaGreatDoor
open Go Go.Vw

end Go.Proofs.YtbphkhlgcneapaaGreatDoor
set_option linter.unusedVariables false
set_option linter.constructorNameAsVariable false
set_option linter.unusedSimpArgs false
set_option maxRecDepth 20000
namespace Go.Proofs.YtbphkhlgcneapaaGreatDoor
open Go Go.Vw

theorem isNow_fn (n : Int) : VFn Tryz.prog 126 [.int .i64 n] (.bool (within n 0 101000)) := by
  refine VFn.introC Tryz.call126 Tryz.func126 rfl rfl ?_
  conv => whnf
  refine CallC.sca _ (within_fn _ _ _) ?_ ?_
  · exact rfl
  exact And.intro trivial (AVle.refl _)
end Go.Proofs.YtbphkhlgcneapaaGreatDoor
set_option linter.unusedVariables false
set_option linter.constructorNameAsVariable false
set_option linter.unusedSimpArgs false
set_option maxRecDepth 20000
namespace Go.Proofs.YtbphkhlgcneapaaGreatDoor
open Go Go.Vw

end Go.Proofs.YtbphkhlgcneapaaGreatDoor
set_option linter.unusedVariables false
set_option linter.constructorNameAsVariable false
set_option linter.unusedSimpArgs false
set_option maxRecDepth 20000
namespace Go.Proofs.YtbphkhlgcneapaaGreatDoor
open Go Go.Vw

theorem IndexStr_2 (L : List (List UInt8)) (hL : L.length ≤ 9223372036854775807) (F : Nat) (r1 r2 : List AV) (p : List UInt8 → Bool) (hp : ∀ e ∈ L, VFn Tryz.prog F [.str (B e), .eptr r1 0, .eptr r2 0] (.bool (p e))) :
    VFn Tryz.prog 254 [txts L, .fn (.func F) [] [.eptr r1 0, .eptr r2 0]] (.int .i64 (fi p L)) := by
  refine VFn.introC Tryz.call254 Tryz.func254 rfl rfl ?_
  refine LoopC.mk (fun i : Nat => i ≤ L.length ∧ ∀ j, j < i → p (ix L j) = false) (fun i => [(0, txts L), (1, .fn (.func F) [] [.eptr r1 0, .eptr r2 0]), (7, .int .i64 L.length), (8, .int .i64 i)]) (fun _ => []) 0 (fun i => L.length - i) 0
    ⟨⟨Nat.zero_le _, fun j hj => absurd hj (Nat.not_lt_zero j)⟩, [], rfl, rfl, ⟨AVle.refl _, AVle.refl _, AVle.refl _, AVle.refl _, trivial⟩, trivial⟩ ?_
  intro i hi
  refine Grd.intro (fun h2 => ?_) (fun h2 => ?_)
  · have hin : i < L.length := by have := of_decide_eq_true h2; omega
    refine And.intro (by omega) ?_
    conv => whnf
    refine CallC.sca _ (hp (ix L i) (getD_mem hin)) ?_ ?_
    · exact rfl
    refine Grd.intro (fun h3 => ?_) (fun h3 => ?_)
    · exact And.intro trivial (AVle.of_eq (congrArg (AV.int .i64) (fi_at hin hi.2 h3).symm))
    · refine And.intro (inI64 (by omega) (by omega)) ?_
      exact ⟨i + 1, ⟨hin, fun j hj => by
        rcases Nat.lt_or_ge j i with h' | h'
        · exact hi.2 j h'
        · rw [show j = i by omega]; exact h3⟩, by omega, [], rfl, rfl, ⟨AVle.refl _, AVle.refl _, AVle.refl _, AVle.of_eq (congrArg (AV.int .i64) (by simp)), trivial⟩, trivial⟩
  · have : i = L.length := by have := of_decide_eq_false h2; omega
    subst this
    exact And.intro trivial (AVle.of_eq (congrArg (AV.int .i64) (fi_none hi.2).symm))
theorem DelStr2_some (L : List (List UInt8)) (hL : L.length ≤ 1000000) (F : Nat) (r1 r2 : List AV) (p : (List UInt8) → Bool) (hp : ∀ e ∈ L, VFn Tryz.prog F [.str (B e), .eptr r1 0, .eptr r2 0] (.bool (p e))) (hs : L.any p = true) :
    FnM Tryz.prog 192 1 [.osl 0, .fn (.func F) [] [.eptr r1 0, .eptr r2 0]] [(0, .arr 9 1 L.length fun i => [.str (B (ix L i))])] (.osl 1) [(1, .arr 9 1 (L.filter fun e => !p e).length fun i => [.str (B (ix (L.filter fun e => !p e) i))])] 2 := by
  have c := IndexStr_2 L (by omega) F r1 r2 p hp
  obtain ⟨i0, hi0, hfi, hp0⟩ : ∃ i0 : Nat, i0 < L.length ∧ fi p L = (i0 : Int) ∧ p (ix L i0) = true ∧ ∀ j, j < i0 → p (ix L j) = false := by
    rcases fi_first p L with ⟨h, _⟩ | h
    · have := fi_any (p := p) (L := L)
      rw [h, hs] at this; simp at this
    · exact h
  rw [hfi] at c
  have hk0 : (L.take (i0 + 1)).filter (fun e => !p e) = L.take i0 := by
    rw [filter_snoc hi0, if_neg (by rw [hp0.1]; simp)]
    exact List.filter_eq_self.2 fun x hx => by
      obtain ⟨j, hj, rfl⟩ := List.getElem_of_mem hx
      have hj' : j < i0 := by simp at hj; omega
      have := hp0.2 j hj'
      rw [ix_lt (by omega)] at this
      simp [this]
  have hlt : ∀ j, i0 < j → j ≤ L.length → ((L.take j).filter fun e => !p e).length < j := fun j h1 h2 => filter_lt h1 h2 (by rw [hp0.1]; rfl)
  refine FnM.introC Tryz.call192 Tryz.func192 rfl rfl ?_
  conv => whnf
  refine CallC.sca _ (c) ?_ ?_
  · exact rfl
  refine And.intro (inI64 (by omega) (by omega)) ?_
  refine LoopC.mk (fun j : Nat => i0 < j ∧ j ≤ L.length) (fun j => [(0, .osl 0), (1, .fn (.func F) [] [.eptr r1 0, .eptr r2 0]), (5, .int .i64 ((L.take j).filter fun e => !p e).length), (6, .int .i64 j)])
    (fun j => [(0, .arr 9 1 L.length fun i => [.str (B (ix (kept p L j) i))])]) 1 (fun j => L.length - j) (i0 + 1)
    ⟨⟨by omega, hi0⟩, [(0, 0)], rfl, rfl, ⟨AVle.refl _, AVle.refl _, AVle.of_eq (congrArg (AV.int .i64) (by rw [hk0]; simp; omega)), AVle.of_eq (congrArg (AV.int .i64) (by simp)), trivial⟩, ⟨MOle.arr rfl fun i hi => by
      have e : kept p L (i0 + 1) = L := by unfold kept; rw [hk0]; simp only [List.length_take]; rw [Nat.min_eq_left (by omega)]; simp
      rw [e], trivial⟩⟩ ?_
  intro j hj
  obtain ⟨hj1, hj2⟩ := hj
  have hkl := hlt j hj1 hj2
  refine Grd.intro (fun h2 => ?_) (fun h2 => ?_)
  · have hjn : j < L.length := by have := of_decide_eq_true h2; omega
    have hsn := filter_snoc (p := fun e => !p e) hjn
    have e := kept_at (p := p) hjn (Nat.le_of_lt hkl)
    have cp := hp (ix L j) (getD_mem hjn)
    rw [← e] at cp
    refine And.intro (by omega) ?_
    conv => whnf
    refine CallC.sca _ (cp) ?_ ?_
    · exact rfl
    refine Grd.intro (fun h3 => ?_) (fun h3 => ?_)
    · have h3 : p (ix L j) = false := by rw [e] at h3; simpa using h3
      rw [h3] at hsn
      have hl := hlt (j + 1) (by omega) hjn
      rw [hsn] at hl
      simp at hl
      refine And.intro (by omega) ?_
      refine And.intro (inI64 (by omega) (by omega)) ?_
      refine And.intro (inI64 (by omega) (by omega)) ?_
      refine ⟨j + 1, ⟨by omega, hjn⟩, by omega, [(0, 0)], rfl, rfl, ⟨AVle.refl _, AVle.refl _, AVle.of_eq (congrArg (AV.int .i64) (by rw [hsn]; simp)), AVle.of_eq (congrArg (AV.int .i64) (by simp)), trivial⟩, ⟨MOle.arr rfl fun k hk => ?_, trivial⟩⟩
      have en := kept_next hjn h3 hkl k hk
      by_cases hkc : k = ((L.take j).filter fun e => !p e).length
      · rw [en, if_pos hkc, ← e]
        show (bif Nat.beq k ((L.take j).filter fun e => !p e).length then _ else _) = _
        rw [hkc, beq_t]; rfl
      · rw [en, if_neg hkc]
        show (bif Nat.beq k ((L.take j).filter fun e => !p e).length then _ else _) = _
        rw [beq_f hkc]; rfl
    · have h3 : p (ix L j) = true := by rw [e] at h3; simpa using h3
      rw [h3] at hsn
      refine And.intro (inI64 (by omega) (by omega)) ?_
      refine ⟨j + 1, ⟨by omega, hjn⟩, by omega, [(0, 0)], rfl, rfl, ⟨AVle.refl _, AVle.refl _, AVle.of_eq (congrArg (AV.int .i64) (by rw [hsn]; simp)), AVle.of_eq (congrArg (AV.int .i64) (by simp)), trivial⟩, ⟨MOle.arr rfl fun k hk => ?_, trivial⟩⟩
      have e2 : kept p L (j + 1) = kept p L j := by unfold kept; rw [hsn]; simp
      rw [e2]
  · have : j = L.length := by have := of_decide_eq_false h2; omega
    subst this
    have eT : L.take L.length = L := List.take_of_length_le (Nat.le_refl _)
    obtain ⟨c, hc⟩ : ∃ c, c = ((L.take L.length).filter fun e => !p e).length := ⟨_, rfl⟩
    have hk : ∀ k, k < c → ix (kept p L L.length) k = ix (L.filter fun e => !p e) k := fun k hk => by
      unfold kept
      rw [ix_app_l (by omega), eT]
    have hcl : c = (L.filter fun e => !p e).length := by rw [hc, eT]
    rw [← hc] at hkl
    rw [← hc]
    refine And.intro ⟨by omega, by omega⟩ ?_
    conv => whnf
    refine OpC.clear rfl rfl rfl rfl rfl rfl rfl (by show 1 ≤ L.length - ((c : Int)).toNat; omega) ?_
    conv => whnf
    refine OpC.head rfl rfl rfl rfl rfl rfl rfl ⟨by omega, by omega⟩ ?_
    refine And.intro trivial ⟨[(0, 0), (1, 1)], rfl, AVle.refl _, ⟨MOle.arr (by show ((c : Int)).toNat = _; omega) fun k hk' => ?_, trivial⟩⟩
    have hk' : k < c := by have : k < ((c : Int)).toNat := hk'; omega
    rw [← hk k hk']
    show (bif Nat.blt k ((c : Int)).toNat then _ else _) = _
    rw [blt_t (show k < ((c : Int)).toNat by omega)]; rfl
theorem DelStr2_none (L : List (List UInt8)) (hL : L.length ≤ 1000000) (F : Nat) (r1 r2 : List AV) (p : List UInt8 → Bool) (hp : ∀ e ∈ L, VFn Tryz.prog F [.str (B e), .eptr r1 0, .eptr r2 0] (.bool (p e))) (hs : L.any p = false) :
    FnM Tryz.prog 192 1 [.osl 0, .fn (.func F) [] [.eptr r1 0, .eptr r2 0]] [(0, .arr 9 1 L.length fun i => [.str (B (ix L i))])] (.osl 0) [(0, .arr 9 1 L.length fun i => [.str (B (ix L i))])] 1 := by
  have c := IndexStr_2 L (by omega) F r1 r2 p hp
  have h1 : fi p L = -1 := by
    rcases fi_first p L with ⟨h, _⟩ | ⟨i, hi, _, hp, _⟩
    · exact h
    · rw [List.any_eq_true.2 ⟨_, getD_mem hi, hp⟩] at hs; cases hs
  rw [h1] at c
  refine FnM.introC Tryz.call192 Tryz.func192 rfl rfl ?_
  conv => whnf
  refine CallC.sca _ (c) ?_ ?_
  · exact rfl
  exact And.intro trivial ⟨[(0, 0)], rfl, AVle.refl _, ⟨MOle.refl _, trivial⟩⟩
theorem HasPrefix_fn (s p : List UInt8) : VFn Tryz.prog 299 [.str (B s), .str (B p)] (.bool (Lib.hasPrefix s p)) := by
  refine VFn.lib Tryz.call299 fun w ok vs hJ hok hv => ?_
  obtain ⟨v, us, rfl, hv, v2, us2, rfl, hv2, hus⟩ := hv
  have e1 : v = .string (B s) := hv
  have e2 : v2 = .string (B p) := hv2
  have e3 : us2 = [] := hus
  subst e1 e2 e3
  refine (Tryz.strings_HasPrefix (B s) (B p) w).mono ?_
  rintro e w' ⟨rfl, rfl⟩
  refine ⟨_, rfl, Go.RowKit.Below.refl _ _, fun _ _ => ?_⟩
  show Value.bool _ = _
  rw [B_data, B_data]
theorem l01Prefix_fn (s p : List UInt8) : VFn Tryz.prog 260 [.str (B s), .str (B p)] (.bool (Lib.hasPrefix s p)) := by
  refine VFn.introC Tryz.call260 Tryz.func260 rfl rfl ?_
  refine Grd.intro (fun g => ?_) (fun g => ?_)
  · have g : p.length ≤ s.length := by
      have h : (((B p).size : Nat) : Int) ≤ (((B s).size : Nat) : Int) := of_decide_eq_true g
      rw [B_size, B_size] at h; omega
    refine And.intro ⟨by rw [B_size]; omega, by rw [B_size, B_size]; omega⟩ ?_
    refine And.intro trivial (AVle.of_eq (congrArg AV.bool (show (((B s).extract 0 (((B p).size : Nat) : Int).toNat).toList == (B p).toList) = _ from ?_)))
    have e : (B s).extract 0 (((B p).size : Nat) : Int).toNat = B (s.take p.length) := by rw [B_extract, B_size]; rfl
    rw [e, B_eq]
    unfold Lib.hasPrefix
    rw [Bool.eq_iff_iff, decide_eq_true_eq, List.isPrefixOf_iff_prefix, List.prefix_iff_eq_take]
    exact ⟨fun h => h.symm, fun h => h.symm⟩
  · have g : ¬ p.length ≤ s.length := by
      have h : ¬ (((B p).size : Nat) : Int) ≤ (((B s).size : Nat) : Int) := of_decide_eq_false g
      rw [B_size, B_size] at h; omega
    have e : Lib.hasPrefix s p = false := by
      rw [← Bool.not_eq_true]
      intro h
      unfold Lib.hasPrefix at h
      exact g (List.isPrefixOf_iff_prefix.1 h).length_le
    rw [e]
    exact And.intro trivial (AVle.refl _)
theorem keys_own (x : Sto) (hL : x.os.length ≤ 1000000) (p : List UInt8) : FnM Tryz.prog 266 0 [x.av, .str (B p)] [] (.osl 0) [(0, .arr 9 1 ((x.os.map (·.key)).filter fun k => Lib.hasPrefix k p).length fun j => [.str (B (ix ((x.os.map (·.key)).filter fun k => Lib.hasPrefix k p) j))])] 1 := by
  have hle : ∀ i, (((x.os.take i).map (·.key)).filter fun k => Lib.hasPrefix k p).length ≤ i := fun i => Nat.le_trans (List.length_filter_le _ _) (by simp; omega)
  refine FnM.introC Tryz.call266 Tryz.func266 rfl rfl ?_
  refine LoopC.mk (fun i : Nat => i ≤ x.os.length) (fun i => [(1, .str (B p)), (5, .osl 1), (10, obs x.os), (11, .int .i64 x.os.length), (12, .int .i64 i)])
    (fun i => [(0, .box x.row), (1, .arr 9 1 (((x.os.take i).map (·.key)).filter fun k => Lib.hasPrefix k p).length fun j => [.str (B (ix (((x.os.take i).map (·.key)).filter fun k => Lib.hasPrefix k p) j))])]) 2 (fun i => x.os.length - i) 0
    ⟨Nat.zero_le _, [(0, 0), (1, 1)], rfl, rfl, ⟨AVle.refl _, AVle.refl _, AVle.refl _, AVle.refl _, AVle.refl _, trivial⟩, ⟨MOle.refl _, MOle.arr rfl fun i hi => absurd hi (Nat.not_lt_zero i), trivial⟩⟩ ?_
  intro i hi
  have hli := hle i
  refine Grd.intro (fun h2 => ?_) (fun h2 => ?_)
  · have hin : i < x.os.length := by have := of_decide_eq_true h2; omega
    have hs := map_take_filter (f := fun o : Ob => o.key) (p := fun k => Lib.hasPrefix k p) hin
    refine And.intro (by omega) ?_
    conv => whnf
    refine CallC.sca _ (HasPrefix_fn (ix x.os i).key p) ?_ ?_
    · exact rfl
    refine Grd.intro (fun h3 => ?_) (fun h3 => ?_)
    · rw [if_pos h3] at hs
      refine And.intro ⟨show ((((x.os.take i).map (·.key)).filter fun k => Lib.hasPrefix k p).length + 1) * 16 ≤ 140737488355328 by omega, all1 rfl⟩ ?_
      refine And.intro (inI64 (by omega) (by omega)) ?_
      exact ⟨i + 1, hin, by omega, [(0, 0), (4, 1)], rfl, rfl, ⟨AVle.refl _, AVle.refl _, AVle.refl _, AVle.refl _, AVle.of_eq (congrArg (AV.int .i64) (by simp)), trivial⟩, ⟨MOle.refl _, arr_next (f := fun s : List UInt8 => [.str (B s)]) hs rfl, trivial⟩⟩
    · rw [if_neg (by rw [h3]; simp)] at hs
      refine And.intro (inI64 (by omega) (by omega)) ?_
      exact ⟨i + 1, hin, by omega, [(0, 0), (1, 1)], rfl, rfl, ⟨AVle.refl _, AVle.refl _, AVle.refl _, AVle.refl _, AVle.of_eq (congrArg (AV.int .i64) (by simp)), trivial⟩, ⟨MOle.refl _, MOle.of_eq (show MO.arr 9 1 (((x.os.take i).map (·.key)).filter fun k => Lib.hasPrefix k p).length (fun j => [.str (B (ix (((x.os.take i).map (·.key)).filter fun k => Lib.hasPrefix k p) j))]) = _ by rw [hs]), trivial⟩⟩
  · have : i = x.os.length := by have := of_decide_eq_false h2; omega
    subst this
    have e : x.os.take x.os.length = x.os := List.take_of_length_le (Nat.le_refl _)
    exact And.intro trivial ⟨[(1, 0)], rfl, AVle.refl _, ⟨MOle.of_eq (show MO.arr 9 1 (((x.os.take x.os.length).map (·.key)).filter fun k => Lib.hasPrefix k p).length (fun j => [.str (B (ix (((x.os.take x.os.length).map (·.key)).filter fun k => Lib.hasPrefix k p) j))]) = _ by rw [e]), trivial⟩⟩
def pinP : List UInt8 := [112, 105, 110, 47]
def pinQ (d : List UInt8) (now : Int) : Bool := numOk d && decide (atoiV d + 6 < now)
def keepK (x : Sto) (now : Int) (k : List UInt8) : Bool := Lib.hasPrefix k pinP && !pinQ (x.get k).data now
def pinL (x : Sto) (now : Int) : List (List UInt8) := (x.os.map (·.key)).filter (keepK x now)
theorem pinL_two (x : Sto) (now : Int) : ((x.os.map (·.key)).filter fun k => Lib.hasPrefix k pinP).filter (fun k => !pinQ (x.get k).data now) = pinL x now := by
  unfold pinL
  rw [List.filter_filter]
  exact List.filter_congr fun k _ => by unfold keepK; rw [Bool.and_comm]
theorem pins1_fn (x : Sto) (hs : x.ok = true) (now : Int) (k : List UInt8) (hk : x.has k = true) : VFn Tryz.prog 267 [.str (B k), .eptr x.row 0, .eptr [.int .i64 now] 0] (.bool (pinQ (x.get k).data now)) := by
  have c := get_fn x hs k
  rw [if_pos hk] at c
  have hd := (get_ok x hs k hk).1
  have cn := number_fn (x.get k).data (by omega)
  unfold pinQ
  by_cases ho : numOk (x.get k).data = true
  · obtain ⟨n, e1, e2, h0, h1⟩ := num_of ho
    rw [ho] at cn ⊢
    refine VFn.introC Tryz.call267 Tryz.func267 rfl rfl ?_
    conv => whnf
    refine CallC.sca _ (c) ?_ ?_
    · exact rfl
    conv => whnf
    refine CallC.sca _ (cn) ?_ ?_
    · exact rfl
    refine And.intro (inI64 (by omega) (by omega)) ?_
    exact And.intro trivial (AVle.refl _)
  · have ho : numOk (x.get k).data = false := by simpa using ho
    rw [ho] at cn ⊢
    refine VFn.introC Tryz.call267 Tryz.func267 rfl rfl ?_
    conv => whnf
    refine CallC.sca _ (c) ?_ ?_
    · exact rfl
    conv => whnf
    refine CallC.sca _ (cn) ?_ ?_
    · exact rfl
    exact And.intro trivial (AVle.refl _)
theorem pins_fn (x : Sto) (hs : x.ok = true) (now : Int) : VFn Tryz.prog 204 [x.av, .int .i64 now] (txts (pinL x now)) := by
  have hL := (Sto.ok_at hs).2.1
  have ck := keys_own x (by omega) pinP
  obtain ⟨K, hK⟩ : ∃ K, K = (x.os.map (·.key)).filter fun k => Lib.hasPrefix k pinP := ⟨_, rfl⟩
  have hKl : K.length ≤ 1000000 := by rw [hK]; have := List.length_filter_le (fun k => Lib.hasPrefix k pinP) (x.os.map (·.key)); simp at this; omega
  have hp : ∀ e ∈ K, VFn Tryz.prog 267 [.str (B e), .eptr x.row 0, .eptr [.int .i64 now] 0] (.bool (pinQ (x.get e).data now)) := fun e he => pins1_fn x hs now e (has_of_mem hs (by rw [hK] at he; exact (List.mem_filter.1 he).1))
  have e2 : (K.filter fun k => !pinQ (x.get k).data now) = pinL x now := by rw [hK]; exact pinL_two x now
  rw [← hK] at ck
  by_cases ha : K.any (fun k => pinQ (x.get k).data now) = true
  · have hd := DelStr2_some K hKl 267 x.row [.int .i64 now] (fun k => pinQ (x.get k).data now) hp ha
    rw [e2] at hd
    refine VFn.introC Tryz.call204 Tryz.func204 rfl rfl ?_
    conv => whnf
    refine CallC.k [] ck rfl rfl (AVsle.refl _) trivial rfl ?_
    conv => whnf
    refine CallC.m [(2, 0)] hd rfl rfl (AVsle.refl _) ⟨MOle.refl _, trivial⟩ rfl ⟨fun i hi => rfl, trivial⟩ rfl ?_
    exact And.intro trivial (AVle.sl rfl fun j hj => rfl)
  · have ha : K.any (fun k => pinQ (x.get k).data now) = false := by simpa using ha
    have hd := DelStr2_none K hKl 267 x.row [.int .i64 now] (fun k => pinQ (x.get k).data now) hp ha
    have e3 : K = pinL x now := by
      rw [← e2]
      exact (List.filter_eq_self.2 fun k hk => by
        have := List.any_eq_false.1 ha k hk
        simpa using this).symm
    rw [e3] at hd ck
    refine VFn.introC Tryz.call204 Tryz.func204 rfl rfl ?_
    conv => whnf
    refine CallC.k [] ck rfl rfl (AVsle.refl _) trivial rfl ?_
    conv => whnf
    refine CallC.m [(2, 0)] hd rfl rfl (AVsle.refl _) ⟨MOle.refl _, trivial⟩ rfl ⟨fun i hi => rfl, trivial⟩ rfl ?_
    exact And.intro trivial (AVle.sl rfl fun j hj => rfl)
theorem get_mem {x : Sto} (hs : x.ok = true) {o : Ob} (ho : o ∈ x.os) : x.get o.key = o := by
  have hh := has_of_mem hs (List.mem_map.2 ⟨o, ho, rfl⟩)
  obtain ⟨h1, h2⟩ := hasK_at hh
  obtain ⟨j, hj, rfl⟩ := List.getElem_of_mem ho
  have hsr := Sto.srt hs
  have e : lb x.os[j].key x.os = j := by
    rcases Nat.lt_trichotomy (lb x.os[j].key x.os) j with h | h | h
    · have := hsr.lt h hj
      rw [h2, ix_lt hj] at this
      exact absurd this (List.lt_irrefl _)
    · exact h
    · have := hsr.lt h h1
      rw [h2, ix_lt hj] at this
      exact absurd this (List.lt_irrefl _)
  unfold Sto.get Sto.pos
  rw [e, ix_lt hj]
theorem l10Pins_fn (x : Sto) (hs : x.ok = true) (now : Int) : VFn Tryz.prog 198 [x.av, .int .i64 now] (txts (pinL x now)) := by
  have hL := (Sto.ok_at hs).2.1
  have hle : ∀ i, (((x.os.take i).map (·.key)).filter (keepK x now)).length ≤ i := fun i => Nat.le_trans (List.length_filter_le _ _) (by simp; omega)
  refine VFn.introC Tryz.call198 Tryz.func198 rfl rfl ?_
  refine LoopC.mk (fun i : Nat => i ≤ x.os.length) (fun i => [(1, .int .i64 now), (2, .bptr 0 0), (5, .osl 1), (6, .int .i64 i)])
    (fun i => [(0, .box x.row), (1, .arr 9 1 (((x.os.take i).map (·.key)).filter (keepK x now)).length fun j => [.str (B (ix (((x.os.take i).map (·.key)).filter (keepK x now)) j))])]) 2 (fun i => x.os.length - i) 0
    ⟨Nat.zero_le _, [(0, 0), (1, 1)], rfl, rfl, ⟨AVle.refl _, AVle.refl _, AVle.refl _, AVle.refl _, trivial⟩, ⟨MOle.refl _, MOle.arr rfl fun i hi => absurd hi (Nat.not_lt_zero i), trivial⟩⟩ ?_
  intro i hi
  have hli := hle i
  refine Grd.intro (fun h2 => ?_) (fun h2 => ?_)
  · have hin : i < x.os.length := by have := of_decide_eq_true h2; omega
    have hmem : ix x.os i ∈ x.os := getD_mem hin
    have hg := get_mem hs hmem
    have hh := has_of_mem hs (List.mem_map.2 ⟨_, hmem, rfl⟩)
    have hd := (get_ok x hs _ hh).1
    rw [hg] at hd
    have hs2 := map_take_filter (f := fun o : Ob => o.key) (p := keepK x now) hin
    have hK : keepK x now (ix x.os i).key = (Lib.hasPrefix (ix x.os i).key pinP && !pinQ (ix x.os i).data now) := by unfold keepK; rw [hg]
    have cn := l02Number_fn (ix x.os i).data (by omega)
    have app : keepK x now (ix x.os i).key = true → ((x.os.take (i + 1)).map (·.key)).filter (keepK x now) = ((x.os.take i).map (·.key)).filter (keepK x now) ++ [(ix x.os i).key] := fun h => by rw [hs2, if_pos h]
    have skp : keepK x now (ix x.os i).key = false → ((x.os.take (i + 1)).map (·.key)).filter (keepK x now) = ((x.os.take i).map (·.key)).filter (keepK x now) := fun h => by rw [hs2, if_neg (by rw [h]; simp)]
    refine And.intro (by omega) ?_
    conv => whnf
    refine CallC.sca _ (l01Prefix_fn (ix x.os i).key pinP) ?_ ?_
    · exact rfl
    refine Grd.intro (fun h3 => ?_) (fun h3 => ?_)
    · have h3 := wnot h3
      have hq := skp (by rw [hK, h3]; rfl)
      refine And.intro (inI64 (by omega) (by omega)) ?_
      exact ⟨i + 1, hin, by omega, [(0, 0), (1, 1)], rfl, rfl, ⟨AVle.refl _, AVle.refl _, AVle.refl _, AVle.of_eq (congrArg (AV.int .i64) (by simp)), trivial⟩, ⟨MOle.refl _, MOle.of_eq (show MO.arr 9 1 (((x.os.take i).map (·.key)).filter (keepK x now)).length (fun j => [.str (B (ix (((x.os.take i).map (·.key)).filter (keepK x now)) j))]) = _ by rw [hq]), trivial⟩⟩
    · have h3 := wyes h3
      rw [h3, Bool.true_and] at hK
      refine And.intro (by omega) ?_
      by_cases ho : numOk (ix x.os i).data = true
      · obtain ⟨n, e1, e2, h0, h1⟩ := num_of ho
        rw [ho, if_pos rfl] at cn
        have hQ : pinQ (ix x.os i).data now = decide (atoiV (ix x.os i).data + 6 < now) := by unfold pinQ; rw [ho]; rfl
        conv => whnf
        refine CallC.sca _ (cn) ?_ ?_
        · exact rfl
        refine And.intro (inI64 (by omega) (by omega)) ?_
        refine Grd.intro (fun h4 => ?_) (fun h4 => ?_)
        · have h4 : now ≤ atoiV (ix x.os i).data + 6 := of_decide_eq_true h4
          have hq := app (by rw [hK, hQ, decide_eq_false (by omega)]; rfl)
          refine And.intro (by omega) ?_
          refine And.intro ⟨show ((((x.os.take i).map (·.key)).filter (keepK x now)).length + 1) * 16 ≤ 140737488355328 by omega, all1 rfl⟩ ?_
          refine And.intro (inI64 (by omega) (by omega)) ?_
          exact ⟨i + 1, hin, by omega, [(0, 0), (3, 1)], rfl, rfl, ⟨AVle.refl _, AVle.refl _, AVle.refl _, AVle.of_eq (congrArg (AV.int .i64) (by simp)), trivial⟩, ⟨MOle.refl _, arr_next (f := fun s : List UInt8 => [.str (B s)]) hq rfl, trivial⟩⟩
        · have h4 : ¬ now ≤ atoiV (ix x.os i).data + 6 := of_decide_eq_false h4
          have hq := skp (by rw [hK, hQ, decide_eq_true (by omega)]; rfl)
          refine And.intro (inI64 (by omega) (by omega)) ?_
          exact ⟨i + 1, hin, by omega, [(0, 0), (1, 1)], rfl, rfl, ⟨AVle.refl _, AVle.refl _, AVle.refl _, AVle.of_eq (congrArg (AV.int .i64) (by simp)), trivial⟩, ⟨MOle.refl _, MOle.of_eq (show MO.arr 9 1 (((x.os.take i).map (·.key)).filter (keepK x now)).length (fun j => [.str (B (ix (((x.os.take i).map (·.key)).filter (keepK x now)) j))]) = _ by rw [hq]), trivial⟩⟩
      · have ho : numOk (ix x.os i).data = false := by simpa using ho
        rw [ho, if_neg (by simp)] at cn
        have hQ : pinQ (ix x.os i).data now = false := by unfold pinQ; rw [ho]; rfl
        have hq := app (by rw [hK, hQ]; rfl)
        conv => whnf
        refine CallC.sca _ (cn) ?_ ?_
        · exact rfl
        refine And.intro (by omega) ?_
        refine And.intro ⟨show ((((x.os.take i).map (·.key)).filter (keepK x now)).length + 1) * 16 ≤ 140737488355328 by omega, all1 rfl⟩ ?_
        refine And.intro (inI64 (by omega) (by omega)) ?_
        exact ⟨i + 1, hin, by omega, [(0, 0), (3, 1)], rfl, rfl, ⟨AVle.refl _, AVle.refl _, AVle.refl _, AVle.of_eq (congrArg (AV.int .i64) (by simp)), trivial⟩, ⟨MOle.refl _, arr_next (f := fun s : List UInt8 => [.str (B s)]) hq rfl, trivial⟩⟩
  · have : i = x.os.length := by have := of_decide_eq_false h2; omega
    subst this
    have e : ((x.os.take x.os.length).map (·.key)).filter (keepK x now) = pinL x now := by rw [List.take_of_length_le (Nat.le_refl _)]; rfl
    rw [e]
    exact And.intro trivial (AVle.sl rfl fun j hj => rfl)
end Go.Proofs.YtbphkhlgcneapaaGreatDoor
