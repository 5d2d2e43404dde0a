/- Contracts of functions that the claim reaches, and the plain law of what they compute; each theorem bears its own conditions. -/
import Derived.Test.YtlbnpndednhdaaaGreatDoorQ10
import Derived.Test.YtlbnpndednhdaaaGreatDoorQ6
set_option linter.unusedVariables false
set_option linter.constructorNameAsVariable false
set_option linter.unusedSimpArgs false
set_option maxRecDepth 20000
namespace Go.Proofs.YtlbnpndednhdaaaGreatDoor
open Go Go.Vw

theorem logS_keys (x : Sto) : (∀ e ∈ (logS x).es, e.key.length ≤ 1000000000) ∧ (∀ e ∈ (logS x).ts, e.key.length ≤ 1000000000) := by
  have hk := (log_b x).2.2.2.kk
  refine ⟨fun e he => ?_, fun e he => ?_⟩
  · have := hk e.key (List.mem_append.2 (.inl (List.mem_map.2 ⟨e, he, rfl⟩)))
    have := key_len this
    omega
  · have := hk e.key (List.mem_append.2 (.inr (List.mem_map.2 ⟨e, he, rfl⟩)))
    have := key_len this
    omega
theorem l13State_fn (x : Sto) (hs : x.ok = true) (ac : List Smp) (hac : smpsOK ac = true) : VFn Tryz.prog 116 [x.av, smps ac] (.bool (satT x ac)) := by
  have hb := log_b x
  have hl := (smps_bd hac).1
  have hkk := logS_keys x
  have c0 := l06Replay_fn x hs
  have c1 := specStateOK_ok (logS x) (by omega) (by omega) hkk.1 hkk.2
  have hen := logS_eok x
  have hlast : ac ≠ [] → ac.all (under x) = decide ((ix ac (ac.length - 1)).t < (logS x).h0) := fun h => last_all hac h x
  have hLb : (logS x).es.length ≤ 400 := by omega
  unfold satT
  refine VFn.introC Tryz.call116 Tryz.func116 rfl rfl ?_
  conv => whnf
  refine CallC.nl _ (c0) ?_ ?_
  · exact rfl
  refine LoopC.mk (fun i : Nat => i ≤ (logS x).es.length ∧ ∀ j, j < i → truE x (ix (logS x).es j) ac = true) (fun i => [(1, smps ac), (2, .bptr 0 0), (5, .bptr 1 0), (6, .int .i64 i)]) (fun i => [(0, .box x.row), (1, .box (logS x).row)]) 2 (fun i => (logS x).es.length - i) 0
    ⟨⟨Nat.zero_le _, fun j hj => absurd hj (Nat.not_lt_zero j)⟩, [(0, 0), (1, 1)], rfl, rfl, ⟨AVle.refl _, AVle.refl _, AVle.refl _, AVle.refl _, trivial⟩, ⟨MOle.refl _, MOle.refl _, trivial⟩⟩ ?_
  intro i hi
  obtain ⟨hi, hall⟩ := hi
  refine Grd.intro (fun h2 => ?_) (fun h2 => ?_)
  · have hin : i < (logS x).es.length := by have := of_decide_eq_true h2; omega
    have ho := En.ok_b (hen _ (getD_mem hin))
    have c2 := l13Entry_fn x hs (ix (logS x).es i) ho.1 ho.2 ac hac
    refine DrawC.mk 9 rfl (by kernel_rfl) ?_
    refine And.intro (by omega) ?_
    by_cases h3 : truE x (ix (logS x).es i) ac = true
    · rw [h3] at c2
      refine PCallC.sca _ (c2) rfl ?_
      refine And.intro (inI64 (by omega) (by omega)) ?_
      exact ⟨i + 1, ⟨hin, fun j hj => by
        rcases Nat.lt_or_ge j i with h' | h'
        · exact hall j h'
        · rw [show j = i by omega]; exact h3⟩, by omega, [(0, 0), (1, 1)], rfl, rfl, ⟨AVle.refl _, AVle.refl _, AVle.refl _, AVle.of_eq (congrArg (AV.int .i64) (by simp)), trivial⟩, ⟨MOle.refl _, MOle.refl _, trivial⟩⟩
    · have h3 : truE x (ix (logS x).es i) ac = false := by simpa using h3
      rw [h3] at c2
      rw [bad_all (p := fun e => truE x e ac) hin h3]
      refine PCallC.sca _ (c2) rfl ?_
      exact And.intro trivial (AVle.of_eq (congrArg AV.bool (by simp)))
  · have : i = (logS x).es.length := by have := of_decide_eq_false h2; omega
    subst this
    rw [pre_all (p := fun e => truE x e ac) hall, Bool.true_and]
    clear hall
    cases hb1 : (logS x).ok
    · rw [hb1] at c1
      refine DrawC.mk 21 rfl (by kernel_rfl) ?_
      refine PCallC.sca _ (c1) rfl ?_
      exact And.intro trivial (AVle.refl _)
    · rw [hb1] at c1
      rw [Bool.true_and]
      by_cases h0 : ac = []
      · subst h0
        refine DrawC.mk 21 rfl (by kernel_rfl) ?_
        refine PCallC.sca _ (c1) rfl ?_
        exact And.intro trivial (AVle.refl _)
      · rw [hlast h0]
        have hp : 0 < ac.length := List.length_pos_iff.2 h0
        have e0 : decide ((ac.length : Int) = 0) = false := decide_eq_false (by omega)
        clear hlast hac
        obtain ⟨a, r, rfl⟩ : ∃ a r, ac = a :: r := by
          cases ac with
          | nil => exact absurd rfl h0
          | cons a r => exact ⟨a, r, rfl⟩
        refine DrawC.mk 21 rfl (by kernel_rfl) ?_
        refine PCallC.sca _ (c1) rfl ?_
        refine And.intro (inI64 (by omega) (by omega)) ?_
        refine And.intro ⟨by omega, by omega⟩ ?_
        refine And.intro ⟨by decide, by decide⟩ ?_
        have ei : (((a :: r).length : Int) - 1).toNat = (a :: r).length - 1 := by omega
        exact And.intro trivial (AVle.of_eq (congrArg AV.bool (show decide ((ix (a :: r) (((a :: r).length : Int) - 1).toNat).t < (logS x).h0) = _ by rw [ei])))
def stR (x : Sto) (ac : List Smp) : AV := if 4096 < ac.length then .tup [.bool false, .int .i64 2] else if (x.ok && smpsOK ac) = true then .tup [.bool (satT x ac), .int .i64 0] else .tup [.bool false, .int .i64 1]
theorem StateTrue_fn (s : Sto) (hL : s.os.length ≤ 1000000000) (hk : ∀ o ∈ s.os, o.key.length ≤ 1000000000) (ac : List Smp) : VFn Tryz.prog 36 [s.av, smps ac] (stR s ac) := by
  have c1 := isLongSmp_fn ac
  have c2 := StoreOK_fn s hL hk
  have c4 := SamplesOK_fn ac
  unfold stR
  by_cases hl : 4096 < ac.length
  · rw [if_pos hl]
    rw [decide_eq_true hl] at c1
    rw [smpsOK_no hl] at c4
    generalize s.ok = b2 at c2
    cases b2
    all_goals
      refine VFn.introC Tryz.call36 Tryz.func36 rfl rfl ?_
      refine DrawC.mk 16 rfl (by kernel_rfl) ?_
      refine PCallC.sca _ (c1) rfl ?_
      refine PCallC.sca _ (c2) rfl ?_
      try (refine PCallC.sca _ c4 rfl ?_)
      refine PCallC.sca _ (first2_of _ _ _ _ ⟨rfl, rfl, rfl, rfl, trivial⟩ rfl (show (if true = true then (2 : Int) else if true = true then 1 else 0) = 2 by decide)) rfl ?_
      exact And.intro trivial (AVle.refl _)
  · rw [if_neg hl]
    rw [decide_eq_false hl] at c1
    by_cases hg : (s.ok && smpsOK ac) = true
    · rw [if_pos hg]
      simp only [Bool.and_eq_true] at hg
      obtain ⟨g2, g4⟩ := hg
      have c5 := stateTrue_fn s g2 ac g4
      rw [g2] at c2
      rw [g4] at c4
      refine VFn.introC Tryz.call36 Tryz.func36 rfl rfl ?_
      refine DrawC.mk 16 rfl (by kernel_rfl) ?_
      refine PCallC.sca _ (c1) rfl ?_
      refine PCallC.sca _ (c2) rfl ?_
      refine PCallC.sca _ (c4) rfl ?_
      refine PCallC.sca _ (first2_of _ _ _ _ ⟨rfl, rfl, rfl, rfl, trivial⟩ rfl (show (if false = true then (2 : Int) else if false = true then 1 else 0) = 0 by decide)) rfl ?_
      conv => whnf
      refine CallC.sca _ (c5) ?_ ?_
      · exact rfl
      exact And.intro trivial (AVle.refl _)
    · rw [if_neg hg]
      generalize s.ok = b2 at c2 hg
      generalize smpsOK ac = b4 at c4 hg
      cases b2 <;> cases b4
      all_goals first | (exfalso; exact hg rfl) | skip
      all_goals
        refine VFn.introC Tryz.call36 Tryz.func36 rfl rfl ?_
        refine DrawC.mk 16 rfl (by kernel_rfl) ?_
        refine PCallC.sca _ (c1) rfl ?_
        refine PCallC.sca _ (c2) rfl ?_
        try (refine PCallC.sca _ c4 rfl ?_)
        refine PCallC.sca _ (first2_of _ _ _ _ ⟨rfl, rfl, rfl, rfl, trivial⟩ rfl (show (if false = true then (2 : Int) else if true = true then 1 else 0) = 1 by decide)) rfl ?_
        exact And.intro trivial (AVle.refl _)
theorem specStateTrue_fn (s : Sto) (hL : s.os.length ≤ 1000000000) (hk : ∀ o ∈ s.os, o.key.length ≤ 1000000000) (hn : -9223372036854775808 ≤ s.next ∧ s.next ≤ 9223372036854775807) (ac : List Smp) : VFn Tryz.prog 35 [s.av, smps ac] (stR s ac) := by
  have c2 := specStoreOK_ok s hL hk hn
  have c4 := specSamplesOK_fn ac
  unfold stR
  by_cases hl : 4096 < ac.length
  · rw [if_pos hl]
    refine VFn.introC Tryz.call35 Tryz.func35 rfl rfl ?_
    refine Grd.intro (fun g => ?_) (fun g => ?_)
    · exact And.intro trivial (AVle.refl _)
    · exfalso; have := of_decide_eq_false g; omega
  · rw [if_neg hl]
    by_cases hg : (s.ok && smpsOK ac) = true
    · rw [if_pos hg]
      simp only [Bool.and_eq_true] at hg
      obtain ⟨g2, g4⟩ := hg
      have c5 := l13State_fn s g2 ac g4
      rw [g2] at c2
      rw [g4] at c4
      refine VFn.introC Tryz.call35 Tryz.func35 rfl rfl ?_
      refine Grd.intro (fun g => ?_) (fun g => ?_)
      · exfalso; have := of_decide_eq_true g; omega
      conv => whnf
      refine CallC.sca _ (c2) ?_ ?_
      · exact rfl
      conv => whnf
      refine CallC.sca _ (c4) ?_ ?_
      · exact rfl
      conv => whnf
      refine CallC.sca _ (c5) ?_ ?_
      · exact rfl
      exact And.intro trivial (AVle.refl _)
    · rw [if_neg hg]
      generalize s.ok = b2 at c2 hg
      generalize smpsOK ac = b4 at c4 hg
      cases b2 <;> cases b4
      all_goals first | (exfalso; exact hg rfl) | skip
      all_goals
        refine VFn.introC Tryz.call35 Tryz.func35 rfl rfl ?_
        refine Grd.intro (fun g => ?_) (fun g => ?_)
        · exfalso; have := of_decide_eq_true g; omega
        conv => whnf
        refine CallC.sca _ (c2) ?_ ?_
        · exact rfl
        repeat' (conv => whnf
                 first
                   | (refine CallC.sca _ c4 ?_ ?_; focus (exact rfl))
                   | fail)
        exact And.intro trivial (AVle.refl _)
theorem stR_tup (s : Sto) (ac : List Smp) : ∃ (b : Bool) (c : Int), stR s ac = .tup [.bool b, .int .i64 c] := by
  unfold stR
  split
  · exact ⟨_, _, rfl⟩
  · split <;> exact ⟨_, _, rfl⟩
theorem law_StateTrue (s : Sto) (h : StoIn s) (ac : List Smp) (ha : ac.length ≤ maxLen) : VFn Tryz.prog 9 [s.av, smps ac] (.bool true) := by
  have ha : ac.length ≤ 9223372036854775807 := by unfold maxLen at ha; omega
  refine VFn.introC Tryz.call9 Tryz.func9 rfl rfl ?_
  conv => whnf
  refine CallC.sca _ (szStore_fn s h) ?_ ?_
  · exact rfl
  by_cases hl : (stoN s : Int) ≤ 1048576
  case neg =>
    rw [szr_no hl]
    exact And.intro trivial (AVle.refl _)
  rw [szr_yes hl]
  obtain ⟨m1, m2, m3⟩ := Sto_small hl
  refine Grd.intro (fun h2 => absurd (of_decide_eq_true h2) (by omega)) (fun _ => ?_)
  conv => whnf
  refine CallC.sca _ (szSampleSE_fn ac (1048576 - (stoN s : Int)) (by omega) (by omega) ha) ?_ ?_
  · exact rfl
  by_cases hl3 : ((ac.length : Nat) : Int) ≤ 1048576 - (stoN s : Int)
  case neg =>
    rw [szr_no hl3]
    exact And.intro trivial (AVle.refl _)
  rw [szr_yes hl3]
  have c1 := specStateTrue_fn s (by omega) (fun o ho => by have := m2 o ho; omega) h.nxt ac
  have c2 := StateTrue_fn s (by omega) (fun o ho => by have := m2 o ho; omega) ac
  obtain ⟨b, c, hbc⟩ := stR_tup s ac
  rw [hbc] at c1 c2
  refine Grd.intro (fun h2 => absurd (of_decide_eq_true h2) (by omega)) (fun _ => ?_)
  conv => whnf
  refine CallC.nl _ (toStore_fn s m1) ?_ ?_
  · exact rfl
  conv => whnf
  refine CallC.nl _ (toSampleS_fn ac (by omega)) ?_ ?_
  · exact rfl
  conv => whnf
  refine CallC.sca _ (c1) ?_ ?_
  · exact rfl
  conv => whnf
  refine CallC.nl _ (toStore_fn s m1) ?_ ?_
  · exact rfl
  conv => whnf
  refine CallC.nl _ (toSampleS_fn ac (by omega)) ?_ ?_
  · exact rfl
  conv => whnf
  refine CallC.sca _ (c2) ?_ ?_
  · exact rfl
  cases b
  all_goals
    conv => whnf
    refine OpC.bneq rfl rfl rfl rfl rfl ?_
    conv => whnf
    refine Grd.intro (fun h => absurd h (by simp)) (fun _ => ?_)
    refine DrawC.mk 5 rfl (by kernel_rfl) ?_
    refine PCallC.nl _ (toStore_fn s m1) rfl ?_
    refine PCallC.sca _ (eqStore_fn s m1) rfl ?_
    conv => whnf
    refine CallC.nl _ (toSampleS_fn ac (by omega)) ?_ ?_
    · exact rfl
    conv => whnf
    refine CallC.sca _ (eqSampleS_fn ac (by omega)) ?_ ?_
    · exact rfl
    exact And.intro trivial (AVle.refl _)
end Go.Proofs.YtlbnpndednhdaaaGreatDoor
