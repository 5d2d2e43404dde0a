/- The law FnPlan; the conditions are the theorem's own. -/
import Derived.Test.YtgiaaaejobhngaaGreatDoorNQ
set_option linter.unusedVariables false
set_option linter.constructorNameAsVariable false
set_option linter.unusedSimpArgs false
set_option maxRecDepth 20000
namespace Go.Proofs.YtgiaaaejobhngaaGreatDoor
open Go Go.Vw

theorem at_fn3 (L : List UInt8) (i n : Int) (hm : L.length ≤ 1048576) (hi : 0 ≤ i ∧ i ≤ 1000) (hn : 1 < n ∧ n ≤ 1000) : ∃ v, (0 ≤ v ∧ v < n) ∧ VFn Tryz.prog 13 [byts L, .int .i64 i, .int .i64 n] (.int .i64 v) := by
  by_cases h0 : L.length = 0
  · refine ⟨(i * 7).tmod n, tmod_b (by omega) (by omega), ?_⟩
    refine VFn.introC Tryz.call13 Tryz.func13 rfl rfl ?_
    refine Grd.intro (fun h => absurd (of_decide_eq_true h) (by omega)) (fun _ => ?_)
    refine Grd.intro (fun h => ?_) (fun h => absurd (of_decide_eq_false h) (by omega))
    refine And.intro (inI64 (by omega) (by omega)) ?_
    refine And.intro (show n ≠ 0 by omega) ?_
    exact And.intro trivial (AVle.refl _)
  · have q1 := tmod_b (n := i) (m := L.length) (by omega) (by omega)
    have q2 := tmod_b (n := i + 1) (m := L.length) (by omega) (by omega)
    have q3 := tdiv_b (n := i) (m := L.length) (by omega) (by omega)
    have b1 := (ix L (i.tmod L.length).toNat).toNat_lt
    have b2 := (ix L ((i + 1).tmod L.length).toNat).toNat_lt
    refine ⟨(((ix L (i.tmod L.length).toNat).toNat : Int) * 31 + ((ix L ((i + 1).tmod L.length).toNat).toNat : Int) + i.tdiv L.length).tmod n, tmod_b (by omega) (by omega), ?_⟩
    refine VFn.introC Tryz.call13 Tryz.func13 rfl rfl ?_
    refine Grd.intro (fun h => absurd (of_decide_eq_true h) (by omega)) (fun _ => ?_)
    refine Grd.intro (fun h => absurd (of_decide_eq_true h) (by omega)) (fun h => ?_)
    refine DrawC.mk 25 rfl (by kernel_rfl) ?_
    refine And.intro (show (L.length : Int) ≠ 0 by omega) ?_
    refine And.intro q1 ?_
    refine And.intro (show inI .i64 _ from inI64 (by omega) (by omega)) ?_
    refine And.intro (show inI .i64 _ from inI64 (by omega) (by omega)) ?_
    refine And.intro (show inI .i64 (i + 1) from inI64 (by omega) (by omega)) ?_
    refine And.intro (show (L.length : Int) ≠ 0 by omega) ?_
    refine And.intro q2 ?_
    refine And.intro (show inI .i64 _ from inI64 (by omega) (by omega)) ?_
    refine And.intro (show inI .i64 _ from inI64 (by omega) (by omega)) ?_
    refine And.intro ⟨show (L.length : Int) ≠ 0 by omega, show inI .i64 (i.tdiv L.length) from inI64 (by omega) (by omega)⟩ ?_
    refine And.intro (show inI .i64 _ from inI64 (by omega) (by omega)) ?_
    refine And.intro (show n ≠ 0 by omega) ?_
    exact And.intro trivial (AVle.refl _)
theorem due_pos (s : Sta) : (0 < s.due ∧ dueT s.h0 s.h1 s.h2 ≠ 0) ∨ (s.due = 0 ∧ dueT s.h0 s.h1 s.h2 = 0) := by
  unfold Sta.due dueT
  rw [show (300000 : Nat) = 299999 + 1 from rfl]
  unfold dueN
  have a := dueN_b 299999 s.h0 (s.h1 + 5) s.h2
  have b := dueN_b 299999 s.h0 s.h1 (s.h2 + 20)
  split
  · exact .inl ⟨by omega, by decide⟩
  · split
    · exact .inl ⟨by omega, by decide⟩
    · exact .inr ⟨rfl, rfl⟩
theorem law_Plan (code : List UInt8) (hc : code.length ≤ 9223372036854775807) (more : List UInt8) (hm : more.length ≤ 9223372036854775807) : VFn Tryz.prog 11 [byts code, byts more] (.bool true) := by
  by_cases hL : 1048576 < code.length
  · refine VFn.introC Tryz.call11 Tryz.func11 rfl rfl ?_
    refine Grd.intro (fun _ => ?_) (fun h => absurd (of_decide_eq_false h) (by omega))
    exact And.intro trivial (AVle.refl _)
  by_cases hL2 : 1048576 < more.length
  · refine VFn.introC Tryz.call11 Tryz.func11 rfl rfl ?_
    refine Grd.intro (fun h => absurd (of_decide_eq_true h) (by omega)) (fun _ => ?_)
    refine Grd.intro (fun _ => ?_) (fun h => absurd (of_decide_eq_false h) (by omega))
    exact And.intro trivial (AVle.refl _)
  obtain ⟨x, ⟨hx, hlo⟩, cx⟩ := StateDrawnL_fn code (by omega)
  obtain ⟨v, hv, cv⟩ := at_fn3 more 0 500 (by omega) (by omega) (by omega)
  have hok := hx.ok
  have hO := (staOK_iff x).1 hok
  have hb := Sta.hi_b hok
  have hlen := hx.len
  have hk1 : ∀ e ∈ x.es, e.key.length ≤ 1000000000 := fun e he => Nat.le_trans (key_len (by have := hO.es e he; unfold En.ok at this; simp only [Bool.and_eq_true] at this; exact this.1)) (by decide)
  have hk2 : ∀ e ∈ x.ts, e.key.length ≤ 1000000000 := fun e he => Nat.le_trans (key_len (hO.ts e he).1) (by decide)
  have c1 := DueWindow_fn x hok (by omega) (by omega)
  have c2 := specDueWindow_fn x hok (by omega) (by omega) hk1 hk2
  have c3 := ExpiredEntry_fn x v (by omega) hok
  have c4 := specExpiredEntry_fn x v (by omega) hok hk1 hk2
  have c5 := DueCount_fn x (by omega) (by omega)
  have c6 := specDueCount_fn x (by omega) (by omega) hk1 hk2
  rw [if_pos hok, if_pos hok] at c5 c6
  generalize expR x v = E at c3 c4
  have hd := due_pos x
  have hft : ∀ e ∈ x.es, e.f < e.t := fun e he => by
    have := hO.es e he
    simp [En.ok] at this
    exact this.2.2.2
  have hof : ∀ k, ∀ e ∈ ofT x.es k, e.f < e.t := fun k e he => hft e (List.mem_filter.1 he).1
  have r0 : runs (ofT x.es 0) x.l0 = some x.h0 := hO.runs 0 (.inl rfl)
  have r1 : runs (ofT x.es 1) x.l1 = some x.h1 := hO.runs 1 (.inr (.inl rfl))
  have hfl : ∀ k a b, ((ofT x.es k).filter (tch a b)).length ≤ 30 := fun k a b => Nat.le_trans (List.length_filter_le _ _) (Nat.le_trans (List.length_filter_le _ _) (by omega))
  generalize x.due = D at c5 c6 hd
  by_cases d1 : x.h1 + 5 ≤ x.h0
  · skip
    have eT : dueT x.h0 x.h1 x.h2 = 1 := by unfold dueT; rw [if_pos d1]
    have eF : dueF x.h0 x.h1 x.h2 = x.h1 := by unfold dueF; rw [if_pos d1]
    rw [eT, eF] at c1 c2
    rw [eT] at hd
    have hD : 0 < D := by rcases hd with h | h; exact h.1; exact absurd h.2 (by decide)
    have cw : VFn Tryz.prog 59 [.int .i64 1] (.tup [.int .i64 5, .int .i64 0]) := WidthOf_fn 1 (.inr (.inl rfl))
    have cI := InputsOf_fn x 1 x.h1 (x.h1 + 5) hok (.inl rfl) (by simp [isRange, within]; omega)
    have hM := cov_ix (x := x.h1) (y := x.h1 + 5) (by omega) r0 (hof 0) hlo.1 d1 _ rfl
    have hMl := hfl 0 x.h1 (x.h1 + 5)
    have cI : VFn Tryz.prog 60 [x.av, .int .i64 1, .int .i64 x.h1, .int .i64 (x.h1 + 5)] (.tup [ents ((ofT x.es 0).filter (tch x.h1 (x.h1 + 5))), .int .i64 0]) := cI
    generalize (ofT x.es 0).filter (tch x.h1 (x.h1 + 5)) = M at hM hMl cI
    obtain ⟨m1, m2, m3, m4⟩ := hM
    refine VFn.introC Tryz.call11 Tryz.func11 rfl rfl ?_
    refine Grd.intro (fun h => absurd (of_decide_eq_true h) (by omega)) (fun _ => ?_)
    refine Grd.intro (fun h => absurd (of_decide_eq_true h) (by omega)) (fun _ => ?_)
    conv => whnf
    refine CallC.nl _ (cx) ?_ ?_
    · exact rfl
    conv => whnf
    refine CallC.sca _ (c1) ?_ ?_
    · exact rfl
    conv => whnf
    refine CallC.sca _ (c2) ?_ ?_
    · exact rfl
    conv => whnf
    refine CallC.sca _ (cv) ?_ ?_
    · exact rfl
    conv => whnf
    refine CallC.sca _ (c3) ?_ ?_
    · exact rfl
    conv => whnf
    refine CallC.sca _ (c4) ?_ ?_
    · exact rfl
    conv => whnf
    refine CallC.sca _ (c5) ?_ ?_
    · exact rfl
    conv => whnf
    refine CallC.sca _ (c6) ?_ ?_
    · exact rfl
    repeat' (conv => whnf
             first
               | (refine OpC.bneq rfl rfl rfl rfl rfl ?_)
               | (refine Grd.intro (fun h => ?_) (fun _ => ?_); focus (exfalso; revert h; simp [hD]; done))
               | (refine Grd.intro (fun _ => ?_) (fun h => ?_); rotate_left; focus (exfalso; revert h; simp [hD]; done))
               | (refine And.intro ?_ ?_; focus (kernel_rfl))
               | (refine CallC.sca _ cw ?_ ?_; focus (exact rfl))
               | fail)
    refine And.intro (inI64 (by omega) (by omega)) ?_
    conv => whnf
    refine CallC.nl _ (cI) ?_ ?_
    · exact rfl
    refine Grd.intro (fun h => absurd (of_decide_eq_true h) (by omega)) (fun _ => ?_)
    refine And.intro ⟨by decide, by omega⟩ ?_
    refine Grd.intro (fun h => ?_) (fun _ => ?_)
    · exfalso
      have h : x.h1 < (ix M 0).f := of_decide_eq_true h
      omega
    refine And.intro (inI64 (by omega) (by omega)) ?_
    refine And.intro ⟨by omega, by omega⟩ ?_
    refine And.intro (inI64 (by omega) (by omega)) ?_
    have eL : (((M.length : Int) - 1).toNat) = M.length - 1 := by omega
    refine Grd.intro (fun h => ?_) (fun _ => ?_)
    · exfalso
      have h : (ix M (((M.length : Int) - 1).toNat)).t < x.h1 + 5 := of_decide_eq_true h
      rw [eL] at h
      omega
    refine LoopC.mk (fun i : Nat => i < M.length) (fun i => [(27, ents M), (29, .int .i64 i)]) (fun _ => []) 0 (fun i => M.length - i) 0
      ⟨m1, [], rfl, rfl, ⟨AVle.refl _, AVle.refl _, trivial⟩, trivial⟩ ?_
    intro i hi
    refine And.intro (inI64 (by omega) (by omega)) ?_
    refine Grd.intro (fun g1 => ?_) (fun g1 => ?_)
    · have hi1 : i + 1 < M.length := by have := of_decide_eq_true g1; omega
      have e4 := m4 i hi1
      refine DrawC.mkQ 11 [] rfl (by kernel_rfl) ?_; refine And.intro (by kernel_rfl) ?_
      refine And.intro ⟨by omega, by omega⟩ ?_
      refine And.intro (inI64 (by omega) (by omega)) ?_
      refine And.intro ⟨by omega, by omega⟩ ?_
      conv => whnf
      have ei : ((i : Int) + 1).toNat = i + 1 := by omega
      refine Grd.intro (fun h => ?_) (fun _ => ?_)
      · exfalso
        have h : (!decide ((ix M i).t = (ix M ((i : Int) + 1).toNat).f)) = true := h
        rw [ei, e4] at h
        simp at h
      refine And.intro (inI64 (by omega) (by omega)) ?_
      exact ⟨i + 1, hi1, by omega, [], rfl, rfl, ⟨AVle.refl _, AVle.of_eq (congrArg (AV.int .i64) (by simp)), trivial⟩, trivial⟩
    · exact And.intro trivial (AVle.refl _)
  by_cases d2 : x.h2 + 20 ≤ x.h1
  · skip
    have eT : dueT x.h0 x.h1 x.h2 = 2 := by unfold dueT; rw [if_neg d1, if_pos d2]
    have eF : dueF x.h0 x.h1 x.h2 = x.h2 := by unfold dueF; rw [if_neg d1, if_pos d2]
    rw [eT, eF] at c1 c2
    rw [eT] at hd
    have hD : 0 < D := by rcases hd with h | h; exact h.1; exact absurd h.2 (by decide)
    have cw : VFn Tryz.prog 59 [.int .i64 2] (.tup [.int .i64 20, .int .i64 0]) := WidthOf_fn 2 (.inr (.inr rfl))
    have cI := InputsOf_fn x 2 x.h2 (x.h2 + 20) hok (.inr rfl) (by simp [isRange, within]; omega)
    have hM := cov_ix (x := x.h2) (y := x.h2 + 20) (by omega) r1 (hof 1) hlo.2 d2 _ rfl
    have hMl := hfl 1 x.h2 (x.h2 + 20)
    have cI : VFn Tryz.prog 60 [x.av, .int .i64 2, .int .i64 x.h2, .int .i64 (x.h2 + 20)] (.tup [ents ((ofT x.es 1).filter (tch x.h2 (x.h2 + 20))), .int .i64 0]) := cI
    generalize (ofT x.es 1).filter (tch x.h2 (x.h2 + 20)) = M at hM hMl cI
    obtain ⟨m1, m2, m3, m4⟩ := hM
    refine VFn.introC Tryz.call11 Tryz.func11 rfl rfl ?_
    refine Grd.intro (fun h => absurd (of_decide_eq_true h) (by omega)) (fun _ => ?_)
    refine Grd.intro (fun h => absurd (of_decide_eq_true h) (by omega)) (fun _ => ?_)
    conv => whnf
    refine CallC.nl _ (cx) ?_ ?_
    · exact rfl
    conv => whnf
    refine CallC.sca _ (c1) ?_ ?_
    · exact rfl
    conv => whnf
    refine CallC.sca _ (c2) ?_ ?_
    · exact rfl
    conv => whnf
    refine CallC.sca _ (cv) ?_ ?_
    · exact rfl
    conv => whnf
    refine CallC.sca _ (c3) ?_ ?_
    · exact rfl
    conv => whnf
    refine CallC.sca _ (c4) ?_ ?_
    · exact rfl
    conv => whnf
    refine CallC.sca _ (c5) ?_ ?_
    · exact rfl
    conv => whnf
    refine CallC.sca _ (c6) ?_ ?_
    · exact rfl
    repeat' (conv => whnf
             first
               | (refine OpC.bneq rfl rfl rfl rfl rfl ?_)
               | (refine Grd.intro (fun h => ?_) (fun _ => ?_); focus (exfalso; revert h; simp [hD]; done))
               | (refine Grd.intro (fun _ => ?_) (fun h => ?_); rotate_left; focus (exfalso; revert h; simp [hD]; done))
               | (refine And.intro ?_ ?_; focus (kernel_rfl))
               | (refine CallC.sca _ cw ?_ ?_; focus (exact rfl))
               | fail)
    refine And.intro (inI64 (by omega) (by omega)) ?_
    conv => whnf
    refine CallC.nl _ (cI) ?_ ?_
    · exact rfl
    refine Grd.intro (fun h => absurd (of_decide_eq_true h) (by omega)) (fun _ => ?_)
    refine And.intro ⟨by decide, by omega⟩ ?_
    refine Grd.intro (fun h => ?_) (fun _ => ?_)
    · exfalso
      have h : x.h2 < (ix M 0).f := of_decide_eq_true h
      omega
    refine And.intro (inI64 (by omega) (by omega)) ?_
    refine And.intro ⟨by omega, by omega⟩ ?_
    refine And.intro (inI64 (by omega) (by omega)) ?_
    have eL : (((M.length : Int) - 1).toNat) = M.length - 1 := by omega
    refine Grd.intro (fun h => ?_) (fun _ => ?_)
    · exfalso
      have h : (ix M (((M.length : Int) - 1).toNat)).t < x.h2 + 20 := of_decide_eq_true h
      rw [eL] at h
      omega
    refine LoopC.mk (fun i : Nat => i < M.length) (fun i => [(27, ents M), (29, .int .i64 i)]) (fun _ => []) 0 (fun i => M.length - i) 0
      ⟨m1, [], rfl, rfl, ⟨AVle.refl _, AVle.refl _, trivial⟩, trivial⟩ ?_
    intro i hi
    refine And.intro (inI64 (by omega) (by omega)) ?_
    refine Grd.intro (fun g1 => ?_) (fun g1 => ?_)
    · have hi1 : i + 1 < M.length := by have := of_decide_eq_true g1; omega
      have e4 := m4 i hi1
      refine DrawC.mkQ 11 [] rfl (by kernel_rfl) ?_; refine And.intro (by kernel_rfl) ?_
      refine And.intro ⟨by omega, by omega⟩ ?_
      refine And.intro (inI64 (by omega) (by omega)) ?_
      refine And.intro ⟨by omega, by omega⟩ ?_
      conv => whnf
      have ei : ((i : Int) + 1).toNat = i + 1 := by omega
      refine Grd.intro (fun h => ?_) (fun _ => ?_)
      · exfalso
        have h : (!decide ((ix M i).t = (ix M ((i : Int) + 1).toNat).f)) = true := h
        rw [ei, e4] at h
        simp at h
      refine And.intro (inI64 (by omega) (by omega)) ?_
      exact ⟨i + 1, hi1, by omega, [], rfl, rfl, ⟨AVle.refl _, AVle.of_eq (congrArg (AV.int .i64) (by simp)), trivial⟩, trivial⟩
    · exact And.intro trivial (AVle.refl _)
  have eT : dueT x.h0 x.h1 x.h2 = 0 := by unfold dueT; rw [if_neg d1, if_neg d2]
  have eF : dueF x.h0 x.h1 x.h2 = 0 := by unfold dueF; rw [if_neg d1, if_neg d2]
  rw [eT, eF] at c1 c2
  rw [eT] at hd
  have hD : D = 0 := by rcases hd with h | h; exact absurd rfl h.2; exact h.1
  refine VFn.introC Tryz.call11 Tryz.func11 rfl rfl ?_
  refine Grd.intro (fun h => absurd (of_decide_eq_true h) (by omega)) (fun _ => ?_)
  refine Grd.intro (fun h => absurd (of_decide_eq_true h) (by omega)) (fun _ => ?_)
  conv => whnf
  refine CallC.nl _ (cx) ?_ ?_
  · exact rfl
  conv => whnf
  refine CallC.sca _ (c1) ?_ ?_
  · exact rfl
  conv => whnf
  refine CallC.sca _ (c2) ?_ ?_
  · exact rfl
  conv => whnf
  refine CallC.sca _ (cv) ?_ ?_
  · exact rfl
  conv => whnf
  refine CallC.sca _ (c3) ?_ ?_
  · exact rfl
  conv => whnf
  refine CallC.sca _ (c4) ?_ ?_
  · exact rfl
  conv => whnf
  refine CallC.sca _ (c5) ?_ ?_
  · exact rfl
  conv => whnf
  refine CallC.sca _ (c6) ?_ ?_
  · exact rfl
  repeat' (conv => whnf
           first
             | (refine OpC.bneq rfl rfl rfl rfl rfl ?_)
             | (refine Grd.intro (fun h => ?_) (fun _ => ?_); focus (exfalso; revert h; simp [hD]; done))
             | (refine Grd.intro (fun _ => ?_) (fun h => ?_); rotate_left; focus (exfalso; revert h; simp [hD]; done))
             | (refine And.intro ?_ ?_; focus (kernel_rfl))
             | fail)
  exact And.intro trivial (AVle.refl _)
end Go.Proofs.YtgiaaaejobhngaaGreatDoor
