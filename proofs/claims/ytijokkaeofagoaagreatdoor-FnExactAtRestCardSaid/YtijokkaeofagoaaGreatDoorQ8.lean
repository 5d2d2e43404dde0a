/- Contracts of functions that the claim reaches, and the plain law of what they compute; each theorem bears its own conditions. -/
import Derived.Test.YtijokkaeofagoaaGreatDoorQ7
import Derived.Test.YtijokkaeofagoaaGreatDoorQ1
set_option linter.unusedVariables false
set_option linter.constructorNameAsVariable false
set_option linter.unusedSimpArgs false
set_option maxRecDepth 20000
namespace Go.Proofs.YtijokkaeofagoaaGreatDoor
open Go Go.Vw

def kp (k : Int) : Int := if k = 0 then 40 else if k = 1 then 100 else 400
theorem keep_fn (k : Int) (h : k = 0 ∨ k = 1 ∨ k = 2) : VFn Tryz.prog 95 [.int .i64 k] (.int .i64 (kp k)) := by
  rcases h with rfl | rfl | rfl
  · refine VFn.introC Tryz.call95 Tryz.func95 rfl rfl ?_
    refine And.intro ⟨by omega, by show (0 : Int) < ((3 : Nat) : Int); omega⟩ ?_
    exact And.intro trivial (AVle.refl _)
  · refine VFn.introC Tryz.call95 Tryz.func95 rfl rfl ?_
    refine And.intro ⟨by omega, by show (1 : Int) < ((3 : Nat) : Int); omega⟩ ?_
    exact And.intro trivial (AVle.refl _)
  · refine VFn.introC Tryz.call95 Tryz.func95 rfl rfl ?_
    refine And.intro ⟨by omega, by show (2 : Int) < ((3 : Nat) : Int); omega⟩ ?_
    exact And.intro trivial (AVle.refl _)
theorem l04Keep_fn (k : Int) (h : k = 0 ∨ k = 1 ∨ k = 2) : VFn Tryz.prog 160 [.int .i64 k] (.int .i64 (kp k)) := by
  rcases h with rfl | rfl | rfl
  · refine VFn.introC Tryz.call160 Tryz.func160 rfl rfl ?_
    refine And.intro ⟨by omega, by show (0 : Int) < ((3 : Nat) : Int); omega⟩ ?_
    exact And.intro trivial (AVle.refl _)
  · refine VFn.introC Tryz.call160 Tryz.func160 rfl rfl ?_
    refine And.intro ⟨by omega, by show (1 : Int) < ((3 : Nat) : Int); omega⟩ ?_
    exact And.intro trivial (AVle.refl _)
  · refine VFn.introC Tryz.call160 Tryz.func160 rfl rfl ?_
    refine And.intro ⟨by omega, by show (2 : Int) < ((3 : Nat) : Int); omega⟩ ?_
    exact And.intro trivial (AVle.refl _)
def expK (s : Sta) (now k : Int) : Option En := match ofT s.es k with
  | [] => none
  | e :: _ => if e.t + kp k ≤ now ∧ (k = 2 ∨ e.t ≤ s.hi (k + 1)) then some e else none
def expR (s : Sta) (now : Int) : En × Bool := match expK s now 0 with
  | some e => (e, true)
  | none => match expK s now 1 with
    | some e => (e, true)
    | none => match expK s now 2 with
      | some e => (e, true)
      | none => (default, false)
theorem expR_at {s : Sta} {now : Int} {i : Nat} {e : En} (hi : i < 3) (h0 : ∀ j : Nat, j < i → expK s now j = none) (h : expK s now i = some e) : expR s now = (e, true) := by
  unfold expR
  have h3 : i = 0 ∨ i = 1 ∨ i = 2 := by omega
  rcases h3 with rfl | rfl | rfl
  · rw [show expK s now 0 = some e from h]
  · rw [show expK s now 0 = none from h0 0 (by decide), show expK s now 1 = some e from h]
  · rw [show expK s now 0 = none from h0 0 (by decide), show expK s now 1 = none from h0 1 (by decide), show expK s now 2 = some e from h]
theorem expR_no {s : Sta} {now : Int} (h0 : ∀ j : Nat, j < 3 → expK s now j = none) : expR s now = (default, false) := by
  unfold expR
  rw [show expK s now 0 = none from h0 0 (by decide), show expK s now 1 = none from h0 1 (by decide), show expK s now 2 = none from h0 2 (by decide)]
theorem expired_fn (s : Sta) (now : Int) (hn : 0 ≤ now ∧ now ≤ 200000) (h : s.ok = true) : VFn Tryz.prog 39 [s.av, .int .i64 now] (.tup [(expR s now).1.av, .bool (expR s now).2]) := by
  have hO := (staOK_iff s).1 h
  have hb := Sta.hi_b h
  have hL := hO.len
  have hes : ∀ e ∈ s.es, 0 ≤ e.t ∧ e.t ≤ 100000 := fun e he => by
    have := hO.es e he
    simp [En.ok, isRange, within] at this
    omega
  have hof : ∀ k, ∀ e r, ofT s.es k = e :: r → 0 ≤ e.t ∧ e.t ≤ 100000 := fun k e r h => hes e (by
    have : e ∈ ofT s.es k := by rw [h]; simp
    exact (List.mem_filter.1 this).1)
  refine VFn.introC Tryz.call39 Tryz.func39 rfl rfl ?_
  refine LoopC.mk (fun i : Nat => i ≤ 3 ∧ ∀ j : Nat, j < i → expK s now j = none) (fun i => [(1, .int .i64 now), (2, .bptr 0 0), (4, .bptr 1 0), (8, .int .i64 i)]) (fun i => [(0, .box s.row), (1, .box (default : En).row)]) 2 (fun i => 3 - i) 0
    ⟨⟨Nat.zero_le _, fun j hj => absurd hj (Nat.not_lt_zero j)⟩, [(0, 0), (1, 1)], rfl, rfl, ⟨AVle.refl _, AVle.refl _, AVle.refl _, AVle.refl _, trivial⟩, ⟨MOle.refl _, MOle.refl _, trivial⟩⟩ ?_
  intro i hi
  obtain ⟨hi, h0⟩ := hi
  have h4 : i = 0 ∨ i = 1 ∨ i = 2 ∨ i = 3 := by omega
  rcases h4 with rfl | rfl | rfl | rfl
  · have cO := ofS_fn s (by omega) 0
    have cK : VFn Tryz.prog 95 [.int .i64 0] (.int .i64 40) := keep_fn 0 (.inl rfl)
    have nx : ∀ j : Nat, j = 0 + 1 → expK s now 0 = none → ∀ l : Nat, l < j → expK s now l = none := fun j hj hk l hl => by
      rcases Nat.lt_or_ge l 0 with h | h
      · exact h0 l h
      · rw [show l = 0 by omega]; exact hk
    cases hL0 : ofT s.es 0 with
    | nil =>
      rw [hL0] at cO
      conv => whnf
      refine CallC.nl _ (cO) ?_ ?_
      · exact rfl
      refine DrawC.mkQ 28 [] rfl (by kernel_rfl) ?_; refine And.intro (by kernel_rfl) ?_
      refine And.intro (inI64 (by omega) (by omega)) ?_
      exact ⟨1, ⟨by decide, nx 1 rfl (by unfold expK; rw [hL0])⟩, by decide, [(0, 0), (1, 1)], rfl, rfl, ⟨AVle.refl _, AVle.refl _, AVle.refl _, AVle.refl _, trivial⟩, ⟨MOle.refl _, MOle.refl _, trivial⟩⟩
    | cons e r =>
      have he := hof 0 e r hL0
      have hx : (ix (e :: r) (Int.toNat 0)).t = e.t := rfl
      rw [hL0] at cO
      conv => whnf
      refine CallC.nl _ (cO) ?_ ?_
      · exact rfl
      refine DrawC.mkQ 28 [] rfl (by kernel_rfl) ?_; refine And.intro (by kernel_rfl) ?_
      by_cases c2 : e.t + 40 ≤ now
      · by_cases c3 : e.t ≤ s.h1
        · have hk : expK s now 0 = some e := by unfold expK; rw [hL0]; exact if_pos ⟨c2, .inr c3⟩
          rw [expR_at (i := 0) (by decide) h0 hk]
          repeat' (conv => whnf
                   first
                     | (refine Grd.intro (fun _ => ?_) (fun h => ?_); rotate_left; focus (exfalso; revert h; simp [c2, c3]; done))
                     | (refine Grd.intro (fun h => ?_) (fun _ => ?_); focus (exfalso; revert h; simp [c2, c3]; done))
                     | refine PCallQ.sca _ cK rfl ?_
                     | (refine And.intro ?_ ?_; focus (decide; done))
                     | (refine And.intro ?_ ?_; focus (constructor; decide; simp; done))
                     | (refine And.intro ?_ ?_; focus (constructor; decide; simp; omega; done))
                     | (refine And.intro ?_ ?_; focus (apply inI64 <;> omega))
                     | fail)
          exact AVle.refl _
        · skip
          repeat' (conv => whnf
                   first
                     | (refine Grd.intro (fun _ => ?_) (fun h => ?_); rotate_left; focus (exfalso; revert h; simp [c2, c3]; done))
                     | (refine Grd.intro (fun h => ?_) (fun _ => ?_); focus (exfalso; revert h; simp [c2, c3]; done))
                     | refine PCallQ.sca _ cK rfl ?_
                     | (refine And.intro ?_ ?_; focus (decide; done))
                     | (refine And.intro ?_ ?_; focus (constructor; decide; simp; done))
                     | (refine And.intro ?_ ?_; focus (constructor; decide; simp; omega; done))
                     | (refine And.intro ?_ ?_; focus (apply inI64 <;> omega))
                     | fail)
          exact ⟨1, ⟨by decide, nx 1 rfl (by unfold expK; rw [hL0]; exact if_neg (by rintro ⟨_, h | h⟩; exact absurd h (by decide); exact c3 h))⟩, by decide, [(0, 0), (1, 1)], rfl, rfl, ⟨AVle.refl _, AVle.refl _, AVle.refl _, AVle.refl _, trivial⟩, ⟨MOle.refl _, MOle.refl _, trivial⟩⟩
      · skip
        repeat' (conv => whnf
                 first
                   | (refine Grd.intro (fun _ => ?_) (fun h => ?_); rotate_left; focus (exfalso; revert h; simp [c2]; done))
                   | (refine Grd.intro (fun h => ?_) (fun _ => ?_); focus (exfalso; revert h; simp [c2]; done))
                   | refine PCallQ.sca _ cK rfl ?_
                   | (refine And.intro ?_ ?_; focus (decide; done))
                   | (refine And.intro ?_ ?_; focus (constructor; decide; simp; done))
                   | (refine And.intro ?_ ?_; focus (constructor; decide; simp; omega; done))
                   | (refine And.intro ?_ ?_; focus (apply inI64 <;> omega))
                   | fail)
        exact ⟨1, ⟨by decide, nx 1 rfl (by unfold expK; rw [hL0]; exact if_neg (fun h => c2 h.1))⟩, by decide, [(0, 0), (1, 1)], rfl, rfl, ⟨AVle.refl _, AVle.refl _, AVle.refl _, AVle.refl _, trivial⟩, ⟨MOle.refl _, MOle.refl _, trivial⟩⟩
  · have cO := ofS_fn s (by omega) 1
    have cK : VFn Tryz.prog 95 [.int .i64 1] (.int .i64 100) := keep_fn 1 (.inr (.inl rfl))
    have nx : ∀ j : Nat, j = 1 + 1 → expK s now 1 = none → ∀ l : Nat, l < j → expK s now l = none := fun j hj hk l hl => by
      rcases Nat.lt_or_ge l 1 with h | h
      · exact h0 l h
      · rw [show l = 1 by omega]; exact hk
    cases hL0 : ofT s.es 1 with
    | nil =>
      rw [hL0] at cO
      conv => whnf
      refine CallC.nl _ (cO) ?_ ?_
      · exact rfl
      refine DrawC.mkQ 28 [] rfl (by kernel_rfl) ?_; refine And.intro (by kernel_rfl) ?_
      refine And.intro (inI64 (by omega) (by omega)) ?_
      exact ⟨2, ⟨by decide, nx 2 rfl (by unfold expK; rw [hL0])⟩, by decide, [(0, 0), (1, 1)], rfl, rfl, ⟨AVle.refl _, AVle.refl _, AVle.refl _, AVle.refl _, trivial⟩, ⟨MOle.refl _, MOle.refl _, trivial⟩⟩
    | cons e r =>
      have he := hof 1 e r hL0
      have hx : (ix (e :: r) (Int.toNat 0)).t = e.t := rfl
      rw [hL0] at cO
      conv => whnf
      refine CallC.nl _ (cO) ?_ ?_
      · exact rfl
      refine DrawC.mkQ 28 [] rfl (by kernel_rfl) ?_; refine And.intro (by kernel_rfl) ?_
      by_cases c2 : e.t + 100 ≤ now
      · by_cases c3 : e.t ≤ s.h2
        · have hk : expK s now 1 = some e := by unfold expK; rw [hL0]; exact if_pos ⟨c2, .inr c3⟩
          rw [expR_at (i := 1) (by decide) h0 hk]
          repeat' (conv => whnf
                   first
                     | (refine Grd.intro (fun _ => ?_) (fun h => ?_); rotate_left; focus (exfalso; revert h; simp [c2, c3]; done))
                     | (refine Grd.intro (fun h => ?_) (fun _ => ?_); focus (exfalso; revert h; simp [c2, c3]; done))
                     | refine PCallQ.sca _ cK rfl ?_
                     | (refine And.intro ?_ ?_; focus (decide; done))
                     | (refine And.intro ?_ ?_; focus (constructor; decide; simp; done))
                     | (refine And.intro ?_ ?_; focus (constructor; decide; simp; omega; done))
                     | (refine And.intro ?_ ?_; focus (apply inI64 <;> omega))
                     | fail)
          exact AVle.refl _
        · skip
          repeat' (conv => whnf
                   first
                     | (refine Grd.intro (fun _ => ?_) (fun h => ?_); rotate_left; focus (exfalso; revert h; simp [c2, c3]; done))
                     | (refine Grd.intro (fun h => ?_) (fun _ => ?_); focus (exfalso; revert h; simp [c2, c3]; done))
                     | refine PCallQ.sca _ cK rfl ?_
                     | (refine And.intro ?_ ?_; focus (decide; done))
                     | (refine And.intro ?_ ?_; focus (constructor; decide; simp; done))
                     | (refine And.intro ?_ ?_; focus (constructor; decide; simp; omega; done))
                     | (refine And.intro ?_ ?_; focus (apply inI64 <;> omega))
                     | fail)
          exact ⟨2, ⟨by decide, nx 2 rfl (by unfold expK; rw [hL0]; exact if_neg (by rintro ⟨_, h | h⟩; exact absurd h (by decide); exact c3 h))⟩, by decide, [(0, 0), (1, 1)], rfl, rfl, ⟨AVle.refl _, AVle.refl _, AVle.refl _, AVle.refl _, trivial⟩, ⟨MOle.refl _, MOle.refl _, trivial⟩⟩
      · skip
        repeat' (conv => whnf
                 first
                   | (refine Grd.intro (fun _ => ?_) (fun h => ?_); rotate_left; focus (exfalso; revert h; simp [c2]; done))
                   | (refine Grd.intro (fun h => ?_) (fun _ => ?_); focus (exfalso; revert h; simp [c2]; done))
                   | refine PCallQ.sca _ cK rfl ?_
                   | (refine And.intro ?_ ?_; focus (decide; done))
                   | (refine And.intro ?_ ?_; focus (constructor; decide; simp; done))
                   | (refine And.intro ?_ ?_; focus (constructor; decide; simp; omega; done))
                   | (refine And.intro ?_ ?_; focus (apply inI64 <;> omega))
                   | fail)
        exact ⟨2, ⟨by decide, nx 2 rfl (by unfold expK; rw [hL0]; exact if_neg (fun h => c2 h.1))⟩, by decide, [(0, 0), (1, 1)], rfl, rfl, ⟨AVle.refl _, AVle.refl _, AVle.refl _, AVle.refl _, trivial⟩, ⟨MOle.refl _, MOle.refl _, trivial⟩⟩
  · have cO := ofS_fn s (by omega) 2
    have cK : VFn Tryz.prog 95 [.int .i64 2] (.int .i64 400) := keep_fn 2 (.inr (.inr rfl))
    have nx : ∀ j : Nat, j = 2 + 1 → expK s now 2 = none → ∀ l : Nat, l < j → expK s now l = none := fun j hj hk l hl => by
      rcases Nat.lt_or_ge l 2 with h | h
      · exact h0 l h
      · rw [show l = 2 by omega]; exact hk
    cases hL0 : ofT s.es 2 with
    | nil =>
      rw [hL0] at cO
      conv => whnf
      refine CallC.nl _ (cO) ?_ ?_
      · exact rfl
      refine DrawC.mkQ 28 [] rfl (by kernel_rfl) ?_; refine And.intro (by kernel_rfl) ?_
      refine And.intro (inI64 (by omega) (by omega)) ?_
      exact ⟨3, ⟨by decide, nx 3 rfl (by unfold expK; rw [hL0])⟩, by decide, [(0, 0), (1, 1)], rfl, rfl, ⟨AVle.refl _, AVle.refl _, AVle.refl _, AVle.refl _, trivial⟩, ⟨MOle.refl _, MOle.refl _, trivial⟩⟩
    | cons e r =>
      have he := hof 2 e r hL0
      have hx : (ix (e :: r) (Int.toNat 0)).t = e.t := rfl
      rw [hL0] at cO
      conv => whnf
      refine CallC.nl _ (cO) ?_ ?_
      · exact rfl
      refine DrawC.mkQ 28 [] rfl (by kernel_rfl) ?_; refine And.intro (by kernel_rfl) ?_
      by_cases c2 : e.t + 400 ≤ now
      · have hk : expK s now 2 = some e := by unfold expK; rw [hL0]; exact if_pos ⟨c2, .inl rfl⟩
        rw [expR_at (i := 2) (by decide) h0 hk]
        repeat' (conv => whnf
                 first
                   | (refine Grd.intro (fun _ => ?_) (fun h => ?_); rotate_left; focus (exfalso; revert h; simp [c2]; done))
                   | (refine Grd.intro (fun h => ?_) (fun _ => ?_); focus (exfalso; revert h; simp [c2]; done))
                   | refine PCallQ.sca _ cK rfl ?_
                   | (refine And.intro ?_ ?_; focus (decide; done))
                   | (refine And.intro ?_ ?_; focus (constructor; decide; simp; done))
                   | (refine And.intro ?_ ?_; focus (constructor; decide; simp; omega; done))
                   | (refine And.intro ?_ ?_; focus (apply inI64 <;> omega))
                   | fail)
        exact AVle.refl _
      · skip
        repeat' (conv => whnf
                 first
                   | (refine Grd.intro (fun _ => ?_) (fun h => ?_); rotate_left; focus (exfalso; revert h; simp [c2]; done))
                   | (refine Grd.intro (fun h => ?_) (fun _ => ?_); focus (exfalso; revert h; simp [c2]; done))
                   | refine PCallQ.sca _ cK rfl ?_
                   | (refine And.intro ?_ ?_; focus (decide; done))
                   | (refine And.intro ?_ ?_; focus (constructor; decide; simp; done))
                   | (refine And.intro ?_ ?_; focus (constructor; decide; simp; omega; done))
                   | (refine And.intro ?_ ?_; focus (apply inI64 <;> omega))
                   | fail)
        exact ⟨3, ⟨by decide, nx 3 rfl (by unfold expK; rw [hL0]; exact if_neg (fun h => c2 h.1))⟩, by decide, [(0, 0), (1, 1)], rfl, rfl, ⟨AVle.refl _, AVle.refl _, AVle.refl _, AVle.refl _, trivial⟩, ⟨MOle.refl _, MOle.refl _, trivial⟩⟩
  · rw [expR_no h0]
    exact And.intro trivial (AVle.refl _)
theorem l07Expired_fn (s : Sta) (now : Int) (hn : 0 ≤ now ∧ now ≤ 200000) (h : s.ok = true) : VFn Tryz.prog 88 [s.av, .int .i64 now] (.tup [(expR s now).1.av, .bool (expR s now).2]) := by
  have hO := (staOK_iff s).1 h
  have hb := Sta.hi_b h
  have hL := hO.len
  have hes : ∀ e ∈ s.es, 0 ≤ e.t ∧ e.t ≤ 100000 := fun e he => by
    have := hO.es e he
    simp [En.ok, isRange, within] at this
    omega
  refine VFn.introC Tryz.call88 Tryz.func88 rfl rfl ?_
  refine LoopC.mk (fun i : Nat => i ≤ 3 ∧ ∀ j : Nat, j < i → expK s now j = none) (fun i => [(1, .int .i64 now), (2, .bptr 0 0), (4, .bptr 1 0), (6, .int .i64 i)]) (fun i => [(0, .box s.row), (1, .box (default : En).row)]) 2 (fun i => 3 - i) 0
    ⟨⟨Nat.zero_le _, fun j hj => absurd hj (Nat.not_lt_zero j)⟩, [(0, 0), (1, 1)], rfl, rfl, ⟨AVle.refl _, AVle.refl _, AVle.refl _, AVle.refl _, trivial⟩, ⟨MOle.refl _, MOle.refl _, trivial⟩⟩ ?_
  intro i hi
  obtain ⟨hi, h0⟩ := hi
  have h4 : i = 0 ∨ i = 1 ∨ i = 2 ∨ i = 3 := by omega
  rcases h4 with rfl | rfl | rfl | rfl
  · have cO := l06First_fn s (by omega) 0
    have cK : VFn Tryz.prog 160 [.int .i64 0] (.int .i64 40) := l04Keep_fn 0 (.inl rfl)
    have nx : ∀ j : Nat, j = 0 + 1 → expK s now 0 = none → ∀ l : Nat, l < j → expK s now l = none := fun j hj hk l hl => by
      rcases Nat.lt_or_ge l 0 with h | h
      · exact h0 l h
      · rw [show l = 0 by omega]; exact hk
    rcases fi_filter (fun e : En => decide (e.tier = 0)) s.es with ⟨f1, hF⟩ | ⟨q, hq, f1, r, hF⟩
    · have hF : ofT s.es 0 = [] := hF
      rw [f1] at cO
      conv => whnf
      refine CallC.sca _ (cO) ?_ ?_
      · exact rfl
      refine And.intro (inI64 (by omega) (by omega)) ?_
      exact ⟨1, ⟨by decide, nx 1 rfl (by unfold expK; rw [hF])⟩, by decide, [(0, 0), (1, 1)], rfl, rfl, ⟨AVle.refl _, AVle.refl _, AVle.refl _, AVle.refl _, trivial⟩, ⟨MOle.refl _, MOle.refl _, trivial⟩⟩
    · have hF : ofT s.es 0 = ix s.es q :: r := hF
      have he := hes _ (ix_in hq)
      rw [f1] at cO
      conv => whnf
      refine CallC.sca _ (cO) ?_ ?_
      · exact rfl
      refine And.intro (by omega) ?_
      have hx : (ix s.es (q : Int).toNat).t = (ix s.es q).t := rfl
      refine DrawC.mkQ 18 [] rfl (by kernel_rfl) ?_; refine And.intro (by kernel_rfl) ?_
      by_cases c2 : (ix s.es q).t + 40 ≤ now
      · by_cases c3 : (ix s.es q).t ≤ s.h1
        · have hk : expK s now 0 = some (ix s.es q) := by unfold expK; rw [hF]; exact if_pos ⟨c2, .inr c3⟩
          rw [expR_at (i := 0) (by decide) h0 hk]
          repeat' (conv => whnf
                   first
                     | (refine Grd.intro (fun _ => ?_) (fun h => ?_); rotate_left; focus (exfalso; revert h; simp [c2, c3]; done))
                     | (refine Grd.intro (fun h => ?_) (fun _ => ?_); focus (exfalso; revert h; simp [c2, c3]; done))
                     | refine PCallQ.sca _ cK rfl ?_
                     | (refine And.intro ?_ ?_; focus (decide; done))
                     | (refine And.intro ?_ ?_; focus (constructor; decide; simp; done))
                     | (refine And.intro ?_ ?_; focus (constructor; decide; simp; omega; done))
                     | (refine And.intro ?_ ?_; focus (apply inI64 <;> omega))
                     | fail)
          exact AVle.refl _
        · skip
          repeat' (conv => whnf
                   first
                     | (refine Grd.intro (fun _ => ?_) (fun h => ?_); rotate_left; focus (exfalso; revert h; simp [c2, c3]; done))
                     | (refine Grd.intro (fun h => ?_) (fun _ => ?_); focus (exfalso; revert h; simp [c2, c3]; done))
                     | refine PCallQ.sca _ cK rfl ?_
                     | (refine And.intro ?_ ?_; focus (decide; done))
                     | (refine And.intro ?_ ?_; focus (constructor; decide; simp; done))
                     | (refine And.intro ?_ ?_; focus (constructor; decide; simp; omega; done))
                     | (refine And.intro ?_ ?_; focus (apply inI64 <;> omega))
                     | fail)
          exact ⟨1, ⟨by decide, nx 1 rfl (by unfold expK; rw [hF]; exact if_neg (by rintro ⟨_, h | h⟩; exact absurd h (by decide); exact c3 h))⟩, by decide, [(0, 0), (1, 1)], rfl, rfl, ⟨AVle.refl _, AVle.refl _, AVle.refl _, AVle.refl _, trivial⟩, ⟨MOle.refl _, MOle.refl _, trivial⟩⟩
      · skip
        repeat' (conv => whnf
                 first
                   | (refine Grd.intro (fun _ => ?_) (fun h => ?_); rotate_left; focus (exfalso; revert h; simp [c2]; done))
                   | (refine Grd.intro (fun h => ?_) (fun _ => ?_); focus (exfalso; revert h; simp [c2]; done))
                   | refine PCallQ.sca _ cK rfl ?_
                   | (refine And.intro ?_ ?_; focus (decide; done))
                   | (refine And.intro ?_ ?_; focus (constructor; decide; simp; done))
                   | (refine And.intro ?_ ?_; focus (constructor; decide; simp; omega; done))
                   | (refine And.intro ?_ ?_; focus (apply inI64 <;> omega))
                   | fail)
        exact ⟨1, ⟨by decide, nx 1 rfl (by unfold expK; rw [hF]; exact if_neg (fun h => c2 h.1))⟩, by decide, [(0, 0), (1, 1)], rfl, rfl, ⟨AVle.refl _, AVle.refl _, AVle.refl _, AVle.refl _, trivial⟩, ⟨MOle.refl _, MOle.refl _, trivial⟩⟩
  · have cO := l06First_fn s (by omega) 1
    have cK : VFn Tryz.prog 160 [.int .i64 1] (.int .i64 100) := l04Keep_fn 1 (.inr (.inl rfl))
    have nx : ∀ j : Nat, j = 1 + 1 → expK s now 1 = none → ∀ l : Nat, l < j → expK s now l = none := fun j hj hk l hl => by
      rcases Nat.lt_or_ge l 1 with h | h
      · exact h0 l h
      · rw [show l = 1 by omega]; exact hk
    rcases fi_filter (fun e : En => decide (e.tier = 1)) s.es with ⟨f1, hF⟩ | ⟨q, hq, f1, r, hF⟩
    · have hF : ofT s.es 1 = [] := hF
      rw [f1] at cO
      conv => whnf
      refine CallC.sca _ (cO) ?_ ?_
      · exact rfl
      refine And.intro (inI64 (by omega) (by omega)) ?_
      exact ⟨2, ⟨by decide, nx 2 rfl (by unfold expK; rw [hF])⟩, by decide, [(0, 0), (1, 1)], rfl, rfl, ⟨AVle.refl _, AVle.refl _, AVle.refl _, AVle.refl _, trivial⟩, ⟨MOle.refl _, MOle.refl _, trivial⟩⟩
    · have hF : ofT s.es 1 = ix s.es q :: r := hF
      have he := hes _ (ix_in hq)
      rw [f1] at cO
      conv => whnf
      refine CallC.sca _ (cO) ?_ ?_
      · exact rfl
      refine And.intro (by omega) ?_
      have hx : (ix s.es (q : Int).toNat).t = (ix s.es q).t := rfl
      refine DrawC.mkQ 18 [] rfl (by kernel_rfl) ?_; refine And.intro (by kernel_rfl) ?_
      by_cases c2 : (ix s.es q).t + 100 ≤ now
      · by_cases c3 : (ix s.es q).t ≤ s.h2
        · have hk : expK s now 1 = some (ix s.es q) := by unfold expK; rw [hF]; exact if_pos ⟨c2, .inr c3⟩
          rw [expR_at (i := 1) (by decide) h0 hk]
          repeat' (conv => whnf
                   first
                     | (refine Grd.intro (fun _ => ?_) (fun h => ?_); rotate_left; focus (exfalso; revert h; simp [c2, c3]; done))
                     | (refine Grd.intro (fun h => ?_) (fun _ => ?_); focus (exfalso; revert h; simp [c2, c3]; done))
                     | refine PCallQ.sca _ cK rfl ?_
                     | (refine And.intro ?_ ?_; focus (decide; done))
                     | (refine And.intro ?_ ?_; focus (constructor; decide; simp; done))
                     | (refine And.intro ?_ ?_; focus (constructor; decide; simp; omega; done))
                     | (refine And.intro ?_ ?_; focus (apply inI64 <;> omega))
                     | fail)
          exact AVle.refl _
        · skip
          repeat' (conv => whnf
                   first
                     | (refine Grd.intro (fun _ => ?_) (fun h => ?_); rotate_left; focus (exfalso; revert h; simp [c2, c3]; done))
                     | (refine Grd.intro (fun h => ?_) (fun _ => ?_); focus (exfalso; revert h; simp [c2, c3]; done))
                     | refine PCallQ.sca _ cK rfl ?_
                     | (refine And.intro ?_ ?_; focus (decide; done))
                     | (refine And.intro ?_ ?_; focus (constructor; decide; simp; done))
                     | (refine And.intro ?_ ?_; focus (constructor; decide; simp; omega; done))
                     | (refine And.intro ?_ ?_; focus (apply inI64 <;> omega))
                     | fail)
          exact ⟨2, ⟨by decide, nx 2 rfl (by unfold expK; rw [hF]; exact if_neg (by rintro ⟨_, h | h⟩; exact absurd h (by decide); exact c3 h))⟩, by decide, [(0, 0), (1, 1)], rfl, rfl, ⟨AVle.refl _, AVle.refl _, AVle.refl _, AVle.refl _, trivial⟩, ⟨MOle.refl _, MOle.refl _, trivial⟩⟩
      · skip
        repeat' (conv => whnf
                 first
                   | (refine Grd.intro (fun _ => ?_) (fun h => ?_); rotate_left; focus (exfalso; revert h; simp [c2]; done))
                   | (refine Grd.intro (fun h => ?_) (fun _ => ?_); focus (exfalso; revert h; simp [c2]; done))
                   | refine PCallQ.sca _ cK rfl ?_
                   | (refine And.intro ?_ ?_; focus (decide; done))
                   | (refine And.intro ?_ ?_; focus (constructor; decide; simp; done))
                   | (refine And.intro ?_ ?_; focus (constructor; decide; simp; omega; done))
                   | (refine And.intro ?_ ?_; focus (apply inI64 <;> omega))
                   | fail)
        exact ⟨2, ⟨by decide, nx 2 rfl (by unfold expK; rw [hF]; exact if_neg (fun h => c2 h.1))⟩, by decide, [(0, 0), (1, 1)], rfl, rfl, ⟨AVle.refl _, AVle.refl _, AVle.refl _, AVle.refl _, trivial⟩, ⟨MOle.refl _, MOle.refl _, trivial⟩⟩
  · have cO := l06First_fn s (by omega) 2
    have cK : VFn Tryz.prog 160 [.int .i64 2] (.int .i64 400) := l04Keep_fn 2 (.inr (.inr rfl))
    have nx : ∀ j : Nat, j = 2 + 1 → expK s now 2 = none → ∀ l : Nat, l < j → expK s now l = none := fun j hj hk l hl => by
      rcases Nat.lt_or_ge l 2 with h | h
      · exact h0 l h
      · rw [show l = 2 by omega]; exact hk
    rcases fi_filter (fun e : En => decide (e.tier = 2)) s.es with ⟨f1, hF⟩ | ⟨q, hq, f1, r, hF⟩
    · have hF : ofT s.es 2 = [] := hF
      rw [f1] at cO
      conv => whnf
      refine CallC.sca _ (cO) ?_ ?_
      · exact rfl
      refine And.intro (inI64 (by omega) (by omega)) ?_
      exact ⟨3, ⟨by decide, nx 3 rfl (by unfold expK; rw [hF])⟩, by decide, [(0, 0), (1, 1)], rfl, rfl, ⟨AVle.refl _, AVle.refl _, AVle.refl _, AVle.refl _, trivial⟩, ⟨MOle.refl _, MOle.refl _, trivial⟩⟩
    · have hF : ofT s.es 2 = ix s.es q :: r := hF
      have he := hes _ (ix_in hq)
      rw [f1] at cO
      conv => whnf
      refine CallC.sca _ (cO) ?_ ?_
      · exact rfl
      refine And.intro (by omega) ?_
      have hx : (ix s.es (q : Int).toNat).t = (ix s.es q).t := rfl
      refine DrawC.mkQ 18 [] rfl (by kernel_rfl) ?_; refine And.intro (by kernel_rfl) ?_
      by_cases c2 : (ix s.es q).t + 400 ≤ now
      · have hk : expK s now 2 = some (ix s.es q) := by unfold expK; rw [hF]; exact if_pos ⟨c2, .inl rfl⟩
        rw [expR_at (i := 2) (by decide) h0 hk]
        repeat' (conv => whnf
                 first
                   | (refine Grd.intro (fun _ => ?_) (fun h => ?_); rotate_left; focus (exfalso; revert h; simp [c2]; done))
                   | (refine Grd.intro (fun h => ?_) (fun _ => ?_); focus (exfalso; revert h; simp [c2]; done))
                   | refine PCallQ.sca _ cK rfl ?_
                   | (refine And.intro ?_ ?_; focus (decide; done))
                   | (refine And.intro ?_ ?_; focus (constructor; decide; simp; done))
                   | (refine And.intro ?_ ?_; focus (constructor; decide; simp; omega; done))
                   | (refine And.intro ?_ ?_; focus (apply inI64 <;> omega))
                   | fail)
        exact AVle.refl _
      · skip
        repeat' (conv => whnf
                 first
                   | (refine Grd.intro (fun _ => ?_) (fun h => ?_); rotate_left; focus (exfalso; revert h; simp [c2]; done))
                   | (refine Grd.intro (fun h => ?_) (fun _ => ?_); focus (exfalso; revert h; simp [c2]; done))
                   | refine PCallQ.sca _ cK rfl ?_
                   | (refine And.intro ?_ ?_; focus (decide; done))
                   | (refine And.intro ?_ ?_; focus (constructor; decide; simp; done))
                   | (refine And.intro ?_ ?_; focus (constructor; decide; simp; omega; done))
                   | (refine And.intro ?_ ?_; focus (apply inI64 <;> omega))
                   | fail)
        exact ⟨3, ⟨by decide, nx 3 rfl (by unfold expK; rw [hF]; exact if_neg (fun h => c2 h.1))⟩, by decide, [(0, 0), (1, 1)], rfl, rfl, ⟨AVle.refl _, AVle.refl _, AVle.refl _, AVle.refl _, trivial⟩, ⟨MOle.refl _, MOle.refl _, trivial⟩⟩
  · rw [expR_no h0]
    exact And.intro trivial (AVle.refl _)
end Go.Proofs.YtijokkaeofagoaaGreatDoor
set_option linter.unusedVariables false
set_option linter.constructorNameAsVariable false
set_option linter.unusedSimpArgs false
set_option maxRecDepth 20000
namespace Go.Proofs.YtijokkaeofagoaaGreatDoor
open Go Go.Vw

end Go.Proofs.YtijokkaeofagoaaGreatDoor
set_option linter.unusedVariables false
set_option linter.constructorNameAsVariable false
set_option linter.unusedSimpArgs false
set_option maxRecDepth 20000
namespace Go.Proofs.YtijokkaeofagoaaGreatDoor
open Go Go.Vw

theorem toSample_fn (s : Smp) : VFn Tryz.prog 62 [.agg s.row] (.agg s.row) := by
  refine VFn.introC Tryz.call62 Tryz.func62 rfl rfl ?_
  exact And.intro trivial (AVle.refl _)
theorem eqSample_fn (s : Smp) : VFn Tryz.prog 85 [.agg s.row, .agg s.row] (.bool true) := by
  refine VFn.introC Tryz.call85 Tryz.func85 rfl rfl ?_
  iterate 2 (refine Grd.intro (fun h => absurd h (by simp)) (fun _ => ?_))
  exact And.intro trivial (AVle.refl _)
theorem toSampleS_fn (L : List Smp) (hL : L.length ≤ 1048576) : VFn Tryz.prog 25 [smps L] (smps L) := by
  refine VFn.introC Tryz.call25 Tryz.func25 rfl rfl ?_
  refine And.intro ⟨by omega, rfl, (show (16 : Int) * L.length ≤ 140737488355328 by omega), by omega⟩ ?_
  refine LoopC.mk (fun i : Nat => i ≤ L.length) (fun i => [(0, smps L), (3, .osl 0), (4, .int .i64 i)])
    (fun i => [(0, .arr 124 2 L.length (wr (fun i => (ix L i).row) (fun _ => (default : Smp).row) i))]) 1 (fun i => L.length - i) 0
    ⟨Nat.zero_le _, [(0, 0)], rfl, rfl, ⟨AVle.refl _, AVle.refl _, AVle.refl _, trivial⟩, ⟨MOle.arr rfl fun i hi => by rw [wr_ge (Nat.zero_le i)]; rfl, trivial⟩⟩ ?_
  intro i hi
  refine Grd.intro (fun h2 => ?_) (fun h2 => ?_)
  · have hin : i < L.length := by have := of_decide_eq_true h2; omega
    refine And.intro (by omega) ?_
    conv => whnf
    refine CallC.sca _ (toSample_fn (ix L i)) ?_ ?_
    · exact rfl
    refine And.intro (by omega) ?_
    refine And.intro (inI64 (by omega) (by omega)) ?_
    exact ⟨i + 1, hin, by omega, [(0, 0)], rfl, rfl, ⟨AVle.refl _, AVle.refl _, AVle.of_eq (congrArg (AV.int .i64) (by simp)), trivial⟩, ⟨MOle.arr rfl fun k hk => wr_next fun e => by subst e; rw [wr_ge (Nat.le_refl _)]; rfl, trivial⟩⟩
  · have : i = L.length := by have := of_decide_eq_false h2; omega
    subst this
    exact And.intro trivial (AVle.sl rfl fun k hk => wr_lt hk)
theorem eqSampleS_fn (L : List Smp) (hL : L.length ≤ 1048576) : VFn Tryz.prog 34 [smps L, smps L] (.bool true) := by
  refine VFn.introC Tryz.call34 Tryz.func34 rfl rfl ?_
  refine Grd.intro (fun h => absurd h (by simp)) (fun _ => ?_)
  refine LoopC.mk (fun i : Nat => i ≤ L.length) (fun i => [(0, smps L), (1, smps L), (5, .int .i64 i)]) (fun _ => []) 0 (fun i => L.length - i) 0
    ⟨Nat.zero_le _, [], rfl, rfl, ⟨AVle.refl _, AVle.refl _, AVle.refl _, trivial⟩, trivial⟩ ?_
  intro i hi
  refine Grd.intro (fun h2 => ?_) (fun h2 => ?_)
  · have hin : i < L.length := by have := of_decide_eq_true h2; omega
    refine DrawC.mk 10 rfl (by kernel_rfl) ?_
    refine And.intro (by omega) ?_
    refine And.intro (by omega) ?_
    refine PCallC.sca _ (eqSample_fn (ix L i)) rfl ?_
    refine And.intro (inI64 (by omega) (by omega)) ?_
    exact ⟨i + 1, hin, by omega, [], rfl, rfl, ⟨AVle.refl _, AVle.refl _, AVle.of_eq (congrArg (AV.int .i64) (by simp)), trivial⟩, trivial⟩
  · exact And.intro trivial (AVle.refl _)
end Go.Proofs.YtijokkaeofagoaaGreatDoor
