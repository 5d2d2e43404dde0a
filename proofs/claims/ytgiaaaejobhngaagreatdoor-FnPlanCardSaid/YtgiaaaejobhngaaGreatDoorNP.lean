/- Plans: contracts; the conditions are the theorems' own. -/
import Derived.Test.YtgiaaaejobhngaaGreatDoorQ7
import Derived.Test.YtgiaaaejobhngaaGreatDoorQ1
set_option linter.unusedVariables false
set_option linter.constructorNameAsVariable false
set_option linter.unusedSimpArgs false
set_option maxRecDepth 20000
namespace Go.Proofs.YtgiaaaejobhngaaGreatDoor
open Go Go.Vw

def kp (k : Int) : Int := if k = 0 then 40 else if k = 1 then 100 else 400
theorem keep_fn (k : Int) (h : k = 0 ∨ k = 1 ∨ k = 2) : VFn Tryz.prog 203 [.int .i64 k] (.int .i64 (kp k)) := by
  rcases h with rfl | rfl | rfl
  · refine VFn.introC Tryz.call203 Tryz.func203 rfl rfl ?_
    refine And.intro ⟨by omega, by show (0 : Int) < ((3 : Nat) : Int); omega⟩ ?_
    exact And.intro trivial (AVle.refl _)
  · refine VFn.introC Tryz.call203 Tryz.func203 rfl rfl ?_
    refine And.intro ⟨by omega, by show (1 : Int) < ((3 : Nat) : Int); omega⟩ ?_
    exact And.intro trivial (AVle.refl _)
  · refine VFn.introC Tryz.call203 Tryz.func203 rfl rfl ?_
    refine And.intro ⟨by omega, by show (2 : Int) < ((3 : Nat) : Int); omega⟩ ?_
    exact And.intro trivial (AVle.refl _)
theorem l04Keep_fn (k : Int) (h : k = 0 ∨ k = 1 ∨ k = 2) : VFn Tryz.prog 204 [.int .i64 k] (.int .i64 (kp k)) := by
  rcases h with rfl | rfl | rfl
  · refine VFn.introC Tryz.call204 Tryz.func204 rfl rfl ?_
    refine And.intro ⟨by omega, by show (0 : Int) < ((3 : Nat) : Int); omega⟩ ?_
    exact And.intro trivial (AVle.refl _)
  · refine VFn.introC Tryz.call204 Tryz.func204 rfl rfl ?_
    refine And.intro ⟨by omega, by show (1 : Int) < ((3 : Nat) : Int); omega⟩ ?_
    exact And.intro trivial (AVle.refl _)
  · refine VFn.introC Tryz.call204 Tryz.func204 rfl rfl ?_
    refine And.intro ⟨by omega, by show (2 : Int) < ((3 : Nat) : Int); omega⟩ ?_
    exact And.intro trivial (AVle.refl _)
theorem DueWindow_fn (s : Sta) (h : s.ok = true) (hL : s.es.length ≤ 1000000) (hT : s.ts.length ≤ 1000000) : VFn Tryz.prog 53 [s.av] (.tup [.int .i64 (dueT s.h0 s.h1 s.h2), .int .i64 (dueF s.h0 s.h1 s.h2), .bool (!decide (dueT s.h0 s.h1 s.h2 = 0)), .int .i64 0]) := by
  have c := StateOK_fn s (by omega) (by omega)
  have hb := Sta.hi_b h
  rw [h] at c
  refine VFn.introC Tryz.call53 Tryz.func53 rfl rfl ?_
  conv => whnf
  refine CallC.sca _ (c) ?_ ?_
  · exact rfl
  conv => whnf
  refine CallC.sca _ (due_fn s (by omega) (by omega) (by omega)) ?_ ?_
  · exact rfl
  exact And.intro trivial (AVle.refl _)
theorem specDueWindow_fn (s : Sta) (h : s.ok = true) (hL : s.es.length ≤ 1000000) (hT : s.ts.length ≤ 1000000) (hk1 : ∀ e ∈ s.es, e.key.length ≤ 1000000000) (hk2 : ∀ e ∈ s.ts, e.key.length ≤ 1000000000) : VFn Tryz.prog 54 [s.av] (.tup [.int .i64 (dueT s.h0 s.h1 s.h2), .int .i64 (dueF s.h0 s.h1 s.h2), .bool (!decide (dueT s.h0 s.h1 s.h2 = 0)), .int .i64 0]) := by
  have c := specStateOK_ok s (by omega) (by omega) hk1 hk2
  have hb := Sta.hi_b h
  rw [h] at c
  refine VFn.introC Tryz.call54 Tryz.func54 rfl rfl ?_
  conv => whnf
  refine CallC.sca _ (c) ?_ ?_
  · exact rfl
  conv => whnf
  refine CallC.sca _ (l07Due_fn s (by omega) (by omega) (by omega)) ?_ ?_
  · exact rfl
  exact And.intro trivial (AVle.refl _)
theorem WidthOf_fn (k : Int) (h : k = 0 ∨ k = 1 ∨ k = 2) : VFn Tryz.prog 59 [.int .i64 k] (.tup [.int .i64 (wd k), .int .i64 0]) := by
  have c := isTier_fn k
  rw [show within k 0 2 = true by simp [within]; omega] at c
  refine VFn.introC Tryz.call59 Tryz.func59 rfl rfl ?_
  conv => whnf
  refine CallC.sca _ (c) ?_ ?_
  · exact rfl
  conv => whnf
  refine CallC.sca _ (width_fn k h) ?_ ?_
  · exact rfl
  exact And.intro trivial (AVle.refl _)
def expK (s : Sta) (now k : Int) : Option En := match ofT s.es k with
  | [] => none
  | e :: _ => if e.t + kp k ≤ now ∧ (k = 2 ∨ e.t ≤ s.hi (k + 1)) then some e else none
def expR (s : Sta) (now : Int) : En × Bool := match expK s now 0 with
  | some e => (e, true)
  | none => match expK s now 1 with
    | some e => (e, true)
    | none => match expK s now 2 with
      | some e => (e, true)
      | none => (default, false)
theorem expR_at {s : Sta} {now : Int} {i : Nat} {e : En} (hi : i < 3) (h0 : ∀ j : Nat, j < i → expK s now j = none) (h : expK s now i = some e) : expR s now = (e, true) := by
  unfold expR
  have h3 : i = 0 ∨ i = 1 ∨ i = 2 := by omega
  rcases h3 with rfl | rfl | rfl
  · rw [show expK s now 0 = some e from h]
  · rw [show expK s now 0 = none from h0 0 (by decide), show expK s now 1 = some e from h]
  · rw [show expK s now 0 = none from h0 0 (by decide), show expK s now 1 = none from h0 1 (by decide), show expK s now 2 = some e from h]
theorem expR_no {s : Sta} {now : Int} (h0 : ∀ j : Nat, j < 3 → expK s now j = none) : expR s now = (default, false) := by
  unfold expR
  rw [show expK s now 0 = none from h0 0 (by decide), show expK s now 1 = none from h0 1 (by decide), show expK s now 2 = none from h0 2 (by decide)]
theorem expired_fn (s : Sta) (now : Int) (hn : 0 ≤ now ∧ now ≤ 200000) (h : s.ok = true) : VFn Tryz.prog 132 [s.av, .int .i64 now] (.tup [(expR s now).1.av, .bool (expR s now).2]) := by
  have hO := (staOK_iff s).1 h
  have hb := Sta.hi_b h
  have hL := hO.len
  have hes : ∀ e ∈ s.es, 0 ≤ e.t ∧ e.t ≤ 100000 := fun e he => by
    have := hO.es e he
    simp [En.ok, isRange, within] at this
    omega
  have hof : ∀ k, ∀ e r, ofT s.es k = e :: r → 0 ≤ e.t ∧ e.t ≤ 100000 := fun k e r h => hes e (by
    have : e ∈ ofT s.es k := by rw [h]; simp
    exact (List.mem_filter.1 this).1)
  refine VFn.introC Tryz.call132 Tryz.func132 rfl rfl ?_
  refine LoopC.mk (fun i : Nat => i ≤ 3 ∧ ∀ j : Nat, j < i → expK s now j = none) (fun i => [(1, .int .i64 now), (2, .bptr 0 0), (4, .bptr 1 0), (8, .int .i64 i)]) (fun i => [(0, .box s.row), (1, .box (default : En).row)]) 2 (fun i => 3 - i) 0
    ⟨⟨Nat.zero_le _, fun j hj => absurd hj (Nat.not_lt_zero j)⟩, [(0, 0), (1, 1)], rfl, rfl, ⟨AVle.refl _, AVle.refl _, AVle.refl _, AVle.refl _, trivial⟩, ⟨MOle.refl _, MOle.refl _, trivial⟩⟩ ?_
  intro i hi
  obtain ⟨hi, h0⟩ := hi
  have h4 : i = 0 ∨ i = 1 ∨ i = 2 ∨ i = 3 := by omega
  rcases h4 with rfl | rfl | rfl | rfl
  · have cO := ofS_fn s (by omega) 0
    have cK : VFn Tryz.prog 203 [.int .i64 0] (.int .i64 40) := keep_fn 0 (.inl rfl)
    have nx : ∀ j : Nat, j = 0 + 1 → expK s now 0 = none → ∀ l : Nat, l < j → expK s now l = none := fun j hj hk l hl => by
      rcases Nat.lt_or_ge l 0 with h | h
      · exact h0 l h
      · rw [show l = 0 by omega]; exact hk
    cases hL0 : ofT s.es 0 with
    | nil =>
      rw [hL0] at cO
      conv => whnf
      refine CallC.nl _ (cO) ?_ ?_
      · exact rfl
      refine DrawC.mkQ 28 [] rfl (by kernel_rfl) ?_; refine And.intro (by kernel_rfl) ?_
      refine And.intro (inI64 (by omega) (by omega)) ?_
      exact ⟨1, ⟨by decide, nx 1 rfl (by unfold expK; rw [hL0])⟩, by decide, [(0, 0), (1, 1)], rfl, rfl, ⟨AVle.refl _, AVle.refl _, AVle.refl _, AVle.refl _, trivial⟩, ⟨MOle.refl _, MOle.refl _, trivial⟩⟩
    | cons e r =>
      have he := hof 0 e r hL0
      have hx : (ix (e :: r) (Int.toNat 0)).t = e.t := rfl
      rw [hL0] at cO
      conv => whnf
      refine CallC.nl _ (cO) ?_ ?_
      · exact rfl
      refine DrawC.mkQ 28 [] rfl (by kernel_rfl) ?_; refine And.intro (by kernel_rfl) ?_
      by_cases c2 : e.t + 40 ≤ now
      · by_cases c3 : e.t ≤ s.h1
        · have hk : expK s now 0 = some e := by unfold expK; rw [hL0]; exact if_pos ⟨c2, .inr c3⟩
          rw [expR_at (i := 0) (by decide) h0 hk]
          repeat' (conv => whnf
                   first
                     | (refine Grd.intro (fun _ => ?_) (fun h => ?_); rotate_left; focus (exfalso; revert h; simp [c2, c3]; done))
                     | (refine Grd.intro (fun h => ?_) (fun _ => ?_); focus (exfalso; revert h; simp [c2, c3]; done))
                     | refine PCallQ.sca _ cK rfl ?_
                     | (refine And.intro ?_ ?_; focus (decide; done))
                     | (refine And.intro ?_ ?_; focus (constructor; decide; simp; done))
                     | (refine And.intro ?_ ?_; focus (constructor; decide; simp; omega; done))
                     | (refine And.intro ?_ ?_; focus (apply inI64 <;> omega))
                     | fail)
          exact AVle.refl _
        · skip
          repeat' (conv => whnf
                   first
                     | (refine Grd.intro (fun _ => ?_) (fun h => ?_); rotate_left; focus (exfalso; revert h; simp [c2, c3]; done))
                     | (refine Grd.intro (fun h => ?_) (fun _ => ?_); focus (exfalso; revert h; simp [c2, c3]; done))
                     | refine PCallQ.sca _ cK rfl ?_
                     | (refine And.intro ?_ ?_; focus (decide; done))
                     | (refine And.intro ?_ ?_; focus (constructor; decide; simp; done))
                     | (refine And.intro ?_ ?_; focus (constructor; decide; simp; omega; done))
                     | (refine And.intro ?_ ?_; focus (apply inI64 <;> omega))
                     | fail)
          exact ⟨1, ⟨by decide, nx 1 rfl (by unfold expK; rw [hL0]; exact if_neg (by rintro ⟨_, h | h⟩; exact absurd h (by decide); exact c3 h))⟩, by decide, [(0, 0), (1, 1)], rfl, rfl, ⟨AVle.refl _, AVle.refl _, AVle.refl _, AVle.refl _, trivial⟩, ⟨MOle.refl _, MOle.refl _, trivial⟩⟩
      · skip
        repeat' (conv => whnf
                 first
                   | (refine Grd.intro (fun _ => ?_) (fun h => ?_); rotate_left; focus (exfalso; revert h; simp [c2]; done))
                   | (refine Grd.intro (fun h => ?_) (fun _ => ?_); focus (exfalso; revert h; simp [c2]; done))
                   | refine PCallQ.sca _ cK rfl ?_
                   | (refine And.intro ?_ ?_; focus (decide; done))
                   | (refine And.intro ?_ ?_; focus (constructor; decide; simp; done))
                   | (refine And.intro ?_ ?_; focus (constructor; decide; simp; omega; done))
                   | (refine And.intro ?_ ?_; focus (apply inI64 <;> omega))
                   | fail)
        exact ⟨1, ⟨by decide, nx 1 rfl (by unfold expK; rw [hL0]; exact if_neg (fun h => c2 h.1))⟩, by decide, [(0, 0), (1, 1)], rfl, rfl, ⟨AVle.refl _, AVle.refl _, AVle.refl _, AVle.refl _, trivial⟩, ⟨MOle.refl _, MOle.refl _, trivial⟩⟩
  · have cO := ofS_fn s (by omega) 1
    have cK : VFn Tryz.prog 203 [.int .i64 1] (.int .i64 100) := keep_fn 1 (.inr (.inl rfl))
    have nx : ∀ j : Nat, j = 1 + 1 → expK s now 1 = none → ∀ l : Nat, l < j → expK s now l = none := fun j hj hk l hl => by
      rcases Nat.lt_or_ge l 1 with h | h
      · exact h0 l h
      · rw [show l = 1 by omega]; exact hk
    cases hL0 : ofT s.es 1 with
    | nil =>
      rw [hL0] at cO
      conv => whnf
      refine CallC.nl _ (cO) ?_ ?_
      · exact rfl
      refine DrawC.mkQ 28 [] rfl (by kernel_rfl) ?_; refine And.intro (by kernel_rfl) ?_
      refine And.intro (inI64 (by omega) (by omega)) ?_
      exact ⟨2, ⟨by decide, nx 2 rfl (by unfold expK; rw [hL0])⟩, by decide, [(0, 0), (1, 1)], rfl, rfl, ⟨AVle.refl _, AVle.refl _, AVle.refl _, AVle.refl _, trivial⟩, ⟨MOle.refl _, MOle.refl _, trivial⟩⟩
    | cons e r =>
      have he := hof 1 e r hL0
      have hx : (ix (e :: r) (Int.toNat 0)).t = e.t := rfl
      rw [hL0] at cO
      conv => whnf
      refine CallC.nl _ (cO) ?_ ?_
      · exact rfl
      refine DrawC.mkQ 28 [] rfl (by kernel_rfl) ?_; refine And.intro (by kernel_rfl) ?_
      by_cases c2 : e.t + 100 ≤ now
      · by_cases c3 : e.t ≤ s.h2
        · have hk : expK s now 1 = some e := by unfold expK; rw [hL0]; exact if_pos ⟨c2, .inr c3⟩
          rw [expR_at (i := 1) (by decide) h0 hk]
          repeat' (conv => whnf
                   first
                     | (refine Grd.intro (fun _ => ?_) (fun h => ?_); rotate_left; focus (exfalso; revert h; simp [c2, c3]; done))
                     | (refine Grd.intro (fun h => ?_) (fun _ => ?_); focus (exfalso; revert h; simp [c2, c3]; done))
                     | refine PCallQ.sca _ cK rfl ?_
                     | (refine And.intro ?_ ?_; focus (decide; done))
                     | (refine And.intro ?_ ?_; focus (constructor; decide; simp; done))
                     | (refine And.intro ?_ ?_; focus (constructor; decide; simp; omega; done))
                     | (refine And.intro ?_ ?_; focus (apply inI64 <;> omega))
                     | fail)
          exact AVle.refl _
        · skip
          repeat' (conv => whnf
                   first
                     | (refine Grd.intro (fun _ => ?_) (fun h => ?_); rotate_left; focus (exfalso; revert h; simp [c2, c3]; done))
                     | (refine Grd.intro (fun h => ?_) (fun _ => ?_); focus (exfalso; revert h; simp [c2, c3]; done))
                     | refine PCallQ.sca _ cK rfl ?_
                     | (refine And.intro ?_ ?_; focus (decide; done))
                     | (refine And.intro ?_ ?_; focus (constructor; decide; simp; done))
                     | (refine And.intro ?_ ?_; focus (constructor; decide; simp; omega; done))
                     | (refine And.intro ?_ ?_; focus (apply inI64 <;> omega))
                     | fail)
          exact ⟨2, ⟨by decide, nx 2 rfl (by unfold expK; rw [hL0]; exact if_neg (by rintro ⟨_, h | h⟩; exact absurd h (by decide); exact c3 h))⟩, by decide, [(0, 0), (1, 1)], rfl, rfl, ⟨AVle.refl _, AVle.refl _, AVle.refl _, AVle.refl _, trivial⟩, ⟨MOle.refl _, MOle.refl _, trivial⟩⟩
      · skip
        repeat' (conv => whnf
                 first
                   | (refine Grd.intro (fun _ => ?_) (fun h => ?_); rotate_left; focus (exfalso; revert h; simp [c2]; done))
                   | (refine Grd.intro (fun h => ?_) (fun _ => ?_); focus (exfalso; revert h; simp [c2]; done))
                   | refine PCallQ.sca _ cK rfl ?_
                   | (refine And.intro ?_ ?_; focus (decide; done))
                   | (refine And.intro ?_ ?_; focus (constructor; decide; simp; done))
                   | (refine And.intro ?_ ?_; focus (constructor; decide; simp; omega; done))
                   | (refine And.intro ?_ ?_; focus (apply inI64 <;> omega))
                   | fail)
        exact ⟨2, ⟨by decide, nx 2 rfl (by unfold expK; rw [hL0]; exact if_neg (fun h => c2 h.1))⟩, by decide, [(0, 0), (1, 1)], rfl, rfl, ⟨AVle.refl _, AVle.refl _, AVle.refl _, AVle.refl _, trivial⟩, ⟨MOle.refl _, MOle.refl _, trivial⟩⟩
  · have cO := ofS_fn s (by omega) 2
    have cK : VFn Tryz.prog 203 [.int .i64 2] (.int .i64 400) := keep_fn 2 (.inr (.inr rfl))
    have nx : ∀ j : Nat, j = 2 + 1 → expK s now 2 = none → ∀ l : Nat, l < j → expK s now l = none := fun j hj hk l hl => by
      rcases Nat.lt_or_ge l 2 with h | h
      · exact h0 l h
      · rw [show l = 2 by omega]; exact hk
    cases hL0 : ofT s.es 2 with
    | nil =>
      rw [hL0] at cO
      conv => whnf
      refine CallC.nl _ (cO) ?_ ?_
      · exact rfl
      refine DrawC.mkQ 28 [] rfl (by kernel_rfl) ?_; refine And.intro (by kernel_rfl) ?_
      refine And.intro (inI64 (by omega) (by omega)) ?_
      exact ⟨3, ⟨by decide, nx 3 rfl (by unfold expK; rw [hL0])⟩, by decide, [(0, 0), (1, 1)], rfl, rfl, ⟨AVle.refl _, AVle.refl _, AVle.refl _, AVle.refl _, trivial⟩, ⟨MOle.refl _, MOle.refl _, trivial⟩⟩
    | cons e r =>
      have he := hof 2 e r hL0
      have hx : (ix (e :: r) (Int.toNat 0)).t = e.t := rfl
      rw [hL0] at cO
      conv => whnf
      refine CallC.nl _ (cO) ?_ ?_
      · exact rfl
      refine DrawC.mkQ 28 [] rfl (by kernel_rfl) ?_; refine And.intro (by kernel_rfl) ?_
      by_cases c2 : e.t + 400 ≤ now
      · have hk : expK s now 2 = some e := by unfold expK; rw [hL0]; exact if_pos ⟨c2, .inl rfl⟩
        rw [expR_at (i := 2) (by decide) h0 hk]
        repeat' (conv => whnf
                 first
                   | (refine Grd.intro (fun _ => ?_) (fun h => ?_); rotate_left; focus (exfalso; revert h; simp [c2]; done))
                   | (refine Grd.intro (fun h => ?_) (fun _ => ?_); focus (exfalso; revert h; simp [c2]; done))
                   | refine PCallQ.sca _ cK rfl ?_
                   | (refine And.intro ?_ ?_; focus (decide; done))
                   | (refine And.intro ?_ ?_; focus (constructor; decide; simp; done))
                   | (refine And.intro ?_ ?_; focus (constructor; decide; simp; omega; done))
                   | (refine And.intro ?_ ?_; focus (apply inI64 <;> omega))
                   | fail)
        exact AVle.refl _
      · skip
        repeat' (conv => whnf
                 first
                   | (refine Grd.intro (fun _ => ?_) (fun h => ?_); rotate_left; focus (exfalso; revert h; simp [c2]; done))
                   | (refine Grd.intro (fun h => ?_) (fun _ => ?_); focus (exfalso; revert h; simp [c2]; done))
                   | refine PCallQ.sca _ cK rfl ?_
                   | (refine And.intro ?_ ?_; focus (decide; done))
                   | (refine And.intro ?_ ?_; focus (constructor; decide; simp; done))
                   | (refine And.intro ?_ ?_; focus (constructor; decide; simp; omega; done))
                   | (refine And.intro ?_ ?_; focus (apply inI64 <;> omega))
                   | fail)
        exact ⟨3, ⟨by decide, nx 3 rfl (by unfold expK; rw [hL0]; exact if_neg (fun h => c2 h.1))⟩, by decide, [(0, 0), (1, 1)], rfl, rfl, ⟨AVle.refl _, AVle.refl _, AVle.refl _, AVle.refl _, trivial⟩, ⟨MOle.refl _, MOle.refl _, trivial⟩⟩
  · rw [expR_no h0]
    exact And.intro trivial (AVle.refl _)
theorem l07Expired_fn (s : Sta) (now : Int) (hn : 0 ≤ now ∧ now ≤ 200000) (h : s.ok = true) : VFn Tryz.prog 134 [s.av, .int .i64 now] (.tup [(expR s now).1.av, .bool (expR s now).2]) := by
  have hO := (staOK_iff s).1 h
  have hb := Sta.hi_b h
  have hL := hO.len
  have hes : ∀ e ∈ s.es, 0 ≤ e.t ∧ e.t ≤ 100000 := fun e he => by
    have := hO.es e he
    simp [En.ok, isRange, within] at this
    omega
  refine VFn.introC Tryz.call134 Tryz.func134 rfl rfl ?_
  refine LoopC.mk (fun i : Nat => i ≤ 3 ∧ ∀ j : Nat, j < i → expK s now j = none) (fun i => [(1, .int .i64 now), (2, .bptr 0 0), (4, .bptr 1 0), (6, .int .i64 i)]) (fun i => [(0, .box s.row), (1, .box (default : En).row)]) 2 (fun i => 3 - i) 0
    ⟨⟨Nat.zero_le _, fun j hj => absurd hj (Nat.not_lt_zero j)⟩, [(0, 0), (1, 1)], rfl, rfl, ⟨AVle.refl _, AVle.refl _, AVle.refl _, AVle.refl _, trivial⟩, ⟨MOle.refl _, MOle.refl _, trivial⟩⟩ ?_
  intro i hi
  obtain ⟨hi, h0⟩ := hi
  have h4 : i = 0 ∨ i = 1 ∨ i = 2 ∨ i = 3 := by omega
  rcases h4 with rfl | rfl | rfl | rfl
  · have cO := l06First_fn s (by omega) 0
    have cK : VFn Tryz.prog 204 [.int .i64 0] (.int .i64 40) := l04Keep_fn 0 (.inl rfl)
    have nx : ∀ j : Nat, j = 0 + 1 → expK s now 0 = none → ∀ l : Nat, l < j → expK s now l = none := fun j hj hk l hl => by
      rcases Nat.lt_or_ge l 0 with h | h
      · exact h0 l h
      · rw [show l = 0 by omega]; exact hk
    rcases fi_filter (fun e : En => decide (e.tier = 0)) s.es with ⟨f1, hF⟩ | ⟨q, hq, f1, r, hF⟩
    · have hF : ofT s.es 0 = [] := hF
      rw [f1] at cO
      conv => whnf
      refine CallC.sca _ (cO) ?_ ?_
      · exact rfl
      refine And.intro (inI64 (by omega) (by omega)) ?_
      exact ⟨1, ⟨by decide, nx 1 rfl (by unfold expK; rw [hF])⟩, by decide, [(0, 0), (1, 1)], rfl, rfl, ⟨AVle.refl _, AVle.refl _, AVle.refl _, AVle.refl _, trivial⟩, ⟨MOle.refl _, MOle.refl _, trivial⟩⟩
    · have hF : ofT s.es 0 = ix s.es q :: r := hF
      have he := hes _ (ix_in hq)
      rw [f1] at cO
      conv => whnf
      refine CallC.sca _ (cO) ?_ ?_
      · exact rfl
      refine And.intro (by omega) ?_
      have hx : (ix s.es (q : Int).toNat).t = (ix s.es q).t := rfl
      refine DrawC.mkQ 18 [] rfl (by kernel_rfl) ?_; refine And.intro (by kernel_rfl) ?_
      by_cases c2 : (ix s.es q).t + 40 ≤ now
      · by_cases c3 : (ix s.es q).t ≤ s.h1
        · have hk : expK s now 0 = some (ix s.es q) := by unfold expK; rw [hF]; exact if_pos ⟨c2, .inr c3⟩
          rw [expR_at (i := 0) (by decide) h0 hk]
          repeat' (conv => whnf
                   first
                     | (refine Grd.intro (fun _ => ?_) (fun h => ?_); rotate_left; focus (exfalso; revert h; simp [c2, c3]; done))
                     | (refine Grd.intro (fun h => ?_) (fun _ => ?_); focus (exfalso; revert h; simp [c2, c3]; done))
                     | refine PCallQ.sca _ cK rfl ?_
                     | (refine And.intro ?_ ?_; focus (decide; done))
                     | (refine And.intro ?_ ?_; focus (constructor; decide; simp; done))
                     | (refine And.intro ?_ ?_; focus (constructor; decide; simp; omega; done))
                     | (refine And.intro ?_ ?_; focus (apply inI64 <;> omega))
                     | fail)
          exact AVle.refl _
        · skip
          repeat' (conv => whnf
                   first
                     | (refine Grd.intro (fun _ => ?_) (fun h => ?_); rotate_left; focus (exfalso; revert h; simp [c2, c3]; done))
                     | (refine Grd.intro (fun h => ?_) (fun _ => ?_); focus (exfalso; revert h; simp [c2, c3]; done))
                     | refine PCallQ.sca _ cK rfl ?_
                     | (refine And.intro ?_ ?_; focus (decide; done))
                     | (refine And.intro ?_ ?_; focus (constructor; decide; simp; done))
                     | (refine And.intro ?_ ?_; focus (constructor; decide; simp; omega; done))
                     | (refine And.intro ?_ ?_; focus (apply inI64 <;> omega))
                     | fail)
          exact ⟨1, ⟨by decide, nx 1 rfl (by unfold expK; rw [hF]; exact if_neg (by rintro ⟨_, h | h⟩; exact absurd h (by decide); exact c3 h))⟩, by decide, [(0, 0), (1, 1)], rfl, rfl, ⟨AVle.refl _, AVle.refl _, AVle.refl _, AVle.refl _, trivial⟩, ⟨MOle.refl _, MOle.refl _, trivial⟩⟩
      · skip
        repeat' (conv => whnf
                 first
                   | (refine Grd.intro (fun _ => ?_) (fun h => ?_); rotate_left; focus (exfalso; revert h; simp [c2]; done))
                   | (refine Grd.intro (fun h => ?_) (fun _ => ?_); focus (exfalso; revert h; simp [c2]; done))
                   | refine PCallQ.sca _ cK rfl ?_
                   | (refine And.intro ?_ ?_; focus (decide; done))
                   | (refine And.intro ?_ ?_; focus (constructor; decide; simp; done))
                   | (refine And.intro ?_ ?_; focus (constructor; decide; simp; omega; done))
                   | (refine And.intro ?_ ?_; focus (apply inI64 <;> omega))
                   | fail)
        exact ⟨1, ⟨by decide, nx 1 rfl (by unfold expK; rw [hF]; exact if_neg (fun h => c2 h.1))⟩, by decide, [(0, 0), (1, 1)], rfl, rfl, ⟨AVle.refl _, AVle.refl _, AVle.refl _, AVle.refl _, trivial⟩, ⟨MOle.refl _, MOle.refl _, trivial⟩⟩
  · have cO := l06First_fn s (by omega) 1
    have cK : VFn Tryz.prog 204 [.int .i64 1] (.int .i64 100) := l04Keep_fn 1 (.inr (.inl rfl))
    have nx : ∀ j : Nat, j = 1 + 1 → expK s now 1 = none → ∀ l : Nat, l < j → expK s now l = none := fun j hj hk l hl => by
      rcases Nat.lt_or_ge l 1 with h | h
      · exact h0 l h
      · rw [show l = 1 by omega]; exact hk
    rcases fi_filter (fun e : En => decide (e.tier = 1)) s.es with ⟨f1, hF⟩ | ⟨q, hq, f1, r, hF⟩
    · have hF : ofT s.es 1 = [] := hF
      rw [f1] at cO
      conv => whnf
      refine CallC.sca _ (cO) ?_ ?_
      · exact rfl
      refine And.intro (inI64 (by omega) (by omega)) ?_
      exact ⟨2, ⟨by decide, nx 2 rfl (by unfold expK; rw [hF])⟩, by decide, [(0, 0), (1, 1)], rfl, rfl, ⟨AVle.refl _, AVle.refl _, AVle.refl _, AVle.refl _, trivial⟩, ⟨MOle.refl _, MOle.refl _, trivial⟩⟩
    · have hF : ofT s.es 1 = ix s.es q :: r := hF
      have he := hes _ (ix_in hq)
      rw [f1] at cO
      conv => whnf
      refine CallC.sca _ (cO) ?_ ?_
      · exact rfl
      refine And.intro (by omega) ?_
      have hx : (ix s.es (q : Int).toNat).t = (ix s.es q).t := rfl
      refine DrawC.mkQ 18 [] rfl (by kernel_rfl) ?_; refine And.intro (by kernel_rfl) ?_
      by_cases c2 : (ix s.es q).t + 100 ≤ now
      · by_cases c3 : (ix s.es q).t ≤ s.h2
        · have hk : expK s now 1 = some (ix s.es q) := by unfold expK; rw [hF]; exact if_pos ⟨c2, .inr c3⟩
          rw [expR_at (i := 1) (by decide) h0 hk]
          repeat' (conv => whnf
                   first
                     | (refine Grd.intro (fun _ => ?_) (fun h => ?_); rotate_left; focus (exfalso; revert h; simp [c2, c3]; done))
                     | (refine Grd.intro (fun h => ?_) (fun _ => ?_); focus (exfalso; revert h; simp [c2, c3]; done))
                     | refine PCallQ.sca _ cK rfl ?_
                     | (refine And.intro ?_ ?_; focus (decide; done))
                     | (refine And.intro ?_ ?_; focus (constructor; decide; simp; done))
                     | (refine And.intro ?_ ?_; focus (constructor; decide; simp; omega; done))
                     | (refine And.intro ?_ ?_; focus (apply inI64 <;> omega))
                     | fail)
          exact AVle.refl _
        · skip
          repeat' (conv => whnf
                   first
                     | (refine Grd.intro (fun _ => ?_) (fun h => ?_); rotate_left; focus (exfalso; revert h; simp [c2, c3]; done))
                     | (refine Grd.intro (fun h => ?_) (fun _ => ?_); focus (exfalso; revert h; simp [c2, c3]; done))
                     | refine PCallQ.sca _ cK rfl ?_
                     | (refine And.intro ?_ ?_; focus (decide; done))
                     | (refine And.intro ?_ ?_; focus (constructor; decide; simp; done))
                     | (refine And.intro ?_ ?_; focus (constructor; decide; simp; omega; done))
                     | (refine And.intro ?_ ?_; focus (apply inI64 <;> omega))
                     | fail)
          exact ⟨2, ⟨by decide, nx 2 rfl (by unfold expK; rw [hF]; exact if_neg (by rintro ⟨_, h | h⟩; exact absurd h (by decide); exact c3 h))⟩, by decide, [(0, 0), (1, 1)], rfl, rfl, ⟨AVle.refl _, AVle.refl _, AVle.refl _, AVle.refl _, trivial⟩, ⟨MOle.refl _, MOle.refl _, trivial⟩⟩
      · skip
        repeat' (conv => whnf
                 first
                   | (refine Grd.intro (fun _ => ?_) (fun h => ?_); rotate_left; focus (exfalso; revert h; simp [c2]; done))
                   | (refine Grd.intro (fun h => ?_) (fun _ => ?_); focus (exfalso; revert h; simp [c2]; done))
                   | refine PCallQ.sca _ cK rfl ?_
                   | (refine And.intro ?_ ?_; focus (decide; done))
                   | (refine And.intro ?_ ?_; focus (constructor; decide; simp; done))
                   | (refine And.intro ?_ ?_; focus (constructor; decide; simp; omega; done))
                   | (refine And.intro ?_ ?_; focus (apply inI64 <;> omega))
                   | fail)
        exact ⟨2, ⟨by decide, nx 2 rfl (by unfold expK; rw [hF]; exact if_neg (fun h => c2 h.1))⟩, by decide, [(0, 0), (1, 1)], rfl, rfl, ⟨AVle.refl _, AVle.refl _, AVle.refl _, AVle.refl _, trivial⟩, ⟨MOle.refl _, MOle.refl _, trivial⟩⟩
  · have cO := l06First_fn s (by omega) 2
    have cK : VFn Tryz.prog 204 [.int .i64 2] (.int .i64 400) := l04Keep_fn 2 (.inr (.inr rfl))
    have nx : ∀ j : Nat, j = 2 + 1 → expK s now 2 = none → ∀ l : Nat, l < j → expK s now l = none := fun j hj hk l hl => by
      rcases Nat.lt_or_ge l 2 with h | h
      · exact h0 l h
      · rw [show l = 2 by omega]; exact hk
    rcases fi_filter (fun e : En => decide (e.tier = 2)) s.es with ⟨f1, hF⟩ | ⟨q, hq, f1, r, hF⟩
    · have hF : ofT s.es 2 = [] := hF
      rw [f1] at cO
      conv => whnf
      refine CallC.sca _ (cO) ?_ ?_
      · exact rfl
      refine And.intro (inI64 (by omega) (by omega)) ?_
      exact ⟨3, ⟨by decide, nx 3 rfl (by unfold expK; rw [hF])⟩, by decide, [(0, 0), (1, 1)], rfl, rfl, ⟨AVle.refl _, AVle.refl _, AVle.refl _, AVle.refl _, trivial⟩, ⟨MOle.refl _, MOle.refl _, trivial⟩⟩
    · have hF : ofT s.es 2 = ix s.es q :: r := hF
      have he := hes _ (ix_in hq)
      rw [f1] at cO
      conv => whnf
      refine CallC.sca _ (cO) ?_ ?_
      · exact rfl
      refine And.intro (by omega) ?_
      have hx : (ix s.es (q : Int).toNat).t = (ix s.es q).t := rfl
      refine DrawC.mkQ 18 [] rfl (by kernel_rfl) ?_; refine And.intro (by kernel_rfl) ?_
      by_cases c2 : (ix s.es q).t + 400 ≤ now
      · have hk : expK s now 2 = some (ix s.es q) := by unfold expK; rw [hF]; exact if_pos ⟨c2, .inl rfl⟩
        rw [expR_at (i := 2) (by decide) h0 hk]
        repeat' (conv => whnf
                 first
                   | (refine Grd.intro (fun _ => ?_) (fun h => ?_); rotate_left; focus (exfalso; revert h; simp [c2]; done))
                   | (refine Grd.intro (fun h => ?_) (fun _ => ?_); focus (exfalso; revert h; simp [c2]; done))
                   | refine PCallQ.sca _ cK rfl ?_
                   | (refine And.intro ?_ ?_; focus (decide; done))
                   | (refine And.intro ?_ ?_; focus (constructor; decide; simp; done))
                   | (refine And.intro ?_ ?_; focus (constructor; decide; simp; omega; done))
                   | (refine And.intro ?_ ?_; focus (apply inI64 <;> omega))
                   | fail)
        exact AVle.refl _
      · skip
        repeat' (conv => whnf
                 first
                   | (refine Grd.intro (fun _ => ?_) (fun h => ?_); rotate_left; focus (exfalso; revert h; simp [c2]; done))
                   | (refine Grd.intro (fun h => ?_) (fun _ => ?_); focus (exfalso; revert h; simp [c2]; done))
                   | refine PCallQ.sca _ cK rfl ?_
                   | (refine And.intro ?_ ?_; focus (decide; done))
                   | (refine And.intro ?_ ?_; focus (constructor; decide; simp; done))
                   | (refine And.intro ?_ ?_; focus (constructor; decide; simp; omega; done))
                   | (refine And.intro ?_ ?_; focus (apply inI64 <;> omega))
                   | fail)
        exact ⟨3, ⟨by decide, nx 3 rfl (by unfold expK; rw [hF]; exact if_neg (fun h => c2 h.1))⟩, by decide, [(0, 0), (1, 1)], rfl, rfl, ⟨AVle.refl _, AVle.refl _, AVle.refl _, AVle.refl _, trivial⟩, ⟨MOle.refl _, MOle.refl _, trivial⟩⟩
  · rw [expR_no h0]
    exact And.intro trivial (AVle.refl _)
end Go.Proofs.YtgiaaaejobhngaaGreatDoor
