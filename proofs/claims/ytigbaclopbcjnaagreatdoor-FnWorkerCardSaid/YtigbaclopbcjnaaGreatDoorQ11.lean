/- Contracts of functions that the claim reaches, and the plain law of what they compute; each theorem bears its own conditions. -/
import Derived.Test.YtigbaclopbcjnaaGreatDoorQ10
import Derived.Test.YtigbaclopbcjnaaGreatDoorQ2
import Derived.Test.YtigbaclopbcjnaaGreatDoorV52
import Derived.Test.YtigbaclopbcjnaaGreatDoorQ6
import Derived.Test.YtigbaclopbcjnaaGreatDoorQ5
import Derived.Test.YtigbaclopbcjnaaGreatDoorQ8
import Derived.Test.YtigbaclopbcjnaaGreatDoorQ3
set_option linter.unusedVariables false
set_option linter.constructorNameAsVariable false
set_option linter.unusedSimpArgs false
set_option maxRecDepth 20000
namespace Go.Proofs.YtigbaclopbcjnaaGreatDoor
open Go Go.Vw
def kp (k : Int) : Int := if k = 0 then 40 else if k = 1 then 100 else 400
theorem keep_fn (k : Int) (h : k = 0 ∨ k = 1 ∨ k = 2) : VFn Tryz.prog 116 [.int .i64 k] (.int .i64 (kp k)) := by
 rcases h with rfl | rfl | rfl
 · refine VFn.introC Tryz.call116 Tryz.func116 rfl rfl ?_
   refine And.intro ⟨by omega, by show (0 : Int) < ((3 : Nat) : Int); omega⟩ ?_
   exact And.intro trivial (AVle.refl _)
 · refine VFn.introC Tryz.call116 Tryz.func116 rfl rfl ?_
   refine And.intro ⟨by omega, by show (1 : Int) < ((3 : Nat) : Int); omega⟩ ?_
   exact And.intro trivial (AVle.refl _)
 · refine VFn.introC Tryz.call116 Tryz.func116 rfl rfl ?_
   refine And.intro ⟨by omega, by show (2 : Int) < ((3 : Nat) : Int); omega⟩ ?_
   exact And.intro trivial (AVle.refl _)
theorem l04Keep_fn (k : Int) (h : k = 0 ∨ k = 1 ∨ k = 2) : VFn Tryz.prog 95 [.int .i64 k] (.int .i64 (kp k)) := by
 rcases h with rfl | rfl | rfl
 · refine VFn.introC Tryz.call95 Tryz.func95 rfl rfl ?_
   refine And.intro ⟨by omega, by show (0 : Int) < ((3 : Nat) : Int); omega⟩ ?_
   exact And.intro trivial (AVle.refl _)
 · refine VFn.introC Tryz.call95 Tryz.func95 rfl rfl ?_
   refine And.intro ⟨by omega, by show (1 : Int) < ((3 : Nat) : Int); omega⟩ ?_
   exact And.intro trivial (AVle.refl _)
 · refine VFn.introC Tryz.call95 Tryz.func95 rfl rfl ?_
   refine And.intro ⟨by omega, by show (2 : Int) < ((3 : Nat) : Int); omega⟩ ?_
   exact And.intro trivial (AVle.refl _)
def expK (s : Sta) (now k : Int) : Option En := match ofT s.es k with
 | [] => none
 | e :: _ => if e.t + kp k ≤ now ∧ (k = 2 ∨ e.t ≤ s.hi (k + 1)) then some e else none
def expR (s : Sta) (now : Int) : En × Bool := match expK s now 0 with
 | some e => (e, true)
 | none => match expK s now 1 with
   | some e => (e, true)
   | none => match expK s now 2 with
     | some e => (e, true)
     | none => (default, false)
theorem expR_at {s : Sta} {now : Int} {i : Nat} {e : En} (hi : i < 3) (h0 : ∀ j : Nat, j < i → expK s now j = none) (h : expK s now i = some e) : expR s now = (e, true) := by
 unfold expR
 have h3 : i = 0 ∨ i = 1 ∨ i = 2 := by omega
 rcases h3 with rfl | rfl | rfl
 · rw [show expK s now 0 = some e from h]
 · rw [show expK s now 0 = none from h0 0 (by decide), show expK s now 1 = some e from h]
 · rw [show expK s now 0 = none from h0 0 (by decide), show expK s now 1 = none from h0 1 (by decide), show expK s now 2 = some e from h]
theorem expR_no {s : Sta} {now : Int} (h0 : ∀ j : Nat, j < 3 → expK s now j = none) : expR s now = (default, false) := by
 unfold expR
 rw [show expK s now 0 = none from h0 0 (by decide), show expK s now 1 = none from h0 1 (by decide), show expK s now 2 = none from h0 2 (by decide)]
theorem expired_fn (s : Sta) (now : Int) (hn : 0 ≤ now ∧ now ≤ 200000) (h : s.ok = true) : VFn Tryz.prog 74 [s.av, .int .i64 now] (.tup [(expR s now).1.av, .bool (expR s now).2]) := by
 have hO := (staOK_iff s).1 h
 have hb := Sta.hi_b h
 have hL := hO.len
 have hes : ∀ e ∈ s.es, 0 ≤ e.t ∧ e.t ≤ 100000 := fun e he => by
  have := hO.es e he
  simp [En.ok, isRange, within] at this
  omega
 have hof : ∀ k, ∀ e r, ofT s.es k = e :: r → 0 ≤ e.t ∧ e.t ≤ 100000 := fun k e r h => hes e (by
  have : e ∈ ofT s.es k := by rw [h]; simp
  exact (List.mem_filter.1 this).1)
 refine VFn.introC Tryz.call74 Tryz.func74 rfl rfl ?_
 refine LoopC.mk (fun i : Nat => i ≤ 3 ∧ ∀ j : Nat, j < i → expK s now j = none) (fun i => [(1, .int .i64 now), (2, .bptr 0 0), (4, .bptr 1 0), (8, .int .i64 i)]) (fun i => [(0, .box s.row), (1, .box (default : En).row)]) 2 (fun i => 3 - i) 0
  ⟨⟨Nat.zero_le _, fun j hj => absurd hj (Nat.not_lt_zero j)⟩, [(0, 0), (1, 1)], rfl, rfl, ⟨AVle.refl _, AVle.refl _, AVle.refl _, AVle.refl _, trivial⟩, ⟨MOle.refl _, MOle.refl _, trivial⟩⟩ ?_
 intro i hi
 obtain ⟨hi, h0⟩ := hi
 have h4 : i = 0 ∨ i = 1 ∨ i = 2 ∨ i = 3 := by omega
 rcases h4 with rfl | rfl | rfl | rfl
 · have cO := ofS_fn s (by omega) 0
   have cK : VFn Tryz.prog 116 [.int .i64 0] (.int .i64 40) := keep_fn 0 (.inl rfl)
   have nx : ∀ j : Nat, j = 0 + 1 → expK s now 0 = none → ∀ l : Nat, l < j → expK s now l = none := fun j hj hk l hl => by
    rcases Nat.lt_or_ge l 0 with h | h
    · exact h0 l h
    · rw [show l = 0 by omega]; exact hk
   cases hL0 : ofT s.es 0 with
   | nil =>
     rw [hL0] at cO
     conv => whnf
     refine CallC.nl _ (cO) ?_ ?_
     · exact rfl
     refine DrawC.mkQ 28 [] rfl (by kernel_rfl) ?_; refine And.intro (by kernel_rfl) ?_
     refine And.intro (inI64 (by omega) (by omega)) ?_
     exact ⟨1, ⟨by decide, nx 1 rfl (by unfold expK; rw [hL0])⟩, by decide, [(0, 0), (1, 1)], rfl, rfl, ⟨AVle.refl _, AVle.refl _, AVle.refl _, AVle.refl _, trivial⟩, ⟨MOle.refl _, MOle.refl _, trivial⟩⟩
   | cons e r =>
     have he := hof 0 e r hL0
     have hx : (ix (e :: r) (Int.toNat 0)).t = e.t := rfl
     rw [hL0] at cO
     conv => whnf
     refine CallC.nl _ (cO) ?_ ?_
     · exact rfl
     refine DrawC.mkQ 28 [] rfl (by kernel_rfl) ?_; refine And.intro (by kernel_rfl) ?_
     by_cases c2 : e.t + 40 ≤ now
     · by_cases c3 : e.t ≤ s.h1
       · have hk : expK s now 0 = some e := by unfold expK; rw [hL0]; exact if_pos ⟨c2, .inr c3⟩
         rw [expR_at (i := 0) (by decide) h0 hk]
         repeat' (conv => whnf
                  first
                   | (refine Grd.intro (fun _ => ?_) (fun h => ?_); rotate_left; focus (exfalso; revert h; simp [c2, c3]; done))
                   | (refine Grd.intro (fun h => ?_) (fun _ => ?_); focus (exfalso; revert h; simp [c2, c3]; done))
                   | refine PCallQ.sca _ cK rfl ?_
                   | (refine And.intro ?_ ?_; focus (decide; done))
                   | (refine And.intro ?_ ?_; focus (constructor; decide; simp; done))
                   | (refine And.intro ?_ ?_; focus (constructor; decide; simp; omega; done))
                   | (refine And.intro ?_ ?_; focus (apply inI64 <;> omega))
                   | fail)
         exact AVle.refl _
       · skip
         repeat' (conv => whnf
                  first
                   | (refine Grd.intro (fun _ => ?_) (fun h => ?_); rotate_left; focus (exfalso; revert h; simp [c2, c3]; done))
                   | (refine Grd.intro (fun h => ?_) (fun _ => ?_); focus (exfalso; revert h; simp [c2, c3]; done))
                   | refine PCallQ.sca _ cK rfl ?_
                   | (refine And.intro ?_ ?_; focus (decide; done))
                   | (refine And.intro ?_ ?_; focus (constructor; decide; simp; done))
                   | (refine And.intro ?_ ?_; focus (constructor; decide; simp; omega; done))
                   | (refine And.intro ?_ ?_; focus (apply inI64 <;> omega))
                   | fail)
         exact ⟨1, ⟨by decide, nx 1 rfl (by unfold expK; rw [hL0]; exact if_neg (by rintro ⟨_, h | h⟩; exact absurd h (by decide); exact c3 h))⟩, by decide, [(0, 0), (1, 1)], rfl, rfl, ⟨AVle.refl _, AVle.refl _, AVle.refl _, AVle.refl _, trivial⟩, ⟨MOle.refl _, MOle.refl _, trivial⟩⟩
     · skip
       repeat' (conv => whnf
                first
                 | (refine Grd.intro (fun _ => ?_) (fun h => ?_); rotate_left; focus (exfalso; revert h; simp [c2]; done))
                 | (refine Grd.intro (fun h => ?_) (fun _ => ?_); focus (exfalso; revert h; simp [c2]; done))
                 | refine PCallQ.sca _ cK rfl ?_
                 | (refine And.intro ?_ ?_; focus (decide; done))
                 | (refine And.intro ?_ ?_; focus (constructor; decide; simp; done))
                 | (refine And.intro ?_ ?_; focus (constructor; decide; simp; omega; done))
                 | (refine And.intro ?_ ?_; focus (apply inI64 <;> omega))
                 | fail)
       exact ⟨1, ⟨by decide, nx 1 rfl (by unfold expK; rw [hL0]; exact if_neg (fun h => c2 h.1))⟩, by decide, [(0, 0), (1, 1)], rfl, rfl, ⟨AVle.refl _, AVle.refl _, AVle.refl _, AVle.refl _, trivial⟩, ⟨MOle.refl _, MOle.refl _, trivial⟩⟩
 · have cO := ofS_fn s (by omega) 1
   have cK : VFn Tryz.prog 116 [.int .i64 1] (.int .i64 100) := keep_fn 1 (.inr (.inl rfl))
   have nx : ∀ j : Nat, j = 1 + 1 → expK s now 1 = none → ∀ l : Nat, l < j → expK s now l = none := fun j hj hk l hl => by
    rcases Nat.lt_or_ge l 1 with h | h
    · exact h0 l h
    · rw [show l = 1 by omega]; exact hk
   cases hL0 : ofT s.es 1 with
   | nil =>
     rw [hL0] at cO
     conv => whnf
     refine CallC.nl _ (cO) ?_ ?_
     · exact rfl
     refine DrawC.mkQ 28 [] rfl (by kernel_rfl) ?_; refine And.intro (by kernel_rfl) ?_
     refine And.intro (inI64 (by omega) (by omega)) ?_
     exact ⟨2, ⟨by decide, nx 2 rfl (by unfold expK; rw [hL0])⟩, by decide, [(0, 0), (1, 1)], rfl, rfl, ⟨AVle.refl _, AVle.refl _, AVle.refl _, AVle.refl _, trivial⟩, ⟨MOle.refl _, MOle.refl _, trivial⟩⟩
   | cons e r =>
     have he := hof 1 e r hL0
     have hx : (ix (e :: r) (Int.toNat 0)).t = e.t := rfl
     rw [hL0] at cO
     conv => whnf
     refine CallC.nl _ (cO) ?_ ?_
     · exact rfl
     refine DrawC.mkQ 28 [] rfl (by kernel_rfl) ?_; refine And.intro (by kernel_rfl) ?_
     by_cases c2 : e.t + 100 ≤ now
     · by_cases c3 : e.t ≤ s.h2
       · have hk : expK s now 1 = some e := by unfold expK; rw [hL0]; exact if_pos ⟨c2, .inr c3⟩
         rw [expR_at (i := 1) (by decide) h0 hk]
         repeat' (conv => whnf
                  first
                   | (refine Grd.intro (fun _ => ?_) (fun h => ?_); rotate_left; focus (exfalso; revert h; simp [c2, c3]; done))
                   | (refine Grd.intro (fun h => ?_) (fun _ => ?_); focus (exfalso; revert h; simp [c2, c3]; done))
                   | refine PCallQ.sca _ cK rfl ?_
                   | (refine And.intro ?_ ?_; focus (decide; done))
                   | (refine And.intro ?_ ?_; focus (constructor; decide; simp; done))
                   | (refine And.intro ?_ ?_; focus (constructor; decide; simp; omega; done))
                   | (refine And.intro ?_ ?_; focus (apply inI64 <;> omega))
                   | fail)
         exact AVle.refl _
       · skip
         repeat' (conv => whnf
                  first
                   | (refine Grd.intro (fun _ => ?_) (fun h => ?_); rotate_left; focus (exfalso; revert h; simp [c2, c3]; done))
                   | (refine Grd.intro (fun h => ?_) (fun _ => ?_); focus (exfalso; revert h; simp [c2, c3]; done))
                   | refine PCallQ.sca _ cK rfl ?_
                   | (refine And.intro ?_ ?_; focus (decide; done))
                   | (refine And.intro ?_ ?_; focus (constructor; decide; simp; done))
                   | (refine And.intro ?_ ?_; focus (constructor; decide; simp; omega; done))
                   | (refine And.intro ?_ ?_; focus (apply inI64 <;> omega))
                   | fail)
         exact ⟨2, ⟨by decide, nx 2 rfl (by unfold expK; rw [hL0]; exact if_neg (by rintro ⟨_, h | h⟩; exact absurd h (by decide); exact c3 h))⟩, by decide, [(0, 0), (1, 1)], rfl, rfl, ⟨AVle.refl _, AVle.refl _, AVle.refl _, AVle.refl _, trivial⟩, ⟨MOle.refl _, MOle.refl _, trivial⟩⟩
     · skip
       repeat' (conv => whnf
                first
                 | (refine Grd.intro (fun _ => ?_) (fun h => ?_); rotate_left; focus (exfalso; revert h; simp [c2]; done))
                 | (refine Grd.intro (fun h => ?_) (fun _ => ?_); focus (exfalso; revert h; simp [c2]; done))
                 | refine PCallQ.sca _ cK rfl ?_
                 | (refine And.intro ?_ ?_; focus (decide; done))
                 | (refine And.intro ?_ ?_; focus (constructor; decide; simp; done))
                 | (refine And.intro ?_ ?_; focus (constructor; decide; simp; omega; done))
                 | (refine And.intro ?_ ?_; focus (apply inI64 <;> omega))
                 | fail)
       exact ⟨2, ⟨by decide, nx 2 rfl (by unfold expK; rw [hL0]; exact if_neg (fun h => c2 h.1))⟩, by decide, [(0, 0), (1, 1)], rfl, rfl, ⟨AVle.refl _, AVle.refl _, AVle.refl _, AVle.refl _, trivial⟩, ⟨MOle.refl _, MOle.refl _, trivial⟩⟩
 · have cO := ofS_fn s (by omega) 2
   have cK : VFn Tryz.prog 116 [.int .i64 2] (.int .i64 400) := keep_fn 2 (.inr (.inr rfl))
   have nx : ∀ j : Nat, j = 2 + 1 → expK s now 2 = none → ∀ l : Nat, l < j → expK s now l = none := fun j hj hk l hl => by
    rcases Nat.lt_or_ge l 2 with h | h
    · exact h0 l h
    · rw [show l = 2 by omega]; exact hk
   cases hL0 : ofT s.es 2 with
   | nil =>
     rw [hL0] at cO
     conv => whnf
     refine CallC.nl _ (cO) ?_ ?_
     · exact rfl
     refine DrawC.mkQ 28 [] rfl (by kernel_rfl) ?_; refine And.intro (by kernel_rfl) ?_
     refine And.intro (inI64 (by omega) (by omega)) ?_
     exact ⟨3, ⟨by decide, nx 3 rfl (by unfold expK; rw [hL0])⟩, by decide, [(0, 0), (1, 1)], rfl, rfl, ⟨AVle.refl _, AVle.refl _, AVle.refl _, AVle.refl _, trivial⟩, ⟨MOle.refl _, MOle.refl _, trivial⟩⟩
   | cons e r =>
     have he := hof 2 e r hL0
     have hx : (ix (e :: r) (Int.toNat 0)).t = e.t := rfl
     rw [hL0] at cO
     conv => whnf
     refine CallC.nl _ (cO) ?_ ?_
     · exact rfl
     refine DrawC.mkQ 28 [] rfl (by kernel_rfl) ?_; refine And.intro (by kernel_rfl) ?_
     by_cases c2 : e.t + 400 ≤ now
     · have hk : expK s now 2 = some e := by unfold expK; rw [hL0]; exact if_pos ⟨c2, .inl rfl⟩
       rw [expR_at (i := 2) (by decide) h0 hk]
       repeat' (conv => whnf
                first
                 | (refine Grd.intro (fun _ => ?_) (fun h => ?_); rotate_left; focus (exfalso; revert h; simp [c2]; done))
                 | (refine Grd.intro (fun h => ?_) (fun _ => ?_); focus (exfalso; revert h; simp [c2]; done))
                 | refine PCallQ.sca _ cK rfl ?_
                 | (refine And.intro ?_ ?_; focus (decide; done))
                 | (refine And.intro ?_ ?_; focus (constructor; decide; simp; done))
                 | (refine And.intro ?_ ?_; focus (constructor; decide; simp; omega; done))
                 | (refine And.intro ?_ ?_; focus (apply inI64 <;> omega))
                 | fail)
       exact AVle.refl _
     · skip
       repeat' (conv => whnf
                first
                 | (refine Grd.intro (fun _ => ?_) (fun h => ?_); rotate_left; focus (exfalso; revert h; simp [c2]; done))
                 | (refine Grd.intro (fun h => ?_) (fun _ => ?_); focus (exfalso; revert h; simp [c2]; done))
                 | refine PCallQ.sca _ cK rfl ?_
                 | (refine And.intro ?_ ?_; focus (decide; done))
                 | (refine And.intro ?_ ?_; focus (constructor; decide; simp; done))
                 | (refine And.intro ?_ ?_; focus (constructor; decide; simp; omega; done))
                 | (refine And.intro ?_ ?_; focus (apply inI64 <;> omega))
                 | fail)
       exact ⟨3, ⟨by decide, nx 3 rfl (by unfold expK; rw [hL0]; exact if_neg (fun h => c2 h.1))⟩, by decide, [(0, 0), (1, 1)], rfl, rfl, ⟨AVle.refl _, AVle.refl _, AVle.refl _, AVle.refl _, trivial⟩, ⟨MOle.refl _, MOle.refl _, trivial⟩⟩
 · rw [expR_no h0]
   exact And.intro trivial (AVle.refl _)
theorem l07Expired_fn (s : Sta) (now : Int) (hn : 0 ≤ now ∧ now ≤ 200000) (h : s.ok = true) : VFn Tryz.prog 48 [s.av, .int .i64 now] (.tup [(expR s now).1.av, .bool (expR s now).2]) := by
 have hO := (staOK_iff s).1 h
 have hb := Sta.hi_b h
 have hL := hO.len
 have hes : ∀ e ∈ s.es, 0 ≤ e.t ∧ e.t ≤ 100000 := fun e he => by
  have := hO.es e he
  simp [En.ok, isRange, within] at this
  omega
 refine VFn.introC Tryz.call48 Tryz.func48 rfl rfl ?_
 refine LoopC.mk (fun i : Nat => i ≤ 3 ∧ ∀ j : Nat, j < i → expK s now j = none) (fun i => [(1, .int .i64 now), (2, .bptr 0 0), (4, .bptr 1 0), (6, .int .i64 i)]) (fun i => [(0, .box s.row), (1, .box (default : En).row)]) 2 (fun i => 3 - i) 0
  ⟨⟨Nat.zero_le _, fun j hj => absurd hj (Nat.not_lt_zero j)⟩, [(0, 0), (1, 1)], rfl, rfl, ⟨AVle.refl _, AVle.refl _, AVle.refl _, AVle.refl _, trivial⟩, ⟨MOle.refl _, MOle.refl _, trivial⟩⟩ ?_
 intro i hi
 obtain ⟨hi, h0⟩ := hi
 have h4 : i = 0 ∨ i = 1 ∨ i = 2 ∨ i = 3 := by omega
 rcases h4 with rfl | rfl | rfl | rfl
 · have cO := l06First_fn s (by omega) 0
   have cK : VFn Tryz.prog 95 [.int .i64 0] (.int .i64 40) := l04Keep_fn 0 (.inl rfl)
   have nx : ∀ j : Nat, j = 0 + 1 → expK s now 0 = none → ∀ l : Nat, l < j → expK s now l = none := fun j hj hk l hl => by
    rcases Nat.lt_or_ge l 0 with h | h
    · exact h0 l h
    · rw [show l = 0 by omega]; exact hk
   rcases fi_filter (fun e : En => decide (e.tier = 0)) s.es with ⟨f1, hF⟩ | ⟨q, hq, f1, r, hF⟩
   · have hF : ofT s.es 0 = [] := hF
     rw [f1] at cO
     conv => whnf
     refine CallC.sca _ (cO) ?_ ?_
     · exact rfl
     refine And.intro (inI64 (by omega) (by omega)) ?_
     exact ⟨1, ⟨by decide, nx 1 rfl (by unfold expK; rw [hF])⟩, by decide, [(0, 0), (1, 1)], rfl, rfl, ⟨AVle.refl _, AVle.refl _, AVle.refl _, AVle.refl _, trivial⟩, ⟨MOle.refl _, MOle.refl _, trivial⟩⟩
   · have hF : ofT s.es 0 = ix s.es q :: r := hF
     have he := hes _ (ix_in hq)
     rw [f1] at cO
     conv => whnf
     refine CallC.sca _ (cO) ?_ ?_
     · exact rfl
     refine And.intro (by omega) ?_
     have hx : (ix s.es (q : Int).toNat).t = (ix s.es q).t := rfl
     refine DrawC.mkQ 18 [] rfl (by kernel_rfl) ?_; refine And.intro (by kernel_rfl) ?_
     by_cases c2 : (ix s.es q).t + 40 ≤ now
     · by_cases c3 : (ix s.es q).t ≤ s.h1
       · have hk : expK s now 0 = some (ix s.es q) := by unfold expK; rw [hF]; exact if_pos ⟨c2, .inr c3⟩
         rw [expR_at (i := 0) (by decide) h0 hk]
         repeat' (conv => whnf
                  first
                   | (refine Grd.intro (fun _ => ?_) (fun h => ?_); rotate_left; focus (exfalso; revert h; simp [c2, c3]; done))
                   | (refine Grd.intro (fun h => ?_) (fun _ => ?_); focus (exfalso; revert h; simp [c2, c3]; done))
                   | refine PCallQ.sca _ cK rfl ?_
                   | (refine And.intro ?_ ?_; focus (decide; done))
                   | (refine And.intro ?_ ?_; focus (constructor; decide; simp; done))
                   | (refine And.intro ?_ ?_; focus (constructor; decide; simp; omega; done))
                   | (refine And.intro ?_ ?_; focus (apply inI64 <;> omega))
                   | fail)
         exact AVle.refl _
       · skip
         repeat' (conv => whnf
                  first
                   | (refine Grd.intro (fun _ => ?_) (fun h => ?_); rotate_left; focus (exfalso; revert h; simp [c2, c3]; done))
                   | (refine Grd.intro (fun h => ?_) (fun _ => ?_); focus (exfalso; revert h; simp [c2, c3]; done))
                   | refine PCallQ.sca _ cK rfl ?_
                   | (refine And.intro ?_ ?_; focus (decide; done))
                   | (refine And.intro ?_ ?_; focus (constructor; decide; simp; done))
                   | (refine And.intro ?_ ?_; focus (constructor; decide; simp; omega; done))
                   | (refine And.intro ?_ ?_; focus (apply inI64 <;> omega))
                   | fail)
         exact ⟨1, ⟨by decide, nx 1 rfl (by unfold expK; rw [hF]; exact if_neg (by rintro ⟨_, h | h⟩; exact absurd h (by decide); exact c3 h))⟩, by decide, [(0, 0), (1, 1)], rfl, rfl, ⟨AVle.refl _, AVle.refl _, AVle.refl _, AVle.refl _, trivial⟩, ⟨MOle.refl _, MOle.refl _, trivial⟩⟩
     · skip
       repeat' (conv => whnf
                first
                 | (refine Grd.intro (fun _ => ?_) (fun h => ?_); rotate_left; focus (exfalso; revert h; simp [c2]; done))
                 | (refine Grd.intro (fun h => ?_) (fun _ => ?_); focus (exfalso; revert h; simp [c2]; done))
                 | refine PCallQ.sca _ cK rfl ?_
                 | (refine And.intro ?_ ?_; focus (decide; done))
                 | (refine And.intro ?_ ?_; focus (constructor; decide; simp; done))
                 | (refine And.intro ?_ ?_; focus (constructor; decide; simp; omega; done))
                 | (refine And.intro ?_ ?_; focus (apply inI64 <;> omega))
                 | fail)
       exact ⟨1, ⟨by decide, nx 1 rfl (by unfold expK; rw [hF]; exact if_neg (fun h => c2 h.1))⟩, by decide, [(0, 0), (1, 1)], rfl, rfl, ⟨AVle.refl _, AVle.refl _, AVle.refl _, AVle.refl _, trivial⟩, ⟨MOle.refl _, MOle.refl _, trivial⟩⟩
 · have cO := l06First_fn s (by omega) 1
   have cK : VFn Tryz.prog 95 [.int .i64 1] (.int .i64 100) := l04Keep_fn 1 (.inr (.inl rfl))
   have nx : ∀ j : Nat, j = 1 + 1 → expK s now 1 = none → ∀ l : Nat, l < j → expK s now l = none := fun j hj hk l hl => by
    rcases Nat.lt_or_ge l 1 with h | h
    · exact h0 l h
    · rw [show l = 1 by omega]; exact hk
   rcases fi_filter (fun e : En => decide (e.tier = 1)) s.es with ⟨f1, hF⟩ | ⟨q, hq, f1, r, hF⟩
   · have hF : ofT s.es 1 = [] := hF
     rw [f1] at cO
     conv => whnf
     refine CallC.sca _ (cO) ?_ ?_
     · exact rfl
     refine And.intro (inI64 (by omega) (by omega)) ?_
     exact ⟨2, ⟨by decide, nx 2 rfl (by unfold expK; rw [hF])⟩, by decide, [(0, 0), (1, 1)], rfl, rfl, ⟨AVle.refl _, AVle.refl _, AVle.refl _, AVle.refl _, trivial⟩, ⟨MOle.refl _, MOle.refl _, trivial⟩⟩
   · have hF : ofT s.es 1 = ix s.es q :: r := hF
     have he := hes _ (ix_in hq)
     rw [f1] at cO
     conv => whnf
     refine CallC.sca _ (cO) ?_ ?_
     · exact rfl
     refine And.intro (by omega) ?_
     have hx : (ix s.es (q : Int).toNat).t = (ix s.es q).t := rfl
     refine DrawC.mkQ 18 [] rfl (by kernel_rfl) ?_; refine And.intro (by kernel_rfl) ?_
     by_cases c2 : (ix s.es q).t + 100 ≤ now
     · by_cases c3 : (ix s.es q).t ≤ s.h2
       · have hk : expK s now 1 = some (ix s.es q) := by unfold expK; rw [hF]; exact if_pos ⟨c2, .inr c3⟩
         rw [expR_at (i := 1) (by decide) h0 hk]
         repeat' (conv => whnf
                  first
                   | (refine Grd.intro (fun _ => ?_) (fun h => ?_); rotate_left; focus (exfalso; revert h; simp [c2, c3]; done))
                   | (refine Grd.intro (fun h => ?_) (fun _ => ?_); focus (exfalso; revert h; simp [c2, c3]; done))
                   | refine PCallQ.sca _ cK rfl ?_
                   | (refine And.intro ?_ ?_; focus (decide; done))
                   | (refine And.intro ?_ ?_; focus (constructor; decide; simp; done))
                   | (refine And.intro ?_ ?_; focus (constructor; decide; simp; omega; done))
                   | (refine And.intro ?_ ?_; focus (apply inI64 <;> omega))
                   | fail)
         exact AVle.refl _
       · skip
         repeat' (conv => whnf
                  first
                   | (refine Grd.intro (fun _ => ?_) (fun h => ?_); rotate_left; focus (exfalso; revert h; simp [c2, c3]; done))
                   | (refine Grd.intro (fun h => ?_) (fun _ => ?_); focus (exfalso; revert h; simp [c2, c3]; done))
                   | refine PCallQ.sca _ cK rfl ?_
                   | (refine And.intro ?_ ?_; focus (decide; done))
                   | (refine And.intro ?_ ?_; focus (constructor; decide; simp; done))
                   | (refine And.intro ?_ ?_; focus (constructor; decide; simp; omega; done))
                   | (refine And.intro ?_ ?_; focus (apply inI64 <;> omega))
                   | fail)
         exact ⟨2, ⟨by decide, nx 2 rfl (by unfold expK; rw [hF]; exact if_neg (by rintro ⟨_, h | h⟩; exact absurd h (by decide); exact c3 h))⟩, by decide, [(0, 0), (1, 1)], rfl, rfl, ⟨AVle.refl _, AVle.refl _, AVle.refl _, AVle.refl _, trivial⟩, ⟨MOle.refl _, MOle.refl _, trivial⟩⟩
     · skip
       repeat' (conv => whnf
                first
                 | (refine Grd.intro (fun _ => ?_) (fun h => ?_); rotate_left; focus (exfalso; revert h; simp [c2]; done))
                 | (refine Grd.intro (fun h => ?_) (fun _ => ?_); focus (exfalso; revert h; simp [c2]; done))
                 | refine PCallQ.sca _ cK rfl ?_
                 | (refine And.intro ?_ ?_; focus (decide; done))
                 | (refine And.intro ?_ ?_; focus (constructor; decide; simp; done))
                 | (refine And.intro ?_ ?_; focus (constructor; decide; simp; omega; done))
                 | (refine And.intro ?_ ?_; focus (apply inI64 <;> omega))
                 | fail)
       exact ⟨2, ⟨by decide, nx 2 rfl (by unfold expK; rw [hF]; exact if_neg (fun h => c2 h.1))⟩, by decide, [(0, 0), (1, 1)], rfl, rfl, ⟨AVle.refl _, AVle.refl _, AVle.refl _, AVle.refl _, trivial⟩, ⟨MOle.refl _, MOle.refl _, trivial⟩⟩
 · have cO := l06First_fn s (by omega) 2
   have cK : VFn Tryz.prog 95 [.int .i64 2] (.int .i64 400) := l04Keep_fn 2 (.inr (.inr rfl))
   have nx : ∀ j : Nat, j = 2 + 1 → expK s now 2 = none → ∀ l : Nat, l < j → expK s now l = none := fun j hj hk l hl => by
    rcases Nat.lt_or_ge l 2 with h | h
    · exact h0 l h
    · rw [show l = 2 by omega]; exact hk
   rcases fi_filter (fun e : En => decide (e.tier = 2)) s.es with ⟨f1, hF⟩ | ⟨q, hq, f1, r, hF⟩
   · have hF : ofT s.es 2 = [] := hF
     rw [f1] at cO
     conv => whnf
     refine CallC.sca _ (cO) ?_ ?_
     · exact rfl
     refine And.intro (inI64 (by omega) (by omega)) ?_
     exact ⟨3, ⟨by decide, nx 3 rfl (by unfold expK; rw [hF])⟩, by decide, [(0, 0), (1, 1)], rfl, rfl, ⟨AVle.refl _, AVle.refl _, AVle.refl _, AVle.refl _, trivial⟩, ⟨MOle.refl _, MOle.refl _, trivial⟩⟩
   · have hF : ofT s.es 2 = ix s.es q :: r := hF
     have he := hes _ (ix_in hq)
     rw [f1] at cO
     conv => whnf
     refine CallC.sca _ (cO) ?_ ?_
     · exact rfl
     refine And.intro (by omega) ?_
     have hx : (ix s.es (q : Int).toNat).t = (ix s.es q).t := rfl
     refine DrawC.mkQ 18 [] rfl (by kernel_rfl) ?_; refine And.intro (by kernel_rfl) ?_
     by_cases c2 : (ix s.es q).t + 400 ≤ now
     · have hk : expK s now 2 = some (ix s.es q) := by unfold expK; rw [hF]; exact if_pos ⟨c2, .inl rfl⟩
       rw [expR_at (i := 2) (by decide) h0 hk]
       repeat' (conv => whnf
                first
                 | (refine Grd.intro (fun _ => ?_) (fun h => ?_); rotate_left; focus (exfalso; revert h; simp [c2]; done))
                 | (refine Grd.intro (fun h => ?_) (fun _ => ?_); focus (exfalso; revert h; simp [c2]; done))
                 | refine PCallQ.sca _ cK rfl ?_
                 | (refine And.intro ?_ ?_; focus (decide; done))
                 | (refine And.intro ?_ ?_; focus (constructor; decide; simp; done))
                 | (refine And.intro ?_ ?_; focus (constructor; decide; simp; omega; done))
                 | (refine And.intro ?_ ?_; focus (apply inI64 <;> omega))
                 | fail)
       exact AVle.refl _
     · skip
       repeat' (conv => whnf
                first
                 | (refine Grd.intro (fun _ => ?_) (fun h => ?_); rotate_left; focus (exfalso; revert h; simp [c2]; done))
                 | (refine Grd.intro (fun h => ?_) (fun _ => ?_); focus (exfalso; revert h; simp [c2]; done))
                 | refine PCallQ.sca _ cK rfl ?_
                 | (refine And.intro ?_ ?_; focus (decide; done))
                 | (refine And.intro ?_ ?_; focus (constructor; decide; simp; done))
                 | (refine And.intro ?_ ?_; focus (constructor; decide; simp; omega; done))
                 | (refine And.intro ?_ ?_; focus (apply inI64 <;> omega))
                 | fail)
       exact ⟨3, ⟨by decide, nx 3 rfl (by unfold expK; rw [hF]; exact if_neg (fun h => c2 h.1))⟩, by decide, [(0, 0), (1, 1)], rfl, rfl, ⟨AVle.refl _, AVle.refl _, AVle.refl _, AVle.refl _, trivial⟩, ⟨MOle.refl _, MOle.refl _, trivial⟩⟩
 · rw [expR_no h0]
   exact And.intro trivial (AVle.refl _)
theorem touching_own (s : Sta) (k x y : Int) (hL : s.es.length ≤ 1000000) : FnM Tryz.prog 79 0 [s.av, .int .i64 k, .int .i64 x, .int .i64 y] [] (.osl 0) [(0, .arr 58 4 ((ofT s.es k).filter (tch x y)).length fun i => (ix ((ofT s.es k).filter (tch x y)) i).row)] 1 := by
 have cO := ofS_fn s (by omega) k
 have hl : (ofT s.es k).length ≤ s.es.length := List.length_filter_le _ _
 generalize ofT s.es k = L at cO hl
 refine FnM.introC Tryz.call79 Tryz.func79 rfl rfl ?_
 conv => whnf
 refine CallC.nl _ (cO) ?_ ?_
 · exact rfl
 refine LoopC.mk (fun i : Nat => i ≤ L.length) (fun i => [(2, .int .i64 x), (3, .int .i64 y), (9, .osl 0), (15, ents L), (16, .int .i64 L.length), (17, .int .i64 i)])
  (fun i => [(0, .arr 58 4 ((L.take i).filter (tch x y)).length fun j => (ix ((L.take i).filter (tch x y)) j).row)]) 1 (fun i => L.length - i) 0
  ⟨Nat.zero_le _, [(1, 0)], rfl, rfl, ⟨AVle.refl _, AVle.refl _, AVle.refl _, AVle.refl _, AVle.refl _, AVle.refl _, trivial⟩, ⟨MOle.arr rfl fun i hi => absurd hi (Nat.not_lt_zero i), trivial⟩⟩ ?_
 intro i hi
 refine Grd.intro (fun g1 => ?_) (fun g1 => ?_)
 · have hin : i < L.length := by have := of_decide_eq_true g1; omega
   have hfl : ((L.take i).filter (tch x y)).length ≤ 1000000 := Nat.le_trans (List.length_filter_le _ _) (by rw [List.length_take]; omega)
   have hq : (L.take (i + 1)).filter (tch x y) = if tch x y (ix L i) = true then (L.take i).filter (tch x y) ++ [ix L i] else (L.take i).filter (tch x y) := filter_snoc hin
   refine And.intro (by omega) ?_
   refine Grd.intro (fun g2 => ?_) (fun g2 => ?_)
   · have g2 : tch x y (ix L i) = true := g2
     rw [if_pos g2] at hq
     refine And.intro ⟨show (((L.take i).filter (tch x y)).length + 1) * 40 ≤ 140737488355328 by omega, all1 rfl⟩ ?_
     refine And.intro (inI64 (by omega) (by omega)) ?_
     exact ⟨i + 1, hin, by omega, [(3, 0)], rfl, rfl, ⟨AVle.refl _, AVle.refl _, AVle.refl _, AVle.refl _, AVle.refl _, AVle.of_eq (congrArg (AV.int .i64) (by simp)), trivial⟩, ⟨arr_next (f := En.row) hq rfl, trivial⟩⟩
   · have g2 : tch x y (ix L i) = false := g2
     rw [if_neg (by rw [g2]; simp)] at hq
     refine And.intro (inI64 (by omega) (by omega)) ?_
     exact ⟨i + 1, hin, by omega, [(0, 0)], rfl, rfl, ⟨AVle.refl _, AVle.refl _, AVle.refl _, AVle.refl _, AVle.refl _, AVle.of_eq (congrArg (AV.int .i64) (by simp)), trivial⟩, ⟨MOle.of_eq (show MO.arr 58 4 ((L.take i).filter (tch x y)).length (fun j => (ix ((L.take i).filter (tch x y)) j).row) = _ by rw [hq]), trivial⟩⟩
 · have : i = L.length := by have := of_decide_eq_false g1; omega
   subst this
   rw [List.take_of_length_le (Nat.le_refl _)]
   exact And.intro trivial ⟨[(0, 0)], rfl, AVle.refl _, ⟨MOle.refl _, trivial⟩⟩


instance : Inhabited Ag := ⟨⟨0, 0, 0, 0, 0, 0⟩⟩
structure Wk where
 id : Int
 ph : Int
 tok : Int
 job : Rc
 ins : List En
 got : Ag
instance : Inhabited Wk := ⟨⟨0, 0, 0, default, [], default⟩⟩
def Wk.row (e : Wk) : List AV := [.int .i64 e.id, .int .i64 e.ph, .int .i64 e.tok, .int .i64 e.job.k, .int .i64 e.job.tok, .int .i64 e.job.tier, .int .i64 e.job.f, .int .i64 e.job.t, .str (B e.job.key), ents e.ins, .int .i64 e.got.c, .int .i64 e.got.s, .int .i64 e.got.mn, .int .i64 e.got.mx, .int .i64 e.got.f, .int .i64 e.got.l]
def Wk.av (e : Wk) : AV := .agg e.row
def Wk.size (e : Wk) : Nat := e.job.key.length + (e.ins.length + sumL En.size e.ins)
def Wk.small (e : Wk) : Prop := e.ins.length ≤ 1048576
structure Ig where
 id : Int
 seq : Int
 f : Int
 t : Int
 b : List Smp
 put : Bool
instance : Inhabited Ig := ⟨⟨0, 0, 0, 0, [], false⟩⟩
def Ig.size (e : Ig) : Nat := e.b.length
structure Rr where
 id : Int
 ph : Int
 tier : Int
 f : Int
 t : Int
 til : Int
 code : Int
 left : List En
 got : Ag
instance : Inhabited Rr := ⟨⟨0, 0, 0, 0, 0, 0, 0, [], default⟩⟩
def Rr.size (e : Rr) : Nat := e.left.length + sumL En.size e.left
structure An where
 tier : Int
 f : Int
 t : Int
 code : Int
 a : Ag
instance : Inhabited An := ⟨⟨0, 0, 0, 0, default⟩⟩
structure Fl where
 st : Sto
 clk : Int
 k0 : Int
 k1 : Int
 k2 : Int
 k3 : Int
 k4 : Int
 k5 : Int
 k6 : Int
 ws : List Wk
 gs : List Ig
 rs : List Rr
 ac : List Smp
 an : List An
theorem isId0 (n : Int) : VFn Tryz.prog 27 [.int .i64 n] (.bool (within n 0 9)) := by
 refine VFn.introC Tryz.call27 Tryz.func27 rfl rfl ?_
 conv => whnf
 refine CallC.sca _ (within_fn _ _ _) ?_ ?_
 · exact rfl
 exact And.intro trivial (AVle.refl _)
def gotOK (a : Ag) : Bool := a.ok && decide (a.c ≤ 1000)
theorem isGot_fn (a : Ag) : VFn Tryz.prog 32 [a.av] (.bool (gotOK a)) := by
 refine VFn.introC Tryz.call32 Tryz.func32 rfl rfl ?_
 repeat' (conv => whnf
          first
           | (refine Grd.intro (fun h => ?_) (fun h => ?_); rotate_left; focus (exfalso; simp_all; done))
           | (refine Grd.intro (fun h => ?_) (fun h => ?_); focus (exfalso; simp_all; done))
           | refine Grd.intro (fun h => ?_) (fun h => ?_)
           | (refine CallC.sca _ (AggOK_fn a) ?_ ?_; focus (exact rfl))
           | (refine And.intro trivial (AVle.of_eq (congrArg AV.bool ?_)); focus (simp_all [gotOK]; done))
           | (refine And.intro trivial (AVle.of_eq (congrArg AV.bool ?_)); focus (simp only [gotOK, *, cond_true, cond_false, Bool.true_and, Bool.and_true, Bool.false_and, Bool.and_false, Bool.not_true, Bool.not_false, Bool.true_or, Bool.or_true, Bool.false_or, Bool.or_false, if_true, ite_true, reduceIte]; done))
           | (refine And.intro trivial (AVle.of_eq (congrArg AV.bool ?_)); focus (simp_all [gotOK]; intros; omega))
           | (refine And.intro trivial (AVle.of_eq (congrArg AV.bool ?_)); focus (simp only [cond_true, cond_false, Bool.not_eq_true', Bool.not_eq_false'] at *; simp only [gotOK, *, cond_true, cond_false, Bool.true_and, Bool.and_true, Bool.false_and, Bool.and_false, Bool.not_true, Bool.not_false, Bool.true_or, Bool.or_true, Bool.false_or, Bool.or_false, if_true, ite_true, reduceIte]; done))
           | fail)
def An.ok (a : An) : Bool := within a.tier 0 2 && (isRange a.f a.t && (within a.code 0 19 && a.a.ok))
def Wk.ok (w : Wk) : Bool := within w.id 0 9 && (within w.ph 0 7 && (within w.tok 0 999999 && (!(decide (2 ≤ w.ph) && decide (w.tok = 0)) && ((!within w.ph 4 6 || (w.job.ok && (decide (w.job.tok = w.tok) && (decide (w.job.k = 3) || (decide (w.ph = 6) && decide (w.job.k = 4)))))) && (decide ((w.ins.length : Int) ≤ 300) && (w.ins.all En.ok && gotOK w.got))))))
theorem WorkerOK_fn (w : Wk) (h : w.ins.length ≤ 1048576) : VFn Tryz.prog 11 [w.av] (.bool w.ok) := by
 refine VFn.introC Tryz.call11 Tryz.func11 rfl rfl ?_
 repeat' (conv => whnf
          first
           | (refine Grd.intro (fun h => ?_) (fun h => ?_); rotate_left; focus (exfalso; simp_all; done))
           | (refine Grd.intro (fun h => ?_) (fun h => ?_); focus (exfalso; simp_all; done))
           | refine Grd.intro (fun h => ?_) (fun h => ?_)
           | (refine CallC.sca _ (isId0 w.id) ?_ ?_; focus (exact rfl))
           | (refine CallC.sca _ (within_fn w.ph 0 7) ?_ ?_; focus (exact rfl))
           | (refine CallC.sca _ (within_fn w.ph 4 6) ?_ ?_; focus (exact rfl))
           | (refine CallC.sca _ (within_fn w.tok 0 999999) ?_ ?_; focus (exact rfl))
           | (refine CallC.sca _ (RecordOK_fn w.job) ?_ ?_; focus (exact rfl))
           | (refine CallC.sca _ (allEn_fn w.ins (by omega) 31 En.ok (fun e _ => entryOK_fn e)) ?_ ?_; focus (exact rfl))
           | (refine CallC.sca _ (isGot_fn w.got) ?_ ?_; focus (exact rfl))
           | (refine And.intro trivial (AVle.of_eq (congrArg AV.bool ?_)); focus (simp_all [Wk.ok, -List.all_eq_true, -List.all_eq_false]; done))
           | (refine And.intro trivial (AVle.of_eq (congrArg AV.bool ?_)); focus (simp only [Wk.ok, *, cond_true, cond_false, Bool.true_and, Bool.and_true, Bool.false_and, Bool.and_false, Bool.not_true, Bool.not_false, Bool.true_or, Bool.or_true, Bool.false_or, Bool.or_false, if_true, ite_true, reduceIte]; done))
           | (refine And.intro trivial (AVle.of_eq (congrArg AV.bool ?_)); focus (simp_all [Wk.ok, -List.all_eq_true, -List.all_eq_false]; intros; omega))
           | (refine And.intro trivial (AVle.of_eq (congrArg AV.bool ?_)); focus (simp only [cond_true, cond_false, Bool.not_eq_true', Bool.not_eq_false'] at *; simp only [Wk.ok, *, cond_true, cond_false, Bool.true_and, Bool.and_true, Bool.false_and, Bool.and_false, Bool.not_true, Bool.not_false, Bool.true_or, Bool.or_true, Bool.false_or, Bool.or_false, if_true, ite_true, reduceIte]; done))
           | fail)

def Sta.orow (s : Sta) (a b : Nat) : List AV := [.int .i64 s.seq, .int .i64 s.fence, .osl a, .osl b, .int .i64 s.l0, .int .i64 s.l1, .int .i64 s.l2, .int .i64 s.h0, .int .i64 s.h1, .int .i64 s.h2]
theorem logN_no {x : Sto} {i : Nat} {st : Sta} (h : logN x i = st) (hr : recAt x ((i : Int) + 1) = none) : logN x (i + 1) = st.tick := by
 show stepL x (logN x i) = _
 unfold stepL
 rw [logN_seq, hr, h]
theorem logN_yes {x : Sto} {i : Nat} {st : Sta} {r : Rc} (h : logN x i = st) (hr : recAt x ((i : Int) + 1) = some r) : logN x (i + 1) = st.app r := by
 show stepL x (logN x i) = _
 unfold stepL
 rw [logN_seq, hr, h]
theorem has_next {x : Sto} {i : Nat} (h : ∀ j, j < i → x.has (manK ((j + 1 : Nat) : Int)) = true) (h' : x.has (manK ((i : Int) + 1)) = true) : ∀ j, j < i + 1 → x.has (manK ((j + 1 : Nat) : Int)) = true := fun j hj => by
 rcases Nat.lt_or_ge j i with h1 | h1
 · exact h j h1
 · have : j = i := by omega
   subst this; exact h'
theorem replay_own (x : Sto) (hs : x.ok = true) (F : Nat) (hF : ∀ (r : Rc) (took : Bool), VFn Tryz.prog F [r.av, .bool took] (.tup [])) :
 FnM Tryz.prog 113 0 [x.av, .fn (.func F) [] []] [] (logS x).own (logS x).objs 2 := by
 have hL := (Sto.ok_at hs).2.1
 refine FnM.introC Tryz.call113 Tryz.func113 rfl rfl ?_
 refine LoopC.nilb 2 2 58 4 (fun _ => []) rfl rfl ?_
 conv => whnf
 refine LoopC.nilb 2 3 170 2 (fun _ => []) rfl rfl ?_
 conv => whnf
 refine LoopC.mk (fun i : Nat => ∀ j, j < i → x.has (manK ((j + 1 : Nat) : Int)) = true) (fun i => [(1, .fn (.func F) [] []), (2, .bptr 0 0), (4, .bptr 1 0), (5, .bptr 2 0)])
  (fun i => [(0, .box x.row), (1, .box sta0.nrow), (2, .box ((logN x i).orow 3 4)), (3, .arr 58 4 (logN x i).es.length fun j => (ix (logN x i).es j).row), (4, .arr 170 2 (logN x i).ts.length fun j => (ix (logN x i).ts j).row)]) 5 (fun i => 1000 - i) 0
  ⟨fun j hj => absurd hj (Nat.not_lt_zero j), [(0, 0), (1, 1), (2, 2), (3, 3), (4, 4)], rfl, rfl, ⟨AVle.refl _, AVle.refl _, AVle.refl _, AVle.refl _, trivial⟩, ⟨MOle.refl _, MOle.refl _, MOle.refl _, MOle.arr rfl fun i hi => absurd hi (Nat.not_lt_zero i), MOle.arr rfl fun i hi => absurd hi (Nat.not_lt_zero i), trivial⟩⟩ ?_
 intro i hi
 have hi3 : i ≤ 300 := by
  rcases Nat.lt_or_ge 300 i with h | h
  · have := log_len (x := x) (n := 301) (by omega) (fun j hj => hi j (by omega)); omega
  · exact h
 obtain ⟨st, hst⟩ : ∃ st, logN x i = st := ⟨_, rfl⟩
 have hseq := logN_seq x i
 have hlen := logN_len x i
 have hlog := logN_log x i
 rw [hst] at hseq hlen hlog ⊢
 refine Grd.intro (fun h2 => ?_) (fun h2 => absurd (of_decide_eq_false h2) (fun h => h (by omega)))
 have cg := get_fn x hs (manK (st.seq + 1))
 by_cases hh : x.has (manK (st.seq + 1)) = true
 · rw [if_pos hh] at cg
   refine DrawC.mq 12 rfl (by kernel_rfl) ?_
   refine And.intro (inI64 (by omega) (by omega)) ?_
   conv => whnf
   refine PCallQ.sca _ (six_fn (st.seq + 1) (by simp [within]; omega)) rfl ?_
   conv => whnf
   refine And.intro (show ((4 + (B (six6 (st.seq + 1).toNat)).size : Nat) : Int) ≤ 9223372036854775807 by rw [B_size, six6_len]; decide) ?_
   refine force_to (congrArg AV.str (show B [109, 97, 110, 47] ++ B (six6 (st.seq + 1).toNat) = B (manK (st.seq + 1)) from B_app _ _)) ?_
   conv => whnf
   refine PCallQ.sca _ (cg) rfl ?_
   have hd := (get_ok x hs _ hh).1
   have hh' : x.has (manK ((i : Int) + 1)) = true := by rw [← hseq]; exact hh
   cases hr : readR (x.get (manK (st.seq + 1))).data with
   | none =>
     obtain ⟨r, cr⟩ := readRecord_no _ (by omega) hr
     conv => whnf
     refine CallC.sca _ (cr) ?_ ?_
     · exact rfl
     refine And.intro (inI64 (by omega) (by omega)) ?_
     have e := logN_no hst (by unfold recAt; rw [← hseq]; exact hr)
     refine ⟨i + 1, has_next hi hh', by omega, [(0, 0), (1, 1), (2, 2), (3, 3), (4, 4)], rfl, rfl, ⟨AVle.refl _, AVle.refl _, AVle.refl _, AVle.refl _, trivial⟩, ⟨MOle.refl _, MOle.refl _, MOle.of_eq (show MO.box (st.tick.orow 3 4) = _ by rw [e]), MOle.of_eq (show MO.arr 58 4 st.tick.es.length (fun j => (ix st.tick.es j).row) = _ by rw [e]), MOle.of_eq (show MO.arr 170 2 st.tick.ts.length (fun j => (ix st.tick.ts j).row) = _ by rw [e]), trivial⟩⟩
   | some r =>
     have hrk := readR_ok hr
     conv => whnf
     refine CallC.sca _ (readRecord_yes _ (by omega) hr) ?_ ?_
     · exact rfl
     conv => whnf
     refine CallC.m [] (apply_fn st (by omega) (by omega) r hrk) rfl rfl (AVsle.refl _) trivial rfl ⟨fun i hi => rfl, fun i hi => rfl, trivial⟩ rfl ?_
     conv => whnf
     refine CallC.sca _ (hF r (st.takes r)) ?_ ?_
     · exact rfl
     have e := logN_yes hst (by unfold recAt; rw [← hseq]; exact hr)
     refine ⟨i + 1, has_next hi hh', by omega, [(0, 0), (1, 1), (2, 2), (18, 3), (19, 4)], rfl, rfl, ⟨AVle.refl _, AVle.refl _, AVle.refl _, AVle.refl _, trivial⟩, ⟨MOle.refl _, MOle.refl _, MOle.of_eq (show MO.box ((st.app r).orow 3 4) = _ by rw [e]), MOle.of_eq (show MO.arr 58 4 (st.app r).es.length (fun j => (ix (st.app r).es j).row) = _ by rw [e]), MOle.of_eq (show MO.arr 170 2 (st.app r).ts.length (fun j => (ix (st.app r).ts j).row) = _ by rw [e]), trivial⟩⟩
 · have hh : x.has (manK (st.seq + 1)) = false := by simpa using hh
   rw [if_neg (by rw [hh]; simp)] at cg
   have e : logS x = st := by
    have := log_end hs hi3 hi (by rw [hseq] at hh; exact hh)
    unfold logS; rw [← this]; exact hst
   rw [e]
   refine DrawC.mq 12 rfl (by kernel_rfl) ?_
   refine And.intro (inI64 (by omega) (by omega)) ?_
   conv => whnf
   refine PCallQ.sca _ (six_fn (st.seq + 1) (by simp [within]; omega)) rfl ?_
   conv => whnf
   refine And.intro (show ((4 + (B (six6 (st.seq + 1).toNat)).size : Nat) : Int) ≤ 9223372036854775807 by rw [B_size, six6_len]; decide) ?_
   refine force_to (congrArg AV.str (show B [109, 97, 110, 47] ++ B (six6 (st.seq + 1).toNat) = B (manK (st.seq + 1)) from B_app _ _)) ?_
   conv => whnf
   refine PCallQ.sca _ (cg) rfl ?_
   exact And.intro trivial ⟨[(3, 0), (4, 1)], rfl, AVle.refl _, ⟨MOle.refl _, MOle.refl _, trivial⟩⟩
theorem log1_fn (r : Rc) (took : Bool) : VFn Tryz.prog 114 [r.av, .bool took] (.tup []) := by
 refine VFn.introC Tryz.call114 Tryz.func114 rfl rfl ?_
 exact And.intro trivial (AVle.refl _)
theorem log_own (x : Sto) (hs : x.ok = true) : FnM Tryz.prog 72 0 [x.av] [] (logS x).own (logS x).objs 2 := by
 refine FnM.introC Tryz.call72 Tryz.func72 rfl rfl ?_
 conv => whnf
 refine CallC.k [] (replay_own x hs 114 log1_fn) rfl rfl (AVsle.refl _) trivial rfl ?_
 exact And.intro trivial ⟨[(2, 0), (3, 1)], rfl, AVle.refl _, ⟨MOle.refl _, MOle.refl _, trivial⟩⟩
theorem log_fn (x : Sto) (hs : x.ok = true) : VFn Tryz.prog 72 [x.av] (logS x).av := (log_own x hs).vfn
theorem l06Empty_fn : VFn Tryz.prog 89 [] sta0.av := by
 refine VFn.introC Tryz.call89 Tryz.func89 rfl rfl ?_
 exact And.intro trivial (AVle.agg (AVsle.cons (AVle.refl _) (AVsle.cons (AVle.refl _) (AVsle.cons (AVle.sl rfl fun i hi => absurd hi (Nat.not_lt_zero i)) (AVsle.cons (AVle.sl rfl fun i hi => absurd hi (Nat.not_lt_zero i)) (AVsle.refl _))))))
theorem l06Key_at (n : Int) (h : 0 ≤ n ∧ n ≤ 999998) : VFn Tryz.prog 69 [.int .i64 (n + 1)] (.str (B (manK (n + 1)))) := l06Key_fn (n + 1) (by simp [within]; omega)
theorem l06Replay_fn (x : Sto) (hs : x.ok = true) : VFn Tryz.prog 46 [x.av] (logS x).av := by
 have hL := (Sto.ok_at hs).2.1
 refine VFn.introC Tryz.call46 Tryz.func46 rfl rfl ?_
 conv => whnf
 refine CallC.nl _ (l06Empty_fn) ?_ ?_
 · exact rfl
 refine LoopC.mk (fun i : Nat => ∀ j, j < i → x.has (manK ((j + 1 : Nat) : Int)) = true) (fun i => [(1, .bptr 0 0), (2, .bptr 1 0), (3, .bptr 2 0)])
  (fun i => [(0, .box x.row), (1, .box sta0.nrow), (2, .box (logN x i).row)]) 3 (fun i => 1000 - i) 0
  ⟨fun j hj => absurd hj (Nat.not_lt_zero j), [(0, 0), (1, 1), (2, 2)], rfl, rfl, ⟨AVle.refl _, AVle.refl _, AVle.refl _, trivial⟩, ⟨MOle.refl _, MOle.refl _, MOle.refl _, trivial⟩⟩ ?_
 intro i hi
 have hi3 : i ≤ 300 := by
  rcases Nat.lt_or_ge 300 i with h | h
  · have := log_len (x := x) (n := 301) (by omega) (fun j hj => hi j (by omega)); omega
  · exact h
 obtain ⟨st, hst⟩ : ∃ st, logN x i = st := ⟨_, rfl⟩
 have hseq := logN_seq x i
 have hlen := logN_len x i
 have hlog := logN_log x i
 rw [hst] at hseq hlen hlog ⊢
 have cg := l01Get_fn x hs (manK (st.seq + 1))
 have ck := l06Key_at st.seq (by omega)
 by_cases hh : x.has (manK (st.seq + 1)) = true
 · rw [if_pos hh] at cg
   have hd := get_ok x hs _ hh
   refine DrawC.mq 11 rfl (by kernel_rfl) ?_
   refine And.intro (inI64 (by omega) (by omega)) ?_
   conv => whnf
   refine PCallQ.sca _ (ck) rfl ?_
   conv => whnf
   refine PCallQ.sca _ (cg) rfl ?_
   refine Grd.intro (fun h => absurd (of_decide_eq_true (p := (x.get (manK (st.seq + 1))).ver = 0) h) (by omega)) (fun _ => ?_)
   have hh' : x.has (manK ((i : Int) + 1)) = true := by rw [← hseq]; exact hh
   cases hr : readR (x.get (manK (st.seq + 1))).data with
   | none =>
     conv => whnf
     refine CallC.sca _ (l06Read_no _ (by omega) hr) ?_ ?_
     · exact rfl
     refine And.intro (inI64 (by omega) (by omega)) ?_
     have e := logN_no hst (by unfold recAt; rw [← hseq]; exact hr)
     exact ⟨i + 1, has_next hi hh', by omega, [(0, 0), (1, 1), (2, 2)], rfl, rfl, ⟨AVle.refl _, AVle.refl _, AVle.refl _, trivial⟩, ⟨MOle.refl _, MOle.refl _, MOle.of_eq (show MO.box st.tick.row = _ by rw [e]), trivial⟩⟩
   | some r =>
     have hrk := readR_ok hr
     conv => whnf
     refine CallC.sca _ (l06Read_yes _ (by omega) hr) ?_ ?_
     · exact rfl
     conv => whnf
     refine CallC.nl _ (l06Apply_fn st (by omega) (by omega) hlog.nd r hrk) ?_ ?_
     · exact rfl
     have e := logN_yes hst (by unfold recAt; rw [← hseq]; exact hr)
     exact ⟨i + 1, has_next hi hh', by omega, [(0, 0), (1, 1), (2, 2)], rfl, rfl, ⟨AVle.refl _, AVle.refl _, AVle.refl _, trivial⟩, ⟨MOle.refl _, MOle.refl _, MOle.of_eq (show MO.box (st.app r).row = _ by rw [e]), trivial⟩⟩
 · have hh : x.has (manK (st.seq + 1)) = false := by simpa using hh
   rw [if_neg (by rw [hh]; simp)] at cg
   have e : logS x = st := by
    have := log_end hs hi3 hi (by rw [hseq] at hh; exact hh)
    unfold logS; rw [← this]; exact hst
   rw [e]
   refine DrawC.mq 11 rfl (by kernel_rfl) ?_
   refine And.intro (inI64 (by omega) (by omega)) ?_
   conv => whnf
   refine PCallQ.sca _ (ck) rfl ?_
   conv => whnf
   refine PCallQ.sca _ (cg) rfl ?_
   exact And.intro trivial (AVle.refl _)

end Go.Proofs.YtigbaclopbcjnaaGreatDoor
