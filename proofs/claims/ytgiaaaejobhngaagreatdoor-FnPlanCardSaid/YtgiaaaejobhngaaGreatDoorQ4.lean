/- Contracts of functions that the claim reaches, and the plain law of what they compute; each theorem bears its own conditions. -/
import Derived.Test.YtgiaaaejobhngaaGreatDoorQ3
import Derived.Test.YtgiaaaejobhngaaGreatDoorV46
import Derived.Test.YtgiaaaejobhngaaGreatDoorQ2
set_option linter.unusedVariables false
set_option linter.constructorNameAsVariable false
set_option linter.unusedSimpArgs false
set_option maxRecDepth 20000
namespace Go.Proofs.YtgiaaaejobhngaaGreatDoor
open Go Go.Vw

theorem l06First_fn (s : Sta) (hL : s.es.length ≤ 1000000000) (k : Int) : VFn Tryz.prog 164 [s.av, .int .i64 k] (.int .i64 (fi (fun e : En => decide (e.tier = k)) s.es)) := by
  refine VFn.introC Tryz.call164 Tryz.func164 rfl rfl ?_
  refine LoopC.mk (fun i : Nat => i ≤ s.es.length ∧ ∀ j, j < i → decide ((ix s.es j).tier = k) = false) (fun i => [(1, .int .i64 k), (2, .bptr 0 0), (5, .int .i64 i)]) (fun i => [(0, .box s.row)]) 1 (fun i => s.es.length - i) 0
    ⟨⟨Nat.zero_le _, fun j hj => absurd hj (Nat.not_lt_zero j)⟩, [(0, 0)], rfl, rfl, ⟨AVle.refl _, AVle.refl _, AVle.refl _, trivial⟩, ⟨MOle.refl _, trivial⟩⟩ ?_
  intro i hi
  refine Grd.intro (fun h2 => ?_) (fun h2 => ?_)
  · have hin : i < s.es.length := by have := of_decide_eq_true h2; omega
    refine And.intro (by omega) ?_
    refine Grd.intro (fun h3 => ?_) (fun h3 => ?_)
    · exact And.intro trivial (AVle.of_eq (congrArg (AV.int .i64) (show (i : Int) = _ from (fi_at hin hi.2 h3).symm)))
    · refine And.intro (inI64 (by omega) (by omega)) ?_
      exact ⟨i + 1, ⟨hin, fun j hj => by
        rcases Nat.lt_or_ge j i with h' | h'
        · exact hi.2 j h'
        · rw [show j = i by omega]; exact h3⟩, by omega, [(0, 0)], rfl, rfl, ⟨AVle.refl _, AVle.refl _, AVle.of_eq (congrArg (AV.int .i64) (by simp)), trivial⟩, ⟨MOle.refl _, trivial⟩⟩
  · have : i = s.es.length := by have := of_decide_eq_false h2; omega
    subst this
    exact And.intro trivial (AVle.of_eq (congrArg (AV.int .i64) (fi_none hi.2).symm))
theorem any_ix {α : Type} [Inhabited α] {L : List α} {p : α → Bool} {i : Nat} (hi : i < L.length) (h : p (ix L i) = true) : L.any p = true := List.any_eq_true.2 ⟨_, getD_mem hi, h⟩
theorem any_no {α : Type} [Inhabited α] {L : List α} {p : α → Bool} (h : ∀ i, i < L.length → p (ix L i) = false) : L.any p = false := by
  rw [← Bool.not_eq_true]; intro h'
  obtain ⟨x, hx, hp⟩ := List.any_eq_true.1 h'
  obtain ⟨j, hj, e⟩ := List.getElem_of_mem hx
  have := h j hj
  rw [ix_lt hj, e, hp] at this; cases this
theorem l06Named_fn (s : Sta) (hL : s.es.length ≤ 1000000000) (hT : s.ts.length ≤ 1000000000) (k : List UInt8) : VFn Tryz.prog 221 [s.av, .str (B k)] (.bool (s.has k)) := by
  have hh : s.has k = (s.es.any (fun e => decide (e.key = k)) || s.ts.any fun t => decide (t.key = k)) := by unfold Sta.has Sta.tombAt; rw [fi_any]
  refine VFn.introC Tryz.call221 Tryz.func221 rfl rfl ?_
  refine LoopC.mk (fun i : Nat => i ≤ s.es.length ∧ ∀ j, j < i → decide ((ix s.es j).key = k) = false) (fun i => [(1, .str (B k)), (2, .bptr 0 0), (5, .int .i64 i)]) (fun i => [(0, .box s.row)]) 1 (fun i => s.es.length - i) 0
    ⟨⟨Nat.zero_le _, fun j hj => absurd hj (Nat.not_lt_zero j)⟩, [(0, 0)], rfl, rfl, ⟨AVle.refl _, AVle.refl _, AVle.refl _, trivial⟩, ⟨MOle.refl _, trivial⟩⟩ ?_
  intro i hi
  refine Grd.intro (fun h2 => ?_) (fun h2 => ?_)
  · have hin : i < s.es.length := by have := of_decide_eq_true h2; omega
    refine And.intro (by omega) ?_
    refine Grd.intro (fun h3 => ?_) (fun h3 => ?_)
    · have h3 : ((B (ix s.es i).key).toList == (B k).toList) = true := h3
      rw [B_eq] at h3
      rw [show s.has k = true by rw [hh, any_ix (p := fun e : En => decide (e.key = k)) hin h3]; rfl]
      exact And.intro trivial (AVle.refl _)
    · have h3 : ((B (ix s.es i).key).toList == (B k).toList) = false := h3
      rw [B_eq] at h3
      refine And.intro (inI64 (by omega) (by omega)) ?_
      exact ⟨i + 1, ⟨hin, fun j hj => by
        rcases Nat.lt_or_ge j i with h' | h'
        · exact hi.2 j h'
        · rw [show j = i by omega]; exact h3⟩, by omega, [(0, 0)], rfl, rfl, ⟨AVle.refl _, AVle.refl _, AVle.of_eq (congrArg (AV.int .i64) (by simp)), trivial⟩, ⟨MOle.refl _, trivial⟩⟩
  have : i = s.es.length := by have := of_decide_eq_false h2; omega
  subst this
  have hno := any_no (p := fun e : En => decide (e.key = k)) hi.2
  refine LoopC.mk (fun i : Nat => i ≤ s.ts.length ∧ ∀ j, j < i → decide ((ix s.ts j).key = k) = false) (fun i => [(1, .str (B k)), (2, .bptr 0 0), (6, .int .i64 i)]) (fun i => [(0, .box s.row)]) 1 (fun i => s.ts.length - i) 0
    ⟨⟨Nat.zero_le _, fun j hj => absurd hj (Nat.not_lt_zero j)⟩, [(0, 0)], rfl, rfl, ⟨AVle.refl _, AVle.refl _, AVle.refl _, trivial⟩, ⟨MOle.refl _, trivial⟩⟩ ?_
  intro i hi2
  refine Grd.intro (fun h4 => ?_) (fun h4 => ?_)
  · have hin : i < s.ts.length := by have := of_decide_eq_true h4; omega
    refine And.intro (by omega) ?_
    refine Grd.intro (fun h3 => ?_) (fun h3 => ?_)
    · have h3 : ((B (ix s.ts i).key).toList == (B k).toList) = true := h3
      rw [B_eq] at h3
      rw [show s.has k = true by rw [hh, hno, any_ix (p := fun t : Tb => decide (t.key = k)) hin h3]; rfl]
      exact And.intro trivial (AVle.refl _)
    · have h3 : ((B (ix s.ts i).key).toList == (B k).toList) = false := h3
      rw [B_eq] at h3
      refine And.intro (inI64 (by omega) (by omega)) ?_
      exact ⟨i + 1, ⟨hin, fun j hj => by
        rcases Nat.lt_or_ge j i with h' | h'
        · exact hi2.2 j h'
        · rw [show j = i by omega]; exact h3⟩, by omega, [(0, 0)], rfl, rfl, ⟨AVle.refl _, AVle.refl _, AVle.of_eq (congrArg (AV.int .i64) (by simp)), trivial⟩, ⟨MOle.refl _, trivial⟩⟩
  · have : i = s.ts.length := by have := of_decide_eq_false h4; omega
    subst this
    rw [show s.has k = false by rw [hh, hno, any_no (p := fun t : Tb => decide (t.key = k)) hi2.2]; rfl]
    exact And.intro trivial (AVle.refl _)
end Go.Proofs.YtgiaaaejobhngaaGreatDoor
set_option linter.unusedVariables false
set_option linter.constructorNameAsVariable false
set_option linter.unusedSimpArgs false
set_option maxRecDepth 20000
namespace Go.Proofs.YtgiaaaejobhngaaGreatDoor
open Go Go.Vw

def En.size (e : En) : Nat := e.key.length
def Tb.size (e : Tb) : Nat := e.key.length
def Sta.size (s : Sta) : Nat := (s.es.length + sumL En.size s.es) + (s.ts.length + sumL Tb.size s.ts)
/-- what is read of a state -/
def Sta.read (s : Sta) : Prop := s.es.length ≤ 9223372036854775807 ∧ s.ts.length ≤ 9223372036854775807 ∧ (∀ e ∈ s.es, e.size ≤ 9223372036854775807) ∧ ∀ e ∈ s.ts, e.size ≤ 9223372036854775807
theorem Sta.small {s : Sta} (h : (s.size : Int) ≤ 1048576) : s.es.length ≤ 1048576 ∧ s.ts.length ≤ 1048576 ∧ (∀ e ∈ s.es, e.key.length ≤ 1048576) ∧ ∀ e ∈ s.ts, e.key.length ≤ 1048576 := by
  unfold Sta.size at h
  refine ⟨by omega, by omega, fun e he => ?_, fun e he => ?_⟩
  · have := sum_mem (f := En.size) he
    have e' : e.size = e.key.length := rfl
    omega
  · have := sum_mem (f := Tb.size) he
    have e' : e.size = e.key.length := rfl
    omega
end Go.Proofs.YtgiaaaejobhngaaGreatDoor
set_option linter.unusedVariables false
set_option linter.constructorNameAsVariable false
set_option linter.unusedSimpArgs false
set_option maxRecDepth 20000
namespace Go.Proofs.YtgiaaaejobhngaaGreatDoor
open Go Go.Vw

def wd (k : Int) : Int := if k = 0 then 1 else if k = 1 then 5 else 20
theorem width_fn (k : Int) (h : k = 0 ∨ k = 1 ∨ k = 2) : VFn Tryz.prog 135 [.int .i64 k] (.int .i64 (wd k)) := by
  rcases h with rfl | rfl | rfl
  · refine VFn.introC Tryz.call135 Tryz.func135 rfl rfl ?_
    refine And.intro ⟨by omega, by show (0 : Int) < ((3 : Nat) : Int); omega⟩ ?_
    exact And.intro trivial (AVle.refl _)
  · refine VFn.introC Tryz.call135 Tryz.func135 rfl rfl ?_
    refine And.intro ⟨by omega, by show (1 : Int) < ((3 : Nat) : Int); omega⟩ ?_
    exact And.intro trivial (AVle.refl _)
  · refine VFn.introC Tryz.call135 Tryz.func135 rfl rfl ?_
    refine And.intro ⟨by omega, by show (2 : Int) < ((3 : Nat) : Int); omega⟩ ?_
    exact And.intro trivial (AVle.refl _)
theorem l04Width_fn (k : Int) (h : k = 0 ∨ k = 1 ∨ k = 2) : VFn Tryz.prog 183 [.int .i64 k] (.int .i64 (wd k)) := by
  rcases h with rfl | rfl | rfl
  · refine VFn.introC Tryz.call183 Tryz.func183 rfl rfl ?_
    refine And.intro ⟨by omega, by show (0 : Int) < ((3 : Nat) : Int); omega⟩ ?_
    exact And.intro trivial (AVle.refl _)
  · refine VFn.introC Tryz.call183 Tryz.func183 rfl rfl ?_
    refine And.intro ⟨by omega, by show (1 : Int) < ((3 : Nat) : Int); omega⟩ ?_
    exact And.intro trivial (AVle.refl _)
  · refine VFn.introC Tryz.call183 Tryz.func183 rfl rfl ?_
    refine And.intro ⟨by omega, by show (2 : Int) < ((3 : Nat) : Int); omega⟩ ?_
    exact And.intro trivial (AVle.refl _)
/-- the tier whose next window is due: 0, none -/
def dueT (h0 h1 h2 : Int) : Int := if h1 + 5 ≤ h0 then 1 else if h2 + 20 ≤ h1 then 2 else 0
def dueF (h0 h1 h2 : Int) : Int := if h1 + 5 ≤ h0 then h1 else if h2 + 20 ≤ h1 then h2 else 0
theorem due_fn (s : Sta) (b0 : 0 ≤ s.h0 ∧ s.h0 ≤ 1000000) (b1 : 0 ≤ s.h1 ∧ s.h1 ≤ 1000000) (b2 : 0 ≤ s.h2 ∧ s.h2 ≤ 1000000) : VFn Tryz.prog 130 [s.av] (.tup [.int .i64 (dueT s.h0 s.h1 s.h2), .int .i64 (dueF s.h0 s.h1 s.h2), .bool (!decide (dueT s.h0 s.h1 s.h2 = 0))]) := by
  have w1 : VFn Tryz.prog 135 [.int .i64 1] (.int .i64 5) := width_fn 1 (.inr (.inl rfl))
  have w2 : VFn Tryz.prog 135 [.int .i64 2] (.int .i64 20) := width_fn 2 (.inr (.inr rfl))
  refine VFn.introC Tryz.call130 Tryz.func130 rfl rfl ?_
  refine LoopC.rounds 3 ?_
  refine DrawC.mk 13 rfl (by kernel_rfl) ?_
  refine And.intro ⟨by omega, by show (1 : Int) < ((3 : Nat) : Int); omega⟩ ?_
  refine PCallC.sca _ (w1) rfl ?_
  refine And.intro (inI64 (by omega) (by omega)) ?_
  refine And.intro (inI64 (by omega) (by omega)) ?_
  refine And.intro ⟨by omega, by show (0 : Int) < ((3 : Nat) : Int); omega⟩ ?_
  refine Grd.intro (fun g1 => ?_) (fun g1 => ?_)
  · have g1 : s.h1 + 5 ≤ s.h0 := of_decide_eq_true g1
    refine DrawC.mk 8 rfl (by kernel_rfl) ?_
    refine And.intro ⟨by omega, by show (1 : Int) < ((3 : Nat) : Int); omega⟩ ?_
    rw [show dueT s.h0 s.h1 s.h2 = 1 by unfold dueT; simp [g1], show dueF s.h0 s.h1 s.h2 = s.h1 by unfold dueF; simp [g1]]
    exact And.intro trivial (AVle.refl _)
  have g1 : ¬ s.h1 + 5 ≤ s.h0 := of_decide_eq_false g1
  refine And.intro (inI64 (by omega) (by omega)) ?_
  refine DrawC.mk 13 rfl (by kernel_rfl) ?_
  refine And.intro ⟨by omega, by show (2 : Int) < ((3 : Nat) : Int); omega⟩ ?_
  refine PCallC.sca _ (w2) rfl ?_
  refine And.intro (inI64 (by omega) (by omega)) ?_
  refine And.intro (inI64 (by omega) (by omega)) ?_
  refine And.intro ⟨by omega, by show (1 : Int) < ((3 : Nat) : Int); omega⟩ ?_
  refine Grd.intro (fun g2 => ?_) (fun g2 => ?_)
  · have g2 : s.h2 + 20 ≤ s.h1 := of_decide_eq_true g2
    refine DrawC.mk 8 rfl (by kernel_rfl) ?_
    refine And.intro ⟨by omega, by show (2 : Int) < ((3 : Nat) : Int); omega⟩ ?_
    rw [show dueT s.h0 s.h1 s.h2 = 2 by unfold dueT; simp [g2, g1], show dueF s.h0 s.h1 s.h2 = s.h2 by unfold dueF; simp [g2, g1]]
    exact And.intro trivial (AVle.refl _)
  have g2 : ¬ s.h2 + 20 ≤ s.h1 := of_decide_eq_false g2
  refine And.intro (inI64 (by omega) (by omega)) ?_
  rw [show dueT s.h0 s.h1 s.h2 = 0 by unfold dueT; simp [g1, g2], show dueF s.h0 s.h1 s.h2 = 0 by unfold dueF; simp [g1, g2]]
  exact And.intro trivial (AVle.refl _)
theorem l07Due_fn (s : Sta) (b0 : 0 ≤ s.h0 ∧ s.h0 ≤ 1000000) (b1 : 0 ≤ s.h1 ∧ s.h1 ≤ 1000000) (b2 : 0 ≤ s.h2 ∧ s.h2 ≤ 1000000) : VFn Tryz.prog 131 [s.av] (.tup [.int .i64 (dueT s.h0 s.h1 s.h2), .int .i64 (dueF s.h0 s.h1 s.h2), .bool (!decide (dueT s.h0 s.h1 s.h2 = 0))]) := by
  have w1 : VFn Tryz.prog 183 [.int .i64 1] (.int .i64 5) := l04Width_fn 1 (.inr (.inl rfl))
  have w2 : VFn Tryz.prog 183 [.int .i64 2] (.int .i64 20) := l04Width_fn 2 (.inr (.inr rfl))
  refine VFn.introC Tryz.call131 Tryz.func131 rfl rfl ?_
  refine LoopC.rounds 3 ?_
  refine DrawC.mk 8 rfl (by kernel_rfl) ?_
  refine And.intro ⟨by omega, by show (1 : Int) < ((3 : Nat) : Int); omega⟩ ?_
  refine PCallC.sca _ (w1) rfl ?_
  refine And.intro (inI64 (by omega) (by omega)) ?_
  refine And.intro (inI64 (by omega) (by omega)) ?_
  refine And.intro ⟨by omega, by show (0 : Int) < ((3 : Nat) : Int); omega⟩ ?_
  refine Grd.intro (fun g1 => ?_) (fun g1 => ?_)
  · have g1 : s.h1 + 5 ≤ s.h0 := of_decide_eq_true g1
    refine DrawC.mk 8 rfl (by kernel_rfl) ?_
    refine And.intro ⟨by omega, by show (1 : Int) < ((3 : Nat) : Int); omega⟩ ?_
    rw [show dueT s.h0 s.h1 s.h2 = 1 by unfold dueT; simp [g1], show dueF s.h0 s.h1 s.h2 = s.h1 by unfold dueF; simp [g1]]
    exact And.intro trivial (AVle.refl _)
  have g1 : ¬ s.h1 + 5 ≤ s.h0 := of_decide_eq_false g1
  refine And.intro (inI64 (by omega) (by omega)) ?_
  refine DrawC.mk 8 rfl (by kernel_rfl) ?_
  refine And.intro ⟨by omega, by show (2 : Int) < ((3 : Nat) : Int); omega⟩ ?_
  refine PCallC.sca _ (w2) rfl ?_
  refine And.intro (inI64 (by omega) (by omega)) ?_
  refine And.intro (inI64 (by omega) (by omega)) ?_
  refine And.intro ⟨by omega, by show (1 : Int) < ((3 : Nat) : Int); omega⟩ ?_
  refine Grd.intro (fun g2 => ?_) (fun g2 => ?_)
  · have g2 : s.h2 + 20 ≤ s.h1 := of_decide_eq_true g2
    refine DrawC.mk 8 rfl (by kernel_rfl) ?_
    refine And.intro ⟨by omega, by show (2 : Int) < ((3 : Nat) : Int); omega⟩ ?_
    rw [show dueT s.h0 s.h1 s.h2 = 2 by unfold dueT; simp [g2, g1], show dueF s.h0 s.h1 s.h2 = s.h2 by unfold dueF; simp [g2, g1]]
    exact And.intro trivial (AVle.refl _)
  have g2 : ¬ s.h2 + 20 ≤ s.h1 := of_decide_eq_false g2
  refine And.intro (inI64 (by omega) (by omega)) ?_
  rw [show dueT s.h0 s.h1 s.h2 = 0 by unfold dueT; simp [g1, g2], show dueF s.h0 s.h1 s.h2 = 0 by unfold dueF; simp [g1, g2]]
  exact And.intro trivial (AVle.refl _)
/-- how many windows are due -/
def dueN : Nat → Int → Int → Int → Int
  | 0, _, _, _ => 0
  | f + 1, h0, h1, h2 => if h1 + 5 ≤ h0 then 1 + dueN f h0 (h1 + 5) h2 else if h2 + 20 ≤ h1 then 1 + dueN f h0 h1 (h2 + 20) else 0
theorem dueN_b : ∀ f h0 h1 h2, 0 ≤ dueN f h0 h1 h2 ∧ dueN f h0 h1 h2 ≤ f
  | 0, _, _, _ => by simp [dueN]
  | f + 1, h0, h1, h2 => by
    have a := dueN_b f h0 (h1 + 5) h2
    have b := dueN_b f h0 h1 (h2 + 20)
    unfold dueN
    split
    · omega
    · split <;> omega
def Sta.h (s : Sta) (a b : Int) : Sta := { s with h1 := a, h2 := b }
theorem hi_b (L : List En) (hL : L.all En.ok = true) (lo hi k : Int) (h : tierOK L lo hi k = true) : 0 ≤ hi ∧ hi ≤ 100000 := by
  unfold tierOK at h
  simp only [Bool.and_eq_true, decide_eq_true_eq] at h
  have hl : 0 ≤ lo ∧ lo ≤ 100000 := by simpa [within] using h.1
  rw [runs_endE h.2]
  unfold endE
  cases hq : (ofT L k).getLast? with
  | none => exact hl
  | some e =>
    have he : e ∈ L := (List.mem_filter.1 (List.mem_of_getLast? hq)).1
    have := List.all_eq_true.1 hL e he
    unfold En.ok isRange at this
    simp [within] at this
    simp only; omega
theorem Sta.hi_b {s : Sta} (h : s.ok = true) : (0 ≤ s.h0 ∧ s.h0 ≤ 100000) ∧ (0 ≤ s.h1 ∧ s.h1 ≤ 100000) ∧ (0 ≤ s.h2 ∧ s.h2 ≤ 100000) := by
  unfold Sta.ok at h
  simp only [Bool.and_eq_true] at h
  obtain ⟨_, _, _, h4, _, _, t0, t1, t2⟩ := h
  exact ⟨Proofs.YtgiaaaejobhngaaGreatDoor.hi_b s.es h4 _ _ _ t0, Proofs.YtgiaaaejobhngaaGreatDoor.hi_b s.es h4 _ _ _ t1, Proofs.YtgiaaaejobhngaaGreatDoor.hi_b s.es h4 _ _ _ t2⟩
def Sta.due (s : Sta) : Int := dueN 300000 s.h0 s.h1 s.h2
theorem l14Due_fn (s : Sta) (hok : s.ok = true) : VFn Tryz.prog 136 [s.av] (.int .i64 s.due) := by
  obtain ⟨c0, c1, c2⟩ := Sta.hi_b hok
  have w1 : VFn Tryz.prog 183 [.int .i64 1] (.int .i64 5) := l04Width_fn 1 (.inr (.inl rfl))
  have w2 : VFn Tryz.prog 183 [.int .i64 2] (.int .i64 20) := l04Width_fn 2 (.inr (.inr rfl))
  refine VFn.introC Tryz.call136 Tryz.func136 rfl rfl ?_
  refine LoopC.mk (fun x : Int × Int × Int => (0 ≤ x.1 ∧ x.1 ≤ 100000) ∧ (0 ≤ x.2.1 ∧ x.2.1 ≤ 100000) ∧ ∃ f : Nat, x.2.2 + dueN f s.h0 x.1 x.2.1 = s.due ∧ (200001 - x.1 - x.2.1).toNat < f ∧ 0 ≤ x.2.2) (fun x => [(1, .bptr 0 0), (3, .int .i64 x.2.2)]) (fun x => [(0, .box (s.h x.1 x.2.1).row)]) 1 (fun x => (200001 - x.1 - x.2.1).toNat) (s.h1, s.h2, 0)
    ⟨⟨c1, c2, 300000, by simp [Sta.due], by simp only; omega, by simp only; omega⟩, [(0, 0)], rfl, rfl, ⟨AVle.refl _, AVle.refl _, trivial⟩, ⟨MOle.refl _, trivial⟩⟩ ?_
  rintro ⟨a, b, n⟩ hx
  simp only at hx
  obtain ⟨hA, hB, f, hn, hf, h0⟩ := hx
  obtain ⟨f, rfl⟩ : ∃ k, f = k + 1 := ⟨f - 1, by omega⟩
  have hN := dueN_b (f + 1) s.h0 a b
  have hD := dueN_b 300000 s.h0 s.h1 s.h2
  have hD' : s.due ≤ 300000 := hD.2
  have c := l07Due_fn (s.h a b) ⟨by show 0 ≤ s.h0; omega, by show s.h0 ≤ 1000000; omega⟩ ⟨hA.1, by show a ≤ 1000000; omega⟩ ⟨hB.1, by show b ≤ 1000000; omega⟩
  have e : dueN (f + 1) s.h0 a b = if a + 5 ≤ s.h0 then 1 + dueN f s.h0 (a + 5) b else if b + 20 ≤ a then 1 + dueN f s.h0 a (b + 20) else 0 := rfl
  have eT : dueT (s.h a b).h0 (s.h a b).h1 (s.h a b).h2 = if a + 5 ≤ s.h0 then 1 else if b + 20 ≤ a then 2 else 0 := rfl
  have eF : dueF (s.h a b).h0 (s.h a b).h1 (s.h a b).h2 = if a + 5 ≤ s.h0 then a else if b + 20 ≤ a then b else 0 := rfl
  rw [eT, eF] at c
  by_cases g1 : a + 5 ≤ s.h0
  · rw [if_pos g1] at e
    rw [if_pos g1, if_pos g1] at c
    · conv => whnf
      refine CallC.sca _ (c) ?_ ?_
      · exact rfl
      conv => whnf
      refine CallC.sca _ (w1) ?_ ?_
      · exact rfl
      refine And.intro (show inI .i64 (a + 5) from inI64 (by omega) (by omega)) ?_
      refine And.intro ⟨by omega, by show (1 : Int) < ((3 : Nat) : Int); omega⟩ ?_
      refine And.intro (show inI .i64 (n + 1) from inI64 (by omega) (by omega)) ?_
      exact ⟨(a + 5, b, n + 1), ⟨by (try simp only); omega, by (try simp only); omega, f, by (try simp only); omega, by (try simp only); omega, by (try simp only); omega⟩, by simp only; omega, [(0, 0)], rfl, rfl, ⟨AVle.refl _, AVle.refl _, trivial⟩, ⟨MOle.refl _, trivial⟩⟩
  · rw [if_neg g1] at e
    rw [if_neg g1, if_neg g1] at c
    by_cases g2 : b + 20 ≤ a
    · rw [if_pos g2] at e
      rw [if_pos g2, if_pos g2] at c
      conv => whnf
      refine CallC.sca _ (c) ?_ ?_
      · exact rfl
      conv => whnf
      refine CallC.sca _ (w2) ?_ ?_
      · exact rfl
      refine And.intro (show inI .i64 (b + 20) from inI64 (by omega) (by omega)) ?_
      refine And.intro ⟨by omega, by show (2 : Int) < ((3 : Nat) : Int); omega⟩ ?_
      refine And.intro (show inI .i64 (n + 1) from inI64 (by omega) (by omega)) ?_
      exact ⟨(a, b + 20, n + 1), ⟨by (try simp only); omega, by (try simp only); omega, f, by (try simp only); omega, by (try simp only); omega, by (try simp only); omega⟩, by simp only; omega, [(0, 0)], rfl, rfl, ⟨AVle.refl _, AVle.refl _, trivial⟩, ⟨MOle.refl _, trivial⟩⟩
    · rw [if_neg g2] at e
      rw [if_neg g2, if_neg g2] at c
      conv => whnf
      refine CallC.sca _ (c) ?_ ?_
      · exact rfl
      exact And.intro trivial (AVle.of_eq (congrArg (AV.int .i64) (show n = s.due by omega)))
theorem DueCount_fn (s : Sta) (hL : s.es.length ≤ 1000000000) (hT : s.ts.length ≤ 1000000000) : VFn Tryz.prog 57 [s.av] (.tup [.int .i64 (if s.ok = true then s.due else 0), .int .i64 (if s.ok = true then 0 else 1)]) := by
  have w1 : VFn Tryz.prog 135 [.int .i64 1] (.int .i64 5) := width_fn 1 (.inr (.inl rfl))
  have w2 : VFn Tryz.prog 135 [.int .i64 2] (.int .i64 20) := width_fn 2 (.inr (.inr rfl))
  refine VFn.introC Tryz.call57 Tryz.func57 rfl rfl ?_
  conv => whnf
  refine CallC.sca _ (StateOK_fn s hL hT) ?_ ?_
  · exact rfl
  by_cases hok : s.ok = true
  case neg =>
    rw [if_neg hok, if_neg hok, show s.ok = false by simpa using hok]
    exact And.intro trivial (AVle.refl _)
  rw [if_pos hok, if_pos hok, hok]
  obtain ⟨c0, c1, c2⟩ := Sta.hi_b hok
  refine LoopC.mk (fun x : Int × Int × Int => (0 ≤ x.1 ∧ x.1 ≤ 100000) ∧ (0 ≤ x.2.1 ∧ x.2.1 ≤ 100000) ∧ ∃ f : Nat, x.2.2 + dueN f s.h0 x.1 x.2.1 = s.due ∧ (200001 - x.1 - x.2.1).toNat < f ∧ 0 ≤ x.2.2) (fun x => [(1, .bptr 0 0), (4, .int .i64 x.2.2)]) (fun x => [(0, .box (s.h x.1 x.2.1).row)]) 1 (fun x => (200001 - x.1 - x.2.1).toNat) (s.h1, s.h2, 0)
    ⟨⟨c1, c2, 300000, by simp [Sta.due], by simp only; omega, by simp only; omega⟩, [(0, 0)], rfl, rfl, ⟨AVle.refl _, AVle.refl _, trivial⟩, ⟨MOle.refl _, trivial⟩⟩ ?_
  rintro ⟨a, b, n⟩ hx
  simp only at hx
  obtain ⟨hA, hB, f, hn, hf, h0⟩ := hx
  obtain ⟨f, rfl⟩ : ∃ k, f = k + 1 := ⟨f - 1, by omega⟩
  have hN := dueN_b (f + 1) s.h0 a b
  have hD := dueN_b 300000 s.h0 s.h1 s.h2
  have hD' : s.due ≤ 300000 := hD.2
  have c := due_fn (s.h a b) ⟨by show 0 ≤ s.h0; omega, by show s.h0 ≤ 1000000; omega⟩ ⟨hA.1, by show a ≤ 1000000; omega⟩ ⟨hB.1, by show b ≤ 1000000; omega⟩
  have e : dueN (f + 1) s.h0 a b = if a + 5 ≤ s.h0 then 1 + dueN f s.h0 (a + 5) b else if b + 20 ≤ a then 1 + dueN f s.h0 a (b + 20) else 0 := rfl
  have eT : dueT (s.h a b).h0 (s.h a b).h1 (s.h a b).h2 = if a + 5 ≤ s.h0 then 1 else if b + 20 ≤ a then 2 else 0 := rfl
  have eF : dueF (s.h a b).h0 (s.h a b).h1 (s.h a b).h2 = if a + 5 ≤ s.h0 then a else if b + 20 ≤ a then b else 0 := rfl
  rw [eT, eF] at c
  by_cases g1 : a + 5 ≤ s.h0
  · rw [if_pos g1] at e
    rw [if_pos g1, if_pos g1] at c
    · conv => whnf
      refine CallC.sca _ (c) ?_ ?_
      · exact rfl
      refine DrawC.mk 9 rfl (by kernel_rfl) ?_
      refine And.intro ⟨by omega, by show (1 : Int) < ((3 : Nat) : Int); omega⟩ ?_
      refine PCallC.sca _ (w1) rfl ?_
      refine And.intro (show inI .i64 (a + 5) from inI64 (by omega) (by omega)) ?_
      refine And.intro ⟨by omega, by show (1 : Int) < ((3 : Nat) : Int); omega⟩ ?_
      refine And.intro (show inI .i64 (n + 1) from inI64 (by omega) (by omega)) ?_
      exact ⟨(a + 5, b, n + 1), ⟨by (try simp only); omega, by (try simp only); omega, f, by (try simp only); omega, by (try simp only); omega, by (try simp only); omega⟩, by simp only; omega, [(0, 0)], rfl, rfl, ⟨AVle.refl _, AVle.refl _, trivial⟩, ⟨MOle.refl _, trivial⟩⟩
  · rw [if_neg g1] at e
    rw [if_neg g1, if_neg g1] at c
    by_cases g2 : b + 20 ≤ a
    · rw [if_pos g2] at e
      rw [if_pos g2, if_pos g2] at c
      conv => whnf
      refine CallC.sca _ (c) ?_ ?_
      · exact rfl
      refine DrawC.mk 9 rfl (by kernel_rfl) ?_
      refine And.intro ⟨by omega, by show (2 : Int) < ((3 : Nat) : Int); omega⟩ ?_
      refine PCallC.sca _ (w2) rfl ?_
      refine And.intro (show inI .i64 (b + 20) from inI64 (by omega) (by omega)) ?_
      refine And.intro ⟨by omega, by show (2 : Int) < ((3 : Nat) : Int); omega⟩ ?_
      refine And.intro (show inI .i64 (n + 1) from inI64 (by omega) (by omega)) ?_
      exact ⟨(a, b + 20, n + 1), ⟨by (try simp only); omega, by (try simp only); omega, f, by (try simp only); omega, by (try simp only); omega, by (try simp only); omega⟩, by simp only; omega, [(0, 0)], rfl, rfl, ⟨AVle.refl _, AVle.refl _, trivial⟩, ⟨MOle.refl _, trivial⟩⟩
    · rw [if_neg g2] at e
      rw [if_neg g2, if_neg g2] at c
      conv => whnf
      refine CallC.sca _ (c) ?_ ?_
      · exact rfl
      exact And.intro trivial (AVle.of_eq (show AV.tup [.int .i64 n, .int .i64 0] = _ by rw [show n = s.due by omega]))
theorem specDueCount_fn (s : Sta) (hL : s.es.length ≤ 1000000000) (hT : s.ts.length ≤ 1000000000) (hk1 : ∀ e ∈ s.es, e.key.length ≤ 1000000000) (hk2 : ∀ e ∈ s.ts, e.key.length ≤ 1000000000) : VFn Tryz.prog 58 [s.av] (.tup [.int .i64 (if s.ok = true then s.due else 0), .int .i64 (if s.ok = true then 0 else 1)]) := by
  refine VFn.introC Tryz.call58 Tryz.func58 rfl rfl ?_
  conv => whnf
  refine CallC.sca _ (specStateOK_ok s hL hT hk1 hk2) ?_ ?_
  · exact rfl
  by_cases hok : s.ok = true
  · rw [if_pos hok, if_pos hok, hok]
    conv => whnf
    refine CallC.sca _ (l14Due_fn s hok) ?_ ?_
    · exact rfl
    exact And.intro trivial (AVle.refl _)
  · rw [if_neg hok, if_neg hok, show s.ok = false by simpa using hok]
    exact And.intro trivial (AVle.refl _)
end Go.Proofs.YtgiaaaejobhngaaGreatDoor
set_option linter.unusedVariables false
set_option linter.constructorNameAsVariable false
set_option linter.unusedSimpArgs false
set_option maxRecDepth 20000
namespace Go.Proofs.YtgiaaaejobhngaaGreatDoor
open Go Go.Vw

def headIs (L : List En) (e : En) : Bool := match L with | x :: _ => decide (x = e) | [] => false
def Sta.takes (s : Sta) (r : Rc) : Bool :=
  if r.k = 1 then decide (r.f = s.h0) && (decide (kN r.key = s.seq + 1) && !s.has r.key)
  else if r.k = 2 then decide (s.fence < r.tok)
  else if r.k = 3 then decide (r.tok = s.fence) && (decide (r.f = s.hi r.tier) && (decide (kN r.key = r.f) && (decide (kW r.key = r.tok) && (decide (r.t = r.f + wd r.tier) && (decide (r.t ≤ s.hi (r.tier - 1)) && (decide (s.lo (r.tier - 1) ≤ r.f) && !s.has r.key))))))
  else if r.k = 4 then decide (r.tok = s.fence) && (headIs (ofT s.es r.tier) r.en && (decide (r.tier = 2) || decide (r.t ≤ s.hi (r.tier + 1))))
  else decide (0 ≤ s.tombAt r.key)
end Go.Proofs.YtgiaaaejobhngaaGreatDoor
set_option linter.unusedVariables false
set_option linter.constructorNameAsVariable false
set_option linter.unusedSimpArgs false
set_option maxRecDepth 20000
namespace Go.Proofs.YtgiaaaejobhngaaGreatDoor
open Go Go.Vw

def readP : List (List UInt8) → Option Rc
  | [a, b] => (match numsK 44 5 a with
    | some [k, tok, tier, f, e] => if Rc.ok ⟨k, tok, tier, f, e, b⟩ = true then some ⟨k, tok, tier, f, e, b⟩ else none
    | _ => none)
  | _ => none
def readR (t : List UInt8) : Option Rc := readP (cutP 32 [] t)
theorem readR_ok {t : List UInt8} {r : Rc} (h : readR t = some r) : r.ok = true := by
  unfold readR readP at h
  split at h
  · split at h
    · split at h
      · cases h; assumption
      · cases h
    · cases h
  · cases h
def Sta.tick (s : Sta) : Sta := { s with seq := s.seq + 1 }
def Sta.lift (s : Sta) (k v : Int) : Sta := if k = 0 then { s with h0 := v } else if k = 1 then { s with h1 := v } else { s with h2 := v }
def Sta.lower (s : Sta) (k v : Int) : Sta := if k = 0 then { s with l0 := v } else if k = 1 then { s with l1 := v } else { s with l2 := v }
def noE (k : List UInt8) (L : List En) : List En := L.filter fun e => !decide (e.key = k)
def noT (k : List UInt8) (L : List Tb) : List Tb := L.filter fun e => !decide (e.key = k)
def Sta.app (s : Sta) (r : Rc) : Sta :=
  if s.takes r = true then
    if r.k = 1 ∨ r.k = 3 then ({ s.tick with es := s.es ++ [r.en] } : Sta).lift r.tier r.t
    else if r.k = 2 then { s.tick with fence := r.tok }
    else if r.k = 4 then ({ s.tick with es := noE r.key s.es, ts := s.ts ++ [⟨s.seq + 1, r.key⟩] } : Sta).lower r.tier r.t
    else { s.tick with ts := noT r.key s.ts }
  else s.tick
theorem lift_es (s : Sta) (k v : Int) : (s.lift k v).es = s.es ∧ (s.lift k v).ts = s.ts ∧ (s.lift k v).seq = s.seq ∧ (s.lift k v).fence = s.fence := by
  unfold Sta.lift; split
  · exact ⟨rfl, rfl, rfl, rfl⟩
  · split <;> exact ⟨rfl, rfl, rfl, rfl⟩
theorem lower_es (s : Sta) (k v : Int) : (s.lower k v).es = s.es ∧ (s.lower k v).ts = s.ts ∧ (s.lower k v).seq = s.seq ∧ (s.lower k v).fence = s.fence := by
  unfold Sta.lower; split
  · exact ⟨rfl, rfl, rfl, rfl⟩
  · split <;> exact ⟨rfl, rfl, rfl, rfl⟩
theorem app_seq (s : Sta) (r : Rc) : (s.app r).seq = s.seq + 1 := by
  unfold Sta.app
  split
  · split
    · rw [(lift_es _ _ _).2.2.1]; rfl
    · split
      · rfl
      · split
        · rw [(lower_es _ _ _).2.2.1]; rfl
        · rfl
  · rfl
theorem noE_len (k : List UInt8) (L : List En) : (noE k L).length ≤ L.length := List.length_filter_le _ _
theorem noT_len (k : List UInt8) (L : List Tb) : (noT k L).length ≤ L.length := List.length_filter_le _ _
theorem has_iff (s : Sta) (k : List UInt8) : s.has k = true ↔ k ∈ s.keys := by
  unfold Sta.has Sta.tombAt Sta.keys
  rw [fi_any]
  simp only [Bool.or_eq_true, List.any_eq_true, decide_eq_true_eq, List.mem_append, List.mem_map]
/-- the first of a tier is an entry -/
theorem headIs_mem {L : List En} {k : Int} {e : En} (h : headIs (ofT L k) e = true) : e ∈ L := by
  unfold headIs at h
  cases hl : ofT L k with
  | nil => rw [hl] at h; cases h
  | cons x r =>
    rw [hl] at h
    have hx : x = e := of_decide_eq_true h
    have : x ∈ ofT L k := by rw [hl]; simp
    rw [← hx]
    exact (List.mem_filter.1 this).1
theorem takes_k {s : Sta} {r : Rc} (h : s.takes r = true) (hk : r.k = 1 ∨ r.k = 3) : s.has r.key = false := by
  unfold Sta.takes at h
  rcases hk with hk | hk
  · rw [if_pos hk] at h
    simp only [Bool.and_eq_true, Bool.not_eq_true'] at h
    exact h.2.2
  · rw [if_neg (by omega), if_neg (by omega), if_pos hk] at h
    simp only [Bool.and_eq_true, Bool.not_eq_true'] at h
    exact h.2.2.2.2.2.2.2
theorem takes_4 {s : Sta} {r : Rc} (h : s.takes r = true) (hk : r.k = 4) : headIs (ofT s.es r.tier) r.en = true := by
  unfold Sta.takes at h
  rw [if_neg (by omega), if_neg (by omega), if_neg (by omega), if_pos hk] at h
  simp only [Bool.and_eq_true] at h
  exact h.2.1
theorem appL_len (s : Sta) (r : Rc) : (s.app r).es.length + (s.app r).ts.length ≤ s.es.length + s.ts.length + 1 := by
  unfold Sta.app
  split
  · rename_i ht
    split
    · rw [(lift_es _ _ _).1, (lift_es _ _ _).2.1]
      show (s.es ++ [r.en]).length + s.ts.length ≤ _
      rw [List.length_append]; simp only [List.length_cons, List.length_nil]; omega
    · split
      · show s.es.length + s.ts.length ≤ _; omega
      · split
        · rw [(lower_es _ _ _).1, (lower_es _ _ _).2.1]
          show (noE r.key s.es).length + (s.ts ++ [(⟨s.seq + 1, r.key⟩ : Tb)]).length ≤ _
          have := noE_len r.key s.es
          rw [List.length_append]; simp only [List.length_cons, List.length_nil]; omega
        · show s.es.length + (noT r.key s.ts).length ≤ _
          have := noT_len r.key s.ts; omega
  · show s.es.length + s.ts.length ≤ _; omega
/-- what a log makes has each key once, and each is one of data -/
structure LogS (s : Sta) : Prop where
  nd : s.keys.Nodup
  kk : ∀ k ∈ s.keys, kOk k = true
theorem LogS.of {q : Sta} {K : List (List UInt8)} (e : q.keys = K) (h : K.Nodup ∧ ∀ k ∈ K, kOk k = true) : LogS q := ⟨e ▸ h.1, fun k hk => h.2 k (e ▸ hk)⟩
theorem nodup_snoc {α : Type} {L : List α} {a : α} (h : L.Nodup) (ha : a ∉ L) : (L ++ [a]).Nodup :=
  List.nodup_append.2 ⟨h, by simp, fun x hx y hy e => by
    have : y = a := by simpa using hy
    subst this; subst e; exact ha hx⟩
theorem noE_keys (k : List UInt8) (L : List En) : (noE k L).map (·.key) = (L.map (·.key)).filter fun x => !decide (x = k) := by
  unfold noE; rw [List.filter_map]; rfl
theorem noT_keys (k : List UInt8) (L : List Tb) : (noT k L).map (·.key) = (L.map (·.key)).filter fun x => !decide (x = k) := by
  unfold noT; rw [List.filter_map]; rfl
theorem app_log {s : Sta} {r : Rc} (h : LogS s) (hr : r.ok = true) : LogS (s.app r) := by
  obtain ⟨nd, kk⟩ := h
  have nd' := nd
  unfold Sta.keys at nd'
  have nda := List.nodup_append.1 nd'
  unfold Sta.app
  split
  · rename_i ht
    split
    · rename_i hk
      have hno := takes_k ht hk
      have hnk : r.key ∉ s.keys := fun h => by rw [(has_iff s r.key).2 h] at hno; cases hno
      have hok : kOk r.key = true := by
        unfold Rc.ok at hr
        rcases hk with hk | hk
        · rw [if_pos hk] at hr; simp [Rc.en, En.ok] at hr; exact hr.2.2.1
        · rw [if_neg (by omega), if_neg (by omega), if_pos hk] at hr; simp [Rc.en, En.ok] at hr; exact hr.2.2.1
      have e : ∀ q : Sta, q.es = s.es ++ [r.en] → q.ts = s.ts → q.keys = (s.es.map (·.key) ++ [r.key]) ++ s.ts.map (·.key) := fun q h1 h2 => by unfold Sta.keys; rw [h1, h2, List.map_append]; rfl
      refine LogS.of (e _ (lift_es _ _ _).1 (lift_es _ _ _).2.1) ?_
      have hm : r.key ∉ s.es.map (·.key) ∧ r.key ∉ s.ts.map (·.key) := ⟨fun h => hnk (List.mem_append.2 (.inl h)), fun h => hnk (List.mem_append.2 (.inr h))⟩
      refine ⟨List.nodup_append.2 ⟨nodup_snoc nda.1 hm.1, nda.2.1, fun x hx y hy => ?_⟩, fun k hk' => ?_⟩
      · rcases List.mem_append.1 hx with hx | hx
        · exact nda.2.2 x hx y hy
        · have : x = r.key := by simpa using hx
          subst this
          exact fun e => hm.2 (e ▸ hy)
      · rcases List.mem_append.1 hk' with hk' | hk'
        · rcases List.mem_append.1 hk' with hk' | hk'
          · exact kk k (List.mem_append.2 (.inl hk'))
          · have : k = r.key := by simpa using hk'
            rw [this]; exact hok
        · exact kk k (List.mem_append.2 (.inr hk'))
    · split
      · exact ⟨nd, kk⟩
      · split
        · rename_i hk1 hk2 hk4
          have hm := headIs_mem (takes_4 ht hk4)
          have hke : r.key ∈ s.es.map (·.key) := List.mem_map.2 ⟨_, hm, rfl⟩
          have hkt : r.key ∉ s.ts.map (·.key) := fun h => nda.2.2 _ hke _ h rfl
          have e : ∀ q : Sta, q.es = noE r.key s.es → q.ts = s.ts ++ [⟨s.seq + 1, r.key⟩] → q.keys = (s.es.map (·.key)).filter (fun x => !decide (x = r.key)) ++ (s.ts.map (·.key) ++ [r.key]) := fun q h1 h2 => by unfold Sta.keys; rw [h1, h2, List.map_append, noE_keys]; rfl
          refine LogS.of (e _ (lower_es _ _ _).1 (lower_es _ _ _).2.1) ?_
          refine ⟨List.nodup_append.2 ⟨nda.1.filter _, nodup_snoc nda.2.1 hkt, fun x hx y hy => ?_⟩, fun k hk' => ?_⟩
          · have hx' := List.mem_filter.1 hx
            rcases List.mem_append.1 hy with hy | hy
            · exact nda.2.2 x hx'.1 y hy
            · have : y = r.key := by simpa using hy
              subst this
              intro e; rw [e] at hx'; simp at hx'
          · rcases List.mem_append.1 hk' with hk' | hk'
            · exact kk k (List.mem_append.2 (.inl (List.mem_filter.1 hk').1))
            · rcases List.mem_append.1 hk' with hk' | hk'
              · exact kk k (List.mem_append.2 (.inr hk'))
              · have : k = r.key := by simpa using hk'
                rw [this]; exact kk _ (List.mem_append.2 (.inl hke))
        · have e : ∀ q : Sta, q.es = s.es → q.ts = noT r.key s.ts → q.keys = s.es.map (·.key) ++ (s.ts.map (·.key)).filter (fun x => !decide (x = r.key)) := fun q h1 h2 => by unfold Sta.keys; rw [h1, h2, noT_keys]
          refine LogS.of (e _ rfl rfl) ?_
          refine ⟨List.nodup_append.2 ⟨nda.1, nda.2.1.filter _, fun x hx y hy => nda.2.2 x hx y (List.mem_filter.1 hy).1⟩, fun k hk' => ?_⟩
          rcases List.mem_append.1 hk' with hk' | hk'
          · exact kk k (List.mem_append.2 (.inl hk'))
          · exact kk k (List.mem_append.2 (.inr (List.mem_filter.1 hk').1))
  · exact ⟨nd, kk⟩
/-- so many different ones in a list, so long it is -/
theorem nodup_le {α : Type} [DecidableEq α] : ∀ (L M : List α), L.Nodup → (∀ x ∈ L, x ∈ M) → L.length ≤ M.length
  | [], _, _, _ => Nat.zero_le _
  | a :: l, M, h, hm => by
    have h' := List.nodup_cons.1 h
    have ha := hm a (by simp)
    have := nodup_le l (M.erase a) h'.2 fun x hx => (List.mem_erase_of_ne (fun e => h'.1 (by rw [← e]; exact hx))).2 (hm x (by simp [hx]))
    rw [List.length_erase_of_mem ha] at this
    have hp : 0 < M.length := List.length_pos_of_mem ha
    simp only [List.length_cons]; omega
def sta0 : Sta := ⟨0, 0, [], [], 0, 0, 0, 0, 0, 0⟩
def recAt (x : Sto) (n : Int) : Option Rc := readR (x.get (manK n)).data
def stepL (x : Sto) (s : Sta) : Sta := match recAt x (s.seq + 1) with | none => s.tick | some r => s.app r
def logN (x : Sto) : Nat → Sta
  | 0 => sta0
  | n + 1 => stepL x (logN x n)
theorem logN_seq (x : Sto) : ∀ n, (logN x n).seq = (n : Int)
  | 0 => rfl
  | n + 1 => by
    have ih := logN_seq x n
    show (stepL x (logN x n)).seq = _
    unfold stepL
    split
    · show (logN x n).seq + 1 = _; rw [ih]; simp
    · rw [app_seq, ih]; simp
theorem logN_len (x : Sto) : ∀ n, (logN x n).es.length + (logN x n).ts.length ≤ n
  | 0 => Nat.le_refl _
  | n + 1 => by
    have ih := logN_len x n
    show (stepL x (logN x n)).es.length + (stepL x (logN x n)).ts.length ≤ _
    unfold stepL
    split
    · show (logN x n).es.length + (logN x n).ts.length ≤ _; omega
    · rename_i r _
      have := appL_len (logN x n) r; omega
theorem logN_log (x : Sto) : ∀ n, LogS (logN x n)
  | 0 => ⟨by simp [logN, sta0, Sta.keys], fun k hk => by simp [logN, sta0, Sta.keys] at hk⟩
  | n + 1 => by
    have ih := logN_log x n
    show LogS (stepL x (logN x n))
    unfold stepL
    split
    · exact ⟨ih.1, ih.2⟩
    · rename_i r hr
      exact app_log ih (readR_ok hr)
def firstNo (p : Nat → Bool) : Nat → Nat → Nat
  | 0, n => n
  | f + 1, n => if p n = true then firstNo p f (n + 1) else n
theorem firstNo_at {p : Nat → Bool} {i : Nat} (h0 : p i = false) : ∀ f n, n ≤ i → i ≤ n + f → (∀ j, n ≤ j → j < i → p j = true) → firstNo p f n = i
  | 0, n, h1, h2, _ => by show n = i; omega
  | f + 1, n, h1, h2, h => by
    unfold firstNo
    rcases Nat.lt_or_ge n i with h3 | h3
    · rw [if_pos (h n (Nat.le_refl _) h3)]
      exact firstNo_at h0 f (n + 1) h3 (by omega) fun j hj => h j (by omega)
    · have : n = i := by omega
      subst this
      rw [if_neg (by rw [h0]; simp)]
def logEnd (x : Sto) : Nat := firstNo (fun j => x.has (manK ((j + 1 : Nat) : Int))) 400 0
def logS (x : Sto) : Sta := logN x (logEnd x)
theorem firstNo_le (p : Nat → Bool) : ∀ f n, firstNo p f n ≤ n + f
  | 0, n => Nat.le_refl _
  | f + 1, n => by
    unfold firstNo
    split
    · have := firstNo_le p f (n + 1); omega
    · omega
end Go.Proofs.YtgiaaaejobhngaaGreatDoor
set_option linter.unusedVariables false
set_option linter.constructorNameAsVariable false
set_option linter.unusedSimpArgs false
set_option maxRecDepth 20000
namespace Go.Proofs.YtgiaaaejobhngaaGreatDoor
open Go Go.Vw

theorem noE_none {k : List UInt8} : ∀ {L : List En}, (∀ x ∈ L, x.key ≠ k) → noE k L = L := fun {L} h => by
  unfold noE
  exact List.filter_eq_self.2 fun x hx => by rw [decide_eq_false (h x hx)]; rfl
theorem noE_cut {L : List En} {i : Nat} (hi : i < L.length) (nd : (L.map (·.key)).Nodup) : L.take i ++ L.drop (i + 1) = noE (ix L i).key L := by
  have e : L = L.take i ++ (ix L i :: L.drop (i + 1)) := by
    rw [ix_lt hi]
    simp
  have nd2 := nd
  rw [e, List.map_append, List.map_cons] at nd2
  have h1 := List.nodup_append.1 nd2
  have h2 := List.nodup_cons.1 h1.2.1
  have hn : noE (ix L i).key L = noE (ix L i).key (L.take i ++ (ix L i :: L.drop (i + 1))) := congrArg _ e
  rw [hn]
  have e1 : noE (ix L i).key (L.take i) = L.take i := noE_none fun x hx hk => h1.2.2 x.key (List.mem_map.2 ⟨x, hx, rfl⟩) (ix L i).key (by simp) hk
  have e2 : noE (ix L i).key (L.drop (i + 1)) = L.drop (i + 1) := noE_none fun x hx hk => h2.1 (hk ▸ List.mem_map.2 ⟨x, hx, rfl⟩)
  unfold noE at e1 e2 ⊢
  rw [List.filter_append, e1, List.filter_cons_of_neg (by simp), e2]
theorem fi_filter {α : Type} [Inhabited α] (p : α → Bool) : ∀ L : List α, (fi p L = -1 ∧ L.filter p = []) ∨ ∃ i : Nat, i < L.length ∧ fi p L = (i : Int) ∧ ∃ r, L.filter p = ix L i :: r := by
  intro L
  by_cases h : ∃ i, i < L.length ∧ p (ix L i) = true
  · obtain ⟨i, hi, hp⟩ := h
    -- the least one
    have : ∃ i, (i < L.length ∧ p (ix L i) = true) ∧ ∀ j, j < i → p (ix L j) = false := by
      induction i using Nat.strongRecOn with
      | _ i ih =>
        by_cases h' : ∃ j, j < i ∧ p (ix L j) = true
        · obtain ⟨j, hj, hq⟩ := h'
          exact ih j hj (by omega) hq
        · exact ⟨i, ⟨hi, hp⟩, fun j hj => by
            cases hq : p (ix L j)
            · rfl
            · exact absurd ⟨j, hj, hq⟩ h'⟩
    obtain ⟨i, ⟨hi, hp⟩, hl⟩ := this
    refine .inr ⟨i, hi, fi_at hi hl hp, ?_⟩
    have e : L = L.take i ++ (ix L i :: L.drop (i + 1)) := by rw [ix_lt hi]; simp
    have e1 : (L.take i).filter p = [] := List.filter_eq_nil_iff.2 fun x hx => by
      obtain ⟨j, hj, rfl⟩ := List.getElem_of_mem hx
      have hj' : j < i := by simp at hj; omega
      have := hl j hj'
      rw [ix_lt (by omega)] at this
      simp [this]
    refine ⟨(L.drop (i + 1)).filter p, ?_⟩
    have := congrArg (List.filter p) e
    rw [this, List.filter_append, e1, List.filter_cons_of_pos hp]; rfl
  · have hn : ∀ i, i < L.length → p (ix L i) = false := fun i hi => by
      cases hq : p (ix L i)
      · rfl
      · exact absurd ⟨i, hi, hq⟩ h
    refine .inl ⟨fi_none hn, List.filter_eq_nil_iff.2 fun x hx => ?_⟩
    obtain ⟨j, hj, rfl⟩ := List.getElem_of_mem hx
    have := hn j hj
    rw [ix_lt hj] at this
    simp [this]
theorem fi_first {α : Type} [Inhabited α] (p : α → Bool) (L : List α) : (fi p L = -1 ∧ ∀ j, j < L.length → p (ix L j) = false) ∨ ∃ i : Nat, i < L.length ∧ fi p L = (i : Int) ∧ p (ix L i) = true ∧ ∀ j, j < i → p (ix L j) = false := by
  by_cases h : ∃ i, i < L.length ∧ p (ix L i) = true
  · obtain ⟨i, hi, hp⟩ := h
    have : ∃ i, (i < L.length ∧ p (ix L i) = true) ∧ ∀ j, j < i → p (ix L j) = false := by
      induction i using Nat.strongRecOn with
      | _ i ih =>
        by_cases h' : ∃ j, j < i ∧ p (ix L j) = true
        · obtain ⟨j, hj, hq⟩ := h'
          exact ih j hj (by omega) hq
        · exact ⟨i, ⟨hi, hp⟩, fun j hj => by
            cases hq : p (ix L j)
            · rfl
            · exact absurd ⟨j, hj, hq⟩ h'⟩
    obtain ⟨i, ⟨hi, hp⟩, hl⟩ := this
    exact .inr ⟨i, hi, fi_at hi hl hp, hp, hl⟩
  · have hn : ∀ i, i < L.length → p (ix L i) = false := fun i hi => by
      cases hq : p (ix L i)
      · rfl
      · exact absurd ⟨i, hi, hq⟩ h
    exact .inl ⟨fi_none hn, hn⟩
theorem nums5 {t : List UInt8} {N : List Int} (h : numsK 44 5 t = some N) : ∃ a b c d e, N = [a, b, c, d, e] := by
  unfold numsK at h
  split at h
  · rename_i h1
    cases h
    have hl : ((cutP 44 [] t).map atoiV).length = 5 := by rw [List.length_map]; exact h1.1
    generalize (cutP 44 [] t).map atoiV = L at hl
    match L, hl with
    | [a, b, c, d, e], _ => exact ⟨a, b, c, d, e, rfl⟩
  · cases h
end Go.Proofs.YtgiaaaejobhngaaGreatDoor
set_option linter.unusedVariables false
set_option linter.constructorNameAsVariable false
set_option linter.unusedSimpArgs false
set_option maxRecDepth 20000
namespace Go.Proofs.YtgiaaaejobhngaaGreatDoor
open Go Go.Vw

theorem filter_snoc {α : Type} [Inhabited α] {L : List α} {p : α → Bool} {i : Nat} (h : i < L.length) : (L.take (i + 1)).filter p = if p (ix L i) = true then (L.take i).filter p ++ [ix L i] else (L.take i).filter p := by
  rw [take_snoc h, List.filter_append]
  by_cases hp : p (ix L i) = true
  · rw [if_pos hp]; simp [hp]
  · rw [if_neg hp]; simp [hp]
def kept {α : Type} (p : α → Bool) (L : List α) (j : Nat) : List α := ((L.take j).filter fun e => !p e) ++ L.drop ((L.take j).filter fun e => !p e).length
end Go.Proofs.YtgiaaaejobhngaaGreatDoor
set_option linter.unusedVariables false
set_option linter.constructorNameAsVariable false
set_option linter.unusedSimpArgs false
set_option maxRecDepth 20000
namespace Go.Proofs.YtgiaaaejobhngaaGreatDoor
open Go Go.Vw

def Sta.own (s : Sta) : AV := .agg [.int .i64 s.seq, .int .i64 s.fence, .osl 0, .osl 1, .int .i64 s.l0, .int .i64 s.l1, .int .i64 s.l2, .int .i64 s.h0, .int .i64 s.h1, .int .i64 s.h2]
end Go.Proofs.YtgiaaaejobhngaaGreatDoor
set_option linter.unusedVariables false
set_option linter.constructorNameAsVariable false
set_option linter.unusedSimpArgs false
set_option maxRecDepth 20000
namespace Go.Proofs.YtgiaaaejobhngaaGreatDoor
open Go Go.Vw

end Go.Proofs.YtgiaaaejobhngaaGreatDoor
set_option linter.unusedVariables false
set_option linter.constructorNameAsVariable false
set_option linter.unusedSimpArgs false
set_option maxRecDepth 20000
namespace Go.Proofs.YtgiaaaejobhngaaGreatDoor
open Go Go.Vw

abbrev Sta.objs (s : Sta) : List (Nat × MO) := [(0, .arr 79 4 s.es.length fun i => (ix s.es i).row), (1, .arr 137 2 s.ts.length fun i => (ix s.ts i).row)]
end Go.Proofs.YtgiaaaejobhngaaGreatDoor
set_option linter.unusedVariables false
set_option linter.constructorNameAsVariable false
set_option linter.unusedSimpArgs false
set_option maxRecDepth 20000
namespace Go.Proofs.YtgiaaaejobhngaaGreatDoor
open Go Go.Vw

structure StoOK (s : Sto) : Prop where
  nx : 1 ≤ s.next ∧ s.next ≤ 1000000000
  len : s.os.length ≤ 300
  el : ∀ o ∈ s.os, keyOK o.key = true ∧ (1 ≤ o.ver ∧ o.ver ≤ s.next - 1) ∧ o.data.length ≤ 600
  vs : (s.os.map (·.ver)).Nodup
  ks : s.os.Pairwise fun a b => a.key < b.key
/-- a store without a key -/
def wo (x : Sto) (k : List UInt8) : Sto := ⟨x.os.filter fun o => !decide (o.key = k), x.next⟩
end Go.Proofs.YtgiaaaejobhngaaGreatDoor
set_option linter.unusedVariables false
set_option linter.constructorNameAsVariable false
set_option linter.unusedSimpArgs false
set_option maxRecDepth 20000
namespace Go.Proofs.YtgiaaaejobhngaaGreatDoor
open Go Go.Vw

def riseS (q : Int × Bool) (r : Rc) (took : Bool) : Int × Bool :=
  if took = true then (if r.k = 2 then (r.tok, q.2 && decide (q.1 < r.tok)) else if r.k = 3 ∨ r.k = 4 then (q.1, q.2 && decide (r.tok = q.1)) else q) else q
def riseN (x : Sto) : Nat → Int × Bool
  | 0 => (0, true)
  | n + 1 => match recAt x ((n : Int) + 1) with
    | none => riseN x n
    | some r => riseS (riseN x n) r ((logN x n).takes r)
theorem riseS_no {q : Int × Bool} {r : Rc} {t : Bool} (h : q.2 = false) : (riseS q r t).2 = false := by
  unfold riseS
  split
  · split
    · simp [h]
    · split
      · simp [h]
      · exact h
  · exact h
theorem riseN_mono (x : Sto) : ∀ n i, i ≤ n → (riseN x i).2 = false → (riseN x n).2 = false
  | 0, i, h, hf => by have : i = 0 := by omega
                      subst this; exact hf
  | n + 1, i, h, hf => by
    rcases Nat.lt_or_ge n i with h1 | h1
    · have : i = n + 1 := by omega
      subst this; exact hf
    · have ih := riseN_mono x n i h1 hf
      unfold riseN
      split
      · exact ih
      · exact riseS_no ih
theorem firstNo_ge {p : Nat → Bool} : ∀ f n m, (∀ j, n ≤ j → j < m → p j = true) → m ≤ n + f → m ≤ firstNo p f n
  | 0, n, m, _, h => h
  | f + 1, n, m, hp, h => by
    unfold firstNo
    rcases Nat.lt_or_ge n m with h1 | h1
    · rw [if_pos (hp n (Nat.le_refl _) h1)]
      exact firstNo_ge f (n + 1) m (fun j hj => hp j (by omega)) (by omega)
    · split
      · have := firstNo_ge f (n + 1) m (fun j hj => hp j (by omega)) (by omega); omega
      · exact h1
/-- what is of no use: data of which nothing in a state knows, nor will -/
def Sta.orph (s : Sta) (k : List UInt8) : Bool := kOk k && (!s.has k && ((decide (kT k = 0) && decide (kN k ≤ s.seq)) || (decide (0 < kT k) && decide (kW k < s.fence))))
def dataKs (x : Sto) : List (List UInt8) := (x.os.map (·.key)).filter kOk
end Go.Proofs.YtgiaaaejobhngaaGreatDoor
