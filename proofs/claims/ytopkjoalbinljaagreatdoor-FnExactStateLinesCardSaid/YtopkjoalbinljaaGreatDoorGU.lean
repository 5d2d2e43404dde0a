/- What is due; laws.FnExactDueCount. The conditions are the theorems' own. -/
import Derived.Test.YtopkjoalbinljaaGreatDoorGS
set_option linter.unusedVariables false
set_option linter.unusedSimpArgs false
set_option maxRecDepth 20000
namespace Go.Proofs.YtopkjoalbinljaaGreatDoor
open Go Go.Vw

def wd (k : Int) : Int := if k = 0 then 1 else if k = 1 then 5 else 20
theorem width_fn (k : Int) (h : k = 0 ∨ k = 1 ∨ k = 2) : VFn Tryz.prog 53 [.int .i64 k] (.int .i64 (wd k)) := by
  rcases h with rfl | rfl | rfl
  · refine VFn.introC Tryz.call53 Tryz.func53 rfl rfl ?_
    refine And.intro ⟨by omega, by show (0 : Int) < ((3 : Nat) : Int); omega⟩ ?_
    exact And.intro trivial (AVle.refl _)
  · refine VFn.introC Tryz.call53 Tryz.func53 rfl rfl ?_
    refine And.intro ⟨by omega, by show (1 : Int) < ((3 : Nat) : Int); omega⟩ ?_
    exact And.intro trivial (AVle.refl _)
  · refine VFn.introC Tryz.call53 Tryz.func53 rfl rfl ?_
    refine And.intro ⟨by omega, by show (2 : Int) < ((3 : Nat) : Int); omega⟩ ?_
    exact And.intro trivial (AVle.refl _)
theorem l04Width_fn (k : Int) (h : k = 0 ∨ k = 1 ∨ k = 2) : VFn Tryz.prog 107 [.int .i64 k] (.int .i64 (wd k)) := by
  rcases h with rfl | rfl | rfl
  · refine VFn.introC Tryz.call107 Tryz.func107 rfl rfl ?_
    refine And.intro ⟨by omega, by show (0 : Int) < ((3 : Nat) : Int); omega⟩ ?_
    exact And.intro trivial (AVle.refl _)
  · refine VFn.introC Tryz.call107 Tryz.func107 rfl rfl ?_
    refine And.intro ⟨by omega, by show (1 : Int) < ((3 : Nat) : Int); omega⟩ ?_
    exact And.intro trivial (AVle.refl _)
  · refine VFn.introC Tryz.call107 Tryz.func107 rfl rfl ?_
    refine And.intro ⟨by omega, by show (2 : Int) < ((3 : Nat) : Int); omega⟩ ?_
    exact And.intro trivial (AVle.refl _)
/-- the tier whose next window is due: 0, none -/
def dueT (h0 h1 h2 : Int) : Int := if h1 + 5 ≤ h0 then 1 else if h2 + 20 ≤ h1 then 2 else 0
def dueF (h0 h1 h2 : Int) : Int := if h1 + 5 ≤ h0 then h1 else if h2 + 20 ≤ h1 then h2 else 0
theorem due_fn (s : Sta) (b0 : 0 ≤ s.h0 ∧ s.h0 ≤ 1000000) (b1 : 0 ≤ s.h1 ∧ s.h1 ≤ 1000000) (b2 : 0 ≤ s.h2 ∧ s.h2 ≤ 1000000) : VFn Tryz.prog 45 [s.av] (.tup [.int .i64 (dueT s.h0 s.h1 s.h2), .int .i64 (dueF s.h0 s.h1 s.h2), .bool (!decide (dueT s.h0 s.h1 s.h2 = 0))]) := by
  have w1 : VFn Tryz.prog 53 [.int .i64 1] (.int .i64 5) := width_fn 1 (.inr (.inl rfl))
  have w2 : VFn Tryz.prog 53 [.int .i64 2] (.int .i64 20) := width_fn 2 (.inr (.inr rfl))
  refine VFn.introC Tryz.call45 Tryz.func45 rfl rfl ?_
  refine LoopC.rounds 3 ?_
  refine DrawC.mk 13 rfl (by kernel_rfl) ?_
  refine And.intro ⟨by omega, by show (1 : Int) < ((3 : Nat) : Int); omega⟩ ?_
  refine PCallC.sca _ (w1) rfl ?_
  refine And.intro (inI64 (by omega) (by omega)) ?_
  refine And.intro (inI64 (by omega) (by omega)) ?_
  refine And.intro ⟨by omega, by show (0 : Int) < ((3 : Nat) : Int); omega⟩ ?_
  refine Grd.intro (fun g1 => ?_) (fun g1 => ?_)
  · have g1 : s.h1 + 5 ≤ s.h0 := of_decide_eq_true g1
    refine DrawC.mk 8 rfl (by kernel_rfl) ?_
    refine And.intro ⟨by omega, by show (1 : Int) < ((3 : Nat) : Int); omega⟩ ?_
    rw [show dueT s.h0 s.h1 s.h2 = 1 by unfold dueT; simp [g1], show dueF s.h0 s.h1 s.h2 = s.h1 by unfold dueF; simp [g1]]
    exact And.intro trivial (AVle.refl _)
  have g1 : ¬ s.h1 + 5 ≤ s.h0 := of_decide_eq_false g1
  refine And.intro (inI64 (by omega) (by omega)) ?_
  refine DrawC.mk 13 rfl (by kernel_rfl) ?_
  refine And.intro ⟨by omega, by show (2 : Int) < ((3 : Nat) : Int); omega⟩ ?_
  refine PCallC.sca _ (w2) rfl ?_
  refine And.intro (inI64 (by omega) (by omega)) ?_
  refine And.intro (inI64 (by omega) (by omega)) ?_
  refine And.intro ⟨by omega, by show (1 : Int) < ((3 : Nat) : Int); omega⟩ ?_
  refine Grd.intro (fun g2 => ?_) (fun g2 => ?_)
  · have g2 : s.h2 + 20 ≤ s.h1 := of_decide_eq_true g2
    refine DrawC.mk 8 rfl (by kernel_rfl) ?_
    refine And.intro ⟨by omega, by show (2 : Int) < ((3 : Nat) : Int); omega⟩ ?_
    rw [show dueT s.h0 s.h1 s.h2 = 2 by unfold dueT; simp [g2, g1], show dueF s.h0 s.h1 s.h2 = s.h2 by unfold dueF; simp [g2, g1]]
    exact And.intro trivial (AVle.refl _)
  have g2 : ¬ s.h2 + 20 ≤ s.h1 := of_decide_eq_false g2
  refine And.intro (inI64 (by omega) (by omega)) ?_
  rw [show dueT s.h0 s.h1 s.h2 = 0 by unfold dueT; simp [g1, g2], show dueF s.h0 s.h1 s.h2 = 0 by unfold dueF; simp [g1, g2]]
  exact And.intro trivial (AVle.refl _)
theorem l07Due_fn (s : Sta) (b0 : 0 ≤ s.h0 ∧ s.h0 ≤ 1000000) (b1 : 0 ≤ s.h1 ∧ s.h1 ≤ 1000000) (b2 : 0 ≤ s.h2 ∧ s.h2 ≤ 1000000) : VFn Tryz.prog 47 [s.av] (.tup [.int .i64 (dueT s.h0 s.h1 s.h2), .int .i64 (dueF s.h0 s.h1 s.h2), .bool (!decide (dueT s.h0 s.h1 s.h2 = 0))]) := by
  have w1 : VFn Tryz.prog 107 [.int .i64 1] (.int .i64 5) := l04Width_fn 1 (.inr (.inl rfl))
  have w2 : VFn Tryz.prog 107 [.int .i64 2] (.int .i64 20) := l04Width_fn 2 (.inr (.inr rfl))
  refine VFn.introC Tryz.call47 Tryz.func47 rfl rfl ?_
  refine LoopC.rounds 3 ?_
  refine DrawC.mk 8 rfl (by kernel_rfl) ?_
  refine And.intro ⟨by omega, by show (1 : Int) < ((3 : Nat) : Int); omega⟩ ?_
  refine PCallC.sca _ (w1) rfl ?_
  refine And.intro (inI64 (by omega) (by omega)) ?_
  refine And.intro (inI64 (by omega) (by omega)) ?_
  refine And.intro ⟨by omega, by show (0 : Int) < ((3 : Nat) : Int); omega⟩ ?_
  refine Grd.intro (fun g1 => ?_) (fun g1 => ?_)
  · have g1 : s.h1 + 5 ≤ s.h0 := of_decide_eq_true g1
    refine DrawC.mk 8 rfl (by kernel_rfl) ?_
    refine And.intro ⟨by omega, by show (1 : Int) < ((3 : Nat) : Int); omega⟩ ?_
    rw [show dueT s.h0 s.h1 s.h2 = 1 by unfold dueT; simp [g1], show dueF s.h0 s.h1 s.h2 = s.h1 by unfold dueF; simp [g1]]
    exact And.intro trivial (AVle.refl _)
  have g1 : ¬ s.h1 + 5 ≤ s.h0 := of_decide_eq_false g1
  refine And.intro (inI64 (by omega) (by omega)) ?_
  refine DrawC.mk 8 rfl (by kernel_rfl) ?_
  refine And.intro ⟨by omega, by show (2 : Int) < ((3 : Nat) : Int); omega⟩ ?_
  refine PCallC.sca _ (w2) rfl ?_
  refine And.intro (inI64 (by omega) (by omega)) ?_
  refine And.intro (inI64 (by omega) (by omega)) ?_
  refine And.intro ⟨by omega, by show (1 : Int) < ((3 : Nat) : Int); omega⟩ ?_
  refine Grd.intro (fun g2 => ?_) (fun g2 => ?_)
  · have g2 : s.h2 + 20 ≤ s.h1 := of_decide_eq_true g2
    refine DrawC.mk 8 rfl (by kernel_rfl) ?_
    refine And.intro ⟨by omega, by show (2 : Int) < ((3 : Nat) : Int); omega⟩ ?_
    rw [show dueT s.h0 s.h1 s.h2 = 2 by unfold dueT; simp [g2, g1], show dueF s.h0 s.h1 s.h2 = s.h2 by unfold dueF; simp [g2, g1]]
    exact And.intro trivial (AVle.refl _)
  have g2 : ¬ s.h2 + 20 ≤ s.h1 := of_decide_eq_false g2
  refine And.intro (inI64 (by omega) (by omega)) ?_
  rw [show dueT s.h0 s.h1 s.h2 = 0 by unfold dueT; simp [g1, g2], show dueF s.h0 s.h1 s.h2 = 0 by unfold dueF; simp [g1, g2]]
  exact And.intro trivial (AVle.refl _)
/-- how many windows are due -/
def dueN : Nat → Int → Int → Int → Int
  | 0, _, _, _ => 0
  | f + 1, h0, h1, h2 => if h1 + 5 ≤ h0 then 1 + dueN f h0 (h1 + 5) h2 else if h2 + 20 ≤ h1 then 1 + dueN f h0 h1 (h2 + 20) else 0
theorem dueN_b : ∀ f h0 h1 h2, 0 ≤ dueN f h0 h1 h2 ∧ dueN f h0 h1 h2 ≤ f
  | 0, _, _, _ => by simp [dueN]
  | f + 1, h0, h1, h2 => by
    have a := dueN_b f h0 (h1 + 5) h2
    have b := dueN_b f h0 h1 (h2 + 20)
    unfold dueN
    split
    · omega
    · split <;> omega
def Sta.h (s : Sta) (a b : Int) : Sta := { s with h1 := a, h2 := b }
theorem hi_b (L : List En) (hL : L.all En.ok = true) (lo hi k : Int) (h : tierOK L lo hi k = true) : 0 ≤ hi ∧ hi ≤ 100000 := by
  unfold tierOK at h
  simp only [Bool.and_eq_true, decide_eq_true_eq] at h
  have hl : 0 ≤ lo ∧ lo ≤ 100000 := by simpa [within] using h.1
  rw [runs_endE h.2]
  unfold endE
  cases hq : (ofT L k).getLast? with
  | none => exact hl
  | some e =>
    have he : e ∈ L := (List.mem_filter.1 (List.mem_of_getLast? hq)).1
    have := List.all_eq_true.1 hL e he
    unfold En.ok isRange at this
    simp [within] at this
    simp only; omega
theorem Sta.hi_b {s : Sta} (h : s.ok = true) : (0 ≤ s.h0 ∧ s.h0 ≤ 100000) ∧ (0 ≤ s.h1 ∧ s.h1 ≤ 100000) ∧ (0 ≤ s.h2 ∧ s.h2 ≤ 100000) := by
  unfold Sta.ok at h
  simp only [Bool.and_eq_true] at h
  obtain ⟨_, _, _, h4, _, _, t0, t1, t2⟩ := h
  exact ⟨Proofs.YtopkjoalbinljaaGreatDoor.hi_b s.es h4 _ _ _ t0, Proofs.YtopkjoalbinljaaGreatDoor.hi_b s.es h4 _ _ _ t1, Proofs.YtopkjoalbinljaaGreatDoor.hi_b s.es h4 _ _ _ t2⟩
def Sta.due (s : Sta) : Int := dueN 300000 s.h0 s.h1 s.h2
theorem l14Due_fn (s : Sta) (hok : s.ok = true) : VFn Tryz.prog 54 [s.av] (.int .i64 s.due) := by
  obtain ⟨c0, c1, c2⟩ := Sta.hi_b hok
  have w1 : VFn Tryz.prog 107 [.int .i64 1] (.int .i64 5) := l04Width_fn 1 (.inr (.inl rfl))
  have w2 : VFn Tryz.prog 107 [.int .i64 2] (.int .i64 20) := l04Width_fn 2 (.inr (.inr rfl))
  refine VFn.introC Tryz.call54 Tryz.func54 rfl rfl ?_
  refine LoopC.mk (fun x : Int × Int × Int => (0 ≤ x.1 ∧ x.1 ≤ 100000) ∧ (0 ≤ x.2.1 ∧ x.2.1 ≤ 100000) ∧ ∃ f : Nat, x.2.2 + dueN f s.h0 x.1 x.2.1 = s.due ∧ (200001 - x.1 - x.2.1).toNat < f ∧ 0 ≤ x.2.2) (fun x => [(1, .bptr 0 0), (3, .int .i64 x.2.2)]) (fun x => [(0, .box (s.h x.1 x.2.1).row)]) 1 (fun x => (200001 - x.1 - x.2.1).toNat) (s.h1, s.h2, 0)
    ⟨⟨c1, c2, 300000, by simp [Sta.due], by simp only; omega, by simp only; omega⟩, [(0, 0)], rfl, rfl, ⟨AVle.refl _, AVle.refl _, trivial⟩, ⟨MOle.refl _, trivial⟩⟩ ?_
  rintro ⟨a, b, n⟩ hx
  simp only at hx
  obtain ⟨hA, hB, f, hn, hf, h0⟩ := hx
  obtain ⟨f, rfl⟩ : ∃ k, f = k + 1 := ⟨f - 1, by omega⟩
  have hN := dueN_b (f + 1) s.h0 a b
  have hD := dueN_b 300000 s.h0 s.h1 s.h2
  have hD' : s.due ≤ 300000 := hD.2
  have c := l07Due_fn (s.h a b) ⟨by show 0 ≤ s.h0; omega, by show s.h0 ≤ 1000000; omega⟩ ⟨hA.1, by show a ≤ 1000000; omega⟩ ⟨hB.1, by show b ≤ 1000000; omega⟩
  have e : dueN (f + 1) s.h0 a b = if a + 5 ≤ s.h0 then 1 + dueN f s.h0 (a + 5) b else if b + 20 ≤ a then 1 + dueN f s.h0 a (b + 20) else 0 := rfl
  have eT : dueT (s.h a b).h0 (s.h a b).h1 (s.h a b).h2 = if a + 5 ≤ s.h0 then 1 else if b + 20 ≤ a then 2 else 0 := rfl
  have eF : dueF (s.h a b).h0 (s.h a b).h1 (s.h a b).h2 = if a + 5 ≤ s.h0 then a else if b + 20 ≤ a then b else 0 := rfl
  rw [eT, eF] at c
  by_cases g1 : a + 5 ≤ s.h0
  · rw [if_pos g1] at e
    rw [if_pos g1, if_pos g1] at c
    · conv => whnf
      refine CallC.sca _ (c) ?_ ?_
      · exact rfl
      conv => whnf
      refine CallC.sca _ (w1) ?_ ?_
      · exact rfl
      refine And.intro (show inI .i64 (a + 5) from inI64 (by omega) (by omega)) ?_
      refine And.intro ⟨by omega, by show (1 : Int) < ((3 : Nat) : Int); omega⟩ ?_
      refine And.intro (show inI .i64 (n + 1) from inI64 (by omega) (by omega)) ?_
      exact ⟨(a + 5, b, n + 1), ⟨by (try simp only); omega, by (try simp only); omega, f, by (try simp only); omega, by (try simp only); omega, by (try simp only); omega⟩, by simp only; omega, [(0, 0)], rfl, rfl, ⟨AVle.refl _, AVle.refl _, trivial⟩, ⟨MOle.refl _, trivial⟩⟩
  · rw [if_neg g1] at e
    rw [if_neg g1, if_neg g1] at c
    by_cases g2 : b + 20 ≤ a
    · rw [if_pos g2] at e
      rw [if_pos g2, if_pos g2] at c
      conv => whnf
      refine CallC.sca _ (c) ?_ ?_
      · exact rfl
      conv => whnf
      refine CallC.sca _ (w2) ?_ ?_
      · exact rfl
      refine And.intro (show inI .i64 (b + 20) from inI64 (by omega) (by omega)) ?_
      refine And.intro ⟨by omega, by show (2 : Int) < ((3 : Nat) : Int); omega⟩ ?_
      refine And.intro (show inI .i64 (n + 1) from inI64 (by omega) (by omega)) ?_
      exact ⟨(a, b + 20, n + 1), ⟨by (try simp only); omega, by (try simp only); omega, f, by (try simp only); omega, by (try simp only); omega, by (try simp only); omega⟩, by simp only; omega, [(0, 0)], rfl, rfl, ⟨AVle.refl _, AVle.refl _, trivial⟩, ⟨MOle.refl _, trivial⟩⟩
    · rw [if_neg g2] at e
      rw [if_neg g2, if_neg g2] at c
      conv => whnf
      refine CallC.sca _ (c) ?_ ?_
      · exact rfl
      exact And.intro trivial (AVle.of_eq (congrArg (AV.int .i64) (show n = s.due by omega)))
theorem DueCount_fn (s : Sta) (hL : s.es.length ≤ 1000000000) (hT : s.ts.length ≤ 1000000000) : VFn Tryz.prog 14 [s.av] (.tup [.int .i64 (if s.ok = true then s.due else 0), .int .i64 (if s.ok = true then 0 else 1)]) := by
  have w1 : VFn Tryz.prog 53 [.int .i64 1] (.int .i64 5) := width_fn 1 (.inr (.inl rfl))
  have w2 : VFn Tryz.prog 53 [.int .i64 2] (.int .i64 20) := width_fn 2 (.inr (.inr rfl))
  refine VFn.introC Tryz.call14 Tryz.func14 rfl rfl ?_
  conv => whnf
  refine CallC.sca _ (StateOK_fn s hL hT) ?_ ?_
  · exact rfl
  by_cases hok : s.ok = true
  case neg =>
    rw [if_neg hok, if_neg hok, show s.ok = false by simpa using hok]
    exact And.intro trivial (AVle.refl _)
  rw [if_pos hok, if_pos hok, hok]
  obtain ⟨c0, c1, c2⟩ := Sta.hi_b hok
  refine LoopC.mk (fun x : Int × Int × Int => (0 ≤ x.1 ∧ x.1 ≤ 100000) ∧ (0 ≤ x.2.1 ∧ x.2.1 ≤ 100000) ∧ ∃ f : Nat, x.2.2 + dueN f s.h0 x.1 x.2.1 = s.due ∧ (200001 - x.1 - x.2.1).toNat < f ∧ 0 ≤ x.2.2) (fun x => [(1, .bptr 0 0), (4, .int .i64 x.2.2)]) (fun x => [(0, .box (s.h x.1 x.2.1).row)]) 1 (fun x => (200001 - x.1 - x.2.1).toNat) (s.h1, s.h2, 0)
    ⟨⟨c1, c2, 300000, by simp [Sta.due], by simp only; omega, by simp only; omega⟩, [(0, 0)], rfl, rfl, ⟨AVle.refl _, AVle.refl _, trivial⟩, ⟨MOle.refl _, trivial⟩⟩ ?_
  rintro ⟨a, b, n⟩ hx
  simp only at hx
  obtain ⟨hA, hB, f, hn, hf, h0⟩ := hx
  obtain ⟨f, rfl⟩ : ∃ k, f = k + 1 := ⟨f - 1, by omega⟩
  have hN := dueN_b (f + 1) s.h0 a b
  have hD := dueN_b 300000 s.h0 s.h1 s.h2
  have hD' : s.due ≤ 300000 := hD.2
  have c := due_fn (s.h a b) ⟨by show 0 ≤ s.h0; omega, by show s.h0 ≤ 1000000; omega⟩ ⟨hA.1, by show a ≤ 1000000; omega⟩ ⟨hB.1, by show b ≤ 1000000; omega⟩
  have e : dueN (f + 1) s.h0 a b = if a + 5 ≤ s.h0 then 1 + dueN f s.h0 (a + 5) b else if b + 20 ≤ a then 1 + dueN f s.h0 a (b + 20) else 0 := rfl
  have eT : dueT (s.h a b).h0 (s.h a b).h1 (s.h a b).h2 = if a + 5 ≤ s.h0 then 1 else if b + 20 ≤ a then 2 else 0 := rfl
  have eF : dueF (s.h a b).h0 (s.h a b).h1 (s.h a b).h2 = if a + 5 ≤ s.h0 then a else if b + 20 ≤ a then b else 0 := rfl
  rw [eT, eF] at c
  by_cases g1 : a + 5 ≤ s.h0
  · rw [if_pos g1] at e
    rw [if_pos g1, if_pos g1] at c
    · conv => whnf
      refine CallC.sca _ (c) ?_ ?_
      · exact rfl
      refine DrawC.mk 9 rfl (by kernel_rfl) ?_
      refine And.intro ⟨by omega, by show (1 : Int) < ((3 : Nat) : Int); omega⟩ ?_
      refine PCallC.sca _ (w1) rfl ?_
      refine And.intro (show inI .i64 (a + 5) from inI64 (by omega) (by omega)) ?_
      refine And.intro ⟨by omega, by show (1 : Int) < ((3 : Nat) : Int); omega⟩ ?_
      refine And.intro (show inI .i64 (n + 1) from inI64 (by omega) (by omega)) ?_
      exact ⟨(a + 5, b, n + 1), ⟨by (try simp only); omega, by (try simp only); omega, f, by (try simp only); omega, by (try simp only); omega, by (try simp only); omega⟩, by simp only; omega, [(0, 0)], rfl, rfl, ⟨AVle.refl _, AVle.refl _, trivial⟩, ⟨MOle.refl _, trivial⟩⟩
  · rw [if_neg g1] at e
    rw [if_neg g1, if_neg g1] at c
    by_cases g2 : b + 20 ≤ a
    · rw [if_pos g2] at e
      rw [if_pos g2, if_pos g2] at c
      conv => whnf
      refine CallC.sca _ (c) ?_ ?_
      · exact rfl
      refine DrawC.mk 9 rfl (by kernel_rfl) ?_
      refine And.intro ⟨by omega, by show (2 : Int) < ((3 : Nat) : Int); omega⟩ ?_
      refine PCallC.sca _ (w2) rfl ?_
      refine And.intro (show inI .i64 (b + 20) from inI64 (by omega) (by omega)) ?_
      refine And.intro ⟨by omega, by show (2 : Int) < ((3 : Nat) : Int); omega⟩ ?_
      refine And.intro (show inI .i64 (n + 1) from inI64 (by omega) (by omega)) ?_
      exact ⟨(a, b + 20, n + 1), ⟨by (try simp only); omega, by (try simp only); omega, f, by (try simp only); omega, by (try simp only); omega, by (try simp only); omega⟩, by simp only; omega, [(0, 0)], rfl, rfl, ⟨AVle.refl _, AVle.refl _, trivial⟩, ⟨MOle.refl _, trivial⟩⟩
    · rw [if_neg g2] at e
      rw [if_neg g2, if_neg g2] at c
      conv => whnf
      refine CallC.sca _ (c) ?_ ?_
      · exact rfl
      exact And.intro trivial (AVle.of_eq (show AV.tup [.int .i64 n, .int .i64 0] = _ by rw [show n = s.due by omega]))
theorem specDueCount_fn (s : Sta) (hL : s.es.length ≤ 1000000000) (hT : s.ts.length ≤ 1000000000) (hk1 : ∀ e ∈ s.es, e.key.length ≤ 1000000000) (hk2 : ∀ e ∈ s.ts, e.key.length ≤ 1000000000) : VFn Tryz.prog 15 [s.av] (.tup [.int .i64 (if s.ok = true then s.due else 0), .int .i64 (if s.ok = true then 0 else 1)]) := by
  refine VFn.introC Tryz.call15 Tryz.func15 rfl rfl ?_
  conv => whnf
  refine CallC.sca _ (specStateOK_ok s hL hT hk1 hk2) ?_ ?_
  · exact rfl
  by_cases hok : s.ok = true
  · rw [if_pos hok, if_pos hok, hok]
    conv => whnf
    refine CallC.sca _ (l14Due_fn s hok) ?_ ?_
    · exact rfl
    exact And.intro trivial (AVle.refl _)
  · rw [if_neg hok, if_neg hok, show s.ok = false by simpa using hok]
    exact And.intro trivial (AVle.refl _)
end Go.Proofs.YtopkjoalbinljaaGreatDoor
