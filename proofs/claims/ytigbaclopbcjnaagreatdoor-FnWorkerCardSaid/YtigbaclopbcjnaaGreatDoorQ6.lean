/- Contracts of functions that the claim reaches, and the plain law of what they compute; each theorem bears its own conditions. -/
import Derived.Test.YtigbaclopbcjnaaGreatDoorQ5
import Derived.Test.YtigbaclopbcjnaaGreatDoorV52
import Derived.Test.YtigbaclopbcjnaaGreatDoorQ1
import Derived.WalkSmall
set_option linter.unusedVariables false
set_option linter.constructorNameAsVariable false
set_option linter.unusedSimpArgs false
set_option maxRecDepth 20000
namespace Go.Proofs.YtigbaclopbcjnaaGreatDoor
open Go Go.Vw
theorem l06First_fn (s : Sta) (hL : s.es.length ≤ 1000000000) (k : Int) : VFn Tryz.prog 94 [s.av, .int .i64 k] (.int .i64 (fi (fun e : En => decide (e.tier = k)) s.es)) := by
 refine VFn.introC Tryz.call94 Tryz.func94 rfl rfl ?_
 refine LoopC.mk (fun i : Nat => i ≤ s.es.length ∧ ∀ j, j < i → decide ((ix s.es j).tier = k) = false) (fun i => [(1, .int .i64 k), (2, .bptr 0 0), (5, .int .i64 i)]) (fun i => [(0, .box s.row)]) 1 (fun i => s.es.length - i) 0
  ⟨⟨Nat.zero_le _, fun j hj => absurd hj (Nat.not_lt_zero j)⟩, [(0, 0)], rfl, rfl, ⟨AVle.refl _, AVle.refl _, AVle.refl _, trivial⟩, ⟨MOle.refl _, trivial⟩⟩ ?_
 intro i hi
 refine Grd.intro (fun h2 => ?_) (fun h2 => ?_)
 · have hin : i < s.es.length := by have := of_decide_eq_true h2; omega
   refine And.intro (by omega) ?_
   refine Grd.intro (fun h3 => ?_) (fun h3 => ?_)
   · exact And.intro trivial (AVle.of_eq (congrArg (AV.int .i64) (show (i : Int) = _ from (fi_at hin hi.2 h3).symm)))
   · refine And.intro (inI64 (by omega) (by omega)) ?_
     exact ⟨i + 1, ⟨hin, fun j hj => by
      rcases Nat.lt_or_ge j i with h' | h'
      · exact hi.2 j h'
      · rw [show j = i by omega]; exact h3⟩, by omega, [(0, 0)], rfl, rfl, ⟨AVle.refl _, AVle.refl _, AVle.of_eq (congrArg (AV.int .i64) (by simp)), trivial⟩, ⟨MOle.refl _, trivial⟩⟩
 · have : i = s.es.length := by have := of_decide_eq_false h2; omega
   subst this
   exact And.intro trivial (AVle.of_eq (congrArg (AV.int .i64) (fi_none hi.2).symm))
theorem any_ix {α : Type} [Inhabited α] {L : List α} {p : α → Bool} {i : Nat} (hi : i < L.length) (h : p (ix L i) = true) : L.any p = true := List.any_eq_true.2 ⟨_, getD_mem hi, h⟩
theorem any_no {α : Type} [Inhabited α] {L : List α} {p : α → Bool} (h : ∀ i, i < L.length → p (ix L i) = false) : L.any p = false := by
 rw [← Bool.not_eq_true]; intro h'
 obtain ⟨x, hx, hp⟩ := List.any_eq_true.1 h'
 obtain ⟨j, hj, e⟩ := List.getElem_of_mem hx
 have := h j hj
 rw [ix_lt hj, e, hp] at this; cases this
theorem l06Named_fn (s : Sta) (hL : s.es.length ≤ 1000000000) (hT : s.ts.length ≤ 1000000000) (k : List UInt8) : VFn Tryz.prog 163 [s.av, .str (B k)] (.bool (s.has k)) := by
 have hh : s.has k = (s.es.any (fun e => decide (e.key = k)) || s.ts.any fun t => decide (t.key = k)) := by unfold Sta.has Sta.tombAt; rw [fi_any]
 refine VFn.introC Tryz.call163 Tryz.func163 rfl rfl ?_
 refine LoopC.mk (fun i : Nat => i ≤ s.es.length ∧ ∀ j, j < i → decide ((ix s.es j).key = k) = false) (fun i => [(1, .str (B k)), (2, .bptr 0 0), (5, .int .i64 i)]) (fun i => [(0, .box s.row)]) 1 (fun i => s.es.length - i) 0
  ⟨⟨Nat.zero_le _, fun j hj => absurd hj (Nat.not_lt_zero j)⟩, [(0, 0)], rfl, rfl, ⟨AVle.refl _, AVle.refl _, AVle.refl _, trivial⟩, ⟨MOle.refl _, trivial⟩⟩ ?_
 intro i hi
 refine Grd.intro (fun h2 => ?_) (fun h2 => ?_)
 · have hin : i < s.es.length := by have := of_decide_eq_true h2; omega
   refine And.intro (by omega) ?_
   refine Grd.intro (fun h3 => ?_) (fun h3 => ?_)
   · have h3 : ((B (ix s.es i).key).toList == (B k).toList) = true := h3
     rw [B_eq] at h3
     rw [show s.has k = true by rw [hh, any_ix (p := fun e : En => decide (e.key = k)) hin h3]; rfl]
     exact And.intro trivial (AVle.refl _)
   · have h3 : ((B (ix s.es i).key).toList == (B k).toList) = false := h3
     rw [B_eq] at h3
     refine And.intro (inI64 (by omega) (by omega)) ?_
     exact ⟨i + 1, ⟨hin, fun j hj => by
      rcases Nat.lt_or_ge j i with h' | h'
      · exact hi.2 j h'
      · rw [show j = i by omega]; exact h3⟩, by omega, [(0, 0)], rfl, rfl, ⟨AVle.refl _, AVle.refl _, AVle.of_eq (congrArg (AV.int .i64) (by simp)), trivial⟩, ⟨MOle.refl _, trivial⟩⟩
 have : i = s.es.length := by have := of_decide_eq_false h2; omega
 subst this
 have hno := any_no (p := fun e : En => decide (e.key = k)) hi.2
 refine LoopC.mk (fun i : Nat => i ≤ s.ts.length ∧ ∀ j, j < i → decide ((ix s.ts j).key = k) = false) (fun i => [(1, .str (B k)), (2, .bptr 0 0), (6, .int .i64 i)]) (fun i => [(0, .box s.row)]) 1 (fun i => s.ts.length - i) 0
  ⟨⟨Nat.zero_le _, fun j hj => absurd hj (Nat.not_lt_zero j)⟩, [(0, 0)], rfl, rfl, ⟨AVle.refl _, AVle.refl _, AVle.refl _, trivial⟩, ⟨MOle.refl _, trivial⟩⟩ ?_
 intro i hi2
 refine Grd.intro (fun h4 => ?_) (fun h4 => ?_)
 · have hin : i < s.ts.length := by have := of_decide_eq_true h4; omega
   refine And.intro (by omega) ?_
   refine Grd.intro (fun h3 => ?_) (fun h3 => ?_)
   · have h3 : ((B (ix s.ts i).key).toList == (B k).toList) = true := h3
     rw [B_eq] at h3
     rw [show s.has k = true by rw [hh, hno, any_ix (p := fun t : Tb => decide (t.key = k)) hin h3]; rfl]
     exact And.intro trivial (AVle.refl _)
   · have h3 : ((B (ix s.ts i).key).toList == (B k).toList) = false := h3
     rw [B_eq] at h3
     refine And.intro (inI64 (by omega) (by omega)) ?_
     exact ⟨i + 1, ⟨hin, fun j hj => by
      rcases Nat.lt_or_ge j i with h' | h'
      · exact hi2.2 j h'
      · rw [show j = i by omega]; exact h3⟩, by omega, [(0, 0)], rfl, rfl, ⟨AVle.refl _, AVle.refl _, AVle.of_eq (congrArg (AV.int .i64) (by simp)), trivial⟩, ⟨MOle.refl _, trivial⟩⟩
 · have : i = s.ts.length := by have := of_decide_eq_false h4; omega
   subst this
   rw [show s.has k = false by rw [hh, hno, any_no (p := fun t : Tb => decide (t.key = k)) hi2.2]; rfl]
   exact And.intro trivial (AVle.refl _)
def En.size (e : En) : Nat := e.key.length
def Tb.size (e : Tb) : Nat := e.key.length
def Sta.size (s : Sta) : Nat := (s.es.length + sumL En.size s.es) + (s.ts.length + sumL Tb.size s.ts)
def wd (k : Int) : Int := if k = 0 then 1 else if k = 1 then 5 else 20
theorem width_fn (k : Int) (h : k = 0 ∨ k = 1 ∨ k = 2) : VFn Tryz.prog 77 [.int .i64 k] (.int .i64 (wd k)) := by
 rcases h with rfl | rfl | rfl
 · refine VFn.introC Tryz.call77 Tryz.func77 rfl rfl ?_
   refine And.intro ⟨by omega, by show (0 : Int) < ((3 : Nat) : Int); omega⟩ ?_
   exact And.intro trivial (AVle.refl _)
 · refine VFn.introC Tryz.call77 Tryz.func77 rfl rfl ?_
   refine And.intro ⟨by omega, by show (1 : Int) < ((3 : Nat) : Int); omega⟩ ?_
   exact And.intro trivial (AVle.refl _)
 · refine VFn.introC Tryz.call77 Tryz.func77 rfl rfl ?_
   refine And.intro ⟨by omega, by show (2 : Int) < ((3 : Nat) : Int); omega⟩ ?_
   exact And.intro trivial (AVle.refl _)
theorem l04Width_fn (k : Int) (h : k = 0 ∨ k = 1 ∨ k = 2) : VFn Tryz.prog 93 [.int .i64 k] (.int .i64 (wd k)) := by
 rcases h with rfl | rfl | rfl
 · refine VFn.introC Tryz.call93 Tryz.func93 rfl rfl ?_
   refine And.intro ⟨by omega, by show (0 : Int) < ((3 : Nat) : Int); omega⟩ ?_
   exact And.intro trivial (AVle.refl _)
 · refine VFn.introC Tryz.call93 Tryz.func93 rfl rfl ?_
   refine And.intro ⟨by omega, by show (1 : Int) < ((3 : Nat) : Int); omega⟩ ?_
   exact And.intro trivial (AVle.refl _)
 · refine VFn.introC Tryz.call93 Tryz.func93 rfl rfl ?_
   refine And.intro ⟨by omega, by show (2 : Int) < ((3 : Nat) : Int); omega⟩ ?_
   exact And.intro trivial (AVle.refl _)
def dueT (h0 h1 h2 : Int) : Int := if h1 + 5 ≤ h0 then 1 else if h2 + 20 ≤ h1 then 2 else 0
def dueF (h0 h1 h2 : Int) : Int := if h1 + 5 ≤ h0 then h1 else if h2 + 20 ≤ h1 then h2 else 0
theorem due_fn (s : Sta) (b0 : 0 ≤ s.h0 ∧ s.h0 ≤ 1000000) (b1 : 0 ≤ s.h1 ∧ s.h1 ≤ 1000000) (b2 : 0 ≤ s.h2 ∧ s.h2 ≤ 1000000) : VFn Tryz.prog 73 [s.av] (.tup [.int .i64 (dueT s.h0 s.h1 s.h2), .int .i64 (dueF s.h0 s.h1 s.h2), .bool (!decide (dueT s.h0 s.h1 s.h2 = 0))]) := by
 have w1 : VFn Tryz.prog 77 [.int .i64 1] (.int .i64 5) := width_fn 1 (.inr (.inl rfl))
 have w2 : VFn Tryz.prog 77 [.int .i64 2] (.int .i64 20) := width_fn 2 (.inr (.inr rfl))
 refine VFn.introC Tryz.call73 Tryz.func73 rfl rfl ?_
 refine LoopC.rounds 3 ?_
 refine DrawC.mq 13 rfl (by kernel_rfl) ?_
 refine And.intro ⟨by omega, by show (1 : Int) < ((3 : Nat) : Int); omega⟩ ?_
 refine PCallQ.sca _ (w1) rfl ?_
 refine And.intro (inI64 (by omega) (by omega)) ?_
 refine And.intro (inI64 (by omega) (by omega)) ?_
 refine And.intro ⟨by omega, by show (0 : Int) < ((3 : Nat) : Int); omega⟩ ?_
 refine Grd.intro (fun g1 => ?_) (fun g1 => ?_)
 · have g1 : s.h1 + 5 ≤ s.h0 := of_decide_eq_true g1
   refine DrawC.mq 8 rfl (by kernel_rfl) ?_
   refine And.intro ⟨by omega, by show (1 : Int) < ((3 : Nat) : Int); omega⟩ ?_
   rw [show dueT s.h0 s.h1 s.h2 = 1 by unfold dueT; simp [g1], show dueF s.h0 s.h1 s.h2 = s.h1 by unfold dueF; simp [g1]]
   exact And.intro trivial (AVle.refl _)
 have g1 : ¬ s.h1 + 5 ≤ s.h0 := of_decide_eq_false g1
 refine And.intro (inI64 (by omega) (by omega)) ?_
 refine DrawC.mq 13 rfl (by kernel_rfl) ?_
 refine And.intro ⟨by omega, by show (2 : Int) < ((3 : Nat) : Int); omega⟩ ?_
 refine PCallQ.sca _ (w2) rfl ?_
 refine And.intro (inI64 (by omega) (by omega)) ?_
 refine And.intro (inI64 (by omega) (by omega)) ?_
 refine And.intro ⟨by omega, by show (1 : Int) < ((3 : Nat) : Int); omega⟩ ?_
 refine Grd.intro (fun g2 => ?_) (fun g2 => ?_)
 · have g2 : s.h2 + 20 ≤ s.h1 := of_decide_eq_true g2
   refine DrawC.mq 8 rfl (by kernel_rfl) ?_
   refine And.intro ⟨by omega, by show (2 : Int) < ((3 : Nat) : Int); omega⟩ ?_
   rw [show dueT s.h0 s.h1 s.h2 = 2 by unfold dueT; simp [g2, g1], show dueF s.h0 s.h1 s.h2 = s.h2 by unfold dueF; simp [g2, g1]]
   exact And.intro trivial (AVle.refl _)
 have g2 : ¬ s.h2 + 20 ≤ s.h1 := of_decide_eq_false g2
 refine And.intro (inI64 (by omega) (by omega)) ?_
 rw [show dueT s.h0 s.h1 s.h2 = 0 by unfold dueT; simp [g1, g2], show dueF s.h0 s.h1 s.h2 = 0 by unfold dueF; simp [g1, g2]]
 exact And.intro trivial (AVle.refl _)
theorem l07Due_fn (s : Sta) (b0 : 0 ≤ s.h0 ∧ s.h0 ≤ 1000000) (b1 : 0 ≤ s.h1 ∧ s.h1 ≤ 1000000) (b2 : 0 ≤ s.h2 ∧ s.h2 ≤ 1000000) : VFn Tryz.prog 47 [s.av] (.tup [.int .i64 (dueT s.h0 s.h1 s.h2), .int .i64 (dueF s.h0 s.h1 s.h2), .bool (!decide (dueT s.h0 s.h1 s.h2 = 0))]) := by
 have w1 : VFn Tryz.prog 93 [.int .i64 1] (.int .i64 5) := l04Width_fn 1 (.inr (.inl rfl))
 have w2 : VFn Tryz.prog 93 [.int .i64 2] (.int .i64 20) := l04Width_fn 2 (.inr (.inr rfl))
 refine VFn.introC Tryz.call47 Tryz.func47 rfl rfl ?_
 refine LoopC.rounds 3 ?_
 refine DrawC.mq 8 rfl (by kernel_rfl) ?_
 refine And.intro ⟨by omega, by show (1 : Int) < ((3 : Nat) : Int); omega⟩ ?_
 refine PCallQ.sca _ (w1) rfl ?_
 refine And.intro (inI64 (by omega) (by omega)) ?_
 refine And.intro (inI64 (by omega) (by omega)) ?_
 refine And.intro ⟨by omega, by show (0 : Int) < ((3 : Nat) : Int); omega⟩ ?_
 refine Grd.intro (fun g1 => ?_) (fun g1 => ?_)
 · have g1 : s.h1 + 5 ≤ s.h0 := of_decide_eq_true g1
   refine DrawC.mq 8 rfl (by kernel_rfl) ?_
   refine And.intro ⟨by omega, by show (1 : Int) < ((3 : Nat) : Int); omega⟩ ?_
   rw [show dueT s.h0 s.h1 s.h2 = 1 by unfold dueT; simp [g1], show dueF s.h0 s.h1 s.h2 = s.h1 by unfold dueF; simp [g1]]
   exact And.intro trivial (AVle.refl _)
 have g1 : ¬ s.h1 + 5 ≤ s.h0 := of_decide_eq_false g1
 refine And.intro (inI64 (by omega) (by omega)) ?_
 refine DrawC.mq 8 rfl (by kernel_rfl) ?_
 refine And.intro ⟨by omega, by show (2 : Int) < ((3 : Nat) : Int); omega⟩ ?_
 refine PCallQ.sca _ (w2) rfl ?_
 refine And.intro (inI64 (by omega) (by omega)) ?_
 refine And.intro (inI64 (by omega) (by omega)) ?_
 refine And.intro ⟨by omega, by show (1 : Int) < ((3 : Nat) : Int); omega⟩ ?_
 refine Grd.intro (fun g2 => ?_) (fun g2 => ?_)
 · have g2 : s.h2 + 20 ≤ s.h1 := of_decide_eq_true g2
   refine DrawC.mq 8 rfl (by kernel_rfl) ?_
   refine And.intro ⟨by omega, by show (2 : Int) < ((3 : Nat) : Int); omega⟩ ?_
   rw [show dueT s.h0 s.h1 s.h2 = 2 by unfold dueT; simp [g2, g1], show dueF s.h0 s.h1 s.h2 = s.h2 by unfold dueF; simp [g2, g1]]
   exact And.intro trivial (AVle.refl _)
 have g2 : ¬ s.h2 + 20 ≤ s.h1 := of_decide_eq_false g2
 refine And.intro (inI64 (by omega) (by omega)) ?_
 rw [show dueT s.h0 s.h1 s.h2 = 0 by unfold dueT; simp [g1, g2], show dueF s.h0 s.h1 s.h2 = 0 by unfold dueF; simp [g1, g2]]
 exact And.intro trivial (AVle.refl _)
def Sta.h (s : Sta) (a b : Int) : Sta := { s with h1 := a, h2 := b }
theorem hi_b (L : List En) (hL : L.all En.ok = true) (lo hi k : Int) (h : tierOK L lo hi k = true) : 0 ≤ hi ∧ hi ≤ 100000 := by
 unfold tierOK at h
 simp only [Bool.and_eq_true, decide_eq_true_eq] at h
 have hl : 0 ≤ lo ∧ lo ≤ 100000 := by simpa [within] using h.1
 rw [runs_endE h.2]
 unfold endE
 cases hq : (ofT L k).getLast? with
 | none => exact hl
 | some e =>
   have he : e ∈ L := (List.mem_filter.1 (List.mem_of_getLast? hq)).1
   have := List.all_eq_true.1 hL e he
   unfold En.ok isRange at this
   simp [within] at this
   simp only; omega
theorem Sta.hi_b {s : Sta} (h : s.ok = true) : (0 ≤ s.h0 ∧ s.h0 ≤ 100000) ∧ (0 ≤ s.h1 ∧ s.h1 ≤ 100000) ∧ (0 ≤ s.h2 ∧ s.h2 ≤ 100000) := by
 unfold Sta.ok at h
 simp only [Bool.and_eq_true] at h
 obtain ⟨_, _, _, h4, _, _, t0, t1, t2⟩ := h
 exact ⟨Proofs.YtigbaclopbcjnaaGreatDoor.hi_b s.es h4 _ _ _ t0, Proofs.YtigbaclopbcjnaaGreatDoor.hi_b s.es h4 _ _ _ t1, Proofs.YtigbaclopbcjnaaGreatDoor.hi_b s.es h4 _ _ _ t2⟩
def headIs (L : List En) (e : En) : Bool := match L with | x :: _ => decide (x = e) | [] => false
def Sta.takes (s : Sta) (r : Rc) : Bool :=
 if r.k = 1 then decide (r.f = s.h0) && (decide (kN r.key = s.seq + 1) && !s.has r.key)
 else if r.k = 2 then decide (s.fence < r.tok)
 else if r.k = 3 then decide (r.tok = s.fence) && (decide (r.f = s.hi r.tier) && (decide (kN r.key = r.f) && (decide (kW r.key = r.tok) && (decide (r.t = r.f + wd r.tier) && (decide (r.t ≤ s.hi (r.tier - 1)) && (decide (s.lo (r.tier - 1) ≤ r.f) && !s.has r.key))))))
 else if r.k = 4 then decide (r.tok = s.fence) && (headIs (ofT s.es r.tier) r.en && (decide (r.tier = 2) || decide (r.t ≤ s.hi (r.tier + 1))))
 else decide (0 ≤ s.tombAt r.key)
theorem takes1 (s : Sta) (hL : s.es.length ≤ 1000000000) (hT : s.ts.length ≤ 1000000000) (hq : 0 ≤ s.seq ∧ s.seq ≤ 999999) (tok tier f t : Int) (key : List UInt8) : VFn Tryz.prog 173 [s.av, (Rc.mk 1 tok tier f t key).av] (.bool (s.takes ⟨1, tok, tier, f, t, key⟩)) := by
 have e : s.takes ⟨1, tok, tier, f, t, key⟩ = (decide (f = s.h0) && (decide (kN key = s.seq + 1) && !s.has key)) := rfl
 rw [e]
 refine VFn.introC Tryz.call173 Tryz.func173 rfl rfl ?_
 conv => whnf
 refine CallC.sca _ (readDataKey_fn key) ?_ ?_
 · exact rfl
 refine And.intro ⟨by omega, by show (0 : Int) < ((3 : Nat) : Int); omega⟩ ?_
 repeat' (conv => whnf
          first
  | refine Grd.intro (fun h => ?_) (fun h => ?_)
  | (refine CallC.sca _ (hasKey_fn s hL hT key) ?_ ?_; exact rfl)
  | refine And.intro (inI64 (by omega) (by omega)) ?_
  | refine And.intro trivial (AVle.of_eq (congrArg AV.bool ?_)))
 all_goals (simp_all)
theorem takes2 (s : Sta) (tok tier f t : Int) (key : List UInt8) : VFn Tryz.prog 173 [s.av, (Rc.mk 2 tok tier f t key).av] (.bool (s.takes ⟨2, tok, tier, f, t, key⟩)) := by
 refine VFn.introC Tryz.call173 Tryz.func173 rfl rfl ?_
 exact And.intro trivial (AVle.of_eq (congrArg AV.bool (show decide (s.fence < tok) = _ from rfl)))
theorem takes5 (s : Sta) (hT : s.ts.length ≤ 1000000000) (tok tier f t : Int) (key : List UInt8) : VFn Tryz.prog 173 [s.av, (Rc.mk 5 tok tier f t key).av] (.bool (s.takes ⟨5, tok, tier, f, t, key⟩)) := by
 refine VFn.introC Tryz.call173 Tryz.func173 rfl rfl ?_
 conv => whnf
 refine CallC.sca _ (tomb_fn s hT key) ?_ ?_
 · exact rfl
 exact And.intro trivial (AVle.of_eq (congrArg AV.bool (show decide (0 ≤ s.tombAt key) = _ from rfl)))
set_option maxHeartbeats 4000000 in
theorem takes3_1 (s : Sta) (hL : s.es.length ≤ 1000000000) (hT : s.ts.length ≤ 1000000000) (tok f t : Int) (hf : 0 ≤ f ∧ f ≤ 1000000) (key : List UInt8) : VFn Tryz.prog 173 [s.av, (Rc.mk 3 tok 1 f t key).av] (.bool (s.takes ⟨3, tok, 1, f, t, key⟩)) := by
 have w1 : VFn Tryz.prog 77 [.int .i64 1] (.int .i64 5) := width_fn 1 (.inr (.inl rfl))
 have e : s.takes ⟨3, tok, 1, f, t, key⟩ = (decide (tok = s.fence) && (decide (f = s.h1) && (decide (kN key = f) && (decide (kW key = tok) && (decide (t = f + 5) && (decide (t ≤ s.h0) && (decide (s.l0 ≤ f) && !s.has key))))))) := rfl
 rw [e]
 refine VFn.introC Tryz.call173 Tryz.func173 rfl rfl ?_
 conv => whnf
 refine CallC.sca _ (readDataKey_fn key) ?_ ?_
 · exact rfl
 refine DrawC.mq 68 rfl (by kernel_rfl) ?_
 repeat' (first
  | refine Grd.intro (fun h => ?_) (fun h => ?_)
  | ((conv => whnf); refine Grd.intro (fun h => ?_) (fun h => ?_))
  | refine PCallQ.sca _ (w1) rfl ?_
  | refine PCallQ.sca _ (hasKey_fn s hL hT key) rfl ?_
  | refine And.intro (inI64 (by (try simp only); omega) (by (try simp only); omega)) ?_
  | refine And.intro ⟨show (0 : Int) ≤ 0 by omega, show (0 : Int) < ((3 : Nat) : Int) by omega⟩ ?_
  | refine And.intro ⟨show (0 : Int) ≤ 1 by omega, show (1 : Int) < ((3 : Nat) : Int) by omega⟩ ?_
  | refine And.intro ⟨show (0 : Int) ≤ 2 by omega, show (2 : Int) < ((3 : Nat) : Int) by omega⟩ ?_
  | refine And.intro trivial (AVle.of_eq (congrArg AV.bool ?_)))
 all_goals (first | (simp_all; done) | (simp_all; intros; omega))
set_option maxHeartbeats 4000000 in
theorem takes3_2 (s : Sta) (hL : s.es.length ≤ 1000000000) (hT : s.ts.length ≤ 1000000000) (tok f t : Int) (hf : 0 ≤ f ∧ f ≤ 1000000) (key : List UInt8) : VFn Tryz.prog 173 [s.av, (Rc.mk 3 tok 2 f t key).av] (.bool (s.takes ⟨3, tok, 2, f, t, key⟩)) := by
 have w1 : VFn Tryz.prog 77 [.int .i64 2] (.int .i64 20) := width_fn 2 (.inr (.inr rfl))
 have e : s.takes ⟨3, tok, 2, f, t, key⟩ = (decide (tok = s.fence) && (decide (f = s.h2) && (decide (kN key = f) && (decide (kW key = tok) && (decide (t = f + 20) && (decide (t ≤ s.h1) && (decide (s.l1 ≤ f) && !s.has key))))))) := rfl
 rw [e]
 refine VFn.introC Tryz.call173 Tryz.func173 rfl rfl ?_
 conv => whnf
 refine CallC.sca _ (readDataKey_fn key) ?_ ?_
 · exact rfl
 refine DrawC.mq 68 rfl (by kernel_rfl) ?_
 repeat' (first
  | refine Grd.intro (fun h => ?_) (fun h => ?_)
  | ((conv => whnf); refine Grd.intro (fun h => ?_) (fun h => ?_))
  | refine PCallQ.sca _ (w1) rfl ?_
  | refine PCallQ.sca _ (hasKey_fn s hL hT key) rfl ?_
  | refine And.intro (inI64 (by (try simp only); omega) (by (try simp only); omega)) ?_
  | refine And.intro ⟨show (0 : Int) ≤ 0 by omega, show (0 : Int) < ((3 : Nat) : Int) by omega⟩ ?_
  | refine And.intro ⟨show (0 : Int) ≤ 1 by omega, show (1 : Int) < ((3 : Nat) : Int) by omega⟩ ?_
  | refine And.intro ⟨show (0 : Int) ≤ 2 by omega, show (2 : Int) < ((3 : Nat) : Int) by omega⟩ ?_
  | refine And.intro trivial (AVle.of_eq (congrArg AV.bool ?_)))
 all_goals (first | (simp_all; done) | (simp_all; intros; omega))
def readP : List (List UInt8) → Option Rc
 | [a, b] => (match numsK 44 5 a with
   | some [k, tok, tier, f, e] => if Rc.ok ⟨k, tok, tier, f, e, b⟩ = true then some ⟨k, tok, tier, f, e, b⟩ else none
   | _ => none)
 | _ => none
def readR (t : List UInt8) : Option Rc := readP (cutP 32 [] t)
theorem readR_ok {t : List UInt8} {r : Rc} (h : readR t = some r) : r.ok = true := by
 unfold readR readP at h
 split at h
 · split at h
   · split at h
     · cases h; assumption
     · cases h
   · cases h
 · cases h
def Sta.tick (s : Sta) : Sta := { s with seq := s.seq + 1 }
def Sta.lift (s : Sta) (k v : Int) : Sta := if k = 0 then { s with h0 := v } else if k = 1 then { s with h1 := v } else { s with h2 := v }
def Sta.lower (s : Sta) (k v : Int) : Sta := if k = 0 then { s with l0 := v } else if k = 1 then { s with l1 := v } else { s with l2 := v }
def noE (k : List UInt8) (L : List En) : List En := L.filter fun e => !decide (e.key = k)
def noT (k : List UInt8) (L : List Tb) : List Tb := L.filter fun e => !decide (e.key = k)
def Sta.app (s : Sta) (r : Rc) : Sta :=
 if s.takes r = true then
  if r.k = 1 ∨ r.k = 3 then ({ s.tick with es := s.es ++ [r.en] } : Sta).lift r.tier r.t
  else if r.k = 2 then { s.tick with fence := r.tok }
  else if r.k = 4 then ({ s.tick with es := noE r.key s.es, ts := s.ts ++ [⟨s.seq + 1, r.key⟩] } : Sta).lower r.tier r.t
  else { s.tick with ts := noT r.key s.ts }
 else s.tick
theorem lift_es (s : Sta) (k v : Int) : (s.lift k v).es = s.es ∧ (s.lift k v).ts = s.ts ∧ (s.lift k v).seq = s.seq ∧ (s.lift k v).fence = s.fence := by
 unfold Sta.lift; split
 · exact ⟨rfl, rfl, rfl, rfl⟩
 · split <;> exact ⟨rfl, rfl, rfl, rfl⟩
theorem lower_es (s : Sta) (k v : Int) : (s.lower k v).es = s.es ∧ (s.lower k v).ts = s.ts ∧ (s.lower k v).seq = s.seq ∧ (s.lower k v).fence = s.fence := by
 unfold Sta.lower; split
 · exact ⟨rfl, rfl, rfl, rfl⟩
 · split <;> exact ⟨rfl, rfl, rfl, rfl⟩
theorem app_seq (s : Sta) (r : Rc) : (s.app r).seq = s.seq + 1 := by
 unfold Sta.app
 split
 · split
   · rw [(lift_es _ _ _).2.2.1]; rfl
   · split
     · rfl
     · split
       · rw [(lower_es _ _ _).2.2.1]; rfl
       · rfl
 · rfl
theorem noE_len (k : List UInt8) (L : List En) : (noE k L).length ≤ L.length := List.length_filter_le _ _
theorem noT_len (k : List UInt8) (L : List Tb) : (noT k L).length ≤ L.length := List.length_filter_le _ _
theorem has_iff (s : Sta) (k : List UInt8) : s.has k = true ↔ k ∈ s.keys := by
 unfold Sta.has Sta.tombAt Sta.keys
 rw [fi_any]
 simp only [Bool.or_eq_true, List.any_eq_true, decide_eq_true_eq, List.mem_append, List.mem_map]
theorem headIs_mem {L : List En} {k : Int} {e : En} (h : headIs (ofT L k) e = true) : e ∈ L := by
 unfold headIs at h
 cases hl : ofT L k with
 | nil => rw [hl] at h; cases h
 | cons x r =>
   rw [hl] at h
   have hx : x = e := of_decide_eq_true h
   have : x ∈ ofT L k := by rw [hl]; simp
   rw [← hx]
   exact (List.mem_filter.1 this).1
theorem takes_k {s : Sta} {r : Rc} (h : s.takes r = true) (hk : r.k = 1 ∨ r.k = 3) : s.has r.key = false := by
 unfold Sta.takes at h
 rcases hk with hk | hk
 · rw [if_pos hk] at h
   simp only [Bool.and_eq_true, Bool.not_eq_true'] at h
   exact h.2.2
 · rw [if_neg (by omega), if_neg (by omega), if_pos hk] at h
   simp only [Bool.and_eq_true, Bool.not_eq_true'] at h
   exact h.2.2.2.2.2.2.2
theorem takes_4 {s : Sta} {r : Rc} (h : s.takes r = true) (hk : r.k = 4) : headIs (ofT s.es r.tier) r.en = true := by
 unfold Sta.takes at h
 rw [if_neg (by omega), if_neg (by omega), if_neg (by omega), if_pos hk] at h
 simp only [Bool.and_eq_true] at h
 exact h.2.1
theorem appL_len (s : Sta) (r : Rc) : (s.app r).es.length + (s.app r).ts.length ≤ s.es.length + s.ts.length + 1 := by
 unfold Sta.app
 split
 · rename_i ht
   split
   · rw [(lift_es _ _ _).1, (lift_es _ _ _).2.1]
     show (s.es ++ [r.en]).length + s.ts.length ≤ _
     rw [List.length_append]; simp only [List.length_cons, List.length_nil]; omega
   · split
     · show s.es.length + s.ts.length ≤ _; omega
     · split
       · rw [(lower_es _ _ _).1, (lower_es _ _ _).2.1]
         show (noE r.key s.es).length + (s.ts ++ [(⟨s.seq + 1, r.key⟩ : Tb)]).length ≤ _
         have := noE_len r.key s.es
         rw [List.length_append]; simp only [List.length_cons, List.length_nil]; omega
       · show s.es.length + (noT r.key s.ts).length ≤ _
         have := noT_len r.key s.ts; omega
 · show s.es.length + s.ts.length ≤ _; omega
structure LogS (s : Sta) : Prop where
 nd : s.keys.Nodup
 kk : ∀ k ∈ s.keys, kOk k = true
theorem LogS.of {q : Sta} {K : List (List UInt8)} (e : q.keys = K) (h : K.Nodup ∧ ∀ k ∈ K, kOk k = true) : LogS q := ⟨e ▸ h.1, fun k hk => h.2 k (e ▸ hk)⟩
theorem nodup_snoc {α : Type} {L : List α} {a : α} (h : L.Nodup) (ha : a ∉ L) : (L ++ [a]).Nodup :=
 List.nodup_append.2 ⟨h, by simp, fun x hx y hy e => by
  have : y = a := by simpa using hy
  subst this; subst e; exact ha hx⟩
theorem noE_keys (k : List UInt8) (L : List En) : (noE k L).map (·.key) = (L.map (·.key)).filter fun x => !decide (x = k) := by
 unfold noE; rw [List.filter_map]; rfl
theorem noT_keys (k : List UInt8) (L : List Tb) : (noT k L).map (·.key) = (L.map (·.key)).filter fun x => !decide (x = k) := by
 unfold noT; rw [List.filter_map]; rfl
theorem app_log {s : Sta} {r : Rc} (h : LogS s) (hr : r.ok = true) : LogS (s.app r) := by
 obtain ⟨nd, kk⟩ := h
 have nd' := nd
 unfold Sta.keys at nd'
 have nda := List.nodup_append.1 nd'
 unfold Sta.app
 split
 · rename_i ht
   split
   · rename_i hk
     have hno := takes_k ht hk
     have hnk : r.key ∉ s.keys := fun h => by rw [(has_iff s r.key).2 h] at hno; cases hno
     have hok : kOk r.key = true := by
      unfold Rc.ok at hr
      rcases hk with hk | hk
      · rw [if_pos hk] at hr; simp [Rc.en, En.ok] at hr; exact hr.2.2.1
      · rw [if_neg (by omega), if_neg (by omega), if_pos hk] at hr; simp [Rc.en, En.ok] at hr; exact hr.2.2.1
     have e : ∀ q : Sta, q.es = s.es ++ [r.en] → q.ts = s.ts → q.keys = (s.es.map (·.key) ++ [r.key]) ++ s.ts.map (·.key) := fun q h1 h2 => by unfold Sta.keys; rw [h1, h2, List.map_append]; rfl
     refine LogS.of (e _ (lift_es _ _ _).1 (lift_es _ _ _).2.1) ?_
     have hm : r.key ∉ s.es.map (·.key) ∧ r.key ∉ s.ts.map (·.key) := ⟨fun h => hnk (List.mem_append.2 (.inl h)), fun h => hnk (List.mem_append.2 (.inr h))⟩
     refine ⟨List.nodup_append.2 ⟨nodup_snoc nda.1 hm.1, nda.2.1, fun x hx y hy => ?_⟩, fun k hk' => ?_⟩
     · rcases List.mem_append.1 hx with hx | hx
       · exact nda.2.2 x hx y hy
       · have : x = r.key := by simpa using hx
         subst this
         exact fun e => hm.2 (e ▸ hy)
     · rcases List.mem_append.1 hk' with hk' | hk'
       · rcases List.mem_append.1 hk' with hk' | hk'
         · exact kk k (List.mem_append.2 (.inl hk'))
         · have : k = r.key := by simpa using hk'
           rw [this]; exact hok
       · exact kk k (List.mem_append.2 (.inr hk'))
   · split
     · exact ⟨nd, kk⟩
     · split
       · rename_i hk1 hk2 hk4
         have hm := headIs_mem (takes_4 ht hk4)
         have hke : r.key ∈ s.es.map (·.key) := List.mem_map.2 ⟨_, hm, rfl⟩
         have hkt : r.key ∉ s.ts.map (·.key) := fun h => nda.2.2 _ hke _ h rfl
         have e : ∀ q : Sta, q.es = noE r.key s.es → q.ts = s.ts ++ [⟨s.seq + 1, r.key⟩] → q.keys = (s.es.map (·.key)).filter (fun x => !decide (x = r.key)) ++ (s.ts.map (·.key) ++ [r.key]) := fun q h1 h2 => by unfold Sta.keys; rw [h1, h2, List.map_append, noE_keys]; rfl
         refine LogS.of (e _ (lower_es _ _ _).1 (lower_es _ _ _).2.1) ?_
         refine ⟨List.nodup_append.2 ⟨nda.1.filter _, nodup_snoc nda.2.1 hkt, fun x hx y hy => ?_⟩, fun k hk' => ?_⟩
         · have hx' := List.mem_filter.1 hx
           rcases List.mem_append.1 hy with hy | hy
           · exact nda.2.2 x hx'.1 y hy
           · have : y = r.key := by simpa using hy
             subst this
             intro e; rw [e] at hx'; simp at hx'
         · rcases List.mem_append.1 hk' with hk' | hk'
           · exact kk k (List.mem_append.2 (.inl (List.mem_filter.1 hk').1))
           · rcases List.mem_append.1 hk' with hk' | hk'
             · exact kk k (List.mem_append.2 (.inr hk'))
             · have : k = r.key := by simpa using hk'
               rw [this]; exact kk _ (List.mem_append.2 (.inl hke))
       · have e : ∀ q : Sta, q.es = s.es → q.ts = noT r.key s.ts → q.keys = s.es.map (·.key) ++ (s.ts.map (·.key)).filter (fun x => !decide (x = r.key)) := fun q h1 h2 => by unfold Sta.keys; rw [h1, h2, noT_keys]
         refine LogS.of (e _ rfl rfl) ?_
         refine ⟨List.nodup_append.2 ⟨nda.1, nda.2.1.filter _, fun x hx y hy => nda.2.2 x hx y (List.mem_filter.1 hy).1⟩, fun k hk' => ?_⟩
         rcases List.mem_append.1 hk' with hk' | hk'
         · exact kk k (List.mem_append.2 (.inl hk'))
         · exact kk k (List.mem_append.2 (.inr (List.mem_filter.1 hk').1))
 · exact ⟨nd, kk⟩
theorem nodup_le {α : Type} [DecidableEq α] : ∀ (L M : List α), L.Nodup → (∀ x ∈ L, x ∈ M) → L.length ≤ M.length
 | [], _, _, _ => Nat.zero_le _
 | a :: l, M, h, hm => by
   have h' := List.nodup_cons.1 h
   have ha := hm a (by simp)
   have := nodup_le l (M.erase a) h'.2 fun x hx => (List.mem_erase_of_ne (fun e => h'.1 (by rw [← e]; exact hx))).2 (hm x (by simp [hx]))
   rw [List.length_erase_of_mem ha] at this
   have hp : 0 < M.length := List.length_pos_of_mem ha
   simp only [List.length_cons]; omega
theorem has_mem {x : Sto} {k : List UInt8} (h : x.has k = true) : k ∈ x.os.map (·.key) := by
 obtain ⟨h1, h2⟩ := hasK_at h
 exact List.mem_map.2 ⟨_, getD_mem h1, h2⟩
theorem manK_inj {a b : Nat} (ha : a ≤ 999999) (hb : b ≤ 999999) (h : manK (a : Int) = manK (b : Int)) : a = b := by
 unfold manK at h
 have := List.append_cancel_left h
 exact six6_inj (by omega) (by omega) (by simpa using this)
theorem log_len {x : Sto} {n : Nat} (hn : n ≤ 999998) (h : ∀ j, j < n → x.has (manK ((j + 1 : Nat) : Int)) = true) : n ≤ x.os.length := by
 have := nodup_le ((List.range n).map fun j => manK ((j + 1 : Nat) : Int)) (x.os.map (·.key)) ?_ ?_
 · simpa using this
 · refine List.pairwise_map.2 (List.Pairwise.imp_of_mem (fun {a b} ha hb hne e => ?_) (List.nodup_range (n := n)))
   have := List.mem_range.1 ha
   have := List.mem_range.1 hb
   have := manK_inj (by omega) (by omega) e
   exact hne (by omega)
 · intro k hk
   obtain ⟨j, hj, rfl⟩ := List.mem_map.1 hk
   exact has_mem (h j (List.mem_range.1 hj))
def sta0 : Sta := ⟨0, 0, [], [], 0, 0, 0, 0, 0, 0⟩
def recAt (x : Sto) (n : Int) : Option Rc := readR (x.get (manK n)).data
def stepL (x : Sto) (s : Sta) : Sta := match recAt x (s.seq + 1) with | none => s.tick | some r => s.app r
def logN (x : Sto) : Nat → Sta
 | 0 => sta0
 | n + 1 => stepL x (logN x n)
theorem logN_seq (x : Sto) : ∀ n, (logN x n).seq = (n : Int)
 | 0 => rfl
 | n + 1 => by
   have ih := logN_seq x n
   show (stepL x (logN x n)).seq = _
   unfold stepL
   split
   · show (logN x n).seq + 1 = _; rw [ih]; simp
   · rw [app_seq, ih]; simp
theorem logN_len (x : Sto) : ∀ n, (logN x n).es.length + (logN x n).ts.length ≤ n
 | 0 => Nat.le_refl _
 | n + 1 => by
   have ih := logN_len x n
   show (stepL x (logN x n)).es.length + (stepL x (logN x n)).ts.length ≤ _
   unfold stepL
   split
   · show (logN x n).es.length + (logN x n).ts.length ≤ _; omega
   · rename_i r _
     have := appL_len (logN x n) r; omega
theorem logN_log (x : Sto) : ∀ n, LogS (logN x n)
 | 0 => ⟨by simp [logN, sta0, Sta.keys], fun k hk => by simp [logN, sta0, Sta.keys] at hk⟩
 | n + 1 => by
   have ih := logN_log x n
   show LogS (stepL x (logN x n))
   unfold stepL
   split
   · exact ⟨ih.1, ih.2⟩
   · rename_i r hr
     exact app_log ih (readR_ok hr)
def firstNo (p : Nat → Bool) : Nat → Nat → Nat
 | 0, n => n
 | f + 1, n => if p n = true then firstNo p f (n + 1) else n
theorem firstNo_at {p : Nat → Bool} {i : Nat} (h0 : p i = false) : ∀ f n, n ≤ i → i ≤ n + f → (∀ j, n ≤ j → j < i → p j = true) → firstNo p f n = i
 | 0, n, h1, h2, _ => by show n = i; omega
 | f + 1, n, h1, h2, h => by
   unfold firstNo
   rcases Nat.lt_or_ge n i with h3 | h3
   · rw [if_pos (h n (Nat.le_refl _) h3)]
     exact firstNo_at h0 f (n + 1) h3 (by omega) fun j hj => h j (by omega)
   · have : n = i := by omega
     subst this
     rw [if_neg (by rw [h0]; simp)]
def logEnd (x : Sto) : Nat := firstNo (fun j => x.has (manK ((j + 1 : Nat) : Int))) 400 0
def logS (x : Sto) : Sta := logN x (logEnd x)
theorem log_end {x : Sto} (hs : x.ok = true) {i : Nat} (hi : i ≤ 300) (h : ∀ j, j < i → x.has (manK ((j + 1 : Nat) : Int)) = true) (h0 : x.has (manK ((i + 1 : Nat) : Int)) = false) : i = logEnd x :=
 (firstNo_at h0 400 0 (Nat.zero_le _) (by omega) fun j _ hj => h j hj).symm
theorem firstNo_le (p : Nat → Bool) : ∀ f n, firstNo p f n ≤ n + f
 | 0, n => Nat.le_refl _
 | f + 1, n => by
   unfold firstNo
   split
   · have := firstNo_le p f (n + 1); omega
   · omega
theorem log_b (x : Sto) : (logS x).seq = (logEnd x : Int) ∧ logEnd x ≤ 400 ∧ (logS x).es.length + (logS x).ts.length ≤ 400 ∧ LogS (logS x) := by
 have h1 := firstNo_le (fun j => x.has (manK ((j + 1 : Nat) : Int))) 400 0
 have h2 := logN_len x (logEnd x)
 have h3 : logEnd x ≤ 400 := by unfold logEnd; omega
 exact ⟨logN_seq x _, h3, by unfold logS; omega, logN_log x _⟩
theorem noE_none {k : List UInt8} : ∀ {L : List En}, (∀ x ∈ L, x.key ≠ k) → noE k L = L := fun {L} h => by
 unfold noE
 exact List.filter_eq_self.2 fun x hx => by rw [decide_eq_false (h x hx)]; rfl
theorem noE_cut {L : List En} {i : Nat} (hi : i < L.length) (nd : (L.map (·.key)).Nodup) : L.take i ++ L.drop (i + 1) = noE (ix L i).key L := by
 have e : L = L.take i ++ (ix L i :: L.drop (i + 1)) := by
  rw [ix_lt hi]
  simp
 have nd2 := nd
 rw [e, List.map_append, List.map_cons] at nd2
 have h1 := List.nodup_append.1 nd2
 have h2 := List.nodup_cons.1 h1.2.1
 have hn : noE (ix L i).key L = noE (ix L i).key (L.take i ++ (ix L i :: L.drop (i + 1))) := congrArg _ e
 rw [hn]
 have e1 : noE (ix L i).key (L.take i) = L.take i := noE_none fun x hx hk => h1.2.2 x.key (List.mem_map.2 ⟨x, hx, rfl⟩) (ix L i).key (by simp) hk
 have e2 : noE (ix L i).key (L.drop (i + 1)) = L.drop (i + 1) := noE_none fun x hx hk => h2.1 (hk ▸ List.mem_map.2 ⟨x, hx, rfl⟩)
 unfold noE at e1 e2 ⊢
 rw [List.filter_append, e1, List.filter_cons_of_neg (by simp), e2]
theorem fi_filter {α : Type} [Inhabited α] (p : α → Bool) : ∀ L : List α, (fi p L = -1 ∧ L.filter p = []) ∨ ∃ i : Nat, i < L.length ∧ fi p L = (i : Int) ∧ ∃ r, L.filter p = ix L i :: r := by
 intro L
 by_cases h : ∃ i, i < L.length ∧ p (ix L i) = true
 · obtain ⟨i, hi, hp⟩ := h
   -- the least one
   have : ∃ i, (i < L.length ∧ p (ix L i) = true) ∧ ∀ j, j < i → p (ix L j) = false := by
    induction i using Nat.strongRecOn with
    | _ i ih =>
      by_cases h' : ∃ j, j < i ∧ p (ix L j) = true
      · obtain ⟨j, hj, hq⟩ := h'
        exact ih j hj (by omega) hq
      · exact ⟨i, ⟨hi, hp⟩, fun j hj => by
         cases hq : p (ix L j)
         · rfl
         · exact absurd ⟨j, hj, hq⟩ h'⟩
   obtain ⟨i, ⟨hi, hp⟩, hl⟩ := this
   refine .inr ⟨i, hi, fi_at hi hl hp, ?_⟩
   have e : L = L.take i ++ (ix L i :: L.drop (i + 1)) := by rw [ix_lt hi]; simp
   have e1 : (L.take i).filter p = [] := List.filter_eq_nil_iff.2 fun x hx => by
    obtain ⟨j, hj, rfl⟩ := List.getElem_of_mem hx
    have hj' : j < i := by simp at hj; omega
    have := hl j hj'
    rw [ix_lt (by omega)] at this
    simp [this]
   refine ⟨(L.drop (i + 1)).filter p, ?_⟩
   have := congrArg (List.filter p) e
   rw [this, List.filter_append, e1, List.filter_cons_of_pos hp]; rfl
 · have hn : ∀ i, i < L.length → p (ix L i) = false := fun i hi => by
    cases hq : p (ix L i)
    · rfl
    · exact absurd ⟨i, hi, hq⟩ h
   refine .inl ⟨fi_none hn, List.filter_eq_nil_iff.2 fun x hx => ?_⟩
   obtain ⟨j, hj, rfl⟩ := List.getElem_of_mem hx
   have := hn j hj
   rw [ix_lt hj] at this
   simp [this]
theorem fi_first {α : Type} [Inhabited α] (p : α → Bool) (L : List α) : (fi p L = -1 ∧ ∀ j, j < L.length → p (ix L j) = false) ∨ ∃ i : Nat, i < L.length ∧ fi p L = (i : Int) ∧ p (ix L i) = true ∧ ∀ j, j < i → p (ix L j) = false := by
 by_cases h : ∃ i, i < L.length ∧ p (ix L i) = true
 · obtain ⟨i, hi, hp⟩ := h
   have : ∃ i, (i < L.length ∧ p (ix L i) = true) ∧ ∀ j, j < i → p (ix L j) = false := by
    induction i using Nat.strongRecOn with
    | _ i ih =>
      by_cases h' : ∃ j, j < i ∧ p (ix L j) = true
      · obtain ⟨j, hj, hq⟩ := h'
        exact ih j hj (by omega) hq
      · exact ⟨i, ⟨hi, hp⟩, fun j hj => by
         cases hq : p (ix L j)
         · rfl
         · exact absurd ⟨j, hj, hq⟩ h'⟩
   obtain ⟨i, ⟨hi, hp⟩, hl⟩ := this
   exact .inr ⟨i, hi, fi_at hi hl hp, hp, hl⟩
 · have hn : ∀ i, i < L.length → p (ix L i) = false := fun i hi => by
    cases hq : p (ix L i)
    · rfl
    · exact absurd ⟨i, hi, hq⟩ h
   exact .inl ⟨fi_none hn, hn⟩
theorem readR_none {t : List UInt8} (h : ∀ x ∈ t, x ≠ 32) : readR t = none := by
 unfold readR
 rw [cutP_none 32 t [] h]; rfl
theorem readR_at {a b : List UInt8} (ha : ∀ x ∈ a, x ≠ 32) : (∀ k tok tier f e, numsK 44 5 a = some [k, tok, tier, f, e] → readR (a ++ 32 :: b) = if Rc.ok ⟨k, tok, tier, f, e, b⟩ = true then some ⟨k, tok, tier, f, e, b⟩ else none) ∧ (numsK 44 5 a = none → readR (a ++ 32 :: b) = none) := by
 have hc := cutP_app 32 a [] b ha
 have hb := first_c 32 b
 unfold readR readP
 rw [hc]
 constructor
 · intro k tok tier f e hN
   rcases hb with hb | ⟨c, d, rfl, hcn⟩
   · rw [cutP_none 32 b [] hb]
     simp only [List.nil_append]
     rw [hN]
   · rw [cutP_app 32 c [] d hcn]
     obtain ⟨q, qs, hq⟩ : ∃ q qs, cutP 32 [] d = q :: qs := by
      have := (cutP_len 32 d []).1
      cases h : cutP 32 [] d with
      | nil => rw [h] at this; simp at this
      | cons q qs => exact ⟨q, qs, rfl⟩
     rw [hq]
     have hno : ¬ Rc.ok ⟨k, tok, tier, f, e, c ++ 32 :: d⟩ = true := fun h => by
      have hk : kOk (c ++ 32 :: d) = true := by
       unfold Rc.ok at h
       split at h
       · simp [Rc.en, En.ok] at h; exact h.2.2.1
       split at h
       · simp at h
       split at h
       · simp [Rc.en, En.ok] at h; exact h.2.2.1
       split at h
       · simp [Rc.en, En.ok] at h; exact h.2.1
       split at h
       · simp at h; exact h.2.2
       · cases h
      unfold kOk at hk
      cases hp : parseKey (c ++ 32 :: d) with
      | none => rw [hp] at hk; cases hk
      | some z =>
        obtain ⟨u, n, w⟩ := z
        obtain ⟨e1, ht, hn, hw⟩ := key_parse hp
        have : (32 : UInt8) ∈ keyB u n w := by rw [← e1]; simp
        have h3 : u = 0 ∨ u = 1 ∨ u = 2 := by omega
        have hd : ∀ m, (32 : UInt8) ∉ six6 m := fun m hm => six6_ne (n := m) (c := 32) (by decide) 32 hm rfl
        have hs : ∀ p : List UInt8, (32 : UInt8) ∉ p → (32 : UInt8) ∈ p ++ (six6 n ++ 45 :: six6 w) → False := fun p h1 h2 => by
         rcases List.mem_append.1 h2 with h | h
         · exact h1 h
         rcases List.mem_append.1 h with h | h
         · exact hd n h
         rcases List.mem_cons.1 h with h | h
         · exact absurd h (by decide)
         · exact hd w h
        unfold keyB at this
        rcases h3 with rfl | rfl | rfl <;> exact hs _ (by decide) this
     rw [if_neg hno]
 · intro hN
   rcases hb with hb | ⟨c, d, rfl, hcn⟩
   · rw [cutP_none 32 b [] hb]
     simp only [List.nil_append]
     rw [hN]
   · rw [cutP_app 32 c [] d hcn]
     obtain ⟨q, qs, hq⟩ : ∃ q qs, cutP 32 [] d = q :: qs := by
      have := (cutP_len 32 d []).1
      cases h : cutP 32 [] d with
      | nil => rw [h] at this; simp at this
      | cons q qs => exact ⟨q, qs, rfl⟩
     rw [hq]
theorem nums5 {t : List UInt8} {N : List Int} (h : numsK 44 5 t = some N) : ∃ a b c d e, N = [a, b, c, d, e] := by
 unfold numsK at h
 split at h
 · rename_i h1
   cases h
   have hl : ((cutP 44 [] t).map atoiV).length = 5 := by rw [List.length_map]; exact h1.1
   generalize (cutP 44 [] t).map atoiV = L at hl
   match L, hl with
   | [a, b, c, d, e], _ => exact ⟨a, b, c, d, e, rfl⟩
 · cases h
theorem Cut_fn (s : List UInt8) (c : UInt8) (hl : s.length ≤ 1000000000) : VFn Tryz.prog 171 [.str (B s), .str (B [c])] (.tup [.str (B (Lib.cut s [c]).1), .str (B (Lib.cut s [c]).2.1), .bool (Lib.cut s [c]).2.2]) := by
 refine VFn.lib Tryz.call171 fun w ok vs hJ hok hv => ?_
 obtain ⟨v, us, rfl, hv, v2, us2, rfl, hv2, hus⟩ := hv
 have e1 : v = .string (B s) := hv
 have e2 : v2 = .string (B [c]) := hv2
 have e3 : us2 = [] := hus
 subst e1 e2 e3
 obtain ⟨mv, hmv⟩ := tab_maxlen hJ
 refine (Tryz.strings_Cut (B s) (B [c]) mv w (by rw [B_size]; omega) hmv).mono ?_
 rintro e w' ⟨rfl, n, rfl⟩
 refine ⟨_, rfl, ⟨rfl, rfl, rfl, Nat.le_refl _, fun _ _ => rfl⟩, fun _ _ => ⟨[_, _, _], rfl, _, _, rfl, ?_, _, _, rfl, ?_, _, _, rfl, ?_, rfl⟩⟩
 · show Value.string _ = _
   rw [B_data, B_data]; rfl
 · show Value.string _ = _
   rw [B_data, B_data]; rfl
 · show Value.bool _ = _
   rw [B_data, B_data]
theorem cut_none {s : List UInt8} {c : UInt8} (h : ∀ x ∈ s, x ≠ c) : Lib.cut s [c] = (s, [], false) := by
 unfold Lib.cut; rw [index_none c s h]; rfl
theorem cut_at {a b : List UInt8} {c : UInt8} (h : ∀ x ∈ a, x ≠ c) : Lib.cut (a ++ c :: b) [c] = (a, b, true) := by
 unfold Lib.cut; rw [index_at c a b h]
 rw [if_pos (by omega)]
 simp
theorem readRecord_none (t : List UInt8) (hl : t.length ≤ 1000000) (h : ∀ x ∈ t, x ≠ 32) : VFn Tryz.prog 147 [.str (B t)] (.tup [(default : Rc).av, .bool false]) := by
 have c := Cut_fn t 32 (by omega)
 rw [cut_none h] at c
 refine VFn.introC Tryz.call147 Tryz.func147 rfl rfl ?_
 conv => whnf
 refine CallC.sca _ (c) ?_ ?_
 · exact rfl
 cases hn : numsK 44 5 t with
 | none =>
   conv => whnf
   refine CallC.nl _ (numbers_no t 44 5 (by omega) (by decide) hn) ?_ ?_
   · exact rfl
   exact And.intro trivial (AVle.refl _)
 | some N =>
   conv => whnf
   refine CallC.nl _ (numbers_yes t 44 5 (by omega) (by decide) hn) ?_ ?_
   · exact rfl
   exact And.intro trivial (AVle.refl _)
theorem readRecord_cut (a b : List UInt8) (hl : (a ++ 32 :: b).length ≤ 1000000) (ha : ∀ x ∈ a, x ≠ 32) : (∀ k tok tier f e, numsK 44 5 a = some [k, tok, tier, f, e] → VFn Tryz.prog 147 [.str (B (a ++ 32 :: b))] (.tup [(Rc.mk k tok tier f e b).av, .bool (Rc.ok ⟨k, tok, tier, f, e, b⟩)])) ∧
 (numsK 44 5 a = none → VFn Tryz.prog 147 [.str (B (a ++ 32 :: b))] (.tup [(default : Rc).av, .bool false])) := by
 have c := Cut_fn (a ++ 32 :: b) 32 (by omega)
 rw [cut_at ha] at c
 have hal : a.length ≤ 1000000 := by rw [List.length_append] at hl; omega
 constructor
 · intro k tok tier f e hn
   have ct := RecordOK_fn ⟨k, tok, tier, f, e, b⟩
   refine VFn.introC Tryz.call147 Tryz.func147 rfl rfl ?_
   conv => whnf
   refine CallC.sca _ (c) ?_ ?_
   · exact rfl
   conv => whnf
   refine CallC.nl _ (numbers_yes a 44 5 (by omega) (by decide) hn) ?_ ?_
   · exact rfl
   refine DrawC.mkQ 19 [(.inr 17, 18)] rfl (by kernel_rfl) ?_
   refine And.intro rfl ?_
   refine And.intro ⟨by decide, show (0 : Int) < 5 by decide⟩ ?_
   refine And.intro ⟨by decide, show (1 : Int) < 5 by decide⟩ ?_
   refine And.intro ⟨by decide, show (2 : Int) < 5 by decide⟩ ?_
   refine And.intro ⟨by decide, show (3 : Int) < 5 by decide⟩ ?_
   refine And.intro ⟨by decide, show (4 : Int) < 5 by decide⟩ ?_
   refine DrawC.mkQ 5 [(.inl 0, 3)] rfl (by kernel_rfl) ?_
   refine And.intro rfl ?_
   conv => whnf
   refine PCallQ.sca _ (ct) rfl ?_
   exact And.intro trivial (AVle.refl _)
 · intro hn
   refine VFn.introC Tryz.call147 Tryz.func147 rfl rfl ?_
   conv => whnf
   refine CallC.sca _ (c) ?_ ?_
   · exact rfl
   conv => whnf
   refine CallC.nl _ (numbers_no a 44 5 (by omega) (by decide) hn) ?_ ?_
   · exact rfl
   exact And.intro trivial (AVle.refl _)
theorem readRecord_yes (t : List UInt8) (hl : t.length ≤ 1000000) {r : Rc} (h : readR t = some r) : VFn Tryz.prog 147 [.str (B t)] (.tup [r.av, .bool true]) := by
 rcases first_c 32 t with h1 | ⟨a, b, rfl, ha⟩
 · rw [readR_none h1] at h; cases h
 · obtain ⟨r1, r2⟩ := readR_at (b := b) ha
   obtain ⟨c1, c2⟩ := readRecord_cut a b hl ha
   cases hn : numsK 44 5 a with
   | none => rw [r2 hn] at h; cases h
   | some N =>
     obtain ⟨k, tok, tier, f, e, rfl⟩ := nums5 hn
     rw [r1 _ _ _ _ _ hn] at h
     split at h
     · rename_i hok
       cases h
       have := c1 _ _ _ _ _ hn
       rw [hok] at this; exact this
     · cases h
theorem readRecord_no (t : List UInt8) (hl : t.length ≤ 1000000) (h : readR t = none) : ∃ r : Rc, VFn Tryz.prog 147 [.str (B t)] (.tup [r.av, .bool false]) := by
 rcases first_c 32 t with h1 | ⟨a, b, rfl, ha⟩
 · exact ⟨_, readRecord_none t hl h1⟩
 · obtain ⟨r1, r2⟩ := readR_at (b := b) ha
   obtain ⟨c1, c2⟩ := readRecord_cut a b hl ha
   cases hn : numsK 44 5 a with
   | none => exact ⟨_, c2 hn⟩
   | some N =>
     obtain ⟨k, tok, tier, f, e, rfl⟩ := nums5 hn
     rw [r1 _ _ _ _ _ hn] at h
     split at h
     · cases h
     · rename_i hok
       have := c1 _ _ _ _ _ hn
       rw [show Rc.ok ⟨k, tok, tier, f, e, b⟩ = false by simpa using hok] at this
       exact ⟨_, this⟩
theorem l06Read_gen (t : List UInt8) (hl : t.length ≤ 1000000) (R : AV) (hy : ∀ r, readR t = some r → R = .tup [r.av, .bool true]) (hn : readR t = none → R = .tup [(default : Rc).av, .bool false]) : VFn Tryz.prog 91 [.str (B t)] R := by
 have cc := l00Cut_fn t 32 (by omega)
 have hpl : ∀ x ∈ cutP 32 [] t, x.length ≤ t.length := fun x hx => by have := cutP_piece 32 t [] x hx; simpa using this
 have hR : readR t = readP (cutP 32 [] t) := rfl
 generalize cutP 32 [] t = P at cc hpl hR
 by_cases h2 : P.length = 2
 case neg =>
  have hr : readR t = none := by
   match P, h2 with
   | [], _ => exact hR
   | [_], _ => exact hR
   | [_, _], h => exact absurd rfl h
   | _ :: _ :: _ :: _, _ => exact hR
  rw [hn hr]
  refine VFn.introC Tryz.call91 Tryz.func91 rfl rfl ?_
  conv => whnf
  refine CallC.nl _ (cc) ?_ ?_
  · exact rfl
  refine Grd.intro (fun g => ?_) (fun g => absurd (show ((P.length : Nat) : Int) = 2 by simpa using g) (by omega))
  exact And.intro trivial (AVle.refl _)
 case pos =>
  obtain ⟨a, b, rfl⟩ : ∃ a b, P = [a, b] := by
   match P, h2 with
   | [a, b], _ => exact ⟨a, b, rfl⟩
  have hR : readR t = (match numsK 44 5 a with
   | some [k, tok, tier, f, e] => if Rc.ok ⟨k, tok, tier, f, e, b⟩ = true then some ⟨k, tok, tier, f, e, b⟩ else none
   | _ => none) := hR
  have hal := hpl a (by simp)
  have hbl := hpl b (by simp)
  cases hN : numsK 44 5 a with
  | none =>
    rw [hN] at hR
    rw [hn hR]
    refine VFn.introC Tryz.call91 Tryz.func91 rfl rfl ?_
    conv => whnf
    refine CallC.nl _ (cc) ?_ ?_
    · exact rfl
    refine And.intro ⟨by decide, show (0 : Int) < 2 by decide⟩ ?_
    conv => whnf
    refine CallC.nl _ (l02Numbers_gen a 44 5 (by omega) _ (fun N h => by rw [hN] at h; cases h) (fun h => rfl)) ?_ ?_
    · exact rfl
    exact And.intro trivial (AVle.refl _)
  | some N =>
    obtain ⟨k, tok, tier, f, e, rfl⟩ := nums5 hN
    rw [hN] at hR
    have hR : readR t = if Rc.ok ⟨k, tok, tier, f, e, b⟩ = true then some ⟨k, tok, tier, f, e, b⟩ else none := hR
    have ct := specRecordOK_fn ⟨k, tok, tier, f, e, b⟩ (by show b.length ≤ _; omega)
    by_cases hok : Rc.ok ⟨k, tok, tier, f, e, b⟩ = true
    · rw [if_pos hok] at hR
      rw [hy _ hR]
      rw [hok] at ct
      refine VFn.introC Tryz.call91 Tryz.func91 rfl rfl ?_
      conv => whnf
      refine CallC.nl _ (cc) ?_ ?_
      · exact rfl
      refine And.intro ⟨by decide, show (0 : Int) < 2 by decide⟩ ?_
      conv => whnf
      refine CallC.nl _ (l02Numbers_gen a 44 5 (by omega) _ (fun N h => by rw [hN] at h; cases h; rfl) (fun h => by rw [hN] at h; cases h)) ?_ ?_
      · exact rfl
      refine DrawC.mkQ 21 [(.inr 19, 20)] rfl (by kernel_rfl) ?_
      refine And.intro rfl ?_
      refine And.intro ⟨by decide, show (0 : Int) < 5 by decide⟩ ?_
      refine And.intro ⟨by decide, show (1 : Int) < 5 by decide⟩ ?_
      refine And.intro ⟨by decide, show (2 : Int) < 5 by decide⟩ ?_
      refine And.intro ⟨by decide, show (3 : Int) < 5 by decide⟩ ?_
      refine And.intro ⟨by decide, show (4 : Int) < 5 by decide⟩ ?_
      refine And.intro ⟨by decide, show (1 : Int) < 2 by decide⟩ ?_
      conv => whnf
      refine CallC.sca _ (ct) ?_ ?_
      · exact rfl
      exact And.intro trivial (AVle.refl _)
    · have hok : Rc.ok ⟨k, tok, tier, f, e, b⟩ = false := by simpa using hok
      rw [if_neg (by rw [hok]; simp)] at hR
      rw [hn hR]
      rw [hok] at ct
      refine VFn.introC Tryz.call91 Tryz.func91 rfl rfl ?_
      conv => whnf
      refine CallC.nl _ (cc) ?_ ?_
      · exact rfl
      refine And.intro ⟨by decide, show (0 : Int) < 2 by decide⟩ ?_
      conv => whnf
      refine CallC.nl _ (l02Numbers_gen a 44 5 (by omega) _ (fun N h => by rw [hN] at h; cases h; rfl) (fun h => by rw [hN] at h; cases h)) ?_ ?_
      · exact rfl
      refine DrawC.mkQ 21 [(.inr 19, 20)] rfl (by kernel_rfl) ?_
      refine And.intro rfl ?_
      refine And.intro ⟨by decide, show (0 : Int) < 5 by decide⟩ ?_
      refine And.intro ⟨by decide, show (1 : Int) < 5 by decide⟩ ?_
      refine And.intro ⟨by decide, show (2 : Int) < 5 by decide⟩ ?_
      refine And.intro ⟨by decide, show (3 : Int) < 5 by decide⟩ ?_
      refine And.intro ⟨by decide, show (4 : Int) < 5 by decide⟩ ?_
      refine And.intro ⟨by decide, show (1 : Int) < 2 by decide⟩ ?_
      conv => whnf
      refine CallC.sca _ (ct) ?_ ?_
      · exact rfl
      exact And.intro trivial (AVle.refl _)
theorem l06Read_yes (t : List UInt8) (hl : t.length ≤ 1000000) {r : Rc} (h : readR t = some r) : VFn Tryz.prog 91 [.str (B t)] (.tup [r.av, .bool true]) := l06Read_gen t hl _ (fun r' h' => by rw [h] at h'; cases h'; rfl) (fun h' => by rw [h] at h'; cases h')
theorem l06Read_no (t : List UInt8) (hl : t.length ≤ 1000000) (h : readR t = none) : VFn Tryz.prog 91 [.str (B t)] (.tup [(default : Rc).av, .bool false]) := l06Read_gen t hl _ (fun r' h' => by rw [h] at h'; cases h') (fun h' => rfl)
end Go.Proofs.YtigbaclopbcjnaaGreatDoor
