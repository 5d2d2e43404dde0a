/- Contracts of functions that the claim reaches, and the plain law of what they compute; each theorem bears its own conditions. -/
import Derived.Test.YtopfpmcakoeloaaGreatDoorQ5
import Derived.Test.YtopfpmcakoeloaaGreatDoorV50
import Derived.Test.YtopfpmcakoeloaaGreatDoorQ4
import Derived.Test.YtopfpmcakoeloaaGreatDoorQ3
set_option linter.unusedVariables false
set_option linter.constructorNameAsVariable false
set_option linter.unusedSimpArgs false
set_option maxRecDepth 20000
namespace Go.Proofs.YtopfpmcakoeloaaGreatDoor
open Go Go.Vw

theorem IndexTb_1 (L : List Tb) (hL : L.length ≤ 9223372036854775807) (F : Nat) (row : List AV) (p : Tb → Bool) (hp : ∀ e ∈ L, VFn Tryz.prog F [e.av, .eptr row 0] (.bool (p e))) :
    VFn Tryz.prog 165 [tbs L, .fn (.func F) [] [.eptr row 0]] (.int .i64 (fi p L)) := by
  refine VFn.introC Tryz.call165 Tryz.func165 rfl rfl ?_
  refine LoopC.mk (fun i : Nat => i ≤ L.length ∧ ∀ j, j < i → p (ix L j) = false) (fun i => [(0, tbs L), (1, .fn (.func F) [] [.eptr row 0]), (7, .int .i64 L.length), (8, .int .i64 i)]) (fun _ => []) 0 (fun i => L.length - i) 0
    ⟨⟨Nat.zero_le _, fun j hj => absurd hj (Nat.not_lt_zero j)⟩, [], rfl, rfl, ⟨AVle.refl _, AVle.refl _, AVle.refl _, AVle.refl _, trivial⟩, trivial⟩ ?_
  intro i hi
  refine Grd.intro (fun h2 => ?_) (fun h2 => ?_)
  · have hin : i < L.length := by have := of_decide_eq_true h2; omega
    refine And.intro (by omega) ?_
    conv => whnf
    refine CallC.sca _ (hp (ix L i) (getD_mem hin)) ?_ ?_
    · exact rfl
    refine Grd.intro (fun h3 => ?_) (fun h3 => ?_)
    · exact And.intro trivial (AVle.of_eq (congrArg (AV.int .i64) (fi_at hin hi.2 h3).symm))
    · refine And.intro (inI64 (by omega) (by omega)) ?_
      exact ⟨i + 1, ⟨hin, fun j hj => by
        rcases Nat.lt_or_ge j i with h' | h'
        · exact hi.2 j h'
        · rw [show j = i by omega]; exact h3⟩, by omega, [], rfl, rfl, ⟨AVle.refl _, AVle.refl _, AVle.refl _, AVle.of_eq (congrArg (AV.int .i64) (by simp)), trivial⟩, trivial⟩
  · have : i = L.length := by have := of_decide_eq_false h2; omega
    subst this
    exact And.intro trivial (AVle.of_eq (congrArg (AV.int .i64) (fi_none hi.2).symm))
def Sta.tombAt (s : Sta) (k : List UInt8) : Int := fi (fun t : Tb => decide (t.key = k)) s.ts
def Sta.has (s : Sta) (k : List UInt8) : Bool := s.es.any (fun e => decide (e.key = k)) || decide (0 ≤ s.tombAt k)
theorem tomb1_fn (t : Tb) (k : List UInt8) : VFn Tryz.prog 182 [t.av, .eptr [.str (B k)] 0] (.bool (decide (t.key = k))) := by
  refine VFn.introC Tryz.call182 Tryz.func182 rfl rfl ?_
  exact And.intro trivial (AVle.of_eq (congrArg AV.bool (show ((B t.key).toList == (B k).toList) = _ from B_eq)))
theorem tomb_fn (s : Sta) (hT : s.ts.length ≤ 1000000000) (k : List UInt8) : VFn Tryz.prog 161 [s.av, .str (B k)] (.int .i64 (s.tombAt k)) := by
  refine VFn.introC Tryz.call161 Tryz.func161 rfl rfl ?_
  conv => whnf
  refine CallC.sca _ (IndexTb_1 s.ts (by omega) 182 [.str (B k)] (fun t => decide (t.key = k)) (fun t _ => tomb1_fn t k)) ?_ ?_
  · exact rfl
  exact And.intro trivial (AVle.refl _)
theorem hasKey1_fn (e : En) (k : List UInt8) : VFn Tryz.prog 181 [e.av, .eptr [.str (B k)] 0] (.bool (decide (e.key = k))) := by
  refine VFn.introC Tryz.call181 Tryz.func181 rfl rfl ?_
  exact And.intro trivial (AVle.of_eq (congrArg AV.bool (show ((B e.key).toList == (B k).toList) = _ from B_eq)))
theorem hasKey_fn (s : Sta) (hL : s.es.length ≤ 1000000000) (hT : s.ts.length ≤ 1000000000) (k : List UInt8) : VFn Tryz.prog 158 [s.av, .str (B k)] (.bool (s.has k)) := by
  refine VFn.introC Tryz.call158 Tryz.func158 rfl rfl ?_
  conv => whnf
  refine CallC.sca _ (ContainsEn_1 s.es (by omega) 181 [.str (B k)] (fun e => decide (e.key = k)) (fun e _ => hasKey1_fn e k)) ?_ ?_
  · exact rfl
  refine Grd.intro (fun g => ?_) (fun g => ?_)
  · refine And.intro trivial (AVle.of_eq (congrArg AV.bool (show true = _ from ?_)))
    unfold Sta.has; rw [g]; rfl
  · conv => whnf
    refine CallC.sca _ (tomb_fn s hT k) ?_ ?_
    · exact rfl
    refine And.intro trivial (AVle.of_eq (congrArg AV.bool (show decide (0 ≤ s.tombAt k) = _ from ?_)))
    unfold Sta.has; rw [g]; rfl
end Go.Proofs.YtopfpmcakoeloaaGreatDoor
set_option linter.unusedVariables false
set_option linter.constructorNameAsVariable false
set_option linter.unusedSimpArgs false
set_option maxRecDepth 20000
namespace Go.Proofs.YtopfpmcakoeloaaGreatDoor
open Go Go.Vw

theorem l06First_fn (s : Sta) (hL : s.es.length ≤ 1000000000) (k : Int) : VFn Tryz.prog 114 [s.av, .int .i64 k] (.int .i64 (fi (fun e : En => decide (e.tier = k)) s.es)) := by
  refine VFn.introC Tryz.call114 Tryz.func114 rfl rfl ?_
  refine LoopC.mk (fun i : Nat => i ≤ s.es.length ∧ ∀ j, j < i → decide ((ix s.es j).tier = k) = false) (fun i => [(1, .int .i64 k), (2, .bptr 0 0), (5, .int .i64 i)]) (fun i => [(0, .box s.row)]) 1 (fun i => s.es.length - i) 0
    ⟨⟨Nat.zero_le _, fun j hj => absurd hj (Nat.not_lt_zero j)⟩, [(0, 0)], rfl, rfl, ⟨AVle.refl _, AVle.refl _, AVle.refl _, trivial⟩, ⟨MOle.refl _, trivial⟩⟩ ?_
  intro i hi
  refine Grd.intro (fun h2 => ?_) (fun h2 => ?_)
  · have hin : i < s.es.length := by have := of_decide_eq_true h2; omega
    refine And.intro (by omega) ?_
    refine Grd.intro (fun h3 => ?_) (fun h3 => ?_)
    · exact And.intro trivial (AVle.of_eq (congrArg (AV.int .i64) (show (i : Int) = _ from (fi_at hin hi.2 h3).symm)))
    · refine And.intro (inI64 (by omega) (by omega)) ?_
      exact ⟨i + 1, ⟨hin, fun j hj => by
        rcases Nat.lt_or_ge j i with h' | h'
        · exact hi.2 j h'
        · rw [show j = i by omega]; exact h3⟩, by omega, [(0, 0)], rfl, rfl, ⟨AVle.refl _, AVle.refl _, AVle.of_eq (congrArg (AV.int .i64) (by simp)), trivial⟩, ⟨MOle.refl _, trivial⟩⟩
  · have : i = s.es.length := by have := of_decide_eq_false h2; omega
    subst this
    exact And.intro trivial (AVle.of_eq (congrArg (AV.int .i64) (fi_none hi.2).symm))
theorem any_ix {α : Type} [Inhabited α] {L : List α} {p : α → Bool} {i : Nat} (hi : i < L.length) (h : p (ix L i) = true) : L.any p = true := List.any_eq_true.2 ⟨_, getD_mem hi, h⟩
theorem any_no {α : Type} [Inhabited α] {L : List α} {p : α → Bool} (h : ∀ i, i < L.length → p (ix L i) = false) : L.any p = false := by
  rw [← Bool.not_eq_true]; intro h'
  obtain ⟨x, hx, hp⟩ := List.any_eq_true.1 h'
  obtain ⟨j, hj, e⟩ := List.getElem_of_mem hx
  have := h j hj
  rw [ix_lt hj, e, hp] at this; cases this
theorem l06Named_fn (s : Sta) (hL : s.es.length ≤ 1000000000) (hT : s.ts.length ≤ 1000000000) (k : List UInt8) : VFn Tryz.prog 128 [s.av, .str (B k)] (.bool (s.has k)) := by
  have hh : s.has k = (s.es.any (fun e => decide (e.key = k)) || s.ts.any fun t => decide (t.key = k)) := by unfold Sta.has Sta.tombAt; rw [fi_any]
  refine VFn.introC Tryz.call128 Tryz.func128 rfl rfl ?_
  refine LoopC.mk (fun i : Nat => i ≤ s.es.length ∧ ∀ j, j < i → decide ((ix s.es j).key = k) = false) (fun i => [(1, .str (B k)), (2, .bptr 0 0), (5, .int .i64 i)]) (fun i => [(0, .box s.row)]) 1 (fun i => s.es.length - i) 0
    ⟨⟨Nat.zero_le _, fun j hj => absurd hj (Nat.not_lt_zero j)⟩, [(0, 0)], rfl, rfl, ⟨AVle.refl _, AVle.refl _, AVle.refl _, trivial⟩, ⟨MOle.refl _, trivial⟩⟩ ?_
  intro i hi
  refine Grd.intro (fun h2 => ?_) (fun h2 => ?_)
  · have hin : i < s.es.length := by have := of_decide_eq_true h2; omega
    refine And.intro (by omega) ?_
    refine Grd.intro (fun h3 => ?_) (fun h3 => ?_)
    · have h3 : ((B (ix s.es i).key).toList == (B k).toList) = true := h3
      rw [B_eq] at h3
      rw [show s.has k = true by rw [hh, any_ix (p := fun e : En => decide (e.key = k)) hin h3]; rfl]
      exact And.intro trivial (AVle.refl _)
    · have h3 : ((B (ix s.es i).key).toList == (B k).toList) = false := h3
      rw [B_eq] at h3
      refine And.intro (inI64 (by omega) (by omega)) ?_
      exact ⟨i + 1, ⟨hin, fun j hj => by
        rcases Nat.lt_or_ge j i with h' | h'
        · exact hi.2 j h'
        · rw [show j = i by omega]; exact h3⟩, by omega, [(0, 0)], rfl, rfl, ⟨AVle.refl _, AVle.refl _, AVle.of_eq (congrArg (AV.int .i64) (by simp)), trivial⟩, ⟨MOle.refl _, trivial⟩⟩
  have : i = s.es.length := by have := of_decide_eq_false h2; omega
  subst this
  have hno := any_no (p := fun e : En => decide (e.key = k)) hi.2
  refine LoopC.mk (fun i : Nat => i ≤ s.ts.length ∧ ∀ j, j < i → decide ((ix s.ts j).key = k) = false) (fun i => [(1, .str (B k)), (2, .bptr 0 0), (6, .int .i64 i)]) (fun i => [(0, .box s.row)]) 1 (fun i => s.ts.length - i) 0
    ⟨⟨Nat.zero_le _, fun j hj => absurd hj (Nat.not_lt_zero j)⟩, [(0, 0)], rfl, rfl, ⟨AVle.refl _, AVle.refl _, AVle.refl _, trivial⟩, ⟨MOle.refl _, trivial⟩⟩ ?_
  intro i hi2
  refine Grd.intro (fun h4 => ?_) (fun h4 => ?_)
  · have hin : i < s.ts.length := by have := of_decide_eq_true h4; omega
    refine And.intro (by omega) ?_
    refine Grd.intro (fun h3 => ?_) (fun h3 => ?_)
    · have h3 : ((B (ix s.ts i).key).toList == (B k).toList) = true := h3
      rw [B_eq] at h3
      rw [show s.has k = true by rw [hh, hno, any_ix (p := fun t : Tb => decide (t.key = k)) hin h3]; rfl]
      exact And.intro trivial (AVle.refl _)
    · have h3 : ((B (ix s.ts i).key).toList == (B k).toList) = false := h3
      rw [B_eq] at h3
      refine And.intro (inI64 (by omega) (by omega)) ?_
      exact ⟨i + 1, ⟨hin, fun j hj => by
        rcases Nat.lt_or_ge j i with h' | h'
        · exact hi2.2 j h'
        · rw [show j = i by omega]; exact h3⟩, by omega, [(0, 0)], rfl, rfl, ⟨AVle.refl _, AVle.refl _, AVle.of_eq (congrArg (AV.int .i64) (by simp)), trivial⟩, ⟨MOle.refl _, trivial⟩⟩
  · have : i = s.ts.length := by have := of_decide_eq_false h4; omega
    subst this
    rw [show s.has k = false by rw [hh, hno, any_no (p := fun t : Tb => decide (t.key = k)) hi2.2]; rfl]
    exact And.intro trivial (AVle.refl _)
end Go.Proofs.YtopfpmcakoeloaaGreatDoor
set_option linter.unusedVariables false
set_option linter.constructorNameAsVariable false
set_option linter.unusedSimpArgs false
set_option maxRecDepth 20000
namespace Go.Proofs.YtopfpmcakoeloaaGreatDoor
open Go Go.Vw

def En.size (e : En) : Nat := e.key.length
def Tb.size (e : Tb) : Nat := e.key.length
def Sta.size (s : Sta) : Nat := (s.es.length + sumL En.size s.es) + (s.ts.length + sumL Tb.size s.ts)
/-- what is read of a state -/
def Sta.read (s : Sta) : Prop := s.es.length ≤ 9223372036854775807 ∧ s.ts.length ≤ 9223372036854775807 ∧ (∀ e ∈ s.es, e.size ≤ 9223372036854775807) ∧ ∀ e ∈ s.ts, e.size ≤ 9223372036854775807
theorem Sta.small {s : Sta} (h : (s.size : Int) ≤ 1048576) : s.es.length ≤ 1048576 ∧ s.ts.length ≤ 1048576 ∧ (∀ e ∈ s.es, e.key.length ≤ 1048576) ∧ ∀ e ∈ s.ts, e.key.length ≤ 1048576 := by
  unfold Sta.size at h
  refine ⟨by omega, by omega, fun e he => ?_, fun e he => ?_⟩
  · have := sum_mem (f := En.size) he
    have e' : e.size = e.key.length := rfl
    omega
  · have := sum_mem (f := Tb.size) he
    have e' : e.size = e.key.length := rfl
    omega
end Go.Proofs.YtopfpmcakoeloaaGreatDoor
set_option linter.unusedVariables false
set_option linter.constructorNameAsVariable false
set_option linter.unusedSimpArgs false
set_option maxRecDepth 20000
namespace Go.Proofs.YtopfpmcakoeloaaGreatDoor
open Go Go.Vw

def wd (k : Int) : Int := if k = 0 then 1 else if k = 1 then 5 else 20
theorem width_fn (k : Int) (h : k = 0 ∨ k = 1 ∨ k = 2) : VFn Tryz.prog 159 [.int .i64 k] (.int .i64 (wd k)) := by
  rcases h with rfl | rfl | rfl
  · refine VFn.introC Tryz.call159 Tryz.func159 rfl rfl ?_
    refine And.intro ⟨by omega, by show (0 : Int) < ((3 : Nat) : Int); omega⟩ ?_
    exact And.intro trivial (AVle.refl _)
  · refine VFn.introC Tryz.call159 Tryz.func159 rfl rfl ?_
    refine And.intro ⟨by omega, by show (1 : Int) < ((3 : Nat) : Int); omega⟩ ?_
    exact And.intro trivial (AVle.refl _)
  · refine VFn.introC Tryz.call159 Tryz.func159 rfl rfl ?_
    refine And.intro ⟨by omega, by show (2 : Int) < ((3 : Nat) : Int); omega⟩ ?_
    exact And.intro trivial (AVle.refl _)
theorem l04Width_fn (k : Int) (h : k = 0 ∨ k = 1 ∨ k = 2) : VFn Tryz.prog 129 [.int .i64 k] (.int .i64 (wd k)) := by
  rcases h with rfl | rfl | rfl
  · refine VFn.introC Tryz.call129 Tryz.func129 rfl rfl ?_
    refine And.intro ⟨by omega, by show (0 : Int) < ((3 : Nat) : Int); omega⟩ ?_
    exact And.intro trivial (AVle.refl _)
  · refine VFn.introC Tryz.call129 Tryz.func129 rfl rfl ?_
    refine And.intro ⟨by omega, by show (1 : Int) < ((3 : Nat) : Int); omega⟩ ?_
    exact And.intro trivial (AVle.refl _)
  · refine VFn.introC Tryz.call129 Tryz.func129 rfl rfl ?_
    refine And.intro ⟨by omega, by show (2 : Int) < ((3 : Nat) : Int); omega⟩ ?_
    exact And.intro trivial (AVle.refl _)
/-- the tier whose next window is due: 0, none -/
def dueT (h0 h1 h2 : Int) : Int := if h1 + 5 ≤ h0 then 1 else if h2 + 20 ≤ h1 then 2 else 0
def dueF (h0 h1 h2 : Int) : Int := if h1 + 5 ≤ h0 then h1 else if h2 + 20 ≤ h1 then h2 else 0
/-- how many windows are due -/
def dueN : Nat → Int → Int → Int → Int
  | 0, _, _, _ => 0
  | f + 1, h0, h1, h2 => if h1 + 5 ≤ h0 then 1 + dueN f h0 (h1 + 5) h2 else if h2 + 20 ≤ h1 then 1 + dueN f h0 h1 (h2 + 20) else 0
theorem dueN_b : ∀ f h0 h1 h2, 0 ≤ dueN f h0 h1 h2 ∧ dueN f h0 h1 h2 ≤ f
  | 0, _, _, _ => by simp [dueN]
  | f + 1, h0, h1, h2 => by
    have a := dueN_b f h0 (h1 + 5) h2
    have b := dueN_b f h0 h1 (h2 + 20)
    unfold dueN
    split
    · omega
    · split <;> omega
def Sta.h (s : Sta) (a b : Int) : Sta := { s with h1 := a, h2 := b }
theorem hi_b (L : List En) (hL : L.all En.ok = true) (lo hi k : Int) (h : tierOK L lo hi k = true) : 0 ≤ hi ∧ hi ≤ 100000 := by
  unfold tierOK at h
  simp only [Bool.and_eq_true, decide_eq_true_eq] at h
  have hl : 0 ≤ lo ∧ lo ≤ 100000 := by simpa [within] using h.1
  rw [runs_endE h.2]
  unfold endE
  cases hq : (ofT L k).getLast? with
  | none => exact hl
  | some e =>
    have he : e ∈ L := (List.mem_filter.1 (List.mem_of_getLast? hq)).1
    have := List.all_eq_true.1 hL e he
    unfold En.ok isRange at this
    simp [within] at this
    simp only; omega
theorem Sta.hi_b {s : Sta} (h : s.ok = true) : (0 ≤ s.h0 ∧ s.h0 ≤ 100000) ∧ (0 ≤ s.h1 ∧ s.h1 ≤ 100000) ∧ (0 ≤ s.h2 ∧ s.h2 ≤ 100000) := by
  unfold Sta.ok at h
  simp only [Bool.and_eq_true] at h
  obtain ⟨_, _, _, h4, _, _, t0, t1, t2⟩ := h
  exact ⟨Proofs.YtopfpmcakoeloaaGreatDoor.hi_b s.es h4 _ _ _ t0, Proofs.YtopfpmcakoeloaaGreatDoor.hi_b s.es h4 _ _ _ t1, Proofs.YtopfpmcakoeloaaGreatDoor.hi_b s.es h4 _ _ _ t2⟩
def Sta.due (s : Sta) : Int := dueN 300000 s.h0 s.h1 s.h2
end Go.Proofs.YtopfpmcakoeloaaGreatDoor
set_option linter.unusedVariables false
set_option linter.constructorNameAsVariable false
set_option linter.unusedSimpArgs false
set_option maxRecDepth 20000
namespace Go.Proofs.YtopfpmcakoeloaaGreatDoor
open Go Go.Vw

def headIs (L : List En) (e : En) : Bool := match L with | x :: _ => decide (x = e) | [] => false
def Sta.takes (s : Sta) (r : Rc) : Bool :=
  if r.k = 1 then decide (r.f = s.h0) && (decide (kN r.key = s.seq + 1) && !s.has r.key)
  else if r.k = 2 then decide (s.fence < r.tok)
  else if r.k = 3 then decide (r.tok = s.fence) && (decide (r.f = s.hi r.tier) && (decide (kN r.key = r.f) && (decide (kW r.key = r.tok) && (decide (r.t = r.f + wd r.tier) && (decide (r.t ≤ s.hi (r.tier - 1)) && (decide (s.lo (r.tier - 1) ≤ r.f) && !s.has r.key))))))
  else if r.k = 4 then decide (r.tok = s.fence) && (headIs (ofT s.es r.tier) r.en && (decide (r.tier = 2) || decide (r.t ≤ s.hi (r.tier + 1))))
  else decide (0 ≤ s.tombAt r.key)
theorem takes1 (s : Sta) (hL : s.es.length ≤ 1000000000) (hT : s.ts.length ≤ 1000000000) (hq : 0 ≤ s.seq ∧ s.seq ≤ 999999) (tok tier f t : Int) (key : List UInt8) : VFn Tryz.prog 134 [s.av, (Rc.mk 1 tok tier f t key).av] (.bool (s.takes ⟨1, tok, tier, f, t, key⟩)) := by
  have e : s.takes ⟨1, tok, tier, f, t, key⟩ = (decide (f = s.h0) && (decide (kN key = s.seq + 1) && !s.has key)) := rfl
  rw [e]
  refine VFn.introC Tryz.call134 Tryz.func134 rfl rfl ?_
  conv => whnf
  refine CallC.sca _ (readDataKey_fn key) ?_ ?_
  · exact rfl
  refine And.intro ⟨by omega, by show (0 : Int) < ((3 : Nat) : Int); omega⟩ ?_
  repeat' (conv => whnf
           first
      | refine Grd.intro (fun h => ?_) (fun h => ?_)
      | (refine CallC.sca _ (hasKey_fn s hL hT key) ?_ ?_; exact rfl)
      | refine And.intro (inI64 (by omega) (by omega)) ?_
      | refine And.intro trivial (AVle.of_eq (congrArg AV.bool ?_)))
  all_goals (simp_all)
theorem takes2 (s : Sta) (tok tier f t : Int) (key : List UInt8) : VFn Tryz.prog 134 [s.av, (Rc.mk 2 tok tier f t key).av] (.bool (s.takes ⟨2, tok, tier, f, t, key⟩)) := by
  refine VFn.introC Tryz.call134 Tryz.func134 rfl rfl ?_
  exact And.intro trivial (AVle.of_eq (congrArg AV.bool (show decide (s.fence < tok) = _ from rfl)))
theorem takes5 (s : Sta) (hT : s.ts.length ≤ 1000000000) (tok tier f t : Int) (key : List UInt8) : VFn Tryz.prog 134 [s.av, (Rc.mk 5 tok tier f t key).av] (.bool (s.takes ⟨5, tok, tier, f, t, key⟩)) := by
  refine VFn.introC Tryz.call134 Tryz.func134 rfl rfl ?_
  conv => whnf
  refine CallC.sca _ (tomb_fn s hT key) ?_ ?_
  · exact rfl
  exact And.intro trivial (AVle.of_eq (congrArg AV.bool (show decide (0 ≤ s.tombAt key) = _ from rfl)))
set_option maxHeartbeats 4000000 in
theorem takes3_1 (s : Sta) (hL : s.es.length ≤ 1000000000) (hT : s.ts.length ≤ 1000000000) (tok f t : Int) (hf : 0 ≤ f ∧ f ≤ 1000000) (key : List UInt8) : VFn Tryz.prog 134 [s.av, (Rc.mk 3 tok 1 f t key).av] (.bool (s.takes ⟨3, tok, 1, f, t, key⟩)) := by
  have w1 : VFn Tryz.prog 159 [.int .i64 1] (.int .i64 5) := width_fn 1 (.inr (.inl rfl))
  have e : s.takes ⟨3, tok, 1, f, t, key⟩ = (decide (tok = s.fence) && (decide (f = s.h1) && (decide (kN key = f) && (decide (kW key = tok) && (decide (t = f + 5) && (decide (t ≤ s.h0) && (decide (s.l0 ≤ f) && !s.has key))))))) := rfl
  rw [e]
  refine VFn.introC Tryz.call134 Tryz.func134 rfl rfl ?_
  conv => whnf
  refine CallC.sca _ (readDataKey_fn key) ?_ ?_
  · exact rfl
  refine DrawC.mk 68 rfl (by kernel_rfl) ?_
  repeat' (first
    | refine Grd.intro (fun h => ?_) (fun h => ?_)
    | ((conv => whnf); refine Grd.intro (fun h => ?_) (fun h => ?_))
    | refine PCallC.sca _ (w1) rfl ?_
    | refine PCallC.sca _ (hasKey_fn s hL hT key) rfl ?_
    | refine And.intro (inI64 (by (try simp only); omega) (by (try simp only); omega)) ?_
    | refine And.intro ⟨show (0 : Int) ≤ 0 by omega, show (0 : Int) < ((3 : Nat) : Int) by omega⟩ ?_
    | refine And.intro ⟨show (0 : Int) ≤ 1 by omega, show (1 : Int) < ((3 : Nat) : Int) by omega⟩ ?_
    | refine And.intro ⟨show (0 : Int) ≤ 2 by omega, show (2 : Int) < ((3 : Nat) : Int) by omega⟩ ?_
    | refine And.intro trivial (AVle.of_eq (congrArg AV.bool ?_)))
  all_goals (first | (simp_all; done) | (simp_all; intros; omega))
set_option maxHeartbeats 4000000 in
theorem takes3_2 (s : Sta) (hL : s.es.length ≤ 1000000000) (hT : s.ts.length ≤ 1000000000) (tok f t : Int) (hf : 0 ≤ f ∧ f ≤ 1000000) (key : List UInt8) : VFn Tryz.prog 134 [s.av, (Rc.mk 3 tok 2 f t key).av] (.bool (s.takes ⟨3, tok, 2, f, t, key⟩)) := by
  have w1 : VFn Tryz.prog 159 [.int .i64 2] (.int .i64 20) := width_fn 2 (.inr (.inr rfl))
  have e : s.takes ⟨3, tok, 2, f, t, key⟩ = (decide (tok = s.fence) && (decide (f = s.h2) && (decide (kN key = f) && (decide (kW key = tok) && (decide (t = f + 20) && (decide (t ≤ s.h1) && (decide (s.l1 ≤ f) && !s.has key))))))) := rfl
  rw [e]
  refine VFn.introC Tryz.call134 Tryz.func134 rfl rfl ?_
  conv => whnf
  refine CallC.sca _ (readDataKey_fn key) ?_ ?_
  · exact rfl
  refine DrawC.mk 68 rfl (by kernel_rfl) ?_
  repeat' (first
    | refine Grd.intro (fun h => ?_) (fun h => ?_)
    | ((conv => whnf); refine Grd.intro (fun h => ?_) (fun h => ?_))
    | refine PCallC.sca _ (w1) rfl ?_
    | refine PCallC.sca _ (hasKey_fn s hL hT key) rfl ?_
    | refine And.intro (inI64 (by (try simp only); omega) (by (try simp only); omega)) ?_
    | refine And.intro ⟨show (0 : Int) ≤ 0 by omega, show (0 : Int) < ((3 : Nat) : Int) by omega⟩ ?_
    | refine And.intro ⟨show (0 : Int) ≤ 1 by omega, show (1 : Int) < ((3 : Nat) : Int) by omega⟩ ?_
    | refine And.intro ⟨show (0 : Int) ≤ 2 by omega, show (2 : Int) < ((3 : Nat) : Int) by omega⟩ ?_
    | refine And.intro trivial (AVle.of_eq (congrArg AV.bool ?_)))
  all_goals (first | (simp_all; done) | (simp_all; intros; omega))
end Go.Proofs.YtopfpmcakoeloaaGreatDoor
set_option linter.unusedVariables false
set_option linter.constructorNameAsVariable false
set_option linter.unusedSimpArgs false
set_option maxRecDepth 20000
namespace Go.Proofs.YtopfpmcakoeloaaGreatDoor
open Go Go.Vw

def readP : List (List UInt8) → Option Rc
  | [a, b] => (match numsK 44 5 a with
    | some [k, tok, tier, f, e] => if Rc.ok ⟨k, tok, tier, f, e, b⟩ = true then some ⟨k, tok, tier, f, e, b⟩ else none
    | _ => none)
  | _ => none
def readR (t : List UInt8) : Option Rc := readP (cutP 32 [] t)
theorem readR_ok {t : List UInt8} {r : Rc} (h : readR t = some r) : r.ok = true := by
  unfold readR readP at h
  split at h
  · split at h
    · split at h
      · cases h; assumption
      · cases h
    · cases h
  · cases h
def Sta.tick (s : Sta) : Sta := { s with seq := s.seq + 1 }
def Sta.lift (s : Sta) (k v : Int) : Sta := if k = 0 then { s with h0 := v } else if k = 1 then { s with h1 := v } else { s with h2 := v }
def Sta.lower (s : Sta) (k v : Int) : Sta := if k = 0 then { s with l0 := v } else if k = 1 then { s with l1 := v } else { s with l2 := v }
def noE (k : List UInt8) (L : List En) : List En := L.filter fun e => !decide (e.key = k)
def noT (k : List UInt8) (L : List Tb) : List Tb := L.filter fun e => !decide (e.key = k)
def Sta.app (s : Sta) (r : Rc) : Sta :=
  if s.takes r = true then
    if r.k = 1 ∨ r.k = 3 then ({ s.tick with es := s.es ++ [r.en] } : Sta).lift r.tier r.t
    else if r.k = 2 then { s.tick with fence := r.tok }
    else if r.k = 4 then ({ s.tick with es := noE r.key s.es, ts := s.ts ++ [⟨s.seq + 1, r.key⟩] } : Sta).lower r.tier r.t
    else { s.tick with ts := noT r.key s.ts }
  else s.tick
theorem lift_es (s : Sta) (k v : Int) : (s.lift k v).es = s.es ∧ (s.lift k v).ts = s.ts ∧ (s.lift k v).seq = s.seq ∧ (s.lift k v).fence = s.fence := by
  unfold Sta.lift; split
  · exact ⟨rfl, rfl, rfl, rfl⟩
  · split <;> exact ⟨rfl, rfl, rfl, rfl⟩
theorem lower_es (s : Sta) (k v : Int) : (s.lower k v).es = s.es ∧ (s.lower k v).ts = s.ts ∧ (s.lower k v).seq = s.seq ∧ (s.lower k v).fence = s.fence := by
  unfold Sta.lower; split
  · exact ⟨rfl, rfl, rfl, rfl⟩
  · split <;> exact ⟨rfl, rfl, rfl, rfl⟩
theorem app_seq (s : Sta) (r : Rc) : (s.app r).seq = s.seq + 1 := by
  unfold Sta.app
  split
  · split
    · rw [(lift_es _ _ _).2.2.1]; rfl
    · split
      · rfl
      · split
        · rw [(lower_es _ _ _).2.2.1]; rfl
        · rfl
  · rfl
theorem noE_len (k : List UInt8) (L : List En) : (noE k L).length ≤ L.length := List.length_filter_le _ _
theorem noT_len (k : List UInt8) (L : List Tb) : (noT k L).length ≤ L.length := List.length_filter_le _ _
theorem has_iff (s : Sta) (k : List UInt8) : s.has k = true ↔ k ∈ s.keys := by
  unfold Sta.has Sta.tombAt Sta.keys
  rw [fi_any]
  simp only [Bool.or_eq_true, List.any_eq_true, decide_eq_true_eq, List.mem_append, List.mem_map]
/-- the first of a tier is an entry -/
theorem headIs_mem {L : List En} {k : Int} {e : En} (h : headIs (ofT L k) e = true) : e ∈ L := by
  unfold headIs at h
  cases hl : ofT L k with
  | nil => rw [hl] at h; cases h
  | cons x r =>
    rw [hl] at h
    have hx : x = e := of_decide_eq_true h
    have : x ∈ ofT L k := by rw [hl]; simp
    rw [← hx]
    exact (List.mem_filter.1 this).1
theorem takes_k {s : Sta} {r : Rc} (h : s.takes r = true) (hk : r.k = 1 ∨ r.k = 3) : s.has r.key = false := by
  unfold Sta.takes at h
  rcases hk with hk | hk
  · rw [if_pos hk] at h
    simp only [Bool.and_eq_true, Bool.not_eq_true'] at h
    exact h.2.2
  · rw [if_neg (by omega), if_neg (by omega), if_pos hk] at h
    simp only [Bool.and_eq_true, Bool.not_eq_true'] at h
    exact h.2.2.2.2.2.2.2
theorem takes_4 {s : Sta} {r : Rc} (h : s.takes r = true) (hk : r.k = 4) : headIs (ofT s.es r.tier) r.en = true := by
  unfold Sta.takes at h
  rw [if_neg (by omega), if_neg (by omega), if_neg (by omega), if_pos hk] at h
  simp only [Bool.and_eq_true] at h
  exact h.2.1
theorem appL_len (s : Sta) (r : Rc) : (s.app r).es.length + (s.app r).ts.length ≤ s.es.length + s.ts.length + 1 := by
  unfold Sta.app
  split
  · rename_i ht
    split
    · rw [(lift_es _ _ _).1, (lift_es _ _ _).2.1]
      show (s.es ++ [r.en]).length + s.ts.length ≤ _
      rw [List.length_append]; simp only [List.length_cons, List.length_nil]; omega
    · split
      · show s.es.length + s.ts.length ≤ _; omega
      · split
        · rw [(lower_es _ _ _).1, (lower_es _ _ _).2.1]
          show (noE r.key s.es).length + (s.ts ++ [(⟨s.seq + 1, r.key⟩ : Tb)]).length ≤ _
          have := noE_len r.key s.es
          rw [List.length_append]; simp only [List.length_cons, List.length_nil]; omega
        · show s.es.length + (noT r.key s.ts).length ≤ _
          have := noT_len r.key s.ts; omega
  · show s.es.length + s.ts.length ≤ _; omega
/-- what a log makes has each key once, and each is one of data -/
structure LogS (s : Sta) : Prop where
  nd : s.keys.Nodup
  kk : ∀ k ∈ s.keys, kOk k = true
theorem LogS.of {q : Sta} {K : List (List UInt8)} (e : q.keys = K) (h : K.Nodup ∧ ∀ k ∈ K, kOk k = true) : LogS q := ⟨e ▸ h.1, fun k hk => h.2 k (e ▸ hk)⟩
theorem nodup_snoc {α : Type} {L : List α} {a : α} (h : L.Nodup) (ha : a ∉ L) : (L ++ [a]).Nodup :=
  List.nodup_append.2 ⟨h, by simp, fun x hx y hy e => by
    have : y = a := by simpa using hy
    subst this; subst e; exact ha hx⟩
theorem noE_keys (k : List UInt8) (L : List En) : (noE k L).map (·.key) = (L.map (·.key)).filter fun x => !decide (x = k) := by
  unfold noE; rw [List.filter_map]; rfl
theorem noT_keys (k : List UInt8) (L : List Tb) : (noT k L).map (·.key) = (L.map (·.key)).filter fun x => !decide (x = k) := by
  unfold noT; rw [List.filter_map]; rfl
theorem app_log {s : Sta} {r : Rc} (h : LogS s) (hr : r.ok = true) : LogS (s.app r) := by
  obtain ⟨nd, kk⟩ := h
  have nd' := nd
  unfold Sta.keys at nd'
  have nda := List.nodup_append.1 nd'
  unfold Sta.app
  split
  · rename_i ht
    split
    · rename_i hk
      have hno := takes_k ht hk
      have hnk : r.key ∉ s.keys := fun h => by rw [(has_iff s r.key).2 h] at hno; cases hno
      have hok : kOk r.key = true := by
        unfold Rc.ok at hr
        rcases hk with hk | hk
        · rw [if_pos hk] at hr; simp [Rc.en, En.ok] at hr; exact hr.2.2.1
        · rw [if_neg (by omega), if_neg (by omega), if_pos hk] at hr; simp [Rc.en, En.ok] at hr; exact hr.2.2.1
      have e : ∀ q : Sta, q.es = s.es ++ [r.en] → q.ts = s.ts → q.keys = (s.es.map (·.key) ++ [r.key]) ++ s.ts.map (·.key) := fun q h1 h2 => by unfold Sta.keys; rw [h1, h2, List.map_append]; rfl
      refine LogS.of (e _ (lift_es _ _ _).1 (lift_es _ _ _).2.1) ?_
      have hm : r.key ∉ s.es.map (·.key) ∧ r.key ∉ s.ts.map (·.key) := ⟨fun h => hnk (List.mem_append.2 (.inl h)), fun h => hnk (List.mem_append.2 (.inr h))⟩
      refine ⟨List.nodup_append.2 ⟨nodup_snoc nda.1 hm.1, nda.2.1, fun x hx y hy => ?_⟩, fun k hk' => ?_⟩
      · rcases List.mem_append.1 hx with hx | hx
        · exact nda.2.2 x hx y hy
        · have : x = r.key := by simpa using hx
          subst this
          exact fun e => hm.2 (e ▸ hy)
      · rcases List.mem_append.1 hk' with hk' | hk'
        · rcases List.mem_append.1 hk' with hk' | hk'
          · exact kk k (List.mem_append.2 (.inl hk'))
          · have : k = r.key := by simpa using hk'
            rw [this]; exact hok
        · exact kk k (List.mem_append.2 (.inr hk'))
    · split
      · exact ⟨nd, kk⟩
      · split
        · rename_i hk1 hk2 hk4
          have hm := headIs_mem (takes_4 ht hk4)
          have hke : r.key ∈ s.es.map (·.key) := List.mem_map.2 ⟨_, hm, rfl⟩
          have hkt : r.key ∉ s.ts.map (·.key) := fun h => nda.2.2 _ hke _ h rfl
          have e : ∀ q : Sta, q.es = noE r.key s.es → q.ts = s.ts ++ [⟨s.seq + 1, r.key⟩] → q.keys = (s.es.map (·.key)).filter (fun x => !decide (x = r.key)) ++ (s.ts.map (·.key) ++ [r.key]) := fun q h1 h2 => by unfold Sta.keys; rw [h1, h2, List.map_append, noE_keys]; rfl
          refine LogS.of (e _ (lower_es _ _ _).1 (lower_es _ _ _).2.1) ?_
          refine ⟨List.nodup_append.2 ⟨nda.1.filter _, nodup_snoc nda.2.1 hkt, fun x hx y hy => ?_⟩, fun k hk' => ?_⟩
          · have hx' := List.mem_filter.1 hx
            rcases List.mem_append.1 hy with hy | hy
            · exact nda.2.2 x hx'.1 y hy
            · have : y = r.key := by simpa using hy
              subst this
              intro e; rw [e] at hx'; simp at hx'
          · rcases List.mem_append.1 hk' with hk' | hk'
            · exact kk k (List.mem_append.2 (.inl (List.mem_filter.1 hk').1))
            · rcases List.mem_append.1 hk' with hk' | hk'
              · exact kk k (List.mem_append.2 (.inr hk'))
              · have : k = r.key := by simpa using hk'
                rw [this]; exact kk _ (List.mem_append.2 (.inl hke))
        · have e : ∀ q : Sta, q.es = s.es → q.ts = noT r.key s.ts → q.keys = s.es.map (·.key) ++ (s.ts.map (·.key)).filter (fun x => !decide (x = r.key)) := fun q h1 h2 => by unfold Sta.keys; rw [h1, h2, noT_keys]
          refine LogS.of (e _ rfl rfl) ?_
          refine ⟨List.nodup_append.2 ⟨nda.1, nda.2.1.filter _, fun x hx y hy => nda.2.2 x hx y (List.mem_filter.1 hy).1⟩, fun k hk' => ?_⟩
          rcases List.mem_append.1 hk' with hk' | hk'
          · exact kk k (List.mem_append.2 (.inl hk'))
          · exact kk k (List.mem_append.2 (.inr (List.mem_filter.1 hk').1))
  · exact ⟨nd, kk⟩
/-- so many different ones in a list, so long it is -/
theorem nodup_le {α : Type} [DecidableEq α] : ∀ (L M : List α), L.Nodup → (∀ x ∈ L, x ∈ M) → L.length ≤ M.length
  | [], _, _, _ => Nat.zero_le _
  | a :: l, M, h, hm => by
    have h' := List.nodup_cons.1 h
    have ha := hm a (by simp)
    have := nodup_le l (M.erase a) h'.2 fun x hx => (List.mem_erase_of_ne (fun e => h'.1 (by rw [← e]; exact hx))).2 (hm x (by simp [hx]))
    rw [List.length_erase_of_mem ha] at this
    have hp : 0 < M.length := List.length_pos_of_mem ha
    simp only [List.length_cons]; omega
theorem has_mem {x : Sto} {k : List UInt8} (h : x.has k = true) : k ∈ x.os.map (·.key) := by
  obtain ⟨h1, h2⟩ := hasK_at h
  exact List.mem_map.2 ⟨_, getD_mem h1, h2⟩
theorem manK_inj {a b : Nat} (ha : a ≤ 999999) (hb : b ≤ 999999) (h : manK (a : Int) = manK (b : Int)) : a = b := by
  unfold manK at h
  have := List.append_cancel_left h
  exact six6_inj (by omega) (by omega) (by simpa using this)
theorem log_len {x : Sto} {n : Nat} (hn : n ≤ 999998) (h : ∀ j, j < n → x.has (manK ((j + 1 : Nat) : Int)) = true) : n ≤ x.os.length := by
  have := nodup_le ((List.range n).map fun j => manK ((j + 1 : Nat) : Int)) (x.os.map (·.key)) ?_ ?_
  · simpa using this
  · refine List.pairwise_map.2 (List.Pairwise.imp_of_mem (fun {a b} ha hb hne e => ?_) (List.nodup_range (n := n)))
    have := List.mem_range.1 ha
    have := List.mem_range.1 hb
    have := manK_inj (by omega) (by omega) e
    exact hne (by omega)
  · intro k hk
    obtain ⟨j, hj, rfl⟩ := List.mem_map.1 hk
    exact has_mem (h j (List.mem_range.1 hj))
def sta0 : Sta := ⟨0, 0, [], [], 0, 0, 0, 0, 0, 0⟩
def recAt (x : Sto) (n : Int) : Option Rc := readR (x.get (manK n)).data
def stepL (x : Sto) (s : Sta) : Sta := match recAt x (s.seq + 1) with | none => s.tick | some r => s.app r
def logN (x : Sto) : Nat → Sta
  | 0 => sta0
  | n + 1 => stepL x (logN x n)
theorem logN_seq (x : Sto) : ∀ n, (logN x n).seq = (n : Int)
  | 0 => rfl
  | n + 1 => by
    have ih := logN_seq x n
    show (stepL x (logN x n)).seq = _
    unfold stepL
    split
    · show (logN x n).seq + 1 = _; rw [ih]; simp
    · rw [app_seq, ih]; simp
theorem logN_len (x : Sto) : ∀ n, (logN x n).es.length + (logN x n).ts.length ≤ n
  | 0 => Nat.le_refl _
  | n + 1 => by
    have ih := logN_len x n
    show (stepL x (logN x n)).es.length + (stepL x (logN x n)).ts.length ≤ _
    unfold stepL
    split
    · show (logN x n).es.length + (logN x n).ts.length ≤ _; omega
    · rename_i r _
      have := appL_len (logN x n) r; omega
theorem logN_log (x : Sto) : ∀ n, LogS (logN x n)
  | 0 => ⟨by simp [logN, sta0, Sta.keys], fun k hk => by simp [logN, sta0, Sta.keys] at hk⟩
  | n + 1 => by
    have ih := logN_log x n
    show LogS (stepL x (logN x n))
    unfold stepL
    split
    · exact ⟨ih.1, ih.2⟩
    · rename_i r hr
      exact app_log ih (readR_ok hr)
def firstNo (p : Nat → Bool) : Nat → Nat → Nat
  | 0, n => n
  | f + 1, n => if p n = true then firstNo p f (n + 1) else n
theorem firstNo_at {p : Nat → Bool} {i : Nat} (h0 : p i = false) : ∀ f n, n ≤ i → i ≤ n + f → (∀ j, n ≤ j → j < i → p j = true) → firstNo p f n = i
  | 0, n, h1, h2, _ => by show n = i; omega
  | f + 1, n, h1, h2, h => by
    unfold firstNo
    rcases Nat.lt_or_ge n i with h3 | h3
    · rw [if_pos (h n (Nat.le_refl _) h3)]
      exact firstNo_at h0 f (n + 1) h3 (by omega) fun j hj => h j (by omega)
    · have : n = i := by omega
      subst this
      rw [if_neg (by rw [h0]; simp)]
def logEnd (x : Sto) : Nat := firstNo (fun j => x.has (manK ((j + 1 : Nat) : Int))) 400 0
def logS (x : Sto) : Sta := logN x (logEnd x)
theorem log_end {x : Sto} (hs : x.ok = true) {i : Nat} (hi : i ≤ 300) (h : ∀ j, j < i → x.has (manK ((j + 1 : Nat) : Int)) = true) (h0 : x.has (manK ((i + 1 : Nat) : Int)) = false) : i = logEnd x :=
  (firstNo_at h0 400 0 (Nat.zero_le _) (by omega) fun j _ hj => h j hj).symm
theorem firstNo_le (p : Nat → Bool) : ∀ f n, firstNo p f n ≤ n + f
  | 0, n => Nat.le_refl _
  | f + 1, n => by
    unfold firstNo
    split
    · have := firstNo_le p f (n + 1); omega
    · omega
theorem log_b (x : Sto) : (logS x).seq = (logEnd x : Int) ∧ logEnd x ≤ 400 ∧ (logS x).es.length + (logS x).ts.length ≤ 400 ∧ LogS (logS x) := by
  have h1 := firstNo_le (fun j => x.has (manK ((j + 1 : Nat) : Int))) 400 0
  have h2 := logN_len x (logEnd x)
  have h3 : logEnd x ≤ 400 := by unfold logEnd; omega
  exact ⟨logN_seq x _, h3, by unfold logS; omega, logN_log x _⟩
end Go.Proofs.YtopfpmcakoeloaaGreatDoor
set_option linter.unusedVariables false
set_option linter.constructorNameAsVariable false
set_option linter.unusedSimpArgs false
set_option maxRecDepth 20000
namespace Go.Proofs.YtopfpmcakoeloaaGreatDoor
open Go Go.Vw

theorem noE_none {k : List UInt8} : ∀ {L : List En}, (∀ x ∈ L, x.key ≠ k) → noE k L = L := fun {L} h => by
  unfold noE
  exact List.filter_eq_self.2 fun x hx => by rw [decide_eq_false (h x hx)]; rfl
theorem noE_cut {L : List En} {i : Nat} (hi : i < L.length) (nd : (L.map (·.key)).Nodup) : L.take i ++ L.drop (i + 1) = noE (ix L i).key L := by
  have e : L = L.take i ++ (ix L i :: L.drop (i + 1)) := by
    rw [ix_lt hi]
    simp
  have nd2 := nd
  rw [e, List.map_append, List.map_cons] at nd2
  have h1 := List.nodup_append.1 nd2
  have h2 := List.nodup_cons.1 h1.2.1
  have hn : noE (ix L i).key L = noE (ix L i).key (L.take i ++ (ix L i :: L.drop (i + 1))) := congrArg _ e
  rw [hn]
  have e1 : noE (ix L i).key (L.take i) = L.take i := noE_none fun x hx hk => h1.2.2 x.key (List.mem_map.2 ⟨x, hx, rfl⟩) (ix L i).key (by simp) hk
  have e2 : noE (ix L i).key (L.drop (i + 1)) = L.drop (i + 1) := noE_none fun x hx hk => h2.1 (hk ▸ List.mem_map.2 ⟨x, hx, rfl⟩)
  unfold noE at e1 e2 ⊢
  rw [List.filter_append, e1, List.filter_cons_of_neg (by simp), e2]
theorem fi_filter {α : Type} [Inhabited α] (p : α → Bool) : ∀ L : List α, (fi p L = -1 ∧ L.filter p = []) ∨ ∃ i : Nat, i < L.length ∧ fi p L = (i : Int) ∧ ∃ r, L.filter p = ix L i :: r := by
  intro L
  by_cases h : ∃ i, i < L.length ∧ p (ix L i) = true
  · obtain ⟨i, hi, hp⟩ := h
    -- the least one
    have : ∃ i, (i < L.length ∧ p (ix L i) = true) ∧ ∀ j, j < i → p (ix L j) = false := by
      induction i using Nat.strongRecOn with
      | _ i ih =>
        by_cases h' : ∃ j, j < i ∧ p (ix L j) = true
        · obtain ⟨j, hj, hq⟩ := h'
          exact ih j hj (by omega) hq
        · exact ⟨i, ⟨hi, hp⟩, fun j hj => by
            cases hq : p (ix L j)
            · rfl
            · exact absurd ⟨j, hj, hq⟩ h'⟩
    obtain ⟨i, ⟨hi, hp⟩, hl⟩ := this
    refine .inr ⟨i, hi, fi_at hi hl hp, ?_⟩
    have e : L = L.take i ++ (ix L i :: L.drop (i + 1)) := by rw [ix_lt hi]; simp
    have e1 : (L.take i).filter p = [] := List.filter_eq_nil_iff.2 fun x hx => by
      obtain ⟨j, hj, rfl⟩ := List.getElem_of_mem hx
      have hj' : j < i := by simp at hj; omega
      have := hl j hj'
      rw [ix_lt (by omega)] at this
      simp [this]
    refine ⟨(L.drop (i + 1)).filter p, ?_⟩
    have := congrArg (List.filter p) e
    rw [this, List.filter_append, e1, List.filter_cons_of_pos hp]; rfl
  · have hn : ∀ i, i < L.length → p (ix L i) = false := fun i hi => by
      cases hq : p (ix L i)
      · rfl
      · exact absurd ⟨i, hi, hq⟩ h
    refine .inl ⟨fi_none hn, List.filter_eq_nil_iff.2 fun x hx => ?_⟩
    obtain ⟨j, hj, rfl⟩ := List.getElem_of_mem hx
    have := hn j hj
    rw [ix_lt hj] at this
    simp [this]
theorem fi_first {α : Type} [Inhabited α] (p : α → Bool) (L : List α) : (fi p L = -1 ∧ ∀ j, j < L.length → p (ix L j) = false) ∨ ∃ i : Nat, i < L.length ∧ fi p L = (i : Int) ∧ p (ix L i) = true ∧ ∀ j, j < i → p (ix L j) = false := by
  by_cases h : ∃ i, i < L.length ∧ p (ix L i) = true
  · obtain ⟨i, hi, hp⟩ := h
    have : ∃ i, (i < L.length ∧ p (ix L i) = true) ∧ ∀ j, j < i → p (ix L j) = false := by
      induction i using Nat.strongRecOn with
      | _ i ih =>
        by_cases h' : ∃ j, j < i ∧ p (ix L j) = true
        · obtain ⟨j, hj, hq⟩ := h'
          exact ih j hj (by omega) hq
        · exact ⟨i, ⟨hi, hp⟩, fun j hj => by
            cases hq : p (ix L j)
            · rfl
            · exact absurd ⟨j, hj, hq⟩ h'⟩
    obtain ⟨i, ⟨hi, hp⟩, hl⟩ := this
    exact .inr ⟨i, hi, fi_at hi hl hp, hp, hl⟩
  · have hn : ∀ i, i < L.length → p (ix L i) = false := fun i hi => by
      cases hq : p (ix L i)
      · rfl
      · exact absurd ⟨i, hi, hq⟩ h
    exact .inl ⟨fi_none hn, hn⟩
/-- a text without the sign, or cut at the first one -/
theorem readR_none {t : List UInt8} (h : ∀ x ∈ t, x ≠ 32) : readR t = none := by
  unfold readR
  rw [cutP_none 32 t [] h]; rfl
theorem readR_at {a b : List UInt8} (ha : ∀ x ∈ a, x ≠ 32) : (∀ k tok tier f e, numsK 44 5 a = some [k, tok, tier, f, e] → readR (a ++ 32 :: b) = if Rc.ok ⟨k, tok, tier, f, e, b⟩ = true then some ⟨k, tok, tier, f, e, b⟩ else none) ∧ (numsK 44 5 a = none → readR (a ++ 32 :: b) = none) := by
  have hc := cutP_app 32 a [] b ha
  have hb := first_c 32 b
  unfold readR readP
  rw [hc]
  constructor
  · intro k tok tier f e hN
    rcases hb with hb | ⟨c, d, rfl, hcn⟩
    · rw [cutP_none 32 b [] hb]
      simp only [List.nil_append]
      rw [hN]
    · rw [cutP_app 32 c [] d hcn]
      obtain ⟨q, qs, hq⟩ : ∃ q qs, cutP 32 [] d = q :: qs := by
        have := (cutP_len 32 d []).1
        cases h : cutP 32 [] d with
        | nil => rw [h] at this; simp at this
        | cons q qs => exact ⟨q, qs, rfl⟩
      rw [hq]
      have hno : ¬ Rc.ok ⟨k, tok, tier, f, e, c ++ 32 :: d⟩ = true := fun h => by
        have hk : kOk (c ++ 32 :: d) = true := by
          unfold Rc.ok at h
          split at h
          · simp [Rc.en, En.ok] at h; exact h.2.2.1
          split at h
          · simp at h
          split at h
          · simp [Rc.en, En.ok] at h; exact h.2.2.1
          split at h
          · simp [Rc.en, En.ok] at h; exact h.2.1
          split at h
          · simp at h; exact h.2.2
          · cases h
        unfold kOk at hk
        cases hp : parseKey (c ++ 32 :: d) with
        | none => rw [hp] at hk; cases hk
        | some z =>
          obtain ⟨u, n, w⟩ := z
          obtain ⟨e1, ht, hn, hw⟩ := key_parse hp
          have : (32 : UInt8) ∈ keyB u n w := by rw [← e1]; simp
          have h3 : u = 0 ∨ u = 1 ∨ u = 2 := by omega
          have hd : ∀ m, (32 : UInt8) ∉ six6 m := fun m hm => six6_ne (n := m) (c := 32) (by decide) 32 hm rfl
          have hs : ∀ p : List UInt8, (32 : UInt8) ∉ p → (32 : UInt8) ∈ p ++ (six6 n ++ 45 :: six6 w) → False := fun p h1 h2 => by
            rcases List.mem_append.1 h2 with h | h
            · exact h1 h
            rcases List.mem_append.1 h with h | h
            · exact hd n h
            rcases List.mem_cons.1 h with h | h
            · exact absurd h (by decide)
            · exact hd w h
          unfold keyB at this
          rcases h3 with rfl | rfl | rfl <;> exact hs _ (by decide) this
      rw [if_neg hno]
  · intro hN
    rcases hb with hb | ⟨c, d, rfl, hcn⟩
    · rw [cutP_none 32 b [] hb]
      simp only [List.nil_append]
      rw [hN]
    · rw [cutP_app 32 c [] d hcn]
      obtain ⟨q, qs, hq⟩ : ∃ q qs, cutP 32 [] d = q :: qs := by
        have := (cutP_len 32 d []).1
        cases h : cutP 32 [] d with
        | nil => rw [h] at this; simp at this
        | cons q qs => exact ⟨q, qs, rfl⟩
      rw [hq]
theorem nums5 {t : List UInt8} {N : List Int} (h : numsK 44 5 t = some N) : ∃ a b c d e, N = [a, b, c, d, e] := by
  unfold numsK at h
  split at h
  · rename_i h1
    cases h
    have hl : ((cutP 44 [] t).map atoiV).length = 5 := by rw [List.length_map]; exact h1.1
    generalize (cutP 44 [] t).map atoiV = L at hl
    match L, hl with
    | [a, b, c, d, e], _ => exact ⟨a, b, c, d, e, rfl⟩
  · cases h
end Go.Proofs.YtopfpmcakoeloaaGreatDoor
set_option linter.unusedVariables false
set_option linter.constructorNameAsVariable false
set_option linter.unusedSimpArgs false
set_option maxRecDepth 20000
namespace Go.Proofs.YtopfpmcakoeloaaGreatDoor
open Go Go.Vw

theorem filter_snoc {α : Type} [Inhabited α] {L : List α} {p : α → Bool} {i : Nat} (h : i < L.length) : (L.take (i + 1)).filter p = if p (ix L i) = true then (L.take i).filter p ++ [ix L i] else (L.take i).filter p := by
  rw [take_snoc h, List.filter_append]
  by_cases hp : p (ix L i) = true
  · rw [if_pos hp]; simp [hp]
  · rw [if_neg hp]; simp [hp]
def kept {α : Type} (p : α → Bool) (L : List α) (j : Nat) : List α := ((L.take j).filter fun e => !p e) ++ L.drop ((L.take j).filter fun e => !p e).length
theorem kept_at {α : Type} [Inhabited α] {L : List α} {p : α → Bool} {j : Nat} (h : j < L.length) (hk : ((L.take j).filter fun e => !p e).length ≤ j) : ix (kept p L j) j = ix L j := by
  unfold kept
  rw [ix_app_r hk, ix_drop]
  congr 1; omega
theorem kept_next {α : Type} [Inhabited α] {L : List α} {p : α → Bool} {j : Nat} (h : j < L.length) (hp : p (ix L j) = false) (hk : ((L.take j).filter fun e => !p e).length < j) : ∀ k, k < L.length → ix (kept p L (j + 1)) k = if k = ((L.take j).filter fun e => !p e).length then ix L j else ix (kept p L j) k := by
  intro k hkL
  have hsn := filter_snoc (p := fun e => !p e) h
  rw [if_pos (by rw [hp]; rfl)] at hsn
  unfold kept
  rw [hsn]
  generalize (L.take j).filter (fun e => !p e) = K at hk
  have e1 : (K ++ [ix L j]).length = K.length + 1 := by simp
  split
  · rename_i hc
    subst hc
    rw [ix_app_l (by omega), ix_app_r (Nat.le_refl _), Nat.sub_self]; rfl
  · rename_i hc
    rcases Nat.lt_or_ge k K.length with h1 | h1
    · rw [ix_app_l (by omega), ix_app_l h1, ix_app_l h1]
    · rw [ix_app_r (by omega), ix_app_r h1, ix_drop, ix_drop, e1]
      congr 1; omega
theorem filter_lt {α : Type} [Inhabited α] {L : List α} {p : α → Bool} {i j : Nat} (hij : i < j) (hj : j ≤ L.length) (h : p (ix L i) = false) : ((L.take j).filter p).length < j := by
  have hi : i < L.length := by omega
  have e : L.take j = L.take i ++ (ix L i :: (L.drop (i + 1)).take (j - (i + 1))) := by
    have h1 : L = L.take i ++ (ix L i :: L.drop (i + 1)) := by rw [ix_lt hi]; simp
    have h2 := congrArg (List.take j) h1
    rw [h2, List.take_append, List.take_of_length_le (by simp; omega)]
    congr 1
    have : j - (L.take i).length = (j - (i + 1)) + 1 := by simp; omega
    rw [this, List.take_succ_cons]
  rw [e, List.filter_append, List.filter_cons_of_neg (by rw [h]; simp), List.length_append]
  have a := List.length_filter_le p (L.take i)
  have b := List.length_filter_le p ((L.drop (i + 1)).take (j - (i + 1)))
  simp only [List.length_take, List.length_drop] at a b
  omega
theorem DelEn_some (L : List En) (hL : L.length ≤ 1000000) (F : Nat) (row : List AV) (p : En → Bool) (hp : ∀ e ∈ L, VFn Tryz.prog F [e.av, .eptr row 0] (.bool (p e))) (hs : L.any p = true) :
    FnM Tryz.prog 137 1 [.osl 0, .fn (.func F) [] [.eptr row 0]] [(0, .arr 149 4 L.length fun i => (ix L i).row)] (.osl 1) [(1, .arr 149 4 (L.filter fun e => !p e).length fun i => (ix (L.filter fun e => !p e) i).row)] 2 := by
  have c := IndexEn_1 L (by omega) F row p hp
  obtain ⟨i0, hi0, hfi, hp0⟩ : ∃ i0 : Nat, i0 < L.length ∧ fi p L = (i0 : Int) ∧ p (ix L i0) = true ∧ ∀ j, j < i0 → p (ix L j) = false := by
    rcases fi_first p L with ⟨h, _⟩ | h
    · have := fi_any (p := p) (L := L)
      rw [h, hs] at this; simp at this
    · exact h
  rw [hfi] at c
  have hk0 : (L.take (i0 + 1)).filter (fun e => !p e) = L.take i0 := by
    rw [filter_snoc hi0, if_neg (by rw [hp0.1]; simp)]
    exact List.filter_eq_self.2 fun x hx => by
      obtain ⟨j, hj, rfl⟩ := List.getElem_of_mem hx
      have hj' : j < i0 := by simp at hj; omega
      have := hp0.2 j hj'
      rw [ix_lt (by omega)] at this
      simp [this]
  have hlt : ∀ j, i0 < j → j ≤ L.length → ((L.take j).filter fun e => !p e).length < j := fun j h1 h2 => filter_lt h1 h2 (by rw [hp0.1]; rfl)
  refine FnM.introC Tryz.call137 Tryz.func137 rfl rfl ?_
  conv => whnf
  refine CallC.sca _ (c) ?_ ?_
  · exact rfl
  refine And.intro (inI64 (by omega) (by omega)) ?_
  refine LoopC.mk (fun j : Nat => i0 < j ∧ j ≤ L.length) (fun j => [(0, .osl 0), (1, .fn (.func F) [] [.eptr row 0]), (5, .int .i64 ((L.take j).filter fun e => !p e).length), (6, .int .i64 j)])
    (fun j => [(0, .arr 149 4 L.length fun i => (ix (kept p L j) i).row)]) 1 (fun j => L.length - j) (i0 + 1)
    ⟨⟨by omega, hi0⟩, [(0, 0)], rfl, rfl, ⟨AVle.refl _, AVle.refl _, AVle.of_eq (congrArg (AV.int .i64) (by rw [hk0]; simp; omega)), AVle.of_eq (congrArg (AV.int .i64) (by simp)), trivial⟩, ⟨MOle.arr rfl fun i hi => by
      have e : kept p L (i0 + 1) = L := by unfold kept; rw [hk0]; simp only [List.length_take]; rw [Nat.min_eq_left (by omega)]; simp
      rw [e], trivial⟩⟩ ?_
  intro j hj
  obtain ⟨hj1, hj2⟩ := hj
  have hkl := hlt j hj1 hj2
  refine Grd.intro (fun h2 => ?_) (fun h2 => ?_)
  · have hjn : j < L.length := by have := of_decide_eq_true h2; omega
    have hsn := filter_snoc (p := fun e => !p e) hjn
    have e := kept_at (p := p) hjn (Nat.le_of_lt hkl)
    have cp := hp (ix L j) (getD_mem hjn)
    rw [← e] at cp
    refine And.intro (by omega) ?_
    conv => whnf
    refine CallC.sca _ (cp) ?_ ?_
    · exact rfl
    refine Grd.intro (fun h3 => ?_) (fun h3 => ?_)
    · have h3 : p (ix L j) = false := by rw [e] at h3; simpa using h3
      rw [h3] at hsn
      have hl := hlt (j + 1) (by omega) hjn
      rw [hsn] at hl
      simp at hl
      refine And.intro (by omega) ?_
      refine And.intro (inI64 (by omega) (by omega)) ?_
      refine And.intro (inI64 (by omega) (by omega)) ?_
      refine ⟨j + 1, ⟨by omega, hjn⟩, by omega, [(0, 0)], rfl, rfl, ⟨AVle.refl _, AVle.refl _, AVle.of_eq (congrArg (AV.int .i64) (by rw [hsn]; simp)), AVle.of_eq (congrArg (AV.int .i64) (by simp)), trivial⟩, ⟨MOle.arr rfl fun k hk => ?_, trivial⟩⟩
      have en := kept_next hjn h3 hkl k hk
      by_cases hkc : k = ((L.take j).filter fun e => !p e).length
      · rw [en, if_pos hkc, ← e]
        show (bif Nat.beq k ((L.take j).filter fun e => !p e).length then _ else _) = _
        rw [hkc, beq_t]; rfl
      · rw [en, if_neg hkc]
        show (bif Nat.beq k ((L.take j).filter fun e => !p e).length then _ else _) = _
        rw [beq_f hkc]; rfl
    · have h3 : p (ix L j) = true := by rw [e] at h3; simpa using h3
      rw [h3] at hsn
      refine And.intro (inI64 (by omega) (by omega)) ?_
      refine ⟨j + 1, ⟨by omega, hjn⟩, by omega, [(0, 0)], rfl, rfl, ⟨AVle.refl _, AVle.refl _, AVle.of_eq (congrArg (AV.int .i64) (by rw [hsn]; simp)), AVle.of_eq (congrArg (AV.int .i64) (by simp)), trivial⟩, ⟨MOle.arr rfl fun k hk => ?_, trivial⟩⟩
      have e2 : kept p L (j + 1) = kept p L j := by unfold kept; rw [hsn]; simp
      rw [e2]
  · have : j = L.length := by have := of_decide_eq_false h2; omega
    subst this
    have eT : L.take L.length = L := List.take_of_length_le (Nat.le_refl _)
    obtain ⟨c, hc⟩ : ∃ c, c = ((L.take L.length).filter fun e => !p e).length := ⟨_, rfl⟩
    have hk : ∀ k, k < c → ix (kept p L L.length) k = ix (L.filter fun e => !p e) k := fun k hk => by
      unfold kept
      rw [ix_app_l (by omega), eT]
    have hcl : c = (L.filter fun e => !p e).length := by rw [hc, eT]
    rw [← hc] at hkl
    rw [← hc]
    refine And.intro ⟨by omega, by omega⟩ ?_
    conv => whnf
    refine OpC.clear rfl rfl rfl rfl rfl rfl rfl (by show 1 ≤ L.length - ((c : Int)).toNat; omega) ?_
    conv => whnf
    refine OpC.head rfl rfl rfl rfl rfl rfl rfl ⟨by omega, by omega⟩ ?_
    refine And.intro trivial ⟨[(0, 0), (1, 1)], rfl, AVle.refl _, ⟨MOle.arr (by show ((c : Int)).toNat = _; omega) fun k hk' => ?_, trivial⟩⟩
    have hk' : k < c := by have : k < ((c : Int)).toNat := hk'; omega
    rw [← hk k hk']
    show (bif Nat.blt k ((c : Int)).toNat then _ else _) = _
    rw [blt_t (show k < ((c : Int)).toNat by omega)]; rfl
theorem DelTb_some (L : List Tb) (hL : L.length ≤ 1000000) (F : Nat) (row : List AV) (p : Tb → Bool) (hp : ∀ e ∈ L, VFn Tryz.prog F [e.av, .eptr row 0] (.bool (p e))) (hs : L.any p = true) :
    FnM Tryz.prog 139 1 [.osl 0, .fn (.func F) [] [.eptr row 0]] [(0, .arr 152 2 L.length fun i => (ix L i).row)] (.osl 1) [(1, .arr 152 2 (L.filter fun e => !p e).length fun i => (ix (L.filter fun e => !p e) i).row)] 2 := by
  have c := IndexTb_1 L (by omega) F row p hp
  obtain ⟨i0, hi0, hfi, hp0⟩ : ∃ i0 : Nat, i0 < L.length ∧ fi p L = (i0 : Int) ∧ p (ix L i0) = true ∧ ∀ j, j < i0 → p (ix L j) = false := by
    rcases fi_first p L with ⟨h, _⟩ | h
    · have := fi_any (p := p) (L := L)
      rw [h, hs] at this; simp at this
    · exact h
  rw [hfi] at c
  have hk0 : (L.take (i0 + 1)).filter (fun e => !p e) = L.take i0 := by
    rw [filter_snoc hi0, if_neg (by rw [hp0.1]; simp)]
    exact List.filter_eq_self.2 fun x hx => by
      obtain ⟨j, hj, rfl⟩ := List.getElem_of_mem hx
      have hj' : j < i0 := by simp at hj; omega
      have := hp0.2 j hj'
      rw [ix_lt (by omega)] at this
      simp [this]
  have hlt : ∀ j, i0 < j → j ≤ L.length → ((L.take j).filter fun e => !p e).length < j := fun j h1 h2 => filter_lt h1 h2 (by rw [hp0.1]; rfl)
  refine FnM.introC Tryz.call139 Tryz.func139 rfl rfl ?_
  conv => whnf
  refine CallC.sca _ (c) ?_ ?_
  · exact rfl
  refine And.intro (inI64 (by omega) (by omega)) ?_
  refine LoopC.mk (fun j : Nat => i0 < j ∧ j ≤ L.length) (fun j => [(0, .osl 0), (1, .fn (.func F) [] [.eptr row 0]), (5, .int .i64 ((L.take j).filter fun e => !p e).length), (6, .int .i64 j)])
    (fun j => [(0, .arr 152 2 L.length fun i => (ix (kept p L j) i).row)]) 1 (fun j => L.length - j) (i0 + 1)
    ⟨⟨by omega, hi0⟩, [(0, 0)], rfl, rfl, ⟨AVle.refl _, AVle.refl _, AVle.of_eq (congrArg (AV.int .i64) (by rw [hk0]; simp; omega)), AVle.of_eq (congrArg (AV.int .i64) (by simp)), trivial⟩, ⟨MOle.arr rfl fun i hi => by
      have e : kept p L (i0 + 1) = L := by unfold kept; rw [hk0]; simp only [List.length_take]; rw [Nat.min_eq_left (by omega)]; simp
      rw [e], trivial⟩⟩ ?_
  intro j hj
  obtain ⟨hj1, hj2⟩ := hj
  have hkl := hlt j hj1 hj2
  refine Grd.intro (fun h2 => ?_) (fun h2 => ?_)
  · have hjn : j < L.length := by have := of_decide_eq_true h2; omega
    have hsn := filter_snoc (p := fun e => !p e) hjn
    have e := kept_at (p := p) hjn (Nat.le_of_lt hkl)
    have cp := hp (ix L j) (getD_mem hjn)
    rw [← e] at cp
    refine And.intro (by omega) ?_
    conv => whnf
    refine CallC.sca _ (cp) ?_ ?_
    · exact rfl
    refine Grd.intro (fun h3 => ?_) (fun h3 => ?_)
    · have h3 : p (ix L j) = false := by rw [e] at h3; simpa using h3
      rw [h3] at hsn
      have hl := hlt (j + 1) (by omega) hjn
      rw [hsn] at hl
      simp at hl
      refine And.intro (by omega) ?_
      refine And.intro (inI64 (by omega) (by omega)) ?_
      refine And.intro (inI64 (by omega) (by omega)) ?_
      refine ⟨j + 1, ⟨by omega, hjn⟩, by omega, [(0, 0)], rfl, rfl, ⟨AVle.refl _, AVle.refl _, AVle.of_eq (congrArg (AV.int .i64) (by rw [hsn]; simp)), AVle.of_eq (congrArg (AV.int .i64) (by simp)), trivial⟩, ⟨MOle.arr rfl fun k hk => ?_, trivial⟩⟩
      have en := kept_next hjn h3 hkl k hk
      by_cases hkc : k = ((L.take j).filter fun e => !p e).length
      · rw [en, if_pos hkc, ← e]
        show (bif Nat.beq k ((L.take j).filter fun e => !p e).length then _ else _) = _
        rw [hkc, beq_t]; rfl
      · rw [en, if_neg hkc]
        show (bif Nat.beq k ((L.take j).filter fun e => !p e).length then _ else _) = _
        rw [beq_f hkc]; rfl
    · have h3 : p (ix L j) = true := by rw [e] at h3; simpa using h3
      rw [h3] at hsn
      refine And.intro (inI64 (by omega) (by omega)) ?_
      refine ⟨j + 1, ⟨by omega, hjn⟩, by omega, [(0, 0)], rfl, rfl, ⟨AVle.refl _, AVle.refl _, AVle.of_eq (congrArg (AV.int .i64) (by rw [hsn]; simp)), AVle.of_eq (congrArg (AV.int .i64) (by simp)), trivial⟩, ⟨MOle.arr rfl fun k hk => ?_, trivial⟩⟩
      have e2 : kept p L (j + 1) = kept p L j := by unfold kept; rw [hsn]; simp
      rw [e2]
  · have : j = L.length := by have := of_decide_eq_false h2; omega
    subst this
    have eT : L.take L.length = L := List.take_of_length_le (Nat.le_refl _)
    obtain ⟨c, hc⟩ : ∃ c, c = ((L.take L.length).filter fun e => !p e).length := ⟨_, rfl⟩
    have hk : ∀ k, k < c → ix (kept p L L.length) k = ix (L.filter fun e => !p e) k := fun k hk => by
      unfold kept
      rw [ix_app_l (by omega), eT]
    have hcl : c = (L.filter fun e => !p e).length := by rw [hc, eT]
    rw [← hc] at hkl
    rw [← hc]
    refine And.intro ⟨by omega, by omega⟩ ?_
    conv => whnf
    refine OpC.clear rfl rfl rfl rfl rfl rfl rfl (by show 1 ≤ L.length - ((c : Int)).toNat; omega) ?_
    conv => whnf
    refine OpC.head rfl rfl rfl rfl rfl rfl rfl ⟨by omega, by omega⟩ ?_
    refine And.intro trivial ⟨[(0, 0), (1, 1)], rfl, AVle.refl _, ⟨MOle.arr (by show ((c : Int)).toNat = _; omega) fun k hk' => ?_, trivial⟩⟩
    have hk' : k < c := by have : k < ((c : Int)).toNat := hk'; omega
    rw [← hk k hk']
    show (bif Nat.blt k ((c : Int)).toNat then _ else _) = _
    rw [blt_t (show k < ((c : Int)).toNat by omega)]; rfl
end Go.Proofs.YtopfpmcakoeloaaGreatDoor
set_option linter.unusedVariables false
set_option linter.constructorNameAsVariable false
set_option linter.unusedSimpArgs false
set_option maxRecDepth 20000
namespace Go.Proofs.YtopfpmcakoeloaaGreatDoor
open Go Go.Vw

def riseS (q : Int × Bool) (r : Rc) (took : Bool) : Int × Bool :=
  if took = true then (if r.k = 2 then (r.tok, q.2 && decide (q.1 < r.tok)) else if r.k = 3 ∨ r.k = 4 then (q.1, q.2 && decide (r.tok = q.1)) else q) else q
def riseN (x : Sto) : Nat → Int × Bool
  | 0 => (0, true)
  | n + 1 => match recAt x ((n : Int) + 1) with
    | none => riseN x n
    | some r => riseS (riseN x n) r ((logN x n).takes r)
theorem riseS_no {q : Int × Bool} {r : Rc} {t : Bool} (h : q.2 = false) : (riseS q r t).2 = false := by
  unfold riseS
  split
  · split
    · simp [h]
    · split
      · simp [h]
      · exact h
  · exact h
theorem riseN_mono (x : Sto) : ∀ n i, i ≤ n → (riseN x i).2 = false → (riseN x n).2 = false
  | 0, i, h, hf => by have : i = 0 := by omega
                      subst this; exact hf
  | n + 1, i, h, hf => by
    rcases Nat.lt_or_ge n i with h1 | h1
    · have : i = n + 1 := by omega
      subst this; exact hf
    · have ih := riseN_mono x n i h1 hf
      unfold riseN
      split
      · exact ih
      · exact riseS_no ih
theorem firstNo_ge {p : Nat → Bool} : ∀ f n m, (∀ j, n ≤ j → j < m → p j = true) → m ≤ n + f → m ≤ firstNo p f n
  | 0, n, m, _, h => h
  | f + 1, n, m, hp, h => by
    unfold firstNo
    rcases Nat.lt_or_ge n m with h1 | h1
    · rw [if_pos (hp n (Nat.le_refl _) h1)]
      exact firstNo_ge f (n + 1) m (fun j hj => hp j (by omega)) (by omega)
    · split
      · have := firstNo_ge f (n + 1) m (fun j hj => hp j (by omega)) (by omega); omega
      · exact h1
/-- what is of no use: data of which nothing in a state knows, nor will -/
def Sta.orph (s : Sta) (k : List UInt8) : Bool := kOk k && (!s.has k && ((decide (kT k = 0) && decide (kN k ≤ s.seq)) || (decide (0 < kT k) && decide (kW k < s.fence))))
def dataKs (x : Sto) : List (List UInt8) := (x.os.map (·.key)).filter kOk
end Go.Proofs.YtopfpmcakoeloaaGreatDoor
set_option linter.unusedVariables false
set_option linter.constructorNameAsVariable false
set_option linter.unusedSimpArgs false
set_option maxRecDepth 20000
namespace Go.Proofs.YtopfpmcakoeloaaGreatDoor
open Go Go.Vw

end Go.Proofs.YtopfpmcakoeloaaGreatDoor
