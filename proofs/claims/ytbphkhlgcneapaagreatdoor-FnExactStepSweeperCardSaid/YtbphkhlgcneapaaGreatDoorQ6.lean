/- Contracts of functions that the claim reaches, and the plain law of what they compute; each theorem bears its own conditions. -/
import Derived.Test.YtbphkhlgcneapaaGreatDoorQ5
import Derived.Test.YtbphkhlgcneapaaGreatDoorQ2
import Derived.Test.YtbphkhlgcneapaaGreatDoorQ1
import Derived.Test.YtbphkhlgcneapaaGreatDoorV46
set_option linter.unusedVariables false
set_option linter.constructorNameAsVariable false
set_option linter.unusedSimpArgs false
set_option maxRecDepth 20000
namespace Go.Proofs.YtbphkhlgcneapaaGreatDoor
open Go Go.Vw

theorem specTakes1 (s : Sta) (hL : s.es.length ≤ 1000000000) (hT : s.ts.length ≤ 1000000000) (hq : 0 ≤ s.seq ∧ s.seq ≤ 999999) (tok tier f t : Int) (key : List UInt8) (hk : key.length ≤ 1000000000) : VFn Tryz.prog 292 [s.av, (Rc.mk 1 tok tier f t key).av] (.bool (s.takes ⟨1, tok, tier, f, t, key⟩)) := by
  have e : s.takes ⟨1, tok, tier, f, t, key⟩ = (decide (f = s.h0) && (decide (kN key = s.seq + 1) && !s.has key)) := rfl
  rw [e]
  refine VFn.introC Tryz.call292 Tryz.func292 rfl rfl ?_
  conv => whnf
  refine CallC.sca _ (l03ToKey_fn key hk) ?_ ?_
  · exact rfl
  refine And.intro (inI64 (by omega) (by omega)) ?_
  repeat' (conv => whnf
           first
    | refine Grd.intro (fun h => ?_) (fun h => ?_)
    | (refine CallC.sca _ (l06Named_fn s hL hT key) ?_ ?_; exact rfl)
    | refine And.intro ⟨show (0 : Int) ≤ 0 by omega, show (0 : Int) < ((3 : Nat) : Int) by omega⟩ ?_
    | refine And.intro trivial (AVle.of_eq (congrArg AV.bool ?_)))
  all_goals (clear e; simp_all)
theorem specTakes2 (s : Sta) (tok tier f t : Int) (key : List UInt8) (hk : key.length ≤ 1000000000) : VFn Tryz.prog 292 [s.av, (Rc.mk 2 tok tier f t key).av] (.bool (s.takes ⟨2, tok, tier, f, t, key⟩)) := by
  refine VFn.introC Tryz.call292 Tryz.func292 rfl rfl ?_
  conv => whnf
  refine CallC.sca _ (l03ToKey_fn key hk) ?_ ?_
  · exact rfl
  exact And.intro trivial (AVle.of_eq (congrArg AV.bool (show decide (s.fence < tok) = _ from rfl)))
set_option maxHeartbeats 4000000 in
theorem specTakes3_1 (s : Sta) (hL : s.es.length ≤ 1000000000) (hT : s.ts.length ≤ 1000000000) (tok f t : Int) (hf : 0 ≤ f ∧ f ≤ 1000000) (key : List UInt8) (hk : key.length ≤ 1000000000) : VFn Tryz.prog 292 [s.av, (Rc.mk 3 tok 1 f t key).av] (.bool (s.takes ⟨3, tok, 1, f, t, key⟩)) := by
  have w1 : VFn Tryz.prog 319 [.int .i64 1] (.int .i64 5) := l04Width_fn 1 (.inr (.inl rfl))
  have e : s.takes ⟨3, tok, 1, f, t, key⟩ = (decide (tok = s.fence) && (decide (f = s.h1) && (decide (kN key = f) && (decide (kW key = tok) && (decide (t = f + 5) && (decide (t ≤ s.h0) && (decide (s.l0 ≤ f) && !s.has key))))))) := rfl
  rw [e]
  clear e
  refine VFn.introC Tryz.call292 Tryz.func292 rfl rfl ?_
  conv => whnf
  refine CallC.sca _ (l03ToKey_fn key hk) ?_ ?_
  · exact rfl
  refine DrawC.mk 68 rfl (by kernel_rfl) ?_
  repeat' (first
    | refine Grd.intro (fun h => ?_) (fun h => ?_)
    | ((conv => whnf); refine Grd.intro (fun h => ?_) (fun h => ?_))
    | refine PCallC.sca _ (w1) rfl ?_
    | refine PCallC.sca _ (l06Named_fn s hL hT key) rfl ?_
    | refine And.intro (inI64 (by (try simp only); omega) (by (try simp only); omega)) ?_
    | refine And.intro ⟨show (0 : Int) ≤ 0 by omega, show (0 : Int) < ((3 : Nat) : Int) by omega⟩ ?_
    | refine And.intro ⟨show (0 : Int) ≤ 1 by omega, show (1 : Int) < ((3 : Nat) : Int) by omega⟩ ?_
    | refine And.intro ⟨show (0 : Int) ≤ 2 by omega, show (2 : Int) < ((3 : Nat) : Int) by omega⟩ ?_
    | refine And.intro trivial (AVle.of_eq (congrArg AV.bool ?_)))
  all_goals (first | (simp_all; done) | (simp_all; intros; omega))
set_option maxHeartbeats 4000000 in
theorem specTakes3_2 (s : Sta) (hL : s.es.length ≤ 1000000000) (hT : s.ts.length ≤ 1000000000) (tok f t : Int) (hf : 0 ≤ f ∧ f ≤ 1000000) (key : List UInt8) (hk : key.length ≤ 1000000000) : VFn Tryz.prog 292 [s.av, (Rc.mk 3 tok 2 f t key).av] (.bool (s.takes ⟨3, tok, 2, f, t, key⟩)) := by
  have w1 : VFn Tryz.prog 319 [.int .i64 2] (.int .i64 20) := l04Width_fn 2 (.inr (.inr rfl))
  have e : s.takes ⟨3, tok, 2, f, t, key⟩ = (decide (tok = s.fence) && (decide (f = s.h2) && (decide (kN key = f) && (decide (kW key = tok) && (decide (t = f + 20) && (decide (t ≤ s.h1) && (decide (s.l1 ≤ f) && !s.has key))))))) := rfl
  rw [e]
  clear e
  refine VFn.introC Tryz.call292 Tryz.func292 rfl rfl ?_
  conv => whnf
  refine CallC.sca _ (l03ToKey_fn key hk) ?_ ?_
  · exact rfl
  refine DrawC.mk 68 rfl (by kernel_rfl) ?_
  repeat' (first
    | refine Grd.intro (fun h => ?_) (fun h => ?_)
    | ((conv => whnf); refine Grd.intro (fun h => ?_) (fun h => ?_))
    | refine PCallC.sca _ (w1) rfl ?_
    | refine PCallC.sca _ (l06Named_fn s hL hT key) rfl ?_
    | refine And.intro (inI64 (by (try simp only); omega) (by (try simp only); omega)) ?_
    | refine And.intro ⟨show (0 : Int) ≤ 0 by omega, show (0 : Int) < ((3 : Nat) : Int) by omega⟩ ?_
    | refine And.intro ⟨show (0 : Int) ≤ 1 by omega, show (1 : Int) < ((3 : Nat) : Int) by omega⟩ ?_
    | refine And.intro ⟨show (0 : Int) ≤ 2 by omega, show (2 : Int) < ((3 : Nat) : Int) by omega⟩ ?_
    | refine And.intro trivial (AVle.of_eq (congrArg AV.bool ?_)))
  all_goals (first | (simp_all; done) | (simp_all; intros; omega))
set_option maxHeartbeats 1000000 in
theorem specTakes4_0 (s : Sta) (hL : s.es.length ≤ 1000000000) (tok f t : Int) (key : List UInt8) (hk : key.length ≤ 1000000000) : VFn Tryz.prog 292 [s.av, (Rc.mk 4 tok 0 f t key).av] (.bool (s.takes ⟨4, tok, 0, f, t, key⟩)) := by
  have e : s.takes ⟨4, tok, 0, f, t, key⟩ = (decide (tok = s.fence) && (headIs (ofT s.es 0) ⟨0, f, t, key⟩ && decide (t ≤ s.h1))) := rfl
  rw [e]
  clear e
  have c := l06First_fn s hL 0
  rcases fi_filter (fun e : En => decide (e.tier = 0)) s.es with ⟨h1, h2⟩ | ⟨i, hi, h1, r, h2⟩
  · rw [h1] at c
    rw [show ofT s.es 0 = [] from h2]
    refine VFn.introC Tryz.call292 Tryz.func292 rfl rfl ?_
    conv => whnf
    refine CallC.sca _ (l03ToKey_fn key hk) ?_ ?_
    · exact rfl
    conv => whnf
    refine CallC.sca _ (c) ?_ ?_
    · exact rfl
    refine DrawC.mk 43 rfl (by kernel_rfl) ?_
    repeat' (first
      | refine Grd.intro (fun h => ?_) (fun h => ?_)
      | ((conv => whnf); refine Grd.intro (fun h => ?_) (fun h => ?_))
      | refine And.intro (inI64 (by (try simp only); omega) (by (try simp only); omega)) ?_
      | refine And.intro trivial (AVle.of_eq (congrArg AV.bool ?_)))
    all_goals (show false = (_ && (false&& _)); simp)
  · rw [h1] at c
    rw [show ofT s.es 0 = ix s.es i :: r from h2]
    clear h1 h2
    have hH : headIs (ix s.es i :: r) ⟨0, f, t, key⟩ = (decide ((ix s.es ((i : Nat) : Int).toNat).tier = 0) && (decide ((ix s.es ((i : Nat) : Int).toNat).f = f) && (decide ((ix s.es ((i : Nat) : Int).toNat).t = t) && (((B (ix s.es ((i : Nat) : Int).toNat).key).toList == (B key).toList) && true)))) := headIs_cells (ix s.es i) r 0 f t key
    refine VFn.introC Tryz.call292 Tryz.func292 rfl rfl ?_
    conv => whnf
    refine CallC.sca _ (l03ToKey_fn key hk) ?_ ?_
    · exact rfl
    conv => whnf
    refine CallC.sca _ (c) ?_ ?_
    · exact rfl
    refine DrawC.mk 43 rfl (by kernel_rfl) ?_
    repeat' (first
      | refine Grd.intro (fun h => ?_) (fun h => ?_)
      | ((conv => whnf); refine Grd.intro (fun h => ?_) (fun h => ?_))
      | refine And.intro (show eqGB _ _ = true from by kernel_rfl) ?_
      | refine And.intro (inI64 (by (try simp only); omega) (by (try simp only); omega)) ?_
      | refine And.intro ⟨show (0 : Int) ≤ ((i : Nat) : Int) by omega, show ((i : Nat) : Int) < ((s.es.length : Nat) : Int) by omega⟩ ?_
      | refine And.intro ⟨show (0 : Int) ≤ 1 by omega, show (1 : Int) < ((3 : Nat) : Int) by omega⟩ ?_
      | refine And.intro ⟨show (0 : Int) ≤ 2 by omega, show (2 : Int) < ((3 : Nat) : Int) by omega⟩ ?_
      | refine And.intro trivial (AVle.of_eq (congrArg AV.bool ?_)))
    all_goals (clear c; rw [hH]; simp_all)
set_option maxHeartbeats 1000000 in
theorem specTakes4_1 (s : Sta) (hL : s.es.length ≤ 1000000000) (tok f t : Int) (key : List UInt8) (hk : key.length ≤ 1000000000) : VFn Tryz.prog 292 [s.av, (Rc.mk 4 tok 1 f t key).av] (.bool (s.takes ⟨4, tok, 1, f, t, key⟩)) := by
  have e : s.takes ⟨4, tok, 1, f, t, key⟩ = (decide (tok = s.fence) && (headIs (ofT s.es 1) ⟨1, f, t, key⟩ && decide (t ≤ s.h2))) := rfl
  rw [e]
  clear e
  have c := l06First_fn s hL 1
  rcases fi_filter (fun e : En => decide (e.tier = 1)) s.es with ⟨h1, h2⟩ | ⟨i, hi, h1, r, h2⟩
  · rw [h1] at c
    rw [show ofT s.es 1 = [] from h2]
    refine VFn.introC Tryz.call292 Tryz.func292 rfl rfl ?_
    conv => whnf
    refine CallC.sca _ (l03ToKey_fn key hk) ?_ ?_
    · exact rfl
    conv => whnf
    refine CallC.sca _ (c) ?_ ?_
    · exact rfl
    refine DrawC.mk 43 rfl (by kernel_rfl) ?_
    repeat' (first
      | refine Grd.intro (fun h => ?_) (fun h => ?_)
      | ((conv => whnf); refine Grd.intro (fun h => ?_) (fun h => ?_))
      | refine And.intro (inI64 (by (try simp only); omega) (by (try simp only); omega)) ?_
      | refine And.intro trivial (AVle.of_eq (congrArg AV.bool ?_)))
    all_goals (show false = (_ && (false&& _)); simp)
  · rw [h1] at c
    rw [show ofT s.es 1 = ix s.es i :: r from h2]
    clear h1 h2
    have hH : headIs (ix s.es i :: r) ⟨1, f, t, key⟩ = (decide ((ix s.es ((i : Nat) : Int).toNat).tier = 1) && (decide ((ix s.es ((i : Nat) : Int).toNat).f = f) && (decide ((ix s.es ((i : Nat) : Int).toNat).t = t) && (((B (ix s.es ((i : Nat) : Int).toNat).key).toList == (B key).toList) && true)))) := headIs_cells (ix s.es i) r 1 f t key
    refine VFn.introC Tryz.call292 Tryz.func292 rfl rfl ?_
    conv => whnf
    refine CallC.sca _ (l03ToKey_fn key hk) ?_ ?_
    · exact rfl
    conv => whnf
    refine CallC.sca _ (c) ?_ ?_
    · exact rfl
    refine DrawC.mk 43 rfl (by kernel_rfl) ?_
    repeat' (first
      | refine Grd.intro (fun h => ?_) (fun h => ?_)
      | ((conv => whnf); refine Grd.intro (fun h => ?_) (fun h => ?_))
      | refine And.intro (show eqGB _ _ = true from by kernel_rfl) ?_
      | refine And.intro (inI64 (by (try simp only); omega) (by (try simp only); omega)) ?_
      | refine And.intro ⟨show (0 : Int) ≤ ((i : Nat) : Int) by omega, show ((i : Nat) : Int) < ((s.es.length : Nat) : Int) by omega⟩ ?_
      | refine And.intro ⟨show (0 : Int) ≤ 1 by omega, show (1 : Int) < ((3 : Nat) : Int) by omega⟩ ?_
      | refine And.intro ⟨show (0 : Int) ≤ 2 by omega, show (2 : Int) < ((3 : Nat) : Int) by omega⟩ ?_
      | refine And.intro trivial (AVle.of_eq (congrArg AV.bool ?_)))
    all_goals (clear c; rw [hH]; simp_all)
set_option maxHeartbeats 1000000 in
theorem specTakes4_2 (s : Sta) (hL : s.es.length ≤ 1000000000) (tok f t : Int) (key : List UInt8) (hk : key.length ≤ 1000000000) : VFn Tryz.prog 292 [s.av, (Rc.mk 4 tok 2 f t key).av] (.bool (s.takes ⟨4, tok, 2, f, t, key⟩)) := by
  have e : s.takes ⟨4, tok, 2, f, t, key⟩ = (decide (tok = s.fence) && (headIs (ofT s.es 2) ⟨2, f, t, key⟩)) := (show (decide (tok = s.fence) && (headIs (ofT s.es 2) ⟨2, f, t, key⟩ && true)) = _ by rw [Bool.and_true])
  rw [e]
  clear e
  have c := l06First_fn s hL 2
  rcases fi_filter (fun e : En => decide (e.tier = 2)) s.es with ⟨h1, h2⟩ | ⟨i, hi, h1, r, h2⟩
  · rw [h1] at c
    rw [show ofT s.es 2 = [] from h2]
    refine VFn.introC Tryz.call292 Tryz.func292 rfl rfl ?_
    conv => whnf
    refine CallC.sca _ (l03ToKey_fn key hk) ?_ ?_
    · exact rfl
    conv => whnf
    refine CallC.sca _ (c) ?_ ?_
    · exact rfl
    refine DrawC.mk 43 rfl (by kernel_rfl) ?_
    repeat' (first
      | refine Grd.intro (fun h => ?_) (fun h => ?_)
      | ((conv => whnf); refine Grd.intro (fun h => ?_) (fun h => ?_))
      | refine And.intro (inI64 (by (try simp only); omega) (by (try simp only); omega)) ?_
      | refine And.intro trivial (AVle.of_eq (congrArg AV.bool ?_)))
    all_goals (show false = (_ && (false)); simp)
  · rw [h1] at c
    rw [show ofT s.es 2 = ix s.es i :: r from h2]
    clear h1 h2
    have hH : headIs (ix s.es i :: r) ⟨2, f, t, key⟩ = (decide ((ix s.es ((i : Nat) : Int).toNat).tier = 2) && (decide ((ix s.es ((i : Nat) : Int).toNat).f = f) && (decide ((ix s.es ((i : Nat) : Int).toNat).t = t) && (((B (ix s.es ((i : Nat) : Int).toNat).key).toList == (B key).toList) && true)))) := headIs_cells (ix s.es i) r 2 f t key
    refine VFn.introC Tryz.call292 Tryz.func292 rfl rfl ?_
    conv => whnf
    refine CallC.sca _ (l03ToKey_fn key hk) ?_ ?_
    · exact rfl
    conv => whnf
    refine CallC.sca _ (c) ?_ ?_
    · exact rfl
    refine DrawC.mk 43 rfl (by kernel_rfl) ?_
    repeat' (first
      | refine Grd.intro (fun h => ?_) (fun h => ?_)
      | ((conv => whnf); refine Grd.intro (fun h => ?_) (fun h => ?_))
      | refine And.intro (show eqGB _ _ = true from by kernel_rfl) ?_
      | refine And.intro (inI64 (by (try simp only); omega) (by (try simp only); omega)) ?_
      | refine And.intro ⟨show (0 : Int) ≤ ((i : Nat) : Int) by omega, show ((i : Nat) : Int) < ((s.es.length : Nat) : Int) by omega⟩ ?_
      | refine And.intro ⟨show (0 : Int) ≤ 1 by omega, show (1 : Int) < ((3 : Nat) : Int) by omega⟩ ?_
      | refine And.intro ⟨show (0 : Int) ≤ 2 by omega, show (2 : Int) < ((3 : Nat) : Int) by omega⟩ ?_
      | refine And.intro trivial (AVle.of_eq (congrArg AV.bool ?_)))
    all_goals (clear c; rw [hH]; simp_all)
theorem specTakes5 (s : Sta) (hT : s.ts.length ≤ 1000000000) (tok tier f t : Int) (key : List UInt8) (hk : key.length ≤ 1000000000) : VFn Tryz.prog 292 [s.av, (Rc.mk 5 tok tier f t key).av] (.bool (s.takes ⟨5, tok, tier, f, t, key⟩)) := by
  have e : s.takes ⟨5, tok, tier, f, t, key⟩ = s.ts.any (fun t => decide (t.key = key)) := fi_any
  rw [e]
  clear e
  refine VFn.introC Tryz.call292 Tryz.func292 rfl rfl ?_
  conv => whnf
  refine CallC.sca _ (l03ToKey_fn key hk) ?_ ?_
  · exact rfl
  refine LoopC.mk (fun i : Nat => i ≤ s.ts.length ∧ ∀ j, j < i → decide ((ix s.ts j).key = key) = false) (fun i => [(2, .bptr 0 0), (3, .bptr 1 0), (10, .int .i64 i)]) (fun i => [(0, .box s.row), (1, .box (Rc.mk 5 tok tier f t key).row)]) 2 (fun i => s.ts.length - i) 0
    ⟨⟨Nat.zero_le _, fun j hj => absurd hj (Nat.not_lt_zero j)⟩, [(0, 0), (1, 1)], rfl, rfl, ⟨AVle.refl _, AVle.refl _, AVle.refl _, trivial⟩, ⟨MOle.refl _, MOle.refl _, trivial⟩⟩ ?_
  intro i hi
  refine Grd.intro (fun h2 => ?_) (fun h2 => ?_)
  · have hin : i < s.ts.length := by have := of_decide_eq_true h2; omega
    refine DrawC.mk 9 rfl (by kernel_rfl) ?_
    refine And.intro (by omega) ?_
    refine Grd.intro (fun h3 => ?_) (fun h3 => ?_)
    · have h3 : ((B (ix s.ts i).key).toList == (B key).toList) = true := h3
      rw [B_eq] at h3
      rw [any_ix (p := fun e : Tb => decide (e.key = key)) hin h3]
      exact And.intro trivial (AVle.refl _)
    · have h3 : ((B (ix s.ts i).key).toList == (B key).toList) = false := h3
      rw [B_eq] at h3
      refine And.intro (inI64 (by omega) (by omega)) ?_
      exact ⟨i + 1, ⟨hin, fun j hj => by
        rcases Nat.lt_or_ge j i with h' | h'
        · exact hi.2 j h'
        · rw [show j = i by omega]; exact h3⟩, by omega, [(0, 0), (1, 1)], rfl, rfl, ⟨AVle.refl _, AVle.refl _, AVle.of_eq (congrArg (AV.int .i64) (by simp)), trivial⟩, ⟨MOle.refl _, MOle.refl _, trivial⟩⟩
  · have : i = s.ts.length := by have := of_decide_eq_false h2; omega
    subst this
    rw [any_no (p := fun e : Tb => decide (e.key = key)) hi.2]
    exact And.intro trivial (AVle.refl _)
theorem l06Takes_fn (s : Sta) (hL : s.es.length + s.ts.length ≤ 1000000) (hq : 0 ≤ s.seq ∧ s.seq ≤ 999999) (r : Rc) (hr : r.ok = true) : VFn Tryz.prog 292 [s.av, r.av] (.bool (s.takes r)) := by
  have hk0 := (Rc.okN hr).2
  obtain ⟨k, tok, tier, f, t, key⟩ := r
  have hk : key.length ≤ 1000000000 := Nat.le_trans hk0 (by decide)
  clear hk0
  rcases kinds hr with ⟨rfl, rfl⟩ | rfl | ⟨rfl, h, hf⟩ | ⟨rfl, h⟩ | rfl
  · exact specTakes1 s (by omega) (by omega) hq tok 0 f t key hk
  · exact specTakes2 s tok tier f t key hk
  · rcases h with rfl | rfl
    · exact specTakes3_1 s (by omega) (by omega) tok f t hf key hk
    · exact specTakes3_2 s (by omega) (by omega) tok f t hf key hk
  · rcases h with rfl | rfl | rfl
    · exact specTakes4_0 s (by omega) tok f t key hk
    · exact specTakes4_1 s (by omega) tok f t key hk
    · exact specTakes4_2 s (by omega) tok f t key hk
  · exact specTakes5 s (by omega) tok tier f t key hk
end Go.Proofs.YtbphkhlgcneapaaGreatDoor
set_option linter.unusedVariables false
set_option linter.constructorNameAsVariable false
set_option linter.unusedSimpArgs false
set_option maxRecDepth 20000
namespace Go.Proofs.YtbphkhlgcneapaaGreatDoor
open Go Go.Vw

def Sta.nrow (s : Sta) : List AV := [.int .i64 s.seq, .int .i64 s.fence, .nilsl, .nilsl, .int .i64 s.l0, .int .i64 s.l1, .int .i64 s.l2, .int .i64 s.h0, .int .i64 s.h1, .int .i64 s.h2]
theorem l06Own_own (s : Sta) (hL : s.es.length ≤ 1000000) (hT : s.ts.length ≤ 1000000) : FnM Tryz.prog 293 0 [s.av] [] s.own s.objs 2 := by
  refine FnM.introC Tryz.call293 Tryz.func293 rfl rfl ?_
  refine And.intro ⟨show (0 + s.es.length) * 40 ≤ 140737488355328 by omega, fun i hi => rfl⟩ ?_
  refine And.intro ⟨show (0 + s.ts.length) * 24 ≤ 140737488355328 by omega, fun i hi => rfl⟩ ?_
  exact And.intro trivial ⟨[(3, 0), (5, 1)], rfl, AVle.refl _, ⟨MOle.arr (Nat.zero_add _) fun i hi => appRows_ge (Nat.zero_le _), MOle.arr (Nat.zero_add _) fun i hi => appRows_ge (Nat.zero_le _), trivial⟩⟩
/-- entries as nobody's own -/
theorem l06Own_mix (s : Sta) (hL : s.es.length ≤ 1000000) (hT : s.ts.length ≤ 1000000) : FnM Tryz.prog 293 0 [s.av] [] (.agg [.int .i64 s.seq, .int .i64 s.fence, ents s.es, .osl 0, .int .i64 s.l0, .int .i64 s.l1, .int .i64 s.l2, .int .i64 s.h0, .int .i64 s.h1, .int .i64 s.h2]) [(0, .arr 226 2 s.ts.length fun i => (ix s.ts i).row)] 1 := by
  refine FnM.introC Tryz.call293 Tryz.func293 rfl rfl ?_
  refine And.intro ⟨show (0 + s.es.length) * 40 ≤ 140737488355328 by omega, fun i hi => rfl⟩ ?_
  refine And.intro ⟨show (0 + s.ts.length) * 24 ≤ 140737488355328 by omega, fun i hi => rfl⟩ ?_
  refine And.intro trivial ⟨[(5, 0)], rfl, AVle.agg (AVsle.cons (AVle.refl _) (AVsle.cons (AVle.refl _) (AVsle.cons (AVle.sl (Nat.zero_add _) fun i hi => appRows_ge (Nat.zero_le _)) (AVsle.refl _)))), ⟨MOle.arr (Nat.zero_add _) fun i hi => appRows_ge (Nat.zero_le _), trivial⟩⟩
theorem specApply1 (s : Sta) (hL : s.es.length + s.ts.length < 4096) (hq : 0 ≤ s.seq ∧ s.seq < 999999) (tok f t : Int) (key : List UInt8) (hr : Rc.ok ⟨1, tok, 0, f, t, key⟩ = true) :
    FnM Tryz.prog 259 0 [s.av, (Rc.mk 1 tok 0 f t key).av] [] (.tup [(s.app ⟨1, tok, 0, f, t, key⟩).own, .bool (s.takes ⟨1, tok, 0, f, t, key⟩)]) (s.app ⟨1, tok, 0, f, t, key⟩).objs 2 := by
  have c := l06Takes_fn s (by omega) (by omega) ⟨1, tok, 0, f, t, key⟩ hr
  have hc := l06Own_own s (by omega) (by omega)
  have hm := l06Own_mix s (by omega) (by omega)
  by_cases ht : s.takes ⟨1, tok, 0, f, t, key⟩ = true
  · have ea : s.app ⟨1, tok, 0, f, t, key⟩ = ({ s.tick with es := s.es ++ [⟨0, f, t, key⟩] } : Sta).lift 0 t := by unfold Sta.app; rw [if_pos ht, if_pos (.inl rfl)]
    rw [ht] at c ⊢
    rw [ea]
    refine FnM.introC Tryz.call259 Tryz.func259 rfl rfl ?_
    conv => whnf
    refine CallC.sca _ (c) ?_ ?_
    · exact rfl
    conv => whnf
    refine CallC.k [] hc rfl rfl (AVsle.refl _) trivial rfl ?_
    refine And.intro (inI64 (by omega) (by omega)) ?_
    refine And.intro ⟨show (s.es.length + 1) * 40 ≤ 140737488355328 by omega, all1 rfl⟩ ?_
    refine And.intro ⟨show (0 : Int) ≤ 0 by omega, show (0 : Int) < ((3 : Nat) : Int) by omega⟩ ?_
    exact And.intro trivial ⟨[(6, 0), (4, 1)], rfl, AVle.refl _, ⟨arr_next (f := En.row) rfl rfl, MOle.refl _, trivial⟩⟩
  · have ht : s.takes ⟨1, tok, 0, f, t, key⟩ = false := by simpa using ht
    have ea : s.app ⟨1, tok, 0, f, t, key⟩ = s.tick := by unfold Sta.app; rw [if_neg (by rw [ht]; simp)]
    rw [ht] at c ⊢
    rw [ea]
    refine FnM.introC Tryz.call259 Tryz.func259 rfl rfl ?_
    conv => whnf
    refine CallC.sca _ (c) ?_ ?_
    · exact rfl
    conv => whnf
    refine CallC.k [] hc rfl rfl (AVsle.refl _) trivial rfl ?_
    refine And.intro (inI64 (by omega) (by omega)) ?_
    exact And.intro trivial ⟨[(3, 0), (4, 1)], rfl, AVle.refl _, ⟨MOle.refl _, MOle.refl _, trivial⟩⟩
theorem specApply3_1 (s : Sta) (hL : s.es.length + s.ts.length < 4096) (hq : 0 ≤ s.seq ∧ s.seq < 999999) (tok f t : Int) (key : List UInt8) (hr : Rc.ok ⟨3, tok, 1, f, t, key⟩ = true) :
    FnM Tryz.prog 259 0 [s.av, (Rc.mk 3 tok 1 f t key).av] [] (.tup [(s.app ⟨3, tok, 1, f, t, key⟩).own, .bool (s.takes ⟨3, tok, 1, f, t, key⟩)]) (s.app ⟨3, tok, 1, f, t, key⟩).objs 2 := by
  have c := l06Takes_fn s (by omega) (by omega) ⟨3, tok, 1, f, t, key⟩ hr
  have hc := l06Own_own s (by omega) (by omega)
  have hm := l06Own_mix s (by omega) (by omega)
  by_cases ht : s.takes ⟨3, tok, 1, f, t, key⟩ = true
  · have ea : s.app ⟨3, tok, 1, f, t, key⟩ = ({ s.tick with es := s.es ++ [⟨1, f, t, key⟩] } : Sta).lift 1 t := by unfold Sta.app; rw [if_pos ht, if_pos (.inr rfl)]
    rw [ht] at c ⊢
    rw [ea]
    refine FnM.introC Tryz.call259 Tryz.func259 rfl rfl ?_
    conv => whnf
    refine CallC.sca _ (c) ?_ ?_
    · exact rfl
    conv => whnf
    refine CallC.k [] hc rfl rfl (AVsle.refl _) trivial rfl ?_
    refine And.intro (inI64 (by omega) (by omega)) ?_
    refine And.intro ⟨show (s.es.length + 1) * 40 ≤ 140737488355328 by omega, all1 rfl⟩ ?_
    refine And.intro ⟨show (0 : Int) ≤ 1 by omega, show (1 : Int) < ((3 : Nat) : Int) by omega⟩ ?_
    exact And.intro trivial ⟨[(6, 0), (4, 1)], rfl, AVle.refl _, ⟨arr_next (f := En.row) rfl rfl, MOle.refl _, trivial⟩⟩
  · have ht : s.takes ⟨3, tok, 1, f, t, key⟩ = false := by simpa using ht
    have ea : s.app ⟨3, tok, 1, f, t, key⟩ = s.tick := by unfold Sta.app; rw [if_neg (by rw [ht]; simp)]
    rw [ht] at c ⊢
    rw [ea]
    refine FnM.introC Tryz.call259 Tryz.func259 rfl rfl ?_
    conv => whnf
    refine CallC.sca _ (c) ?_ ?_
    · exact rfl
    conv => whnf
    refine CallC.k [] hc rfl rfl (AVsle.refl _) trivial rfl ?_
    refine And.intro (inI64 (by omega) (by omega)) ?_
    exact And.intro trivial ⟨[(3, 0), (4, 1)], rfl, AVle.refl _, ⟨MOle.refl _, MOle.refl _, trivial⟩⟩
theorem specApply3_2 (s : Sta) (hL : s.es.length + s.ts.length < 4096) (hq : 0 ≤ s.seq ∧ s.seq < 999999) (tok f t : Int) (key : List UInt8) (hr : Rc.ok ⟨3, tok, 2, f, t, key⟩ = true) :
    FnM Tryz.prog 259 0 [s.av, (Rc.mk 3 tok 2 f t key).av] [] (.tup [(s.app ⟨3, tok, 2, f, t, key⟩).own, .bool (s.takes ⟨3, tok, 2, f, t, key⟩)]) (s.app ⟨3, tok, 2, f, t, key⟩).objs 2 := by
  have c := l06Takes_fn s (by omega) (by omega) ⟨3, tok, 2, f, t, key⟩ hr
  have hc := l06Own_own s (by omega) (by omega)
  have hm := l06Own_mix s (by omega) (by omega)
  by_cases ht : s.takes ⟨3, tok, 2, f, t, key⟩ = true
  · have ea : s.app ⟨3, tok, 2, f, t, key⟩ = ({ s.tick with es := s.es ++ [⟨2, f, t, key⟩] } : Sta).lift 2 t := by unfold Sta.app; rw [if_pos ht, if_pos (.inr rfl)]
    rw [ht] at c ⊢
    rw [ea]
    refine FnM.introC Tryz.call259 Tryz.func259 rfl rfl ?_
    conv => whnf
    refine CallC.sca _ (c) ?_ ?_
    · exact rfl
    conv => whnf
    refine CallC.k [] hc rfl rfl (AVsle.refl _) trivial rfl ?_
    refine And.intro (inI64 (by omega) (by omega)) ?_
    refine And.intro ⟨show (s.es.length + 1) * 40 ≤ 140737488355328 by omega, all1 rfl⟩ ?_
    refine And.intro ⟨show (0 : Int) ≤ 2 by omega, show (2 : Int) < ((3 : Nat) : Int) by omega⟩ ?_
    exact And.intro trivial ⟨[(6, 0), (4, 1)], rfl, AVle.refl _, ⟨arr_next (f := En.row) rfl rfl, MOle.refl _, trivial⟩⟩
  · have ht : s.takes ⟨3, tok, 2, f, t, key⟩ = false := by simpa using ht
    have ea : s.app ⟨3, tok, 2, f, t, key⟩ = s.tick := by unfold Sta.app; rw [if_neg (by rw [ht]; simp)]
    rw [ht] at c ⊢
    rw [ea]
    refine FnM.introC Tryz.call259 Tryz.func259 rfl rfl ?_
    conv => whnf
    refine CallC.sca _ (c) ?_ ?_
    · exact rfl
    conv => whnf
    refine CallC.k [] hc rfl rfl (AVsle.refl _) trivial rfl ?_
    refine And.intro (inI64 (by omega) (by omega)) ?_
    exact And.intro trivial ⟨[(3, 0), (4, 1)], rfl, AVle.refl _, ⟨MOle.refl _, MOle.refl _, trivial⟩⟩
theorem specApply2 (s : Sta) (hL : s.es.length + s.ts.length < 4096) (hq : 0 ≤ s.seq ∧ s.seq < 999999) (tok tier f t : Int) (key : List UInt8) (hr : Rc.ok ⟨2, tok, tier, f, t, key⟩ = true) :
    FnM Tryz.prog 259 0 [s.av, (Rc.mk 2 tok tier f t key).av] [] (.tup [(s.app ⟨2, tok, tier, f, t, key⟩).own, .bool (s.takes ⟨2, tok, tier, f, t, key⟩)]) (s.app ⟨2, tok, tier, f, t, key⟩).objs 2 := by
  have c := l06Takes_fn s (by omega) (by omega) ⟨2, tok, tier, f, t, key⟩ hr
  have hc := l06Own_own s (by omega) (by omega)
  have hm := l06Own_mix s (by omega) (by omega)
  by_cases ht : s.takes ⟨2, tok, tier, f, t, key⟩ = true
  · have ea : s.app ⟨2, tok, tier, f, t, key⟩ = { s.tick with fence := tok } := by unfold Sta.app; rw [if_pos ht, if_neg (show ¬ ((2 : Int) = 1 ∨ (2 : Int) = 3) by decide), if_pos rfl]
    rw [ht] at c ⊢
    rw [ea]
    refine FnM.introC Tryz.call259 Tryz.func259 rfl rfl ?_
    conv => whnf
    refine CallC.sca _ (c) ?_ ?_
    · exact rfl
    conv => whnf
    refine CallC.k [] hc rfl rfl (AVsle.refl _) trivial rfl ?_
    refine And.intro (inI64 (by omega) (by omega)) ?_
    exact And.intro trivial ⟨[(3, 0), (4, 1)], rfl, AVle.refl _, ⟨MOle.refl _, MOle.refl _, trivial⟩⟩
  · have ht : s.takes ⟨2, tok, tier, f, t, key⟩ = false := by simpa using ht
    have ea : s.app ⟨2, tok, tier, f, t, key⟩ = s.tick := by unfold Sta.app; rw [if_neg (by rw [ht]; simp)]
    rw [ht] at c ⊢
    rw [ea]
    refine FnM.introC Tryz.call259 Tryz.func259 rfl rfl ?_
    conv => whnf
    refine CallC.sca _ (c) ?_ ?_
    · exact rfl
    conv => whnf
    refine CallC.k [] hc rfl rfl (AVsle.refl _) trivial rfl ?_
    refine And.intro (inI64 (by omega) (by omega)) ?_
    exact And.intro trivial ⟨[(3, 0), (4, 1)], rfl, AVle.refl _, ⟨MOle.refl _, MOle.refl _, trivial⟩⟩
/-- the first of a tier -/
theorem first_at {s : Sta} {k : Int} {e : En} (h : headIs (ofT s.es k) e = true) : ∃ i : Nat, i < s.es.length ∧ fi (fun x : En => decide (x.tier = k)) s.es = (i : Int) ∧ ix s.es i = e := by
  rcases fi_filter (fun x : En => decide (x.tier = k)) s.es with ⟨h1, h2⟩ | ⟨i, hi, h1, r, h2⟩
  · rw [show ofT s.es k = [] from h2] at h; cases h
  · rw [show ofT s.es k = ix s.es i :: r from h2] at h
    exact ⟨i, hi, h1, of_decide_eq_true h⟩
theorem cut_rows {α : Type} [Inhabited α] {f : α → List AV} {L : List α} {i q : Nat} (hi : i < L.length) (hq : q = i + 1) {M : List α} (hM : L.take i ++ L.drop (i + 1) = M) {r0 : Nat → List AV} {n1 : Nat} (hn : n1 = i) :
    ∀ j, j < M.length → appRows n1 (appRows 0 r0 fun j => f (ix L j)) (fun j => f (ix L (q + j))) j = f (ix M j) := by
  subst hM hq hn
  refine app_rows (f := f) (by simp; omega) (fun j hj => ?_) fun j hj => ?_
  · rw [appRows_ge (Nat.zero_le _), Nat.sub_zero, ix_take (by simp at hj; omega)]
  · rw [ix_drop]
theorem specApply4_0 (s : Sta) (hL : s.es.length + s.ts.length < 4096) (hq : 0 ≤ s.seq ∧ s.seq < 999999) (tok f t : Int) (key : List UInt8) (hr : Rc.ok ⟨4, tok, 0, f, t, key⟩ = true) (nd : (s.es.map (·.key)).Nodup) :
    FnM Tryz.prog 259 0 [s.av, (Rc.mk 4 tok 0 f t key).av] [] (.tup [(s.app ⟨4, tok, 0, f, t, key⟩).own, .bool (s.takes ⟨4, tok, 0, f, t, key⟩)]) (s.app ⟨4, tok, 0, f, t, key⟩).objs 2 := by
  have c := l06Takes_fn s (by omega) (by omega) ⟨4, tok, 0, f, t, key⟩ hr
  have hc := l06Own_own s (by omega) (by omega)
  have hm := l06Own_mix s (by omega) (by omega)
  by_cases ht : s.takes ⟨4, tok, 0, f, t, key⟩ = true
  · have ea : s.app ⟨4, tok, 0, f, t, key⟩ = ({ s.tick with es := noE key s.es, ts := s.ts ++ [⟨s.seq + 1, key⟩] } : Sta).lower 0 t := by unfold Sta.app; rw [if_pos ht, if_neg (show ¬ ((4 : Int) = 1 ∨ (4 : Int) = 3) by decide), if_neg (show ¬ (4 : Int) = 2 by decide), if_pos rfl]
    obtain ⟨i, hi, hfi, hix⟩ := first_at (takes_4 ht rfl)
    have hcut : s.es.take i ++ s.es.drop (i + 1) = noE key s.es := by rw [noE_cut hi nd, hix]
    have hlen : (noE key s.es).length = i + (s.es.length - (i + 1)) := by rw [← hcut]; simp; omega
    rw [ht] at c ⊢
    rw [ea]
    refine FnM.introC Tryz.call259 Tryz.func259 rfl rfl ?_
    conv => whnf
    refine CallC.sca _ (c) ?_ ?_
    · exact rfl
    conv => whnf
    refine CallC.k [] hm rfl rfl (AVsle.refl _) trivial rfl ?_
    refine And.intro (inI64 (by omega) (by omega)) ?_
    have cf := l06First_fn { s with seq := s.seq + 1 } (by show s.es.length ≤ _; omega) 0
    rw [show fi (fun e : En => decide (e.tier = 0)) ({ s with seq := s.seq + 1 } : Sta).es = (i : Int) from hfi] at cf
    conv => whnf
    refine CallC.sca _ (cf) ?_ ?_
    · exact rfl
    refine DrawC.mkK 11 [(.inr 0, 5)] rfl (by kernel_rfl) ?_
    refine And.intro rfl ?_
    conv => whnf
    refine And.intro ⟨by omega, by omega⟩ ?_
    conv => whnf
    refine And.intro ⟨show (0 + ((i : Nat) : Int).toNat) * 40 ≤ 140737488355328 by omega, fun i hi => rfl⟩ ?_
    conv => whnf
    refine And.intro (inI64 (by omega) (by omega)) ?_
    conv => whnf
    refine And.intro ⟨by omega, by omega⟩ ?_
    conv => whnf
    refine And.intro ⟨show (0 + ((i : Nat) : Int).toNat + (s.es.length - (((i : Nat) : Int) + 1).toNat)) * 40 ≤ 140737488355328 by omega, fun i hi => rfl⟩ ?_
    refine And.intro ⟨show (s.ts.length + 1) * 24 ≤ 140737488355328 by omega, all1 rfl⟩ ?_
    refine And.intro ⟨show (0 : Int) ≤ 0 by omega, show (0 : Int) < ((3 : Nat) : Int) by omega⟩ ?_
    exact And.intro trivial ⟨[(15, 0), (17, 1)], rfl, AVle.refl _, ⟨MOle.arr (show 0 + ((i : Nat) : Int).toNat + (s.es.length - (((i : Nat) : Int) + 1).toNat) = (noE key s.es).length by omega) fun j hj => cut_rows hi (show (((i : Nat) : Int) + 1).toNat = i + 1 by omega) hcut (show 0 + ((i : Nat) : Int).toNat = i by omega) j (by have hj' : j < 0 + ((i : Nat) : Int).toNat + (s.es.length - (((i : Nat) : Int) + 1).toNat) := hj; omega), arr_next (f := Tb.row) rfl rfl, trivial⟩⟩
  · have ht : s.takes ⟨4, tok, 0, f, t, key⟩ = false := by simpa using ht
    have ea : s.app ⟨4, tok, 0, f, t, key⟩ = s.tick := by unfold Sta.app; rw [if_neg (by rw [ht]; simp)]
    rw [ht] at c ⊢
    rw [ea]
    refine FnM.introC Tryz.call259 Tryz.func259 rfl rfl ?_
    conv => whnf
    refine CallC.sca _ (c) ?_ ?_
    · exact rfl
    conv => whnf
    refine CallC.k [] hc rfl rfl (AVsle.refl _) trivial rfl ?_
    refine And.intro (inI64 (by omega) (by omega)) ?_
    exact And.intro trivial ⟨[(3, 0), (4, 1)], rfl, AVle.refl _, ⟨MOle.refl _, MOle.refl _, trivial⟩⟩
theorem specApply4_1 (s : Sta) (hL : s.es.length + s.ts.length < 4096) (hq : 0 ≤ s.seq ∧ s.seq < 999999) (tok f t : Int) (key : List UInt8) (hr : Rc.ok ⟨4, tok, 1, f, t, key⟩ = true) (nd : (s.es.map (·.key)).Nodup) :
    FnM Tryz.prog 259 0 [s.av, (Rc.mk 4 tok 1 f t key).av] [] (.tup [(s.app ⟨4, tok, 1, f, t, key⟩).own, .bool (s.takes ⟨4, tok, 1, f, t, key⟩)]) (s.app ⟨4, tok, 1, f, t, key⟩).objs 2 := by
  have c := l06Takes_fn s (by omega) (by omega) ⟨4, tok, 1, f, t, key⟩ hr
  have hc := l06Own_own s (by omega) (by omega)
  have hm := l06Own_mix s (by omega) (by omega)
  by_cases ht : s.takes ⟨4, tok, 1, f, t, key⟩ = true
  · have ea : s.app ⟨4, tok, 1, f, t, key⟩ = ({ s.tick with es := noE key s.es, ts := s.ts ++ [⟨s.seq + 1, key⟩] } : Sta).lower 1 t := by unfold Sta.app; rw [if_pos ht, if_neg (show ¬ ((4 : Int) = 1 ∨ (4 : Int) = 3) by decide), if_neg (show ¬ (4 : Int) = 2 by decide), if_pos rfl]
    obtain ⟨i, hi, hfi, hix⟩ := first_at (takes_4 ht rfl)
    have hcut : s.es.take i ++ s.es.drop (i + 1) = noE key s.es := by rw [noE_cut hi nd, hix]
    have hlen : (noE key s.es).length = i + (s.es.length - (i + 1)) := by rw [← hcut]; simp; omega
    rw [ht] at c ⊢
    rw [ea]
    refine FnM.introC Tryz.call259 Tryz.func259 rfl rfl ?_
    conv => whnf
    refine CallC.sca _ (c) ?_ ?_
    · exact rfl
    conv => whnf
    refine CallC.k [] hm rfl rfl (AVsle.refl _) trivial rfl ?_
    refine And.intro (inI64 (by omega) (by omega)) ?_
    have cf := l06First_fn { s with seq := s.seq + 1 } (by show s.es.length ≤ _; omega) 1
    rw [show fi (fun e : En => decide (e.tier = 1)) ({ s with seq := s.seq + 1 } : Sta).es = (i : Int) from hfi] at cf
    conv => whnf
    refine CallC.sca _ (cf) ?_ ?_
    · exact rfl
    refine DrawC.mkK 11 [(.inr 0, 5)] rfl (by kernel_rfl) ?_
    refine And.intro rfl ?_
    conv => whnf
    refine And.intro ⟨by omega, by omega⟩ ?_
    conv => whnf
    refine And.intro ⟨show (0 + ((i : Nat) : Int).toNat) * 40 ≤ 140737488355328 by omega, fun i hi => rfl⟩ ?_
    conv => whnf
    refine And.intro (inI64 (by omega) (by omega)) ?_
    conv => whnf
    refine And.intro ⟨by omega, by omega⟩ ?_
    conv => whnf
    refine And.intro ⟨show (0 + ((i : Nat) : Int).toNat + (s.es.length - (((i : Nat) : Int) + 1).toNat)) * 40 ≤ 140737488355328 by omega, fun i hi => rfl⟩ ?_
    refine And.intro ⟨show (s.ts.length + 1) * 24 ≤ 140737488355328 by omega, all1 rfl⟩ ?_
    refine And.intro ⟨show (0 : Int) ≤ 1 by omega, show (1 : Int) < ((3 : Nat) : Int) by omega⟩ ?_
    exact And.intro trivial ⟨[(15, 0), (17, 1)], rfl, AVle.refl _, ⟨MOle.arr (show 0 + ((i : Nat) : Int).toNat + (s.es.length - (((i : Nat) : Int) + 1).toNat) = (noE key s.es).length by omega) fun j hj => cut_rows hi (show (((i : Nat) : Int) + 1).toNat = i + 1 by omega) hcut (show 0 + ((i : Nat) : Int).toNat = i by omega) j (by have hj' : j < 0 + ((i : Nat) : Int).toNat + (s.es.length - (((i : Nat) : Int) + 1).toNat) := hj; omega), arr_next (f := Tb.row) rfl rfl, trivial⟩⟩
  · have ht : s.takes ⟨4, tok, 1, f, t, key⟩ = false := by simpa using ht
    have ea : s.app ⟨4, tok, 1, f, t, key⟩ = s.tick := by unfold Sta.app; rw [if_neg (by rw [ht]; simp)]
    rw [ht] at c ⊢
    rw [ea]
    refine FnM.introC Tryz.call259 Tryz.func259 rfl rfl ?_
    conv => whnf
    refine CallC.sca _ (c) ?_ ?_
    · exact rfl
    conv => whnf
    refine CallC.k [] hc rfl rfl (AVsle.refl _) trivial rfl ?_
    refine And.intro (inI64 (by omega) (by omega)) ?_
    exact And.intro trivial ⟨[(3, 0), (4, 1)], rfl, AVle.refl _, ⟨MOle.refl _, MOle.refl _, trivial⟩⟩
theorem specApply4_2 (s : Sta) (hL : s.es.length + s.ts.length < 4096) (hq : 0 ≤ s.seq ∧ s.seq < 999999) (tok f t : Int) (key : List UInt8) (hr : Rc.ok ⟨4, tok, 2, f, t, key⟩ = true) (nd : (s.es.map (·.key)).Nodup) :
    FnM Tryz.prog 259 0 [s.av, (Rc.mk 4 tok 2 f t key).av] [] (.tup [(s.app ⟨4, tok, 2, f, t, key⟩).own, .bool (s.takes ⟨4, tok, 2, f, t, key⟩)]) (s.app ⟨4, tok, 2, f, t, key⟩).objs 2 := by
  have c := l06Takes_fn s (by omega) (by omega) ⟨4, tok, 2, f, t, key⟩ hr
  have hc := l06Own_own s (by omega) (by omega)
  have hm := l06Own_mix s (by omega) (by omega)
  by_cases ht : s.takes ⟨4, tok, 2, f, t, key⟩ = true
  · have ea : s.app ⟨4, tok, 2, f, t, key⟩ = ({ s.tick with es := noE key s.es, ts := s.ts ++ [⟨s.seq + 1, key⟩] } : Sta).lower 2 t := by unfold Sta.app; rw [if_pos ht, if_neg (show ¬ ((4 : Int) = 1 ∨ (4 : Int) = 3) by decide), if_neg (show ¬ (4 : Int) = 2 by decide), if_pos rfl]
    obtain ⟨i, hi, hfi, hix⟩ := first_at (takes_4 ht rfl)
    have hcut : s.es.take i ++ s.es.drop (i + 1) = noE key s.es := by rw [noE_cut hi nd, hix]
    have hlen : (noE key s.es).length = i + (s.es.length - (i + 1)) := by rw [← hcut]; simp; omega
    rw [ht] at c ⊢
    rw [ea]
    refine FnM.introC Tryz.call259 Tryz.func259 rfl rfl ?_
    conv => whnf
    refine CallC.sca _ (c) ?_ ?_
    · exact rfl
    conv => whnf
    refine CallC.k [] hm rfl rfl (AVsle.refl _) trivial rfl ?_
    refine And.intro (inI64 (by omega) (by omega)) ?_
    have cf := l06First_fn { s with seq := s.seq + 1 } (by show s.es.length ≤ _; omega) 2
    rw [show fi (fun e : En => decide (e.tier = 2)) ({ s with seq := s.seq + 1 } : Sta).es = (i : Int) from hfi] at cf
    conv => whnf
    refine CallC.sca _ (cf) ?_ ?_
    · exact rfl
    refine DrawC.mkK 11 [(.inr 0, 5)] rfl (by kernel_rfl) ?_
    refine And.intro rfl ?_
    conv => whnf
    refine And.intro ⟨by omega, by omega⟩ ?_
    conv => whnf
    refine And.intro ⟨show (0 + ((i : Nat) : Int).toNat) * 40 ≤ 140737488355328 by omega, fun i hi => rfl⟩ ?_
    conv => whnf
    refine And.intro (inI64 (by omega) (by omega)) ?_
    conv => whnf
    refine And.intro ⟨by omega, by omega⟩ ?_
    conv => whnf
    refine And.intro ⟨show (0 + ((i : Nat) : Int).toNat + (s.es.length - (((i : Nat) : Int) + 1).toNat)) * 40 ≤ 140737488355328 by omega, fun i hi => rfl⟩ ?_
    refine And.intro ⟨show (s.ts.length + 1) * 24 ≤ 140737488355328 by omega, all1 rfl⟩ ?_
    refine And.intro ⟨show (0 : Int) ≤ 2 by omega, show (2 : Int) < ((3 : Nat) : Int) by omega⟩ ?_
    exact And.intro trivial ⟨[(15, 0), (17, 1)], rfl, AVle.refl _, ⟨MOle.arr (show 0 + ((i : Nat) : Int).toNat + (s.es.length - (((i : Nat) : Int) + 1).toNat) = (noE key s.es).length by omega) fun j hj => cut_rows hi (show (((i : Nat) : Int) + 1).toNat = i + 1 by omega) hcut (show 0 + ((i : Nat) : Int).toNat = i by omega) j (by have hj' : j < 0 + ((i : Nat) : Int).toNat + (s.es.length - (((i : Nat) : Int) + 1).toNat) := hj; omega), arr_next (f := Tb.row) rfl rfl, trivial⟩⟩
  · have ht : s.takes ⟨4, tok, 2, f, t, key⟩ = false := by simpa using ht
    have ea : s.app ⟨4, tok, 2, f, t, key⟩ = s.tick := by unfold Sta.app; rw [if_neg (by rw [ht]; simp)]
    rw [ht] at c ⊢
    rw [ea]
    refine FnM.introC Tryz.call259 Tryz.func259 rfl rfl ?_
    conv => whnf
    refine CallC.sca _ (c) ?_ ?_
    · exact rfl
    conv => whnf
    refine CallC.k [] hc rfl rfl (AVsle.refl _) trivial rfl ?_
    refine And.intro (inI64 (by omega) (by omega)) ?_
    exact And.intro trivial ⟨[(3, 0), (4, 1)], rfl, AVle.refl _, ⟨MOle.refl _, MOle.refl _, trivial⟩⟩
theorem specApply5 (s : Sta) (hL : s.es.length + s.ts.length < 4096) (hq : 0 ≤ s.seq ∧ s.seq < 999999) (tok tier f t : Int) (key : List UInt8) (hr : Rc.ok ⟨5, tok, tier, f, t, key⟩ = true) :
    FnM Tryz.prog 259 0 [s.av, (Rc.mk 5 tok tier f t key).av] [] (.tup [(s.app ⟨5, tok, tier, f, t, key⟩).own, .bool (s.takes ⟨5, tok, tier, f, t, key⟩)]) (s.app ⟨5, tok, tier, f, t, key⟩).objs 2 := by
  have c := l06Takes_fn s (by omega) (by omega) ⟨5, tok, tier, f, t, key⟩ hr
  have hc := l06Own_own s (by omega) (by omega)
  have hm := l06Own_mix s (by omega) (by omega)
  by_cases ht : s.takes ⟨5, tok, tier, f, t, key⟩ = true
  · have ea : s.app ⟨5, tok, tier, f, t, key⟩ = { s.tick with ts := noT key s.ts } := by unfold Sta.app; rw [if_pos ht, if_neg (show ¬ ((5 : Int) = 1 ∨ (5 : Int) = 3) by decide), if_neg (show ¬ (5 : Int) = 2 by decide), if_neg (show ¬ (5 : Int) = 4 by decide)]
    rw [ht] at c ⊢
    rw [ea]
    refine FnM.introC Tryz.call259 Tryz.func259 rfl rfl ?_
    conv => whnf
    refine CallC.sca _ (c) ?_ ?_
    · exact rfl
    conv => whnf
    refine CallC.k [] hc rfl rfl (AVsle.refl _) trivial rfl ?_
    refine And.intro (inI64 (by omega) (by omega)) ?_
    have hle : ∀ i, (noT key (s.ts.take i)).length ≤ i := fun i => Nat.le_trans (noT_len key _) (by simp; omega)
    refine LoopC.mk (fun i : Nat => i ≤ s.ts.length) (fun i => [(2, .bptr 0 0), (3, .bptr 1 0), (4, .bptr 2 0), (8, .osl 5), (9, .int .i64 i)])
      (fun i => [(0, .box [.int .i64 (s.seq + 1), .int .i64 s.fence, .osl 3, .osl 4, .int .i64 s.l0, .int .i64 s.l1, .int .i64 s.l2, .int .i64 s.h0, .int .i64 s.h1, .int .i64 s.h2]), (1, .box (Rc.mk 5 tok tier f t key).row), (2, .box sta0.nrow), (3, .arr 65 4 s.es.length fun i => (ix s.es i).row), (4, .arr 226 2 s.ts.length fun i => (ix s.ts i).row), (5, .arr 226 2 (noT key (s.ts.take i)).length fun j => (ix (noT key (s.ts.take i)) j).row)]) 6 (fun i => s.ts.length - i) 0
      ⟨Nat.zero_le _, [(0, 0), (1, 1), (2, 2), (3, 3), (4, 4), (5, 5)], rfl, rfl, ⟨AVle.refl _, AVle.refl _, AVle.refl _, AVle.refl _, AVle.refl _, trivial⟩, ⟨MOle.refl _, MOle.refl _, MOle.refl _, MOle.refl _, MOle.refl _, MOle.arr rfl fun i hi => absurd hi (Nat.not_lt_zero i), trivial⟩⟩ ?_
    intro i hi
    refine Grd.intro (fun h2 => ?_) (fun h2 => ?_)
    · have hin : i < s.ts.length := by have := of_decide_eq_true h2; omega
      have hsn : noT key (s.ts.take (i + 1)) = _ := filter_snoc (p := fun e : Tb => !decide (e.key = key)) hin
      refine DrawC.mk 9 rfl (by kernel_rfl) ?_
      refine And.intro (by omega) ?_
      refine Grd.intro (fun h3 => ?_) (fun h3 => ?_)
      · have h3 : (!((B (ix s.ts i).key).toList == (B key).toList)) = true := h3
        rw [B_eq] at h3
        rw [if_pos h3] at hsn
        have := hle i
        refine And.intro (by omega) ?_
        refine And.intro ⟨show ((noT key (s.ts.take i)).length + 1) * 24 ≤ 140737488355328 by omega, all1 rfl⟩ ?_
        refine And.intro (inI64 (by omega) (by omega)) ?_
        refine ⟨i + 1, hin, by omega, [(0, 0), (1, 1), (2, 2), (3, 3), (4, 4), (16, 5)], rfl, rfl, ⟨AVle.refl _, AVle.refl _, AVle.refl _, AVle.refl _, AVle.of_eq (congrArg (AV.int .i64) (by simp)), trivial⟩, ⟨MOle.refl _, MOle.refl _, MOle.refl _, MOle.refl _, MOle.refl _, arr_next (f := Tb.row) hsn rfl, trivial⟩⟩
      · have h3 : (!((B (ix s.ts i).key).toList == (B key).toList)) = false := h3
        rw [B_eq] at h3
        rw [if_neg (by rw [h3]; simp)] at hsn
        refine And.intro (inI64 (by omega) (by omega)) ?_
        refine ⟨i + 1, hin, by omega, [(0, 0), (1, 1), (2, 2), (3, 3), (4, 4), (5, 5)], rfl, rfl, ⟨AVle.refl _, AVle.refl _, AVle.refl _, AVle.refl _, AVle.of_eq (congrArg (AV.int .i64) (by simp)), trivial⟩, ⟨MOle.refl _, MOle.refl _, MOle.refl _, MOle.refl _, MOle.refl _, MOle.of_eq (show MO.arr 226 2 (noT key (s.ts.take i)).length (fun j => (ix (noT key (s.ts.take i)) j).row) = _ by rw [hsn]; rfl), trivial⟩⟩
    · have : i = s.ts.length := by have := of_decide_eq_false h2; omega
      subst this
      have eT : noT key (s.ts.take s.ts.length) = noT key s.ts := by rw [List.take_of_length_le (Nat.le_refl _)]
      exact And.intro trivial ⟨[(3, 0), (5, 1)], rfl, AVle.refl _, ⟨MOle.refl _, MOle.of_eq (show MO.arr 226 2 (noT key (s.ts.take s.ts.length)).length (fun j => (ix (noT key (s.ts.take s.ts.length)) j).row) = _ by rw [eT]), trivial⟩⟩
  · have ht : s.takes ⟨5, tok, tier, f, t, key⟩ = false := by simpa using ht
    have ea : s.app ⟨5, tok, tier, f, t, key⟩ = s.tick := by unfold Sta.app; rw [if_neg (by rw [ht]; simp)]
    rw [ht] at c ⊢
    rw [ea]
    refine FnM.introC Tryz.call259 Tryz.func259 rfl rfl ?_
    conv => whnf
    refine CallC.sca _ (c) ?_ ?_
    · exact rfl
    conv => whnf
    refine CallC.k [] hc rfl rfl (AVsle.refl _) trivial rfl ?_
    refine And.intro (inI64 (by omega) (by omega)) ?_
    exact And.intro trivial ⟨[(3, 0), (4, 1)], rfl, AVle.refl _, ⟨MOle.refl _, MOle.refl _, trivial⟩⟩
theorem l06Apply_own (s : Sta) (hL : s.es.length + s.ts.length < 4096) (hq : 0 ≤ s.seq ∧ s.seq < 999999) (nd : s.keys.Nodup) (r : Rc) (hr : r.ok = true) :
    FnM Tryz.prog 259 0 [s.av, r.av] [] (.tup [(s.app r).own, .bool (s.takes r)]) (s.app r).objs 2 := by
  have nde : (s.es.map (·.key)).Nodup := (List.nodup_append.1 nd).1
  obtain ⟨k, tok, tier, f, t, key⟩ := r
  rcases kinds hr with ⟨rfl, rfl⟩ | rfl | ⟨rfl, h, hf⟩ | ⟨rfl, h⟩ | rfl
  · exact specApply1 s hL hq tok f t key hr
  · exact specApply2 s hL hq tok tier f t key hr
  · rcases h with rfl | rfl
    · exact specApply3_1 s hL hq tok f t key hr
    · exact specApply3_2 s hL hq tok f t key hr
  · rcases h with rfl | rfl | rfl
    · exact specApply4_0 s hL hq tok f t key hr nde
    · exact specApply4_1 s hL hq tok f t key hr nde
    · exact specApply4_2 s hL hq tok f t key hr nde
  · exact specApply5 s hL hq tok tier f t key hr
theorem l06Apply_fn (s : Sta) (hL : s.es.length + s.ts.length < 4096) (hq : 0 ≤ s.seq ∧ s.seq < 999999) (nd : s.keys.Nodup) (r : Rc) (hr : r.ok = true) : VFn Tryz.prog 259 [s.av, r.av] (.tup [(s.app r).av, .bool (s.takes r)]) := (l06Apply_own s hL hq nd r hr).vfn
end Go.Proofs.YtbphkhlgcneapaaGreatDoor
set_option linter.unusedVariables false
set_option linter.constructorNameAsVariable false
set_option linter.unusedSimpArgs false
set_option maxRecDepth 20000
namespace Go.Proofs.YtbphkhlgcneapaaGreatDoor
open Go Go.Vw

theorem alloc_new (w : World) (o : Obj) : (w.alloc o).heap[w.heap.size]? = some o ∧ (w.alloc o).heap.size = w.heap.size + 1 := by
  unfold World.alloc; simp
theorem SplitN_fn (l : List UInt8) (c : UInt8) (m : Nat) (hl : l.length < 4294967281) (hm : m ≤ 1000000) : VFn Tryz.prog 253 [.str (B l), .str (B [c]), .int .i64 ((m + 1 : Nat) : Int)] (txts (Lib.splitN l [c] (m + 1))) := by
  refine ⟨Tryz.call253, fun w ok vs hJ hok hv => ?_⟩
  obtain ⟨v, us, rfl, hv, v2, us2, rfl, hv2, v3, us3, rfl, hv3, hus⟩ := hv
  have e1 : v = .string (B l) := hv
  have e2 : v2 = .string (B [c]) := hv2
  have e3 : v3 = .int .i64 ((m + 1 : Nat) : Int) := hv3
  have e4 : us3 = [] := hus
  subst e1 e2 e3 e4
  obtain ⟨mv, hmv⟩ := tab_maxlen hJ
  have hd := Lib.splitB_data (B [c]) 0 (min (m + 1) ((B l).size + 1) - 1) (B l)
  have hle := Lib.splitB_length_le (B [c]) 0 (min (m + 1) ((B l).size + 1) - 1) (B l)
  refine (Tryz.strings_SplitN (B l) (B [c]) (m + 1) mv w (by rw [B_size]; exact hl) hmv (by rw [B_size]; exact Nat.le_refl 1) (by omega) (by omega)).mono ?_
  rintro e w' ⟨rfl, rfl⟩
  generalize Lib.splitB (B [c]) 0 (min (m + 1) ((B l).size + 1) - 1) (B l) = S at hd hle
  rw [B_data, B_data, B_size] at hd
  have hR : Lib.splitN l [c] (m + 1) = S.map (·.data.toList) := hd.symm
  have hlen : (Lib.splitN l [c] (m + 1)).length = S.length := by rw [hR]; simp
  have bel := (Go.RowKit.Below.refl w.heap.size w).alloc (Nat.le_refl _) (.cells (Lib.cellsOf S (min (m + 1) ((B l).size + 1))) 9)
  obtain ⟨hnew, hsz⟩ := alloc_new w (.cells (Lib.cellsOf S (min (m + 1) ((B l).size + 1))) 9)
  refine ⟨_, rfl, ⟨bel.os, bel.tape, bel.output, bel.size, fun b hb _ => bel.block b hb⟩, ?_⟩
  show RV _ _ G0 (.sl 1 (Lib.splitN l [c] (m + 1)).length fun i => [.str (B (ix (Lib.splitN l [c] (m + 1)) i))]) _
  rw [hlen]
  refine ⟨_, _, rfl, by omega, .inr ⟨w.heap.size, 0, rfl, .inr ⟨Nat.le_refl _, by rw [hsz]; omega⟩, fun i hi => ⟨[.string S[i]], rfl, ⟨_, _, rfl, ?_, rfl⟩, fun j hj => ?_⟩⟩⟩
  · show Value.string _ = Value.string _
    rw [hR, ix_lt (by simpa using hi)]
    simp [B]
  · have : j = 0 := by omega
    subst this
    rw [Nat.zero_add, Nat.mul_one, Nat.add_zero, cell_of_row _ _ _ _ _ _ hnew]
    simp [Lib.cellsOf, List.getElem?_append_left, hi]
theorem atoi_range (t : List UInt8) : -9223372036854775808 ≤ atoiV t ∧ atoiV t ≤ 9223372036854775807 := by
  rcases atoi_end t with ⟨_, h⟩ | ⟨_, h, e⟩ | ⟨_, h, e⟩
  · generalize atoiV t = v at h
    unfold Lib.atoiAll at h
    cases t with
    | nil => cases h
    | cons c r =>
      simp only at h
      split at h
      · cases h
      · cases h
      · split at h
        · cases h
        · split at h
          · cases h
          · injection h with h
            subst h
            split <;> omega
  · rw [e]; decide
  · rw [e]; unfold Lib.atoiSat; split <;> decide
theorem number_fn (t : List UInt8) (hl : t.length ≤ 281474976710656) : VFn Tryz.prog 189 [.str (B t)] (.tup [.int .i64 (atoiV t), .bool (numOk t)]) := by
  refine VFn.introC Tryz.call189 Tryz.func189 rfl rfl ?_
  by_cases ho : atoiOk t = true
  · conv => whnf
    refine CallC.sca _ (Atoi_ok t hl ho) ?_ ?_
    · exact rfl
    have hb := atoi_range t
    conv => whnf
    refine CallC.sca _ (Itoa_fn (atoiV t) hb.1 hb.2) ?_ ?_
    · exact rfl
    refine Grd.intro (fun h => ?_) (fun h => ?_)
    · have h : ((B (Lib.itoa (atoiV t))).toList == (B t).toList) = true := h
      rw [B_eq] at h
      conv => whnf
      refine CallC.sca _ (within_fn _ _ _) ?_ ?_
      · exact rfl
      refine And.intro trivial (AVle.of_eq (show AV.tup [.int .i64 (atoiV t), .bool (within (atoiV t) (-999999999999999999) 999999999999999999)] = _ from ?_))
      unfold numOk; rw [ho, h]; rfl
    · have h : ((B (Lib.itoa (atoiV t))).toList == (B t).toList) = false := h
      rw [B_eq] at h
      refine And.intro trivial (AVle.of_eq (show AV.tup [.int .i64 (atoiV t), .bool false] = _ from ?_))
      unfold numOk; rw [ho, h]; rfl
  · have ho : atoiOk t = false := by simpa using ho
    conv => whnf
    refine CallC.sca _ (Atoi_no t hl ho) ?_ ?_
    · exact rfl
    refine And.intro trivial (AVle.of_eq (show AV.tup [.int .i64 (atoiV t), .bool false] = _ from ?_))
    unfold numOk; rw [ho]; rfl
theorem cutP_piece (c : UInt8) : ∀ (l cur : List UInt8), ∀ x ∈ cutP c cur l, x.length ≤ cur.length + l.length
  | [], cur, x, hx => by simp [cutP] at hx; rw [hx]; simp
  | y :: r, cur, x, hx => by
    unfold cutP at hx
    split at hx
    · rcases List.mem_cons.1 hx with rfl | hx
      · simp
      · have := cutP_piece c r [] x hx; simp at this ⊢; omega
    · have := cutP_piece c r (cur ++ [y]) x hx; simp at this ⊢; omega
theorem numbers_gen (t : List UInt8) (c : UInt8) (m : Nat) (hl : t.length ≤ 1000000000) (hm : m ≤ 1000000) (R : AV) (hy : ∀ N, numsK c m t = some N → R = .tup [ints N, .bool true]) (hn : numsK c m t = none → R = .tup [.nilsl, .bool false]) :
    VFn Tryz.prog 191 [.str (B t), .str (B [c]), .int .i64 (m : Int)] R := by
  have hsl := splitN_len c t m
  refine VFn.introC Tryz.call191 Tryz.func191 rfl rfl ?_
  refine And.intro (inI64 (by omega) (by omega)) ?_
  conv => whnf
  refine CallC.nl _ (SplitN_fn t c m (by omega) hm) ?_ ?_
  · exact rfl
  refine Grd.intro (fun h1 => ?_) (fun h1 => ?_)
  · have h1 : ¬ (Lib.splitN t [c] (m + 1)).length = m := by
      have h : (!decide ((((Lib.splitN t [c] (m + 1)).length : Nat) : Int) = (m : Int))) = true := h1
      simp at h; omega
    rw [hn (by unfold numsK; rw [if_neg (fun h => h1 (hsl.2 h.1))])]
    exact And.intro trivial (AVle.refl _)
  have h1 : (Lib.splitN t [c] (m + 1)).length = m := by
    have h : (!decide ((((Lib.splitN t [c] (m + 1)).length : Nat) : Int) = (m : Int))) = false := h1
    simp at h; omega
  have hcm := hsl.1 h1
  rw [splitN_eq c t m hcm]
  have hcl := cutP_len c t []
  have hpl : ∀ x ∈ cutP c [] t, x.length ≤ t.length := fun x hx => by have := cutP_piece c t [] x hx; simpa using this
  obtain ⟨P, hP⟩ : ∃ P, P = cutP c [] t := ⟨_, rfl⟩
  rw [← hP]
  rw [← hP] at hcm hcl hpl
  have hK : numsK c m t = if P.all numOk = true then some (P.map atoiV) else none := by
    unfold numsK; rw [← hP]
    by_cases h : P.all numOk = true
    · rw [if_pos ⟨hcm, h⟩, if_pos h]
    · rw [if_neg (fun q => h q.2), if_neg h]
  refine LoopC.mk (fun i : Nat => i ≤ P.length ∧ ∀ j, j < i → numOk (ix P j) = true) (fun i => [(9, .osl 0), (24, txts P), (25, .int .i64 P.length), (26, .int .i64 i)])
    (fun i => [(0, .arr 3 1 ((P.take i).map atoiV).length fun j => [.int .i64 (ix ((P.take i).map atoiV) j)])]) 1 (fun i => P.length - i) 0
    ⟨⟨Nat.zero_le _, fun j hj => absurd hj (Nat.not_lt_zero j)⟩, [(0, 0)], rfl, rfl, ⟨AVle.refl _, AVle.refl _, AVle.refl _, AVle.refl _, trivial⟩, ⟨MOle.arr rfl fun i hi => absurd hi (Nat.not_lt_zero i), trivial⟩⟩ ?_
  intro i hi
  obtain ⟨hi, hall⟩ := hi
  refine Grd.intro (fun h2 => ?_) (fun h2 => ?_)
  · have hin : i < P.length := by have := of_decide_eq_true h2; omega
    refine And.intro (by omega) ?_
    conv => whnf
    refine CallC.sca _ (number_fn (ix P i) (by have := hpl _ (getD_mem hin); omega)) ?_ ?_
    · exact rfl
    refine Grd.intro (fun h3 => ?_) (fun h3 => ?_)
    · have h3 : numOk (ix P i) = false := by simpa using (show (!numOk (ix P i)) = true from h3)
      have : ¬ P.all numOk = true := fun h => by rw [List.all_eq_true.1 h _ (getD_mem hin)] at h3; cases h3
      rw [hn (by rw [hK, if_neg this])]
      exact And.intro trivial (AVle.refl _)
    have h3 : numOk (ix P i) = true := by simpa using (show (!numOk (ix P i)) = false from h3)
    refine And.intro ⟨show (((P.take i).map atoiV).length + 1) * 8 ≤ 140737488355328 by simp; omega, all1 rfl⟩ ?_
    refine And.intro (inI64 (by omega) (by omega)) ?_
    refine ⟨i + 1, ⟨hin, fun j hj => ?_⟩, by omega, [(2, 0)], rfl, rfl, ⟨AVle.refl _, AVle.refl _, AVle.refl _, AVle.of_eq (congrArg (AV.int .i64) (by simp)), trivial⟩, ⟨arr_next (f := fun x => [.int .i64 x]) (map_take_snoc hin) rfl, trivial⟩⟩
    rcases Nat.lt_or_ge j i with h' | h'
    · exact hall j h'
    · rw [show j = i by omega]; exact h3
  · have : i = P.length := by have := of_decide_eq_false h2; omega
    subst this
    have e : P.take P.length = P := List.take_of_length_le (Nat.le_refl _)
    have hA : P.all numOk = true := List.all_eq_true.2 fun x hx => by
      obtain ⟨j, hj, q⟩ := List.getElem_of_mem hx
      have := hall j hj
      rw [ix_lt hj, q] at this; exact this
    rw [hy _ (by rw [hK, if_pos hA]), e]
    exact And.intro trivial (AVle.refl _)
theorem numbers_yes (t : List UInt8) (c : UInt8) (m : Nat) (hl : t.length ≤ 1000000000) (hm : m ≤ 1000000) {N : List Int} (h : numsK c m t = some N) : VFn Tryz.prog 191 [.str (B t), .str (B [c]), .int .i64 (m : Int)] (.tup [ints N, .bool true]) :=
  numbers_gen t c m hl hm _ (fun N' h' => by rw [h] at h'; cases h'; rfl) (fun h' => by rw [h] at h'; cases h')
theorem numbers_no (t : List UInt8) (c : UInt8) (m : Nat) (hl : t.length ≤ 1000000000) (hm : m ≤ 1000000) (h : numsK c m t = none) : VFn Tryz.prog 191 [.str (B t), .str (B [c]), .int .i64 (m : Int)] (.tup [.nilsl, .bool false]) :=
  numbers_gen t c m hl hm _ (fun N' h' => by rw [h] at h'; cases h') (fun h' => rfl)
end Go.Proofs.YtbphkhlgcneapaaGreatDoor
