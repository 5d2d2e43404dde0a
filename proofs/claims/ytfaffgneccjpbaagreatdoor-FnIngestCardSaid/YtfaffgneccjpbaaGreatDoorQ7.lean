/- Contracts of functions that the claim reaches, and the plain law of what they compute; each theorem bears its own conditions. -/
import Derived.Test.YtfaffgneccjpbaaGreatDoorQ6
import Derived.Test.YtfaffgneccjpbaaGreatDoorQ5
import Derived.Test.YtfaffgneccjpbaaGreatDoorQ4
import Derived.Test.YtfaffgneccjpbaaGreatDoorV50
set_option linter.unusedVariables false
set_option linter.constructorNameAsVariable false
set_option linter.unusedSimpArgs false
set_option maxRecDepth 20000
namespace Go.Proofs.YtfaffgneccjpbaaGreatDoor
open Go Go.Vw

end Go.Proofs.YtfaffgneccjpbaaGreatDoor
set_option linter.unusedVariables false
set_option linter.constructorNameAsVariable false
set_option linter.unusedSimpArgs false
set_option maxRecDepth 20000
namespace Go.Proofs.YtfaffgneccjpbaaGreatDoor
open Go Go.Vw

theorem CloneEn_own (L : List En) (hL : L.length ≤ 1000000) : FnM Tryz.prog 103 0 [ents L] [] (.osl 0) [(0, .arr 35 4 L.length fun i => (ix L i).row)] 1 := by
  refine FnM.introN Tryz.call103 Tryz.func103 rfl rfl ?_
  conv => whnf
  refine OpC.isnil rfl rfl rfl rfl rfl (fun h0 => ?_) ?_
  · conv => whnf
    exact ⟨_, .inr ⟨2, 35, 4, fun i => (ix L i).row, rfl, rfl⟩, And.intro trivial ⟨[(0, 0)], rfl, AVle.refl _, ⟨MOle.arr h0.symm fun i hi => rfl, trivial⟩⟩⟩
  · conv => whnf
    refine And.intro ⟨show (0 + L.length) * 40 ≤ 140737488355328 by omega, fun i hi => rfl⟩ ?_
    conv => whnf
    exact ⟨_, .inl rfl, And.intro trivial ⟨[(1, 0)], rfl, AVle.refl _, ⟨MOle.arr (Nat.zero_add _) fun i hi => appRows_ge (Nat.zero_le _), trivial⟩⟩⟩
theorem CloneTb_own (L : List Tb) (hL : L.length ≤ 1000000) : FnM Tryz.prog 170 0 [tbs L] [] (.osl 0) [(0, .arr 136 2 L.length fun i => (ix L i).row)] 1 := by
  refine FnM.introN Tryz.call170 Tryz.func170 rfl rfl ?_
  conv => whnf
  refine OpC.isnil rfl rfl rfl rfl rfl (fun h0 => ?_) ?_
  · conv => whnf
    exact ⟨_, .inr ⟨2, 136, 2, fun i => (ix L i).row, rfl, rfl⟩, And.intro trivial ⟨[(0, 0)], rfl, AVle.refl _, ⟨MOle.arr h0.symm fun i hi => rfl, trivial⟩⟩⟩
  · conv => whnf
    refine And.intro ⟨show (0 + L.length) * 24 ≤ 140737488355328 by omega, fun i hi => rfl⟩ ?_
    conv => whnf
    exact ⟨_, .inl rfl, And.intro trivial ⟨[(1, 0)], rfl, AVle.refl _, ⟨MOle.arr (Nat.zero_add _) fun i hi => appRows_ge (Nat.zero_le _), trivial⟩⟩⟩
abbrev Sta.objs (s : Sta) : List (Nat × MO) := [(0, .arr 35 4 s.es.length fun i => (ix s.es i).row), (1, .arr 136 2 s.ts.length fun i => (ix s.ts i).row)]
theorem copiedS_own (s : Sta) (hL : s.es.length ≤ 1000000) (hT : s.ts.length ≤ 1000000) : FnM Tryz.prog 149 0 [s.av] [] s.own s.objs 2 := by
  refine FnM.introC Tryz.call149 Tryz.func149 rfl rfl ?_
  refine DrawC.mk 7 rfl (by kernel_rfl) ?_
  conv => whnf
  refine PCallC.own (CloneEn_own s.es hL) rfl (fun i hi => rfl) ?_
  conv => whnf
  refine PCallC.own (CloneTb_own s.ts hT) rfl (fun i hi => rfl) ?_
  exact And.intro trivial ⟨[(4, 0), (7, 1)], rfl, AVle.refl _, ⟨MOle.refl _, MOle.refl _, trivial⟩⟩
end Go.Proofs.YtfaffgneccjpbaaGreatDoor
set_option linter.unusedVariables false
set_option linter.constructorNameAsVariable false
set_option linter.unusedSimpArgs false
set_option maxRecDepth 20000
namespace Go.Proofs.YtfaffgneccjpbaaGreatDoor
open Go Go.Vw

theorem headIs_cells (x : En) (r : List En) (k f t : Int) (key : List UInt8) : headIs (x :: r) ⟨k, f, t, key⟩ = (decide (x.tier = k) && (decide (x.f = f) && (decide (x.t = t) && (((B x.key).toList == (B key).toList) && true)))) := by
  rw [B_eq, Bool.and_true]
  show decide (x = ⟨k, f, t, key⟩) = _
  obtain ⟨a, b, c, d⟩ := x
  rw [Bool.eq_iff_iff]
  simp
set_option maxHeartbeats 1000000 in
theorem takes4_0 (s : Sta) (hL : s.es.length ≤ 1000000000) (tok f t : Int) (key : List UInt8) : VFn Tryz.prog 148 [s.av, (Rc.mk 4 tok 0 f t key).av] (.bool (s.takes ⟨4, tok, 0, f, t, key⟩)) := by
  obtain ⟨R, hR⟩ : ∃ R, R = ofT s.es 0 := ⟨_, rfl⟩
  have e : s.takes ⟨4, tok, 0, f, t, key⟩ = (decide (tok = s.fence) && (headIs R ⟨0, f, t, key⟩ && decide (t ≤ s.h1))) := by rw [hR]; exact rfl
  rw [e]
  have c := ofS_fn s hL 0
  rw [← hR] at c
  have ce := entry_fn ⟨4, tok, 0, f, t, key⟩
  refine VFn.introC Tryz.call148 Tryz.func148 rfl rfl ?_
  conv => whnf
  refine CallC.nl _ (c) ?_ ?_
  · exact rfl
  cases R with
  | nil =>
    refine DrawC.mk 36 rfl (by kernel_rfl) ?_
    repeat' (first
      | refine Grd.intro (fun h => ?_) (fun h => ?_)
      | ((conv => whnf); refine Grd.intro (fun h => ?_) (fun h => ?_))
      | refine And.intro (inI64 (by (try simp only); omega) (by (try simp only); omega)) ?_
      | refine And.intro trivial (AVle.of_eq (congrArg AV.bool ?_)))
    all_goals (show false = (_ && (false&& _)); simp)
  | cons x r =>
    have hH : headIs (x :: r) ⟨0, f, t, key⟩ = (decide ((ix (x :: r) (Int.toNat 0)).tier = 0) && (decide ((ix (x :: r) (Int.toNat 0)).f = f) && (decide ((ix (x :: r) (Int.toNat 0)).t = t) && (((B (ix (x :: r) (Int.toNat 0)).key).toList == (B key).toList) && true)))) := headIs_cells x r 0 f t key
    refine DrawC.mk 36 rfl (by kernel_rfl) ?_
    repeat' (first
      | refine Grd.intro (fun h => ?_) (fun h => ?_)
      | ((conv => whnf); refine Grd.intro (fun h => ?_) (fun h => ?_))
      | refine PCallC.sca _ ce rfl ?_
      | refine And.intro ⟨Int.le_refl 0, show (0 : Int) < (((x :: r).length : Nat) : Int) by rw [List.length_cons]; omega⟩ ?_
      | refine And.intro (show eqGB _ _ = true from by kernel_rfl) ?_
      | refine And.intro (inI64 (by (try simp only); omega) (by (try simp only); omega)) ?_
      | refine And.intro ⟨show (0 : Int) ≤ 1 by omega, show (1 : Int) < ((3 : Nat) : Int) by omega⟩ ?_
      | refine And.intro ⟨show (0 : Int) ≤ 2 by omega, show (2 : Int) < ((3 : Nat) : Int) by omega⟩ ?_
      | refine And.intro trivial (AVle.of_eq (congrArg AV.bool ?_)))
    all_goals (clear hR e c ce; rw [hH]; simp_all)
set_option maxHeartbeats 1000000 in
theorem takes4_1 (s : Sta) (hL : s.es.length ≤ 1000000000) (tok f t : Int) (key : List UInt8) : VFn Tryz.prog 148 [s.av, (Rc.mk 4 tok 1 f t key).av] (.bool (s.takes ⟨4, tok, 1, f, t, key⟩)) := by
  obtain ⟨R, hR⟩ : ∃ R, R = ofT s.es 1 := ⟨_, rfl⟩
  have e : s.takes ⟨4, tok, 1, f, t, key⟩ = (decide (tok = s.fence) && (headIs R ⟨1, f, t, key⟩ && decide (t ≤ s.h2))) := by rw [hR]; exact rfl
  rw [e]
  have c := ofS_fn s hL 1
  rw [← hR] at c
  have ce := entry_fn ⟨4, tok, 1, f, t, key⟩
  refine VFn.introC Tryz.call148 Tryz.func148 rfl rfl ?_
  conv => whnf
  refine CallC.nl _ (c) ?_ ?_
  · exact rfl
  cases R with
  | nil =>
    refine DrawC.mk 36 rfl (by kernel_rfl) ?_
    repeat' (first
      | refine Grd.intro (fun h => ?_) (fun h => ?_)
      | ((conv => whnf); refine Grd.intro (fun h => ?_) (fun h => ?_))
      | refine And.intro (inI64 (by (try simp only); omega) (by (try simp only); omega)) ?_
      | refine And.intro trivial (AVle.of_eq (congrArg AV.bool ?_)))
    all_goals (show false = (_ && (false&& _)); simp)
  | cons x r =>
    have hH : headIs (x :: r) ⟨1, f, t, key⟩ = (decide ((ix (x :: r) (Int.toNat 0)).tier = 1) && (decide ((ix (x :: r) (Int.toNat 0)).f = f) && (decide ((ix (x :: r) (Int.toNat 0)).t = t) && (((B (ix (x :: r) (Int.toNat 0)).key).toList == (B key).toList) && true)))) := headIs_cells x r 1 f t key
    refine DrawC.mk 36 rfl (by kernel_rfl) ?_
    repeat' (first
      | refine Grd.intro (fun h => ?_) (fun h => ?_)
      | ((conv => whnf); refine Grd.intro (fun h => ?_) (fun h => ?_))
      | refine PCallC.sca _ ce rfl ?_
      | refine And.intro ⟨Int.le_refl 0, show (0 : Int) < (((x :: r).length : Nat) : Int) by rw [List.length_cons]; omega⟩ ?_
      | refine And.intro (show eqGB _ _ = true from by kernel_rfl) ?_
      | refine And.intro (inI64 (by (try simp only); omega) (by (try simp only); omega)) ?_
      | refine And.intro ⟨show (0 : Int) ≤ 1 by omega, show (1 : Int) < ((3 : Nat) : Int) by omega⟩ ?_
      | refine And.intro ⟨show (0 : Int) ≤ 2 by omega, show (2 : Int) < ((3 : Nat) : Int) by omega⟩ ?_
      | refine And.intro trivial (AVle.of_eq (congrArg AV.bool ?_)))
    all_goals (clear hR e c ce; rw [hH]; simp_all)
set_option maxHeartbeats 1000000 in
theorem takes4_2 (s : Sta) (hL : s.es.length ≤ 1000000000) (tok f t : Int) (key : List UInt8) : VFn Tryz.prog 148 [s.av, (Rc.mk 4 tok 2 f t key).av] (.bool (s.takes ⟨4, tok, 2, f, t, key⟩)) := by
  obtain ⟨R, hR⟩ : ∃ R, R = ofT s.es 2 := ⟨_, rfl⟩
  have e : s.takes ⟨4, tok, 2, f, t, key⟩ = (decide (tok = s.fence) && (headIs R ⟨2, f, t, key⟩)) := by rw [hR]; exact (show (decide (tok = s.fence) && (headIs (ofT s.es 2) ⟨2, f, t, key⟩ && true)) = _ by rw [Bool.and_true])
  rw [e]
  have c := ofS_fn s hL 2
  rw [← hR] at c
  have ce := entry_fn ⟨4, tok, 2, f, t, key⟩
  refine VFn.introC Tryz.call148 Tryz.func148 rfl rfl ?_
  conv => whnf
  refine CallC.nl _ (c) ?_ ?_
  · exact rfl
  cases R with
  | nil =>
    refine DrawC.mk 36 rfl (by kernel_rfl) ?_
    repeat' (first
      | refine Grd.intro (fun h => ?_) (fun h => ?_)
      | ((conv => whnf); refine Grd.intro (fun h => ?_) (fun h => ?_))
      | refine And.intro (inI64 (by (try simp only); omega) (by (try simp only); omega)) ?_
      | refine And.intro trivial (AVle.of_eq (congrArg AV.bool ?_)))
    all_goals (show false = (_ && (false)); simp)
  | cons x r =>
    have hH : headIs (x :: r) ⟨2, f, t, key⟩ = (decide ((ix (x :: r) (Int.toNat 0)).tier = 2) && (decide ((ix (x :: r) (Int.toNat 0)).f = f) && (decide ((ix (x :: r) (Int.toNat 0)).t = t) && (((B (ix (x :: r) (Int.toNat 0)).key).toList == (B key).toList) && true)))) := headIs_cells x r 2 f t key
    refine DrawC.mk 36 rfl (by kernel_rfl) ?_
    repeat' (first
      | refine Grd.intro (fun h => ?_) (fun h => ?_)
      | ((conv => whnf); refine Grd.intro (fun h => ?_) (fun h => ?_))
      | refine PCallC.sca _ ce rfl ?_
      | refine And.intro ⟨Int.le_refl 0, show (0 : Int) < (((x :: r).length : Nat) : Int) by rw [List.length_cons]; omega⟩ ?_
      | refine And.intro (show eqGB _ _ = true from by kernel_rfl) ?_
      | refine And.intro (inI64 (by (try simp only); omega) (by (try simp only); omega)) ?_
      | refine And.intro ⟨show (0 : Int) ≤ 1 by omega, show (1 : Int) < ((3 : Nat) : Int) by omega⟩ ?_
      | refine And.intro ⟨show (0 : Int) ≤ 2 by omega, show (2 : Int) < ((3 : Nat) : Int) by omega⟩ ?_
      | refine And.intro trivial (AVle.of_eq (congrArg AV.bool ?_)))
    all_goals (clear hR e c ce; rw [hH]; simp_all)
end Go.Proofs.YtfaffgneccjpbaaGreatDoor
set_option linter.unusedVariables false
set_option linter.constructorNameAsVariable false
set_option linter.unusedSimpArgs false
set_option maxRecDepth 20000
namespace Go.Proofs.YtfaffgneccjpbaaGreatDoor
open Go Go.Vw

theorem noE_any {s : Sta} {r : Rc} (h : headIs (ofT s.es r.tier) r.en = true) : s.es.any (fun e => decide (e.key = r.key)) = true := List.any_eq_true.2 ⟨r.en, headIs_mem h, decide_eq_true rfl⟩
theorem applyE_fn (e : En) (row : Rc) : VFn Tryz.prog 151 [e.av, .eptr row.row 0] (.bool (decide (e.key = row.key))) := by
  refine VFn.introC Tryz.call151 Tryz.func151 rfl rfl ?_
  exact And.intro trivial (AVle.of_eq (congrArg AV.bool (show ((B e.key).toList == (B row.key).toList) = _ from B_eq)))
theorem applyT_fn (e : Tb) (row : Rc) : VFn Tryz.prog 153 [e.av, .eptr row.row 0] (.bool (decide (e.key = row.key))) := by
  refine VFn.introC Tryz.call153 Tryz.func153 rfl rfl ?_
  exact And.intro trivial (AVle.of_eq (congrArg AV.bool (show ((B e.key).toList == (B row.key).toList) = _ from B_eq)))
theorem apply1 (s : Sta) (hL : s.es.length + s.ts.length < 4096) (hq : 0 ≤ s.seq ∧ s.seq < 999999) (tok f t : Int) (key : List UInt8) :
    FnM Tryz.prog 124 0 [s.av, (Rc.mk 1 tok 0 f t key).av] [] (.tup [(s.app ⟨1, tok, 0, f, t, key⟩).own, .bool (s.takes ⟨1, tok, 0, f, t, key⟩), .int .i64 0]) (s.app ⟨1, tok, 0, f, t, key⟩).objs 2 := by
  have c := takes1 s (by omega) (by omega) (by omega) tok 0 f t key
  have hc := copiedS_own s (by omega) (by omega)
  by_cases ht : s.takes ⟨1, tok, 0, f, t, key⟩ = true
  · have ea : s.app ⟨1, tok, 0, f, t, key⟩ = ({ s.tick with es := s.es ++ [⟨0, f, t, key⟩] } : Sta).lift 0 t := by unfold Sta.app; rw [if_pos ht, if_pos (.inl rfl)]
    rw [ht] at c ⊢
    rw [ea]
    refine FnM.introC Tryz.call124 Tryz.func124 rfl rfl ?_
    conv => whnf
    refine CallC.sca _ (c) ?_ ?_
    · exact rfl
    refine Grd.intro (fun h => absurd (of_decide_eq_true (p := s.seq = 999999) h) (by omega)) (fun _ => ?_)
    refine And.intro (inI64 (by omega) (by omega)) ?_
    refine Grd.intro (fun h => absurd (of_decide_eq_true h) (by omega)) (fun _ => ?_)
    conv => whnf
    refine CallC.k [] hc rfl rfl (AVsle.refl _) trivial rfl ?_
    refine And.intro (inI64 (by omega) (by omega)) ?_
    refine DrawC.mk 5 rfl (by kernel_rfl) ?_
    conv => whnf
    refine PCallC.sca _ (entry_fn ⟨1, tok, 0, f, t, key⟩) rfl ?_
    refine And.intro ⟨show (s.es.length + 1) * 40 ≤ 140737488355328 by omega, all1 rfl⟩ ?_
    refine And.intro ⟨show (0 : Int) ≤ 0 by omega, show (0 : Int) < ((3 : Nat) : Int) by omega⟩ ?_
    exact And.intro trivial ⟨[(11, 0), (4, 1)], rfl, AVle.refl _, ⟨arr_next (f := En.row) rfl rfl, MOle.refl _, trivial⟩⟩
  · have ht : s.takes ⟨1, tok, 0, f, t, key⟩ = false := by simpa using ht
    have ea : s.app ⟨1, tok, 0, f, t, key⟩ = s.tick := by unfold Sta.app; rw [if_neg (by rw [ht]; simp)]
    rw [ht] at c ⊢
    rw [ea]
    refine FnM.introC Tryz.call124 Tryz.func124 rfl rfl ?_
    conv => whnf
    refine CallC.sca _ (c) ?_ ?_
    · exact rfl
    refine Grd.intro (fun h => absurd (of_decide_eq_true (p := s.seq = 999999) h) (by omega)) (fun _ => ?_)
    conv => whnf
    refine CallC.k [] hc rfl rfl (AVsle.refl _) trivial rfl ?_
    refine And.intro (inI64 (by omega) (by omega)) ?_
    exact And.intro trivial ⟨[(3, 0), (4, 1)], rfl, AVle.refl _, ⟨MOle.refl _, MOle.refl _, trivial⟩⟩
theorem apply3_1 (s : Sta) (hL : s.es.length + s.ts.length < 4096) (hq : 0 ≤ s.seq ∧ s.seq < 999999) (tok f t : Int) (hf : 0 ≤ f ∧ f ≤ 1000000) (key : List UInt8) :
    FnM Tryz.prog 124 0 [s.av, (Rc.mk 3 tok 1 f t key).av] [] (.tup [(s.app ⟨3, tok, 1, f, t, key⟩).own, .bool (s.takes ⟨3, tok, 1, f, t, key⟩), .int .i64 0]) (s.app ⟨3, tok, 1, f, t, key⟩).objs 2 := by
  have c := takes3_1 s (by omega) (by omega) tok f t hf key
  have hc := copiedS_own s (by omega) (by omega)
  by_cases ht : s.takes ⟨3, tok, 1, f, t, key⟩ = true
  · have ea : s.app ⟨3, tok, 1, f, t, key⟩ = ({ s.tick with es := s.es ++ [⟨1, f, t, key⟩] } : Sta).lift 1 t := by unfold Sta.app; rw [if_pos ht, if_pos (.inr rfl)]
    rw [ht] at c ⊢
    rw [ea]
    refine FnM.introC Tryz.call124 Tryz.func124 rfl rfl ?_
    conv => whnf
    refine CallC.sca _ (c) ?_ ?_
    · exact rfl
    refine Grd.intro (fun h => absurd (of_decide_eq_true (p := s.seq = 999999) h) (by omega)) (fun _ => ?_)
    refine And.intro (inI64 (by omega) (by omega)) ?_
    refine Grd.intro (fun h => absurd (of_decide_eq_true h) (by omega)) (fun _ => ?_)
    conv => whnf
    refine CallC.k [] hc rfl rfl (AVsle.refl _) trivial rfl ?_
    refine And.intro (inI64 (by omega) (by omega)) ?_
    refine DrawC.mk 5 rfl (by kernel_rfl) ?_
    conv => whnf
    refine PCallC.sca _ (entry_fn ⟨3, tok, 1, f, t, key⟩) rfl ?_
    refine And.intro ⟨show (s.es.length + 1) * 40 ≤ 140737488355328 by omega, all1 rfl⟩ ?_
    refine And.intro ⟨show (0 : Int) ≤ 1 by omega, show (1 : Int) < ((3 : Nat) : Int) by omega⟩ ?_
    exact And.intro trivial ⟨[(11, 0), (4, 1)], rfl, AVle.refl _, ⟨arr_next (f := En.row) rfl rfl, MOle.refl _, trivial⟩⟩
  · have ht : s.takes ⟨3, tok, 1, f, t, key⟩ = false := by simpa using ht
    have ea : s.app ⟨3, tok, 1, f, t, key⟩ = s.tick := by unfold Sta.app; rw [if_neg (by rw [ht]; simp)]
    rw [ht] at c ⊢
    rw [ea]
    refine FnM.introC Tryz.call124 Tryz.func124 rfl rfl ?_
    conv => whnf
    refine CallC.sca _ (c) ?_ ?_
    · exact rfl
    refine Grd.intro (fun h => absurd (of_decide_eq_true (p := s.seq = 999999) h) (by omega)) (fun _ => ?_)
    conv => whnf
    refine CallC.k [] hc rfl rfl (AVsle.refl _) trivial rfl ?_
    refine And.intro (inI64 (by omega) (by omega)) ?_
    exact And.intro trivial ⟨[(3, 0), (4, 1)], rfl, AVle.refl _, ⟨MOle.refl _, MOle.refl _, trivial⟩⟩
theorem apply3_2 (s : Sta) (hL : s.es.length + s.ts.length < 4096) (hq : 0 ≤ s.seq ∧ s.seq < 999999) (tok f t : Int) (hf : 0 ≤ f ∧ f ≤ 1000000) (key : List UInt8) :
    FnM Tryz.prog 124 0 [s.av, (Rc.mk 3 tok 2 f t key).av] [] (.tup [(s.app ⟨3, tok, 2, f, t, key⟩).own, .bool (s.takes ⟨3, tok, 2, f, t, key⟩), .int .i64 0]) (s.app ⟨3, tok, 2, f, t, key⟩).objs 2 := by
  have c := takes3_2 s (by omega) (by omega) tok f t hf key
  have hc := copiedS_own s (by omega) (by omega)
  by_cases ht : s.takes ⟨3, tok, 2, f, t, key⟩ = true
  · have ea : s.app ⟨3, tok, 2, f, t, key⟩ = ({ s.tick with es := s.es ++ [⟨2, f, t, key⟩] } : Sta).lift 2 t := by unfold Sta.app; rw [if_pos ht, if_pos (.inr rfl)]
    rw [ht] at c ⊢
    rw [ea]
    refine FnM.introC Tryz.call124 Tryz.func124 rfl rfl ?_
    conv => whnf
    refine CallC.sca _ (c) ?_ ?_
    · exact rfl
    refine Grd.intro (fun h => absurd (of_decide_eq_true (p := s.seq = 999999) h) (by omega)) (fun _ => ?_)
    refine And.intro (inI64 (by omega) (by omega)) ?_
    refine Grd.intro (fun h => absurd (of_decide_eq_true h) (by omega)) (fun _ => ?_)
    conv => whnf
    refine CallC.k [] hc rfl rfl (AVsle.refl _) trivial rfl ?_
    refine And.intro (inI64 (by omega) (by omega)) ?_
    refine DrawC.mk 5 rfl (by kernel_rfl) ?_
    conv => whnf
    refine PCallC.sca _ (entry_fn ⟨3, tok, 2, f, t, key⟩) rfl ?_
    refine And.intro ⟨show (s.es.length + 1) * 40 ≤ 140737488355328 by omega, all1 rfl⟩ ?_
    refine And.intro ⟨show (0 : Int) ≤ 2 by omega, show (2 : Int) < ((3 : Nat) : Int) by omega⟩ ?_
    exact And.intro trivial ⟨[(11, 0), (4, 1)], rfl, AVle.refl _, ⟨arr_next (f := En.row) rfl rfl, MOle.refl _, trivial⟩⟩
  · have ht : s.takes ⟨3, tok, 2, f, t, key⟩ = false := by simpa using ht
    have ea : s.app ⟨3, tok, 2, f, t, key⟩ = s.tick := by unfold Sta.app; rw [if_neg (by rw [ht]; simp)]
    rw [ht] at c ⊢
    rw [ea]
    refine FnM.introC Tryz.call124 Tryz.func124 rfl rfl ?_
    conv => whnf
    refine CallC.sca _ (c) ?_ ?_
    · exact rfl
    refine Grd.intro (fun h => absurd (of_decide_eq_true (p := s.seq = 999999) h) (by omega)) (fun _ => ?_)
    conv => whnf
    refine CallC.k [] hc rfl rfl (AVsle.refl _) trivial rfl ?_
    refine And.intro (inI64 (by omega) (by omega)) ?_
    exact And.intro trivial ⟨[(3, 0), (4, 1)], rfl, AVle.refl _, ⟨MOle.refl _, MOle.refl _, trivial⟩⟩
theorem apply2 (s : Sta) (hL : s.es.length + s.ts.length < 4096) (hq : 0 ≤ s.seq ∧ s.seq < 999999) (tok tier f t : Int) (key : List UInt8) :
    FnM Tryz.prog 124 0 [s.av, (Rc.mk 2 tok tier f t key).av] [] (.tup [(s.app ⟨2, tok, tier, f, t, key⟩).own, .bool (s.takes ⟨2, tok, tier, f, t, key⟩), .int .i64 0]) (s.app ⟨2, tok, tier, f, t, key⟩).objs 2 := by
  have c := takes2 s tok tier f t key
  have hc := copiedS_own s (by omega) (by omega)
  by_cases ht : s.takes ⟨2, tok, tier, f, t, key⟩ = true
  · have ea : s.app ⟨2, tok, tier, f, t, key⟩ = { s.tick with fence := tok } := by unfold Sta.app; rw [if_pos ht, if_neg (show ¬ ((2 : Int) = 1 ∨ (2 : Int) = 3) by decide), if_pos rfl]
    rw [ht] at c ⊢
    rw [ea]
    refine FnM.introC Tryz.call124 Tryz.func124 rfl rfl ?_
    conv => whnf
    refine CallC.sca _ (c) ?_ ?_
    · exact rfl
    refine Grd.intro (fun h => absurd (of_decide_eq_true (p := s.seq = 999999) h) (by omega)) (fun _ => ?_)
    conv => whnf
    refine CallC.k [] hc rfl rfl (AVsle.refl _) trivial rfl ?_
    refine And.intro (inI64 (by omega) (by omega)) ?_
    exact And.intro trivial ⟨[(3, 0), (4, 1)], rfl, AVle.refl _, ⟨MOle.refl _, MOle.refl _, trivial⟩⟩
  · have ht : s.takes ⟨2, tok, tier, f, t, key⟩ = false := by simpa using ht
    have ea : s.app ⟨2, tok, tier, f, t, key⟩ = s.tick := by unfold Sta.app; rw [if_neg (by rw [ht]; simp)]
    rw [ht] at c ⊢
    rw [ea]
    refine FnM.introC Tryz.call124 Tryz.func124 rfl rfl ?_
    conv => whnf
    refine CallC.sca _ (c) ?_ ?_
    · exact rfl
    refine Grd.intro (fun h => absurd (of_decide_eq_true (p := s.seq = 999999) h) (by omega)) (fun _ => ?_)
    conv => whnf
    refine CallC.k [] hc rfl rfl (AVsle.refl _) trivial rfl ?_
    refine And.intro (inI64 (by omega) (by omega)) ?_
    exact And.intro trivial ⟨[(3, 0), (4, 1)], rfl, AVle.refl _, ⟨MOle.refl _, MOle.refl _, trivial⟩⟩
theorem apply4_0 (s : Sta) (hL : s.es.length + s.ts.length < 4096) (hq : 0 ≤ s.seq ∧ s.seq < 999999) (tok f t : Int) (key : List UInt8) :
    FnM Tryz.prog 124 0 [s.av, (Rc.mk 4 tok 0 f t key).av] [] (.tup [(s.app ⟨4, tok, 0, f, t, key⟩).own, .bool (s.takes ⟨4, tok, 0, f, t, key⟩), .int .i64 0]) (s.app ⟨4, tok, 0, f, t, key⟩).objs 2 := by
  have c := takes4_0 s (by omega) tok f t key
  have hc := copiedS_own s (by omega) (by omega)
  by_cases ht : s.takes ⟨4, tok, 0, f, t, key⟩ = true
  · have ea : s.app ⟨4, tok, 0, f, t, key⟩ = ({ s.tick with es := noE key s.es, ts := s.ts ++ [⟨s.seq + 1, key⟩] } : Sta).lower 0 t := by unfold Sta.app; rw [if_pos ht, if_neg (show ¬ ((4 : Int) = 1 ∨ (4 : Int) = 3) by decide), if_neg (show ¬ (4 : Int) = 2 by decide), if_pos rfl]
    have hany : s.es.any (fun e => decide (e.key = key)) = true := noE_any (r := ⟨4, tok, 0, f, t, key⟩) (takes_4 ht rfl)
    have hd := DelEn_some s.es (by omega) 151 (Rc.mk 4 tok 0 f t key).row (fun e => decide (e.key = key)) (fun e _ => applyE_fn e ⟨4, tok, 0, f, t, key⟩) hany
    rw [ht] at c ⊢
    rw [ea]
    refine FnM.introC Tryz.call124 Tryz.func124 rfl rfl ?_
    conv => whnf
    refine CallC.sca _ (c) ?_ ?_
    · exact rfl
    refine Grd.intro (fun h => absurd (of_decide_eq_true (p := s.seq = 999999) h) (by omega)) (fun _ => ?_)
    conv => whnf
    refine CallC.k [] hc rfl rfl (AVsle.refl _) trivial rfl ?_
    refine And.intro (inI64 (by omega) (by omega)) ?_
    conv => whnf
    refine CallC.m [(3, 0)] hd rfl rfl (AVsle.refl _) ⟨MOle.refl _, trivial⟩ rfl ⟨fun i hi => rfl, trivial⟩ rfl ?_
    refine And.intro ⟨show (s.ts.length + 1) * 24 ≤ 140737488355328 by omega, all1 rfl⟩ ?_
    refine And.intro ⟨show (0 : Int) ≤ 0 by omega, show (0 : Int) < ((3 : Nat) : Int) by omega⟩ ?_
    exact And.intro trivial ⟨[(6, 0), (9, 1)], rfl, AVle.refl _, ⟨MOle.refl _, arr_next (f := Tb.row) rfl rfl, trivial⟩⟩
  · have ht : s.takes ⟨4, tok, 0, f, t, key⟩ = false := by simpa using ht
    have ea : s.app ⟨4, tok, 0, f, t, key⟩ = s.tick := by unfold Sta.app; rw [if_neg (by rw [ht]; simp)]
    rw [ht] at c ⊢
    rw [ea]
    refine FnM.introC Tryz.call124 Tryz.func124 rfl rfl ?_
    conv => whnf
    refine CallC.sca _ (c) ?_ ?_
    · exact rfl
    refine Grd.intro (fun h => absurd (of_decide_eq_true (p := s.seq = 999999) h) (by omega)) (fun _ => ?_)
    conv => whnf
    refine CallC.k [] hc rfl rfl (AVsle.refl _) trivial rfl ?_
    refine And.intro (inI64 (by omega) (by omega)) ?_
    exact And.intro trivial ⟨[(3, 0), (4, 1)], rfl, AVle.refl _, ⟨MOle.refl _, MOle.refl _, trivial⟩⟩
theorem apply4_1 (s : Sta) (hL : s.es.length + s.ts.length < 4096) (hq : 0 ≤ s.seq ∧ s.seq < 999999) (tok f t : Int) (key : List UInt8) :
    FnM Tryz.prog 124 0 [s.av, (Rc.mk 4 tok 1 f t key).av] [] (.tup [(s.app ⟨4, tok, 1, f, t, key⟩).own, .bool (s.takes ⟨4, tok, 1, f, t, key⟩), .int .i64 0]) (s.app ⟨4, tok, 1, f, t, key⟩).objs 2 := by
  have c := takes4_1 s (by omega) tok f t key
  have hc := copiedS_own s (by omega) (by omega)
  by_cases ht : s.takes ⟨4, tok, 1, f, t, key⟩ = true
  · have ea : s.app ⟨4, tok, 1, f, t, key⟩ = ({ s.tick with es := noE key s.es, ts := s.ts ++ [⟨s.seq + 1, key⟩] } : Sta).lower 1 t := by unfold Sta.app; rw [if_pos ht, if_neg (show ¬ ((4 : Int) = 1 ∨ (4 : Int) = 3) by decide), if_neg (show ¬ (4 : Int) = 2 by decide), if_pos rfl]
    have hany : s.es.any (fun e => decide (e.key = key)) = true := noE_any (r := ⟨4, tok, 1, f, t, key⟩) (takes_4 ht rfl)
    have hd := DelEn_some s.es (by omega) 151 (Rc.mk 4 tok 1 f t key).row (fun e => decide (e.key = key)) (fun e _ => applyE_fn e ⟨4, tok, 1, f, t, key⟩) hany
    rw [ht] at c ⊢
    rw [ea]
    refine FnM.introC Tryz.call124 Tryz.func124 rfl rfl ?_
    conv => whnf
    refine CallC.sca _ (c) ?_ ?_
    · exact rfl
    refine Grd.intro (fun h => absurd (of_decide_eq_true (p := s.seq = 999999) h) (by omega)) (fun _ => ?_)
    conv => whnf
    refine CallC.k [] hc rfl rfl (AVsle.refl _) trivial rfl ?_
    refine And.intro (inI64 (by omega) (by omega)) ?_
    conv => whnf
    refine CallC.m [(3, 0)] hd rfl rfl (AVsle.refl _) ⟨MOle.refl _, trivial⟩ rfl ⟨fun i hi => rfl, trivial⟩ rfl ?_
    refine And.intro ⟨show (s.ts.length + 1) * 24 ≤ 140737488355328 by omega, all1 rfl⟩ ?_
    refine And.intro ⟨show (0 : Int) ≤ 1 by omega, show (1 : Int) < ((3 : Nat) : Int) by omega⟩ ?_
    exact And.intro trivial ⟨[(6, 0), (9, 1)], rfl, AVle.refl _, ⟨MOle.refl _, arr_next (f := Tb.row) rfl rfl, trivial⟩⟩
  · have ht : s.takes ⟨4, tok, 1, f, t, key⟩ = false := by simpa using ht
    have ea : s.app ⟨4, tok, 1, f, t, key⟩ = s.tick := by unfold Sta.app; rw [if_neg (by rw [ht]; simp)]
    rw [ht] at c ⊢
    rw [ea]
    refine FnM.introC Tryz.call124 Tryz.func124 rfl rfl ?_
    conv => whnf
    refine CallC.sca _ (c) ?_ ?_
    · exact rfl
    refine Grd.intro (fun h => absurd (of_decide_eq_true (p := s.seq = 999999) h) (by omega)) (fun _ => ?_)
    conv => whnf
    refine CallC.k [] hc rfl rfl (AVsle.refl _) trivial rfl ?_
    refine And.intro (inI64 (by omega) (by omega)) ?_
    exact And.intro trivial ⟨[(3, 0), (4, 1)], rfl, AVle.refl _, ⟨MOle.refl _, MOle.refl _, trivial⟩⟩
theorem apply4_2 (s : Sta) (hL : s.es.length + s.ts.length < 4096) (hq : 0 ≤ s.seq ∧ s.seq < 999999) (tok f t : Int) (key : List UInt8) :
    FnM Tryz.prog 124 0 [s.av, (Rc.mk 4 tok 2 f t key).av] [] (.tup [(s.app ⟨4, tok, 2, f, t, key⟩).own, .bool (s.takes ⟨4, tok, 2, f, t, key⟩), .int .i64 0]) (s.app ⟨4, tok, 2, f, t, key⟩).objs 2 := by
  have c := takes4_2 s (by omega) tok f t key
  have hc := copiedS_own s (by omega) (by omega)
  by_cases ht : s.takes ⟨4, tok, 2, f, t, key⟩ = true
  · have ea : s.app ⟨4, tok, 2, f, t, key⟩ = ({ s.tick with es := noE key s.es, ts := s.ts ++ [⟨s.seq + 1, key⟩] } : Sta).lower 2 t := by unfold Sta.app; rw [if_pos ht, if_neg (show ¬ ((4 : Int) = 1 ∨ (4 : Int) = 3) by decide), if_neg (show ¬ (4 : Int) = 2 by decide), if_pos rfl]
    have hany : s.es.any (fun e => decide (e.key = key)) = true := noE_any (r := ⟨4, tok, 2, f, t, key⟩) (takes_4 ht rfl)
    have hd := DelEn_some s.es (by omega) 151 (Rc.mk 4 tok 2 f t key).row (fun e => decide (e.key = key)) (fun e _ => applyE_fn e ⟨4, tok, 2, f, t, key⟩) hany
    rw [ht] at c ⊢
    rw [ea]
    refine FnM.introC Tryz.call124 Tryz.func124 rfl rfl ?_
    conv => whnf
    refine CallC.sca _ (c) ?_ ?_
    · exact rfl
    refine Grd.intro (fun h => absurd (of_decide_eq_true (p := s.seq = 999999) h) (by omega)) (fun _ => ?_)
    conv => whnf
    refine CallC.k [] hc rfl rfl (AVsle.refl _) trivial rfl ?_
    refine And.intro (inI64 (by omega) (by omega)) ?_
    conv => whnf
    refine CallC.m [(3, 0)] hd rfl rfl (AVsle.refl _) ⟨MOle.refl _, trivial⟩ rfl ⟨fun i hi => rfl, trivial⟩ rfl ?_
    refine And.intro ⟨show (s.ts.length + 1) * 24 ≤ 140737488355328 by omega, all1 rfl⟩ ?_
    refine And.intro ⟨show (0 : Int) ≤ 2 by omega, show (2 : Int) < ((3 : Nat) : Int) by omega⟩ ?_
    exact And.intro trivial ⟨[(6, 0), (9, 1)], rfl, AVle.refl _, ⟨MOle.refl _, arr_next (f := Tb.row) rfl rfl, trivial⟩⟩
  · have ht : s.takes ⟨4, tok, 2, f, t, key⟩ = false := by simpa using ht
    have ea : s.app ⟨4, tok, 2, f, t, key⟩ = s.tick := by unfold Sta.app; rw [if_neg (by rw [ht]; simp)]
    rw [ht] at c ⊢
    rw [ea]
    refine FnM.introC Tryz.call124 Tryz.func124 rfl rfl ?_
    conv => whnf
    refine CallC.sca _ (c) ?_ ?_
    · exact rfl
    refine Grd.intro (fun h => absurd (of_decide_eq_true (p := s.seq = 999999) h) (by omega)) (fun _ => ?_)
    conv => whnf
    refine CallC.k [] hc rfl rfl (AVsle.refl _) trivial rfl ?_
    refine And.intro (inI64 (by omega) (by omega)) ?_
    exact And.intro trivial ⟨[(3, 0), (4, 1)], rfl, AVle.refl _, ⟨MOle.refl _, MOle.refl _, trivial⟩⟩
theorem apply5 (s : Sta) (hL : s.es.length + s.ts.length < 4096) (hq : 0 ≤ s.seq ∧ s.seq < 999999) (tok tier f t : Int) (key : List UInt8) :
    FnM Tryz.prog 124 0 [s.av, (Rc.mk 5 tok tier f t key).av] [] (.tup [(s.app ⟨5, tok, tier, f, t, key⟩).own, .bool (s.takes ⟨5, tok, tier, f, t, key⟩), .int .i64 0]) (s.app ⟨5, tok, tier, f, t, key⟩).objs 2 := by
  have c := takes5 s (by omega) tok tier f t key
  have hc := copiedS_own s (by omega) (by omega)
  by_cases ht : s.takes ⟨5, tok, tier, f, t, key⟩ = true
  · have ea : s.app ⟨5, tok, tier, f, t, key⟩ = { s.tick with ts := noT key s.ts } := by unfold Sta.app; rw [if_pos ht, if_neg (show ¬ ((5 : Int) = 1 ∨ (5 : Int) = 3) by decide), if_neg (show ¬ (5 : Int) = 2 by decide), if_neg (show ¬ (5 : Int) = 4 by decide)]
    have hany : s.ts.any (fun e => decide (e.key = key)) = true := (fi_any).symm.trans (show s.takes ⟨5, tok, tier, f, t, key⟩ = true from ht)
    have hd := DelTb_some s.ts (by omega) 153 (Rc.mk 5 tok tier f t key).row (fun e => decide (e.key = key)) (fun e _ => applyT_fn e ⟨5, tok, tier, f, t, key⟩) hany
    rw [ht] at c ⊢
    rw [ea]
    refine FnM.introC Tryz.call124 Tryz.func124 rfl rfl ?_
    conv => whnf
    refine CallC.sca _ (c) ?_ ?_
    · exact rfl
    refine Grd.intro (fun h => absurd (of_decide_eq_true (p := s.seq = 999999) h) (by omega)) (fun _ => ?_)
    conv => whnf
    refine CallC.k [] hc rfl rfl (AVsle.refl _) trivial rfl ?_
    refine And.intro (inI64 (by omega) (by omega)) ?_
    conv => whnf
    refine CallC.m [(4, 0)] hd rfl rfl (AVsle.refl _) ⟨MOle.refl _, trivial⟩ rfl ⟨fun i hi => rfl, trivial⟩ rfl ?_
    exact And.intro trivial ⟨[(3, 0), (6, 1)], rfl, AVle.refl _, ⟨MOle.refl _, MOle.refl _, trivial⟩⟩
  · have ht : s.takes ⟨5, tok, tier, f, t, key⟩ = false := by simpa using ht
    have ea : s.app ⟨5, tok, tier, f, t, key⟩ = s.tick := by unfold Sta.app; rw [if_neg (by rw [ht]; simp)]
    rw [ht] at c ⊢
    rw [ea]
    refine FnM.introC Tryz.call124 Tryz.func124 rfl rfl ?_
    conv => whnf
    refine CallC.sca _ (c) ?_ ?_
    · exact rfl
    refine Grd.intro (fun h => absurd (of_decide_eq_true (p := s.seq = 999999) h) (by omega)) (fun _ => ?_)
    conv => whnf
    refine CallC.k [] hc rfl rfl (AVsle.refl _) trivial rfl ?_
    refine And.intro (inI64 (by omega) (by omega)) ?_
    exact And.intro trivial ⟨[(3, 0), (4, 1)], rfl, AVle.refl _, ⟨MOle.refl _, MOle.refl _, trivial⟩⟩
theorem apply_fn (s : Sta) (hL : s.es.length + s.ts.length < 4096) (hq : 0 ≤ s.seq ∧ s.seq < 999999) (r : Rc) (hr : r.ok = true) :
    FnM Tryz.prog 124 0 [s.av, r.av] [] (.tup [(s.app r).own, .bool (s.takes r), .int .i64 0]) (s.app r).objs 2 := by
  obtain ⟨k, tok, tier, f, t, key⟩ := r
  rcases kinds hr with ⟨rfl, rfl⟩ | rfl | ⟨rfl, h, hf⟩ | ⟨rfl, h⟩ | rfl
  · exact apply1 s hL hq tok f t key
  · exact apply2 s hL hq tok tier f t key
  · rcases h with rfl | rfl
    · exact apply3_1 s hL hq tok f t hf key
    · exact apply3_2 s hL hq tok f t hf key
  · rcases h with rfl | rfl | rfl
    · exact apply4_0 s hL hq tok f t key
    · exact apply4_1 s hL hq tok f t key
    · exact apply4_2 s hL hq tok f t key
  · exact apply5 s hL hq tok tier f t key
end Go.Proofs.YtfaffgneccjpbaaGreatDoor
set_option linter.unusedVariables false
set_option linter.constructorNameAsVariable false
set_option linter.unusedSimpArgs false
set_option maxRecDepth 20000
namespace Go.Proofs.YtfaffgneccjpbaaGreatDoor
open Go Go.Vw

end Go.Proofs.YtfaffgneccjpbaaGreatDoor
set_option linter.unusedVariables false
set_option linter.constructorNameAsVariable false
set_option linter.unusedSimpArgs false
set_option maxRecDepth 20000
namespace Go.Proofs.YtfaffgneccjpbaaGreatDoor
open Go Go.Vw

def Sta.nrow (s : Sta) : List AV := [.int .i64 s.seq, .int .i64 s.fence, .nilsl, .nilsl, .int .i64 s.l0, .int .i64 s.l1, .int .i64 s.l2, .int .i64 s.h0, .int .i64 s.h1, .int .i64 s.h2]
end Go.Proofs.YtfaffgneccjpbaaGreatDoor
set_option linter.unusedVariables false
set_option linter.constructorNameAsVariable false
set_option linter.unusedSimpArgs false
set_option maxRecDepth 20000
namespace Go.Proofs.YtfaffgneccjpbaaGreatDoor
open Go Go.Vw

def Sta.orow (s : Sta) (a b : Nat) : List AV := [.int .i64 s.seq, .int .i64 s.fence, .osl a, .osl b, .int .i64 s.l0, .int .i64 s.l1, .int .i64 s.l2, .int .i64 s.h0, .int .i64 s.h1, .int .i64 s.h2]
theorem logN_no {x : Sto} {i : Nat} {st : Sta} (h : logN x i = st) (hr : recAt x ((i : Int) + 1) = none) : logN x (i + 1) = st.tick := by
  show stepL x (logN x i) = _
  unfold stepL
  rw [logN_seq, hr, h]
theorem logN_yes {x : Sto} {i : Nat} {st : Sta} {r : Rc} (h : logN x i = st) (hr : recAt x ((i : Int) + 1) = some r) : logN x (i + 1) = st.app r := by
  show stepL x (logN x i) = _
  unfold stepL
  rw [logN_seq, hr, h]
theorem has_next {x : Sto} {i : Nat} (h : ∀ j, j < i → x.has (manK ((j + 1 : Nat) : Int)) = true) (h' : x.has (manK ((i : Int) + 1)) = true) : ∀ j, j < i + 1 → x.has (manK ((j + 1 : Nat) : Int)) = true := fun j hj => by
  rcases Nat.lt_or_ge j i with h1 | h1
  · exact h j h1
  · have : j = i := by omega
    subst this; exact h'
theorem replay_own (x : Sto) (hs : x.ok = true) (F : Nat) (hF : ∀ (r : Rc) (took : Bool), VFn Tryz.prog F [r.av, .bool took] (.tup [])) :
    FnM Tryz.prog 75 0 [x.av, .fn (.func F) [] []] [] (logS x).own (logS x).objs 2 := by
  have hL := (Sto.ok_at hs).2.1
  refine FnM.introC Tryz.call75 Tryz.func75 rfl rfl ?_
  refine LoopC.nilb 2 2 35 4 (fun _ => []) rfl rfl ?_
  conv => whnf
  refine LoopC.nilb 2 3 136 2 (fun _ => []) rfl rfl ?_
  conv => whnf
  refine LoopC.mk (fun i : Nat => ∀ j, j < i → x.has (manK ((j + 1 : Nat) : Int)) = true) (fun i => [(1, .fn (.func F) [] []), (2, .bptr 0 0), (4, .bptr 1 0), (5, .bptr 2 0)])
    (fun i => [(0, .box x.row), (1, .box sta0.nrow), (2, .box ((logN x i).orow 3 4)), (3, .arr 35 4 (logN x i).es.length fun j => (ix (logN x i).es j).row), (4, .arr 136 2 (logN x i).ts.length fun j => (ix (logN x i).ts j).row)]) 5 (fun i => 1000 - i) 0
    ⟨fun j hj => absurd hj (Nat.not_lt_zero j), [(0, 0), (1, 1), (2, 2), (3, 3), (4, 4)], rfl, rfl, ⟨AVle.refl _, AVle.refl _, AVle.refl _, AVle.refl _, trivial⟩, ⟨MOle.refl _, MOle.refl _, MOle.refl _, MOle.arr rfl fun i hi => absurd hi (Nat.not_lt_zero i), MOle.arr rfl fun i hi => absurd hi (Nat.not_lt_zero i), trivial⟩⟩ ?_
  intro i hi
  have hi3 : i ≤ 300 := by
    rcases Nat.lt_or_ge 300 i with h | h
    · have := log_len (x := x) (n := 301) (by omega) (fun j hj => hi j (by omega)); omega
    · exact h
  obtain ⟨st, hst⟩ : ∃ st, logN x i = st := ⟨_, rfl⟩
  have hseq := logN_seq x i
  have hlen := logN_len x i
  have hlog := logN_log x i
  rw [hst] at hseq hlen hlog ⊢
  refine Grd.intro (fun h2 => ?_) (fun h2 => absurd (of_decide_eq_false h2) (fun h => h (by omega)))
  have cg := get_fn x hs (manK (st.seq + 1))
  by_cases hh : x.has (manK (st.seq + 1)) = true
  · rw [if_pos hh] at cg
    refine DrawC.mk 12 rfl (by kernel_rfl) ?_
    refine And.intro (inI64 (by omega) (by omega)) ?_
    conv => whnf
    refine PCallC.sca _ (six_fn (st.seq + 1) (by simp [within]; omega)) rfl ?_
    conv => whnf
    refine And.intro (show ((4 + (B (six6 (st.seq + 1).toNat)).size : Nat) : Int) ≤ 9223372036854775807 by rw [B_size, six6_len]; decide) ?_
    refine force_to (congrArg AV.str (show B [109, 97, 110, 47] ++ B (six6 (st.seq + 1).toNat) = B (manK (st.seq + 1)) from B_app _ _)) ?_
    conv => whnf
    refine PCallC.sca _ (cg) rfl ?_
    have hd := (get_ok x hs _ hh).1
    have hh' : x.has (manK ((i : Int) + 1)) = true := by rw [← hseq]; exact hh
    cases hr : readR (x.get (manK (st.seq + 1))).data with
    | none =>
      obtain ⟨r, cr⟩ := readRecord_no _ (by omega) hr
      conv => whnf
      refine CallC.sca _ (cr) ?_ ?_
      · exact rfl
      refine And.intro (inI64 (by omega) (by omega)) ?_
      have e := logN_no hst (by unfold recAt; rw [← hseq]; exact hr)
      refine ⟨i + 1, has_next hi hh', by omega, [(0, 0), (1, 1), (2, 2), (3, 3), (4, 4)], rfl, rfl, ⟨AVle.refl _, AVle.refl _, AVle.refl _, AVle.refl _, trivial⟩, ⟨MOle.refl _, MOle.refl _, MOle.of_eq (show MO.box (st.tick.orow 3 4) = _ by rw [e]), MOle.of_eq (show MO.arr 35 4 st.tick.es.length (fun j => (ix st.tick.es j).row) = _ by rw [e]), MOle.of_eq (show MO.arr 136 2 st.tick.ts.length (fun j => (ix st.tick.ts j).row) = _ by rw [e]), trivial⟩⟩
    | some r =>
      have hrk := readR_ok hr
      conv => whnf
      refine CallC.sca _ (readRecord_yes _ (by omega) hr) ?_ ?_
      · exact rfl
      conv => whnf
      refine CallC.m [] (apply_fn st (by omega) (by omega) r hrk) rfl rfl (AVsle.refl _) trivial rfl ⟨fun i hi => rfl, fun i hi => rfl, trivial⟩ rfl ?_
      conv => whnf
      refine CallC.sca _ (hF r (st.takes r)) ?_ ?_
      · exact rfl
      have e := logN_yes hst (by unfold recAt; rw [← hseq]; exact hr)
      refine ⟨i + 1, has_next hi hh', by omega, [(0, 0), (1, 1), (2, 2), (18, 3), (19, 4)], rfl, rfl, ⟨AVle.refl _, AVle.refl _, AVle.refl _, AVle.refl _, trivial⟩, ⟨MOle.refl _, MOle.refl _, MOle.of_eq (show MO.box ((st.app r).orow 3 4) = _ by rw [e]), MOle.of_eq (show MO.arr 35 4 (st.app r).es.length (fun j => (ix (st.app r).es j).row) = _ by rw [e]), MOle.of_eq (show MO.arr 136 2 (st.app r).ts.length (fun j => (ix (st.app r).ts j).row) = _ by rw [e]), trivial⟩⟩
  · have hh : x.has (manK (st.seq + 1)) = false := by simpa using hh
    rw [if_neg (by rw [hh]; simp)] at cg
    have e : logS x = st := by
      have := log_end hs hi3 hi (by rw [hseq] at hh; exact hh)
      unfold logS; rw [← this]; exact hst
    rw [e]
    refine DrawC.mk 12 rfl (by kernel_rfl) ?_
    refine And.intro (inI64 (by omega) (by omega)) ?_
    conv => whnf
    refine PCallC.sca _ (six_fn (st.seq + 1) (by simp [within]; omega)) rfl ?_
    conv => whnf
    refine And.intro (show ((4 + (B (six6 (st.seq + 1).toNat)).size : Nat) : Int) ≤ 9223372036854775807 by rw [B_size, six6_len]; decide) ?_
    refine force_to (congrArg AV.str (show B [109, 97, 110, 47] ++ B (six6 (st.seq + 1).toNat) = B (manK (st.seq + 1)) from B_app _ _)) ?_
    conv => whnf
    refine PCallC.sca _ (cg) rfl ?_
    exact And.intro trivial ⟨[(3, 0), (4, 1)], rfl, AVle.refl _, ⟨MOle.refl _, MOle.refl _, trivial⟩⟩
theorem log1_fn (r : Rc) (took : Bool) : VFn Tryz.prog 76 [r.av, .bool took] (.tup []) := by
  refine VFn.introC Tryz.call76 Tryz.func76 rfl rfl ?_
  exact And.intro trivial (AVle.refl _)
theorem log_own (x : Sto) (hs : x.ok = true) : FnM Tryz.prog 32 0 [x.av] [] (logS x).own (logS x).objs 2 := by
  refine FnM.introC Tryz.call32 Tryz.func32 rfl rfl ?_
  conv => whnf
  refine CallC.k [] (replay_own x hs 76 log1_fn) rfl rfl (AVsle.refl _) trivial rfl ?_
  exact And.intro trivial ⟨[(2, 0), (3, 1)], rfl, AVle.refl _, ⟨MOle.refl _, MOle.refl _, trivial⟩⟩
theorem log_fn (x : Sto) (hs : x.ok = true) : VFn Tryz.prog 32 [x.av] (logS x).av := (log_own x hs).vfn
end Go.Proofs.YtfaffgneccjpbaaGreatDoor
set_option linter.unusedVariables false
set_option linter.constructorNameAsVariable false
set_option linter.unusedSimpArgs false
set_option maxRecDepth 20000
namespace Go.Proofs.YtfaffgneccjpbaaGreatDoor
open Go Go.Vw

def rlC (x : Sto) : Int := if x.ok = true then 0 else 1
def rlS (x : Sto) : Sta := if x.ok = true then logS x else sta0
theorem ReplayLog_own (x : Sto) (hr : StoRd x) (hs : x.ok = true) : FnM Tryz.prog 7 0 [x.av] [] (.tup [(logS x).own, .int .i64 0]) (logS x).objs 2 := by
  have c := StoreOK_fn x (by have := hr.len; omega) hr.key
  rw [hs] at c
  refine FnM.introC Tryz.call7 Tryz.func7 rfl rfl ?_
  conv => whnf
  refine CallC.sca _ (c) ?_ ?_
  · exact rfl
  conv => whnf
  refine CallC.k [] (log_own x hs) rfl rfl (AVsle.refl _) trivial rfl ?_
  exact And.intro trivial ⟨[(2, 0), (3, 1)], rfl, AVle.refl _, ⟨MOle.refl _, MOle.refl _, trivial⟩⟩
end Go.Proofs.YtfaffgneccjpbaaGreatDoor
