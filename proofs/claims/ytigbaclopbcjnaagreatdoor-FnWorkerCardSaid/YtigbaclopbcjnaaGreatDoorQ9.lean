/- Contracts of functions that the claim reaches, and the plain law of what they compute; each theorem bears its own conditions. -/
import Derived.Test.YtigbaclopbcjnaaGreatDoorQ8
import Derived.Test.YtigbaclopbcjnaaGreatDoorV52
set_option linter.unusedVariables false
set_option linter.constructorNameAsVariable false
set_option linter.unusedSimpArgs false
set_option maxRecDepth 20000
namespace Go.Proofs.YtigbaclopbcjnaaGreatDoor
open Go Go.Vw
theorem noE_any {s : Sta} {r : Rc} (h : headIs (ofT s.es r.tier) r.en = true) : s.es.any (fun e => decide (e.key = r.key)) = true := List.any_eq_true.2 ⟨r.en, headIs_mem h, decide_eq_true rfl⟩
theorem applyE_fn (e : En) (row : Rc) : VFn Tryz.prog 176 [e.av, .eptr row.row 0] (.bool (decide (e.key = row.key))) := by
 refine VFn.introC Tryz.call176 Tryz.func176 rfl rfl ?_
 exact And.intro trivial (AVle.of_eq (congrArg AV.bool (show ((B e.key).toList == (B row.key).toList) = _ from B_eq)))
theorem applyT_fn (e : Tb) (row : Rc) : VFn Tryz.prog 178 [e.av, .eptr row.row 0] (.bool (decide (e.key = row.key))) := by
 refine VFn.introC Tryz.call178 Tryz.func178 rfl rfl ?_
 exact And.intro trivial (AVle.of_eq (congrArg AV.bool (show ((B e.key).toList == (B row.key).toList) = _ from B_eq)))
theorem apply1 (s : Sta) (hL : s.es.length + s.ts.length < 4096) (hq : 0 ≤ s.seq ∧ s.seq < 999999) (tok f t : Int) (key : List UInt8) :
 FnM Tryz.prog 148 0 [s.av, (Rc.mk 1 tok 0 f t key).av] [] (.tup [(s.app ⟨1, tok, 0, f, t, key⟩).own, .bool (s.takes ⟨1, tok, 0, f, t, key⟩), .int .i64 0]) (s.app ⟨1, tok, 0, f, t, key⟩).objs 2 := by
 have c := takes1 s (by omega) (by omega) (by omega) tok 0 f t key
 have hc := copiedS_own s (by omega) (by omega)
 by_cases ht : s.takes ⟨1, tok, 0, f, t, key⟩ = true
 · have ea : s.app ⟨1, tok, 0, f, t, key⟩ = ({ s.tick with es := s.es ++ [⟨0, f, t, key⟩] } : Sta).lift 0 t := by unfold Sta.app; rw [if_pos ht, if_pos (.inl rfl)]
   rw [ht] at c ⊢
   rw [ea]
   refine FnM.introC Tryz.call148 Tryz.func148 rfl rfl ?_
   conv => whnf
   refine CallC.sca _ (c) ?_ ?_
   · exact rfl
   refine Grd.intro (fun h => absurd (of_decide_eq_true (p := s.seq = 999999) h) (by omega)) (fun _ => ?_)
   refine And.intro (inI64 (by omega) (by omega)) ?_
   refine Grd.intro (fun h => absurd (of_decide_eq_true h) (by omega)) (fun _ => ?_)
   conv => whnf
   refine CallC.k [] hc rfl rfl (AVsle.refl _) trivial rfl ?_
   refine And.intro (inI64 (by omega) (by omega)) ?_
   refine DrawC.mq 5 rfl (by kernel_rfl) ?_
   conv => whnf
   refine PCallQ.sca _ (entry_fn ⟨1, tok, 0, f, t, key⟩) rfl ?_
   refine And.intro ⟨show (s.es.length + 1) * 40 ≤ 140737488355328 by omega, all1 rfl⟩ ?_
   refine And.intro ⟨show (0 : Int) ≤ 0 by omega, show (0 : Int) < ((3 : Nat) : Int) by omega⟩ ?_
   exact And.intro trivial ⟨[(11, 0), (4, 1)], rfl, AVle.refl _, ⟨arr_next (f := En.row) rfl rfl, MOle.refl _, trivial⟩⟩
 · have ht : s.takes ⟨1, tok, 0, f, t, key⟩ = false := by simpa using ht
   have ea : s.app ⟨1, tok, 0, f, t, key⟩ = s.tick := by unfold Sta.app; rw [if_neg (by rw [ht]; simp)]
   rw [ht] at c ⊢
   rw [ea]
   refine FnM.introC Tryz.call148 Tryz.func148 rfl rfl ?_
   conv => whnf
   refine CallC.sca _ (c) ?_ ?_
   · exact rfl
   refine Grd.intro (fun h => absurd (of_decide_eq_true (p := s.seq = 999999) h) (by omega)) (fun _ => ?_)
   conv => whnf
   refine CallC.k [] hc rfl rfl (AVsle.refl _) trivial rfl ?_
   refine And.intro (inI64 (by omega) (by omega)) ?_
   exact And.intro trivial ⟨[(3, 0), (4, 1)], rfl, AVle.refl _, ⟨MOle.refl _, MOle.refl _, trivial⟩⟩
theorem apply3_1 (s : Sta) (hL : s.es.length + s.ts.length < 4096) (hq : 0 ≤ s.seq ∧ s.seq < 999999) (tok f t : Int) (hf : 0 ≤ f ∧ f ≤ 1000000) (key : List UInt8) :
 FnM Tryz.prog 148 0 [s.av, (Rc.mk 3 tok 1 f t key).av] [] (.tup [(s.app ⟨3, tok, 1, f, t, key⟩).own, .bool (s.takes ⟨3, tok, 1, f, t, key⟩), .int .i64 0]) (s.app ⟨3, tok, 1, f, t, key⟩).objs 2 := by
 have c := takes3_1 s (by omega) (by omega) tok f t hf key
 have hc := copiedS_own s (by omega) (by omega)
 by_cases ht : s.takes ⟨3, tok, 1, f, t, key⟩ = true
 · have ea : s.app ⟨3, tok, 1, f, t, key⟩ = ({ s.tick with es := s.es ++ [⟨1, f, t, key⟩] } : Sta).lift 1 t := by unfold Sta.app; rw [if_pos ht, if_pos (.inr rfl)]
   rw [ht] at c ⊢
   rw [ea]
   refine FnM.introC Tryz.call148 Tryz.func148 rfl rfl ?_
   conv => whnf
   refine CallC.sca _ (c) ?_ ?_
   · exact rfl
   refine Grd.intro (fun h => absurd (of_decide_eq_true (p := s.seq = 999999) h) (by omega)) (fun _ => ?_)
   refine And.intro (inI64 (by omega) (by omega)) ?_
   refine Grd.intro (fun h => absurd (of_decide_eq_true h) (by omega)) (fun _ => ?_)
   conv => whnf
   refine CallC.k [] hc rfl rfl (AVsle.refl _) trivial rfl ?_
   refine And.intro (inI64 (by omega) (by omega)) ?_
   refine DrawC.mq 5 rfl (by kernel_rfl) ?_
   conv => whnf
   refine PCallQ.sca _ (entry_fn ⟨3, tok, 1, f, t, key⟩) rfl ?_
   refine And.intro ⟨show (s.es.length + 1) * 40 ≤ 140737488355328 by omega, all1 rfl⟩ ?_
   refine And.intro ⟨show (0 : Int) ≤ 1 by omega, show (1 : Int) < ((3 : Nat) : Int) by omega⟩ ?_
   exact And.intro trivial ⟨[(11, 0), (4, 1)], rfl, AVle.refl _, ⟨arr_next (f := En.row) rfl rfl, MOle.refl _, trivial⟩⟩
 · have ht : s.takes ⟨3, tok, 1, f, t, key⟩ = false := by simpa using ht
   have ea : s.app ⟨3, tok, 1, f, t, key⟩ = s.tick := by unfold Sta.app; rw [if_neg (by rw [ht]; simp)]
   rw [ht] at c ⊢
   rw [ea]
   refine FnM.introC Tryz.call148 Tryz.func148 rfl rfl ?_
   conv => whnf
   refine CallC.sca _ (c) ?_ ?_
   · exact rfl
   refine Grd.intro (fun h => absurd (of_decide_eq_true (p := s.seq = 999999) h) (by omega)) (fun _ => ?_)
   conv => whnf
   refine CallC.k [] hc rfl rfl (AVsle.refl _) trivial rfl ?_
   refine And.intro (inI64 (by omega) (by omega)) ?_
   exact And.intro trivial ⟨[(3, 0), (4, 1)], rfl, AVle.refl _, ⟨MOle.refl _, MOle.refl _, trivial⟩⟩
theorem apply3_2 (s : Sta) (hL : s.es.length + s.ts.length < 4096) (hq : 0 ≤ s.seq ∧ s.seq < 999999) (tok f t : Int) (hf : 0 ≤ f ∧ f ≤ 1000000) (key : List UInt8) :
 FnM Tryz.prog 148 0 [s.av, (Rc.mk 3 tok 2 f t key).av] [] (.tup [(s.app ⟨3, tok, 2, f, t, key⟩).own, .bool (s.takes ⟨3, tok, 2, f, t, key⟩), .int .i64 0]) (s.app ⟨3, tok, 2, f, t, key⟩).objs 2 := by
 have c := takes3_2 s (by omega) (by omega) tok f t hf key
 have hc := copiedS_own s (by omega) (by omega)
 by_cases ht : s.takes ⟨3, tok, 2, f, t, key⟩ = true
 · have ea : s.app ⟨3, tok, 2, f, t, key⟩ = ({ s.tick with es := s.es ++ [⟨2, f, t, key⟩] } : Sta).lift 2 t := by unfold Sta.app; rw [if_pos ht, if_pos (.inr rfl)]
   rw [ht] at c ⊢
   rw [ea]
   refine FnM.introC Tryz.call148 Tryz.func148 rfl rfl ?_
   conv => whnf
   refine CallC.sca _ (c) ?_ ?_
   · exact rfl
   refine Grd.intro (fun h => absurd (of_decide_eq_true (p := s.seq = 999999) h) (by omega)) (fun _ => ?_)
   refine And.intro (inI64 (by omega) (by omega)) ?_
   refine Grd.intro (fun h => absurd (of_decide_eq_true h) (by omega)) (fun _ => ?_)
   conv => whnf
   refine CallC.k [] hc rfl rfl (AVsle.refl _) trivial rfl ?_
   refine And.intro (inI64 (by omega) (by omega)) ?_
   refine DrawC.mq 5 rfl (by kernel_rfl) ?_
   conv => whnf
   refine PCallQ.sca _ (entry_fn ⟨3, tok, 2, f, t, key⟩) rfl ?_
   refine And.intro ⟨show (s.es.length + 1) * 40 ≤ 140737488355328 by omega, all1 rfl⟩ ?_
   refine And.intro ⟨show (0 : Int) ≤ 2 by omega, show (2 : Int) < ((3 : Nat) : Int) by omega⟩ ?_
   exact And.intro trivial ⟨[(11, 0), (4, 1)], rfl, AVle.refl _, ⟨arr_next (f := En.row) rfl rfl, MOle.refl _, trivial⟩⟩
 · have ht : s.takes ⟨3, tok, 2, f, t, key⟩ = false := by simpa using ht
   have ea : s.app ⟨3, tok, 2, f, t, key⟩ = s.tick := by unfold Sta.app; rw [if_neg (by rw [ht]; simp)]
   rw [ht] at c ⊢
   rw [ea]
   refine FnM.introC Tryz.call148 Tryz.func148 rfl rfl ?_
   conv => whnf
   refine CallC.sca _ (c) ?_ ?_
   · exact rfl
   refine Grd.intro (fun h => absurd (of_decide_eq_true (p := s.seq = 999999) h) (by omega)) (fun _ => ?_)
   conv => whnf
   refine CallC.k [] hc rfl rfl (AVsle.refl _) trivial rfl ?_
   refine And.intro (inI64 (by omega) (by omega)) ?_
   exact And.intro trivial ⟨[(3, 0), (4, 1)], rfl, AVle.refl _, ⟨MOle.refl _, MOle.refl _, trivial⟩⟩
theorem apply2 (s : Sta) (hL : s.es.length + s.ts.length < 4096) (hq : 0 ≤ s.seq ∧ s.seq < 999999) (tok tier f t : Int) (key : List UInt8) :
 FnM Tryz.prog 148 0 [s.av, (Rc.mk 2 tok tier f t key).av] [] (.tup [(s.app ⟨2, tok, tier, f, t, key⟩).own, .bool (s.takes ⟨2, tok, tier, f, t, key⟩), .int .i64 0]) (s.app ⟨2, tok, tier, f, t, key⟩).objs 2 := by
 have c := takes2 s tok tier f t key
 have hc := copiedS_own s (by omega) (by omega)
 by_cases ht : s.takes ⟨2, tok, tier, f, t, key⟩ = true
 · have ea : s.app ⟨2, tok, tier, f, t, key⟩ = { s.tick with fence := tok } := by unfold Sta.app; rw [if_pos ht, if_neg (show ¬ ((2 : Int) = 1 ∨ (2 : Int) = 3) by decide), if_pos rfl]
   rw [ht] at c ⊢
   rw [ea]
   refine FnM.introC Tryz.call148 Tryz.func148 rfl rfl ?_
   conv => whnf
   refine CallC.sca _ (c) ?_ ?_
   · exact rfl
   refine Grd.intro (fun h => absurd (of_decide_eq_true (p := s.seq = 999999) h) (by omega)) (fun _ => ?_)
   conv => whnf
   refine CallC.k [] hc rfl rfl (AVsle.refl _) trivial rfl ?_
   refine And.intro (inI64 (by omega) (by omega)) ?_
   exact And.intro trivial ⟨[(3, 0), (4, 1)], rfl, AVle.refl _, ⟨MOle.refl _, MOle.refl _, trivial⟩⟩
 · have ht : s.takes ⟨2, tok, tier, f, t, key⟩ = false := by simpa using ht
   have ea : s.app ⟨2, tok, tier, f, t, key⟩ = s.tick := by unfold Sta.app; rw [if_neg (by rw [ht]; simp)]
   rw [ht] at c ⊢
   rw [ea]
   refine FnM.introC Tryz.call148 Tryz.func148 rfl rfl ?_
   conv => whnf
   refine CallC.sca _ (c) ?_ ?_
   · exact rfl
   refine Grd.intro (fun h => absurd (of_decide_eq_true (p := s.seq = 999999) h) (by omega)) (fun _ => ?_)
   conv => whnf
   refine CallC.k [] hc rfl rfl (AVsle.refl _) trivial rfl ?_
   refine And.intro (inI64 (by omega) (by omega)) ?_
   exact And.intro trivial ⟨[(3, 0), (4, 1)], rfl, AVle.refl _, ⟨MOle.refl _, MOle.refl _, trivial⟩⟩
theorem apply4_0 (s : Sta) (hL : s.es.length + s.ts.length < 4096) (hq : 0 ≤ s.seq ∧ s.seq < 999999) (tok f t : Int) (key : List UInt8) :
 FnM Tryz.prog 148 0 [s.av, (Rc.mk 4 tok 0 f t key).av] [] (.tup [(s.app ⟨4, tok, 0, f, t, key⟩).own, .bool (s.takes ⟨4, tok, 0, f, t, key⟩), .int .i64 0]) (s.app ⟨4, tok, 0, f, t, key⟩).objs 2 := by
 have c := takes4_0 s (by omega) tok f t key
 have hc := copiedS_own s (by omega) (by omega)
 by_cases ht : s.takes ⟨4, tok, 0, f, t, key⟩ = true
 · have ea : s.app ⟨4, tok, 0, f, t, key⟩ = ({ s.tick with es := noE key s.es, ts := s.ts ++ [⟨s.seq + 1, key⟩] } : Sta).lower 0 t := by unfold Sta.app; rw [if_pos ht, if_neg (show ¬ ((4 : Int) = 1 ∨ (4 : Int) = 3) by decide), if_neg (show ¬ (4 : Int) = 2 by decide), if_pos rfl]
   have hany : s.es.any (fun e => decide (e.key = key)) = true := noE_any (r := ⟨4, tok, 0, f, t, key⟩) (takes_4 ht rfl)
   have hd := DelEn_some s.es (by omega) 176 (Rc.mk 4 tok 0 f t key).row (fun e => decide (e.key = key)) (fun e _ => applyE_fn e ⟨4, tok, 0, f, t, key⟩) hany
   rw [ht] at c ⊢
   rw [ea]
   refine FnM.introC Tryz.call148 Tryz.func148 rfl rfl ?_
   conv => whnf
   refine CallC.sca _ (c) ?_ ?_
   · exact rfl
   refine Grd.intro (fun h => absurd (of_decide_eq_true (p := s.seq = 999999) h) (by omega)) (fun _ => ?_)
   conv => whnf
   refine CallC.k [] hc rfl rfl (AVsle.refl _) trivial rfl ?_
   refine And.intro (inI64 (by omega) (by omega)) ?_
   conv => whnf
   refine CallC.m [(3, 0)] hd rfl rfl (AVsle.refl _) ⟨MOle.refl _, trivial⟩ rfl ⟨fun i hi => rfl, trivial⟩ rfl ?_
   refine And.intro ⟨show (s.ts.length + 1) * 24 ≤ 140737488355328 by omega, all1 rfl⟩ ?_
   refine And.intro ⟨show (0 : Int) ≤ 0 by omega, show (0 : Int) < ((3 : Nat) : Int) by omega⟩ ?_
   exact And.intro trivial ⟨[(6, 0), (9, 1)], rfl, AVle.refl _, ⟨MOle.refl _, arr_next (f := Tb.row) rfl rfl, trivial⟩⟩
 · have ht : s.takes ⟨4, tok, 0, f, t, key⟩ = false := by simpa using ht
   have ea : s.app ⟨4, tok, 0, f, t, key⟩ = s.tick := by unfold Sta.app; rw [if_neg (by rw [ht]; simp)]
   rw [ht] at c ⊢
   rw [ea]
   refine FnM.introC Tryz.call148 Tryz.func148 rfl rfl ?_
   conv => whnf
   refine CallC.sca _ (c) ?_ ?_
   · exact rfl
   refine Grd.intro (fun h => absurd (of_decide_eq_true (p := s.seq = 999999) h) (by omega)) (fun _ => ?_)
   conv => whnf
   refine CallC.k [] hc rfl rfl (AVsle.refl _) trivial rfl ?_
   refine And.intro (inI64 (by omega) (by omega)) ?_
   exact And.intro trivial ⟨[(3, 0), (4, 1)], rfl, AVle.refl _, ⟨MOle.refl _, MOle.refl _, trivial⟩⟩
theorem apply4_1 (s : Sta) (hL : s.es.length + s.ts.length < 4096) (hq : 0 ≤ s.seq ∧ s.seq < 999999) (tok f t : Int) (key : List UInt8) :
 FnM Tryz.prog 148 0 [s.av, (Rc.mk 4 tok 1 f t key).av] [] (.tup [(s.app ⟨4, tok, 1, f, t, key⟩).own, .bool (s.takes ⟨4, tok, 1, f, t, key⟩), .int .i64 0]) (s.app ⟨4, tok, 1, f, t, key⟩).objs 2 := by
 have c := takes4_1 s (by omega) tok f t key
 have hc := copiedS_own s (by omega) (by omega)
 by_cases ht : s.takes ⟨4, tok, 1, f, t, key⟩ = true
 · have ea : s.app ⟨4, tok, 1, f, t, key⟩ = ({ s.tick with es := noE key s.es, ts := s.ts ++ [⟨s.seq + 1, key⟩] } : Sta).lower 1 t := by unfold Sta.app; rw [if_pos ht, if_neg (show ¬ ((4 : Int) = 1 ∨ (4 : Int) = 3) by decide), if_neg (show ¬ (4 : Int) = 2 by decide), if_pos rfl]
   have hany : s.es.any (fun e => decide (e.key = key)) = true := noE_any (r := ⟨4, tok, 1, f, t, key⟩) (takes_4 ht rfl)
   have hd := DelEn_some s.es (by omega) 176 (Rc.mk 4 tok 1 f t key).row (fun e => decide (e.key = key)) (fun e _ => applyE_fn e ⟨4, tok, 1, f, t, key⟩) hany
   rw [ht] at c ⊢
   rw [ea]
   refine FnM.introC Tryz.call148 Tryz.func148 rfl rfl ?_
   conv => whnf
   refine CallC.sca _ (c) ?_ ?_
   · exact rfl
   refine Grd.intro (fun h => absurd (of_decide_eq_true (p := s.seq = 999999) h) (by omega)) (fun _ => ?_)
   conv => whnf
   refine CallC.k [] hc rfl rfl (AVsle.refl _) trivial rfl ?_
   refine And.intro (inI64 (by omega) (by omega)) ?_
   conv => whnf
   refine CallC.m [(3, 0)] hd rfl rfl (AVsle.refl _) ⟨MOle.refl _, trivial⟩ rfl ⟨fun i hi => rfl, trivial⟩ rfl ?_
   refine And.intro ⟨show (s.ts.length + 1) * 24 ≤ 140737488355328 by omega, all1 rfl⟩ ?_
   refine And.intro ⟨show (0 : Int) ≤ 1 by omega, show (1 : Int) < ((3 : Nat) : Int) by omega⟩ ?_
   exact And.intro trivial ⟨[(6, 0), (9, 1)], rfl, AVle.refl _, ⟨MOle.refl _, arr_next (f := Tb.row) rfl rfl, trivial⟩⟩
 · have ht : s.takes ⟨4, tok, 1, f, t, key⟩ = false := by simpa using ht
   have ea : s.app ⟨4, tok, 1, f, t, key⟩ = s.tick := by unfold Sta.app; rw [if_neg (by rw [ht]; simp)]
   rw [ht] at c ⊢
   rw [ea]
   refine FnM.introC Tryz.call148 Tryz.func148 rfl rfl ?_
   conv => whnf
   refine CallC.sca _ (c) ?_ ?_
   · exact rfl
   refine Grd.intro (fun h => absurd (of_decide_eq_true (p := s.seq = 999999) h) (by omega)) (fun _ => ?_)
   conv => whnf
   refine CallC.k [] hc rfl rfl (AVsle.refl _) trivial rfl ?_
   refine And.intro (inI64 (by omega) (by omega)) ?_
   exact And.intro trivial ⟨[(3, 0), (4, 1)], rfl, AVle.refl _, ⟨MOle.refl _, MOle.refl _, trivial⟩⟩
theorem apply4_2 (s : Sta) (hL : s.es.length + s.ts.length < 4096) (hq : 0 ≤ s.seq ∧ s.seq < 999999) (tok f t : Int) (key : List UInt8) :
 FnM Tryz.prog 148 0 [s.av, (Rc.mk 4 tok 2 f t key).av] [] (.tup [(s.app ⟨4, tok, 2, f, t, key⟩).own, .bool (s.takes ⟨4, tok, 2, f, t, key⟩), .int .i64 0]) (s.app ⟨4, tok, 2, f, t, key⟩).objs 2 := by
 have c := takes4_2 s (by omega) tok f t key
 have hc := copiedS_own s (by omega) (by omega)
 by_cases ht : s.takes ⟨4, tok, 2, f, t, key⟩ = true
 · have ea : s.app ⟨4, tok, 2, f, t, key⟩ = ({ s.tick with es := noE key s.es, ts := s.ts ++ [⟨s.seq + 1, key⟩] } : Sta).lower 2 t := by unfold Sta.app; rw [if_pos ht, if_neg (show ¬ ((4 : Int) = 1 ∨ (4 : Int) = 3) by decide), if_neg (show ¬ (4 : Int) = 2 by decide), if_pos rfl]
   have hany : s.es.any (fun e => decide (e.key = key)) = true := noE_any (r := ⟨4, tok, 2, f, t, key⟩) (takes_4 ht rfl)
   have hd := DelEn_some s.es (by omega) 176 (Rc.mk 4 tok 2 f t key).row (fun e => decide (e.key = key)) (fun e _ => applyE_fn e ⟨4, tok, 2, f, t, key⟩) hany
   rw [ht] at c ⊢
   rw [ea]
   refine FnM.introC Tryz.call148 Tryz.func148 rfl rfl ?_
   conv => whnf
   refine CallC.sca _ (c) ?_ ?_
   · exact rfl
   refine Grd.intro (fun h => absurd (of_decide_eq_true (p := s.seq = 999999) h) (by omega)) (fun _ => ?_)
   conv => whnf
   refine CallC.k [] hc rfl rfl (AVsle.refl _) trivial rfl ?_
   refine And.intro (inI64 (by omega) (by omega)) ?_
   conv => whnf
   refine CallC.m [(3, 0)] hd rfl rfl (AVsle.refl _) ⟨MOle.refl _, trivial⟩ rfl ⟨fun i hi => rfl, trivial⟩ rfl ?_
   refine And.intro ⟨show (s.ts.length + 1) * 24 ≤ 140737488355328 by omega, all1 rfl⟩ ?_
   refine And.intro ⟨show (0 : Int) ≤ 2 by omega, show (2 : Int) < ((3 : Nat) : Int) by omega⟩ ?_
   exact And.intro trivial ⟨[(6, 0), (9, 1)], rfl, AVle.refl _, ⟨MOle.refl _, arr_next (f := Tb.row) rfl rfl, trivial⟩⟩
 · have ht : s.takes ⟨4, tok, 2, f, t, key⟩ = false := by simpa using ht
   have ea : s.app ⟨4, tok, 2, f, t, key⟩ = s.tick := by unfold Sta.app; rw [if_neg (by rw [ht]; simp)]
   rw [ht] at c ⊢
   rw [ea]
   refine FnM.introC Tryz.call148 Tryz.func148 rfl rfl ?_
   conv => whnf
   refine CallC.sca _ (c) ?_ ?_
   · exact rfl
   refine Grd.intro (fun h => absurd (of_decide_eq_true (p := s.seq = 999999) h) (by omega)) (fun _ => ?_)
   conv => whnf
   refine CallC.k [] hc rfl rfl (AVsle.refl _) trivial rfl ?_
   refine And.intro (inI64 (by omega) (by omega)) ?_
   exact And.intro trivial ⟨[(3, 0), (4, 1)], rfl, AVle.refl _, ⟨MOle.refl _, MOle.refl _, trivial⟩⟩
theorem apply5 (s : Sta) (hL : s.es.length + s.ts.length < 4096) (hq : 0 ≤ s.seq ∧ s.seq < 999999) (tok tier f t : Int) (key : List UInt8) :
 FnM Tryz.prog 148 0 [s.av, (Rc.mk 5 tok tier f t key).av] [] (.tup [(s.app ⟨5, tok, tier, f, t, key⟩).own, .bool (s.takes ⟨5, tok, tier, f, t, key⟩), .int .i64 0]) (s.app ⟨5, tok, tier, f, t, key⟩).objs 2 := by
 have c := takes5 s (by omega) tok tier f t key
 have hc := copiedS_own s (by omega) (by omega)
 by_cases ht : s.takes ⟨5, tok, tier, f, t, key⟩ = true
 · have ea : s.app ⟨5, tok, tier, f, t, key⟩ = { s.tick with ts := noT key s.ts } := by unfold Sta.app; rw [if_pos ht, if_neg (show ¬ ((5 : Int) = 1 ∨ (5 : Int) = 3) by decide), if_neg (show ¬ (5 : Int) = 2 by decide), if_neg (show ¬ (5 : Int) = 4 by decide)]
   have hany : s.ts.any (fun e => decide (e.key = key)) = true := (fi_any).symm.trans (show s.takes ⟨5, tok, tier, f, t, key⟩ = true from ht)
   have hd := DelTb_some s.ts (by omega) 178 (Rc.mk 5 tok tier f t key).row (fun e => decide (e.key = key)) (fun e _ => applyT_fn e ⟨5, tok, tier, f, t, key⟩) hany
   rw [ht] at c ⊢
   rw [ea]
   refine FnM.introC Tryz.call148 Tryz.func148 rfl rfl ?_
   conv => whnf
   refine CallC.sca _ (c) ?_ ?_
   · exact rfl
   refine Grd.intro (fun h => absurd (of_decide_eq_true (p := s.seq = 999999) h) (by omega)) (fun _ => ?_)
   conv => whnf
   refine CallC.k [] hc rfl rfl (AVsle.refl _) trivial rfl ?_
   refine And.intro (inI64 (by omega) (by omega)) ?_
   conv => whnf
   refine CallC.m [(4, 0)] hd rfl rfl (AVsle.refl _) ⟨MOle.refl _, trivial⟩ rfl ⟨fun i hi => rfl, trivial⟩ rfl ?_
   exact And.intro trivial ⟨[(3, 0), (6, 1)], rfl, AVle.refl _, ⟨MOle.refl _, MOle.refl _, trivial⟩⟩
 · have ht : s.takes ⟨5, tok, tier, f, t, key⟩ = false := by simpa using ht
   have ea : s.app ⟨5, tok, tier, f, t, key⟩ = s.tick := by unfold Sta.app; rw [if_neg (by rw [ht]; simp)]
   rw [ht] at c ⊢
   rw [ea]
   refine FnM.introC Tryz.call148 Tryz.func148 rfl rfl ?_
   conv => whnf
   refine CallC.sca _ (c) ?_ ?_
   · exact rfl
   refine Grd.intro (fun h => absurd (of_decide_eq_true (p := s.seq = 999999) h) (by omega)) (fun _ => ?_)
   conv => whnf
   refine CallC.k [] hc rfl rfl (AVsle.refl _) trivial rfl ?_
   refine And.intro (inI64 (by omega) (by omega)) ?_
   exact And.intro trivial ⟨[(3, 0), (4, 1)], rfl, AVle.refl _, ⟨MOle.refl _, MOle.refl _, trivial⟩⟩
theorem apply_fn (s : Sta) (hL : s.es.length + s.ts.length < 4096) (hq : 0 ≤ s.seq ∧ s.seq < 999999) (r : Rc) (hr : r.ok = true) :
 FnM Tryz.prog 148 0 [s.av, r.av] [] (.tup [(s.app r).own, .bool (s.takes r), .int .i64 0]) (s.app r).objs 2 := by
 obtain ⟨k, tok, tier, f, t, key⟩ := r
 rcases kinds hr with ⟨rfl, rfl⟩ | rfl | ⟨rfl, h, hf⟩ | ⟨rfl, h⟩ | rfl
 · exact apply1 s hL hq tok f t key
 · exact apply2 s hL hq tok tier f t key
 · rcases h with rfl | rfl
   · exact apply3_1 s hL hq tok f t hf key
   · exact apply3_2 s hL hq tok f t hf key
 · rcases h with rfl | rfl | rfl
   · exact apply4_0 s hL hq tok f t key
   · exact apply4_1 s hL hq tok f t key
   · exact apply4_2 s hL hq tok f t key
 · exact apply5 s hL hq tok tier f t key
theorem specTakes1 (s : Sta) (hL : s.es.length ≤ 1000000000) (hT : s.ts.length ≤ 1000000000) (hq : 0 ≤ s.seq ∧ s.seq ≤ 999999) (tok tier f t : Int) (key : List UInt8) (hk : key.length ≤ 1000000000) : VFn Tryz.prog 134 [s.av, (Rc.mk 1 tok tier f t key).av] (.bool (s.takes ⟨1, tok, tier, f, t, key⟩)) := by
 have e : s.takes ⟨1, tok, tier, f, t, key⟩ = (decide (f = s.h0) && (decide (kN key = s.seq + 1) && !s.has key)) := rfl
 rw [e]
 refine VFn.introC Tryz.call134 Tryz.func134 rfl rfl ?_
 conv => whnf
 refine CallC.sca _ (l03ToKey_fn key hk) ?_ ?_
 · exact rfl
 refine And.intro (inI64 (by omega) (by omega)) ?_
 repeat' (conv => whnf
          first
  | refine Grd.intro (fun h => ?_) (fun h => ?_)
  | (refine CallC.sca _ (l06Named_fn s hL hT key) ?_ ?_; exact rfl)
  | refine And.intro ⟨show (0 : Int) ≤ 0 by omega, show (0 : Int) < ((3 : Nat) : Int) by omega⟩ ?_
  | refine And.intro trivial (AVle.of_eq (congrArg AV.bool ?_)))
 all_goals (clear e; simp_all)
theorem specTakes2 (s : Sta) (tok tier f t : Int) (key : List UInt8) (hk : key.length ≤ 1000000000) : VFn Tryz.prog 134 [s.av, (Rc.mk 2 tok tier f t key).av] (.bool (s.takes ⟨2, tok, tier, f, t, key⟩)) := by
 refine VFn.introC Tryz.call134 Tryz.func134 rfl rfl ?_
 conv => whnf
 refine CallC.sca _ (l03ToKey_fn key hk) ?_ ?_
 · exact rfl
 exact And.intro trivial (AVle.of_eq (congrArg AV.bool (show decide (s.fence < tok) = _ from rfl)))
set_option maxHeartbeats 4000000 in
theorem specTakes3_1 (s : Sta) (hL : s.es.length ≤ 1000000000) (hT : s.ts.length ≤ 1000000000) (tok f t : Int) (hf : 0 ≤ f ∧ f ≤ 1000000) (key : List UInt8) (hk : key.length ≤ 1000000000) : VFn Tryz.prog 134 [s.av, (Rc.mk 3 tok 1 f t key).av] (.bool (s.takes ⟨3, tok, 1, f, t, key⟩)) := by
 have w1 : VFn Tryz.prog 93 [.int .i64 1] (.int .i64 5) := l04Width_fn 1 (.inr (.inl rfl))
 have e : s.takes ⟨3, tok, 1, f, t, key⟩ = (decide (tok = s.fence) && (decide (f = s.h1) && (decide (kN key = f) && (decide (kW key = tok) && (decide (t = f + 5) && (decide (t ≤ s.h0) && (decide (s.l0 ≤ f) && !s.has key))))))) := rfl
 rw [e]
 clear e
 refine VFn.introC Tryz.call134 Tryz.func134 rfl rfl ?_
 conv => whnf
 refine CallC.sca _ (l03ToKey_fn key hk) ?_ ?_
 · exact rfl
 refine DrawC.mq 68 rfl (by kernel_rfl) ?_
 repeat' (first
  | refine Grd.intro (fun h => ?_) (fun h => ?_)
  | ((conv => whnf); refine Grd.intro (fun h => ?_) (fun h => ?_))
  | refine PCallQ.sca _ (w1) rfl ?_
  | refine PCallQ.sca _ (l06Named_fn s hL hT key) rfl ?_
  | refine And.intro (inI64 (by (try simp only); omega) (by (try simp only); omega)) ?_
  | refine And.intro ⟨show (0 : Int) ≤ 0 by omega, show (0 : Int) < ((3 : Nat) : Int) by omega⟩ ?_
  | refine And.intro ⟨show (0 : Int) ≤ 1 by omega, show (1 : Int) < ((3 : Nat) : Int) by omega⟩ ?_
  | refine And.intro ⟨show (0 : Int) ≤ 2 by omega, show (2 : Int) < ((3 : Nat) : Int) by omega⟩ ?_
  | refine And.intro trivial (AVle.of_eq (congrArg AV.bool ?_)))
 all_goals (first | (simp_all; done) | (simp_all; intros; omega))
set_option maxHeartbeats 4000000 in
theorem specTakes3_2 (s : Sta) (hL : s.es.length ≤ 1000000000) (hT : s.ts.length ≤ 1000000000) (tok f t : Int) (hf : 0 ≤ f ∧ f ≤ 1000000) (key : List UInt8) (hk : key.length ≤ 1000000000) : VFn Tryz.prog 134 [s.av, (Rc.mk 3 tok 2 f t key).av] (.bool (s.takes ⟨3, tok, 2, f, t, key⟩)) := by
 have w1 : VFn Tryz.prog 93 [.int .i64 2] (.int .i64 20) := l04Width_fn 2 (.inr (.inr rfl))
 have e : s.takes ⟨3, tok, 2, f, t, key⟩ = (decide (tok = s.fence) && (decide (f = s.h2) && (decide (kN key = f) && (decide (kW key = tok) && (decide (t = f + 20) && (decide (t ≤ s.h1) && (decide (s.l1 ≤ f) && !s.has key))))))) := rfl
 rw [e]
 clear e
 refine VFn.introC Tryz.call134 Tryz.func134 rfl rfl ?_
 conv => whnf
 refine CallC.sca _ (l03ToKey_fn key hk) ?_ ?_
 · exact rfl
 refine DrawC.mq 68 rfl (by kernel_rfl) ?_
 repeat' (first
  | refine Grd.intro (fun h => ?_) (fun h => ?_)
  | ((conv => whnf); refine Grd.intro (fun h => ?_) (fun h => ?_))
  | refine PCallQ.sca _ (w1) rfl ?_
  | refine PCallQ.sca _ (l06Named_fn s hL hT key) rfl ?_
  | refine And.intro (inI64 (by (try simp only); omega) (by (try simp only); omega)) ?_
  | refine And.intro ⟨show (0 : Int) ≤ 0 by omega, show (0 : Int) < ((3 : Nat) : Int) by omega⟩ ?_
  | refine And.intro ⟨show (0 : Int) ≤ 1 by omega, show (1 : Int) < ((3 : Nat) : Int) by omega⟩ ?_
  | refine And.intro ⟨show (0 : Int) ≤ 2 by omega, show (2 : Int) < ((3 : Nat) : Int) by omega⟩ ?_
  | refine And.intro trivial (AVle.of_eq (congrArg AV.bool ?_)))
 all_goals (first | (simp_all; done) | (simp_all; intros; omega))
set_option maxHeartbeats 1000000 in
theorem specTakes4_0 (s : Sta) (hL : s.es.length ≤ 1000000000) (tok f t : Int) (key : List UInt8) (hk : key.length ≤ 1000000000) : VFn Tryz.prog 134 [s.av, (Rc.mk 4 tok 0 f t key).av] (.bool (s.takes ⟨4, tok, 0, f, t, key⟩)) := by
 have e : s.takes ⟨4, tok, 0, f, t, key⟩ = (decide (tok = s.fence) && (headIs (ofT s.es 0) ⟨0, f, t, key⟩ && decide (t ≤ s.h1))) := rfl
 rw [e]
 clear e
 have c := l06First_fn s hL 0
 rcases fi_filter (fun e : En => decide (e.tier = 0)) s.es with ⟨h1, h2⟩ | ⟨i, hi, h1, r, h2⟩
 · rw [h1] at c
   rw [show ofT s.es 0 = [] from h2]
   refine VFn.introC Tryz.call134 Tryz.func134 rfl rfl ?_
   conv => whnf
   refine CallC.sca _ (l03ToKey_fn key hk) ?_ ?_
   · exact rfl
   conv => whnf
   refine CallC.sca _ (c) ?_ ?_
   · exact rfl
   refine DrawC.mq 43 rfl (by kernel_rfl) ?_
   repeat' (first
    | refine Grd.intro (fun h => ?_) (fun h => ?_)
    | ((conv => whnf); refine Grd.intro (fun h => ?_) (fun h => ?_))
    | refine And.intro (inI64 (by (try simp only); omega) (by (try simp only); omega)) ?_
    | refine And.intro trivial (AVle.of_eq (congrArg AV.bool ?_)))
   all_goals (show false = (_ && (false&& _)); simp)
 · rw [h1] at c
   rw [show ofT s.es 0 = ix s.es i :: r from h2]
   clear h1 h2
   have hH : headIs (ix s.es i :: r) ⟨0, f, t, key⟩ = (decide ((ix s.es ((i : Nat) : Int).toNat).tier = 0) && (decide ((ix s.es ((i : Nat) : Int).toNat).f = f) && (decide ((ix s.es ((i : Nat) : Int).toNat).t = t) && (((B (ix s.es ((i : Nat) : Int).toNat).key).toList == (B key).toList) && true)))) := headIs_cells (ix s.es i) r 0 f t key
   refine VFn.introC Tryz.call134 Tryz.func134 rfl rfl ?_
   conv => whnf
   refine CallC.sca _ (l03ToKey_fn key hk) ?_ ?_
   · exact rfl
   conv => whnf
   refine CallC.sca _ (c) ?_ ?_
   · exact rfl
   refine DrawC.mq 43 rfl (by kernel_rfl) ?_
   repeat' (first
    | refine Grd.intro (fun h => ?_) (fun h => ?_)
    | ((conv => whnf); refine Grd.intro (fun h => ?_) (fun h => ?_))
    | refine And.intro (show eqGB _ _ = true from by kernel_rfl) ?_
    | refine And.intro (inI64 (by (try simp only); omega) (by (try simp only); omega)) ?_
    | refine And.intro ⟨show (0 : Int) ≤ ((i : Nat) : Int) by omega, show ((i : Nat) : Int) < ((s.es.length : Nat) : Int) by omega⟩ ?_
    | refine And.intro ⟨show (0 : Int) ≤ 1 by omega, show (1 : Int) < ((3 : Nat) : Int) by omega⟩ ?_
    | refine And.intro ⟨show (0 : Int) ≤ 2 by omega, show (2 : Int) < ((3 : Nat) : Int) by omega⟩ ?_
    | refine And.intro trivial (AVle.of_eq (congrArg AV.bool ?_)))
   all_goals (clear c; rw [hH]; simp_all)
set_option maxHeartbeats 1000000 in
theorem specTakes4_1 (s : Sta) (hL : s.es.length ≤ 1000000000) (tok f t : Int) (key : List UInt8) (hk : key.length ≤ 1000000000) : VFn Tryz.prog 134 [s.av, (Rc.mk 4 tok 1 f t key).av] (.bool (s.takes ⟨4, tok, 1, f, t, key⟩)) := by
 have e : s.takes ⟨4, tok, 1, f, t, key⟩ = (decide (tok = s.fence) && (headIs (ofT s.es 1) ⟨1, f, t, key⟩ && decide (t ≤ s.h2))) := rfl
 rw [e]
 clear e
 have c := l06First_fn s hL 1
 rcases fi_filter (fun e : En => decide (e.tier = 1)) s.es with ⟨h1, h2⟩ | ⟨i, hi, h1, r, h2⟩
 · rw [h1] at c
   rw [show ofT s.es 1 = [] from h2]
   refine VFn.introC Tryz.call134 Tryz.func134 rfl rfl ?_
   conv => whnf
   refine CallC.sca _ (l03ToKey_fn key hk) ?_ ?_
   · exact rfl
   conv => whnf
   refine CallC.sca _ (c) ?_ ?_
   · exact rfl
   refine DrawC.mq 43 rfl (by kernel_rfl) ?_
   repeat' (first
    | refine Grd.intro (fun h => ?_) (fun h => ?_)
    | ((conv => whnf); refine Grd.intro (fun h => ?_) (fun h => ?_))
    | refine And.intro (inI64 (by (try simp only); omega) (by (try simp only); omega)) ?_
    | refine And.intro trivial (AVle.of_eq (congrArg AV.bool ?_)))
   all_goals (show false = (_ && (false&& _)); simp)
 · rw [h1] at c
   rw [show ofT s.es 1 = ix s.es i :: r from h2]
   clear h1 h2
   have hH : headIs (ix s.es i :: r) ⟨1, f, t, key⟩ = (decide ((ix s.es ((i : Nat) : Int).toNat).tier = 1) && (decide ((ix s.es ((i : Nat) : Int).toNat).f = f) && (decide ((ix s.es ((i : Nat) : Int).toNat).t = t) && (((B (ix s.es ((i : Nat) : Int).toNat).key).toList == (B key).toList) && true)))) := headIs_cells (ix s.es i) r 1 f t key
   refine VFn.introC Tryz.call134 Tryz.func134 rfl rfl ?_
   conv => whnf
   refine CallC.sca _ (l03ToKey_fn key hk) ?_ ?_
   · exact rfl
   conv => whnf
   refine CallC.sca _ (c) ?_ ?_
   · exact rfl
   refine DrawC.mq 43 rfl (by kernel_rfl) ?_
   repeat' (first
    | refine Grd.intro (fun h => ?_) (fun h => ?_)
    | ((conv => whnf); refine Grd.intro (fun h => ?_) (fun h => ?_))
    | refine And.intro (show eqGB _ _ = true from by kernel_rfl) ?_
    | refine And.intro (inI64 (by (try simp only); omega) (by (try simp only); omega)) ?_
    | refine And.intro ⟨show (0 : Int) ≤ ((i : Nat) : Int) by omega, show ((i : Nat) : Int) < ((s.es.length : Nat) : Int) by omega⟩ ?_
    | refine And.intro ⟨show (0 : Int) ≤ 1 by omega, show (1 : Int) < ((3 : Nat) : Int) by omega⟩ ?_
    | refine And.intro ⟨show (0 : Int) ≤ 2 by omega, show (2 : Int) < ((3 : Nat) : Int) by omega⟩ ?_
    | refine And.intro trivial (AVle.of_eq (congrArg AV.bool ?_)))
   all_goals (clear c; rw [hH]; simp_all)
set_option maxHeartbeats 1000000 in
theorem specTakes4_2 (s : Sta) (hL : s.es.length ≤ 1000000000) (tok f t : Int) (key : List UInt8) (hk : key.length ≤ 1000000000) : VFn Tryz.prog 134 [s.av, (Rc.mk 4 tok 2 f t key).av] (.bool (s.takes ⟨4, tok, 2, f, t, key⟩)) := by
 have e : s.takes ⟨4, tok, 2, f, t, key⟩ = (decide (tok = s.fence) && (headIs (ofT s.es 2) ⟨2, f, t, key⟩)) := (show (decide (tok = s.fence) && (headIs (ofT s.es 2) ⟨2, f, t, key⟩ && true)) = _ by rw [Bool.and_true])
 rw [e]
 clear e
 have c := l06First_fn s hL 2
 rcases fi_filter (fun e : En => decide (e.tier = 2)) s.es with ⟨h1, h2⟩ | ⟨i, hi, h1, r, h2⟩
 · rw [h1] at c
   rw [show ofT s.es 2 = [] from h2]
   refine VFn.introC Tryz.call134 Tryz.func134 rfl rfl ?_
   conv => whnf
   refine CallC.sca _ (l03ToKey_fn key hk) ?_ ?_
   · exact rfl
   conv => whnf
   refine CallC.sca _ (c) ?_ ?_
   · exact rfl
   refine DrawC.mq 43 rfl (by kernel_rfl) ?_
   repeat' (first
    | refine Grd.intro (fun h => ?_) (fun h => ?_)
    | ((conv => whnf); refine Grd.intro (fun h => ?_) (fun h => ?_))
    | refine And.intro (inI64 (by (try simp only); omega) (by (try simp only); omega)) ?_
    | refine And.intro trivial (AVle.of_eq (congrArg AV.bool ?_)))
   all_goals (show false = (_ && (false)); simp)
 · rw [h1] at c
   rw [show ofT s.es 2 = ix s.es i :: r from h2]
   clear h1 h2
   have hH : headIs (ix s.es i :: r) ⟨2, f, t, key⟩ = (decide ((ix s.es ((i : Nat) : Int).toNat).tier = 2) && (decide ((ix s.es ((i : Nat) : Int).toNat).f = f) && (decide ((ix s.es ((i : Nat) : Int).toNat).t = t) && (((B (ix s.es ((i : Nat) : Int).toNat).key).toList == (B key).toList) && true)))) := headIs_cells (ix s.es i) r 2 f t key
   refine VFn.introC Tryz.call134 Tryz.func134 rfl rfl ?_
   conv => whnf
   refine CallC.sca _ (l03ToKey_fn key hk) ?_ ?_
   · exact rfl
   conv => whnf
   refine CallC.sca _ (c) ?_ ?_
   · exact rfl
   refine DrawC.mq 43 rfl (by kernel_rfl) ?_
   repeat' (first
    | refine Grd.intro (fun h => ?_) (fun h => ?_)
    | ((conv => whnf); refine Grd.intro (fun h => ?_) (fun h => ?_))
    | refine And.intro (show eqGB _ _ = true from by kernel_rfl) ?_
    | refine And.intro (inI64 (by (try simp only); omega) (by (try simp only); omega)) ?_
    | refine And.intro ⟨show (0 : Int) ≤ ((i : Nat) : Int) by omega, show ((i : Nat) : Int) < ((s.es.length : Nat) : Int) by omega⟩ ?_
    | refine And.intro ⟨show (0 : Int) ≤ 1 by omega, show (1 : Int) < ((3 : Nat) : Int) by omega⟩ ?_
    | refine And.intro ⟨show (0 : Int) ≤ 2 by omega, show (2 : Int) < ((3 : Nat) : Int) by omega⟩ ?_
    | refine And.intro trivial (AVle.of_eq (congrArg AV.bool ?_)))
   all_goals (clear c; rw [hH]; simp_all)
theorem specTakes5 (s : Sta) (hT : s.ts.length ≤ 1000000000) (tok tier f t : Int) (key : List UInt8) (hk : key.length ≤ 1000000000) : VFn Tryz.prog 134 [s.av, (Rc.mk 5 tok tier f t key).av] (.bool (s.takes ⟨5, tok, tier, f, t, key⟩)) := by
 have e : s.takes ⟨5, tok, tier, f, t, key⟩ = s.ts.any (fun t => decide (t.key = key)) := fi_any
 rw [e]
 clear e
 refine VFn.introC Tryz.call134 Tryz.func134 rfl rfl ?_
 conv => whnf
 refine CallC.sca _ (l03ToKey_fn key hk) ?_ ?_
 · exact rfl
 refine LoopC.mk (fun i : Nat => i ≤ s.ts.length ∧ ∀ j, j < i → decide ((ix s.ts j).key = key) = false) (fun i => [(2, .bptr 0 0), (3, .bptr 1 0), (10, .int .i64 i)]) (fun i => [(0, .box s.row), (1, .box (Rc.mk 5 tok tier f t key).row)]) 2 (fun i => s.ts.length - i) 0
  ⟨⟨Nat.zero_le _, fun j hj => absurd hj (Nat.not_lt_zero j)⟩, [(0, 0), (1, 1)], rfl, rfl, ⟨AVle.refl _, AVle.refl _, AVle.refl _, trivial⟩, ⟨MOle.refl _, MOle.refl _, trivial⟩⟩ ?_
 intro i hi
 refine Grd.intro (fun h2 => ?_) (fun h2 => ?_)
 · have hin : i < s.ts.length := by have := of_decide_eq_true h2; omega
   refine DrawC.mq 9 rfl (by kernel_rfl) ?_
   refine And.intro (by omega) ?_
   refine Grd.intro (fun h3 => ?_) (fun h3 => ?_)
   · have h3 : ((B (ix s.ts i).key).toList == (B key).toList) = true := h3
     rw [B_eq] at h3
     rw [any_ix (p := fun e : Tb => decide (e.key = key)) hin h3]
     exact And.intro trivial (AVle.refl _)
   · have h3 : ((B (ix s.ts i).key).toList == (B key).toList) = false := h3
     rw [B_eq] at h3
     refine And.intro (inI64 (by omega) (by omega)) ?_
     exact ⟨i + 1, ⟨hin, fun j hj => by
      rcases Nat.lt_or_ge j i with h' | h'
      · exact hi.2 j h'
      · rw [show j = i by omega]; exact h3⟩, by omega, [(0, 0), (1, 1)], rfl, rfl, ⟨AVle.refl _, AVle.refl _, AVle.of_eq (congrArg (AV.int .i64) (by simp)), trivial⟩, ⟨MOle.refl _, MOle.refl _, trivial⟩⟩
 · have : i = s.ts.length := by have := of_decide_eq_false h2; omega
   subst this
   rw [any_no (p := fun e : Tb => decide (e.key = key)) hi.2]
   exact And.intro trivial (AVle.refl _)
theorem l06Takes_fn (s : Sta) (hL : s.es.length + s.ts.length ≤ 1000000) (hq : 0 ≤ s.seq ∧ s.seq ≤ 999999) (r : Rc) (hr : r.ok = true) : VFn Tryz.prog 134 [s.av, r.av] (.bool (s.takes r)) := by
 have hk0 := (Rc.okN hr).2
 obtain ⟨k, tok, tier, f, t, key⟩ := r
 have hk : key.length ≤ 1000000000 := Nat.le_trans hk0 (by decide)
 clear hk0
 rcases kinds hr with ⟨rfl, rfl⟩ | rfl | ⟨rfl, h, hf⟩ | ⟨rfl, h⟩ | rfl
 · exact specTakes1 s (by omega) (by omega) hq tok 0 f t key hk
 · exact specTakes2 s tok tier f t key hk
 · rcases h with rfl | rfl
   · exact specTakes3_1 s (by omega) (by omega) tok f t hf key hk
   · exact specTakes3_2 s (by omega) (by omega) tok f t hf key hk
 · rcases h with rfl | rfl | rfl
   · exact specTakes4_0 s (by omega) tok f t key hk
   · exact specTakes4_1 s (by omega) tok f t key hk
   · exact specTakes4_2 s (by omega) tok f t key hk
 · exact specTakes5 s (by omega) tok tier f t key hk
end Go.Proofs.YtigbaclopbcjnaaGreatDoor
