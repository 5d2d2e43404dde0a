/- Contracts of functions that the claim reaches, and the plain law of what they compute; each theorem bears its own conditions. -/
import Derived.Test.YtnplgeogieoioaaGreatDoorQ5
import Derived.Test.YtnplgeogieoioaaGreatDoorV52
import Derived.Test.YtnplgeogieoioaaGreatDoorQ4
import Derived.Test.YtnplgeogieoioaaGreatDoorQ3
import Derived.Test.YtnplgeogieoioaaGreatDoorQ2
set_option linter.unusedVariables false
set_option linter.constructorNameAsVariable false
set_option linter.unusedSimpArgs false
set_option maxRecDepth 20000
set_option maxHeartbeats 1000000
namespace Go.Proofs.YtnplgeogieoioaaGreatDoor
open Go Go.Vw
theorem noE_any {s : Sta} {r : Rc} (h : headIs (ofT s.es r.tier) r.en = true) : s.es.any (fun e => decide (e.key = r.key)) = true := List.any_eq_true.2 ⟨r.en, headIs_mem h, decide_eq_true rfl⟩
theorem applyE_fn (e : En) (row : Rc) : VFn Tryz.prog 156 [e.av, .eptr row.row 0] (.bool (decide (e.key = row.key))) := by
 refine VFn.introC Tryz.call156 Tryz.func156 rfl rfl ?_
 exact And.intro trivial (AVle.of_eq (congrArg AV.bool (show ((B e.key).toList == (B row.key).toList) = _ from B_eq)))
theorem applyT_fn (e : Tb) (row : Rc) : VFn Tryz.prog 158 [e.av, .eptr row.row 0] (.bool (decide (e.key = row.key))) := by
 refine VFn.introC Tryz.call158 Tryz.func158 rfl rfl ?_
 exact And.intro trivial (AVle.of_eq (congrArg AV.bool (show ((B e.key).toList == (B row.key).toList) = _ from B_eq)))
theorem apply1 (s : Sta) (hL : s.es.length + s.ts.length < 4096) (hq : 0 ≤ s.seq ∧ s.seq < 999999) (tok f t : Int) (key : List UInt8) :
 FnM Tryz.prog 79 0 [s.av, (Rc.mk 1 tok 0 f t key).av] [] (.tup [(s.app ⟨1, tok, 0, f, t, key⟩).own, .bool (s.takes ⟨1, tok, 0, f, t, key⟩), .int .i64 0]) (s.app ⟨1, tok, 0, f, t, key⟩).objs 2 := by
 have c := takes1 s (by omega) (by omega) (by omega) tok 0 f t key
 have hc := copiedS_own s (by omega) (by omega)
 by_cases ht : s.takes ⟨1, tok, 0, f, t, key⟩ = true
 · have ea : s.app ⟨1, tok, 0, f, t, key⟩ = ({ s.tick with es := s.es ++ [⟨0, f, t, key⟩] } : Sta).lift 0 t := by unfold Sta.app; rw [if_pos ht, if_pos (.inl rfl)]
   rw [ht] at c ⊢
   rw [ea]
   refine FnM.introC Tryz.call79 Tryz.func79 rfl rfl ?_
   conv => whnf
   refine CallC.sca _ (c) ?_ ?_
   · exact rfl
   refine Grd.intro (fun h => absurd (of_decide_eq_true (p := s.seq = 999999) h) (by omega)) (fun _ => ?_)
   refine And.intro (inI64 (by omega) (by omega)) ?_
   refine Grd.intro (fun h => absurd (of_decide_eq_true h) (by omega)) (fun _ => ?_)
   conv => whnf
   refine CallC.k [] hc rfl rfl (AVsle.refl _) trivial rfl ?_
   refine And.intro (inI64 (by omega) (by omega)) ?_
   refine DrawC.mq 5 rfl (by kernel_rfl) ?_
   conv => whnf
   refine PCallQ.sca _ (entry_fn ⟨1, tok, 0, f, t, key⟩) rfl ?_
   refine And.intro ⟨show (s.es.length + 1) * 40 ≤ 140737488355328 by omega, all1 rfl⟩ ?_
   refine And.intro ⟨show (0 : Int) ≤ 0 by omega, show (0 : Int) < ((3 : Nat) : Int) by omega⟩ ?_
   exact And.intro trivial ⟨[(11, 0), (4, 1)], rfl, AVle.refl _, ⟨arr_next (f := En.row) rfl rfl, MOle.refl _, trivial⟩⟩
 · have ht : s.takes ⟨1, tok, 0, f, t, key⟩ = false := by simpa using ht
   have ea : s.app ⟨1, tok, 0, f, t, key⟩ = s.tick := by unfold Sta.app; rw [if_neg (by rw [ht]; simp)]
   rw [ht] at c ⊢
   rw [ea]
   refine FnM.introC Tryz.call79 Tryz.func79 rfl rfl ?_
   conv => whnf
   refine CallC.sca _ (c) ?_ ?_
   · exact rfl
   refine Grd.intro (fun h => absurd (of_decide_eq_true (p := s.seq = 999999) h) (by omega)) (fun _ => ?_)
   conv => whnf
   refine CallC.k [] hc rfl rfl (AVsle.refl _) trivial rfl ?_
   refine And.intro (inI64 (by omega) (by omega)) ?_
   exact And.intro trivial ⟨[(3, 0), (4, 1)], rfl, AVle.refl _, ⟨MOle.refl _, MOle.refl _, trivial⟩⟩
theorem apply3_1 (s : Sta) (hL : s.es.length + s.ts.length < 4096) (hq : 0 ≤ s.seq ∧ s.seq < 999999) (tok f t : Int) (hf : 0 ≤ f ∧ f ≤ 1000000) (key : List UInt8) :
 FnM Tryz.prog 79 0 [s.av, (Rc.mk 3 tok 1 f t key).av] [] (.tup [(s.app ⟨3, tok, 1, f, t, key⟩).own, .bool (s.takes ⟨3, tok, 1, f, t, key⟩), .int .i64 0]) (s.app ⟨3, tok, 1, f, t, key⟩).objs 2 := by
 have c := takes3_1 s (by omega) (by omega) tok f t hf key
 have hc := copiedS_own s (by omega) (by omega)
 by_cases ht : s.takes ⟨3, tok, 1, f, t, key⟩ = true
 · have ea : s.app ⟨3, tok, 1, f, t, key⟩ = ({ s.tick with es := s.es ++ [⟨1, f, t, key⟩] } : Sta).lift 1 t := by unfold Sta.app; rw [if_pos ht, if_pos (.inr rfl)]
   rw [ht] at c ⊢
   rw [ea]
   refine FnM.introC Tryz.call79 Tryz.func79 rfl rfl ?_
   conv => whnf
   refine CallC.sca _ (c) ?_ ?_
   · exact rfl
   refine Grd.intro (fun h => absurd (of_decide_eq_true (p := s.seq = 999999) h) (by omega)) (fun _ => ?_)
   refine And.intro (inI64 (by omega) (by omega)) ?_
   refine Grd.intro (fun h => absurd (of_decide_eq_true h) (by omega)) (fun _ => ?_)
   conv => whnf
   refine CallC.k [] hc rfl rfl (AVsle.refl _) trivial rfl ?_
   refine And.intro (inI64 (by omega) (by omega)) ?_
   refine DrawC.mq 5 rfl (by kernel_rfl) ?_
   conv => whnf
   refine PCallQ.sca _ (entry_fn ⟨3, tok, 1, f, t, key⟩) rfl ?_
   refine And.intro ⟨show (s.es.length + 1) * 40 ≤ 140737488355328 by omega, all1 rfl⟩ ?_
   refine And.intro ⟨show (0 : Int) ≤ 1 by omega, show (1 : Int) < ((3 : Nat) : Int) by omega⟩ ?_
   exact And.intro trivial ⟨[(11, 0), (4, 1)], rfl, AVle.refl _, ⟨arr_next (f := En.row) rfl rfl, MOle.refl _, trivial⟩⟩
 · have ht : s.takes ⟨3, tok, 1, f, t, key⟩ = false := by simpa using ht
   have ea : s.app ⟨3, tok, 1, f, t, key⟩ = s.tick := by unfold Sta.app; rw [if_neg (by rw [ht]; simp)]
   rw [ht] at c ⊢
   rw [ea]
   refine FnM.introC Tryz.call79 Tryz.func79 rfl rfl ?_
   conv => whnf
   refine CallC.sca _ (c) ?_ ?_
   · exact rfl
   refine Grd.intro (fun h => absurd (of_decide_eq_true (p := s.seq = 999999) h) (by omega)) (fun _ => ?_)
   conv => whnf
   refine CallC.k [] hc rfl rfl (AVsle.refl _) trivial rfl ?_
   refine And.intro (inI64 (by omega) (by omega)) ?_
   exact And.intro trivial ⟨[(3, 0), (4, 1)], rfl, AVle.refl _, ⟨MOle.refl _, MOle.refl _, trivial⟩⟩
theorem apply3_2 (s : Sta) (hL : s.es.length + s.ts.length < 4096) (hq : 0 ≤ s.seq ∧ s.seq < 999999) (tok f t : Int) (hf : 0 ≤ f ∧ f ≤ 1000000) (key : List UInt8) :
 FnM Tryz.prog 79 0 [s.av, (Rc.mk 3 tok 2 f t key).av] [] (.tup [(s.app ⟨3, tok, 2, f, t, key⟩).own, .bool (s.takes ⟨3, tok, 2, f, t, key⟩), .int .i64 0]) (s.app ⟨3, tok, 2, f, t, key⟩).objs 2 := by
 have c := takes3_2 s (by omega) (by omega) tok f t hf key
 have hc := copiedS_own s (by omega) (by omega)
 by_cases ht : s.takes ⟨3, tok, 2, f, t, key⟩ = true
 · have ea : s.app ⟨3, tok, 2, f, t, key⟩ = ({ s.tick with es := s.es ++ [⟨2, f, t, key⟩] } : Sta).lift 2 t := by unfold Sta.app; rw [if_pos ht, if_pos (.inr rfl)]
   rw [ht] at c ⊢
   rw [ea]
   refine FnM.introC Tryz.call79 Tryz.func79 rfl rfl ?_
   conv => whnf
   refine CallC.sca _ (c) ?_ ?_
   · exact rfl
   refine Grd.intro (fun h => absurd (of_decide_eq_true (p := s.seq = 999999) h) (by omega)) (fun _ => ?_)
   refine And.intro (inI64 (by omega) (by omega)) ?_
   refine Grd.intro (fun h => absurd (of_decide_eq_true h) (by omega)) (fun _ => ?_)
   conv => whnf
   refine CallC.k [] hc rfl rfl (AVsle.refl _) trivial rfl ?_
   refine And.intro (inI64 (by omega) (by omega)) ?_
   refine DrawC.mq 5 rfl (by kernel_rfl) ?_
   conv => whnf
   refine PCallQ.sca _ (entry_fn ⟨3, tok, 2, f, t, key⟩) rfl ?_
   refine And.intro ⟨show (s.es.length + 1) * 40 ≤ 140737488355328 by omega, all1 rfl⟩ ?_
   refine And.intro ⟨show (0 : Int) ≤ 2 by omega, show (2 : Int) < ((3 : Nat) : Int) by omega⟩ ?_
   exact And.intro trivial ⟨[(11, 0), (4, 1)], rfl, AVle.refl _, ⟨arr_next (f := En.row) rfl rfl, MOle.refl _, trivial⟩⟩
 · have ht : s.takes ⟨3, tok, 2, f, t, key⟩ = false := by simpa using ht
   have ea : s.app ⟨3, tok, 2, f, t, key⟩ = s.tick := by unfold Sta.app; rw [if_neg (by rw [ht]; simp)]
   rw [ht] at c ⊢
   rw [ea]
   refine FnM.introC Tryz.call79 Tryz.func79 rfl rfl ?_
   conv => whnf
   refine CallC.sca _ (c) ?_ ?_
   · exact rfl
   refine Grd.intro (fun h => absurd (of_decide_eq_true (p := s.seq = 999999) h) (by omega)) (fun _ => ?_)
   conv => whnf
   refine CallC.k [] hc rfl rfl (AVsle.refl _) trivial rfl ?_
   refine And.intro (inI64 (by omega) (by omega)) ?_
   exact And.intro trivial ⟨[(3, 0), (4, 1)], rfl, AVle.refl _, ⟨MOle.refl _, MOle.refl _, trivial⟩⟩
theorem apply2 (s : Sta) (hL : s.es.length + s.ts.length < 4096) (hq : 0 ≤ s.seq ∧ s.seq < 999999) (tok tier f t : Int) (key : List UInt8) :
 FnM Tryz.prog 79 0 [s.av, (Rc.mk 2 tok tier f t key).av] [] (.tup [(s.app ⟨2, tok, tier, f, t, key⟩).own, .bool (s.takes ⟨2, tok, tier, f, t, key⟩), .int .i64 0]) (s.app ⟨2, tok, tier, f, t, key⟩).objs 2 := by
 have c := takes2 s tok tier f t key
 have hc := copiedS_own s (by omega) (by omega)
 by_cases ht : s.takes ⟨2, tok, tier, f, t, key⟩ = true
 · have ea : s.app ⟨2, tok, tier, f, t, key⟩ = { s.tick with fence := tok } := by unfold Sta.app; rw [if_pos ht, if_neg (show ¬ ((2 : Int) = 1 ∨ (2 : Int) = 3) by decide), if_pos rfl]
   rw [ht] at c ⊢
   rw [ea]
   refine FnM.introC Tryz.call79 Tryz.func79 rfl rfl ?_
   conv => whnf
   refine CallC.sca _ (c) ?_ ?_
   · exact rfl
   refine Grd.intro (fun h => absurd (of_decide_eq_true (p := s.seq = 999999) h) (by omega)) (fun _ => ?_)
   conv => whnf
   refine CallC.k [] hc rfl rfl (AVsle.refl _) trivial rfl ?_
   refine And.intro (inI64 (by omega) (by omega)) ?_
   exact And.intro trivial ⟨[(3, 0), (4, 1)], rfl, AVle.refl _, ⟨MOle.refl _, MOle.refl _, trivial⟩⟩
 · have ht : s.takes ⟨2, tok, tier, f, t, key⟩ = false := by simpa using ht
   have ea : s.app ⟨2, tok, tier, f, t, key⟩ = s.tick := by unfold Sta.app; rw [if_neg (by rw [ht]; simp)]
   rw [ht] at c ⊢
   rw [ea]
   refine FnM.introC Tryz.call79 Tryz.func79 rfl rfl ?_
   conv => whnf
   refine CallC.sca _ (c) ?_ ?_
   · exact rfl
   refine Grd.intro (fun h => absurd (of_decide_eq_true (p := s.seq = 999999) h) (by omega)) (fun _ => ?_)
   conv => whnf
   refine CallC.k [] hc rfl rfl (AVsle.refl _) trivial rfl ?_
   refine And.intro (inI64 (by omega) (by omega)) ?_
   exact And.intro trivial ⟨[(3, 0), (4, 1)], rfl, AVle.refl _, ⟨MOle.refl _, MOle.refl _, trivial⟩⟩
theorem apply4_0 (s : Sta) (hL : s.es.length + s.ts.length < 4096) (hq : 0 ≤ s.seq ∧ s.seq < 999999) (tok f t : Int) (key : List UInt8) :
 FnM Tryz.prog 79 0 [s.av, (Rc.mk 4 tok 0 f t key).av] [] (.tup [(s.app ⟨4, tok, 0, f, t, key⟩).own, .bool (s.takes ⟨4, tok, 0, f, t, key⟩), .int .i64 0]) (s.app ⟨4, tok, 0, f, t, key⟩).objs 2 := by
 have c := takes4_0 s (by omega) tok f t key
 have hc := copiedS_own s (by omega) (by omega)
 by_cases ht : s.takes ⟨4, tok, 0, f, t, key⟩ = true
 · have ea : s.app ⟨4, tok, 0, f, t, key⟩ = ({ s.tick with es := noE key s.es, ts := s.ts ++ [⟨s.seq + 1, key⟩] } : Sta).lower 0 t := by unfold Sta.app; rw [if_pos ht, if_neg (show ¬ ((4 : Int) = 1 ∨ (4 : Int) = 3) by decide), if_neg (show ¬ (4 : Int) = 2 by decide), if_pos rfl]
   have hany : s.es.any (fun e => decide (e.key = key)) = true := noE_any (r := ⟨4, tok, 0, f, t, key⟩) (takes_4 ht rfl)
   have hd := DelEn_some s.es (by omega) 156 (Rc.mk 4 tok 0 f t key).row (fun e => decide (e.key = key)) (fun e _ => applyE_fn e ⟨4, tok, 0, f, t, key⟩) hany
   rw [ht] at c ⊢
   rw [ea]
   refine FnM.introC Tryz.call79 Tryz.func79 rfl rfl ?_
   conv => whnf
   refine CallC.sca _ (c) ?_ ?_
   · exact rfl
   refine Grd.intro (fun h => absurd (of_decide_eq_true (p := s.seq = 999999) h) (by omega)) (fun _ => ?_)
   conv => whnf
   refine CallC.k [] hc rfl rfl (AVsle.refl _) trivial rfl ?_
   refine And.intro (inI64 (by omega) (by omega)) ?_
   conv => whnf
   refine CallC.m [(3, 0)] hd rfl rfl (AVsle.refl _) ⟨MOle.refl _, trivial⟩ rfl ⟨fun i hi => rfl, trivial⟩ rfl ?_
   refine And.intro ⟨show (s.ts.length + 1) * 24 ≤ 140737488355328 by omega, all1 rfl⟩ ?_
   refine And.intro ⟨show (0 : Int) ≤ 0 by omega, show (0 : Int) < ((3 : Nat) : Int) by omega⟩ ?_
   exact And.intro trivial ⟨[(6, 0), (9, 1)], rfl, AVle.refl _, ⟨MOle.refl _, arr_next (f := Tb.row) rfl rfl, trivial⟩⟩
 · have ht : s.takes ⟨4, tok, 0, f, t, key⟩ = false := by simpa using ht
   have ea : s.app ⟨4, tok, 0, f, t, key⟩ = s.tick := by unfold Sta.app; rw [if_neg (by rw [ht]; simp)]
   rw [ht] at c ⊢
   rw [ea]
   refine FnM.introC Tryz.call79 Tryz.func79 rfl rfl ?_
   conv => whnf
   refine CallC.sca _ (c) ?_ ?_
   · exact rfl
   refine Grd.intro (fun h => absurd (of_decide_eq_true (p := s.seq = 999999) h) (by omega)) (fun _ => ?_)
   conv => whnf
   refine CallC.k [] hc rfl rfl (AVsle.refl _) trivial rfl ?_
   refine And.intro (inI64 (by omega) (by omega)) ?_
   exact And.intro trivial ⟨[(3, 0), (4, 1)], rfl, AVle.refl _, ⟨MOle.refl _, MOle.refl _, trivial⟩⟩
theorem apply4_1 (s : Sta) (hL : s.es.length + s.ts.length < 4096) (hq : 0 ≤ s.seq ∧ s.seq < 999999) (tok f t : Int) (key : List UInt8) :
 FnM Tryz.prog 79 0 [s.av, (Rc.mk 4 tok 1 f t key).av] [] (.tup [(s.app ⟨4, tok, 1, f, t, key⟩).own, .bool (s.takes ⟨4, tok, 1, f, t, key⟩), .int .i64 0]) (s.app ⟨4, tok, 1, f, t, key⟩).objs 2 := by
 have c := takes4_1 s (by omega) tok f t key
 have hc := copiedS_own s (by omega) (by omega)
 by_cases ht : s.takes ⟨4, tok, 1, f, t, key⟩ = true
 · have ea : s.app ⟨4, tok, 1, f, t, key⟩ = ({ s.tick with es := noE key s.es, ts := s.ts ++ [⟨s.seq + 1, key⟩] } : Sta).lower 1 t := by unfold Sta.app; rw [if_pos ht, if_neg (show ¬ ((4 : Int) = 1 ∨ (4 : Int) = 3) by decide), if_neg (show ¬ (4 : Int) = 2 by decide), if_pos rfl]
   have hany : s.es.any (fun e => decide (e.key = key)) = true := noE_any (r := ⟨4, tok, 1, f, t, key⟩) (takes_4 ht rfl)
   have hd := DelEn_some s.es (by omega) 156 (Rc.mk 4 tok 1 f t key).row (fun e => decide (e.key = key)) (fun e _ => applyE_fn e ⟨4, tok, 1, f, t, key⟩) hany
   rw [ht] at c ⊢
   rw [ea]
   refine FnM.introC Tryz.call79 Tryz.func79 rfl rfl ?_
   conv => whnf
   refine CallC.sca _ (c) ?_ ?_
   · exact rfl
   refine Grd.intro (fun h => absurd (of_decide_eq_true (p := s.seq = 999999) h) (by omega)) (fun _ => ?_)
   conv => whnf
   refine CallC.k [] hc rfl rfl (AVsle.refl _) trivial rfl ?_
   refine And.intro (inI64 (by omega) (by omega)) ?_
   conv => whnf
   refine CallC.m [(3, 0)] hd rfl rfl (AVsle.refl _) ⟨MOle.refl _, trivial⟩ rfl ⟨fun i hi => rfl, trivial⟩ rfl ?_
   refine And.intro ⟨show (s.ts.length + 1) * 24 ≤ 140737488355328 by omega, all1 rfl⟩ ?_
   refine And.intro ⟨show (0 : Int) ≤ 1 by omega, show (1 : Int) < ((3 : Nat) : Int) by omega⟩ ?_
   exact And.intro trivial ⟨[(6, 0), (9, 1)], rfl, AVle.refl _, ⟨MOle.refl _, arr_next (f := Tb.row) rfl rfl, trivial⟩⟩
 · have ht : s.takes ⟨4, tok, 1, f, t, key⟩ = false := by simpa using ht
   have ea : s.app ⟨4, tok, 1, f, t, key⟩ = s.tick := by unfold Sta.app; rw [if_neg (by rw [ht]; simp)]
   rw [ht] at c ⊢
   rw [ea]
   refine FnM.introC Tryz.call79 Tryz.func79 rfl rfl ?_
   conv => whnf
   refine CallC.sca _ (c) ?_ ?_
   · exact rfl
   refine Grd.intro (fun h => absurd (of_decide_eq_true (p := s.seq = 999999) h) (by omega)) (fun _ => ?_)
   conv => whnf
   refine CallC.k [] hc rfl rfl (AVsle.refl _) trivial rfl ?_
   refine And.intro (inI64 (by omega) (by omega)) ?_
   exact And.intro trivial ⟨[(3, 0), (4, 1)], rfl, AVle.refl _, ⟨MOle.refl _, MOle.refl _, trivial⟩⟩
theorem apply4_2 (s : Sta) (hL : s.es.length + s.ts.length < 4096) (hq : 0 ≤ s.seq ∧ s.seq < 999999) (tok f t : Int) (key : List UInt8) :
 FnM Tryz.prog 79 0 [s.av, (Rc.mk 4 tok 2 f t key).av] [] (.tup [(s.app ⟨4, tok, 2, f, t, key⟩).own, .bool (s.takes ⟨4, tok, 2, f, t, key⟩), .int .i64 0]) (s.app ⟨4, tok, 2, f, t, key⟩).objs 2 := by
 have c := takes4_2 s (by omega) tok f t key
 have hc := copiedS_own s (by omega) (by omega)
 by_cases ht : s.takes ⟨4, tok, 2, f, t, key⟩ = true
 · have ea : s.app ⟨4, tok, 2, f, t, key⟩ = ({ s.tick with es := noE key s.es, ts := s.ts ++ [⟨s.seq + 1, key⟩] } : Sta).lower 2 t := by unfold Sta.app; rw [if_pos ht, if_neg (show ¬ ((4 : Int) = 1 ∨ (4 : Int) = 3) by decide), if_neg (show ¬ (4 : Int) = 2 by decide), if_pos rfl]
   have hany : s.es.any (fun e => decide (e.key = key)) = true := noE_any (r := ⟨4, tok, 2, f, t, key⟩) (takes_4 ht rfl)
   have hd := DelEn_some s.es (by omega) 156 (Rc.mk 4 tok 2 f t key).row (fun e => decide (e.key = key)) (fun e _ => applyE_fn e ⟨4, tok, 2, f, t, key⟩) hany
   rw [ht] at c ⊢
   rw [ea]
   refine FnM.introC Tryz.call79 Tryz.func79 rfl rfl ?_
   conv => whnf
   refine CallC.sca _ (c) ?_ ?_
   · exact rfl
   refine Grd.intro (fun h => absurd (of_decide_eq_true (p := s.seq = 999999) h) (by omega)) (fun _ => ?_)
   conv => whnf
   refine CallC.k [] hc rfl rfl (AVsle.refl _) trivial rfl ?_
   refine And.intro (inI64 (by omega) (by omega)) ?_
   conv => whnf
   refine CallC.m [(3, 0)] hd rfl rfl (AVsle.refl _) ⟨MOle.refl _, trivial⟩ rfl ⟨fun i hi => rfl, trivial⟩ rfl ?_
   refine And.intro ⟨show (s.ts.length + 1) * 24 ≤ 140737488355328 by omega, all1 rfl⟩ ?_
   refine And.intro ⟨show (0 : Int) ≤ 2 by omega, show (2 : Int) < ((3 : Nat) : Int) by omega⟩ ?_
   exact And.intro trivial ⟨[(6, 0), (9, 1)], rfl, AVle.refl _, ⟨MOle.refl _, arr_next (f := Tb.row) rfl rfl, trivial⟩⟩
 · have ht : s.takes ⟨4, tok, 2, f, t, key⟩ = false := by simpa using ht
   have ea : s.app ⟨4, tok, 2, f, t, key⟩ = s.tick := by unfold Sta.app; rw [if_neg (by rw [ht]; simp)]
   rw [ht] at c ⊢
   rw [ea]
   refine FnM.introC Tryz.call79 Tryz.func79 rfl rfl ?_
   conv => whnf
   refine CallC.sca _ (c) ?_ ?_
   · exact rfl
   refine Grd.intro (fun h => absurd (of_decide_eq_true (p := s.seq = 999999) h) (by omega)) (fun _ => ?_)
   conv => whnf
   refine CallC.k [] hc rfl rfl (AVsle.refl _) trivial rfl ?_
   refine And.intro (inI64 (by omega) (by omega)) ?_
   exact And.intro trivial ⟨[(3, 0), (4, 1)], rfl, AVle.refl _, ⟨MOle.refl _, MOle.refl _, trivial⟩⟩
theorem apply5 (s : Sta) (hL : s.es.length + s.ts.length < 4096) (hq : 0 ≤ s.seq ∧ s.seq < 999999) (tok tier f t : Int) (key : List UInt8) :
 FnM Tryz.prog 79 0 [s.av, (Rc.mk 5 tok tier f t key).av] [] (.tup [(s.app ⟨5, tok, tier, f, t, key⟩).own, .bool (s.takes ⟨5, tok, tier, f, t, key⟩), .int .i64 0]) (s.app ⟨5, tok, tier, f, t, key⟩).objs 2 := by
 have c := takes5 s (by omega) tok tier f t key
 have hc := copiedS_own s (by omega) (by omega)
 by_cases ht : s.takes ⟨5, tok, tier, f, t, key⟩ = true
 · have ea : s.app ⟨5, tok, tier, f, t, key⟩ = { s.tick with ts := noT key s.ts } := by unfold Sta.app; rw [if_pos ht, if_neg (show ¬ ((5 : Int) = 1 ∨ (5 : Int) = 3) by decide), if_neg (show ¬ (5 : Int) = 2 by decide), if_neg (show ¬ (5 : Int) = 4 by decide)]
   have hany : s.ts.any (fun e => decide (e.key = key)) = true := (fi_any).symm.trans (show s.takes ⟨5, tok, tier, f, t, key⟩ = true from ht)
   have hd := DelTb_some s.ts (by omega) 158 (Rc.mk 5 tok tier f t key).row (fun e => decide (e.key = key)) (fun e _ => applyT_fn e ⟨5, tok, tier, f, t, key⟩) hany
   rw [ht] at c ⊢
   rw [ea]
   refine FnM.introC Tryz.call79 Tryz.func79 rfl rfl ?_
   conv => whnf
   refine CallC.sca _ (c) ?_ ?_
   · exact rfl
   refine Grd.intro (fun h => absurd (of_decide_eq_true (p := s.seq = 999999) h) (by omega)) (fun _ => ?_)
   conv => whnf
   refine CallC.k [] hc rfl rfl (AVsle.refl _) trivial rfl ?_
   refine And.intro (inI64 (by omega) (by omega)) ?_
   conv => whnf
   refine CallC.m [(4, 0)] hd rfl rfl (AVsle.refl _) ⟨MOle.refl _, trivial⟩ rfl ⟨fun i hi => rfl, trivial⟩ rfl ?_
   exact And.intro trivial ⟨[(3, 0), (6, 1)], rfl, AVle.refl _, ⟨MOle.refl _, MOle.refl _, trivial⟩⟩
 · have ht : s.takes ⟨5, tok, tier, f, t, key⟩ = false := by simpa using ht
   have ea : s.app ⟨5, tok, tier, f, t, key⟩ = s.tick := by unfold Sta.app; rw [if_neg (by rw [ht]; simp)]
   rw [ht] at c ⊢
   rw [ea]
   refine FnM.introC Tryz.call79 Tryz.func79 rfl rfl ?_
   conv => whnf
   refine CallC.sca _ (c) ?_ ?_
   · exact rfl
   refine Grd.intro (fun h => absurd (of_decide_eq_true (p := s.seq = 999999) h) (by omega)) (fun _ => ?_)
   conv => whnf
   refine CallC.k [] hc rfl rfl (AVsle.refl _) trivial rfl ?_
   refine And.intro (inI64 (by omega) (by omega)) ?_
   exact And.intro trivial ⟨[(3, 0), (4, 1)], rfl, AVle.refl _, ⟨MOle.refl _, MOle.refl _, trivial⟩⟩
theorem apply_fn (s : Sta) (hL : s.es.length + s.ts.length < 4096) (hq : 0 ≤ s.seq ∧ s.seq < 999999) (r : Rc) (hr : r.ok = true) :
 FnM Tryz.prog 79 0 [s.av, r.av] [] (.tup [(s.app r).own, .bool (s.takes r), .int .i64 0]) (s.app r).objs 2 := by
 obtain ⟨k, tok, tier, f, t, key⟩ := r
 rcases kinds hr with ⟨rfl, rfl⟩ | rfl | ⟨rfl, h, hf⟩ | ⟨rfl, h⟩ | rfl
 · exact apply1 s hL hq tok f t key
 · exact apply2 s hL hq tok tier f t key
 · rcases h with rfl | rfl
   · exact apply3_1 s hL hq tok f t hf key
   · exact apply3_2 s hL hq tok f t hf key
 · rcases h with rfl | rfl | rfl
   · exact apply4_0 s hL hq tok f t key
   · exact apply4_1 s hL hq tok f t key
   · exact apply4_2 s hL hq tok f t key
 · exact apply5 s hL hq tok tier f t key

def Sta.nrow (s : Sta) : List AV := [.int .i64 s.seq, .int .i64 s.fence, .nilsl, .nilsl, .int .i64 s.l0, .int .i64 s.l1, .int .i64 s.l2, .int .i64 s.h0, .int .i64 s.h1, .int .i64 s.h2]
theorem draw (s : Src) {k : Int} (h : s.ok k) (hk : 0 ≤ k ∧ k ≤ 10000000) (n : Int) (hn : 1 ≤ n) : ∃ (v : Nat) (q : Src), (v : Int) < n ∧ q.ok (k + 3) ∧ FnM Tryz.prog 97 1 [.bptr 0 0, .int .i64 n] [(0, .box s.row)] (.int .i64 v) [(0, .box q.row)] 1 := by
 have n1 := next_b s h (by omega) n
 have n2 := n1.1.2 hn
 obtain ⟨v, hv⟩ : ∃ v : Nat, (s.next n).1 = v := ⟨(s.next n).1.toNat, by omega⟩
 have c := next_fn s n (wk h (by omega))
 rw [hv] at c n2
 exact ⟨v, (s.next n).2, n2, n1.2.1, c⟩
def tch (x y : Int) (e : En) : Bool := decide ((if x > e.f then x else e.f) < (if y < e.t then y else e.t))
theorem seq_ex {α : Type} (M : Nat) (I : Nat → α → Prop) (T : α → α → Prop) (a0 : α) (h0 : I 0 a0) (hs : ∀ n a, n < M → I n a → ∃ b, T a b ∧ I (n + 1) b) :
 ∃ f : Nat → α, f 0 = a0 ∧ (∀ n, n ≤ M → I n (f n)) ∧ ∀ n, n < M → T (f n) (f (n + 1)) := by
 classical
 let g : Nat → α → α := fun n a => if h : ∃ b, T a b ∧ I (n + 1) b then Classical.choose h else a
 let f : Nat → α := fun n => Nat.rec a0 (fun n a => g n a) n
 have hf : ∀ n, f (n + 1) = g n (f n) := fun n => rfl
 have hg : ∀ n a, (h : ∃ b, T a b ∧ I (n + 1) b) → T a (g n a) ∧ I (n + 1) (g n a) := fun n a h => by
  show T a (if h : ∃ b, T a b ∧ I (n + 1) b then Classical.choose h else a) ∧ I (n + 1) (if h : ∃ b, T a b ∧ I (n + 1) b then Classical.choose h else a)
  rw [dif_pos h]
  exact Classical.choose_spec h
 have hI : ∀ n, n ≤ M → I n (f n) := by
  intro n
  induction n with
  | zero => intro _; exact h0
  | succ n ih => intro h; rw [hf]; exact (hg n _ (hs n _ (by omega) (ih (by omega)))).2
 exact ⟨f, rfl, hI, fun n h => by rw [hf]; exact (hg n _ (hs n _ h (hI n (by omega)))).1⟩
theorem size_fn (s : Src) (n : Int) (h : s.ok 100000000) (hn : 1 ≤ n ∧ n ≤ 1000) : ∃ v : Int, (1 ≤ v ∧ v ≤ n) ∧ FnM Tryz.prog 98 1 [.bptr 0 0, .int .i64 n] [(0, .box s.row)] (.int .i64 v) [(0, .box s.row)] 1 := by
 have hc := h.2.2
 have q := tdiv_b (n := (s.code.length : Int)) (m := 12) (by omega) (by decide)
 refine ⟨if n < 1 + (s.code.length : Int).tdiv 12 then n else 1 + (s.code.length : Int).tdiv 12, by split <;> omega, ?_⟩
 refine FnM.introC Tryz.call98 Tryz.func98 rfl rfl ?_
 refine And.intro ⟨by decide, inI64 (by omega) (by omega)⟩ ?_
 refine And.intro (inI64 (by omega) (by omega)) ?_
 exact And.intro trivial ⟨[(0, 0)], rfl, AVle.refl _, ⟨MOle.refl _, trivial⟩⟩

def kp (k : Int) : Int := if k = 0 then 40 else if k = 1 then 100 else 400
theorem keep_fn (k : Int) (h : k = 0 ∨ k = 1 ∨ k = 2) : VFn Tryz.prog 258 [.int .i64 k] (.int .i64 (kp k)) := by
 rcases h with rfl | rfl | rfl
 · refine VFn.introC Tryz.call258 Tryz.func258 rfl rfl ?_
   refine And.intro ⟨by omega, by show (0 : Int) < ((3 : Nat) : Int); omega⟩ ?_
   exact And.intro trivial (AVle.refl _)
 · refine VFn.introC Tryz.call258 Tryz.func258 rfl rfl ?_
   refine And.intro ⟨by omega, by show (1 : Int) < ((3 : Nat) : Int); omega⟩ ?_
   exact And.intro trivial (AVle.refl _)
 · refine VFn.introC Tryz.call258 Tryz.func258 rfl rfl ?_
   refine And.intro ⟨by omega, by show (2 : Int) < ((3 : Nat) : Int); omega⟩ ?_
   exact And.intro trivial (AVle.refl _)
def expK (s : Sta) (now k : Int) : Option En := match ofT s.es k with
 | [] => none
 | e :: _ => if e.t + kp k ≤ now ∧ (k = 2 ∨ e.t ≤ s.hi (k + 1)) then some e else none
def expR (s : Sta) (now : Int) : En × Bool := match expK s now 0 with
 | some e => (e, true)
 | none => match expK s now 1 with
   | some e => (e, true)
   | none => match expK s now 2 with
     | some e => (e, true)
     | none => (default, false)
theorem expR_at {s : Sta} {now : Int} {i : Nat} {e : En} (hi : i < 3) (h0 : ∀ j : Nat, j < i → expK s now j = none) (h : expK s now i = some e) : expR s now = (e, true) := by
 unfold expR
 have h3 : i = 0 ∨ i = 1 ∨ i = 2 := by omega
 rcases h3 with rfl | rfl | rfl
 · rw [show expK s now 0 = some e from h]
 · rw [show expK s now 0 = none from h0 0 (by decide), show expK s now 1 = some e from h]
 · rw [show expK s now 0 = none from h0 0 (by decide), show expK s now 1 = none from h0 1 (by decide), show expK s now 2 = some e from h]
theorem expR_no {s : Sta} {now : Int} (h0 : ∀ j : Nat, j < 3 → expK s now j = none) : expR s now = (default, false) := by
 unfold expR
 rw [show expK s now 0 = none from h0 0 (by decide), show expK s now 1 = none from h0 1 (by decide), show expK s now 2 = none from h0 2 (by decide)]
theorem expired_fn (s : Sta) (now : Int) (hn : 0 ≤ now ∧ now ≤ 200000) (h : s.ok = true) : VFn Tryz.prog 229 [s.av, .int .i64 now] (.tup [(expR s now).1.av, .bool (expR s now).2]) := by
 have hO := (staOK_iff s).1 h
 have hb := Sta.hi_b h
 have hL := hO.len
 have hes : ∀ e ∈ s.es, 0 ≤ e.t ∧ e.t ≤ 100000 := fun e he => by
  have := hO.es e he
  simp [En.ok, isRange, within] at this
  omega
 have hof : ∀ k, ∀ e r, ofT s.es k = e :: r → 0 ≤ e.t ∧ e.t ≤ 100000 := fun k e r h => hes e (by
  have : e ∈ ofT s.es k := by rw [h]; simp
  exact (List.mem_filter.1 this).1)
 refine VFn.introC Tryz.call229 Tryz.func229 rfl rfl ?_
 refine LoopC.mk (fun i : Nat => i ≤ 3 ∧ ∀ j : Nat, j < i → expK s now j = none) (fun i => [(1, .int .i64 now), (2, .bptr 0 0), (4, .bptr 1 0), (8, .int .i64 i)]) (fun i => [(0, .box s.row), (1, .box (default : En).row)]) 2 (fun i => 3 - i) 0
  ⟨⟨Nat.zero_le _, fun j hj => absurd hj (Nat.not_lt_zero j)⟩, [(0, 0), (1, 1)], rfl, rfl, ⟨AVle.refl _, AVle.refl _, AVle.refl _, AVle.refl _, trivial⟩, ⟨MOle.refl _, MOle.refl _, trivial⟩⟩ ?_
 intro i hi
 obtain ⟨hi, h0⟩ := hi
 have h4 : i = 0 ∨ i = 1 ∨ i = 2 ∨ i = 3 := by omega
 rcases h4 with rfl | rfl | rfl | rfl
 · have cO := ofS_fn s (by omega) 0
   have cK : VFn Tryz.prog 258 [.int .i64 0] (.int .i64 40) := keep_fn 0 (.inl rfl)
   have nx : ∀ j : Nat, j = 0 + 1 → expK s now 0 = none → ∀ l : Nat, l < j → expK s now l = none := fun j hj hk l hl => by
    rcases Nat.lt_or_ge l 0 with h | h
    · exact h0 l h
    · rw [show l = 0 by omega]; exact hk
   cases hL0 : ofT s.es 0 with
   | nil =>
     rw [hL0] at cO
     conv => whnf
     refine CallC.nl _ (cO) ?_ ?_
     · exact rfl
     refine DrawC.mkQ 28 [] rfl (by kernel_rfl) ?_; refine And.intro (by kernel_rfl) ?_
     refine And.intro (inI64 (by omega) (by omega)) ?_
     exact ⟨1, ⟨by decide, nx 1 rfl (by unfold expK; rw [hL0])⟩, by decide, [(0, 0), (1, 1)], rfl, rfl, ⟨AVle.refl _, AVle.refl _, AVle.refl _, AVle.refl _, trivial⟩, ⟨MOle.refl _, MOle.refl _, trivial⟩⟩
   | cons e r =>
     have he := hof 0 e r hL0
     have hx : (ix (e :: r) (Int.toNat 0)).t = e.t := rfl
     rw [hL0] at cO
     conv => whnf
     refine CallC.nl _ (cO) ?_ ?_
     · exact rfl
     refine DrawC.mkQ 28 [] rfl (by kernel_rfl) ?_; refine And.intro (by kernel_rfl) ?_
     by_cases c2 : e.t + 40 ≤ now
     · by_cases c3 : e.t ≤ s.h1
       · have hk : expK s now 0 = some e := by unfold expK; rw [hL0]; exact if_pos ⟨c2, .inr c3⟩
         rw [expR_at (i := 0) (by decide) h0 hk]
         repeat' (conv => whnf
                  first
                   | (refine Grd.intro (fun _ => ?_) (fun h => ?_); rotate_left; focus (exfalso; revert h; simp [c2, c3]; done))
                   | (refine Grd.intro (fun h => ?_) (fun _ => ?_); focus (exfalso; revert h; simp [c2, c3]; done))
                   | refine PCallQ.sca _ cK rfl ?_
                   | (refine And.intro ?_ ?_; focus (decide; done))
                   | (refine And.intro ?_ ?_; focus (constructor; decide; simp; done))
                   | (refine And.intro ?_ ?_; focus (constructor; decide; simp; omega; done))
                   | (refine And.intro ?_ ?_; focus (apply inI64 <;> omega))
                   | fail)
         exact AVle.refl _
       · skip
         repeat' (conv => whnf
                  first
                   | (refine Grd.intro (fun _ => ?_) (fun h => ?_); rotate_left; focus (exfalso; revert h; simp [c2, c3]; done))
                   | (refine Grd.intro (fun h => ?_) (fun _ => ?_); focus (exfalso; revert h; simp [c2, c3]; done))
                   | refine PCallQ.sca _ cK rfl ?_
                   | (refine And.intro ?_ ?_; focus (decide; done))
                   | (refine And.intro ?_ ?_; focus (constructor; decide; simp; done))
                   | (refine And.intro ?_ ?_; focus (constructor; decide; simp; omega; done))
                   | (refine And.intro ?_ ?_; focus (apply inI64 <;> omega))
                   | fail)
         exact ⟨1, ⟨by decide, nx 1 rfl (by unfold expK; rw [hL0]; exact if_neg (by rintro ⟨_, h | h⟩; exact absurd h (by decide); exact c3 h))⟩, by decide, [(0, 0), (1, 1)], rfl, rfl, ⟨AVle.refl _, AVle.refl _, AVle.refl _, AVle.refl _, trivial⟩, ⟨MOle.refl _, MOle.refl _, trivial⟩⟩
     · skip
       repeat' (conv => whnf
                first
                 | (refine Grd.intro (fun _ => ?_) (fun h => ?_); rotate_left; focus (exfalso; revert h; simp [c2]; done))
                 | (refine Grd.intro (fun h => ?_) (fun _ => ?_); focus (exfalso; revert h; simp [c2]; done))
                 | refine PCallQ.sca _ cK rfl ?_
                 | (refine And.intro ?_ ?_; focus (decide; done))
                 | (refine And.intro ?_ ?_; focus (constructor; decide; simp; done))
                 | (refine And.intro ?_ ?_; focus (constructor; decide; simp; omega; done))
                 | (refine And.intro ?_ ?_; focus (apply inI64 <;> omega))
                 | fail)
       exact ⟨1, ⟨by decide, nx 1 rfl (by unfold expK; rw [hL0]; exact if_neg (fun h => c2 h.1))⟩, by decide, [(0, 0), (1, 1)], rfl, rfl, ⟨AVle.refl _, AVle.refl _, AVle.refl _, AVle.refl _, trivial⟩, ⟨MOle.refl _, MOle.refl _, trivial⟩⟩
 · have cO := ofS_fn s (by omega) 1
   have cK : VFn Tryz.prog 258 [.int .i64 1] (.int .i64 100) := keep_fn 1 (.inr (.inl rfl))
   have nx : ∀ j : Nat, j = 1 + 1 → expK s now 1 = none → ∀ l : Nat, l < j → expK s now l = none := fun j hj hk l hl => by
    rcases Nat.lt_or_ge l 1 with h | h
    · exact h0 l h
    · rw [show l = 1 by omega]; exact hk
   cases hL0 : ofT s.es 1 with
   | nil =>
     rw [hL0] at cO
     conv => whnf
     refine CallC.nl _ (cO) ?_ ?_
     · exact rfl
     refine DrawC.mkQ 28 [] rfl (by kernel_rfl) ?_; refine And.intro (by kernel_rfl) ?_
     refine And.intro (inI64 (by omega) (by omega)) ?_
     exact ⟨2, ⟨by decide, nx 2 rfl (by unfold expK; rw [hL0])⟩, by decide, [(0, 0), (1, 1)], rfl, rfl, ⟨AVle.refl _, AVle.refl _, AVle.refl _, AVle.refl _, trivial⟩, ⟨MOle.refl _, MOle.refl _, trivial⟩⟩
   | cons e r =>
     have he := hof 1 e r hL0
     have hx : (ix (e :: r) (Int.toNat 0)).t = e.t := rfl
     rw [hL0] at cO
     conv => whnf
     refine CallC.nl _ (cO) ?_ ?_
     · exact rfl
     refine DrawC.mkQ 28 [] rfl (by kernel_rfl) ?_; refine And.intro (by kernel_rfl) ?_
     by_cases c2 : e.t + 100 ≤ now
     · by_cases c3 : e.t ≤ s.h2
       · have hk : expK s now 1 = some e := by unfold expK; rw [hL0]; exact if_pos ⟨c2, .inr c3⟩
         rw [expR_at (i := 1) (by decide) h0 hk]
         repeat' (conv => whnf
                  first
                   | (refine Grd.intro (fun _ => ?_) (fun h => ?_); rotate_left; focus (exfalso; revert h; simp [c2, c3]; done))
                   | (refine Grd.intro (fun h => ?_) (fun _ => ?_); focus (exfalso; revert h; simp [c2, c3]; done))
                   | refine PCallQ.sca _ cK rfl ?_
                   | (refine And.intro ?_ ?_; focus (decide; done))
                   | (refine And.intro ?_ ?_; focus (constructor; decide; simp; done))
                   | (refine And.intro ?_ ?_; focus (constructor; decide; simp; omega; done))
                   | (refine And.intro ?_ ?_; focus (apply inI64 <;> omega))
                   | fail)
         exact AVle.refl _
       · skip
         repeat' (conv => whnf
                  first
                   | (refine Grd.intro (fun _ => ?_) (fun h => ?_); rotate_left; focus (exfalso; revert h; simp [c2, c3]; done))
                   | (refine Grd.intro (fun h => ?_) (fun _ => ?_); focus (exfalso; revert h; simp [c2, c3]; done))
                   | refine PCallQ.sca _ cK rfl ?_
                   | (refine And.intro ?_ ?_; focus (decide; done))
                   | (refine And.intro ?_ ?_; focus (constructor; decide; simp; done))
                   | (refine And.intro ?_ ?_; focus (constructor; decide; simp; omega; done))
                   | (refine And.intro ?_ ?_; focus (apply inI64 <;> omega))
                   | fail)
         exact ⟨2, ⟨by decide, nx 2 rfl (by unfold expK; rw [hL0]; exact if_neg (by rintro ⟨_, h | h⟩; exact absurd h (by decide); exact c3 h))⟩, by decide, [(0, 0), (1, 1)], rfl, rfl, ⟨AVle.refl _, AVle.refl _, AVle.refl _, AVle.refl _, trivial⟩, ⟨MOle.refl _, MOle.refl _, trivial⟩⟩
     · skip
       repeat' (conv => whnf
                first
                 | (refine Grd.intro (fun _ => ?_) (fun h => ?_); rotate_left; focus (exfalso; revert h; simp [c2]; done))
                 | (refine Grd.intro (fun h => ?_) (fun _ => ?_); focus (exfalso; revert h; simp [c2]; done))
                 | refine PCallQ.sca _ cK rfl ?_
                 | (refine And.intro ?_ ?_; focus (decide; done))
                 | (refine And.intro ?_ ?_; focus (constructor; decide; simp; done))
                 | (refine And.intro ?_ ?_; focus (constructor; decide; simp; omega; done))
                 | (refine And.intro ?_ ?_; focus (apply inI64 <;> omega))
                 | fail)
       exact ⟨2, ⟨by decide, nx 2 rfl (by unfold expK; rw [hL0]; exact if_neg (fun h => c2 h.1))⟩, by decide, [(0, 0), (1, 1)], rfl, rfl, ⟨AVle.refl _, AVle.refl _, AVle.refl _, AVle.refl _, trivial⟩, ⟨MOle.refl _, MOle.refl _, trivial⟩⟩
 · have cO := ofS_fn s (by omega) 2
   have cK : VFn Tryz.prog 258 [.int .i64 2] (.int .i64 400) := keep_fn 2 (.inr (.inr rfl))
   have nx : ∀ j : Nat, j = 2 + 1 → expK s now 2 = none → ∀ l : Nat, l < j → expK s now l = none := fun j hj hk l hl => by
    rcases Nat.lt_or_ge l 2 with h | h
    · exact h0 l h
    · rw [show l = 2 by omega]; exact hk
   cases hL0 : ofT s.es 2 with
   | nil =>
     rw [hL0] at cO
     conv => whnf
     refine CallC.nl _ (cO) ?_ ?_
     · exact rfl
     refine DrawC.mkQ 28 [] rfl (by kernel_rfl) ?_; refine And.intro (by kernel_rfl) ?_
     refine And.intro (inI64 (by omega) (by omega)) ?_
     exact ⟨3, ⟨by decide, nx 3 rfl (by unfold expK; rw [hL0])⟩, by decide, [(0, 0), (1, 1)], rfl, rfl, ⟨AVle.refl _, AVle.refl _, AVle.refl _, AVle.refl _, trivial⟩, ⟨MOle.refl _, MOle.refl _, trivial⟩⟩
   | cons e r =>
     have he := hof 2 e r hL0
     have hx : (ix (e :: r) (Int.toNat 0)).t = e.t := rfl
     rw [hL0] at cO
     conv => whnf
     refine CallC.nl _ (cO) ?_ ?_
     · exact rfl
     refine DrawC.mkQ 28 [] rfl (by kernel_rfl) ?_; refine And.intro (by kernel_rfl) ?_
     by_cases c2 : e.t + 400 ≤ now
     · have hk : expK s now 2 = some e := by unfold expK; rw [hL0]; exact if_pos ⟨c2, .inl rfl⟩
       rw [expR_at (i := 2) (by decide) h0 hk]
       repeat' (conv => whnf
                first
                 | (refine Grd.intro (fun _ => ?_) (fun h => ?_); rotate_left; focus (exfalso; revert h; simp [c2]; done))
                 | (refine Grd.intro (fun h => ?_) (fun _ => ?_); focus (exfalso; revert h; simp [c2]; done))
                 | refine PCallQ.sca _ cK rfl ?_
                 | (refine And.intro ?_ ?_; focus (decide; done))
                 | (refine And.intro ?_ ?_; focus (constructor; decide; simp; done))
                 | (refine And.intro ?_ ?_; focus (constructor; decide; simp; omega; done))
                 | (refine And.intro ?_ ?_; focus (apply inI64 <;> omega))
                 | fail)
       exact AVle.refl _
     · skip
       repeat' (conv => whnf
                first
                 | (refine Grd.intro (fun _ => ?_) (fun h => ?_); rotate_left; focus (exfalso; revert h; simp [c2]; done))
                 | (refine Grd.intro (fun h => ?_) (fun _ => ?_); focus (exfalso; revert h; simp [c2]; done))
                 | refine PCallQ.sca _ cK rfl ?_
                 | (refine And.intro ?_ ?_; focus (decide; done))
                 | (refine And.intro ?_ ?_; focus (constructor; decide; simp; done))
                 | (refine And.intro ?_ ?_; focus (constructor; decide; simp; omega; done))
                 | (refine And.intro ?_ ?_; focus (apply inI64 <;> omega))
                 | fail)
       exact ⟨3, ⟨by decide, nx 3 rfl (by unfold expK; rw [hL0]; exact if_neg (fun h => c2 h.1))⟩, by decide, [(0, 0), (1, 1)], rfl, rfl, ⟨AVle.refl _, AVle.refl _, AVle.refl _, AVle.refl _, trivial⟩, ⟨MOle.refl _, MOle.refl _, trivial⟩⟩
 · rw [expR_no h0]
   exact And.intro trivial (AVle.refl _)
theorem touching_own (s : Sta) (k x y : Int) (hL : s.es.length ≤ 1000000) : FnM Tryz.prog 222 0 [s.av, .int .i64 k, .int .i64 x, .int .i64 y] [] (.osl 0) [(0, .arr 116 4 ((ofT s.es k).filter (tch x y)).length fun i => (ix ((ofT s.es k).filter (tch x y)) i).row)] 1 := by
 have cO := ofS_fn s (by omega) k
 have hl : (ofT s.es k).length ≤ s.es.length := List.length_filter_le _ _
 generalize ofT s.es k = L at cO hl
 refine FnM.introC Tryz.call222 Tryz.func222 rfl rfl ?_
 conv => whnf
 refine CallC.nl _ (cO) ?_ ?_
 · exact rfl
 refine LoopC.mk (fun i : Nat => i ≤ L.length) (fun i => [(2, .int .i64 x), (3, .int .i64 y), (9, .osl 0), (15, ents L), (16, .int .i64 L.length), (17, .int .i64 i)])
  (fun i => [(0, .arr 116 4 ((L.take i).filter (tch x y)).length fun j => (ix ((L.take i).filter (tch x y)) j).row)]) 1 (fun i => L.length - i) 0
  ⟨Nat.zero_le _, [(1, 0)], rfl, rfl, ⟨AVle.refl _, AVle.refl _, AVle.refl _, AVle.refl _, AVle.refl _, AVle.refl _, trivial⟩, ⟨MOle.arr rfl fun i hi => absurd hi (Nat.not_lt_zero i), trivial⟩⟩ ?_
 intro i hi
 refine Grd.intro (fun g1 => ?_) (fun g1 => ?_)
 · have hin : i < L.length := by have := of_decide_eq_true g1; omega
   have hfl : ((L.take i).filter (tch x y)).length ≤ 1000000 := Nat.le_trans (List.length_filter_le _ _) (by rw [List.length_take]; omega)
   have hq : (L.take (i + 1)).filter (tch x y) = if tch x y (ix L i) = true then (L.take i).filter (tch x y) ++ [ix L i] else (L.take i).filter (tch x y) := filter_snoc hin
   refine And.intro (by omega) ?_
   refine Grd.intro (fun g2 => ?_) (fun g2 => ?_)
   · have g2 : tch x y (ix L i) = true := g2
     rw [if_pos g2] at hq
     refine And.intro ⟨show (((L.take i).filter (tch x y)).length + 1) * 40 ≤ 140737488355328 by omega, all1 rfl⟩ ?_
     refine And.intro (inI64 (by omega) (by omega)) ?_
     exact ⟨i + 1, hin, by omega, [(3, 0)], rfl, rfl, ⟨AVle.refl _, AVle.refl _, AVle.refl _, AVle.refl _, AVle.refl _, AVle.of_eq (congrArg (AV.int .i64) (by simp)), trivial⟩, ⟨arr_next (f := En.row) hq rfl, trivial⟩⟩
   · have g2 : tch x y (ix L i) = false := g2
     rw [if_neg (by rw [g2]; simp)] at hq
     refine And.intro (inI64 (by omega) (by omega)) ?_
     exact ⟨i + 1, hin, by omega, [(0, 0)], rfl, rfl, ⟨AVle.refl _, AVle.refl _, AVle.refl _, AVle.refl _, AVle.refl _, AVle.of_eq (congrArg (AV.int .i64) (by simp)), trivial⟩, ⟨MOle.of_eq (show MO.arr 116 4 ((L.take i).filter (tch x y)).length (fun j => (ix ((L.take i).filter (tch x y)) j).row) = _ by rw [hq]), trivial⟩⟩
 · have : i = L.length := by have := of_decide_eq_false g1; omega
   subst this
   rw [List.take_of_length_le (Nat.le_refl _)]
   exact And.intro trivial ⟨[(0, 0)], rfl, AVle.refl _, ⟨MOle.refl _, trivial⟩⟩


instance : Inhabited Ag := ⟨⟨0, 0, 0, 0, 0, 0⟩⟩
structure Wk where
 id : Int
 ph : Int
 tok : Int
 job : Rc
 ins : List En
 got : Ag
instance : Inhabited Wk := ⟨⟨0, 0, 0, default, [], default⟩⟩
def Wk.row (e : Wk) : List AV := [.int .i64 e.id, .int .i64 e.ph, .int .i64 e.tok, .int .i64 e.job.k, .int .i64 e.job.tok, .int .i64 e.job.tier, .int .i64 e.job.f, .int .i64 e.job.t, .str (B e.job.key), ents e.ins, .int .i64 e.got.c, .int .i64 e.got.s, .int .i64 e.got.mn, .int .i64 e.got.mx, .int .i64 e.got.f, .int .i64 e.got.l]
def Wk.av (e : Wk) : AV := .agg e.row
abbrev wks (L : List Wk) : AV := .sl 16 L.length fun i => (ix L i).row
def Wk.size (e : Wk) : Nat := e.job.key.length + (e.ins.length + sumL En.size e.ins)
def Wk.small (e : Wk) : Prop := e.ins.length ≤ 1048576
structure Ig where
 id : Int
 seq : Int
 f : Int
 t : Int
 b : List Smp
 put : Bool
instance : Inhabited Ig := ⟨⟨0, 0, 0, 0, [], false⟩⟩
def Ig.row (e : Ig) : List AV := [.int .i64 e.id, .int .i64 e.seq, .int .i64 e.f, .int .i64 e.t, smps e.b, .bool e.put]
def Ig.av (e : Ig) : AV := .agg e.row
abbrev igs (L : List Ig) : AV := .sl 6 L.length fun i => (ix L i).row
def Ig.size (e : Ig) : Nat := e.b.length
def Ig.small (e : Ig) : Prop := e.b.length ≤ 1048576
structure Rr where
 id : Int
 ph : Int
 tier : Int
 f : Int
 t : Int
 til : Int
 code : Int
 left : List En
 got : Ag
instance : Inhabited Rr := ⟨⟨0, 0, 0, 0, 0, 0, 0, [], default⟩⟩
def Rr.row (e : Rr) : List AV := [.int .i64 e.id, .int .i64 e.ph, .int .i64 e.tier, .int .i64 e.f, .int .i64 e.t, .int .i64 e.til, .int .i64 e.code, ents e.left, .int .i64 e.got.c, .int .i64 e.got.s, .int .i64 e.got.mn, .int .i64 e.got.mx, .int .i64 e.got.f, .int .i64 e.got.l]
def Rr.av (e : Rr) : AV := .agg e.row
abbrev rrs (L : List Rr) : AV := .sl 14 L.length fun i => (ix L i).row
def Rr.size (e : Rr) : Nat := e.left.length + sumL En.size e.left
def Rr.small (e : Rr) : Prop := e.left.length ≤ 1048576
structure An where
 tier : Int
 f : Int
 t : Int
 code : Int
 a : Ag
instance : Inhabited An := ⟨⟨0, 0, 0, 0, default⟩⟩
def An.row (e : An) : List AV := [.int .i64 e.tier, .int .i64 e.f, .int .i64 e.t, .int .i64 e.code, .int .i64 e.a.c, .int .i64 e.a.s, .int .i64 e.a.mn, .int .i64 e.a.mx, .int .i64 e.a.f, .int .i64 e.a.l]
def An.av (e : An) : AV := .agg e.row
abbrev ans (L : List An) : AV := .sl 10 L.length fun i => (ix L i).row
structure Fl where
 st : Sto
 clk : Int
 k0 : Int
 k1 : Int
 k2 : Int
 k3 : Int
 k4 : Int
 k5 : Int
 k6 : Int
 ws : List Wk
 gs : List Ig
 rs : List Rr
 ac : List Smp
 an : List An
def Fl.row (s : Fl) : List AV := [obs s.st.os, .int .i64 s.st.next, .int .i64 s.clk, .int .i64 s.k0, .int .i64 s.k1, .int .i64 s.k2, .int .i64 s.k3, .int .i64 s.k4, .int .i64 s.k5, .int .i64 s.k6, wks s.ws, igs s.gs, rrs s.rs, smps s.ac, ans s.an]
def Fl.av (s : Fl) : AV := .agg s.row
def Fl.sk (s : Fl) : List AV := [.int .i64 s.k0, .int .i64 s.k1, .int .i64 s.k2, .int .i64 s.k3, .int .i64 s.k4, .int .i64 s.k5, .int .i64 s.k6]
structure Fl.small (s : Fl) : Prop where
 st : s.st.os.length ≤ 1048576
 sk : ∀ e ∈ s.st.os, e.key.length ≤ 1048576
 ws : s.ws.length ≤ 1048576
 wr : ∀ e ∈ s.ws, Wk.small e
 wk : ∀ e ∈ s.ws, e.job.key.length ≤ 1048576 ∧ ∀ x ∈ e.ins, x.key.length ≤ 1048576
 gs : s.gs.length ≤ 1048576
 gr : ∀ e ∈ s.gs, Ig.small e
 rs : s.rs.length ≤ 1048576
 rr : ∀ e ∈ s.rs, Rr.small e
 rk : ∀ e ∈ s.rs, ∀ x ∈ e.left, x.key.length ≤ 1048576
 ac : s.ac.length ≤ 1048576
 an : s.an.length ≤ 1048576
end Go.Proofs.YtnplgeogieoioaaGreatDoor
