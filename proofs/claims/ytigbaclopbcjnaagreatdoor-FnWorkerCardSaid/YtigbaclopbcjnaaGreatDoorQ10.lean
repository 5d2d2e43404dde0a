/- Contracts of functions that the claim reaches, and the plain law of what they compute; each theorem bears its own conditions. -/
import Derived.Test.YtigbaclopbcjnaaGreatDoorQ9
import Derived.Test.YtigbaclopbcjnaaGreatDoorV52
import Derived.Test.YtigbaclopbcjnaaGreatDoorQ7
import Derived.Test.YtigbaclopbcjnaaGreatDoorQ6
import Derived.Test.YtigbaclopbcjnaaGreatDoorQ8
import Derived.Test.YtigbaclopbcjnaaGreatDoorQ5
set_option linter.unusedVariables false
set_option linter.constructorNameAsVariable false
set_option linter.unusedSimpArgs false
set_option maxRecDepth 20000
set_option maxHeartbeats 1000000
namespace Go.Proofs.YtigbaclopbcjnaaGreatDoor
open Go Go.Vw
def Sta.nrow (s : Sta) : List AV := [.int .i64 s.seq, .int .i64 s.fence, .nilsl, .nilsl, .int .i64 s.l0, .int .i64 s.l1, .int .i64 s.l2, .int .i64 s.h0, .int .i64 s.h1, .int .i64 s.h2]
theorem l06Own_own (s : Sta) (hL : s.es.length ≤ 1000000) (hT : s.ts.length ≤ 1000000) : FnM Tryz.prog 135 0 [s.av] [] s.own s.objs 2 := by
 refine FnM.introC Tryz.call135 Tryz.func135 rfl rfl ?_
 refine And.intro ⟨show (0 + s.es.length) * 40 ≤ 140737488355328 by omega, fun i hi => rfl⟩ ?_
 refine And.intro ⟨show (0 + s.ts.length) * 24 ≤ 140737488355328 by omega, fun i hi => rfl⟩ ?_
 exact And.intro trivial ⟨[(3, 0), (5, 1)], rfl, AVle.refl _, ⟨MOle.arr (Nat.zero_add _) fun i hi => appRows_ge (Nat.zero_le _), MOle.arr (Nat.zero_add _) fun i hi => appRows_ge (Nat.zero_le _), trivial⟩⟩
theorem l06Own_mix (s : Sta) (hL : s.es.length ≤ 1000000) (hT : s.ts.length ≤ 1000000) : FnM Tryz.prog 135 0 [s.av] [] (.agg [.int .i64 s.seq, .int .i64 s.fence, ents s.es, .osl 0, .int .i64 s.l0, .int .i64 s.l1, .int .i64 s.l2, .int .i64 s.h0, .int .i64 s.h1, .int .i64 s.h2]) [(0, .arr 170 2 s.ts.length fun i => (ix s.ts i).row)] 1 := by
 refine FnM.introC Tryz.call135 Tryz.func135 rfl rfl ?_
 refine And.intro ⟨show (0 + s.es.length) * 40 ≤ 140737488355328 by omega, fun i hi => rfl⟩ ?_
 refine And.intro ⟨show (0 + s.ts.length) * 24 ≤ 140737488355328 by omega, fun i hi => rfl⟩ ?_
 refine And.intro trivial ⟨[(5, 0)], rfl, AVle.agg (AVsle.cons (AVle.refl _) (AVsle.cons (AVle.refl _) (AVsle.cons (AVle.sl (Nat.zero_add _) fun i hi => appRows_ge (Nat.zero_le _)) (AVsle.refl _)))), ⟨MOle.arr (Nat.zero_add _) fun i hi => appRows_ge (Nat.zero_le _), trivial⟩⟩
theorem specApply1 (s : Sta) (hL : s.es.length + s.ts.length < 4096) (hq : 0 ≤ s.seq ∧ s.seq < 999999) (tok f t : Int) (key : List UInt8) (hr : Rc.ok ⟨1, tok, 0, f, t, key⟩ = true) :
 FnM Tryz.prog 92 0 [s.av, (Rc.mk 1 tok 0 f t key).av] [] (.tup [(s.app ⟨1, tok, 0, f, t, key⟩).own, .bool (s.takes ⟨1, tok, 0, f, t, key⟩)]) (s.app ⟨1, tok, 0, f, t, key⟩).objs 2 := by
 have c := l06Takes_fn s (by omega) (by omega) ⟨1, tok, 0, f, t, key⟩ hr
 have hc := l06Own_own s (by omega) (by omega)
 have hm := l06Own_mix s (by omega) (by omega)
 by_cases ht : s.takes ⟨1, tok, 0, f, t, key⟩ = true
 · have ea : s.app ⟨1, tok, 0, f, t, key⟩ = ({ s.tick with es := s.es ++ [⟨0, f, t, key⟩] } : Sta).lift 0 t := by unfold Sta.app; rw [if_pos ht, if_pos (.inl rfl)]
   rw [ht] at c ⊢
   rw [ea]
   refine FnM.introC Tryz.call92 Tryz.func92 rfl rfl ?_
   conv => whnf
   refine CallC.sca _ (c) ?_ ?_
   · exact rfl
   conv => whnf
   refine CallC.k [] hc rfl rfl (AVsle.refl _) trivial rfl ?_
   refine And.intro (inI64 (by omega) (by omega)) ?_
   refine And.intro ⟨show (s.es.length + 1) * 40 ≤ 140737488355328 by omega, all1 rfl⟩ ?_
   refine And.intro ⟨show (0 : Int) ≤ 0 by omega, show (0 : Int) < ((3 : Nat) : Int) by omega⟩ ?_
   exact And.intro trivial ⟨[(6, 0), (4, 1)], rfl, AVle.refl _, ⟨arr_next (f := En.row) rfl rfl, MOle.refl _, trivial⟩⟩
 · have ht : s.takes ⟨1, tok, 0, f, t, key⟩ = false := by simpa using ht
   have ea : s.app ⟨1, tok, 0, f, t, key⟩ = s.tick := by unfold Sta.app; rw [if_neg (by rw [ht]; simp)]
   rw [ht] at c ⊢
   rw [ea]
   refine FnM.introC Tryz.call92 Tryz.func92 rfl rfl ?_
   conv => whnf
   refine CallC.sca _ (c) ?_ ?_
   · exact rfl
   conv => whnf
   refine CallC.k [] hc rfl rfl (AVsle.refl _) trivial rfl ?_
   refine And.intro (inI64 (by omega) (by omega)) ?_
   exact And.intro trivial ⟨[(3, 0), (4, 1)], rfl, AVle.refl _, ⟨MOle.refl _, MOle.refl _, trivial⟩⟩
theorem specApply3_1 (s : Sta) (hL : s.es.length + s.ts.length < 4096) (hq : 0 ≤ s.seq ∧ s.seq < 999999) (tok f t : Int) (key : List UInt8) (hr : Rc.ok ⟨3, tok, 1, f, t, key⟩ = true) :
 FnM Tryz.prog 92 0 [s.av, (Rc.mk 3 tok 1 f t key).av] [] (.tup [(s.app ⟨3, tok, 1, f, t, key⟩).own, .bool (s.takes ⟨3, tok, 1, f, t, key⟩)]) (s.app ⟨3, tok, 1, f, t, key⟩).objs 2 := by
 have c := l06Takes_fn s (by omega) (by omega) ⟨3, tok, 1, f, t, key⟩ hr
 have hc := l06Own_own s (by omega) (by omega)
 have hm := l06Own_mix s (by omega) (by omega)
 by_cases ht : s.takes ⟨3, tok, 1, f, t, key⟩ = true
 · have ea : s.app ⟨3, tok, 1, f, t, key⟩ = ({ s.tick with es := s.es ++ [⟨1, f, t, key⟩] } : Sta).lift 1 t := by unfold Sta.app; rw [if_pos ht, if_pos (.inr rfl)]
   rw [ht] at c ⊢
   rw [ea]
   refine FnM.introC Tryz.call92 Tryz.func92 rfl rfl ?_
   conv => whnf
   refine CallC.sca _ (c) ?_ ?_
   · exact rfl
   conv => whnf
   refine CallC.k [] hc rfl rfl (AVsle.refl _) trivial rfl ?_
   refine And.intro (inI64 (by omega) (by omega)) ?_
   refine And.intro ⟨show (s.es.length + 1) * 40 ≤ 140737488355328 by omega, all1 rfl⟩ ?_
   refine And.intro ⟨show (0 : Int) ≤ 1 by omega, show (1 : Int) < ((3 : Nat) : Int) by omega⟩ ?_
   exact And.intro trivial ⟨[(6, 0), (4, 1)], rfl, AVle.refl _, ⟨arr_next (f := En.row) rfl rfl, MOle.refl _, trivial⟩⟩
 · have ht : s.takes ⟨3, tok, 1, f, t, key⟩ = false := by simpa using ht
   have ea : s.app ⟨3, tok, 1, f, t, key⟩ = s.tick := by unfold Sta.app; rw [if_neg (by rw [ht]; simp)]
   rw [ht] at c ⊢
   rw [ea]
   refine FnM.introC Tryz.call92 Tryz.func92 rfl rfl ?_
   conv => whnf
   refine CallC.sca _ (c) ?_ ?_
   · exact rfl
   conv => whnf
   refine CallC.k [] hc rfl rfl (AVsle.refl _) trivial rfl ?_
   refine And.intro (inI64 (by omega) (by omega)) ?_
   exact And.intro trivial ⟨[(3, 0), (4, 1)], rfl, AVle.refl _, ⟨MOle.refl _, MOle.refl _, trivial⟩⟩
theorem specApply3_2 (s : Sta) (hL : s.es.length + s.ts.length < 4096) (hq : 0 ≤ s.seq ∧ s.seq < 999999) (tok f t : Int) (key : List UInt8) (hr : Rc.ok ⟨3, tok, 2, f, t, key⟩ = true) :
 FnM Tryz.prog 92 0 [s.av, (Rc.mk 3 tok 2 f t key).av] [] (.tup [(s.app ⟨3, tok, 2, f, t, key⟩).own, .bool (s.takes ⟨3, tok, 2, f, t, key⟩)]) (s.app ⟨3, tok, 2, f, t, key⟩).objs 2 := by
 have c := l06Takes_fn s (by omega) (by omega) ⟨3, tok, 2, f, t, key⟩ hr
 have hc := l06Own_own s (by omega) (by omega)
 have hm := l06Own_mix s (by omega) (by omega)
 by_cases ht : s.takes ⟨3, tok, 2, f, t, key⟩ = true
 · have ea : s.app ⟨3, tok, 2, f, t, key⟩ = ({ s.tick with es := s.es ++ [⟨2, f, t, key⟩] } : Sta).lift 2 t := by unfold Sta.app; rw [if_pos ht, if_pos (.inr rfl)]
   rw [ht] at c ⊢
   rw [ea]
   refine FnM.introC Tryz.call92 Tryz.func92 rfl rfl ?_
   conv => whnf
   refine CallC.sca _ (c) ?_ ?_
   · exact rfl
   conv => whnf
   refine CallC.k [] hc rfl rfl (AVsle.refl _) trivial rfl ?_
   refine And.intro (inI64 (by omega) (by omega)) ?_
   refine And.intro ⟨show (s.es.length + 1) * 40 ≤ 140737488355328 by omega, all1 rfl⟩ ?_
   refine And.intro ⟨show (0 : Int) ≤ 2 by omega, show (2 : Int) < ((3 : Nat) : Int) by omega⟩ ?_
   exact And.intro trivial ⟨[(6, 0), (4, 1)], rfl, AVle.refl _, ⟨arr_next (f := En.row) rfl rfl, MOle.refl _, trivial⟩⟩
 · have ht : s.takes ⟨3, tok, 2, f, t, key⟩ = false := by simpa using ht
   have ea : s.app ⟨3, tok, 2, f, t, key⟩ = s.tick := by unfold Sta.app; rw [if_neg (by rw [ht]; simp)]
   rw [ht] at c ⊢
   rw [ea]
   refine FnM.introC Tryz.call92 Tryz.func92 rfl rfl ?_
   conv => whnf
   refine CallC.sca _ (c) ?_ ?_
   · exact rfl
   conv => whnf
   refine CallC.k [] hc rfl rfl (AVsle.refl _) trivial rfl ?_
   refine And.intro (inI64 (by omega) (by omega)) ?_
   exact And.intro trivial ⟨[(3, 0), (4, 1)], rfl, AVle.refl _, ⟨MOle.refl _, MOle.refl _, trivial⟩⟩
theorem specApply2 (s : Sta) (hL : s.es.length + s.ts.length < 4096) (hq : 0 ≤ s.seq ∧ s.seq < 999999) (tok tier f t : Int) (key : List UInt8) (hr : Rc.ok ⟨2, tok, tier, f, t, key⟩ = true) :
 FnM Tryz.prog 92 0 [s.av, (Rc.mk 2 tok tier f t key).av] [] (.tup [(s.app ⟨2, tok, tier, f, t, key⟩).own, .bool (s.takes ⟨2, tok, tier, f, t, key⟩)]) (s.app ⟨2, tok, tier, f, t, key⟩).objs 2 := by
 have c := l06Takes_fn s (by omega) (by omega) ⟨2, tok, tier, f, t, key⟩ hr
 have hc := l06Own_own s (by omega) (by omega)
 have hm := l06Own_mix s (by omega) (by omega)
 by_cases ht : s.takes ⟨2, tok, tier, f, t, key⟩ = true
 · have ea : s.app ⟨2, tok, tier, f, t, key⟩ = { s.tick with fence := tok } := by unfold Sta.app; rw [if_pos ht, if_neg (show ¬ ((2 : Int) = 1 ∨ (2 : Int) = 3) by decide), if_pos rfl]
   rw [ht] at c ⊢
   rw [ea]
   refine FnM.introC Tryz.call92 Tryz.func92 rfl rfl ?_
   conv => whnf
   refine CallC.sca _ (c) ?_ ?_
   · exact rfl
   conv => whnf
   refine CallC.k [] hc rfl rfl (AVsle.refl _) trivial rfl ?_
   refine And.intro (inI64 (by omega) (by omega)) ?_
   exact And.intro trivial ⟨[(3, 0), (4, 1)], rfl, AVle.refl _, ⟨MOle.refl _, MOle.refl _, trivial⟩⟩
 · have ht : s.takes ⟨2, tok, tier, f, t, key⟩ = false := by simpa using ht
   have ea : s.app ⟨2, tok, tier, f, t, key⟩ = s.tick := by unfold Sta.app; rw [if_neg (by rw [ht]; simp)]
   rw [ht] at c ⊢
   rw [ea]
   refine FnM.introC Tryz.call92 Tryz.func92 rfl rfl ?_
   conv => whnf
   refine CallC.sca _ (c) ?_ ?_
   · exact rfl
   conv => whnf
   refine CallC.k [] hc rfl rfl (AVsle.refl _) trivial rfl ?_
   refine And.intro (inI64 (by omega) (by omega)) ?_
   exact And.intro trivial ⟨[(3, 0), (4, 1)], rfl, AVle.refl _, ⟨MOle.refl _, MOle.refl _, trivial⟩⟩
theorem first_at {s : Sta} {k : Int} {e : En} (h : headIs (ofT s.es k) e = true) : ∃ i : Nat, i < s.es.length ∧ fi (fun x : En => decide (x.tier = k)) s.es = (i : Int) ∧ ix s.es i = e := by
 rcases fi_filter (fun x : En => decide (x.tier = k)) s.es with ⟨h1, h2⟩ | ⟨i, hi, h1, r, h2⟩
 · rw [show ofT s.es k = [] from h2] at h; cases h
 · rw [show ofT s.es k = ix s.es i :: r from h2] at h
   exact ⟨i, hi, h1, of_decide_eq_true h⟩
theorem cut_rows {α : Type} [Inhabited α] {f : α → List AV} {L : List α} {i q : Nat} (hi : i < L.length) (hq : q = i + 1) {M : List α} (hM : L.take i ++ L.drop (i + 1) = M) {r0 : Nat → List AV} {n1 : Nat} (hn : n1 = i) :
 ∀ j, j < M.length → appRows n1 (appRows 0 r0 fun j => f (ix L j)) (fun j => f (ix L (q + j))) j = f (ix M j) := by
 subst hM hq hn
 refine app_rows (f := f) (by simp; omega) (fun j hj => ?_) fun j hj => ?_
 · rw [appRows_ge (Nat.zero_le _), Nat.sub_zero, ix_take (by simp at hj; omega)]
 · rw [ix_drop]
theorem specApply4_0 (s : Sta) (hL : s.es.length + s.ts.length < 4096) (hq : 0 ≤ s.seq ∧ s.seq < 999999) (tok f t : Int) (key : List UInt8) (hr : Rc.ok ⟨4, tok, 0, f, t, key⟩ = true) (nd : (s.es.map (·.key)).Nodup) :
 FnM Tryz.prog 92 0 [s.av, (Rc.mk 4 tok 0 f t key).av] [] (.tup [(s.app ⟨4, tok, 0, f, t, key⟩).own, .bool (s.takes ⟨4, tok, 0, f, t, key⟩)]) (s.app ⟨4, tok, 0, f, t, key⟩).objs 2 := by
 have c := l06Takes_fn s (by omega) (by omega) ⟨4, tok, 0, f, t, key⟩ hr
 have hc := l06Own_own s (by omega) (by omega)
 have hm := l06Own_mix s (by omega) (by omega)
 by_cases ht : s.takes ⟨4, tok, 0, f, t, key⟩ = true
 · have ea : s.app ⟨4, tok, 0, f, t, key⟩ = ({ s.tick with es := noE key s.es, ts := s.ts ++ [⟨s.seq + 1, key⟩] } : Sta).lower 0 t := by unfold Sta.app; rw [if_pos ht, if_neg (show ¬ ((4 : Int) = 1 ∨ (4 : Int) = 3) by decide), if_neg (show ¬ (4 : Int) = 2 by decide), if_pos rfl]
   obtain ⟨i, hi, hfi, hix⟩ := first_at (takes_4 ht rfl)
   have hcut : s.es.take i ++ s.es.drop (i + 1) = noE key s.es := by rw [noE_cut hi nd, hix]
   have hlen : (noE key s.es).length = i + (s.es.length - (i + 1)) := by rw [← hcut]; simp; omega
   rw [ht] at c ⊢
   rw [ea]
   refine FnM.introC Tryz.call92 Tryz.func92 rfl rfl ?_
   conv => whnf
   refine CallC.sca _ (c) ?_ ?_
   · exact rfl
   conv => whnf
   refine CallC.k [] hm rfl rfl (AVsle.refl _) trivial rfl ?_
   refine And.intro (inI64 (by omega) (by omega)) ?_
   have cf := l06First_fn { s with seq := s.seq + 1 } (by show s.es.length ≤ _; omega) 0
   rw [show fi (fun e : En => decide (e.tier = 0)) ({ s with seq := s.seq + 1 } : Sta).es = (i : Int) from hfi] at cf
   conv => whnf
   refine CallC.sca _ (cf) ?_ ?_
   · exact rfl
   refine DrawC.mkQ 11 [(.inr 0, 5)] rfl (by kernel_rfl) ?_
   refine And.intro rfl ?_
   conv => whnf
   refine And.intro ⟨by omega, by omega⟩ ?_
   conv => whnf
   refine And.intro ⟨show (0 + ((i : Nat) : Int).toNat) * 40 ≤ 140737488355328 by omega, fun i hi => rfl⟩ ?_
   conv => whnf
   refine And.intro (inI64 (by omega) (by omega)) ?_
   conv => whnf
   refine And.intro ⟨by omega, by omega⟩ ?_
   conv => whnf
   refine And.intro ⟨show (0 + ((i : Nat) : Int).toNat + (s.es.length - (((i : Nat) : Int) + 1).toNat)) * 40 ≤ 140737488355328 by omega, fun i hi => rfl⟩ ?_
   refine And.intro ⟨show (s.ts.length + 1) * 24 ≤ 140737488355328 by omega, all1 rfl⟩ ?_
   refine And.intro ⟨show (0 : Int) ≤ 0 by omega, show (0 : Int) < ((3 : Nat) : Int) by omega⟩ ?_
   exact And.intro trivial ⟨[(15, 0), (17, 1)], rfl, AVle.refl _, ⟨MOle.arr (show 0 + ((i : Nat) : Int).toNat + (s.es.length - (((i : Nat) : Int) + 1).toNat) = (noE key s.es).length by omega) fun j hj => cut_rows hi (show (((i : Nat) : Int) + 1).toNat = i + 1 by omega) hcut (show 0 + ((i : Nat) : Int).toNat = i by omega) j (by have hj' : j < 0 + ((i : Nat) : Int).toNat + (s.es.length - (((i : Nat) : Int) + 1).toNat) := hj; omega), arr_next (f := Tb.row) rfl rfl, trivial⟩⟩
 · have ht : s.takes ⟨4, tok, 0, f, t, key⟩ = false := by simpa using ht
   have ea : s.app ⟨4, tok, 0, f, t, key⟩ = s.tick := by unfold Sta.app; rw [if_neg (by rw [ht]; simp)]
   rw [ht] at c ⊢
   rw [ea]
   refine FnM.introC Tryz.call92 Tryz.func92 rfl rfl ?_
   conv => whnf
   refine CallC.sca _ (c) ?_ ?_
   · exact rfl
   conv => whnf
   refine CallC.k [] hc rfl rfl (AVsle.refl _) trivial rfl ?_
   refine And.intro (inI64 (by omega) (by omega)) ?_
   exact And.intro trivial ⟨[(3, 0), (4, 1)], rfl, AVle.refl _, ⟨MOle.refl _, MOle.refl _, trivial⟩⟩
theorem specApply4_1 (s : Sta) (hL : s.es.length + s.ts.length < 4096) (hq : 0 ≤ s.seq ∧ s.seq < 999999) (tok f t : Int) (key : List UInt8) (hr : Rc.ok ⟨4, tok, 1, f, t, key⟩ = true) (nd : (s.es.map (·.key)).Nodup) :
 FnM Tryz.prog 92 0 [s.av, (Rc.mk 4 tok 1 f t key).av] [] (.tup [(s.app ⟨4, tok, 1, f, t, key⟩).own, .bool (s.takes ⟨4, tok, 1, f, t, key⟩)]) (s.app ⟨4, tok, 1, f, t, key⟩).objs 2 := by
 have c := l06Takes_fn s (by omega) (by omega) ⟨4, tok, 1, f, t, key⟩ hr
 have hc := l06Own_own s (by omega) (by omega)
 have hm := l06Own_mix s (by omega) (by omega)
 by_cases ht : s.takes ⟨4, tok, 1, f, t, key⟩ = true
 · have ea : s.app ⟨4, tok, 1, f, t, key⟩ = ({ s.tick with es := noE key s.es, ts := s.ts ++ [⟨s.seq + 1, key⟩] } : Sta).lower 1 t := by unfold Sta.app; rw [if_pos ht, if_neg (show ¬ ((4 : Int) = 1 ∨ (4 : Int) = 3) by decide), if_neg (show ¬ (4 : Int) = 2 by decide), if_pos rfl]
   obtain ⟨i, hi, hfi, hix⟩ := first_at (takes_4 ht rfl)
   have hcut : s.es.take i ++ s.es.drop (i + 1) = noE key s.es := by rw [noE_cut hi nd, hix]
   have hlen : (noE key s.es).length = i + (s.es.length - (i + 1)) := by rw [← hcut]; simp; omega
   rw [ht] at c ⊢
   rw [ea]
   refine FnM.introC Tryz.call92 Tryz.func92 rfl rfl ?_
   conv => whnf
   refine CallC.sca _ (c) ?_ ?_
   · exact rfl
   conv => whnf
   refine CallC.k [] hm rfl rfl (AVsle.refl _) trivial rfl ?_
   refine And.intro (inI64 (by omega) (by omega)) ?_
   have cf := l06First_fn { s with seq := s.seq + 1 } (by show s.es.length ≤ _; omega) 1
   rw [show fi (fun e : En => decide (e.tier = 1)) ({ s with seq := s.seq + 1 } : Sta).es = (i : Int) from hfi] at cf
   conv => whnf
   refine CallC.sca _ (cf) ?_ ?_
   · exact rfl
   refine DrawC.mkQ 11 [(.inr 0, 5)] rfl (by kernel_rfl) ?_
   refine And.intro rfl ?_
   conv => whnf
   refine And.intro ⟨by omega, by omega⟩ ?_
   conv => whnf
   refine And.intro ⟨show (0 + ((i : Nat) : Int).toNat) * 40 ≤ 140737488355328 by omega, fun i hi => rfl⟩ ?_
   conv => whnf
   refine And.intro (inI64 (by omega) (by omega)) ?_
   conv => whnf
   refine And.intro ⟨by omega, by omega⟩ ?_
   conv => whnf
   refine And.intro ⟨show (0 + ((i : Nat) : Int).toNat + (s.es.length - (((i : Nat) : Int) + 1).toNat)) * 40 ≤ 140737488355328 by omega, fun i hi => rfl⟩ ?_
   refine And.intro ⟨show (s.ts.length + 1) * 24 ≤ 140737488355328 by omega, all1 rfl⟩ ?_
   refine And.intro ⟨show (0 : Int) ≤ 1 by omega, show (1 : Int) < ((3 : Nat) : Int) by omega⟩ ?_
   exact And.intro trivial ⟨[(15, 0), (17, 1)], rfl, AVle.refl _, ⟨MOle.arr (show 0 + ((i : Nat) : Int).toNat + (s.es.length - (((i : Nat) : Int) + 1).toNat) = (noE key s.es).length by omega) fun j hj => cut_rows hi (show (((i : Nat) : Int) + 1).toNat = i + 1 by omega) hcut (show 0 + ((i : Nat) : Int).toNat = i by omega) j (by have hj' : j < 0 + ((i : Nat) : Int).toNat + (s.es.length - (((i : Nat) : Int) + 1).toNat) := hj; omega), arr_next (f := Tb.row) rfl rfl, trivial⟩⟩
 · have ht : s.takes ⟨4, tok, 1, f, t, key⟩ = false := by simpa using ht
   have ea : s.app ⟨4, tok, 1, f, t, key⟩ = s.tick := by unfold Sta.app; rw [if_neg (by rw [ht]; simp)]
   rw [ht] at c ⊢
   rw [ea]
   refine FnM.introC Tryz.call92 Tryz.func92 rfl rfl ?_
   conv => whnf
   refine CallC.sca _ (c) ?_ ?_
   · exact rfl
   conv => whnf
   refine CallC.k [] hc rfl rfl (AVsle.refl _) trivial rfl ?_
   refine And.intro (inI64 (by omega) (by omega)) ?_
   exact And.intro trivial ⟨[(3, 0), (4, 1)], rfl, AVle.refl _, ⟨MOle.refl _, MOle.refl _, trivial⟩⟩
theorem specApply4_2 (s : Sta) (hL : s.es.length + s.ts.length < 4096) (hq : 0 ≤ s.seq ∧ s.seq < 999999) (tok f t : Int) (key : List UInt8) (hr : Rc.ok ⟨4, tok, 2, f, t, key⟩ = true) (nd : (s.es.map (·.key)).Nodup) :
 FnM Tryz.prog 92 0 [s.av, (Rc.mk 4 tok 2 f t key).av] [] (.tup [(s.app ⟨4, tok, 2, f, t, key⟩).own, .bool (s.takes ⟨4, tok, 2, f, t, key⟩)]) (s.app ⟨4, tok, 2, f, t, key⟩).objs 2 := by
 have c := l06Takes_fn s (by omega) (by omega) ⟨4, tok, 2, f, t, key⟩ hr
 have hc := l06Own_own s (by omega) (by omega)
 have hm := l06Own_mix s (by omega) (by omega)
 by_cases ht : s.takes ⟨4, tok, 2, f, t, key⟩ = true
 · have ea : s.app ⟨4, tok, 2, f, t, key⟩ = ({ s.tick with es := noE key s.es, ts := s.ts ++ [⟨s.seq + 1, key⟩] } : Sta).lower 2 t := by unfold Sta.app; rw [if_pos ht, if_neg (show ¬ ((4 : Int) = 1 ∨ (4 : Int) = 3) by decide), if_neg (show ¬ (4 : Int) = 2 by decide), if_pos rfl]
   obtain ⟨i, hi, hfi, hix⟩ := first_at (takes_4 ht rfl)
   have hcut : s.es.take i ++ s.es.drop (i + 1) = noE key s.es := by rw [noE_cut hi nd, hix]
   have hlen : (noE key s.es).length = i + (s.es.length - (i + 1)) := by rw [← hcut]; simp; omega
   rw [ht] at c ⊢
   rw [ea]
   refine FnM.introC Tryz.call92 Tryz.func92 rfl rfl ?_
   conv => whnf
   refine CallC.sca _ (c) ?_ ?_
   · exact rfl
   conv => whnf
   refine CallC.k [] hm rfl rfl (AVsle.refl _) trivial rfl ?_
   refine And.intro (inI64 (by omega) (by omega)) ?_
   have cf := l06First_fn { s with seq := s.seq + 1 } (by show s.es.length ≤ _; omega) 2
   rw [show fi (fun e : En => decide (e.tier = 2)) ({ s with seq := s.seq + 1 } : Sta).es = (i : Int) from hfi] at cf
   conv => whnf
   refine CallC.sca _ (cf) ?_ ?_
   · exact rfl
   refine DrawC.mkQ 11 [(.inr 0, 5)] rfl (by kernel_rfl) ?_
   refine And.intro rfl ?_
   conv => whnf
   refine And.intro ⟨by omega, by omega⟩ ?_
   conv => whnf
   refine And.intro ⟨show (0 + ((i : Nat) : Int).toNat) * 40 ≤ 140737488355328 by omega, fun i hi => rfl⟩ ?_
   conv => whnf
   refine And.intro (inI64 (by omega) (by omega)) ?_
   conv => whnf
   refine And.intro ⟨by omega, by omega⟩ ?_
   conv => whnf
   refine And.intro ⟨show (0 + ((i : Nat) : Int).toNat + (s.es.length - (((i : Nat) : Int) + 1).toNat)) * 40 ≤ 140737488355328 by omega, fun i hi => rfl⟩ ?_
   refine And.intro ⟨show (s.ts.length + 1) * 24 ≤ 140737488355328 by omega, all1 rfl⟩ ?_
   refine And.intro ⟨show (0 : Int) ≤ 2 by omega, show (2 : Int) < ((3 : Nat) : Int) by omega⟩ ?_
   exact And.intro trivial ⟨[(15, 0), (17, 1)], rfl, AVle.refl _, ⟨MOle.arr (show 0 + ((i : Nat) : Int).toNat + (s.es.length - (((i : Nat) : Int) + 1).toNat) = (noE key s.es).length by omega) fun j hj => cut_rows hi (show (((i : Nat) : Int) + 1).toNat = i + 1 by omega) hcut (show 0 + ((i : Nat) : Int).toNat = i by omega) j (by have hj' : j < 0 + ((i : Nat) : Int).toNat + (s.es.length - (((i : Nat) : Int) + 1).toNat) := hj; omega), arr_next (f := Tb.row) rfl rfl, trivial⟩⟩
 · have ht : s.takes ⟨4, tok, 2, f, t, key⟩ = false := by simpa using ht
   have ea : s.app ⟨4, tok, 2, f, t, key⟩ = s.tick := by unfold Sta.app; rw [if_neg (by rw [ht]; simp)]
   rw [ht] at c ⊢
   rw [ea]
   refine FnM.introC Tryz.call92 Tryz.func92 rfl rfl ?_
   conv => whnf
   refine CallC.sca _ (c) ?_ ?_
   · exact rfl
   conv => whnf
   refine CallC.k [] hc rfl rfl (AVsle.refl _) trivial rfl ?_
   refine And.intro (inI64 (by omega) (by omega)) ?_
   exact And.intro trivial ⟨[(3, 0), (4, 1)], rfl, AVle.refl _, ⟨MOle.refl _, MOle.refl _, trivial⟩⟩
theorem specApply5 (s : Sta) (hL : s.es.length + s.ts.length < 4096) (hq : 0 ≤ s.seq ∧ s.seq < 999999) (tok tier f t : Int) (key : List UInt8) (hr : Rc.ok ⟨5, tok, tier, f, t, key⟩ = true) :
 FnM Tryz.prog 92 0 [s.av, (Rc.mk 5 tok tier f t key).av] [] (.tup [(s.app ⟨5, tok, tier, f, t, key⟩).own, .bool (s.takes ⟨5, tok, tier, f, t, key⟩)]) (s.app ⟨5, tok, tier, f, t, key⟩).objs 2 := by
 have c := l06Takes_fn s (by omega) (by omega) ⟨5, tok, tier, f, t, key⟩ hr
 have hc := l06Own_own s (by omega) (by omega)
 have hm := l06Own_mix s (by omega) (by omega)
 by_cases ht : s.takes ⟨5, tok, tier, f, t, key⟩ = true
 · have ea : s.app ⟨5, tok, tier, f, t, key⟩ = { s.tick with ts := noT key s.ts } := by unfold Sta.app; rw [if_pos ht, if_neg (show ¬ ((5 : Int) = 1 ∨ (5 : Int) = 3) by decide), if_neg (show ¬ (5 : Int) = 2 by decide), if_neg (show ¬ (5 : Int) = 4 by decide)]
   rw [ht] at c ⊢
   rw [ea]
   refine FnM.introC Tryz.call92 Tryz.func92 rfl rfl ?_
   conv => whnf
   refine CallC.sca _ (c) ?_ ?_
   · exact rfl
   conv => whnf
   refine CallC.k [] hc rfl rfl (AVsle.refl _) trivial rfl ?_
   refine And.intro (inI64 (by omega) (by omega)) ?_
   have hle : ∀ i, (noT key (s.ts.take i)).length ≤ i := fun i => Nat.le_trans (noT_len key _) (by simp; omega)
   refine LoopC.mk (fun i : Nat => i ≤ s.ts.length) (fun i => [(2, .bptr 0 0), (3, .bptr 1 0), (4, .bptr 2 0), (8, .osl 5), (9, .int .i64 i)])
    (fun i => [(0, .box [.int .i64 (s.seq + 1), .int .i64 s.fence, .osl 3, .osl 4, .int .i64 s.l0, .int .i64 s.l1, .int .i64 s.l2, .int .i64 s.h0, .int .i64 s.h1, .int .i64 s.h2]), (1, .box (Rc.mk 5 tok tier f t key).row), (2, .box sta0.nrow), (3, .arr 58 4 s.es.length fun i => (ix s.es i).row), (4, .arr 170 2 s.ts.length fun i => (ix s.ts i).row), (5, .arr 170 2 (noT key (s.ts.take i)).length fun j => (ix (noT key (s.ts.take i)) j).row)]) 6 (fun i => s.ts.length - i) 0
    ⟨Nat.zero_le _, [(0, 0), (1, 1), (2, 2), (3, 3), (4, 4), (5, 5)], rfl, rfl, ⟨AVle.refl _, AVle.refl _, AVle.refl _, AVle.refl _, AVle.refl _, trivial⟩, ⟨MOle.refl _, MOle.refl _, MOle.refl _, MOle.refl _, MOle.refl _, MOle.arr rfl fun i hi => absurd hi (Nat.not_lt_zero i), trivial⟩⟩ ?_
   intro i hi
   refine Grd.intro (fun h2 => ?_) (fun h2 => ?_)
   · have hin : i < s.ts.length := by have := of_decide_eq_true h2; omega
     have hsn : noT key (s.ts.take (i + 1)) = _ := filter_snoc (p := fun e : Tb => !decide (e.key = key)) hin
     refine DrawC.mq 9 rfl (by kernel_rfl) ?_
     refine And.intro (by omega) ?_
     refine Grd.intro (fun h3 => ?_) (fun h3 => ?_)
     · have h3 : (!((B (ix s.ts i).key).toList == (B key).toList)) = true := h3
       rw [B_eq] at h3
       rw [if_pos h3] at hsn
       have := hle i
       refine And.intro (by omega) ?_
       refine And.intro ⟨show ((noT key (s.ts.take i)).length + 1) * 24 ≤ 140737488355328 by omega, all1 rfl⟩ ?_
       refine And.intro (inI64 (by omega) (by omega)) ?_
       refine ⟨i + 1, hin, by omega, [(0, 0), (1, 1), (2, 2), (3, 3), (4, 4), (16, 5)], rfl, rfl, ⟨AVle.refl _, AVle.refl _, AVle.refl _, AVle.refl _, AVle.of_eq (congrArg (AV.int .i64) (by simp)), trivial⟩, ⟨MOle.refl _, MOle.refl _, MOle.refl _, MOle.refl _, MOle.refl _, arr_next (f := Tb.row) hsn rfl, trivial⟩⟩
     · have h3 : (!((B (ix s.ts i).key).toList == (B key).toList)) = false := h3
       rw [B_eq] at h3
       rw [if_neg (by rw [h3]; simp)] at hsn
       refine And.intro (inI64 (by omega) (by omega)) ?_
       refine ⟨i + 1, hin, by omega, [(0, 0), (1, 1), (2, 2), (3, 3), (4, 4), (5, 5)], rfl, rfl, ⟨AVle.refl _, AVle.refl _, AVle.refl _, AVle.refl _, AVle.of_eq (congrArg (AV.int .i64) (by simp)), trivial⟩, ⟨MOle.refl _, MOle.refl _, MOle.refl _, MOle.refl _, MOle.refl _, MOle.of_eq (show MO.arr 170 2 (noT key (s.ts.take i)).length (fun j => (ix (noT key (s.ts.take i)) j).row) = _ by rw [hsn]; rfl), trivial⟩⟩
   · have : i = s.ts.length := by have := of_decide_eq_false h2; omega
     subst this
     have eT : noT key (s.ts.take s.ts.length) = noT key s.ts := by rw [List.take_of_length_le (Nat.le_refl _)]
     exact And.intro trivial ⟨[(3, 0), (5, 1)], rfl, AVle.refl _, ⟨MOle.refl _, MOle.of_eq (show MO.arr 170 2 (noT key (s.ts.take s.ts.length)).length (fun j => (ix (noT key (s.ts.take s.ts.length)) j).row) = _ by rw [eT]), trivial⟩⟩
 · have ht : s.takes ⟨5, tok, tier, f, t, key⟩ = false := by simpa using ht
   have ea : s.app ⟨5, tok, tier, f, t, key⟩ = s.tick := by unfold Sta.app; rw [if_neg (by rw [ht]; simp)]
   rw [ht] at c ⊢
   rw [ea]
   refine FnM.introC Tryz.call92 Tryz.func92 rfl rfl ?_
   conv => whnf
   refine CallC.sca _ (c) ?_ ?_
   · exact rfl
   conv => whnf
   refine CallC.k [] hc rfl rfl (AVsle.refl _) trivial rfl ?_
   refine And.intro (inI64 (by omega) (by omega)) ?_
   exact And.intro trivial ⟨[(3, 0), (4, 1)], rfl, AVle.refl _, ⟨MOle.refl _, MOle.refl _, trivial⟩⟩
theorem l06Apply_own (s : Sta) (hL : s.es.length + s.ts.length < 4096) (hq : 0 ≤ s.seq ∧ s.seq < 999999) (nd : s.keys.Nodup) (r : Rc) (hr : r.ok = true) :
 FnM Tryz.prog 92 0 [s.av, r.av] [] (.tup [(s.app r).own, .bool (s.takes r)]) (s.app r).objs 2 := by
 have nde : (s.es.map (·.key)).Nodup := (List.nodup_append.1 nd).1
 obtain ⟨k, tok, tier, f, t, key⟩ := r
 rcases kinds hr with ⟨rfl, rfl⟩ | rfl | ⟨rfl, h, hf⟩ | ⟨rfl, h⟩ | rfl
 · exact specApply1 s hL hq tok f t key hr
 · exact specApply2 s hL hq tok tier f t key hr
 · rcases h with rfl | rfl
   · exact specApply3_1 s hL hq tok f t key hr
   · exact specApply3_2 s hL hq tok f t key hr
 · rcases h with rfl | rfl | rfl
   · exact specApply4_0 s hL hq tok f t key hr nde
   · exact specApply4_1 s hL hq tok f t key hr nde
   · exact specApply4_2 s hL hq tok f t key hr nde
 · exact specApply5 s hL hq tok tier f t key hr
theorem l06Apply_fn (s : Sta) (hL : s.es.length + s.ts.length < 4096) (hq : 0 ≤ s.seq ∧ s.seq < 999999) (nd : s.keys.Nodup) (r : Rc) (hr : r.ok = true) : VFn Tryz.prog 92 [s.av, r.av] (.tup [(s.app r).av, .bool (s.takes r)]) := (l06Apply_own s hL hq nd r hr).vfn
theorem ix_in {α : Type} [Inhabited α] {L : List α} {i : Nat} (h : i < L.length) : ix L i ∈ L := by rw [ix_lt h]; exact List.getElem_mem h
theorem draw (s : Src) {k : Int} (h : s.ok k) (hk : 0 ≤ k ∧ k ≤ 10000000) (n : Int) (hn : 1 ≤ n) : ∃ (v : Nat) (q : Src), (v : Int) < n ∧ q.ok (k + 3) ∧ FnM Tryz.prog 34 1 [.bptr 0 0, .int .i64 n] [(0, .box s.row)] (.int .i64 v) [(0, .box q.row)] 1 := by
 have n1 := next_b s h (by omega) n
 have n2 := n1.1.2 hn
 obtain ⟨v, hv⟩ : ∃ v : Nat, (s.next n).1 = v := ⟨(s.next n).1.toNat, by omega⟩
 have c := next_fn s n (wk h (by omega))
 rw [hv] at c n2
 exact ⟨v, (s.next n).2, n2, n1.2.1, c⟩
def tch (x y : Int) (e : En) : Bool := decide ((if x > e.f then x else e.f) < (if y < e.t then y else e.t))
theorem size_fn (s : Src) (n : Int) (h : s.ok 100000000) (hn : 1 ≤ n ∧ n ≤ 1000) : ∃ v : Int, (1 ≤ v ∧ v ≤ n) ∧ FnM Tryz.prog 35 1 [.bptr 0 0, .int .i64 n] [(0, .box s.row)] (.int .i64 v) [(0, .box s.row)] 1 := by
 have hc := h.2.2
 have q := tdiv_b (n := (s.code.length : Int)) (m := 12) (by omega) (by decide)
 refine ⟨if n < 1 + (s.code.length : Int).tdiv 12 then n else 1 + (s.code.length : Int).tdiv 12, by split <;> omega, ?_⟩
 refine FnM.introC Tryz.call35 Tryz.func35 rfl rfl ?_
 refine And.intro ⟨by decide, inI64 (by omega) (by omega)⟩ ?_
 refine And.intro (inI64 (by omega) (by omega)) ?_
 exact And.intro trivial ⟨[(0, 0)], rfl, AVle.refl _, ⟨MOle.refl _, trivial⟩⟩

end Go.Proofs.YtigbaclopbcjnaaGreatDoor
