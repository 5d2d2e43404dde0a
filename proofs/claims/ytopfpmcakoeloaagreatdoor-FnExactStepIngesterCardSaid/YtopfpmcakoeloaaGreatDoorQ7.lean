/- Contracts of functions that the claim reaches, and the plain law of what they compute; each theorem bears its own conditions. -/
import Derived.Test.YtopfpmcakoeloaaGreatDoorQ6
import Derived.Test.YtopfpmcakoeloaaGreatDoorQ1
import Derived.Test.YtopfpmcakoeloaaGreatDoorV50
import Derived.Test.YtopfpmcakoeloaaGreatDoorQ3
import Derived.Test.YtopfpmcakoeloaaGreatDoorQ2
set_option linter.unusedVariables false
set_option linter.constructorNameAsVariable false
set_option linter.unusedSimpArgs false
set_option maxRecDepth 20000
namespace Go.Proofs.YtopfpmcakoeloaaGreatDoor
open Go Go.Vw

def Sta.nrow (s : Sta) : List AV := [.int .i64 s.seq, .int .i64 s.fence, .nilsl, .nilsl, .int .i64 s.l0, .int .i64 s.l1, .int .i64 s.l2, .int .i64 s.h0, .int .i64 s.h1, .int .i64 s.h2]
theorem l06Own_own (s : Sta) (hL : s.es.length ≤ 1000000) (hT : s.ts.length ≤ 1000000) : FnM Tryz.prog 113 0 [s.av] [] s.own s.objs 2 := by
  refine FnM.introC Tryz.call113 Tryz.func113 rfl rfl ?_
  refine And.intro ⟨show (0 + s.es.length) * 40 ≤ 140737488355328 by omega, fun i hi => rfl⟩ ?_
  refine And.intro ⟨show (0 + s.ts.length) * 24 ≤ 140737488355328 by omega, fun i hi => rfl⟩ ?_
  exact And.intro trivial ⟨[(3, 0), (5, 1)], rfl, AVle.refl _, ⟨MOle.arr (Nat.zero_add _) fun i hi => appRows_ge (Nat.zero_le _), MOle.arr (Nat.zero_add _) fun i hi => appRows_ge (Nat.zero_le _), trivial⟩⟩
/-- entries as nobody's own -/
theorem l06Own_mix (s : Sta) (hL : s.es.length ≤ 1000000) (hT : s.ts.length ≤ 1000000) : FnM Tryz.prog 113 0 [s.av] [] (.agg [.int .i64 s.seq, .int .i64 s.fence, ents s.es, .osl 0, .int .i64 s.l0, .int .i64 s.l1, .int .i64 s.l2, .int .i64 s.h0, .int .i64 s.h1, .int .i64 s.h2]) [(0, .arr 152 2 s.ts.length fun i => (ix s.ts i).row)] 1 := by
  refine FnM.introC Tryz.call113 Tryz.func113 rfl rfl ?_
  refine And.intro ⟨show (0 + s.es.length) * 40 ≤ 140737488355328 by omega, fun i hi => rfl⟩ ?_
  refine And.intro ⟨show (0 + s.ts.length) * 24 ≤ 140737488355328 by omega, fun i hi => rfl⟩ ?_
  refine And.intro trivial ⟨[(5, 0)], rfl, AVle.agg (AVsle.cons (AVle.refl _) (AVsle.cons (AVle.refl _) (AVsle.cons (AVle.sl (Nat.zero_add _) fun i hi => appRows_ge (Nat.zero_le _)) (AVsle.refl _)))), ⟨MOle.arr (Nat.zero_add _) fun i hi => appRows_ge (Nat.zero_le _), trivial⟩⟩
theorem specApply1 (s : Sta) (hL : s.es.length + s.ts.length < 4096) (hq : 0 ≤ s.seq ∧ s.seq < 999999) (tok f t : Int) (key : List UInt8) (hr : Rc.ok ⟨1, tok, 0, f, t, key⟩ = true) :
    FnM Tryz.prog 91 0 [s.av, (Rc.mk 1 tok 0 f t key).av] [] (.tup [(s.app ⟨1, tok, 0, f, t, key⟩).own, .bool (s.takes ⟨1, tok, 0, f, t, key⟩)]) (s.app ⟨1, tok, 0, f, t, key⟩).objs 2 := by
  have c := l06Takes_fn s (by omega) (by omega) ⟨1, tok, 0, f, t, key⟩ hr
  have hc := l06Own_own s (by omega) (by omega)
  have hm := l06Own_mix s (by omega) (by omega)
  by_cases ht : s.takes ⟨1, tok, 0, f, t, key⟩ = true
  · have ea : s.app ⟨1, tok, 0, f, t, key⟩ = ({ s.tick with es := s.es ++ [⟨0, f, t, key⟩] } : Sta).lift 0 t := by unfold Sta.app; rw [if_pos ht, if_pos (.inl rfl)]
    rw [ht] at c ⊢
    rw [ea]
    refine FnM.introC Tryz.call91 Tryz.func91 rfl rfl ?_
    conv => whnf
    refine CallC.sca _ (c) ?_ ?_
    · exact rfl
    conv => whnf
    refine CallC.k [] hc rfl rfl (AVsle.refl _) trivial rfl ?_
    refine And.intro (inI64 (by omega) (by omega)) ?_
    refine And.intro ⟨show (s.es.length + 1) * 40 ≤ 140737488355328 by omega, all1 rfl⟩ ?_
    refine And.intro ⟨show (0 : Int) ≤ 0 by omega, show (0 : Int) < ((3 : Nat) : Int) by omega⟩ ?_
    exact And.intro trivial ⟨[(6, 0), (4, 1)], rfl, AVle.refl _, ⟨arr_next (f := En.row) rfl rfl, MOle.refl _, trivial⟩⟩
  · have ht : s.takes ⟨1, tok, 0, f, t, key⟩ = false := by simpa using ht
    have ea : s.app ⟨1, tok, 0, f, t, key⟩ = s.tick := by unfold Sta.app; rw [if_neg (by rw [ht]; simp)]
    rw [ht] at c ⊢
    rw [ea]
    refine FnM.introC Tryz.call91 Tryz.func91 rfl rfl ?_
    conv => whnf
    refine CallC.sca _ (c) ?_ ?_
    · exact rfl
    conv => whnf
    refine CallC.k [] hc rfl rfl (AVsle.refl _) trivial rfl ?_
    refine And.intro (inI64 (by omega) (by omega)) ?_
    exact And.intro trivial ⟨[(3, 0), (4, 1)], rfl, AVle.refl _, ⟨MOle.refl _, MOle.refl _, trivial⟩⟩
theorem specApply3_1 (s : Sta) (hL : s.es.length + s.ts.length < 4096) (hq : 0 ≤ s.seq ∧ s.seq < 999999) (tok f t : Int) (key : List UInt8) (hr : Rc.ok ⟨3, tok, 1, f, t, key⟩ = true) :
    FnM Tryz.prog 91 0 [s.av, (Rc.mk 3 tok 1 f t key).av] [] (.tup [(s.app ⟨3, tok, 1, f, t, key⟩).own, .bool (s.takes ⟨3, tok, 1, f, t, key⟩)]) (s.app ⟨3, tok, 1, f, t, key⟩).objs 2 := by
  have c := l06Takes_fn s (by omega) (by omega) ⟨3, tok, 1, f, t, key⟩ hr
  have hc := l06Own_own s (by omega) (by omega)
  have hm := l06Own_mix s (by omega) (by omega)
  by_cases ht : s.takes ⟨3, tok, 1, f, t, key⟩ = true
  · have ea : s.app ⟨3, tok, 1, f, t, key⟩ = ({ s.tick with es := s.es ++ [⟨1, f, t, key⟩] } : Sta).lift 1 t := by unfold Sta.app; rw [if_pos ht, if_pos (.inr rfl)]
    rw [ht] at c ⊢
    rw [ea]
    refine FnM.introC Tryz.call91 Tryz.func91 rfl rfl ?_
    conv => whnf
    refine CallC.sca _ (c) ?_ ?_
    · exact rfl
    conv => whnf
    refine CallC.k [] hc rfl rfl (AVsle.refl _) trivial rfl ?_
    refine And.intro (inI64 (by omega) (by omega)) ?_
    refine And.intro ⟨show (s.es.length + 1) * 40 ≤ 140737488355328 by omega, all1 rfl⟩ ?_
    refine And.intro ⟨show (0 : Int) ≤ 1 by omega, show (1 : Int) < ((3 : Nat) : Int) by omega⟩ ?_
    exact And.intro trivial ⟨[(6, 0), (4, 1)], rfl, AVle.refl _, ⟨arr_next (f := En.row) rfl rfl, MOle.refl _, trivial⟩⟩
  · have ht : s.takes ⟨3, tok, 1, f, t, key⟩ = false := by simpa using ht
    have ea : s.app ⟨3, tok, 1, f, t, key⟩ = s.tick := by unfold Sta.app; rw [if_neg (by rw [ht]; simp)]
    rw [ht] at c ⊢
    rw [ea]
    refine FnM.introC Tryz.call91 Tryz.func91 rfl rfl ?_
    conv => whnf
    refine CallC.sca _ (c) ?_ ?_
    · exact rfl
    conv => whnf
    refine CallC.k [] hc rfl rfl (AVsle.refl _) trivial rfl ?_
    refine And.intro (inI64 (by omega) (by omega)) ?_
    exact And.intro trivial ⟨[(3, 0), (4, 1)], rfl, AVle.refl _, ⟨MOle.refl _, MOle.refl _, trivial⟩⟩
theorem specApply3_2 (s : Sta) (hL : s.es.length + s.ts.length < 4096) (hq : 0 ≤ s.seq ∧ s.seq < 999999) (tok f t : Int) (key : List UInt8) (hr : Rc.ok ⟨3, tok, 2, f, t, key⟩ = true) :
    FnM Tryz.prog 91 0 [s.av, (Rc.mk 3 tok 2 f t key).av] [] (.tup [(s.app ⟨3, tok, 2, f, t, key⟩).own, .bool (s.takes ⟨3, tok, 2, f, t, key⟩)]) (s.app ⟨3, tok, 2, f, t, key⟩).objs 2 := by
  have c := l06Takes_fn s (by omega) (by omega) ⟨3, tok, 2, f, t, key⟩ hr
  have hc := l06Own_own s (by omega) (by omega)
  have hm := l06Own_mix s (by omega) (by omega)
  by_cases ht : s.takes ⟨3, tok, 2, f, t, key⟩ = true
  · have ea : s.app ⟨3, tok, 2, f, t, key⟩ = ({ s.tick with es := s.es ++ [⟨2, f, t, key⟩] } : Sta).lift 2 t := by unfold Sta.app; rw [if_pos ht, if_pos (.inr rfl)]
    rw [ht] at c ⊢
    rw [ea]
    refine FnM.introC Tryz.call91 Tryz.func91 rfl rfl ?_
    conv => whnf
    refine CallC.sca _ (c) ?_ ?_
    · exact rfl
    conv => whnf
    refine CallC.k [] hc rfl rfl (AVsle.refl _) trivial rfl ?_
    refine And.intro (inI64 (by omega) (by omega)) ?_
    refine And.intro ⟨show (s.es.length + 1) * 40 ≤ 140737488355328 by omega, all1 rfl⟩ ?_
    refine And.intro ⟨show (0 : Int) ≤ 2 by omega, show (2 : Int) < ((3 : Nat) : Int) by omega⟩ ?_
    exact And.intro trivial ⟨[(6, 0), (4, 1)], rfl, AVle.refl _, ⟨arr_next (f := En.row) rfl rfl, MOle.refl _, trivial⟩⟩
  · have ht : s.takes ⟨3, tok, 2, f, t, key⟩ = false := by simpa using ht
    have ea : s.app ⟨3, tok, 2, f, t, key⟩ = s.tick := by unfold Sta.app; rw [if_neg (by rw [ht]; simp)]
    rw [ht] at c ⊢
    rw [ea]
    refine FnM.introC Tryz.call91 Tryz.func91 rfl rfl ?_
    conv => whnf
    refine CallC.sca _ (c) ?_ ?_
    · exact rfl
    conv => whnf
    refine CallC.k [] hc rfl rfl (AVsle.refl _) trivial rfl ?_
    refine And.intro (inI64 (by omega) (by omega)) ?_
    exact And.intro trivial ⟨[(3, 0), (4, 1)], rfl, AVle.refl _, ⟨MOle.refl _, MOle.refl _, trivial⟩⟩
theorem specApply2 (s : Sta) (hL : s.es.length + s.ts.length < 4096) (hq : 0 ≤ s.seq ∧ s.seq < 999999) (tok tier f t : Int) (key : List UInt8) (hr : Rc.ok ⟨2, tok, tier, f, t, key⟩ = true) :
    FnM Tryz.prog 91 0 [s.av, (Rc.mk 2 tok tier f t key).av] [] (.tup [(s.app ⟨2, tok, tier, f, t, key⟩).own, .bool (s.takes ⟨2, tok, tier, f, t, key⟩)]) (s.app ⟨2, tok, tier, f, t, key⟩).objs 2 := by
  have c := l06Takes_fn s (by omega) (by omega) ⟨2, tok, tier, f, t, key⟩ hr
  have hc := l06Own_own s (by omega) (by omega)
  have hm := l06Own_mix s (by omega) (by omega)
  by_cases ht : s.takes ⟨2, tok, tier, f, t, key⟩ = true
  · have ea : s.app ⟨2, tok, tier, f, t, key⟩ = { s.tick with fence := tok } := by unfold Sta.app; rw [if_pos ht, if_neg (show ¬ ((2 : Int) = 1 ∨ (2 : Int) = 3) by decide), if_pos rfl]
    rw [ht] at c ⊢
    rw [ea]
    refine FnM.introC Tryz.call91 Tryz.func91 rfl rfl ?_
    conv => whnf
    refine CallC.sca _ (c) ?_ ?_
    · exact rfl
    conv => whnf
    refine CallC.k [] hc rfl rfl (AVsle.refl _) trivial rfl ?_
    refine And.intro (inI64 (by omega) (by omega)) ?_
    exact And.intro trivial ⟨[(3, 0), (4, 1)], rfl, AVle.refl _, ⟨MOle.refl _, MOle.refl _, trivial⟩⟩
  · have ht : s.takes ⟨2, tok, tier, f, t, key⟩ = false := by simpa using ht
    have ea : s.app ⟨2, tok, tier, f, t, key⟩ = s.tick := by unfold Sta.app; rw [if_neg (by rw [ht]; simp)]
    rw [ht] at c ⊢
    rw [ea]
    refine FnM.introC Tryz.call91 Tryz.func91 rfl rfl ?_
    conv => whnf
    refine CallC.sca _ (c) ?_ ?_
    · exact rfl
    conv => whnf
    refine CallC.k [] hc rfl rfl (AVsle.refl _) trivial rfl ?_
    refine And.intro (inI64 (by omega) (by omega)) ?_
    exact And.intro trivial ⟨[(3, 0), (4, 1)], rfl, AVle.refl _, ⟨MOle.refl _, MOle.refl _, trivial⟩⟩
/-- the first of a tier -/
theorem first_at {s : Sta} {k : Int} {e : En} (h : headIs (ofT s.es k) e = true) : ∃ i : Nat, i < s.es.length ∧ fi (fun x : En => decide (x.tier = k)) s.es = (i : Int) ∧ ix s.es i = e := by
  rcases fi_filter (fun x : En => decide (x.tier = k)) s.es with ⟨h1, h2⟩ | ⟨i, hi, h1, r, h2⟩
  · rw [show ofT s.es k = [] from h2] at h; cases h
  · rw [show ofT s.es k = ix s.es i :: r from h2] at h
    exact ⟨i, hi, h1, of_decide_eq_true h⟩
theorem cut_rows {α : Type} [Inhabited α] {f : α → List AV} {L : List α} {i q : Nat} (hi : i < L.length) (hq : q = i + 1) {M : List α} (hM : L.take i ++ L.drop (i + 1) = M) {r0 : Nat → List AV} {n1 : Nat} (hn : n1 = i) :
    ∀ j, j < M.length → appRows n1 (appRows 0 r0 fun j => f (ix L j)) (fun j => f (ix L (q + j))) j = f (ix M j) := by
  subst hM hq hn
  refine app_rows (f := f) (by simp; omega) (fun j hj => ?_) fun j hj => ?_
  · rw [appRows_ge (Nat.zero_le _), Nat.sub_zero, ix_take (by simp at hj; omega)]
  · rw [ix_drop]
theorem specApply4_0 (s : Sta) (hL : s.es.length + s.ts.length < 4096) (hq : 0 ≤ s.seq ∧ s.seq < 999999) (tok f t : Int) (key : List UInt8) (hr : Rc.ok ⟨4, tok, 0, f, t, key⟩ = true) (nd : (s.es.map (·.key)).Nodup) :
    FnM Tryz.prog 91 0 [s.av, (Rc.mk 4 tok 0 f t key).av] [] (.tup [(s.app ⟨4, tok, 0, f, t, key⟩).own, .bool (s.takes ⟨4, tok, 0, f, t, key⟩)]) (s.app ⟨4, tok, 0, f, t, key⟩).objs 2 := by
  have c := l06Takes_fn s (by omega) (by omega) ⟨4, tok, 0, f, t, key⟩ hr
  have hc := l06Own_own s (by omega) (by omega)
  have hm := l06Own_mix s (by omega) (by omega)
  by_cases ht : s.takes ⟨4, tok, 0, f, t, key⟩ = true
  · have ea : s.app ⟨4, tok, 0, f, t, key⟩ = ({ s.tick with es := noE key s.es, ts := s.ts ++ [⟨s.seq + 1, key⟩] } : Sta).lower 0 t := by unfold Sta.app; rw [if_pos ht, if_neg (show ¬ ((4 : Int) = 1 ∨ (4 : Int) = 3) by decide), if_neg (show ¬ (4 : Int) = 2 by decide), if_pos rfl]
    obtain ⟨i, hi, hfi, hix⟩ := first_at (takes_4 ht rfl)
    have hcut : s.es.take i ++ s.es.drop (i + 1) = noE key s.es := by rw [noE_cut hi nd, hix]
    have hlen : (noE key s.es).length = i + (s.es.length - (i + 1)) := by rw [← hcut]; simp; omega
    rw [ht] at c ⊢
    rw [ea]
    refine FnM.introC Tryz.call91 Tryz.func91 rfl rfl ?_
    conv => whnf
    refine CallC.sca _ (c) ?_ ?_
    · exact rfl
    conv => whnf
    refine CallC.k [] hm rfl rfl (AVsle.refl _) trivial rfl ?_
    refine And.intro (inI64 (by omega) (by omega)) ?_
    have cf := l06First_fn { s with seq := s.seq + 1 } (by show s.es.length ≤ _; omega) 0
    rw [show fi (fun e : En => decide (e.tier = 0)) ({ s with seq := s.seq + 1 } : Sta).es = (i : Int) from hfi] at cf
    conv => whnf
    refine CallC.sca _ (cf) ?_ ?_
    · exact rfl
    refine DrawC.mkK 11 [(.inr 0, 5)] rfl (by kernel_rfl) ?_
    refine And.intro rfl ?_
    conv => whnf
    refine And.intro ⟨by omega, by omega⟩ ?_
    conv => whnf
    refine And.intro ⟨show (0 + ((i : Nat) : Int).toNat) * 40 ≤ 140737488355328 by omega, fun i hi => rfl⟩ ?_
    conv => whnf
    refine And.intro (inI64 (by omega) (by omega)) ?_
    conv => whnf
    refine And.intro ⟨by omega, by omega⟩ ?_
    conv => whnf
    refine And.intro ⟨show (0 + ((i : Nat) : Int).toNat + (s.es.length - (((i : Nat) : Int) + 1).toNat)) * 40 ≤ 140737488355328 by omega, fun i hi => rfl⟩ ?_
    refine And.intro ⟨show (s.ts.length + 1) * 24 ≤ 140737488355328 by omega, all1 rfl⟩ ?_
    refine And.intro ⟨show (0 : Int) ≤ 0 by omega, show (0 : Int) < ((3 : Nat) : Int) by omega⟩ ?_
    exact And.intro trivial ⟨[(15, 0), (17, 1)], rfl, AVle.refl _, ⟨MOle.arr (show 0 + ((i : Nat) : Int).toNat + (s.es.length - (((i : Nat) : Int) + 1).toNat) = (noE key s.es).length by omega) fun j hj => cut_rows hi (show (((i : Nat) : Int) + 1).toNat = i + 1 by omega) hcut (show 0 + ((i : Nat) : Int).toNat = i by omega) j (by have hj' : j < 0 + ((i : Nat) : Int).toNat + (s.es.length - (((i : Nat) : Int) + 1).toNat) := hj; omega), arr_next (f := Tb.row) rfl rfl, trivial⟩⟩
  · have ht : s.takes ⟨4, tok, 0, f, t, key⟩ = false := by simpa using ht
    have ea : s.app ⟨4, tok, 0, f, t, key⟩ = s.tick := by unfold Sta.app; rw [if_neg (by rw [ht]; simp)]
    rw [ht] at c ⊢
    rw [ea]
    refine FnM.introC Tryz.call91 Tryz.func91 rfl rfl ?_
    conv => whnf
    refine CallC.sca _ (c) ?_ ?_
    · exact rfl
    conv => whnf
    refine CallC.k [] hc rfl rfl (AVsle.refl _) trivial rfl ?_
    refine And.intro (inI64 (by omega) (by omega)) ?_
    exact And.intro trivial ⟨[(3, 0), (4, 1)], rfl, AVle.refl _, ⟨MOle.refl _, MOle.refl _, trivial⟩⟩
theorem specApply4_1 (s : Sta) (hL : s.es.length + s.ts.length < 4096) (hq : 0 ≤ s.seq ∧ s.seq < 999999) (tok f t : Int) (key : List UInt8) (hr : Rc.ok ⟨4, tok, 1, f, t, key⟩ = true) (nd : (s.es.map (·.key)).Nodup) :
    FnM Tryz.prog 91 0 [s.av, (Rc.mk 4 tok 1 f t key).av] [] (.tup [(s.app ⟨4, tok, 1, f, t, key⟩).own, .bool (s.takes ⟨4, tok, 1, f, t, key⟩)]) (s.app ⟨4, tok, 1, f, t, key⟩).objs 2 := by
  have c := l06Takes_fn s (by omega) (by omega) ⟨4, tok, 1, f, t, key⟩ hr
  have hc := l06Own_own s (by omega) (by omega)
  have hm := l06Own_mix s (by omega) (by omega)
  by_cases ht : s.takes ⟨4, tok, 1, f, t, key⟩ = true
  · have ea : s.app ⟨4, tok, 1, f, t, key⟩ = ({ s.tick with es := noE key s.es, ts := s.ts ++ [⟨s.seq + 1, key⟩] } : Sta).lower 1 t := by unfold Sta.app; rw [if_pos ht, if_neg (show ¬ ((4 : Int) = 1 ∨ (4 : Int) = 3) by decide), if_neg (show ¬ (4 : Int) = 2 by decide), if_pos rfl]
    obtain ⟨i, hi, hfi, hix⟩ := first_at (takes_4 ht rfl)
    have hcut : s.es.take i ++ s.es.drop (i + 1) = noE key s.es := by rw [noE_cut hi nd, hix]
    have hlen : (noE key s.es).length = i + (s.es.length - (i + 1)) := by rw [← hcut]; simp; omega
    rw [ht] at c ⊢
    rw [ea]
    refine FnM.introC Tryz.call91 Tryz.func91 rfl rfl ?_
    conv => whnf
    refine CallC.sca _ (c) ?_ ?_
    · exact rfl
    conv => whnf
    refine CallC.k [] hm rfl rfl (AVsle.refl _) trivial rfl ?_
    refine And.intro (inI64 (by omega) (by omega)) ?_
    have cf := l06First_fn { s with seq := s.seq + 1 } (by show s.es.length ≤ _; omega) 1
    rw [show fi (fun e : En => decide (e.tier = 1)) ({ s with seq := s.seq + 1 } : Sta).es = (i : Int) from hfi] at cf
    conv => whnf
    refine CallC.sca _ (cf) ?_ ?_
    · exact rfl
    refine DrawC.mkK 11 [(.inr 0, 5)] rfl (by kernel_rfl) ?_
    refine And.intro rfl ?_
    conv => whnf
    refine And.intro ⟨by omega, by omega⟩ ?_
    conv => whnf
    refine And.intro ⟨show (0 + ((i : Nat) : Int).toNat) * 40 ≤ 140737488355328 by omega, fun i hi => rfl⟩ ?_
    conv => whnf
    refine And.intro (inI64 (by omega) (by omega)) ?_
    conv => whnf
    refine And.intro ⟨by omega, by omega⟩ ?_
    conv => whnf
    refine And.intro ⟨show (0 + ((i : Nat) : Int).toNat + (s.es.length - (((i : Nat) : Int) + 1).toNat)) * 40 ≤ 140737488355328 by omega, fun i hi => rfl⟩ ?_
    refine And.intro ⟨show (s.ts.length + 1) * 24 ≤ 140737488355328 by omega, all1 rfl⟩ ?_
    refine And.intro ⟨show (0 : Int) ≤ 1 by omega, show (1 : Int) < ((3 : Nat) : Int) by omega⟩ ?_
    exact And.intro trivial ⟨[(15, 0), (17, 1)], rfl, AVle.refl _, ⟨MOle.arr (show 0 + ((i : Nat) : Int).toNat + (s.es.length - (((i : Nat) : Int) + 1).toNat) = (noE key s.es).length by omega) fun j hj => cut_rows hi (show (((i : Nat) : Int) + 1).toNat = i + 1 by omega) hcut (show 0 + ((i : Nat) : Int).toNat = i by omega) j (by have hj' : j < 0 + ((i : Nat) : Int).toNat + (s.es.length - (((i : Nat) : Int) + 1).toNat) := hj; omega), arr_next (f := Tb.row) rfl rfl, trivial⟩⟩
  · have ht : s.takes ⟨4, tok, 1, f, t, key⟩ = false := by simpa using ht
    have ea : s.app ⟨4, tok, 1, f, t, key⟩ = s.tick := by unfold Sta.app; rw [if_neg (by rw [ht]; simp)]
    rw [ht] at c ⊢
    rw [ea]
    refine FnM.introC Tryz.call91 Tryz.func91 rfl rfl ?_
    conv => whnf
    refine CallC.sca _ (c) ?_ ?_
    · exact rfl
    conv => whnf
    refine CallC.k [] hc rfl rfl (AVsle.refl _) trivial rfl ?_
    refine And.intro (inI64 (by omega) (by omega)) ?_
    exact And.intro trivial ⟨[(3, 0), (4, 1)], rfl, AVle.refl _, ⟨MOle.refl _, MOle.refl _, trivial⟩⟩
theorem specApply4_2 (s : Sta) (hL : s.es.length + s.ts.length < 4096) (hq : 0 ≤ s.seq ∧ s.seq < 999999) (tok f t : Int) (key : List UInt8) (hr : Rc.ok ⟨4, tok, 2, f, t, key⟩ = true) (nd : (s.es.map (·.key)).Nodup) :
    FnM Tryz.prog 91 0 [s.av, (Rc.mk 4 tok 2 f t key).av] [] (.tup [(s.app ⟨4, tok, 2, f, t, key⟩).own, .bool (s.takes ⟨4, tok, 2, f, t, key⟩)]) (s.app ⟨4, tok, 2, f, t, key⟩).objs 2 := by
  have c := l06Takes_fn s (by omega) (by omega) ⟨4, tok, 2, f, t, key⟩ hr
  have hc := l06Own_own s (by omega) (by omega)
  have hm := l06Own_mix s (by omega) (by omega)
  by_cases ht : s.takes ⟨4, tok, 2, f, t, key⟩ = true
  · have ea : s.app ⟨4, tok, 2, f, t, key⟩ = ({ s.tick with es := noE key s.es, ts := s.ts ++ [⟨s.seq + 1, key⟩] } : Sta).lower 2 t := by unfold Sta.app; rw [if_pos ht, if_neg (show ¬ ((4 : Int) = 1 ∨ (4 : Int) = 3) by decide), if_neg (show ¬ (4 : Int) = 2 by decide), if_pos rfl]
    obtain ⟨i, hi, hfi, hix⟩ := first_at (takes_4 ht rfl)
    have hcut : s.es.take i ++ s.es.drop (i + 1) = noE key s.es := by rw [noE_cut hi nd, hix]
    have hlen : (noE key s.es).length = i + (s.es.length - (i + 1)) := by rw [← hcut]; simp; omega
    rw [ht] at c ⊢
    rw [ea]
    refine FnM.introC Tryz.call91 Tryz.func91 rfl rfl ?_
    conv => whnf
    refine CallC.sca _ (c) ?_ ?_
    · exact rfl
    conv => whnf
    refine CallC.k [] hm rfl rfl (AVsle.refl _) trivial rfl ?_
    refine And.intro (inI64 (by omega) (by omega)) ?_
    have cf := l06First_fn { s with seq := s.seq + 1 } (by show s.es.length ≤ _; omega) 2
    rw [show fi (fun e : En => decide (e.tier = 2)) ({ s with seq := s.seq + 1 } : Sta).es = (i : Int) from hfi] at cf
    conv => whnf
    refine CallC.sca _ (cf) ?_ ?_
    · exact rfl
    refine DrawC.mkK 11 [(.inr 0, 5)] rfl (by kernel_rfl) ?_
    refine And.intro rfl ?_
    conv => whnf
    refine And.intro ⟨by omega, by omega⟩ ?_
    conv => whnf
    refine And.intro ⟨show (0 + ((i : Nat) : Int).toNat) * 40 ≤ 140737488355328 by omega, fun i hi => rfl⟩ ?_
    conv => whnf
    refine And.intro (inI64 (by omega) (by omega)) ?_
    conv => whnf
    refine And.intro ⟨by omega, by omega⟩ ?_
    conv => whnf
    refine And.intro ⟨show (0 + ((i : Nat) : Int).toNat + (s.es.length - (((i : Nat) : Int) + 1).toNat)) * 40 ≤ 140737488355328 by omega, fun i hi => rfl⟩ ?_
    refine And.intro ⟨show (s.ts.length + 1) * 24 ≤ 140737488355328 by omega, all1 rfl⟩ ?_
    refine And.intro ⟨show (0 : Int) ≤ 2 by omega, show (2 : Int) < ((3 : Nat) : Int) by omega⟩ ?_
    exact And.intro trivial ⟨[(15, 0), (17, 1)], rfl, AVle.refl _, ⟨MOle.arr (show 0 + ((i : Nat) : Int).toNat + (s.es.length - (((i : Nat) : Int) + 1).toNat) = (noE key s.es).length by omega) fun j hj => cut_rows hi (show (((i : Nat) : Int) + 1).toNat = i + 1 by omega) hcut (show 0 + ((i : Nat) : Int).toNat = i by omega) j (by have hj' : j < 0 + ((i : Nat) : Int).toNat + (s.es.length - (((i : Nat) : Int) + 1).toNat) := hj; omega), arr_next (f := Tb.row) rfl rfl, trivial⟩⟩
  · have ht : s.takes ⟨4, tok, 2, f, t, key⟩ = false := by simpa using ht
    have ea : s.app ⟨4, tok, 2, f, t, key⟩ = s.tick := by unfold Sta.app; rw [if_neg (by rw [ht]; simp)]
    rw [ht] at c ⊢
    rw [ea]
    refine FnM.introC Tryz.call91 Tryz.func91 rfl rfl ?_
    conv => whnf
    refine CallC.sca _ (c) ?_ ?_
    · exact rfl
    conv => whnf
    refine CallC.k [] hc rfl rfl (AVsle.refl _) trivial rfl ?_
    refine And.intro (inI64 (by omega) (by omega)) ?_
    exact And.intro trivial ⟨[(3, 0), (4, 1)], rfl, AVle.refl _, ⟨MOle.refl _, MOle.refl _, trivial⟩⟩
theorem specApply5 (s : Sta) (hL : s.es.length + s.ts.length < 4096) (hq : 0 ≤ s.seq ∧ s.seq < 999999) (tok tier f t : Int) (key : List UInt8) (hr : Rc.ok ⟨5, tok, tier, f, t, key⟩ = true) :
    FnM Tryz.prog 91 0 [s.av, (Rc.mk 5 tok tier f t key).av] [] (.tup [(s.app ⟨5, tok, tier, f, t, key⟩).own, .bool (s.takes ⟨5, tok, tier, f, t, key⟩)]) (s.app ⟨5, tok, tier, f, t, key⟩).objs 2 := by
  have c := l06Takes_fn s (by omega) (by omega) ⟨5, tok, tier, f, t, key⟩ hr
  have hc := l06Own_own s (by omega) (by omega)
  have hm := l06Own_mix s (by omega) (by omega)
  by_cases ht : s.takes ⟨5, tok, tier, f, t, key⟩ = true
  · have ea : s.app ⟨5, tok, tier, f, t, key⟩ = { s.tick with ts := noT key s.ts } := by unfold Sta.app; rw [if_pos ht, if_neg (show ¬ ((5 : Int) = 1 ∨ (5 : Int) = 3) by decide), if_neg (show ¬ (5 : Int) = 2 by decide), if_neg (show ¬ (5 : Int) = 4 by decide)]
    rw [ht] at c ⊢
    rw [ea]
    refine FnM.introC Tryz.call91 Tryz.func91 rfl rfl ?_
    conv => whnf
    refine CallC.sca _ (c) ?_ ?_
    · exact rfl
    conv => whnf
    refine CallC.k [] hc rfl rfl (AVsle.refl _) trivial rfl ?_
    refine And.intro (inI64 (by omega) (by omega)) ?_
    have hle : ∀ i, (noT key (s.ts.take i)).length ≤ i := fun i => Nat.le_trans (noT_len key _) (by simp; omega)
    refine LoopC.mk (fun i : Nat => i ≤ s.ts.length) (fun i => [(2, .bptr 0 0), (3, .bptr 1 0), (4, .bptr 2 0), (8, .osl 5), (9, .int .i64 i)])
      (fun i => [(0, .box [.int .i64 (s.seq + 1), .int .i64 s.fence, .osl 3, .osl 4, .int .i64 s.l0, .int .i64 s.l1, .int .i64 s.l2, .int .i64 s.h0, .int .i64 s.h1, .int .i64 s.h2]), (1, .box (Rc.mk 5 tok tier f t key).row), (2, .box sta0.nrow), (3, .arr 149 4 s.es.length fun i => (ix s.es i).row), (4, .arr 152 2 s.ts.length fun i => (ix s.ts i).row), (5, .arr 152 2 (noT key (s.ts.take i)).length fun j => (ix (noT key (s.ts.take i)) j).row)]) 6 (fun i => s.ts.length - i) 0
      ⟨Nat.zero_le _, [(0, 0), (1, 1), (2, 2), (3, 3), (4, 4), (5, 5)], rfl, rfl, ⟨AVle.refl _, AVle.refl _, AVle.refl _, AVle.refl _, AVle.refl _, trivial⟩, ⟨MOle.refl _, MOle.refl _, MOle.refl _, MOle.refl _, MOle.refl _, MOle.arr rfl fun i hi => absurd hi (Nat.not_lt_zero i), trivial⟩⟩ ?_
    intro i hi
    refine Grd.intro (fun h2 => ?_) (fun h2 => ?_)
    · have hin : i < s.ts.length := by have := of_decide_eq_true h2; omega
      have hsn : noT key (s.ts.take (i + 1)) = _ := filter_snoc (p := fun e : Tb => !decide (e.key = key)) hin
      refine DrawC.mk 9 rfl (by kernel_rfl) ?_
      refine And.intro (by omega) ?_
      refine Grd.intro (fun h3 => ?_) (fun h3 => ?_)
      · have h3 : (!((B (ix s.ts i).key).toList == (B key).toList)) = true := h3
        rw [B_eq] at h3
        rw [if_pos h3] at hsn
        have := hle i
        refine And.intro (by omega) ?_
        refine And.intro ⟨show ((noT key (s.ts.take i)).length + 1) * 24 ≤ 140737488355328 by omega, all1 rfl⟩ ?_
        refine And.intro (inI64 (by omega) (by omega)) ?_
        refine ⟨i + 1, hin, by omega, [(0, 0), (1, 1), (2, 2), (3, 3), (4, 4), (16, 5)], rfl, rfl, ⟨AVle.refl _, AVle.refl _, AVle.refl _, AVle.refl _, AVle.of_eq (congrArg (AV.int .i64) (by simp)), trivial⟩, ⟨MOle.refl _, MOle.refl _, MOle.refl _, MOle.refl _, MOle.refl _, arr_next (f := Tb.row) hsn rfl, trivial⟩⟩
      · have h3 : (!((B (ix s.ts i).key).toList == (B key).toList)) = false := h3
        rw [B_eq] at h3
        rw [if_neg (by rw [h3]; simp)] at hsn
        refine And.intro (inI64 (by omega) (by omega)) ?_
        refine ⟨i + 1, hin, by omega, [(0, 0), (1, 1), (2, 2), (3, 3), (4, 4), (5, 5)], rfl, rfl, ⟨AVle.refl _, AVle.refl _, AVle.refl _, AVle.refl _, AVle.of_eq (congrArg (AV.int .i64) (by simp)), trivial⟩, ⟨MOle.refl _, MOle.refl _, MOle.refl _, MOle.refl _, MOle.refl _, MOle.of_eq (show MO.arr 152 2 (noT key (s.ts.take i)).length (fun j => (ix (noT key (s.ts.take i)) j).row) = _ by rw [hsn]; rfl), trivial⟩⟩
    · have : i = s.ts.length := by have := of_decide_eq_false h2; omega
      subst this
      have eT : noT key (s.ts.take s.ts.length) = noT key s.ts := by rw [List.take_of_length_le (Nat.le_refl _)]
      exact And.intro trivial ⟨[(3, 0), (5, 1)], rfl, AVle.refl _, ⟨MOle.refl _, MOle.of_eq (show MO.arr 152 2 (noT key (s.ts.take s.ts.length)).length (fun j => (ix (noT key (s.ts.take s.ts.length)) j).row) = _ by rw [eT]), trivial⟩⟩
  · have ht : s.takes ⟨5, tok, tier, f, t, key⟩ = false := by simpa using ht
    have ea : s.app ⟨5, tok, tier, f, t, key⟩ = s.tick := by unfold Sta.app; rw [if_neg (by rw [ht]; simp)]
    rw [ht] at c ⊢
    rw [ea]
    refine FnM.introC Tryz.call91 Tryz.func91 rfl rfl ?_
    conv => whnf
    refine CallC.sca _ (c) ?_ ?_
    · exact rfl
    conv => whnf
    refine CallC.k [] hc rfl rfl (AVsle.refl _) trivial rfl ?_
    refine And.intro (inI64 (by omega) (by omega)) ?_
    exact And.intro trivial ⟨[(3, 0), (4, 1)], rfl, AVle.refl _, ⟨MOle.refl _, MOle.refl _, trivial⟩⟩
theorem l06Apply_own (s : Sta) (hL : s.es.length + s.ts.length < 4096) (hq : 0 ≤ s.seq ∧ s.seq < 999999) (nd : s.keys.Nodup) (r : Rc) (hr : r.ok = true) :
    FnM Tryz.prog 91 0 [s.av, r.av] [] (.tup [(s.app r).own, .bool (s.takes r)]) (s.app r).objs 2 := by
  have nde : (s.es.map (·.key)).Nodup := (List.nodup_append.1 nd).1
  obtain ⟨k, tok, tier, f, t, key⟩ := r
  rcases kinds hr with ⟨rfl, rfl⟩ | rfl | ⟨rfl, h, hf⟩ | ⟨rfl, h⟩ | rfl
  · exact specApply1 s hL hq tok f t key hr
  · exact specApply2 s hL hq tok tier f t key hr
  · rcases h with rfl | rfl
    · exact specApply3_1 s hL hq tok f t key hr
    · exact specApply3_2 s hL hq tok f t key hr
  · rcases h with rfl | rfl | rfl
    · exact specApply4_0 s hL hq tok f t key hr nde
    · exact specApply4_1 s hL hq tok f t key hr nde
    · exact specApply4_2 s hL hq tok f t key hr nde
  · exact specApply5 s hL hq tok tier f t key hr
theorem l06Apply_fn (s : Sta) (hL : s.es.length + s.ts.length < 4096) (hq : 0 ≤ s.seq ∧ s.seq < 999999) (nd : s.keys.Nodup) (r : Rc) (hr : r.ok = true) : VFn Tryz.prog 91 [s.av, r.av] (.tup [(s.app r).av, .bool (s.takes r)]) := (l06Apply_own s hL hq nd r hr).vfn
end Go.Proofs.YtopfpmcakoeloaaGreatDoor
set_option linter.unusedVariables false
set_option linter.constructorNameAsVariable false
set_option linter.unusedSimpArgs false
set_option maxRecDepth 20000
namespace Go.Proofs.YtopfpmcakoeloaaGreatDoor
open Go Go.Vw

theorem alloc_new (w : World) (o : Obj) : (w.alloc o).heap[w.heap.size]? = some o ∧ (w.alloc o).heap.size = w.heap.size + 1 := by
  unfold World.alloc; simp
theorem SplitN_fn (l : List UInt8) (c : UInt8) (m : Nat) (hl : l.length < 4294967281) (hm : m ≤ 1000000) : VFn Tryz.prog 153 [.str (B l), .str (B [c]), .int .i64 ((m + 1 : Nat) : Int)] (txts (Lib.splitN l [c] (m + 1))) := by
  refine ⟨Tryz.call153, fun w ok vs hJ hok hv => ?_⟩
  obtain ⟨v, us, rfl, hv, v2, us2, rfl, hv2, v3, us3, rfl, hv3, hus⟩ := hv
  have e1 : v = .string (B l) := hv
  have e2 : v2 = .string (B [c]) := hv2
  have e3 : v3 = .int .i64 ((m + 1 : Nat) : Int) := hv3
  have e4 : us3 = [] := hus
  subst e1 e2 e3 e4
  obtain ⟨mv, hmv⟩ := tab_maxlen hJ
  have hd := Lib.splitB_data (B [c]) 0 (min (m + 1) ((B l).size + 1) - 1) (B l)
  have hle := Lib.splitB_length_le (B [c]) 0 (min (m + 1) ((B l).size + 1) - 1) (B l)
  refine (Tryz.strings_SplitN (B l) (B [c]) (m + 1) mv w (by rw [B_size]; exact hl) hmv (by rw [B_size]; exact Nat.le_refl 1) (by omega) (by omega)).mono ?_
  rintro e w' ⟨rfl, rfl⟩
  generalize Lib.splitB (B [c]) 0 (min (m + 1) ((B l).size + 1) - 1) (B l) = S at hd hle
  rw [B_data, B_data, B_size] at hd
  have hR : Lib.splitN l [c] (m + 1) = S.map (·.data.toList) := hd.symm
  have hlen : (Lib.splitN l [c] (m + 1)).length = S.length := by rw [hR]; simp
  have bel := (Go.RowKit.Below.refl w.heap.size w).alloc (Nat.le_refl _) (.cells (Lib.cellsOf S (min (m + 1) ((B l).size + 1))) 9)
  obtain ⟨hnew, hsz⟩ := alloc_new w (.cells (Lib.cellsOf S (min (m + 1) ((B l).size + 1))) 9)
  refine ⟨_, rfl, ⟨bel.os, bel.tape, bel.output, bel.size, fun b hb _ => bel.block b hb⟩, ?_⟩
  show RV _ _ G0 (.sl 1 (Lib.splitN l [c] (m + 1)).length fun i => [.str (B (ix (Lib.splitN l [c] (m + 1)) i))]) _
  rw [hlen]
  refine ⟨_, _, rfl, by omega, .inr ⟨w.heap.size, 0, rfl, .inr ⟨Nat.le_refl _, by rw [hsz]; omega⟩, fun i hi => ⟨[.string S[i]], rfl, ⟨_, _, rfl, ?_, rfl⟩, fun j hj => ?_⟩⟩⟩
  · show Value.string _ = Value.string _
    rw [hR, ix_lt (by simpa using hi)]
    simp [B]
  · have : j = 0 := by omega
    subst this
    rw [Nat.zero_add, Nat.mul_one, Nat.add_zero, cell_of_row _ _ _ _ _ _ hnew]
    simp [Lib.cellsOf, List.getElem?_append_left, hi]
theorem atoi_range (t : List UInt8) : -9223372036854775808 ≤ atoiV t ∧ atoiV t ≤ 9223372036854775807 := by
  rcases atoi_end t with ⟨_, h⟩ | ⟨_, h, e⟩ | ⟨_, h, e⟩
  · generalize atoiV t = v at h
    unfold Lib.atoiAll at h
    cases t with
    | nil => cases h
    | cons c r =>
      simp only at h
      split at h
      · cases h
      · cases h
      · split at h
        · cases h
        · split at h
          · cases h
          · injection h with h
            subst h
            split <;> omega
  · rw [e]; decide
  · rw [e]; unfold Lib.atoiSat; split <;> decide
theorem number_fn (t : List UInt8) (hl : t.length ≤ 281474976710656) : VFn Tryz.prog 154 [.str (B t)] (.tup [.int .i64 (atoiV t), .bool (numOk t)]) := by
  refine VFn.introC Tryz.call154 Tryz.func154 rfl rfl ?_
  by_cases ho : atoiOk t = true
  · conv => whnf
    refine CallC.sca _ (Atoi_ok t hl ho) ?_ ?_
    · exact rfl
    have hb := atoi_range t
    conv => whnf
    refine CallC.sca _ (Itoa_fn (atoiV t) hb.1 hb.2) ?_ ?_
    · exact rfl
    refine Grd.intro (fun h => ?_) (fun h => ?_)
    · have h : ((B (Lib.itoa (atoiV t))).toList == (B t).toList) = true := h
      rw [B_eq] at h
      conv => whnf
      refine CallC.sca _ (within_fn _ _ _) ?_ ?_
      · exact rfl
      refine And.intro trivial (AVle.of_eq (show AV.tup [.int .i64 (atoiV t), .bool (within (atoiV t) (-999999999999999999) 999999999999999999)] = _ from ?_))
      unfold numOk; rw [ho, h]; rfl
    · have h : ((B (Lib.itoa (atoiV t))).toList == (B t).toList) = false := h
      rw [B_eq] at h
      refine And.intro trivial (AVle.of_eq (show AV.tup [.int .i64 (atoiV t), .bool false] = _ from ?_))
      unfold numOk; rw [ho, h]; rfl
  · have ho : atoiOk t = false := by simpa using ho
    conv => whnf
    refine CallC.sca _ (Atoi_no t hl ho) ?_ ?_
    · exact rfl
    refine And.intro trivial (AVle.of_eq (show AV.tup [.int .i64 (atoiV t), .bool false] = _ from ?_))
    unfold numOk; rw [ho]; rfl
theorem cutP_piece (c : UInt8) : ∀ (l cur : List UInt8), ∀ x ∈ cutP c cur l, x.length ≤ cur.length + l.length
  | [], cur, x, hx => by simp [cutP] at hx; rw [hx]; simp
  | y :: r, cur, x, hx => by
    unfold cutP at hx
    split at hx
    · rcases List.mem_cons.1 hx with rfl | hx
      · simp
      · have := cutP_piece c r [] x hx; simp at this ⊢; omega
    · have := cutP_piece c r (cur ++ [y]) x hx; simp at this ⊢; omega
theorem numbers_gen (t : List UInt8) (c : UInt8) (m : Nat) (hl : t.length ≤ 1000000000) (hm : m ≤ 1000000) (R : AV) (hy : ∀ N, numsK c m t = some N → R = .tup [ints N, .bool true]) (hn : numsK c m t = none → R = .tup [.nilsl, .bool false]) :
    VFn Tryz.prog 132 [.str (B t), .str (B [c]), .int .i64 (m : Int)] R := by
  have hsl := splitN_len c t m
  refine VFn.introC Tryz.call132 Tryz.func132 rfl rfl ?_
  refine And.intro (inI64 (by omega) (by omega)) ?_
  conv => whnf
  refine CallC.nl _ (SplitN_fn t c m (by omega) hm) ?_ ?_
  · exact rfl
  refine Grd.intro (fun h1 => ?_) (fun h1 => ?_)
  · have h1 : ¬ (Lib.splitN t [c] (m + 1)).length = m := by
      have h : (!decide ((((Lib.splitN t [c] (m + 1)).length : Nat) : Int) = (m : Int))) = true := h1
      simp at h; omega
    rw [hn (by unfold numsK; rw [if_neg (fun h => h1 (hsl.2 h.1))])]
    exact And.intro trivial (AVle.refl _)
  have h1 : (Lib.splitN t [c] (m + 1)).length = m := by
    have h : (!decide ((((Lib.splitN t [c] (m + 1)).length : Nat) : Int) = (m : Int))) = false := h1
    simp at h; omega
  have hcm := hsl.1 h1
  rw [splitN_eq c t m hcm]
  have hcl := cutP_len c t []
  have hpl : ∀ x ∈ cutP c [] t, x.length ≤ t.length := fun x hx => by have := cutP_piece c t [] x hx; simpa using this
  obtain ⟨P, hP⟩ : ∃ P, P = cutP c [] t := ⟨_, rfl⟩
  rw [← hP]
  rw [← hP] at hcm hcl hpl
  have hK : numsK c m t = if P.all numOk = true then some (P.map atoiV) else none := by
    unfold numsK; rw [← hP]
    by_cases h : P.all numOk = true
    · rw [if_pos ⟨hcm, h⟩, if_pos h]
    · rw [if_neg (fun q => h q.2), if_neg h]
  refine LoopC.mk (fun i : Nat => i ≤ P.length ∧ ∀ j, j < i → numOk (ix P j) = true) (fun i => [(9, .osl 0), (24, txts P), (25, .int .i64 P.length), (26, .int .i64 i)])
    (fun i => [(0, .arr 3 1 ((P.take i).map atoiV).length fun j => [.int .i64 (ix ((P.take i).map atoiV) j)])]) 1 (fun i => P.length - i) 0
    ⟨⟨Nat.zero_le _, fun j hj => absurd hj (Nat.not_lt_zero j)⟩, [(0, 0)], rfl, rfl, ⟨AVle.refl _, AVle.refl _, AVle.refl _, AVle.refl _, trivial⟩, ⟨MOle.arr rfl fun i hi => absurd hi (Nat.not_lt_zero i), trivial⟩⟩ ?_
  intro i hi
  obtain ⟨hi, hall⟩ := hi
  refine Grd.intro (fun h2 => ?_) (fun h2 => ?_)
  · have hin : i < P.length := by have := of_decide_eq_true h2; omega
    refine And.intro (by omega) ?_
    conv => whnf
    refine CallC.sca _ (number_fn (ix P i) (by have := hpl _ (getD_mem hin); omega)) ?_ ?_
    · exact rfl
    refine Grd.intro (fun h3 => ?_) (fun h3 => ?_)
    · have h3 : numOk (ix P i) = false := by simpa using (show (!numOk (ix P i)) = true from h3)
      have : ¬ P.all numOk = true := fun h => by rw [List.all_eq_true.1 h _ (getD_mem hin)] at h3; cases h3
      rw [hn (by rw [hK, if_neg this])]
      exact And.intro trivial (AVle.refl _)
    have h3 : numOk (ix P i) = true := by simpa using (show (!numOk (ix P i)) = false from h3)
    refine And.intro ⟨show (((P.take i).map atoiV).length + 1) * 8 ≤ 140737488355328 by simp; omega, all1 rfl⟩ ?_
    refine And.intro (inI64 (by omega) (by omega)) ?_
    refine ⟨i + 1, ⟨hin, fun j hj => ?_⟩, by omega, [(2, 0)], rfl, rfl, ⟨AVle.refl _, AVle.refl _, AVle.refl _, AVle.of_eq (congrArg (AV.int .i64) (by simp)), trivial⟩, ⟨arr_next (f := fun x => [.int .i64 x]) (map_take_snoc hin) rfl, trivial⟩⟩
    rcases Nat.lt_or_ge j i with h' | h'
    · exact hall j h'
    · rw [show j = i by omega]; exact h3
  · have : i = P.length := by have := of_decide_eq_false h2; omega
    subst this
    have e : P.take P.length = P := List.take_of_length_le (Nat.le_refl _)
    have hA : P.all numOk = true := List.all_eq_true.2 fun x hx => by
      obtain ⟨j, hj, q⟩ := List.getElem_of_mem hx
      have := hall j hj
      rw [ix_lt hj, q] at this; exact this
    rw [hy _ (by rw [hK, if_pos hA]), e]
    exact And.intro trivial (AVle.refl _)
theorem numbers_yes (t : List UInt8) (c : UInt8) (m : Nat) (hl : t.length ≤ 1000000000) (hm : m ≤ 1000000) {N : List Int} (h : numsK c m t = some N) : VFn Tryz.prog 132 [.str (B t), .str (B [c]), .int .i64 (m : Int)] (.tup [ints N, .bool true]) :=
  numbers_gen t c m hl hm _ (fun N' h' => by rw [h] at h'; cases h'; rfl) (fun h' => by rw [h] at h'; cases h')
theorem numbers_no (t : List UInt8) (c : UInt8) (m : Nat) (hl : t.length ≤ 1000000000) (hm : m ≤ 1000000) (h : numsK c m t = none) : VFn Tryz.prog 132 [.str (B t), .str (B [c]), .int .i64 (m : Int)] (.tup [.nilsl, .bool false]) :=
  numbers_gen t c m hl hm _ (fun N' h' => by rw [h] at h'; cases h') (fun h' => rfl)
end Go.Proofs.YtopfpmcakoeloaaGreatDoor
set_option linter.unusedVariables false
set_option linter.constructorNameAsVariable false
set_option linter.unusedSimpArgs false
set_option maxRecDepth 20000
namespace Go.Proofs.YtopfpmcakoeloaaGreatDoor
open Go Go.Vw

theorem nbOk_no {neg : Bool} {b : List UInt8} (h : 18 < b.length ∨ (b.headD 0 = 48 ∧ (1 < b.length ∨ neg = true)) ∨ b.all dig = false) : nbOk neg b = false := by
  cases hb : nbOk neg b
  · rfl
  · obtain ⟨_, h2, h3, h4⟩ := nbOk_iff.1 hb
    rcases h with h | ⟨h, h'⟩ | h
    · omega
    · obtain ⟨h5, h6⟩ := h3 h
      rcases h' with h' | h'
      · exact absurd h' h5
      · rw [h6] at h'; cases h'
    · rw [h4] at h; cases h
theorem l00Neg_fn (b : List UInt8) (hl : b.length ≤ 1000000000) (hb0 : b ≠ []) (R : AV) (hy : numOk (45 :: b) = true → R = .tup [.int .i64 (-(numB 0 b : Int)), .bool true]) (hn : numOk (45 :: b) = false → R = .tup [.int .i64 0, .bool false]) : VFn Tryz.prog 146 [.str (B (45 :: b))] R := by
  have hk := numOk_neg b
  have hsz : ((B (45 :: b)).size : Int) = b.length + 1 := by rw [B_size]; rfl
  refine VFn.introC Tryz.call146 Tryz.func146 rfl rfl ?_
  refine Grd.intro (fun g1 => ?_) (fun g1 => absurd (of_decide_eq_false g1) (by omega))
  refine And.intro ⟨by omega, by omega⟩ ?_
  refine And.intro ⟨by omega, by omega⟩ ?_
  refine force_to (congrArg AV.str (show (B (45 :: b)).extract (Int.toNat 1) (B (45 :: b)).size = B b by rw [B_extract, B_size]; simp)) ?_
  have hno : nbOk true b = false → numOk (45 :: b) = false := fun h => hk.1.trans h
  refine Grd.intro (fun h1 => ?_) (fun h1 => ?_)
  · have hb0' : b = [] := by have h : (((B b).size : Nat) : Int) = 0 := of_decide_eq_true h1; rw [B_size] at h; exact List.length_eq_zero_iff.1 (by omega)
    exact absurd hb0' hb0
  have hb1 : 1 ≤ b.length := by cases hbb : b with | nil => exact absurd hbb hb0 | cons _ _ => simp
  refine Grd.intro (fun h2 => ?_) (fun h2 => ?_)
  · have hb2 : 18 < b.length := by have h : (18 : Int) < (((B b).size : Nat) : Int) := of_decide_eq_true h2; rw [B_size] at h; omega
    rw [hn (hno (nbOk_no (.inl hb2)))]
    exact And.intro trivial (AVle.refl _)
  have hb2 : b.length ≤ 18 := by have h : ¬ (18 : Int) < (((B b).size : Nat) : Int) := of_decide_eq_false h2; rw [B_size] at h; omega
  refine And.intro ⟨by omega, by rw [B_size]; omega⟩ ?_
  have hix : (B b).data.toList.getD (Int.toNat 0) 0 = b.headD 0 := by rw [B_data]; cases b <;> rfl
  refine Grd.intro (fun h3 => ?_) (fun h3 => ?_)
  · have h3 : b.headD 0 = 48 := hix.symm.trans (UInt8.toNat_inj.1 (by have h : (((B b).data.toList.getD (Int.toNat 0) 0).toNat : Int) = 48 := of_decide_eq_true h3; exact Int.ofNat.inj h))
    refine Grd.intro (fun h4 => ?_) (fun h4 => ?_)
    · have h4 : 1 < b.length := by have h : (1 : Int) < (((B b).size : Nat) : Int) := of_decide_eq_true h4; rw [B_size] at h; omega
      rw [hn (hno (nbOk_no (.inr (.inl ⟨h3, .inl h4⟩))))]
      exact And.intro trivial (AVle.refl _)
    have h4 : ¬ 1 < b.length := by have h : ¬ (1 : Int) < (((B b).size : Nat) : Int) := of_decide_eq_false h4; rw [B_size] at h; omega
    rw [hn (hno (nbOk_no (.inr (.inl ⟨h3, .inr rfl⟩))))]
    exact And.intro trivial (AVle.refl _)
  · have h3 : b.headD 0 ≠ 48 := fun e => (of_decide_eq_false (p := ((((B b).data.toList.getD (Int.toNat 0) 0).toNat : Nat) : Int) = 48) h3) (by rw [hix, e]; rfl)
    have hgood : b.all dig = true → R = .tup [.int .i64 ((-1) * (numB 0 b : Int)), .bool true] := fun h => (hy (hk.1.trans (nbOk_iff.2 ⟨hb0, hb2, (fun e => absurd e h3), h⟩))).trans (congrArg (fun z => AV.tup [AV.int .i64 z, AV.bool true]) (by omega))
    refine LoopC.mk (fun i : Nat => i ≤ b.length ∧ (b.take i).all dig = true ∧ numB 0 (b.take i) < 10 ^ i) (fun i => [(0, .str (B b)), (4, .int .i64 (-1)), (5, .int .i64 (numB 0 (b.take i))), (6, .int .i64 i)]) (fun _ => []) 0 (fun i => b.length - i) 0
      ⟨⟨by omega, rfl, Nat.one_pos⟩, [], rfl, rfl, ⟨AVle.refl _, AVle.refl _, AVle.refl _, AVle.refl _, trivial⟩, trivial⟩ ?_
    intro i hi
    obtain ⟨hi1, hi2, hi3⟩ := hi
    refine Grd.intro (fun h5 => ?_) (fun h5 => ?_)
    · have hin : i < b.length := by have h : (i : Int) < (((B b).size : Nat) : Int) := of_decide_eq_true h5; rw [B_size] at h; omega
      have hp := pow_le18 (i := i) (by omega)
      have bad : dig (ix b i) = false → R = .tup [.int .i64 0, .bool false] := fun h => hn (hno (nbOk_no (.inr (.inr (by
        rw [← Bool.not_eq_true]
        intro h'
        rw [List.all_eq_true.1 h' _ (getD_mem hin)] at h; cases h)))))
      refine And.intro ⟨by omega, by rw [B_size]; omega⟩ ?_
      refine Grd.intro (fun h6 => ?_) (fun h6 => ?_)
      · have h6 : ((ix b i).toNat : Int) < 48 := of_decide_eq_true h6
        rw [bad (decide_eq_false (by omega))]
        exact And.intro trivial (AVle.refl _)
      have h6 : ¬ ((ix b i).toNat : Int) < 48 := of_decide_eq_false h6
      refine And.intro ⟨by omega, by rw [B_size]; omega⟩ ?_
      refine Grd.intro (fun h7 => ?_) (fun h7 => ?_)
      · have h7 : (57 : Int) < ((ix b i).toNat : Int) := of_decide_eq_true h7
        rw [bad (decide_eq_false (by omega))]
        exact And.intro trivial (AVle.refl _)
      have h7 : ¬ (57 : Int) < ((ix b i).toNat : Int) := of_decide_eq_false h7
      have hd : dig (ix b i) = true := decide_eq_true (by omega)
      have hnt := numB_take hin
      refine And.intro (inI64 (by omega) (by omega)) ?_
      refine And.intro ⟨by omega, by rw [B_size]; omega⟩ ?_
      refine And.intro (show inI .i64 ((ix b i).toNat : Int) from inI64 (by omega) (by omega)) ?_
      refine And.intro (show inI .i64 ((numB 0 (b.take i) : Int) * 10 + ((ix b i).toNat : Int)) from inI64 (by omega) (by omega)) ?_
      refine And.intro (show inI .i64 ((numB 0 (b.take i) : Int) * 10 + ((ix b i).toNat : Int) - 48) from inI64 (by omega) (by omega)) ?_
      refine And.intro (inI64 (by omega) (by omega)) ?_
      refine ⟨i + 1, ⟨hin, ?_, ?_⟩, by omega, [], rfl, rfl, ⟨AVle.refl _, AVle.refl _, AVle.of_eq (congrArg (AV.int .i64) (show (numB 0 (b.take i) : Int) * 10 + ((ix b i).toNat : Int) - 48 = _ by rw [hnt]; omega)), AVle.of_eq (congrArg (AV.int .i64) (by simp)), trivial⟩, trivial⟩
      · rw [take_snoc hin, List.all_append, hi2]; simp [hd]
      · rw [hnt, Nat.pow_succ]; omega
    · have : i = b.length := by have h : ¬ (i : Int) < (((B b).size : Nat) : Int) := of_decide_eq_false h5; rw [B_size] at h; omega
      subst this
      rw [List.take_of_length_le (Nat.le_refl _)] at hi2
      have hN := numB_18 hi2 hb2
      have e : b.take b.length = b := List.take_of_length_le (Nat.le_refl _)
      refine And.intro (show inI .i64 ((-1) * (numB 0 (b.take b.length) : Int)) from inI64 (by rw [e]; omega) (by rw [e]; omega)) ?_
      rw [hgood hi2]
      exact And.intro trivial (AVle.of_eq (congrArg (fun z => AV.tup [AV.int .i64 z, AV.bool true]) (show (-1) * (numB 0 (b.take b.length) : Int) = _ by rw [e])))
theorem l00Pos_fn (b : List UInt8) (hl : b.length ≤ 1000000000) (hb0 : b ≠ []) (hh : b.headD 0 ≠ 45) (R : AV) (hy : numOk b = true → R = .tup [.int .i64 (numB 0 b : Int), .bool true]) (hn : numOk b = false → R = .tup [.int .i64 0, .bool false]) : VFn Tryz.prog 146 [.str (B b)] R := by
  have hk := numOk_pos hh
  have hlen : 1 ≤ b.length := by cases hbb : b with | nil => exact absurd hbb hb0 | cons _ _ => simp
  refine VFn.introC Tryz.call146 Tryz.func146 rfl rfl ?_
  refine Grd.intro (fun g1 => ?_) (fun g1 => absurd (of_decide_eq_false (p := (0 : Int) < (((B b).size : Nat) : Int)) g1) (fun h => h (by rw [B_size]; omega)))
  refine And.intro ⟨by omega, by rw [B_size]; omega⟩ ?_
  have hix : (B b).data.toList.getD (Int.toNat 0) 0 = b.headD 0 := by rw [B_data]; cases b <;> rfl
  refine Grd.intro (fun g2 => absurd (hix.symm.trans (UInt8.toNat_inj.1 (by have h : (((B b).data.toList.getD (Int.toNat 0) 0).toNat : Int) = 45 := of_decide_eq_true g2; exact Int.ofNat.inj h))) hh) (fun g2 => ?_)
  have hno : nbOk false b = false → numOk b = false := fun h => hk.1.trans h
  refine Grd.intro (fun h1 => ?_) (fun h1 => ?_)
  · have hb0' : b = [] := by have h : (((B b).size : Nat) : Int) = 0 := of_decide_eq_true h1; rw [B_size] at h; exact List.length_eq_zero_iff.1 (by omega)
    exact absurd hb0' hb0
  have hb1 : 1 ≤ b.length := by cases hbb : b with | nil => exact absurd hbb hb0 | cons _ _ => simp
  refine Grd.intro (fun h2 => ?_) (fun h2 => ?_)
  · have hb2 : 18 < b.length := by have h : (18 : Int) < (((B b).size : Nat) : Int) := of_decide_eq_true h2; rw [B_size] at h; omega
    rw [hn (hno (nbOk_no (.inl hb2)))]
    exact And.intro trivial (AVle.refl _)
  have hb2 : b.length ≤ 18 := by have h : ¬ (18 : Int) < (((B b).size : Nat) : Int) := of_decide_eq_false h2; rw [B_size] at h; omega
  refine And.intro ⟨by omega, by rw [B_size]; omega⟩ ?_
  have hix : (B b).data.toList.getD (Int.toNat 0) 0 = b.headD 0 := by rw [B_data]; cases b <;> rfl
  refine Grd.intro (fun h3 => ?_) (fun h3 => ?_)
  · have h3 : b.headD 0 = 48 := hix.symm.trans (UInt8.toNat_inj.1 (by have h : (((B b).data.toList.getD (Int.toNat 0) 0).toNat : Int) = 48 := of_decide_eq_true h3; exact Int.ofNat.inj h))
    refine Grd.intro (fun h4 => ?_) (fun h4 => ?_)
    · have h4 : 1 < b.length := by have h : (1 : Int) < (((B b).size : Nat) : Int) := of_decide_eq_true h4; rw [B_size] at h; omega
      rw [hn (hno (nbOk_no (.inr (.inl ⟨h3, .inl h4⟩))))]
      exact And.intro trivial (AVle.refl _)
    have h4 : ¬ 1 < b.length := by have h : ¬ (1 : Int) < (((B b).size : Nat) : Int) := of_decide_eq_false h4; rw [B_size] at h; omega
    have hgood : b.all dig = true → R = .tup [.int .i64 (1 * (numB 0 b : Int)), .bool true] := fun h => (hy (hk.1.trans (nbOk_iff.2 ⟨hb0, hb2, (fun _ => ⟨h4, rfl⟩), h⟩))).trans (congrArg (fun z => AV.tup [AV.int .i64 z, AV.bool true]) (by omega))
    refine LoopC.mk (fun i : Nat => i ≤ b.length ∧ (b.take i).all dig = true ∧ numB 0 (b.take i) < 10 ^ i) (fun i => [(0, .str (B b)), (4, .int .i64 1), (5, .int .i64 (numB 0 (b.take i))), (6, .int .i64 i)]) (fun _ => []) 0 (fun i => b.length - i) 0
      ⟨⟨by omega, rfl, Nat.one_pos⟩, [], rfl, rfl, ⟨AVle.refl _, AVle.refl _, AVle.refl _, AVle.refl _, trivial⟩, trivial⟩ ?_
    intro i hi
    obtain ⟨hi1, hi2, hi3⟩ := hi
    refine Grd.intro (fun h5 => ?_) (fun h5 => ?_)
    · have hin : i < b.length := by have h : (i : Int) < (((B b).size : Nat) : Int) := of_decide_eq_true h5; rw [B_size] at h; omega
      have hp := pow_le18 (i := i) (by omega)
      have bad : dig (ix b i) = false → R = .tup [.int .i64 0, .bool false] := fun h => hn (hno (nbOk_no (.inr (.inr (by
        rw [← Bool.not_eq_true]
        intro h'
        rw [List.all_eq_true.1 h' _ (getD_mem hin)] at h; cases h)))))
      refine And.intro ⟨by omega, by rw [B_size]; omega⟩ ?_
      refine Grd.intro (fun h6 => ?_) (fun h6 => ?_)
      · have h6 : ((ix b i).toNat : Int) < 48 := of_decide_eq_true h6
        rw [bad (decide_eq_false (by omega))]
        exact And.intro trivial (AVle.refl _)
      have h6 : ¬ ((ix b i).toNat : Int) < 48 := of_decide_eq_false h6
      refine And.intro ⟨by omega, by rw [B_size]; omega⟩ ?_
      refine Grd.intro (fun h7 => ?_) (fun h7 => ?_)
      · have h7 : (57 : Int) < ((ix b i).toNat : Int) := of_decide_eq_true h7
        rw [bad (decide_eq_false (by omega))]
        exact And.intro trivial (AVle.refl _)
      have h7 : ¬ (57 : Int) < ((ix b i).toNat : Int) := of_decide_eq_false h7
      have hd : dig (ix b i) = true := decide_eq_true (by omega)
      have hnt := numB_take hin
      refine And.intro (inI64 (by omega) (by omega)) ?_
      refine And.intro ⟨by omega, by rw [B_size]; omega⟩ ?_
      refine And.intro (show inI .i64 ((ix b i).toNat : Int) from inI64 (by omega) (by omega)) ?_
      refine And.intro (show inI .i64 ((numB 0 (b.take i) : Int) * 10 + ((ix b i).toNat : Int)) from inI64 (by omega) (by omega)) ?_
      refine And.intro (show inI .i64 ((numB 0 (b.take i) : Int) * 10 + ((ix b i).toNat : Int) - 48) from inI64 (by omega) (by omega)) ?_
      refine And.intro (inI64 (by omega) (by omega)) ?_
      refine ⟨i + 1, ⟨hin, ?_, ?_⟩, by omega, [], rfl, rfl, ⟨AVle.refl _, AVle.refl _, AVle.of_eq (congrArg (AV.int .i64) (show (numB 0 (b.take i) : Int) * 10 + ((ix b i).toNat : Int) - 48 = _ by rw [hnt]; omega)), AVle.of_eq (congrArg (AV.int .i64) (by simp)), trivial⟩, trivial⟩
      · rw [take_snoc hin, List.all_append, hi2]; simp [hd]
      · rw [hnt, Nat.pow_succ]; omega
    · have : i = b.length := by have h : ¬ (i : Int) < (((B b).size : Nat) : Int) := of_decide_eq_false h5; rw [B_size] at h; omega
      subst this
      rw [List.take_of_length_le (Nat.le_refl _)] at hi2
      have hN := numB_18 hi2 hb2
      have e : b.take b.length = b := List.take_of_length_le (Nat.le_refl _)
      refine And.intro (show inI .i64 (1 * (numB 0 (b.take b.length) : Int)) from inI64 (by rw [e]; omega) (by rw [e]; omega)) ?_
      rw [hgood hi2]
      exact And.intro trivial (AVle.of_eq (congrArg (fun z => AV.tup [AV.int .i64 z, AV.bool true]) (show 1 * (numB 0 (b.take b.length) : Int) = _ by rw [e])))
  · have h3 : b.headD 0 ≠ 48 := fun e => (of_decide_eq_false (p := ((((B b).data.toList.getD (Int.toNat 0) 0).toNat : Nat) : Int) = 48) h3) (by rw [hix, e]; rfl)
    have hgood : b.all dig = true → R = .tup [.int .i64 (1 * (numB 0 b : Int)), .bool true] := fun h => (hy (hk.1.trans (nbOk_iff.2 ⟨hb0, hb2, (fun e => absurd e h3), h⟩))).trans (congrArg (fun z => AV.tup [AV.int .i64 z, AV.bool true]) (by omega))
    refine LoopC.mk (fun i : Nat => i ≤ b.length ∧ (b.take i).all dig = true ∧ numB 0 (b.take i) < 10 ^ i) (fun i => [(0, .str (B b)), (4, .int .i64 1), (5, .int .i64 (numB 0 (b.take i))), (6, .int .i64 i)]) (fun _ => []) 0 (fun i => b.length - i) 0
      ⟨⟨by omega, rfl, Nat.one_pos⟩, [], rfl, rfl, ⟨AVle.refl _, AVle.refl _, AVle.refl _, AVle.refl _, trivial⟩, trivial⟩ ?_
    intro i hi
    obtain ⟨hi1, hi2, hi3⟩ := hi
    refine Grd.intro (fun h5 => ?_) (fun h5 => ?_)
    · have hin : i < b.length := by have h : (i : Int) < (((B b).size : Nat) : Int) := of_decide_eq_true h5; rw [B_size] at h; omega
      have hp := pow_le18 (i := i) (by omega)
      have bad : dig (ix b i) = false → R = .tup [.int .i64 0, .bool false] := fun h => hn (hno (nbOk_no (.inr (.inr (by
        rw [← Bool.not_eq_true]
        intro h'
        rw [List.all_eq_true.1 h' _ (getD_mem hin)] at h; cases h)))))
      refine And.intro ⟨by omega, by rw [B_size]; omega⟩ ?_
      refine Grd.intro (fun h6 => ?_) (fun h6 => ?_)
      · have h6 : ((ix b i).toNat : Int) < 48 := of_decide_eq_true h6
        rw [bad (decide_eq_false (by omega))]
        exact And.intro trivial (AVle.refl _)
      have h6 : ¬ ((ix b i).toNat : Int) < 48 := of_decide_eq_false h6
      refine And.intro ⟨by omega, by rw [B_size]; omega⟩ ?_
      refine Grd.intro (fun h7 => ?_) (fun h7 => ?_)
      · have h7 : (57 : Int) < ((ix b i).toNat : Int) := of_decide_eq_true h7
        rw [bad (decide_eq_false (by omega))]
        exact And.intro trivial (AVle.refl _)
      have h7 : ¬ (57 : Int) < ((ix b i).toNat : Int) := of_decide_eq_false h7
      have hd : dig (ix b i) = true := decide_eq_true (by omega)
      have hnt := numB_take hin
      refine And.intro (inI64 (by omega) (by omega)) ?_
      refine And.intro ⟨by omega, by rw [B_size]; omega⟩ ?_
      refine And.intro (show inI .i64 ((ix b i).toNat : Int) from inI64 (by omega) (by omega)) ?_
      refine And.intro (show inI .i64 ((numB 0 (b.take i) : Int) * 10 + ((ix b i).toNat : Int)) from inI64 (by omega) (by omega)) ?_
      refine And.intro (show inI .i64 ((numB 0 (b.take i) : Int) * 10 + ((ix b i).toNat : Int) - 48) from inI64 (by omega) (by omega)) ?_
      refine And.intro (inI64 (by omega) (by omega)) ?_
      refine ⟨i + 1, ⟨hin, ?_, ?_⟩, by omega, [], rfl, rfl, ⟨AVle.refl _, AVle.refl _, AVle.of_eq (congrArg (AV.int .i64) (show (numB 0 (b.take i) : Int) * 10 + ((ix b i).toNat : Int) - 48 = _ by rw [hnt]; omega)), AVle.of_eq (congrArg (AV.int .i64) (by simp)), trivial⟩, trivial⟩
      · rw [take_snoc hin, List.all_append, hi2]; simp [hd]
      · rw [hnt, Nat.pow_succ]; omega
    · have : i = b.length := by have h : ¬ (i : Int) < (((B b).size : Nat) : Int) := of_decide_eq_false h5; rw [B_size] at h; omega
      subst this
      rw [List.take_of_length_le (Nat.le_refl _)] at hi2
      have hN := numB_18 hi2 hb2
      have e : b.take b.length = b := List.take_of_length_le (Nat.le_refl _)
      refine And.intro (show inI .i64 (1 * (numB 0 (b.take b.length) : Int)) from inI64 (by rw [e]; omega) (by rw [e]; omega)) ?_
      rw [hgood hi2]
      exact And.intro trivial (AVle.of_eq (congrArg (fun z => AV.tup [AV.int .i64 z, AV.bool true]) (show 1 * (numB 0 (b.take b.length) : Int) = _ by rw [e])))
theorem l00Nil_fn : VFn Tryz.prog 146 [.str (B [])] (.tup [.int .i64 0, .bool false]) := by
  refine VFn.introC Tryz.call146 Tryz.func146 rfl rfl ?_
  exact And.intro trivial (AVle.refl _)
theorem l00Min_fn : VFn Tryz.prog 146 [.str (B [45])] (.tup [.int .i64 0, .bool false]) := by
  refine VFn.introC Tryz.call146 Tryz.func146 rfl rfl ?_
  refine And.intro ⟨by decide, by decide⟩ ?_
  refine And.intro ⟨by decide, by decide⟩ ?_
  exact And.intro trivial (AVle.refl _)
theorem l00Number_fn (t : List UInt8) (hl : t.length ≤ 1000000000) : VFn Tryz.prog 146 [.str (B t)] (.tup [.int .i64 (if numOk t = true then atoiV t else 0), .bool (numOk t)]) := by
  cases t with
  | nil => rw [show numOk [] = false by decide]; exact l00Nil_fn
  | cons c b =>
    by_cases hc : c = 45
    · subst hc
      by_cases hb : b = []
      · subst hb; rw [show numOk [45] = false by decide]; exact l00Min_fn
      · exact l00Neg_fn b (by simp at hl; omega) hb _ (fun h => by rw [h, if_pos rfl, (numOk_neg b).2 h]) (fun h => by rw [h, if_neg (by simp)])
    · exact l00Pos_fn (c :: b) hl (by simp) hc _ (fun h => by rw [h, if_pos rfl, (numOk_pos (t := c :: b) hc).2 h]) (fun h => by rw [h, if_neg (by simp)])
end Go.Proofs.YtopfpmcakoeloaaGreatDoor
