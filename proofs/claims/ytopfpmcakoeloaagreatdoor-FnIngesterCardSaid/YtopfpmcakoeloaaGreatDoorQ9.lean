/- Contracts of functions that the claim reaches, and the plain law of what they compute; each theorem bears its own conditions. -/
import Derived.Test.YtopfpmcakoeloaaGreatDoorQ8
import Derived.Test.YtopfpmcakoeloaaGreatDoorQ6
import Derived.Test.YtopfpmcakoeloaaGreatDoorQ1
import Derived.Test.YtopfpmcakoeloaaGreatDoorQ4
import Derived.WalkSmall
import Derived.Test.YtopfpmcakoeloaaGreatDoorV50
set_option linter.unusedVariables false
set_option linter.constructorNameAsVariable false
set_option linter.unusedSimpArgs false
set_option maxRecDepth 20000
namespace Go.Proofs.YtopfpmcakoeloaaGreatDoor
open Go Go.Vw

def Sta.nrow (s : Sta) : List AV := [.int .i64 s.seq, .int .i64 s.fence, .nilsl, .nilsl, .int .i64 s.l0, .int .i64 s.l1, .int .i64 s.l2, .int .i64 s.h0, .int .i64 s.h1, .int .i64 s.h2]
theorem l06Own_own (s : Sta) (hL : s.es.length ≤ 1000000) (hT : s.ts.length ≤ 1000000) : FnM Tryz.prog 113 0 [s.av] [] s.own s.objs 2 := by
  refine FnM.introC Tryz.call113 Tryz.func113 rfl rfl ?_
  refine And.intro ⟨show (0 + s.es.length) * 40 ≤ 140737488355328 by omega, fun i hi => rfl⟩ ?_
  refine And.intro ⟨show (0 + s.ts.length) * 24 ≤ 140737488355328 by omega, fun i hi => rfl⟩ ?_
  exact And.intro trivial ⟨[(3, 0), (5, 1)], rfl, AVle.refl _, ⟨MOle.arr (Nat.zero_add _) fun i hi => appRows_ge (Nat.zero_le _), MOle.arr (Nat.zero_add _) fun i hi => appRows_ge (Nat.zero_le _), trivial⟩⟩
/-- entries as nobody's own -/
theorem l06Own_mix (s : Sta) (hL : s.es.length ≤ 1000000) (hT : s.ts.length ≤ 1000000) : FnM Tryz.prog 113 0 [s.av] [] (.agg [.int .i64 s.seq, .int .i64 s.fence, ents s.es, .osl 0, .int .i64 s.l0, .int .i64 s.l1, .int .i64 s.l2, .int .i64 s.h0, .int .i64 s.h1, .int .i64 s.h2]) [(0, .arr 152 2 s.ts.length fun i => (ix s.ts i).row)] 1 := by
  refine FnM.introC Tryz.call113 Tryz.func113 rfl rfl ?_
  refine And.intro ⟨show (0 + s.es.length) * 40 ≤ 140737488355328 by omega, fun i hi => rfl⟩ ?_
  refine And.intro ⟨show (0 + s.ts.length) * 24 ≤ 140737488355328 by omega, fun i hi => rfl⟩ ?_
  refine And.intro trivial ⟨[(5, 0)], rfl, AVle.agg (AVsle.cons (AVle.refl _) (AVsle.cons (AVle.refl _) (AVsle.cons (AVle.sl (Nat.zero_add _) fun i hi => appRows_ge (Nat.zero_le _)) (AVsle.refl _)))), ⟨MOle.arr (Nat.zero_add _) fun i hi => appRows_ge (Nat.zero_le _), trivial⟩⟩
theorem specApply1 (s : Sta) (hL : s.es.length + s.ts.length < 4096) (hq : 0 ≤ s.seq ∧ s.seq < 999999) (tok f t : Int) (key : List UInt8) (hr : Rc.ok ⟨1, tok, 0, f, t, key⟩ = true) :
    FnM Tryz.prog 91 0 [s.av, (Rc.mk 1 tok 0 f t key).av] [] (.tup [(s.app ⟨1, tok, 0, f, t, key⟩).own, .bool (s.takes ⟨1, tok, 0, f, t, key⟩)]) (s.app ⟨1, tok, 0, f, t, key⟩).objs 2 := by
  have c := l06Takes_fn s (by omega) (by omega) ⟨1, tok, 0, f, t, key⟩ hr
  have hc := l06Own_own s (by omega) (by omega)
  have hm := l06Own_mix s (by omega) (by omega)
  by_cases ht : s.takes ⟨1, tok, 0, f, t, key⟩ = true
  · have ea : s.app ⟨1, tok, 0, f, t, key⟩ = ({ s.tick with es := s.es ++ [⟨0, f, t, key⟩] } : Sta).lift 0 t := by unfold Sta.app; rw [if_pos ht, if_pos (.inl rfl)]
    rw [ht] at c ⊢
    rw [ea]
    refine FnM.introC Tryz.call91 Tryz.func91 rfl rfl ?_
    conv => whnf
    refine CallC.sca _ (c) ?_ ?_
    · exact rfl
    conv => whnf
    refine CallC.k [] hc rfl rfl (AVsle.refl _) trivial rfl ?_
    refine And.intro (inI64 (by omega) (by omega)) ?_
    refine And.intro ⟨show (s.es.length + 1) * 40 ≤ 140737488355328 by omega, all1 rfl⟩ ?_
    refine And.intro ⟨show (0 : Int) ≤ 0 by omega, show (0 : Int) < ((3 : Nat) : Int) by omega⟩ ?_
    exact And.intro trivial ⟨[(6, 0), (4, 1)], rfl, AVle.refl _, ⟨arr_next (f := En.row) rfl rfl, MOle.refl _, trivial⟩⟩
  · have ht : s.takes ⟨1, tok, 0, f, t, key⟩ = false := by simpa using ht
    have ea : s.app ⟨1, tok, 0, f, t, key⟩ = s.tick := by unfold Sta.app; rw [if_neg (by rw [ht]; simp)]
    rw [ht] at c ⊢
    rw [ea]
    refine FnM.introC Tryz.call91 Tryz.func91 rfl rfl ?_
    conv => whnf
    refine CallC.sca _ (c) ?_ ?_
    · exact rfl
    conv => whnf
    refine CallC.k [] hc rfl rfl (AVsle.refl _) trivial rfl ?_
    refine And.intro (inI64 (by omega) (by omega)) ?_
    exact And.intro trivial ⟨[(3, 0), (4, 1)], rfl, AVle.refl _, ⟨MOle.refl _, MOle.refl _, trivial⟩⟩
theorem specApply3_1 (s : Sta) (hL : s.es.length + s.ts.length < 4096) (hq : 0 ≤ s.seq ∧ s.seq < 999999) (tok f t : Int) (key : List UInt8) (hr : Rc.ok ⟨3, tok, 1, f, t, key⟩ = true) :
    FnM Tryz.prog 91 0 [s.av, (Rc.mk 3 tok 1 f t key).av] [] (.tup [(s.app ⟨3, tok, 1, f, t, key⟩).own, .bool (s.takes ⟨3, tok, 1, f, t, key⟩)]) (s.app ⟨3, tok, 1, f, t, key⟩).objs 2 := by
  have c := l06Takes_fn s (by omega) (by omega) ⟨3, tok, 1, f, t, key⟩ hr
  have hc := l06Own_own s (by omega) (by omega)
  have hm := l06Own_mix s (by omega) (by omega)
  by_cases ht : s.takes ⟨3, tok, 1, f, t, key⟩ = true
  · have ea : s.app ⟨3, tok, 1, f, t, key⟩ = ({ s.tick with es := s.es ++ [⟨1, f, t, key⟩] } : Sta).lift 1 t := by unfold Sta.app; rw [if_pos ht, if_pos (.inr rfl)]
    rw [ht] at c ⊢
    rw [ea]
    refine FnM.introC Tryz.call91 Tryz.func91 rfl rfl ?_
    conv => whnf
    refine CallC.sca _ (c) ?_ ?_
    · exact rfl
    conv => whnf
    refine CallC.k [] hc rfl rfl (AVsle.refl _) trivial rfl ?_
    refine And.intro (inI64 (by omega) (by omega)) ?_
    refine And.intro ⟨show (s.es.length + 1) * 40 ≤ 140737488355328 by omega, all1 rfl⟩ ?_
    refine And.intro ⟨show (0 : Int) ≤ 1 by omega, show (1 : Int) < ((3 : Nat) : Int) by omega⟩ ?_
    exact And.intro trivial ⟨[(6, 0), (4, 1)], rfl, AVle.refl _, ⟨arr_next (f := En.row) rfl rfl, MOle.refl _, trivial⟩⟩
  · have ht : s.takes ⟨3, tok, 1, f, t, key⟩ = false := by simpa using ht
    have ea : s.app ⟨3, tok, 1, f, t, key⟩ = s.tick := by unfold Sta.app; rw [if_neg (by rw [ht]; simp)]
    rw [ht] at c ⊢
    rw [ea]
    refine FnM.introC Tryz.call91 Tryz.func91 rfl rfl ?_
    conv => whnf
    refine CallC.sca _ (c) ?_ ?_
    · exact rfl
    conv => whnf
    refine CallC.k [] hc rfl rfl (AVsle.refl _) trivial rfl ?_
    refine And.intro (inI64 (by omega) (by omega)) ?_
    exact And.intro trivial ⟨[(3, 0), (4, 1)], rfl, AVle.refl _, ⟨MOle.refl _, MOle.refl _, trivial⟩⟩
theorem specApply3_2 (s : Sta) (hL : s.es.length + s.ts.length < 4096) (hq : 0 ≤ s.seq ∧ s.seq < 999999) (tok f t : Int) (key : List UInt8) (hr : Rc.ok ⟨3, tok, 2, f, t, key⟩ = true) :
    FnM Tryz.prog 91 0 [s.av, (Rc.mk 3 tok 2 f t key).av] [] (.tup [(s.app ⟨3, tok, 2, f, t, key⟩).own, .bool (s.takes ⟨3, tok, 2, f, t, key⟩)]) (s.app ⟨3, tok, 2, f, t, key⟩).objs 2 := by
  have c := l06Takes_fn s (by omega) (by omega) ⟨3, tok, 2, f, t, key⟩ hr
  have hc := l06Own_own s (by omega) (by omega)
  have hm := l06Own_mix s (by omega) (by omega)
  by_cases ht : s.takes ⟨3, tok, 2, f, t, key⟩ = true
  · have ea : s.app ⟨3, tok, 2, f, t, key⟩ = ({ s.tick with es := s.es ++ [⟨2, f, t, key⟩] } : Sta).lift 2 t := by unfold Sta.app; rw [if_pos ht, if_pos (.inr rfl)]
    rw [ht] at c ⊢
    rw [ea]
    refine FnM.introC Tryz.call91 Tryz.func91 rfl rfl ?_
    conv => whnf
    refine CallC.sca _ (c) ?_ ?_
    · exact rfl
    conv => whnf
    refine CallC.k [] hc rfl rfl (AVsle.refl _) trivial rfl ?_
    refine And.intro (inI64 (by omega) (by omega)) ?_
    refine And.intro ⟨show (s.es.length + 1) * 40 ≤ 140737488355328 by omega, all1 rfl⟩ ?_
    refine And.intro ⟨show (0 : Int) ≤ 2 by omega, show (2 : Int) < ((3 : Nat) : Int) by omega⟩ ?_
    exact And.intro trivial ⟨[(6, 0), (4, 1)], rfl, AVle.refl _, ⟨arr_next (f := En.row) rfl rfl, MOle.refl _, trivial⟩⟩
  · have ht : s.takes ⟨3, tok, 2, f, t, key⟩ = false := by simpa using ht
    have ea : s.app ⟨3, tok, 2, f, t, key⟩ = s.tick := by unfold Sta.app; rw [if_neg (by rw [ht]; simp)]
    rw [ht] at c ⊢
    rw [ea]
    refine FnM.introC Tryz.call91 Tryz.func91 rfl rfl ?_
    conv => whnf
    refine CallC.sca _ (c) ?_ ?_
    · exact rfl
    conv => whnf
    refine CallC.k [] hc rfl rfl (AVsle.refl _) trivial rfl ?_
    refine And.intro (inI64 (by omega) (by omega)) ?_
    exact And.intro trivial ⟨[(3, 0), (4, 1)], rfl, AVle.refl _, ⟨MOle.refl _, MOle.refl _, trivial⟩⟩
theorem specApply2 (s : Sta) (hL : s.es.length + s.ts.length < 4096) (hq : 0 ≤ s.seq ∧ s.seq < 999999) (tok tier f t : Int) (key : List UInt8) (hr : Rc.ok ⟨2, tok, tier, f, t, key⟩ = true) :
    FnM Tryz.prog 91 0 [s.av, (Rc.mk 2 tok tier f t key).av] [] (.tup [(s.app ⟨2, tok, tier, f, t, key⟩).own, .bool (s.takes ⟨2, tok, tier, f, t, key⟩)]) (s.app ⟨2, tok, tier, f, t, key⟩).objs 2 := by
  have c := l06Takes_fn s (by omega) (by omega) ⟨2, tok, tier, f, t, key⟩ hr
  have hc := l06Own_own s (by omega) (by omega)
  have hm := l06Own_mix s (by omega) (by omega)
  by_cases ht : s.takes ⟨2, tok, tier, f, t, key⟩ = true
  · have ea : s.app ⟨2, tok, tier, f, t, key⟩ = { s.tick with fence := tok } := by unfold Sta.app; rw [if_pos ht, if_neg (show ¬ ((2 : Int) = 1 ∨ (2 : Int) = 3) by decide), if_pos rfl]
    rw [ht] at c ⊢
    rw [ea]
    refine FnM.introC Tryz.call91 Tryz.func91 rfl rfl ?_
    conv => whnf
    refine CallC.sca _ (c) ?_ ?_
    · exact rfl
    conv => whnf
    refine CallC.k [] hc rfl rfl (AVsle.refl _) trivial rfl ?_
    refine And.intro (inI64 (by omega) (by omega)) ?_
    exact And.intro trivial ⟨[(3, 0), (4, 1)], rfl, AVle.refl _, ⟨MOle.refl _, MOle.refl _, trivial⟩⟩
  · have ht : s.takes ⟨2, tok, tier, f, t, key⟩ = false := by simpa using ht
    have ea : s.app ⟨2, tok, tier, f, t, key⟩ = s.tick := by unfold Sta.app; rw [if_neg (by rw [ht]; simp)]
    rw [ht] at c ⊢
    rw [ea]
    refine FnM.introC Tryz.call91 Tryz.func91 rfl rfl ?_
    conv => whnf
    refine CallC.sca _ (c) ?_ ?_
    · exact rfl
    conv => whnf
    refine CallC.k [] hc rfl rfl (AVsle.refl _) trivial rfl ?_
    refine And.intro (inI64 (by omega) (by omega)) ?_
    exact And.intro trivial ⟨[(3, 0), (4, 1)], rfl, AVle.refl _, ⟨MOle.refl _, MOle.refl _, trivial⟩⟩
/-- the first of a tier -/
theorem first_at {s : Sta} {k : Int} {e : En} (h : headIs (ofT s.es k) e = true) : ∃ i : Nat, i < s.es.length ∧ fi (fun x : En => decide (x.tier = k)) s.es = (i : Int) ∧ ix s.es i = e := by
  rcases fi_filter (fun x : En => decide (x.tier = k)) s.es with ⟨h1, h2⟩ | ⟨i, hi, h1, r, h2⟩
  · rw [show ofT s.es k = [] from h2] at h; cases h
  · rw [show ofT s.es k = ix s.es i :: r from h2] at h
    exact ⟨i, hi, h1, of_decide_eq_true h⟩
theorem cut_rows {α : Type} [Inhabited α] {f : α → List AV} {L : List α} {i q : Nat} (hi : i < L.length) (hq : q = i + 1) {M : List α} (hM : L.take i ++ L.drop (i + 1) = M) {r0 : Nat → List AV} {n1 : Nat} (hn : n1 = i) :
    ∀ j, j < M.length → appRows n1 (appRows 0 r0 fun j => f (ix L j)) (fun j => f (ix L (q + j))) j = f (ix M j) := by
  subst hM hq hn
  refine app_rows (f := f) (by simp; omega) (fun j hj => ?_) fun j hj => ?_
  · rw [appRows_ge (Nat.zero_le _), Nat.sub_zero, ix_take (by simp at hj; omega)]
  · rw [ix_drop]
theorem specApply4_0 (s : Sta) (hL : s.es.length + s.ts.length < 4096) (hq : 0 ≤ s.seq ∧ s.seq < 999999) (tok f t : Int) (key : List UInt8) (hr : Rc.ok ⟨4, tok, 0, f, t, key⟩ = true) (nd : (s.es.map (·.key)).Nodup) :
    FnM Tryz.prog 91 0 [s.av, (Rc.mk 4 tok 0 f t key).av] [] (.tup [(s.app ⟨4, tok, 0, f, t, key⟩).own, .bool (s.takes ⟨4, tok, 0, f, t, key⟩)]) (s.app ⟨4, tok, 0, f, t, key⟩).objs 2 := by
  have c := l06Takes_fn s (by omega) (by omega) ⟨4, tok, 0, f, t, key⟩ hr
  have hc := l06Own_own s (by omega) (by omega)
  have hm := l06Own_mix s (by omega) (by omega)
  by_cases ht : s.takes ⟨4, tok, 0, f, t, key⟩ = true
  · have ea : s.app ⟨4, tok, 0, f, t, key⟩ = ({ s.tick with es := noE key s.es, ts := s.ts ++ [⟨s.seq + 1, key⟩] } : Sta).lower 0 t := by unfold Sta.app; rw [if_pos ht, if_neg (show ¬ ((4 : Int) = 1 ∨ (4 : Int) = 3) by decide), if_neg (show ¬ (4 : Int) = 2 by decide), if_pos rfl]
    obtain ⟨i, hi, hfi, hix⟩ := first_at (takes_4 ht rfl)
    have hcut : s.es.take i ++ s.es.drop (i + 1) = noE key s.es := by rw [noE_cut hi nd, hix]
    have hlen : (noE key s.es).length = i + (s.es.length - (i + 1)) := by rw [← hcut]; simp; omega
    rw [ht] at c ⊢
    rw [ea]
    refine FnM.introC Tryz.call91 Tryz.func91 rfl rfl ?_
    conv => whnf
    refine CallC.sca _ (c) ?_ ?_
    · exact rfl
    conv => whnf
    refine CallC.k [] hm rfl rfl (AVsle.refl _) trivial rfl ?_
    refine And.intro (inI64 (by omega) (by omega)) ?_
    have cf := l06First_fn { s with seq := s.seq + 1 } (by show s.es.length ≤ _; omega) 0
    rw [show fi (fun e : En => decide (e.tier = 0)) ({ s with seq := s.seq + 1 } : Sta).es = (i : Int) from hfi] at cf
    conv => whnf
    refine CallC.sca _ (cf) ?_ ?_
    · exact rfl
    refine DrawC.mkK 11 [(.inr 0, 5)] rfl (by kernel_rfl) ?_
    refine And.intro rfl ?_
    conv => whnf
    refine And.intro ⟨by omega, by omega⟩ ?_
    conv => whnf
    refine And.intro ⟨show (0 + ((i : Nat) : Int).toNat) * 40 ≤ 140737488355328 by omega, fun i hi => rfl⟩ ?_
    conv => whnf
    refine And.intro (inI64 (by omega) (by omega)) ?_
    conv => whnf
    refine And.intro ⟨by omega, by omega⟩ ?_
    conv => whnf
    refine And.intro ⟨show (0 + ((i : Nat) : Int).toNat + (s.es.length - (((i : Nat) : Int) + 1).toNat)) * 40 ≤ 140737488355328 by omega, fun i hi => rfl⟩ ?_
    refine And.intro ⟨show (s.ts.length + 1) * 24 ≤ 140737488355328 by omega, all1 rfl⟩ ?_
    refine And.intro ⟨show (0 : Int) ≤ 0 by omega, show (0 : Int) < ((3 : Nat) : Int) by omega⟩ ?_
    exact And.intro trivial ⟨[(15, 0), (17, 1)], rfl, AVle.refl _, ⟨MOle.arr (show 0 + ((i : Nat) : Int).toNat + (s.es.length - (((i : Nat) : Int) + 1).toNat) = (noE key s.es).length by omega) fun j hj => cut_rows hi (show (((i : Nat) : Int) + 1).toNat = i + 1 by omega) hcut (show 0 + ((i : Nat) : Int).toNat = i by omega) j (by have hj' : j < 0 + ((i : Nat) : Int).toNat + (s.es.length - (((i : Nat) : Int) + 1).toNat) := hj; omega), arr_next (f := Tb.row) rfl rfl, trivial⟩⟩
  · have ht : s.takes ⟨4, tok, 0, f, t, key⟩ = false := by simpa using ht
    have ea : s.app ⟨4, tok, 0, f, t, key⟩ = s.tick := by unfold Sta.app; rw [if_neg (by rw [ht]; simp)]
    rw [ht] at c ⊢
    rw [ea]
    refine FnM.introC Tryz.call91 Tryz.func91 rfl rfl ?_
    conv => whnf
    refine CallC.sca _ (c) ?_ ?_
    · exact rfl
    conv => whnf
    refine CallC.k [] hc rfl rfl (AVsle.refl _) trivial rfl ?_
    refine And.intro (inI64 (by omega) (by omega)) ?_
    exact And.intro trivial ⟨[(3, 0), (4, 1)], rfl, AVle.refl _, ⟨MOle.refl _, MOle.refl _, trivial⟩⟩
theorem specApply4_1 (s : Sta) (hL : s.es.length + s.ts.length < 4096) (hq : 0 ≤ s.seq ∧ s.seq < 999999) (tok f t : Int) (key : List UInt8) (hr : Rc.ok ⟨4, tok, 1, f, t, key⟩ = true) (nd : (s.es.map (·.key)).Nodup) :
    FnM Tryz.prog 91 0 [s.av, (Rc.mk 4 tok 1 f t key).av] [] (.tup [(s.app ⟨4, tok, 1, f, t, key⟩).own, .bool (s.takes ⟨4, tok, 1, f, t, key⟩)]) (s.app ⟨4, tok, 1, f, t, key⟩).objs 2 := by
  have c := l06Takes_fn s (by omega) (by omega) ⟨4, tok, 1, f, t, key⟩ hr
  have hc := l06Own_own s (by omega) (by omega)
  have hm := l06Own_mix s (by omega) (by omega)
  by_cases ht : s.takes ⟨4, tok, 1, f, t, key⟩ = true
  · have ea : s.app ⟨4, tok, 1, f, t, key⟩ = ({ s.tick with es := noE key s.es, ts := s.ts ++ [⟨s.seq + 1, key⟩] } : Sta).lower 1 t := by unfold Sta.app; rw [if_pos ht, if_neg (show ¬ ((4 : Int) = 1 ∨ (4 : Int) = 3) by decide), if_neg (show ¬ (4 : Int) = 2 by decide), if_pos rfl]
    obtain ⟨i, hi, hfi, hix⟩ := first_at (takes_4 ht rfl)
    have hcut : s.es.take i ++ s.es.drop (i + 1) = noE key s.es := by rw [noE_cut hi nd, hix]
    have hlen : (noE key s.es).length = i + (s.es.length - (i + 1)) := by rw [← hcut]; simp; omega
    rw [ht] at c ⊢
    rw [ea]
    refine FnM.introC Tryz.call91 Tryz.func91 rfl rfl ?_
    conv => whnf
    refine CallC.sca _ (c) ?_ ?_
    · exact rfl
    conv => whnf
    refine CallC.k [] hm rfl rfl (AVsle.refl _) trivial rfl ?_
    refine And.intro (inI64 (by omega) (by omega)) ?_
    have cf := l06First_fn { s with seq := s.seq + 1 } (by show s.es.length ≤ _; omega) 1
    rw [show fi (fun e : En => decide (e.tier = 1)) ({ s with seq := s.seq + 1 } : Sta).es = (i : Int) from hfi] at cf
    conv => whnf
    refine CallC.sca _ (cf) ?_ ?_
    · exact rfl
    refine DrawC.mkK 11 [(.inr 0, 5)] rfl (by kernel_rfl) ?_
    refine And.intro rfl ?_
    conv => whnf
    refine And.intro ⟨by omega, by omega⟩ ?_
    conv => whnf
    refine And.intro ⟨show (0 + ((i : Nat) : Int).toNat) * 40 ≤ 140737488355328 by omega, fun i hi => rfl⟩ ?_
    conv => whnf
    refine And.intro (inI64 (by omega) (by omega)) ?_
    conv => whnf
    refine And.intro ⟨by omega, by omega⟩ ?_
    conv => whnf
    refine And.intro ⟨show (0 + ((i : Nat) : Int).toNat + (s.es.length - (((i : Nat) : Int) + 1).toNat)) * 40 ≤ 140737488355328 by omega, fun i hi => rfl⟩ ?_
    refine And.intro ⟨show (s.ts.length + 1) * 24 ≤ 140737488355328 by omega, all1 rfl⟩ ?_
    refine And.intro ⟨show (0 : Int) ≤ 1 by omega, show (1 : Int) < ((3 : Nat) : Int) by omega⟩ ?_
    exact And.intro trivial ⟨[(15, 0), (17, 1)], rfl, AVle.refl _, ⟨MOle.arr (show 0 + ((i : Nat) : Int).toNat + (s.es.length - (((i : Nat) : Int) + 1).toNat) = (noE key s.es).length by omega) fun j hj => cut_rows hi (show (((i : Nat) : Int) + 1).toNat = i + 1 by omega) hcut (show 0 + ((i : Nat) : Int).toNat = i by omega) j (by have hj' : j < 0 + ((i : Nat) : Int).toNat + (s.es.length - (((i : Nat) : Int) + 1).toNat) := hj; omega), arr_next (f := Tb.row) rfl rfl, trivial⟩⟩
  · have ht : s.takes ⟨4, tok, 1, f, t, key⟩ = false := by simpa using ht
    have ea : s.app ⟨4, tok, 1, f, t, key⟩ = s.tick := by unfold Sta.app; rw [if_neg (by rw [ht]; simp)]
    rw [ht] at c ⊢
    rw [ea]
    refine FnM.introC Tryz.call91 Tryz.func91 rfl rfl ?_
    conv => whnf
    refine CallC.sca _ (c) ?_ ?_
    · exact rfl
    conv => whnf
    refine CallC.k [] hc rfl rfl (AVsle.refl _) trivial rfl ?_
    refine And.intro (inI64 (by omega) (by omega)) ?_
    exact And.intro trivial ⟨[(3, 0), (4, 1)], rfl, AVle.refl _, ⟨MOle.refl _, MOle.refl _, trivial⟩⟩
theorem specApply4_2 (s : Sta) (hL : s.es.length + s.ts.length < 4096) (hq : 0 ≤ s.seq ∧ s.seq < 999999) (tok f t : Int) (key : List UInt8) (hr : Rc.ok ⟨4, tok, 2, f, t, key⟩ = true) (nd : (s.es.map (·.key)).Nodup) :
    FnM Tryz.prog 91 0 [s.av, (Rc.mk 4 tok 2 f t key).av] [] (.tup [(s.app ⟨4, tok, 2, f, t, key⟩).own, .bool (s.takes ⟨4, tok, 2, f, t, key⟩)]) (s.app ⟨4, tok, 2, f, t, key⟩).objs 2 := by
  have c := l06Takes_fn s (by omega) (by omega) ⟨4, tok, 2, f, t, key⟩ hr
  have hc := l06Own_own s (by omega) (by omega)
  have hm := l06Own_mix s (by omega) (by omega)
  by_cases ht : s.takes ⟨4, tok, 2, f, t, key⟩ = true
  · have ea : s.app ⟨4, tok, 2, f, t, key⟩ = ({ s.tick with es := noE key s.es, ts := s.ts ++ [⟨s.seq + 1, key⟩] } : Sta).lower 2 t := by unfold Sta.app; rw [if_pos ht, if_neg (show ¬ ((4 : Int) = 1 ∨ (4 : Int) = 3) by decide), if_neg (show ¬ (4 : Int) = 2 by decide), if_pos rfl]
    obtain ⟨i, hi, hfi, hix⟩ := first_at (takes_4 ht rfl)
    have hcut : s.es.take i ++ s.es.drop (i + 1) = noE key s.es := by rw [noE_cut hi nd, hix]
    have hlen : (noE key s.es).length = i + (s.es.length - (i + 1)) := by rw [← hcut]; simp; omega
    rw [ht] at c ⊢
    rw [ea]
    refine FnM.introC Tryz.call91 Tryz.func91 rfl rfl ?_
    conv => whnf
    refine CallC.sca _ (c) ?_ ?_
    · exact rfl
    conv => whnf
    refine CallC.k [] hm rfl rfl (AVsle.refl _) trivial rfl ?_
    refine And.intro (inI64 (by omega) (by omega)) ?_
    have cf := l06First_fn { s with seq := s.seq + 1 } (by show s.es.length ≤ _; omega) 2
    rw [show fi (fun e : En => decide (e.tier = 2)) ({ s with seq := s.seq + 1 } : Sta).es = (i : Int) from hfi] at cf
    conv => whnf
    refine CallC.sca _ (cf) ?_ ?_
    · exact rfl
    refine DrawC.mkK 11 [(.inr 0, 5)] rfl (by kernel_rfl) ?_
    refine And.intro rfl ?_
    conv => whnf
    refine And.intro ⟨by omega, by omega⟩ ?_
    conv => whnf
    refine And.intro ⟨show (0 + ((i : Nat) : Int).toNat) * 40 ≤ 140737488355328 by omega, fun i hi => rfl⟩ ?_
    conv => whnf
    refine And.intro (inI64 (by omega) (by omega)) ?_
    conv => whnf
    refine And.intro ⟨by omega, by omega⟩ ?_
    conv => whnf
    refine And.intro ⟨show (0 + ((i : Nat) : Int).toNat + (s.es.length - (((i : Nat) : Int) + 1).toNat)) * 40 ≤ 140737488355328 by omega, fun i hi => rfl⟩ ?_
    refine And.intro ⟨show (s.ts.length + 1) * 24 ≤ 140737488355328 by omega, all1 rfl⟩ ?_
    refine And.intro ⟨show (0 : Int) ≤ 2 by omega, show (2 : Int) < ((3 : Nat) : Int) by omega⟩ ?_
    exact And.intro trivial ⟨[(15, 0), (17, 1)], rfl, AVle.refl _, ⟨MOle.arr (show 0 + ((i : Nat) : Int).toNat + (s.es.length - (((i : Nat) : Int) + 1).toNat) = (noE key s.es).length by omega) fun j hj => cut_rows hi (show (((i : Nat) : Int) + 1).toNat = i + 1 by omega) hcut (show 0 + ((i : Nat) : Int).toNat = i by omega) j (by have hj' : j < 0 + ((i : Nat) : Int).toNat + (s.es.length - (((i : Nat) : Int) + 1).toNat) := hj; omega), arr_next (f := Tb.row) rfl rfl, trivial⟩⟩
  · have ht : s.takes ⟨4, tok, 2, f, t, key⟩ = false := by simpa using ht
    have ea : s.app ⟨4, tok, 2, f, t, key⟩ = s.tick := by unfold Sta.app; rw [if_neg (by rw [ht]; simp)]
    rw [ht] at c ⊢
    rw [ea]
    refine FnM.introC Tryz.call91 Tryz.func91 rfl rfl ?_
    conv => whnf
    refine CallC.sca _ (c) ?_ ?_
    · exact rfl
    conv => whnf
    refine CallC.k [] hc rfl rfl (AVsle.refl _) trivial rfl ?_
    refine And.intro (inI64 (by omega) (by omega)) ?_
    exact And.intro trivial ⟨[(3, 0), (4, 1)], rfl, AVle.refl _, ⟨MOle.refl _, MOle.refl _, trivial⟩⟩
theorem specApply5 (s : Sta) (hL : s.es.length + s.ts.length < 4096) (hq : 0 ≤ s.seq ∧ s.seq < 999999) (tok tier f t : Int) (key : List UInt8) (hr : Rc.ok ⟨5, tok, tier, f, t, key⟩ = true) :
    FnM Tryz.prog 91 0 [s.av, (Rc.mk 5 tok tier f t key).av] [] (.tup [(s.app ⟨5, tok, tier, f, t, key⟩).own, .bool (s.takes ⟨5, tok, tier, f, t, key⟩)]) (s.app ⟨5, tok, tier, f, t, key⟩).objs 2 := by
  have c := l06Takes_fn s (by omega) (by omega) ⟨5, tok, tier, f, t, key⟩ hr
  have hc := l06Own_own s (by omega) (by omega)
  have hm := l06Own_mix s (by omega) (by omega)
  by_cases ht : s.takes ⟨5, tok, tier, f, t, key⟩ = true
  · have ea : s.app ⟨5, tok, tier, f, t, key⟩ = { s.tick with ts := noT key s.ts } := by unfold Sta.app; rw [if_pos ht, if_neg (show ¬ ((5 : Int) = 1 ∨ (5 : Int) = 3) by decide), if_neg (show ¬ (5 : Int) = 2 by decide), if_neg (show ¬ (5 : Int) = 4 by decide)]
    rw [ht] at c ⊢
    rw [ea]
    refine FnM.introC Tryz.call91 Tryz.func91 rfl rfl ?_
    conv => whnf
    refine CallC.sca _ (c) ?_ ?_
    · exact rfl
    conv => whnf
    refine CallC.k [] hc rfl rfl (AVsle.refl _) trivial rfl ?_
    refine And.intro (inI64 (by omega) (by omega)) ?_
    have hle : ∀ i, (noT key (s.ts.take i)).length ≤ i := fun i => Nat.le_trans (noT_len key _) (by simp; omega)
    refine LoopC.mk (fun i : Nat => i ≤ s.ts.length) (fun i => [(2, .bptr 0 0), (3, .bptr 1 0), (4, .bptr 2 0), (8, .osl 5), (9, .int .i64 i)])
      (fun i => [(0, .box [.int .i64 (s.seq + 1), .int .i64 s.fence, .osl 3, .osl 4, .int .i64 s.l0, .int .i64 s.l1, .int .i64 s.l2, .int .i64 s.h0, .int .i64 s.h1, .int .i64 s.h2]), (1, .box (Rc.mk 5 tok tier f t key).row), (2, .box sta0.nrow), (3, .arr 149 4 s.es.length fun i => (ix s.es i).row), (4, .arr 152 2 s.ts.length fun i => (ix s.ts i).row), (5, .arr 152 2 (noT key (s.ts.take i)).length fun j => (ix (noT key (s.ts.take i)) j).row)]) 6 (fun i => s.ts.length - i) 0
      ⟨Nat.zero_le _, [(0, 0), (1, 1), (2, 2), (3, 3), (4, 4), (5, 5)], rfl, rfl, ⟨AVle.refl _, AVle.refl _, AVle.refl _, AVle.refl _, AVle.refl _, trivial⟩, ⟨MOle.refl _, MOle.refl _, MOle.refl _, MOle.refl _, MOle.refl _, MOle.arr rfl fun i hi => absurd hi (Nat.not_lt_zero i), trivial⟩⟩ ?_
    intro i hi
    refine Grd.intro (fun h2 => ?_) (fun h2 => ?_)
    · have hin : i < s.ts.length := by have := of_decide_eq_true h2; omega
      have hsn : noT key (s.ts.take (i + 1)) = _ := filter_snoc (p := fun e : Tb => !decide (e.key = key)) hin
      refine DrawC.mk 9 rfl (by kernel_rfl) ?_
      refine And.intro (by omega) ?_
      refine Grd.intro (fun h3 => ?_) (fun h3 => ?_)
      · have h3 : (!((B (ix s.ts i).key).toList == (B key).toList)) = true := h3
        rw [B_eq] at h3
        rw [if_pos h3] at hsn
        have := hle i
        refine And.intro (by omega) ?_
        refine And.intro ⟨show ((noT key (s.ts.take i)).length + 1) * 24 ≤ 140737488355328 by omega, all1 rfl⟩ ?_
        refine And.intro (inI64 (by omega) (by omega)) ?_
        refine ⟨i + 1, hin, by omega, [(0, 0), (1, 1), (2, 2), (3, 3), (4, 4), (16, 5)], rfl, rfl, ⟨AVle.refl _, AVle.refl _, AVle.refl _, AVle.refl _, AVle.of_eq (congrArg (AV.int .i64) (by simp)), trivial⟩, ⟨MOle.refl _, MOle.refl _, MOle.refl _, MOle.refl _, MOle.refl _, arr_next (f := Tb.row) hsn rfl, trivial⟩⟩
      · have h3 : (!((B (ix s.ts i).key).toList == (B key).toList)) = false := h3
        rw [B_eq] at h3
        rw [if_neg (by rw [h3]; simp)] at hsn
        refine And.intro (inI64 (by omega) (by omega)) ?_
        refine ⟨i + 1, hin, by omega, [(0, 0), (1, 1), (2, 2), (3, 3), (4, 4), (5, 5)], rfl, rfl, ⟨AVle.refl _, AVle.refl _, AVle.refl _, AVle.refl _, AVle.of_eq (congrArg (AV.int .i64) (by simp)), trivial⟩, ⟨MOle.refl _, MOle.refl _, MOle.refl _, MOle.refl _, MOle.refl _, MOle.of_eq (show MO.arr 152 2 (noT key (s.ts.take i)).length (fun j => (ix (noT key (s.ts.take i)) j).row) = _ by rw [hsn]; rfl), trivial⟩⟩
    · have : i = s.ts.length := by have := of_decide_eq_false h2; omega
      subst this
      have eT : noT key (s.ts.take s.ts.length) = noT key s.ts := by rw [List.take_of_length_le (Nat.le_refl _)]
      exact And.intro trivial ⟨[(3, 0), (5, 1)], rfl, AVle.refl _, ⟨MOle.refl _, MOle.of_eq (show MO.arr 152 2 (noT key (s.ts.take s.ts.length)).length (fun j => (ix (noT key (s.ts.take s.ts.length)) j).row) = _ by rw [eT]), trivial⟩⟩
  · have ht : s.takes ⟨5, tok, tier, f, t, key⟩ = false := by simpa using ht
    have ea : s.app ⟨5, tok, tier, f, t, key⟩ = s.tick := by unfold Sta.app; rw [if_neg (by rw [ht]; simp)]
    rw [ht] at c ⊢
    rw [ea]
    refine FnM.introC Tryz.call91 Tryz.func91 rfl rfl ?_
    conv => whnf
    refine CallC.sca _ (c) ?_ ?_
    · exact rfl
    conv => whnf
    refine CallC.k [] hc rfl rfl (AVsle.refl _) trivial rfl ?_
    refine And.intro (inI64 (by omega) (by omega)) ?_
    exact And.intro trivial ⟨[(3, 0), (4, 1)], rfl, AVle.refl _, ⟨MOle.refl _, MOle.refl _, trivial⟩⟩
theorem l06Apply_own (s : Sta) (hL : s.es.length + s.ts.length < 4096) (hq : 0 ≤ s.seq ∧ s.seq < 999999) (nd : s.keys.Nodup) (r : Rc) (hr : r.ok = true) :
    FnM Tryz.prog 91 0 [s.av, r.av] [] (.tup [(s.app r).own, .bool (s.takes r)]) (s.app r).objs 2 := by
  have nde : (s.es.map (·.key)).Nodup := (List.nodup_append.1 nd).1
  obtain ⟨k, tok, tier, f, t, key⟩ := r
  rcases kinds hr with ⟨rfl, rfl⟩ | rfl | ⟨rfl, h, hf⟩ | ⟨rfl, h⟩ | rfl
  · exact specApply1 s hL hq tok f t key hr
  · exact specApply2 s hL hq tok tier f t key hr
  · rcases h with rfl | rfl
    · exact specApply3_1 s hL hq tok f t key hr
    · exact specApply3_2 s hL hq tok f t key hr
  · rcases h with rfl | rfl | rfl
    · exact specApply4_0 s hL hq tok f t key hr nde
    · exact specApply4_1 s hL hq tok f t key hr nde
    · exact specApply4_2 s hL hq tok f t key hr nde
  · exact specApply5 s hL hq tok tier f t key hr
theorem l06Apply_fn (s : Sta) (hL : s.es.length + s.ts.length < 4096) (hq : 0 ≤ s.seq ∧ s.seq < 999999) (nd : s.keys.Nodup) (r : Rc) (hr : r.ok = true) : VFn Tryz.prog 91 [s.av, r.av] (.tup [(s.app r).av, .bool (s.takes r)]) := (l06Apply_own s hL hq nd r hr).vfn
end Go.Proofs.YtopfpmcakoeloaaGreatDoor
set_option linter.unusedVariables false
set_option linter.constructorNameAsVariable false
set_option linter.unusedSimpArgs false
set_option maxRecDepth 20000
namespace Go.Proofs.YtopfpmcakoeloaaGreatDoor
open Go Go.Vw

theorem Cut_fn (s : List UInt8) (c : UInt8) (hl : s.length ≤ 1000000000) : VFn Tryz.prog 131 [.str (B s), .str (B [c])] (.tup [.str (B (Lib.cut s [c]).1), .str (B (Lib.cut s [c]).2.1), .bool (Lib.cut s [c]).2.2]) := by
  refine VFn.lib Tryz.call131 fun w ok vs hJ hok hv => ?_
  obtain ⟨v, us, rfl, hv, v2, us2, rfl, hv2, hus⟩ := hv
  have e1 : v = .string (B s) := hv
  have e2 : v2 = .string (B [c]) := hv2
  have e3 : us2 = [] := hus
  subst e1 e2 e3
  obtain ⟨mv, hmv⟩ := tab_maxlen hJ
  refine (Tryz.strings_Cut (B s) (B [c]) mv w (by rw [B_size]; omega) hmv).mono ?_
  rintro e w' ⟨rfl, n, rfl⟩
  refine ⟨_, rfl, ⟨rfl, rfl, rfl, Nat.le_refl _, fun _ _ => rfl⟩, fun _ _ => ⟨[_, _, _], rfl, _, _, rfl, ?_, _, _, rfl, ?_, _, _, rfl, ?_, rfl⟩⟩
  · show Value.string _ = _
    rw [B_data, B_data]; rfl
  · show Value.string _ = _
    rw [B_data, B_data]; rfl
  · show Value.bool _ = _
    rw [B_data, B_data]
theorem cut_none {s : List UInt8} {c : UInt8} (h : ∀ x ∈ s, x ≠ c) : Lib.cut s [c] = (s, [], false) := by
  unfold Lib.cut; rw [index_none c s h]; rfl
theorem cut_at {a b : List UInt8} {c : UInt8} (h : ∀ x ∈ a, x ≠ c) : Lib.cut (a ++ c :: b) [c] = (a, b, true) := by
  unfold Lib.cut; rw [index_at c a b h]
  rw [if_pos (by omega)]
  simp
theorem readRecord_none (t : List UInt8) (hl : t.length ≤ 1000000) (h : ∀ x ∈ t, x ≠ 32) : VFn Tryz.prog 117 [.str (B t)] (.tup [(default : Rc).av, .bool false]) := by
  have c := Cut_fn t 32 (by omega)
  rw [cut_none h] at c
  refine VFn.introC Tryz.call117 Tryz.func117 rfl rfl ?_
  conv => whnf
  refine CallC.sca _ (c) ?_ ?_
  · exact rfl
  cases hn : numsK 44 5 t with
  | none =>
    conv => whnf
    refine CallC.nl _ (numbers_no t 44 5 (by omega) (by decide) hn) ?_ ?_
    · exact rfl
    exact And.intro trivial (AVle.refl _)
  | some N =>
    conv => whnf
    refine CallC.nl _ (numbers_yes t 44 5 (by omega) (by decide) hn) ?_ ?_
    · exact rfl
    exact And.intro trivial (AVle.refl _)
theorem readRecord_cut (a b : List UInt8) (hl : (a ++ 32 :: b).length ≤ 1000000) (ha : ∀ x ∈ a, x ≠ 32) : (∀ k tok tier f e, numsK 44 5 a = some [k, tok, tier, f, e] → VFn Tryz.prog 117 [.str (B (a ++ 32 :: b))] (.tup [(Rc.mk k tok tier f e b).av, .bool (Rc.ok ⟨k, tok, tier, f, e, b⟩)])) ∧
    (numsK 44 5 a = none → VFn Tryz.prog 117 [.str (B (a ++ 32 :: b))] (.tup [(default : Rc).av, .bool false])) := by
  have c := Cut_fn (a ++ 32 :: b) 32 (by omega)
  rw [cut_at ha] at c
  have hal : a.length ≤ 1000000 := by rw [List.length_append] at hl; omega
  constructor
  · intro k tok tier f e hn
    have ct := RecordOK_fn ⟨k, tok, tier, f, e, b⟩
    refine VFn.introC Tryz.call117 Tryz.func117 rfl rfl ?_
    conv => whnf
    refine CallC.sca _ (c) ?_ ?_
    · exact rfl
    conv => whnf
    refine CallC.nl _ (numbers_yes a 44 5 (by omega) (by decide) hn) ?_ ?_
    · exact rfl
    refine DrawC.mkK 19 [(.inr 17, 18)] rfl (by kernel_rfl) ?_
    refine And.intro rfl ?_
    refine And.intro ⟨by decide, show (0 : Int) < 5 by decide⟩ ?_
    refine And.intro ⟨by decide, show (1 : Int) < 5 by decide⟩ ?_
    refine And.intro ⟨by decide, show (2 : Int) < 5 by decide⟩ ?_
    refine And.intro ⟨by decide, show (3 : Int) < 5 by decide⟩ ?_
    refine And.intro ⟨by decide, show (4 : Int) < 5 by decide⟩ ?_
    refine DrawC.mkK 5 [(.inl 0, 3)] rfl (by kernel_rfl) ?_
    refine And.intro rfl ?_
    conv => whnf
    refine PCallK.sca _ (ct) rfl ?_
    exact And.intro trivial (AVle.refl _)
  · intro hn
    refine VFn.introC Tryz.call117 Tryz.func117 rfl rfl ?_
    conv => whnf
    refine CallC.sca _ (c) ?_ ?_
    · exact rfl
    conv => whnf
    refine CallC.nl _ (numbers_no a 44 5 (by omega) (by decide) hn) ?_ ?_
    · exact rfl
    exact And.intro trivial (AVle.refl _)
theorem readRecord_yes (t : List UInt8) (hl : t.length ≤ 1000000) {r : Rc} (h : readR t = some r) : VFn Tryz.prog 117 [.str (B t)] (.tup [r.av, .bool true]) := by
  rcases first_c 32 t with h1 | ⟨a, b, rfl, ha⟩
  · rw [readR_none h1] at h; cases h
  · obtain ⟨r1, r2⟩ := readR_at (b := b) ha
    obtain ⟨c1, c2⟩ := readRecord_cut a b hl ha
    cases hn : numsK 44 5 a with
    | none => rw [r2 hn] at h; cases h
    | some N =>
      obtain ⟨k, tok, tier, f, e, rfl⟩ := nums5 hn
      rw [r1 _ _ _ _ _ hn] at h
      split at h
      · rename_i hok
        cases h
        have := c1 _ _ _ _ _ hn
        rw [hok] at this; exact this
      · cases h
theorem readRecord_no (t : List UInt8) (hl : t.length ≤ 1000000) (h : readR t = none) : ∃ r : Rc, VFn Tryz.prog 117 [.str (B t)] (.tup [r.av, .bool false]) := by
  rcases first_c 32 t with h1 | ⟨a, b, rfl, ha⟩
  · exact ⟨_, readRecord_none t hl h1⟩
  · obtain ⟨r1, r2⟩ := readR_at (b := b) ha
    obtain ⟨c1, c2⟩ := readRecord_cut a b hl ha
    cases hn : numsK 44 5 a with
    | none => exact ⟨_, c2 hn⟩
    | some N =>
      obtain ⟨k, tok, tier, f, e, rfl⟩ := nums5 hn
      rw [r1 _ _ _ _ _ hn] at h
      split at h
      · cases h
      · rename_i hok
        have := c1 _ _ _ _ _ hn
        rw [show Rc.ok ⟨k, tok, tier, f, e, b⟩ = false by simpa using hok] at this
        exact ⟨_, this⟩
theorem l06Read_gen (t : List UInt8) (hl : t.length ≤ 1000000) (R : AV) (hy : ∀ r, readR t = some r → R = .tup [r.av, .bool true]) (hn : readR t = none → R = .tup [(default : Rc).av, .bool false]) : VFn Tryz.prog 90 [.str (B t)] R := by
  have cc := l00Cut_fn t 32 (by omega)
  have hpl : ∀ x ∈ cutP 32 [] t, x.length ≤ t.length := fun x hx => by have := cutP_piece 32 t [] x hx; simpa using this
  have hR : readR t = readP (cutP 32 [] t) := rfl
  generalize cutP 32 [] t = P at cc hpl hR
  by_cases h2 : P.length = 2
  case neg =>
    have hr : readR t = none := by
      match P, h2 with
      | [], _ => exact hR
      | [_], _ => exact hR
      | [_, _], h => exact absurd rfl h
      | _ :: _ :: _ :: _, _ => exact hR
    rw [hn hr]
    refine VFn.introC Tryz.call90 Tryz.func90 rfl rfl ?_
    conv => whnf
    refine CallC.nl _ (cc) ?_ ?_
    · exact rfl
    refine Grd.intro (fun g => ?_) (fun g => absurd (show ((P.length : Nat) : Int) = 2 by simpa using g) (by omega))
    exact And.intro trivial (AVle.refl _)
  case pos =>
    obtain ⟨a, b, rfl⟩ : ∃ a b, P = [a, b] := by
      match P, h2 with
      | [a, b], _ => exact ⟨a, b, rfl⟩
    have hR : readR t = (match numsK 44 5 a with
      | some [k, tok, tier, f, e] => if Rc.ok ⟨k, tok, tier, f, e, b⟩ = true then some ⟨k, tok, tier, f, e, b⟩ else none
      | _ => none) := hR
    have hal := hpl a (by simp)
    have hbl := hpl b (by simp)
    cases hN : numsK 44 5 a with
    | none =>
      rw [hN] at hR
      rw [hn hR]
      refine VFn.introC Tryz.call90 Tryz.func90 rfl rfl ?_
      conv => whnf
      refine CallC.nl _ (cc) ?_ ?_
      · exact rfl
      refine And.intro ⟨by decide, show (0 : Int) < 2 by decide⟩ ?_
      conv => whnf
      refine CallC.nl _ (l02Numbers_gen a 44 5 (by omega) _ (fun N h => by rw [hN] at h; cases h) (fun h => rfl)) ?_ ?_
      · exact rfl
      exact And.intro trivial (AVle.refl _)
    | some N =>
      obtain ⟨k, tok, tier, f, e, rfl⟩ := nums5 hN
      rw [hN] at hR
      have hR : readR t = if Rc.ok ⟨k, tok, tier, f, e, b⟩ = true then some ⟨k, tok, tier, f, e, b⟩ else none := hR
      have ct := specRecordOK_fn ⟨k, tok, tier, f, e, b⟩ (by show b.length ≤ _; omega)
      by_cases hok : Rc.ok ⟨k, tok, tier, f, e, b⟩ = true
      · rw [if_pos hok] at hR
        rw [hy _ hR]
        rw [hok] at ct
        refine VFn.introC Tryz.call90 Tryz.func90 rfl rfl ?_
        conv => whnf
        refine CallC.nl _ (cc) ?_ ?_
        · exact rfl
        refine And.intro ⟨by decide, show (0 : Int) < 2 by decide⟩ ?_
        conv => whnf
        refine CallC.nl _ (l02Numbers_gen a 44 5 (by omega) _ (fun N h => by rw [hN] at h; cases h; rfl) (fun h => by rw [hN] at h; cases h)) ?_ ?_
        · exact rfl
        refine DrawC.mkK 21 [(.inr 19, 20)] rfl (by kernel_rfl) ?_
        refine And.intro rfl ?_
        refine And.intro ⟨by decide, show (0 : Int) < 5 by decide⟩ ?_
        refine And.intro ⟨by decide, show (1 : Int) < 5 by decide⟩ ?_
        refine And.intro ⟨by decide, show (2 : Int) < 5 by decide⟩ ?_
        refine And.intro ⟨by decide, show (3 : Int) < 5 by decide⟩ ?_
        refine And.intro ⟨by decide, show (4 : Int) < 5 by decide⟩ ?_
        refine And.intro ⟨by decide, show (1 : Int) < 2 by decide⟩ ?_
        conv => whnf
        refine CallC.sca _ (ct) ?_ ?_
        · exact rfl
        exact And.intro trivial (AVle.refl _)
      · have hok : Rc.ok ⟨k, tok, tier, f, e, b⟩ = false := by simpa using hok
        rw [if_neg (by rw [hok]; simp)] at hR
        rw [hn hR]
        rw [hok] at ct
        refine VFn.introC Tryz.call90 Tryz.func90 rfl rfl ?_
        conv => whnf
        refine CallC.nl _ (cc) ?_ ?_
        · exact rfl
        refine And.intro ⟨by decide, show (0 : Int) < 2 by decide⟩ ?_
        conv => whnf
        refine CallC.nl _ (l02Numbers_gen a 44 5 (by omega) _ (fun N h => by rw [hN] at h; cases h; rfl) (fun h => by rw [hN] at h; cases h)) ?_ ?_
        · exact rfl
        refine DrawC.mkK 21 [(.inr 19, 20)] rfl (by kernel_rfl) ?_
        refine And.intro rfl ?_
        refine And.intro ⟨by decide, show (0 : Int) < 5 by decide⟩ ?_
        refine And.intro ⟨by decide, show (1 : Int) < 5 by decide⟩ ?_
        refine And.intro ⟨by decide, show (2 : Int) < 5 by decide⟩ ?_
        refine And.intro ⟨by decide, show (3 : Int) < 5 by decide⟩ ?_
        refine And.intro ⟨by decide, show (4 : Int) < 5 by decide⟩ ?_
        refine And.intro ⟨by decide, show (1 : Int) < 2 by decide⟩ ?_
        conv => whnf
        refine CallC.sca _ (ct) ?_ ?_
        · exact rfl
        exact And.intro trivial (AVle.refl _)
theorem l06Read_yes (t : List UInt8) (hl : t.length ≤ 1000000) {r : Rc} (h : readR t = some r) : VFn Tryz.prog 90 [.str (B t)] (.tup [r.av, .bool true]) := l06Read_gen t hl _ (fun r' h' => by rw [h] at h'; cases h'; rfl) (fun h' => by rw [h] at h'; cases h')
theorem l06Read_no (t : List UInt8) (hl : t.length ≤ 1000000) (h : readR t = none) : VFn Tryz.prog 90 [.str (B t)] (.tup [(default : Rc).av, .bool false]) := l06Read_gen t hl _ (fun r' h' => by rw [h] at h'; cases h') (fun h' => rfl)
end Go.Proofs.YtopfpmcakoeloaaGreatDoor
set_option linter.unusedVariables false
set_option linter.constructorNameAsVariable false
set_option linter.unusedSimpArgs false
set_option maxRecDepth 20000
namespace Go.Proofs.YtopfpmcakoeloaaGreatDoor
open Go Go.Vw

def Sta.orow (s : Sta) (a b : Nat) : List AV := [.int .i64 s.seq, .int .i64 s.fence, .osl a, .osl b, .int .i64 s.l0, .int .i64 s.l1, .int .i64 s.l2, .int .i64 s.h0, .int .i64 s.h1, .int .i64 s.h2]
theorem logN_no {x : Sto} {i : Nat} {st : Sta} (h : logN x i = st) (hr : recAt x ((i : Int) + 1) = none) : logN x (i + 1) = st.tick := by
  show stepL x (logN x i) = _
  unfold stepL
  rw [logN_seq, hr, h]
theorem logN_yes {x : Sto} {i : Nat} {st : Sta} {r : Rc} (h : logN x i = st) (hr : recAt x ((i : Int) + 1) = some r) : logN x (i + 1) = st.app r := by
  show stepL x (logN x i) = _
  unfold stepL
  rw [logN_seq, hr, h]
theorem has_next {x : Sto} {i : Nat} (h : ∀ j, j < i → x.has (manK ((j + 1 : Nat) : Int)) = true) (h' : x.has (manK ((i : Int) + 1)) = true) : ∀ j, j < i + 1 → x.has (manK ((j + 1 : Nat) : Int)) = true := fun j hj => by
  rcases Nat.lt_or_ge j i with h1 | h1
  · exact h j h1
  · have : j = i := by omega
    subst this; exact h'
theorem replay_own (x : Sto) (hs : x.ok = true) (F : Nat) (hF : ∀ (r : Rc) (took : Bool), VFn Tryz.prog F [r.av, .bool took] (.tup [])) :
    FnM Tryz.prog 100 0 [x.av, .fn (.func F) [] []] [] (logS x).own (logS x).objs 2 := by
  have hL := (Sto.ok_at hs).2.1
  refine FnM.introC Tryz.call100 Tryz.func100 rfl rfl ?_
  refine LoopC.nilb 2 2 149 4 (fun _ => []) rfl rfl ?_
  conv => whnf
  refine LoopC.nilb 2 3 152 2 (fun _ => []) rfl rfl ?_
  conv => whnf
  refine LoopC.mk (fun i : Nat => ∀ j, j < i → x.has (manK ((j + 1 : Nat) : Int)) = true) (fun i => [(1, .fn (.func F) [] []), (2, .bptr 0 0), (4, .bptr 1 0), (5, .bptr 2 0)])
    (fun i => [(0, .box x.row), (1, .box sta0.nrow), (2, .box ((logN x i).orow 3 4)), (3, .arr 149 4 (logN x i).es.length fun j => (ix (logN x i).es j).row), (4, .arr 152 2 (logN x i).ts.length fun j => (ix (logN x i).ts j).row)]) 5 (fun i => 1000 - i) 0
    ⟨fun j hj => absurd hj (Nat.not_lt_zero j), [(0, 0), (1, 1), (2, 2), (3, 3), (4, 4)], rfl, rfl, ⟨AVle.refl _, AVle.refl _, AVle.refl _, AVle.refl _, trivial⟩, ⟨MOle.refl _, MOle.refl _, MOle.refl _, MOle.arr rfl fun i hi => absurd hi (Nat.not_lt_zero i), MOle.arr rfl fun i hi => absurd hi (Nat.not_lt_zero i), trivial⟩⟩ ?_
  intro i hi
  have hi3 : i ≤ 300 := by
    rcases Nat.lt_or_ge 300 i with h | h
    · have := log_len (x := x) (n := 301) (by omega) (fun j hj => hi j (by omega)); omega
    · exact h
  obtain ⟨st, hst⟩ : ∃ st, logN x i = st := ⟨_, rfl⟩
  have hseq := logN_seq x i
  have hlen := logN_len x i
  have hlog := logN_log x i
  rw [hst] at hseq hlen hlog ⊢
  refine Grd.intro (fun h2 => ?_) (fun h2 => absurd (of_decide_eq_false h2) (fun h => h (by omega)))
  have cg := get_fn x hs (manK (st.seq + 1))
  by_cases hh : x.has (manK (st.seq + 1)) = true
  · rw [if_pos hh] at cg
    refine DrawC.mk 12 rfl (by kernel_rfl) ?_
    refine And.intro (inI64 (by omega) (by omega)) ?_
    conv => whnf
    refine PCallC.sca _ (six_fn (st.seq + 1) (by simp [within]; omega)) rfl ?_
    conv => whnf
    refine And.intro (show ((4 + (B (six6 (st.seq + 1).toNat)).size : Nat) : Int) ≤ 9223372036854775807 by rw [B_size, six6_len]; decide) ?_
    refine force_to (congrArg AV.str (show B [109, 97, 110, 47] ++ B (six6 (st.seq + 1).toNat) = B (manK (st.seq + 1)) from B_app _ _)) ?_
    conv => whnf
    refine PCallC.sca _ (cg) rfl ?_
    have hd := (get_ok x hs _ hh).1
    have hh' : x.has (manK ((i : Int) + 1)) = true := by rw [← hseq]; exact hh
    cases hr : readR (x.get (manK (st.seq + 1))).data with
    | none =>
      obtain ⟨r, cr⟩ := readRecord_no _ (by omega) hr
      conv => whnf
      refine CallC.sca _ (cr) ?_ ?_
      · exact rfl
      refine And.intro (inI64 (by omega) (by omega)) ?_
      have e := logN_no hst (by unfold recAt; rw [← hseq]; exact hr)
      refine ⟨i + 1, has_next hi hh', by omega, [(0, 0), (1, 1), (2, 2), (3, 3), (4, 4)], rfl, rfl, ⟨AVle.refl _, AVle.refl _, AVle.refl _, AVle.refl _, trivial⟩, ⟨MOle.refl _, MOle.refl _, MOle.of_eq (show MO.box (st.tick.orow 3 4) = _ by rw [e]), MOle.of_eq (show MO.arr 149 4 st.tick.es.length (fun j => (ix st.tick.es j).row) = _ by rw [e]), MOle.of_eq (show MO.arr 152 2 st.tick.ts.length (fun j => (ix st.tick.ts j).row) = _ by rw [e]), trivial⟩⟩
    | some r =>
      have hrk := readR_ok hr
      conv => whnf
      refine CallC.sca _ (readRecord_yes _ (by omega) hr) ?_ ?_
      · exact rfl
      conv => whnf
      refine CallC.m [] (apply_fn st (by omega) (by omega) r hrk) rfl rfl (AVsle.refl _) trivial rfl ⟨fun i hi => rfl, fun i hi => rfl, trivial⟩ rfl ?_
      conv => whnf
      refine CallC.sca _ (hF r (st.takes r)) ?_ ?_
      · exact rfl
      have e := logN_yes hst (by unfold recAt; rw [← hseq]; exact hr)
      refine ⟨i + 1, has_next hi hh', by omega, [(0, 0), (1, 1), (2, 2), (18, 3), (19, 4)], rfl, rfl, ⟨AVle.refl _, AVle.refl _, AVle.refl _, AVle.refl _, trivial⟩, ⟨MOle.refl _, MOle.refl _, MOle.of_eq (show MO.box ((st.app r).orow 3 4) = _ by rw [e]), MOle.of_eq (show MO.arr 149 4 (st.app r).es.length (fun j => (ix (st.app r).es j).row) = _ by rw [e]), MOle.of_eq (show MO.arr 152 2 (st.app r).ts.length (fun j => (ix (st.app r).ts j).row) = _ by rw [e]), trivial⟩⟩
  · have hh : x.has (manK (st.seq + 1)) = false := by simpa using hh
    rw [if_neg (by rw [hh]; simp)] at cg
    have e : logS x = st := by
      have := log_end hs hi3 hi (by rw [hseq] at hh; exact hh)
      unfold logS; rw [← this]; exact hst
    rw [e]
    refine DrawC.mk 12 rfl (by kernel_rfl) ?_
    refine And.intro (inI64 (by omega) (by omega)) ?_
    conv => whnf
    refine PCallC.sca _ (six_fn (st.seq + 1) (by simp [within]; omega)) rfl ?_
    conv => whnf
    refine And.intro (show ((4 + (B (six6 (st.seq + 1).toNat)).size : Nat) : Int) ≤ 9223372036854775807 by rw [B_size, six6_len]; decide) ?_
    refine force_to (congrArg AV.str (show B [109, 97, 110, 47] ++ B (six6 (st.seq + 1).toNat) = B (manK (st.seq + 1)) from B_app _ _)) ?_
    conv => whnf
    refine PCallC.sca _ (cg) rfl ?_
    exact And.intro trivial ⟨[(3, 0), (4, 1)], rfl, AVle.refl _, ⟨MOle.refl _, MOle.refl _, trivial⟩⟩
theorem log1_fn (r : Rc) (took : Bool) : VFn Tryz.prog 101 [r.av, .bool took] (.tup []) := by
  refine VFn.introC Tryz.call101 Tryz.func101 rfl rfl ?_
  exact And.intro trivial (AVle.refl _)
theorem log_own (x : Sto) (hs : x.ok = true) : FnM Tryz.prog 67 0 [x.av] [] (logS x).own (logS x).objs 2 := by
  refine FnM.introC Tryz.call67 Tryz.func67 rfl rfl ?_
  conv => whnf
  refine CallC.k [] (replay_own x hs 101 log1_fn) rfl rfl (AVsle.refl _) trivial rfl ?_
  exact And.intro trivial ⟨[(2, 0), (3, 1)], rfl, AVle.refl _, ⟨MOle.refl _, MOle.refl _, trivial⟩⟩
theorem log_fn (x : Sto) (hs : x.ok = true) : VFn Tryz.prog 67 [x.av] (logS x).av := (log_own x hs).vfn
end Go.Proofs.YtopfpmcakoeloaaGreatDoor
set_option linter.unusedVariables false
set_option linter.constructorNameAsVariable false
set_option linter.unusedSimpArgs false
set_option maxRecDepth 20000
namespace Go.Proofs.YtopfpmcakoeloaaGreatDoor
open Go Go.Vw

theorem l06Empty_fn : VFn Tryz.prog 89 [] sta0.av := by
  refine VFn.introC Tryz.call89 Tryz.func89 rfl rfl ?_
  exact And.intro trivial (AVle.agg (AVsle.cons (AVle.refl _) (AVsle.cons (AVle.refl _) (AVsle.cons (AVle.sl rfl fun i hi => absurd hi (Nat.not_lt_zero i)) (AVsle.cons (AVle.sl rfl fun i hi => absurd hi (Nat.not_lt_zero i)) (AVsle.refl _))))))
theorem l06Key_at (n : Int) (h : 0 ≤ n ∧ n ≤ 999998) : VFn Tryz.prog 81 [.int .i64 (n + 1)] (.str (B (manK (n + 1)))) := l06Key_fn (n + 1) (by simp [within]; omega)
theorem l06Replay_fn (x : Sto) (hs : x.ok = true) : VFn Tryz.prog 57 [x.av] (logS x).av := by
  have hL := (Sto.ok_at hs).2.1
  refine VFn.introC Tryz.call57 Tryz.func57 rfl rfl ?_
  conv => whnf
  refine CallC.nl _ (l06Empty_fn) ?_ ?_
  · exact rfl
  refine LoopC.mk (fun i : Nat => ∀ j, j < i → x.has (manK ((j + 1 : Nat) : Int)) = true) (fun i => [(1, .bptr 0 0), (2, .bptr 1 0), (3, .bptr 2 0)])
    (fun i => [(0, .box x.row), (1, .box sta0.nrow), (2, .box (logN x i).row)]) 3 (fun i => 1000 - i) 0
    ⟨fun j hj => absurd hj (Nat.not_lt_zero j), [(0, 0), (1, 1), (2, 2)], rfl, rfl, ⟨AVle.refl _, AVle.refl _, AVle.refl _, trivial⟩, ⟨MOle.refl _, MOle.refl _, MOle.refl _, trivial⟩⟩ ?_
  intro i hi
  have hi3 : i ≤ 300 := by
    rcases Nat.lt_or_ge 300 i with h | h
    · have := log_len (x := x) (n := 301) (by omega) (fun j hj => hi j (by omega)); omega
    · exact h
  obtain ⟨st, hst⟩ : ∃ st, logN x i = st := ⟨_, rfl⟩
  have hseq := logN_seq x i
  have hlen := logN_len x i
  have hlog := logN_log x i
  rw [hst] at hseq hlen hlog ⊢
  have cg := l01Get_fn x hs (manK (st.seq + 1))
  have ck := l06Key_at st.seq (by omega)
  by_cases hh : x.has (manK (st.seq + 1)) = true
  · rw [if_pos hh] at cg
    have hd := get_ok x hs _ hh
    refine DrawC.mk 11 rfl (by kernel_rfl) ?_
    refine And.intro (inI64 (by omega) (by omega)) ?_
    conv => whnf
    refine PCallC.sca _ (ck) rfl ?_
    conv => whnf
    refine PCallC.sca _ (cg) rfl ?_
    refine Grd.intro (fun h => absurd (of_decide_eq_true (p := (x.get (manK (st.seq + 1))).ver = 0) h) (by omega)) (fun _ => ?_)
    have hh' : x.has (manK ((i : Int) + 1)) = true := by rw [← hseq]; exact hh
    cases hr : readR (x.get (manK (st.seq + 1))).data with
    | none =>
      conv => whnf
      refine CallC.sca _ (l06Read_no _ (by omega) hr) ?_ ?_
      · exact rfl
      refine And.intro (inI64 (by omega) (by omega)) ?_
      have e := logN_no hst (by unfold recAt; rw [← hseq]; exact hr)
      exact ⟨i + 1, has_next hi hh', by omega, [(0, 0), (1, 1), (2, 2)], rfl, rfl, ⟨AVle.refl _, AVle.refl _, AVle.refl _, trivial⟩, ⟨MOle.refl _, MOle.refl _, MOle.of_eq (show MO.box st.tick.row = _ by rw [e]), trivial⟩⟩
    | some r =>
      have hrk := readR_ok hr
      conv => whnf
      refine CallC.sca _ (l06Read_yes _ (by omega) hr) ?_ ?_
      · exact rfl
      conv => whnf
      refine CallC.nl _ (l06Apply_fn st (by omega) (by omega) hlog.nd r hrk) ?_ ?_
      · exact rfl
      have e := logN_yes hst (by unfold recAt; rw [← hseq]; exact hr)
      exact ⟨i + 1, has_next hi hh', by omega, [(0, 0), (1, 1), (2, 2)], rfl, rfl, ⟨AVle.refl _, AVle.refl _, AVle.refl _, trivial⟩, ⟨MOle.refl _, MOle.refl _, MOle.of_eq (show MO.box (st.app r).row = _ by rw [e]), trivial⟩⟩
  · have hh : x.has (manK (st.seq + 1)) = false := by simpa using hh
    rw [if_neg (by rw [hh]; simp)] at cg
    have e : logS x = st := by
      have := log_end hs hi3 hi (by rw [hseq] at hh; exact hh)
      unfold logS; rw [← this]; exact hst
    rw [e]
    refine DrawC.mk 11 rfl (by kernel_rfl) ?_
    refine And.intro (inI64 (by omega) (by omega)) ?_
    conv => whnf
    refine PCallC.sca _ (ck) rfl ?_
    conv => whnf
    refine PCallC.sca _ (cg) rfl ?_
    exact And.intro trivial (AVle.refl _)
def rlC (x : Sto) : Int := if x.ok = true then 0 else 1
def rlS (x : Sto) : Sta := if x.ok = true then logS x else sta0
end Go.Proofs.YtopfpmcakoeloaaGreatDoor
