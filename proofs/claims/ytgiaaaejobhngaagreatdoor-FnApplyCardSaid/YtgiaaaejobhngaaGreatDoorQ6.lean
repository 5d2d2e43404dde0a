/- Contracts of functions that the claim reaches, and the plain law of what they compute; each theorem bears its own conditions. -/
import Derived.Test.YtgiaaaejobhngaaGreatDoorQ5
import Derived.Test.YtgiaaaejobhngaaGreatDoorQ1
import Derived.Test.YtgiaaaejobhngaaGreatDoorV46
import Derived.Test.YtgiaaaejobhngaaGreatDoorQ2
import Derived.Test.YtgiaaaejobhngaaGreatDoorQ4
import Derived.WalkSmall
set_option linter.unusedVariables false
set_option linter.constructorNameAsVariable false
set_option linter.unusedSimpArgs false
set_option maxRecDepth 20000
namespace Go.Proofs.YtgiaaaejobhngaaGreatDoor
open Go Go.Vw

def Sta.nrow (s : Sta) : List AV := [.int .i64 s.seq, .int .i64 s.fence, .nilsl, .nilsl, .int .i64 s.l0, .int .i64 s.l1, .int .i64 s.l2, .int .i64 s.h0, .int .i64 s.h1, .int .i64 s.h2]
theorem l06Own_own (s : Sta) (hL : s.es.length ≤ 1000000) (hT : s.ts.length ≤ 1000000) : FnM Tryz.prog 123 0 [s.av] [] s.own s.objs 2 := by
  refine FnM.introC Tryz.call123 Tryz.func123 rfl rfl ?_
  refine And.intro ⟨show (0 + s.es.length) * 40 ≤ 140737488355328 by omega, fun i hi => rfl⟩ ?_
  refine And.intro ⟨show (0 + s.ts.length) * 24 ≤ 140737488355328 by omega, fun i hi => rfl⟩ ?_
  exact And.intro trivial ⟨[(3, 0), (5, 1)], rfl, AVle.refl _, ⟨MOle.arr (Nat.zero_add _) fun i hi => appRows_ge (Nat.zero_le _), MOle.arr (Nat.zero_add _) fun i hi => appRows_ge (Nat.zero_le _), trivial⟩⟩
/-- entries as nobody's own -/
theorem l06Own_mix (s : Sta) (hL : s.es.length ≤ 1000000) (hT : s.ts.length ≤ 1000000) : FnM Tryz.prog 123 0 [s.av] [] (.agg [.int .i64 s.seq, .int .i64 s.fence, ents s.es, .osl 0, .int .i64 s.l0, .int .i64 s.l1, .int .i64 s.l2, .int .i64 s.h0, .int .i64 s.h1, .int .i64 s.h2]) [(0, .arr 137 2 s.ts.length fun i => (ix s.ts i).row)] 1 := by
  refine FnM.introC Tryz.call123 Tryz.func123 rfl rfl ?_
  refine And.intro ⟨show (0 + s.es.length) * 40 ≤ 140737488355328 by omega, fun i hi => rfl⟩ ?_
  refine And.intro ⟨show (0 + s.ts.length) * 24 ≤ 140737488355328 by omega, fun i hi => rfl⟩ ?_
  refine And.intro trivial ⟨[(5, 0)], rfl, AVle.agg (AVsle.cons (AVle.refl _) (AVsle.cons (AVle.refl _) (AVsle.cons (AVle.sl (Nat.zero_add _) fun i hi => appRows_ge (Nat.zero_le _)) (AVsle.refl _)))), ⟨MOle.arr (Nat.zero_add _) fun i hi => appRows_ge (Nat.zero_le _), trivial⟩⟩
theorem specApply1 (s : Sta) (hL : s.es.length + s.ts.length < 4096) (hq : 0 ≤ s.seq ∧ s.seq < 999999) (tok f t : Int) (key : List UInt8) (hr : Rc.ok ⟨1, tok, 0, f, t, key⟩ = true) :
    FnM Tryz.prog 87 0 [s.av, (Rc.mk 1 tok 0 f t key).av] [] (.tup [(s.app ⟨1, tok, 0, f, t, key⟩).own, .bool (s.takes ⟨1, tok, 0, f, t, key⟩)]) (s.app ⟨1, tok, 0, f, t, key⟩).objs 2 := by
  have c := l06Takes_fn s (by omega) (by omega) ⟨1, tok, 0, f, t, key⟩ hr
  have hc := l06Own_own s (by omega) (by omega)
  have hm := l06Own_mix s (by omega) (by omega)
  by_cases ht : s.takes ⟨1, tok, 0, f, t, key⟩ = true
  · have ea : s.app ⟨1, tok, 0, f, t, key⟩ = ({ s.tick with es := s.es ++ [⟨0, f, t, key⟩] } : Sta).lift 0 t := by unfold Sta.app; rw [if_pos ht, if_pos (.inl rfl)]
    rw [ht] at c ⊢
    rw [ea]
    refine FnM.introC Tryz.call87 Tryz.func87 rfl rfl ?_
    conv => whnf
    refine CallC.sca _ (c) ?_ ?_
    · exact rfl
    conv => whnf
    refine CallC.k [] hc rfl rfl (AVsle.refl _) trivial rfl ?_
    refine And.intro (inI64 (by omega) (by omega)) ?_
    refine And.intro ⟨show (s.es.length + 1) * 40 ≤ 140737488355328 by omega, all1 rfl⟩ ?_
    refine And.intro ⟨show (0 : Int) ≤ 0 by omega, show (0 : Int) < ((3 : Nat) : Int) by omega⟩ ?_
    exact And.intro trivial ⟨[(6, 0), (4, 1)], rfl, AVle.refl _, ⟨arr_next (f := En.row) rfl rfl, MOle.refl _, trivial⟩⟩
  · have ht : s.takes ⟨1, tok, 0, f, t, key⟩ = false := by simpa using ht
    have ea : s.app ⟨1, tok, 0, f, t, key⟩ = s.tick := by unfold Sta.app; rw [if_neg (by rw [ht]; simp)]
    rw [ht] at c ⊢
    rw [ea]
    refine FnM.introC Tryz.call87 Tryz.func87 rfl rfl ?_
    conv => whnf
    refine CallC.sca _ (c) ?_ ?_
    · exact rfl
    conv => whnf
    refine CallC.k [] hc rfl rfl (AVsle.refl _) trivial rfl ?_
    refine And.intro (inI64 (by omega) (by omega)) ?_
    exact And.intro trivial ⟨[(3, 0), (4, 1)], rfl, AVle.refl _, ⟨MOle.refl _, MOle.refl _, trivial⟩⟩
theorem specApply3_1 (s : Sta) (hL : s.es.length + s.ts.length < 4096) (hq : 0 ≤ s.seq ∧ s.seq < 999999) (tok f t : Int) (key : List UInt8) (hr : Rc.ok ⟨3, tok, 1, f, t, key⟩ = true) :
    FnM Tryz.prog 87 0 [s.av, (Rc.mk 3 tok 1 f t key).av] [] (.tup [(s.app ⟨3, tok, 1, f, t, key⟩).own, .bool (s.takes ⟨3, tok, 1, f, t, key⟩)]) (s.app ⟨3, tok, 1, f, t, key⟩).objs 2 := by
  have c := l06Takes_fn s (by omega) (by omega) ⟨3, tok, 1, f, t, key⟩ hr
  have hc := l06Own_own s (by omega) (by omega)
  have hm := l06Own_mix s (by omega) (by omega)
  by_cases ht : s.takes ⟨3, tok, 1, f, t, key⟩ = true
  · have ea : s.app ⟨3, tok, 1, f, t, key⟩ = ({ s.tick with es := s.es ++ [⟨1, f, t, key⟩] } : Sta).lift 1 t := by unfold Sta.app; rw [if_pos ht, if_pos (.inr rfl)]
    rw [ht] at c ⊢
    rw [ea]
    refine FnM.introC Tryz.call87 Tryz.func87 rfl rfl ?_
    conv => whnf
    refine CallC.sca _ (c) ?_ ?_
    · exact rfl
    conv => whnf
    refine CallC.k [] hc rfl rfl (AVsle.refl _) trivial rfl ?_
    refine And.intro (inI64 (by omega) (by omega)) ?_
    refine And.intro ⟨show (s.es.length + 1) * 40 ≤ 140737488355328 by omega, all1 rfl⟩ ?_
    refine And.intro ⟨show (0 : Int) ≤ 1 by omega, show (1 : Int) < ((3 : Nat) : Int) by omega⟩ ?_
    exact And.intro trivial ⟨[(6, 0), (4, 1)], rfl, AVle.refl _, ⟨arr_next (f := En.row) rfl rfl, MOle.refl _, trivial⟩⟩
  · have ht : s.takes ⟨3, tok, 1, f, t, key⟩ = false := by simpa using ht
    have ea : s.app ⟨3, tok, 1, f, t, key⟩ = s.tick := by unfold Sta.app; rw [if_neg (by rw [ht]; simp)]
    rw [ht] at c ⊢
    rw [ea]
    refine FnM.introC Tryz.call87 Tryz.func87 rfl rfl ?_
    conv => whnf
    refine CallC.sca _ (c) ?_ ?_
    · exact rfl
    conv => whnf
    refine CallC.k [] hc rfl rfl (AVsle.refl _) trivial rfl ?_
    refine And.intro (inI64 (by omega) (by omega)) ?_
    exact And.intro trivial ⟨[(3, 0), (4, 1)], rfl, AVle.refl _, ⟨MOle.refl _, MOle.refl _, trivial⟩⟩
theorem specApply3_2 (s : Sta) (hL : s.es.length + s.ts.length < 4096) (hq : 0 ≤ s.seq ∧ s.seq < 999999) (tok f t : Int) (key : List UInt8) (hr : Rc.ok ⟨3, tok, 2, f, t, key⟩ = true) :
    FnM Tryz.prog 87 0 [s.av, (Rc.mk 3 tok 2 f t key).av] [] (.tup [(s.app ⟨3, tok, 2, f, t, key⟩).own, .bool (s.takes ⟨3, tok, 2, f, t, key⟩)]) (s.app ⟨3, tok, 2, f, t, key⟩).objs 2 := by
  have c := l06Takes_fn s (by omega) (by omega) ⟨3, tok, 2, f, t, key⟩ hr
  have hc := l06Own_own s (by omega) (by omega)
  have hm := l06Own_mix s (by omega) (by omega)
  by_cases ht : s.takes ⟨3, tok, 2, f, t, key⟩ = true
  · have ea : s.app ⟨3, tok, 2, f, t, key⟩ = ({ s.tick with es := s.es ++ [⟨2, f, t, key⟩] } : Sta).lift 2 t := by unfold Sta.app; rw [if_pos ht, if_pos (.inr rfl)]
    rw [ht] at c ⊢
    rw [ea]
    refine FnM.introC Tryz.call87 Tryz.func87 rfl rfl ?_
    conv => whnf
    refine CallC.sca _ (c) ?_ ?_
    · exact rfl
    conv => whnf
    refine CallC.k [] hc rfl rfl (AVsle.refl _) trivial rfl ?_
    refine And.intro (inI64 (by omega) (by omega)) ?_
    refine And.intro ⟨show (s.es.length + 1) * 40 ≤ 140737488355328 by omega, all1 rfl⟩ ?_
    refine And.intro ⟨show (0 : Int) ≤ 2 by omega, show (2 : Int) < ((3 : Nat) : Int) by omega⟩ ?_
    exact And.intro trivial ⟨[(6, 0), (4, 1)], rfl, AVle.refl _, ⟨arr_next (f := En.row) rfl rfl, MOle.refl _, trivial⟩⟩
  · have ht : s.takes ⟨3, tok, 2, f, t, key⟩ = false := by simpa using ht
    have ea : s.app ⟨3, tok, 2, f, t, key⟩ = s.tick := by unfold Sta.app; rw [if_neg (by rw [ht]; simp)]
    rw [ht] at c ⊢
    rw [ea]
    refine FnM.introC Tryz.call87 Tryz.func87 rfl rfl ?_
    conv => whnf
    refine CallC.sca _ (c) ?_ ?_
    · exact rfl
    conv => whnf
    refine CallC.k [] hc rfl rfl (AVsle.refl _) trivial rfl ?_
    refine And.intro (inI64 (by omega) (by omega)) ?_
    exact And.intro trivial ⟨[(3, 0), (4, 1)], rfl, AVle.refl _, ⟨MOle.refl _, MOle.refl _, trivial⟩⟩
theorem specApply2 (s : Sta) (hL : s.es.length + s.ts.length < 4096) (hq : 0 ≤ s.seq ∧ s.seq < 999999) (tok tier f t : Int) (key : List UInt8) (hr : Rc.ok ⟨2, tok, tier, f, t, key⟩ = true) :
    FnM Tryz.prog 87 0 [s.av, (Rc.mk 2 tok tier f t key).av] [] (.tup [(s.app ⟨2, tok, tier, f, t, key⟩).own, .bool (s.takes ⟨2, tok, tier, f, t, key⟩)]) (s.app ⟨2, tok, tier, f, t, key⟩).objs 2 := by
  have c := l06Takes_fn s (by omega) (by omega) ⟨2, tok, tier, f, t, key⟩ hr
  have hc := l06Own_own s (by omega) (by omega)
  have hm := l06Own_mix s (by omega) (by omega)
  by_cases ht : s.takes ⟨2, tok, tier, f, t, key⟩ = true
  · have ea : s.app ⟨2, tok, tier, f, t, key⟩ = { s.tick with fence := tok } := by unfold Sta.app; rw [if_pos ht, if_neg (show ¬ ((2 : Int) = 1 ∨ (2 : Int) = 3) by decide), if_pos rfl]
    rw [ht] at c ⊢
    rw [ea]
    refine FnM.introC Tryz.call87 Tryz.func87 rfl rfl ?_
    conv => whnf
    refine CallC.sca _ (c) ?_ ?_
    · exact rfl
    conv => whnf
    refine CallC.k [] hc rfl rfl (AVsle.refl _) trivial rfl ?_
    refine And.intro (inI64 (by omega) (by omega)) ?_
    exact And.intro trivial ⟨[(3, 0), (4, 1)], rfl, AVle.refl _, ⟨MOle.refl _, MOle.refl _, trivial⟩⟩
  · have ht : s.takes ⟨2, tok, tier, f, t, key⟩ = false := by simpa using ht
    have ea : s.app ⟨2, tok, tier, f, t, key⟩ = s.tick := by unfold Sta.app; rw [if_neg (by rw [ht]; simp)]
    rw [ht] at c ⊢
    rw [ea]
    refine FnM.introC Tryz.call87 Tryz.func87 rfl rfl ?_
    conv => whnf
    refine CallC.sca _ (c) ?_ ?_
    · exact rfl
    conv => whnf
    refine CallC.k [] hc rfl rfl (AVsle.refl _) trivial rfl ?_
    refine And.intro (inI64 (by omega) (by omega)) ?_
    exact And.intro trivial ⟨[(3, 0), (4, 1)], rfl, AVle.refl _, ⟨MOle.refl _, MOle.refl _, trivial⟩⟩
/-- the first of a tier -/
theorem first_at {s : Sta} {k : Int} {e : En} (h : headIs (ofT s.es k) e = true) : ∃ i : Nat, i < s.es.length ∧ fi (fun x : En => decide (x.tier = k)) s.es = (i : Int) ∧ ix s.es i = e := by
  rcases fi_filter (fun x : En => decide (x.tier = k)) s.es with ⟨h1, h2⟩ | ⟨i, hi, h1, r, h2⟩
  · rw [show ofT s.es k = [] from h2] at h; cases h
  · rw [show ofT s.es k = ix s.es i :: r from h2] at h
    exact ⟨i, hi, h1, of_decide_eq_true h⟩
theorem cut_rows {α : Type} [Inhabited α] {f : α → List AV} {L : List α} {i q : Nat} (hi : i < L.length) (hq : q = i + 1) {M : List α} (hM : L.take i ++ L.drop (i + 1) = M) {r0 : Nat → List AV} {n1 : Nat} (hn : n1 = i) :
    ∀ j, j < M.length → appRows n1 (appRows 0 r0 fun j => f (ix L j)) (fun j => f (ix L (q + j))) j = f (ix M j) := by
  subst hM hq hn
  refine app_rows (f := f) (by simp; omega) (fun j hj => ?_) fun j hj => ?_
  · rw [appRows_ge (Nat.zero_le _), Nat.sub_zero, ix_take (by simp at hj; omega)]
  · rw [ix_drop]
theorem specApply4_0 (s : Sta) (hL : s.es.length + s.ts.length < 4096) (hq : 0 ≤ s.seq ∧ s.seq < 999999) (tok f t : Int) (key : List UInt8) (hr : Rc.ok ⟨4, tok, 0, f, t, key⟩ = true) (nd : (s.es.map (·.key)).Nodup) :
    FnM Tryz.prog 87 0 [s.av, (Rc.mk 4 tok 0 f t key).av] [] (.tup [(s.app ⟨4, tok, 0, f, t, key⟩).own, .bool (s.takes ⟨4, tok, 0, f, t, key⟩)]) (s.app ⟨4, tok, 0, f, t, key⟩).objs 2 := by
  have c := l06Takes_fn s (by omega) (by omega) ⟨4, tok, 0, f, t, key⟩ hr
  have hc := l06Own_own s (by omega) (by omega)
  have hm := l06Own_mix s (by omega) (by omega)
  by_cases ht : s.takes ⟨4, tok, 0, f, t, key⟩ = true
  · have ea : s.app ⟨4, tok, 0, f, t, key⟩ = ({ s.tick with es := noE key s.es, ts := s.ts ++ [⟨s.seq + 1, key⟩] } : Sta).lower 0 t := by unfold Sta.app; rw [if_pos ht, if_neg (show ¬ ((4 : Int) = 1 ∨ (4 : Int) = 3) by decide), if_neg (show ¬ (4 : Int) = 2 by decide), if_pos rfl]
    obtain ⟨i, hi, hfi, hix⟩ := first_at (takes_4 ht rfl)
    have hcut : s.es.take i ++ s.es.drop (i + 1) = noE key s.es := by rw [noE_cut hi nd, hix]
    have hlen : (noE key s.es).length = i + (s.es.length - (i + 1)) := by rw [← hcut]; simp; omega
    rw [ht] at c ⊢
    rw [ea]
    refine FnM.introC Tryz.call87 Tryz.func87 rfl rfl ?_
    conv => whnf
    refine CallC.sca _ (c) ?_ ?_
    · exact rfl
    conv => whnf
    refine CallC.k [] hm rfl rfl (AVsle.refl _) trivial rfl ?_
    refine And.intro (inI64 (by omega) (by omega)) ?_
    have cf := l06First_fn { s with seq := s.seq + 1 } (by show s.es.length ≤ _; omega) 0
    rw [show fi (fun e : En => decide (e.tier = 0)) ({ s with seq := s.seq + 1 } : Sta).es = (i : Int) from hfi] at cf
    conv => whnf
    refine CallC.sca _ (cf) ?_ ?_
    · exact rfl
    refine DrawC.mkK 11 [(.inr 0, 5)] rfl (by kernel_rfl) ?_
    refine And.intro rfl ?_
    conv => whnf
    refine And.intro ⟨by omega, by omega⟩ ?_
    conv => whnf
    refine And.intro ⟨show (0 + ((i : Nat) : Int).toNat) * 40 ≤ 140737488355328 by omega, fun i hi => rfl⟩ ?_
    conv => whnf
    refine And.intro (inI64 (by omega) (by omega)) ?_
    conv => whnf
    refine And.intro ⟨by omega, by omega⟩ ?_
    conv => whnf
    refine And.intro ⟨show (0 + ((i : Nat) : Int).toNat + (s.es.length - (((i : Nat) : Int) + 1).toNat)) * 40 ≤ 140737488355328 by omega, fun i hi => rfl⟩ ?_
    refine And.intro ⟨show (s.ts.length + 1) * 24 ≤ 140737488355328 by omega, all1 rfl⟩ ?_
    refine And.intro ⟨show (0 : Int) ≤ 0 by omega, show (0 : Int) < ((3 : Nat) : Int) by omega⟩ ?_
    exact And.intro trivial ⟨[(15, 0), (17, 1)], rfl, AVle.refl _, ⟨MOle.arr (show 0 + ((i : Nat) : Int).toNat + (s.es.length - (((i : Nat) : Int) + 1).toNat) = (noE key s.es).length by omega) fun j hj => cut_rows hi (show (((i : Nat) : Int) + 1).toNat = i + 1 by omega) hcut (show 0 + ((i : Nat) : Int).toNat = i by omega) j (by have hj' : j < 0 + ((i : Nat) : Int).toNat + (s.es.length - (((i : Nat) : Int) + 1).toNat) := hj; omega), arr_next (f := Tb.row) rfl rfl, trivial⟩⟩
  · have ht : s.takes ⟨4, tok, 0, f, t, key⟩ = false := by simpa using ht
    have ea : s.app ⟨4, tok, 0, f, t, key⟩ = s.tick := by unfold Sta.app; rw [if_neg (by rw [ht]; simp)]
    rw [ht] at c ⊢
    rw [ea]
    refine FnM.introC Tryz.call87 Tryz.func87 rfl rfl ?_
    conv => whnf
    refine CallC.sca _ (c) ?_ ?_
    · exact rfl
    conv => whnf
    refine CallC.k [] hc rfl rfl (AVsle.refl _) trivial rfl ?_
    refine And.intro (inI64 (by omega) (by omega)) ?_
    exact And.intro trivial ⟨[(3, 0), (4, 1)], rfl, AVle.refl _, ⟨MOle.refl _, MOle.refl _, trivial⟩⟩
theorem specApply4_1 (s : Sta) (hL : s.es.length + s.ts.length < 4096) (hq : 0 ≤ s.seq ∧ s.seq < 999999) (tok f t : Int) (key : List UInt8) (hr : Rc.ok ⟨4, tok, 1, f, t, key⟩ = true) (nd : (s.es.map (·.key)).Nodup) :
    FnM Tryz.prog 87 0 [s.av, (Rc.mk 4 tok 1 f t key).av] [] (.tup [(s.app ⟨4, tok, 1, f, t, key⟩).own, .bool (s.takes ⟨4, tok, 1, f, t, key⟩)]) (s.app ⟨4, tok, 1, f, t, key⟩).objs 2 := by
  have c := l06Takes_fn s (by omega) (by omega) ⟨4, tok, 1, f, t, key⟩ hr
  have hc := l06Own_own s (by omega) (by omega)
  have hm := l06Own_mix s (by omega) (by omega)
  by_cases ht : s.takes ⟨4, tok, 1, f, t, key⟩ = true
  · have ea : s.app ⟨4, tok, 1, f, t, key⟩ = ({ s.tick with es := noE key s.es, ts := s.ts ++ [⟨s.seq + 1, key⟩] } : Sta).lower 1 t := by unfold Sta.app; rw [if_pos ht, if_neg (show ¬ ((4 : Int) = 1 ∨ (4 : Int) = 3) by decide), if_neg (show ¬ (4 : Int) = 2 by decide), if_pos rfl]
    obtain ⟨i, hi, hfi, hix⟩ := first_at (takes_4 ht rfl)
    have hcut : s.es.take i ++ s.es.drop (i + 1) = noE key s.es := by rw [noE_cut hi nd, hix]
    have hlen : (noE key s.es).length = i + (s.es.length - (i + 1)) := by rw [← hcut]; simp; omega
    rw [ht] at c ⊢
    rw [ea]
    refine FnM.introC Tryz.call87 Tryz.func87 rfl rfl ?_
    conv => whnf
    refine CallC.sca _ (c) ?_ ?_
    · exact rfl
    conv => whnf
    refine CallC.k [] hm rfl rfl (AVsle.refl _) trivial rfl ?_
    refine And.intro (inI64 (by omega) (by omega)) ?_
    have cf := l06First_fn { s with seq := s.seq + 1 } (by show s.es.length ≤ _; omega) 1
    rw [show fi (fun e : En => decide (e.tier = 1)) ({ s with seq := s.seq + 1 } : Sta).es = (i : Int) from hfi] at cf
    conv => whnf
    refine CallC.sca _ (cf) ?_ ?_
    · exact rfl
    refine DrawC.mkK 11 [(.inr 0, 5)] rfl (by kernel_rfl) ?_
    refine And.intro rfl ?_
    conv => whnf
    refine And.intro ⟨by omega, by omega⟩ ?_
    conv => whnf
    refine And.intro ⟨show (0 + ((i : Nat) : Int).toNat) * 40 ≤ 140737488355328 by omega, fun i hi => rfl⟩ ?_
    conv => whnf
    refine And.intro (inI64 (by omega) (by omega)) ?_
    conv => whnf
    refine And.intro ⟨by omega, by omega⟩ ?_
    conv => whnf
    refine And.intro ⟨show (0 + ((i : Nat) : Int).toNat + (s.es.length - (((i : Nat) : Int) + 1).toNat)) * 40 ≤ 140737488355328 by omega, fun i hi => rfl⟩ ?_
    refine And.intro ⟨show (s.ts.length + 1) * 24 ≤ 140737488355328 by omega, all1 rfl⟩ ?_
    refine And.intro ⟨show (0 : Int) ≤ 1 by omega, show (1 : Int) < ((3 : Nat) : Int) by omega⟩ ?_
    exact And.intro trivial ⟨[(15, 0), (17, 1)], rfl, AVle.refl _, ⟨MOle.arr (show 0 + ((i : Nat) : Int).toNat + (s.es.length - (((i : Nat) : Int) + 1).toNat) = (noE key s.es).length by omega) fun j hj => cut_rows hi (show (((i : Nat) : Int) + 1).toNat = i + 1 by omega) hcut (show 0 + ((i : Nat) : Int).toNat = i by omega) j (by have hj' : j < 0 + ((i : Nat) : Int).toNat + (s.es.length - (((i : Nat) : Int) + 1).toNat) := hj; omega), arr_next (f := Tb.row) rfl rfl, trivial⟩⟩
  · have ht : s.takes ⟨4, tok, 1, f, t, key⟩ = false := by simpa using ht
    have ea : s.app ⟨4, tok, 1, f, t, key⟩ = s.tick := by unfold Sta.app; rw [if_neg (by rw [ht]; simp)]
    rw [ht] at c ⊢
    rw [ea]
    refine FnM.introC Tryz.call87 Tryz.func87 rfl rfl ?_
    conv => whnf
    refine CallC.sca _ (c) ?_ ?_
    · exact rfl
    conv => whnf
    refine CallC.k [] hc rfl rfl (AVsle.refl _) trivial rfl ?_
    refine And.intro (inI64 (by omega) (by omega)) ?_
    exact And.intro trivial ⟨[(3, 0), (4, 1)], rfl, AVle.refl _, ⟨MOle.refl _, MOle.refl _, trivial⟩⟩
theorem specApply4_2 (s : Sta) (hL : s.es.length + s.ts.length < 4096) (hq : 0 ≤ s.seq ∧ s.seq < 999999) (tok f t : Int) (key : List UInt8) (hr : Rc.ok ⟨4, tok, 2, f, t, key⟩ = true) (nd : (s.es.map (·.key)).Nodup) :
    FnM Tryz.prog 87 0 [s.av, (Rc.mk 4 tok 2 f t key).av] [] (.tup [(s.app ⟨4, tok, 2, f, t, key⟩).own, .bool (s.takes ⟨4, tok, 2, f, t, key⟩)]) (s.app ⟨4, tok, 2, f, t, key⟩).objs 2 := by
  have c := l06Takes_fn s (by omega) (by omega) ⟨4, tok, 2, f, t, key⟩ hr
  have hc := l06Own_own s (by omega) (by omega)
  have hm := l06Own_mix s (by omega) (by omega)
  by_cases ht : s.takes ⟨4, tok, 2, f, t, key⟩ = true
  · have ea : s.app ⟨4, tok, 2, f, t, key⟩ = ({ s.tick with es := noE key s.es, ts := s.ts ++ [⟨s.seq + 1, key⟩] } : Sta).lower 2 t := by unfold Sta.app; rw [if_pos ht, if_neg (show ¬ ((4 : Int) = 1 ∨ (4 : Int) = 3) by decide), if_neg (show ¬ (4 : Int) = 2 by decide), if_pos rfl]
    obtain ⟨i, hi, hfi, hix⟩ := first_at (takes_4 ht rfl)
    have hcut : s.es.take i ++ s.es.drop (i + 1) = noE key s.es := by rw [noE_cut hi nd, hix]
    have hlen : (noE key s.es).length = i + (s.es.length - (i + 1)) := by rw [← hcut]; simp; omega
    rw [ht] at c ⊢
    rw [ea]
    refine FnM.introC Tryz.call87 Tryz.func87 rfl rfl ?_
    conv => whnf
    refine CallC.sca _ (c) ?_ ?_
    · exact rfl
    conv => whnf
    refine CallC.k [] hm rfl rfl (AVsle.refl _) trivial rfl ?_
    refine And.intro (inI64 (by omega) (by omega)) ?_
    have cf := l06First_fn { s with seq := s.seq + 1 } (by show s.es.length ≤ _; omega) 2
    rw [show fi (fun e : En => decide (e.tier = 2)) ({ s with seq := s.seq + 1 } : Sta).es = (i : Int) from hfi] at cf
    conv => whnf
    refine CallC.sca _ (cf) ?_ ?_
    · exact rfl
    refine DrawC.mkK 11 [(.inr 0, 5)] rfl (by kernel_rfl) ?_
    refine And.intro rfl ?_
    conv => whnf
    refine And.intro ⟨by omega, by omega⟩ ?_
    conv => whnf
    refine And.intro ⟨show (0 + ((i : Nat) : Int).toNat) * 40 ≤ 140737488355328 by omega, fun i hi => rfl⟩ ?_
    conv => whnf
    refine And.intro (inI64 (by omega) (by omega)) ?_
    conv => whnf
    refine And.intro ⟨by omega, by omega⟩ ?_
    conv => whnf
    refine And.intro ⟨show (0 + ((i : Nat) : Int).toNat + (s.es.length - (((i : Nat) : Int) + 1).toNat)) * 40 ≤ 140737488355328 by omega, fun i hi => rfl⟩ ?_
    refine And.intro ⟨show (s.ts.length + 1) * 24 ≤ 140737488355328 by omega, all1 rfl⟩ ?_
    refine And.intro ⟨show (0 : Int) ≤ 2 by omega, show (2 : Int) < ((3 : Nat) : Int) by omega⟩ ?_
    exact And.intro trivial ⟨[(15, 0), (17, 1)], rfl, AVle.refl _, ⟨MOle.arr (show 0 + ((i : Nat) : Int).toNat + (s.es.length - (((i : Nat) : Int) + 1).toNat) = (noE key s.es).length by omega) fun j hj => cut_rows hi (show (((i : Nat) : Int) + 1).toNat = i + 1 by omega) hcut (show 0 + ((i : Nat) : Int).toNat = i by omega) j (by have hj' : j < 0 + ((i : Nat) : Int).toNat + (s.es.length - (((i : Nat) : Int) + 1).toNat) := hj; omega), arr_next (f := Tb.row) rfl rfl, trivial⟩⟩
  · have ht : s.takes ⟨4, tok, 2, f, t, key⟩ = false := by simpa using ht
    have ea : s.app ⟨4, tok, 2, f, t, key⟩ = s.tick := by unfold Sta.app; rw [if_neg (by rw [ht]; simp)]
    rw [ht] at c ⊢
    rw [ea]
    refine FnM.introC Tryz.call87 Tryz.func87 rfl rfl ?_
    conv => whnf
    refine CallC.sca _ (c) ?_ ?_
    · exact rfl
    conv => whnf
    refine CallC.k [] hc rfl rfl (AVsle.refl _) trivial rfl ?_
    refine And.intro (inI64 (by omega) (by omega)) ?_
    exact And.intro trivial ⟨[(3, 0), (4, 1)], rfl, AVle.refl _, ⟨MOle.refl _, MOle.refl _, trivial⟩⟩
theorem specApply5 (s : Sta) (hL : s.es.length + s.ts.length < 4096) (hq : 0 ≤ s.seq ∧ s.seq < 999999) (tok tier f t : Int) (key : List UInt8) (hr : Rc.ok ⟨5, tok, tier, f, t, key⟩ = true) :
    FnM Tryz.prog 87 0 [s.av, (Rc.mk 5 tok tier f t key).av] [] (.tup [(s.app ⟨5, tok, tier, f, t, key⟩).own, .bool (s.takes ⟨5, tok, tier, f, t, key⟩)]) (s.app ⟨5, tok, tier, f, t, key⟩).objs 2 := by
  have c := l06Takes_fn s (by omega) (by omega) ⟨5, tok, tier, f, t, key⟩ hr
  have hc := l06Own_own s (by omega) (by omega)
  have hm := l06Own_mix s (by omega) (by omega)
  by_cases ht : s.takes ⟨5, tok, tier, f, t, key⟩ = true
  · have ea : s.app ⟨5, tok, tier, f, t, key⟩ = { s.tick with ts := noT key s.ts } := by unfold Sta.app; rw [if_pos ht, if_neg (show ¬ ((5 : Int) = 1 ∨ (5 : Int) = 3) by decide), if_neg (show ¬ (5 : Int) = 2 by decide), if_neg (show ¬ (5 : Int) = 4 by decide)]
    rw [ht] at c ⊢
    rw [ea]
    refine FnM.introC Tryz.call87 Tryz.func87 rfl rfl ?_
    conv => whnf
    refine CallC.sca _ (c) ?_ ?_
    · exact rfl
    conv => whnf
    refine CallC.k [] hc rfl rfl (AVsle.refl _) trivial rfl ?_
    refine And.intro (inI64 (by omega) (by omega)) ?_
    have hle : ∀ i, (noT key (s.ts.take i)).length ≤ i := fun i => Nat.le_trans (noT_len key _) (by simp; omega)
    refine LoopC.mk (fun i : Nat => i ≤ s.ts.length) (fun i => [(2, .bptr 0 0), (3, .bptr 1 0), (4, .bptr 2 0), (8, .osl 5), (9, .int .i64 i)])
      (fun i => [(0, .box [.int .i64 (s.seq + 1), .int .i64 s.fence, .osl 3, .osl 4, .int .i64 s.l0, .int .i64 s.l1, .int .i64 s.l2, .int .i64 s.h0, .int .i64 s.h1, .int .i64 s.h2]), (1, .box (Rc.mk 5 tok tier f t key).row), (2, .box sta0.nrow), (3, .arr 79 4 s.es.length fun i => (ix s.es i).row), (4, .arr 137 2 s.ts.length fun i => (ix s.ts i).row), (5, .arr 137 2 (noT key (s.ts.take i)).length fun j => (ix (noT key (s.ts.take i)) j).row)]) 6 (fun i => s.ts.length - i) 0
      ⟨Nat.zero_le _, [(0, 0), (1, 1), (2, 2), (3, 3), (4, 4), (5, 5)], rfl, rfl, ⟨AVle.refl _, AVle.refl _, AVle.refl _, AVle.refl _, AVle.refl _, trivial⟩, ⟨MOle.refl _, MOle.refl _, MOle.refl _, MOle.refl _, MOle.refl _, MOle.arr rfl fun i hi => absurd hi (Nat.not_lt_zero i), trivial⟩⟩ ?_
    intro i hi
    refine Grd.intro (fun h2 => ?_) (fun h2 => ?_)
    · have hin : i < s.ts.length := by have := of_decide_eq_true h2; omega
      have hsn : noT key (s.ts.take (i + 1)) = _ := filter_snoc (p := fun e : Tb => !decide (e.key = key)) hin
      refine DrawC.mk 9 rfl (by kernel_rfl) ?_
      refine And.intro (by omega) ?_
      refine Grd.intro (fun h3 => ?_) (fun h3 => ?_)
      · have h3 : (!((B (ix s.ts i).key).toList == (B key).toList)) = true := h3
        rw [B_eq] at h3
        rw [if_pos h3] at hsn
        have := hle i
        refine And.intro (by omega) ?_
        refine And.intro ⟨show ((noT key (s.ts.take i)).length + 1) * 24 ≤ 140737488355328 by omega, all1 rfl⟩ ?_
        refine And.intro (inI64 (by omega) (by omega)) ?_
        refine ⟨i + 1, hin, by omega, [(0, 0), (1, 1), (2, 2), (3, 3), (4, 4), (16, 5)], rfl, rfl, ⟨AVle.refl _, AVle.refl _, AVle.refl _, AVle.refl _, AVle.of_eq (congrArg (AV.int .i64) (by simp)), trivial⟩, ⟨MOle.refl _, MOle.refl _, MOle.refl _, MOle.refl _, MOle.refl _, arr_next (f := Tb.row) hsn rfl, trivial⟩⟩
      · have h3 : (!((B (ix s.ts i).key).toList == (B key).toList)) = false := h3
        rw [B_eq] at h3
        rw [if_neg (by rw [h3]; simp)] at hsn
        refine And.intro (inI64 (by omega) (by omega)) ?_
        refine ⟨i + 1, hin, by omega, [(0, 0), (1, 1), (2, 2), (3, 3), (4, 4), (5, 5)], rfl, rfl, ⟨AVle.refl _, AVle.refl _, AVle.refl _, AVle.refl _, AVle.of_eq (congrArg (AV.int .i64) (by simp)), trivial⟩, ⟨MOle.refl _, MOle.refl _, MOle.refl _, MOle.refl _, MOle.refl _, MOle.of_eq (show MO.arr 137 2 (noT key (s.ts.take i)).length (fun j => (ix (noT key (s.ts.take i)) j).row) = _ by rw [hsn]; rfl), trivial⟩⟩
    · have : i = s.ts.length := by have := of_decide_eq_false h2; omega
      subst this
      have eT : noT key (s.ts.take s.ts.length) = noT key s.ts := by rw [List.take_of_length_le (Nat.le_refl _)]
      exact And.intro trivial ⟨[(3, 0), (5, 1)], rfl, AVle.refl _, ⟨MOle.refl _, MOle.of_eq (show MO.arr 137 2 (noT key (s.ts.take s.ts.length)).length (fun j => (ix (noT key (s.ts.take s.ts.length)) j).row) = _ by rw [eT]), trivial⟩⟩
  · have ht : s.takes ⟨5, tok, tier, f, t, key⟩ = false := by simpa using ht
    have ea : s.app ⟨5, tok, tier, f, t, key⟩ = s.tick := by unfold Sta.app; rw [if_neg (by rw [ht]; simp)]
    rw [ht] at c ⊢
    rw [ea]
    refine FnM.introC Tryz.call87 Tryz.func87 rfl rfl ?_
    conv => whnf
    refine CallC.sca _ (c) ?_ ?_
    · exact rfl
    conv => whnf
    refine CallC.k [] hc rfl rfl (AVsle.refl _) trivial rfl ?_
    refine And.intro (inI64 (by omega) (by omega)) ?_
    exact And.intro trivial ⟨[(3, 0), (4, 1)], rfl, AVle.refl _, ⟨MOle.refl _, MOle.refl _, trivial⟩⟩
theorem l06Apply_own (s : Sta) (hL : s.es.length + s.ts.length < 4096) (hq : 0 ≤ s.seq ∧ s.seq < 999999) (nd : s.keys.Nodup) (r : Rc) (hr : r.ok = true) :
    FnM Tryz.prog 87 0 [s.av, r.av] [] (.tup [(s.app r).own, .bool (s.takes r)]) (s.app r).objs 2 := by
  have nde : (s.es.map (·.key)).Nodup := (List.nodup_append.1 nd).1
  obtain ⟨k, tok, tier, f, t, key⟩ := r
  rcases kinds hr with ⟨rfl, rfl⟩ | rfl | ⟨rfl, h, hf⟩ | ⟨rfl, h⟩ | rfl
  · exact specApply1 s hL hq tok f t key hr
  · exact specApply2 s hL hq tok tier f t key hr
  · rcases h with rfl | rfl
    · exact specApply3_1 s hL hq tok f t key hr
    · exact specApply3_2 s hL hq tok f t key hr
  · rcases h with rfl | rfl | rfl
    · exact specApply4_0 s hL hq tok f t key hr nde
    · exact specApply4_1 s hL hq tok f t key hr nde
    · exact specApply4_2 s hL hq tok f t key hr nde
  · exact specApply5 s hL hq tok tier f t key hr
theorem l06Apply_fn (s : Sta) (hL : s.es.length + s.ts.length < 4096) (hq : 0 ≤ s.seq ∧ s.seq < 999999) (nd : s.keys.Nodup) (r : Rc) (hr : r.ok = true) : VFn Tryz.prog 87 [s.av, r.av] (.tup [(s.app r).av, .bool (s.takes r)]) := (l06Apply_own s hL hq nd r hr).vfn
theorem apply_frz (s : Sta) (hL : s.es.length + s.ts.length < 4096) (hq : 0 ≤ s.seq ∧ s.seq < 999999) (r : Rc) (hr : r.ok = true) : VFn Tryz.prog 120 [s.av, r.av] (.tup [(s.app r).av, .bool (s.takes r), .int .i64 0]) := (apply_fn s hL hq r hr).vfn
end Go.Proofs.YtgiaaaejobhngaaGreatDoor
set_option linter.unusedVariables false
set_option linter.constructorNameAsVariable false
set_option linter.unusedSimpArgs false
set_option maxRecDepth 20000
namespace Go.Proofs.YtgiaaaejobhngaaGreatDoor
open Go Go.Vw

end Go.Proofs.YtgiaaaejobhngaaGreatDoor
set_option linter.unusedVariables false
set_option linter.constructorNameAsVariable false
set_option linter.unusedSimpArgs false
set_option maxRecDepth 20000
namespace Go.Proofs.YtgiaaaejobhngaaGreatDoor
open Go Go.Vw

end Go.Proofs.YtgiaaaejobhngaaGreatDoor
set_option linter.unusedVariables false
set_option linter.constructorNameAsVariable false
set_option linter.unusedSimpArgs false
set_option maxRecDepth 20000
namespace Go.Proofs.YtgiaaaejobhngaaGreatDoor
open Go Go.Vw

end Go.Proofs.YtgiaaaejobhngaaGreatDoor
set_option linter.unusedVariables false
set_option linter.constructorNameAsVariable false
set_option linter.unusedSimpArgs false
set_option maxRecDepth 20000
namespace Go.Proofs.YtgiaaaejobhngaaGreatDoor
open Go Go.Vw

end Go.Proofs.YtgiaaaejobhngaaGreatDoor
set_option linter.unusedVariables false
set_option linter.constructorNameAsVariable false
set_option linter.unusedSimpArgs false
set_option maxRecDepth 20000
namespace Go.Proofs.YtgiaaaejobhngaaGreatDoor
open Go Go.Vw

def Sta.orow (s : Sta) (a b : Nat) : List AV := [.int .i64 s.seq, .int .i64 s.fence, .osl a, .osl b, .int .i64 s.l0, .int .i64 s.l1, .int .i64 s.l2, .int .i64 s.h0, .int .i64 s.h1, .int .i64 s.h2]
end Go.Proofs.YtgiaaaejobhngaaGreatDoor
set_option linter.unusedVariables false
set_option linter.constructorNameAsVariable false
set_option linter.unusedSimpArgs false
set_option maxRecDepth 20000
namespace Go.Proofs.YtgiaaaejobhngaaGreatDoor
open Go Go.Vw

def rlC (x : Sto) : Int := if x.ok = true then 0 else 1
def rlS (x : Sto) : Sta := if x.ok = true then logS x else sta0
end Go.Proofs.YtgiaaaejobhngaaGreatDoor
set_option linter.unusedVariables false
set_option linter.constructorNameAsVariable false
set_option linter.unusedSimpArgs false
set_option maxRecDepth 20000
namespace Go.Proofs.YtgiaaaejobhngaaGreatDoor
open Go Go.Vw

structure Src where
  code : List UInt8
  at_ : Int
  seed : Int
abbrev byts (L : List UInt8) : AV := .sl 1 L.length fun i => [.int .u8 ((ix L i).toNat : Int)]
def Src.row (s : Src) : List AV := [byts s.code, .int .i64 s.at_, .int .i64 s.seed]
def Src.ok (s : Src) (k : Int) : Prop := (0 ≤ s.at_ ∧ s.at_ ≤ k) ∧ (0 ≤ s.seed ∧ s.seed < 2147483648) ∧ s.code.length ≤ 1000000000
def Src.chr (s : Src) : Int := (ix s.code (s.at_ + 1 - 1).toNat).toNat
def Src.sd (s : Src) : Int := (s.seed * 1103515245 + 12345).tmod 2147483648
def Src.byte (s : Src) : Int × Src :=
  if s.at_ + 1 ≤ s.code.length then (s.chr, { s with at_ := s.at_ + 1, seed := (s.seed * 31 + s.chr + 7).tmod 2147483648 })
  else if 3000 < s.at_ + 1 then (0, { s with at_ := s.at_ + 1 })
  else ((s.sd.tdiv 65536).tmod 256, { s with at_ := s.at_ + 1, seed := s.sd })
theorem tmod_b {n m : Int} (h : 0 ≤ n) (hm : 0 < m) : 0 ≤ n.tmod m ∧ n.tmod m < m := by
  rw [Int.tmod_eq_emod_of_nonneg h]
  exact ⟨Int.emod_nonneg _ (by omega), Int.emod_lt_of_pos _ hm⟩
theorem tdiv_b {n : Int} {m : Int} (h : 0 ≤ n) (hm : 0 < m) : 0 ≤ n.tdiv m ∧ n.tdiv m ≤ n := by
  rw [Int.tdiv_eq_ediv_of_nonneg h]
  exact ⟨Int.ediv_nonneg h (by omega), Int.ediv_le_self _ h⟩
theorem chr_b (s : Src) : 0 ≤ s.chr ∧ s.chr ≤ 255 := by
  unfold Src.chr
  have := (ix s.code (s.at_ + 1 - 1).toNat).toNat_lt
  omega
theorem byte_b (s : Src) {k : Int} (h : s.ok k) : (0 ≤ s.byte.1 ∧ s.byte.1 ≤ 255) ∧ s.byte.2.ok (k + 1) ∧ s.byte.2.code = s.code := by
  obtain ⟨⟨a0, a1⟩, ⟨s0, s1⟩, hc⟩ := h
  have hch := chr_b s
  have hsd := tmod_b (n := s.seed * 1103515245 + 12345) (m := 2147483648) (by omega) (by omega)
  unfold Src.byte
  split
  · refine ⟨hch, ⟨⟨by simp only; omega, by simp only; omega⟩, ?_, hc⟩, rfl⟩
    exact tmod_b (by omega) (by omega)
  · split
    · exact ⟨by simp, ⟨⟨by simp only; omega, by simp only; omega⟩, ⟨s0, s1⟩, hc⟩, rfl⟩
    · refine ⟨?_, ⟨⟨by simp only; omega, by simp only; omega⟩, hsd, hc⟩, rfl⟩
      have h1 := tdiv_b (n := s.sd) (m := 65536) hsd.1 (by omega)
      have h2 := tmod_b (n := s.sd.tdiv 65536) (m := 256) h1.1 (by omega)
      simp only; omega
theorem byte_fn (s : Src) (h : s.ok 1000000000) : FnM Tryz.prog 208 1 [.bptr 0 0] [(0, .box s.row)] (.int .i64 s.byte.1) [(0, .box s.byte.2.row)] 1 := by
  have h' := h
  obtain ⟨⟨a0, a1⟩, ⟨s0, s1⟩, hc⟩ := h
  have hch := chr_b s
  have hsd := tmod_b (n := s.seed * 1103515245 + 12345) (m := 2147483648) (by omega) (by omega)
  obtain ⟨R, hR⟩ : ∃ R, R = s.byte := ⟨_, rfl⟩
  rw [← hR]
  refine FnM.introC Tryz.call208 Tryz.func208 rfl rfl ?_
  refine And.intro (inI64 (by omega) (by omega)) ?_
  refine DrawC.mk 10 rfl (by kernel_rfl) ?_
  refine Grd.intro (fun g1 => ?_) (fun g1 => ?_)
  · have g1 : s.at_ + 1 ≤ s.code.length := of_decide_eq_true g1
    have hR' : R = (s.chr, { s with at_ := s.at_ + 1, seed := (s.seed * 31 + s.chr + 7).tmod 2147483648 }) := by rw [hR, Src.byte, if_pos g1]
    refine DrawC.mk 23 rfl (by kernel_rfl) ?_
    refine And.intro (inI64 (by omega) (by omega)) ?_
    refine And.intro (inI64 (by omega) (by omega)) ?_
    refine And.intro ⟨by omega, by omega⟩ ?_
    refine And.intro (show inI .i64 s.chr from inI64 (by omega) (by omega)) ?_
    refine And.intro (show inI .i64 (s.seed * 31 + s.chr) from inI64 (by omega) (by omega)) ?_
    refine And.intro (show inI .i64 (s.seed * 31 + s.chr + 7) from inI64 (by omega) (by omega)) ?_
    refine And.intro (by decide) ?_
    refine DrawC.mk 13 rfl (by kernel_rfl) ?_
    refine And.intro (inI64 (by omega) (by omega)) ?_
    refine And.intro ⟨by omega, by omega⟩ ?_
    refine And.intro (show inI .i64 s.chr from inI64 (by omega) (by omega)) ?_
    subst hR'
    exact And.intro trivial ⟨[(0, 0)], rfl, AVle.refl _, ⟨MOle.refl _, trivial⟩⟩
  · have g1 : ¬ s.at_ + 1 ≤ s.code.length := of_decide_eq_false g1
    refine Grd.intro (fun g2 => ?_) (fun g2 => ?_)
    · have g2 : 3000 < s.at_ + 1 := of_decide_eq_true g2
      have hR' : R = (0, { s with at_ := s.at_ + 1 }) := by rw [hR, Src.byte, if_neg g1, if_pos g2]
      subst hR'
      exact And.intro trivial ⟨[(0, 0)], rfl, AVle.refl _, ⟨MOle.refl _, trivial⟩⟩
    · have g2 : ¬ 3000 < s.at_ + 1 := of_decide_eq_false g2
      have hR' : R = ((s.sd.tdiv 65536).tmod 256, { s with at_ := s.at_ + 1, seed := s.sd }) := by rw [hR, Src.byte, if_neg g1, if_neg g2]
      refine And.intro (inI64 (by omega) (by omega)) ?_
      refine And.intro (inI64 (by omega) (by omega)) ?_
      refine And.intro (by decide) ?_
      have h1 := tdiv_b (n := s.sd) (m := 65536) hsd.1 (by omega)
      have hsd' : 0 ≤ s.sd ∧ s.sd < 2147483648 := hsd
      refine And.intro ⟨by decide, show inI .i64 (s.sd.tdiv 65536) from inI64 (by omega) (by omega)⟩ ?_
      refine And.intro (by decide) ?_
      subst hR'
      exact And.intro trivial ⟨[(0, 0)], rfl, AVle.refl _, ⟨MOle.refl _, trivial⟩⟩
def Src.next (s : Src) (n : Int) : Int × Src :=
  if n ≤ 1 then (0, s)
  else if n ≤ 256 then (s.byte.1.tmod n, s.byte.2)
  else ((s.byte.1 * 65536 + s.byte.2.byte.1 * 256 + s.byte.2.byte.2.byte.1).tmod n, s.byte.2.byte.2.byte.2)
theorem next_b (s : Src) {k : Int} (h : s.ok k) (hk : 0 ≤ k) (n : Int) : (0 ≤ (s.next n).1 ∧ (1 ≤ n → (s.next n).1 < n)) ∧ (s.next n).2.ok (k + 3) ∧ (s.next n).2.code = s.code := by
  have h1 := byte_b s h
  have h2 := byte_b s.byte.2 h1.2.1
  have h3 := byte_b s.byte.2.byte.2 h2.2.1
  have w : ∀ (x : Src) (a b : Int), x.ok a → a ≤ b → x.ok b := fun x a b hx hab => ⟨⟨hx.1.1, by have := hx.1.2; omega⟩, hx.2⟩
  unfold Src.next
  split
  · exact ⟨⟨by simp, fun _ => by simp only; omega⟩, w s k _ h (by omega), rfl⟩
  · split
    · have := tmod_b (n := s.byte.1) (m := n) h1.1.1 (by omega)
      exact ⟨⟨this.1, fun _ => this.2⟩, w _ _ _ h1.2.1 (by omega), h1.2.2⟩
    · have := tmod_b (n := s.byte.1 * 65536 + s.byte.2.byte.1 * 256 + s.byte.2.byte.2.byte.1) (m := n) (by omega) (by omega)
      exact ⟨⟨this.1, fun _ => this.2⟩, w _ _ _ h3.2.1 (by omega), h3.2.2.trans (h2.2.2.trans h1.2.2)⟩
theorem next_fn (s : Src) (n : Int) (h : s.ok 100000000) : FnM Tryz.prog 144 1 [.bptr 0 0, .int .i64 n] [(0, .box s.row)] (.int .i64 (s.next n).1) [(0, .box (s.next n).2.row)] 1 := by
  have h1 := byte_b s h
  have h2 := byte_b s.byte.2 h1.2.1
  have h3 := byte_b s.byte.2.byte.2 h2.2.1
  have w : ∀ (x : Src) (a : Int), x.ok a → a ≤ 1000000000 → x.ok 1000000000 := fun x a hx hab => ⟨⟨hx.1.1, by have := hx.1.2; omega⟩, hx.2⟩
  obtain ⟨R, hR⟩ : ∃ R, R = s.next n := ⟨_, rfl⟩
  rw [← hR]
  refine FnM.introC Tryz.call144 Tryz.func144 rfl rfl ?_
  refine Grd.intro (fun g1 => ?_) (fun g1 => ?_)
  · have g1 : n ≤ 1 := of_decide_eq_true g1
    rw [Src.next, if_pos g1] at hR
    subst hR
    exact And.intro trivial ⟨[(0, 0)], rfl, AVle.refl _, ⟨MOle.refl _, trivial⟩⟩
  have g1 : ¬ n ≤ 1 := of_decide_eq_false g1
  refine Grd.intro (fun g2 => ?_) (fun g2 => ?_)
  · have g2 : n ≤ 256 := of_decide_eq_true g2
    rw [Src.next, if_neg g1, if_pos g2] at hR
    conv => whnf
    refine CallC.k [(0, 0)] (byte_fn s (w _ _ h (by omega))) rfl rfl (AVsle.refl _) ⟨MOle.refl _, trivial⟩ rfl ?_
    refine And.intro (show n ≠ 0 by omega) ?_
    subst hR
    exact And.intro trivial ⟨[(0, 0)], rfl, AVle.refl _, ⟨MOle.refl _, trivial⟩⟩
  have g2 : ¬ n ≤ 256 := of_decide_eq_false g2
  rw [Src.next, if_neg g1, if_neg g2] at hR
  conv => whnf
  refine CallC.k [(0, 0)] (byte_fn s (w _ _ h (by omega))) rfl rfl (AVsle.refl _) ⟨MOle.refl _, trivial⟩ rfl ?_
  conv => whnf
  refine CallC.k [(0, 0)] (byte_fn s.byte.2 (w _ _ h1.2.1 (by omega))) rfl rfl (AVsle.refl _) ⟨MOle.refl _, trivial⟩ rfl ?_
  conv => whnf
  refine CallC.k [(0, 0)] (byte_fn s.byte.2.byte.2 (w _ _ h2.2.1 (by omega))) rfl rfl (AVsle.refl _) ⟨MOle.refl _, trivial⟩ rfl ?_
  refine And.intro (inI64 (by omega) (by omega)) ?_
  refine And.intro (inI64 (by omega) (by omega)) ?_
  refine And.intro (inI64 (by omega) (by omega)) ?_
  refine And.intro (inI64 (by omega) (by omega)) ?_
  refine And.intro (show n ≠ 0 by omega) ?_
  subst hR
  exact And.intro trivial ⟨[(0, 0)], rfl, AVle.refl _, ⟨MOle.refl _, trivial⟩⟩
end Go.Proofs.YtgiaaaejobhngaaGreatDoor
set_option linter.unusedVariables false
set_option linter.constructorNameAsVariable false
set_option linter.unusedSimpArgs false
set_option maxRecDepth 20000
namespace Go.Proofs.YtgiaaaejobhngaaGreatDoor
open Go Go.Vw

abbrev SS := List Smp × Int × Src
def smpStep (x : SS) : SS :=
  let f := x.2.1 + (x.2.2.next 4).1
  let a := (x.2.2.next 4).2.next 40
  let b := a.2.next 12
  let c := b.2.next 2
  let v := if b.1.tdiv 10 * (1 + c.1) = 0 then a.1 - 10 else if b.1.tdiv 10 * (1 + c.1) = 1 then 1000000 else -1000000
  (x.1 ++ [⟨f, v⟩], f + 1, c.2)
def smpIt : Nat → SS → SS
  | 0, x => x
  | k + 1, x => smpStep (smpIt k x)
def SSok (x : SS) (n : Nat) (k : Int) : Prop := x.1.length = n ∧ (∀ e ∈ x.1, -1000000 ≤ e.v ∧ e.v ≤ 1000000) ∧ x.2.2.ok k ∧ (0 ≤ x.2.1 ∧ x.2.1 ≤ k)
theorem wk {x : Src} {a b : Int} (hx : x.ok a) (h : a ≤ b) : x.ok b := ⟨⟨hx.1.1, by have := hx.1.2; omega⟩, hx.2⟩
theorem step_ok {x : SS} {n : Nat} {k : Int} (h : SSok x n k) (hk : 0 ≤ k) : SSok (smpStep x) (n + 1) (k + 12) := by
  obtain ⟨h1, h2, h3, h4⟩ := h
  have n1 := next_b x.2.2 h3 hk 4
  have n2 := next_b (x.2.2.next 4).2 n1.2.1 (by omega) 40
  have n3 := next_b ((x.2.2.next 4).2.next 40).2 n2.2.1 (by omega) 12
  have n4 := next_b (((x.2.2.next 4).2.next 40).2.next 12).2 n3.2.1 (by omega) 2
  have a1 := n1.1.2 (by omega)
  have a2 := n2.1.2 (by omega)
  unfold smpStep
  refine ⟨by simp [h1], fun e he => ?_, wk n4.2.1 (by omega), by simp only; omega⟩
  simp only [List.mem_append, List.mem_cons, List.not_mem_nil, or_false] at he
  rcases he with he | he
  · exact h2 e he
  · subst he
    simp only
    have := n2.1.1
    split
    · omega
    · split <;> omega
theorem it_ok {x : SS} {k : Int} (h : SSok x 0 k) (hk : 0 ≤ k) : ∀ n, SSok (smpIt n x) n (k + 12 * n)
  | 0 => by simpa [smpIt] using h
  | n + 1 => by
    have := step_ok (it_ok h hk n) (by omega)
    have e : k + 12 * ((n + 1 : Nat) : Int) = k + 12 * (n : Int) + 12 := by omega
    rw [e]; exact this
def Src.samples (s : Src) (f n : Int) : SS := smpIt (s.next (n + 1)).1.toNat ([], f, (s.next (n + 1)).2)
end Go.Proofs.YtgiaaaejobhngaaGreatDoor
set_option linter.unusedVariables false
set_option linter.constructorNameAsVariable false
set_option linter.unusedSimpArgs false
set_option maxRecDepth 20000
namespace Go.Proofs.YtgiaaaejobhngaaGreatDoor
open Go Go.Vw

def Ag.mrg (a b : Ag) : Ag := if a.c = 0 then b else if b.c = 0 then a else ⟨a.c + b.c, a.s + b.s, if b.mn < a.mn then b.mn else a.mn, if a.mx < b.mx then b.mx else a.mx, a.f, b.l⟩
def Ag.cells (a : Ag) : List AV := [.int .i64 a.c, .int .i64 a.s, .int .i64 a.mn, .int .i64 a.mx, .int .i64 a.f, .int .i64 a.l]
def one (v : Int) : Ag := ⟨1, v, v, v, v, v⟩
def aggL (L : List Smp) : Ag := L.foldl (fun a s => a.mrg (one s.v)) default
theorem aggL_snoc {L : List Smp} {i : Nat} (h : i < L.length) : aggL (L.take (i + 1)) = (aggL (L.take i)).mrg (one (ix L i).v) := by
  unfold aggL; rw [take_snoc h, List.foldl_append]; rfl
def Ag.B (a : Ag) (n : Int) : Prop := a.c = n ∧ (-1000000 * n ≤ a.s ∧ a.s ≤ 1000000 * n) ∧ (n = 0 → a = default) ∧ (0 < n → a.some = true)
theorem mrg_B {a : Ag} {n v : Int} (h : a.B n) (hn : 0 ≤ n ∧ n < 100000) (hv : -1000000 ≤ v ∧ v ≤ 1000000) : (a.mrg (one v)).B (n + 1) := by
  obtain ⟨h1, h2, h3, h4⟩ := h
  unfold Ag.mrg
  by_cases h0 : a.c = 0
  · rw [if_pos h0]
    refine ⟨by simp only [one]; omega, by simp only [one]; omega, fun h => by omega, fun _ => ?_⟩
    unfold Ag.some one
    simp [within]; omega
  · rw [if_neg h0, if_neg (show ¬ (one v).c = 0 by simp [one])]
    have h5 := h4 (by omega)
    unfold Ag.some at h5
    simp [within] at h5
    refine ⟨by simp only [one]; omega, by simp only [one]; omega, fun h => by omega, fun _ => ?_⟩
    unfold Ag.some one
    simp only [within]
    have e1 : ∀ m, m ≤ a.mn → m ≤ v → (a.c + 1) * m ≤ a.s + v := fun m q1 q2 => by
      have : a.c * m ≤ a.c * a.mn := Int.mul_le_mul_of_nonneg_left q1 (by omega)
      have : (a.c + 1) * m = a.c * m + m := by rw [Int.add_mul]; omega
      omega
    have e2 : ∀ m, a.mx ≤ m → v ≤ m → a.s + v ≤ (a.c + 1) * m := fun m q1 q2 => by
      have : a.c * a.mx ≤ a.c * m := Int.mul_le_mul_of_nonneg_left q1 (by omega)
      have : (a.c + 1) * m = a.c * m + m := by rw [Int.add_mul]; omega
      omega
    by_cases m1 : v < a.mn <;> by_cases m2 : a.mx < v
    · rw [if_pos m1, if_pos m2]
      have := e1 v (by omega) (by omega)
      have := e2 v (by omega) (by omega)
      simp; omega
    · rw [if_pos m1, if_neg m2]
      have := e1 v (by omega) (by omega)
      have := e2 a.mx (by omega) (by omega)
      simp; omega
    · rw [if_neg m1, if_pos m2]
      have := e1 a.mn (by omega) (by omega)
      have := e2 v (by omega) (by omega)
      simp; omega
    · rw [if_neg m1, if_neg m2]
      have := e1 a.mn (by omega) (by omega)
      have := e2 a.mx (by omega) (by omega)
      simp; omega
theorem aggL_B {L : List Smp} (hL : L.length ≤ 100000) (hv : ∀ e ∈ L, -1000000 ≤ e.v ∧ e.v ≤ 1000000) : ∀ i : Nat, i ≤ L.length → (aggL (L.take i)).B i
  | 0, _ => ⟨rfl, show -1000000 * ((0 : Nat) : Int) ≤ 0 ∧ (0 : Int) ≤ 1000000 * ((0 : Nat) : Int) by omega, fun _ => rfl, fun h => absurd h (by simp)⟩
  | i + 1, h => by
    rw [aggL_snoc h]
    have := mrg_B (aggL_B hL hv i (by omega)) ⟨by omega, by omega⟩ (hv _ (getD_mem (L := L) h))
    simpa using this
def Src.agg (s : Src) : Ag := aggL (s.samples 0 6).1
def srcOf (code : List UInt8) : Src := ⟨code, 0, (code.length : Int).tmod 1000⟩
end Go.Proofs.YtgiaaaejobhngaaGreatDoor
