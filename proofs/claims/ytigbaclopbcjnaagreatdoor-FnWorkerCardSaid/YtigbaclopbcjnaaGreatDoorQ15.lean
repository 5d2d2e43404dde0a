/- Contracts of functions that the claim reaches, and the plain law of what they compute; each theorem bears its own conditions. -/
import Derived.Test.YtigbaclopbcjnaaGreatDoorQ14
import Derived.Test.YtigbaclopbcjnaaGreatDoorQ11
import Derived.Test.YtigbaclopbcjnaaGreatDoorQ13
import Derived.Test.YtigbaclopbcjnaaGreatDoorQ6
set_option linter.unusedVariables false
set_option linter.constructorNameAsVariable false
set_option linter.unusedSimpArgs false
set_option maxRecDepth 20000
namespace Go.Proofs.YtigbaclopbcjnaaGreatDoor
open Go Go.Vw
theorem hi_lift (s : Sta) (k v j : Int) : (s.lift k v).hi j = if (k = 0 ∧ j = 0) ∨ (k = 1 ∧ j = 1) ∨ ((k ≠ 0 ∧ k ≠ 1) ∧ (j ≠ 0 ∧ j ≠ 1)) then v else s.hi j := by
 unfold Sta.lift Sta.hi
 by_cases h0 : k = 0
 · subst h0
   by_cases j0 : j = 0
   · simp [j0]
   · simp [j0]
 · by_cases h1 : k = 1
   · subst h1
     by_cases j0 : j = 0
     · simp [j0]
     · by_cases j1 : j = 1
       · simp [j1]
       · simp [j0, j1]
   · by_cases j0 : j = 0
     · simp [h0, h1, j0]
     · by_cases j1 : j = 1
       · simp [h0, h1, j1]
       · simp [h0, h1, j0, j1]
structure AppI (s s' : Sta) : Prop where
 seq : s'.seq = s.seq + 1
 fen : s.fence ≤ s'.fence
 hi : ∀ k, s.hi k ≤ s'.hi k
theorem rc_tier {r : Rc} (h : r.ok = true) : (r.k = 1 → r.tier = 0 ∧ r.en.ok = true) ∧ (r.k = 3 → 0 < r.tier ∧ r.en.ok = true) ∧ (r.k = 4 → r.en.ok = true) := by
 unfold Rc.ok at h
 refine ⟨fun e => ?_, fun e => ?_, fun e => ?_⟩
 · rw [if_pos e] at h
   simp only [Bool.and_eq_true, decide_eq_true_eq] at h
   exact h.2
 · rw [if_neg (by omega), if_neg (by omega), if_pos e] at h
   simp only [Bool.and_eq_true, decide_eq_true_eq] at h
   exact h.2
 · rw [if_neg (by omega), if_neg (by omega), if_neg (by omega), if_pos e] at h
   simp only [Bool.and_eq_true, decide_eq_true_eq] at h
   exact h.2
theorem wd_b (k : Int) : 1 ≤ wd k ∧ wd k ≤ 20 := by
 unfold wd
 split
 · omega
 · split <;> omega
theorem app_no {s : Sta} {r : Rc} (h : s.takes r = false) : s.app r = s.tick := by
 unfold Sta.app
 rw [h, if_neg (by simp)]
theorem app_1 {s : Sta} {r : Rc} (h : s.takes r = true) (hk : r.k = 1) (ht : r.tier = 0) : s.app r = { s with seq := s.seq + 1, es := s.es ++ [r.en], h0 := r.t } := by
 unfold Sta.app
 rw [if_pos h, if_pos (.inl hk), ht]
 rfl
theorem app_2 {s : Sta} {r : Rc} (h : s.takes r = true) (hk : r.k = 2) : s.app r = { s with seq := s.seq + 1, fence := r.tok } := by
 unfold Sta.app
 rw [if_pos h, if_neg (by omega), if_pos hk]
 rfl
theorem app_3 {s : Sta} {r : Rc} (h : s.takes r = true) (hk : r.k = 3) : s.app r = ({ s with seq := s.seq + 1, es := s.es ++ [r.en] } : Sta).lift r.tier r.t := by
 unfold Sta.app
 rw [if_pos h, if_pos (.inr hk)]
 rfl
theorem app_4 {s : Sta} {r : Rc} (h : s.takes r = true) (hk : r.k = 4) : s.app r = ({ s with seq := s.seq + 1, es := noE r.key s.es, ts := s.ts ++ [⟨s.seq + 1, r.key⟩] } : Sta).lower r.tier r.t := by
 unfold Sta.app
 rw [if_pos h, if_neg (by omega), if_neg (by omega), if_pos hk]
 rfl
theorem app_5 {s : Sta} {r : Rc} (h : s.takes r = true) (hk : r.k = 5) : s.app r = { s with seq := s.seq + 1, ts := noT r.key s.ts } := by
 unfold Sta.app
 rw [if_pos h, if_neg (by omega), if_neg (by omega), if_neg (by omega)]
 rfl
structure Tk1 (s : Sta) (r : Rc) : Prop where
 f : r.f = s.h0
 n : kN r.key = s.seq + 1
structure Tk3 (s : Sta) (r : Rc) : Prop where
 tok : r.tok = s.fence
 f : r.f = s.hi r.tier
 n : kN r.key = r.f
 w : kW r.key = r.tok
 t : r.t = r.f + wd r.tier
 hh : r.t ≤ s.hi (r.tier - 1)
structure Tk4 (s : Sta) (r : Rc) : Prop where
 tok : r.tok = s.fence
 e : r.en ∈ s.es
 t : r.tier = 2 ∨ r.t ≤ s.hi (r.tier + 1)
theorem tkF1 {s : Sta} {r : Rc} (h : s.takes r = true) (hk : r.k = 1) : Tk1 s r := by
 unfold Sta.takes at h
 rw [if_pos hk] at h
 simp only [Bool.and_eq_true, decide_eq_true_eq] at h
 exact ⟨h.1, h.2.1⟩
theorem tkF2 {s : Sta} {r : Rc} (h : s.takes r = true) (hk : r.k = 2) : s.fence < r.tok := by
 unfold Sta.takes at h
 rw [if_neg (by omega), if_pos hk] at h
 exact of_decide_eq_true h
theorem tkF3 {s : Sta} {r : Rc} (h : s.takes r = true) (hk : r.k = 3) : Tk3 s r := by
 unfold Sta.takes at h
 rw [if_neg (by omega), if_neg (by omega), if_pos hk] at h
 simp only [Bool.and_eq_true, decide_eq_true_eq] at h
 obtain ⟨h1, h2, h3, h4, h5, h6, _⟩ := h
 exact ⟨h1, h2, h3, h4, h5, h6⟩
theorem tkF4 {s : Sta} {r : Rc} (h : s.takes r = true) (hk : r.k = 4) : Tk4 s r := by
 unfold Sta.takes at h
 rw [if_neg (by omega), if_neg (by omega), if_neg (by omega), if_pos hk] at h
 simp only [Bool.and_eq_true, decide_eq_true_eq, Bool.or_eq_true] at h
 obtain ⟨h1, h2, h3⟩ := h
 refine ⟨h1, ?_, h3⟩
 unfold headIs at h2
 cases hL : ofT s.es r.tier with
 | nil => rw [hL] at h2; cases h2
 | cons a l =>
   rw [hL] at h2
   have h2 := of_decide_eq_true h2
   rw [← h2]
   exact (List.mem_filter.1 (show a ∈ ofT s.es r.tier by rw [hL]; simp)).1
theorem rc_kinds {r : Rc} (h : r.ok = true) : r.k = 1 ∨ r.k = 2 ∨ r.k = 3 ∨ r.k = 4 ∨ r.k = 5 := by
 unfold Rc.ok at h
 by_cases h1 : r.k = 1
 · exact .inl h1
 by_cases h2 : r.k = 2
 · exact .inr (.inl h2)
 by_cases h3 : r.k = 3
 · exact .inr (.inr (.inl h3))
 by_cases h4 : r.k = 4
 · exact .inr (.inr (.inr (.inl h4)))
 by_cases h5 : r.k = 5
 · exact .inr (.inr (.inr (.inr h5)))
 rw [if_neg h1, if_neg h2, if_neg h3, if_neg h4, if_neg h5] at h
 cases h
theorem tier_12 {r : Rc} (h : r.ok = true) (hk : r.k = 3) : r.tier = 1 ∨ r.tier = 2 := by
 obtain ⟨a, b⟩ := (rc_tier h).2.1 hk
 have := (en_tier b).1
 have e : r.en.tier = r.tier := rfl
 omega
theorem app_mono {s : Sta} {r : Rc} (hr : r.ok = true) : AppI s (s.app r) := by
 cases ht : s.takes r with
 | false => rw [app_no ht]; exact ⟨rfl, Int.le_refl _, fun _ => Int.le_refl _⟩
 | true =>
   rcases rc_kinds hr with hk | hk | hk | hk | hk
   · obtain ⟨a, b⟩ := (rc_tier hr).1 hk
     have T := tkF1 ht hk
     have e := (en_tier b).2
     rw [app_1 ht hk a]
     refine ⟨rfl, Int.le_refl _, fun k => ?_⟩
     have := T.f
     have e2 : r.en.t = r.t := rfl
     have e1 : r.en.f = r.f := rfl
     unfold Sta.hi
     by_cases h0 : k = 0
     · simp only [h0, if_true]; omega
     · simp only [h0, if_false]; exact Int.le_refl _
   · have := tkF2 ht hk
     rw [app_2 ht hk]
     exact ⟨rfl, by show s.fence ≤ r.tok; omega, fun _ => Int.le_refl _⟩
   · have T := tkF3 ht hk
     rw [app_3 ht hk]
     have l := lift_es ({ s with seq := s.seq + 1, es := s.es ++ [r.en] } : Sta) r.tier r.t
     refine ⟨l.2.2.1, by rw [l.2.2.2]; exact Int.le_refl _, fun k => ?_⟩
     rw [hi_lift]
     have h1 := T.f
     have h2 := T.t
     have h3 := wd_b r.tier
     split
     · rename_i hc
       have hk2 : s.hi k = s.hi r.tier := by
        have := tier_12 hr hk
        unfold Sta.hi
        rcases hc with ⟨c1, c2⟩ | ⟨c1, c2⟩ | ⟨c1, c2⟩
        · rw [c1, c2]
        · rw [c1, c2]
        · rw [if_neg c1.1, if_neg c1.2, if_neg c2.1, if_neg c2.2]
       omega
     · exact Int.le_refl _
   · rw [app_4 ht hk]
     have l := lower_es ({ s with seq := s.seq + 1, es := noE r.key s.es, ts := s.ts ++ [⟨s.seq + 1, r.key⟩] } : Sta) r.tier r.t
     refine ⟨l.2.2.1, by rw [l.2.2.2]; exact Int.le_refl _, fun k => ?_⟩
     have : ∀ (q : Sta) a b, (q.lower a b).hi k = q.hi k := fun q a b => by
      unfold Sta.lower
      split
      · rfl
      · split <;> rfl
     rw [this]
     exact Int.le_refl _
   · rw [app_5 ht hk]
     exact ⟨rfl, Int.le_refl _, fun _ => Int.le_refl _⟩
section lay
variable {x y : Sto} {n : Nat} {s : Sta} {ac ac' : List Smp} {r : Rc}
theorem data_man {k : List UInt8} (hk : kOk k = true) (i : Int) : k ≠ manK i := ne_of_kOk hk (kOk_man i)
theorem Gr.lay (me : Int) (I : StI x n s ac) (hr : r.ok = true) (S : Same x y (manK ((n + 1 : Nat) : Int))) (hac : ∃ b, ac' = ac ++ b ∧ ∀ a ∈ b, s.h0 ≤ a.t) : Gr me x s ac y (s.app r) ac' := by
 have A := app_mono (s := s) hr
 refine ⟨by have := A.seq; omega, A.fen, A.hi, hac, fun q h1 h2 h3 h4 => ?_, fun q h1 h2 h3 h4 h5 h6 => (S q (data_man h1 _)).1.trans h6, fun h => by have := A.seq; omega, fun i h1 h2 h3 => ?_⟩
 · obtain ⟨d1, d2⟩ := S q (data_man h1 _)
   have := d1.symm.trans h4
   exact ⟨this, by rw [d2 this]⟩
 · obtain ⟨d1, d2⟩ := S (pinK i) fun e => man_ne_pin _ _ e.symm
   exact ⟨d1.trans h3, by rw [d2 h3]⟩
theorem StI.lay (I : StI x n s ac) (hr : r.ok = true) (L : LogX y (n + 1) (s.app r)) (S : Same x y (manK ((n + 1 : Nat) : Int))) (hac : ∃ b, ac' = ac ++ b ∧ ∀ a ∈ b, s.h0 ≤ a.t) (li : LogI (s.app r))
 (hes : ∀ e ∈ (s.app r).es, e ∈ s.es ∨ (KnE y (s.app r) ac' e ∧ y.has e.key = true)) (acok : smpsOK ac' = true) (ach : ∀ a ∈ ac', a.t < (s.app r).h0) : StI y (n + 1) (s.app r) ac' := by
 have G := Gr.lay 0 I hr S hac
 refine ⟨L, li, fun e he => ?_, fun q hq h1 h2 => ?_, acok, ach⟩
 · rcases hes e he with h | h
   · obtain ⟨a, b⟩ := I.es e h
     exact ⟨a.grow G I.li, (S e.key (data_man (en_key a.st.ok).1 _)).1.trans b⟩
   · exact h
 · obtain ⟨d1, d2⟩ := S q (data_man h1 _)
   rw [d1] at hq
   obtain ⟨b1, b2⟩ := I.dat q hq h1 h2
   rw [d2 hq]
   refine ⟨?_, Int.le_trans b2 G.h0⟩
   rw [b1]
   unfold datK
   rw [G.agI b2]
theorem logI_app (I : StI x n s ac) (hr : r.ok = true) : LogI (s.app r) := by
 have A := app_mono (s := s) hr
 have hl := I.li
 have seqb := I.seqB
 have tsm : ∀ t ∈ s.ts, (kT t.key = 0 → kN t.key ≤ (s.app r).seq) ∧ (kT t.key ≠ 0 → kN t.key < (s.app r).hi (kT t.key)) := fun t ht => by
  obtain ⟨a, b⟩ := hl.ts t ht
  have := A.seq
  exact ⟨fun h => by have := a h; omega, fun h => Int.lt_of_lt_of_le (b h) (A.hi _)⟩
 cases ht : s.takes r with
 | false =>
   rw [app_no ht] at tsm ⊢
   exact ⟨hl.h10, hl.h21, hl.l01, hl.l12, hl.a1, hl.a2, hl.nn, tsm⟩
 | true =>
   rcases rc_kinds hr with hk | hk | hk | hk | hk
   · obtain ⟨a, b⟩ := (rc_tier hr).1 hk
     have T := tkF1 ht hk
     have e := (en_tier b).2
     rw [app_1 ht hk a] at tsm ⊢
     have e1 : r.en.f = r.f := rfl
     have e2 : r.en.t = r.t := rfl
     have := T.f
     have h1 := hl.h10
     have h2 := hl.nn
     exact ⟨by show s.h1 ≤ r.t; omega, hl.h21, hl.l01, hl.l12, hl.a1, hl.a2, ⟨h2.1, by show r.t ≤ 100000; omega⟩, tsm⟩
   · rw [app_2 ht hk] at tsm ⊢
     exact ⟨hl.h10, hl.h21, hl.l01, hl.l12, hl.a1, hl.a2, hl.nn, tsm⟩
   · have T := tkF3 ht hk
     have t12 := tier_12 hr hk
     rw [app_3 ht hk] at tsm ⊢
     obtain ⟨q1, q2, q3, q4, q5, q6, q7, _⟩ := hl
     have u1 := T.f
     have u2 := T.t
     have u3 := T.hh
     rcases t12 with t1 | t1
     · rw [t1] at tsm u1 u2 u3 ⊢
       have v1 : r.f = s.h1 := u1
       have v2 : r.t = r.f + 5 := u2
       have v3 : r.t ≤ s.h0 := u3
       exact ⟨by show r.t ≤ s.h0; omega, by show s.h2 ≤ r.t; omega, by show s.l0 ≤ r.t; omega, q4, by show r.t % 5 = 0; omega, q6, q7, tsm⟩
     · rw [t1] at tsm u1 u2 u3 ⊢
       have v1 : r.f = s.h2 := u1
       have v2 : r.t = r.f + 20 := u2
       have v3 : r.t ≤ s.h1 := u3
       exact ⟨q1, by show r.t ≤ s.h1; omega, q3, by show s.l1 ≤ r.t; omega, q5, by show r.t % 20 = 0; omega, ⟨by show 0 ≤ r.t; omega, q7.2⟩, tsm⟩
   · have T := tkF4 ht hk
     obtain ⟨kn, _⟩ := I.es _ T.e
     have en := en_key kn.st.ok
     have ets : ∀ t ∈ s.ts ++ [(⟨s.seq + 1, r.key⟩ : Tb)], (kT t.key = 0 → kN t.key ≤ s.seq + 1) ∧ (kT t.key ≠ 0 → kN t.key < s.hi (kT t.key)) := fun t h => by
      rcases List.mem_append.1 h with h | h
      · obtain ⟨a, b⟩ := hl.ts t h
        exact ⟨fun g => by have := a g; omega, b⟩
      · have : t = ⟨s.seq + 1, r.key⟩ := by simpa using h
        subst this
        have e1 : kT r.key = r.tier := en.2.1
        refine ⟨fun g => ?_, fun g => ?_⟩
        · have := (kn.st.t0 (show r.tier = 0 by rw [← e1]; exact g)).1.2
          have : kN r.key ≤ s.seq := this
          show kN r.key ≤ s.seq + 1
          omega
        · have h1 := kn.st.t1 (show r.tier ≠ 0 by rw [← e1]; exact g)
          have h2 := kn.st.th
          have h2 : r.t ≤ s.hi r.tier := h2
          have h1a : r.f = kN r.key := h1.1
          have h3 : r.f < r.t := en.2.2.2.1
          show kN r.key < s.hi (kT r.key)
          rw [e1]
          omega
     rw [app_4 ht hk]
     have hhi : ∀ (q : Sta) a b k, (q.lower a b).hi k = q.hi k := fun q a b k => by
      unfold Sta.lower
      split
      · rfl
      · split <;> rfl
     have les := lower_es ({ s with seq := s.seq + 1, es := noE r.key s.es, ts := s.ts ++ [⟨s.seq + 1, r.key⟩] } : Sta) r.tier r.t
     obtain ⟨q1, q2, q3, q4, q5, q6, q7, _⟩ := hl
     have u := T.t
     have tt := (en_tier kn.st.ok).1
     have tt : r.tier = 0 ∨ r.tier = 1 ∨ r.tier = 2 := tt
     have ts' : ∀ t ∈ (({ s with seq := s.seq + 1, es := noE r.key s.es, ts := s.ts ++ [⟨s.seq + 1, r.key⟩] } : Sta).lower r.tier r.t).ts, (kT t.key = 0 → kN t.key ≤ (({ s with seq := s.seq + 1, es := noE r.key s.es, ts := s.ts ++ [⟨s.seq + 1, r.key⟩] } : Sta).lower r.tier r.t).seq) ∧ (kT t.key ≠ 0 → kN t.key < (({ s with seq := s.seq + 1, es := noE r.key s.es, ts := s.ts ++ [⟨s.seq + 1, r.key⟩] } : Sta).lower r.tier r.t).hi (kT t.key)) := by
      rw [les.2.1, les.2.2.1]
      intro t h
      rw [hhi]
      exact ets t h
     generalize hts : ({ s with seq := s.seq + 1, es := noE r.key s.es, ts := s.ts ++ [⟨s.seq + 1, r.key⟩] } : Sta) = S0 at *
     have z : S0.h0 = s.h0 ∧ S0.h1 = s.h1 ∧ S0.h2 = s.h2 ∧ S0.l0 = s.l0 ∧ S0.l1 = s.l1 := by rw [← hts]; exact ⟨rfl, rfl, rfl, rfl, rfl⟩
     obtain ⟨z0, z1, z2, z3, z4⟩ := z
     rcases tt with t1 | t1 | t1
     · rw [t1] at ts' u ⊢
       have u : r.t ≤ s.h1 := by rcases u with u | u; · omega
                                 · exact u
       exact ⟨by show S0.h1 ≤ S0.h0; omega, by show S0.h2 ≤ S0.h1; omega, by show r.t ≤ S0.h1; omega, by show S0.l1 ≤ S0.h2; omega, by show S0.h1 % 5 = 0; omega, by show S0.h2 % 20 = 0; omega, by show 0 ≤ S0.h2 ∧ S0.h0 ≤ 100000; omega, ts'⟩
     · rw [t1] at ts' u ⊢
       have u : r.t ≤ s.h2 := by rcases u with u | u; · omega
                                 · exact u
       exact ⟨by show S0.h1 ≤ S0.h0; omega, by show S0.h2 ≤ S0.h1; omega, by show S0.l0 ≤ S0.h1; omega, by show r.t ≤ S0.h2; omega, by show S0.h1 % 5 = 0; omega, by show S0.h2 % 20 = 0; omega, by show 0 ≤ S0.h2 ∧ S0.h0 ≤ 100000; omega, ts'⟩
     · rw [t1] at ts' ⊢
       exact ⟨by show S0.h1 ≤ S0.h0; omega, by show S0.h2 ≤ S0.h1; omega, by show S0.l0 ≤ S0.h1; omega, by show S0.l1 ≤ S0.h2; omega, by show S0.h1 % 5 = 0; omega, by show S0.h2 % 20 = 0; omega, by show 0 ≤ S0.h2 ∧ S0.h0 ≤ 100000; omega, ts'⟩
   · rw [app_5 ht hk] at tsm ⊢
     exact ⟨hl.h10, hl.h21, hl.l01, hl.l12, hl.a1, hl.a2, hl.nn, fun t h => tsm t (List.mem_filter.1 h).1⟩
theorem StI.recd (I : StI x n s ac) (hr : r.ok = true) (h1 : r.k ≠ 1) (h3 : r.k = 3 → s.takes r = true → x.has r.key = true) (L : LogX y (n + 1) (s.app r)) (S : Same x y (manK ((n + 1 : Nat) : Int))) : StI y (n + 1) (s.app r) ac := by
 have hac : ∃ b : List Smp, ac = ac ++ b ∧ ∀ a ∈ b, s.h0 ≤ a.t := ⟨[], by simp, by simp⟩
 have G := Gr.lay 0 I hr S hac
 refine I.lay hr L S hac (logI_app I hr) (fun e he => ?_) I.acok (fun a ha => Int.lt_of_lt_of_le (I.ach a ha) G.h0)
 cases ht : s.takes r with
 | false => rw [app_no ht] at he; exact .inl he
 | true =>
   rcases rc_kinds hr with hk | hk | hk | hk | hk
   · exact absurd hk h1
   · rw [app_2 ht hk] at he; exact .inl he
   · have he2 := he
     rw [app_3 ht hk, (lift_es _ _ _).1] at he2
     have he2 : e ∈ s.es ++ [r.en] := he2
     rcases List.mem_append.1 he2 with h | h
     · exact .inl h
     · right
       have : e = r.en := by simpa using h
       subst this
       have T := tkF3 ht hk
       have t12 := tier_12 hr hk
       have ek := ((rc_tier hr).2.1 hk).2
       have hh := h3 hk ht
       refine ⟨⟨⟨ek, ?_, fun h0 => ?_, fun h0 => ⟨T.n.symm, T.t, ?_⟩⟩, fun h0 => ?_⟩, (S _ (data_man (en_key ek).1 _)).1.trans hh⟩
       · rw [app_3 ht hk, hi_lift]
         rw [if_pos (by have : r.en.tier = r.tier := rfl; omega)]
         exact Int.le_refl _
       · have : r.tier = 0 := h0
         omega
       · show r.f % wd r.tier = 0
         have u1 := T.f
         have q5 := I.li.a1
         have q6 := I.li.a2
         rcases t12 with t1 | t1
         · rw [t1] at u1 ⊢
           have v1 : r.f = s.h1 := u1
           show r.f % 5 = 0
           omega
         · rw [t1] at u1 ⊢
           have v1 : r.f = s.h2 := u1
           show r.f % 20 = 0
           omega
       · have : r.tier = 0 := h0
         omega
   · rw [app_4 ht hk, (lower_es _ _ _).1] at he
     exact .inl (List.mem_filter.1 he).1
   · rw [app_5 ht hk] at he; exact .inl he
theorem keys_app {k : List UInt8} (hk : k ∈ s.keys) (hr : r.ok = true) (hp : r.k = 5 → k ≠ r.key) : k ∈ (s.app r).keys := by
 unfold Sta.keys at hk ⊢
 cases ht : s.takes r with
 | false => rw [app_no ht]; exact hk
 | true =>
   rcases rc_kinds hr with h | h | h | h | h
   · rw [app_1 ht h ((rc_tier hr).1 h).1]
     rcases List.mem_append.1 hk with g | g
     · refine List.mem_append.2 (.inl ?_)
       show k ∈ (s.es ++ [r.en]).map (·.key)
       rw [List.map_append]
       exact List.mem_append.2 (.inl g)
     · exact List.mem_append.2 (.inr g)
   · rw [app_2 ht h]; exact hk
   · rw [app_3 ht h, (lift_es _ _ _).1, (lift_es _ _ _).2.1]
     rcases List.mem_append.1 hk with g | g
     · refine List.mem_append.2 (.inl ?_)
       show k ∈ (s.es ++ [r.en]).map (·.key)
       rw [List.map_append]
       exact List.mem_append.2 (.inl g)
     · exact List.mem_append.2 (.inr g)
   · rw [app_4 ht h, (lower_es _ _ _).1, (lower_es _ _ _).2.1]
     rcases List.mem_append.1 hk with g | g
     · obtain ⟨e, he, rfl⟩ := List.mem_map.1 g
       by_cases q : e.key = r.key
       · refine List.mem_append.2 (.inr ?_)
         show e.key ∈ (s.ts ++ [(⟨s.seq + 1, r.key⟩ : Tb)]).map (·.key)
         rw [List.map_append, q]
         exact List.mem_append.2 (.inr (by simp))
       · refine List.mem_append.2 (.inl (List.mem_map.2 ⟨e, ?_, rfl⟩))
         exact List.mem_filter.2 ⟨he, by simp [q]⟩
     · refine List.mem_append.2 (.inr ?_)
       show k ∈ (s.ts ++ [(⟨s.seq + 1, r.key⟩ : Tb)]).map (·.key)
       rw [List.map_append]
       exact List.mem_append.2 (.inl g)
   · rw [app_5 ht h]
     rcases List.mem_append.1 hk with g | g
     · exact List.mem_append.2 (.inl g)
     · obtain ⟨e, he, rfl⟩ := List.mem_map.1 g
       refine List.mem_append.2 (.inr (List.mem_map.2 ⟨e, List.mem_filter.2 ⟨he, ?_⟩, rfl⟩))
       have := hp h
       simp [this]
theorem Kept.lay (C : Int) (hr : r.ok = true) (h5 : r.k ≠ 5) (S : Same x y (manK ((n + 1 : Nat) : Int))) : Kept C x s y (s.app r) := fun i til h1 h2 h3 h4 h6 q h7 h8 h9 =>
 ⟨(S q (data_man h8 _)).1.trans h9, keys_app h7 hr fun h => absurd h h5⟩
theorem StI.add (I : StI x n s ac) {f t : Int} {id : Nat} {b : List Smp} (hr : (Rc.mk 1 0 0 f t (keyB 0 (n + 1) id)).ok = true) (hid : id ≤ 9) (hf : f = s.h0) (hb8 : b.length ≤ 8) (hb : ∀ a ∈ b, s.h0 ≤ a.t ∧ a.t < t)
 (hh : x.has (keyB 0 (n + 1) id) = true) (hd : (x.get (keyB 0 (n + 1) id)).data = smpsText b) (hok : smpsOK (ac ++ b) = true)
 (L : LogX y (n + 1) (s.app ⟨1, 0, 0, f, t, keyB 0 (n + 1) id⟩)) (S : Same x y (manK ((n + 1 : Nat) : Int))) :
 StI y (n + 1) (s.app ⟨1, 0, 0, f, t, keyB 0 (n + 1) id⟩) (ac ++ b) ∧ s.h0 < (s.app ⟨1, 0, 0, f, t, keyB 0 (n + 1) id⟩).h0 := by
 have hle := I.lg.le
 have hsq := I.seqN
 obtain ⟨k1, k2, k3, k4⟩ := key_fields (t := 0) (n := n + 1) (w := id) (by omega) (by omega) (by omega)
 obtain ⟨r, hrr⟩ : ∃ r : Rc, r = ⟨1, 0, 0, f, t, keyB 0 (n + 1) id⟩ := ⟨_, rfl⟩
 obtain ⟨K, hK⟩ : ∃ K, K = keyB 0 (n + 1) id := ⟨_, rfl⟩
 rw [← hK] at hrr hh hd k1 k2 k3 k4
 rw [← hK, ← hrr] at hr L ⊢
 have hac : ∃ c, ac ++ b = ac ++ c ∧ ∀ a ∈ c, s.h0 ≤ a.t := ⟨b, rfl, fun a ha => (hb a ha).1⟩
 have hk : r.k = 1 := by rw [hrr]
 have htk : s.takes r = true := by
  unfold Sta.takes
  rw [if_pos hk]
  have e1 : r.f = s.h0 := by rw [hrr]; exact hf
  have e2 : r.key = K := by rw [hrr]
  have hn : s.has K = false := by
   cases h : s.has K with
   | false => rfl
   | true =>
     have := (I.named ((has_iff s K).1 h)).1 k2
     omega
  rw [e2, hn, decide_eq_true e1, decide_eq_true (by omega : kN K = s.seq + 1)]
  rfl
 have ht0 : r.tier = 0 := by rw [hrr]
 have ea := app_1 htk hk ht0
 have eft := (en_tier ((rc_tier hr).1 hk).2).2
 have rf : r.f = f := by rw [hrr]
 have rt : r.t = t := by rw [hrr]
 have rk : r.key = K := by rw [hrr]
 have eft1 : r.f < r.t := eft.2.1
 have hin : smpsIn (ac ++ b) f t = b := by
  unfold smpsIn
  rw [List.filter_append]
  have e1 : ac.filter (fun e => within e.t f (t - 1)) = [] := List.filter_eq_nil_iff.2 fun y hy => by
   have := I.ach y hy
   simp [within]; omega
  have e2 : b.filter (fun e => within e.t f (t - 1)) = b := List.filter_eq_self.2 fun y hy => by
   have := hb y hy
   simp [within]; omega
  rw [e1, e2]; rfl
 have h0' : (s.app r).h0 = t := by rw [ea]; exact rt
 refine ⟨I.lay hr L S hac (logI_app I hr) (fun e he => ?_) hok (fun a ha => ?_), by rw [h0']; omega⟩
 · rw [ea] at he
   have he : e ∈ s.es ++ [r.en] := he
   rcases List.mem_append.1 he with h | h
   · exact .inl h
   · right
     have : e = r.en := by simpa using h
     subst this
     have ek := ((rc_tier hr).1 hk).2
     have ekk : r.en.key = K := rk
     have hs := S K (data_man k1 _)
     refine ⟨⟨⟨ek, ?_, fun h0 => ⟨?_, ?_⟩, fun h0 => absurd ht0 h0⟩, fun h0 hy => ?_⟩, by rw [ekk]; exact hs.1.trans hh⟩
     · show r.t ≤ (s.app r).hi r.tier
       rw [ht0]
       show r.t ≤ (s.app r).h0
       rw [h0', rt]; exact Int.le_refl _
     · rw [ekk, k3]
       have : (s.app r).seq = s.seq + 1 := app_seq s r
       omega
     · show (smpsIn (ac ++ b) r.f r.t).length ≤ 8
       rw [rf, rt, hin]; exact hb8
     · show (y.get r.key).data = smpsText (smpsIn (ac ++ b) r.f r.t)
       rw [rk, hs.2 hh, rf, rt, hin]
       exact hd
 · rw [h0']
   rcases List.mem_append.1 ha with h | h
   · have := I.ach a h; omega
   · exact (hb a h).2
end lay
def wkR (id : Int) : Wk := ⟨id, 0, 0, default, [], default⟩
def clmR (tok : Int) : Rc := ⟨2, tok, 0, 0, 0, []⟩
def pubW (s : Sta) (tok : Int) : Rc := ⟨3, tok, dueT s.h0 s.h1 s.h2, dueF s.h0 s.h1 s.h2, dueF s.h0 s.h1 s.h2 + wd (dueT s.h0 s.h1 s.h2), keyB (dueT s.h0 s.h1 s.h2).toNat (dueF s.h0 s.h1 s.h2).toNat tok.toNat⟩
def retW (e : En) (tok : Int) : Rc := ⟨4, tok, e.tier, e.f, e.t, e.key⟩
def stepW (x : Sto) (w : Wk) (now : Int) : Sto × Wk × Int :=
 if w.ph = 0 then (if dueT (logS x).h0 (logS x).h1 (logS x).h2 = 0 ∧ (expR (logS x) now).2 = false then (x, w, 18) else (x, { w with ph := 1 }, 0))
 else if w.ph = 1 then (if acqR x w.id now = 0 then (acqS x w.id now, { w with tok := acqT x w.id now, ph := 2 }, 0) else (x, wkR w.id, acqR x w.id now))
 else if w.ph = 2 then (if (appS x ((logS x).seq + 1) (clmR w.tok)).2 = 0 then ((appS x ((logS x).seq + 1) (clmR w.tok)).1, { w with ph := 3 }, 0) else (x, wkR w.id, (appS x ((logS x).seq + 1) (clmR w.tok)).2))
 else if w.ph = 3 then
  if (logS x).fence = w.tok then
   if dueT (logS x).h0 (logS x).h1 (logS x).h2 = 0 then
    if (expR (logS x) now).2 = true then (x, { w with job := retW (expR (logS x) now).1 w.tok, ph := 6 }, 0) else (x, { w with ph := 7 }, 0)
   else (x, { w with job := pubW (logS x) w.tok, ins := covL (logS x) ((pubW (logS x) w.tok).tier - 1) (pubW (logS x) w.tok).f (pubW (logS x) w.tok).t, got := default, ph := 4 }, 0)
  else (x, wkR w.id, 13)
 else if w.ph = 4 then
  match w.ins with
  | [] => (x, { w with ph := 5 }, 0)
  | e :: l => if (winR x e w.job.f w.job.t w.got).2 = 0 then (x, { w with got := (winR x e w.job.f w.job.t w.got).1, ins := l, ph := if l = [] then 5 else 4 }, 0) else (x, wkR w.id, (winR x e w.job.f w.job.t w.got).2)
 else if w.ph = 5 then
  (if (x.putA w.job.key (bksText (bkt w.job.f w.got))).2 = 0 ∨ (x.putA w.job.key (bksText (bkt w.job.f w.got))).2 = 9 then ((x.putA w.job.key (bksText (bkt w.job.f w.got))).1, { w with ph := 6 }, 0) else (x, wkR w.id, (x.putA w.job.key (bksText (bkt w.job.f w.got))).2))
 else if w.ph = 6 then
  if (logS x).fence = w.tok then
   (if (appS x ((logS x).seq + 1) w.job).2 = 0 then ((appS x ((logS x).seq + 1) w.job).1, { w with job := default, got := default, ph := 3 }, 0) else (x, wkR w.id, (appS x ((logS x).seq + 1) w.job).2))
  else (x, wkR w.id, 13)
 else (if (x.chg w.id w.tok 0).2 = 0 then ((x.chg w.id w.tok 0).1, wkR w.id, 0) else (x, wkR w.id, (x.chg w.id w.tok 0).2))
structure Stp (me C : Int) (x : Sto) (n : Nat) (s : Sta) (ac : List Smp) (y : Sto) (n' : Nat) (s' : Sta) (ac' : List Smp) : Prop where
 st : StI y n' s' ac'
 gr : Gr me x s ac y s' ac'
 kp : Kept C x s y s'
 lg : (n' = n ∧ s' = s) ∨ n' = n + 1
theorem Stp.refl (me C : Int) {x : Sto} {n : Nat} {s : Sta} {ac : List Smp} (I : StI x n s ac) : Stp me C x n s ac x n s ac := ⟨I, Gr.refl _ _ _ _, Kept.refl _ _ _, .inl ⟨rfl, rfl⟩⟩
structure WkF (w : Wk) : Prop where
 id : 0 ≤ w.id ∧ w.id ≤ 9
 ph : 0 ≤ w.ph ∧ w.ph ≤ 7
 tok : 0 ≤ w.tok ∧ w.tok ≤ 999999
 t1 : 2 ≤ w.ph → w.tok ≠ 0
 job : (w.ph = 4 ∨ w.ph = 5 ∨ w.ph = 6) → w.job.ok = true ∧ w.job.tok = w.tok ∧ (w.job.k = 3 ∨ (w.ph = 6 ∧ w.job.k = 4))
 len : w.ins.length ≤ 300
 es : ∀ e ∈ w.ins, e.ok = true
 got : w.got.ok = true ∧ w.got.c ≤ 1000
theorem wk_iff (w : Wk) : w.ok = true ↔ WkF w := by
 constructor
 · intro h
   unfold Wk.ok gotOK at h
   simp only [Bool.and_eq_true] at h
   obtain ⟨h1, h2, h3, h4, h5, h6, h7, h8, h9⟩ := h
   refine ⟨by simpa [within] using h1, by simpa [within] using h2, by simpa [within] using h3, fun hp ht => ?_, fun hp => ?_, by have := of_decide_eq_true h6; omega, List.all_eq_true.1 h7, h8, of_decide_eq_true h9⟩
   · rw [decide_eq_true hp, decide_eq_true ht] at h4; cases h4
   · rw [show within w.ph 4 6 = true by simp [within]; omega] at h5
     simp only [Bool.not_true, Bool.false_or, Bool.and_eq_true, Bool.or_eq_true, decide_eq_true_eq] at h5
     exact h5
 · intro h
   unfold Wk.ok gotOK
   simp only [Bool.and_eq_true]
   refine ⟨by simpa [within] using h.id, by simpa [within] using h.ph, by simpa [within] using h.tok, ?_, ?_, decide_eq_true (by have := h.len; omega), List.all_eq_true.2 h.es, h.got.1, decide_eq_true h.got.2⟩
   · by_cases hp : 2 ≤ w.ph
     · rw [decide_eq_true hp, decide_eq_false (h.t1 hp)]; rfl
     · rw [decide_eq_false hp]; rfl
   · by_cases hp : w.ph = 4 ∨ w.ph = 5 ∨ w.ph = 6
     · obtain ⟨a, b, c⟩ := h.job hp
       simp only [Bool.or_eq_true, Bool.and_eq_true, decide_eq_true_eq]
       exact .inr ⟨a, b, c⟩
     · have := h.ph
       rw [show within w.ph 4 6 = false by simp [within]; omega]
       rfl
theorem wkR_ok {id : Int} (h : 0 ≤ id ∧ id ≤ 9) : (wkR id).ok = true :=
 (wk_iff _).2 ⟨h, (by decide : (0 : Int) ≤ 0 ∧ (0 : Int) ≤ 7), (by decide : (0 : Int) ≤ 0 ∧ (0 : Int) ≤ 999999), fun h => absurd (show (2 : Int) ≤ 0 from h) (by decide),
  fun h => by rcases h with h | h | h <;> exact absurd (show (0 : Int) = _ from h) (by decide), by simp [wkR], by simp [wkR], rfl, (by decide : (0 : Int) ≤ 1000)⟩
theorem wkR_I {x : Sto} {s : Sta} {ac : List Smp} {id : Int} (h : 0 ≤ id ∧ id ≤ 9) : WkI x s ac (wkR id) :=
 ⟨wkR_ok h, fun h => absurd (show (3 : Int) ≤ 0 from h) (by decide), fun h => by rcases h with h | h | h <;> exact absurd (show (0 : Int) = _ from h) (by decide), fun h => absurd (show (0 : Int) = 4 from h) (by decide), fun h => absurd (show (0 : Int) = 5 from h) (by decide), fun h => absurd (show (0 : Int) = 6 from h) (by decide)⟩
theorem WkI.plain {x : Sto} {s : Sta} {ac : List Smp} {w : Wk} (h : w.ok = true) (ht : 3 ≤ w.ph → w.tok ≤ s.fence) (h4 : w.ph ≠ 4 ∧ w.ph ≠ 5 ∧ w.ph ≠ 6) : WkI x s ac w :=
 ⟨h, ht, fun g => by omega, fun g => absurd g h4.1, fun g => absurd g h4.2.1, fun g => absurd g h4.2.2⟩
section vals
variable {x : Sto} {n : Nat} {s : Sta} {ac : List Smp}
theorem in_in (ac : List Smp) (f t a b : Int) : smpsIn (smpsIn ac f t) a b = smpsIn ac (if a > f then a else f) (if b < t then b else t) := by
 unfold smpsIn
 rw [List.filter_filter]
 congr 1
 funext e
 rw [Bool.eq_iff_iff]
 simp only [Bool.and_eq_true, within, decide_eq_true_eq]
 split <;> split <;> omega
theorem smps_sub {L : List Smp} (h : smpsOK L = true) (a b : Int) : smpsOK (smpsIn L a b) = true := by
 have hp := (smps_pw h).sublist (List.filter_sublist (p := fun e : Smp => within e.t a (b - 1)))
 have hl := smpsIn_len L a b
 have hb := smps_bd h
 have hh : ∀ i, i < L.length → smpAt L i = true := by
  unfold smpsOK at h
  rw [Bool.and_eq_true] at h
  exact allN_iff.1 h.2
 have hm : ∀ e ∈ smpsIn L a b, (0 ≤ e.t ∧ e.t ≤ 99999) ∧ (-1000000 ≤ e.v ∧ e.v ≤ 1000000) := fun e he => by
  obtain ⟨i, hi, e0⟩ := List.getElem_of_mem (List.mem_filter.1 he).1
  have := hh i hi
  unfold smpAt at this
  rw [ix_lt hi, e0] at this
  simp [within] at this
  exact ⟨this.1.1, this.1.2⟩
 unfold smpsOK
 rw [decide_eq_true (by omega), Bool.true_and]
 refine allN_iff.2 fun i hi => ?_
 have h1 := hm _ (getD_mem (L := smpsIn L a b) hi)
 have h1 : (0 ≤ (ix (smpsIn L a b) i).t ∧ (ix (smpsIn L a b) i).t ≤ 99999) ∧ (-1000000 ≤ (ix (smpsIn L a b) i).v ∧ (ix (smpsIn L a b) i).v ≤ 1000000) := h1
 unfold smpAt
 simp only [within]
 rcases Nat.eq_zero_or_pos i with h0 | h0
 · simp [h0] at *; omega
 · have h2 : (ix (smpsIn L a b) (i - 1)).t < (ix (smpsIn L a b) i).t := by
    have := List.pairwise_iff_getElem.1 hp (i - 1) i (by show i - 1 < (smpsIn L a b).length; omega) hi (by omega)
    rw [ix_lt hi, ix_lt (show i - 1 < (smpsIn L a b).length by omega)]
    exact this
   simp; omega
theorem bkt_ok {f : Int} {A : Ag} (hf : 0 ≤ f ∧ f ≤ 99999) (hA : A.ok = true) : bksOK (bkt f A) = true := by
 unfold bkt
 split
 · rfl
 · rename_i h
   unfold bksOK
   rw [decide_eq_true (by simp), Bool.true_and]
   refine allN_iff.2 fun i hi => ?_
   have : i = 0 := by simp at hi; omega
   subst this
   unfold bkAt
   have e : ix [(⟨f, A⟩ : Bk)] 0 = ⟨f, A⟩ := rfl
   rw [e]
   simp [within, hA, h]
   omega
theorem bkt_cnt {f : Int} {A : Ag} (hA : A.ok = true) : cntB (bkt f A) ≤ 100000 := by
 unfold bkt
 split
 · decide
 · have := (ag_c hA).2.1
   show 0 + A.c ≤ 100000
   omega
theorem bkt_in {f a b : Int} {A : Ag} (hA : A.c = 0 → A = default) (h : a ≤ f ∧ f < b) : foldB (inB (bkt f A) a b) = A := by
 unfold bkt
 split
 · rename_i g; exact (hA g).symm
 · unfold inB
   rw [List.filter_cons_of_pos (by simp [within]; omega)]
   exact def_mrg A
theorem win_val (I : StI x n s ac) {a b : Int} {e : En} (h : InI x s ac a b e) (hh : x.has e.key = true) : goodD e (x.get e.key).data = true ∧ winV e (x.get e.key).data a b = valE ac a b e := by
 obtain ⟨k1, k2, k3⟩ := en_key h.kn.st.ok
 unfold goodD winV valE
 by_cases h0 : e.tier = 0
 · rw [if_pos h0, if_pos h0, h.kn.dt h0 hh]
   have hok := smps_sub I.acok e.f e.t
   have hnum := smpsOK_num hok
   have h8 := (h.kn.st.t0 h0).2
   refine ⟨rdOk_text hnum hok h8, ?_⟩
   rw [rdV_text hnum, in_in]
 · rw [if_neg h0, if_neg h0]
   obtain ⟨d1, d2⟩ := I.dat e.key hh k1 (by omega)
   obtain ⟨f1, f2, f3⟩ := h.kn.st.t1 h0
   have hA := agI_ok I.acok e.f e.t
   have ed : datK ac e.key = bksText (bkt e.f (agI ac e.f e.t)) := by
    unfold datK
    rw [← f1, k2, ← f2]
   have hb := bkt_ok (f := e.f) (A := agI ac e.f e.t) (by omega) hA
   have al := h.al h0
   rw [d1, ed, rbV_text (bksOK_ok hb), rbOk_text (bksOK_ok hb) hb]
   refine ⟨by rw [Bool.true_and]; exact decide_eq_true (bkt_cnt hA), ?_⟩
   rw [bkt_in (ag_c hA).2.2 (by omega)]
   congr 2
   · split <;> omega
   · split <;> omega
theorem mrg_le {a b : Ag} (ha : 0 ≤ a.c) (hb : 0 ≤ b.c) (h1 : a.c = 0 → a = default) : 0 ≤ (a.mrg b).c := by
 unfold Ag.mrg
 split
 · exact hb
 · split
   · exact ha
   · simp only; omega
theorem win_step (I : StI x n s ac) (hac : ac.length ≤ 1000) {a b : Int} {e : En} {l : List En} {g : Ag} (hg : g.ok = true) (hs : gfold ac a b g (e :: l) = agI ac a b) (h : InI x s ac a b e) (hh : x.has e.key = true) :
 WinOK x e a b g ∧ winR x e a b g = (g.mrg (valE ac a b e), 0) ∧ (g.mrg (valE ac a b e)).ok = true ∧ (g.mrg (valE ac a b e)).c ≤ 1000 ∧ gfold ac a b (g.mrg (valE ac a b e)) l = agI ac a b := by
 obtain ⟨w1, w2⟩ := win_val I h hh
 have hv : (valE ac a b e).ok = true := agI_ok I.acok _ _
 have g0 := ag_c hg
 have v0 := ag_c hv
 have hs' : gfold ac a b (g.mrg (valE ac a b e)) l = agI ac a b := hs
 have c1 := gfold_c (ac := ac) (a := a) (b := b) l (g.mrg (valE ac a b e)) (mrg_le g0.1 v0.1 g0.2.2)
 rw [hs'] at c1
 have c2 := (agI_c ac a b).2
 have hvc : (valE ac a b e).c ≤ ac.length := (agI_c ac _ _).2
 have hgc : g.c ≤ (g.mrg (valE ac a b e)).c := by
  unfold Ag.mrg
  split
  · omega
  · split
    · omega
    · simp only; omega
 have hm := mrg_ok hg hv (by omega)
 refine ⟨⟨w1, hg, by rw [w2]; exact hv, by rw [w2]; omega⟩, ?_, hm.1, by omega, hs'⟩
 unfold winR
 rw [if_pos hh, w2]
theorem es_len (I : StI x n s ac) : s.es.length + s.ts.length ≤ 300 := by
 have h1 := I.lg.le
 have h2 := logN_len x n
 have h3 := I.lg.log
 unfold logS at h3
 rw [I.lg.fin] at h3
 rw [h3] at h2
 omega
theorem cov_I (I : StI x n s ac) {k a b : Int} (hk : k = 0 ∨ k = 1 ∨ k = 2) (hab : a ≤ b) (h1 : s.lo k ≤ a) (h2 : b ≤ s.hi k) (ha : a % wd k = 0) (hb : b % wd k = 0) :
 gfold ac a b default (covL s k a b) = agI ac a b ∧ (∀ e ∈ covL s k a b, InI x s ac a b e ∧ e ∈ s.es ∧ e.tier = k) ∧ (covL s k a b).length ≤ 300 := by
 have O := (staOK_iff s).1 I.lg.sok
 have hr := O.runs k hk
 have hm : ∀ e ∈ ofT s.es k, e ∈ s.es ∧ e.tier = k := fun e he => by
  obtain ⟨a, b⟩ := List.mem_filter.1 he
  exact ⟨a, of_decide_eq_true b⟩
 refine ⟨gfold_cover I.acok hab hr (fun e he => by have := (en_key (I.es e (hm e he).1).1.st.ok).2.2; omega) h1 h2, fun e he => ?_, ?_⟩
 · obtain ⟨c1, c2⟩ := List.mem_filter.1 he
   obtain ⟨d1, d2⟩ := hm e c1
   obtain ⟨kn, _⟩ := I.es e d1
   refine ⟨⟨kn, fun h0 => ?_⟩, d1, d2⟩
   obtain ⟨f1, f2, f3⟩ := kn.st.t1 h0
   unfold tch at c2
   have c2 := of_decide_eq_true c2
   rw [d2] at f2 f3
   have hl : a < e.t ∧ e.f < b := by
    split at c2 <;> split at c2 <;> omega
   rcases hk with rfl | rfl | rfl
   · exact absurd d2 h0
   · have w : wd 1 = 5 := rfl
     rw [w] at f2 f3 ha hb
     omega
   · have w : wd 2 = 20 := rfl
     rw [w] at f2 f3 ha hb
     omega
 · have h1 : (covL s k a b).length ≤ (ofT s.es k).length := List.length_filter_le _ _
   have h2 : (ofT s.es k).length ≤ s.es.length := List.length_filter_le _ _
   have := es_len I
   omega
theorem exp_mem {s : Sta} {now : Int} (h : (expR s now).2 = true) : (expR s now).1 ∈ s.es := by
 have key : ∀ k e, expK s now k = some e → e ∈ s.es := fun k e h => by
  unfold expK at h
  split at h
  · cases h
  · rename_i a r hL
    split at h
    · cases h
      exact (List.mem_filter.1 (show e ∈ ofT s.es k by rw [hL]; simp)).1
    · cases h
 unfold expR at h ⊢
 split at h
 · rename_i e h0; exact key 0 e h0
 · rename_i h0
   split at h
   · rename_i e h1; exact key 1 e h1
   · rename_i h1
     split at h
     · rename_i e h2; exact key 2 e h2
     · cases h
theorem lea_tok (x : Sto) : 0 ≤ x.lea.1.tok ∧ x.lea.1.tok ≤ 999999 := by
 rcases x.lea_cases with ⟨h, _⟩ | ⟨h, _⟩ | ⟨l, h, _, _, ho⟩
 · rw [h]; exact ⟨Int.le_refl _, by decide⟩
 · rw [h]; exact ⟨Int.le_refl _, by decide⟩
 · rw [h]
   have := (lea_b ho).1
   exact ⟨by show 0 ≤ l.tok; omega, this.2⟩
end vals
end Go.Proofs.YtigbaclopbcjnaaGreatDoor
