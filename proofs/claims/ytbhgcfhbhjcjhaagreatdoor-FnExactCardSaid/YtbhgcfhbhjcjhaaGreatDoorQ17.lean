/- Contracts of functions that the claim reaches, and the plain law of what they compute; each theorem bears its own conditions. -/
import Derived.Test.YtbhgcfhbhjcjhaaGreatDoorQ16
import Derived.Test.YtbhgcfhbhjcjhaaGreatDoorQ6
import Derived.Test.YtbhgcfhbhjcjhaaGreatDoorQ5
import Derived.Test.YtbhgcfhbhjcjhaaGreatDoorQ15
import Derived.Test.YtbhgcfhbhjcjhaaGreatDoorQ4
import Derived.Test.YtbhgcfhbhjcjhaaGreatDoorV52
import Derived.Test.YtbhgcfhbhjcjhaaGreatDoorQ14
import Derived.Test.YtbhgcfhbhjcjhaaGreatDoorQ9
set_option linter.unusedVariables false
set_option linter.constructorNameAsVariable false
set_option linter.unusedSimpArgs false
set_option maxRecDepth 20000
set_option maxHeartbeats 1000000
namespace Go.Proofs.YtbhgcfhbhjcjhaaGreatDoor
open Go Go.Vw
theorem ActI.of_ok {a : Act} (h : a.ok = true) : ActI a := by
 obtain ⟨k, who, n, t, f, u, b⟩ := a
 unfold Act.ok at h
 simp only at h
 by_cases h1 : k = 1 ∨ k = 2
 · rw [if_pos h1] at h
   simp only [Bool.and_eq_true, within, decide_eq_true_eq] at h
   exact ⟨by show 1 ≤ k ∧ k ≤ 6; omega, by show 0 ≤ who ∧ who ≤ 6; omega, fun g => by have g : k = 3 := g; omega, fun g => by have g : k = 4 := g; omega, fun g => by have g : k = 5 := g; omega, fun g => by have g : k = 6 := g; omega⟩
 rw [if_neg h1] at h
 by_cases h3 : k = 3
 · rw [if_pos h3] at h
   simp only [Bool.and_eq_true, within, decide_eq_true_eq] at h
   exact ⟨by show 1 ≤ k ∧ k ≤ 6; omega, by show 0 ≤ who ∧ who ≤ 6; omega, fun g => by show 0 ≤ n ∧ n ≤ 1000; omega, fun g => by have g : k = 4 := g; omega, fun g => by have g : k = 5 := g; omega, fun g => by have g : k = 6 := g; omega⟩
 rw [if_neg h3] at h
 by_cases h4 : k = 4
 · rw [if_pos h4] at h
   simp only [Bool.and_eq_true, within, decide_eq_true_eq] at h
   exact ⟨by show 1 ≤ k ∧ k ≤ 6; omega, by show 0 ≤ who ∧ who ≤ 6; omega, fun g => by have g : k = 3 := g; omega, fun g => by show -3 ≤ n ∧ n ≤ 3; omega, fun g => by have g : k = 5 := g; omega, fun g => by have g : k = 6 := g; omega⟩
 rw [if_neg h4] at h
 by_cases h5 : k = 5
 · rw [if_pos h5] at h
   simp only [Bool.and_eq_true, within, decide_eq_true_eq] at h
   exact ⟨by show 1 ≤ k ∧ k ≤ 6; omega, by show 0 ≤ who ∧ who ≤ 6; omega, fun g => by have g : k = 3 := g; omega, fun g => by have g : k = 4 := g; omega, fun g => ⟨by show who = 2 ∨ who = 3; omega, h.2, by show 1 ≤ b.length ∧ b.length ≤ 8; omega⟩, fun g => by have g : k = 6 := g; omega⟩
 rw [if_neg h5] at h
 by_cases h6 : k = 6
 · rw [if_pos h6] at h
   simp only [Bool.and_eq_true, decide_eq_true_eq] at h
   obtain ⟨⟨⟨⟨a1, a2⟩, a3⟩, a4⟩, a5⟩ := h
   simp only [within, Bool.and_eq_true, decide_eq_true_eq] at a1
   exact ⟨by show 1 ≤ k ∧ k ≤ 6; omega, by show 0 ≤ who ∧ who ≤ 6; omega, fun g => by have g : k = 3 := g; omega, fun g => by have g : k = 4 := g; omega, fun g => by have g : k = 5 := g; omega, fun g => ⟨by show who = 4 ∨ who = 5; omega, a3, a4⟩⟩
 · rw [if_neg h6] at h; cases h
theorem drawn_last (s : Src) {k : Int} (f : Int) (h : s.ok k) (hk : 100000 ≤ k ∧ k ≤ 990000) (hf : 0 ≤ f ∧ f ≤ 80000) : smpsOK (s.samples f 7).1 = true ∧ (s.samples f 7).1.length ≤ 7 ∧ (s.samples f 7).2.2.ok (k + 90) ∧ ∀ e ∈ (s.samples f 7).1, f ≤ e.t ∧ e.t ≤ f + 28 := by
 have n0 := next_b s h (by omega) (7 + 1)
 have hm := n0.1.2 (by omega)
 have hm0 := n0.1.1
 have h0 : SSok ([], f, (s.next (7 + 1)).2) 0 (k + 3) := ⟨rfl, by simp, n0.2.1, by simp only; omega⟩
 have t0 : SSt ([], f, (s.next (7 + 1)).2) f 0 := ⟨⟨Int.le_refl _, by simp⟩, by simp, List.Pairwise.nil⟩
 have a := it_ok h0 (by omega) (s.next (7 + 1)).1.toNat
 have b := it_t h0 t0 (by omega) (s.next (7 + 1)).1.toNat
 have d := drawn_ok s f 7 (wk h (by omega)) (by omega) (by omega)
 refine ⟨d.1, by have := d.2; omega, ?_, ?_⟩
 · unfold Src.samples
   exact wk a.2.2.1 (by omega)
 · unfold Src.samples
   obtain ⟨⟨b1, b2⟩, b3, b4⟩ := b
   intro e he
   have := b3 e he
   omega
def AT (f : Int) (a : Act) : Prop := a.ok = true ∧ (a.k = 5 → 1 ≤ a.b.length ∧ f ≤ (ix a.b (a.b.length - 1)).t ∧ (ix a.b (a.b.length - 1)).t ≤ f + 28)
def Road (s : Src) (k : Int) (f : Int) : Prop := ∃ (a : Act) (q : Src), AT f a ∧ q.ok (k + 120) ∧ FnM Tryz.prog 77 1 [.bptr 0 0, .int .i64 f] [(0, .box s.row)] a.av [(0, .box q.row)] 1
theorem actLe (k w n t f u : Int) : AVle (.agg [.int .i64 k, .int .i64 w, .int .i64 n, .int .i64 t, .int .i64 f, .int .i64 u, .nilsl]) (Act.mk k w n t f u []).av :=
 AVle.agg (AVsle.cons (AVle.refl _) (AVsle.cons (AVle.refl _) (AVsle.cons (AVle.refl _) (AVsle.cons (AVle.refl _) (AVsle.cons (AVle.refl _) (AVsle.cons (AVle.refl _) (AVsle.cons (AVle.nilsl _ _ rfl) AVsle.nil)))))))
theorem at_of {f : Int} {a : Act} (h : a.ok = true) (h5 : a.k ≠ 5) : AT f a := ⟨h, fun g => absurd g h5⟩
theorem ok_step {w : Int} (h : 0 ≤ w ∧ w ≤ 6) : (Act.mk 1 w 0 0 0 0 []).ok = true := by simp [Act.ok, within, Act.noR, Act.noB]; omega
theorem ok_crash {w : Int} (h : 0 ≤ w ∧ w ≤ 6) : (Act.mk 2 w 0 0 0 0 []).ok = true := by simp [Act.ok, within, Act.noR, Act.noB]; omega
theorem ok_tick {n : Int} (h : 0 ≤ n ∧ n ≤ 1000) : (Act.mk 3 0 n 0 0 0 []).ok = true := by simp [Act.ok, within, Act.noR, Act.noB]; omega
theorem ok_skew {w n : Int} (h : 0 ≤ w ∧ w ≤ 6) (h2 : -3 ≤ n ∧ n ≤ 3) : (Act.mk 4 w n 0 0 0 []).ok = true := by simp [Act.ok, within, Act.noR, Act.noB]; omega
theorem ok_ing {w : Int} {b : List Smp} (h : 2 ≤ w ∧ w ≤ 3) (hb : smpsOK b = true) (h1 : 1 ≤ b.length ∧ b.length ≤ 8) : (Act.mk 5 w 0 0 0 0 b).ok = true := by simp [Act.ok, within, Act.noR, Act.noB, hb]; omega
theorem ok_ask {w t f u : Int} (h : 4 ≤ w ∧ w ≤ 5) (ht : 0 ≤ t ∧ t ≤ 2) (hr : isRange f u = true) : (Act.mk 6 w 0 t f u []).ok = true := by simp [Act.ok, within, Act.noR, Act.noB, hr]; omega
def lst (v : Int) : Int := if v = 0 ∨ v = 1 then 0 else if v = 2 then 1 else if v = 3 ∨ v = 4 then 2 else if v = 5 ∨ v = 6 then 3 else if v = 7 then 4 else if v = 8 then 5 else 6
theorem lst_b (v : Int) : 0 ≤ lst v ∧ lst v ≤ 6 := by
 unfold lst
 repeat' split
 all_goals omega
theorem act_step (s : Src) {k : Int} (h : s.ok k) (hk : 100000 ≤ k ∧ k ≤ 900000) (f : Int) (hf : 0 ≤ f ∧ f ≤ 80000) (d : Int) (hd : (s.next 16).1 = d) (h5 : 5 ≤ d) : Road s k f := by
 have n1 := next_b s h (by omega) 16
 have c1 := next_fn s 16 (wk h (by omega))
 rw [hd] at c1
 have n2 := next_b (s.next 16).2 n1.2.1 (by omega) 10
 have c2 := next_fn (s.next 16).2 10 (wk n1.2.1 (by omega))
 have b2 := n2.1.2 (by omega)
 have b2' := n2.1.1
 obtain ⟨v, hv⟩ : ∃ v, ((s.next 16).2.next 10).1 = v := ⟨_, rfl⟩
 rw [hv] at c2 b2 b2'
 refine ⟨⟨1, lst v, 0, 0, 0, 0, []⟩, ((s.next 16).2.next 10).2, at_of (ok_step (lst_b v)) (show (1 : Int) ≠ 5 by decide), wk n2.2.1 (by omega), ?_⟩
 have : v = 0 ∨ v = 1 ∨ v = 2 ∨ v = 3 ∨ v = 4 ∨ v = 5 ∨ v = 6 ∨ v = 7 ∨ v = 8 ∨ v = 9 := by omega
 rcases this with rfl | rfl | rfl | rfl | rfl | rfl | rfl | rfl | rfl | rfl
 all_goals
  refine FnM.introC Tryz.call77 Tryz.func77 rfl rfl ?_
  conv => whnf
  refine CallC.k [(0, 0)] (c1) rfl rfl (AVsle.refl _) ⟨MOle.refl _, trivial⟩ rfl ?_
  conv => whnf
  refine Grd.intro (fun g => absurd (of_decide_eq_true g) (by omega)) (fun _ => ?_)
  conv => whnf
  refine Grd.intro (fun g => absurd (of_decide_eq_true g) (by omega)) (fun _ => ?_)
  conv => whnf
  refine Grd.intro (fun g => absurd (of_decide_eq_true g) (by omega)) (fun _ => ?_)
  conv => whnf
  refine Grd.intro (fun g => absurd (of_decide_eq_true g) (by omega)) (fun _ => ?_)
  conv => whnf
  refine Grd.intro (fun g => absurd (of_decide_eq_true g) (by omega)) (fun _ => ?_)
  conv => whnf
  conv => whnf
  refine CallC.k [(0, 0)] (c2) rfl rfl (AVsle.refl _) ⟨MOle.refl _, trivial⟩ rfl ?_
  conv => whnf
  refine And.intro ⟨by decide, by decide⟩ ?_
  conv => whnf
  exact And.intro trivial ⟨[(0, 0)], rfl, actLe _ _ _ _ _ _, MOle.refl _, trivial⟩
theorem act_ing (s : Src) {k : Int} (h : s.ok k) (hk : 100000 ≤ k ∧ k ≤ 900000) (f : Int) (hf : 0 ≤ f ∧ f ≤ 80000) (d : Int) (hd : (s.next 16).1 = d) (h5 : d = 0 ∨ d = 1) : Road s k f := by
 have n1 := next_b s h (by omega) 16
 have c1 := next_fn s 16 (wk h (by omega))
 rw [hd] at c1
 have c2 := samples_fn (s.next 16).2 f 7 (wk n1.2.1 (by omega)) (by omega) (by omega)
 obtain ⟨d1, d2, d3, d4⟩ := drawn_last (s.next 16).2 f n1.2.1 (by omega) hf
 generalize (s.next 16).2.samples f 7 = X at *
 obtain ⟨L, fe, q2⟩ := X
 have d1 : smpsOK L = true := d1
 have d2 : L.length ≤ 7 := d2
 have d3 : q2.ok (k + 3 + 90) := d3
 have d4 : ∀ e ∈ L, f ≤ e.t ∧ e.t ≤ f + 28 := d4
 have c2 : FnM Tryz.prog 116 1 [.bptr 0 0, .int .i64 f, .int .i64 7] [(0, .box (s.next 16).2.row)] (.osl 1) [(0, .box q2.row), (1, .arr 96 2 L.length fun i => (ix L i).row)] 2 := c2
 by_cases h0 : L.length = 0
 · have n3 := next_b q2 d3 (by omega) 10
   have c3 := next_fn q2 10 (wk d3 (by omega))
   have b2 := n3.1.2 (by omega)
   have b2' := n3.1.1
   obtain ⟨v, hv⟩ : ∃ v, (q2.next 10).1 = v := ⟨_, rfl⟩
   rw [hv] at c3 b2 b2'
   refine ⟨⟨1, lst v, 0, 0, 0, 0, []⟩, (q2.next 10).2, at_of (ok_step (lst_b v)) (show (1 : Int) ≠ 5 by decide), wk n3.2.1 (by omega), ?_⟩
   have : v = 0 ∨ v = 1 ∨ v = 2 ∨ v = 3 ∨ v = 4 ∨ v = 5 ∨ v = 6 ∨ v = 7 ∨ v = 8 ∨ v = 9 := by omega
   rcases h5 with rfl | rfl <;> rcases this with rfl | rfl | rfl | rfl | rfl | rfl | rfl | rfl | rfl | rfl
   all_goals
    refine FnM.introC Tryz.call77 Tryz.func77 rfl rfl ?_
    conv => whnf
    refine CallC.k [(0, 0)] (c1) rfl rfl (AVsle.refl _) ⟨MOle.refl _, trivial⟩ rfl ?_
    conv => whnf
    conv => whnf
    refine CallC.k [(0, 0)] (c2) rfl rfl (AVsle.refl _) ⟨MOle.refl _, trivial⟩ rfl ?_
    conv => whnf
    refine Grd.intro (fun g => absurd (show (0 : Int) < (L.length : Int) from of_decide_eq_true g) (by omega)) (fun _ => ?_)
    conv => whnf
    conv => whnf
    refine CallC.k [(0, 0)] (c3) rfl rfl (AVsle.refl _) ⟨MOle.refl _, trivial⟩ rfl ?_
    conv => whnf
    refine And.intro ⟨by decide, by decide⟩ ?_
    conv => whnf
    exact And.intro trivial ⟨[(0, 0)], rfl, actLe _ _ _ _ _ _, MOle.refl _, trivial⟩
 · have n3 := next_b q2 d3 (by omega) 2
   have c3 := next_fn q2 2 (wk d3 (by omega))
   have b2 := n3.1.2 (by omega)
   have b2' := n3.1.1
   have hl := d4 _ (getD_mem (show L.length - 1 < L.length by omega))
   refine ⟨⟨5, 2 + (q2.next 2).1, 0, 0, 0, 0, L⟩, (q2.next 2).2, ⟨ok_ing (by omega) d1 (by omega), fun _ => ⟨by show 1 ≤ L.length; omega, hl.1, hl.2⟩⟩, wk n3.2.1 (by omega), ?_⟩
   rcases h5 with rfl | rfl
   all_goals
    refine FnM.introC Tryz.call77 Tryz.func77 rfl rfl ?_
    conv => whnf
    refine CallC.k [(0, 0)] (c1) rfl rfl (AVsle.refl _) ⟨MOle.refl _, trivial⟩ rfl ?_
    conv => whnf
    conv => whnf
    refine CallC.k [(0, 0)] (c2) rfl rfl (AVsle.refl _) ⟨MOle.refl _, trivial⟩ rfl ?_
    conv => whnf
    refine Grd.intro (fun _ => ?_) (fun g => absurd (show ¬ (0 : Int) < (L.length : Int) from of_decide_eq_false g) (by omega))
    conv => whnf
    conv => whnf
    refine CallC.k [(0, 0)] (c3) rfl rfl (AVsle.refl _) ⟨MOle.refl _, trivial⟩ rfl ?_
    conv => whnf
    refine And.intro (inI64 (by omega) (by omega)) ?_
    conv => whnf
    exact And.intro trivial ⟨[(0, 0)], rfl, AVle.refl _, MOle.refl _, trivial⟩
theorem act_tick (s : Src) {k : Int} (h : s.ok k) (hk : 100000 ≤ k ∧ k ≤ 900000) (f : Int) (hf : 0 ≤ f ∧ f ≤ 80000) (d : Int) (hd : (s.next 16).1 = d) (h5 : d = 3) : Road s k f := by
 have n1 := next_b s h (by omega) 16
 have c1 := next_fn s 16 (wk h (by omega))
 rw [hd] at c1
 have n2 := next_b (s.next 16).2 n1.2.1 (by omega) 5
 have c2 := next_fn (s.next 16).2 5 (wk n1.2.1 (by omega))
 have n3 := next_b ((s.next 16).2.next 5).2 n2.2.1 (by omega) 5
 have c3 := next_fn ((s.next 16).2.next 5).2 5 (wk n2.2.1 (by omega))
 have n4 := next_b (((s.next 16).2.next 5).2.next 5).2 n3.2.1 (by omega) 60
 have c4 := next_fn (((s.next 16).2.next 5).2.next 5).2 60 (wk n3.2.1 (by omega))
 have n5 := next_b ((((s.next 16).2.next 5).2.next 5).2.next 60).2 n4.2.1 (by omega) 3
 have c5 := next_fn ((((s.next 16).2.next 5).2.next 5).2.next 60).2 3 (wk n4.2.1 (by omega))
 have b2 := n2.1.2 (by omega)
 have b3 := n3.1.2 (by omega)
 have b4 := n4.1.2 (by omega)
 have b5 := n5.1.2 (by omega)
 generalize ((s.next 16).2.next 5).1 = x2 at *
 generalize (((s.next 16).2.next 5).2.next 5).1 = x3 at *
 generalize ((((s.next 16).2.next 5).2.next 5).2.next 60).1 = x4 at *
 obtain ⟨q, hq⟩ : ∃ q, (((((s.next 16).2.next 5).2.next 5).2.next 60).2.next 3).2 = q := ⟨_, rfl⟩
 obtain ⟨v, hv⟩ : ∃ v, (((((s.next 16).2.next 5).2.next 5).2.next 60).2.next 3).1 = v := ⟨_, rfl⟩
 rw [hv, hq] at c5
 rw [hv] at b5 n5
 rw [hq] at n5
 have b5' := n5.1.1
 have hn : 0 ≤ (if v = 0 then x2 else if v = 1 then x3 else x4) ∧ (if v = 0 then x2 else if v = 1 then x3 else x4) ≤ 1000 := by
  have := n2.1.1; have := n3.1.1; have := n4.1.1
  repeat' split
  all_goals omega
 refine ⟨⟨3, 0, if v = 0 then x2 else if v = 1 then x3 else x4, 0, 0, 0, []⟩, q, at_of (ok_tick hn) (show (3 : Int) ≠ 5 by decide), wk n5.2.1 (by omega), ?_⟩
 have : v = 0 ∨ v = 1 ∨ v = 2 := by omega
 subst h5
 clear hv hd
 rcases this with rfl | rfl | rfl
 all_goals
  refine FnM.introC Tryz.call77 Tryz.func77 rfl rfl ?_
  conv => whnf
  refine CallC.k [(0, 0)] (c1) rfl rfl (AVsle.refl _) ⟨MOle.refl _, trivial⟩ rfl ?_
  conv => whnf
  conv => whnf
  refine CallC.k [(0, 0)] (c2) rfl rfl (AVsle.refl _) ⟨MOle.refl _, trivial⟩ rfl ?_
  conv => whnf
  conv => whnf
  refine CallC.k [(0, 0)] (c3) rfl rfl (AVsle.refl _) ⟨MOle.refl _, trivial⟩ rfl ?_
  conv => whnf
  conv => whnf
  refine CallC.k [(0, 0)] (c4) rfl rfl (AVsle.refl _) ⟨MOle.refl _, trivial⟩ rfl ?_
  conv => whnf
  conv => whnf
  refine CallC.k [(0, 0)] (c5) rfl rfl (AVsle.refl _) ⟨MOle.refl _, trivial⟩ rfl ?_
  conv => whnf
  refine And.intro ⟨by decide, by decide⟩ ?_
  conv => whnf
  exact And.intro trivial ⟨[(0, 0)], rfl, actLe _ _ _ _ _ _, MOle.refl _, trivial⟩
theorem act_4 (s : Src) {k : Int} (h : s.ok k) (hk : 100000 ≤ k ∧ k ≤ 900000) (f : Int) (hf : 0 ≤ f ∧ f ≤ 80000) (d : Int) (hd : (s.next 16).1 = d) (h5 : d = 4) : Road s k f := by
 have n1 := next_b s h (by omega) 16
 have c1 := next_fn s 16 (wk h (by omega))
 rw [hd] at c1
 have n2 := next_b (s.next 16).2 n1.2.1 (by omega) 2
 have c2 := chance_fn (s.next 16).2 2 (wk n1.2.1 (by omega)) (by omega)
 have n3 := next_b ((s.next 16).2.next 2).2 n2.2.1 (by omega) 7
 have c3 := next_fn ((s.next 16).2.next 2).2 7 (wk n2.2.1 (by omega))
 have b3 := n3.1.2 (by omega)
 have b3' := n3.1.1
 have n4 := next_b (((s.next 16).2.next 2).2.next 7).2 n3.2.1 (by omega) 7
 have c4 := next_fn (((s.next 16).2.next 2).2.next 7).2 7 (wk n3.2.1 (by omega))
 have b4 := n4.1.2 (by omega)
 have b4' := n4.1.1
 subst h5
 by_cases hc : ((s.next 16).2.next 2).1 = 2 - 1
 · refine ⟨⟨2, (((s.next 16).2.next 2).2.next 7).1, 0, 0, 0, 0, []⟩, (((s.next 16).2.next 2).2.next 7).2, at_of (ok_crash (by omega)) (show (2 : Int) ≠ 5 by decide), wk n3.2.1 (by omega), ?_⟩
   rw [decide_eq_true hc] at c2
   refine FnM.introC Tryz.call77 Tryz.func77 rfl rfl ?_
   conv => whnf
   refine CallC.k [(0, 0)] (c1) rfl rfl (AVsle.refl _) ⟨MOle.refl _, trivial⟩ rfl ?_
   conv => whnf
   conv => whnf
   refine CallC.k [(0, 0)] (c2) rfl rfl (AVsle.refl _) ⟨MOle.refl _, trivial⟩ rfl ?_
   conv => whnf
   conv => whnf
   refine CallC.k [(0, 0)] (c3) rfl rfl (AVsle.refl _) ⟨MOle.refl _, trivial⟩ rfl ?_
   conv => whnf
   exact And.intro trivial ⟨[(0, 0)], rfl, actLe _ _ _ _ _ _, MOle.refl _, trivial⟩
 · refine ⟨⟨4, (((s.next 16).2.next 2).2.next 7).1, ((((s.next 16).2.next 2).2.next 7).2.next 7).1 - 3, 0, 0, 0, []⟩, ((((s.next 16).2.next 2).2.next 7).2.next 7).2, at_of (ok_skew (by omega) (by omega)) (show (4 : Int) ≠ 5 by decide), wk n4.2.1 (by omega), ?_⟩
   rw [decide_eq_false hc] at c2
   refine FnM.introC Tryz.call77 Tryz.func77 rfl rfl ?_
   conv => whnf
   refine CallC.k [(0, 0)] (c1) rfl rfl (AVsle.refl _) ⟨MOle.refl _, trivial⟩ rfl ?_
   conv => whnf
   conv => whnf
   refine CallC.k [(0, 0)] (c2) rfl rfl (AVsle.refl _) ⟨MOle.refl _, trivial⟩ rfl ?_
   conv => whnf
   conv => whnf
   refine CallC.k [(0, 0)] (c3) rfl rfl (AVsle.refl _) ⟨MOle.refl _, trivial⟩ rfl ?_
   conv => whnf
   conv => whnf
   refine CallC.k [(0, 0)] (c4) rfl rfl (AVsle.refl _) ⟨MOle.refl _, trivial⟩ rfl ?_
   conv => whnf
   refine And.intro (inI64 (by omega) (by omega)) ?_
   conv => whnf
   exact And.intro trivial ⟨[(0, 0)], rfl, actLe _ _ _ _ _ _, MOle.refl _, trivial⟩
theorem max_b {f w v : Int} (hw : w = 1 ∨ w = 5 ∨ w = 20) (hf : 0 ≤ f ∧ f ≤ 80000) (h0 : 0 ≤ v) (h : v < (if f.tdiv w + 1 > 1 then f.tdiv w + 1 else 1)) : 0 ≤ w * v ∧ w * v ≤ f := by
 rw [Int.tdiv_eq_ediv_of_nonneg hf.1] at h
 rcases hw with rfl | rfl | rfl <;> (split at h <;> omega)
theorem act_ask (s : Src) {k : Int} (h : s.ok k) (hk : 100000 ≤ k ∧ k ≤ 900000) (f : Int) (hf : 0 ≤ f ∧ f ≤ 80000) (d : Int) (hd : (s.next 16).1 = d) (h5 : d = 2) : Road s k f := by
 have n1 := next_b s h (by omega) 16
 have c1 := next_fn s 16 (wk h (by omega))
 rw [hd] at c1
 have n2 := next_b (s.next 16).2 n1.2.1 (by omega) 3
 have c2 := next_fn (s.next 16).2 3 (wk n1.2.1 (by omega))
 have b2 := n2.1.2 (by omega)
 have b2' := n2.1.1
 obtain ⟨v, hv⟩ : ∃ v, ((s.next 16).2.next 3).1 = v := ⟨_, rfl⟩
 rw [hv] at c2 b2 b2'
 generalize ((s.next 16).2.next 3).2 = q2 at *
 subst h5
 clear hv hd
 have : v = 0 ∨ v = 1 ∨ v = 2 := by omega
 have cw := l04Width_fn v this
 have hw : wd v = 1 ∨ wd v = 5 ∨ wd v = 20 := by rcases this with rfl | rfl | rfl; exact .inl rfl; exact .inr (.inl rfl); exact .inr (.inr rfl)
 generalize wd v = w at *
 have n3 := next_b q2 n2.2.1 (by omega) (if f.tdiv w + 1 > 1 then f.tdiv w + 1 else 1)
 have c3 := next_fn q2 (if f.tdiv w + 1 > 1 then f.tdiv w + 1 else 1) (wk n2.2.1 (by omega))
 have e1 := n3.1.2 (by split <;> omega)
 have e2 := max_b hw hf n3.1.1 e1
 generalize (q2.next (if f.tdiv w + 1 > 1 then f.tdiv w + 1 else 1)).1 = x3 at *
 generalize (q2.next (if f.tdiv w + 1 > 1 then f.tdiv w + 1 else 1)).2 = q3 at *
 have n4 := next_b q3 n3.2.1 (by omega) 2
 have c4 := next_fn q3 2 (wk n3.2.1 (by omega))
 have b4 := n4.1.2 (by omega)
 have b4' := n4.1.1
 generalize (q3.next 2).1 = x4 at *
 generalize (q3.next 2).2 = q4 at *
 have n5 := next_b q4 n4.2.1 (by omega) 4
 have c5 := next_fn q4 4 (wk n4.2.1 (by omega))
 have b5 := n5.1.2 (by omega)
 have b5' := n5.1.1
 generalize (q4.next 4).1 = x5 at *
 generalize (q4.next 4).2 = q5 at *
 have hf0 := tdiv_b (n := f) (m := w) hf.1 (by omega)
 have e5 : 0 ≤ w * x5 ∧ w * x5 ≤ 60 := by rcases hw with rfl | rfl | rfl <;> omega
 refine ⟨⟨6, 4 + x4, 0, v, w * x3, w * x3 + w * x5, []⟩, q5, at_of (ok_ask (by omega) (by omega) (by simp [isRange, within]; omega)) (show (6 : Int) ≠ 5 by decide), wk n5.2.1 (by omega), ?_⟩
 refine FnM.introC Tryz.call77 Tryz.func77 rfl rfl ?_
 conv => whnf
 refine CallC.k [(0, 0)] (c1) rfl rfl (AVsle.refl _) ⟨MOle.refl _, trivial⟩ rfl ?_
 conv => whnf
 conv => whnf
 refine CallC.k [(0, 0)] (c2) rfl rfl (AVsle.refl _) ⟨MOle.refl _, trivial⟩ rfl ?_
 conv => whnf
 conv => whnf
 refine CallC.nl _ (cw) ?_ ?_
 · exact rfl
 conv => whnf
 refine And.intro ⟨by omega, inI64 (by omega) (by omega)⟩ ?_
 conv => whnf
 refine And.intro (inI64 (by omega) (by omega)) ?_
 conv => whnf
 conv => whnf
 refine CallC.k [(0, 0)] (c3) rfl rfl (AVsle.refl _) ⟨MOle.refl _, trivial⟩ rfl ?_
 conv => whnf
 refine And.intro (inI64 (by omega) (by omega)) ?_
 conv => whnf
 conv => whnf
 refine CallC.k [(0, 0)] (c4) rfl rfl (AVsle.refl _) ⟨MOle.refl _, trivial⟩ rfl ?_
 conv => whnf
 refine And.intro (inI64 (by omega) (by omega)) ?_
 conv => whnf
 conv => whnf
 refine CallC.k [(0, 0)] (c5) rfl rfl (AVsle.refl _) ⟨MOle.refl _, trivial⟩ rfl ?_
 conv => whnf
 refine And.intro (inI64 (by omega) (by omega)) ?_
 conv => whnf
 refine And.intro (inI64 (by omega) (by omega)) ?_
 conv => whnf
 exact And.intro trivial ⟨[(0, 0)], rfl, actLe _ _ _ _ _ _, MOle.refl _, trivial⟩
theorem act_ex (s : Src) {k : Int} (h : s.ok k) (hk : 100000 ≤ k ∧ k ≤ 900000) (f : Int) (hf : 0 ≤ f ∧ f ≤ 80000) : Road s k f := by
 have n1 := next_b s h (by omega) 16
 have b1 := n1.1.2 (by omega)
 have b1' := n1.1.1
 obtain ⟨d, hd⟩ : ∃ d, (s.next 16).1 = d := ⟨_, rfl⟩
 rw [hd] at b1 b1'
 have : (d = 0 ∨ d = 1) ∨ d = 2 ∨ d = 3 ∨ d = 4 ∨ 5 ≤ d := by omega
 rcases this with g | g | g | g | g
 · exact act_ing s h hk f hf d hd g
 · exact act_ask s h hk f hf d hd g
 · exact act_tick s h hk f hf d hd g
 · exact act_4 s h hk f hf d hd g
 · exact act_step s h hk f hf d hd g
abbrev AS := List Act × Int × Src
def nextAt (f : Int) (x : Act) : Int := if x.k = 5 then (ix x.b (x.b.length - 1)).t + 1 else f
theorem acts_ex (s : Src) {k : Int} (h : s.ok k) (hk : 100000 ≤ k ∧ k ≤ 800000) : ∃ (L : List Act) (q : Src), (L.length ≤ 64 ∧ ∀ a ∈ L, a.ok = true) ∧ q.ok (k + 8000) ∧ FnM Tryz.prog 29 1 [.bptr 0 0] [(0, .box s.row)] (acts L) [(0, .box q.row)] 1 := by
 obtain ⟨z, hz, cz⟩ := size_fn s 55 (wk h (by omega)) (by decide)
 have n1 := next_b s h (by omega) (z + 10)
 have c1 := next_fn s (z + 10) (wk h (by omega))
 have b1 := n1.1.2 (by omega)
 obtain ⟨M, hM⟩ : ∃ M : Nat, (s.next (z + 10)).1 = M := ⟨(s.next (z + 10)).1.toNat, by have := n1.1.1; omega⟩
 rw [hM] at b1 c1
 obtain ⟨q0, hq0⟩ : ∃ q0, (s.next (z + 10)).2 = q0 := ⟨_, rfl⟩
 rw [hq0] at c1 n1
 obtain ⟨f, f0, fI, fT⟩ := seq_ex (α := AS) M (fun i y => (y.1.length = i ∧ ∀ a ∈ y.1, a.ok = true) ∧ (0 ≤ y.2.1 ∧ y.2.1 ≤ 29 * (i : Int)) ∧ y.2.2.ok (k + 3 + 120 * i))
  (fun a b => ∃ x : Act, AT a.2.1 x ∧ b.1 = a.1 ++ [x] ∧ b.2.1 = nextAt a.2.1 x ∧ FnM Tryz.prog 77 1 [.bptr 0 0, .int .i64 a.2.1] [(0, .box a.2.2.row)] x.av [(0, .box b.2.2.row)] 1)
  ([], 0, q0) ⟨⟨rfl, fun a ha => by cases ha⟩, by simp, wk n1.2.1 (by omega)⟩
  (fun n a hn ⟨⟨i1, i2⟩, i3, i4⟩ => by
   obtain ⟨x, q, hx, hq, c⟩ := act_ex a.2.2 i4 (by omega) a.2.1 (by omega)
   refine ⟨(a.1 ++ [x], nextAt a.2.1 x, q), ⟨x, hx, rfl, rfl, c⟩, ⟨by simp [i1], fun y hy => ?_⟩, ?_, wk hq (by omega)⟩
   · rcases List.mem_append.1 hy with hy | hy
     · exact i2 y hy
     · rw [List.mem_singleton] at hy; subst hy; exact hx.1
   · show 0 ≤ nextAt a.2.1 x ∧ nextAt a.2.1 x ≤ _
     unfold nextAt
     split
     · rename_i h5
       have := hx.2 h5
       omega
     · omega)
 obtain ⟨⟨g1, g2⟩, _, g4⟩ := fI M (Nat.le_refl _)
 refine ⟨(f M).1, (f M).2.2, ⟨by omega, g2⟩, wk g4 (by omega), ?_⟩
 refine FnM.introC Tryz.call29 Tryz.func29 rfl rfl ?_
 conv => whnf
 conv => whnf
 refine CallC.k [(0, 0)] (cz) rfl rfl (AVsle.refl _) ⟨MOle.refl _, trivial⟩ rfl ?_
 conv => whnf
 refine And.intro (inI64 (by omega) (by omega)) ?_
 conv => whnf
 conv => whnf
 refine CallC.k [(0, 0)] (c1) rfl rfl (AVsle.refl _) ⟨MOle.refl _, trivial⟩ rfl ?_
 conv => whnf
 refine LoopC.mk (fun i : Nat => i ≤ M) (fun i => [(0, .bptr 0 0), (3, .osl 1), (4, .int .i64 (f i).2.1), (5, .int .i64 ((M : Int) - i))])
  (fun i => [(0, .box (f i).2.2.row), (1, .arr 65 7 (f i).1.length fun k => (ix (f i).1 k).cells)]) 2 (fun i => M - i) 0
  ⟨Nat.zero_le _, [(0, 0), (1, 1)], rfl, rfl, ⟨AVle.refl _, AVle.refl _, AVle.of_eq (by rw [f0]; rfl), AVle.of_eq (congrArg (AV.int .i64) (by simp)), trivial⟩, ⟨MOle.of_eq (by rw [f0]; rfl), MOle.arr (by rw [f0]; rfl) (fun k hk => absurd hk (Nat.not_lt_zero k)), trivial⟩⟩ ?_
 intro i hi
 conv => whnf
 refine Grd.intro (fun j1 => ?_) (fun j1 => ?_)
 · have hiM : i < M := by have := of_decide_eq_true j1; omega
   obtain ⟨⟨y1, y2⟩, y3, y4⟩ := fI i hi
   obtain ⟨x, hx, e1, e2, c⟩ := fT i hiM
   conv => whnf
   conv => whnf
   refine CallC.k [(0, 0)] (c) rfl rfl (AVsle.refl _) ⟨MOle.refl _, trivial⟩ rfl ?_
   conv => whnf
   refine Grd.intro (fun j2 => ?_) (fun j2 => ?_)
   · have h5 : x.k = 5 := of_decide_eq_true j2
     have hl := hx.2 h5
     have hj : Int.toNat ((x.b.length : Int) - 1) = x.b.length - 1 := by omega
     rw [← hj] at hl
     have hb := ((ActI.of_ok hx.1).b h5).2.2
     conv => whnf
     refine And.intro (inI64 (by omega) (by omega)) ?_
     conv => whnf
     refine And.intro ⟨by omega, by omega⟩ ?_
     conv => whnf
     refine And.intro (inI64 (by omega) (by omega)) ?_
     conv => whnf
     refine And.intro ⟨show ((f i).1.length + 1) * 72 ≤ 140737488355328 by omega, fun k hk => by (obtain rfl : k = 0 := by omega); rfl⟩ ?_
     conv => whnf
     refine And.intro (inI64 (by omega) (by omega)) ?_
     conv => whnf
     exact ⟨i + 1, hiM, by omega, [(0, 0), (5, 1)], rfl, rfl, ⟨AVle.refl _, AVle.refl _, AVle.of_eq (by rw [e2]; unfold nextAt; rw [if_pos h5, ← hj]; rfl), AVle.of_eq (congrArg (AV.int .i64) (by push_cast; omega)), trivial⟩, ⟨MOle.refl _, MOle.arr (by rw [e1]; simp) (fun k hk => by rw [e1]; exact app_row1 (f := Act.cells) rfl hk), trivial⟩⟩
   · have h5 : ¬ x.k = 5 := of_decide_eq_false j2
     conv => whnf
     refine And.intro ⟨show ((f i).1.length + 1) * 72 ≤ 140737488355328 by omega, fun k hk => by (obtain rfl : k = 0 := by omega); rfl⟩ ?_
     conv => whnf
     refine And.intro (inI64 (by omega) (by omega)) ?_
     conv => whnf
     exact ⟨i + 1, hiM, by omega, [(0, 0), (5, 1)], rfl, rfl, ⟨AVle.refl _, AVle.refl _, AVle.of_eq (by rw [e2]; unfold nextAt; rw [if_neg h5]; rfl), AVle.of_eq (congrArg (AV.int .i64) (by push_cast; omega)), trivial⟩, ⟨MOle.refl _, MOle.arr (by rw [e1]; simp) (fun k hk => by rw [e1]; exact app_row1 (f := Act.cells) rfl hk), trivial⟩⟩
 · have he : i = M := by have := of_decide_eq_false j1; omega
   subst he
   conv => whnf
   exact And.intro trivial ⟨[(0, 0)], rfl, AVle.refl _, ⟨MOle.refl _, trivial⟩⟩
theorem ActsOf_fn (code : List UInt8) (hc : code.length ≤ 1048576) : ∃ L : List Act, (L.length ≤ 64 ∧ ∀ a ∈ L, a.ok = true) ∧ VFn Tryz.prog 8 [byts code] (acts L) := by
 obtain ⟨L, q, hL, hq, c⟩ := acts_ex (srcOf code) (wk (src_ok code hc) (show (0 : Int) ≤ 100000 by decide)) (by decide)
 refine ⟨L, hL, ?_⟩
 refine VFn.introC Tryz.call8 Tryz.func8 rfl rfl ?_
 conv => whnf
 refine CallC.k [] (l00Source_fn code hc) rfl rfl (AVsle.refl _) trivial rfl ?_
 conv => whnf
 refine CallC.k [(0, 0)] (c) rfl rfl (AVsle.refl _) ⟨MOle.refl _, trivial⟩ rfl ?_
 exact And.intro trivial (AVle.refl _)
structure Made (f : Fl) : Prop where
 i : FlI f 512 64
 j : FlJ f
theorem run_fn (code : List UInt8) (hc : code.length ≤ 1048576) : ∃ (L : List Act) (f : Fl), Made f ∧ VFn Tryz.prog 8 [byts code] (acts L) ∧ VFn Tryz.prog 7 [acts L] (.tup [f.av, .sl 1 L.length fun k => [.int .i64 (codeN newF L k)], .int .i64 0]) := by
 obtain ⟨L, ⟨h1, h2⟩, c⟩ := ActsOf_fn code hc
 have hI : ∀ a ∈ L, ActI a := fun a ha => ActI.of_ok (h2 a ha)
 refine ⟨L, actsF newF L, ⟨?_, FlJ.acts L newF_J⟩, c, ActsRun_fn L h1 h2 hI⟩
 have := FlI.acts L newF_I hI (by omega)
 exact this.more (by omega) (by omega)
def stR (x : Sto) (ac : List Smp) : AV := if 4096 < ac.length then .tup [.bool false, .int .i64 2] else if (x.ok && smpsOK ac) = true then .tup [.bool (satT x ac), .int .i64 0] else .tup [.bool false, .int .i64 1]
theorem StateTrue_fn (s : Sto) (hL : s.os.length ≤ 1000000000) (hk : ∀ o ∈ s.os, o.key.length ≤ 1000000000) (ac : List Smp) : VFn Tryz.prog 15 [s.av, smps ac] (stR s ac) := by
 have c1 := isLongSmp_fn ac
 have c2 := StoreOK_fn s hL hk
 have c4 := SamplesOK_fn ac
 unfold stR
 by_cases hl : 4096 < ac.length
 · rw [if_pos hl]
   rw [decide_eq_true hl] at c1
   rw [smpsOK_no hl] at c4
   generalize s.ok = b2 at c2
   cases b2
   all_goals
    refine VFn.introC Tryz.call15 Tryz.func15 rfl rfl ?_
    refine DrawC.mq 16 rfl (by kernel_rfl) ?_
    refine PCallQ.sca _ (c1) rfl ?_
    refine PCallQ.sca _ (c2) rfl ?_
    try (refine PCallQ.sca _ c4 rfl ?_)
    refine PCallQ.sca _ (first2_of _ _ _ _ ⟨rfl, rfl, rfl, rfl, trivial⟩ rfl (show (if true = true then (2 : Int) else if true = true then 1 else 0) = 2 by decide)) rfl ?_
    exact And.intro trivial (AVle.refl _)
 · rw [if_neg hl]
   rw [decide_eq_false hl] at c1
   by_cases hg : (s.ok && smpsOK ac) = true
   · rw [if_pos hg]
     simp only [Bool.and_eq_true] at hg
     obtain ⟨g2, g4⟩ := hg
     have c5 := stateTrue_fn s g2 ac g4
     rw [g2] at c2
     rw [g4] at c4
     refine VFn.introC Tryz.call15 Tryz.func15 rfl rfl ?_
     refine DrawC.mq 16 rfl (by kernel_rfl) ?_
     refine PCallQ.sca _ (c1) rfl ?_
     refine PCallQ.sca _ (c2) rfl ?_
     refine PCallQ.sca _ (c4) rfl ?_
     refine PCallQ.sca _ (first2_of _ _ _ _ ⟨rfl, rfl, rfl, rfl, trivial⟩ rfl (show (if false = true then (2 : Int) else if false = true then 1 else 0) = 0 by decide)) rfl ?_
     conv => whnf
     refine CallC.sca _ (c5) ?_ ?_
     · exact rfl
     exact And.intro trivial (AVle.refl _)
   · rw [if_neg hg]
     generalize s.ok = b2 at c2 hg
     generalize smpsOK ac = b4 at c4 hg
     cases b2 <;> cases b4
     all_goals first | (exfalso; exact hg rfl) | skip
     all_goals
      refine VFn.introC Tryz.call15 Tryz.func15 rfl rfl ?_
      refine DrawC.mq 16 rfl (by kernel_rfl) ?_
      refine PCallQ.sca _ (c1) rfl ?_
      refine PCallQ.sca _ (c2) rfl ?_
      try (refine PCallQ.sca _ c4 rfl ?_)
      refine PCallQ.sca _ (first2_of _ _ _ _ ⟨rfl, rfl, rfl, rfl, trivial⟩ rfl (show (if false = true then (2 : Int) else if true = true then 1 else 0) = 1 by decide)) rfl ?_
      exact And.intro trivial (AVle.refl _)
theorem Fl.ok_st {s : Fl} (h : s.ok = true) : s.st.ok = true ∧ smpsOK s.ac = true := by
 simp only [Fl.ok, Fl.fin, Bool.and_eq_true] at h
 exact ⟨h.1, h.2.2.2.2.2.2.1⟩
theorem Exact_fn (s : Fl) (hS : s.small) : VFn Tryz.prog 14 [s.av] (.tup [.bool (s.ok && satT s.st s.ac), .int .i64 (if s.ok then 0 else 1)]) := by
 have c := FleetOK_fn s hS
 by_cases ho : s.ok = true
 · obtain ⟨h1, h2⟩ := Fl.ok_st ho
   have c2 := stateTrue_fn s.st h1 s.ac h2
   rw [ho] at c ⊢
   refine VFn.introC Tryz.call14 Tryz.func14 rfl rfl ?_
   conv => whnf
   refine CallC.sca _ (c) ?_ ?_
   · exact rfl
   conv => whnf
   refine CallC.sca _ (c2) ?_ ?_
   · exact rfl
   exact And.intro trivial (AVle.refl _)
 · have ho : s.ok = false := by simpa using ho
   rw [ho] at c ⊢
   refine VFn.introC Tryz.call14 Tryz.func14 rfl rfl ?_
   conv => whnf
   refine CallC.sca _ (c) ?_ ?_
   · exact rfl
   exact And.intro trivial (AVle.refl _)
theorem StoRdE {x : Sto} (h : x.ok = true) : StoRd x := by
 obtain ⟨a1, a2, a3, _, _⟩ := (stoOK_iff x).1 h
 refine ⟨by omega, fun o ho => ?_, by omega⟩
 have := (a3 o ho).1
 unfold keyOK at this
 simp only [Bool.and_eq_true, within, decide_eq_true_eq] at this
 omega
theorem FlI.keys {f : Fl} {M Q : Nat} (F : FlI f M Q) : f.st.os.length ≤ 1000000000 ∧ ∀ o ∈ f.st.os, o.key.length ≤ 1000000000 := by
 have O := (stoOK_iff f.st).1 F.st.lg.ok
 exact ⟨by have := O.len; omega, fun e he => by have := (O.el e he).1; have := keyOK_len this; omega⟩
theorem FlI.stR {f : Fl} {M Q : Nat} (F : FlI f M Q) (hM : M ≤ 1000) : stR f.st f.ac = .tup [.bool true, .int .i64 0] := by
 have := F.acl
 unfold Go.Proofs.YtbhgcfhbhjcjhaaGreatDoor.stR
 rw [if_neg (by omega), if_pos (by rw [F.st.lg.ok, F.st.acok]; rfl), F.exact]
theorem FlI.truR {f : Fl} {M Q : Nat} (F : FlI f M Q) (hM : M ≤ 1000) {e : En} (he : e ∈ (logS f.st).es) : truR f.st e f.ac = .tup [.bool true, .int .i64 0] := by
 have := F.acl
 unfold Go.Proofs.YtbhgcfhbhjcjhaaGreatDoor.truR
 rw [if_neg (by omega), if_pos (by rw [F.st.lg.ok, F.st.acok, logS_eok f.st e he]; rfl), truE_I F e he]
theorem law_ExactL (code : List UInt8) (hc : code.length ≤ 9223372036854775807) (more : List UInt8) (hm : more.length ≤ 9223372036854775807) : VFn Tryz.prog 5 [byts code, byts more] (.bool true) := by
 by_cases hL1 : 1048576 < code.length
 · refine VFn.introC Tryz.call5 Tryz.func5 rfl rfl ?_
   refine Grd.intro (fun _ => ?_) (fun h => absurd (of_decide_eq_false h) (by omega))
   exact And.intro trivial (AVle.refl _)
 by_cases hL2 : 1048576 < more.length
 · refine VFn.introC Tryz.call5 Tryz.func5 rfl rfl ?_
   refine Grd.intro (fun h => absurd (of_decide_eq_true h) (by omega)) (fun _ => ?_)
   refine Grd.intro (fun _ => ?_) (fun h => absurd (of_decide_eq_false h) (by omega))
   exact And.intro trivial (AVle.refl _)
 obtain ⟨L, f, W, ca, cr⟩ := run_fn code (by omega)
 have F := W.i
 have hS := F.small W.j (by omega) (by omega)
 have ho := F.ok (by omega)
 have c1 := Exact_fn f hS
 rw [ho, F.exact] at c1
 obtain ⟨k1, k2⟩ := F.keys
 have c2 := StateTrue_fn f.st k1 k2 f.ac
 rw [F.stR (by omega)] at c2
 have c3 : VFn Tryz.prog 16 [f.st.av] (.tup [(logS f.st).av, .int .i64 0]) := (ReplayLog_own f.st (StoRdE F.st.lg.ok) F.st.lg.ok).vfn
 have lb := log_b f.st
 have c4 := StateOK_fn (logS f.st) (by omega) (by omega)
 rw [logS_ok f.st] at c4
 have c5 : ∀ e ∈ (logS f.st).es, VFn Tryz.prog 18 [f.st.av, e.av, smps f.ac] (.tup [.bool true, .int .i64 0]) := fun e he => by
  have := EntryTrue_fn f.st k1 k2 e f.ac
  rw [F.truR (by omega) he] at this
  exact this
 have li := F.st.li
 generalize logS f.st = s at *
 refine VFn.introC Tryz.call5 Tryz.func5 rfl rfl ?_
 refine Grd.intro (fun h => absurd (of_decide_eq_true h) (by omega)) (fun _ => ?_)
 refine Grd.intro (fun h => absurd (of_decide_eq_true h) (by omega)) (fun _ => ?_)
 conv => whnf
 refine CallC.nl _ (ca) ?_ ?_
 · exact rfl
 conv => whnf
 refine CallC.nl _ (cr) ?_ ?_
 · exact rfl
 conv => whnf
 conv => whnf
 refine CallC.nl _ (c1) ?_ ?_
 · exact rfl
 conv => whnf
 conv => whnf
 refine CallC.nl _ (c2) ?_ ?_
 · exact rfl
 conv => whnf
 conv => whnf
 refine CallC.nl _ (c3) ?_ ?_
 · exact rfl
 conv => whnf
 conv => whnf
 refine CallC.nl _ (c4) ?_ ?_
 · exact rfl
 conv => whnf
 refine LoopC.mk (fun i : Nat => i ≤ s.es.length) (fun i => [(5, .bptr 0 0), (12, .bptr 1 0), (14, .int .i64 i)]) (fun i => [(0, .box f.row), (1, .box s.row)]) 2 (fun i => s.es.length - i) 0
  ⟨Nat.zero_le _, [(0, 0), (1, 1)], rfl, rfl, ⟨AVle.refl _, AVle.refl _, AVle.refl _, trivial⟩, ⟨MOle.refl _, MOle.refl _, trivial⟩⟩ ?_
 intro i hi
 conv => whnf
 refine Grd.intro (fun h => ?_) (fun h => ?_)
 · have hlt : i < s.es.length := by have := of_decide_eq_true h; omega
   conv => whnf
   refine And.intro ⟨by omega, by omega⟩ ?_
   conv => whnf
   conv => whnf
   refine CallC.nl _ (c5 _ (getD_mem hlt)) ?_ ?_
   · exact rfl
   conv => whnf
   refine And.intro (inI64 (by omega) (by omega)) ?_
   conv => whnf
   exact ⟨i + 1, hlt, by omega, [(0, 0), (1, 1)], rfl, rfl, ⟨AVle.refl _, AVle.refl _, AVle.refl _, trivial⟩, ⟨MOle.refl _, MOle.refl _, trivial⟩⟩
 · conv => whnf
   repeat' (conv => whnf
            first
             | refine And.intro ⟨by decide, by decide⟩ ?_
             | (refine Grd.intro (fun _ => ?_) (fun g => ?_); rotate_left; focus (exact absurd li.h10 (of_decide_eq_false g); done))
             | (refine Grd.intro (fun _ => ?_) (fun g => ?_); rotate_left; focus (exact absurd li.h21 (of_decide_eq_false g); done))
             | (refine Grd.intro (fun _ => ?_) (fun g => ?_); rotate_left; focus (exact absurd li.l01 (of_decide_eq_false g); done))
             | (refine Grd.intro (fun _ => ?_) (fun g => ?_); rotate_left; focus (exact absurd li.l12 (of_decide_eq_false g); done))
             | exact And.intro trivial (AVle.of_eq (congrArg AV.bool (decide_eq_true li.l12)))
             | exact And.intro trivial (AVle.refl _)
             | fail)
end Go.Proofs.YtbhgcfhbhjcjhaaGreatDoor
