/- Contracts of functions that the claim reaches, and the plain law of what they compute; each theorem bears its own conditions. -/
import Derived.Test.YtnplgeogieoioaaGreatDoorQ12
import Derived.Test.YtnplgeogieoioaaGreatDoorQ8
import Derived.Test.YtnplgeogieoioaaGreatDoorQ10
import Derived.Test.YtnplgeogieoioaaGreatDoorQ6
import Derived.Test.YtnplgeogieoioaaGreatDoorQ3
import Derived.Test.YtnplgeogieoioaaGreatDoorQ9
import Derived.Test.YtnplgeogieoioaaGreatDoorV52
import Derived.Test.YtnplgeogieoioaaGreatDoorQ2
set_option linter.unusedVariables false
set_option linter.constructorNameAsVariable false
set_option linter.unusedSimpArgs false
set_option maxRecDepth 20000
namespace Go.Proofs.YtnplgeogieoioaaGreatDoor
open Go Go.Vw
def WkOut (me C : Int) (x : Sto) (n : Nat) (s : Sta) (ac : List Smp) (id : Int) (p : Sto × Wk × Int) : Prop := ∃ n' s', Stp me C x n s ac p.1 n' s' ac ∧ WkI p.1 s' ac p.2.1 ∧ p.2.1.id = id
section wk
variable {x : Sto} {n : Nat} {s : Sta} {ac : List Smp} {me C : Int}
theorem WkOut.reset (I : StI x n s ac) {id : Int} (h : 0 ≤ id ∧ id ≤ 9) (c : Int) : WkOut me C x n s ac id (x, wkR id, c) := ⟨n, s, Stp.refl me C I, wkR_I h, rfl⟩
theorem WkOut.stay (I : StI x n s ac) {w : Wk} {c id : Int} (h : WkI x s ac w) (hi : w.id = id) : WkOut me C x n s ac id (x, w, c) := ⟨n, s, Stp.refl me C I, h, hi⟩
theorem Stp.lea (me C : Int) (I : StI x n s ac) {d : List UInt8} (hr : x.room leaK d = 0) : Stp me C x n s ac (x.set leaK d) n s ac := by
 have hy := set_ok I.lg.ok (show keyOK leaK = true by decide) hr
 have S : Same x (x.set leaK d) leaK := fun q hq => set_ne I.lg.ok hy hq
 exact ⟨I.other S hy kOk_lea man_ne_lea, Gr.other me I S kOk_lea (fun i _ _ => pin_ne_lea i), Kept.other C S kOk_lea, .inl ⟨rfl, rfl⟩⟩
theorem wk_acq (I : StI x n s ac) {w : Wk} (W : WkI x s ac w) (h1 : w.ph = 1) (now : Int) : WkOut me C x n s ac w.id (if acqR x w.id now = 0 then (acqS x w.id now, { w with tok := acqT x w.id now, ph := 2 }, 0) else (x, wkR w.id, acqR x w.id now)) := by
 have F := (wk_iff w).1 W.ok
 by_cases h : acqR x w.id now = 0
 · rw [if_pos h]
   have hc : acqC x now = 0 := by
    rcases Classical.em (acqC x now = 0) with g | g
    · exact g
    · unfold acqR at h; rw [if_neg g] at h; exact absurd h g
   have hr : x.room leaK (acqL x w.id now).text = 0 := by unfold acqR at h; rw [if_pos hc] at h; exact h
   have es : acqS x w.id now = x.set leaK (acqL x w.id now).text := by unfold acqS Sto.put; rw [if_pos hc, if_pos hr]
   have et : acqT x w.id now = x.lea.1.tok + 1 := by unfold acqT; rw [if_pos ⟨hc, hr⟩]
   have hl := lea_tok x
   have hne : x.lea.1.tok ≠ 999999 := fun g => by
    unfold acqC at hc
    split at hc
    · omega
    · split at hc
      · omega
      · omega
   rw [es, et]
   refine ⟨n, s, Stp.lea me C I hr, WkI.plain ((wk_iff _).2 ⟨F.id, (show (0 : Int) ≤ 2 ∧ (2 : Int) ≤ 7 by decide), ⟨by show 0 ≤ x.lea.1.tok + 1; omega, by show x.lea.1.tok + 1 ≤ 999999; omega⟩, fun _ => by show x.lea.1.tok + 1 ≠ 0; omega, fun g => ?_, F.len, F.es, F.got⟩) (fun g => absurd (show (3 : Int) ≤ 2 from g) (by decide)) ⟨(by decide : ¬ (2 : Int) = 4), (by decide : ¬ (2 : Int) = 5), (by decide : ¬ (2 : Int) = 6)⟩, rfl⟩
   rcases g with g | g | g <;> exact absurd (show (2 : Int) = _ from g) (by decide)
 · rw [if_neg h]
   exact WkOut.reset I F.id _
theorem clmR_ok {tok : Int} (h : 1 ≤ tok ∧ tok ≤ 999999) : (clmR tok).ok = true := by
 unfold Rc.ok clmR
 simp [within, Rc.bare]
 omega
theorem lay_at (I : StI x n s ac) (r : Rc) : appS x (s.seq + 1) r = appS x ((n + 1 : Nat) : Int) r := by
 rw [I.seqN]
 rfl
theorem wk_claim (I : StI x n s ac) {w : Wk} (W : WkI x s ac w) (h2 : w.ph = 2) : WkOut me C x n s ac w.id (if (appS x ((logS x).seq + 1) (clmR w.tok)).2 = 0 then ((appS x ((logS x).seq + 1) (clmR w.tok)).1, { w with ph := 3 }, 0) else (x, wkR w.id, (appS x ((logS x).seq + 1) (clmR w.tok)).2)) := by
 have F := (wk_iff w).1 W.ok
 have ht := F.t1 (by omega)
 have hb := F.tok
 have hr := clmR_ok (tok := w.tok) (by omega)
 rw [I.lg.log, lay_at I]
 rcases I.lg.layG hr with ⟨c, c1, c2, h⟩ | ⟨y, h, L, S, _⟩
 · rw [h, if_neg c1]
   exact WkOut.reset I F.id _
 · rw [h, if_pos rfl]
   refine ⟨n + 1, s.app (clmR w.tok), ⟨I.recd hr (show (2 : Int) ≠ 1 by decide) (fun g => absurd (show (2 : Int) = 3 from g) (by decide)) L S, Gr.lay me I hr S ⟨[], by simp, by simp⟩, Kept.lay C hr (show (2 : Int) ≠ 5 by decide) S, .inr rfl⟩, WkI.plain ((wk_iff _).2 ⟨F.id, (show (0 : Int) ≤ 3 ∧ (3 : Int) ≤ 7 by decide), F.tok, fun _ => ht, fun g => ?_, F.len, F.es, F.got⟩) (fun _ => ?_) ⟨(by decide : ¬ (3 : Int) = 4), (by decide : ¬ (3 : Int) = 5), (by decide : ¬ (3 : Int) = 6)⟩, rfl⟩
   · rcases g with g | g | g <;> exact absurd (show (3 : Int) = _ from g) (by decide)
   · show w.tok ≤ (s.app (clmR w.tok)).fence
     cases tk : s.takes (clmR w.tok) with
     | true => rw [app_2 tk rfl]; exact Int.le_refl _
     | false =>
       have e : s.takes (clmR w.tok) = decide (s.fence < w.tok) := rfl
       rw [e] at tk
       have := of_decide_eq_false tk
       rw [app_no (by rw [e]; exact tk)]
       show w.tok ≤ s.fence
       omega
theorem due_cases (a b c : Int) : (dueT a b c = 1 ∧ dueF a b c = b ∧ b + 5 ≤ a) ∨ (dueT a b c = 2 ∧ dueF a b c = c ∧ c + 20 ≤ b) ∨ dueT a b c = 0 := by
 unfold dueT dueF
 by_cases h1 : b + 5 ≤ a
 · rw [if_pos h1, if_pos h1]; exact .inl ⟨rfl, rfl, h1⟩
 · rw [if_neg h1, if_neg h1]
   by_cases h2 : c + 20 ≤ b
   · rw [if_pos h2, if_pos h2]; exact .inr (.inl ⟨rfl, rfl, h2⟩)
   · rw [if_neg h2]; exact .inr (.inr rfl)
theorem pub_ok {tok t f : Int} (ht : t = 1 ∨ t = 2) (hf : 0 ≤ f ∧ f + wd t ≤ 100000) (hk : 1 ≤ tok ∧ tok ≤ 999999) : (Rc.mk 3 tok t f (f + wd t) (keyB t.toNat f.toNat tok.toNat)).ok = true ∧ (kOk (keyB t.toNat f.toNat tok.toNat) = true ∧ kT (keyB t.toNat f.toNat tok.toNat) = t ∧ kN (keyB t.toNat f.toNat tok.toNat) = f ∧ kW (keyB t.toNat f.toNat tok.toNat) = tok) := by
 have hw := wd_b t
 obtain ⟨k1, k2, k3, k4⟩ := key_fields (t := t.toNat) (n := f.toNat) (w := tok.toNat) (by omega) (by omega) (by omega)
 have e1 : ((t.toNat : Nat) : Int) = t := by omega
 have e2 : ((f.toNat : Nat) : Int) = f := by omega
 have e3 : ((tok.toNat : Nat) : Int) = tok := by omega
 rw [e1] at k2
 rw [e2] at k3
 rw [e3] at k4
 refine ⟨?_, k1, k2, k3, k4⟩
 unfold Rc.ok Rc.en En.ok
 simp only [k1, k2, isRange, within]
 simp
 omega
theorem wk_plan (I : StI x n s ac) {w : Wk} (W : WkI x s ac w) (h3 : w.ph = 3) (now : Int) : WkOut me C x n s ac w.id (if (logS x).fence = w.tok then
 if dueT (logS x).h0 (logS x).h1 (logS x).h2 = 0 then
  if (expR (logS x) now).2 = true then (x, { w with job := retW (expR (logS x) now).1 w.tok, ph := 6 }, 0) else (x, { w with ph := 7 }, 0)
 else (x, { w with job := pubW (logS x) w.tok, ins := covL (logS x) ((pubW (logS x) w.tok).tier - 1) (pubW (logS x) w.tok).f (pubW (logS x) w.tok).t, got := default, ph := 4 }, 0)
 else (x, wkR w.id, 13)) := by
 have F := (wk_iff w).1 W.ok
 have ht := F.t1 (by omega)
 have hb := F.tok
 have hl := I.li
 have htf := W.tok (by omega)
 rw [I.lg.log]
 by_cases hf : s.fence = w.tok
 rotate_left
 · rw [if_neg hf]; exact WkOut.reset I F.id _
 rw [if_pos hf]
 have pub : ∀ t f : Int, dueT s.h0 s.h1 s.h2 = t → dueF s.h0 s.h1 s.h2 = f → (t = 1 ∨ t = 2) → 0 ≤ f → f = s.hi t → f + wd t ≤ s.hi (t - 1) → s.lo (t - 1) ≤ f → f % wd (t - 1) = 0 → (f + wd t) % wd (t - 1) = 0 →
  WkOut me C x n s ac w.id (x, { w with job := pubW s w.tok, ins := covL s ((pubW s w.tok).tier - 1) (pubW s w.tok).f (pubW s w.tok).t, got := default, ph := 4 }, 0) := by
  intro t f e1 e2 t12 f0 ef et el m1 m2
  have hw := wd_b t
  have hh := hi_le hl (t - 1)
  have hn := hl.nn
  obtain ⟨o1, o2⟩ := pub_ok (tok := w.tok) t12 ⟨f0, by omega⟩ ⟨by omega, hb.2⟩
  obtain ⟨c1, c2, c3⟩ := cov_I I (k := t - 1) (a := f) (b := f + wd t) (by omega) (by omega) el et m1 m2
  have ep : pubW s w.tok = ⟨3, w.tok, t, f, f + wd t, keyB t.toNat f.toNat w.tok.toNat⟩ := by unfold pubW; rw [e1, e2]
  rw [ep]
  refine WkOut.stay I ⟨(wk_iff _).2 ⟨F.id, (show (0 : Int) ≤ 4 ∧ (4 : Int) ≤ 7 by decide), F.tok, fun _ => ht, fun _ => ⟨o1, rfl, .inl rfl⟩, c3, fun e he => (c2 e he).1.kn.st.ok, rfl, (by decide : (0 : Int) ≤ 1000)⟩, fun _ => htf, fun _ _ => ⟨t12, f0, rfl, by show f + wd t ≤ s.h0; omega, by show f ≤ s.hi t; omega, o2⟩, fun _ => ⟨c1, fun e he => (c2 e he).1⟩, fun g => absurd (show (4 : Int) = 5 from g) (by decide), fun g => absurd (show (4 : Int) = 6 from g) (by decide)⟩ rfl
 rcases due_cases s.h0 s.h1 s.h2 with ⟨d1, d2, d3⟩ | ⟨d1, d2, d3⟩ | d1
 · rw [if_neg (by omega)]
   have q1 := hl.l01
   have q2 := hl.nn
   have q3 := hl.h21
   exact pub 1 s.h1 d1 d2 (.inl rfl) (by omega) rfl (show s.h1 + 5 ≤ s.h0 from d3) (show s.l0 ≤ s.h1 from q1) (show s.h1 % 1 = 0 by omega) (show (s.h1 + 5) % 1 = 0 by omega)
 · rw [if_neg (by omega)]
   have q1 := hl.l12
   have q2 := hl.nn
   have q3 := hl.a2
   exact pub 2 s.h2 d1 d2 (.inr rfl) (by omega) rfl (show s.h2 + 20 ≤ s.h1 from d3) (show s.l1 ≤ s.h2 from q1) (show s.h2 % 5 = 0 by omega) (show (s.h2 + 20) % 5 = 0 by omega)
 · rw [if_pos d1]
   by_cases he : (expR s now).2 = true
   · rw [if_pos he]
     have hm := exp_mem he
     obtain ⟨kn, _⟩ := I.es _ hm
     have ho : (retW (expR s now).1 w.tok).ok = true := by
      have : (retW (expR s now).1 w.tok).en.ok = true := kn.st.ok
      unfold Rc.ok
      have k4 : (retW (expR s now).1 w.tok).k = 4 := rfl
      rw [if_neg (by omega), if_neg (by omega), if_neg (by omega), if_pos k4, this]
      show (within w.tok 1 999999 && true) = true
      simp [within]; omega
     refine WkOut.stay I ⟨(wk_iff _).2 ⟨F.id, (show (0 : Int) ≤ 6 ∧ (6 : Int) ≤ 7 by decide), F.tok, fun _ => ht, fun _ => ⟨ho, rfl, .inr ⟨rfl, rfl⟩⟩, F.len, F.es, F.got⟩, fun _ => htf, fun _ g => absurd (show (4 : Int) = 3 from g) (by decide), fun g => absurd (show (6 : Int) = 4 from g) (by decide), fun g => absurd (show (6 : Int) = 5 from g) (by decide), fun _ g => absurd (show (4 : Int) = 3 from g) (by decide)⟩ rfl
   · rw [if_neg he]
     refine WkOut.stay I (WkI.plain ((wk_iff _).2 ⟨F.id, (show (0 : Int) ≤ 7 ∧ (7 : Int) ≤ 7 by decide), F.tok, fun _ => ht, fun g => ?_, F.len, F.es, F.got⟩) (fun _ => htf) ⟨(by decide : ¬ (7 : Int) = 4), (by decide : ¬ (7 : Int) = 5), (by decide : ¬ (7 : Int) = 6)⟩) rfl
     rcases g with g | g | g <;> exact absurd (show (7 : Int) = _ from g) (by decide)
theorem wk_fetch (I : StI x n s ac) (hac : ac.length ≤ 1000) {w : Wk} (W : WkI x s ac w) (h4 : w.ph = 4) : WkOut me C x n s ac w.id (match w.ins with
 | [] => (x, { w with ph := 5 }, 0)
 | e :: l => if (winR x e w.job.f w.job.t w.got).2 = 0 then (x, { w with got := (winR x e w.job.f w.job.t w.got).1, ins := l, ph := if l = [] then 5 else 4 }, 0) else (x, wkR w.id, (winR x e w.job.f w.job.t w.got).2)) := by
 have F := (wk_iff w).1 W.ok
 have ht := F.t1 (by omega)
 have htf := W.tok (by omega)
 obtain ⟨j1, j2, j3⟩ := F.job (.inl h4)
 have jk : w.job.k = 3 := by rcases j3 with h | h; · exact h
                             · omega
 have J := W.job (.inl h4) jk
 obtain ⟨p1, p2⟩ := W.p4 h4
 cases hi : w.ins with
 | nil =>
   simp only
   rw [hi] at p1
   refine WkOut.stay I ⟨(wk_iff _).2 ⟨F.id, (show (0 : Int) ≤ 5 ∧ (5 : Int) ≤ 7 by decide), F.tok, fun _ => ht, fun _ => ⟨j1, j2, .inl jk⟩, by simp, by simp, F.got⟩, fun _ => htf, fun _ _ => J, fun g => absurd (show (5 : Int) = 4 from g) (by decide), fun _ => p1, fun g => absurd (show (5 : Int) = 6 from g) (by decide)⟩ rfl
 | cons e l =>
   simp only
   have hin := p2 e (by rw [hi]; simp)
   rw [hi] at p1
   cases hh : x.has e.key with
   | false =>
     have : winR x e w.job.f w.job.t w.got = (w.got, 5) := by unfold winR; rw [hh, if_neg (by simp)]
     rw [this, if_neg (show ¬ (5 : Int) = 0 by decide)]
     exact WkOut.reset I F.id _
   | true =>
     obtain ⟨_, w2, w3, w4, w5⟩ := win_step I hac F.got.1 p1 hin hh
     rw [w2, if_pos rfl]
     have hl : l.length ≤ 300 := by have := F.len; rw [hi] at this; simp at this; omega
     have hes : ∀ e ∈ l, e.ok = true := fun y hy => F.es y (by rw [hi]; simp [hy])
     by_cases hn : l = []
     · rw [if_pos hn]
       rw [hn] at w5
       refine WkOut.stay I ⟨(wk_iff _).2 ⟨F.id, (show (0 : Int) ≤ 5 ∧ (5 : Int) ≤ 7 by decide), F.tok, fun _ => ht, fun _ => ⟨j1, j2, .inl jk⟩, hl, hes, w3, w4⟩, fun _ => htf, fun _ _ => J, fun g => absurd (show (5 : Int) = 4 from g) (by decide), fun _ => w5, fun g => absurd (show (5 : Int) = 6 from g) (by decide)⟩ rfl
     · rw [if_neg hn]
       refine WkOut.stay I ⟨(wk_iff _).2 ⟨F.id, (show (0 : Int) ≤ 4 ∧ (4 : Int) ≤ 7 by decide), F.tok, fun _ => ht, fun _ => ⟨j1, j2, .inl jk⟩, hl, hes, w3, w4⟩, fun _ => htf, fun _ _ => J, fun _ => ⟨w5, fun y hy => p2 y (by rw [hi]; simp [hy])⟩, fun g => absurd (show (4 : Int) = 5 from g) (by decide), fun g => absurd (show (4 : Int) = 6 from g) (by decide)⟩ rfl
theorem wk_put (I : StI x n s ac) {w : Wk} (W : WkI x s ac w) (h5 : w.ph = 5) : WkOut me C x n s ac w.id (if (x.putA w.job.key (bksText (bkt w.job.f w.got))).2 = 0 ∨ (x.putA w.job.key (bksText (bkt w.job.f w.got))).2 = 9 then ((x.putA w.job.key (bksText (bkt w.job.f w.got))).1, { w with ph := 6 }, 0) else (x, wkR w.id, (x.putA w.job.key (bksText (bkt w.job.f w.got))).2)) := by
 have F := (wk_iff w).1 W.ok
 have ht := F.t1 (by omega)
 have htf := W.tok (by omega)
 obtain ⟨j1, j2, j3⟩ := F.job (.inr (.inl h5))
 have jk : w.job.k = 3 := by rcases j3 with h | h; · exact h
                             · omega
 have J := W.job (.inr (.inl h5)) jk
 obtain ⟨k1, k2, k3, k4⟩ := J.key
 have t0 : kT w.job.key ≠ 0 := by have := J.tier; omega
 have ed : bksText (bkt w.job.f w.got) = datK ac w.job.key := by
  unfold datK
  rw [k3, k2, ← J.t, W.p5 h5]
 have fin : ∀ y, x.has w.job.key = true ∨ y.has w.job.key = true → ∀ hh : y.has w.job.key = true, WkI y s ac { w with ph := 6 } := fun y _ hh =>
  ⟨(wk_iff _).2 ⟨F.id, (show (0 : Int) ≤ 6 ∧ (6 : Int) ≤ 7 by decide), F.tok, fun _ => ht, fun _ => ⟨j1, j2, .inl jk⟩, F.len, F.es, F.got⟩, fun _ => htf, fun _ _ => J, fun g => absurd (show (6 : Int) = 4 from g) (by decide), fun g => absurd (show (6 : Int) = 5 from g) (by decide), fun _ _ _ _ => hh⟩
 rw [ed]
 cases hh : x.has w.job.key with
 | true =>
   have e : x.putA w.job.key (datK ac w.job.key) = (x, 9) := by unfold Sto.putA; rw [if_pos hh]
   rw [e, if_pos (.inr rfl)]
   exact WkOut.stay I (fin x (.inl hh) hh) rfl
 | false =>
   have e : x.putA w.job.key (datK ac w.job.key) = (x.put w.job.key (datK ac w.job.key), x.room w.job.key (datK ac w.job.key)) := by unfold Sto.putA; rw [if_neg (by rw [hh]; simp)]
   rw [e]
   by_cases hr : x.room w.job.key (datK ac w.job.key) = 0
   · have ep : x.put w.job.key (datK ac w.job.key) = x.set w.job.key (datK ac w.job.key) := by unfold Sto.put; rw [if_pos hr]
     rw [if_pos (.inl hr), ep]
     obtain ⟨t, m, v, a1, _, _, a2, _⟩ := key_of k1
     have hy := set_ok I.lg.ok (show keyOK w.job.key = true by rw [a2]; exact keyF_ok a1) hr
     have c := set_at x w.job.key (datK ac w.job.key)
     refine ⟨n, s, ⟨I.roll k1 t0 hh (by rw [k3, k2, ← J.t]; exact J.th) hy, Gr.roll me I k1 t0 hh hy, Kept.roll C I hh hy, .inl ⟨rfl, rfl⟩⟩, fin _ (.inr c.1) c.1, rfl⟩
   · have h9 : x.room w.job.key (datK ac w.job.key) ≠ 9 := by
      unfold Sto.room
      split
      · decide
      · split <;> decide
     rw [if_neg (by rintro (g | g); exact hr g; exact h9 g)]
     exact WkOut.reset I F.id _
theorem wk_lay (I : StI x n s ac) {w : Wk} (W : WkI x s ac w) (h6 : w.ph = 6) : WkOut me C x n s ac w.id (if (logS x).fence = w.tok then
 (if (appS x ((logS x).seq + 1) w.job).2 = 0 then ((appS x ((logS x).seq + 1) w.job).1, { w with job := default, got := default, ph := 3 }, 0) else (x, wkR w.id, (appS x ((logS x).seq + 1) w.job).2))
 else (x, wkR w.id, 13)) := by
 have F := (wk_iff w).1 W.ok
 have ht := F.t1 (by omega)
 have htf := W.tok (by omega)
 obtain ⟨j1, j2, j3⟩ := F.job (.inr (.inr h6))
 have jk : w.job.k = 3 ∨ w.job.k = 4 := j3.imp id And.right
 rw [I.lg.log]
 by_cases hf : s.fence = w.tok
 rotate_left
 · rw [if_neg hf]; exact WkOut.reset I F.id _
 rw [if_pos hf, lay_at I]
 rcases I.lg.layG j1 with ⟨c, c1, c2, h⟩ | ⟨y, h, L, S, _⟩
 · rw [h, if_neg c1]
   exact WkOut.reset I F.id _
 · rw [h, if_pos rfl]
   have A := app_mono (s := s) j1
   refine ⟨n + 1, s.app w.job, ⟨I.recd j1 (by omega) (fun g tk => ?_) L S, Gr.lay me I j1 S ⟨[], by simp, by simp⟩, Kept.lay C j1 (by omega) S, .inr rfl⟩, WkI.plain ((wk_iff _).2 ⟨F.id, (show (0 : Int) ≤ 3 ∧ (3 : Int) ≤ 7 by decide), F.tok, fun _ => ht, fun g => ?_, F.len, F.es, rfl, (by decide : (0 : Int) ≤ 1000)⟩) (fun _ => ?_) ⟨(by decide : ¬ (3 : Int) = 4), (by decide : ¬ (3 : Int) = 5), (by decide : ¬ (3 : Int) = 6)⟩, rfl⟩
   · have T := tkF3 tk g
     exact W.p6 h6 g hf T.f
   · rcases g with g | g | g <;> exact absurd (show (3 : Int) = _ from g) (by decide)
   · exact Int.le_trans htf A.fen
theorem wk_let (I : StI x n s ac) {w : Wk} (W : WkI x s ac w) : WkOut me C x n s ac w.id (if (x.chg w.id w.tok 0).2 = 0 then ((x.chg w.id w.tok 0).1, wkR w.id, 0) else (x, wkR w.id, (x.chg w.id w.tok 0).2)) := by
 have F := (wk_iff w).1 W.ok
 by_cases h : (x.chg w.id w.tok 0).2 = 0
 · rw [if_pos h]
   unfold Sto.chg at h ⊢
   by_cases hc : x.chgC w.id w.tok = 0
   · rw [if_pos hc] at h ⊢
     have h : x.room leaK (x.chgL 0).text = 0 := h
     have e : x.put leaK (x.chgL 0).text = x.set leaK (x.chgL 0).text := by unfold Sto.put; rw [if_pos h]
     show WkOut me C x n s ac w.id (x.put leaK (x.chgL 0).text, wkR w.id, 0)
     rw [e]
     exact ⟨n, s, Stp.lea me C I h, wkR_I F.id, rfl⟩
   · rw [if_neg hc] at h
     exact absurd h hc
 · rw [if_neg h]
   exact WkOut.reset I F.id _
theorem wk_step (me C : Int) (I : StI x n s ac) (hac : ac.length ≤ 1000) {w : Wk} (W : WkI x s ac w) (now : Int) : WkOut me C x n s ac w.id (stepW x w now) := by
 have F := (wk_iff w).1 W.ok
 unfold stepW
 by_cases h0 : w.ph = 0
 · rw [if_pos h0]
   by_cases g : dueT (logS x).h0 (logS x).h1 (logS x).h2 = 0 ∧ (expR (logS x) now).2 = false
   · rw [if_pos g]; exact WkOut.stay I W rfl
   · rw [if_neg g]
     refine WkOut.stay I (WkI.plain ((wk_iff _).2 ⟨F.id, (show (0 : Int) ≤ 1 ∧ (1 : Int) ≤ 7 by decide), F.tok, fun g => absurd (show (2 : Int) ≤ 1 from g) (by decide), fun g => ?_, F.len, F.es, F.got⟩) (fun g => absurd (show (3 : Int) ≤ 1 from g) (by decide)) ⟨(by decide : ¬ (1 : Int) = 4), (by decide : ¬ (1 : Int) = 5), (by decide : ¬ (1 : Int) = 6)⟩) rfl
     rcases g with g | g | g <;> exact absurd (show (1 : Int) = _ from g) (by decide)
 rw [if_neg h0]
 by_cases h1 : w.ph = 1
 · rw [if_pos h1]; exact wk_acq I W h1 now
 rw [if_neg h1]
 by_cases h2 : w.ph = 2
 · rw [if_pos h2]; exact wk_claim I W h2
 rw [if_neg h2]
 by_cases h3 : w.ph = 3
 · rw [if_pos h3]; exact wk_plan I W h3 now
 rw [if_neg h3]
 by_cases h4 : w.ph = 4
 · rw [if_pos h4]; exact wk_fetch I hac W h4
 rw [if_neg h4]
 by_cases h5 : w.ph = 5
 · rw [if_pos h5]; exact wk_put I W h5
 rw [if_neg h5]
 by_cases h6 : w.ph = 6
 · rw [if_pos h6]; exact wk_lay I W h6
 rw [if_neg h6]
 exact wk_let I W
end wk
def purge (k : List UInt8) : Rc := ⟨5, 0, 0, 0, 0, k⟩
def swT (x : Sto) (now : Int) : Sto × Int := match (logS x).ts with
 | [] => (x, 18)
 | t :: _ => match pinL x now with
   | _ :: _ => (x, 18)
   | [] => if x.has t.key = true then (wo x t.key, 0) else appS x ((logS x).seq + 1) (purge t.key)
theorem purge_ok {x : Sto} {t : Tb} {r : List Tb} (h : (logS x).ts = t :: r) : (purge t.key).ok = true := by
 have hk := (log_b x).2.2.2.kk t.key (List.mem_append.2 (.inr (List.mem_map.2 ⟨t, by rw [h]; simp, rfl⟩)))
 unfold Rc.ok purge
 dsimp only
 rw [if_neg (by decide), if_neg (by decide), if_neg (by decide), if_neg (by decide), if_pos rfl, hk]
 rfl
theorem sweepTombs_fn (x : Sto) (hs : x.ok = true) (now : Int) : VFn Tryz.prog 192 [x.av, .int .i64 now] (.tup [(swT x now).1.av, .int .i64 (swT x now).2]) := by
 obtain ⟨b1, b2, b3, b4⟩ := log_b x
 have cl := log_fn x hs
 have cp := pins_fn x hs now
 have hpu := @purge_ok x
 have hw : within ((logS x).seq + 1) 1 999999 = true := by rw [b1]; simp [within]; omega
 unfold swT
 generalize logS x = s at cl hpu b1 b3 hw
 cases hts : s.ts with
 | nil =>
   obtain ⟨a1, a2, a3, ts, a5, a6, a7, a8, a9, a10⟩ := s
   simp only at hts
   subst hts
   refine VFn.introC Tryz.call192 Tryz.func192 rfl rfl ?_
   conv => whnf
   refine CallC.nl _ (cl) ?_ ?_
   · exact rfl
   exact And.intro trivial (AVle.refl _)
 | cons t r =>
   have hok := hpu hts
   obtain ⟨a1, a2, a3, ts, a5, a6, a7, a8, a9, a10⟩ := s
   simp only at hts
   subst hts
   cases hp : pinL x now with
   | cons k q =>
     rw [hp] at cp
     refine VFn.introC Tryz.call192 Tryz.func192 rfl rfl ?_
     conv => whnf
     refine CallC.nl _ (cl) ?_ ?_
     · exact rfl
     conv => whnf
     refine CallC.nl _ (cp) ?_ ?_
     · exact rfl
     refine Grd.intro (fun _ => ?_) (fun h => absurd (show (0 : Int) < (((k :: q).length : Nat) : Int) by rw [List.length_cons]; omega) (of_decide_eq_false h))
     exact And.intro trivial (AVle.refl _)
   | nil =>
     rw [hp] at cp
     have cf := find_fn x hs t.key
     dsimp only
     by_cases hh : x.has t.key = true
     · rw [hh] at cf
       rw [if_pos hh]
       refine VFn.introC Tryz.call192 Tryz.func192 rfl rfl ?_
       conv => whnf
       refine CallC.nl _ (cl) ?_ ?_
       · exact rfl
       conv => whnf
       refine CallC.nl _ (cp) ?_ ?_
       · exact rfl
       refine And.intro ⟨Int.le_refl 0, show (0 : Int) < (((t :: r).length : Nat) : Int) by rw [List.length_cons]; omega⟩ ?_
       conv => whnf
       refine CallC.sca _ (cf) ?_ ?_
       · exact rfl
       conv => whnf
       refine CallC.nl _ (without_fn x hs t.key hh) ?_ ?_
       · exact rfl
       exact And.intro trivial (AVle.refl _)
     · have hh : x.has t.key = false := by simpa using hh
       rw [hh] at cf
       rw [if_neg (by rw [hh]; simp)]
       refine VFn.introC Tryz.call192 Tryz.func192 rfl rfl ?_
       conv => whnf
       refine CallC.nl _ (cl) ?_ ?_
       · exact rfl
       conv => whnf
       refine CallC.nl _ (cp) ?_ ?_
       · exact rfl
       refine And.intro ⟨Int.le_refl 0, show (0 : Int) < (((t :: r).length : Nat) : Int) by rw [List.length_cons]; omega⟩ ?_
       conv => whnf
       refine CallC.sca _ (cf) ?_ ?_
       · exact rfl
       refine And.intro (show inI .i64 (a1 + 1) from inI64 (by simp only at b1; omega) (by simp only at b1; omega)) ?_
       conv => whnf
       refine CallC.nl _ (lay_fn x hs (a1 + 1) hw (purge t.key) hok) ?_ ?_
       · exact rfl
       exact And.intro trivial (AVle.refl _)
def swS (x : Sto) (now : Int) : Sto × Int := if (swT x now).2 = 18 then swO x else swT x now
theorem sweep_fn (x : Sto) (hs : x.ok = true) (now : Int) : VFn Tryz.prog 162 [x.av, .int .i64 now] (.tup [(swS x now).1.av, .int .i64 (swS x now).2]) := by
 have c := sweepTombs_fn x hs now
 unfold swS
 by_cases h : (swT x now).2 = 18
 · rw [if_pos h]
   rw [h] at c
   refine VFn.introC Tryz.call162 Tryz.func162 rfl rfl ?_
   conv => whnf
   refine CallC.nl _ (c) ?_ ?_
   · exact rfl
   conv => whnf
   refine CallC.nl _ (sweepOrphans_fn x hs) ?_ ?_
   · exact rfl
   exact And.intro trivial (AVle.refl _)
 · rw [if_neg h]
   refine VFn.introC Tryz.call162 Tryz.func162 rfl rfl ?_
   conv => whnf
   refine CallC.nl _ (c) ?_ ?_
   · exact rfl
   refine Grd.intro (fun _ => ?_) (fun g => absurd (by simpa using g) h)
   exact And.intro trivial (AVle.refl _)
def Ig.own (g : Ig) (m : Nat) : AV := .agg [.int .i64 g.id, .int .i64 g.seq, .int .i64 g.f, .int .i64 g.t, .osl m, .bool g.put]
theorem CloneSm_own (L : List Smp) (hL : L.length ≤ 1000000) : FnM Tryz.prog 92 0 [smps L] [] (.osl 0) [(0, .arr 98 2 L.length fun i => (ix L i).row)] 1 := by
 refine FnM.introN Tryz.call92 Tryz.func92 rfl rfl ?_
 conv => whnf
 refine OpC.isnil rfl rfl rfl rfl rfl (fun h0 => ?_) ?_
 · conv => whnf
   exact ⟨_, .inr ⟨2, 98, 2, fun i => (ix L i).row, rfl, rfl⟩, And.intro trivial ⟨[(0, 0)], rfl, AVle.refl _, ⟨MOle.arr h0.symm fun i hi => rfl, trivial⟩⟩⟩
 · conv => whnf
   refine And.intro ⟨show (0 + L.length) * 16 ≤ 140737488355328 by omega, fun i hi => rfl⟩ ?_
   conv => whnf
   exact ⟨_, .inl rfl, And.intro trivial ⟨[(1, 0)], rfl, AVle.refl _, ⟨MOle.arr (Nat.zero_add _) fun i hi => appRows_ge (Nat.zero_le _), trivial⟩⟩⟩
theorem copiedI_own (g : Ig) (hL : g.b.length ≤ 1000000) : FnM Tryz.prog 95 0 [g.av] [] (g.own 0) [(0, .arr 98 2 g.b.length fun i => (ix g.b i).row)] 1 := by
 refine FnM.introC Tryz.call95 Tryz.func95 rfl rfl ?_
 conv => whnf
 refine CallC.k [] (CloneSm_own g.b hL) rfl rfl (AVsle.refl _) trivial rfl ?_
 conv => whnf
 exact And.intro trivial ⟨[(2, 0)], rfl, AVle.refl _, ⟨MOle.refl _, trivial⟩⟩
theorem istep_fn (x : Sto) (hs : x.ok = true) (g : Ig) (hg : g.ok = true) : VFn Tryz.prog 164 [g.av, x.av] (.tup [(stI x g).1.av, (stI x g).2.1.av, .bool (stI x g).2.2.1, .int .i64 (stI x g).2.2.2]) := by
 have f := Ig.facts hg
 by_cases h0 : g.b.length = 0
 · have c := step_idle x g h0
   unfold stI
   rw [if_pos h0]
   exact c
 · have h0' : 0 < g.b.length := by omega
   by_cases hp : g.put = true
   · obtain ⟨p1, p2, p3, p4⟩ := f.put hp
     have c := step_put x hs g h0' hp f.id p2 (ingRec_ok f hp) (appS x g.seq (ingRec g)).1 (appS x g.seq (ingRec g)).2 rfl
     unfold stI
     rw [if_neg h0, if_pos hp]
     by_cases h1 : (appS x g.seq (ingRec g)).2 = 0
     · rw [if_pos h1]
       rw [h1] at c
       exact c
     · rw [if_neg h1]
       rw [if_neg h1, decide_eq_false h1] at c
       by_cases h9 : (appS x g.seq (ingRec g)).2 = 9
       · rw [if_pos h9]
         rw [if_pos h9, if_pos h9] at c
         exact c
       · rw [if_neg h9]
         rw [if_neg h9, if_neg h9] at c
         exact c
   · have hp' : g.put = false := by simpa using hp
     have hb := log_b x
     by_cases h1 : (ix g.b 0).t < (logS x).h0
     · have c := step_late x hs g h0' hp' f.id f.sm 14 (by rw [if_pos h1]) (by decide)
       unfold stI
       rw [if_neg h0, if_neg hp, if_pos h1]
       exact c
     · by_cases h2 : (logS x).seq = 999999
       · have c := step_late x hs g h0' hp' f.id f.sm 7 (by rw [if_neg h1, if_pos h2]) (by decide)
         unfold stI
         rw [if_neg h0, if_neg hp, if_neg h1, if_pos h2]
         exact c
       · unfold stI
         rw [if_neg h0, if_neg hp, if_neg h1, if_neg h2]
         by_cases h3 : x.room (ingK x g) (smpsText g.b) = 0
         · have c := step_new x hs g h0' f.len hp' f.id f.sm h1 h2 (by omega) (x.set (ingK x g) (smpsText g.b)) x.next 0 (by rw [if_pos h3])
           rw [if_pos h3]
           exact c
         · have c := step_new x hs g h0' f.len hp' f.id f.sm h1 h2 (by omega) x 0 (x.room (ingK x g) (smpsText g.b)) (by rw [if_neg h3])
           rw [if_neg h3]
           rw [if_neg h3, if_neg h3] at c
           exact c
theorem tickI_staOK {s : Sta} (h : StaOK s) (hq : s.seq < 999999) : StaOK s.tick :=
 ⟨by have := h.q; exact ⟨show 0 ≤ s.seq + 1 by omega, show s.seq + 1 ≤ 999999 by omega⟩, h.f, h.len, h.es, fun t ht => by have := h.ts t ht; exact ⟨this.1, this.2.1, show t.seq ≤ s.seq + 1 by omega⟩, h.nd, h.lo, h.runs⟩
theorem logI_staOK (x : Sto) : ∀ n : Nat, n ≤ 400 → StaOK (logN x n)
 | 0, _ => staOK0
 | n + 1, hn => by
   have ih := logI_staOK x n (by omega)
   have hs := logN_seq x n
   have hl := logN_len x n
   show StaOK (stepL x (logN x n))
   unfold stepL
   split
   · exact tickI_staOK ih (by omega)
   · rename_i r hr
     exact app_staOK ih (readR_ok hr) (by omega) (by omega)
theorem logI_ok (x : Sto) : (logS x).ok = true := (staOK_iff _).2 (logI_staOK x _ (log_b x).2.1)
theorem ingR_ok {id : Int} (h : 0 ≤ id ∧ id ≤ 9) : (ingR id).ok = true := by
 unfold Ig.ok ingR igOK
 simp [within, smpsOK_nil]
 exact h
theorem stI_ig {x : Sto} (hx : x.ok = true) {g : Ig} (hg : g.ok = true) : (stI x g).2.1.ok = true := by
 have f := Ig.facts hg
 have hid := f.id
 have hR := ingR_ok hid
 have hl := logI_ok x
 have hb := log_b x
 have hh := Sta.hi_b hl
 unfold stI
 split
 · exact hg
 · rename_i h0
   split
   · split
     · exact hR
     · split
       · unfold Ig.ok igOK
         have := f.len
         have h8 : decide (8 < (g.b.length : Int)) = false := decide_eq_false (by omega)
         simp only [f.sm, h8]
         simp [within]
         exact hid
       · exact hR
   · split
     · exact hR
     · rename_i h1
       split
       · exact hR
       · rename_i h2
         split
         · have b0 := smps_b f.sm (i := 0) (by omega)
           have h8 := f.len
           have e1 : (Int.toNat 0) = 0 := rfl
           have e2 : ((g.b.length : Int) - 1).toNat = g.b.length - 1 := by omega
           unfold Ig.ok igOK ingPut
           simp only [f.sm, e1, e2]
           simp [within]
           omega
         · exact hR
theorem smps_mem {L : List Smp} (h : smpsOK L = true) : ∀ e ∈ L, (0 ≤ e.t ∧ e.t ≤ 99999) ∧ (-1000000 ≤ e.v ∧ e.v ≤ 1000000) := fun e he => by
 obtain ⟨i, hi, e0⟩ := List.getElem_of_mem he
 unfold smpsOK at h
 rw [Bool.and_eq_true] at h
 have := allN_iff.1 h.2 i hi
 unfold smpAt at this
 rw [ix_lt hi, e0] at this
 simp [within] at this
 exact ⟨this.1.1, this.1.2⟩
theorem smps_of {L : List Smp} (hl : L.length ≤ 4096) (hm : ∀ e ∈ L, (0 ≤ e.t ∧ e.t ≤ 99999) ∧ (-1000000 ≤ e.v ∧ e.v ≤ 1000000)) (hp : L.Pairwise (fun x y => x.t < y.t)) : smpsOK L = true := by
 unfold smpsOK
 rw [decide_eq_true hl, Bool.true_and]
 refine allN_iff.2 fun i hi => ?_
 have h1 := hm _ (getD_mem (L := L) hi)
 have h1 : (0 ≤ (ix L i).t ∧ (ix L i).t ≤ 99999) ∧ (-1000000 ≤ (ix L i).v ∧ (ix L i).v ≤ 1000000) := h1
 unfold smpAt
 simp only [within]
 rcases Nat.eq_zero_or_pos i with h0 | h0
 · simp [h0] at *; omega
 · have h2 : (ix L (i - 1)).t < (ix L i).t := by
    have := List.pairwise_iff_getElem.1 hp (i - 1) i (by omega) hi (by omega)
    rw [ix_lt hi, ix_lt (show i - 1 < L.length by omega)]
    exact this
   simp; omega
theorem smps_cat {a b : List Smp} {h0 : Int} (ha : smpsOK a = true) (hb : smpsOK b = true) (h1 : ∀ e ∈ a, e.t < h0) (h2 : ∀ e ∈ b, h0 ≤ e.t) (hl : a.length + b.length ≤ 4096) : smpsOK (a ++ b) = true := by
 refine smps_of (by rw [List.length_append]; exact hl) (fun e he => ?_) (List.pairwise_append.2 ⟨smps_pw ha, smps_pw hb, fun x hx y hy => ?_⟩)
 · rcases List.mem_append.1 he with h | h
   · exact smps_mem ha e h
   · exact smps_mem hb e h
 · have := h1 x hx
   have := h2 y hy
   omega
structure IgOut (me C : Int) (x : Sto) (n : Nat) (s : Sta) (ac : List Smp) (g : Ig) (p : Sto × Ig × Bool × Int) : Prop where
 out : ∃ n' s', Stp me C x n s ac p.1 n' s' (if p.2.2.1 = true then ac ++ g.b else ac) ∧ IgI p.1 s' p.2.1 ∧ (p.2.2.1 = true → s.h0 < s'.h0)
 id : p.2.1.id = g.id
 cnt : (if p.2.2.1 = true then ac ++ g.b else ac).length + p.2.1.b.length ≤ ac.length + g.b.length
section ig
variable {x : Sto} {n : Nat} {s : Sta} {ac : List Smp} {me C : Int}
theorem ingR_I {id : Int} (h : 0 ≤ id ∧ id ≤ 9) : IgI x s (ingR id) := ⟨ingR_ok h, fun h => absurd (show false = true from h) (by decide), fun h => absurd (show false = true from h) (by decide)⟩
theorem IgOut.stay (I : StI x n s ac) {g h : Ig} {c : Int} (hi : IgI x s h) (hid : h.id = g.id) (hb : h.b.length ≤ g.b.length) : IgOut me C x n s ac g (x, h, false, c) :=
 ⟨⟨n, s, Stp.refl me C I, hi, fun h => absurd (show false = true from h) (by decide)⟩, hid, by show ac.length + h.b.length ≤ _; omega⟩
theorem ig_step (C : Int) (I : StI x n s ac) (hac : ac.length ≤ 1000) {g : Ig} (W : IgI x s g) : IgOut g.id C x n s ac g (stI x g) := by
 have F := Ig.facts W.ok
 have iok := stI_ig I.lg.ok W.ok
 have hid := F.id
 have reset : ∀ c : Int, IgOut g.id C x n s ac g (x, ingR g.id, false, c) := fun c => IgOut.stay I (ingR_I hid) rfl (Nat.zero_le _)
 have hle := I.lg.le
 have hsq := I.seqN
 unfold stI at iok ⊢
 by_cases h0 : g.b.length = 0
 · rw [if_pos h0]; exact IgOut.stay I W rfl (Nat.le_refl _)
 rw [if_neg h0] at iok ⊢
 by_cases hp : g.put = true
 · rw [if_pos hp] at iok ⊢
   obtain ⟨q1, q2, q3, q4⟩ := F.put hp
   have hs := W.sq hp
   have hr := ingRec_ok F hp
   obtain ⟨m, hm⟩ : ∃ m : Nat, g.seq = (m : Int) := ⟨g.seq.toNat, by omega⟩
   rcases Nat.lt_or_ge n m with hlt | hge
   · have em : m = n + 1 := by omega
     subst em
     have hat := W.at_ hp (by omega)
     rw [hm] at iok ⊢
     rcases I.lg.layG hr with ⟨c, c1, c2, h⟩ | ⟨y, h, L, S, _⟩
     · rw [h, if_neg c1, if_neg c2]
       exact reset c
     · rw [h, if_pos rfl]
       obtain ⟨a1, a2, a3⟩ := hat
       have er : ingRec g = ⟨1, 0, 0, g.f, g.t, keyB 0 (n + 1) g.id.toNat⟩ := by
        unfold ingRec
        rw [show g.seq.toNat = n + 1 by omega]
       have ek : g.seq.toNat = n + 1 := by omega
       rw [ek] at a2 a3
       rw [er] at hr L
       have srt := smps_srt F.sm
       have hbt : ∀ a ∈ g.b, s.h0 ≤ a.t ∧ a.t < g.t := fun a ha => by
        obtain ⟨i, hi, e⟩ := List.getElem_of_mem ha
        have u1 := srt 0 i (Nat.zero_le _) hi
        have u2 := srt i (g.b.length - 1) (by omega) (by omega)
        rw [ix_lt hi, e] at u1 u2
        omega
       have hcat := smps_cat I.acok F.sm I.ach (fun e he => (hbt e he).1) (by have := F.len; omega)
       obtain ⟨b1, b2⟩ := I.add hr (by omega) a1 F.len hbt a2 a3 hcat L S
       refine ⟨⟨n + 1, _, ⟨b1, ?_, ?_, .inr rfl⟩, ingR_I hid, fun _ => b2⟩, rfl, ?_⟩
       · exact Gr.lay g.id I hr S ⟨g.b, rfl, fun a ha => (hbt a ha).1⟩
       · exact Kept.lay C hr (show (1 : Int) ≠ 5 by decide) S
       · show (ac ++ g.b).length + ([] : List Smp).length ≤ _
         rw [List.length_append]
         exact Nat.le_refl _
   · have hh : x.has (manK g.seq) = true := by
      rw [hm, I.lg.has m (by omega) (by omega)]
      exact decide_eq_true hge
     have ha : appS x g.seq (ingRec g) = (x, 9) := by unfold appS Sto.putA; rw [if_pos hh]
     rw [ha] at iok ⊢
     rw [if_neg (show ¬ ((x, 9) : Sto × Int).2 = 0 from (by decide : ¬ (9 : Int) = 0)), if_pos rfl] at iok ⊢
     exact IgOut.stay I ⟨iok, fun h => absurd (show false = true from h) (by decide), fun h => absurd (show false = true from h) (by decide)⟩ rfl (Nat.le_refl _)
 · rw [if_neg hp] at iok ⊢
   by_cases h1 : (ix g.b 0).t < (logS x).h0
   · rw [if_pos h1]; exact reset _
   rw [if_neg h1] at iok ⊢
   by_cases h2 : (logS x).seq = 999999
   · rw [if_pos h2]; exact reset _
   rw [if_neg h2] at iok ⊢
   by_cases h3 : x.room (ingK x g) (smpsText g.b) = 0
   · rw [if_pos h3] at iok ⊢
     have eK : ingK x g = keyB 0 (s.seq + 1).toNat g.id.toNat := by unfold ingK; rw [I.lg.log]
     rw [eK] at h3 ⊢
     have hy := set_ok I.lg.ok (keyF_ok (t := 0) (n := (s.seq + 1).toNat) (w := g.id.toNat) (by omega)) h3
     have eid : ((g.id.toNat : Nat) : Int) = g.id := by omega
     have G := Gr.raw I (id := g.id.toNat) (by omega) hy
     rw [eid] at G
     have c := set_at x (keyB 0 (s.seq + 1).toNat g.id.toNat) (smpsText g.b)
     refine ⟨⟨n, s, ⟨I.raw (by omega) hy, G, Kept.raw C I (by omega) hy, .inl ⟨rfl, rfl⟩⟩, ⟨iok, fun _ => ?_, fun _ _ => ?_⟩, fun h => absurd (show false = true from h) (by decide)⟩, rfl, Nat.le_refl _⟩
     · show (logS x).seq + 1 ≤ s.seq + 1
       rw [I.lg.log]
       exact Int.le_refl _
     · show (logS x).h0 = s.h0 ∧ _
       unfold ingPut
       simp only
       rw [I.lg.log, c.2]
       exact ⟨rfl, c.1, rfl⟩
   · rw [if_neg h3]; exact reset _
end ig
def ansR (r : Rr) : An := ⟨r.tier, r.f, r.t, r.code, if r.code = 0 then r.got else default⟩
structure RdOut (me C : Int) (x : Sto) (n : Nat) (s : Sta) (ac : List Smp) (id : Int) (p : Sto × Rr × Bool × Int) : Prop where
 out : ∃ n' s', Stp me C x n s ac p.1 n' s' ac ∧ RdI p.1 s' ac C p.2.1 ∧ (p.2.2.1 = true → AnI s' ac (ansR p.2.1))
 id : p.2.1.id = id
structure RrF (r : Rr) : Prop where
 id : 0 ≤ r.id ∧ r.id ≤ 9
 ph : 0 ≤ r.ph ∧ r.ph ≤ 4
 tier : r.tier = 0 ∨ r.tier = 1 ∨ r.tier = 2
 rg : isRange r.f r.t = true
 til : 0 ≤ r.til ∧ r.til ≤ 200000
 code : 0 ≤ r.code ∧ r.code ≤ 19
 got : r.got.ok = true ∧ r.got.c ≤ 1000
 len : r.left.length ≤ 300
 es : ∀ e ∈ r.left, e.ok = true ∧ e.tier = r.tier
theorem rr_iff (r : Rr) : r.ok = true ↔ RrF r := by
 unfold Rr.ok gotOK atTier
 simp only [Bool.and_eq_true, decide_eq_true_eq, List.all_eq_true, within]
 constructor
 · rintro ⟨h1, h2, h3, h4, h5, h6, h7, h8, h9⟩
   exact ⟨h1, h2, by omega, h4, h5, h6, h7, by omega, h9⟩
 · intro h
   exact ⟨h.id, h.ph, by have := h.tier; omega, h.rg, h.til, h.code, h.got, by have := h.len; omega, h.es⟩
section rd
variable {x : Sto} {n : Nat} {s : Sta} {ac : List Smp} {C : Int}
theorem RdOut.stay (I : StI x n s ac) {me : Int} {v : Rr} {c id : Int} (h : RdI x s ac C v) (hi : v.id = id) : RdOut me C x n s ac id (x, v, false, c) :=
 ⟨⟨n, s, Stp.refl me C I, h, fun h => absurd (show false = true from h) (by decide)⟩, hi⟩
theorem goOn_I {r : Rr} (F : RrF r) {c : Int} (hc : 0 ≤ c ∧ c ≤ 19) (h5 : c ≠ 5 ∧ c ≠ 17) (h0 : c = 0 → r.t ≤ s.h0 ∧ r.got = agI ac r.f r.t) : RdI x s ac C (goOnR r c) := by
 refine ⟨(rr_iff _).2 ⟨F.id, (show (0 : Int) ≤ 4 ∧ (4 : Int) ≤ 4 by decide), F.tier, F.rg, F.til, hc, F.got, by simp [goOnR], by simp [goOnR]⟩, fun g => ?_, fun g => ?_, fun g => absurd (show (4 : Int) = 3 from g) (by decide), fun g => absurd (show (4 : Int) = 3 from g) (by decide), fun _ => ⟨h5, h0⟩⟩
 · rcases g with g | g <;> exact absurd (show (4 : Int) = _ from g) (by decide)
 · rcases g with g | g <;> exact absurd (show (4 : Int) = _ from g) (by decide)
theorem Stp.pin (me : Int) (I : StI x n s ac) (hme : 0 ≤ me ∧ me ≤ 9) {d : List UInt8} (hr : x.room (pinK me) d = 0) (hk : keyOK (pinK me) = true) : Stp me C x n s ac (x.set (pinK me) d) n s ac := by
 have hy := set_ok I.lg.ok hk hr
 have S : Same x (x.set (pinK me) d) (pinK me) := fun q hq => set_ne I.lg.ok hy hq
 exact ⟨I.other S hy (kOk_pin me) (fun i => man_ne_pin i me), Gr.other me I S (kOk_pin me) (fun i hi hn e => hn (pinK_inj hi hme e)), Kept.other C S (kOk_pin me), .inl ⟨rfl, rfl⟩⟩
theorem Stp.unpin (me : Int) (I : StI x n s ac) (hme : 0 ≤ me ∧ me ≤ 9) : Stp me C x n s ac (wo x (pinK me)) n s ac := by
 have S : Same x (wo x (pinK me)) (pinK me) := fun q hq => wo_ne I.lg.ok hq
 exact ⟨I.other S (wo_ok I.lg.ok _) (kOk_pin me) (fun i => man_ne_pin i me), Gr.other me I S (kOk_pin me) (fun i hi hn e => hn (pinK_inj hi hme e)), Kept.other C S (kOk_pin me), .inl ⟨rfl, rfl⟩⟩
theorem pinK_ok {i : Int} (h : 0 ≤ i ∧ i ≤ 9) : keyOK (pinK i) = true := by
 obtain ⟨k, rfl⟩ : ∃ k : Nat, i = (k : Int) := ⟨i.toNat, by omega⟩
 have hk : k ≤ 9 := by omega
 unfold pinK
 rw [Lib.itoa_nonneg, Lib.decDigits, dif_pos (by omega)]
 have : k = 0 ∨ k = 1 ∨ k = 2 ∨ k = 3 ∨ k = 4 ∨ k = 5 ∨ k = 6 ∨ k = 7 ∨ k = 8 ∨ k = 9 := by omega
 rcases this with rfl | rfl | rfl | rfl | rfl | rfl | rfl | rfl | rfl | rfl <;> decide
theorem rd_step (I : StI x n s ac) (hac : ac.length ≤ 1000) {r : Rr} (W : RdI x s ac C r) {now : Int} (hnow : 0 ≤ now ∧ now ≤ 101000) (hC : C ≤ now + 3) :
 RdOut r.id C x n s ac r.id (stepR x r now) ∧ (r.ph = 3 → ∀ e l, r.left = e :: l → ¬ r.til - 3 < now → x.has e.key = true → WinOK x e r.f r.t r.got) := by
 have F := (rr_iff r).1 W.ok
 have hwin : r.ph = 3 → ∀ e l, r.left = e :: l → ¬ r.til - 3 < now → x.has e.key = true ∧ (WinOK x e r.f r.t r.got ∧ winR x e r.f r.t r.got = (r.got.mrg (valE ac r.f r.t e), 0) ∧ (r.got.mrg (valE ac r.f r.t e)).ok = true ∧ (r.got.mrg (valE ac r.f r.t e)).c ≤ 1000 ∧ gfold ac r.f r.t (r.got.mrg (valE ac r.f r.t e)) l = agI ac r.f r.t) := fun h3 e l hl ht => by
  obtain ⟨p1, p2, p3⟩ := W.p3 h3
  rw [hl] at p2
  have hv := W.lv h3 (by omega) e (by rw [hl]; simp)
  exact ⟨hv.1, win_step I hac F.got.1 p2 (p3 e (by rw [hl]; simp)) hv.1⟩
 refine ⟨?_, fun h3 e l hl ht _ => (hwin h3 e l hl ht).2.1⟩
 unfold stepR
 by_cases h0 : r.ph = 0
 · rw [if_pos h0]; exact RdOut.stay I W rfl
 rw [if_neg h0]
 by_cases h1 : r.ph = 1
 · rw [if_pos h1]
   by_cases hr : x.room (pinK r.id) (Lib.itoa (now + 30)) = 0
   · rw [if_pos hr]
     have c := set_at x (pinK r.id) (Lib.itoa (now + 30))
     refine ⟨⟨n, s, Stp.pin r.id I F.id hr (pinK_ok F.id), ⟨(rr_iff _).2 ⟨F.id, (show (0 : Int) ≤ 2 ∧ (2 : Int) ≤ 4 by decide), F.tier, F.rg, ⟨by show 0 ≤ now + 30; omega, by show now + 30 ≤ 200000; omega⟩, F.code, F.got, F.len, F.es⟩, fun _ => ⟨c.1, by rw [c.2]⟩, fun _ => W.p0 (.inl h1), fun g => absurd (show (2 : Int) = 3 from g) (by decide), fun g => absurd (show (2 : Int) = 3 from g) (by decide), fun g => absurd (show (2 : Int) = 4 from g) (by decide)⟩, fun h => absurd (show false = true from h) (by decide)⟩, rfl⟩
   · rw [if_neg hr]
     have hrc : x.room (pinK r.id) (Lib.itoa (now + 30)) = 8 ∨ x.room (pinK r.id) (Lib.itoa (now + 30)) = 7 := by
      unfold Sto.room at hr ⊢
      split
      · exact .inl rfl
      · rename_i q
        rw [if_neg q] at hr
        split
        · exact .inr rfl
        · rename_i q2
          rw [if_neg q2] at hr
          exact absurd rfl hr
     generalize x.room (pinK r.id) (Lib.itoa (now + 30)) = c at *
     exact RdOut.stay I (goOn_I F (by omega) (by omega) (fun h => by omega)) rfl
 rw [if_neg h1]
 by_cases h2 : r.ph = 2
 · rw [if_pos h2, I.lg.log]
   have hp := W.pin (.inl h2)
   by_cases hc : covC s r.tier r.f r.t = 0
   · rw [if_pos hc]
     have hab : 0 ≤ r.f ∧ r.f ≤ r.t ∧ r.t ≤ 100000 := by have := F.rg; simp [isRange, within] at this; omega
     have hcc := hc
     unfold covC at hcc
     split at hcc
     rotate_left
     · omega
     rename_i q
     obtain ⟨q1, q2, q3, q4⟩ := q
     split at hcc
     · omega
     rename_i q5
     split at hcc
     · omega
     rename_i q6
     have hw := wd_b r.tier
     rw [Int.tmod_eq_emod_of_nonneg hab.1] at q3
     rw [Int.tmod_eq_emod_of_nonneg (by omega)] at q4
     obtain ⟨c1, c2, c3⟩ := cov_I I F.tier hab.2.1 (by omega) (by omega) q3 q4
     have hh := hi_le I.li r.tier
     refine RdOut.stay I ⟨(rr_iff _).2 ⟨F.id, (show (0 : Int) ≤ 3 ∧ (3 : Int) ≤ 4 by decide), F.tier, F.rg, F.til, F.code, F.got, c3, fun e he => ⟨(c2 e he).1.kn.st.ok, (c2 e he).2.2⟩⟩, fun _ => hp, fun g => ?_, fun _ => ⟨by show r.t ≤ s.h0; omega, ?_, fun e he => (c2 e he).1⟩, fun _ _ e he => ?_, fun g => absurd (show (3 : Int) = 4 from g) (by decide)⟩ rfl
     · rcases g with g | g <;> exact absurd (show (3 : Int) = _ from g) (by decide)
     · show gfold ac r.f r.t r.got _ = _
       rw [W.p0 (.inr h2)]
       exact c1
     · obtain ⟨_, d1, _⟩ := c2 e he
       exact ⟨(I.es e d1).2, List.mem_append.2 (.inl (List.mem_map.2 ⟨e, d1, rfl⟩))⟩
   · rw [if_neg hc]
     have : covC s r.tier r.f r.t = 4 ∨ covC s r.tier r.f r.t = 15 ∨ covC s r.tier r.f r.t = 16 := by
      unfold covC at hc ⊢
      split
      · split
        · exact .inr (.inl rfl)
        · split
          · exact .inr (.inr rfl)
          · rename_i a1 a2 a3
            rw [if_pos a1, if_neg a2, if_neg a3] at hc
            exact absurd rfl hc
      · exact .inl rfl
     generalize covC s r.tier r.f r.t = c at *
     exact RdOut.stay I (goOn_I F (by omega) (by omega) (fun h => by omega)) rfl
 rw [if_neg h2]
 by_cases h3 : r.ph = 3
 · rw [if_pos h3]
   obtain ⟨p1, p2, p3⟩ := W.p3 h3
   cases hl : r.left with
   | nil =>
     simp only
     rw [hl] at p2
     exact RdOut.stay I (goOn_I F (by omega) (by omega) (fun _ => ⟨p1, p2⟩)) rfl
   | cons e l =>
     simp only
     by_cases ht : r.til - 3 < now
     · rw [if_pos ht]
       exact RdOut.stay I (goOn_I F (by omega) (by omega) (fun h => by omega)) rfl
     · rw [if_neg ht]
       obtain ⟨_, _, w2, w3, w4, w5⟩ := hwin h3 e l hl ht
       rw [w2, if_pos rfl]
       have hll : l.length ≤ 300 := by have := F.len; rw [hl] at this; simp at this; omega
       refine RdOut.stay I ⟨(rr_iff _).2 ⟨F.id, F.ph, F.tier, F.rg, F.til, F.code, ⟨w3, w4⟩, hll, fun y hy => F.es y (by rw [hl]; simp [hy])⟩, fun _ => W.pin (.inr h3), fun g => ?_, fun _ => ⟨p1, w5, fun y hy => p3 y (by rw [hl]; simp [hy])⟩, fun _ hc y hy => W.lv h3 hc y (by rw [hl]; simp [hy]), fun g => ?_⟩ rfl
       · have g : r.ph = 1 ∨ r.ph = 2 := g
         omega
       · have g : r.ph = 4 := g
         omega
 rw [if_neg h3]
 have h4 : r.ph = 4 := by have := F.ph; omega
 obtain ⟨a1, a2⟩ := W.p4 h4
 refine ⟨⟨n, s, Stp.unpin r.id I F.id, ⟨(rr_iff _).2 ⟨F.id, (show (0 : Int) ≤ 0 ∧ (0 : Int) ≤ 4 by decide), F.tier, F.rg, F.til, F.code, F.got, F.len, F.es⟩, fun g => ?_, fun g => ?_, fun g => absurd (show (0 : Int) = 3 from g) (by decide), fun g => absurd (show (0 : Int) = 3 from g) (by decide), fun g => absurd (show (0 : Int) = 4 from g) (by decide)⟩, fun _ => ⟨?_, a1, fun hc => ?_, fun hc => ?_⟩⟩, rfl⟩
 · rcases g with g | g <;> exact absurd (show (0 : Int) = _ from g) (by decide)
 · rcases g with g | g <;> exact absurd (show (0 : Int) = _ from g) (by decide)
 · have hgo : (if r.code = 0 then r.got else default : Ag).ok = true := by
    split
    · exact F.got.1
    · rfl
   have h1 := F.tier
   have h2 := F.code
   unfold An.ok ansR
   rw [hgo, F.rg, show within r.tier 0 2 = true by simp [within]; omega, show within r.code 0 19 = true by simp [within]; omega]
   rfl
 · have hc : r.code = 0 := hc
   obtain ⟨b1, b2⟩ := a2 hc
   refine ⟨b1, ?_⟩
   show (if r.code = 0 then r.got else default) = _
   rw [if_pos hc]
   exact b2
 · have hc : r.code ≠ 0 := hc
   show (if r.code = 0 then r.got else default) = _
   rw [if_neg hc]
end rd
section sw
variable {x : Sto} {n : Nat} {s : Sta} {ac : List Smp} {C : Int}
theorem sw_step (me : Int) (I : StI x n s ac) {now : Int} (hC : now ≤ C + 3) : ∃ n' s', Stp me C x n s ac (swS x now).1 n' s' ac := by
 have free : pinL x now = [] → ∀ i til : Int, (0 ≤ i ∧ i ≤ 9) → (0 ≤ til ∧ til ≤ 200000) → x.has (pinK i) = true → (x.get (pinK i)).data = Lib.itoa til → ¬ C ≤ til + 3 := fun hp i til h1 h2 h3 h4 => by
  obtain ⟨a1, a2⟩ := has_get h3
  have hm : pinK i ∈ x.os.map (·.key) := List.mem_map.2 ⟨_, a1, a2⟩
  have hn : pinK i ∉ pinL x now := by rw [hp]; simp
  have : keepK x now (pinK i) = false := by
   cases h : keepK x now (pinK i) with
   | false => rfl
   | true => exact absurd (List.mem_filter.2 ⟨hm, h⟩) hn
  unfold keepK at this
  rw [pinK_pre, Bool.true_and, h4] at this
  unfold pinQ at this
  obtain ⟨b1, b2⟩ := num_back (n := til) (by omega) (by omega)
  rw [b1, b2] at this
  simp at this
  omega
 have orph : ∃ n' s', Stp me C x n s ac (swO x).1 n' s' ac := by
  unfold swO
  split
  · exact ⟨n, s, Stp.refl me C I⟩
  · rename_i k r hk
    have hm : k ∈ orphL x := by rw [hk]; simp
    have ho := (List.mem_filter.1 hm).2
    rw [I.lg.log] at ho
    unfold Sta.orph at ho
    simp only [Bool.and_eq_true, Bool.or_eq_true, Bool.not_eq_true', decide_eq_true_eq] at ho
    obtain ⟨o1, o2, o3⟩ := ho
    have hnk : k ∉ s.keys := fun h => by rw [(has_iff s k).2 h] at o2; cases o2
    refine ⟨n, s, ⟨I.del o1 (fun e he h => hnk (List.mem_append.2 (.inl (List.mem_map.2 ⟨e, he, h⟩)))), Gr.del me I o1 (fun h => ?_) (fun h => .inl ?_), Kept.orph C I hnk, .inl ⟨rfl, rfl⟩⟩⟩
    · rcases o3 with o3 | o3
      · exact o3.2
      · omega
    · rcases o3 with o3 | o3
      · exact absurd o3.1 h
      · exact o3.2
 unfold swS
 by_cases h18 : (swT x now).2 = 18
 · rw [if_pos h18]; exact orph
 · rw [if_neg h18]
   unfold swT
   rw [I.lg.log]
   cases ht : s.ts with
   | nil => exact ⟨n, s, Stp.refl me C I⟩
   | cons t r =>
     simp only
     have htm : t ∈ s.ts := by rw [ht]; simp
     have O := (staOK_iff s).1 I.lg.sok
     have htk := (O.ts t htm).1
     obtain ⟨l1, l2⟩ := I.li.ts t htm
     cases hp : pinL x now with
     | cons a b => exact ⟨n, s, Stp.refl me C I⟩
     | nil =>
       simp only
       by_cases hh : x.has t.key = true
       · rw [if_pos hh]
         have hne : ∀ e ∈ s.es, e.key ≠ t.key := fun e he h => by
          have nd := O.nd
          unfold Sta.keys at nd
          exact (List.nodup_append.1 nd).2.2 e.key (List.mem_map.2 ⟨e, he, rfl⟩) t.key (List.mem_map.2 ⟨t, htm, rfl⟩) h
         exact ⟨n, s, ⟨I.del htk hne, Gr.del me I htk l1 (fun h => .inr (l2 h)), Kept.free (free hp), .inl ⟨rfl, rfl⟩⟩⟩
       · rw [if_neg hh, lay_at I]
         have hr : (purge t.key).ok = true := by
          unfold Rc.ok purge
          simp [Rc.bare, htk]
         rcases I.lg.layG hr with ⟨c, c1, c2, h⟩ | ⟨y, h, L, S, _⟩
         · rw [h]; exact ⟨n, s, Stp.refl me C I⟩
         · rw [h]
           exact ⟨n + 1, _, ⟨I.recd hr (show (5 : Int) ≠ 1 by decide) (fun g => absurd (show (5 : Int) = 3 from g) (by decide)) L S, Gr.lay me I hr S ⟨[], by simp, by simp⟩, Kept.free (free hp), .inr rfl⟩⟩
end sw

def Fl.skew (s : Fl) (i : Int) : Int := if i = 0 then s.k0 else if i = 1 then s.k1 else if i = 2 then s.k2 else if i = 3 then s.k3 else if i = 4 then s.k4 else if i = 5 then s.k5 else s.k6
end Go.Proofs.YtnplgeogieoioaaGreatDoor
