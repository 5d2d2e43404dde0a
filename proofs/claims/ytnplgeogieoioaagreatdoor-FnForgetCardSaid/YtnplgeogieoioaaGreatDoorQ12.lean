/- Contracts of functions that the claim reaches, and the plain law of what they compute; each theorem bears its own conditions. -/
import Derived.Test.YtnplgeogieoioaaGreatDoorQ11
import Derived.Test.YtnplgeogieoioaaGreatDoorQ6
import Derived.Test.YtnplgeogieoioaaGreatDoorQ9
import Derived.Test.YtnplgeogieoioaaGreatDoorQ3
import Derived.Test.YtnplgeogieoioaaGreatDoorQ7
import Derived.Test.YtnplgeogieoioaaGreatDoorV52
set_option linter.unusedVariables false
set_option linter.constructorNameAsVariable false
set_option linter.unusedSimpArgs false
set_option maxRecDepth 20000
set_option maxHeartbeats 1000000
namespace Go.Proofs.YtnplgeogieoioaaGreatDoor
open Go Go.Vw
def wkR (id : Int) : Wk := ⟨id, 0, 0, default, [], default⟩
def clmR (tok : Int) : Rc := ⟨2, tok, 0, 0, 0, []⟩
def pubW (s : Sta) (tok : Int) : Rc := ⟨3, tok, dueT s.h0 s.h1 s.h2, dueF s.h0 s.h1 s.h2, dueF s.h0 s.h1 s.h2 + wd (dueT s.h0 s.h1 s.h2), keyB (dueT s.h0 s.h1 s.h2).toNat (dueF s.h0 s.h1 s.h2).toNat tok.toNat⟩
def retW (e : En) (tok : Int) : Rc := ⟨4, tok, e.tier, e.f, e.t, e.key⟩
def stepW (x : Sto) (w : Wk) (now : Int) : Sto × Wk × Int :=
 if w.ph = 0 then (if dueT (logS x).h0 (logS x).h1 (logS x).h2 = 0 ∧ (expR (logS x) now).2 = false then (x, w, 18) else (x, { w with ph := 1 }, 0))
 else if w.ph = 1 then (if acqR x w.id now = 0 then (acqS x w.id now, { w with tok := acqT x w.id now, ph := 2 }, 0) else (x, wkR w.id, acqR x w.id now))
 else if w.ph = 2 then (if (appS x ((logS x).seq + 1) (clmR w.tok)).2 = 0 then ((appS x ((logS x).seq + 1) (clmR w.tok)).1, { w with ph := 3 }, 0) else (x, wkR w.id, (appS x ((logS x).seq + 1) (clmR w.tok)).2))
 else if w.ph = 3 then
  if (logS x).fence = w.tok then
   if dueT (logS x).h0 (logS x).h1 (logS x).h2 = 0 then
    if (expR (logS x) now).2 = true then (x, { w with job := retW (expR (logS x) now).1 w.tok, ph := 6 }, 0) else (x, { w with ph := 7 }, 0)
   else (x, { w with job := pubW (logS x) w.tok, ins := covL (logS x) ((pubW (logS x) w.tok).tier - 1) (pubW (logS x) w.tok).f (pubW (logS x) w.tok).t, got := default, ph := 4 }, 0)
  else (x, wkR w.id, 13)
 else if w.ph = 4 then
  match w.ins with
  | [] => (x, { w with ph := 5 }, 0)
  | e :: l => if (winR x e w.job.f w.job.t w.got).2 = 0 then (x, { w with got := (winR x e w.job.f w.job.t w.got).1, ins := l, ph := if l = [] then 5 else 4 }, 0) else (x, wkR w.id, (winR x e w.job.f w.job.t w.got).2)
 else if w.ph = 5 then
  (if (x.putA w.job.key (bksText (bkt w.job.f w.got))).2 = 0 ∨ (x.putA w.job.key (bksText (bkt w.job.f w.got))).2 = 9 then ((x.putA w.job.key (bksText (bkt w.job.f w.got))).1, { w with ph := 6 }, 0) else (x, wkR w.id, (x.putA w.job.key (bksText (bkt w.job.f w.got))).2))
 else if w.ph = 6 then
  if (logS x).fence = w.tok then
   (if (appS x ((logS x).seq + 1) w.job).2 = 0 then ((appS x ((logS x).seq + 1) w.job).1, { w with job := default, got := default, ph := 3 }, 0) else (x, wkR w.id, (appS x ((logS x).seq + 1) w.job).2))
  else (x, wkR w.id, 13)
 else (if (x.chg w.id w.tok 0).2 = 0 then ((x.chg w.id w.tok 0).1, wkR w.id, 0) else (x, wkR w.id, (x.chg w.id w.tok 0).2))
structure Stp (me C : Int) (x : Sto) (n : Nat) (s : Sta) (ac : List Smp) (y : Sto) (n' : Nat) (s' : Sta) (ac' : List Smp) : Prop where
 st : StI y n' s' ac'
 gr : Gr me x s ac y s' ac'
 kp : Kept C x s y s'
 lg : (n' = n ∧ s' = s) ∨ n' = n + 1
theorem Stp.refl (me C : Int) {x : Sto} {n : Nat} {s : Sta} {ac : List Smp} (I : StI x n s ac) : Stp me C x n s ac x n s ac := ⟨I, Gr.refl _ _ _ _, Kept.refl _ _ _, .inl ⟨rfl, rfl⟩⟩
structure WkF (w : Wk) : Prop where
 id : 0 ≤ w.id ∧ w.id ≤ 9
 ph : 0 ≤ w.ph ∧ w.ph ≤ 7
 tok : 0 ≤ w.tok ∧ w.tok ≤ 999999
 t1 : 2 ≤ w.ph → w.tok ≠ 0
 job : (w.ph = 4 ∨ w.ph = 5 ∨ w.ph = 6) → w.job.ok = true ∧ w.job.tok = w.tok ∧ (w.job.k = 3 ∨ (w.ph = 6 ∧ w.job.k = 4))
 len : w.ins.length ≤ 300
 es : ∀ e ∈ w.ins, e.ok = true
 got : w.got.ok = true ∧ w.got.c ≤ 1000
theorem wk_iff (w : Wk) : w.ok = true ↔ WkF w := by
 constructor
 · intro h
   unfold Wk.ok gotOK at h
   simp only [Bool.and_eq_true] at h
   obtain ⟨h1, h2, h3, h4, h5, h6, h7, h8, h9⟩ := h
   refine ⟨by simpa [within] using h1, by simpa [within] using h2, by simpa [within] using h3, fun hp ht => ?_, fun hp => ?_, by have := of_decide_eq_true h6; omega, List.all_eq_true.1 h7, h8, of_decide_eq_true h9⟩
   · rw [decide_eq_true hp, decide_eq_true ht] at h4; cases h4
   · rw [show within w.ph 4 6 = true by simp [within]; omega] at h5
     simp only [Bool.not_true, Bool.false_or, Bool.and_eq_true, Bool.or_eq_true, decide_eq_true_eq] at h5
     exact h5
 · intro h
   unfold Wk.ok gotOK
   simp only [Bool.and_eq_true]
   refine ⟨by simpa [within] using h.id, by simpa [within] using h.ph, by simpa [within] using h.tok, ?_, ?_, decide_eq_true (by have := h.len; omega), List.all_eq_true.2 h.es, h.got.1, decide_eq_true h.got.2⟩
   · by_cases hp : 2 ≤ w.ph
     · rw [decide_eq_true hp, decide_eq_false (h.t1 hp)]; rfl
     · rw [decide_eq_false hp]; rfl
   · by_cases hp : w.ph = 4 ∨ w.ph = 5 ∨ w.ph = 6
     · obtain ⟨a, b, c⟩ := h.job hp
       simp only [Bool.or_eq_true, Bool.and_eq_true, decide_eq_true_eq]
       exact .inr ⟨a, b, c⟩
     · have := h.ph
       rw [show within w.ph 4 6 = false by simp [within]; omega]
       rfl
theorem wkR_ok {id : Int} (h : 0 ≤ id ∧ id ≤ 9) : (wkR id).ok = true :=
 (wk_iff _).2 ⟨h, (by decide : (0 : Int) ≤ 0 ∧ (0 : Int) ≤ 7), (by decide : (0 : Int) ≤ 0 ∧ (0 : Int) ≤ 999999), fun h => absurd (show (2 : Int) ≤ 0 from h) (by decide),
  fun h => by rcases h with h | h | h <;> exact absurd (show (0 : Int) = _ from h) (by decide), by simp [wkR], by simp [wkR], rfl, (by decide : (0 : Int) ≤ 1000)⟩
theorem wkR_I {x : Sto} {s : Sta} {ac : List Smp} {id : Int} (h : 0 ≤ id ∧ id ≤ 9) : WkI x s ac (wkR id) :=
 ⟨wkR_ok h, fun h => absurd (show (3 : Int) ≤ 0 from h) (by decide), fun h => by rcases h with h | h | h <;> exact absurd (show (0 : Int) = _ from h) (by decide), fun h => absurd (show (0 : Int) = 4 from h) (by decide), fun h => absurd (show (0 : Int) = 5 from h) (by decide), fun h => absurd (show (0 : Int) = 6 from h) (by decide)⟩
theorem WkI.plain {x : Sto} {s : Sta} {ac : List Smp} {w : Wk} (h : w.ok = true) (ht : 3 ≤ w.ph → w.tok ≤ s.fence) (h4 : w.ph ≠ 4 ∧ w.ph ≠ 5 ∧ w.ph ≠ 6) : WkI x s ac w :=
 ⟨h, ht, fun g => by omega, fun g => absurd g h4.1, fun g => absurd g h4.2.1, fun g => absurd g h4.2.2⟩
section vals
variable {x : Sto} {n : Nat} {s : Sta} {ac : List Smp}
theorem in_in (ac : List Smp) (f t a b : Int) : smpsIn (smpsIn ac f t) a b = smpsIn ac (if a > f then a else f) (if b < t then b else t) := by
 unfold smpsIn
 rw [List.filter_filter]
 congr 1
 funext e
 rw [Bool.eq_iff_iff]
 simp only [Bool.and_eq_true, within, decide_eq_true_eq]
 split <;> split <;> omega
theorem smps_sub {L : List Smp} (h : smpsOK L = true) (a b : Int) : smpsOK (smpsIn L a b) = true := by
 have hp := (smps_pw h).sublist (List.filter_sublist (p := fun e : Smp => within e.t a (b - 1)))
 have hl := smpsIn_len L a b
 have hb := smps_bd h
 have hh : ∀ i, i < L.length → smpAt L i = true := by
  unfold smpsOK at h
  rw [Bool.and_eq_true] at h
  exact allN_iff.1 h.2
 have hm : ∀ e ∈ smpsIn L a b, (0 ≤ e.t ∧ e.t ≤ 99999) ∧ (-1000000 ≤ e.v ∧ e.v ≤ 1000000) := fun e he => by
  obtain ⟨i, hi, e0⟩ := List.getElem_of_mem (List.mem_filter.1 he).1
  have := hh i hi
  unfold smpAt at this
  rw [ix_lt hi, e0] at this
  simp [within] at this
  exact ⟨this.1.1, this.1.2⟩
 unfold smpsOK
 rw [decide_eq_true (by omega), Bool.true_and]
 refine allN_iff.2 fun i hi => ?_
 have h1 := hm _ (getD_mem (L := smpsIn L a b) hi)
 have h1 : (0 ≤ (ix (smpsIn L a b) i).t ∧ (ix (smpsIn L a b) i).t ≤ 99999) ∧ (-1000000 ≤ (ix (smpsIn L a b) i).v ∧ (ix (smpsIn L a b) i).v ≤ 1000000) := h1
 unfold smpAt
 simp only [within]
 rcases Nat.eq_zero_or_pos i with h0 | h0
 · simp [h0] at *; omega
 · have h2 : (ix (smpsIn L a b) (i - 1)).t < (ix (smpsIn L a b) i).t := by
    have := List.pairwise_iff_getElem.1 hp (i - 1) i (by show i - 1 < (smpsIn L a b).length; omega) hi (by omega)
    rw [ix_lt hi, ix_lt (show i - 1 < (smpsIn L a b).length by omega)]
    exact this
   simp; omega
theorem bkt_ok {f : Int} {A : Ag} (hf : 0 ≤ f ∧ f ≤ 99999) (hA : A.ok = true) : bksOK (bkt f A) = true := by
 unfold bkt
 split
 · rfl
 · rename_i h
   unfold bksOK
   rw [decide_eq_true (by simp), Bool.true_and]
   refine allN_iff.2 fun i hi => ?_
   have : i = 0 := by simp at hi; omega
   subst this
   unfold bkAt
   have e : ix [(⟨f, A⟩ : Bk)] 0 = ⟨f, A⟩ := rfl
   rw [e]
   simp [within, hA, h]
   omega
theorem bkt_cnt {f : Int} {A : Ag} (hA : A.ok = true) : cntB (bkt f A) ≤ 100000 := by
 unfold bkt
 split
 · decide
 · have := (ag_c hA).2.1
   show 0 + A.c ≤ 100000
   omega
theorem bkt_in {f a b : Int} {A : Ag} (hA : A.c = 0 → A = default) (h : a ≤ f ∧ f < b) : foldB (inB (bkt f A) a b) = A := by
 unfold bkt
 split
 · rename_i g; exact (hA g).symm
 · unfold inB
   rw [List.filter_cons_of_pos (by simp [within]; omega)]
   exact def_mrg A
theorem win_val (I : StI x n s ac) {a b : Int} {e : En} (h : InI x s ac a b e) (hh : x.has e.key = true) : goodD e (x.get e.key).data = true ∧ winV e (x.get e.key).data a b = valE ac a b e := by
 obtain ⟨k1, k2, k3⟩ := en_key h.kn.st.ok
 unfold goodD winV valE
 by_cases h0 : e.tier = 0
 · rw [if_pos h0, if_pos h0, h.kn.dt h0 hh]
   have hok := smps_sub I.acok e.f e.t
   have hnum := smpsOK_num hok
   have h8 := (h.kn.st.t0 h0).2
   refine ⟨rdOk_text hnum hok h8, ?_⟩
   rw [rdV_text hnum, in_in]
 · rw [if_neg h0, if_neg h0]
   obtain ⟨d1, d2⟩ := I.dat e.key hh k1 (by omega)
   obtain ⟨f1, f2, f3⟩ := h.kn.st.t1 h0
   have hA := agI_ok I.acok e.f e.t
   have ed : datK ac e.key = bksText (bkt e.f (agI ac e.f e.t)) := by
    unfold datK
    rw [← f1, k2, ← f2]
   have hb := bkt_ok (f := e.f) (A := agI ac e.f e.t) (by omega) hA
   have al := h.al h0
   rw [d1, ed, rbV_text (bksOK_ok hb), rbOk_text (bksOK_ok hb) hb]
   refine ⟨by rw [Bool.true_and]; exact decide_eq_true (bkt_cnt hA), ?_⟩
   rw [bkt_in (ag_c hA).2.2 (by omega)]
   congr 2
   · split <;> omega
   · split <;> omega
theorem mrg_le {a b : Ag} (ha : 0 ≤ a.c) (hb : 0 ≤ b.c) (h1 : a.c = 0 → a = default) : 0 ≤ (a.mrg b).c := by
 unfold Ag.mrg
 split
 · exact hb
 · split
   · exact ha
   · simp only; omega
theorem win_step (I : StI x n s ac) (hac : ac.length ≤ 1000) {a b : Int} {e : En} {l : List En} {g : Ag} (hg : g.ok = true) (hs : gfold ac a b g (e :: l) = agI ac a b) (h : InI x s ac a b e) (hh : x.has e.key = true) :
 WinOK x e a b g ∧ winR x e a b g = (g.mrg (valE ac a b e), 0) ∧ (g.mrg (valE ac a b e)).ok = true ∧ (g.mrg (valE ac a b e)).c ≤ 1000 ∧ gfold ac a b (g.mrg (valE ac a b e)) l = agI ac a b := by
 obtain ⟨w1, w2⟩ := win_val I h hh
 have hv : (valE ac a b e).ok = true := agI_ok I.acok _ _
 have g0 := ag_c hg
 have v0 := ag_c hv
 have hs' : gfold ac a b (g.mrg (valE ac a b e)) l = agI ac a b := hs
 have c1 := gfold_c (ac := ac) (a := a) (b := b) l (g.mrg (valE ac a b e)) (mrg_le g0.1 v0.1 g0.2.2)
 rw [hs'] at c1
 have c2 := (agI_c ac a b).2
 have hvc : (valE ac a b e).c ≤ ac.length := (agI_c ac _ _).2
 have hgc : g.c ≤ (g.mrg (valE ac a b e)).c := by
  unfold Ag.mrg
  split
  · omega
  · split
    · omega
    · simp only; omega
 have hm := mrg_ok hg hv (by omega)
 refine ⟨⟨w1, hg, by rw [w2]; exact hv, by rw [w2]; omega⟩, ?_, hm.1, by omega, hs'⟩
 unfold winR
 rw [if_pos hh, w2]
theorem es_len (I : StI x n s ac) : s.es.length + s.ts.length ≤ 300 := by
 have h1 := I.lg.le
 have h2 := logN_len x n
 have h3 := I.lg.log
 unfold logS at h3
 rw [I.lg.fin] at h3
 rw [h3] at h2
 omega
theorem cov_I (I : StI x n s ac) {k a b : Int} (hk : k = 0 ∨ k = 1 ∨ k = 2) (hab : a ≤ b) (h1 : s.lo k ≤ a) (h2 : b ≤ s.hi k) (ha : a % wd k = 0) (hb : b % wd k = 0) :
 gfold ac a b default (covL s k a b) = agI ac a b ∧ (∀ e ∈ covL s k a b, InI x s ac a b e ∧ e ∈ s.es ∧ e.tier = k) ∧ (covL s k a b).length ≤ 300 := by
 have O := (staOK_iff s).1 I.lg.sok
 have hr := O.runs k hk
 have hm : ∀ e ∈ ofT s.es k, e ∈ s.es ∧ e.tier = k := fun e he => by
  obtain ⟨a, b⟩ := List.mem_filter.1 he
  exact ⟨a, of_decide_eq_true b⟩
 refine ⟨gfold_cover I.acok hab hr (fun e he => by have := (en_key (I.es e (hm e he).1).1.st.ok).2.2; omega) h1 h2, fun e he => ?_, ?_⟩
 · obtain ⟨c1, c2⟩ := List.mem_filter.1 he
   obtain ⟨d1, d2⟩ := hm e c1
   obtain ⟨kn, _⟩ := I.es e d1
   refine ⟨⟨kn, fun h0 => ?_⟩, d1, d2⟩
   obtain ⟨f1, f2, f3⟩ := kn.st.t1 h0
   unfold tch at c2
   have c2 := of_decide_eq_true c2
   rw [d2] at f2 f3
   have hl : a < e.t ∧ e.f < b := by
    split at c2 <;> split at c2 <;> omega
   rcases hk with rfl | rfl | rfl
   · exact absurd d2 h0
   · have w : wd 1 = 5 := rfl
     rw [w] at f2 f3 ha hb
     omega
   · have w : wd 2 = 20 := rfl
     rw [w] at f2 f3 ha hb
     omega
 · have h1 : (covL s k a b).length ≤ (ofT s.es k).length := List.length_filter_le _ _
   have h2 : (ofT s.es k).length ≤ s.es.length := List.length_filter_le _ _
   have := es_len I
   omega
theorem exp_mem {s : Sta} {now : Int} (h : (expR s now).2 = true) : (expR s now).1 ∈ s.es := by
 have key : ∀ k e, expK s now k = some e → e ∈ s.es := fun k e h => by
  unfold expK at h
  split at h
  · cases h
  · rename_i a r hL
    split at h
    · cases h
      exact (List.mem_filter.1 (show e ∈ ofT s.es k by rw [hL]; simp)).1
    · cases h
 unfold expR at h ⊢
 split at h
 · rename_i e h0; exact key 0 e h0
 · rename_i h0
   split at h
   · rename_i e h1; exact key 1 e h1
   · rename_i h1
     split at h
     · rename_i e h2; exact key 2 e h2
     · cases h
theorem lea_tok (x : Sto) : 0 ≤ x.lea.1.tok ∧ x.lea.1.tok ≤ 999999 := by
 rcases x.lea_cases with ⟨h, _⟩ | ⟨h, _⟩ | ⟨l, h, _, _, ho⟩
 · rw [h]; exact ⟨Int.le_refl _, by decide⟩
 · rw [h]; exact ⟨Int.le_refl _, by decide⟩
 · rw [h]
   have := (lea_b ho).1
   exact ⟨by show 0 ≤ l.tok; omega, this.2⟩
end vals
def ResW (F : AV → Prop) (p : Sto × Wk × Int) : Prop := ∃ (y : Sto) (v : Wk), F (.tup [y.av, v.av, .int .i64 p.2.2]) ∧ (p.2.2 = 0 → y = p.1 ∧ v = p.2.1)
theorem ResW.zero {F : AV → Prop} {y : Sto} {v : Wk} (h : F (.tup [y.av, v.av, .int .i64 0])) : ResW F (y, v, 0) := ⟨y, v, h, fun _ => ⟨rfl, rfl⟩⟩
theorem ResW.code {F : AV → Prop} {y : Sto} {v : Wk} {c : Int} (y' : Sto) (v' : Wk) (hc : c ≠ 0) (h : F (.tup [y'.av, v'.av, .int .i64 c])) : ResW F (y, v, c) := ⟨y', v', h, fun h0 => absurd h0 hc⟩
theorem clmR_okW {tok : Int} (h : 1 ≤ tok ∧ tok ≤ 999999) : (clmR tok).ok = true := by
 unfold Rc.ok clmR
 simp [within, Rc.bare]
 omega
theorem bktT_len {f : Int} {A : Ag} (h : ∀ b ∈ bkt f A, b.ok) : (bksText (bkt f A)).length ≤ 1000000000 := by
 have hl : (bkt f A).length ≤ 1 := by unfold bkt; split <;> simp
 have := bksText_len h
 omega
theorem stepW_3 {x : Sto} {w : Wk} {now : Int} (h : w.ph = 3) : stepW x w now = if (logS x).fence = w.tok then
 if dueT (logS x).h0 (logS x).h1 (logS x).h2 = 0 then
  if (expR (logS x) now).2 = true then (x, { w with job := retW (expR (logS x) now).1 w.tok, ph := 6 }, 0) else (x, { w with ph := 7 }, 0)
 else (x, { w with job := pubW (logS x) w.tok, ins := covL (logS x) ((pubW (logS x) w.tok).tier - 1) (pubW (logS x) w.tok).f (pubW (logS x) w.tok).t, got := default, ph := 4 }, 0)
 else (x, wkR w.id, 13) := by unfold stepW; rw [if_neg (by omega), if_neg (by omega), if_neg (by omega), if_pos h]
theorem stepW_4 {x : Sto} {w : Wk} {now : Int} (h : w.ph = 4) : stepW x w now = match w.ins with
 | [] => (x, { w with ph := 5 }, 0)
 | e :: l => if (winR x e w.job.f w.job.t w.got).2 = 0 then (x, { w with got := (winR x e w.job.f w.job.t w.got).1, ins := l, ph := if l = [] then 5 else 4 }, 0) else (x, wkR w.id, (winR x e w.job.f w.job.t w.got).2) := by
 unfold stepW; rw [if_neg (by omega), if_neg (by omega), if_neg (by omega), if_neg (by omega), if_pos h]; try rfl
theorem stepW_5 {x : Sto} {w : Wk} {now : Int} (h : w.ph = 5) : stepW x w now = (if (x.putA w.job.key (bksText (bkt w.job.f w.got))).2 = 0 ∨ (x.putA w.job.key (bksText (bkt w.job.f w.got))).2 = 9 then ((x.putA w.job.key (bksText (bkt w.job.f w.got))).1, { w with ph := 6 }, 0) else (x, wkR w.id, (x.putA w.job.key (bksText (bkt w.job.f w.got))).2)) := by
 unfold stepW; rw [if_neg (by omega), if_neg (by omega), if_neg (by omega), if_neg (by omega), if_neg (by omega), if_pos h]
theorem stepW_6 {x : Sto} {w : Wk} {now : Int} (h : w.ph = 6) : stepW x w now = if (logS x).fence = w.tok then
 (if (appS x ((logS x).seq + 1) w.job).2 = 0 then ((appS x ((logS x).seq + 1) w.job).1, { w with job := default, got := default, ph := 3 }, 0) else (x, wkR w.id, (appS x ((logS x).seq + 1) w.job).2))
 else (x, wkR w.id, 13) := by
 unfold stepW; rw [if_neg (by omega), if_neg (by omega), if_neg (by omega), if_neg (by omega), if_neg (by omega), if_neg (by omega), if_pos h]
theorem stepW_7 {x : Sto} {w : Wk} {now : Int} (h : w.ph = 7) : stepW x w now = (if (x.chg w.id w.tok 0).2 = 0 then ((x.chg w.id w.tok 0).1, wkR w.id, 0) else (x, wkR w.id, (x.chg w.id w.tok 0).2)) := by
 unfold stepW; rw [if_neg (by omega), if_neg (by omega), if_neg (by omega), if_neg (by omega), if_neg (by omega), if_neg (by omega), if_neg (by omega)]
structure WkW (x : Sto) (w : Wk) (now : Int) : Prop where
 hs : x.ok = true
 hw : w.ok = true
 hn : 0 ≤ now ∧ now ≤ 101000
 win : w.ph = 4 → ∀ e l, w.ins = e :: l → x.has e.key = true → WinOK x e w.job.f w.job.t w.got
 hi : 0 ≤ (logS x).h2 ∧ (logS x).h2 ≤ (logS x).h1 ∧ (logS x).h1 ≤ (logS x).h0 ∧ (logS x).h0 ≤ 100000
section
variable {x : Sto} {w : Wk} {now : Int}
theorem wstep0_fn (H : WkW x w now) (h0 : w.ph = 0) : ResW (VFn Tryz.prog 201 [w.av, x.av, .int .i64 now]) (stepW x w now) := by
 have cl := log_fn x H.hs
 have cd := due_fn (logS x) (by have := H.hi; omega) (by have := H.hi; omega) (by have := H.hi; omega)
 have ce := expired_fn (logS x) now (by have := H.hn; omega) (logS_ok x)
 have e : stepW x w now = if dueT (logS x).h0 (logS x).h1 (logS x).h2 = 0 ∧ (expR (logS x) now).2 = false then (x, w, 18) else (x, { w with ph := 1 }, 0) := by unfold stepW; rw [if_pos h0]
 rw [e]
 clear e
 generalize dueT (logS x).h0 (logS x).h1 (logS x).h2 = d at *
 generalize dueF (logS x).h0 (logS x).h1 (logS x).h2 = df at *
 generalize expR (logS x) now = E at *
 by_cases hc : d = 0 ∧ E.2 = false
 · rw [if_pos hc]
   refine ResW.code x w (by decide) ?_
   rw [hc.2] at ce
   rw [hc.1] at cd
   refine VFn.introC Tryz.call201 Tryz.func201 rfl rfl ?_
   refine Grd.intro (fun _ => ?_) (fun h => absurd h0 (of_decide_eq_false h))
   conv => whnf
   refine CallC.nl _ (cl) ?_ ?_
   · exact rfl
   conv => whnf
   refine CallC.sca _ (cd) ?_ ?_
   · exact rfl
   conv => whnf
   refine CallC.sca _ (ce) ?_ ?_
   · exact rfl
   refine DrawC.mkQ 5 [(.inl 2, 2), (.inl 3, 3)] rfl (by kernel_rfl) ?_
   refine And.intro rfl ?_
   exact And.intro trivial (AVle.refl _)
 · rw [if_neg hc]
   refine ResW.zero ?_
   have grd : ∀ p q : Bool, p = (!decide (d = 0)) → q = E.2 → (p = false → q = false → False) := fun p q e1 e2 h1 h2 => hc ⟨by rw [e1] at h1; simpa using h1, by rw [← e2]; exact h2⟩
   refine VFn.introC Tryz.call201 Tryz.func201 rfl rfl ?_
   refine Grd.intro (fun _ => ?_) (fun h => absurd (show ¬ w.ph = 0 from of_decide_eq_false h) (by omega))
   conv => whnf
   refine CallC.nl _ (cl) ?_ ?_
   · exact rfl
   conv => whnf
   refine CallC.sca _ (cd) ?_ ?_
   · exact rfl
   conv => whnf
   refine CallC.sca _ (ce) ?_ ?_
   · exact rfl
   conv => whnf
   refine Grd.intro (fun h1 => ?_) (fun h1 => ?_)
   · refine Grd.intro (fun h2 => ?_) (fun h2 => ?_)
     · exfalso; simp_all
     · refine DrawC.mkQ 6 [(.inl 2, 3), (.inl 3, 4)] rfl (by kernel_rfl) ?_
       refine And.intro rfl ?_
       exact And.intro trivial (AVle.refl _)
   · refine DrawC.mkQ 6 [(.inl 2, 3), (.inl 3, 4)] rfl (by kernel_rfl) ?_
     refine And.intro rfl ?_
     exact And.intro trivial (AVle.refl _)
theorem wstep1_fn (H : WkW x w now) (h1 : w.ph = 1) : ResW (VFn Tryz.prog 201 [w.av, x.av, .int .i64 now]) (stepW x w now) := by
 have F := (wk_iff w).1 H.hw
 have ca := acquire_fn x H.hs w.id now (by simp [within]; exact F.id) H.hn
 have e : stepW x w now = if acqR x w.id now = 0 then (acqS x w.id now, { w with tok := acqT x w.id now, ph := 2 }, 0) else (x, wkR w.id, acqR x w.id now) := by unfold stepW; rw [if_neg (by omega), if_pos h1]
 rw [e]
 clear e
 generalize acqR x w.id now = c at *
 by_cases hc : c = 0
 · rw [if_pos hc]
   refine ResW.zero ?_
   subst hc
   refine VFn.introC Tryz.call201 Tryz.func201 rfl rfl ?_
   refine Grd.intro (fun h => absurd (of_decide_eq_true h) (by omega)) (fun _ => ?_)
   refine Grd.intro (fun _ => ?_) (fun h => absurd (show ¬ w.ph = 1 from of_decide_eq_false h) (by omega))
   conv => whnf
   refine CallC.nl _ (ca) ?_ ?_
   · exact rfl
   conv => whnf
   refine DrawC.mkQ 6 [(.inl 2, 3), (.inl 3, 4)] rfl (by kernel_rfl) ?_
   refine And.intro rfl ?_
   exact And.intro trivial (AVle.refl _)
 · rw [if_neg hc]
   refine ResW.code (acqS x w.id now) { w with tok := acqT x w.id now, ph := 2 } hc ?_
   refine VFn.introC Tryz.call201 Tryz.func201 rfl rfl ?_
   refine Grd.intro (fun h => absurd (of_decide_eq_true h) (by omega)) (fun _ => ?_)
   refine Grd.intro (fun _ => ?_) (fun h => absurd (show ¬ w.ph = 1 from of_decide_eq_false h) (by omega))
   conv => whnf
   refine CallC.nl _ (ca) ?_ ?_
   · exact rfl
   conv => whnf
   refine DrawC.mkQ 6 [(.inl 2, 3), (.inl 3, 4)] rfl (by kernel_rfl) ?_
   refine And.intro rfl ?_
   exact And.intro trivial (AVle.refl _)
theorem wstep2_fn (H : WkW x w now) (h2 : w.ph = 2) : ResW (VFn Tryz.prog 201 [w.av, x.av, .int .i64 now]) (stepW x w now) := by
 have F := (wk_iff w).1 H.hw
 have ht := F.t1 (by omega)
 have hb := F.tok
 have cl := log_fn x H.hs
 have lb := log_b x
 have cy := lay_fn x H.hs ((logS x).seq + 1) (by simp [within]; omega) (clmR w.tok) (clmR_okW (by omega))
 have e : stepW x w now = if (appS x ((logS x).seq + 1) (clmR w.tok)).2 = 0 then ((appS x ((logS x).seq + 1) (clmR w.tok)).1, { w with ph := 3 }, 0) else (x, wkR w.id, (appS x ((logS x).seq + 1) (clmR w.tok)).2) := by unfold stepW; rw [if_neg (by omega), if_neg (by omega), if_pos h2]
 rw [e]
 clear e
 generalize appS x ((logS x).seq + 1) (clmR w.tok) = p at *
 by_cases hc : p.2 = 0
 · rw [if_pos hc]
   refine ResW.zero ?_
   rw [hc] at cy
   refine VFn.introC Tryz.call201 Tryz.func201 rfl rfl ?_
   refine Grd.intro (fun h => absurd (of_decide_eq_true h) (by omega)) (fun _ => ?_)
   refine Grd.intro (fun h => absurd (of_decide_eq_true h) (by omega)) (fun _ => ?_)
   refine Grd.intro (fun _ => ?_) (fun h => absurd (show ¬ w.ph = 2 from of_decide_eq_false h) (by omega))
   refine DrawC.mkR 14 [(.inl 1, 12)] [(1, 0), (1, 1)] rfl (by kernel_rfl) ?_
   refine And.intro (And.intro (by kernel_rfl) (by kernel_rfl)) ?_
   refine PCallQ.nl _ (cl) rfl ?_
   refine And.intro (show inI .i64 ((logS x).seq + 1) from inI64 (by omega) (by omega)) ?_
   refine PCallQ.nl _ (cy) rfl ?_
   conv => whnf
   refine DrawC.mkQ 6 [(.inl 2, 3), (.inl 3, 4)] rfl (by kernel_rfl) ?_
   refine And.intro rfl ?_
   exact And.intro trivial (AVle.refl _)
 · rw [if_neg hc]
   refine ResW.code p.1 { w with ph := 3 } hc ?_
   refine VFn.introC Tryz.call201 Tryz.func201 rfl rfl ?_
   refine Grd.intro (fun h => absurd (of_decide_eq_true h) (by omega)) (fun _ => ?_)
   refine Grd.intro (fun h => absurd (of_decide_eq_true h) (by omega)) (fun _ => ?_)
   refine Grd.intro (fun _ => ?_) (fun h => absurd (show ¬ w.ph = 2 from of_decide_eq_false h) (by omega))
   refine DrawC.mkR 14 [(.inl 1, 12)] [(1, 0), (1, 1)] rfl (by kernel_rfl) ?_
   refine And.intro (And.intro (by kernel_rfl) (by kernel_rfl)) ?_
   refine PCallQ.nl _ (cl) rfl ?_
   refine And.intro (show inI .i64 ((logS x).seq + 1) from inI64 (by omega) (by omega)) ?_
   refine PCallQ.nl _ (cy) rfl ?_
   conv => whnf
   refine DrawC.mkQ 6 [(.inl 2, 3), (.inl 3, 4)] rfl (by kernel_rfl) ?_
   refine And.intro rfl ?_
   exact And.intro trivial (AVle.refl _)
theorem wstep3_fn (H : WkW x w now) (h3 : w.ph = 3) : ResW (VFn Tryz.prog 201 [w.av, x.av, .int .i64 now]) (stepW x w now) := by
 have F := (wk_iff w).1 H.hw
 have ht := F.t1 (by omega)
 have hb := F.tok
 have hh := H.hi
 have cl := log_fn x H.hs
 have lb := log_b x
 have cd := due_fn (logS x) (by omega) (by omega) (by omega)
 have ce := expired_fn (logS x) now (by have := H.hn; omega) (logS_ok x)
 have e := stepW_3 (x := x) (w := w) (now := now) h3
 rw [e]
 clear e
 by_cases hf : (logS x).fence = w.tok
 rotate_left
 · rw [if_neg hf]
   refine ResW.code x w (by decide) ?_
   refine VFn.introC Tryz.call201 Tryz.func201 rfl rfl ?_
   refine Grd.intro (fun h => absurd (of_decide_eq_true h) (by omega)) (fun _ => ?_)
   refine Grd.intro (fun h => absurd (of_decide_eq_true h) (by omega)) (fun _ => ?_)
   refine Grd.intro (fun h => absurd (of_decide_eq_true h) (by omega)) (fun _ => ?_)
   refine Grd.intro (fun _ => ?_) (fun h => absurd (show ¬ w.ph = 3 from of_decide_eq_false h) (by omega))
   conv => whnf
   refine CallC.nl _ (cl) ?_ ?_
   · exact rfl
   refine Grd.intro (fun _ => ?_) (fun h => absurd (show (!decide ((logS x).fence = w.tok)) = false from h) (by simp [hf]))
   refine DrawC.mkQ 5 [(.inl 2, 2), (.inl 3, 3)] rfl (by kernel_rfl) ?_
   refine And.intro rfl ?_
   exact And.intro trivial (AVle.refl _)
 rw [if_pos hf]
 by_cases hd : dueT (logS x).h0 (logS x).h1 (logS x).h2 = 0
 · rw [if_pos hd]
   rw [hd] at cd
   generalize dueF (logS x).h0 (logS x).h1 (logS x).h2 = df at *
   generalize expR (logS x) now = E at *
   cases he : E.2 with
   | true =>
     rw [if_pos rfl]
     refine ResW.zero ?_
     rw [he] at ce
     refine VFn.introC Tryz.call201 Tryz.func201 rfl rfl ?_
     refine Grd.intro (fun h => absurd (of_decide_eq_true h) (by omega)) (fun _ => ?_)
     refine Grd.intro (fun h => absurd (of_decide_eq_true h) (by omega)) (fun _ => ?_)
     refine Grd.intro (fun h => absurd (of_decide_eq_true h) (by omega)) (fun _ => ?_)
     refine Grd.intro (fun _ => ?_) (fun h => absurd (show ¬ w.ph = 3 from of_decide_eq_false h) (by omega))
     conv => whnf
     refine CallC.nl _ (cl) ?_ ?_
     · exact rfl
     refine Grd.intro (fun h => absurd (show (!decide ((logS x).fence = w.tok)) = true from h) (by simp [hf])) (fun _ => ?_)
     conv => whnf
     refine CallC.sca _ (cd) ?_ ?_
     · exact rfl
     conv => whnf
     refine CallC.sca _ (ce) ?_ ?_
     · exact rfl
     conv => whnf
     refine DrawC.mkQ 6 [(.inl 2, 3), (.inl 3, 4)] rfl (by kernel_rfl) ?_
     refine And.intro rfl ?_
     exact And.intro trivial (AVle.refl _)
   | false =>
     rw [if_neg (by simp)]
     refine ResW.zero ?_
     rw [he] at ce
     refine VFn.introC Tryz.call201 Tryz.func201 rfl rfl ?_
     refine Grd.intro (fun h => absurd (of_decide_eq_true h) (by omega)) (fun _ => ?_)
     refine Grd.intro (fun h => absurd (of_decide_eq_true h) (by omega)) (fun _ => ?_)
     refine Grd.intro (fun h => absurd (of_decide_eq_true h) (by omega)) (fun _ => ?_)
     refine Grd.intro (fun _ => ?_) (fun h => absurd (show ¬ w.ph = 3 from of_decide_eq_false h) (by omega))
     conv => whnf
     refine CallC.nl _ (cl) ?_ ?_
     · exact rfl
     refine Grd.intro (fun h => absurd (show (!decide ((logS x).fence = w.tok)) = true from h) (by simp [hf])) (fun _ => ?_)
     conv => whnf
     refine CallC.sca _ (cd) ?_ ?_
     · exact rfl
     conv => whnf
     refine CallC.sca _ (ce) ?_ ?_
     · exact rfl
     conv => whnf
     refine DrawC.mkQ 6 [(.inl 2, 3), (.inl 3, 4)] rfl (by kernel_rfl) ?_
     refine And.intro rfl ?_
     exact And.intro trivial (AVle.refl _)
 · rw [if_neg hd]
   refine ResW.zero ?_
   rw [decide_eq_false hd] at cd
   have hdc : dueT (logS x).h0 (logS x).h1 (logS x).h2 = 1 ∨ dueT (logS x).h0 (logS x).h1 (logS x).h2 = 2 := by
    unfold dueT at hd ⊢
    split
    · exact .inl rfl
    · split
      · exact .inr rfl
      · rename_i a b; rw [if_neg a, if_neg b] at hd; exact absurd rfl hd
   have hfb : 0 ≤ dueF (logS x).h0 (logS x).h1 (logS x).h2 ∧ dueF (logS x).h0 (logS x).h1 (logS x).h2 ≤ 100000 := by
    unfold dueF
    split
    · omega
    · split <;> omega
   have hel : (logS x).es.length ≤ 1000000 := by omega
   unfold pubW
   simp only
   generalize dueT (logS x).h0 (logS x).h1 (logS x).h2 = t at *
   generalize dueF (logS x).h0 (logS x).h1 (logS x).h2 = df at *
   have cw := width_fn t (by omega)
   have hwd : 1 ≤ wd t ∧ wd t ≤ 20 := wd_b t
   have ck : VFn Tryz.prog 199 [.int .i64 t, .int .i64 df, .int .i64 w.tok] (.str (B (keyB t.toNat df.toNat w.tok.toNat))) := by
    have c := dataKey_fn t.toNat df w.tok (by omega) (by simp [within]; omega) (by simp [within]; omega)
    rw [show ((t.toNat : Nat) : Int) = t by omega] at c
    exact c
   have ct : VFn Tryz.prog 222 [(logS x).av, .int .i64 (t - 1), .int .i64 df, .int .i64 (df + wd t)] (ents (covL (logS x) (t - 1) df (df + wd t))) := (touching_own (logS x) (t - 1) df (df + wd t) hel).vfn
   refine VFn.introC Tryz.call201 Tryz.func201 rfl rfl ?_
   refine Grd.intro (fun h => absurd (of_decide_eq_true h) (by omega)) (fun _ => ?_)
   refine Grd.intro (fun h => absurd (of_decide_eq_true h) (by omega)) (fun _ => ?_)
   refine Grd.intro (fun h => absurd (of_decide_eq_true h) (by omega)) (fun _ => ?_)
   refine Grd.intro (fun _ => ?_) (fun h => absurd (show ¬ w.ph = 3 from of_decide_eq_false h) (by omega))
   conv => whnf
   refine CallC.nl _ (cl) ?_ ?_
   · exact rfl
   refine Grd.intro (fun h => absurd (show (!decide ((logS x).fence = w.tok)) = true from h) (by simp [hf])) (fun _ => ?_)
   conv => whnf
   refine CallC.sca _ (cd) ?_ ?_
   · exact rfl
   conv => whnf
   refine CallC.sca _ (cw) ?_ ?_
   · exact rfl
   refine And.intro (show inI .i64 (df + wd t) from inI64 (by omega) (by omega)) ?_
   conv => whnf
   refine DrawC.mkR 13 [(.inl 0, 12)] [(0, 1), (0, 8)] rfl (by kernel_rfl) ?_
   refine And.intro (And.intro (by kernel_rfl) (by kernel_rfl)) ?_
   refine PCallQ.sca _ (ck) rfl ?_
   refine And.intro (show inI .i64 (t - 1) from inI64 (by omega) (by omega)) ?_
   conv => whnf
   refine CallC.nl _ (ct) ?_ ?_
   · exact rfl
   conv => whnf
   refine DrawC.mkQ 6 [(.inl 2, 3), (.inl 3, 4)] rfl (by kernel_rfl) ?_
   refine And.intro rfl ?_
   exact And.intro trivial (AVle.refl _)
theorem wstep4_fn (H : WkW x w now) (h4 : w.ph = 4) : ResW (VFn Tryz.prog 201 [w.av, x.av, .int .i64 now]) (stepW x w now) := by
 have F := (wk_iff w).1 H.hw
 have e := stepW_4 (x := x) (w := w) (now := now) h4
 obtain ⟨j1, j2, j3⟩ := F.job (.inl h4)
 have jk : w.job.k = 3 := by rcases j3 with h | h; · exact h
                             · omega
 have ek := (rc_tier j1).2.1 jk
 have ee := (en_tier ek.2).2
 have ee3 : w.job.t ≤ 100000 := ee.2.2.1
 have ee1 : 0 ≤ w.job.f := ee.1
 have ee2 : w.job.f < w.job.t := ee.2.1
 rw [e]
 clear e
 cases hi : w.ins with
 | nil =>
   simp only
   refine ResW.zero ?_
   refine VFn.introC Tryz.call201 Tryz.func201 rfl rfl ?_
   refine Grd.intro (fun h => absurd (of_decide_eq_true h) (by omega)) (fun _ => ?_)
   refine Grd.intro (fun h => absurd (of_decide_eq_true h) (by omega)) (fun _ => ?_)
   refine Grd.intro (fun h => absurd (of_decide_eq_true h) (by omega)) (fun _ => ?_)
   refine Grd.intro (fun h => absurd (of_decide_eq_true h) (by omega)) (fun _ => ?_)
   refine Grd.intro (fun _ => ?_) (fun h => absurd (show ¬ w.ph = 4 from of_decide_eq_false h) (by omega))
   refine Grd.intro (fun h => absurd (show (0 : Int) < (w.ins.length : Int) from of_decide_eq_true h) (by rw [hi]; simp)) (fun _ => ?_)
   refine Grd.intro (fun _ => ?_) (fun h => absurd (show ¬ (w.ins.length : Int) = 0 from of_decide_eq_false h) (by rw [hi]; simp))
   conv => whnf
   refine DrawC.mkQ 6 [(.inl 2, 3), (.inl 3, 4)] rfl (by kernel_rfl) ?_
   refine And.intro rfl ?_
   have h0 : AVle (ents w.ins) (ents []) := AVle.sl (by rw [hi]) (fun i h => absurd h (by rw [hi]; simp))
   have c1 : ∀ (a : AV) {l m : List AV}, AVsle l m → AVsle (a :: l) (a :: m) := fun a _ _ h => AVsle.cons (AVle.refl a) h
   exact And.intro trivial (AVle.tup (c1 _ (AVsle.cons (AVle.agg (c1 _ (c1 _ (c1 _ (c1 _ (c1 _ (c1 _ (c1 _ (c1 _ (c1 _ (AVsle.cons h0 (AVsle.refl _)))))))))))) (AVsle.refl _))))
 | cons e l =>
   simp only
   have hll : w.ins.length = l.length + 1 := by rw [hi]; rfl
   have cw := window_fn x H.hs e w.job.f w.job.t (inI64 (by omega) (by omega)) w.got (H.win h4 e l hi)
   generalize winR x e w.job.f w.job.t w.got = W at *
   have he : ix w.ins 0 = e := by rw [hi]; rfl
   rw [← he] at cw
   have hs2 : AVle (.sl 4 (w.ins.length - Int.toNat 1) fun i => (ix w.ins (Int.toNat 1 + i)).row) (ents l) := AVle.sl (show w.ins.length - Int.toNat 1 = l.length by rw [hll]; rfl) (fun i hi' => by
    rw [hi, show Int.toNat 1 + i = i + 1 by rw [show Int.toNat 1 = 1 from rfl]; omega]
    rfl)
   have c1 : ∀ (a : AV) {l m : List AV}, AVsle l m → AVsle (a :: l) (a :: m) := fun a _ _ h => AVsle.cons (AVle.refl a) h
   by_cases hc : W.2 = 0
   · rw [if_pos hc]
     refine ResW.zero ?_
     rw [hc] at cw
     refine VFn.introC Tryz.call201 Tryz.func201 rfl rfl ?_
     refine Grd.intro (fun h => absurd (of_decide_eq_true h) (by omega)) (fun _ => ?_)
     refine Grd.intro (fun h => absurd (of_decide_eq_true h) (by omega)) (fun _ => ?_)
     refine Grd.intro (fun h => absurd (of_decide_eq_true h) (by omega)) (fun _ => ?_)
     refine Grd.intro (fun h => absurd (of_decide_eq_true h) (by omega)) (fun _ => ?_)
     refine Grd.intro (fun _ => ?_) (fun h => absurd (show ¬ w.ph = 4 from of_decide_eq_false h) (by omega))
     refine Grd.intro (fun _ => ?_) (fun h => absurd (show ¬ (0 : Int) < (w.ins.length : Int) from of_decide_eq_false h) (by rw [hll]; omega))
     refine DrawC.mkR 20 [(.inl 0, 18)] [(0, 2), (0, 7), (0, 10), (0, 12)] rfl (by kernel_rfl) ?_
     refine And.intro (And.intro (by kernel_rfl) (by kernel_rfl)) ?_
     refine And.intro (show (0 : Int) ≤ 0 ∧ (0 : Int) < (w.ins.length : Int) by omega) ?_
     refine PCallQ.nl _ (cw) rfl ?_
     conv => whnf
     refine And.intro ⟨by omega, by omega⟩ ?_
     by_cases hn : l = []
     · rw [if_pos hn]
       refine Grd.intro (fun _ => ?_) (fun h => absurd (show ¬ ((w.ins.length - Int.toNat 1 : Nat) : Int) = 0 from of_decide_eq_false h) (fun q => q (by rw [hll, hn]; rfl)))
       conv => whnf
       refine DrawC.mkQ 6 [(.inl 2, 3), (.inl 3, 4)] rfl (by kernel_rfl) ?_
       refine And.intro rfl ?_
       exact And.intro trivial (AVle.tup (c1 _ (AVsle.cons (AVle.agg (c1 _ (c1 _ (c1 _ (c1 _ (c1 _ (c1 _ (c1 _ (c1 _ (c1 _ (AVsle.cons hs2 (AVsle.refl _)))))))))))) (AVsle.refl _))))
     · rw [if_neg hn]
       have hl0 : l.length ≠ 0 := fun q => hn (List.length_eq_zero_iff.1 q)
       refine Grd.intro (fun h => absurd (show ((w.ins.length - Int.toNat 1 : Nat) : Int) = 0 from of_decide_eq_true h) (fun q => hl0 (by rw [hll, show Int.toNat 1 = 1 from rfl] at q; omega))) (fun _ => ?_)
       conv => whnf
       refine DrawC.mkQ 6 [(.inl 2, 3), (.inl 3, 4)] rfl (by kernel_rfl) ?_
       refine And.intro rfl ?_
       rw [← h4]
       exact And.intro trivial (AVle.tup (c1 _ (AVsle.cons (AVle.agg (c1 _ (c1 _ (c1 _ (c1 _ (c1 _ (c1 _ (c1 _ (c1 _ (c1 _ (AVsle.cons hs2 (AVsle.refl _)))))))))))) (AVsle.refl _))))
   · rw [if_neg hc]
     refine ResW.code x { w with got := W.1, ins := l, ph := if l = [] then 5 else 4 } hc ?_
     refine VFn.introC Tryz.call201 Tryz.func201 rfl rfl ?_
     refine Grd.intro (fun h => absurd (of_decide_eq_true h) (by omega)) (fun _ => ?_)
     refine Grd.intro (fun h => absurd (of_decide_eq_true h) (by omega)) (fun _ => ?_)
     refine Grd.intro (fun h => absurd (of_decide_eq_true h) (by omega)) (fun _ => ?_)
     refine Grd.intro (fun h => absurd (of_decide_eq_true h) (by omega)) (fun _ => ?_)
     refine Grd.intro (fun _ => ?_) (fun h => absurd (show ¬ w.ph = 4 from of_decide_eq_false h) (by omega))
     refine Grd.intro (fun _ => ?_) (fun h => absurd (show ¬ (0 : Int) < (w.ins.length : Int) from of_decide_eq_false h) (by rw [hll]; omega))
     refine DrawC.mkR 20 [(.inl 0, 18)] [(0, 2), (0, 7), (0, 10), (0, 12)] rfl (by kernel_rfl) ?_
     refine And.intro (And.intro (by kernel_rfl) (by kernel_rfl)) ?_
     refine And.intro (show (0 : Int) ≤ 0 ∧ (0 : Int) < (w.ins.length : Int) by omega) ?_
     refine PCallQ.nl _ (cw) rfl ?_
     conv => whnf
     refine And.intro ⟨by omega, by omega⟩ ?_
     by_cases hn : l = []
     · rw [if_pos hn]
       refine Grd.intro (fun _ => ?_) (fun h => absurd (show ¬ ((w.ins.length - Int.toNat 1 : Nat) : Int) = 0 from of_decide_eq_false h) (fun q => q (by rw [hll, hn]; rfl)))
       conv => whnf
       refine DrawC.mkQ 6 [(.inl 2, 3), (.inl 3, 4)] rfl (by kernel_rfl) ?_
       refine And.intro rfl ?_
       exact And.intro trivial (AVle.tup (c1 _ (AVsle.cons (AVle.agg (c1 _ (c1 _ (c1 _ (c1 _ (c1 _ (c1 _ (c1 _ (c1 _ (c1 _ (AVsle.cons hs2 (AVsle.refl _)))))))))))) (AVsle.refl _))))
     · rw [if_neg hn]
       have hl0 : l.length ≠ 0 := fun q => hn (List.length_eq_zero_iff.1 q)
       refine Grd.intro (fun h => absurd (show ((w.ins.length - Int.toNat 1 : Nat) : Int) = 0 from of_decide_eq_true h) (fun q => hl0 (by rw [hll, show Int.toNat 1 = 1 from rfl] at q; omega))) (fun _ => ?_)
       conv => whnf
       refine DrawC.mkQ 6 [(.inl 2, 3), (.inl 3, 4)] rfl (by kernel_rfl) ?_
       refine And.intro rfl ?_
       rw [← h4]
       exact And.intro trivial (AVle.tup (c1 _ (AVsle.cons (AVle.agg (c1 _ (c1 _ (c1 _ (c1 _ (c1 _ (c1 _ (c1 _ (c1 _ (c1 _ (AVsle.cons hs2 (AVsle.refl _)))))))))))) (AVsle.refl _))))
theorem wstep5_fn (H : WkW x w now) (h5 : w.ph = 5) : ResW (VFn Tryz.prog 201 [w.av, x.av, .int .i64 now]) (stepW x w now) := by
 have F := (wk_iff w).1 H.hw
 obtain ⟨j1, j2, j3⟩ := F.job (.inr (.inl h5))
 have jk : w.job.k = 3 := by rcases j3 with h | h; · exact h
                             · omega
 have ek := (rc_tier j1).2.1 jk
 have ee := (en_tier ek.2).2
 have ee3 : w.job.t ≤ 100000 := ee.2.2.1
 have ee1 : 0 ≤ w.job.f := ee.1
 have ee2 : w.job.f < w.job.t := ee.2.1
 have hbk := bkt_ok (f := w.job.f) (A := w.got) (by omega) F.got.1
 have cb := bucketOf_fn w.job.f w.got
 have ct := bucketsText_fn (bkt w.job.f w.got) (bks_8 hbk) (bksOK_ok hbk)
 have hT : (bksText (bkt w.job.f w.got)).length ≤ 1000000000 := bktT_len (bksOK_ok hbk)
 have cp := putAbsent_fn x H.hs w.job.key (bksText (bkt w.job.f w.got)) hT
 have e := stepW_5 (x := x) (w := w) (now := now) h5
 rw [e]
 clear e hT
 generalize bksText (bkt w.job.f w.got) = T at *
 generalize (if x.has w.job.key = true ∨ x.room w.job.key T ≠ 0 then (0 : Int) else x.next) = nx at *
 generalize x.putA w.job.key T = p at *
 by_cases h9 : p.2 = 9
 · rw [if_pos (.inr h9)]
   refine ResW.zero ?_
   rw [h9] at cp
   refine VFn.introC Tryz.call201 Tryz.func201 rfl rfl ?_
   refine Grd.intro (fun h => absurd (of_decide_eq_true h) (by omega)) (fun _ => ?_)
   refine Grd.intro (fun h => absurd (of_decide_eq_true h) (by omega)) (fun _ => ?_)
   refine Grd.intro (fun h => absurd (of_decide_eq_true h) (by omega)) (fun _ => ?_)
   refine Grd.intro (fun h => absurd (of_decide_eq_true h) (by omega)) (fun _ => ?_)
   refine Grd.intro (fun h => absurd (of_decide_eq_true h) (by omega)) (fun _ => ?_)
   refine Grd.intro (fun _ => ?_) (fun h => absurd (show ¬ w.ph = 5 from of_decide_eq_false h) (by omega))
   refine DrawC.mkR 18 [(.inl 1, 16)] [(1, 0)] rfl (by kernel_rfl) ?_
   refine And.intro (And.intro (by kernel_rfl) (by kernel_rfl)) ?_
   refine PCallQ.nl _ (cb) rfl ?_
   refine PCallQ.sca _ (ct) rfl ?_
   refine PCallQ.nl _ (cp) rfl ?_
   conv => whnf
   refine DrawC.mkQ 6 [(.inl 2, 3), (.inl 3, 4)] rfl (by kernel_rfl) ?_
   refine And.intro rfl ?_
   exact And.intro trivial (AVle.refl _)
 by_cases h0 : p.2 = 0
 · rw [if_pos (.inl h0)]
   refine ResW.zero ?_
   rw [h0] at cp
   refine VFn.introC Tryz.call201 Tryz.func201 rfl rfl ?_
   refine Grd.intro (fun h => absurd (of_decide_eq_true h) (by omega)) (fun _ => ?_)
   refine Grd.intro (fun h => absurd (of_decide_eq_true h) (by omega)) (fun _ => ?_)
   refine Grd.intro (fun h => absurd (of_decide_eq_true h) (by omega)) (fun _ => ?_)
   refine Grd.intro (fun h => absurd (of_decide_eq_true h) (by omega)) (fun _ => ?_)
   refine Grd.intro (fun h => absurd (of_decide_eq_true h) (by omega)) (fun _ => ?_)
   refine Grd.intro (fun _ => ?_) (fun h => absurd (show ¬ w.ph = 5 from of_decide_eq_false h) (by omega))
   refine DrawC.mkR 18 [(.inl 1, 16)] [(1, 0)] rfl (by kernel_rfl) ?_
   refine And.intro (And.intro (by kernel_rfl) (by kernel_rfl)) ?_
   refine PCallQ.nl _ (cb) rfl ?_
   refine PCallQ.sca _ (ct) rfl ?_
   refine PCallQ.nl _ (cp) rfl ?_
   conv => whnf
   refine DrawC.mkQ 6 [(.inl 2, 3), (.inl 3, 4)] rfl (by kernel_rfl) ?_
   refine And.intro rfl ?_
   exact And.intro trivial (AVle.refl _)
 · rw [if_neg (by rintro (g | g); exact h0 g; exact h9 g)]
   refine ResW.code p.1 { w with ph := 6 } h0 ?_
   refine VFn.introC Tryz.call201 Tryz.func201 rfl rfl ?_
   refine Grd.intro (fun h => absurd (of_decide_eq_true h) (by omega)) (fun _ => ?_)
   refine Grd.intro (fun h => absurd (of_decide_eq_true h) (by omega)) (fun _ => ?_)
   refine Grd.intro (fun h => absurd (of_decide_eq_true h) (by omega)) (fun _ => ?_)
   refine Grd.intro (fun h => absurd (of_decide_eq_true h) (by omega)) (fun _ => ?_)
   refine Grd.intro (fun h => absurd (of_decide_eq_true h) (by omega)) (fun _ => ?_)
   refine Grd.intro (fun _ => ?_) (fun h => absurd (show ¬ w.ph = 5 from of_decide_eq_false h) (by omega))
   refine DrawC.mkR 18 [(.inl 1, 16)] [(1, 0)] rfl (by kernel_rfl) ?_
   refine And.intro (And.intro (by kernel_rfl) (by kernel_rfl)) ?_
   refine PCallQ.nl _ (cb) rfl ?_
   refine PCallQ.sca _ (ct) rfl ?_
   refine PCallQ.nl _ (cp) rfl ?_
   conv => whnf
   refine Grd.intro (fun h => absurd (of_decide_eq_true h) h9) (fun _ => ?_)
   conv => whnf
   refine DrawC.mkQ 6 [(.inl 2, 3), (.inl 3, 4)] rfl (by kernel_rfl) ?_
   refine And.intro rfl ?_
   exact And.intro trivial (AVle.refl _)
theorem wstep6_fn (H : WkW x w now) (h6 : w.ph = 6) : ResW (VFn Tryz.prog 201 [w.av, x.av, .int .i64 now]) (stepW x w now) := by
 have F := (wk_iff w).1 H.hw
 obtain ⟨j1, j2, j3⟩ := F.job (.inr (.inr h6))
 have cl := log_fn x H.hs
 have lb := log_b x
 have cy := lay_fn x H.hs ((logS x).seq + 1) (by simp [within]; omega) w.job j1
 have e := stepW_6 (x := x) (w := w) (now := now) h6
 rw [e]
 clear e
 generalize appS x ((logS x).seq + 1) w.job = p at *
 by_cases hf : (logS x).fence = w.tok
 rotate_left
 · rw [if_neg hf]
   refine ResW.code x w (by decide) ?_
   refine VFn.introC Tryz.call201 Tryz.func201 rfl rfl ?_
   refine Grd.intro (fun h => absurd (of_decide_eq_true h) (by omega)) (fun _ => ?_)
   refine Grd.intro (fun h => absurd (of_decide_eq_true h) (by omega)) (fun _ => ?_)
   refine Grd.intro (fun h => absurd (of_decide_eq_true h) (by omega)) (fun _ => ?_)
   refine Grd.intro (fun h => absurd (of_decide_eq_true h) (by omega)) (fun _ => ?_)
   refine Grd.intro (fun h => absurd (of_decide_eq_true h) (by omega)) (fun _ => ?_)
   refine Grd.intro (fun h => absurd (of_decide_eq_true h) (by omega)) (fun _ => ?_)
   refine Grd.intro (fun _ => ?_) (fun h => absurd (show ¬ w.ph = 6 from of_decide_eq_false h) (by omega))
   conv => whnf
   refine CallC.nl _ (cl) ?_ ?_
   · exact rfl
   refine Grd.intro (fun _ => ?_) (fun h => absurd (show (!decide ((logS x).fence = w.tok)) = false from h) (by simp [hf]))
   refine DrawC.mkQ 5 [(.inl 2, 2), (.inl 3, 3)] rfl (by kernel_rfl) ?_
   refine And.intro rfl ?_
   exact And.intro trivial (AVle.refl _)
 rw [if_pos hf]
 by_cases hc : p.2 = 0
 · rw [if_pos hc]
   refine ResW.zero ?_
   rw [hc] at cy
   refine VFn.introC Tryz.call201 Tryz.func201 rfl rfl ?_
   refine Grd.intro (fun h => absurd (of_decide_eq_true h) (by omega)) (fun _ => ?_)
   refine Grd.intro (fun h => absurd (of_decide_eq_true h) (by omega)) (fun _ => ?_)
   refine Grd.intro (fun h => absurd (of_decide_eq_true h) (by omega)) (fun _ => ?_)
   refine Grd.intro (fun h => absurd (of_decide_eq_true h) (by omega)) (fun _ => ?_)
   refine Grd.intro (fun h => absurd (of_decide_eq_true h) (by omega)) (fun _ => ?_)
   refine Grd.intro (fun h => absurd (of_decide_eq_true h) (by omega)) (fun _ => ?_)
   refine Grd.intro (fun _ => ?_) (fun h => absurd (show ¬ w.ph = 6 from of_decide_eq_false h) (by omega))
   conv => whnf
   refine CallC.nl _ (cl) ?_ ?_
   · exact rfl
   refine Grd.intro (fun h => absurd (show (!decide ((logS x).fence = w.tok)) = true from h) (by simp [hf])) (fun _ => ?_)
   refine And.intro (show inI .i64 ((logS x).seq + 1) from inI64 (by omega) (by omega)) ?_
   conv => whnf
   refine CallC.nl _ (cy) ?_ ?_
   · exact rfl
   conv => whnf
   refine DrawC.mkQ 6 [(.inl 2, 3), (.inl 3, 4)] rfl (by kernel_rfl) ?_
   refine And.intro rfl ?_
   exact And.intro trivial (AVle.refl _)
 · rw [if_neg hc]
   refine ResW.code p.1 { w with job := default, got := default, ph := 3 } hc ?_
   refine VFn.introC Tryz.call201 Tryz.func201 rfl rfl ?_
   refine Grd.intro (fun h => absurd (of_decide_eq_true h) (by omega)) (fun _ => ?_)
   refine Grd.intro (fun h => absurd (of_decide_eq_true h) (by omega)) (fun _ => ?_)
   refine Grd.intro (fun h => absurd (of_decide_eq_true h) (by omega)) (fun _ => ?_)
   refine Grd.intro (fun h => absurd (of_decide_eq_true h) (by omega)) (fun _ => ?_)
   refine Grd.intro (fun h => absurd (of_decide_eq_true h) (by omega)) (fun _ => ?_)
   refine Grd.intro (fun h => absurd (of_decide_eq_true h) (by omega)) (fun _ => ?_)
   refine Grd.intro (fun _ => ?_) (fun h => absurd (show ¬ w.ph = 6 from of_decide_eq_false h) (by omega))
   conv => whnf
   refine CallC.nl _ (cl) ?_ ?_
   · exact rfl
   refine Grd.intro (fun h => absurd (show (!decide ((logS x).fence = w.tok)) = true from h) (by simp [hf])) (fun _ => ?_)
   refine And.intro (show inI .i64 ((logS x).seq + 1) from inI64 (by omega) (by omega)) ?_
   conv => whnf
   refine CallC.nl _ (cy) ?_ ?_
   · exact rfl
   conv => whnf
   refine DrawC.mkQ 6 [(.inl 2, 3), (.inl 3, 4)] rfl (by kernel_rfl) ?_
   refine And.intro rfl ?_
   exact And.intro trivial (AVle.refl _)
theorem nilW (id ph tok : Int) (j : Rc) (g : Ag) : AVle (.agg [.int .i64 id, .int .i64 ph, .int .i64 tok, .int .i64 j.k, .int .i64 j.tok, .int .i64 j.tier, .int .i64 j.f, .int .i64 j.t, .str (B j.key), .nilsl, .int .i64 g.c, .int .i64 g.s, .int .i64 g.mn, .int .i64 g.mx, .int .i64 g.f, .int .i64 g.l]) (Wk.mk id ph tok j [] g).av :=
 AVle.agg (AVsle.cons (AVle.refl _) (AVsle.cons (AVle.refl _) (AVsle.cons (AVle.refl _) (AVsle.cons (AVle.refl _) (AVsle.cons (AVle.refl _) (AVsle.cons (AVle.refl _) (AVsle.cons (AVle.refl _) (AVsle.cons (AVle.refl _) (AVsle.cons (AVle.refl _) (AVsle.cons (AVle.nilsl _ _ rfl) (AVsle.refl _)))))))))))
theorem wstep7_fn (H : WkW x w now) (h7 : w.ph = 7) : ResW (VFn Tryz.prog 201 [w.av, x.av, .int .i64 now]) (stepW x w now) := by
 have ct := till_fn x H.hs w.id w.tok 0 (by omega)
 have e := stepW_7 (x := x) (w := w) (now := now) h7
 rw [e]
 clear e
 generalize x.chg w.id w.tok 0 = p at *
 by_cases hc : p.2 = 0
 · rw [if_pos hc]
   refine ResW.zero ?_
   rw [hc] at ct
   refine VFn.introC Tryz.call201 Tryz.func201 rfl rfl ?_
   refine Grd.intro (fun h => absurd (of_decide_eq_true h) (by omega)) (fun _ => ?_)
   refine Grd.intro (fun h => absurd (of_decide_eq_true h) (by omega)) (fun _ => ?_)
   refine Grd.intro (fun h => absurd (of_decide_eq_true h) (by omega)) (fun _ => ?_)
   refine Grd.intro (fun h => absurd (of_decide_eq_true h) (by omega)) (fun _ => ?_)
   refine Grd.intro (fun h => absurd (of_decide_eq_true h) (by omega)) (fun _ => ?_)
   refine Grd.intro (fun h => absurd (of_decide_eq_true h) (by omega)) (fun _ => ?_)
   refine Grd.intro (fun h => absurd (of_decide_eq_true h) (by omega)) (fun _ => ?_)
   conv => whnf
   refine CallC.nl _ (ct) ?_ ?_
   · exact rfl
   conv => whnf
   refine DrawC.mkQ 6 [(.inl 2, 3), (.inl 3, 4)] rfl (by kernel_rfl) ?_
   refine And.intro rfl ?_
   exact And.intro trivial (AVle.tup (AVsle.cons (AVle.refl _) (AVsle.cons (nilW _ _ _ default default) (AVsle.refl _))))
 · rw [if_neg hc]
   refine ResW.code p.1 (wkR w.id) hc ?_
   refine VFn.introC Tryz.call201 Tryz.func201 rfl rfl ?_
   refine Grd.intro (fun h => absurd (of_decide_eq_true h) (by omega)) (fun _ => ?_)
   refine Grd.intro (fun h => absurd (of_decide_eq_true h) (by omega)) (fun _ => ?_)
   refine Grd.intro (fun h => absurd (of_decide_eq_true h) (by omega)) (fun _ => ?_)
   refine Grd.intro (fun h => absurd (of_decide_eq_true h) (by omega)) (fun _ => ?_)
   refine Grd.intro (fun h => absurd (of_decide_eq_true h) (by omega)) (fun _ => ?_)
   refine Grd.intro (fun h => absurd (of_decide_eq_true h) (by omega)) (fun _ => ?_)
   refine Grd.intro (fun h => absurd (of_decide_eq_true h) (by omega)) (fun _ => ?_)
   conv => whnf
   refine CallC.nl _ (ct) ?_ ?_
   · exact rfl
   conv => whnf
   refine DrawC.mkQ 6 [(.inl 2, 3), (.inl 3, 4)] rfl (by kernel_rfl) ?_
   refine And.intro rfl ?_
   exact And.intro trivial (AVle.tup (AVsle.cons (AVle.refl _) (AVsle.cons (nilW _ _ _ default default) (AVsle.refl _))))
theorem wstep_fn (H : WkW x w now) : ResW (VFn Tryz.prog 201 [w.av, x.av, .int .i64 now]) (stepW x w now) := by
 have F := (wk_iff w).1 H.hw
 have hp := F.ph
 have : w.ph = 0 ∨ w.ph = 1 ∨ w.ph = 2 ∨ w.ph = 3 ∨ w.ph = 4 ∨ w.ph = 5 ∨ w.ph = 6 ∨ w.ph = 7 := by omega
 rcases this with h | h | h | h | h | h | h | h
 · exact wstep0_fn H h
 · exact wstep1_fn H h
 · exact wstep2_fn H h
 · exact wstep3_fn H h
 · exact wstep4_fn H h
 · exact wstep5_fn H h
 · exact wstep6_fn H h
 · exact wstep7_fn H h
end
end Go.Proofs.YtnplgeogieoioaaGreatDoor
