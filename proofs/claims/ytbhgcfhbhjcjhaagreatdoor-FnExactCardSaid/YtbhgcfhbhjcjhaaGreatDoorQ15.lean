/- Contracts of functions that the claim reaches, and the plain law of what they compute; each theorem bears its own conditions. -/
import Derived.Test.YtbhgcfhbhjcjhaaGreatDoorQ14
import Derived.Test.YtbhgcfhbhjcjhaaGreatDoorQ2
import Derived.Test.YtbhgcfhbhjcjhaaGreatDoorQ4
import Derived.Test.YtbhgcfhbhjcjhaaGreatDoorV52
import Derived.Test.YtbhgcfhbhjcjhaaGreatDoorQ7
import Derived.Test.YtbhgcfhbhjcjhaaGreatDoorQ1
import Derived.Test.YtbhgcfhbhjcjhaaGreatDoorQ3
import Derived.Test.YtbhgcfhbhjcjhaaGreatDoorQ13
import Derived.Test.YtbhgcfhbhjcjhaaGreatDoorQ9
set_option linter.unusedVariables false
set_option linter.constructorNameAsVariable false
set_option linter.unusedSimpArgs false
set_option maxRecDepth 20000
set_option maxHeartbeats 1000000
namespace Go.Proofs.YtbhgcfhbhjcjhaaGreatDoor
open Go Go.Vw
theorem En.ok_b {e : En} (h : e.ok = true) : inI .i64 (e.t - 1) ∧ (-1000000000 ≤ e.f ∧ e.f ≤ 1000000000) := by
 simp [En.ok, isRange, within] at h
 exact ⟨inI64 (by omega) (by omega), by omega, by omega⟩
def truR (s : Sto) (e : En) (ac : List Smp) : AV := if 4096 < ac.length then .tup [.bool false, .int .i64 2] else if (s.ok && (e.ok && smpsOK ac)) = true then .tup [.bool (truE s e ac), .int .i64 0] else .tup [.bool false, .int .i64 1]
theorem smpsOK_no {L : List Smp} (h : 4096 < L.length) : smpsOK L = false := by
 unfold smpsOK; rw [decide_eq_false (by omega)]; rfl
theorem EntryTrue_fn (s : Sto) (hL : s.os.length ≤ 1000000000) (hk : ∀ o ∈ s.os, o.key.length ≤ 1000000000) (e : En) (ac : List Smp) : VFn Tryz.prog 18 [s.av, e.av, smps ac] (truR s e ac) := by
 have c1 := isLongSmp_fn ac
 have c2 := StoreOK_fn s hL hk
 have c3 := entryOK_fn e
 have c4 := SamplesOK_fn ac
 unfold truR
 by_cases hl : 4096 < ac.length
 · rw [if_pos hl]
   rw [decide_eq_true hl] at c1
   rw [smpsOK_no hl] at c4
   generalize s.ok = b2 at c2
   generalize e.ok = b3 at c3
   cases b2 <;> cases b3
   all_goals
    refine VFn.introC Tryz.call18 Tryz.func18 rfl rfl ?_
    refine DrawC.mq 22 rfl (by kernel_rfl) ?_
    refine PCallQ.sca _ (c1) rfl ?_
    refine PCallQ.sca _ (c2) rfl ?_
    try (refine PCallQ.sca _ c3 rfl ?_)
    try (refine PCallQ.sca _ c4 rfl ?_)
    refine PCallQ.sca _ (first2_of _ _ _ _ ⟨rfl, rfl, rfl, rfl, trivial⟩ rfl (show (if true = true then (2 : Int) else if true = true then 1 else 0) = 2 by decide)) rfl ?_
    exact And.intro trivial (AVle.refl _)
 · rw [if_neg hl]
   rw [decide_eq_false hl] at c1
   by_cases hg : (s.ok && (e.ok && smpsOK ac)) = true
   · rw [if_pos hg]
     simp only [Bool.and_eq_true] at hg
     obtain ⟨g2, g3, g4⟩ := hg
     have c5 := entryTrue_fn s g2 e (En.ok_b g3).1 ac g4
     rw [g2] at c2
     rw [g3] at c3
     rw [g4] at c4
     refine VFn.introC Tryz.call18 Tryz.func18 rfl rfl ?_
     refine DrawC.mq 22 rfl (by kernel_rfl) ?_
     refine PCallQ.sca _ (c1) rfl ?_
     refine PCallQ.sca _ (c2) rfl ?_
     refine PCallQ.sca _ (c3) rfl ?_
     refine PCallQ.sca _ (c4) rfl ?_
     refine PCallQ.sca _ (first2_of _ _ _ _ ⟨rfl, rfl, rfl, rfl, trivial⟩ rfl (show (if false = true then (2 : Int) else if false = true then 1 else 0) = 0 by decide)) rfl ?_
     conv => whnf
     refine CallC.sca _ (c5) ?_ ?_
     · exact rfl
     exact And.intro trivial (AVle.refl _)
   · rw [if_neg hg]
     generalize s.ok = b2 at c2 hg
     generalize e.ok = b3 at c3 hg
     generalize smpsOK ac = b4 at c4 hg
     cases b2 <;> cases b3 <;> cases b4
     all_goals first | (exfalso; exact hg rfl) | skip
     all_goals
      refine VFn.introC Tryz.call18 Tryz.func18 rfl rfl ?_
      refine DrawC.mq 22 rfl (by kernel_rfl) ?_
      refine PCallQ.sca _ (c1) rfl ?_
      refine PCallQ.sca _ (c2) rfl ?_
      try (refine PCallQ.sca _ c3 rfl ?_)
      try (refine PCallQ.sca _ c4 rfl ?_)
      refine PCallQ.sca _ (first2_of _ _ _ _ ⟨rfl, rfl, rfl, rfl, trivial⟩ rfl (show (if false = true then (2 : Int) else if true = true then 1 else 0) = 1 by decide)) rfl ?_
      exact And.intro trivial (AVle.refl _)
theorem IndexSm_1 (L : List Smp) (hL : L.length ≤ 9223372036854775807) (F : Nat) (row : List AV) (p : Smp → Bool) (hp : ∀ e ∈ L, VFn Tryz.prog F [.agg e.row, .eptr row 0] (.bool (p e))) :
 VFn Tryz.prog 152 [smps L, .fn (.func F) [] [.eptr row 0]] (.int .i64 (fi p L)) := by
 refine VFn.introC Tryz.call152 Tryz.func152 rfl rfl ?_
 refine LoopC.mk (fun i : Nat => i ≤ L.length ∧ ∀ j, j < i → p (ix L j) = false) (fun i => [(0, smps L), (1, .fn (.func F) [] [.eptr row 0]), (7, .int .i64 L.length), (8, .int .i64 i)]) (fun _ => []) 0 (fun i => L.length - i) 0
  ⟨⟨Nat.zero_le _, fun j hj => absurd hj (Nat.not_lt_zero j)⟩, [], rfl, rfl, ⟨AVle.refl _, AVle.refl _, AVle.refl _, AVle.refl _, trivial⟩, trivial⟩ ?_
 intro i hi
 refine Grd.intro (fun h2 => ?_) (fun h2 => ?_)
 · have hin : i < L.length := by have := of_decide_eq_true h2; omega
   refine And.intro (by omega) ?_
   conv => whnf
   refine CallC.sca _ (hp (ix L i) (getD_mem hin)) ?_ ?_
   · exact rfl
   refine Grd.intro (fun h3 => ?_) (fun h3 => ?_)
   · exact And.intro trivial (AVle.of_eq (congrArg (AV.int .i64) (fi_at hin hi.2 h3).symm))
   · refine And.intro (inI64 (by omega) (by omega)) ?_
     exact ⟨i + 1, ⟨hin, fun j hj => by
      rcases Nat.lt_or_ge j i with h' | h'
      · exact hi.2 j h'
      · rw [show j = i by omega]; exact h3⟩, by omega, [], rfl, rfl, ⟨AVle.refl _, AVle.refl _, AVle.refl _, AVle.of_eq (congrArg (AV.int .i64) (by simp)), trivial⟩, trivial⟩
 · have : i = L.length := by have := of_decide_eq_false h2; omega
   subst this
   exact And.intro trivial (AVle.of_eq (congrArg (AV.int .i64) (fi_none hi.2).symm))
theorem ContainsSm_1 (L : List Smp) (hL : L.length ≤ 9223372036854775807) (F : Nat) (row : List AV) (p : Smp → Bool) (hp : ∀ e ∈ L, VFn Tryz.prog F [.agg e.row, .eptr row 0] (.bool (p e))) :
 VFn Tryz.prog 124 [smps L, .fn (.func F) [] [.eptr row 0]] (.bool (L.any p)) := by
 refine VFn.introC Tryz.call124 Tryz.func124 rfl rfl ?_
 conv => whnf
 refine CallC.sca _ (IndexSm_1 L hL F row p hp) ?_ ?_
 · exact rfl
 exact And.intro trivial (AVle.of_eq (congrArg AV.bool (show decide (0 ≤ fi p L) = _ from fi_any)))
theorem allSmC1_fn (e : Smp) (G : Nat) (row : List AV) (p : Smp → Bool) (hp : VFn Tryz.prog G [.agg e.row, .eptr row 0] (.bool (p e))) : VFn Tryz.prog 125 [.agg e.row, .eptr [.fn (.func G) [] [.eptr row 0]] 0] (.bool (!p e)) := by
 refine VFn.introC Tryz.call125 Tryz.func125 rfl rfl ?_
 conv => whnf
 refine CallC.sca _ (hp) ?_ ?_
 · exact rfl
 exact And.intro trivial (AVle.refl _)
theorem allSmC_fn (L : List Smp) (hL : L.length ≤ 9223372036854775807) (G : Nat) (row : List AV) (p : Smp → Bool) (hp : ∀ e ∈ L, VFn Tryz.prog G [.agg e.row, .eptr row 0] (.bool (p e))) : VFn Tryz.prog 93 [smps L, .fn (.func G) [] [.eptr row 0]] (.bool (L.all p)) := by
 refine VFn.introC Tryz.call93 Tryz.func93 rfl rfl ?_
 conv => whnf
 refine CallC.sca _ (ContainsSm_1 L hL 125 [.fn (.func G) [] [.eptr row 0]] (fun e => !p e) (fun e he => allSmC1_fn e G row p (hp e he))) ?_ ?_
 · exact rfl
 exact And.intro trivial (AVle.of_eq (congrArg AV.bool (show (!L.any fun e => !p e) = _ by rw [Bool.eq_iff_iff]; simp)))
theorem allEnD1_fn (e : En) (G : Nat) (r1 r2 : List AV) (p : En → Bool) (hp : VFn Tryz.prog G [e.av, .eptr r1 0, .eptr r2 0] (.bool (p e))) : VFn Tryz.prog 98 [e.av, .eptr [.fn (.func G) [] [.eptr r1 0, .eptr r2 0]] 0] (.bool (!p e)) := by
 refine VFn.introC Tryz.call98 Tryz.func98 rfl rfl ?_
 conv => whnf
 refine CallC.sca _ (hp) ?_ ?_
 · exact rfl
 exact And.intro trivial (AVle.refl _)
theorem allEnD_fn (L : List En) (hL : L.length ≤ 9223372036854775807) (G : Nat) (r1 r2 : List AV) (p : En → Bool) (hp : ∀ e ∈ L, VFn Tryz.prog G [e.av, .eptr r1 0, .eptr r2 0] (.bool (p e))) : VFn Tryz.prog 53 [ents L, .fn (.func G) [] [.eptr r1 0, .eptr r2 0]] (.bool (L.all p)) := by
 refine VFn.introC Tryz.call53 Tryz.func53 rfl rfl ?_
 conv => whnf
 refine CallC.sca _ (ContainsEn_1 L hL 98 [.fn (.func G) [] [.eptr r1 0, .eptr r2 0]] (fun e => !p e) (fun e he => allEnD1_fn e G r1 r2 p (hp e he))) ?_ ?_
 · exact rfl
 exact And.intro trivial (AVle.of_eq (congrArg AV.bool (show (!L.any fun e => !p e) = _ by rw [Bool.eq_iff_iff]; simp)))
theorem app_eok {s : Sta} (h : ∀ e ∈ s.es, e.ok = true) {r : Rc} (hr : r.ok = true) : ∀ e ∈ (s.app r).es, e.ok = true := by
 intro e he
 unfold Sta.app at he
 split at he
 · split at he
   · rename_i hk
     rw [(lift_es _ _ _).1] at he
     rcases List.mem_append.1 he with he | he
     · exact h e he
     · rw [List.mem_singleton.1 he]
       unfold Rc.ok at hr
       rcases hk with hk | hk
       · rw [if_pos hk] at hr
         simp only [Bool.and_eq_true] at hr
         exact hr.2.2
       · rw [if_neg (by omega), if_neg (by omega), if_pos hk] at hr
         simp only [Bool.and_eq_true] at hr
         exact hr.2.2
   · split at he
     · exact h e he
     · split at he
       · rw [(lower_es _ _ _).1] at he
         exact h e (List.mem_filter.1 he).1
       · exact h e he
 · exact h e he
theorem logN_eok (x : Sto) : ∀ n, ∀ e ∈ (logN x n).es, e.ok = true
 | 0, e, he => by cases he
 | n + 1, e, he => by
   have ih := logN_eok x n
   have he : e ∈ (stepL x (logN x n)).es := he
   unfold stepL at he
   split at he
   · exact ih e he
   · rename_i r hr
     exact app_eok ih (readR_ok hr) e he
theorem logS_eok (x : Sto) : ∀ e ∈ (logS x).es, e.ok = true := logN_eok x _
def under (x : Sto) (a : Smp) : Bool := decide (a.t < (logS x).h0)
def satT (x : Sto) (ac : List Smp) : Bool := (logS x).ok && ((logS x).es.all (fun e => truE x e ac) && ac.all (under x))
theorem stateTrue1_fn (x : Sto) (hs : x.ok = true) (ac : List Smp) (hac : smpsOK ac = true) (e : En) (he : e.ok = true) : VFn Tryz.prog 92 [e.av, .eptr x.row 0, .eptr [smps ac] 0] (.bool (truE x e ac)) := by
 refine VFn.introC Tryz.call92 Tryz.func92 rfl rfl ?_
 conv => whnf
 refine CallC.sca _ (entryTrue_fn x hs e (En.ok_b he).1 ac hac) ?_ ?_
 · exact rfl
 exact And.intro trivial (AVle.refl _)
theorem stateTrue2_fn (x : Sto) (a : Smp) : VFn Tryz.prog 94 [.agg a.row, .eptr (logS x).row 0] (.bool (under x a)) := by
 refine VFn.introC Tryz.call94 Tryz.func94 rfl rfl ?_
 conv => whnf
 refine OpC.aix rfl rfl rfl (by kernel_rfl) rfl rfl ⟨by decide, by decide⟩ rfl ?_
 exact And.intro trivial (AVle.refl _)
theorem stateTrue_fn (x : Sto) (hs : x.ok = true) (ac : List Smp) (hac : smpsOK ac = true) : VFn Tryz.prog 50 [x.av, smps ac] (.bool (satT x ac)) := by
 have hb := log_b x
 have hl := (smps_bd hac).1
 have c1 := StateOK_fn (logS x) (by omega) (by omega)
 have c2 := allEnD_fn (logS x).es (by omega) 92 x.row [smps ac] (fun e => truE x e ac) (fun e he => stateTrue1_fn x hs ac hac e (logS_eok x e he))
 have c3 := allSmC_fn ac (by omega) 94 (logS x).row (under x) (fun a _ => stateTrue2_fn x a)
 unfold satT
 generalize (logS x).ok = b1 at c1 ⊢
 generalize (logS x).es.all (fun e => truE x e ac) = b2 at c2 ⊢
 generalize ac.all (under x) = b3 at c3 ⊢
 have c0 := log_fn x hs
 cases b1 <;> cases b2
 all_goals
  refine VFn.introC Tryz.call50 Tryz.func50 rfl rfl ?_
  conv => whnf
  refine CallC.nl _ (c0) ?_ ?_
  · exact rfl
  conv => whnf
  refine CallC.sca _ (c1) ?_ ?_
  · exact rfl
  repeat' (conv => whnf
           first
            | (refine CallC.sca _ c2 ?_ ?_; focus (exact rfl))
            | (refine CallC.sca _ c3 ?_ ?_; focus (exact rfl))
            | (refine And.intro trivial (AVle.refl _); done)
            | fail)


theorem log_none : LogX stoN0 0 sta0 := ⟨by decide, fun k h1 h2 => by rw [decide_eq_false (by omega)]; rfl, rfl, rfl⟩
theorem newF_I : FlI newF 0 0 := by
 have L := log_none
 have e1 : logEnd newF.st = 0 := L.fin
 have e2 : logS newF.st = sta0 := L.log
 have hst : StI stoN0 0 sta0 [] := by
  refine ⟨L, ⟨?_, ?_, ?_, ?_, ?_, ?_, ?_, fun t h => (by cases h)⟩, fun e h => (by cases h), fun k h => ?_, by decide, fun a h => (by cases h)⟩
  · show (0 : Int) ≤ 0; omega
  · show (0 : Int) ≤ 0; omega
  · show (0 : Int) ≤ 0; omega
  · show (0 : Int) ≤ 0; omega
  · show (0 : Int) % 5 = 0; decide
  · show (0 : Int) % 20 = 0; decide
  · show (0 : Int) ≤ 0 ∧ (0 : Int) ≤ 100000; omega
  · cases h
 refine ⟨by rw [e1, e2]; exact hst, (by decide : (3 : Int) ≤ 10 ∧ (10 : Int) ≤ 100000), ?_, ⟨wkR 0, wkR 1, rfl, ⟨rfl, rfl⟩, wkR_I (by omega), wkR_I (by omega)⟩, ⟨ingR 2, ingR 3, rfl, ⟨rfl, rfl⟩, ⟨ingR_I (by omega), ingR_I (by omega)⟩, Nat.le_refl _⟩,
  ⟨rd0 4, rd0 5, rfl, ⟨rfl, rfl⟩, rd_idle (rd0_ok (by omega)) (.inl rfl), rd_idle (rd0_ok (by omega)) (.inl rfl)⟩, fun a h => (by cases h), Nat.le_refl _⟩
 show ∀ k ∈ [(0 : Int), 0, 0, 0, 0, 0, 0], -3 ≤ k ∧ k ≤ 3
 simp
def FlJ (f : Fl) : Prop := ∀ w ∈ f.ws, w.job.key.length ≤ 30
theorem eqS_rfl {α : Type} [Inhabited α] (f : α → α → Bool) (h : ∀ a, f a a = true) (L : List α) : eqS f L L = true := by
 unfold eqS
 rw [decide_eq_true rfl, Bool.true_and]
 exact allN_iff.2 fun i _ => h _
theorem stepW_jk {x : Sto} {w : Wk} (h : w.job.key.length ≤ 30) (now : Int) : (stepW x w now).2.1.job.key.length ≤ 30 := by
 have hR : ∀ id, (wkR id).job.key.length ≤ 30 := fun _ => by show ([] : List UInt8).length ≤ 30; decide
 have hd : (default : Rc).key.length ≤ 30 := by decide
 unfold stepW
 repeat' (first
  | exact h
  | exact hR _
  | exact hd
  | split)
 · rename_i he
   show (expR (logS x) now).1.key.length ≤ 30
   have := key_len (en_key (logS_eok x _ (exp_mem he))).1
   omega
 · show (keyB _ _ _).length ≤ 30
   have := (key_size (dueT (logS x).h0 (logS x).h1 (logS x).h2).toNat (dueF (logS x).h0 (logS x).h1 (logS x).h2).toNat w.tok.toNat).1
   omega
theorem set_all {α : Type} {p : α → Prop} {L : List α} (h : ∀ a ∈ L, p a) (i : Nat) {v : α} (hv : p v) : ∀ a ∈ L.set i v, p a := fun a ha => by
 rcases List.mem_or_eq_of_mem_set ha with g | g
 · exact h a g
 · rw [g]; exact hv
theorem ix_all {α : Type} [Inhabited α] {p : α → Prop} {L : List α} (h : ∀ a ∈ L, p a) (hd : p default) (i : Nat) : p (ix L i) := by
 rcases Nat.lt_or_ge i L.length with g | g
 · exact h _ (getD_mem g)
 · have : ix L i = default := by unfold ix; rw [List.getD_eq_getElem?_getD, List.getElem?_eq_none g]; rfl
   rw [this]; exact hd
theorem FlJ.step {f : Fl} (J : FlJ f) (who : Nat) : FlJ (stepF f who).1 := by
 unfold stepF
 split
 · split <;> exact J
 · split
   · exact J
   · split
     · exact J
     · exact set_all J who (stepW_jk (ix_all (p := fun w : Wk => w.job.key.length ≤ 30) J (by decide) who) _)
theorem FlJ.setK {f : Fl} (J : FlJ f) (who n : Int) : FlJ (f.setK who n) := by
 unfold Fl.setK
 repeat' (first | exact J | split)
theorem FlJ.crash {f : Fl} (J : FlJ f) (who : Nat) : FlJ (crashF f who) := by
 unfold crashF
 split
 · exact J
 · split
   · exact J
   · split
     · exact J
     · exact set_all J who (show ([] : List UInt8).length ≤ 30 by decide)
theorem FlJ.act {f : Fl} (J : FlJ f) (a : Act) : FlJ (doF f a).1 := by
 unfold doF
 split
 · exact J.step _
 split
 · exact J.crash _
 split
 · exact J
 split
 · exact J.setK _ _
 split
 · exact J
 · exact J
theorem FlJ.acts : ∀ (L : List Act) {f : Fl}, FlJ f → FlJ (actsF f L)
 | [], _, J => J
 | a :: r, f, J => FlJ.acts r (J.act a)
theorem newF_J : FlJ newF := fun w hw => by
 have : w = wkR 0 ∨ w = wkR 1 := by simpa [newF] using hw
 rcases this with rfl | rfl <;> decide
section conseq
variable {f : Fl} {M Q : Nat}
theorem FlI.ok (F : FlI f M Q) (hQ : Q ≤ 4096) : f.ok = true := by
 obtain ⟨w0, w1, ew, ⟨i0, i1⟩, W0, W1⟩ := F.ws
 obtain ⟨g0, g1, eg, ⟨i2, i3⟩, ⟨G0, G1⟩, hcnt⟩ := F.gs
 obtain ⟨r0, r1, er, ⟨i4, i5⟩, R0, R1⟩ := F.rs
 have hsk : f.skOK = true := by
  unfold Fl.skOK
  rw [List.all_eq_true]
  intro k hk
  have := F.sk k hk
  simp [within]; omega
 have hl : f.lens = true := by
  unfold Fl.lens
  rw [ew, eg, er]; rfl
 have h0 : f.rnd 0 = true := by
  unfold Fl.rnd
  rw [ew, eg, er]
  show (decide (w0.id = 0) && (decide (g0.id = 2 + 0) && (decide (r0.id = 4 + 0) && (w0.ok && (g0.ok && r0.ok))))) = true
  rw [W0.ok, G0.ok, R0.ok, i0, i2, i4]
  decide
 have h1 : f.rnd 1 = true := by
  unfold Fl.rnd
  rw [ew, eg, er]
  show (decide (w1.id = 1) && (decide (g1.id = 2 + 1) && (decide (r1.id = 4 + 1) && (w1.ok && (g1.ok && r1.ok))))) = true
  rw [W1.ok, G1.ok, R1.ok, i1, i3, i5]
  decide
 have hf : f.fin = true := by
  unfold Fl.fin
  have : f.an.all An.ok = true := List.all_eq_true.2 fun a ha => (F.an.1 a ha).ok
  have := F.an.2
  rw [F.st.acok, decide_eq_false (by omega), List.all_eq_true.2 fun a ha => (F.an.1 a ha).ok]
  rfl
 unfold Fl.ok
 have := F.clk
 rw [F.st.lg.ok, hsk, hl, h0, h1, hf, show within f.clk 3 100000 = true by simp [within]; omega]
 rfl
theorem en_small {e : En} (h : e.ok = true) : e.key.length ≤ 1048576 := by
 have := key_len (en_key h).1
 omega
theorem FlI.small (F : FlI f M Q) (J : FlJ f) (hM : M ≤ 1000) (hQ : Q ≤ 4096) : f.small := by
 obtain ⟨w0, w1, ew, ⟨i0, i1⟩, W0, W1⟩ := F.ws
 obtain ⟨g0, g1, eg, ⟨i2, i3⟩, ⟨G0, G1⟩, hcnt⟩ := F.gs
 obtain ⟨r0, r1, er, ⟨i4, i5⟩, R0, R1⟩ := F.rs
 have O := (stoOK_iff f.st).1 F.st.lg.ok
 have wf : ∀ w, w.ok = true → Wk.small w ∧ (w.job.key.length ≤ 1048576 → w.job.key.length ≤ 1048576 ∧ ∀ x ∈ w.ins, x.key.length ≤ 1048576) := fun w h => by
  have W := (wk_iff w).1 h
  exact ⟨by show w.ins.length ≤ 1048576; have := W.len; omega, fun g => ⟨g, fun x hx => en_small (W.es x hx)⟩⟩
 have gf : ∀ g, g.ok = true → Ig.small g := fun g h => by
  have := (Ig.facts h).len
  show g.b.length ≤ 1048576
  omega
 have rf : ∀ r, r.ok = true → Rr.small r ∧ ∀ x ∈ r.left, x.key.length ≤ 1048576 := fun r h => by
  have R := (rr_iff r).1 h
  exact ⟨by show r.left.length ≤ 1048576; have := R.len; omega, fun x hx => en_small (R.es x hx).1⟩
 have hac := F.acl
 have han := F.an.2
 refine ⟨by have := O.len; omega, fun e he => by have := (O.el e he).1; have := keyOK_len this; omega, by rw [ew]; simp, ?_, ?_, by rw [eg]; simp, ?_, by rw [er]; simp, ?_, ?_, by omega, by omega⟩
 · rw [ew]; intro e he
   have : e = w0 ∨ e = w1 := by simpa using he
   rcases this with rfl | rfl
   · exact (wf _ W0.ok).1
   · exact (wf _ W1.ok).1
 · rw [ew]; intro e he
   have : e = w0 ∨ e = w1 := by simpa using he
   rcases this with rfl | rfl
   · exact (wf _ W0.ok).2 (by have := J e (by rw [ew]; simp); omega)
   · exact (wf _ W1.ok).2 (by have := J e (by rw [ew]; simp); omega)
 · rw [eg]; intro e he
   have : e = g0 ∨ e = g1 := by simpa using he
   rcases this with rfl | rfl
   · exact gf _ G0.ok
   · exact gf _ G1.ok
 · rw [er]; intro e he
   have : e = r0 ∨ e = r1 := by simpa using he
   rcases this with rfl | rfl
   · exact (rf _ R0.ok).1
   · exact (rf _ R1.ok).1
 · rw [er]; intro e he
   have : e = r0 ∨ e = r1 := by simpa using he
   rcases this with rfl | rfl
   · exact (rf _ R0.ok).2
   · exact (rf _ R1.ok).2
theorem truE_I (F : FlI f M Q) : ∀ e ∈ (logS f.st).es, truE f.st e f.ac = true := fun e he => by
 obtain ⟨kn, hh⟩ := F.st.es e he
 obtain ⟨k1, k2, k3⟩ := en_key kn.st.ok
 unfold truE sdat
 rw [hh, if_pos rfl, Bool.true_and]
 split
 · rename_i h0
   rw [kn.dt h0 hh]
   have hok := smps_sub F.st.acok e.f e.t
   have hnum := smpsOK_num hok
   have h8 := (kn.st.t0 h0).2
   rw [rdOk_text hnum hok h8, rdV_text hnum, eqS_rfl Smp.eqb (fun a => by unfold Smp.eqb; simp)]
   rfl
 · rename_i h0
   obtain ⟨d1, d2⟩ := F.st.dat e.key hh k1 (by omega)
   obtain ⟨f1, f2, f3⟩ := kn.st.t1 h0
   have hA := agI_ok F.st.acok e.f e.t
   have ed : datK f.ac e.key = bksText (bkt e.f (agI f.ac e.f e.t)) := by
    unfold datK
    rw [← f1, k2, ← f2]
   have hb := bkt_ok (f := e.f) (A := agI f.ac e.f e.t) (by omega) hA
   rw [d1, ed, rbV_text (bksOK_ok hb), rbOk_text (bksOK_ok hb) hb, eqS_rfl Bk.eqb (fun a => by unfold Bk.eqb Ag.eqb; simp)]
   rfl
theorem FlI.exact (F : FlI f M Q) : satT f.st f.ac = true := by
 unfold satT under
 rw [logS_ok, List.all_eq_true.2 (truE_I F), List.all_eq_true.2 fun a ha => decide_eq_true (F.st.ach a ha)]
 rfl
end conseq
theorem stepW_shape (x : Sto) (w : Wk) (now : Int) : (stepW x w now).2.2 = 0 ∨ stepW x w now = (x, w, 18) ∨ ((stepW x w now).1 = x ∧ (stepW x w now).2.1 = wkR w.id ∧ (stepW x w now).2.2 ≠ 18) := by
 have room18 : ∀ k d, x.room k d ≠ 18 := fun k d => by
  unfold Sto.room
  split
  · decide
  · split <;> decide
 have app18 : ∀ n r, (appS x n r).2 ≠ 18 := fun n r => by
  unfold appS Sto.putA
  split
  · show (9 : Int) ≠ 18; decide
  · exact room18 _ _
 have put18 : ∀ k d, (x.putA k d).2 ≠ 18 := fun k d => by
  unfold Sto.putA
  split
  · show (9 : Int) ≠ 18; decide
  · exact room18 _ _
 unfold stepW
 split
 · split
   · exact .inr (.inl rfl)
   · exact .inl rfl
 split
 · split
   · exact .inl rfl
   · refine .inr (.inr ⟨rfl, rfl, ?_⟩)
     show acqR x w.id now ≠ 18
     unfold acqR
     split
     · exact room18 _ _
     · unfold acqC
       split
       · decide
       · split
         · decide
         · split <;> decide
 split
 · split
   · exact .inl rfl
   · exact .inr (.inr ⟨rfl, rfl, app18 _ _⟩)
 split
 · split
   · split
     · split <;> exact .inl rfl
     · exact .inl rfl
   · exact .inr (.inr ⟨rfl, rfl, show (13 : Int) ≠ 18 by decide⟩)
 split
 · split
   · exact .inl rfl
   · split
     · exact .inl rfl
     · refine .inr (.inr ⟨rfl, rfl, ?_⟩)
       show (winR x _ _ _ _).2 ≠ 18
       unfold winR
       split
       · show (0 : Int) ≠ 18; decide
       · show (5 : Int) ≠ 18; decide
 split
 · split
   · exact .inl rfl
   · exact .inr (.inr ⟨rfl, rfl, put18 _ _⟩)
 split
 · split
   · split
     · exact .inl rfl
     · exact .inr (.inr ⟨rfl, rfl, app18 _ _⟩)
   · exact .inr (.inr ⟨rfl, rfl, show (13 : Int) ≠ 18 by decide⟩)
 · split
   · exact .inl rfl
   · refine .inr (.inr ⟨rfl, rfl, ?_⟩)
     show (x.chg w.id w.tok 0).2 ≠ 18
     unfold Sto.chg
     split
     · exact room18 _ _
     · unfold Sto.chgC
       show (if x.lea.2 = 17 then (17 : Int) else if x.lea.2 ≠ 0 ∨ x.lea.1.who ≠ w.id ∨ x.lea.1.tok ≠ w.tok ∨ x.lea.1.til = 0 then 13 else 0) ≠ 18
       split
       · decide
       · split <;> decide
theorem stepped_fn {x : Sto} {w : Wk} {now : Int} (H : WkW x w now) : VFn Tryz.prog 112 [w.av, x.av, .int .i64 now] (.tup [(stepW x w now).1.av, (stepW x w now).2.1.av, .int .i64 (stepW x w now).2.2]) := by
 obtain ⟨y', v', c, hz⟩ := wstep_fn H
 have sh := stepW_shape x w now
 generalize stepW x w now = p at *
 obtain ⟨y, v, k⟩ := p
 have hz : k = 0 → y' = y ∧ v' = v := hz
 have c : VFn Tryz.prog 151 [w.av, x.av, .int .i64 now] (.tup [y'.av, v'.av, .int .i64 k]) := c
 by_cases h0 : k = 0
 · obtain ⟨e1, e2⟩ := hz h0
   subst h0 e1 e2
   refine VFn.introC Tryz.call112 Tryz.func112 rfl rfl ?_
   conv => whnf
   refine CallC.nl _ (c) ?_ ?_
   · exact rfl
   refine DrawC.mkQ 5 [(.inl 2, 2), (.inl 3, 3)] rfl (by kernel_rfl) ?_
   refine And.intro rfl ?_
   exact And.intro trivial (AVle.refl _)
 clear hz
 by_cases h18 : k = 18
 · have h : y = x ∧ v = w := by
    rcases sh with h | h | ⟨_, _, h⟩
    · exact absurd h h0
    · cases h; exact ⟨rfl, rfl⟩
    · exact absurd h18 h
   obtain ⟨e1, e2⟩ := h
   subst h18 e1 e2
   refine VFn.introC Tryz.call112 Tryz.func112 rfl rfl ?_
   conv => whnf
   refine CallC.nl _ (c) ?_ ?_
   · exact rfl
   conv => whnf
   refine DrawC.mkQ 6 [(.inl 2, 3), (.inl 3, 4)] rfl (by kernel_rfl) ?_
   refine And.intro rfl ?_
   exact And.intro trivial (AVle.refl _)
 · have h : y = x ∧ v = wkR w.id := by
    rcases sh with h | h | ⟨h1, h2, h⟩
    · exact absurd h h0
    · cases h; exact absurd rfl h18
    · exact ⟨h1, h2⟩
   obtain ⟨e1, e2⟩ := h
   subst e1 e2
   refine VFn.introC Tryz.call112 Tryz.func112 rfl rfl ?_
   conv => whnf
   refine CallC.nl _ (c) ?_ ?_
   · exact rfl
   conv => whnf
   refine Grd.intro (fun h => absurd (of_decide_eq_true h) h0) (fun _ => ?_)
   refine Grd.intro (fun h => absurd (of_decide_eq_true h) h18) (fun _ => ?_)
   conv => whnf
   refine DrawC.mkQ 8 [(.inl 2, 5), (.inl 3, 6)] rfl (by kernel_rfl) ?_
   refine And.intro rfl ?_
   exact And.intro trivial (AVle.tup (AVsle.cons (AVle.refl _) (AVsle.cons (nilW _ _ _ default default) (AVsle.refl _))))
def Fl.orow (f : Fl) (a n : Nat) : List AV := [obs f.st.os, .int .i64 f.st.next, .int .i64 f.clk, .int .i64 f.k0, .int .i64 f.k1, .int .i64 f.k2, .int .i64 f.k3, .int .i64 f.k4, .int .i64 f.k5, .int .i64 f.k6, .osl 1, .osl 2, .osl 3, .osl a, .osl n]
abbrev Fl.objN (f : Fl) (a n : Nat) : List (Nat × MO) := [(0, .box (f.orow a n)), (1, .arr 86 16 f.ws.length fun i => (ix f.ws i).row), (2, .arr 88 6 f.gs.length fun i => (ix f.gs i).row), (3, .arr 90 14 f.rs.length fun i => (ix f.rs i).row), (a, .arr 96 2 f.ac.length fun i => (ix f.ac i).row), (n, .arr 49 10 f.an.length fun i => (ix f.an i).row)]
abbrev Fl.objs (f : Fl) : List (Nat × MO) := f.objN 4 5
theorem wkW_of {x : Sto} {n : Nat} {s : Sta} {ac : List Smp} (I : StI x n s ac) (hac : ac.length ≤ 1000) {w : Wk} (W : WkI x s ac w) {now : Int} (hn : 0 ≤ now ∧ now ≤ 101000) : WkW x w now := by
 have F := (wk_iff w).1 W.ok
 refine ⟨I.lg.ok, W.ok, hn, fun h4 e l hl hh => ?_, ?_⟩
 · obtain ⟨p1, p2⟩ := W.p4 h4
   rw [hl] at p1
   exact (win_step I hac F.got.1 p1 (p2 e (by rw [hl]; simp)) hh).1
 · rw [I.lg.log]
   have := I.li.h10
   have := I.li.h21
   have := I.li.nn
   omega
theorem ixset {α : Type} [Inhabited α] (l : List α) {k : Nat} (hk : k < l.length) (v : α) (j : Nat) : ix (l.set k v) j = if j = k then v else ix l j := by
 unfold ix
 by_cases h : j = k
 · subst h
   simp [List.getD_eq_getElem?_getD, hk]
 · rw [if_neg h]
   simp [List.getD_eq_getElem?_getD, List.getElem?_set, Ne.symm h]
theorem beq_f {j k : Nat} (h : j ≠ k) : j.beq k = false := by
 cases e : j.beq k with
 | false => rfl
 | true => exact absurd (Nat.eq_of_beq_eq_true e) h
theorem arr_set {α : Type} [Inhabited α] (l : List α) {k : Nat} (hk : k < l.length) (v : α) {row : α → List AV} {g : Nat → List AV} (h1 : g k = row v) (h2 : ∀ j, j ≠ k → g j = row (ix l j)) (e sz : Nat) :
 MOle (.arr e sz l.length g) (.arr e sz (l.set k v).length fun i => row (ix (l.set k v) i)) := by
 refine MOle.arr (by simp) (fun i hi => ?_)
 rw [ixset l hk]
 by_cases h : i = k
 · subst h; rw [if_pos rfl]; exact h1
 · rw [if_neg h]; exact h2 i h
theorem fstep0_fn {f : Fl} {M Q : Nat} (F : FlI f M Q) (hM : M ≤ 1000) : FnM Tryz.prog 65 6 [.bptr 0 0, .int .i64 0] f.objs (.int .i64 (stepF f 0).2) (stepF f 0).1.objs 7 := by
 have hac : f.ac.length ≤ 1000 := Nat.le_trans F.acl hM
 obtain ⟨hl, W⟩ : 0 < f.ws.length ∧ WkI f.st (logS f.st) f.ac (ix f.ws 0) := by
  obtain ⟨w0, w1, ew, ⟨i0, i1⟩, W0, W1⟩ := F.ws
  rw [ew]
  exact ⟨by simp, W0⟩
 have nb := now_bd F 0
 have cs := stepped_fn (wkW_of F.st hac W nb.1)
 have es : stepF f 0 = ({ f with st := (stepW f.st (ix f.ws 0) (f.now 0)).1, ws := f.ws.set 0 (stepW f.st (ix f.ws 0) (f.now 0)).2.1 }, (stepW f.st (ix f.ws 0) (f.now 0)).2.2) := by
  unfold stepF
  rw [if_neg (by decide), if_neg (by decide), if_neg (by decide)]
  rfl
 rw [es]
 clear es
 have e0 : f.now 0 = f.clk + f.k0 := rfl
 have hk := skew_b F 0
 have hk : -3 ≤ f.k0 ∧ f.k0 ≤ 3 := hk
 have hc := F.clk
 rw [e0] at cs
 rw [e0]
 generalize stepW f.st (ix f.ws 0) (f.clk + f.k0) = p at *
 have cr := isReader_fn 0
 have ci := isIngester_fn 0
 refine FnM.introC Tryz.call65 Tryz.func65 rfl rfl ?_
 conv => whnf
 refine DrawC.mq 13 rfl (by kernel_rfl) ?_
 conv => whnf
 refine And.intro ⟨by decide, by decide⟩ ?_
 conv => whnf
 refine And.intro (inI64 (by omega) (by omega)) ?_
 conv => whnf
 conv => whnf
 refine CallC.nl _ (cr) ?_ ?_
 · exact rfl
 conv => whnf
 conv => whnf
 refine CallC.nl _ (ci) ?_ ?_
 · exact rfl
 conv => whnf
 refine And.intro ⟨by omega, by omega⟩ ?_
 conv => whnf
 refine DrawC.mkR 21 [(.inl 0, 17), (.inl 1, 19)] [(0, 8), (1, 4)] rfl (by kernel_rfl) ?_
 refine And.intro (And.intro (by kernel_rfl) (by kernel_rfl)) ?_
 conv => whnf
 refine PCallQ.nl _ (cs) rfl ?_
 conv => whnf
 refine And.intro trivial ⟨[(0, 0), (1, 1), (2, 2), (3, 3), (4, 4), (5, 5)], rfl, AVle.refl _, MOle.refl _, arr_set f.ws hl p.2.1 rfl (fun j hj => ?_) _ _, MOle.refl _, MOle.refl _, MOle.refl _, MOle.refl _, trivial⟩
 show (bif j.beq 0 then _ else _) = _
 rw [beq_f hj]
 rfl
theorem fstep1_fn {f : Fl} {M Q : Nat} (F : FlI f M Q) (hM : M ≤ 1000) : FnM Tryz.prog 65 6 [.bptr 0 0, .int .i64 1] f.objs (.int .i64 (stepF f 1).2) (stepF f 1).1.objs 7 := by
 have hac : f.ac.length ≤ 1000 := Nat.le_trans F.acl hM
 obtain ⟨hl, W⟩ : 1 < f.ws.length ∧ WkI f.st (logS f.st) f.ac (ix f.ws 1) := by
  obtain ⟨w0, w1, ew, ⟨i0, i1⟩, W0, W1⟩ := F.ws
  rw [ew]
  exact ⟨by simp, W1⟩
 have nb := now_bd F 1
 have cs := stepped_fn (wkW_of F.st hac W nb.1)
 have es : stepF f 1 = ({ f with st := (stepW f.st (ix f.ws 1) (f.now 1)).1, ws := f.ws.set 1 (stepW f.st (ix f.ws 1) (f.now 1)).2.1 }, (stepW f.st (ix f.ws 1) (f.now 1)).2.2) := by
  unfold stepF
  rw [if_neg (by decide), if_neg (by decide), if_neg (by decide)]
  rfl
 rw [es]
 clear es
 have e0 : f.now 1 = f.clk + f.k1 := rfl
 have hk := skew_b F 1
 have hk : -3 ≤ f.k1 ∧ f.k1 ≤ 3 := hk
 have hc := F.clk
 rw [e0] at cs
 rw [e0]
 generalize stepW f.st (ix f.ws 1) (f.clk + f.k1) = p at *
 have cr := isReader_fn 1
 have ci := isIngester_fn 1
 refine FnM.introC Tryz.call65 Tryz.func65 rfl rfl ?_
 conv => whnf
 refine DrawC.mq 13 rfl (by kernel_rfl) ?_
 conv => whnf
 refine And.intro ⟨by decide, by decide⟩ ?_
 conv => whnf
 refine And.intro (inI64 (by omega) (by omega)) ?_
 conv => whnf
 conv => whnf
 refine CallC.nl _ (cr) ?_ ?_
 · exact rfl
 conv => whnf
 conv => whnf
 refine CallC.nl _ (ci) ?_ ?_
 · exact rfl
 conv => whnf
 refine And.intro ⟨by omega, by omega⟩ ?_
 conv => whnf
 refine DrawC.mkR 21 [(.inl 0, 17), (.inl 1, 19)] [(0, 8), (1, 4)] rfl (by kernel_rfl) ?_
 refine And.intro (And.intro (by kernel_rfl) (by kernel_rfl)) ?_
 conv => whnf
 refine PCallQ.nl _ (cs) rfl ?_
 conv => whnf
 refine And.intro trivial ⟨[(0, 0), (1, 1), (2, 2), (3, 3), (4, 4), (5, 5)], rfl, AVle.refl _, MOle.refl _, arr_set f.ws hl p.2.1 rfl (fun j hj => ?_) _ _, MOle.refl _, MOle.refl _, MOle.refl _, MOle.refl _, trivial⟩
 show (bif j.beq 1 then _ else _) = _
 rw [beq_f hj]
 rfl
theorem fstep2_fn {f : Fl} {M Q : Nat} (F : FlI f M Q) (hM : M ≤ 1000) : FnM Tryz.prog 65 6 [.bptr 0 0, .int .i64 2] f.objs (.int .i64 (stepF f 2).2) ((stepF f 2).1.objN (if (stI f.st (ix f.gs 0)).2.2.1 = true then 6 else 4) 5) 7 := by
 obtain ⟨hl, hg, hcnt⟩ : 0 < f.gs.length ∧ (ix f.gs 0).ok = true ∧ f.ac.length + (ix f.gs 0).b.length ≤ 1000 := by
  obtain ⟨g0, g1, eg, ⟨i0, i1⟩, ⟨W0, W1⟩, hcnt⟩ := F.gs
  rw [eg]
  exact ⟨by simp, W0.ok, show f.ac.length + g0.b.length ≤ 1000 by omega⟩
 have nb := now_bd F 2
 have cs := istep_fn f.st F.st.lg.ok (ix f.gs 0) hg
 have es : stepF f 2 = ({ f with st := (stI f.st (ix f.gs 0)).1, gs := f.gs.set 0 (stI f.st (ix f.gs 0)).2.1, ac := if (stI f.st (ix f.gs 0)).2.2.1 = true then f.ac ++ (ix f.gs 0).b else f.ac }, (stI f.st (ix f.gs 0)).2.2.2) := by
  unfold stepF
  rw [if_neg (by decide), if_neg (by decide), if_pos (by decide)]
 rw [es]
 clear es
 have hk := skew_b F 2
 have hk : -3 ≤ f.k2 ∧ f.k2 ≤ 3 := hk
 have hc := F.clk
 generalize stI f.st (ix f.gs 0) = p at *
 obtain ⟨y, v, d, c⟩ := p
 have cs : VFn Tryz.prog 111 [(ix f.gs 0).av, f.st.av] (.tup [y.av, v.av, .bool d, .int .i64 c]) := cs
 have cr := isReader_fn 2
 have ci := isIngester_fn 2
 cases d
 all_goals
  refine FnM.introC Tryz.call65 Tryz.func65 rfl rfl ?_
  conv => whnf
  refine DrawC.mq 13 rfl (by kernel_rfl) ?_
  conv => whnf
  refine And.intro ⟨by decide, by decide⟩ ?_
  conv => whnf
  refine And.intro (inI64 (by omega) (by omega)) ?_
  conv => whnf
  conv => whnf
  refine CallC.nl _ (cr) ?_ ?_
  · exact rfl
  conv => whnf
  conv => whnf
  refine CallC.nl _ (ci) ?_ ?_
  · exact rfl
  conv => whnf
  refine And.intro (inI64 (by decide) (by decide)) ?_
  conv => whnf
  refine And.intro ⟨by decide, show ((0 : Nat) : Int) < (f.gs.length : Int) by omega⟩ ?_
  conv => whnf
  refine DrawC.mq 6 rfl (by kernel_rfl) ?_
  conv => whnf
  refine DrawC.mkR 22 [(.inl 0, 17), (.inl 2, 19)] [(0, 8), (2, 4)] rfl (by kernel_rfl) ?_
  refine And.intro (And.intro (by kernel_rfl) (by kernel_rfl)) ?_
  conv => whnf
  refine PCallQ.nl _ (cs) rfl ?_
  conv => whnf
 · refine And.intro trivial ⟨[(0, 0), (1, 1), (2, 2), (3, 3), (4, 4), (5, 5)], rfl, AVle.refl _, MOle.refl _, MOle.refl _, arr_set f.gs hl v rfl (fun j hj => ?_) _ _, MOle.refl _, MOle.refl _, MOle.refl _, trivial⟩
   show (bif j.beq 0 then _ else _) = _
   rw [beq_f hj]
   rfl
 · refine And.intro ⟨show (f.ac.length + (ix f.gs 0).b.length) * 16 ≤ 140737488355328 by omega, fun i _ => rfl⟩ ?_
   conv => whnf
   refine And.intro trivial ⟨[(0, 0), (1, 1), (2, 2), (3, 3), (4, 4), (5, 5), (47, 6)], rfl, AVle.refl _, MOle.refl _, MOle.refl _, arr_set f.gs hl v rfl (fun j hj => ?_) _ _, MOle.refl _, MOle.arr (show _ = (f.ac ++ (ix f.gs 0).b).length by simp) (fun i hi => app_rowsL (fun j _ => rfl) hi), MOle.refl _, trivial⟩
   show (bif j.beq 0 then _ else _) = _
   rw [beq_f hj]
   rfl
theorem fstep3_fn {f : Fl} {M Q : Nat} (F : FlI f M Q) (hM : M ≤ 1000) : FnM Tryz.prog 65 6 [.bptr 0 0, .int .i64 3] f.objs (.int .i64 (stepF f 3).2) ((stepF f 3).1.objN (if (stI f.st (ix f.gs 1)).2.2.1 = true then 6 else 4) 5) 7 := by
 obtain ⟨hl, hg, hcnt⟩ : 1 < f.gs.length ∧ (ix f.gs 1).ok = true ∧ f.ac.length + (ix f.gs 1).b.length ≤ 1000 := by
  obtain ⟨g0, g1, eg, ⟨i0, i1⟩, ⟨W0, W1⟩, hcnt⟩ := F.gs
  rw [eg]
  exact ⟨by simp, W1.ok, show f.ac.length + g1.b.length ≤ 1000 by omega⟩
 have nb := now_bd F 3
 have cs := istep_fn f.st F.st.lg.ok (ix f.gs 1) hg
 have es : stepF f 3 = ({ f with st := (stI f.st (ix f.gs 1)).1, gs := f.gs.set 1 (stI f.st (ix f.gs 1)).2.1, ac := if (stI f.st (ix f.gs 1)).2.2.1 = true then f.ac ++ (ix f.gs 1).b else f.ac }, (stI f.st (ix f.gs 1)).2.2.2) := by
  unfold stepF
  rw [if_neg (by decide), if_neg (by decide), if_pos (by decide)]
 rw [es]
 clear es
 have hk := skew_b F 3
 have hk : -3 ≤ f.k3 ∧ f.k3 ≤ 3 := hk
 have hc := F.clk
 generalize stI f.st (ix f.gs 1) = p at *
 obtain ⟨y, v, d, c⟩ := p
 have cs : VFn Tryz.prog 111 [(ix f.gs 1).av, f.st.av] (.tup [y.av, v.av, .bool d, .int .i64 c]) := cs
 have cr := isReader_fn 3
 have ci := isIngester_fn 3
 cases d
 all_goals
  refine FnM.introC Tryz.call65 Tryz.func65 rfl rfl ?_
  conv => whnf
  refine DrawC.mq 13 rfl (by kernel_rfl) ?_
  conv => whnf
  refine And.intro ⟨by decide, by decide⟩ ?_
  conv => whnf
  refine And.intro (inI64 (by omega) (by omega)) ?_
  conv => whnf
  conv => whnf
  refine CallC.nl _ (cr) ?_ ?_
  · exact rfl
  conv => whnf
  conv => whnf
  refine CallC.nl _ (ci) ?_ ?_
  · exact rfl
  conv => whnf
  refine And.intro (inI64 (by decide) (by decide)) ?_
  conv => whnf
  refine And.intro ⟨by decide, show ((1 : Nat) : Int) < (f.gs.length : Int) by omega⟩ ?_
  conv => whnf
  refine DrawC.mq 6 rfl (by kernel_rfl) ?_
  conv => whnf
  refine DrawC.mkR 22 [(.inl 0, 17), (.inl 2, 19)] [(0, 8), (2, 4)] rfl (by kernel_rfl) ?_
  refine And.intro (And.intro (by kernel_rfl) (by kernel_rfl)) ?_
  conv => whnf
  refine PCallQ.nl _ (cs) rfl ?_
  conv => whnf
 · refine And.intro trivial ⟨[(0, 0), (1, 1), (2, 2), (3, 3), (4, 4), (5, 5)], rfl, AVle.refl _, MOle.refl _, MOle.refl _, arr_set f.gs hl v rfl (fun j hj => ?_) _ _, MOle.refl _, MOle.refl _, MOle.refl _, trivial⟩
   show (bif j.beq 1 then _ else _) = _
   rw [beq_f hj]
   rfl
 · refine And.intro ⟨show (f.ac.length + (ix f.gs 1).b.length) * 16 ≤ 140737488355328 by omega, fun i _ => rfl⟩ ?_
   conv => whnf
   refine And.intro trivial ⟨[(0, 0), (1, 1), (2, 2), (3, 3), (4, 4), (5, 5), (47, 6)], rfl, AVle.refl _, MOle.refl _, MOle.refl _, arr_set f.gs hl v rfl (fun j hj => ?_) _ _, MOle.refl _, MOle.arr (show _ = (f.ac ++ (ix f.gs 1).b).length by simp) (fun i hi => app_rowsL (fun j _ => rfl) hi), MOle.refl _, trivial⟩
   show (bif j.beq 1 then _ else _) = _
   rw [beq_f hj]
   rfl
theorem fstep6_fn {f : Fl} {M Q : Nat} (F : FlI f M Q) (hM : M ≤ 1000) : FnM Tryz.prog 65 6 [.bptr 0 0, .int .i64 6] f.objs (.int .i64 (stepF f 6).2) (stepF f 6).1.objs 7 := by
 have nb := now_bd F 6
 have cs := sweep_fn f.st F.st.lg.ok (f.now 6)
 have es : stepF f 6 = if (swS f.st (f.now 6)).2 = 0 then ({ f with st := (swS f.st (f.now 6)).1 }, 0) else (f, (swS f.st (f.now 6)).2) := by
  unfold stepF
  rw [if_pos (by decide)]
 rw [es]
 clear es
 have hk := skew_b F 6
 have hk : -3 ≤ f.k6 ∧ f.k6 ≤ 3 := hk
 have hc := F.clk
 have e0 : f.now 6 = f.clk + f.k6 := rfl
 rw [e0] at cs
 rw [e0]
 generalize swS f.st (f.clk + f.k6) = p at *
 by_cases h0 : p.2 = 0
 · rw [if_pos h0]
   rw [h0] at cs
   refine FnM.introC Tryz.call65 Tryz.func65 rfl rfl ?_
   conv => whnf
   refine DrawC.mq 13 rfl (by kernel_rfl) ?_
   conv => whnf
   refine And.intro ⟨by decide, by decide⟩ ?_
   conv => whnf
   refine And.intro (inI64 (by omega) (by omega)) ?_
   conv => whnf
   conv => whnf
   refine CallC.nl _ (cs) ?_ ?_
   · exact rfl
   conv => whnf
   exact And.intro trivial ⟨[(0, 0), (1, 1), (2, 2), (3, 3), (4, 4), (5, 5)], rfl, AVle.refl _, MOle.refl _, MOle.refl _, MOle.refl _, MOle.refl _, MOle.refl _, MOle.refl _, trivial⟩
 · rw [if_neg h0]
   refine FnM.introC Tryz.call65 Tryz.func65 rfl rfl ?_
   conv => whnf
   refine DrawC.mq 13 rfl (by kernel_rfl) ?_
   conv => whnf
   refine And.intro ⟨by decide, by decide⟩ ?_
   conv => whnf
   refine And.intro (inI64 (by omega) (by omega)) ?_
   conv => whnf
   conv => whnf
   refine CallC.nl _ (cs) ?_ ?_
   · exact rfl
   conv => whnf
   refine Grd.intro (fun h => absurd (of_decide_eq_true h) h0) (fun _ => ?_)
   exact And.intro trivial ⟨[(0, 0), (1, 1), (2, 2), (3, 3), (4, 4), (5, 5)], rfl, AVle.refl _, MOle.refl _, MOle.refl _, MOle.refl _, MOle.refl _, MOle.refl _, MOle.refl _, trivial⟩
theorem fstep4_fn {f : Fl} {M Q : Nat} (F : FlI f M Q) (hM : M ≤ 1000) (hQ : Q ≤ 100000) : FnM Tryz.prog 65 6 [.bptr 0 0, .int .i64 4] f.objs (.int .i64 (stepF f 4).2) ((stepF f 4).1.objN 4 (if (stepR f.st (ix f.rs 0) (f.now 4)).2.2.1 = true then 6 else 5)) 7 := by
 obtain ⟨hl, hg⟩ : 0 < f.rs.length ∧ (ix f.rs 0).ok = true := by
  obtain ⟨g0, g1, eg, ⟨i0, i1⟩, W0, W1⟩ := F.rs
  rw [eg]
  exact ⟨by simp, W0.ok⟩
 have R := (rr_iff _).1 hg
 have nb := now_bd F 4
 have hw := (F.step hM (who := 4) (by decide)).2.2 (by decide)
 have han := F.an.2
 have cs := rstep_fn f.st F.st.lg.ok (ix f.rs 0) (f.now 4) R.id (by have := R.tier; simp only [within, Bool.and_eq_true, decide_eq_true_eq]; omega) R.rg nb.1 R.til (by have := R.len; omega) hw
 have es : stepF f 4 = ({ f with st := (stepR f.st (ix f.rs 0) (f.now 4)).1, rs := f.rs.set 0 (stepR f.st (ix f.rs 0) (f.now 4)).2.1, an := if (stepR f.st (ix f.rs 0) (f.now 4)).2.2.1 = true then f.an ++ [ansR (stepR f.st (ix f.rs 0) (f.now 4)).2.1] else f.an }, (stepR f.st (ix f.rs 0) (f.now 4)).2.2.2) := by
  unfold stepF
  rw [if_neg (by decide), if_pos (by decide)]
  rfl
 rw [es]
 clear es hw
 have hk := skew_b F 4
 have hk : -3 ≤ f.k4 ∧ f.k4 ≤ 3 := hk
 have hc := F.clk
 have e0 : f.now 4 = f.clk + f.k4 := rfl
 rw [e0] at cs
 rw [e0]
 generalize stepR f.st (ix f.rs 0) (f.clk + f.k4) = p at *
 obtain ⟨y, v, d, c⟩ := p
 have cs : VFn Tryz.prog 110 [(ix f.rs 0).av, f.st.av, .int .i64 (f.clk + f.k4)] (.tup [y.av, v.av, .bool d, .int .i64 c]) := cs
 have cr := isReader_fn 4
 cases d
 · refine FnM.introC Tryz.call65 Tryz.func65 rfl rfl ?_
   conv => whnf
   refine DrawC.mq 13 rfl (by kernel_rfl) ?_
   conv => whnf
   refine And.intro ⟨by decide, by decide⟩ ?_
   conv => whnf
   refine And.intro (inI64 (by omega) (by omega)) ?_
   conv => whnf
   conv => whnf
   refine CallC.nl _ (cr) ?_ ?_
   · exact rfl
   conv => whnf
   refine And.intro (inI64 (by decide) (by decide)) ?_
   conv => whnf
   refine And.intro ⟨by decide, show ((0 : Nat) : Int) < (f.rs.length : Int) by omega⟩ ?_
   conv => whnf
   refine DrawC.mkR 23 [(.inl 0, 18), (.inl 3, 20)] [(0, 8), (3, 4)] rfl (by kernel_rfl) ?_
   refine And.intro (And.intro (by kernel_rfl) (by kernel_rfl)) ?_
   conv => whnf
   refine PCallQ.nl _ (cs) rfl ?_
   conv => whnf
   refine And.intro trivial ⟨[(0, 0), (1, 1), (2, 2), (3, 3), (4, 4), (5, 5)], rfl, AVle.refl _, MOle.refl _, MOle.refl _, MOle.refl _, arr_set f.rs hl v rfl (fun j hj => ?_) _ _, MOle.refl _, MOle.refl _, trivial⟩
   show (bif j.beq 0 then _ else _) = _
   rw [beq_f hj]
   rfl
 · have hixv : ansR v = ansR v := rfl
   by_cases hv : v.code = 0
   · have ea : ansR v = ⟨v.tier, v.f, v.t, v.code, v.got⟩ := by unfold ansR; rw [if_pos hv]
     show FnM _ _ _ _ _ _ (Fl.objN { f with st := y, rs := f.rs.set 0 v, an := f.an ++ [ansR v] } 4 6) _
     rw [ea]
     refine FnM.introC Tryz.call65 Tryz.func65 rfl rfl ?_
     conv => whnf
     refine DrawC.mq 13 rfl (by kernel_rfl) ?_
     conv => whnf
     refine And.intro ⟨by decide, by decide⟩ ?_
     conv => whnf
     refine And.intro (inI64 (by omega) (by omega)) ?_
     conv => whnf
     conv => whnf
     refine CallC.nl _ (cr) ?_ ?_
     · exact rfl
     conv => whnf
     refine And.intro (inI64 (by decide) (by decide)) ?_
     conv => whnf
     refine And.intro ⟨by decide, show ((0 : Nat) : Int) < (f.rs.length : Int) by omega⟩ ?_
     conv => whnf
     refine DrawC.mkR 23 [(.inl 0, 18), (.inl 3, 20)] [(0, 8), (3, 4)] rfl (by kernel_rfl) ?_
     refine And.intro (And.intro (by kernel_rfl) (by kernel_rfl)) ?_
     conv => whnf
     refine PCallQ.nl _ (cs) rfl ?_
     conv => whnf
     refine DrawC.mkQ 19 [(.inr 17, 18)] rfl (by kernel_rfl) ?_
     refine And.intro rfl ?_
     conv => whnf
     refine Grd.intro (fun _ => ?_) (fun h => absurd hv (of_decide_eq_false h))
     conv => whnf
     refine DrawC.mkR 11 [(.inl 5, 7), (.inl 0, 10)] [(0, 4)] rfl (by kernel_rfl) ?_
     refine And.intro (And.intro (by kernel_rfl) (by kernel_rfl)) ?_
     conv => whnf
     refine And.intro ⟨show (f.an.length + 1) * 80 ≤ 140737488355328 by omega, fun i hi => by (obtain rfl : i = 0 := by omega); rfl⟩ ?_
     conv => whnf
     refine And.intro trivial ⟨[(0, 0), (1, 1), (2, 2), (3, 3), (4, 4), (5, 5), (68, 6)], rfl, AVle.refl _, MOle.refl _, MOle.refl _, MOle.refl _, arr_set f.rs hl v rfl (fun j hj => ?_) _ _, MOle.refl _, MOle.arr (show _ = (f.an ++ [(⟨v.tier, v.f, v.t, v.code, v.got⟩ : An)]).length by simp) (fun i hi => app_row1 (f := An.row) (L := f.an) (x := ⟨v.tier, v.f, v.t, v.code, v.got⟩) rfl hi), trivial⟩
     show (bif j.beq 0 then _ else _) = _
     rw [beq_f hj]
     rfl
   · have ea : ansR v = ⟨v.tier, v.f, v.t, v.code, default⟩ := by unfold ansR; rw [if_neg hv]
     show FnM _ _ _ _ _ _ (Fl.objN { f with st := y, rs := f.rs.set 0 v, an := f.an ++ [ansR v] } 4 6) _
     rw [ea]
     refine FnM.introC Tryz.call65 Tryz.func65 rfl rfl ?_
     conv => whnf
     refine DrawC.mq 13 rfl (by kernel_rfl) ?_
     conv => whnf
     refine And.intro ⟨by decide, by decide⟩ ?_
     conv => whnf
     refine And.intro (inI64 (by omega) (by omega)) ?_
     conv => whnf
     conv => whnf
     refine CallC.nl _ (cr) ?_ ?_
     · exact rfl
     conv => whnf
     refine And.intro (inI64 (by decide) (by decide)) ?_
     conv => whnf
     refine And.intro ⟨by decide, show ((0 : Nat) : Int) < (f.rs.length : Int) by omega⟩ ?_
     conv => whnf
     refine DrawC.mkR 23 [(.inl 0, 18), (.inl 3, 20)] [(0, 8), (3, 4)] rfl (by kernel_rfl) ?_
     refine And.intro (And.intro (by kernel_rfl) (by kernel_rfl)) ?_
     conv => whnf
     refine PCallQ.nl _ (cs) rfl ?_
     conv => whnf
     refine DrawC.mkQ 19 [(.inr 17, 18)] rfl (by kernel_rfl) ?_
     refine And.intro rfl ?_
     conv => whnf
     refine Grd.intro (fun h => absurd (of_decide_eq_true h) hv) (fun _ => ?_)
     conv => whnf
     refine DrawC.mkR 11 [(.inl 5, 7), (.inl 0, 10)] [(0, 4)] rfl (by kernel_rfl) ?_
     refine And.intro (And.intro (by kernel_rfl) (by kernel_rfl)) ?_
     conv => whnf
     refine And.intro ⟨show (f.an.length + 1) * 80 ≤ 140737488355328 by omega, fun i hi => by (obtain rfl : i = 0 := by omega); rfl⟩ ?_
     conv => whnf
     refine And.intro trivial ⟨[(0, 0), (1, 1), (2, 2), (3, 3), (4, 4), (5, 5), (68, 6)], rfl, AVle.refl _, MOle.refl _, MOle.refl _, MOle.refl _, arr_set f.rs hl v rfl (fun j hj => ?_) _ _, MOle.refl _, MOle.arr (show _ = (f.an ++ [(⟨v.tier, v.f, v.t, v.code, default⟩ : An)]).length by simp) (fun i hi => app_row1 (f := An.row) (L := f.an) (x := ⟨v.tier, v.f, v.t, v.code, default⟩) rfl hi), trivial⟩
     show (bif j.beq 0 then _ else _) = _
     rw [beq_f hj]
     rfl
theorem fstep5_fn {f : Fl} {M Q : Nat} (F : FlI f M Q) (hM : M ≤ 1000) (hQ : Q ≤ 100000) : FnM Tryz.prog 65 6 [.bptr 0 0, .int .i64 5] f.objs (.int .i64 (stepF f 5).2) ((stepF f 5).1.objN 4 (if (stepR f.st (ix f.rs 1) (f.now 5)).2.2.1 = true then 6 else 5)) 7 := by
 obtain ⟨hl, hg⟩ : 1 < f.rs.length ∧ (ix f.rs 1).ok = true := by
  obtain ⟨g0, g1, eg, ⟨i0, i1⟩, W0, W1⟩ := F.rs
  rw [eg]
  exact ⟨by simp, W1.ok⟩
 have R := (rr_iff _).1 hg
 have nb := now_bd F 5
 have hw := (F.step hM (who := 5) (by decide)).2.2 (by decide)
 have han := F.an.2
 have cs := rstep_fn f.st F.st.lg.ok (ix f.rs 1) (f.now 5) R.id (by have := R.tier; simp only [within, Bool.and_eq_true, decide_eq_true_eq]; omega) R.rg nb.1 R.til (by have := R.len; omega) hw
 have es : stepF f 5 = ({ f with st := (stepR f.st (ix f.rs 1) (f.now 5)).1, rs := f.rs.set 1 (stepR f.st (ix f.rs 1) (f.now 5)).2.1, an := if (stepR f.st (ix f.rs 1) (f.now 5)).2.2.1 = true then f.an ++ [ansR (stepR f.st (ix f.rs 1) (f.now 5)).2.1] else f.an }, (stepR f.st (ix f.rs 1) (f.now 5)).2.2.2) := by
  unfold stepF
  rw [if_neg (by decide), if_pos (by decide)]
  rfl
 rw [es]
 clear es hw
 have hk := skew_b F 5
 have hk : -3 ≤ f.k5 ∧ f.k5 ≤ 3 := hk
 have hc := F.clk
 have e0 : f.now 5 = f.clk + f.k5 := rfl
 rw [e0] at cs
 rw [e0]
 generalize stepR f.st (ix f.rs 1) (f.clk + f.k5) = p at *
 obtain ⟨y, v, d, c⟩ := p
 have cs : VFn Tryz.prog 110 [(ix f.rs 1).av, f.st.av, .int .i64 (f.clk + f.k5)] (.tup [y.av, v.av, .bool d, .int .i64 c]) := cs
 have cr := isReader_fn 5
 cases d
 · refine FnM.introC Tryz.call65 Tryz.func65 rfl rfl ?_
   conv => whnf
   refine DrawC.mq 13 rfl (by kernel_rfl) ?_
   conv => whnf
   refine And.intro ⟨by decide, by decide⟩ ?_
   conv => whnf
   refine And.intro (inI64 (by omega) (by omega)) ?_
   conv => whnf
   conv => whnf
   refine CallC.nl _ (cr) ?_ ?_
   · exact rfl
   conv => whnf
   refine And.intro (inI64 (by decide) (by decide)) ?_
   conv => whnf
   refine And.intro ⟨by decide, show ((1 : Nat) : Int) < (f.rs.length : Int) by omega⟩ ?_
   conv => whnf
   refine DrawC.mkR 23 [(.inl 0, 18), (.inl 3, 20)] [(0, 8), (3, 4)] rfl (by kernel_rfl) ?_
   refine And.intro (And.intro (by kernel_rfl) (by kernel_rfl)) ?_
   conv => whnf
   refine PCallQ.nl _ (cs) rfl ?_
   conv => whnf
   refine And.intro trivial ⟨[(0, 0), (1, 1), (2, 2), (3, 3), (4, 4), (5, 5)], rfl, AVle.refl _, MOle.refl _, MOle.refl _, MOle.refl _, arr_set f.rs hl v rfl (fun j hj => ?_) _ _, MOle.refl _, MOle.refl _, trivial⟩
   show (bif j.beq 1 then _ else _) = _
   rw [beq_f hj]
   rfl
 · have hixv : ansR v = ansR v := rfl
   by_cases hv : v.code = 0
   · have ea : ansR v = ⟨v.tier, v.f, v.t, v.code, v.got⟩ := by unfold ansR; rw [if_pos hv]
     show FnM _ _ _ _ _ _ (Fl.objN { f with st := y, rs := f.rs.set 1 v, an := f.an ++ [ansR v] } 4 6) _
     rw [ea]
     refine FnM.introC Tryz.call65 Tryz.func65 rfl rfl ?_
     conv => whnf
     refine DrawC.mq 13 rfl (by kernel_rfl) ?_
     conv => whnf
     refine And.intro ⟨by decide, by decide⟩ ?_
     conv => whnf
     refine And.intro (inI64 (by omega) (by omega)) ?_
     conv => whnf
     conv => whnf
     refine CallC.nl _ (cr) ?_ ?_
     · exact rfl
     conv => whnf
     refine And.intro (inI64 (by decide) (by decide)) ?_
     conv => whnf
     refine And.intro ⟨by decide, show ((1 : Nat) : Int) < (f.rs.length : Int) by omega⟩ ?_
     conv => whnf
     refine DrawC.mkR 23 [(.inl 0, 18), (.inl 3, 20)] [(0, 8), (3, 4)] rfl (by kernel_rfl) ?_
     refine And.intro (And.intro (by kernel_rfl) (by kernel_rfl)) ?_
     conv => whnf
     refine PCallQ.nl _ (cs) rfl ?_
     conv => whnf
     refine DrawC.mkQ 19 [(.inr 17, 18)] rfl (by kernel_rfl) ?_
     refine And.intro rfl ?_
     conv => whnf
     refine Grd.intro (fun _ => ?_) (fun h => absurd hv (of_decide_eq_false h))
     conv => whnf
     refine DrawC.mkR 11 [(.inl 5, 7), (.inl 0, 10)] [(0, 4)] rfl (by kernel_rfl) ?_
     refine And.intro (And.intro (by kernel_rfl) (by kernel_rfl)) ?_
     conv => whnf
     refine And.intro ⟨show (f.an.length + 1) * 80 ≤ 140737488355328 by omega, fun i hi => by (obtain rfl : i = 0 := by omega); rfl⟩ ?_
     conv => whnf
     refine And.intro trivial ⟨[(0, 0), (1, 1), (2, 2), (3, 3), (4, 4), (5, 5), (68, 6)], rfl, AVle.refl _, MOle.refl _, MOle.refl _, MOle.refl _, arr_set f.rs hl v rfl (fun j hj => ?_) _ _, MOle.refl _, MOle.arr (show _ = (f.an ++ [(⟨v.tier, v.f, v.t, v.code, v.got⟩ : An)]).length by simp) (fun i hi => app_row1 (f := An.row) (L := f.an) (x := ⟨v.tier, v.f, v.t, v.code, v.got⟩) rfl hi), trivial⟩
     show (bif j.beq 1 then _ else _) = _
     rw [beq_f hj]
     rfl
   · have ea : ansR v = ⟨v.tier, v.f, v.t, v.code, default⟩ := by unfold ansR; rw [if_neg hv]
     show FnM _ _ _ _ _ _ (Fl.objN { f with st := y, rs := f.rs.set 1 v, an := f.an ++ [ansR v] } 4 6) _
     rw [ea]
     refine FnM.introC Tryz.call65 Tryz.func65 rfl rfl ?_
     conv => whnf
     refine DrawC.mq 13 rfl (by kernel_rfl) ?_
     conv => whnf
     refine And.intro ⟨by decide, by decide⟩ ?_
     conv => whnf
     refine And.intro (inI64 (by omega) (by omega)) ?_
     conv => whnf
     conv => whnf
     refine CallC.nl _ (cr) ?_ ?_
     · exact rfl
     conv => whnf
     refine And.intro (inI64 (by decide) (by decide)) ?_
     conv => whnf
     refine And.intro ⟨by decide, show ((1 : Nat) : Int) < (f.rs.length : Int) by omega⟩ ?_
     conv => whnf
     refine DrawC.mkR 23 [(.inl 0, 18), (.inl 3, 20)] [(0, 8), (3, 4)] rfl (by kernel_rfl) ?_
     refine And.intro (And.intro (by kernel_rfl) (by kernel_rfl)) ?_
     conv => whnf
     refine PCallQ.nl _ (cs) rfl ?_
     conv => whnf
     refine DrawC.mkQ 19 [(.inr 17, 18)] rfl (by kernel_rfl) ?_
     refine And.intro rfl ?_
     conv => whnf
     refine Grd.intro (fun h => absurd (of_decide_eq_true h) hv) (fun _ => ?_)
     conv => whnf
     refine DrawC.mkR 11 [(.inl 5, 7), (.inl 0, 10)] [(0, 4)] rfl (by kernel_rfl) ?_
     refine And.intro (And.intro (by kernel_rfl) (by kernel_rfl)) ?_
     conv => whnf
     refine And.intro ⟨show (f.an.length + 1) * 80 ≤ 140737488355328 by omega, fun i hi => by (obtain rfl : i = 0 := by omega); rfl⟩ ?_
     conv => whnf
     refine And.intro trivial ⟨[(0, 0), (1, 1), (2, 2), (3, 3), (4, 4), (5, 5), (68, 6)], rfl, AVle.refl _, MOle.refl _, MOle.refl _, MOle.refl _, arr_set f.rs hl v rfl (fun j hj => ?_) _ _, MOle.refl _, MOle.arr (show _ = (f.an ++ [(⟨v.tier, v.f, v.t, v.code, default⟩ : An)]).length by simp) (fun i hi => app_row1 (f := An.row) (L := f.an) (x := ⟨v.tier, v.f, v.t, v.code, default⟩) rfl hi), trivial⟩
     show (bif j.beq 1 then _ else _) = _
     rw [beq_f hj]
     rfl
def NN (a n : Nat) : Prop := (a = 4 ∧ n = 5) ∨ (a = 6 ∧ n = 5) ∨ (a = 4 ∧ n = 6)
theorem fstep_fn {f : Fl} {M Q : Nat} (F : FlI f M Q) (hM : M ≤ 1000) (hQ : Q ≤ 100000) {w : Nat} (hw : w ≤ 6) : ∃ a n, NN a n ∧ FnM Tryz.prog 65 6 [.bptr 0 0, .int .i64 w] f.objs (.int .i64 (stepF f w).2) ((stepF f w).1.objN a n) 7 := by
 have : w = 0 ∨ w = 1 ∨ w = 2 ∨ w = 3 ∨ w = 4 ∨ w = 5 ∨ w = 6 := by omega
 rcases this with rfl | rfl | rfl | rfl | rfl | rfl | rfl
 · exact ⟨4, 5, .inl ⟨rfl, rfl⟩, fstep0_fn F hM⟩
 · exact ⟨4, 5, .inl ⟨rfl, rfl⟩, fstep1_fn F hM⟩
 · refine ⟨_, 5, ?_, fstep2_fn F hM⟩
   split
   · exact .inr (.inl ⟨rfl, rfl⟩)
   · exact .inl ⟨rfl, rfl⟩
 · refine ⟨_, 5, ?_, fstep3_fn F hM⟩
   split
   · exact .inr (.inl ⟨rfl, rfl⟩)
   · exact .inl ⟨rfl, rfl⟩
 · refine ⟨4, _, ?_, fstep4_fn F hM hQ⟩
   split
   · exact .inr (.inr ⟨rfl, rfl⟩)
   · exact .inl ⟨rfl, rfl⟩
 · refine ⟨4, _, ?_, fstep5_fn F hM hQ⟩
   split
   · exact .inr (.inr ⟨rfl, rfl⟩)
   · exact .inl ⟨rfl, rfl⟩
 · exact ⟨4, 5, .inl ⟨rfl, rfl⟩, fstep6_fn F hM⟩

end Go.Proofs.YtbhgcfhbhjcjhaaGreatDoor
