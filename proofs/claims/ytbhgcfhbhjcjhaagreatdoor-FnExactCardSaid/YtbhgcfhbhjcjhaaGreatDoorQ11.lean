/- Contracts of functions that the claim reaches, and the plain law of what they compute; each theorem bears its own conditions. -/
import Derived.Test.YtbhgcfhbhjcjhaaGreatDoorQ1
import Derived.Test.YtbhgcfhbhjcjhaaGreatDoorQ3
import Derived.Test.YtbhgcfhbhjcjhaaGreatDoorV52
import Derived.Test.YtbhgcfhbhjcjhaaGreatDoorQ4
import Derived.Test.YtbhgcfhbhjcjhaaGreatDoorQ10
import Derived.Test.YtbhgcfhbhjcjhaaGreatDoorQ8
set_option linter.unusedVariables false
set_option linter.constructorNameAsVariable false
set_option linter.unusedSimpArgs false
set_option maxRecDepth 20000
namespace Go.Proofs.YtbhgcfhbhjcjhaaGreatDoor
open Go Go.Vw
def eqS {α : Type} [Inhabited α] (q : α → α → Bool) (L M : List α) : Bool := decide ((L.length : Int) = M.length) && allN L.length fun i => q (ix L i) (ix M i)
theorem eqS_len {α : Type} [Inhabited α] {q : α → α → Bool} {L M : List α} (h : ¬ (L.length : Int) = M.length) : eqS q L M = false := by
 unfold eqS; rw [decide_eq_false h]; rfl
theorem eqS_no {α : Type} [Inhabited α] {q : α → α → Bool} {L M : List α} {i : Nat} (hi : i < L.length) (h : q (ix L i) (ix M i) = false) : eqS q L M = false := by
 unfold eqS; rw [allN_no (q := fun i => q (ix L i) (ix M i)) hi h]; simp
theorem eqS_yes {α : Type} [Inhabited α] {q : α → α → Bool} {L M : List α} (hl : (L.length : Int) = M.length) (h : ∀ j, j < L.length → q (ix L j) (ix M j) = true) : eqS q L M = true := by
 unfold eqS; rw [decide_eq_true hl, allN_iff.2 h]; rfl
def Smp.eqb (x y : Smp) : Bool := decide (x.t = y.t) && (decide (x.v = y.v) && true)
def Bk.eqb (x y : Bk) : Bool := decide (x.t = y.t) && ((Ag.eqb x.a y.a) && true)
theorem EqualSmp2_fn (L M : List Smp) (hL : L.length ≤ 1048576) (hM : M.length ≤ 1048576) : VFn Tryz.prog 104 [smps L, smps M] (.bool (eqS Smp.eqb L M)) := by
 by_cases hl : (L.length : Int) = M.length
 · refine VFn.introC Tryz.call104 Tryz.func104 rfl rfl ?_
   refine Grd.intro (fun g => ?_) (fun _ => ?_)
   · exfalso; simp [hl] at g
   refine LoopC.mk (fun i : Nat => i ≤ L.length ∧ ∀ j, j < i → Smp.eqb (ix L j) (ix M j) = true) (fun i => [(0, smps L), (1, smps M), (12, .int .i64 L.length), (13, .int .i64 i)]) (fun i => []) 0 (fun i => L.length - i) 0
    ⟨⟨Nat.zero_le _, fun j hj => absurd hj (Nat.not_lt_zero j)⟩, [], rfl, rfl, ⟨AVle.refl _, AVle.refl _, AVle.refl _, AVle.refl _, trivial⟩, trivial⟩ ?_
   intro i hi
   obtain ⟨hi, h0⟩ := hi
   refine Grd.intro (fun h2 => ?_) (fun h2 => ?_)
   · have hin : i < L.length := by have := of_decide_eq_true h2; omega
     refine DrawC.mq 8 rfl (by kernel_rfl) ?_
     refine And.intro (by omega) ?_
     refine And.intro (by omega) ?_
     refine And.intro (by kernel_rfl) ?_
     refine Grd.intro (fun g => ?_) (fun g => ?_)
     · have g : (!Smp.eqb (ix L i) (ix M i)) = true := g
       rw [eqS_no hin (by simpa using g)]
       exact And.intro trivial (AVle.refl _)
     · have g : (!Smp.eqb (ix L i) (ix M i)) = false := g
       have g : Smp.eqb (ix L i) (ix M i) = true := by simpa using g
       refine And.intro (inI64 (by omega) (by omega)) ?_
       exact ⟨i + 1, ⟨hin, fun j hj => by
        rcases Nat.lt_or_ge j i with h' | h'
        · exact h0 j h'
        · rw [show j = i by omega]; exact g⟩, by omega, [], rfl, rfl, ⟨AVle.refl _, AVle.refl _, AVle.refl _, AVle.of_eq (congrArg (AV.int .i64) (by simp)), trivial⟩, trivial⟩
   · have : i = L.length := by have := of_decide_eq_false h2; omega
     subst this
     rw [eqS_yes hl h0]
     exact And.intro trivial (AVle.refl _)
 · rw [eqS_len hl]
   refine VFn.introC Tryz.call104 Tryz.func104 rfl rfl ?_
   refine Grd.intro (fun g => ?_) (fun g => ?_)
   · exact And.intro trivial (AVle.refl _)
   · exfalso; simp [hl] at g
theorem EqualBk2_fn (L M : List Bk) (hL : L.length ≤ 1048576) (hM : M.length ≤ 1048576) : VFn Tryz.prog 106 [bks L, bks M] (.bool (eqS Bk.eqb L M)) := by
 by_cases hl : (L.length : Int) = M.length
 · refine VFn.introC Tryz.call106 Tryz.func106 rfl rfl ?_
   refine Grd.intro (fun g => ?_) (fun _ => ?_)
   · exfalso; simp [hl] at g
   refine LoopC.mk (fun i : Nat => i ≤ L.length ∧ ∀ j, j < i → Bk.eqb (ix L j) (ix M j) = true) (fun i => [(0, bks L), (1, bks M), (12, .int .i64 L.length), (13, .int .i64 i)]) (fun i => []) 0 (fun i => L.length - i) 0
    ⟨⟨Nat.zero_le _, fun j hj => absurd hj (Nat.not_lt_zero j)⟩, [], rfl, rfl, ⟨AVle.refl _, AVle.refl _, AVle.refl _, AVle.refl _, trivial⟩, trivial⟩ ?_
   intro i hi
   obtain ⟨hi, h0⟩ := hi
   refine Grd.intro (fun h2 => ?_) (fun h2 => ?_)
   · have hin : i < L.length := by have := of_decide_eq_true h2; omega
     refine DrawC.mq 8 rfl (by kernel_rfl) ?_
     refine And.intro (by omega) ?_
     refine And.intro (by omega) ?_
     refine And.intro (by kernel_rfl) ?_
     refine Grd.intro (fun g => ?_) (fun g => ?_)
     · have g : (!Bk.eqb (ix L i) (ix M i)) = true := g
       rw [eqS_no hin (by simpa using g)]
       exact And.intro trivial (AVle.refl _)
     · have g : (!Bk.eqb (ix L i) (ix M i)) = false := g
       have g : Bk.eqb (ix L i) (ix M i) = true := by simpa using g
       refine And.intro (inI64 (by omega) (by omega)) ?_
       exact ⟨i + 1, ⟨hin, fun j hj => by
        rcases Nat.lt_or_ge j i with h' | h'
        · exact h0 j h'
        · rw [show j = i by omega]; exact g⟩, by omega, [], rfl, rfl, ⟨AVle.refl _, AVle.refl _, AVle.refl _, AVle.of_eq (congrArg (AV.int .i64) (by simp)), trivial⟩, trivial⟩
   · have : i = L.length := by have := of_decide_eq_false h2; omega
     subst this
     rw [eqS_yes hl h0]
     exact And.intro trivial (AVle.refl _)
 · rw [eqS_len hl]
   refine VFn.introC Tryz.call106 Tryz.func106 rfl rfl ?_
   refine Grd.intro (fun g => ?_) (fun g => ?_)
   · exact And.intro trivial (AVle.refl _)
   · exfalso; simp [hl] at g
def bkt (f : Int) (a : Ag) : List Bk := if a.c = 0 then [] else [⟨f, a⟩]
theorem bucketOf_fn (f : Int) (a : Ag) : VFn Tryz.prog 107 [.int .i64 f, a.av] (bks (bkt f a)) := by
 obtain ⟨R, hR⟩ : ∃ R, R = bkt f a := ⟨_, rfl⟩
 rw [← hR]
 refine VFn.introC Tryz.call107 Tryz.func107 rfl rfl ?_
 refine Grd.intro (fun g => ?_) (fun g => ?_)
 · rw [bkt, if_pos (show a.c = 0 from of_decide_eq_true g)] at hR
   subst hR
   exact And.intro trivial (AVle.nilsl _ _ rfl)
 · rw [bkt, if_neg (show ¬ a.c = 0 from of_decide_eq_false g)] at hR
   subst hR
   exact And.intro trivial (AVle.sl1 rfl)
def sdat (s : Sto) (k : List UInt8) : List UInt8 := if s.has k = true then (s.get k).data else []
def truE (s : Sto) (e : En) (ac : List Smp) : Bool :=
 s.has e.key && (if e.tier = 0 then (rdOk (sdat s e.key) && eqS Smp.eqb (rdV (sdat s e.key)) (smpsIn ac e.f e.t)) else (rbOk (sdat s e.key) && eqS Bk.eqb (rbV (sdat s e.key)) (bkt e.f (aggL (smpsIn ac e.f e.t)))))
theorem sdat_len {s : Sto} (hs : s.ok = true) (k : List UInt8) : (sdat s k).length ≤ 600 := by
 unfold sdat
 split
 · rename_i h
   have hp := (hasK_at h).1
   have h3 := (Sto.ok_at hs).2.2 _ hp
   simp only [Sto.eOK, Bool.and_eq_true, decide_eq_true_eq] at h3
   exact h3.2.2.1
 · simp
theorem getD_fn (s : Sto) (hs : s.ok = true) (k : List UInt8) : VFn Tryz.prog 102 [s.av, .str (B k)] (.tup [.str (B (sdat s k)), .bool (s.has k)]) := by
 have c := get_fn s hs k
 unfold sdat
 cases h : s.has k
 · rw [h, if_neg (by simp)] at c
   rw [if_neg (by simp)]
   exact c
 · rw [h, if_pos rfl] at c
   rw [if_pos rfl]
   exact c
theorem bkt_len (f : Int) (a : Ag) : (bkt f a).length ≤ 1 := by
 unfold bkt; split <;> simp
theorem entryTrue_fn (s : Sto) (hs : s.ok = true) (e : En) (he : inI .i64 (e.t - 1)) (ac : List Smp) (hac : smpsOK ac = true) : VFn Tryz.prog 57 [s.av, e.av, smps ac] (.bool (truE s e ac)) := by
 obtain ⟨a1, a2⟩ := smps_bd hac
 have hl := smpsIn_len ac e.f e.t
 have c1 := getD_fn s hs e.key
 have hD := sdat_len hs e.key
 have c2 := samplesIn_fn ac (by omega) e.f e.t he
 have c3 := aggOf_fn (smpsIn ac e.f e.t) (by omega) (fun x hx => a2 x (smpsIn_mem hx))
 have c4 := bucketOf_fn e.f (aggL (smpsIn ac e.f e.t))
 have hb := bkt_len e.f (aggL (smpsIn ac e.f e.t))
 unfold truE
 generalize sdat s e.key = D at c1 hD ⊢
 generalize s.has e.key = h at c1 ⊢
 generalize smpsIn ac e.f e.t = W at c2 c3 c4 hl hb ⊢
 generalize aggL W = A at c3 c4 hb ⊢
 generalize bkt e.f A = K at c4 hb ⊢
 by_cases ht : e.tier = 0
 · rw [if_pos ht]
   cases hr : rdOk D
   · have cr := readSamples_gen D (by omega) (.tup [.any, .bool false]) (fun h => by rw [hr] at h; cases h) (fun _ => rfl)
     cases h
     all_goals
      refine VFn.introC Tryz.call57 Tryz.func57 rfl rfl ?_
      conv => whnf
      refine CallC.sca _ (c1) ?_ ?_
      · exact rfl
      conv => whnf
      refine CallC.nl _ (c2) ?_ ?_
      · exact rfl
      refine Grd.intro (fun g => ?_) (fun g => absurd ht (of_decide_eq_false g))
      conv => whnf
      refine CallC.nl _ (cr) ?_ ?_
      · exact rfl
      exact And.intro trivial (AVle.refl _)
   · have cr := readSamples_gen D (by omega) (.tup [smps (rdV D), .bool true]) (fun _ => rfl) (fun h => by rw [hr] at h; cases h)
     have hrl : (rdV D).length ≤ 1048576 := by
      simp only [rdOk, Bool.and_eq_true, decide_eq_true_eq] at hr
      unfold rdV; rw [List.length_map]; omega
     have c5 := EqualSmp2_fn (rdV D) W hrl (by omega)
     cases h
     · refine VFn.introC Tryz.call57 Tryz.func57 rfl rfl ?_
       conv => whnf
       refine CallC.sca _ (c1) ?_ ?_
       · exact rfl
       conv => whnf
       refine CallC.nl _ (c2) ?_ ?_
       · exact rfl
       refine Grd.intro (fun g => ?_) (fun g => absurd ht (of_decide_eq_false g))
       conv => whnf
       refine CallC.nl _ (cr) ?_ ?_
       · exact rfl
       exact And.intro trivial (AVle.refl _)
     · refine VFn.introC Tryz.call57 Tryz.func57 rfl rfl ?_
       conv => whnf
       refine CallC.sca _ (c1) ?_ ?_
       · exact rfl
       conv => whnf
       refine CallC.nl _ (c2) ?_ ?_
       · exact rfl
       refine Grd.intro (fun g => ?_) (fun g => absurd ht (of_decide_eq_false g))
       conv => whnf
       refine CallC.nl _ (cr) ?_ ?_
       · exact rfl
       conv => whnf
       refine CallC.sca _ (c5) ?_ ?_
       · exact rfl
       exact And.intro trivial (AVle.refl _)
 · rw [if_neg ht]
   cases hr : rbOk D
   · have cr := readBuckets_gen D (by omega) (.tup [.any, .bool false]) (fun h => by rw [hr] at h; cases h) (fun _ => rfl)
     cases h
     all_goals
      refine VFn.introC Tryz.call57 Tryz.func57 rfl rfl ?_
      conv => whnf
      refine CallC.sca _ (c1) ?_ ?_
      · exact rfl
      conv => whnf
      refine CallC.nl _ (c2) ?_ ?_
      · exact rfl
      refine Grd.intro (fun g => absurd (of_decide_eq_true g) ht) (fun g => ?_)
      conv => whnf
      refine CallC.nl _ (cr) ?_ ?_
      · exact rfl
      refine DrawC.mq 14 rfl (by kernel_rfl) ?_
      exact And.intro trivial (AVle.refl _)
   · have cr := readBuckets_gen D (by omega) (.tup [bks (rbV D), .bool true]) (fun _ => rfl) (fun h => by rw [hr] at h; cases h)
     have hrl : (rbV D).length ≤ 1048576 := by
      simp only [rbOk, Bool.and_eq_true] at hr
      have := bks_8 hr.2
      unfold rbV; omega
     have c5 := EqualBk2_fn (rbV D) K hrl (by omega)
     cases h
     · refine VFn.introC Tryz.call57 Tryz.func57 rfl rfl ?_
       conv => whnf
       refine CallC.sca _ (c1) ?_ ?_
       · exact rfl
       conv => whnf
       refine CallC.nl _ (c2) ?_ ?_
       · exact rfl
       refine Grd.intro (fun g => absurd (of_decide_eq_true g) ht) (fun g => ?_)
       conv => whnf
       refine CallC.nl _ (cr) ?_ ?_
       · exact rfl
       refine DrawC.mq 14 rfl (by kernel_rfl) ?_
       exact And.intro trivial (AVle.refl _)
     · refine VFn.introC Tryz.call57 Tryz.func57 rfl rfl ?_
       conv => whnf
       refine CallC.sca _ (c1) ?_ ?_
       · exact rfl
       conv => whnf
       refine CallC.nl _ (c2) ?_ ?_
       · exact rfl
       refine Grd.intro (fun g => absurd (of_decide_eq_true g) ht) (fun g => ?_)
       conv => whnf
       refine CallC.nl _ (cr) ?_ ?_
       · exact rfl
       refine DrawC.mq 14 rfl (by kernel_rfl) ?_
       refine PCallQ.sca _ (c3) rfl ?_
       refine PCallQ.nl _ (c4) rfl ?_
       refine PCallQ.sca _ (c5) rfl ?_
       exact And.intro trivial (AVle.refl _)
structure KnS (s : Sta) (ac : List Smp) (e : En) : Prop where
 ok : e.ok = true
 th : e.t ≤ s.hi e.tier
 t0 : e.tier = 0 → (1 ≤ kN e.key ∧ kN e.key ≤ s.seq) ∧ (smpsIn ac e.f e.t).length ≤ 8
 t1 : e.tier ≠ 0 → e.f = kN e.key ∧ e.t = e.f + wd e.tier ∧ e.f % wd e.tier = 0
structure KnE (x : Sto) (s : Sta) (ac : List Smp) (e : En) : Prop where
 st : KnS s ac e
 dt : e.tier = 0 → x.has e.key = true → (x.get e.key).data = smpsText (smpsIn ac e.f e.t)
def datK (ac : List Smp) (k : List UInt8) : List UInt8 := bksText (bkt (kN k) (agI ac (kN k) (kN k + wd (kT k))))
structure LogI (s : Sta) : Prop where
 h10 : s.h1 ≤ s.h0
 h21 : s.h2 ≤ s.h1
 l01 : s.l0 ≤ s.h1
 l12 : s.l1 ≤ s.h2
 a1 : s.h1 % 5 = 0
 a2 : s.h2 % 20 = 0
 nn : 0 ≤ s.h2 ∧ s.h0 ≤ 100000
 ts : ∀ t ∈ s.ts, (kT t.key = 0 → kN t.key ≤ s.seq) ∧ (kT t.key ≠ 0 → kN t.key < s.hi (kT t.key))
structure StI (x : Sto) (n : Nat) (s : Sta) (ac : List Smp) : Prop where
 lg : LogX x n s
 li : LogI s
 es : ∀ e ∈ s.es, KnE x s ac e ∧ x.has e.key = true
 dat : ∀ k, x.has k = true → kOk k = true → kT k ≠ 0 → (x.get k).data = datK ac k ∧ kN k + wd (kT k) ≤ s.h0
 acok : smpsOK ac = true
 ach : ∀ a ∈ ac, a.t < s.h0
structure JobI (s : Sta) (tok : Int) (j : Rc) : Prop where
 tier : j.tier = 1 ∨ j.tier = 2
 f0 : 0 ≤ j.f
 t : j.t = j.f + wd j.tier
 th : j.t ≤ s.h0
 fh : j.f ≤ s.hi j.tier
 key : kOk j.key = true ∧ kT j.key = j.tier ∧ kN j.key = j.f ∧ kW j.key = tok
structure InI (x : Sto) (s : Sta) (ac : List Smp) (a b : Int) (e : En) : Prop where
 kn : KnE x s ac e
 al : e.tier ≠ 0 → a ≤ e.f ∧ e.t ≤ b
structure WkI (x : Sto) (s : Sta) (ac : List Smp) (w : Wk) : Prop where
 ok : w.ok = true
 tok : 3 ≤ w.ph → w.tok ≤ s.fence
 job : (w.ph = 4 ∨ w.ph = 5 ∨ w.ph = 6) → w.job.k = 3 → JobI s w.tok w.job
 p4 : w.ph = 4 → gfold ac w.job.f w.job.t w.got w.ins = agI ac w.job.f w.job.t ∧ ∀ e ∈ w.ins, InI x s ac w.job.f w.job.t e
 p5 : w.ph = 5 → w.got = agI ac w.job.f w.job.t
 p6 : w.ph = 6 → w.job.k = 3 → s.fence = w.tok → w.job.f = s.hi w.job.tier → x.has w.job.key = true
structure IgI (x : Sto) (s : Sta) (g : Ig) : Prop where
 ok : g.ok = true
 sq : g.put = true → g.seq ≤ s.seq + 1
 at_ : g.put = true → g.seq = s.seq + 1 → g.f = s.h0 ∧ x.has (keyB 0 g.seq.toNat g.id.toNat) = true ∧ (x.get (keyB 0 g.seq.toNat g.id.toNat)).data = smpsText g.b
structure RdI (x : Sto) (s : Sta) (ac : List Smp) (C : Int) (r : Rr) : Prop where
 ok : r.ok = true
 pin : (r.ph = 2 ∨ r.ph = 3) → x.has (pinK r.id) = true ∧ (x.get (pinK r.id)).data = Lib.itoa r.til
 p0 : (r.ph = 1 ∨ r.ph = 2) → r.got = default
 p3 : r.ph = 3 → r.t ≤ s.h0 ∧ gfold ac r.f r.t r.got r.left = agI ac r.f r.t ∧ ∀ e ∈ r.left, InI x s ac r.f r.t e
 lv : r.ph = 3 → C ≤ r.til + 3 → ∀ e ∈ r.left, x.has e.key = true ∧ e.key ∈ s.keys
 p4 : r.ph = 4 → (r.code ≠ 5 ∧ r.code ≠ 17) ∧ (r.code = 0 → r.t ≤ s.h0 ∧ r.got = agI ac r.f r.t)
structure AnI (s : Sta) (ac : List Smp) (a : An) : Prop where
 ok : a.ok = true
 c : a.code ≠ 5 ∧ a.code ≠ 17
 z : a.code = 0 → a.t ≤ s.h0 ∧ a.a = agI ac a.f a.t
 nz : a.code ≠ 0 → a.a = default
structure Gr (me : Int) (x : Sto) (s : Sta) (ac : List Smp) (y : Sto) (s' : Sta) (ac' : List Smp) : Prop where
 seq : s.seq ≤ s'.seq
 fen : s.fence ≤ s'.fence
 hi : ∀ k, s.hi k ≤ s'.hi k
 ac : ∃ b, ac' = ac ++ b ∧ ∀ a ∈ b, s.h0 ≤ a.t
 d0 : ∀ k, kOk k = true → kT k = 0 → kN k ≤ s.seq → y.has k = true → x.has k = true ∧ (y.get k).data = (x.get k).data
 d1 : ∀ k, kOk k = true → kT k ≠ 0 → kW k = s'.fence → s.fence = s'.fence → kN k = s'.hi (kT k) → x.has k = true → y.has k = true
 d2 : s'.seq = s.seq → s'.h0 = s.h0 ∧ ∀ i : Nat, (i : Int) ≠ me → i ≤ 9 → x.has (keyB 0 (s.seq + 1).toNat i) = true → y.has (keyB 0 (s.seq + 1).toNat i) = true ∧ (y.get (keyB 0 (s.seq + 1).toNat i)).data = (x.get (keyB 0 (s.seq + 1).toNat i)).data
 d3 : ∀ i : Int, (0 ≤ i ∧ i ≤ 9) → i ≠ me → x.has (pinK i) = true → y.has (pinK i) = true ∧ (y.get (pinK i)).data = (x.get (pinK i)).data
def Kept (C : Int) (x : Sto) (s : Sta) (y : Sto) (s' : Sta) : Prop := ∀ i til : Int, (0 ≤ i ∧ i ≤ 9) → (0 ≤ til ∧ til ≤ 200000) → x.has (pinK i) = true → (x.get (pinK i)).data = Lib.itoa til → C ≤ til + 3 → ∀ k ∈ s.keys, kOk k = true → x.has k = true → y.has k = true ∧ k ∈ s'.keys
theorem hi_le {s : Sta} (h : LogI s) (k : Int) : s.hi k ≤ s.h0 := by
 have h1 := h.h10
 have h2 := h.h21
 unfold Sta.hi
 split
 · omega
 · split <;> omega
section grow
variable {me : Int} {x y : Sto} {s s' : Sta} {ac ac' : List Smp}
theorem Gr.agI (G : Gr me x s ac y s' ac') {f t : Int} (ht : t ≤ s.h0) : Go.Proofs.YtbhgcfhbhjcjhaaGreatDoor.agI ac' f t = Go.Proofs.YtbhgcfhbhjcjhaaGreatDoor.agI ac f t := by
 obtain ⟨b, rfl, hb⟩ := G.ac
 unfold Go.Proofs.YtbhgcfhbhjcjhaaGreatDoor.agI
 rw [in_later hb ht]
theorem Gr.h0 (G : Gr me x s ac y s' ac') : s.h0 ≤ s'.h0 := G.hi 0
theorem Gr.ins (G : Gr me x s ac y s' ac') {f t : Int} (ht : t ≤ s.h0) : smpsIn ac' f t = smpsIn ac f t := by
 obtain ⟨b, rfl, hb⟩ := G.ac
 exact in_later hb ht
theorem KnS.grow (G : Gr me x s ac y s' ac') (hl : LogI s) {e : En} (h : KnS s ac e) : KnS s' ac' e := by
 have hh := hi_le hl e.tier
 have ht := h.th
 refine ⟨h.ok, Int.le_trans h.th (G.hi _), fun h0 => ?_, h.t1⟩
 obtain ⟨⟨a1, a2⟩, a3⟩ := h.t0 h0
 have := G.seq
 rw [G.ins (by omega)]
 exact ⟨⟨a1, by omega⟩, a3⟩
theorem en_key {e : En} (h : e.ok = true) : kOk e.key = true ∧ kT e.key = e.tier ∧ (0 ≤ e.f ∧ e.f < e.t ∧ e.t ≤ 100000) := by
 unfold En.ok at h
 simp only [Bool.and_eq_true, decide_eq_true_eq, isRange, within] at h
 exact ⟨h.1, h.2.1, by omega⟩
theorem KnE.grow (G : Gr me x s ac y s' ac') (hl : LogI s) {e : En} (h : KnE x s ac e) : KnE y s' ac' e := by
 have hh := hi_le hl e.tier
 have ht := h.st.th
 refine ⟨h.st.grow G hl, fun h0 hy => ?_⟩
 obtain ⟨k1, k2, _⟩ := en_key h.st.ok
 obtain ⟨a1, a2⟩ := G.d0 e.key k1 (by omega) (h.st.t0 h0).1.2 hy
 rw [a2, G.ins (by omega)]
 exact h.dt h0 a1
theorem valE_grow (G : Gr me x s ac y s' ac') (hl : LogI s) {a b : Int} {e : En} (h : KnS s ac e) : valE ac' a b e = valE ac a b e := by
 have hh := hi_le hl e.tier
 have ht := h.th
 unfold valE
 refine G.agI ?_
 split <;> omega
theorem gfold_grow (G : Gr me x s ac y s' ac') (hl : LogI s) {a b : Int} : ∀ (L : List En) (g : Ag), (∀ e ∈ L, KnS s ac e) → gfold ac' a b g L = gfold ac a b g L
 | [], _, _ => rfl
 | e :: r, g, h => by
   show gfold ac' a b (g.mrg (valE ac' a b e)) r = gfold ac a b (g.mrg (valE ac a b e)) r
   rw [valE_grow G hl (h e (by simp))]
   exact gfold_grow G hl r _ fun y hy => h y (by simp [hy])
theorem JobI.grow (G : Gr me x s ac y s' ac') {tok : Int} {j : Rc} (h : JobI s tok j) : JobI s' tok j :=
 ⟨h.tier, h.f0, h.t, Int.le_trans h.th G.h0, Int.le_trans h.fh (G.hi _), h.key⟩
theorem WkI.grow (G : Gr me x s ac y s' ac') (hl : LogI s) {w : Wk} (h : WkI x s ac w) : WkI y s' ac' w := by
 have h3 : (w.ph = 4 ∨ w.ph = 5) → w.job.k = 3 := fun h4 => by
  have := h.ok
  unfold Wk.ok at this
  simp only [Bool.and_eq_true] at this
  have h5 := this.2.2.2.2.1
  have h6 : within w.ph 4 6 = true := by simp [within]; omega
  rw [h6] at h5
  simp only [Bool.not_true, Bool.false_or, Bool.and_eq_true, Bool.or_eq_true, decide_eq_true_eq] at h5
  obtain ⟨_, _, h7 | h7⟩ := h5
  · exact h7
  · omega
 refine ⟨h.ok, fun h4 => Int.le_trans (h.tok h4) G.fen, fun h4 h5 => (h.job h4 h5).grow G, fun h4 => ?_, fun h4 => ?_, fun h4 h5 h6 h7 => ?_⟩
 · have J := h.job (.inl h4) (h3 (.inl h4))
   obtain ⟨a1, a2⟩ := h.p4 h4
   rw [gfold_grow G hl _ _ fun e he => (a2 e he).kn.st, G.agI J.th]
   exact ⟨a1, fun e he => ⟨(a2 e he).kn.grow G hl, (a2 e he).al⟩⟩
 · have J := h.job (.inr (.inl h4)) (h3 (.inr h4))
   rw [G.agI J.th]
   exact h.p5 h4
 · have J := h.job (.inr (.inr h4)) h5
   have ht := h.tok (by omega)
   have hf := G.fen
   have hh := G.hi w.job.tier
   have fh := J.fh
   obtain ⟨k1, k2, k3, k4⟩ := J.key
   have tn : w.job.tier ≠ 0 := by have := J.tier; omega
   refine G.d1 w.job.key k1 (by omega) (by omega) (by omega) (by rw [k2, k3]; exact h7) (h.p6 h4 h5 (by omega) (by omega))
theorem IgI.grow (G : Gr me x s ac y s' ac') {g : Ig} (h : IgI x s g) (hn : g.id ≠ me) (hid : 0 ≤ g.id ∧ g.id ≤ 9) : IgI y s' g := by
 have hq := G.seq
 refine ⟨h.ok, fun hp => by have := h.sq hp; omega, fun hp he => ?_⟩
 have h1 := h.sq hp
 have h2 : s'.seq = s.seq := by omega
 obtain ⟨a1, a2⟩ := G.d2 h2
 obtain ⟨b1, b2, b3⟩ := h.at_ hp (by omega)
 have e1 : (s.seq + 1).toNat = g.seq.toNat := by omega
 have := a2 g.id.toNat (by omega) (by omega)
 rw [e1] at this
 obtain ⟨c1, c2⟩ := this b2
 exact ⟨by rw [a1]; exact b1, c1, by rw [c2]; exact b3⟩
theorem RdI.grow {C C' : Int} (G : Gr me x s ac y s' ac') (hC : C ≤ C') (K : Kept C x s y s') (hl : LogI s) {r : Rr} (h : RdI x s ac C r) (hn : r.id ≠ me) : RdI y s' ac' C' r := by
 obtain ⟨f1, f2, f3, f4, f5⟩ := rr_facts h.ok
 refine ⟨h.ok, fun hp => ?_, h.p0, fun hp => ?_, fun hp hc e he => ?_, fun hp => ?_⟩
 · obtain ⟨a1, a2⟩ := h.pin hp
   obtain ⟨b1, b2⟩ := G.d3 r.id f1 hn a1
   exact ⟨b1, by rw [b2]; exact a2⟩
 · obtain ⟨a1, a2, a3⟩ := h.p3 hp
   rw [gfold_grow G hl _ _ fun e he => (a3 e he).kn.st, G.agI a1]
   exact ⟨Int.le_trans a1 G.h0, a2, fun e he => ⟨(a3 e he).kn.grow G hl, (a3 e he).al⟩⟩
 · obtain ⟨a1, a2⟩ := h.pin (.inr hp)
   obtain ⟨b1, b2⟩ := h.lv hp (by omega) e he
   have := ((h.p3 hp).2.2 e he).kn.st.ok
   exact K r.id r.til f1 f4 a1 a2 (by omega) e.key b2 (en_key this).1 b1
 · obtain ⟨a1, a2⟩ := h.p4 hp
   refine ⟨a1, fun hc => ?_⟩
   obtain ⟨b1, b2⟩ := a2 hc
   rw [G.agI b1]
   exact ⟨Int.le_trans b1 G.h0, b2⟩
theorem AnI.grow (G : Gr me x s ac y s' ac') {a : An} (h : AnI s ac a) : AnI s' ac' a := by
 refine ⟨h.ok, h.c, fun hc => ?_, h.nz⟩
 obtain ⟨b1, b2⟩ := h.z hc
 rw [G.agI b1]
 exact ⟨Int.le_trans b1 G.h0, b2⟩
end grow
theorem Gr.refl (me : Int) (x : Sto) (s : Sta) (ac : List Smp) : Gr me x s ac x s ac :=
 ⟨Int.le_refl _, Int.le_refl _, fun _ => Int.le_refl _, ⟨[], by simp, by simp⟩, fun _ _ _ _ h => ⟨h, rfl⟩, fun _ _ _ _ _ _ h => h, fun _ => ⟨rfl, fun _ _ _ h => ⟨h, rfl⟩⟩, fun _ _ _ h => ⟨h, rfl⟩⟩
theorem Kept.refl (C : Int) (x : Sto) (s : Sta) : Kept C x s x s := fun _ _ _ _ _ _ _ _ hk _ hx => ⟨hx, hk⟩
theorem key_of {k : List UInt8} (h : kOk k = true) : ∃ t n w : Nat, t ≤ 2 ∧ n ≤ 999999 ∧ w ≤ 999999 ∧ k = keyB t n w ∧ kT k = t ∧ kN k = n ∧ kW k = w := by
 unfold kOk at h
 cases hp : parseKey k with
 | none => rw [hp] at h; cases h
 | some q =>
   obtain ⟨t, n, w⟩ := q
   obtain ⟨e, a, b, c⟩ := key_parse hp
   refine ⟨t, n, w, a, b, c, e, ?_, ?_, ?_⟩
   · unfold kT; rw [hp]
   · unfold kN; rw [hp]
   · unfold kW; rw [hp]
theorem kOk_man (i : Int) : kOk (manK i) = false := by
 cases h : kOk (manK i) with
 | false => rfl
 | true =>
   obtain ⟨t, n, w, _, _, _, e, _⟩ := key_of h
   exact absurd e (man_ne_key i)
theorem pinK_pre (i : Int) : Lib.hasPrefix (pinK i) pinP = true := by
 unfold Lib.hasPrefix pinK pinP
 simp [List.isPrefixOf]
theorem kOk_pin (i : Int) : kOk (pinK i) = false := by
 cases h : kOk (pinK i) with
 | false => rfl
 | true =>
   obtain ⟨t, n, w, a, _, _, e, _⟩ := key_of h
   exact absurd e (pin_ne_key (pinK_pre i) a)
theorem kOk_lea : kOk leaK = false := by decide
theorem man_ne_pin (i j : Int) : manK i ≠ pinK j := fun e => pin_ne_man (pinK_pre j) i e.symm
theorem man_ne_lea (i : Int) : manK i ≠ leaK := fun e => by
 have h1 : (manK i).length = 10 := by simp [manK, six6]
 rw [e] at h1
 simp [leaK] at h1
theorem pin_ne_lea (i : Int) : pinK i ≠ leaK := fun e => by
 have := congrArg List.head? e
 simp [pinK, leaK] at this
theorem pinK_inj {i j : Int} (hi : 0 ≤ i ∧ i ≤ 9) (hj : 0 ≤ j ∧ j ≤ 9) (h : pinK i = pinK j) : i = j := by
 have := List.append_cancel_left h
 have h1 := (num_back (n := i) (by omega) (by omega)).2
 have h2 := (num_back (n := j) (by omega) (by omega)).2
 rw [this] at h1
 omega
theorem ne_of_kOk {k q : List UInt8} (h : kOk k = true) (h' : kOk q = false) : k ≠ q := fun e => by rw [e, h'] at h; cases h
section chg
variable {x y : Sto} {n : Nat} {s : Sta} {ac : List Smp}
theorem StI.named (I : StI x n s ac) {k : List UInt8} (h : k ∈ s.keys) : (kT k = 0 → kN k ≤ s.seq) ∧ (kT k ≠ 0 → kN k < s.hi (kT k)) := by
 unfold Sta.keys at h
 rcases List.mem_append.1 h with h | h
 · obtain ⟨e, he, rfl⟩ := List.mem_map.1 h
   obtain ⟨kn, _⟩ := I.es e he
   obtain ⟨k1, k2, k3⟩ := en_key kn.st.ok
   refine ⟨fun h0 => (kn.st.t0 (by omega)).1.2, fun h0 => ?_⟩
   have := kn.st.t1 (by omega)
   have ht := kn.st.th
   rw [k2]
   omega
 · obtain ⟨t, ht, rfl⟩ := List.mem_map.1 h
   exact I.li.ts t ht
theorem StI.seqN (I : StI x n s ac) : s.seq = (n : Int) := I.lg.seq
theorem StI.seqB (I : StI x n s ac) : 0 ≤ s.seq ∧ s.seq ≤ 300 := by
 have := I.lg.seq
 have := I.lg.le
 omega
theorem StI.other (I : StI x n s ac) {k : List UInt8} (S : Same x y k) (hy : y.ok = true) (hk : kOk k = false) (hm : ∀ i : Int, manK i ≠ k) : StI y n s ac := by
 have D : ∀ q, kOk q = true → y.has q = x.has q ∧ (x.has q = true → y.get q = x.get q) := fun q hq => S q (ne_of_kOk hq hk)
 refine ⟨I.lg.sameG hy fun i => S _ (hm i), I.li, fun e he => ?_, fun q hq h1 h2 => ?_, I.acok, I.ach⟩
 · obtain ⟨a, b⟩ := I.es e he
   obtain ⟨d1, d2⟩ := D e.key (en_key a.st.ok).1
   exact ⟨⟨a.st, fun h0 hh => by rw [d2 b]; exact a.dt h0 b⟩, d1.trans b⟩
 · obtain ⟨d1, d2⟩ := D q h1
   rw [d1] at hq
   rw [d2 hq]
   exact I.dat q hq h1 h2
theorem Gr.other (me : Int) (I : StI x n s ac) {k : List UInt8} (S : Same x y k) (hk : kOk k = false) (hp : ∀ i : Int, (0 ≤ i ∧ i ≤ 9) → i ≠ me → pinK i ≠ k) : Gr me x s ac y s ac := by
 have D : ∀ q, kOk q = true → y.has q = x.has q ∧ (x.has q = true → y.get q = x.get q) := fun q hq => S q (ne_of_kOk hq hk)
 have hb := I.seqB
 refine ⟨Int.le_refl _, Int.le_refl _, fun _ => Int.le_refl _, ⟨[], by simp, by simp⟩, fun q h1 h2 h3 h4 => ?_, fun q h1 h2 h3 h4 h5 h6 => (D q h1).1.trans h6, fun _ => ⟨rfl, fun i h1 h2 h3 => ?_⟩, fun i h1 h2 h3 => ?_⟩
 · obtain ⟨d1, d2⟩ := D q h1
   have := d1.symm.trans h4
   exact ⟨this, by rw [d2 this]⟩
 · obtain ⟨d1, d2⟩ := D _ (key_fields (t := 0) (n := (s.seq + 1).toNat) (w := i) (by omega) (by omega) (by omega)).1
   exact ⟨d1.trans h3, by rw [d2 h3]⟩
 · obtain ⟨d1, d2⟩ := S _ (hp i h1 h2)
   exact ⟨d1.trans h3, by rw [d2 h3]⟩
theorem Kept.other (C : Int) {k : List UInt8} (S : Same x y k) (hk : kOk k = false) : Kept C x s y s := fun i til h1 h2 h3 h4 h5 q h6 h7 h8 => ⟨(S q (ne_of_kOk h7 hk)).1.trans h8, h6⟩
theorem StI.raw (I : StI x n s ac) {id : Nat} (hid : id ≤ 9) {d : List UInt8} (hy : (x.set (keyB 0 (s.seq + 1).toNat id) d).ok = true) : StI (x.set (keyB 0 (s.seq + 1).toNat id) d) n s ac := by
 have hb := I.seqB
 obtain ⟨k1, k2, k3, k4⟩ := key_fields (t := 0) (n := (s.seq + 1).toNat) (w := id) (by omega) (by omega) (by omega)
 have S : Same x (x.set (keyB 0 (s.seq + 1).toNat id) d) (keyB 0 (s.seq + 1).toNat id) := fun q hq => set_ne I.lg.ok hy hq
 generalize x.set (keyB 0 (s.seq + 1).toNat id) d = y at *
 generalize keyB 0 (s.seq + 1).toNat id = K at *
 refine ⟨I.lg.sameG hy fun i => S _ (fun e => by rw [← e, kOk_man] at k1; cases k1), I.li, fun e he => ?_, fun q hq h1 h2 => ?_, I.acok, I.ach⟩
 · obtain ⟨a, b⟩ := I.es e he
   have hne : e.key ≠ K := fun h => by
    obtain ⟨e1, e2, _⟩ := en_key a.st.ok
    rw [h, k2] at e2
    have := (a.st.t0 e2.symm).1
    rw [h, k3] at this
    omega
   obtain ⟨d1, d2⟩ := S _ hne
   exact ⟨⟨a.st, fun h0 hh => by rw [d2 b]; exact a.dt h0 b⟩, d1.trans b⟩
 · obtain ⟨d1, d2⟩ := S q fun h => by rw [h, k2] at h2; exact h2 rfl
   rw [d1] at hq
   rw [d2 hq]
   exact I.dat q hq h1 h2
theorem Gr.raw (I : StI x n s ac) {id : Nat} (hid : id ≤ 9) {d : List UInt8} (hy : (x.set (keyB 0 (s.seq + 1).toNat id) d).ok = true) : Gr id x s ac (x.set (keyB 0 (s.seq + 1).toNat id) d) s ac := by
 have hb := I.seqB
 obtain ⟨k1, k2, k3, k4⟩ := key_fields (t := 0) (n := (s.seq + 1).toNat) (w := id) (by omega) (by omega) (by omega)
 have S : Same x (x.set (keyB 0 (s.seq + 1).toNat id) d) (keyB 0 (s.seq + 1).toNat id) := fun q hq => set_ne I.lg.ok hy hq
 have hki : ∀ i : Nat, (i : Int) ≠ id → i ≤ 9 → keyB 0 (s.seq + 1).toNat i ≠ keyB 0 (s.seq + 1).toNat id := fun i h1 h2 h => by
  have := (key_fields (t := 0) (n := (s.seq + 1).toNat) (w := i) (by omega) (by omega) (by omega)).2.2.2
  rw [h, k4] at this
  exact h1 this.symm
 generalize x.set (keyB 0 (s.seq + 1).toNat id) d = y at *
 generalize hK : keyB 0 (s.seq + 1).toNat id = K at *
 refine ⟨Int.le_refl _, Int.le_refl _, fun _ => Int.le_refl _, ⟨[], by simp, by simp⟩, fun q h1 h2 h3 h4 => ?_, fun q h1 h2 h3 h4 h5 h6 => ?_, fun _ => ⟨rfl, fun i h1 h2 h3 => ?_⟩, fun i h1 h2 h3 => ?_⟩
 · obtain ⟨d1, d2⟩ := S q fun h => by rw [h, k3] at h3; omega
   have := d1.symm.trans h4
   exact ⟨this, by rw [d2 this]⟩
 · exact (S q fun h => by rw [h, k2] at h2; exact h2 rfl).1.trans h6
 · obtain ⟨d1, d2⟩ := S _ (hki i h1 h2)
   exact ⟨d1.trans h3, by rw [d2 h3]⟩
 · obtain ⟨d1, d2⟩ := S _ (ne_of_kOk k1 (kOk_pin i)).symm
   exact ⟨d1.trans h3, by rw [d2 h3]⟩
theorem Kept.raw (C : Int) (I : StI x n s ac) {id : Nat} (hid : id ≤ 9) {d : List UInt8} (hy : (x.set (keyB 0 (s.seq + 1).toNat id) d).ok = true) : Kept C x s (x.set (keyB 0 (s.seq + 1).toNat id) d) s := fun i til h1 h2 h3 h4 h5 q h6 h7 h8 => by
 have hb := I.seqB
 obtain ⟨k1, k2, k3, k4⟩ := key_fields (t := 0) (n := (s.seq + 1).toNat) (w := id) (by omega) (by omega) (by omega)
 have hq := (I.named h6).1
 refine ⟨(set_ne I.lg.ok hy fun h => ?_).1.trans h8, h6⟩
 rw [h, k2, k3] at hq
 have := hq rfl
 omega
theorem StI.roll (I : StI x n s ac) {K : List UInt8} (hk : kOk K = true) (ht : kT K ≠ 0) (hno : x.has K = false) (hh : kN K + wd (kT K) ≤ s.h0) (hy : (x.set K (datK ac K)).ok = true) : StI (x.set K (datK ac K)) n s ac := by
 have S : Same x (x.set K (datK ac K)) K := fun q hq => set_ne I.lg.ok hy hq
 have c := set_at x K (datK ac K)
 generalize x.set K (datK ac K) = y at *
 refine ⟨I.lg.sameG hy fun i => S _ (fun e => by rw [← e, kOk_man] at hk; cases hk), I.li, fun e he => ?_, fun q hq h1 h2 => ?_, I.acok, I.ach⟩
 · obtain ⟨a, b⟩ := I.es e he
   obtain ⟨d1, d2⟩ := S e.key fun h => by rw [h, hno] at b; cases b
   exact ⟨⟨a.st, fun h0 hh => by rw [d2 b]; exact a.dt h0 b⟩, d1.trans b⟩
 · by_cases e : q = K
   · subst e
     rw [c.2]
     exact ⟨rfl, hh⟩
   · obtain ⟨d1, d2⟩ := S q e
     rw [d1] at hq
     rw [d2 hq]
     exact I.dat q hq h1 h2
theorem Gr.roll (me : Int) (I : StI x n s ac) {K d : List UInt8} (hk : kOk K = true) (ht : kT K ≠ 0) (hno : x.has K = false) (hy : (x.set K d).ok = true) : Gr me x s ac (x.set K d) s ac := by
 have hb := I.seqB
 have S : Same x (x.set K d) K := fun q hq => set_ne I.lg.ok hy hq
 generalize x.set K d = y at *
 refine ⟨Int.le_refl _, Int.le_refl _, fun _ => Int.le_refl _, ⟨[], by simp, by simp⟩, fun q h1 h2 h3 h4 => ?_, fun q h1 h2 h3 h4 h5 h6 => ?_, fun _ => ⟨rfl, fun i h1 h2 h3 => ?_⟩, fun i h1 h2 h3 => ?_⟩
 · obtain ⟨d1, d2⟩ := S q fun h => by rw [h] at h2; exact ht h2
   have := d1.symm.trans h4
   exact ⟨this, by rw [d2 this]⟩
 · exact (S q fun h => by rw [h, hno] at h6; cases h6).1.trans h6
 · obtain ⟨d1, d2⟩ := S (keyB 0 (s.seq + 1).toNat i) fun h => by rw [h, hno] at h3; cases h3
   exact ⟨d1.trans h3, by rw [d2 h3]⟩
 · obtain ⟨d1, d2⟩ := S _ (ne_of_kOk hk (kOk_pin i)).symm
   exact ⟨d1.trans h3, by rw [d2 h3]⟩
theorem Kept.roll (C : Int) (I : StI x n s ac) {K d : List UInt8} (hno : x.has K = false) (hy : (x.set K d).ok = true) : Kept C x s (x.set K d) s := fun i til h1 h2 h3 h4 h5 q h6 h7 h8 =>
 ⟨(set_ne I.lg.ok hy fun h => by rw [h, hno] at h8; cases h8).1.trans h8, h6⟩
theorem StI.del (I : StI x n s ac) {k : List UInt8} (hk : kOk k = true) (hes : ∀ e ∈ s.es, e.key ≠ k) : StI (wo x k) n s ac := by
 have S : Same x (wo x k) k := fun q hq => wo_ne I.lg.ok hq
 have hn := wo_has x k
 have hy := wo_ok I.lg.ok k
 generalize wo x k = y at *
 refine ⟨I.lg.sameG hy fun i => S _ (fun e => by rw [← e, kOk_man] at hk; cases hk), I.li, fun e he => ?_, fun q hq h1 h2 => ?_, I.acok, I.ach⟩
 · obtain ⟨a, b⟩ := I.es e he
   obtain ⟨d1, d2⟩ := S e.key (hes e he)
   exact ⟨⟨a.st, fun h0 hh => by rw [d2 b]; exact a.dt h0 b⟩, d1.trans b⟩
 · obtain ⟨d1, d2⟩ := S q fun h => by rw [h, hn] at hq; cases hq
   rw [d1] at hq
   rw [d2 hq]
   exact I.dat q hq h1 h2
theorem Gr.del (me : Int) (I : StI x n s ac) {k : List UInt8} (hk : kOk k = true) (h0 : kT k = 0 → kN k ≤ s.seq) (h1 : kT k ≠ 0 → kW k < s.fence ∨ kN k < s.hi (kT k)) : Gr me x s ac (wo x k) s ac := by
 have hb := I.seqB
 have S : Same x (wo x k) k := fun q hq => wo_ne I.lg.ok hq
 have hn := wo_has x k
 generalize wo x k = y at *
 refine ⟨Int.le_refl _, Int.le_refl _, fun _ => Int.le_refl _, ⟨[], by simp, by simp⟩, fun q h1 h2 h3 h4 => ?_, fun q g1 g2 g3 g4 g5 g6 => ?_, fun _ => ⟨rfl, fun i g1 g2 g3 => ?_⟩, fun i g1 g2 g3 => ?_⟩
 · obtain ⟨d1, d2⟩ := S q fun h => by rw [h, hn] at h4; cases h4
   have := d1.symm.trans h4
   exact ⟨this, by rw [d2 this]⟩
 · refine (S q fun h => ?_).1.trans g6
   rw [h] at g2 g3 g5
   rcases h1 g2 with h1 | h1 <;> omega
 · obtain ⟨k1, k2, k3, k4⟩ := key_fields (t := 0) (n := (s.seq + 1).toNat) (w := i) (by omega) (by omega) (by omega)
   obtain ⟨d1, d2⟩ := S (keyB 0 (s.seq + 1).toNat i) fun h => by
    rw [h] at k2 k3
    have := h0 k2
    omega
   exact ⟨d1.trans g3, by rw [d2 g3]⟩
 · obtain ⟨d1, d2⟩ := S _ (ne_of_kOk hk (kOk_pin i)).symm
   exact ⟨d1.trans g3, by rw [d2 g3]⟩
theorem Kept.orph (C : Int) (I : StI x n s ac) {k : List UInt8} (hk : k ∉ s.keys) : Kept C x s (wo x k) s := fun i til h1 h2 h3 h4 h5 q h6 h7 h8 =>
 ⟨(wo_ne I.lg.ok fun h => hk (by rw [← h]; exact h6)).1.trans h8, h6⟩
theorem Kept.free {C : Int} {s' : Sta} (h : ∀ i til : Int, (0 ≤ i ∧ i ≤ 9) → (0 ≤ til ∧ til ≤ 200000) → x.has (pinK i) = true → (x.get (pinK i)).data = Lib.itoa til → ¬ C ≤ til + 3) : Kept C x s y s' := fun i til h1 h2 h3 h4 h5 => absurd h5 (h i til h1 h2 h3 h4)
end chg
end Go.Proofs.YtbhgcfhbhjcjhaaGreatDoor
