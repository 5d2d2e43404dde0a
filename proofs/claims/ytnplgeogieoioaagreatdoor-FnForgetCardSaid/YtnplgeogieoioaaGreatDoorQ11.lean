/- Contracts of functions that the claim reaches, and the plain law of what they compute; each theorem bears its own conditions. -/
import Derived.Test.YtnplgeogieoioaaGreatDoorQ1
import Derived.Test.YtnplgeogieoioaaGreatDoorQ3
import Derived.Test.YtnplgeogieoioaaGreatDoorV52
import Derived.Test.YtnplgeogieoioaaGreatDoorQ4
import Derived.Test.YtnplgeogieoioaaGreatDoorQ10
import Derived.Test.YtnplgeogieoioaaGreatDoorQ7
set_option linter.unusedVariables false
set_option linter.constructorNameAsVariable false
set_option linter.unusedSimpArgs false
set_option maxRecDepth 20000
namespace Go.Proofs.YtnplgeogieoioaaGreatDoor
open Go Go.Vw
def eqS {α : Type} [Inhabited α] (q : α → α → Bool) (L M : List α) : Bool := decide ((L.length : Int) = M.length) && allN L.length fun i => q (ix L i) (ix M i)
theorem eqS_len {α : Type} [Inhabited α] {q : α → α → Bool} {L M : List α} (h : ¬ (L.length : Int) = M.length) : eqS q L M = false := by
 unfold eqS; rw [decide_eq_false h]; rfl
theorem eqS_no {α : Type} [Inhabited α] {q : α → α → Bool} {L M : List α} {i : Nat} (hi : i < L.length) (h : q (ix L i) (ix M i) = false) : eqS q L M = false := by
 unfold eqS; rw [allN_no (q := fun i => q (ix L i) (ix M i)) hi h]; simp
theorem eqS_yes {α : Type} [Inhabited α] {q : α → α → Bool} {L M : List α} (hl : (L.length : Int) = M.length) (h : ∀ j, j < L.length → q (ix L j) (ix M j) = true) : eqS q L M = true := by
 unfold eqS; rw [decide_eq_true hl, allN_iff.2 h]; rfl
def Ob.eqb (x y : Ob) : Bool := ((B x.key).toList == (B y.key).toList) && (decide (x.ver = y.ver) && (((B x.data).toList == (B y.data).toList) && true))
def En.eqb (x y : En) : Bool := decide (x.tier = y.tier) && (decide (x.f = y.f) && (decide (x.t = y.t) && (((B x.key).toList == (B y.key).toList) && true)))
def Smp.eqb (x y : Smp) : Bool := decide (x.t = y.t) && (decide (x.v = y.v) && true)
def Rc.eqb (x y : Rc) : Bool := decide (x.k = y.k) && (decide (x.tok = y.tok) && (decide (x.tier = y.tier) && (decide (x.f = y.f) && (decide (x.t = y.t) && (((B x.key).toList == (B y.key).toList) && true)))))
def Bk.eqb (x y : Bk) : Bool := decide (x.t = y.t) && ((Ag.eqb x.a y.a) && true)
theorem EqualOb2_fn (L M : List Ob) (hL : L.length ≤ 1048576) (hM : M.length ≤ 1048576) : VFn Tryz.prog 100 [obs L, obs M] (.bool (eqS Ob.eqb L M)) := by
 by_cases hl : (L.length : Int) = M.length
 · refine VFn.introC Tryz.call100 Tryz.func100 rfl rfl ?_
   refine Grd.intro (fun g => ?_) (fun _ => ?_)
   · exfalso; simp [hl] at g
   refine LoopC.mk (fun i : Nat => i ≤ L.length ∧ ∀ j, j < i → Ob.eqb (ix L j) (ix M j) = true) (fun i => [(0, obs L), (1, obs M), (12, .int .i64 L.length), (13, .int .i64 i)]) (fun i => []) 0 (fun i => L.length - i) 0
    ⟨⟨Nat.zero_le _, fun j hj => absurd hj (Nat.not_lt_zero j)⟩, [], rfl, rfl, ⟨AVle.refl _, AVle.refl _, AVle.refl _, AVle.refl _, trivial⟩, trivial⟩ ?_
   intro i hi
   obtain ⟨hi, h0⟩ := hi
   refine Grd.intro (fun h2 => ?_) (fun h2 => ?_)
   · have hin : i < L.length := by have := of_decide_eq_true h2; omega
     refine DrawC.mq 8 rfl (by kernel_rfl) ?_
     refine And.intro (by omega) ?_
     refine And.intro (by omega) ?_
     refine And.intro (by kernel_rfl) ?_
     refine Grd.intro (fun g => ?_) (fun g => ?_)
     · have g : (!Ob.eqb (ix L i) (ix M i)) = true := g
       rw [eqS_no hin (by simpa using g)]
       exact And.intro trivial (AVle.refl _)
     · have g : (!Ob.eqb (ix L i) (ix M i)) = false := g
       have g : Ob.eqb (ix L i) (ix M i) = true := by simpa using g
       refine And.intro (inI64 (by omega) (by omega)) ?_
       exact ⟨i + 1, ⟨hin, fun j hj => by
        rcases Nat.lt_or_ge j i with h' | h'
        · exact h0 j h'
        · rw [show j = i by omega]; exact g⟩, by omega, [], rfl, rfl, ⟨AVle.refl _, AVle.refl _, AVle.refl _, AVle.of_eq (congrArg (AV.int .i64) (by simp)), trivial⟩, trivial⟩
   · have : i = L.length := by have := of_decide_eq_false h2; omega
     subst this
     rw [eqS_yes hl h0]
     exact And.intro trivial (AVle.refl _)
 · rw [eqS_len hl]
   refine VFn.introC Tryz.call100 Tryz.func100 rfl rfl ?_
   refine Grd.intro (fun g => ?_) (fun g => ?_)
   · exact And.intro trivial (AVle.refl _)
   · exfalso; simp [hl] at g
theorem EqualEn2_fn (L M : List En) (hL : L.length ≤ 1048576) (hM : M.length ≤ 1048576) : VFn Tryz.prog 56 [ents L, ents M] (.bool (eqS En.eqb L M)) := by
 by_cases hl : (L.length : Int) = M.length
 · refine VFn.introC Tryz.call56 Tryz.func56 rfl rfl ?_
   refine Grd.intro (fun g => ?_) (fun _ => ?_)
   · exfalso; simp [hl] at g
   refine LoopC.mk (fun i : Nat => i ≤ L.length ∧ ∀ j, j < i → En.eqb (ix L j) (ix M j) = true) (fun i => [(0, ents L), (1, ents M), (12, .int .i64 L.length), (13, .int .i64 i)]) (fun i => []) 0 (fun i => L.length - i) 0
    ⟨⟨Nat.zero_le _, fun j hj => absurd hj (Nat.not_lt_zero j)⟩, [], rfl, rfl, ⟨AVle.refl _, AVle.refl _, AVle.refl _, AVle.refl _, trivial⟩, trivial⟩ ?_
   intro i hi
   obtain ⟨hi, h0⟩ := hi
   refine Grd.intro (fun h2 => ?_) (fun h2 => ?_)
   · have hin : i < L.length := by have := of_decide_eq_true h2; omega
     refine DrawC.mq 8 rfl (by kernel_rfl) ?_
     refine And.intro (by omega) ?_
     refine And.intro (by omega) ?_
     refine And.intro (by kernel_rfl) ?_
     refine Grd.intro (fun g => ?_) (fun g => ?_)
     · have g : (!En.eqb (ix L i) (ix M i)) = true := g
       rw [eqS_no hin (by simpa using g)]
       exact And.intro trivial (AVle.refl _)
     · have g : (!En.eqb (ix L i) (ix M i)) = false := g
       have g : En.eqb (ix L i) (ix M i) = true := by simpa using g
       refine And.intro (inI64 (by omega) (by omega)) ?_
       exact ⟨i + 1, ⟨hin, fun j hj => by
        rcases Nat.lt_or_ge j i with h' | h'
        · exact h0 j h'
        · rw [show j = i by omega]; exact g⟩, by omega, [], rfl, rfl, ⟨AVle.refl _, AVle.refl _, AVle.refl _, AVle.of_eq (congrArg (AV.int .i64) (by simp)), trivial⟩, trivial⟩
   · have : i = L.length := by have := of_decide_eq_false h2; omega
     subst this
     rw [eqS_yes hl h0]
     exact And.intro trivial (AVle.refl _)
 · rw [eqS_len hl]
   refine VFn.introC Tryz.call56 Tryz.func56 rfl rfl ?_
   refine Grd.intro (fun g => ?_) (fun g => ?_)
   · exact And.intro trivial (AVle.refl _)
   · exfalso; simp [hl] at g
theorem EqualSmp2_fn (L M : List Smp) (hL : L.length ≤ 1048576) (hM : M.length ≤ 1048576) : VFn Tryz.prog 42 [smps L, smps M] (.bool (eqS Smp.eqb L M)) := by
 by_cases hl : (L.length : Int) = M.length
 · refine VFn.introC Tryz.call42 Tryz.func42 rfl rfl ?_
   refine Grd.intro (fun g => ?_) (fun _ => ?_)
   · exfalso; simp [hl] at g
   refine LoopC.mk (fun i : Nat => i ≤ L.length ∧ ∀ j, j < i → Smp.eqb (ix L j) (ix M j) = true) (fun i => [(0, smps L), (1, smps M), (12, .int .i64 L.length), (13, .int .i64 i)]) (fun i => []) 0 (fun i => L.length - i) 0
    ⟨⟨Nat.zero_le _, fun j hj => absurd hj (Nat.not_lt_zero j)⟩, [], rfl, rfl, ⟨AVle.refl _, AVle.refl _, AVle.refl _, AVle.refl _, trivial⟩, trivial⟩ ?_
   intro i hi
   obtain ⟨hi, h0⟩ := hi
   refine Grd.intro (fun h2 => ?_) (fun h2 => ?_)
   · have hin : i < L.length := by have := of_decide_eq_true h2; omega
     refine DrawC.mq 8 rfl (by kernel_rfl) ?_
     refine And.intro (by omega) ?_
     refine And.intro (by omega) ?_
     refine And.intro (by kernel_rfl) ?_
     refine Grd.intro (fun g => ?_) (fun g => ?_)
     · have g : (!Smp.eqb (ix L i) (ix M i)) = true := g
       rw [eqS_no hin (by simpa using g)]
       exact And.intro trivial (AVle.refl _)
     · have g : (!Smp.eqb (ix L i) (ix M i)) = false := g
       have g : Smp.eqb (ix L i) (ix M i) = true := by simpa using g
       refine And.intro (inI64 (by omega) (by omega)) ?_
       exact ⟨i + 1, ⟨hin, fun j hj => by
        rcases Nat.lt_or_ge j i with h' | h'
        · exact h0 j h'
        · rw [show j = i by omega]; exact g⟩, by omega, [], rfl, rfl, ⟨AVle.refl _, AVle.refl _, AVle.refl _, AVle.of_eq (congrArg (AV.int .i64) (by simp)), trivial⟩, trivial⟩
   · have : i = L.length := by have := of_decide_eq_false h2; omega
     subst this
     rw [eqS_yes hl h0]
     exact And.intro trivial (AVle.refl _)
 · rw [eqS_len hl]
   refine VFn.introC Tryz.call42 Tryz.func42 rfl rfl ?_
   refine Grd.intro (fun g => ?_) (fun g => ?_)
   · exact And.intro trivial (AVle.refl _)
   · exfalso; simp [hl] at g
def bkt (f : Int) (a : Ag) : List Bk := if a.c = 0 then [] else [⟨f, a⟩]
theorem bucketOf_fn (f : Int) (a : Ag) : VFn Tryz.prog 232 [.int .i64 f, a.av] (bks (bkt f a)) := by
 obtain ⟨R, hR⟩ : ∃ R, R = bkt f a := ⟨_, rfl⟩
 rw [← hR]
 refine VFn.introC Tryz.call232 Tryz.func232 rfl rfl ?_
 refine Grd.intro (fun g => ?_) (fun g => ?_)
 · rw [bkt, if_pos (show a.c = 0 from of_decide_eq_true g)] at hR
   subst hR
   exact And.intro trivial (AVle.nilsl _ _ rfl)
 · rw [bkt, if_neg (show ¬ a.c = 0 from of_decide_eq_false g)] at hR
   subst hR
   exact And.intro trivial (AVle.sl1 rfl)
def sdat (s : Sto) (k : List UInt8) : List UInt8 := if s.has k = true then (s.get k).data else []
def truE (s : Sto) (e : En) (ac : List Smp) : Bool :=
 s.has e.key && (if e.tier = 0 then (rdOk (sdat s e.key) && eqS Smp.eqb (rdV (sdat s e.key)) (smpsIn ac e.f e.t)) else (rbOk (sdat s e.key) && eqS Bk.eqb (rbV (sdat s e.key)) (bkt e.f (aggL (smpsIn ac e.f e.t)))))
structure KnS (s : Sta) (ac : List Smp) (e : En) : Prop where
 ok : e.ok = true
 th : e.t ≤ s.hi e.tier
 t0 : e.tier = 0 → (1 ≤ kN e.key ∧ kN e.key ≤ s.seq) ∧ (smpsIn ac e.f e.t).length ≤ 8
 t1 : e.tier ≠ 0 → e.f = kN e.key ∧ e.t = e.f + wd e.tier ∧ e.f % wd e.tier = 0
structure KnE (x : Sto) (s : Sta) (ac : List Smp) (e : En) : Prop where
 st : KnS s ac e
 dt : e.tier = 0 → x.has e.key = true → (x.get e.key).data = smpsText (smpsIn ac e.f e.t)
def datK (ac : List Smp) (k : List UInt8) : List UInt8 := bksText (bkt (kN k) (agI ac (kN k) (kN k + wd (kT k))))
structure LogI (s : Sta) : Prop where
 h10 : s.h1 ≤ s.h0
 h21 : s.h2 ≤ s.h1
 l01 : s.l0 ≤ s.h1
 l12 : s.l1 ≤ s.h2
 a1 : s.h1 % 5 = 0
 a2 : s.h2 % 20 = 0
 nn : 0 ≤ s.h2 ∧ s.h0 ≤ 100000
 ts : ∀ t ∈ s.ts, (kT t.key = 0 → kN t.key ≤ s.seq) ∧ (kT t.key ≠ 0 → kN t.key < s.hi (kT t.key))
structure StI (x : Sto) (n : Nat) (s : Sta) (ac : List Smp) : Prop where
 lg : LogX x n s
 li : LogI s
 es : ∀ e ∈ s.es, KnE x s ac e ∧ x.has e.key = true
 dat : ∀ k, x.has k = true → kOk k = true → kT k ≠ 0 → (x.get k).data = datK ac k ∧ kN k + wd (kT k) ≤ s.h0
 acok : smpsOK ac = true
 ach : ∀ a ∈ ac, a.t < s.h0
structure JobI (s : Sta) (tok : Int) (j : Rc) : Prop where
 tier : j.tier = 1 ∨ j.tier = 2
 f0 : 0 ≤ j.f
 t : j.t = j.f + wd j.tier
 th : j.t ≤ s.h0
 fh : j.f ≤ s.hi j.tier
 key : kOk j.key = true ∧ kT j.key = j.tier ∧ kN j.key = j.f ∧ kW j.key = tok
structure InI (x : Sto) (s : Sta) (ac : List Smp) (a b : Int) (e : En) : Prop where
 kn : KnE x s ac e
 al : e.tier ≠ 0 → a ≤ e.f ∧ e.t ≤ b
structure WkI (x : Sto) (s : Sta) (ac : List Smp) (w : Wk) : Prop where
 ok : w.ok = true
 tok : 3 ≤ w.ph → w.tok ≤ s.fence
 job : (w.ph = 4 ∨ w.ph = 5 ∨ w.ph = 6) → w.job.k = 3 → JobI s w.tok w.job
 p4 : w.ph = 4 → gfold ac w.job.f w.job.t w.got w.ins = agI ac w.job.f w.job.t ∧ ∀ e ∈ w.ins, InI x s ac w.job.f w.job.t e
 p5 : w.ph = 5 → w.got = agI ac w.job.f w.job.t
 p6 : w.ph = 6 → w.job.k = 3 → s.fence = w.tok → w.job.f = s.hi w.job.tier → x.has w.job.key = true
structure IgI (x : Sto) (s : Sta) (g : Ig) : Prop where
 ok : g.ok = true
 sq : g.put = true → g.seq ≤ s.seq + 1
 at_ : g.put = true → g.seq = s.seq + 1 → g.f = s.h0 ∧ x.has (keyB 0 g.seq.toNat g.id.toNat) = true ∧ (x.get (keyB 0 g.seq.toNat g.id.toNat)).data = smpsText g.b
structure RdI (x : Sto) (s : Sta) (ac : List Smp) (C : Int) (r : Rr) : Prop where
 ok : r.ok = true
 pin : (r.ph = 2 ∨ r.ph = 3) → x.has (pinK r.id) = true ∧ (x.get (pinK r.id)).data = Lib.itoa r.til
 p0 : (r.ph = 1 ∨ r.ph = 2) → r.got = default
 p3 : r.ph = 3 → r.t ≤ s.h0 ∧ gfold ac r.f r.t r.got r.left = agI ac r.f r.t ∧ ∀ e ∈ r.left, InI x s ac r.f r.t e
 lv : r.ph = 3 → C ≤ r.til + 3 → ∀ e ∈ r.left, x.has e.key = true ∧ e.key ∈ s.keys
 p4 : r.ph = 4 → (r.code ≠ 5 ∧ r.code ≠ 17) ∧ (r.code = 0 → r.t ≤ s.h0 ∧ r.got = agI ac r.f r.t)
structure AnI (s : Sta) (ac : List Smp) (a : An) : Prop where
 ok : a.ok = true
 c : a.code ≠ 5 ∧ a.code ≠ 17
 z : a.code = 0 → a.t ≤ s.h0 ∧ a.a = agI ac a.f a.t
 nz : a.code ≠ 0 → a.a = default
structure Gr (me : Int) (x : Sto) (s : Sta) (ac : List Smp) (y : Sto) (s' : Sta) (ac' : List Smp) : Prop where
 seq : s.seq ≤ s'.seq
 fen : s.fence ≤ s'.fence
 hi : ∀ k, s.hi k ≤ s'.hi k
 ac : ∃ b, ac' = ac ++ b ∧ ∀ a ∈ b, s.h0 ≤ a.t
 d0 : ∀ k, kOk k = true → kT k = 0 → kN k ≤ s.seq → y.has k = true → x.has k = true ∧ (y.get k).data = (x.get k).data
 d1 : ∀ k, kOk k = true → kT k ≠ 0 → kW k = s'.fence → s.fence = s'.fence → kN k = s'.hi (kT k) → x.has k = true → y.has k = true
 d2 : s'.seq = s.seq → s'.h0 = s.h0 ∧ ∀ i : Nat, (i : Int) ≠ me → i ≤ 9 → x.has (keyB 0 (s.seq + 1).toNat i) = true → y.has (keyB 0 (s.seq + 1).toNat i) = true ∧ (y.get (keyB 0 (s.seq + 1).toNat i)).data = (x.get (keyB 0 (s.seq + 1).toNat i)).data
 d3 : ∀ i : Int, (0 ≤ i ∧ i ≤ 9) → i ≠ me → x.has (pinK i) = true → y.has (pinK i) = true ∧ (y.get (pinK i)).data = (x.get (pinK i)).data
def Kept (C : Int) (x : Sto) (s : Sta) (y : Sto) (s' : Sta) : Prop := ∀ i til : Int, (0 ≤ i ∧ i ≤ 9) → (0 ≤ til ∧ til ≤ 200000) → x.has (pinK i) = true → (x.get (pinK i)).data = Lib.itoa til → C ≤ til + 3 → ∀ k ∈ s.keys, kOk k = true → x.has k = true → y.has k = true ∧ k ∈ s'.keys
theorem hi_le {s : Sta} (h : LogI s) (k : Int) : s.hi k ≤ s.h0 := by
 have h1 := h.h10
 have h2 := h.h21
 unfold Sta.hi
 split
 · omega
 · split <;> omega
section grow
variable {me : Int} {x y : Sto} {s s' : Sta} {ac ac' : List Smp}
theorem Gr.agI (G : Gr me x s ac y s' ac') {f t : Int} (ht : t ≤ s.h0) : Go.Proofs.YtnplgeogieoioaaGreatDoor.agI ac' f t = Go.Proofs.YtnplgeogieoioaaGreatDoor.agI ac f t := by
 obtain ⟨b, rfl, hb⟩ := G.ac
 unfold Go.Proofs.YtnplgeogieoioaaGreatDoor.agI
 rw [in_later hb ht]
theorem Gr.h0 (G : Gr me x s ac y s' ac') : s.h0 ≤ s'.h0 := G.hi 0
theorem Gr.ins (G : Gr me x s ac y s' ac') {f t : Int} (ht : t ≤ s.h0) : smpsIn ac' f t = smpsIn ac f t := by
 obtain ⟨b, rfl, hb⟩ := G.ac
 exact in_later hb ht
theorem KnS.grow (G : Gr me x s ac y s' ac') (hl : LogI s) {e : En} (h : KnS s ac e) : KnS s' ac' e := by
 have hh := hi_le hl e.tier
 have ht := h.th
 refine ⟨h.ok, Int.le_trans h.th (G.hi _), fun h0 => ?_, h.t1⟩
 obtain ⟨⟨a1, a2⟩, a3⟩ := h.t0 h0
 have := G.seq
 rw [G.ins (by omega)]
 exact ⟨⟨a1, by omega⟩, a3⟩
theorem en_key {e : En} (h : e.ok = true) : kOk e.key = true ∧ kT e.key = e.tier ∧ (0 ≤ e.f ∧ e.f < e.t ∧ e.t ≤ 100000) := by
 unfold En.ok at h
 simp only [Bool.and_eq_true, decide_eq_true_eq, isRange, within] at h
 exact ⟨h.1, h.2.1, by omega⟩
theorem KnE.grow (G : Gr me x s ac y s' ac') (hl : LogI s) {e : En} (h : KnE x s ac e) : KnE y s' ac' e := by
 have hh := hi_le hl e.tier
 have ht := h.st.th
 refine ⟨h.st.grow G hl, fun h0 hy => ?_⟩
 obtain ⟨k1, k2, _⟩ := en_key h.st.ok
 obtain ⟨a1, a2⟩ := G.d0 e.key k1 (by omega) (h.st.t0 h0).1.2 hy
 rw [a2, G.ins (by omega)]
 exact h.dt h0 a1
theorem valE_grow (G : Gr me x s ac y s' ac') (hl : LogI s) {a b : Int} {e : En} (h : KnS s ac e) : valE ac' a b e = valE ac a b e := by
 have hh := hi_le hl e.tier
 have ht := h.th
 unfold valE
 refine G.agI ?_
 split <;> omega
theorem gfold_grow (G : Gr me x s ac y s' ac') (hl : LogI s) {a b : Int} : ∀ (L : List En) (g : Ag), (∀ e ∈ L, KnS s ac e) → gfold ac' a b g L = gfold ac a b g L
 | [], _, _ => rfl
 | e :: r, g, h => by
   show gfold ac' a b (g.mrg (valE ac' a b e)) r = gfold ac a b (g.mrg (valE ac a b e)) r
   rw [valE_grow G hl (h e (by simp))]
   exact gfold_grow G hl r _ fun y hy => h y (by simp [hy])
theorem JobI.grow (G : Gr me x s ac y s' ac') {tok : Int} {j : Rc} (h : JobI s tok j) : JobI s' tok j :=
 ⟨h.tier, h.f0, h.t, Int.le_trans h.th G.h0, Int.le_trans h.fh (G.hi _), h.key⟩
theorem WkI.grow (G : Gr me x s ac y s' ac') (hl : LogI s) {w : Wk} (h : WkI x s ac w) : WkI y s' ac' w := by
 have h3 : (w.ph = 4 ∨ w.ph = 5) → w.job.k = 3 := fun h4 => by
  have := h.ok
  unfold Wk.ok at this
  simp only [Bool.and_eq_true] at this
  have h5 := this.2.2.2.2.1
  have h6 : within w.ph 4 6 = true := by simp [within]; omega
  rw [h6] at h5
  simp only [Bool.not_true, Bool.false_or, Bool.and_eq_true, Bool.or_eq_true, decide_eq_true_eq] at h5
  obtain ⟨_, _, h7 | h7⟩ := h5
  · exact h7
  · omega
 refine ⟨h.ok, fun h4 => Int.le_trans (h.tok h4) G.fen, fun h4 h5 => (h.job h4 h5).grow G, fun h4 => ?_, fun h4 => ?_, fun h4 h5 h6 h7 => ?_⟩
 · have J := h.job (.inl h4) (h3 (.inl h4))
   obtain ⟨a1, a2⟩ := h.p4 h4
   rw [gfold_grow G hl _ _ fun e he => (a2 e he).kn.st, G.agI J.th]
   exact ⟨a1, fun e he => ⟨(a2 e he).kn.grow G hl, (a2 e he).al⟩⟩
 · have J := h.job (.inr (.inl h4)) (h3 (.inr h4))
   rw [G.agI J.th]
   exact h.p5 h4
 · have J := h.job (.inr (.inr h4)) h5
   have ht := h.tok (by omega)
   have hf := G.fen
   have hh := G.hi w.job.tier
   have fh := J.fh
   obtain ⟨k1, k2, k3, k4⟩ := J.key
   have tn : w.job.tier ≠ 0 := by have := J.tier; omega
   refine G.d1 w.job.key k1 (by omega) (by omega) (by omega) (by rw [k2, k3]; exact h7) (h.p6 h4 h5 (by omega) (by omega))
theorem IgI.grow (G : Gr me x s ac y s' ac') {g : Ig} (h : IgI x s g) (hn : g.id ≠ me) (hid : 0 ≤ g.id ∧ g.id ≤ 9) : IgI y s' g := by
 have hq := G.seq
 refine ⟨h.ok, fun hp => by have := h.sq hp; omega, fun hp he => ?_⟩
 have h1 := h.sq hp
 have h2 : s'.seq = s.seq := by omega
 obtain ⟨a1, a2⟩ := G.d2 h2
 obtain ⟨b1, b2, b3⟩ := h.at_ hp (by omega)
 have e1 : (s.seq + 1).toNat = g.seq.toNat := by omega
 have := a2 g.id.toNat (by omega) (by omega)
 rw [e1] at this
 obtain ⟨c1, c2⟩ := this b2
 exact ⟨by rw [a1]; exact b1, c1, by rw [c2]; exact b3⟩
theorem RdI.grow {C C' : Int} (G : Gr me x s ac y s' ac') (hC : C ≤ C') (K : Kept C x s y s') (hl : LogI s) {r : Rr} (h : RdI x s ac C r) (hn : r.id ≠ me) : RdI y s' ac' C' r := by
 obtain ⟨f1, f2, f3, f4, f5⟩ := rr_facts h.ok
 refine ⟨h.ok, fun hp => ?_, h.p0, fun hp => ?_, fun hp hc e he => ?_, fun hp => ?_⟩
 · obtain ⟨a1, a2⟩ := h.pin hp
   obtain ⟨b1, b2⟩ := G.d3 r.id f1 hn a1
   exact ⟨b1, by rw [b2]; exact a2⟩
 · obtain ⟨a1, a2, a3⟩ := h.p3 hp
   rw [gfold_grow G hl _ _ fun e he => (a3 e he).kn.st, G.agI a1]
   exact ⟨Int.le_trans a1 G.h0, a2, fun e he => ⟨(a3 e he).kn.grow G hl, (a3 e he).al⟩⟩
 · obtain ⟨a1, a2⟩ := h.pin (.inr hp)
   obtain ⟨b1, b2⟩ := h.lv hp (by omega) e he
   have := ((h.p3 hp).2.2 e he).kn.st.ok
   exact K r.id r.til f1 f4 a1 a2 (by omega) e.key b2 (en_key this).1 b1
 · obtain ⟨a1, a2⟩ := h.p4 hp
   refine ⟨a1, fun hc => ?_⟩
   obtain ⟨b1, b2⟩ := a2 hc
   rw [G.agI b1]
   exact ⟨Int.le_trans b1 G.h0, b2⟩
theorem AnI.grow (G : Gr me x s ac y s' ac') {a : An} (h : AnI s ac a) : AnI s' ac' a := by
 refine ⟨h.ok, h.c, fun hc => ?_, h.nz⟩
 obtain ⟨b1, b2⟩ := h.z hc
 rw [G.agI b1]
 exact ⟨Int.le_trans b1 G.h0, b2⟩
end grow
theorem Gr.refl (me : Int) (x : Sto) (s : Sta) (ac : List Smp) : Gr me x s ac x s ac :=
 ⟨Int.le_refl _, Int.le_refl _, fun _ => Int.le_refl _, ⟨[], by simp, by simp⟩, fun _ _ _ _ h => ⟨h, rfl⟩, fun _ _ _ _ _ _ h => h, fun _ => ⟨rfl, fun _ _ _ h => ⟨h, rfl⟩⟩, fun _ _ _ h => ⟨h, rfl⟩⟩
theorem Kept.refl (C : Int) (x : Sto) (s : Sta) : Kept C x s x s := fun _ _ _ _ _ _ _ _ hk _ hx => ⟨hx, hk⟩
theorem key_of {k : List UInt8} (h : kOk k = true) : ∃ t n w : Nat, t ≤ 2 ∧ n ≤ 999999 ∧ w ≤ 999999 ∧ k = keyB t n w ∧ kT k = t ∧ kN k = n ∧ kW k = w := by
 unfold kOk at h
 cases hp : parseKey k with
 | none => rw [hp] at h; cases h
 | some q =>
   obtain ⟨t, n, w⟩ := q
   obtain ⟨e, a, b, c⟩ := key_parse hp
   refine ⟨t, n, w, a, b, c, e, ?_, ?_, ?_⟩
   · unfold kT; rw [hp]
   · unfold kN; rw [hp]
   · unfold kW; rw [hp]
theorem kOk_man (i : Int) : kOk (manK i) = false := by
 cases h : kOk (manK i) with
 | false => rfl
 | true =>
   obtain ⟨t, n, w, _, _, _, e, _⟩ := key_of h
   exact absurd e (man_ne_key i)
theorem pinK_pre (i : Int) : Lib.hasPrefix (pinK i) pinP = true := by
 unfold Lib.hasPrefix pinK pinP
 simp [List.isPrefixOf]
theorem kOk_pin (i : Int) : kOk (pinK i) = false := by
 cases h : kOk (pinK i) with
 | false => rfl
 | true =>
   obtain ⟨t, n, w, a, _, _, e, _⟩ := key_of h
   exact absurd e (pin_ne_key (pinK_pre i) a)
theorem kOk_lea : kOk leaK = false := by decide
theorem man_ne_pin (i j : Int) : manK i ≠ pinK j := fun e => pin_ne_man (pinK_pre j) i e.symm
theorem man_ne_lea (i : Int) : manK i ≠ leaK := fun e => by
 have h1 : (manK i).length = 10 := by simp [manK, six6]
 rw [e] at h1
 simp [leaK] at h1
theorem pin_ne_lea (i : Int) : pinK i ≠ leaK := fun e => by
 have := congrArg List.head? e
 simp [pinK, leaK] at this
theorem pinK_inj {i j : Int} (hi : 0 ≤ i ∧ i ≤ 9) (hj : 0 ≤ j ∧ j ≤ 9) (h : pinK i = pinK j) : i = j := by
 have := List.append_cancel_left h
 have h1 := (num_back (n := i) (by omega) (by omega)).2
 have h2 := (num_back (n := j) (by omega) (by omega)).2
 rw [this] at h1
 omega
theorem ne_of_kOk {k q : List UInt8} (h : kOk k = true) (h' : kOk q = false) : k ≠ q := fun e => by rw [e, h'] at h; cases h
section chg
variable {x y : Sto} {n : Nat} {s : Sta} {ac : List Smp}
theorem StI.named (I : StI x n s ac) {k : List UInt8} (h : k ∈ s.keys) : (kT k = 0 → kN k ≤ s.seq) ∧ (kT k ≠ 0 → kN k < s.hi (kT k)) := by
 unfold Sta.keys at h
 rcases List.mem_append.1 h with h | h
 · obtain ⟨e, he, rfl⟩ := List.mem_map.1 h
   obtain ⟨kn, _⟩ := I.es e he
   obtain ⟨k1, k2, k3⟩ := en_key kn.st.ok
   refine ⟨fun h0 => (kn.st.t0 (by omega)).1.2, fun h0 => ?_⟩
   have := kn.st.t1 (by omega)
   have ht := kn.st.th
   rw [k2]
   omega
 · obtain ⟨t, ht, rfl⟩ := List.mem_map.1 h
   exact I.li.ts t ht
theorem StI.seqN (I : StI x n s ac) : s.seq = (n : Int) := I.lg.seq
theorem StI.seqB (I : StI x n s ac) : 0 ≤ s.seq ∧ s.seq ≤ 300 := by
 have := I.lg.seq
 have := I.lg.le
 omega
theorem StI.other (I : StI x n s ac) {k : List UInt8} (S : Same x y k) (hy : y.ok = true) (hk : kOk k = false) (hm : ∀ i : Int, manK i ≠ k) : StI y n s ac := by
 have D : ∀ q, kOk q = true → y.has q = x.has q ∧ (x.has q = true → y.get q = x.get q) := fun q hq => S q (ne_of_kOk hq hk)
 refine ⟨I.lg.sameG hy fun i => S _ (hm i), I.li, fun e he => ?_, fun q hq h1 h2 => ?_, I.acok, I.ach⟩
 · obtain ⟨a, b⟩ := I.es e he
   obtain ⟨d1, d2⟩ := D e.key (en_key a.st.ok).1
   exact ⟨⟨a.st, fun h0 hh => by rw [d2 b]; exact a.dt h0 b⟩, d1.trans b⟩
 · obtain ⟨d1, d2⟩ := D q h1
   rw [d1] at hq
   rw [d2 hq]
   exact I.dat q hq h1 h2
theorem Gr.other (me : Int) (I : StI x n s ac) {k : List UInt8} (S : Same x y k) (hk : kOk k = false) (hp : ∀ i : Int, (0 ≤ i ∧ i ≤ 9) → i ≠ me → pinK i ≠ k) : Gr me x s ac y s ac := by
 have D : ∀ q, kOk q = true → y.has q = x.has q ∧ (x.has q = true → y.get q = x.get q) := fun q hq => S q (ne_of_kOk hq hk)
 have hb := I.seqB
 refine ⟨Int.le_refl _, Int.le_refl _, fun _ => Int.le_refl _, ⟨[], by simp, by simp⟩, fun q h1 h2 h3 h4 => ?_, fun q h1 h2 h3 h4 h5 h6 => (D q h1).1.trans h6, fun _ => ⟨rfl, fun i h1 h2 h3 => ?_⟩, fun i h1 h2 h3 => ?_⟩
 · obtain ⟨d1, d2⟩ := D q h1
   have := d1.symm.trans h4
   exact ⟨this, by rw [d2 this]⟩
 · obtain ⟨d1, d2⟩ := D _ (key_fields (t := 0) (n := (s.seq + 1).toNat) (w := i) (by omega) (by omega) (by omega)).1
   exact ⟨d1.trans h3, by rw [d2 h3]⟩
 · obtain ⟨d1, d2⟩ := S _ (hp i h1 h2)
   exact ⟨d1.trans h3, by rw [d2 h3]⟩
theorem Kept.other (C : Int) {k : List UInt8} (S : Same x y k) (hk : kOk k = false) : Kept C x s y s := fun i til h1 h2 h3 h4 h5 q h6 h7 h8 => ⟨(S q (ne_of_kOk h7 hk)).1.trans h8, h6⟩
theorem StI.raw (I : StI x n s ac) {id : Nat} (hid : id ≤ 9) {d : List UInt8} (hy : (x.set (keyB 0 (s.seq + 1).toNat id) d).ok = true) : StI (x.set (keyB 0 (s.seq + 1).toNat id) d) n s ac := by
 have hb := I.seqB
 obtain ⟨k1, k2, k3, k4⟩ := key_fields (t := 0) (n := (s.seq + 1).toNat) (w := id) (by omega) (by omega) (by omega)
 have S : Same x (x.set (keyB 0 (s.seq + 1).toNat id) d) (keyB 0 (s.seq + 1).toNat id) := fun q hq => set_ne I.lg.ok hy hq
 generalize x.set (keyB 0 (s.seq + 1).toNat id) d = y at *
 generalize keyB 0 (s.seq + 1).toNat id = K at *
 refine ⟨I.lg.sameG hy fun i => S _ (fun e => by rw [← e, kOk_man] at k1; cases k1), I.li, fun e he => ?_, fun q hq h1 h2 => ?_, I.acok, I.ach⟩
 · obtain ⟨a, b⟩ := I.es e he
   have hne : e.key ≠ K := fun h => by
    obtain ⟨e1, e2, _⟩ := en_key a.st.ok
    rw [h, k2] at e2
    have := (a.st.t0 e2.symm).1
    rw [h, k3] at this
    omega
   obtain ⟨d1, d2⟩ := S _ hne
   exact ⟨⟨a.st, fun h0 hh => by rw [d2 b]; exact a.dt h0 b⟩, d1.trans b⟩
 · obtain ⟨d1, d2⟩ := S q fun h => by rw [h, k2] at h2; exact h2 rfl
   rw [d1] at hq
   rw [d2 hq]
   exact I.dat q hq h1 h2
theorem Gr.raw (I : StI x n s ac) {id : Nat} (hid : id ≤ 9) {d : List UInt8} (hy : (x.set (keyB 0 (s.seq + 1).toNat id) d).ok = true) : Gr id x s ac (x.set (keyB 0 (s.seq + 1).toNat id) d) s ac := by
 have hb := I.seqB
 obtain ⟨k1, k2, k3, k4⟩ := key_fields (t := 0) (n := (s.seq + 1).toNat) (w := id) (by omega) (by omega) (by omega)
 have S : Same x (x.set (keyB 0 (s.seq + 1).toNat id) d) (keyB 0 (s.seq + 1).toNat id) := fun q hq => set_ne I.lg.ok hy hq
 have hki : ∀ i : Nat, (i : Int) ≠ id → i ≤ 9 → keyB 0 (s.seq + 1).toNat i ≠ keyB 0 (s.seq + 1).toNat id := fun i h1 h2 h => by
  have := (key_fields (t := 0) (n := (s.seq + 1).toNat) (w := i) (by omega) (by omega) (by omega)).2.2.2
  rw [h, k4] at this
  exact h1 this.symm
 generalize x.set (keyB 0 (s.seq + 1).toNat id) d = y at *
 generalize hK : keyB 0 (s.seq + 1).toNat id = K at *
 refine ⟨Int.le_refl _, Int.le_refl _, fun _ => Int.le_refl _, ⟨[], by simp, by simp⟩, fun q h1 h2 h3 h4 => ?_, fun q h1 h2 h3 h4 h5 h6 => ?_, fun _ => ⟨rfl, fun i h1 h2 h3 => ?_⟩, fun i h1 h2 h3 => ?_⟩
 · obtain ⟨d1, d2⟩ := S q fun h => by rw [h, k3] at h3; omega
   have := d1.symm.trans h4
   exact ⟨this, by rw [d2 this]⟩
 · exact (S q fun h => by rw [h, k2] at h2; exact h2 rfl).1.trans h6
 · obtain ⟨d1, d2⟩ := S _ (hki i h1 h2)
   exact ⟨d1.trans h3, by rw [d2 h3]⟩
 · obtain ⟨d1, d2⟩ := S _ (ne_of_kOk k1 (kOk_pin i)).symm
   exact ⟨d1.trans h3, by rw [d2 h3]⟩
theorem Kept.raw (C : Int) (I : StI x n s ac) {id : Nat} (hid : id ≤ 9) {d : List UInt8} (hy : (x.set (keyB 0 (s.seq + 1).toNat id) d).ok = true) : Kept C x s (x.set (keyB 0 (s.seq + 1).toNat id) d) s := fun i til h1 h2 h3 h4 h5 q h6 h7 h8 => by
 have hb := I.seqB
 obtain ⟨k1, k2, k3, k4⟩ := key_fields (t := 0) (n := (s.seq + 1).toNat) (w := id) (by omega) (by omega) (by omega)
 have hq := (I.named h6).1
 refine ⟨(set_ne I.lg.ok hy fun h => ?_).1.trans h8, h6⟩
 rw [h, k2, k3] at hq
 have := hq rfl
 omega
theorem StI.roll (I : StI x n s ac) {K : List UInt8} (hk : kOk K = true) (ht : kT K ≠ 0) (hno : x.has K = false) (hh : kN K + wd (kT K) ≤ s.h0) (hy : (x.set K (datK ac K)).ok = true) : StI (x.set K (datK ac K)) n s ac := by
 have S : Same x (x.set K (datK ac K)) K := fun q hq => set_ne I.lg.ok hy hq
 have c := set_at x K (datK ac K)
 generalize x.set K (datK ac K) = y at *
 refine ⟨I.lg.sameG hy fun i => S _ (fun e => by rw [← e, kOk_man] at hk; cases hk), I.li, fun e he => ?_, fun q hq h1 h2 => ?_, I.acok, I.ach⟩
 · obtain ⟨a, b⟩ := I.es e he
   obtain ⟨d1, d2⟩ := S e.key fun h => by rw [h, hno] at b; cases b
   exact ⟨⟨a.st, fun h0 hh => by rw [d2 b]; exact a.dt h0 b⟩, d1.trans b⟩
 · by_cases e : q = K
   · subst e
     rw [c.2]
     exact ⟨rfl, hh⟩
   · obtain ⟨d1, d2⟩ := S q e
     rw [d1] at hq
     rw [d2 hq]
     exact I.dat q hq h1 h2
theorem Gr.roll (me : Int) (I : StI x n s ac) {K d : List UInt8} (hk : kOk K = true) (ht : kT K ≠ 0) (hno : x.has K = false) (hy : (x.set K d).ok = true) : Gr me x s ac (x.set K d) s ac := by
 have hb := I.seqB
 have S : Same x (x.set K d) K := fun q hq => set_ne I.lg.ok hy hq
 generalize x.set K d = y at *
 refine ⟨Int.le_refl _, Int.le_refl _, fun _ => Int.le_refl _, ⟨[], by simp, by simp⟩, fun q h1 h2 h3 h4 => ?_, fun q h1 h2 h3 h4 h5 h6 => ?_, fun _ => ⟨rfl, fun i h1 h2 h3 => ?_⟩, fun i h1 h2 h3 => ?_⟩
 · obtain ⟨d1, d2⟩ := S q fun h => by rw [h] at h2; exact ht h2
   have := d1.symm.trans h4
   exact ⟨this, by rw [d2 this]⟩
 · exact (S q fun h => by rw [h, hno] at h6; cases h6).1.trans h6
 · obtain ⟨d1, d2⟩ := S (keyB 0 (s.seq + 1).toNat i) fun h => by rw [h, hno] at h3; cases h3
   exact ⟨d1.trans h3, by rw [d2 h3]⟩
 · obtain ⟨d1, d2⟩ := S _ (ne_of_kOk hk (kOk_pin i)).symm
   exact ⟨d1.trans h3, by rw [d2 h3]⟩
theorem Kept.roll (C : Int) (I : StI x n s ac) {K d : List UInt8} (hno : x.has K = false) (hy : (x.set K d).ok = true) : Kept C x s (x.set K d) s := fun i til h1 h2 h3 h4 h5 q h6 h7 h8 =>
 ⟨(set_ne I.lg.ok hy fun h => by rw [h, hno] at h8; cases h8).1.trans h8, h6⟩
theorem StI.del (I : StI x n s ac) {k : List UInt8} (hk : kOk k = true) (hes : ∀ e ∈ s.es, e.key ≠ k) : StI (wo x k) n s ac := by
 have S : Same x (wo x k) k := fun q hq => wo_ne I.lg.ok hq
 have hn := wo_has x k
 have hy := wo_ok I.lg.ok k
 generalize wo x k = y at *
 refine ⟨I.lg.sameG hy fun i => S _ (fun e => by rw [← e, kOk_man] at hk; cases hk), I.li, fun e he => ?_, fun q hq h1 h2 => ?_, I.acok, I.ach⟩
 · obtain ⟨a, b⟩ := I.es e he
   obtain ⟨d1, d2⟩ := S e.key (hes e he)
   exact ⟨⟨a.st, fun h0 hh => by rw [d2 b]; exact a.dt h0 b⟩, d1.trans b⟩
 · obtain ⟨d1, d2⟩ := S q fun h => by rw [h, hn] at hq; cases hq
   rw [d1] at hq
   rw [d2 hq]
   exact I.dat q hq h1 h2
theorem Gr.del (me : Int) (I : StI x n s ac) {k : List UInt8} (hk : kOk k = true) (h0 : kT k = 0 → kN k ≤ s.seq) (h1 : kT k ≠ 0 → kW k < s.fence ∨ kN k < s.hi (kT k)) : Gr me x s ac (wo x k) s ac := by
 have hb := I.seqB
 have S : Same x (wo x k) k := fun q hq => wo_ne I.lg.ok hq
 have hn := wo_has x k
 generalize wo x k = y at *
 refine ⟨Int.le_refl _, Int.le_refl _, fun _ => Int.le_refl _, ⟨[], by simp, by simp⟩, fun q h1 h2 h3 h4 => ?_, fun q g1 g2 g3 g4 g5 g6 => ?_, fun _ => ⟨rfl, fun i g1 g2 g3 => ?_⟩, fun i g1 g2 g3 => ?_⟩
 · obtain ⟨d1, d2⟩ := S q fun h => by rw [h, hn] at h4; cases h4
   have := d1.symm.trans h4
   exact ⟨this, by rw [d2 this]⟩
 · refine (S q fun h => ?_).1.trans g6
   rw [h] at g2 g3 g5
   rcases h1 g2 with h1 | h1 <;> omega
 · obtain ⟨k1, k2, k3, k4⟩ := key_fields (t := 0) (n := (s.seq + 1).toNat) (w := i) (by omega) (by omega) (by omega)
   obtain ⟨d1, d2⟩ := S (keyB 0 (s.seq + 1).toNat i) fun h => by
    rw [h] at k2 k3
    have := h0 k2
    omega
   exact ⟨d1.trans g3, by rw [d2 g3]⟩
 · obtain ⟨d1, d2⟩ := S _ (ne_of_kOk hk (kOk_pin i)).symm
   exact ⟨d1.trans g3, by rw [d2 g3]⟩
theorem Kept.orph (C : Int) (I : StI x n s ac) {k : List UInt8} (hk : k ∉ s.keys) : Kept C x s (wo x k) s := fun i til h1 h2 h3 h4 h5 q h6 h7 h8 =>
 ⟨(wo_ne I.lg.ok fun h => hk (by rw [← h]; exact h6)).1.trans h8, h6⟩
theorem Kept.free {C : Int} {s' : Sta} (h : ∀ i til : Int, (0 ≤ i ∧ i ≤ 9) → (0 ≤ til ∧ til ≤ 200000) → x.has (pinK i) = true → (x.get (pinK i)).data = Lib.itoa til → ¬ C ≤ til + 3) : Kept C x s y s' := fun i til h1 h2 h3 h4 h5 => absurd h5 (h i til h1 h2 h3 h4)
end chg
theorem hi_lift (s : Sta) (k v j : Int) : (s.lift k v).hi j = if (k = 0 ∧ j = 0) ∨ (k = 1 ∧ j = 1) ∨ ((k ≠ 0 ∧ k ≠ 1) ∧ (j ≠ 0 ∧ j ≠ 1)) then v else s.hi j := by
 unfold Sta.lift Sta.hi
 by_cases h0 : k = 0
 · subst h0
   by_cases j0 : j = 0
   · simp [j0]
   · simp [j0]
 · by_cases h1 : k = 1
   · subst h1
     by_cases j0 : j = 0
     · simp [j0]
     · by_cases j1 : j = 1
       · simp [j1]
       · simp [j0, j1]
   · by_cases j0 : j = 0
     · simp [h0, h1, j0]
     · by_cases j1 : j = 1
       · simp [h0, h1, j1]
       · simp [h0, h1, j0, j1]
structure AppI (s s' : Sta) : Prop where
 seq : s'.seq = s.seq + 1
 fen : s.fence ≤ s'.fence
 hi : ∀ k, s.hi k ≤ s'.hi k
theorem rc_tier {r : Rc} (h : r.ok = true) : (r.k = 1 → r.tier = 0 ∧ r.en.ok = true) ∧ (r.k = 3 → 0 < r.tier ∧ r.en.ok = true) ∧ (r.k = 4 → r.en.ok = true) := by
 unfold Rc.ok at h
 refine ⟨fun e => ?_, fun e => ?_, fun e => ?_⟩
 · rw [if_pos e] at h
   simp only [Bool.and_eq_true, decide_eq_true_eq] at h
   exact h.2
 · rw [if_neg (by omega), if_neg (by omega), if_pos e] at h
   simp only [Bool.and_eq_true, decide_eq_true_eq] at h
   exact h.2
 · rw [if_neg (by omega), if_neg (by omega), if_neg (by omega), if_pos e] at h
   simp only [Bool.and_eq_true, decide_eq_true_eq] at h
   exact h.2
theorem wd_b (k : Int) : 1 ≤ wd k ∧ wd k ≤ 20 := by
 unfold wd
 split
 · omega
 · split <;> omega
theorem app_no {s : Sta} {r : Rc} (h : s.takes r = false) : s.app r = s.tick := by
 unfold Sta.app
 rw [h, if_neg (by simp)]
theorem app_1 {s : Sta} {r : Rc} (h : s.takes r = true) (hk : r.k = 1) (ht : r.tier = 0) : s.app r = { s with seq := s.seq + 1, es := s.es ++ [r.en], h0 := r.t } := by
 unfold Sta.app
 rw [if_pos h, if_pos (.inl hk), ht]
 rfl
theorem app_2 {s : Sta} {r : Rc} (h : s.takes r = true) (hk : r.k = 2) : s.app r = { s with seq := s.seq + 1, fence := r.tok } := by
 unfold Sta.app
 rw [if_pos h, if_neg (by omega), if_pos hk]
 rfl
theorem app_3 {s : Sta} {r : Rc} (h : s.takes r = true) (hk : r.k = 3) : s.app r = ({ s with seq := s.seq + 1, es := s.es ++ [r.en] } : Sta).lift r.tier r.t := by
 unfold Sta.app
 rw [if_pos h, if_pos (.inr hk)]
 rfl
theorem app_4 {s : Sta} {r : Rc} (h : s.takes r = true) (hk : r.k = 4) : s.app r = ({ s with seq := s.seq + 1, es := noE r.key s.es, ts := s.ts ++ [⟨s.seq + 1, r.key⟩] } : Sta).lower r.tier r.t := by
 unfold Sta.app
 rw [if_pos h, if_neg (by omega), if_neg (by omega), if_pos hk]
 rfl
theorem app_5 {s : Sta} {r : Rc} (h : s.takes r = true) (hk : r.k = 5) : s.app r = { s with seq := s.seq + 1, ts := noT r.key s.ts } := by
 unfold Sta.app
 rw [if_pos h, if_neg (by omega), if_neg (by omega), if_neg (by omega)]
 rfl
structure Tk1 (s : Sta) (r : Rc) : Prop where
 f : r.f = s.h0
 n : kN r.key = s.seq + 1
structure Tk3 (s : Sta) (r : Rc) : Prop where
 tok : r.tok = s.fence
 f : r.f = s.hi r.tier
 n : kN r.key = r.f
 w : kW r.key = r.tok
 t : r.t = r.f + wd r.tier
 hh : r.t ≤ s.hi (r.tier - 1)
structure Tk4 (s : Sta) (r : Rc) : Prop where
 tok : r.tok = s.fence
 e : r.en ∈ s.es
 t : r.tier = 2 ∨ r.t ≤ s.hi (r.tier + 1)
theorem tkF1 {s : Sta} {r : Rc} (h : s.takes r = true) (hk : r.k = 1) : Tk1 s r := by
 unfold Sta.takes at h
 rw [if_pos hk] at h
 simp only [Bool.and_eq_true, decide_eq_true_eq] at h
 exact ⟨h.1, h.2.1⟩
theorem tkF2 {s : Sta} {r : Rc} (h : s.takes r = true) (hk : r.k = 2) : s.fence < r.tok := by
 unfold Sta.takes at h
 rw [if_neg (by omega), if_pos hk] at h
 exact of_decide_eq_true h
theorem tkF3 {s : Sta} {r : Rc} (h : s.takes r = true) (hk : r.k = 3) : Tk3 s r := by
 unfold Sta.takes at h
 rw [if_neg (by omega), if_neg (by omega), if_pos hk] at h
 simp only [Bool.and_eq_true, decide_eq_true_eq] at h
 obtain ⟨h1, h2, h3, h4, h5, h6, _⟩ := h
 exact ⟨h1, h2, h3, h4, h5, h6⟩
theorem tkF4 {s : Sta} {r : Rc} (h : s.takes r = true) (hk : r.k = 4) : Tk4 s r := by
 unfold Sta.takes at h
 rw [if_neg (by omega), if_neg (by omega), if_neg (by omega), if_pos hk] at h
 simp only [Bool.and_eq_true, decide_eq_true_eq, Bool.or_eq_true] at h
 obtain ⟨h1, h2, h3⟩ := h
 refine ⟨h1, ?_, h3⟩
 unfold headIs at h2
 cases hL : ofT s.es r.tier with
 | nil => rw [hL] at h2; cases h2
 | cons a l =>
   rw [hL] at h2
   have h2 := of_decide_eq_true h2
   rw [← h2]
   exact (List.mem_filter.1 (show a ∈ ofT s.es r.tier by rw [hL]; simp)).1
theorem rc_kinds {r : Rc} (h : r.ok = true) : r.k = 1 ∨ r.k = 2 ∨ r.k = 3 ∨ r.k = 4 ∨ r.k = 5 := by
 unfold Rc.ok at h
 by_cases h1 : r.k = 1
 · exact .inl h1
 by_cases h2 : r.k = 2
 · exact .inr (.inl h2)
 by_cases h3 : r.k = 3
 · exact .inr (.inr (.inl h3))
 by_cases h4 : r.k = 4
 · exact .inr (.inr (.inr (.inl h4)))
 by_cases h5 : r.k = 5
 · exact .inr (.inr (.inr (.inr h5)))
 rw [if_neg h1, if_neg h2, if_neg h3, if_neg h4, if_neg h5] at h
 cases h
theorem tier_12 {r : Rc} (h : r.ok = true) (hk : r.k = 3) : r.tier = 1 ∨ r.tier = 2 := by
 obtain ⟨a, b⟩ := (rc_tier h).2.1 hk
 have := (en_tier b).1
 have e : r.en.tier = r.tier := rfl
 omega
theorem app_mono {s : Sta} {r : Rc} (hr : r.ok = true) : AppI s (s.app r) := by
 cases ht : s.takes r with
 | false => rw [app_no ht]; exact ⟨rfl, Int.le_refl _, fun _ => Int.le_refl _⟩
 | true =>
   rcases rc_kinds hr with hk | hk | hk | hk | hk
   · obtain ⟨a, b⟩ := (rc_tier hr).1 hk
     have T := tkF1 ht hk
     have e := (en_tier b).2
     rw [app_1 ht hk a]
     refine ⟨rfl, Int.le_refl _, fun k => ?_⟩
     have := T.f
     have e2 : r.en.t = r.t := rfl
     have e1 : r.en.f = r.f := rfl
     unfold Sta.hi
     by_cases h0 : k = 0
     · simp only [h0, if_true]; omega
     · simp only [h0, if_false]; exact Int.le_refl _
   · have := tkF2 ht hk
     rw [app_2 ht hk]
     exact ⟨rfl, by show s.fence ≤ r.tok; omega, fun _ => Int.le_refl _⟩
   · have T := tkF3 ht hk
     rw [app_3 ht hk]
     have l := lift_es ({ s with seq := s.seq + 1, es := s.es ++ [r.en] } : Sta) r.tier r.t
     refine ⟨l.2.2.1, by rw [l.2.2.2]; exact Int.le_refl _, fun k => ?_⟩
     rw [hi_lift]
     have h1 := T.f
     have h2 := T.t
     have h3 := wd_b r.tier
     split
     · rename_i hc
       have hk2 : s.hi k = s.hi r.tier := by
        have := tier_12 hr hk
        unfold Sta.hi
        rcases hc with ⟨c1, c2⟩ | ⟨c1, c2⟩ | ⟨c1, c2⟩
        · rw [c1, c2]
        · rw [c1, c2]
        · rw [if_neg c1.1, if_neg c1.2, if_neg c2.1, if_neg c2.2]
       omega
     · exact Int.le_refl _
   · rw [app_4 ht hk]
     have l := lower_es ({ s with seq := s.seq + 1, es := noE r.key s.es, ts := s.ts ++ [⟨s.seq + 1, r.key⟩] } : Sta) r.tier r.t
     refine ⟨l.2.2.1, by rw [l.2.2.2]; exact Int.le_refl _, fun k => ?_⟩
     have : ∀ (q : Sta) a b, (q.lower a b).hi k = q.hi k := fun q a b => by
      unfold Sta.lower
      split
      · rfl
      · split <;> rfl
     rw [this]
     exact Int.le_refl _
   · rw [app_5 ht hk]
     exact ⟨rfl, Int.le_refl _, fun _ => Int.le_refl _⟩
section lay
variable {x y : Sto} {n : Nat} {s : Sta} {ac ac' : List Smp} {r : Rc}
theorem data_man {k : List UInt8} (hk : kOk k = true) (i : Int) : k ≠ manK i := ne_of_kOk hk (kOk_man i)
theorem Gr.lay (me : Int) (I : StI x n s ac) (hr : r.ok = true) (S : Same x y (manK ((n + 1 : Nat) : Int))) (hac : ∃ b, ac' = ac ++ b ∧ ∀ a ∈ b, s.h0 ≤ a.t) : Gr me x s ac y (s.app r) ac' := by
 have A := app_mono (s := s) hr
 refine ⟨by have := A.seq; omega, A.fen, A.hi, hac, fun q h1 h2 h3 h4 => ?_, fun q h1 h2 h3 h4 h5 h6 => (S q (data_man h1 _)).1.trans h6, fun h => by have := A.seq; omega, fun i h1 h2 h3 => ?_⟩
 · obtain ⟨d1, d2⟩ := S q (data_man h1 _)
   have := d1.symm.trans h4
   exact ⟨this, by rw [d2 this]⟩
 · obtain ⟨d1, d2⟩ := S (pinK i) fun e => man_ne_pin _ _ e.symm
   exact ⟨d1.trans h3, by rw [d2 h3]⟩
theorem StI.lay (I : StI x n s ac) (hr : r.ok = true) (L : LogX y (n + 1) (s.app r)) (S : Same x y (manK ((n + 1 : Nat) : Int))) (hac : ∃ b, ac' = ac ++ b ∧ ∀ a ∈ b, s.h0 ≤ a.t) (li : LogI (s.app r))
 (hes : ∀ e ∈ (s.app r).es, e ∈ s.es ∨ (KnE y (s.app r) ac' e ∧ y.has e.key = true)) (acok : smpsOK ac' = true) (ach : ∀ a ∈ ac', a.t < (s.app r).h0) : StI y (n + 1) (s.app r) ac' := by
 have G := Gr.lay 0 I hr S hac
 refine ⟨L, li, fun e he => ?_, fun q hq h1 h2 => ?_, acok, ach⟩
 · rcases hes e he with h | h
   · obtain ⟨a, b⟩ := I.es e h
     exact ⟨a.grow G I.li, (S e.key (data_man (en_key a.st.ok).1 _)).1.trans b⟩
   · exact h
 · obtain ⟨d1, d2⟩ := S q (data_man h1 _)
   rw [d1] at hq
   obtain ⟨b1, b2⟩ := I.dat q hq h1 h2
   rw [d2 hq]
   refine ⟨?_, Int.le_trans b2 G.h0⟩
   rw [b1]
   unfold datK
   rw [G.agI b2]
theorem logI_app (I : StI x n s ac) (hr : r.ok = true) : LogI (s.app r) := by
 have A := app_mono (s := s) hr
 have hl := I.li
 have seqb := I.seqB
 have tsm : ∀ t ∈ s.ts, (kT t.key = 0 → kN t.key ≤ (s.app r).seq) ∧ (kT t.key ≠ 0 → kN t.key < (s.app r).hi (kT t.key)) := fun t ht => by
  obtain ⟨a, b⟩ := hl.ts t ht
  have := A.seq
  exact ⟨fun h => by have := a h; omega, fun h => Int.lt_of_lt_of_le (b h) (A.hi _)⟩
 cases ht : s.takes r with
 | false =>
   rw [app_no ht] at tsm ⊢
   exact ⟨hl.h10, hl.h21, hl.l01, hl.l12, hl.a1, hl.a2, hl.nn, tsm⟩
 | true =>
   rcases rc_kinds hr with hk | hk | hk | hk | hk
   · obtain ⟨a, b⟩ := (rc_tier hr).1 hk
     have T := tkF1 ht hk
     have e := (en_tier b).2
     rw [app_1 ht hk a] at tsm ⊢
     have e1 : r.en.f = r.f := rfl
     have e2 : r.en.t = r.t := rfl
     have := T.f
     have h1 := hl.h10
     have h2 := hl.nn
     exact ⟨by show s.h1 ≤ r.t; omega, hl.h21, hl.l01, hl.l12, hl.a1, hl.a2, ⟨h2.1, by show r.t ≤ 100000; omega⟩, tsm⟩
   · rw [app_2 ht hk] at tsm ⊢
     exact ⟨hl.h10, hl.h21, hl.l01, hl.l12, hl.a1, hl.a2, hl.nn, tsm⟩
   · have T := tkF3 ht hk
     have t12 := tier_12 hr hk
     rw [app_3 ht hk] at tsm ⊢
     obtain ⟨q1, q2, q3, q4, q5, q6, q7, _⟩ := hl
     have u1 := T.f
     have u2 := T.t
     have u3 := T.hh
     rcases t12 with t1 | t1
     · rw [t1] at tsm u1 u2 u3 ⊢
       have v1 : r.f = s.h1 := u1
       have v2 : r.t = r.f + 5 := u2
       have v3 : r.t ≤ s.h0 := u3
       exact ⟨by show r.t ≤ s.h0; omega, by show s.h2 ≤ r.t; omega, by show s.l0 ≤ r.t; omega, q4, by show r.t % 5 = 0; omega, q6, q7, tsm⟩
     · rw [t1] at tsm u1 u2 u3 ⊢
       have v1 : r.f = s.h2 := u1
       have v2 : r.t = r.f + 20 := u2
       have v3 : r.t ≤ s.h1 := u3
       exact ⟨q1, by show r.t ≤ s.h1; omega, q3, by show s.l1 ≤ r.t; omega, q5, by show r.t % 20 = 0; omega, ⟨by show 0 ≤ r.t; omega, q7.2⟩, tsm⟩
   · have T := tkF4 ht hk
     obtain ⟨kn, _⟩ := I.es _ T.e
     have en := en_key kn.st.ok
     have ets : ∀ t ∈ s.ts ++ [(⟨s.seq + 1, r.key⟩ : Tb)], (kT t.key = 0 → kN t.key ≤ s.seq + 1) ∧ (kT t.key ≠ 0 → kN t.key < s.hi (kT t.key)) := fun t h => by
      rcases List.mem_append.1 h with h | h
      · obtain ⟨a, b⟩ := hl.ts t h
        exact ⟨fun g => by have := a g; omega, b⟩
      · have : t = ⟨s.seq + 1, r.key⟩ := by simpa using h
        subst this
        have e1 : kT r.key = r.tier := en.2.1
        refine ⟨fun g => ?_, fun g => ?_⟩
        · have := (kn.st.t0 (show r.tier = 0 by rw [← e1]; exact g)).1.2
          have : kN r.key ≤ s.seq := this
          show kN r.key ≤ s.seq + 1
          omega
        · have h1 := kn.st.t1 (show r.tier ≠ 0 by rw [← e1]; exact g)
          have h2 := kn.st.th
          have h2 : r.t ≤ s.hi r.tier := h2
          have h1a : r.f = kN r.key := h1.1
          have h3 : r.f < r.t := en.2.2.2.1
          show kN r.key < s.hi (kT r.key)
          rw [e1]
          omega
     rw [app_4 ht hk]
     have hhi : ∀ (q : Sta) a b k, (q.lower a b).hi k = q.hi k := fun q a b k => by
      unfold Sta.lower
      split
      · rfl
      · split <;> rfl
     have les := lower_es ({ s with seq := s.seq + 1, es := noE r.key s.es, ts := s.ts ++ [⟨s.seq + 1, r.key⟩] } : Sta) r.tier r.t
     obtain ⟨q1, q2, q3, q4, q5, q6, q7, _⟩ := hl
     have u := T.t
     have tt := (en_tier kn.st.ok).1
     have tt : r.tier = 0 ∨ r.tier = 1 ∨ r.tier = 2 := tt
     have ts' : ∀ t ∈ (({ s with seq := s.seq + 1, es := noE r.key s.es, ts := s.ts ++ [⟨s.seq + 1, r.key⟩] } : Sta).lower r.tier r.t).ts, (kT t.key = 0 → kN t.key ≤ (({ s with seq := s.seq + 1, es := noE r.key s.es, ts := s.ts ++ [⟨s.seq + 1, r.key⟩] } : Sta).lower r.tier r.t).seq) ∧ (kT t.key ≠ 0 → kN t.key < (({ s with seq := s.seq + 1, es := noE r.key s.es, ts := s.ts ++ [⟨s.seq + 1, r.key⟩] } : Sta).lower r.tier r.t).hi (kT t.key)) := by
      rw [les.2.1, les.2.2.1]
      intro t h
      rw [hhi]
      exact ets t h
     generalize hts : ({ s with seq := s.seq + 1, es := noE r.key s.es, ts := s.ts ++ [⟨s.seq + 1, r.key⟩] } : Sta) = S0 at *
     have z : S0.h0 = s.h0 ∧ S0.h1 = s.h1 ∧ S0.h2 = s.h2 ∧ S0.l0 = s.l0 ∧ S0.l1 = s.l1 := by rw [← hts]; exact ⟨rfl, rfl, rfl, rfl, rfl⟩
     obtain ⟨z0, z1, z2, z3, z4⟩ := z
     rcases tt with t1 | t1 | t1
     · rw [t1] at ts' u ⊢
       have u : r.t ≤ s.h1 := by rcases u with u | u; · omega
                                 · exact u
       exact ⟨by show S0.h1 ≤ S0.h0; omega, by show S0.h2 ≤ S0.h1; omega, by show r.t ≤ S0.h1; omega, by show S0.l1 ≤ S0.h2; omega, by show S0.h1 % 5 = 0; omega, by show S0.h2 % 20 = 0; omega, by show 0 ≤ S0.h2 ∧ S0.h0 ≤ 100000; omega, ts'⟩
     · rw [t1] at ts' u ⊢
       have u : r.t ≤ s.h2 := by rcases u with u | u; · omega
                                 · exact u
       exact ⟨by show S0.h1 ≤ S0.h0; omega, by show S0.h2 ≤ S0.h1; omega, by show S0.l0 ≤ S0.h1; omega, by show r.t ≤ S0.h2; omega, by show S0.h1 % 5 = 0; omega, by show S0.h2 % 20 = 0; omega, by show 0 ≤ S0.h2 ∧ S0.h0 ≤ 100000; omega, ts'⟩
     · rw [t1] at ts' ⊢
       exact ⟨by show S0.h1 ≤ S0.h0; omega, by show S0.h2 ≤ S0.h1; omega, by show S0.l0 ≤ S0.h1; omega, by show S0.l1 ≤ S0.h2; omega, by show S0.h1 % 5 = 0; omega, by show S0.h2 % 20 = 0; omega, by show 0 ≤ S0.h2 ∧ S0.h0 ≤ 100000; omega, ts'⟩
   · rw [app_5 ht hk] at tsm ⊢
     exact ⟨hl.h10, hl.h21, hl.l01, hl.l12, hl.a1, hl.a2, hl.nn, fun t h => tsm t (List.mem_filter.1 h).1⟩
theorem StI.recd (I : StI x n s ac) (hr : r.ok = true) (h1 : r.k ≠ 1) (h3 : r.k = 3 → s.takes r = true → x.has r.key = true) (L : LogX y (n + 1) (s.app r)) (S : Same x y (manK ((n + 1 : Nat) : Int))) : StI y (n + 1) (s.app r) ac := by
 have hac : ∃ b : List Smp, ac = ac ++ b ∧ ∀ a ∈ b, s.h0 ≤ a.t := ⟨[], by simp, by simp⟩
 have G := Gr.lay 0 I hr S hac
 refine I.lay hr L S hac (logI_app I hr) (fun e he => ?_) I.acok (fun a ha => Int.lt_of_lt_of_le (I.ach a ha) G.h0)
 cases ht : s.takes r with
 | false => rw [app_no ht] at he; exact .inl he
 | true =>
   rcases rc_kinds hr with hk | hk | hk | hk | hk
   · exact absurd hk h1
   · rw [app_2 ht hk] at he; exact .inl he
   · have he2 := he
     rw [app_3 ht hk, (lift_es _ _ _).1] at he2
     have he2 : e ∈ s.es ++ [r.en] := he2
     rcases List.mem_append.1 he2 with h | h
     · exact .inl h
     · right
       have : e = r.en := by simpa using h
       subst this
       have T := tkF3 ht hk
       have t12 := tier_12 hr hk
       have ek := ((rc_tier hr).2.1 hk).2
       have hh := h3 hk ht
       refine ⟨⟨⟨ek, ?_, fun h0 => ?_, fun h0 => ⟨T.n.symm, T.t, ?_⟩⟩, fun h0 => ?_⟩, (S _ (data_man (en_key ek).1 _)).1.trans hh⟩
       · rw [app_3 ht hk, hi_lift]
         rw [if_pos (by have : r.en.tier = r.tier := rfl; omega)]
         exact Int.le_refl _
       · have : r.tier = 0 := h0
         omega
       · show r.f % wd r.tier = 0
         have u1 := T.f
         have q5 := I.li.a1
         have q6 := I.li.a2
         rcases t12 with t1 | t1
         · rw [t1] at u1 ⊢
           have v1 : r.f = s.h1 := u1
           show r.f % 5 = 0
           omega
         · rw [t1] at u1 ⊢
           have v1 : r.f = s.h2 := u1
           show r.f % 20 = 0
           omega
       · have : r.tier = 0 := h0
         omega
   · rw [app_4 ht hk, (lower_es _ _ _).1] at he
     exact .inl (List.mem_filter.1 he).1
   · rw [app_5 ht hk] at he; exact .inl he
theorem keys_app {k : List UInt8} (hk : k ∈ s.keys) (hr : r.ok = true) (hp : r.k = 5 → k ≠ r.key) : k ∈ (s.app r).keys := by
 unfold Sta.keys at hk ⊢
 cases ht : s.takes r with
 | false => rw [app_no ht]; exact hk
 | true =>
   rcases rc_kinds hr with h | h | h | h | h
   · rw [app_1 ht h ((rc_tier hr).1 h).1]
     rcases List.mem_append.1 hk with g | g
     · refine List.mem_append.2 (.inl ?_)
       show k ∈ (s.es ++ [r.en]).map (·.key)
       rw [List.map_append]
       exact List.mem_append.2 (.inl g)
     · exact List.mem_append.2 (.inr g)
   · rw [app_2 ht h]; exact hk
   · rw [app_3 ht h, (lift_es _ _ _).1, (lift_es _ _ _).2.1]
     rcases List.mem_append.1 hk with g | g
     · refine List.mem_append.2 (.inl ?_)
       show k ∈ (s.es ++ [r.en]).map (·.key)
       rw [List.map_append]
       exact List.mem_append.2 (.inl g)
     · exact List.mem_append.2 (.inr g)
   · rw [app_4 ht h, (lower_es _ _ _).1, (lower_es _ _ _).2.1]
     rcases List.mem_append.1 hk with g | g
     · obtain ⟨e, he, rfl⟩ := List.mem_map.1 g
       by_cases q : e.key = r.key
       · refine List.mem_append.2 (.inr ?_)
         show e.key ∈ (s.ts ++ [(⟨s.seq + 1, r.key⟩ : Tb)]).map (·.key)
         rw [List.map_append, q]
         exact List.mem_append.2 (.inr (by simp))
       · refine List.mem_append.2 (.inl (List.mem_map.2 ⟨e, ?_, rfl⟩))
         exact List.mem_filter.2 ⟨he, by simp [q]⟩
     · refine List.mem_append.2 (.inr ?_)
       show k ∈ (s.ts ++ [(⟨s.seq + 1, r.key⟩ : Tb)]).map (·.key)
       rw [List.map_append]
       exact List.mem_append.2 (.inl g)
   · rw [app_5 ht h]
     rcases List.mem_append.1 hk with g | g
     · exact List.mem_append.2 (.inl g)
     · obtain ⟨e, he, rfl⟩ := List.mem_map.1 g
       refine List.mem_append.2 (.inr (List.mem_map.2 ⟨e, List.mem_filter.2 ⟨he, ?_⟩, rfl⟩))
       have := hp h
       simp [this]
theorem Kept.lay (C : Int) (hr : r.ok = true) (h5 : r.k ≠ 5) (S : Same x y (manK ((n + 1 : Nat) : Int))) : Kept C x s y (s.app r) := fun i til h1 h2 h3 h4 h6 q h7 h8 h9 =>
 ⟨(S q (data_man h8 _)).1.trans h9, keys_app h7 hr fun h => absurd h h5⟩
theorem StI.add (I : StI x n s ac) {f t : Int} {id : Nat} {b : List Smp} (hr : (Rc.mk 1 0 0 f t (keyB 0 (n + 1) id)).ok = true) (hid : id ≤ 9) (hf : f = s.h0) (hb8 : b.length ≤ 8) (hb : ∀ a ∈ b, s.h0 ≤ a.t ∧ a.t < t)
 (hh : x.has (keyB 0 (n + 1) id) = true) (hd : (x.get (keyB 0 (n + 1) id)).data = smpsText b) (hok : smpsOK (ac ++ b) = true)
 (L : LogX y (n + 1) (s.app ⟨1, 0, 0, f, t, keyB 0 (n + 1) id⟩)) (S : Same x y (manK ((n + 1 : Nat) : Int))) :
 StI y (n + 1) (s.app ⟨1, 0, 0, f, t, keyB 0 (n + 1) id⟩) (ac ++ b) ∧ s.h0 < (s.app ⟨1, 0, 0, f, t, keyB 0 (n + 1) id⟩).h0 := by
 have hle := I.lg.le
 have hsq := I.seqN
 obtain ⟨k1, k2, k3, k4⟩ := key_fields (t := 0) (n := n + 1) (w := id) (by omega) (by omega) (by omega)
 obtain ⟨r, hrr⟩ : ∃ r : Rc, r = ⟨1, 0, 0, f, t, keyB 0 (n + 1) id⟩ := ⟨_, rfl⟩
 obtain ⟨K, hK⟩ : ∃ K, K = keyB 0 (n + 1) id := ⟨_, rfl⟩
 rw [← hK] at hrr hh hd k1 k2 k3 k4
 rw [← hK, ← hrr] at hr L ⊢
 have hac : ∃ c, ac ++ b = ac ++ c ∧ ∀ a ∈ c, s.h0 ≤ a.t := ⟨b, rfl, fun a ha => (hb a ha).1⟩
 have hk : r.k = 1 := by rw [hrr]
 have htk : s.takes r = true := by
  unfold Sta.takes
  rw [if_pos hk]
  have e1 : r.f = s.h0 := by rw [hrr]; exact hf
  have e2 : r.key = K := by rw [hrr]
  have hn : s.has K = false := by
   cases h : s.has K with
   | false => rfl
   | true =>
     have := (I.named ((has_iff s K).1 h)).1 k2
     omega
  rw [e2, hn, decide_eq_true e1, decide_eq_true (by omega : kN K = s.seq + 1)]
  rfl
 have ht0 : r.tier = 0 := by rw [hrr]
 have ea := app_1 htk hk ht0
 have eft := (en_tier ((rc_tier hr).1 hk).2).2
 have rf : r.f = f := by rw [hrr]
 have rt : r.t = t := by rw [hrr]
 have rk : r.key = K := by rw [hrr]
 have eft1 : r.f < r.t := eft.2.1
 have hin : smpsIn (ac ++ b) f t = b := by
  unfold smpsIn
  rw [List.filter_append]
  have e1 : ac.filter (fun e => within e.t f (t - 1)) = [] := List.filter_eq_nil_iff.2 fun y hy => by
   have := I.ach y hy
   simp [within]; omega
  have e2 : b.filter (fun e => within e.t f (t - 1)) = b := List.filter_eq_self.2 fun y hy => by
   have := hb y hy
   simp [within]; omega
  rw [e1, e2]; rfl
 have h0' : (s.app r).h0 = t := by rw [ea]; exact rt
 refine ⟨I.lay hr L S hac (logI_app I hr) (fun e he => ?_) hok (fun a ha => ?_), by rw [h0']; omega⟩
 · rw [ea] at he
   have he : e ∈ s.es ++ [r.en] := he
   rcases List.mem_append.1 he with h | h
   · exact .inl h
   · right
     have : e = r.en := by simpa using h
     subst this
     have ek := ((rc_tier hr).1 hk).2
     have ekk : r.en.key = K := rk
     have hs := S K (data_man k1 _)
     refine ⟨⟨⟨ek, ?_, fun h0 => ⟨?_, ?_⟩, fun h0 => absurd ht0 h0⟩, fun h0 hy => ?_⟩, by rw [ekk]; exact hs.1.trans hh⟩
     · show r.t ≤ (s.app r).hi r.tier
       rw [ht0]
       show r.t ≤ (s.app r).h0
       rw [h0', rt]; exact Int.le_refl _
     · rw [ekk, k3]
       have : (s.app r).seq = s.seq + 1 := app_seq s r
       omega
     · show (smpsIn (ac ++ b) r.f r.t).length ≤ 8
       rw [rf, rt, hin]; exact hb8
     · show (y.get r.key).data = smpsText (smpsIn (ac ++ b) r.f r.t)
       rw [rk, hs.2 hh, rf, rt, hin]
       exact hd
 · rw [h0']
   rcases List.mem_append.1 ha with h | h
   · have := I.ach a h; omega
   · exact (hb a h).2
end lay
end Go.Proofs.YtnplgeogieoioaaGreatDoor
