/- Contracts of functions that the claim reaches, and the plain law of what they compute; each theorem bears its own conditions. -/
import Derived.Test.YtfaffgneccjpbaaGreatDoorQ4
import Derived.Test.YtfaffgneccjpbaaGreatDoorQ5
import Derived.Test.YtfaffgneccjpbaaGreatDoorQ6
import Derived.Test.YtfaffgneccjpbaaGreatDoorQ7
import Derived.Test.YtfaffgneccjpbaaGreatDoorQ3
import Derived.Test.YtfaffgneccjpbaaGreatDoorV50
set_option linter.unusedVariables false
set_option linter.constructorNameAsVariable false
set_option linter.unusedSimpArgs false
set_option maxRecDepth 20000
namespace Go.Proofs.YtfaffgneccjpbaaGreatDoor
open Go Go.Vw

def inB (P : List Bk) (a b : Int) : List Bk := P.filter fun x => within x.t a (b - 1)
def foldB (P : List Bk) : Ag := P.foldl (fun x b => x.mrg b.a) default
def cntB (P : List Bk) : Int := P.foldl (fun n b => n + b.a.c) 0
theorem cntB_snoc {P : List Bk} {i : Nat} (h : i < P.length) : cntB (P.take (i + 1)) = cntB (P.take i) + (ix P i).a.c := by
  unfold cntB; rw [take_snoc h, List.foldl_append]; rfl
theorem foldB_in {P : List Bk} {a b : Int} {i : Nat} (h : i < P.length) : foldB (inB (P.take (i + 1)) a b) = if within (ix P i).t a (b - 1) = true then (foldB (inB (P.take i) a b)).mrg (ix P i).a else foldB (inB (P.take i) a b) := by
  unfold foldB inB
  rw [take_snoc h, List.filter_append, List.foldl_append]
  cases hw : within (ix P i).t a (b - 1) with
  | true => simp [hw]
  | false => simp [hw]
structure FoldBd (P : List Bk) (a b : Int) (i : Nat) : Prop where
  c : -100000000000 * (i : Int) ≤ (foldB (inB (P.take i) a b)).c ∧ (foldB (inB (P.take i) a b)).c ≤ 100000000000 * i
  s : -100000000000 * (i : Int) ≤ (foldB (inB (P.take i) a b)).s ∧ (foldB (inB (P.take i) a b)).s ≤ 100000000000 * i
  n : -100000000000 * (i : Int) ≤ cntB (P.take i) ∧ cntB (P.take i) ≤ 100000000000 * i
theorem foldB_b {P : List Bk} (hP : ∀ b ∈ P, b.a.ok = true) (a b : Int) : ∀ i : Nat, i ≤ P.length → FoldBd P a b i
  | 0, _ => by constructor <;> simp [foldB, cntB, inB, default]
  | i + 1, h => by
    obtain ⟨h1, h2, h3⟩ := foldB_b hP a b i (by omega)
    have hb := Ag.bounds (hP _ (getD_mem (L := P) h))
    obtain ⟨b1, b2, _⟩ := hb
    have b1 : -100000000000 ≤ (ix P i).a.c ∧ (ix P i).a.c ≤ 100000000000 := b1
    have b2 : -100000000000 ≤ (ix P i).a.s ∧ (ix P i).a.s ≤ 100000000000 := b2
    refine ⟨?_, ?_, ?_⟩
    · rw [foldB_in h]
      unfold Ag.mrg
      split
      · split
        · omega
        · split
          · omega
          · simp only; omega
      · omega
    · rw [foldB_in h]
      unfold Ag.mrg
      split
      · split
        · omega
        · split
          · omega
          · simp only; omega
      · omega
    · rw [cntB_snoc h]; omega
theorem foldG_fn (P : List Bk) (hl : P.length ≤ 8) (hP : ∀ b ∈ P, b.a.ok = true) (a b : Int) (hb : inI .i64 (b - 1)) (hn : cntB P ≤ 100000) : VFn Tryz.prog 96 [bks P, .int .i64 a, .int .i64 b] (.tup [(foldB (inB P a b)).av, .int .i64 0]) := by
  have hB := foldB_b hP a b
  refine VFn.introC Tryz.call96 Tryz.func96 rfl rfl ?_
  refine LoopC.mk (fun i : Nat => i ≤ P.length) (fun i => [(1, .int .i64 a), (2, .int .i64 b), (6, .bptr 0 0), (7, .int .i64 0), (8, .bptr 1 0), (9, .int .i64 (cntB (P.take i))), (13, bks P), (14, .int .i64 P.length), (15, .int .i64 i)])
    (fun i => [(0, .box [.int .i64 0, .int .i64 0, .int .i64 0, .int .i64 0, .int .i64 0, .int .i64 0]), (1, .box (foldB (inB (P.take i) a b)).cells)]) 2 (fun i => P.length - i) 0
    ⟨Nat.zero_le _, [(0, 0), (1, 1)], rfl, rfl, ⟨AVle.refl _, AVle.refl _, AVle.refl _, AVle.refl _, AVle.refl _, AVle.refl _, AVle.refl _, AVle.refl _, AVle.refl _, trivial⟩, ⟨MOle.refl _, MOle.refl _, trivial⟩⟩ ?_
  intro i hi
  refine Grd.intro (fun g => ?_) (fun g => ?_)
  · have hi2 : i < P.length := by have := of_decide_eq_true g; omega
    obtain ⟨q1, q2, q3⟩ := hB i hi
    obtain ⟨b1, b2, _⟩ := Ag.bounds (hP _ (getD_mem (L := P) hi2))
    have b1 : -100000000000 ≤ (ix P i).a.c ∧ (ix P i).a.c ≤ 100000000000 := b1
    have b2 : -100000000000 ≤ (ix P i).a.s ∧ (ix P i).a.s ≤ 100000000000 := b2
    have cw := within_fn (ix P i).t a (b - 1)
    refine And.intro (by omega) ?_
    refine And.intro (show inI .i64 (cntB (P.take i) + (ix P i).a.c) from inI64 (by omega) (by omega)) ?_
    refine And.intro hb ?_
    have ef := foldB_in (a := a) (b := b) hi2
    cases hw : within (ix P i).t a (b - 1) with
    | true =>
      rw [hw] at cw
      rw [hw, if_pos rfl] at ef
      conv => whnf
      refine CallC.sca _ (cw) ?_ ?_
      · exact rfl
      conv => whnf
      refine CallC.sca _ (merged_fn (foldB (inB (P.take i) a b)) (ix P i).a (inI64 (by omega) (by omega)) (inI64 (by omega) (by omega))) ?_ ?_
      · exact rfl
      refine And.intro (inI64 (by omega) (by omega)) ?_
      exact ⟨i + 1, hi2, by omega, [(0, 0), (1, 1)], rfl, rfl, ⟨AVle.refl _, AVle.refl _, AVle.refl _, AVle.refl _, AVle.refl _, AVle.of_eq (congrArg (AV.int .i64) (cntB_snoc hi2).symm), AVle.refl _, AVle.refl _, AVle.of_eq (congrArg (AV.int .i64) (by simp)), trivial⟩, ⟨MOle.refl _, MOle.of_eq (show MO.box ((foldB (inB (P.take i) a b)).mrg (ix P i).a).cells = _ by rw [ef]), trivial⟩⟩
    | false =>
      rw [hw] at cw
      rw [hw, if_neg (by simp)] at ef
      conv => whnf
      refine CallC.sca _ (cw) ?_ ?_
      · exact rfl
      refine And.intro (inI64 (by omega) (by omega)) ?_
      exact ⟨i + 1, hi2, by omega, [(0, 0), (1, 1)], rfl, rfl, ⟨AVle.refl _, AVle.refl _, AVle.refl _, AVle.refl _, AVle.refl _, AVle.of_eq (congrArg (AV.int .i64) (cntB_snoc hi2).symm), AVle.refl _, AVle.refl _, AVle.of_eq (congrArg (AV.int .i64) (by simp)), trivial⟩, ⟨MOle.refl _, MOle.of_eq (show MO.box (foldB (inB (P.take i) a b)).cells = _ by rw [ef]), trivial⟩⟩
  · have : i = P.length := by have := of_decide_eq_false g; omega
    subst this
    have e : P.take P.length = P := List.take_of_length_le (Nat.le_refl _)
    rw [e]
    refine Grd.intro (fun g2 => absurd (of_decide_eq_true g2) (by omega)) (fun _ => ?_)
    exact And.intro trivial (AVle.refl _)
/-- what an entry's data have of a range -/
def winV (e : En) (d : List UInt8) (a b : Int) : Ag := if e.tier = 0 then aggL (smpsIn (rdV d) a b) else foldB (inB (rbV d) a b)
def goodD (e : En) (d : List UInt8) : Bool := if e.tier = 0 then rdOk d else rbOk d && decide (cntB (rbV d) ≤ 100000)
theorem windowG_fn (e : En) (d : List UInt8) (hl : d.length ≤ 1048576) (a b : Int) (hb : inI .i64 (b - 1)) (hg : goodD e d = true) : VFn Tryz.prog 51 [e.av, .str (B d), .int .i64 a, .int .i64 b] (.tup [(winV e d a b).av, .int .i64 0]) := by
  unfold goodD at hg
  unfold winV
  by_cases he : e.tier = 0
  · rw [if_pos he] at hg ⊢
    exact windowOf_yes e he d hl a b hb hg
  rw [if_neg he] at hg ⊢
  rw [Bool.and_eq_true] at hg
  have cr := readBuckets_gen d hl (.tup [bks (rbV d), .bool true]) (fun _ => rfl) (fun h => by rw [hg.1] at h; cases h)
  have h2 := hg.1
  simp only [rbOk, Bool.and_eq_true] at h2
  have h8 := bks_8 h2.2
  have hok := bksOK_ok h2.2
  have cf := foldG_fn (rbV d) h8 (fun x hx => (hok x hx).2) a b hb (of_decide_eq_true hg.2)
  refine VFn.introC Tryz.call51 Tryz.func51 rfl rfl ?_
  refine Grd.intro (fun g => absurd (of_decide_eq_true g) he) (fun g => ?_)
  conv => whnf
  refine CallC.nl _ (cr) ?_ ?_
  · exact rfl
  conv => whnf
  refine CallC.sca _ (cf) ?_ ?_
  · exact rfl
  exact And.intro trivial (AVle.refl _)
theorem MergeAgg_fn (a b : Ag) (ha : a.ok = true) (hb : b.ok = true) (hc : a.c + b.c ≤ 100000) : VFn Tryz.prog 17 [a.av, b.av] (.tup [(a.mrg b).av, .int .i64 0]) := by
  have c1 := AggOK_fn a
  have c2 := AggOK_fn b
  rw [ha] at c1
  rw [hb] at c2
  obtain ⟨a1, a2, _⟩ := Ag.bounds ha
  obtain ⟨b1, b2, _⟩ := Ag.bounds hb
  have cm := merged_fn a b (inI64 (by omega) (by omega)) (inI64 (by omega) (by omega))
  have cf := fun {n : Nat} {rows : Nat → List AV} (hr : FirstRows 4 3 rows 0 [(false, 1), (decide (100000 < a.c + b.c), 6)]) (hn : n = 4) => first2_of false (decide (100000 < a.c + b.c)) 1 6 hr hn (r := 0) (by rw [decide_eq_false (by omega)]; rfl)
  refine VFn.introC Tryz.call17 Tryz.func17 rfl rfl ?_
  refine DrawC.mk 21 rfl (by kernel_rfl) ?_
  refine PCallC.sca _ (c1) rfl ?_
  refine PCallC.sca _ (c2) rfl ?_
  refine And.intro (show inI .i64 (a.c + b.c) from inI64 (by omega) (by omega)) ?_
  refine PCallC.sca _ (cf ⟨rfl, rfl, rfl, rfl, trivial⟩ rfl) rfl ?_
  conv => whnf
  refine CallC.sca _ (cm) ?_ ?_
  · exact rfl
  exact And.intro trivial (AVle.refl _)
def winR (x : Sto) (e : En) (a b : Int) (g : Ag) : Ag × Int := if x.has e.key = true then (g.mrg (winV e (x.get e.key).data a b), 0) else (g, 5)
structure WinOK (x : Sto) (e : En) (a b : Int) (g : Ag) : Prop where
  good : goodD e (x.get e.key).data = true
  gk : g.ok = true
  w : (winV e (x.get e.key).data a b).ok = true
  c : g.c + (winV e (x.get e.key).data a b).c ≤ 100000
theorem window_fn (x : Sto) (hs : x.ok = true) (e : En) (a b : Int) (hb : inI .i64 (b - 1)) (g : Ag) (h : x.has e.key = true → WinOK x e a b g) : VFn Tryz.prog 106 [x.av, e.av, .int .i64 a, .int .i64 b, g.av] (.tup [(winR x e a b g).1.av, .int .i64 (winR x e a b g).2]) := by
  have cg := get_fn x hs e.key
  unfold winR
  cases hh : x.has e.key with
  | false =>
    rw [hh, if_neg (by simp)] at cg
    rw [if_neg (by simp)]
    refine VFn.introC Tryz.call106 Tryz.func106 rfl rfl ?_
    conv => whnf
    refine CallC.sca _ (cg) ?_ ?_
    · exact rfl
    exact And.intro trivial (AVle.refl _)
  | true =>
    rw [hh, if_pos rfl] at cg
    rw [if_pos rfl]
    obtain ⟨w1, w2, w3, w4⟩ := h hh
    have hdl : (x.get e.key).data.length ≤ 600 := by
      have := ((stoOK_iff x).1 hs).el _ (has_get hh).1
      exact this.2.2
    have cw := windowG_fn e (x.get e.key).data (by omega) a b hb w1
    have cm := MergeAgg_fn g _ w2 w3 w4
    generalize winV e (x.get e.key).data a b = W at *
    generalize (x.get e.key).data = d at *
    refine VFn.introC Tryz.call106 Tryz.func106 rfl rfl ?_
    conv => whnf
    refine CallC.sca _ (cg) ?_ ?_
    · exact rfl
    conv => whnf
    refine CallC.sca _ (cw) ?_ ?_
    · exact rfl
    conv => whnf
    refine CallC.sca _ (cm) ?_ ?_
    · exact rfl
    exact And.intro trivial (AVle.refl _)
/-- what covers a range -/
def covC (s : Sta) (k a b : Int) : Int := if within k 0 2 = true ∧ isRange a b = true ∧ a.tmod (wd k) = 0 ∧ b.tmod (wd k) = 0 then (if a < s.lo k then 15 else if s.hi k < b then 16 else 0) else 4
def covL (s : Sta) (k a b : Int) : List En := (ofT s.es k).filter (tch a b)
theorem DelOb_none (L : List Ob) (hL : L.length ≤ 1000000) (F : Nat) (row : List AV) (p : Ob → Bool) (hp : ∀ e ∈ L, VFn Tryz.prog F [e.av, .eptr row 0] (.bool (p e))) (hs : L.any p = false) :
    FnM Tryz.prog 132 1 [.osl 0, .fn (.func F) [] [.eptr row 0]] [(0, .arr 100 3 L.length fun i => (ix L i).row)] (.osl 0) [(0, .arr 100 3 L.length fun i => (ix L i).row)] 1 := by
  have c := IndexOb_1 L (by omega) F row p hp
  have h1 : fi p L = -1 := by
    rcases fi_first p L with ⟨h, _⟩ | ⟨i, hi, _, hp, _⟩
    · exact h
    · rw [List.any_eq_true.2 ⟨_, getD_mem hi, hp⟩] at hs; cases hs
  rw [h1] at c
  refine FnM.introC Tryz.call132 Tryz.func132 rfl rfl ?_
  conv => whnf
  refine CallC.sca _ (c) ?_ ?_
  · exact rfl
  exact And.intro trivial ⟨[(0, 0)], rfl, AVle.refl _, ⟨MOle.refl _, trivial⟩⟩
theorem wo_self {x : Sto} (hs : x.ok = true) {k : List UInt8} (h : x.has k = false) : wo x k = x := by
  unfold wo
  have : x.os.filter (fun o => !decide (o.key = k)) = x.os := List.filter_eq_self.2 fun o ho => by
    have : o.key ≠ k := fun e => by
      have := has_of_mem hs (List.mem_map.2 ⟨o, ho, e⟩)
      rw [h] at this; cases this
    simp [this]
  rw [this]
theorem withoutG_fn (x : Sto) (hs : x.ok = true) (k : List UInt8) : VFn Tryz.prog 88 [x.av, .str (B k)] (wo x k).av := by
  cases hk : x.has k with
  | true => exact without_fn x hs k hk
  | false =>
    have hL := (Sto.ok_at hs).2.1
    have hany : x.os.any (fun o => decide (o.key = k)) = false := by
      rw [Bool.eq_false_iff]
      intro h
      obtain ⟨o, ho, h2⟩ := List.any_eq_true.1 h
      have := has_of_mem hs (List.mem_map.2 ⟨o, ho, of_decide_eq_true h2⟩)
      rw [hk] at this; cases this
    have hd := DelOb_none x.os (by omega) 133 [.str (B k)] (fun o => decide (o.key = k)) (fun o _ => without1_fn o k) hany
    rw [wo_self hs hk]
    have : FnM Tryz.prog 88 0 [x.av, .str (B k)] [] x.own [(0, .arr 100 3 x.os.length fun i => (ix x.os i).row)] 1 := by
      refine FnM.introC Tryz.call88 Tryz.func88 rfl rfl ?_
      conv => whnf
      refine CallC.k [] (copied_own x (by omega)) rfl rfl (AVsle.refl _) trivial rfl ?_
      conv => whnf
      refine CallC.m [(3, 0)] hd rfl rfl (AVsle.refl _) ⟨MOle.refl _, trivial⟩ rfl ⟨fun i hi => rfl, trivial⟩ rfl ?_
      exact And.intro trivial ⟨[(3, 0)], rfl, AVle.refl _, ⟨MOle.refl _, trivial⟩⟩
    exact this.vfn
end Go.Proofs.YtfaffgneccjpbaaGreatDoor
set_option linter.unusedVariables false
set_option linter.constructorNameAsVariable false
set_option linter.unusedSimpArgs false
set_option maxRecDepth 20000
namespace Go.Proofs.YtfaffgneccjpbaaGreatDoor
open Go Go.Vw

def Wk.ok2 (w : Wk) : Bool := w.ins.all En.ok && (within w.id 0 9 && (within w.ph 0 7 && (within w.tok (if decide (1 < w.ph) = true then 1 else 0) 999999 && ((!within w.ph 4 6 || (w.job.ok && (decide (w.job.tok = w.tok) && (decide (w.job.k = 3) || (decide (w.ph = 6) && decide (w.job.k = 4)))))) && (w.got.ok && (decide (w.got.c ≤ 1000) && decide ((w.ins.length : Int) ≤ 300)))))))
def igOK (id seq f t : Int) (b : List Smp) (put : Bool) : Bool := within id 0 9 && (smpsOK b && (!decide (8 < (b.length : Int)) && (if put = true then decide (0 < (b.length : Int)) && (within seq 1 999999 && (within f 0 (ix b (Int.toNat 0)).t && decide (t = (ix b ((b.length : Int) - 1).toNat).t + 1))) else decide (seq = 0) && (decide (f = 0) && decide (t = 0)))))
def Ig.ok (e : Ig) : Bool := igOK e.id e.seq e.f e.t e.b e.put
end Go.Proofs.YtfaffgneccjpbaaGreatDoor
set_option linter.unusedVariables false
set_option linter.constructorNameAsVariable false
set_option linter.unusedSimpArgs false
set_option maxRecDepth 20000
namespace Go.Proofs.YtfaffgneccjpbaaGreatDoor
open Go Go.Vw

def atTier (k : Int) (x : En) : Bool := x.ok && decide (x.tier = k)
def Rr.ok (r : Rr) : Bool := within r.id 0 9 && (within r.ph 0 4 && (within r.tier 0 2 && (isRange r.f r.t && (within r.til 0 200000 && (within r.code 0 19 && (gotOK r.got && (decide ((r.left.length : Int) ≤ 300) && r.left.all (atTier r.tier))))))))
theorem ReaderOK1_fn (e : En) (r : Rr) : VFn Tryz.prog 102 [e.av, .eptr r.row 0] (.bool (atTier r.tier e)) := by
  refine VFn.introC Tryz.call102 Tryz.func102 rfl rfl ?_
  repeat' (conv => whnf
           first
             | (refine Grd.intro (fun h => ?_) (fun h => ?_); rotate_left; focus (exfalso; simp_all; done))
             | (refine Grd.intro (fun h => ?_) (fun h => ?_); focus (exfalso; simp_all; done))
             | refine Grd.intro (fun h => ?_) (fun h => ?_)
             | (refine CallC.sca _ (entryOK_fn e) ?_ ?_; focus (exact rfl))
             | (refine And.intro trivial (AVle.of_eq (congrArg AV.bool ?_)); focus (simp_all [atTier]; done))
             | (refine And.intro trivial (AVle.of_eq (congrArg AV.bool ?_)); focus (simp only [atTier, *, cond_true, cond_false, Bool.true_and, Bool.and_true, Bool.false_and, Bool.and_false, Bool.not_true, Bool.not_false, Bool.true_or, Bool.or_true, Bool.false_or, Bool.or_false, if_true, ite_true, reduceIte]; done))
             | (refine And.intro trivial (AVle.of_eq (congrArg AV.bool ?_)); focus (simp_all [atTier]; intros; omega))
             | (refine And.intro trivial (AVle.of_eq (congrArg AV.bool ?_)); focus (simp only [cond_true, cond_false, Bool.not_eq_true', Bool.not_eq_false'] at *; simp only [atTier, *, cond_true, cond_false, Bool.true_and, Bool.and_true, Bool.false_and, Bool.and_false, Bool.not_true, Bool.not_false, Bool.true_or, Bool.or_true, Bool.false_or, Bool.or_false, if_true, ite_true, reduceIte]; done))
             | fail)
theorem ReaderOK_fn (r : Rr) (h : r.left.length ≤ 1048576) : VFn Tryz.prog 54 [r.av] (.bool r.ok) := by
  refine VFn.introC Tryz.call54 Tryz.func54 rfl rfl ?_
  repeat' (conv => whnf
           first
             | (refine Grd.intro (fun h => ?_) (fun h => ?_); rotate_left; focus (exfalso; simp_all; done))
             | (refine Grd.intro (fun h => ?_) (fun h => ?_); focus (exfalso; simp_all; done))
             | refine Grd.intro (fun h => ?_) (fun h => ?_)
             | (refine CallC.sca _ (isId0 r.id) ?_ ?_; focus (exact rfl))
             | (refine CallC.sca _ (within_fn r.ph 0 4) ?_ ?_; focus (exact rfl))
             | (refine CallC.sca _ (isTier_fn r.tier) ?_ ?_; focus (exact rfl))
             | (refine CallC.sca _ (isRange_fn r.f r.t) ?_ ?_; focus (exact rfl))
             | (refine CallC.sca _ (isUntil0 r.til) ?_ ?_; focus (exact rfl))
             | (refine CallC.sca _ (isCode0 r.code) ?_ ?_; focus (exact rfl))
             | (refine CallC.sca _ (isGot_fn r.got) ?_ ?_; focus (exact rfl))
             | (refine CallC.sca _ (allEnC_fn r.left (by omega) 102 r.row (atTier r.tier) (fun e _ => ReaderOK1_fn e r)) ?_ ?_; focus (exact rfl))
             | (refine And.intro trivial (AVle.of_eq (congrArg AV.bool ?_)); focus (simp_all [Rr.ok, -List.all_eq_true, -List.all_eq_false]; done))
             | (refine And.intro trivial (AVle.of_eq (congrArg AV.bool ?_)); focus (simp only [Rr.ok, *, cond_true, cond_false, Bool.true_and, Bool.and_true, Bool.false_and, Bool.and_false, Bool.not_true, Bool.not_false, Bool.true_or, Bool.or_true, Bool.false_or, Bool.or_false, if_true, ite_true, reduceIte]; done))
             | (refine And.intro trivial (AVle.of_eq (congrArg AV.bool ?_)); focus (simp_all [Rr.ok, -List.all_eq_true, -List.all_eq_false]; intros; omega))
             | (refine And.intro trivial (AVle.of_eq (congrArg AV.bool ?_)); focus (simp only [cond_true, cond_false, Bool.not_eq_true', Bool.not_eq_false'] at *; simp only [Rr.ok, *, cond_true, cond_false, Bool.true_and, Bool.and_true, Bool.false_and, Bool.and_false, Bool.not_true, Bool.not_false, Bool.true_or, Bool.or_true, Bool.false_or, Bool.or_false, if_true, ite_true, reduceIte]; done))
             | fail)
def Rr.ok2 (r : Rr) : Bool := r.left.all (atTier r.tier) && (within r.id 0 9 && (within r.ph 0 4 && (within r.til 0 200000 && (within r.code 0 19 && (r.got.ok && (!decide (1000 < r.got.c) && (!decide (300 < (r.left.length : Int)) && (within r.tier 0 2 && isRange r.f r.t))))))))
end Go.Proofs.YtfaffgneccjpbaaGreatDoor
set_option linter.unusedVariables false
set_option linter.constructorNameAsVariable false
set_option linter.unusedSimpArgs false
set_option maxRecDepth 20000
namespace Go.Proofs.YtfaffgneccjpbaaGreatDoor
open Go Go.Vw

theorem tick_staOK {s : Sta} (h : StaOK s) (hq : s.seq < 999999) : StaOK s.tick :=
  ⟨by have := h.q; exact ⟨show 0 ≤ s.seq + 1 by omega, show s.seq + 1 ≤ 999999 by omega⟩, h.f, h.len, h.es, fun t ht => by have := h.ts t ht; exact ⟨this.1, this.2.1, show t.seq ≤ s.seq + 1 by omega⟩, h.nd, h.lo, h.runs⟩
theorem logN_staOK (x : Sto) : ∀ n : Nat, n ≤ 400 → StaOK (logN x n)
  | 0, _ => staOK0
  | n + 1, hn => by
    have ih := logN_staOK x n (by omega)
    have hs := logN_seq x n
    have hl := logN_len x n
    show StaOK (stepL x (logN x n))
    unfold stepL
    split
    · exact tick_staOK ih (by omega)
    · rename_i r hr
      exact app_staOK ih (readR_ok hr) (by omega) (by omega)
theorem logS_ok (x : Sto) : (logS x).ok = true := (staOK_iff _).2 (logN_staOK x _ (log_b x).2.1)
end Go.Proofs.YtfaffgneccjpbaaGreatDoor
set_option linter.unusedVariables false
set_option linter.constructorNameAsVariable false
set_option linter.unusedSimpArgs false
set_option maxRecDepth 20000
namespace Go.Proofs.YtfaffgneccjpbaaGreatDoor
open Go Go.Vw

theorem cover_fn (s : Sta) (hL : s.es.length ≤ 1000000) (k a b : Int) (hk : within k 0 2 = true) (hr : isRange a b = true) : VFn Tryz.prog 105 [s.av, .int .i64 k, .int .i64 a, .int .i64 b]
    (if covC s k a b = 0 then .tup [ents (covL s k a b), .int .i64 0] else .tup [.nilsl, .int .i64 (covC s k a b)]) := by
  have c1 := isTier_fn k
  have c2 := isRange_fn a b
  rw [hk] at c1
  rw [hr] at c2
  have hk3 : k = 0 ∨ k = 1 ∨ k = 2 := by simp [within] at hk; omega
  have cw := width_fn k hk3
  have hab : (0 ≤ a ∧ a ≤ 100000) ∧ (a ≤ b ∧ b ≤ 100000) := by simp [isRange, within] at hr; omega
  have ct : VFn Tryz.prog 143 [s.av, .int .i64 k, .int .i64 a, .int .i64 b] (ents (covL s k a b)) := (touching_own s k a b hL).vfn
  have cf : ∀ {n : Nat} {rows : Nat → List AV} {p q : Bool} {R : Int}, FirstRows 4 3 rows 0 [(p, 15), (q, 16)] → n = 4 → (if p = true then (15 : Int) else if q = true then 16 else 0) = R → VFn Tryz.prog 33 [.sl 1 n rows] (.int .i64 R) := fun hr hn e => first2_of _ _ 15 16 hr hn e
  obtain ⟨W, hW⟩ : ∃ W, W = wd k := ⟨_, rfl⟩
  have hw : 1 ≤ W ∧ W ≤ 20 := by
    rw [hW]; unfold wd
    rcases hk3 with rfl | rfl | rfl <;> simp
  rw [← hW] at cw
  have ma : 0 ≤ a.tmod W ∧ a.tmod W < W := ⟨Int.tmod_nonneg _ hab.1.1, by rw [Int.tmod_eq_emod_of_nonneg hab.1.1]; exact Int.emod_lt_of_pos _ (by omega)⟩
  have mb : 0 ≤ b.tmod W ∧ b.tmod W < W := ⟨Int.tmod_nonneg _ (by omega), by rw [Int.tmod_eq_emod_of_nonneg (by omega)]; exact Int.emod_lt_of_pos _ (by omega)⟩
  obtain ⟨C, hC⟩ : ∃ C, C = covC s k a b := ⟨_, rfl⟩
  rw [← hC]
  unfold covC at hC
  rw [← hW] at hC
  by_cases g1 : a.tmod W = 0
  rotate_left
  · rw [if_neg (fun h => g1 h.2.2.1)] at hC
    subst hC
    rw [if_neg (by decide)]
    refine VFn.introC Tryz.call105 Tryz.func105 rfl rfl ?_
    repeat' (conv => whnf
             first
               | (refine Grd.intro (fun h => ?_) (fun h => ?_); rotate_left; focus (exfalso; simp_all; done))
               | (refine Grd.intro (fun h => ?_) (fun h => ?_); focus (exfalso; simp_all; done))
               | refine And.intro (show W ≠ 0 by omega) ?_
               | (refine CallC.sca _ c1 ?_ ?_; focus (exact rfl))
               | (refine CallC.sca _ c2 ?_ ?_; focus (exact rfl))
               | (refine CallC.sca _ cw ?_ ?_; focus (exact rfl))
               | (refine And.intro trivial (AVle.refl _); done)
               | fail)
  by_cases g2 : b.tmod W = 0
  rotate_left
  · rw [if_neg (fun h => g2 h.2.2.2)] at hC
    subst hC
    rw [if_neg (by decide)]
    refine VFn.introC Tryz.call105 Tryz.func105 rfl rfl ?_
    repeat' (conv => whnf
             first
               | (refine Grd.intro (fun h => ?_) (fun h => ?_); rotate_left; focus (exfalso; simp_all; done))
               | (refine Grd.intro (fun h => ?_) (fun h => ?_); focus (exfalso; simp_all; done))
               | refine And.intro (show W ≠ 0 by omega) ?_
               | (refine CallC.sca _ c1 ?_ ?_; focus (exact rfl))
               | (refine CallC.sca _ c2 ?_ ?_; focus (exact rfl))
               | (refine CallC.sca _ cw ?_ ?_; focus (exact rfl))
               | (refine And.intro trivial (AVle.refl _); done)
               | fail)
  rw [if_pos ⟨hk, hr, g1, g2⟩] at hC
  have key : ∀ lo hi : Int, s.lo k = lo → s.hi k = hi → C = (if decide (a < lo) = true then 15 else if decide (hi < b) = true then 16 else 0) := fun lo hi h1 h2 => by
    rw [hC, h1, h2]
    simp
  clear hW
  rcases hk3 with rfl | rfl | rfl
  all_goals
    refine VFn.introC Tryz.call105 Tryz.func105 rfl rfl ?_
    repeat' (conv => whnf
             first
               | (refine Grd.intro (fun h => ?_) (fun h => ?_); rotate_left; focus (exfalso; simp_all; done))
               | (refine Grd.intro (fun h => ?_) (fun h => ?_); focus (exfalso; simp_all; done))
               | refine And.intro (show W ≠ 0 by omega) ?_
               | (refine CallC.sca _ c1 ?_ ?_; focus (exact rfl))
               | (refine CallC.sca _ c2 ?_ ?_; focus (exact rfl))
               | (refine CallC.sca _ cw ?_ ?_; focus (exact rfl))
               | (refine And.intro trivial (AVle.refl _); done)
               | fail)
    refine DrawC.mk 19 rfl (by kernel_rfl) ?_
    refine And.intro (by decide) ?_
    refine And.intro (by decide) ?_
    refine PCallC.sca _ (cf ⟨rfl, rfl, rfl, rfl, trivial⟩ rfl (key _ _ rfl rfl).symm) rfl ?_
    conv => whnf
    by_cases hC0 : C = 0
    · rw [if_pos hC0]
      refine Grd.intro (fun h => absurd (show (!decide (C = 0)) = true from h) (by simp [hC0])) (fun _ => ?_)
      conv => whnf
      refine CallC.nl _ (ct) ?_ ?_
      · exact rfl
      exact And.intro trivial (AVle.refl _)
    · rw [if_neg hC0]
      refine Grd.intro (fun _ => ?_) (fun h => absurd (show (!decide (C = 0)) = false from h) (by simp [hC0]))
      exact And.intro trivial (AVle.refl _)
def goOnR (r : Rr) (c : Int) : Rr := { r with code := c, left := [], ph := 4 }
def stepR (x : Sto) (r : Rr) (now : Int) : Sto × Rr × Bool × Int :=
  if r.ph = 0 then (x, r, false, 18)
  else if r.ph = 1 then
    if x.room (pinK r.id) (Lib.itoa (now + 30)) = 0 then (x.set (pinK r.id) (Lib.itoa (now + 30)), { r with til := now + 30, ph := 2 }, false, 0)
    else (x, goOnR r (x.room (pinK r.id) (Lib.itoa (now + 30))), false, 0)
  else if r.ph = 2 then
    if covC (logS x) r.tier r.f r.t = 0 then (x, { r with left := covL (logS x) r.tier r.f r.t, ph := 3 }, false, 0)
    else (x, goOnR r (covC (logS x) r.tier r.f r.t), false, 0)
  else if r.ph = 3 then
    match r.left with
    | [] => (x, goOnR r 0, false, 0)
    | e :: l => if r.til - 3 < now then (x, goOnR r 14, false, 0)
      else if (winR x e r.f r.t r.got).2 = 0 then (x, { r with got := (winR x e r.f r.t r.got).1, left := l }, false, 0)
      else (x, goOnR r (winR x e r.f r.t r.got).2, false, 0)
  else (wo x (pinK r.id), { r with ph := 0 }, true, 0)
def goOnN (r : Rr) (c : Int) : List AV := [.int .i64 r.id, .int .i64 4, .int .i64 r.tier, .int .i64 r.f, .int .i64 r.t, .int .i64 r.til, .int .i64 c, .nilsl, .int .i64 r.got.c, .int .i64 r.got.s, .int .i64 r.got.mn, .int .i64 r.got.mx, .int .i64 r.got.f, .int .i64 r.got.l]
theorem goOn_fn (r : Rr) (c : Int) : FnM Tryz.prog 104 1 [.int .i64 c, .bptr 0 0] [(0, .box r.row)] (.tup []) [(0, .box (goOnN r c))] 1 := by
  refine FnM.introC Tryz.call104 Tryz.func104 rfl rfl ?_
  exact And.intro trivial ⟨[(0, 0)], rfl, AVle.refl _, ⟨MOle.refl _, trivial⟩⟩
theorem goOn_le (r : Rr) (c : Int) : AVle (.agg (goOnN r c)) (goOnR r c).av :=
  AVle.agg (AVsle.cons (AVle.refl _) (AVsle.cons (AVle.refl _) (AVsle.cons (AVle.refl _) (AVsle.cons (AVle.refl _) (AVsle.cons (AVle.refl _) (AVsle.cons (AVle.refl _) (AVsle.cons (AVle.refl _) (AVsle.cons (AVle.nilsl _ _ rfl) (AVsle.refl _)))))))))
theorem rstep_fn (x : Sto) (hs : x.ok = true) (r : Rr) (now : Int) (hid : 0 ≤ r.id ∧ r.id ≤ 9) (hk : within r.tier 0 2 = true) (hr : isRange r.f r.t = true) (hn : 0 ≤ now ∧ now ≤ 101000) (htl : 0 ≤ r.til ∧ r.til ≤ 200000) (hlen : r.left.length ≤ 1000000)
    (hw : r.ph = 3 → ∀ e l, r.left = e :: l → ¬ r.til - 3 < now → x.has e.key = true → WinOK x e r.f r.t r.got) :
    VFn Tryz.prog 58 [r.av, x.av, .int .i64 now] (.tup [(stepR x r now).1.av, (stepR x r now).2.1.av, .bool (stepR x r now).2.2.1, .int .i64 (stepR x r now).2.2.2]) := by
  obtain ⟨R, hR⟩ : ∃ R, R = stepR x r now := ⟨_, rfl⟩
  rw [← hR]
  unfold stepR at hR
  have ck := pinKey_fn r.id hid
  by_cases h0 : r.ph = 0
  · rw [if_pos h0] at hR
    subst hR
    refine VFn.introC Tryz.call58 Tryz.func58 rfl rfl ?_
    refine Grd.intro (fun _ => ?_) (fun h => absurd h0 (of_decide_eq_false h))
    refine DrawC.mkK 6 [(.inl 2, 2), (.inl 3, 3)] rfl (by kernel_rfl) ?_
    refine And.intro rfl ?_
    exact And.intro trivial (AVle.refl _)
  rw [if_neg h0] at hR
  by_cases h1 : r.ph = 1
  · rw [if_pos h1] at hR
    have ci := Itoa_fn (now + 30) (by omega) (by omega)
    have cp := put_fn x hs (pinK r.id) (Lib.itoa (now + 30)) (by have := itoa_len (n := now + 30) (by omega) (by omega); omega)
    obtain ⟨K, hK⟩ : ∃ K, K = pinK r.id := ⟨_, rfl⟩
    obtain ⟨D, hD⟩ : ∃ D, D = Lib.itoa (now + 30) := ⟨_, rfl⟩
    rw [← hK] at ck
    rw [← hK, ← hD] at hR cp
    rw [← hD] at ci
    by_cases hroom : x.room K D = 0
    · rw [if_pos hroom] at hR cp
      subst hR
      refine VFn.introC Tryz.call58 Tryz.func58 rfl rfl ?_
      refine Grd.intro (fun h => absurd (of_decide_eq_true h) h0) (fun _ => ?_)
      refine Grd.intro (fun _ => ?_) (fun h => absurd h1 (of_decide_eq_false h))
      refine DrawC.mkK 16 [(.inr 12, 13)] rfl (by kernel_rfl) ?_
      refine And.intro rfl ?_
      refine PCallK.sca _ (ck) rfl ?_
      refine And.intro (show inI .i64 (now + 30) from inI64 (by omega) (by omega)) ?_
      refine PCallK.sca _ (ci) rfl ?_
      refine PCallK.nl _ (cp) rfl ?_
      refine And.intro (show inI .i64 (now + 30) from inI64 (by omega) (by omega)) ?_
      refine DrawC.mkK 6 [(.inl 2, 2), (.inl 3, 3)] rfl (by kernel_rfl) ?_
      refine And.intro rfl ?_
      exact And.intro trivial (AVle.refl _)
    · rw [if_neg hroom] at hR cp
      subst hR
      refine VFn.introC Tryz.call58 Tryz.func58 rfl rfl ?_
      refine Grd.intro (fun h => absurd (of_decide_eq_true h) h0) (fun _ => ?_)
      refine Grd.intro (fun _ => ?_) (fun h => absurd h1 (of_decide_eq_false h))
      refine DrawC.mkK 16 [(.inr 12, 13)] rfl (by kernel_rfl) ?_
      refine And.intro rfl ?_
      refine PCallK.sca _ (ck) rfl ?_
      refine And.intro (show inI .i64 (now + 30) from inI64 (by omega) (by omega)) ?_
      refine PCallK.sca _ (ci) rfl ?_
      refine PCallK.nl _ (cp) rfl ?_
      conv => whnf
      refine Grd.intro (fun _ => ?_) (fun h => absurd (show (!decide (x.room K D = 0)) = false from h) (by simp [hroom]))
      conv => whnf
      refine CallC.k [(0, 0)] (goOn_fn r (x.room K D)) rfl rfl (AVsle.refl _) ⟨MOle.refl _, trivial⟩ rfl ?_
      refine DrawC.mkK 6 [(.inl 2, 2), (.inl 3, 3)] rfl (by kernel_rfl) ?_
      refine And.intro rfl ?_
      exact And.intro trivial (AVle.tup (AVsle.cons (AVle.refl _) (AVsle.cons (goOn_le r _) (AVsle.refl _))))
  rw [if_neg h1] at hR
  by_cases h2 : r.ph = 2
  · rw [if_pos h2] at hR
    have cl := log_fn x hs
    have hel : (logS x).es.length ≤ 1000000 := by
      have := ((staOK_iff _).1 (logS_ok x)).len
      omega
    have cc := cover_fn (logS x) hel r.tier r.f r.t hk hr
    obtain ⟨C, hC⟩ : ∃ C, C = covC (logS x) r.tier r.f r.t := ⟨_, rfl⟩
    rw [← hC] at hR cc
    by_cases hC0 : C = 0
    · rw [if_pos hC0] at hR cc
      subst hR
      refine VFn.introC Tryz.call58 Tryz.func58 rfl rfl ?_
      refine Grd.intro (fun h => absurd (of_decide_eq_true h) h0) (fun _ => ?_)
      refine Grd.intro (fun h => absurd (of_decide_eq_true h) h1) (fun _ => ?_)
      refine Grd.intro (fun _ => ?_) (fun h => absurd h2 (of_decide_eq_false h))
      refine DrawC.mk 14 rfl (by kernel_rfl) ?_
      refine PCallC.nl _ (cl) rfl ?_
      refine PCallC.nl _ (cc) rfl ?_
      conv => whnf
      refine DrawC.mkK 6 [(.inl 2, 2), (.inl 3, 3)] rfl (by kernel_rfl) ?_
      refine And.intro rfl ?_
      exact And.intro trivial (AVle.refl _)
    · rw [if_neg hC0] at hR cc
      subst hR
      refine VFn.introC Tryz.call58 Tryz.func58 rfl rfl ?_
      refine Grd.intro (fun h => absurd (of_decide_eq_true h) h0) (fun _ => ?_)
      refine Grd.intro (fun h => absurd (of_decide_eq_true h) h1) (fun _ => ?_)
      refine Grd.intro (fun _ => ?_) (fun h => absurd h2 (of_decide_eq_false h))
      refine DrawC.mk 14 rfl (by kernel_rfl) ?_
      refine PCallC.nl _ (cl) rfl ?_
      refine PCallC.nl _ (cc) rfl ?_
      conv => whnf
      refine Grd.intro (fun _ => ?_) (fun h => absurd (show (!decide (C = 0)) = false from h) (by simp [hC0]))
      conv => whnf
      refine CallC.k [(0, 0)] (goOn_fn r C) rfl rfl (AVsle.refl _) ⟨MOle.refl _, trivial⟩ rfl ?_
      refine DrawC.mkK 6 [(.inl 2, 2), (.inl 3, 3)] rfl (by kernel_rfl) ?_
      refine And.intro rfl ?_
      exact And.intro trivial (AVle.tup (AVsle.cons (AVle.refl _) (AVsle.cons (goOn_le r _) (AVsle.refl _))))
  rw [if_neg h2] at hR
  by_cases h3 : r.ph = 3
  rotate_left
  · rw [if_neg h3] at hR
    subst hR
    have cwo := withoutG_fn x hs (pinK r.id)
    refine VFn.introC Tryz.call58 Tryz.func58 rfl rfl ?_
    refine Grd.intro (fun h => absurd (of_decide_eq_true h) h0) (fun _ => ?_)
    refine Grd.intro (fun h => absurd (of_decide_eq_true h) h1) (fun _ => ?_)
    refine Grd.intro (fun h => absurd (of_decide_eq_true h) h2) (fun _ => ?_)
    refine Grd.intro (fun h => absurd (of_decide_eq_true h) h3) (fun _ => ?_)
    refine DrawC.mkK 10 [(.inl 2, 6), (.inl 3, 7)] rfl (by kernel_rfl) ?_
    refine And.intro rfl ?_
    refine PCallK.sca _ (ck) rfl ?_
    refine PCallK.nl _ (cwo) rfl ?_
    exact And.intro trivial (AVle.refl _)
  rw [if_pos h3] at hR
  cases hl : r.left with
  | nil =>
    rw [hl] at hR
    simp only at hR
    subst hR
    refine VFn.introC Tryz.call58 Tryz.func58 rfl rfl ?_
    refine Grd.intro (fun h => absurd (of_decide_eq_true h) h0) (fun _ => ?_)
    refine Grd.intro (fun h => absurd (of_decide_eq_true h) h1) (fun _ => ?_)
    refine Grd.intro (fun h => absurd (of_decide_eq_true h) h2) (fun _ => ?_)
    refine Grd.intro (fun _ => ?_) (fun h => absurd h3 (of_decide_eq_false h))
    refine Grd.intro (fun _ => ?_) (fun h => absurd (show ¬ (r.left.length : Int) = 0 from of_decide_eq_false h) (by rw [hl]; simp))
    conv => whnf
    refine CallC.k [(0, 0)] (goOn_fn r 0) rfl rfl (AVsle.refl _) ⟨MOle.refl _, trivial⟩ rfl ?_
    refine DrawC.mkK 6 [(.inl 2, 2), (.inl 3, 3)] rfl (by kernel_rfl) ?_
    refine And.intro rfl ?_
    exact And.intro trivial (AVle.tup (AVsle.cons (AVle.refl _) (AVsle.cons (goOn_le r _) (AVsle.refl _))))
  | cons e l =>
    rw [hl] at hR
    simp only at hR
    have hll : r.left.length = l.length + 1 := by rw [hl]; rfl
    by_cases ht : r.til - 3 < now
    · rw [if_pos ht] at hR
      subst hR
      refine VFn.introC Tryz.call58 Tryz.func58 rfl rfl ?_
      refine Grd.intro (fun h => absurd (of_decide_eq_true h) h0) (fun _ => ?_)
      refine Grd.intro (fun h => absurd (of_decide_eq_true h) h1) (fun _ => ?_)
      refine Grd.intro (fun h => absurd (of_decide_eq_true h) h2) (fun _ => ?_)
      refine Grd.intro (fun _ => ?_) (fun h => absurd h3 (of_decide_eq_false h))
      refine Grd.intro (fun h => absurd (show (r.left.length : Int) = 0 from of_decide_eq_true h) (by omega)) (fun _ => ?_)
      refine And.intro (show inI .i64 (r.til - 3) from inI64 (by omega) (by omega)) ?_
      refine Grd.intro (fun _ => ?_) (fun h => absurd ht (of_decide_eq_false h))
      conv => whnf
      refine CallC.k [(0, 0)] (goOn_fn r 14) rfl rfl (AVsle.refl _) ⟨MOle.refl _, trivial⟩ rfl ?_
      refine DrawC.mkK 6 [(.inl 2, 2), (.inl 3, 3)] rfl (by kernel_rfl) ?_
      refine And.intro rfl ?_
      exact And.intro trivial (AVle.tup (AVsle.cons (AVle.refl _) (AVsle.cons (goOn_le r _) (AVsle.refl _))))
    rw [if_neg ht] at hR
    have hfb : r.t ≤ 100000 ∧ 0 ≤ r.t := by simp [isRange, within] at hr; omega
    have cw := window_fn x hs e r.f r.t (inI64 (by omega) (by omega)) r.got (hw h3 e l hl ht)
    obtain ⟨Wn, hWn⟩ : ∃ W, W = winR x e r.f r.t r.got := ⟨_, rfl⟩
    rw [← hWn] at cw hR
    have he : ix r.left 0 = e := by rw [hl]; rfl
    rw [← he] at cw
    by_cases hc : Wn.2 = 0
    · rw [if_pos hc] at hR
      subst hR
      rw [hc] at cw
      refine VFn.introC Tryz.call58 Tryz.func58 rfl rfl ?_
      refine Grd.intro (fun h => absurd (of_decide_eq_true h) h0) (fun _ => ?_)
      refine Grd.intro (fun h => absurd (of_decide_eq_true h) h1) (fun _ => ?_)
      refine Grd.intro (fun h => absurd (of_decide_eq_true h) h2) (fun _ => ?_)
      refine Grd.intro (fun _ => ?_) (fun h => absurd h3 (of_decide_eq_false h))
      refine Grd.intro (fun h => absurd (show (r.left.length : Int) = 0 from of_decide_eq_true h) (by omega)) (fun _ => ?_)
      refine And.intro (show inI .i64 (r.til - 3) from inI64 (by omega) (by omega)) ?_
      refine Grd.intro (fun h => absurd (of_decide_eq_true h) ht) (fun _ => ?_)
      refine DrawC.mkK 18 [(.inr 15, 16)] rfl (by kernel_rfl) ?_
      refine And.intro rfl ?_
      refine And.intro (show (0 : Int) ≤ 0 ∧ (0 : Int) < (r.left.length : Int) by omega) ?_
      refine PCallK.nl _ (cw) rfl ?_
      conv => whnf
      refine DrawC.mkQ 6 [(.inl 0, 2), (.inl 0, 5)] rfl (by kernel_rfl) ?_
      refine And.intro (by kernel_rfl) ?_
      conv => whnf
      refine And.intro ⟨by omega, by omega⟩ ?_
      refine DrawC.mkK 6 [(.inl 2, 2), (.inl 3, 3)] rfl (by kernel_rfl) ?_
      refine And.intro rfl ?_
      have hs2 : AVle (.sl 4 (r.left.length - Int.toNat 1) fun i => (ix r.left (Int.toNat 1 + i)).row) (ents l) := AVle.sl (show r.left.length - Int.toNat 1 = l.length by rw [hll]; rfl) (fun i hi => by
        rw [hl, show Int.toNat 1 + i = i + 1 by rw [show Int.toNat 1 = 1 from rfl]; omega]
        rfl)
      have c1 : ∀ (a : AV) {l m : List AV}, AVsle l m → AVsle (a :: l) (a :: m) := fun a _ _ h => AVsle.cons (AVle.refl a) h
      exact And.intro trivial (AVle.tup (c1 _ (AVsle.cons (AVle.agg (c1 _ (c1 _ (c1 _ (c1 _ (c1 _ (c1 _ (c1 _ (AVsle.cons hs2 (AVsle.refl _)))))))))) (AVsle.refl _))))
    · rw [if_neg hc] at hR
      subst hR
      refine VFn.introC Tryz.call58 Tryz.func58 rfl rfl ?_
      refine Grd.intro (fun h => absurd (of_decide_eq_true h) h0) (fun _ => ?_)
      refine Grd.intro (fun h => absurd (of_decide_eq_true h) h1) (fun _ => ?_)
      refine Grd.intro (fun h => absurd (of_decide_eq_true h) h2) (fun _ => ?_)
      refine Grd.intro (fun _ => ?_) (fun h => absurd h3 (of_decide_eq_false h))
      refine Grd.intro (fun h => absurd (show (r.left.length : Int) = 0 from of_decide_eq_true h) (by omega)) (fun _ => ?_)
      refine And.intro (show inI .i64 (r.til - 3) from inI64 (by omega) (by omega)) ?_
      refine Grd.intro (fun h => absurd (of_decide_eq_true h) ht) (fun _ => ?_)
      refine DrawC.mkK 18 [(.inr 15, 16)] rfl (by kernel_rfl) ?_
      refine And.intro rfl ?_
      refine And.intro (show (0 : Int) ≤ 0 ∧ (0 : Int) < (r.left.length : Int) by omega) ?_
      refine PCallK.nl _ (cw) rfl ?_
      conv => whnf
      refine Grd.intro (fun _ => ?_) (fun h => absurd (show (!decide (Wn.2 = 0)) = false from h) (by simp [hc]))
      conv => whnf
      refine CallC.k [(0, 0)] (goOn_fn r Wn.2) rfl rfl (AVsle.refl _) ⟨MOle.refl _, trivial⟩ rfl ?_
      refine DrawC.mkK 6 [(.inl 2, 2), (.inl 3, 3)] rfl (by kernel_rfl) ?_
      refine And.intro rfl ?_
      exact And.intro trivial (AVle.tup (AVsle.cons (AVle.refl _) (AVsle.cons (goOn_le r _) (AVsle.refl _))))
end Go.Proofs.YtfaffgneccjpbaaGreatDoor
set_option linter.unusedVariables false
set_option linter.constructorNameAsVariable false
set_option linter.unusedSimpArgs false
set_option maxRecDepth 20000
namespace Go.Proofs.YtfaffgneccjpbaaGreatDoor
open Go Go.Vw

theorem ag_some {a : Ag} (h : a.some = true) : (1 ≤ a.c ∧ a.c ≤ 100000) ∧ (-1000000 ≤ a.mn ∧ a.mn ≤ 1000000) ∧ (-1000000 ≤ a.mx ∧ a.mx ≤ 1000000) ∧ (a.mn ≤ a.f ∧ a.f ≤ a.mx) ∧ (a.mn ≤ a.l ∧ a.l ≤ a.mx) ∧ (a.c * a.mn ≤ a.s ∧ a.s ≤ a.c * a.mx) := by
  unfold Ag.some at h
  simp only [Bool.and_eq_true, within, decide_eq_true_eq] at h
  obtain ⟨⟨⟨⟨⟨h1, h2⟩, h3⟩, h4⟩, h5⟩, h6⟩ := h
  exact ⟨h1, h2, h3, h4, h5, h6⟩
theorem ag_nul {a : Ag} (h : a.nul = true) : a = default := by
  unfold Ag.nul at h
  simp only [Bool.and_eq_true, decide_eq_true_eq, and_true] at h
  obtain ⟨c, s, mn, mx, f, l⟩ := a
  obtain ⟨rfl, rfl, rfl, rfl, rfl, rfl⟩ := h
  rfl
theorem ag_cases {a : Ag} (h : a.ok = true) : a = default ∨ a.some = true := by
  unfold Ag.ok at h
  rw [Bool.or_eq_true] at h
  exact h.imp ag_nul id
theorem ag_c {a : Ag} (h : a.ok = true) : 0 ≤ a.c ∧ a.c ≤ 100000 ∧ (a.c = 0 → a = default) := by
  rcases ag_cases h with rfl | h
  · exact ⟨Int.le_refl _, by decide, fun _ => rfl⟩
  · have := (ag_some h).1
    exact ⟨by omega, by omega, fun e => by omega⟩
theorem mrg_def (a : Ag) (h : a.c = 0 → a = default) : a.mrg default = a := by
  unfold Ag.mrg
  split
  · rename_i g; exact (h g).symm
  · rw [if_pos (by rfl)]
theorem def_mrg (a : Ag) : Ag.mrg default a = a := by
  unfold Ag.mrg
  rw [if_pos (by rfl)]
theorem mrg_ok {a b : Ag} (ha : a.ok = true) (hb : b.ok = true) (hc : a.c + b.c ≤ 100000) : (a.mrg b).ok = true ∧ (a.mrg b).c = a.c + b.c := by
  rcases ag_cases ha with rfl | h1
  · rw [def_mrg]; exact ⟨hb, (Int.zero_add _).symm⟩
  rcases ag_cases hb with rfl | h2
  · rw [mrg_def a (ag_c ha).2.2]; exact ⟨ha, (Int.add_zero _).symm⟩
  obtain ⟨a1, a2, a3, a4, a5, a6⟩ := ag_some h1
  obtain ⟨b1, b2, b3, b4, b5, b6⟩ := ag_some h2
  unfold Ag.mrg
  rw [if_neg (by omega), if_neg (by omega)]
  refine ⟨?_, rfl⟩
  have hmn : ∃ m, m = (if b.mn < a.mn then b.mn else a.mn) ∧ m ≤ a.mn ∧ m ≤ b.mn ∧ -1000000 ≤ m := ⟨_, rfl, by split <;> omega, by split <;> omega, by split <;> omega⟩
  have hmx : ∃ m, m = (if a.mx < b.mx then b.mx else a.mx) ∧ a.mx ≤ m ∧ b.mx ≤ m ∧ m ≤ 1000000 := ⟨_, rfl, by split <;> omega, by split <;> omega, by split <;> omega⟩
  obtain ⟨m, em, m1, m2, m3⟩ := hmn
  obtain ⟨M, eM, M1, M2, M3⟩ := hmx
  rw [← em, ← eM]
  have p1 : a.c * m ≤ a.c * a.mn := Int.mul_le_mul_of_nonneg_left m1 (by omega)
  have p2 : b.c * m ≤ b.c * b.mn := Int.mul_le_mul_of_nonneg_left m2 (by omega)
  have p3 : a.c * a.mx ≤ a.c * M := Int.mul_le_mul_of_nonneg_left M1 (by omega)
  have p4 : b.c * b.mx ≤ b.c * M := Int.mul_le_mul_of_nonneg_left M2 (by omega)
  have e1 : (a.c + b.c) * m = a.c * m + b.c * m := Int.add_mul _ _ _
  have e2 : (a.c + b.c) * M = a.c * M + b.c * M := Int.add_mul _ _ _
  unfold Ag.ok
  rw [Bool.or_eq_true]
  right
  unfold Ag.some
  simp only [Bool.and_eq_true, within, decide_eq_true_eq]
  rw [e1, e2]
  generalize a.c * m = x1 at *
  generalize b.c * m = x2 at *
  generalize a.c * M = x3 at *
  generalize b.c * M = x4 at *
  generalize a.c * a.mn = x5 at *
  generalize b.c * b.mn = x6 at *
  generalize a.c * a.mx = x7 at *
  generalize b.c * b.mx = x8 at *
  refine ⟨⟨⟨⟨⟨⟨by omega, by omega⟩, by omega, by omega⟩, by omega, by omega⟩, by omega, by omega⟩, by omega, by omega⟩, by omega, by omega⟩
theorem aggL_ok' {L : List Smp} (hl : L.length ≤ 100000) (hv : ∀ e ∈ L, -1000000 ≤ e.v ∧ e.v ≤ 1000000) : (aggL L).ok = true ∧ (aggL L).c = L.length := by
  have := aggL_B (L := L) hl hv L.length (Nat.le_refl _)
  rw [List.take_of_length_le (Nat.le_refl _)] at this
  exact ⟨B_ok this (by omega), this.1⟩
def Rr.own (r : Rr) (m : Nat) : AV := .agg [.int .i64 r.id, .int .i64 r.ph, .int .i64 r.tier, .int .i64 r.f, .int .i64 r.t, .int .i64 r.til, .int .i64 r.code, .osl m, .int .i64 r.got.c, .int .i64 r.got.s, .int .i64 r.got.mn, .int .i64 r.got.mx, .int .i64 r.got.f, .int .i64 r.got.l]
theorem copiedR_own (r : Rr) (hL : r.left.length ≤ 1000000) : FnM Tryz.prog 56 0 [r.av] [] (r.own 0) [(0, .arr 35 4 r.left.length fun i => (ix r.left i).row)] 1 := by
  refine FnM.introC Tryz.call56 Tryz.func56 rfl rfl ?_
  conv => whnf
  refine CallC.k [] (CloneEn_own r.left hL) rfl rfl (AVsle.refl _) trivial rfl ?_
  conv => whnf
  exact And.intro trivial ⟨[(2, 0)], rfl, AVle.refl _, ⟨MOle.refl _, trivial⟩⟩
theorem copiedR_fn (r : Rr) (hL : r.left.length ≤ 1000000) : VFn Tryz.prog 56 [r.av] r.av := (copiedR_own r hL).vfn
theorem rr_facts {r : Rr} (h : r.ok = true) : (0 ≤ r.id ∧ r.id ≤ 9) ∧ within r.tier 0 2 = true ∧ isRange r.f r.t = true ∧ (0 ≤ r.til ∧ r.til ≤ 200000) ∧ r.left.length ≤ 300 := by
  unfold Rr.ok at h
  simp only [Bool.and_eq_true, decide_eq_true_eq] at h
  obtain ⟨h1, h2, h3, h4, h5, h6, h7, h8, h9⟩ := h
  refine ⟨by simpa [within] using h1, h3, h4, by simpa [within] using h5, by omega⟩
theorem StepReader_fn (x : Sto) (hs : x.ok = true) (r : Rr) (hr : r.ok = true) (now : Int) (hn : 0 ≤ now ∧ now ≤ 101000)
    (hw : r.ph = 3 → ∀ e l, r.left = e :: l → ¬ r.til - 3 < now → x.has e.key = true → WinOK x e r.f r.t r.got) (y : Sto) (v : Rr) (d : Bool) (c : Int) (hy : stepR x r now = (y, v, d, c)) (hyl : y.os.length ≤ 1000000) (hvl : v.left.length ≤ 1000000) :
    VFn Tryz.prog 20 [x.av, r.av, .int .i64 now] (.tup [y.av, v.av, .bool d, .int .i64 c]) := by
  obtain ⟨f1, f2, f3, f4, f5⟩ := rr_facts hr
  have c0 := rstep_fn x hs r now f1 f2 f3 hn f4 (by omega) hw
  rw [hy] at c0
  have hsr := (stoOK_iff x).1 hs
  have c1 := StoreOK_fn x (by have := hsr.len; omega) (fun o ho => by have := (hsr.el o ho).1; have := keyOK_len this; omega)
  rw [hs] at c1
  have c2 := ReaderOK_fn r (by omega)
  rw [hr] at c2
  have c3 := isNow0 now
  rw [show within now 0 101000 = true by simp [within]; omega] at c3
  have c4 : VFn Tryz.prog 37 [y.av] y.av := (copied_own y hyl).vfn
  have c5 := copiedR_fn v hvl
  refine VFn.introC Tryz.call20 Tryz.func20 rfl rfl ?_
  conv => whnf
  refine CallC.sca _ (c1) ?_ ?_
  · exact rfl
  conv => whnf
  refine CallC.sca _ (c2) ?_ ?_
  · exact rfl
  conv => whnf
  refine CallC.sca _ (c3) ?_ ?_
  · exact rfl
  conv => whnf
  refine CallC.sca _ (first2_of false false 1 4 ⟨rfl, rfl, rfl, rfl, trivial⟩ rfl (show _ = (0 : Int) from rfl)) ?_ ?_
  · exact rfl
  conv => whnf
  refine CallC.nl _ (c0) ?_ ?_
  · exact rfl
  refine DrawC.mkK 10 [(.inl 2, 6), (.inl 3, 7)] rfl (by kernel_rfl) ?_
  refine And.intro rfl ?_
  refine PCallK.nl _ (c4) rfl ?_
  refine PCallK.nl _ (c5) rfl ?_
  exact And.intro trivial (AVle.refl _)
def rd0 (id : Int) : Rr := ⟨id, 0, 0, 0, 0, 0, 0, [], default⟩
def rdAsk (id k a b : Int) : Rr := ⟨id, 1, k, a, b, 0, 0, [], default⟩
theorem nilR (id ph k a b til code : Int) (g : Ag) : AVle (.agg [.int .i64 id, .int .i64 ph, .int .i64 k, .int .i64 a, .int .i64 b, .int .i64 til, .int .i64 code, .nilsl, .int .i64 g.c, .int .i64 g.s, .int .i64 g.mn, .int .i64 g.mx, .int .i64 g.f, .int .i64 g.l]) (Rr.mk id ph k a b til code [] g).av :=
  AVle.agg (AVsle.cons (AVle.refl _) (AVsle.cons (AVle.refl _) (AVsle.cons (AVle.refl _) (AVsle.cons (AVle.refl _) (AVsle.cons (AVle.refl _) (AVsle.cons (AVle.refl _) (AVsle.cons (AVle.refl _) (AVsle.cons (AVle.nilsl _ _ rfl) (AVsle.refl _)))))))))
theorem NewReader_fn (id : Int) (h : 0 ≤ id ∧ id ≤ 9) : VFn Tryz.prog 18 [.int .i64 id] (.tup [(rd0 id).av, .int .i64 0]) := by
  have c := isId0 id
  rw [show within id 0 9 = true by simp [within]; omega] at c
  refine VFn.introC Tryz.call18 Tryz.func18 rfl rfl ?_
  conv => whnf
  refine CallC.sca _ (c) ?_ ?_
  · exact rfl
  exact And.intro trivial (AVle.tup (AVsle.cons (nilR _ _ _ _ _ _ _ default) (AVsle.refl _)))
theorem ask_fn (r : Rr) (h0 : r.ph = 0) (k a b : Int) : VFn Tryz.prog 55 [r.av, .int .i64 k, .int .i64 a, .int .i64 b] (.tup [(rdAsk r.id k a b).av, .int .i64 0]) := by
  refine VFn.introC Tryz.call55 Tryz.func55 rfl rfl ?_
  refine Grd.intro (fun h => absurd (show (!decide (r.ph = 0)) = true from h) (by simp [h0])) (fun _ => ?_)
  exact And.intro trivial (AVle.tup (AVsle.cons (nilR _ _ _ _ _ _ _ default) (AVsle.refl _)))
theorem AskReader_fn (r : Rr) (hr : r.ok = true) (h0 : r.ph = 0) (k a b : Int) (hk : within k 0 2 = true) (hab : isRange a b = true) : VFn Tryz.prog 19 [r.av, .int .i64 k, .int .i64 a, .int .i64 b] (.tup [(rdAsk r.id k a b).av, .int .i64 0]) := by
  obtain ⟨f1, f2, f3, f4, f5⟩ := rr_facts hr
  have c2 := ReaderOK_fn r (by omega)
  rw [hr] at c2
  have c1 := isTier_fn k
  rw [hk] at c1
  have c3 := isRange_fn a b
  rw [hab] at c3
  refine VFn.introC Tryz.call19 Tryz.func19 rfl rfl ?_
  conv => whnf
  refine CallC.sca _ (c2) ?_ ?_
  · exact rfl
  conv => whnf
  refine CallC.sca _ (c1) ?_ ?_
  · exact rfl
  conv => whnf
  refine CallC.sca _ (c3) ?_ ?_
  · exact rfl
  conv => whnf
  refine CallC.sca _ (first2_of false false 1 4 ⟨rfl, rfl, rfl, rfl, trivial⟩ rfl (show _ = (0 : Int) from rfl)) ?_ ?_
  · exact rfl
  conv => whnf
  refine CallC.nl _ (ask_fn r h0 k a b) ?_ ?_
  · exact rfl
  conv => whnf
  refine CallC.nl _ (copiedR_fn (rdAsk r.id k a b) (by simp [rdAsk])) ?_ ?_
  · exact rfl
  exact And.intro trivial (AVle.refl _)
theorem PinsAt_fn (x : Sto) (hs : x.ok = true) (now : Int) (hn : 0 ≤ now ∧ now ≤ 101000) : VFn Tryz.prog 21 [x.av, .int .i64 now] (.tup [txts (pinL x now), .int .i64 0]) := by
  have hsr := (stoOK_iff x).1 hs
  have c1 := StoreOK_fn x (by have := hsr.len; omega) (fun o ho => by have := (hsr.el o ho).1; have := keyOK_len this; omega)
  rw [hs] at c1
  have c3 := isNow0 now
  rw [show within now 0 101000 = true by simp [within]; omega] at c3
  refine VFn.introC Tryz.call21 Tryz.func21 rfl rfl ?_
  conv => whnf
  refine CallC.sca _ (c1) ?_ ?_
  · exact rfl
  conv => whnf
  refine CallC.sca _ (c3) ?_ ?_
  · exact rfl
  conv => whnf
  refine CallC.sca _ (first2_of false false 1 4 ⟨rfl, rfl, rfl, rfl, trivial⟩ rfl (show _ = (0 : Int) from rfl)) ?_ ?_
  · exact rfl
  conv => whnf
  refine CallC.nl _ (pins_fn x hs now) ?_ ?_
  · exact rfl
  exact And.intro trivial (AVle.refl _)
end Go.Proofs.YtfaffgneccjpbaaGreatDoor
set_option linter.unusedVariables false
set_option linter.constructorNameAsVariable false
set_option linter.unusedSimpArgs false
set_option maxRecDepth 20000
namespace Go.Proofs.YtfaffgneccjpbaaGreatDoor
open Go Go.Vw

def acqC (s : Sto) (now : Int) : Int := if s.lea.2 = 17 then 17 else if s.lea.2 = 0 ∧ s.lea.1.til ≠ 0 ∧ now ≤ s.lea.1.til + 6 then 12 else if s.lea.1.tok = 999999 then 7 else 0
def acqL (s : Sto) (who now : Int) : Lea := ⟨s.lea.1.tok + 1, who, now + 20⟩
def acqS (s : Sto) (who now : Int) : Sto := if acqC s now = 0 then s.put leaK (acqL s who now).text else s
def acqT (s : Sto) (who now : Int) : Int := if acqC s now = 0 ∧ s.room leaK (acqL s who now).text = 0 then s.lea.1.tok + 1 else 0
def acqR (s : Sto) (who now : Int) : Int := if acqC s now = 0 then s.room leaK (acqL s who now).text else acqC s now
end Go.Proofs.YtfaffgneccjpbaaGreatDoor
set_option linter.unusedVariables false
set_option linter.constructorNameAsVariable false
set_option linter.unusedSimpArgs false
set_option maxRecDepth 20000
namespace Go.Proofs.YtfaffgneccjpbaaGreatDoor
open Go Go.Vw

theorem leaK_ok : keyOK leaK = true := by decide
theorem put_lea {s : Sto} {l : Lea} (hs : s.ok = true) (hl : l.ok = true) (h1 : s.os.length < 300) (h2 : s.next < 1000000000) :
    s.room leaK l.text = 0 ∧ (s.put leaK l.text).ok = true ∧ (s.put leaK l.text).lea = (l, 0) ∧ (s.put leaK l.text).next = s.next + 1 ∧ (s.put leaK l.text).os.length ≤ s.os.length + 1 := by
  have hb : ∀ x ∈ [l.tok, l.who, l.til], -9223372036854775807 ≤ x ∧ x ≤ 9223372036854775807 := by
    simp [Lea.ok, within] at hl
    intro x hx
    simp at hx
    omega
  have hlen := Lea.text_len l hb
  have hr := room_yes (s := s) (k := leaK) (d := l.text) (by omega) h1 h2
  have e : s.put leaK l.text = s.set leaK l.text := by unfold Sto.put; rw [if_pos hr]
  rw [e]
  refine ⟨hr, set_ok hs leaK_ok hr, ?_, rfl, set_len_le _ _ _⟩
  obtain ⟨a1, a2⟩ := set_at s leaK l.text
  unfold Sto.lea
  rw [if_pos a1, a2]
  show (match readL l.text with | some l => (l, (0 : Int)) | none => (default, 17)) = _
  rw [leaText_back hl]
/-- a store with a lease of long ago, or without one -/
structure Old (s : Sto) (t : Int) : Prop where
  ok : s.ok = true
  len : s.os.length ≤ 100
  nx : s.next ≤ 1000
  tk : 0 ≤ t ∧ t ≤ 1000
  lea : (s.lea.2 = 5 ∧ s.lea.1 = default ∧ t = 0) ∨ (s.lea.2 = 0 ∧ s.lea.1.tok = t ∧ s.lea.1.ok = true ∧ s.lea.1.til ≤ 60)
/-- a store whose lease is held -/
structure Held (s : Sto) (l : Lea) : Prop where
  ok : s.ok = true
  len : s.os.length ≤ 150
  nx : s.next ≤ 2000
  lea : s.lea = (l, 0)
  lok : l.ok = true
end Go.Proofs.YtfaffgneccjpbaaGreatDoor
set_option linter.unusedVariables false
set_option linter.constructorNameAsVariable false
set_option linter.unusedSimpArgs false
set_option maxRecDepth 20000
namespace Go.Proofs.YtfaffgneccjpbaaGreatDoor
open Go Go.Vw

def keysS : List (List UInt8) := [[97, 47, 49], [97, 47, 50], [98, 47, 49], [98, 47, 49, 48], leaK]
def Src.shortK (s : Src) : List UInt8 × Src := (ix keysS (s.next 5).1.toNat, (s.next 5).2)
def Src.some : Nat → Src → List UInt8 × Src
  | 0, s => ([], s)
  | n + 1, s => ((Src.some n s).1 ++ [UInt8.ofNat (97 + ((Src.some n s).2.next 26).1.toNat)], ((Src.some n s).2.next 26).2)
theorem some_ok (s : Src) {k : Int} (h : s.ok k) (hk : 0 ≤ k) : ∀ n, (Src.some n s).2.ok (k + 3 * n) ∧ (Src.some n s).1.length = n
  | 0 => ⟨wk h (by omega), rfl⟩
  | n + 1 => by
    have ih := some_ok s h hk n
    have n1 := next_b (Src.some n s).2 ih.1 (by omega) 26
    exact ⟨wk n1.2.1 (by omega), by show ((Src.some n s).1 ++ [_]).length = _; rw [List.length_append, ih.2]; rfl⟩
theorem shortK_ok (s : Src) {k : Int} (h : s.ok k) (hk : 0 ≤ k) : s.shortK.2.ok (k + 3) ∧ keyOK s.shortK.1 = true ∧ s.shortK.1.length ≤ 5 := by
  have n1 := next_b s h hk 5
  have n2 := n1.1.2 (by omega)
  refine ⟨n1.2.1, ?_⟩
  have key : ∀ i : Int, 0 ≤ i → i < 5 → keyOK (ix keysS i.toNat) = true ∧ (ix keysS i.toNat).length ≤ 5 := fun i h0 h1 => by
    have : i = 0 ∨ i = 1 ∨ i = 2 ∨ i = 3 ∨ i = 4 := by omega
    rcases this with rfl | rfl | rfl | rfl | rfl <;> decide
  exact key _ n1.1.1 n2
def plStep (q : Sto × Src) : Sto × Src :=
  let k := q.2.shortK
  let a := k.2.next 5
  let d := Src.some a.1.toNat a.2
  if q.1.has k.1 = true then
    let c := d.2.next 4
    (if c.1 = 3 then wo q.1 k.1 else q.1.put k.1 d.1, c.2)
  else
    let b := d.2.next 5
    let e := Src.some b.1.toNat b.2
    (q.1.put k.1 e.1, e.2)
def plIt : Nat → Sto × Src → Sto × Src
  | 0, x => x
  | k + 1, x => plStep (plIt k x)
structure PLok (q : Sto × Src) (n : Nat) (k : Int) : Prop where
  ok : q.1.ok = true
  len : q.1.os.length ≤ n
  nx : q.1.next ≤ 1 + (n : Int)
  src : q.2.ok k
theorem put_ok {s : Sto} {k d : List UInt8} (hs : s.ok = true) (hk : keyOK k = true) (hd : d.length ≤ 600) (h1 : s.os.length < 300) (h2 : s.next < 1000000000) :
    s.room k d = 0 ∧ s.put k d = s.set k d ∧ (s.put k d).ok = true ∧ (s.put k d).next = s.next + 1 ∧ (s.put k d).os.length ≤ s.os.length + 1 := by
  have hr := room_yes (s := s) (k := k) (d := d) hd h1 h2
  have e : s.put k d = s.set k d := by unfold Sto.put; rw [if_pos hr]
  rw [e]
  exact ⟨hr, rfl, set_ok hs hk hr, rfl, set_len_le _ _ _⟩
theorem plStep_ok {q : Sto × Src} {n : Nat} {k : Int} (h : PLok q n k) (hn : n ≤ 100) (hk : 0 ≤ k) : PLok (plStep q) (n + 1) (k + 50) := by
  obtain ⟨h1, h2, h3, h4⟩ := h
  obtain ⟨k1, k2, k3⟩ := shortK_ok q.2 h4 hk
  have a1 := next_b q.2.shortK.2 k1 (by omega) 5
  have a2 := a1.1.2 (by omega)
  have s1 := some_ok (q.2.shortK.2.next 5).2 a1.2.1 (by omega) (q.2.shortK.2.next 5).1.toNat
  have hd1 : (Src.some (q.2.shortK.2.next 5).1.toNat (q.2.shortK.2.next 5).2).1.length ≤ 600 := by rw [s1.2]; omega
  unfold plStep
  dsimp only
  by_cases hh : q.1.has q.2.shortK.1 = true
  · rw [if_pos hh]
    have c1 := next_b _ s1.1 (by omega) 4
    obtain ⟨p1, p2, p3, p4, p5⟩ := put_ok h1 k2 hd1 (by omega) (by omega)
    by_cases hc : ((Src.some (q.2.shortK.2.next 5).1.toNat (q.2.shortK.2.next 5).2).2.next 4).1 = 3
    · rw [if_pos hc]
      have := wo_len q.1 q.2.shortK.1
      exact ⟨wo_ok h1 _, Nat.le_trans this (by omega), by show q.1.next ≤ _; omega, wk c1.2.1 (by omega)⟩
    · rw [if_neg hc]
      exact ⟨p3, by show (q.1.put _ _).os.length ≤ _; omega, by show (q.1.put _ _).next ≤ _; omega, wk c1.2.1 (by omega)⟩
  · rw [if_neg hh]
    have c1 := next_b _ s1.1 (by omega) 5
    have c2 := c1.1.2 (by omega)
    have s2 := some_ok _ c1.2.1 (by omega) ((Src.some (q.2.shortK.2.next 5).1.toNat (q.2.shortK.2.next 5).2).2.next 5).1.toNat
    obtain ⟨p1, p2, p3, p4, p5⟩ := put_ok h1 k2 (d := (Src.some ((Src.some (q.2.shortK.2.next 5).1.toNat (q.2.shortK.2.next 5).2).2.next 5).1.toNat ((Src.some (q.2.shortK.2.next 5).1.toNat (q.2.shortK.2.next 5).2).2.next 5).2).1) (by rw [s2.2]; omega) (by omega) (by omega)
    exact ⟨p3, by show (q.1.put _ _).os.length ≤ _; omega, by show (q.1.put _ _).next ≤ _; omega, wk s2.1 (by omega)⟩
def stoN0 : Sto := ⟨[], 1⟩
theorem plIt_ok {s : Src} {k : Int} (h : s.ok k) (hk : 0 ≤ k) : ∀ n, n ≤ 100 → PLok (plIt n (stoN0, s)) n (k + 50 * n)
  | 0, _ => ⟨(by decide : stoN0.ok = true), (by decide : stoN0.os.length ≤ 0), (by decide : stoN0.next ≤ 1 + ((0 : Nat) : Int)), wk h (by omega)⟩
  | n + 1, hn => by
    have ih := plIt_ok h hk n (by omega)
    have := plStep_ok ih (by omega) (by omega)
    exact ⟨this.1, this.2, this.3, wk this.4 (by omega)⟩
def Src.pStore (s : Src) : Sto × Src := plIt (s.next 9).1.toNat (stoN0, (s.next 9).2)
def unL (x : Sto) : Sto := if x.has leaK = true then wo x leaK else x
def Src.leL (s : Src) : Lea × Src :=
  let a := s.next 4
  let b := a.2.next 3
  let d := b.2.next 30
  let e := d.2.next 4
  (⟨1 + a.1, b.1, if ((e.1 * 3).tmod 4).tmod 2 = 0 then 0 else 10 + d.1⟩, e.2)
def Src.leased (s : Src) : Sto :=
  let p := s.pStore
  let c := p.2.next 4
  if c.1 = 3 then unL p.1 else (unL p.1).set leaK (c.2.leL).1.text
def Src.leasedR (s : Src) : Src :=
  let p := s.pStore
  let c := p.2.next 4
  if c.1 = 3 then c.2 else (c.2.leL).2
end Go.Proofs.YtfaffgneccjpbaaGreatDoor
set_option linter.unusedVariables false
set_option linter.constructorNameAsVariable false
set_option linter.unusedSimpArgs false
set_option maxRecDepth 20000
namespace Go.Proofs.YtfaffgneccjpbaaGreatDoor
open Go Go.Vw

end Go.Proofs.YtfaffgneccjpbaaGreatDoor
