/- Contracts of functions that the claim reaches, and the plain law of what they compute; each theorem bears its own conditions. -/
import Derived.Test.YtfaffgneccjpbaaGreatDoorQ2
import Derived.Test.YtfaffgneccjpbaaGreatDoorQ3
import Derived.Test.YtfaffgneccjpbaaGreatDoorQ1
import Derived.Test.YtfaffgneccjpbaaGreatDoorV50
set_option linter.unusedVariables false
set_option linter.constructorNameAsVariable false
set_option linter.unusedSimpArgs false
set_option maxRecDepth 20000
namespace Go.Proofs.YtfaffgneccjpbaaGreatDoor
open Go Go.Vw

def Ag.mrg (a b : Ag) : Ag := if a.c = 0 then b else if b.c = 0 then a else ⟨a.c + b.c, a.s + b.s, if b.mn < a.mn then b.mn else a.mn, if a.mx < b.mx then b.mx else a.mx, a.f, b.l⟩
def Ag.cells (a : Ag) : List AV := [.int .i64 a.c, .int .i64 a.s, .int .i64 a.mn, .int .i64 a.mx, .int .i64 a.f, .int .i64 a.l]
def one (v : Int) : Ag := ⟨1, v, v, v, v, v⟩
def aggL (L : List Smp) : Ag := L.foldl (fun a s => a.mrg (one s.v)) default
theorem aggL_snoc {L : List Smp} {i : Nat} (h : i < L.length) : aggL (L.take (i + 1)) = (aggL (L.take i)).mrg (one (ix L i).v) := by
  unfold aggL; rw [take_snoc h, List.foldl_append]; rfl
def Ag.B (a : Ag) (n : Int) : Prop := a.c = n ∧ (-1000000 * n ≤ a.s ∧ a.s ≤ 1000000 * n) ∧ (n = 0 → a = default) ∧ (0 < n → a.some = true)
theorem mrg_B {a : Ag} {n v : Int} (h : a.B n) (hn : 0 ≤ n ∧ n < 100000) (hv : -1000000 ≤ v ∧ v ≤ 1000000) : (a.mrg (one v)).B (n + 1) := by
  obtain ⟨h1, h2, h3, h4⟩ := h
  unfold Ag.mrg
  by_cases h0 : a.c = 0
  · rw [if_pos h0]
    refine ⟨by simp only [one]; omega, by simp only [one]; omega, fun h => by omega, fun _ => ?_⟩
    unfold Ag.some one
    simp [within]; omega
  · rw [if_neg h0, if_neg (show ¬ (one v).c = 0 by simp [one])]
    have h5 := h4 (by omega)
    unfold Ag.some at h5
    simp [within] at h5
    refine ⟨by simp only [one]; omega, by simp only [one]; omega, fun h => by omega, fun _ => ?_⟩
    unfold Ag.some one
    simp only [within]
    have e1 : ∀ m, m ≤ a.mn → m ≤ v → (a.c + 1) * m ≤ a.s + v := fun m q1 q2 => by
      have : a.c * m ≤ a.c * a.mn := Int.mul_le_mul_of_nonneg_left q1 (by omega)
      have : (a.c + 1) * m = a.c * m + m := by rw [Int.add_mul]; omega
      omega
    have e2 : ∀ m, a.mx ≤ m → v ≤ m → a.s + v ≤ (a.c + 1) * m := fun m q1 q2 => by
      have : a.c * a.mx ≤ a.c * m := Int.mul_le_mul_of_nonneg_left q1 (by omega)
      have : (a.c + 1) * m = a.c * m + m := by rw [Int.add_mul]; omega
      omega
    by_cases m1 : v < a.mn <;> by_cases m2 : a.mx < v
    · rw [if_pos m1, if_pos m2]
      have := e1 v (by omega) (by omega)
      have := e2 v (by omega) (by omega)
      simp; omega
    · rw [if_pos m1, if_neg m2]
      have := e1 v (by omega) (by omega)
      have := e2 a.mx (by omega) (by omega)
      simp; omega
    · rw [if_neg m1, if_pos m2]
      have := e1 a.mn (by omega) (by omega)
      have := e2 v (by omega) (by omega)
      simp; omega
    · rw [if_neg m1, if_neg m2]
      have := e1 a.mn (by omega) (by omega)
      have := e2 a.mx (by omega) (by omega)
      simp; omega
theorem aggL_B {L : List Smp} (hL : L.length ≤ 100000) (hv : ∀ e ∈ L, -1000000 ≤ e.v ∧ e.v ≤ 1000000) : ∀ i : Nat, i ≤ L.length → (aggL (L.take i)).B i
  | 0, _ => ⟨rfl, show -1000000 * ((0 : Nat) : Int) ≤ 0 ∧ (0 : Int) ≤ 1000000 * ((0 : Nat) : Int) by omega, fun _ => rfl, fun h => absurd h (by simp)⟩
  | i + 1, h => by
    rw [aggL_snoc h]
    have := mrg_B (aggL_B hL hv i (by omega)) ⟨by omega, by omega⟩ (hv _ (getD_mem (L := L) h))
    simpa using this
def Ag.eqb (x y : Ag) : Bool := decide (x.c = y.c) && (decide (x.s = y.s) && (decide (x.mn = y.mn) && (decide (x.mx = y.mx) && (decide (x.f = y.f) && (decide (x.l = y.l) && true)))))
theorem smps_bd {L : List Smp} (h : smpsOK L = true) : L.length ≤ 4096 ∧ ∀ e ∈ L, -1000000 ≤ e.v ∧ e.v ≤ 1000000 := by
  unfold smpsOK at h
  rw [Bool.and_eq_true] at h
  refine ⟨of_decide_eq_true h.1, fun e he => ?_⟩
  obtain ⟨i, hi, e0⟩ := List.mem_iff_getElem.1 he
  have e0 : ix L i = e := by rw [ix_lt hi, e0]
  subst e0
  have := allN_iff.1 h.2 i hi
  simp [smpAt, within] at this
  omega
theorem merged_fn (a b : Ag) (h1 : inI .i64 (a.c + b.c)) (h2 : inI .i64 (a.s + b.s)) : VFn Tryz.prog 53 [a.av, b.av] (a.mrg b).av := by
  obtain ⟨R, hR⟩ : ∃ R, R = a.mrg b := ⟨_, rfl⟩
  rw [← hR]
  refine VFn.introC Tryz.call53 Tryz.func53 rfl rfl ?_
  refine Grd.intro (fun g1 => ?_) (fun g1 => ?_)
  · rw [Ag.mrg, if_pos (show a.c = 0 from of_decide_eq_true g1)] at hR
    subst hR
    exact And.intro trivial (AVle.refl _)
  refine Grd.intro (fun g2 => ?_) (fun g2 => ?_)
  · rw [Ag.mrg, if_neg (show ¬ a.c = 0 from of_decide_eq_false g1), if_pos (show b.c = 0 from of_decide_eq_true g2)] at hR
    subst hR
    exact And.intro trivial (AVle.refl _)
  rw [Ag.mrg, if_neg (show ¬ a.c = 0 from of_decide_eq_false g1), if_neg (show ¬ b.c = 0 from of_decide_eq_false g2)] at hR
  refine And.intro h1 ?_
  refine And.intro h2 ?_
  subst hR
  exact And.intro trivial (AVle.refl _)
theorem aggOf_fn (L : List Smp) (hL : L.length ≤ 100000) (hv : ∀ e ∈ L, -1000000 ≤ e.v ∧ e.v ≤ 1000000) : VFn Tryz.prog 93 [smps L] (aggL L).av := by
  have hB := aggL_B hL hv
  refine VFn.introC Tryz.call93 Tryz.func93 rfl rfl ?_
  refine LoopC.mk (fun i : Nat => i ≤ L.length) (fun i => [(2, .bptr 0 0), (3, .bptr 1 0), (7, smps L), (8, .int .i64 L.length), (9, .int .i64 i)])
    (fun i => [(0, .box [.int .i64 0, .int .i64 0, .int .i64 0, .int .i64 0, .int .i64 0, .int .i64 0]), (1, .box (aggL (L.take i)).cells)]) 2 (fun i => L.length - i) 0
    ⟨Nat.zero_le _, [(0, 0), (1, 1)], rfl, rfl, ⟨AVle.refl _, AVle.refl _, AVle.refl _, AVle.refl _, AVle.refl _, trivial⟩, ⟨MOle.refl _, MOle.refl _, trivial⟩⟩ ?_
  intro i hi
  refine Grd.intro (fun g1 => ?_) (fun g1 => ?_)
  · have hin : i < L.length := by have := of_decide_eq_true g1; omega
    have b := hB i hi
    have hvi := hv _ (getD_mem hin)
    refine And.intro (by omega) ?_
    conv => whnf
    refine CallC.sca _ (merged_fn (aggL (L.take i)) (one (ix L i).v) (inI64 (by have := b.1; simp only [one]; omega) (by have := b.1; simp only [one]; omega)) (inI64 (by have := b.2.1; simp only [one]; omega) (by have := b.2.1; simp only [one]; omega))) ?_ ?_
    · exact rfl
    refine And.intro (inI64 (by omega) (by omega)) ?_
    exact ⟨i + 1, hin, by omega, [(0, 0), (1, 1)], rfl, rfl, ⟨AVle.refl _, AVle.refl _, AVle.refl _, AVle.refl _, AVle.of_eq (congrArg (AV.int .i64) (by simp)), trivial⟩, ⟨MOle.refl _, MOle.of_eq (show MO.box ((aggL (L.take i)).mrg (one (ix L i).v)).cells = _ by rw [aggL_snoc hin]), trivial⟩⟩
  · have : i = L.length := by have := of_decide_eq_false g1; omega
    subst this
    exact And.intro trivial (AVle.of_eq (show (aggL (L.take L.length)).av = _ by rw [List.take_of_length_le (Nat.le_refl _)]))
def smpsIn (L : List Smp) (a b : Int) : List Smp := L.filter fun e => within e.t a (b - 1)
theorem smpsIn_yes {L : List Smp} {a b : Int} {i : Nat} (h : i < L.length) (hw : within (ix L i).t a (b - 1) = true) : smpsIn (L.take (i + 1)) a b = smpsIn (L.take i) a b ++ [ix L i] := by
  unfold smpsIn; rw [take_snoc h, List.filter_append]; simp [hw]
theorem smpsIn_no {L : List Smp} {a b : Int} {i : Nat} (h : i < L.length) (hw : within (ix L i).t a (b - 1) = false) : smpsIn (L.take (i + 1)) a b = smpsIn (L.take i) a b := by
  unfold smpsIn; rw [take_snoc h, List.filter_append]; simp [hw]
theorem smpsIn_len (L : List Smp) (a b : Int) : (smpsIn L a b).length ≤ L.length := List.length_filter_le _ _
theorem smpsIn_mem {L : List Smp} {a b : Int} {e : Smp} (h : e ∈ smpsIn L a b) : e ∈ L := (List.mem_filter.1 h).1
theorem samplesIn_fn (L : List Smp) (hL : L.length ≤ 1048576) (a b : Int) (hb : inI .i64 (b - 1)) : VFn Tryz.prog 94 [smps L, .int .i64 a, .int .i64 b] (smps (smpsIn L a b)) := by
  obtain ⟨R, hR⟩ : ∃ R, R = smpsIn L a b := ⟨_, rfl⟩
  rw [← hR]
  have hl := fun i => Nat.le_trans (smpsIn_len (L.take i) a b) (by simp; omega : (L.take i).length ≤ i)
  refine VFn.introC Tryz.call94 Tryz.func94 rfl rfl ?_
  refine LoopC.mk (fun i : Nat => i ≤ L.length) (fun i => [(1, .int .i64 a), (2, .int .i64 b), (7, .osl 0), (11, smps L), (12, .int .i64 L.length), (13, .int .i64 i)])
    (fun i => [(0, .arr 73 2 (smpsIn (L.take i) a b).length fun j => (ix (smpsIn (L.take i) a b) j).row)]) 1 (fun i => L.length - i) 0
    ⟨Nat.zero_le _, [(0, 0)], rfl, rfl, ⟨AVle.refl _, AVle.refl _, AVle.refl _, AVle.refl _, AVle.refl _, AVle.refl _, trivial⟩, ⟨MOle.arr rfl fun i hi => absurd hi (Nat.not_lt_zero i), trivial⟩⟩ ?_
  intro i hi
  refine Grd.intro (fun h2 => ?_) (fun h2 => ?_)
  · have hin : i < L.length := by have := of_decide_eq_true h2; omega
    refine And.intro (by omega) ?_
    refine And.intro hb ?_
    conv => whnf
    refine CallC.sca _ (within_fn _ _ _) ?_ ?_
    · exact rfl
    refine Grd.intro (fun h3 => ?_) (fun h3 => ?_)
    · have hs := smpsIn_yes hin h3
      refine And.intro ⟨show ((smpsIn (L.take i) a b).length + 1) * 16 ≤ 140737488355328 by have := hl i; omega, all1 rfl⟩ ?_
      refine And.intro (inI64 (by omega) (by omega)) ?_
      refine ⟨i + 1, hin, by omega, [(3, 0)], rfl, rfl, ⟨AVle.refl _, AVle.refl _, AVle.refl _, AVle.refl _, AVle.refl _, AVle.of_eq (congrArg (AV.int .i64) (by simp)), trivial⟩, ⟨?_, trivial⟩⟩
      exact arr_next (f := Smp.row) hs rfl
    · have hs := smpsIn_no hin h3
      refine And.intro (inI64 (by omega) (by omega)) ?_
      exact ⟨i + 1, hin, by omega, [(0, 0)], rfl, rfl, ⟨AVle.refl _, AVle.refl _, AVle.refl _, AVle.refl _, AVle.refl _, AVle.of_eq (congrArg (AV.int .i64) (by simp)), trivial⟩, ⟨MOle.of_eq (show MO.arr 73 2 (smpsIn (L.take i) a b).length (fun j => (ix (smpsIn (L.take i) a b) j).row) = _ by rw [hs]), trivial⟩⟩
  · have : i = L.length := by have := of_decide_eq_false h2; omega
    subst this
    have e : smpsIn (L.take L.length) a b = R := by rw [List.take_of_length_le (Nat.le_refl _), hR]
    subst e
    exact And.intro trivial (AVle.sl rfl fun j hj => rfl)
end Go.Proofs.YtfaffgneccjpbaaGreatDoor
set_option linter.unusedVariables false
set_option linter.constructorNameAsVariable false
set_option linter.unusedSimpArgs false
set_option maxRecDepth 20000
namespace Go.Proofs.YtfaffgneccjpbaaGreatDoor
open Go Go.Vw

def Src.agg (s : Src) : Ag := aggL (s.samples 0 6).1
def srcOf (code : List UInt8) : Src := ⟨code, 0, (code.length : Int).tmod 1000⟩
theorem src_ok (code : List UInt8) (h : code.length ≤ 1048576) : (srcOf code).ok 0 := by
  have := tmod_b (n := (code.length : Int)) (m := 1000) (by omega) (by omega)
  exact ⟨⟨by simp [srcOf], by simp [srcOf]⟩, ⟨this.1, by have := this.2; simp only [srcOf]; omega⟩, by simp only [srcOf]; omega⟩
theorem l00Source_fn (code : List UInt8) (h : code.length ≤ 1048576) : FnM Tryz.prog 29 0 [byts code] [] (.bptr 0 0) [(0, .box (srcOf code).row)] 1 := by
  refine FnM.introC Tryz.call29 Tryz.func29 rfl rfl ?_
  refine And.intro (by decide) ?_
  exact And.intro trivial ⟨[(0, 0)], rfl, AVle.refl _, ⟨MOle.refl _, trivial⟩⟩
end Go.Proofs.YtfaffgneccjpbaaGreatDoor
set_option linter.unusedVariables false
set_option linter.constructorNameAsVariable false
set_option linter.unusedSimpArgs false
set_option maxRecDepth 20000
namespace Go.Proofs.YtfaffgneccjpbaaGreatDoor
open Go Go.Vw

def keysS : List (List UInt8) := [[97, 47, 49], [97, 47, 50], [98, 47, 49], [98, 47, 49, 48], leaK]
def Src.shortK (s : Src) : List UInt8 × Src := (ix keysS (s.next 5).1.toNat, (s.next 5).2)
def Src.some : Nat → Src → List UInt8 × Src
  | 0, s => ([], s)
  | n + 1, s => ((Src.some n s).1 ++ [UInt8.ofNat (97 + ((Src.some n s).2.next 26).1.toNat)], ((Src.some n s).2.next 26).2)
theorem some_ok (s : Src) {k : Int} (h : s.ok k) (hk : 0 ≤ k) : ∀ n, (Src.some n s).2.ok (k + 3 * n) ∧ (Src.some n s).1.length = n
  | 0 => ⟨wk h (by omega), rfl⟩
  | n + 1 => by
    have ih := some_ok s h hk n
    have n1 := next_b (Src.some n s).2 ih.1 (by omega) 26
    exact ⟨wk n1.2.1 (by omega), by show ((Src.some n s).1 ++ [_]).length = _; rw [List.length_append, ih.2]; rfl⟩
theorem shortK_ok (s : Src) {k : Int} (h : s.ok k) (hk : 0 ≤ k) : s.shortK.2.ok (k + 3) ∧ keyOK s.shortK.1 = true ∧ s.shortK.1.length ≤ 5 := by
  have n1 := next_b s h hk 5
  have n2 := n1.1.2 (by omega)
  refine ⟨n1.2.1, ?_⟩
  have key : ∀ i : Int, 0 ≤ i → i < 5 → keyOK (ix keysS i.toNat) = true ∧ (ix keysS i.toNat).length ≤ 5 := fun i h0 h1 => by
    have : i = 0 ∨ i = 1 ∨ i = 2 ∨ i = 3 ∨ i = 4 := by omega
    rcases this with rfl | rfl | rfl | rfl | rfl <;> decide
  exact key _ n1.1.1 n2
def plStep (q : Sto × Src) : Sto × Src :=
  let k := q.2.shortK
  let a := k.2.next 5
  let d := Src.some a.1.toNat a.2
  if q.1.has k.1 = true then
    let c := d.2.next 4
    (if c.1 = 3 then wo q.1 k.1 else q.1.put k.1 d.1, c.2)
  else
    let b := d.2.next 5
    let e := Src.some b.1.toNat b.2
    (q.1.put k.1 e.1, e.2)
def plIt : Nat → Sto × Src → Sto × Src
  | 0, x => x
  | k + 1, x => plStep (plIt k x)
structure PLok (q : Sto × Src) (n : Nat) (k : Int) : Prop where
  ok : q.1.ok = true
  len : q.1.os.length ≤ n
  nx : q.1.next ≤ 1 + (n : Int)
  src : q.2.ok k
theorem put_ok {s : Sto} {k d : List UInt8} (hs : s.ok = true) (hk : keyOK k = true) (hd : d.length ≤ 600) (h1 : s.os.length < 300) (h2 : s.next < 1000000000) :
    s.room k d = 0 ∧ s.put k d = s.set k d ∧ (s.put k d).ok = true ∧ (s.put k d).next = s.next + 1 ∧ (s.put k d).os.length ≤ s.os.length + 1 := by
  have hr := room_yes (s := s) (k := k) (d := d) hd h1 h2
  have e : s.put k d = s.set k d := by unfold Sto.put; rw [if_pos hr]
  rw [e]
  exact ⟨hr, rfl, set_ok hs hk hr, rfl, set_len_le _ _ _⟩
theorem plStep_ok {q : Sto × Src} {n : Nat} {k : Int} (h : PLok q n k) (hn : n ≤ 100) (hk : 0 ≤ k) : PLok (plStep q) (n + 1) (k + 50) := by
  obtain ⟨h1, h2, h3, h4⟩ := h
  obtain ⟨k1, k2, k3⟩ := shortK_ok q.2 h4 hk
  have a1 := next_b q.2.shortK.2 k1 (by omega) 5
  have a2 := a1.1.2 (by omega)
  have s1 := some_ok (q.2.shortK.2.next 5).2 a1.2.1 (by omega) (q.2.shortK.2.next 5).1.toNat
  have hd1 : (Src.some (q.2.shortK.2.next 5).1.toNat (q.2.shortK.2.next 5).2).1.length ≤ 600 := by rw [s1.2]; omega
  unfold plStep
  dsimp only
  by_cases hh : q.1.has q.2.shortK.1 = true
  · rw [if_pos hh]
    have c1 := next_b _ s1.1 (by omega) 4
    obtain ⟨p1, p2, p3, p4, p5⟩ := put_ok h1 k2 hd1 (by omega) (by omega)
    by_cases hc : ((Src.some (q.2.shortK.2.next 5).1.toNat (q.2.shortK.2.next 5).2).2.next 4).1 = 3
    · rw [if_pos hc]
      have := wo_len q.1 q.2.shortK.1
      exact ⟨wo_ok h1 _, Nat.le_trans this (by omega), by show q.1.next ≤ _; omega, wk c1.2.1 (by omega)⟩
    · rw [if_neg hc]
      exact ⟨p3, by show (q.1.put _ _).os.length ≤ _; omega, by show (q.1.put _ _).next ≤ _; omega, wk c1.2.1 (by omega)⟩
  · rw [if_neg hh]
    have c1 := next_b _ s1.1 (by omega) 5
    have c2 := c1.1.2 (by omega)
    have s2 := some_ok _ c1.2.1 (by omega) ((Src.some (q.2.shortK.2.next 5).1.toNat (q.2.shortK.2.next 5).2).2.next 5).1.toNat
    obtain ⟨p1, p2, p3, p4, p5⟩ := put_ok h1 k2 (d := (Src.some ((Src.some (q.2.shortK.2.next 5).1.toNat (q.2.shortK.2.next 5).2).2.next 5).1.toNat ((Src.some (q.2.shortK.2.next 5).1.toNat (q.2.shortK.2.next 5).2).2.next 5).2).1) (by rw [s2.2]; omega) (by omega) (by omega)
    exact ⟨p3, by show (q.1.put _ _).os.length ≤ _; omega, by show (q.1.put _ _).next ≤ _; omega, wk s2.1 (by omega)⟩
def stoN0 : Sto := ⟨[], 1⟩
theorem plIt_ok {s : Src} {k : Int} (h : s.ok k) (hk : 0 ≤ k) : ∀ n, n ≤ 100 → PLok (plIt n (stoN0, s)) n (k + 50 * n)
  | 0, _ => ⟨(by decide : stoN0.ok = true), (by decide : stoN0.os.length ≤ 0), (by decide : stoN0.next ≤ 1 + ((0 : Nat) : Int)), wk h (by omega)⟩
  | n + 1, hn => by
    have ih := plIt_ok h hk n (by omega)
    have := plStep_ok ih (by omega) (by omega)
    exact ⟨this.1, this.2, this.3, wk this.4 (by omega)⟩
def Src.pStore (s : Src) : Sto × Src := plIt (s.next 9).1.toNat (stoN0, (s.next 9).2)
def unL (x : Sto) : Sto := if x.has leaK = true then wo x leaK else x
def Src.leL (s : Src) : Lea × Src :=
  let a := s.next 4
  let b := a.2.next 3
  let d := b.2.next 30
  let e := d.2.next 4
  (⟨1 + a.1, b.1, if ((e.1 * 3).tmod 4).tmod 2 = 0 then 0 else 10 + d.1⟩, e.2)
def Src.leased (s : Src) : Sto :=
  let p := s.pStore
  let c := p.2.next 4
  if c.1 = 3 then unL p.1 else (unL p.1).set leaK (c.2.leL).1.text
def Src.leasedR (s : Src) : Src :=
  let p := s.pStore
  let c := p.2.next 4
  if c.1 = 3 then c.2 else (c.2.leL).2
end Go.Proofs.YtfaffgneccjpbaaGreatDoor
set_option linter.unusedVariables false
set_option linter.constructorNameAsVariable false
set_option linter.unusedSimpArgs false
set_option maxRecDepth 20000
namespace Go.Proofs.YtfaffgneccjpbaaGreatDoor
open Go Go.Vw

def Rc.res (r : Rc) : List UInt8 := if r.ok = true then r.text else []
def Rc.code (r : Rc) : Int := if r.ok = true then 0 else 1
theorem recText_fn (r : Rc) (h : r.ok = true) : VFn Tryz.prog 81 [r.av] (.str (B r.text)) := by
  have hm := (Rc.okN h).1
  have hk := (Rc.okN h).2
  have hl := Rc.head_len h
  have e : (r.nums.map It.n).map It.txt = r.nums.map Lib.itoa := by rw [List.map_map]; rfl
  refine VFn.introC Tryz.call81 Tryz.func81 rfl rfl ?_
  refine DrawC.mk 22 rfl (by kernel_rfl) ?_
  refine PCallC.sca _ (joined_of (r.nums.map It.n) (n := 5) ⟨rfl, rfl, rfl, rfl, rfl, trivial⟩ rfl [44] (show 5 ≤ 100000000 by decide) (fun x hx => by
    obtain ⟨n, hn, rfl⟩ := List.mem_map.1 hx
    have := hm n hn; unfold mid at this; exact ⟨by omega, by omega⟩) (by rw [e]; omega)) rfl ?_
  rw [e]
  have add : ∀ (x y : List UInt8), (x.length + y.length : Nat) ≤ 100000 → (((B x).size + (B y).size : Nat) : Int) ≤ 9223372036854775807 := fun x y h => by rw [B_size, B_size]; omega
  refine And.intro (add (Lib.join (r.nums.map Lib.itoa) [44]) [32] (by simp; omega)) ?_
  refine And.intro (show (((B (Lib.join (r.nums.map Lib.itoa) [44]) ++ B [32]).size + (B r.key).size : Nat) : Int) ≤ 9223372036854775807 by rw [B_app]; exact add _ _ (by simp; omega)) ?_
  exact And.intro trivial (AVle.of_eq (congrArg AV.str (show B (Lib.join (r.nums.map Lib.itoa) [44]) ++ B [32] ++ B r.key = B r.text by rw [B_app, B_app, List.append_assoc]; rfl)))
theorem l06Text_fn (r : Rc) (h : r.ok = true) : VFn Tryz.prog 73 [r.av] (.str (B r.text)) := by
  have hm := (Rc.okN h).1
  have hk := (Rc.okN h).2
  have hl := Rc.head_len h
  refine VFn.introC Tryz.call73 Tryz.func73 rfl rfl ?_
  refine DrawC.mk 17 rfl (by kernel_rfl) ?_
  refine PCallC.sca (.str (B (Lib.join (r.nums.map Lib.itoa) [44]))) ((l02Join_fn r.nums (show 5 ≤ 100000000 by decide) (fun x hx => by have := hm x hx; unfold mid at this; omega)).weak (AVsle.cons (RowsAre.le (f := fun n : Int => [AV.int .i64 n]) rfl ⟨rfl, rfl, rfl, rfl, rfl, trivial⟩) AVsle.nil) (AVle.refl _)) rfl ?_
  have add : ∀ (x y : List UInt8), (x.length + y.length : Nat) ≤ 100000 → (((B x).size + (B y).size : Nat) : Int) ≤ 9223372036854775807 := fun x y h => by rw [B_size, B_size]; omega
  refine And.intro (add (Lib.join (r.nums.map Lib.itoa) [44]) [32] (by simp; omega)) ?_
  refine And.intro (show (((B (Lib.join (r.nums.map Lib.itoa) [44]) ++ B [32]).size + (B r.key).size : Nat) : Int) ≤ 9223372036854775807 by rw [B_app]; exact add _ _ (by simp; omega)) ?_
  exact And.intro trivial (AVle.of_eq (congrArg AV.str (show B (Lib.join (r.nums.map Lib.itoa) [44]) ++ B [32] ++ B r.key = B r.text by rw [B_app, B_app, List.append_assoc]; rfl)))
end Go.Proofs.YtfaffgneccjpbaaGreatDoor
set_option linter.unusedVariables false
set_option linter.constructorNameAsVariable false
set_option linter.unusedSimpArgs false
set_option maxRecDepth 20000
namespace Go.Proofs.YtfaffgneccjpbaaGreatDoor
open Go Go.Vw

def manK (n : Int) : List UInt8 := [109, 97, 110, 47] ++ six6 n.toNat
def appS (s : Sto) (n : Int) (r : Rc) : Sto × Int := s.putA (manK n) r.text
def appC (s : Sto) (n : Int) (r : Rc) : Int := if s.ok = true ∧ r.ok = true then (if within n 1 999999 = true then 0 else 4) else 1
theorem app_len (s : Sto) (hs : s.ok = true) (n : Int) (r : Rc) : (appS s n r).1.os.length ≤ 301 := by
  have hL := (Sto.ok_at hs).2.1
  unfold appS Sto.putA
  split
  · show s.os.length ≤ 301; omega
  · show (s.put _ _).os.length ≤ 301
    unfold Sto.put
    split
    · have := set_len_le s (manK n) r.text; omega
    · omega
theorem text_len {r : Rc} (h : r.ok = true) : r.text.length ≤ 1000000 := by
  have hl := Rc.head_len h
  have hk := (Rc.okN h).2
  unfold Rc.text
  simp only [List.length_append, List.length_cons, List.length_nil]
  omega
theorem l06Key_fn (n : Int) (h : within n 1 999999 = true) : VFn Tryz.prog 72 [.int .i64 n] (.str (B (manK n))) := by
  have hb : 1 ≤ n ∧ n ≤ 999999 := by simpa [within] using h
  have c := l03Wide_fn n.toNat (by omega)
  rw [show ((n.toNat : Nat) : Int) = n by omega] at c
  refine VFn.introC Tryz.call72 Tryz.func72 rfl rfl ?_
  conv => whnf
  refine CallC.sca _ (c) ?_ ?_
  · exact rfl
  refine And.intro (show ((4 + (B (six6 n.toNat)).size : Nat) : Int) ≤ 9223372036854775807 by rw [B_size, six6_len]; decide) ?_
  refine force_to (congrArg AV.str (show B [109, 97, 110, 47] ++ B (six6 n.toNat) = B (manK n) from B_app _ _)) ?_
  exact And.intro trivial (AVle.refl _)
theorem lay_fn (s : Sto) (hs : s.ok = true) (n : Int) (h : within n 1 999999 = true) (r : Rc) (hr : r.ok = true) : VFn Tryz.prog 36 [s.av, .int .i64 n, r.av] (.tup [(appS s n r).1.av, .int .i64 (appS s n r).2]) := by
  have hb : 1 ≤ n ∧ n ≤ 999999 := by simpa [within] using h
  have co := putAbsent_fn s hs (manK n) r.text (by have := text_len hr; omega)
  have cw := within_fn n 1 999999
  rw [h] at cw
  refine VFn.introC Tryz.call36 Tryz.func36 rfl rfl ?_
  conv => whnf
  refine CallC.sca _ (cw) ?_ ?_
  · exact rfl
  refine DrawC.mkK 15 [(.inr 11, 12)] rfl (by kernel_rfl) ?_
  refine And.intro rfl ?_
  conv => whnf
  refine PCallK.sca _ (six_fn n (by simp [within]; omega)) rfl ?_
  conv => whnf
  refine And.intro (show ((4 + (B (six6 n.toNat)).size : Nat) : Int) ≤ 9223372036854775807 by rw [B_size, six6_len]; decide) ?_
  refine force_to (congrArg AV.str (show B [109, 97, 110, 47] ++ B (six6 n.toNat) = B (manK n) from B_app _ _)) ?_
  conv => whnf
  refine PCallK.sca _ (recText_fn r hr) rfl ?_
  conv => whnf
  refine PCallK.nl _ (co) rfl ?_
  exact And.intro trivial (AVle.refl _)
end Go.Proofs.YtfaffgneccjpbaaGreatDoor
set_option linter.unusedVariables false
set_option linter.constructorNameAsVariable false
set_option linter.unusedSimpArgs false
set_option maxRecDepth 20000
namespace Go.Proofs.YtfaffgneccjpbaaGreatDoor
open Go Go.Vw

structure Tb where
  seq : Int
  key : List UInt8
  deriving Inhabited, DecidableEq
def Tb.row (e : Tb) : List AV := [.int .i64 e.seq, .str (B e.key)]
def Tb.av (e : Tb) : AV := .agg e.row
abbrev ents (L : List En) : AV := .sl 4 L.length fun i => (ix L i).row
abbrev tbs (L : List Tb) : AV := .sl 2 L.length fun i => (ix L i).row

theorem IndexEn_1 (L : List En) (hL : L.length ≤ 9223372036854775807) (F : Nat) (row : List AV) (p : En → Bool) (hp : ∀ e ∈ L, VFn Tryz.prog F [e.av, .eptr row 0] (.bool (p e))) :
    VFn Tryz.prog 163 [ents L, .fn (.func F) [] [.eptr row 0]] (.int .i64 (fi p L)) := by
  refine VFn.introC Tryz.call163 Tryz.func163 rfl rfl ?_
  refine LoopC.mk (fun i : Nat => i ≤ L.length ∧ ∀ j, j < i → p (ix L j) = false) (fun i => [(0, ents L), (1, .fn (.func F) [] [.eptr row 0]), (7, .int .i64 L.length), (8, .int .i64 i)]) (fun _ => []) 0 (fun i => L.length - i) 0
    ⟨⟨Nat.zero_le _, fun j hj => absurd hj (Nat.not_lt_zero j)⟩, [], rfl, rfl, ⟨AVle.refl _, AVle.refl _, AVle.refl _, AVle.refl _, trivial⟩, trivial⟩ ?_
  intro i hi
  refine Grd.intro (fun h2 => ?_) (fun h2 => ?_)
  · have hin : i < L.length := by have := of_decide_eq_true h2; omega
    refine And.intro (by omega) ?_
    conv => whnf
    refine CallC.sca _ (hp (ix L i) (getD_mem hin)) ?_ ?_
    · exact rfl
    refine Grd.intro (fun h3 => ?_) (fun h3 => ?_)
    · exact And.intro trivial (AVle.of_eq (congrArg (AV.int .i64) (fi_at hin hi.2 h3).symm))
    · refine And.intro (inI64 (by omega) (by omega)) ?_
      exact ⟨i + 1, ⟨hin, fun j hj => by
        rcases Nat.lt_or_ge j i with h' | h'
        · exact hi.2 j h'
        · rw [show j = i by omega]; exact h3⟩, by omega, [], rfl, rfl, ⟨AVle.refl _, AVle.refl _, AVle.refl _, AVle.of_eq (congrArg (AV.int .i64) (by simp)), trivial⟩, trivial⟩
  · have : i = L.length := by have := of_decide_eq_false h2; omega
    subst this
    exact And.intro trivial (AVle.of_eq (congrArg (AV.int .i64) (fi_none hi.2).symm))
theorem ContainsEn_1 (L : List En) (hL : L.length ≤ 9223372036854775807) (F : Nat) (row : List AV) (p : En → Bool) (hp : ∀ e ∈ L, VFn Tryz.prog F [e.av, .eptr row 0] (.bool (p e))) :
    VFn Tryz.prog 140 [ents L, .fn (.func F) [] [.eptr row 0]] (.bool (L.any p)) := by
  refine VFn.introC Tryz.call140 Tryz.func140 rfl rfl ?_
  conv => whnf
  refine CallC.sca _ (IndexEn_1 L hL F row p hp) ?_ ?_
  · exact rfl
  exact And.intro trivial (AVle.of_eq (congrArg AV.bool (show decide (0 ≤ fi p L) = _ from fi_any)))
end Go.Proofs.YtfaffgneccjpbaaGreatDoor
set_option linter.unusedVariables false
set_option linter.constructorNameAsVariable false
set_option linter.unusedSimpArgs false
set_option maxRecDepth 20000
namespace Go.Proofs.YtfaffgneccjpbaaGreatDoor
open Go Go.Vw

structure Sta where
  seq : Int
  fence : Int
  es : List En
  ts : List Tb
  l0 : Int
  l1 : Int
  l2 : Int
  h0 : Int
  h1 : Int
  h2 : Int
  deriving Inhabited, DecidableEq
def Sta.row (s : Sta) : List AV := [.int .i64 s.seq, .int .i64 s.fence, ents s.es, tbs s.ts, .int .i64 s.l0, .int .i64 s.l1, .int .i64 s.l2, .int .i64 s.h0, .int .i64 s.h1, .int .i64 s.h2]
def Sta.av (s : Sta) : AV := .agg s.row
def ofT (L : List En) (k : Int) : List En := L.filter fun e => decide (e.tier = k)
theorem ofT_snoc {L : List En} {i : Nat} (h : i < L.length) (k : Int) : ofT (L.take (i + 1)) k = if (ix L i).tier = k then ofT (L.take i) k ++ [ix L i] else ofT (L.take i) k := by
  unfold ofT
  rw [take_snoc h, List.filter_append]
  by_cases hk : (ix L i).tier = k
  · rw [if_pos hk]; simp [hk]
  · rw [if_neg hk]; simp [hk]
theorem ofT_len (L : List En) (k : Int) : (ofT L k).length ≤ L.length := List.length_filter_le _ _
theorem ofS_fn (s : Sta) (hL : s.es.length ≤ 1000000000) (k : Int) : VFn Tryz.prog 164 [s.av, .int .i64 k] (ents (ofT s.es k)) := by
  obtain ⟨R, hR⟩ : ∃ R, R = ofT s.es k := ⟨_, rfl⟩
  rw [← hR]
  have hl := fun i => Nat.le_trans (ofT_len (s.es.take i) k) (by simp; omega : (s.es.take i).length ≤ i)
  refine VFn.introC Tryz.call164 Tryz.func164 rfl rfl ?_
  refine LoopC.mk (fun i : Nat => i ≤ s.es.length) (fun i => [(1, .int .i64 k), (5, .osl 0), (10, ents s.es), (11, .int .i64 s.es.length), (12, .int .i64 i)])
    (fun i => [(0, .arr 35 4 (ofT (s.es.take i) k).length fun j => (ix (ofT (s.es.take i) k) j).row)]) 1 (fun i => s.es.length - i) 0
    ⟨Nat.zero_le _, [(1, 0)], rfl, rfl, ⟨AVle.refl _, AVle.refl _, AVle.refl _, AVle.refl _, AVle.refl _, trivial⟩, ⟨MOle.arr rfl fun i hi => absurd hi (Nat.not_lt_zero i), trivial⟩⟩ ?_
  intro i hi
  refine Grd.intro (fun h2 => ?_) (fun h2 => ?_)
  · have hin : i < s.es.length := by have := of_decide_eq_true h2; omega
    have hs := ofT_snoc hin k
    refine And.intro (by omega) ?_
    refine Grd.intro (fun h3 => ?_) (fun h3 => ?_)
    · rw [if_pos (show (ix s.es i).tier = k from of_decide_eq_true h3)] at hs
      refine And.intro ⟨show ((ofT (s.es.take i) k).length + 1) * 40 ≤ 140737488355328 by have := hl i; omega, all1 rfl⟩ ?_
      refine And.intro (inI64 (by omega) (by omega)) ?_
      refine ⟨i + 1, hin, by omega, [(3, 0)], rfl, rfl, ⟨AVle.refl _, AVle.refl _, AVle.refl _, AVle.refl _, AVle.of_eq (congrArg (AV.int .i64) (by simp)), trivial⟩, ⟨?_, trivial⟩⟩
      exact arr_next (f := En.row) hs rfl
    · rw [if_neg (show ¬ (ix s.es i).tier = k from of_decide_eq_false h3)] at hs
      refine And.intro (inI64 (by omega) (by omega)) ?_
      exact ⟨i + 1, hin, by omega, [(0, 0)], rfl, rfl, ⟨AVle.refl _, AVle.refl _, AVle.refl _, AVle.refl _, AVle.of_eq (congrArg (AV.int .i64) (by simp)), trivial⟩, ⟨MOle.of_eq (show MO.arr 35 4 (ofT (s.es.take i) k).length (fun j => (ix (ofT (s.es.take i) k) j).row) = _ by rw [hs]), trivial⟩⟩
  · have : i = s.es.length := by have := of_decide_eq_false h2; omega
    subst this
    have e : ofT (s.es.take s.es.length) k = R := by rw [List.take_of_length_le (Nat.le_refl _), hR]
    subst e
    exact And.intro trivial (AVle.sl rfl fun j hj => rfl)
/-- keys met, each once -/
def addK (ks : List (List UInt8)) (k : List UInt8) : List (List UInt8) := if k ∈ ks then ks else ks ++ [k]
def ddk (L : List (List UInt8)) : List (List UInt8) := L.foldl addK []
/-- entries one beside the other, from a moment on: where they end -/
def runs : List En → Int → Option Int
  | [], a => some a
  | e :: r, a => if e.f = a then runs r e.t else none
def atN (a : Int) (L : List En) : Nat → Int
  | 0 => a
  | i + 1 => (ix L i).t
def tierOK (L : List En) (lo hi : Int) (k : Int) : Bool := within lo 0 100000 && decide (runs (ofT L k) lo = some hi)
def tbOK (n : Int) (t : Tb) : Bool := kOk t.key && within t.seq 1 n
def Sta.keys (s : Sta) : List (List UInt8) := s.es.map (·.key) ++ s.ts.map (·.key)
def Sta.ok (s : Sta) : Bool :=
  within s.seq 0 999999 && (within s.fence 0 999999 && (decide (((s.es.length : Nat) : Int) + ((s.ts.length : Nat) : Int) ≤ 4096) && (s.es.all En.ok && (s.ts.all (tbOK s.seq) && (decide s.keys.Nodup &&
    (tierOK s.es s.l0 s.h0 0 && (tierOK s.es s.l1 s.h1 1 && tierOK s.es s.l2 s.h2 2)))))))
end Go.Proofs.YtfaffgneccjpbaaGreatDoor
set_option linter.unusedVariables false
set_option linter.constructorNameAsVariable false
set_option linter.unusedSimpArgs false
set_option maxRecDepth 20000
namespace Go.Proofs.YtfaffgneccjpbaaGreatDoor
open Go Go.Vw

def En.rc (e : En) : Rc := ⟨0, 0, e.tier, e.f, e.t, e.key⟩
/-- where a tier's entries end -/
def endE (L : List En) (lo : Int) (k : Int) : Int := match (ofT L k).getLast? with | some e => e.t | none => lo
theorem endE_snoc {L : List En} {i : Nat} (h : i < L.length) (lo k : Int) : endE (L.take (i + 1)) lo k = if (ix L i).tier = k then (ix L i).t else endE (L.take i) lo k := by
  unfold endE
  rw [ofT_snoc h]
  by_cases hk : (ix L i).tier = k
  · rw [if_pos hk, if_pos hk]; simp
  · rw [if_neg hk, if_neg hk]
def Sta.lo (s : Sta) (k : Int) : Int := if k = 0 then s.l0 else if k = 1 then s.l1 else s.l2
def Sta.hi (s : Sta) (k : Int) : Int := if k = 0 then s.h0 else if k = 1 then s.h1 else s.h2
def Sta.eOK (s : Sta) (i : Nat) : Bool := (ix s.es i).ok && (decide ((ix s.es i).f = endE (s.es.take i) (s.lo (ix s.es i).tier) (ix s.es i).tier) && !decide ((ix s.es i).key ∈ (s.es.take i).map (·.key)))
def Sta.tOK (s : Sta) (i : Nat) : Bool := tbOK s.seq (ix s.ts i) && !decide ((ix s.ts i).key ∈ s.es.map (·.key) ++ (s.ts.take i).map (·.key))
def Sta.ok' (s : Sta) : Bool :=
  within s.seq 0 999999 && (within s.fence 0 999999 && (decide (((s.es.length : Nat) : Int) + ((s.ts.length : Nat) : Int) ≤ 4096) && (allN s.es.length s.eOK && (allN s.ts.length s.tOK &&
    ((within s.l0 0 100000 && decide (s.h0 = endE s.es s.l0 0)) && ((within s.l1 0 100000 && decide (s.h1 = endE s.es s.l1 1)) && (within s.l2 0 100000 && decide (s.h2 = endE s.es s.l2 2))))))))
end Go.Proofs.YtfaffgneccjpbaaGreatDoor
set_option linter.unusedVariables false
set_option linter.constructorNameAsVariable false
set_option linter.unusedSimpArgs false
set_option maxRecDepth 20000
namespace Go.Proofs.YtfaffgneccjpbaaGreatDoor
open Go Go.Vw

theorem runs_snoc : ∀ (L : List En) (e : En) (a : Int), runs (L ++ [e]) a = (runs L a).bind fun b => if e.f = b then some e.t else none
  | [], e, a => by simp [runs]
  | x :: r, e, a => by
    rw [List.cons_append]; unfold runs
    by_cases h : x.f = a
    · rw [if_pos h, if_pos h]; exact runs_snoc r e x.t
    · rw [if_neg h, if_neg h]; rfl
theorem runs_end : ∀ (L : List En) (a b : Int), runs L a = some b → b = match L.getLast? with | some e => e.t | none => a
  | [], a, b, h => by cases h; rfl
  | x :: r, a, b, h => by
    unfold runs at h
    by_cases hx : x.f = a
    · rw [if_pos hx] at h
      have := runs_end r x.t b h
      cases r with
      | nil => exact this
      | cons y r => rw [this, List.getLast?_cons_cons]; cases hq : (y :: r).getLast? with
        | none => simp at hq
        | some z => rfl
    · rw [if_neg hx] at h; cases h
theorem runs_endE {L : List En} {k a b : Int} (h : runs (ofT L k) a = some b) : b = endE L a k := runs_end _ _ _ h
def sideBy (s : Sta) (m : Nat) : Prop := ∀ k, (k = 0 ∨ k = 1 ∨ k = 2) → runs (ofT (s.es.take m) k) (s.lo k) = some (endE (s.es.take m) (s.lo k) k)
theorem sideBy_iff (s : Sta) (ht : ∀ e ∈ s.es, e.tier = 0 ∨ e.tier = 1 ∨ e.tier = 2) : ∀ m, m ≤ s.es.length →
    ((∀ i, i < m → (ix s.es i).f = endE (s.es.take i) (s.lo (ix s.es i).tier) (ix s.es i).tier) ↔ sideBy s m)
  | 0, _ => ⟨fun _ k _ => rfl, fun _ i hi => absurd hi (Nat.not_lt_zero i)⟩
  | m + 1, hm => by
    have hin : m < s.es.length := hm
    have ih := sideBy_iff s ht m (by omega)
    have hs := fun k => ofT_snoc hin k
    have he := fun lo k => endE_snoc hin lo k
    have hte := ht _ (getD_mem hin)
    constructor
    · intro h k hk
      have h0 := ih.1 (fun i hi => h i (by omega)) k hk
      rw [hs, he]
      by_cases hkt : (ix s.es m).tier = k
      · rw [if_pos hkt, if_pos hkt, runs_snoc, h0]
        have := h m (by omega)
        rw [hkt] at this
        simp [this]
      · rw [if_neg hkt, if_neg hkt]; exact h0
    · intro h
      have hprev : sideBy s m := fun k hk => by
        have h1 := h k hk
        rw [hs] at h1
        by_cases hkt : (ix s.es m).tier = k
        · rw [if_pos hkt, runs_snoc] at h1
          cases hr : runs (ofT (s.es.take m) k) (s.lo k) with
          | none => rw [hr] at h1; cases h1
          | some b => rw [runs_endE hr]
        · rw [if_neg hkt] at h1
          rw [h1, runs_endE h1]
      intro i hi
      rcases Nat.lt_or_ge i m with h' | h'
      · exact ih.2 hprev i h'
      · have : i = m := by omega
        subst this
        have h1 := h _ hte
        rw [hs, if_pos rfl, runs_snoc, hprev _ hte] at h1
        simp only [Option.bind_some] at h1
        by_cases hf : (ix s.es i).f = endE (s.es.take i) (s.lo (ix s.es i).tier) (ix s.es i).tier
        · exact hf
        · rw [if_neg hf] at h1; cases h1
theorem allN_iff {n : Nat} {p : Nat → Bool} : allN n p = true ↔ ∀ i, i < n → p i = true := by
  unfold allN; rw [List.all_eq_true]; simp
end Go.Proofs.YtfaffgneccjpbaaGreatDoor
set_option linter.unusedVariables false
set_option linter.constructorNameAsVariable false
set_option linter.unusedSimpArgs false
set_option maxRecDepth 20000
namespace Go.Proofs.YtfaffgneccjpbaaGreatDoor
open Go Go.Vw

theorem IndexTb_1 (L : List Tb) (hL : L.length ≤ 9223372036854775807) (F : Nat) (row : List AV) (p : Tb → Bool) (hp : ∀ e ∈ L, VFn Tryz.prog F [e.av, .eptr row 0] (.bool (p e))) :
    VFn Tryz.prog 171 [tbs L, .fn (.func F) [] [.eptr row 0]] (.int .i64 (fi p L)) := by
  refine VFn.introC Tryz.call171 Tryz.func171 rfl rfl ?_
  refine LoopC.mk (fun i : Nat => i ≤ L.length ∧ ∀ j, j < i → p (ix L j) = false) (fun i => [(0, tbs L), (1, .fn (.func F) [] [.eptr row 0]), (7, .int .i64 L.length), (8, .int .i64 i)]) (fun _ => []) 0 (fun i => L.length - i) 0
    ⟨⟨Nat.zero_le _, fun j hj => absurd hj (Nat.not_lt_zero j)⟩, [], rfl, rfl, ⟨AVle.refl _, AVle.refl _, AVle.refl _, AVle.refl _, trivial⟩, trivial⟩ ?_
  intro i hi
  refine Grd.intro (fun h2 => ?_) (fun h2 => ?_)
  · have hin : i < L.length := by have := of_decide_eq_true h2; omega
    refine And.intro (by omega) ?_
    conv => whnf
    refine CallC.sca _ (hp (ix L i) (getD_mem hin)) ?_ ?_
    · exact rfl
    refine Grd.intro (fun h3 => ?_) (fun h3 => ?_)
    · exact And.intro trivial (AVle.of_eq (congrArg (AV.int .i64) (fi_at hin hi.2 h3).symm))
    · refine And.intro (inI64 (by omega) (by omega)) ?_
      exact ⟨i + 1, ⟨hin, fun j hj => by
        rcases Nat.lt_or_ge j i with h' | h'
        · exact hi.2 j h'
        · rw [show j = i by omega]; exact h3⟩, by omega, [], rfl, rfl, ⟨AVle.refl _, AVle.refl _, AVle.refl _, AVle.of_eq (congrArg (AV.int .i64) (by simp)), trivial⟩, trivial⟩
  · have : i = L.length := by have := of_decide_eq_false h2; omega
    subst this
    exact And.intro trivial (AVle.of_eq (congrArg (AV.int .i64) (fi_none hi.2).symm))
def Sta.tombAt (s : Sta) (k : List UInt8) : Int := fi (fun t : Tb => decide (t.key = k)) s.ts
def Sta.has (s : Sta) (k : List UInt8) : Bool := s.es.any (fun e => decide (e.key = k)) || decide (0 ≤ s.tombAt k)
theorem tomb1_fn (t : Tb) (k : List UInt8) : VFn Tryz.prog 188 [t.av, .eptr [.str (B k)] 0] (.bool (decide (t.key = k))) := by
  refine VFn.introC Tryz.call188 Tryz.func188 rfl rfl ?_
  exact And.intro trivial (AVle.of_eq (congrArg AV.bool (show ((B t.key).toList == (B k).toList) = _ from B_eq)))
theorem tomb_fn (s : Sta) (hT : s.ts.length ≤ 1000000000) (k : List UInt8) : VFn Tryz.prog 169 [s.av, .str (B k)] (.int .i64 (s.tombAt k)) := by
  refine VFn.introC Tryz.call169 Tryz.func169 rfl rfl ?_
  conv => whnf
  refine CallC.sca _ (IndexTb_1 s.ts (by omega) 188 [.str (B k)] (fun t => decide (t.key = k)) (fun t _ => tomb1_fn t k)) ?_ ?_
  · exact rfl
  exact And.intro trivial (AVle.refl _)
theorem hasKey1_fn (e : En) (k : List UInt8) : VFn Tryz.prog 187 [e.av, .eptr [.str (B k)] 0] (.bool (decide (e.key = k))) := by
  refine VFn.introC Tryz.call187 Tryz.func187 rfl rfl ?_
  exact And.intro trivial (AVle.of_eq (congrArg AV.bool (show ((B e.key).toList == (B k).toList) = _ from B_eq)))
theorem hasKey_fn (s : Sta) (hL : s.es.length ≤ 1000000000) (hT : s.ts.length ≤ 1000000000) (k : List UInt8) : VFn Tryz.prog 168 [s.av, .str (B k)] (.bool (s.has k)) := by
  refine VFn.introC Tryz.call168 Tryz.func168 rfl rfl ?_
  conv => whnf
  refine CallC.sca _ (ContainsEn_1 s.es (by omega) 187 [.str (B k)] (fun e => decide (e.key = k)) (fun e _ => hasKey1_fn e k)) ?_ ?_
  · exact rfl
  refine Grd.intro (fun g => ?_) (fun g => ?_)
  · refine And.intro trivial (AVle.of_eq (congrArg AV.bool (show true = _ from ?_)))
    unfold Sta.has; rw [g]; rfl
  · conv => whnf
    refine CallC.sca _ (tomb_fn s hT k) ?_ ?_
    · exact rfl
    refine And.intro trivial (AVle.of_eq (congrArg AV.bool (show decide (0 ≤ s.tombAt k) = _ from ?_)))
    unfold Sta.has; rw [g]; rfl
end Go.Proofs.YtfaffgneccjpbaaGreatDoor
set_option linter.unusedVariables false
set_option linter.constructorNameAsVariable false
set_option linter.unusedSimpArgs false
set_option maxRecDepth 20000
namespace Go.Proofs.YtfaffgneccjpbaaGreatDoor
open Go Go.Vw

end Go.Proofs.YtfaffgneccjpbaaGreatDoor
set_option linter.unusedVariables false
set_option linter.constructorNameAsVariable false
set_option linter.unusedSimpArgs false
set_option maxRecDepth 20000
namespace Go.Proofs.YtfaffgneccjpbaaGreatDoor
open Go Go.Vw

def En.size (e : En) : Nat := e.key.length
def Tb.size (e : Tb) : Nat := e.key.length
def Sta.size (s : Sta) : Nat := (s.es.length + sumL En.size s.es) + (s.ts.length + sumL Tb.size s.ts)
/-- what is read of a state -/
def Sta.read (s : Sta) : Prop := s.es.length ≤ 9223372036854775807 ∧ s.ts.length ≤ 9223372036854775807 ∧ (∀ e ∈ s.es, e.size ≤ 9223372036854775807) ∧ ∀ e ∈ s.ts, e.size ≤ 9223372036854775807
theorem Sta.small {s : Sta} (h : (s.size : Int) ≤ 1048576) : s.es.length ≤ 1048576 ∧ s.ts.length ≤ 1048576 ∧ (∀ e ∈ s.es, e.key.length ≤ 1048576) ∧ ∀ e ∈ s.ts, e.key.length ≤ 1048576 := by
  unfold Sta.size at h
  refine ⟨by omega, by omega, fun e he => ?_, fun e he => ?_⟩
  · have := sum_mem (f := En.size) he
    have e' : e.size = e.key.length := rfl
    omega
  · have := sum_mem (f := Tb.size) he
    have e' : e.size = e.key.length := rfl
    omega
end Go.Proofs.YtfaffgneccjpbaaGreatDoor
set_option linter.unusedVariables false
set_option linter.constructorNameAsVariable false
set_option linter.unusedSimpArgs false
set_option maxRecDepth 20000
namespace Go.Proofs.YtfaffgneccjpbaaGreatDoor
open Go Go.Vw

def wd (k : Int) : Int := if k = 0 then 1 else if k = 1 then 5 else 20
theorem width_fn (k : Int) (h : k = 0 ∨ k = 1 ∨ k = 2) : VFn Tryz.prog 142 [.int .i64 k] (.int .i64 (wd k)) := by
  rcases h with rfl | rfl | rfl
  · refine VFn.introC Tryz.call142 Tryz.func142 rfl rfl ?_
    refine And.intro ⟨by omega, by show (0 : Int) < ((3 : Nat) : Int); omega⟩ ?_
    exact And.intro trivial (AVle.refl _)
  · refine VFn.introC Tryz.call142 Tryz.func142 rfl rfl ?_
    refine And.intro ⟨by omega, by show (1 : Int) < ((3 : Nat) : Int); omega⟩ ?_
    exact And.intro trivial (AVle.refl _)
  · refine VFn.introC Tryz.call142 Tryz.func142 rfl rfl ?_
    refine And.intro ⟨by omega, by show (2 : Int) < ((3 : Nat) : Int); omega⟩ ?_
    exact And.intro trivial (AVle.refl _)
/-- the tier whose next window is due: 0, none -/
def dueT (h0 h1 h2 : Int) : Int := if h1 + 5 ≤ h0 then 1 else if h2 + 20 ≤ h1 then 2 else 0
def dueF (h0 h1 h2 : Int) : Int := if h1 + 5 ≤ h0 then h1 else if h2 + 20 ≤ h1 then h2 else 0
/-- how many windows are due -/
def dueN : Nat → Int → Int → Int → Int
  | 0, _, _, _ => 0
  | f + 1, h0, h1, h2 => if h1 + 5 ≤ h0 then 1 + dueN f h0 (h1 + 5) h2 else if h2 + 20 ≤ h1 then 1 + dueN f h0 h1 (h2 + 20) else 0
theorem dueN_b : ∀ f h0 h1 h2, 0 ≤ dueN f h0 h1 h2 ∧ dueN f h0 h1 h2 ≤ f
  | 0, _, _, _ => by simp [dueN]
  | f + 1, h0, h1, h2 => by
    have a := dueN_b f h0 (h1 + 5) h2
    have b := dueN_b f h0 h1 (h2 + 20)
    unfold dueN
    split
    · omega
    · split <;> omega
def Sta.h (s : Sta) (a b : Int) : Sta := { s with h1 := a, h2 := b }
theorem hi_b (L : List En) (hL : L.all En.ok = true) (lo hi k : Int) (h : tierOK L lo hi k = true) : 0 ≤ hi ∧ hi ≤ 100000 := by
  unfold tierOK at h
  simp only [Bool.and_eq_true, decide_eq_true_eq] at h
  have hl : 0 ≤ lo ∧ lo ≤ 100000 := by simpa [within] using h.1
  rw [runs_endE h.2]
  unfold endE
  cases hq : (ofT L k).getLast? with
  | none => exact hl
  | some e =>
    have he : e ∈ L := (List.mem_filter.1 (List.mem_of_getLast? hq)).1
    have := List.all_eq_true.1 hL e he
    unfold En.ok isRange at this
    simp [within] at this
    simp only; omega
theorem Sta.hi_b {s : Sta} (h : s.ok = true) : (0 ≤ s.h0 ∧ s.h0 ≤ 100000) ∧ (0 ≤ s.h1 ∧ s.h1 ≤ 100000) ∧ (0 ≤ s.h2 ∧ s.h2 ≤ 100000) := by
  unfold Sta.ok at h
  simp only [Bool.and_eq_true] at h
  obtain ⟨_, _, _, h4, _, _, t0, t1, t2⟩ := h
  exact ⟨Proofs.YtfaffgneccjpbaaGreatDoor.hi_b s.es h4 _ _ _ t0, Proofs.YtfaffgneccjpbaaGreatDoor.hi_b s.es h4 _ _ _ t1, Proofs.YtfaffgneccjpbaaGreatDoor.hi_b s.es h4 _ _ _ t2⟩
def Sta.due (s : Sta) : Int := dueN 300000 s.h0 s.h1 s.h2
end Go.Proofs.YtfaffgneccjpbaaGreatDoor
set_option linter.unusedVariables false
set_option linter.constructorNameAsVariable false
set_option linter.unusedSimpArgs false
set_option maxRecDepth 20000
namespace Go.Proofs.YtfaffgneccjpbaaGreatDoor
open Go Go.Vw

def headIs (L : List En) (e : En) : Bool := match L with | x :: _ => decide (x = e) | [] => false
def Sta.takes (s : Sta) (r : Rc) : Bool :=
  if r.k = 1 then decide (r.f = s.h0) && (decide (kN r.key = s.seq + 1) && !s.has r.key)
  else if r.k = 2 then decide (s.fence < r.tok)
  else if r.k = 3 then decide (r.tok = s.fence) && (decide (r.f = s.hi r.tier) && (decide (kN r.key = r.f) && (decide (kW r.key = r.tok) && (decide (r.t = r.f + wd r.tier) && (decide (r.t ≤ s.hi (r.tier - 1)) && (decide (s.lo (r.tier - 1) ≤ r.f) && !s.has r.key))))))
  else if r.k = 4 then decide (r.tok = s.fence) && (headIs (ofT s.es r.tier) r.en && (decide (r.tier = 2) || decide (r.t ≤ s.hi (r.tier + 1))))
  else decide (0 ≤ s.tombAt r.key)
theorem takes1 (s : Sta) (hL : s.es.length ≤ 1000000000) (hT : s.ts.length ≤ 1000000000) (hq : 0 ≤ s.seq ∧ s.seq ≤ 999999) (tok tier f t : Int) (key : List UInt8) : VFn Tryz.prog 148 [s.av, (Rc.mk 1 tok tier f t key).av] (.bool (s.takes ⟨1, tok, tier, f, t, key⟩)) := by
  have e : s.takes ⟨1, tok, tier, f, t, key⟩ = (decide (f = s.h0) && (decide (kN key = s.seq + 1) && !s.has key)) := rfl
  rw [e]
  refine VFn.introC Tryz.call148 Tryz.func148 rfl rfl ?_
  conv => whnf
  refine CallC.sca _ (readDataKey_fn key) ?_ ?_
  · exact rfl
  refine And.intro ⟨by omega, by show (0 : Int) < ((3 : Nat) : Int); omega⟩ ?_
  repeat' (conv => whnf
           first
      | refine Grd.intro (fun h => ?_) (fun h => ?_)
      | (refine CallC.sca _ (hasKey_fn s hL hT key) ?_ ?_; exact rfl)
      | refine And.intro (inI64 (by omega) (by omega)) ?_
      | refine And.intro trivial (AVle.of_eq (congrArg AV.bool ?_)))
  all_goals (simp_all)
theorem takes2 (s : Sta) (tok tier f t : Int) (key : List UInt8) : VFn Tryz.prog 148 [s.av, (Rc.mk 2 tok tier f t key).av] (.bool (s.takes ⟨2, tok, tier, f, t, key⟩)) := by
  refine VFn.introC Tryz.call148 Tryz.func148 rfl rfl ?_
  exact And.intro trivial (AVle.of_eq (congrArg AV.bool (show decide (s.fence < tok) = _ from rfl)))
theorem takes5 (s : Sta) (hT : s.ts.length ≤ 1000000000) (tok tier f t : Int) (key : List UInt8) : VFn Tryz.prog 148 [s.av, (Rc.mk 5 tok tier f t key).av] (.bool (s.takes ⟨5, tok, tier, f, t, key⟩)) := by
  refine VFn.introC Tryz.call148 Tryz.func148 rfl rfl ?_
  conv => whnf
  refine CallC.sca _ (tomb_fn s hT key) ?_ ?_
  · exact rfl
  exact And.intro trivial (AVle.of_eq (congrArg AV.bool (show decide (0 ≤ s.tombAt key) = _ from rfl)))
set_option maxHeartbeats 4000000 in
theorem takes3_1 (s : Sta) (hL : s.es.length ≤ 1000000000) (hT : s.ts.length ≤ 1000000000) (tok f t : Int) (hf : 0 ≤ f ∧ f ≤ 1000000) (key : List UInt8) : VFn Tryz.prog 148 [s.av, (Rc.mk 3 tok 1 f t key).av] (.bool (s.takes ⟨3, tok, 1, f, t, key⟩)) := by
  have w1 : VFn Tryz.prog 142 [.int .i64 1] (.int .i64 5) := width_fn 1 (.inr (.inl rfl))
  have e : s.takes ⟨3, tok, 1, f, t, key⟩ = (decide (tok = s.fence) && (decide (f = s.h1) && (decide (kN key = f) && (decide (kW key = tok) && (decide (t = f + 5) && (decide (t ≤ s.h0) && (decide (s.l0 ≤ f) && !s.has key))))))) := rfl
  rw [e]
  refine VFn.introC Tryz.call148 Tryz.func148 rfl rfl ?_
  conv => whnf
  refine CallC.sca _ (readDataKey_fn key) ?_ ?_
  · exact rfl
  refine DrawC.mk 68 rfl (by kernel_rfl) ?_
  repeat' (first
    | refine Grd.intro (fun h => ?_) (fun h => ?_)
    | ((conv => whnf); refine Grd.intro (fun h => ?_) (fun h => ?_))
    | refine PCallC.sca _ (w1) rfl ?_
    | refine PCallC.sca _ (hasKey_fn s hL hT key) rfl ?_
    | refine And.intro (inI64 (by (try simp only); omega) (by (try simp only); omega)) ?_
    | refine And.intro ⟨show (0 : Int) ≤ 0 by omega, show (0 : Int) < ((3 : Nat) : Int) by omega⟩ ?_
    | refine And.intro ⟨show (0 : Int) ≤ 1 by omega, show (1 : Int) < ((3 : Nat) : Int) by omega⟩ ?_
    | refine And.intro ⟨show (0 : Int) ≤ 2 by omega, show (2 : Int) < ((3 : Nat) : Int) by omega⟩ ?_
    | refine And.intro trivial (AVle.of_eq (congrArg AV.bool ?_)))
  all_goals (first | (simp_all; done) | (simp_all; intros; omega))
set_option maxHeartbeats 4000000 in
theorem takes3_2 (s : Sta) (hL : s.es.length ≤ 1000000000) (hT : s.ts.length ≤ 1000000000) (tok f t : Int) (hf : 0 ≤ f ∧ f ≤ 1000000) (key : List UInt8) : VFn Tryz.prog 148 [s.av, (Rc.mk 3 tok 2 f t key).av] (.bool (s.takes ⟨3, tok, 2, f, t, key⟩)) := by
  have w1 : VFn Tryz.prog 142 [.int .i64 2] (.int .i64 20) := width_fn 2 (.inr (.inr rfl))
  have e : s.takes ⟨3, tok, 2, f, t, key⟩ = (decide (tok = s.fence) && (decide (f = s.h2) && (decide (kN key = f) && (decide (kW key = tok) && (decide (t = f + 20) && (decide (t ≤ s.h1) && (decide (s.l1 ≤ f) && !s.has key))))))) := rfl
  rw [e]
  refine VFn.introC Tryz.call148 Tryz.func148 rfl rfl ?_
  conv => whnf
  refine CallC.sca _ (readDataKey_fn key) ?_ ?_
  · exact rfl
  refine DrawC.mk 68 rfl (by kernel_rfl) ?_
  repeat' (first
    | refine Grd.intro (fun h => ?_) (fun h => ?_)
    | ((conv => whnf); refine Grd.intro (fun h => ?_) (fun h => ?_))
    | refine PCallC.sca _ (w1) rfl ?_
    | refine PCallC.sca _ (hasKey_fn s hL hT key) rfl ?_
    | refine And.intro (inI64 (by (try simp only); omega) (by (try simp only); omega)) ?_
    | refine And.intro ⟨show (0 : Int) ≤ 0 by omega, show (0 : Int) < ((3 : Nat) : Int) by omega⟩ ?_
    | refine And.intro ⟨show (0 : Int) ≤ 1 by omega, show (1 : Int) < ((3 : Nat) : Int) by omega⟩ ?_
    | refine And.intro ⟨show (0 : Int) ≤ 2 by omega, show (2 : Int) < ((3 : Nat) : Int) by omega⟩ ?_
    | refine And.intro trivial (AVle.of_eq (congrArg AV.bool ?_)))
  all_goals (first | (simp_all; done) | (simp_all; intros; omega))
end Go.Proofs.YtfaffgneccjpbaaGreatDoor
