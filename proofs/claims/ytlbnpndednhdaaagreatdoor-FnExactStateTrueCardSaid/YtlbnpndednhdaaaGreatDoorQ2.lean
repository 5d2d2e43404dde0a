/- Contracts of functions that the claim reaches, and the plain law of what they compute; each theorem bears its own conditions. -/
import Derived.Test.YtlbnpndednhdaaaGreatDoorQ1
import Derived.Test.YtlbnpndednhdaaaGreatDoorV49
import Derived.Lib.AtoiErrMem
set_option linter.unusedVariables false
set_option linter.constructorNameAsVariable false
set_option linter.unusedSimpArgs false
set_option maxRecDepth 20000
namespace Go.Proofs.YtlbnpndednhdaaaGreatDoor
open Go Go.Vw

def Ag.mrg (a b : Ag) : Ag := if a.c = 0 then b else if b.c = 0 then a else ⟨a.c + b.c, a.s + b.s, if b.mn < a.mn then b.mn else a.mn, if a.mx < b.mx then b.mx else a.mx, a.f, b.l⟩
def Ag.cells (a : Ag) : List AV := [.int .i64 a.c, .int .i64 a.s, .int .i64 a.mn, .int .i64 a.mx, .int .i64 a.f, .int .i64 a.l]
def one (v : Int) : Ag := ⟨1, v, v, v, v, v⟩
def aggL (L : List Smp) : Ag := L.foldl (fun a s => a.mrg (one s.v)) default
theorem aggL_snoc {L : List Smp} {i : Nat} (h : i < L.length) : aggL (L.take (i + 1)) = (aggL (L.take i)).mrg (one (ix L i).v) := by
  unfold aggL; rw [take_snoc h, List.foldl_append]; rfl
def Ag.B (a : Ag) (n : Int) : Prop := a.c = n ∧ (-1000000 * n ≤ a.s ∧ a.s ≤ 1000000 * n) ∧ (n = 0 → a = default) ∧ (0 < n → a.some = true)
theorem mrg_B {a : Ag} {n v : Int} (h : a.B n) (hn : 0 ≤ n ∧ n < 100000) (hv : -1000000 ≤ v ∧ v ≤ 1000000) : (a.mrg (one v)).B (n + 1) := by
  obtain ⟨h1, h2, h3, h4⟩ := h
  unfold Ag.mrg
  by_cases h0 : a.c = 0
  · rw [if_pos h0]
    refine ⟨by simp only [one]; omega, by simp only [one]; omega, fun h => by omega, fun _ => ?_⟩
    unfold Ag.some one
    simp [within]; omega
  · rw [if_neg h0, if_neg (show ¬ (one v).c = 0 by simp [one])]
    have h5 := h4 (by omega)
    unfold Ag.some at h5
    simp [within] at h5
    refine ⟨by simp only [one]; omega, by simp only [one]; omega, fun h => by omega, fun _ => ?_⟩
    unfold Ag.some one
    simp only [within]
    have e1 : ∀ m, m ≤ a.mn → m ≤ v → (a.c + 1) * m ≤ a.s + v := fun m q1 q2 => by
      have : a.c * m ≤ a.c * a.mn := Int.mul_le_mul_of_nonneg_left q1 (by omega)
      have : (a.c + 1) * m = a.c * m + m := by rw [Int.add_mul]; omega
      omega
    have e2 : ∀ m, a.mx ≤ m → v ≤ m → a.s + v ≤ (a.c + 1) * m := fun m q1 q2 => by
      have : a.c * a.mx ≤ a.c * m := Int.mul_le_mul_of_nonneg_left q1 (by omega)
      have : (a.c + 1) * m = a.c * m + m := by rw [Int.add_mul]; omega
      omega
    by_cases m1 : v < a.mn <;> by_cases m2 : a.mx < v
    · rw [if_pos m1, if_pos m2]
      have := e1 v (by omega) (by omega)
      have := e2 v (by omega) (by omega)
      simp; omega
    · rw [if_pos m1, if_neg m2]
      have := e1 v (by omega) (by omega)
      have := e2 a.mx (by omega) (by omega)
      simp; omega
    · rw [if_neg m1, if_pos m2]
      have := e1 a.mn (by omega) (by omega)
      have := e2 v (by omega) (by omega)
      simp; omega
    · rw [if_neg m1, if_neg m2]
      have := e1 a.mn (by omega) (by omega)
      have := e2 a.mx (by omega) (by omega)
      simp; omega
theorem aggL_B {L : List Smp} (hL : L.length ≤ 100000) (hv : ∀ e ∈ L, -1000000 ≤ e.v ∧ e.v ≤ 1000000) : ∀ i : Nat, i ≤ L.length → (aggL (L.take i)).B i
  | 0, _ => ⟨rfl, show -1000000 * ((0 : Nat) : Int) ≤ 0 ∧ (0 : Int) ≤ 1000000 * ((0 : Nat) : Int) by omega, fun _ => rfl, fun h => absurd h (by simp)⟩
  | i + 1, h => by
    rw [aggL_snoc h]
    have := mrg_B (aggL_B hL hv i (by omega)) ⟨by omega, by omega⟩ (hv _ (getD_mem (L := L) h))
    simpa using this
theorem B_ok {a : Ag} {n : Int} (h : a.B n) (hn : 0 ≤ n) : a.ok = true := by
  rcases Int.lt_or_le 0 n with h0 | h0
  · unfold Ag.ok; rw [h.2.2.2 h0]; simp
  · have := h.2.2.1 (by omega)
    subst this; rfl
theorem l02Merge_fn (a b : Ag) (h1 : inI .i64 (a.c + b.c)) (h2 : inI .i64 (a.s + b.s)) : VFn Tryz.prog 247 [a.av, b.av] (a.mrg b).av := by
  obtain ⟨R, hR⟩ : ∃ R, R = a.mrg b := ⟨_, rfl⟩
  rw [← hR]
  refine VFn.introC Tryz.call247 Tryz.func247 rfl rfl ?_
  refine Grd.intro (fun g1 => ?_) (fun g1 => ?_)
  · rw [Ag.mrg, if_pos (show a.c = 0 from of_decide_eq_true g1)] at hR
    subst hR
    exact And.intro trivial (AVle.refl _)
  refine Grd.intro (fun g2 => ?_) (fun g2 => ?_)
  · rw [Ag.mrg, if_neg (show ¬ a.c = 0 from of_decide_eq_false g1), if_pos (show b.c = 0 from of_decide_eq_true g2)] at hR
    subst hR
    exact And.intro trivial (AVle.refl _)
  rw [Ag.mrg, if_neg (show ¬ a.c = 0 from of_decide_eq_false g1), if_neg (show ¬ b.c = 0 from of_decide_eq_false g2)] at hR
  refine And.intro h1 ?_
  refine And.intro h2 ?_
  subst hR
  exact And.intro trivial (AVle.refl _)
theorem l02Of_fn (L : List Smp) (hL : L.length ≤ 100000) (hv : ∀ e ∈ L, -1000000 ≤ e.v ∧ e.v ≤ 1000000) : VFn Tryz.prog 248 [smps L] (aggL L).av := by
  have hB := aggL_B hL hv
  refine VFn.introC Tryz.call248 Tryz.func248 rfl rfl ?_
  refine LoopC.mk (fun i : Nat => i ≤ L.length) (fun i => [(0, smps L), (2, .bptr 0 0), (3, .bptr 1 0), (4, .int .i64 i)])
    (fun i => [(0, .box [.int .i64 0, .int .i64 0, .int .i64 0, .int .i64 0, .int .i64 0, .int .i64 0]), (1, .box (aggL (L.take i)).cells)]) 2 (fun i => L.length - i) 0
    ⟨Nat.zero_le _, [(0, 0), (1, 1)], rfl, rfl, ⟨AVle.refl _, AVle.refl _, AVle.refl _, AVle.refl _, trivial⟩, ⟨MOle.refl _, MOle.refl _, trivial⟩⟩ ?_
  intro i hi
  refine Grd.intro (fun g1 => ?_) (fun g1 => ?_)
  · have hin : i < L.length := by have := of_decide_eq_true g1; omega
    have b := hB i hi
    have hvi := hv _ (getD_mem hin)
    refine And.intro (by omega) ?_
    conv => whnf
    refine CallC.sca _ (l02Merge_fn (aggL (L.take i)) (one (ix L i).v) (inI64 (by have := b.1; simp only [one]; omega) (by have := b.1; simp only [one]; omega)) (inI64 (by have := b.2.1; simp only [one]; omega) (by have := b.2.1; simp only [one]; omega))) ?_ ?_
    · exact rfl
    refine And.intro (inI64 (by omega) (by omega)) ?_
    exact ⟨i + 1, hin, by omega, [(0, 0), (1, 1)], rfl, rfl, ⟨AVle.refl _, AVle.refl _, AVle.refl _, AVle.of_eq (congrArg (AV.int .i64) (by simp)), trivial⟩, ⟨MOle.refl _, MOle.of_eq (show MO.box ((aggL (L.take i)).mrg (one (ix L i).v)).cells = _ by rw [aggL_snoc hin]), trivial⟩⟩
  · have : i = L.length := by have := of_decide_eq_false g1; omega
    subst this
    exact And.intro trivial (AVle.of_eq (show (aggL (L.take L.length)).av = _ by rw [List.take_of_length_le (Nat.le_refl _)]))
def Ag.eqb (x y : Ag) : Bool := decide (x.c = y.c) && (decide (x.s = y.s) && (decide (x.mn = y.mn) && (decide (x.mx = y.mx) && (decide (x.f = y.f) && (decide (x.l = y.l) && true)))))
theorem smps_bd {L : List Smp} (h : smpsOK L = true) : L.length ≤ 4096 ∧ ∀ e ∈ L, -1000000 ≤ e.v ∧ e.v ≤ 1000000 := by
  unfold smpsOK at h
  rw [Bool.and_eq_true] at h
  refine ⟨of_decide_eq_true h.1, fun e he => ?_⟩
  obtain ⟨i, hi, e0⟩ := List.mem_iff_getElem.1 he
  have e0 : ix L i = e := by rw [ix_lt hi, e0]
  subst e0
  have := allN_iff.1 h.2 i hi
  simp [smpAt, within] at this
  omega
theorem merged_fn (a b : Ag) (h1 : inI .i64 (a.c + b.c)) (h2 : inI .i64 (a.s + b.s)) : VFn Tryz.prog 249 [a.av, b.av] (a.mrg b).av := by
  obtain ⟨R, hR⟩ : ∃ R, R = a.mrg b := ⟨_, rfl⟩
  rw [← hR]
  refine VFn.introC Tryz.call249 Tryz.func249 rfl rfl ?_
  refine Grd.intro (fun g1 => ?_) (fun g1 => ?_)
  · rw [Ag.mrg, if_pos (show a.c = 0 from of_decide_eq_true g1)] at hR
    subst hR
    exact And.intro trivial (AVle.refl _)
  refine Grd.intro (fun g2 => ?_) (fun g2 => ?_)
  · rw [Ag.mrg, if_neg (show ¬ a.c = 0 from of_decide_eq_false g1), if_pos (show b.c = 0 from of_decide_eq_true g2)] at hR
    subst hR
    exact And.intro trivial (AVle.refl _)
  rw [Ag.mrg, if_neg (show ¬ a.c = 0 from of_decide_eq_false g1), if_neg (show ¬ b.c = 0 from of_decide_eq_false g2)] at hR
  refine And.intro h1 ?_
  refine And.intro h2 ?_
  subst hR
  exact And.intro trivial (AVle.refl _)
theorem aggL_app (L : List Smp) (x : Smp) : aggL (L ++ [x]) = (aggL L).mrg (one x.v) := by unfold aggL; rw [List.foldl_append]; rfl
theorem aggL_one (x : Smp) : aggL [x] = one x.v := by simp [aggL, Ag.mrg, default]
theorem aggL_bd {L : List Smp} (hL : L.length ≤ 100000) (hv : ∀ e ∈ L, -1000000 ≤ e.v ∧ e.v ≤ 1000000) : (aggL L).B L.length := by
  have := aggL_B hL hv L.length (Nat.le_refl _)
  rwa [List.take_of_length_le (Nat.le_refl _)] at this
theorem aggOf_fn (L : List Smp) (hL : L.length ≤ 100000) (hv : ∀ e ∈ L, -1000000 ≤ e.v ∧ e.v ≤ 1000000) : VFn Tryz.prog 173 [smps L] (aggL L).av := by
  have hB := aggL_B hL hv
  refine VFn.introC Tryz.call173 Tryz.func173 rfl rfl ?_
  refine LoopC.mk (fun i : Nat => i ≤ L.length) (fun i => [(2, .bptr 0 0), (3, .bptr 1 0), (7, smps L), (8, .int .i64 L.length), (9, .int .i64 i)])
    (fun i => [(0, .box [.int .i64 0, .int .i64 0, .int .i64 0, .int .i64 0, .int .i64 0, .int .i64 0]), (1, .box (aggL (L.take i)).cells)]) 2 (fun i => L.length - i) 0
    ⟨Nat.zero_le _, [(0, 0), (1, 1)], rfl, rfl, ⟨AVle.refl _, AVle.refl _, AVle.refl _, AVle.refl _, AVle.refl _, trivial⟩, ⟨MOle.refl _, MOle.refl _, trivial⟩⟩ ?_
  intro i hi
  refine Grd.intro (fun g1 => ?_) (fun g1 => ?_)
  · have hin : i < L.length := by have := of_decide_eq_true g1; omega
    have b := hB i hi
    have hvi := hv _ (getD_mem hin)
    refine And.intro (by omega) ?_
    conv => whnf
    refine CallC.sca _ (merged_fn (aggL (L.take i)) (one (ix L i).v) (inI64 (by have := b.1; simp only [one]; omega) (by have := b.1; simp only [one]; omega)) (inI64 (by have := b.2.1; simp only [one]; omega) (by have := b.2.1; simp only [one]; omega))) ?_ ?_
    · exact rfl
    refine And.intro (inI64 (by omega) (by omega)) ?_
    exact ⟨i + 1, hin, by omega, [(0, 0), (1, 1)], rfl, rfl, ⟨AVle.refl _, AVle.refl _, AVle.refl _, AVle.refl _, AVle.of_eq (congrArg (AV.int .i64) (by simp)), trivial⟩, ⟨MOle.refl _, MOle.of_eq (show MO.box ((aggL (L.take i)).mrg (one (ix L i).v)).cells = _ by rw [aggL_snoc hin]), trivial⟩⟩
  · have : i = L.length := by have := of_decide_eq_false g1; omega
    subst this
    exact And.intro trivial (AVle.of_eq (show (aggL (L.take L.length)).av = _ by rw [List.take_of_length_le (Nat.le_refl _)]))
def smpsIn (L : List Smp) (a b : Int) : List Smp := L.filter fun e => within e.t a (b - 1)
theorem smpsIn_yes {L : List Smp} {a b : Int} {i : Nat} (h : i < L.length) (hw : within (ix L i).t a (b - 1) = true) : smpsIn (L.take (i + 1)) a b = smpsIn (L.take i) a b ++ [ix L i] := by
  unfold smpsIn; rw [take_snoc h, List.filter_append]; simp [hw]
theorem smpsIn_no {L : List Smp} {a b : Int} {i : Nat} (h : i < L.length) (hw : within (ix L i).t a (b - 1) = false) : smpsIn (L.take (i + 1)) a b = smpsIn (L.take i) a b := by
  unfold smpsIn; rw [take_snoc h, List.filter_append]; simp [hw]
theorem smpsIn_len (L : List Smp) (a b : Int) : (smpsIn L a b).length ≤ L.length := List.length_filter_le _ _
theorem smpsIn_mem {L : List Smp} {a b : Int} {e : Smp} (h : e ∈ smpsIn L a b) : e ∈ L := (List.mem_filter.1 h).1
theorem samplesIn_fn (L : List Smp) (hL : L.length ≤ 1048576) (a b : Int) (hb : inI .i64 (b - 1)) : VFn Tryz.prog 174 [smps L, .int .i64 a, .int .i64 b] (smps (smpsIn L a b)) := by
  obtain ⟨R, hR⟩ : ∃ R, R = smpsIn L a b := ⟨_, rfl⟩
  rw [← hR]
  have hl := fun i => Nat.le_trans (smpsIn_len (L.take i) a b) (by simp; omega : (L.take i).length ≤ i)
  refine VFn.introC Tryz.call174 Tryz.func174 rfl rfl ?_
  refine LoopC.mk (fun i : Nat => i ≤ L.length) (fun i => [(1, .int .i64 a), (2, .int .i64 b), (7, .osl 0), (11, smps L), (12, .int .i64 L.length), (13, .int .i64 i)])
    (fun i => [(0, .arr 144 2 (smpsIn (L.take i) a b).length fun j => (ix (smpsIn (L.take i) a b) j).row)]) 1 (fun i => L.length - i) 0
    ⟨Nat.zero_le _, [(0, 0)], rfl, rfl, ⟨AVle.refl _, AVle.refl _, AVle.refl _, AVle.refl _, AVle.refl _, AVle.refl _, trivial⟩, ⟨MOle.arr rfl fun i hi => absurd hi (Nat.not_lt_zero i), trivial⟩⟩ ?_
  intro i hi
  refine Grd.intro (fun h2 => ?_) (fun h2 => ?_)
  · have hin : i < L.length := by have := of_decide_eq_true h2; omega
    refine And.intro (by omega) ?_
    refine And.intro hb ?_
    conv => whnf
    refine CallC.sca _ (within_fn _ _ _) ?_ ?_
    · exact rfl
    refine Grd.intro (fun h3 => ?_) (fun h3 => ?_)
    · have hs := smpsIn_yes hin h3
      refine And.intro ⟨show ((smpsIn (L.take i) a b).length + 1) * 16 ≤ 140737488355328 by have := hl i; omega, all1 rfl⟩ ?_
      refine And.intro (inI64 (by omega) (by omega)) ?_
      refine ⟨i + 1, hin, by omega, [(3, 0)], rfl, rfl, ⟨AVle.refl _, AVle.refl _, AVle.refl _, AVle.refl _, AVle.refl _, AVle.of_eq (congrArg (AV.int .i64) (by simp)), trivial⟩, ⟨?_, trivial⟩⟩
      exact arr_next (f := Smp.row) hs rfl
    · have hs := smpsIn_no hin h3
      refine And.intro (inI64 (by omega) (by omega)) ?_
      exact ⟨i + 1, hin, by omega, [(0, 0)], rfl, rfl, ⟨AVle.refl _, AVle.refl _, AVle.refl _, AVle.refl _, AVle.refl _, AVle.of_eq (congrArg (AV.int .i64) (by simp)), trivial⟩, ⟨MOle.of_eq (show MO.arr 144 2 (smpsIn (L.take i) a b).length (fun j => (ix (smpsIn (L.take i) a b) j).row) = _ by rw [hs]), trivial⟩⟩
  · have : i = L.length := by have := of_decide_eq_false h2; omega
    subst this
    have e : smpsIn (L.take L.length) a b = R := by rw [List.take_of_length_le (Nat.le_refl _), hR]
    subst e
    exact And.intro trivial (AVle.sl rfl fun j hj => rfl)
theorem l13Fold_fn (L : List Smp) (hL : L.length ≤ 100000) (hv : ∀ e ∈ L, -1000000 ≤ e.v ∧ e.v ≤ 1000000) (a b : Int) (hb : inI .i64 (b - 1)) : VFn Tryz.prog 172 [smps L, .int .i64 a, .int .i64 b] (aggL (smpsIn L a b)).av := by
  have hB := fun i => aggL_bd (L := smpsIn (L.take i) a b) (by have := smpsIn_len (L.take i) a b; simp at this; omega) (fun e he => hv e (List.mem_of_mem_take (smpsIn_mem he)))
  have hl := fun i => Nat.le_trans (smpsIn_len (L.take i) a b) (by simp; omega : (L.take i).length ≤ i)
  refine VFn.introC Tryz.call172 Tryz.func172 rfl rfl ?_
  refine LoopC.mk (fun i : Nat => i ≤ L.length) (fun i => [(0, smps L), (1, .int .i64 a), (2, .int .i64 b), (6, .bptr 0 0), (7, .bptr 1 0), (8, .int .i64 i)])
    (fun i => [(0, .box [.int .i64 0, .int .i64 0, .int .i64 0, .int .i64 0, .int .i64 0, .int .i64 0]), (1, .box (aggL (smpsIn (L.take i) a b)).cells)]) 2 (fun i => L.length - i) 0
    ⟨Nat.zero_le _, [(0, 0), (1, 1)], rfl, rfl, ⟨AVle.refl _, AVle.refl _, AVle.refl _, AVle.refl _, AVle.refl _, AVle.refl _, trivial⟩, ⟨MOle.refl _, MOle.refl _, trivial⟩⟩ ?_
  intro i hi
  refine Grd.intro (fun g1 => ?_) (fun g1 => ?_)
  · have hin : i < L.length := by have := of_decide_eq_true g1; omega
    have bb := hB i
    have hli := hl i
    have hvi := hv _ (getD_mem hin)
    refine And.intro (by omega) ?_
    refine And.intro hb ?_
    conv => whnf
    refine CallC.sca _ (l01In_fn _ _ _) ?_ ?_
    · exact rfl
    refine Grd.intro (fun h3 => ?_) (fun h3 => ?_)
    · have e := (congrArg aggL (smpsIn_yes hin h3)).trans (aggL_app _ _)
      refine DrawC.mk 8 rfl (by kernel_rfl) ?_
      refine And.intro (by omega) ?_
      refine PCallC.sca _ ((l02Of_fn [ix L i] (by simp) (by intro e he; rw [List.mem_singleton.1 he]; exact hvi)).weak (AVsle.cons (AVle.sl1 rfl) AVsle.nil) (AVle.refl _)) rfl ?_
      rw [aggL_one]
      refine PCallC.sca _ (l02Merge_fn (aggL (smpsIn (L.take i) a b)) (one (ix L i).v) (inI64 (by have := bb.1; simp only [one]; omega) (by have := bb.1; simp only [one]; omega)) (inI64 (by have := bb.2.1; simp only [one]; omega) (by have := bb.2.1; simp only [one]; omega))) rfl ?_
      refine And.intro (inI64 (by omega) (by omega)) ?_
      refine ⟨i + 1, hin, by omega, [(0, 0), (1, 1)], rfl, rfl, ⟨AVle.refl _, AVle.refl _, AVle.refl _, AVle.refl _, AVle.refl _, AVle.of_eq (congrArg (AV.int .i64) (by simp)), trivial⟩, ⟨MOle.refl _, ?_, trivial⟩⟩
      exact MOle.of_eq (show MO.box ((aggL (smpsIn (L.take i) a b)).mrg (one (ix L i).v)).cells = _ by rw [← e])
    · have e := congrArg aggL (smpsIn_no hin h3)
      refine And.intro (inI64 (by omega) (by omega)) ?_
      refine ⟨i + 1, hin, by omega, [(0, 0), (1, 1)], rfl, rfl, ⟨AVle.refl _, AVle.refl _, AVle.refl _, AVle.refl _, AVle.refl _, AVle.of_eq (congrArg (AV.int .i64) (by simp)), trivial⟩, ⟨MOle.refl _, ?_, trivial⟩⟩
      exact MOle.of_eq (show MO.box (aggL (smpsIn (L.take i) a b)).cells = _ by rw [← e])
  · have : i = L.length := by have := of_decide_eq_false g1; omega
    subst this
    exact And.intro trivial (AVle.of_eq (show (aggL (smpsIn (L.take L.length) a b)).av = _ by rw [List.take_of_length_le (Nat.le_refl _)]))
end Go.Proofs.YtlbnpndednhdaaaGreatDoor
set_option linter.unusedVariables false
set_option linter.constructorNameAsVariable false
set_option linter.unusedSimpArgs false
set_option maxRecDepth 20000
namespace Go.Proofs.YtlbnpndednhdaaaGreatDoor
open Go Go.Vw

theorem keyOK_bad {k : List UInt8} {i : Nat} (hi : i < k.length) (h : keyC (k.getD i 0) = false) : keyOK k = false := by
  have : k.all keyC = false := by
    rw [← Bool.not_eq_true]; intro h'
    have e : k.getD i 0 = k[i] := by simp [List.getD, hi]
    rw [e, List.all_eq_true.1 h' _ (List.getElem_mem hi)] at h; cases h
  unfold keyOK; rw [this]; rfl
theorem keyOK_all {k : List UInt8} (h : ∀ j, j < k.length → keyC (k.getD j 0) = true) : keyOK k = within k.length 1 30 := by
  have : k.all keyC = true := List.all_eq_true.2 fun x hx => by
    obtain ⟨j, hj, e⟩ := List.getElem_of_mem hx
    have := h j hj
    have e2 : k.getD j 0 = k[j] := by simp [List.getD, hj]
    rw [e2, e] at this; exact this
  unfold keyOK; rw [this]; rfl
theorem KeyOK_fn (k : List UInt8) (hk : k.length ≤ 1000000000) : VFn Tryz.prog 152 [.str (B k)] (.bool (keyOK k)) := by
  obtain ⟨R, hR⟩ : ∃ R, R = keyOK k := ⟨_, rfl⟩
  rw [← hR]
  refine VFn.introC Tryz.call152 Tryz.func152 rfl rfl ?_
  refine LoopC.mk (fun i : Nat => i ≤ k.length ∧ ∀ j, j < i → keyC (k.getD j 0) = true) (fun i => [(0, .str (B k)), (6, .int .i64 k.length), (7, .int .i64 i)]) (fun _ => []) 0 (fun i => k.length - i) 0
    ⟨⟨Nat.zero_le _, fun j hj => absurd hj (Nat.not_lt_zero j)⟩, [], rfl, rfl, ⟨AVle.refl _, AVle.refl _, AVle.refl _, trivial⟩, trivial⟩ ?_
  intro i hi
  refine Grd.intro (fun h2 => ?_) (fun h2 => ?_)
  · have hin : i < k.length := by have := of_decide_eq_true h2; omega
    refine And.intro ⟨by omega, show (i : Int) < ((B k).size : Int) by rw [B_size]; omega⟩ ?_
    have hbad : keyC (k.getD i 0) = false → false = R := fun h => by rw [hR, keyOK_bad hin h]
    have hgood : keyC (k.getD i 0) = true → ∀ j, j < i + 1 → keyC (k.getD j 0) = true := fun h j hj => by
      rcases Nat.lt_or_ge j i with h' | h'
      · exact hi.2 j h'
      · rw [show j = i by omega]; exact h
    have hx : (k.getD i 0).toNat = ((B k).data.toList.getD (i : Int).toNat 0).toNat := rfl
    generalize ((B k).data.toList.getD (i : Int).toNat 0).toNat = c at hx ⊢
    have hC : keyC (k.getD i 0) = ((decide (97 ≤ (c : Int)) && decide ((c : Int) ≤ 122)) || (decide (48 ≤ (c : Int)) && decide ((c : Int) ≤ 57)) || decide ((c : Int) = 47) || decide ((c : Int) = 45)) := by unfold keyC; rw [hx]
    rw [hC] at hbad hgood
    repeat' (first
      | refine Grd.intro (fun h => ?_) (fun h => ?_)
      | ((conv => whnf); refine Grd.intro (fun h => ?_) (fun h => ?_)))
    all_goals first
      | exact And.intro trivial (AVle.of_eq (congrArg AV.bool (hbad (by simp_all; omega))))
      | exact And.intro trivial (AVle.of_eq (congrArg AV.bool (hbad (by simp_all))))
      | (refine And.intro (inI64 (by omega) (by omega)) ?_
         exact ⟨i + 1, ⟨hin, hgood (by simp_all; omega)⟩, by omega, [], rfl, rfl, ⟨AVle.refl _, AVle.refl _, AVle.of_eq (congrArg (AV.int .i64) (by simp)), trivial⟩, trivial⟩)
      | (refine And.intro (inI64 (by omega) (by omega)) ?_
         exact ⟨i + 1, ⟨hin, hgood (by simp_all)⟩, by omega, [], rfl, rfl, ⟨AVle.refl _, AVle.refl _, AVle.of_eq (congrArg (AV.int .i64) (by simp)), trivial⟩, trivial⟩)
  · have : i = k.length := by have := of_decide_eq_false h2; omega
    subst this
    conv => whnf
    refine CallC.sca _ (within_fn _ _ _) ?_ ?_
    · exact rfl
    rw [hR, keyOK_all hi.2]
    exact And.intro trivial (AVle.of_eq (congrArg AV.bool (show within ((B k).size : Nat) 1 30 = _ by rw [B_size])))
theorem StoreOK_fn (s : Sto) (hL : s.os.length ≤ 1000000000) (hk : ∀ o ∈ s.os, o.key.length ≤ 1000000000) : VFn Tryz.prog 70 [s.av] (.bool s.ok) := by
  refine VFn.introC Tryz.call70 Tryz.func70 rfl rfl ?_
  conv => whnf
  refine CallC.sca _ (within_fn s.next 1 1000000000) ?_ ?_
  · exact rfl
  refine Grd.intro (fun h1 => ?_) (fun h1 => ?_)
  · have h1 : within s.next 1 1000000000 = false := wnot h1
    rw [show s.ok = false by unfold Sto.ok; rw [h1]; rfl]
    exact And.intro trivial (AVle.refl _)
  have h1 : within s.next 1 1000000000 = true := wyes h1
  refine Grd.intro (fun h2 => ?_) (fun h2 => ?_)
  · have h2 : ¬ s.os.length ≤ 300 := by
      have := of_decide_eq_true (show decide ((300 : Int) < (s.os.length : Int)) = true from h2); omega
    rw [show s.ok = false by unfold Sto.ok; rw [decide_eq_false h2]; simp]
    exact And.intro trivial (AVle.refl _)
  have h2 : s.os.length ≤ 300 := by
    have := of_decide_eq_false (show decide ((300 : Int) < (s.os.length : Int)) = false from h2); omega
  have hn : 1 ≤ s.next ∧ s.next ≤ 1000000000 := by simpa [within] using h1
  refine LoopC.mk (fun i : Nat => i ≤ s.os.length ∧ ∀ j, j < i → s.eOK j = true) (fun i => [(1, .bptr 0 0), (3, .omap 1), (18, obs s.os), (19, .int .i64 s.os.length), (20, .int .i64 i)]) (fun i => [(0, .box s.row), (1, .imap (s.vers i))]) 2 (fun i => s.os.length - i) 0
    ⟨⟨Nat.zero_le _, fun j hj => absurd hj (Nat.not_lt_zero j)⟩, [(0, 0), (1, 1)], rfl, rfl, ⟨AVle.refl _, AVle.refl _, AVle.refl _, AVle.refl _, AVle.refl _, trivial⟩, ⟨MOle.refl _, MOle.refl _, trivial⟩⟩ ?_
  intro i hi
  obtain ⟨hi, hall⟩ := hi
  refine Grd.intro (fun h3 => ?_) (fun h3 => ?_)
  · have hin : i < s.os.length := by have := of_decide_eq_true h3; omega
    have hbad : s.eOK i = false → s.ok = false := Sto.ok_no hin
    refine And.intro (by omega) ?_
    refine DrawC.mk 41 rfl (by kernel_rfl) ?_
    refine PCallC.sca _ (KeyOK_fn (ix s.os i).key (hk _ (getD_mem hin))) rfl ?_
    refine Grd.intro (fun g1 => ?_) (fun g1 => ?_)
    · rw [hbad (by unfold Sto.eOK; rw [wnot g1]; rfl)]
      exact And.intro trivial (AVle.refl _)
    refine And.intro (inI64 (by omega) (by omega)) ?_
    refine PCallC.sca _ (within_fn (ix s.os i).ver 1 (s.next - 1)) rfl ?_
    conv => whnf
    refine Grd.intro (fun g2 => ?_) (fun g2 => ?_)
    · rw [hbad (by unfold Sto.eOK; rw [show within (ix s.os i).ver 1 (s.next - 1) = false from wnot g2]; simp)]
      exact And.intro trivial (AVle.refl _)
    conv => whnf
    refine Grd.intro (fun g3 => ?_) (fun g3 => ?_)
    · have g3 : ¬ (ix s.os i).data.length ≤ 600 := by
        have := of_decide_eq_true (show decide ((600 : Int) < (((B (ix s.os i).data).size : Nat) : Int)) = true from g3)
        rw [B_size] at this; omega
      rw [hbad (by unfold Sto.eOK; rw [decide_eq_false g3]; simp)]
      exact And.intro trivial (AVle.refl _)
    conv => whnf
    refine Grd.intro (fun g4 => ?_) (fun g4 => ?_)
    · have g4 : decide ((ix s.os i).ver ∈ (s.os.take i).map (·.ver)) = true := g4
      rw [hbad (by unfold Sto.eOK; rw [g4]; simp)]
      exact And.intro trivial (AVle.refl _)
    have g4 : decide ((ix s.os i).ver ∈ s.vers i) = false := g4
    have g3 : (ix s.os i).data.length ≤ 600 := by
      have := of_decide_eq_false (show decide ((600 : Int) < (((B (ix s.os i).data).size : Nat) : Int)) = false from g3)
      rw [B_size] at this; omega
    have hpre : (decide (i = 0) || decide ((ix s.os (i - 1)).key < (ix s.os i).key)) = true → s.eOK i = true := fun h => by
      unfold Sto.eOK; rw [wyes g1, show within (ix s.os i).ver 1 (s.next - 1) = true from wyes g2, decide_eq_true g3, show decide ((ix s.os i).ver ∈ (s.os.take i).map (·.ver)) = false from g4, h]; rfl
    have hnext : s.eOK i = true → ∀ j, j < i + 1 → s.eOK j = true := fun h j hj => by
      rcases Nat.lt_or_ge j i with h' | h'
      · exact hall j h'
      · rw [show j = i by omega]; exact h
    conv => whnf
    refine Grd.intro (fun g5 => ?_) (fun g5 => ?_)
    · have h0 : 0 < i := by have := of_decide_eq_true g5; omega
      have e1 : ((i : Int) - 1).toNat = i - 1 := by omega
      refine And.intro (inI64 (by omega) (by omega)) ?_
      refine And.intro ⟨by omega, by omega⟩ ?_
      have hcmp : (!Op.bytesLess (B (ix s.os ((i : Int) - 1).toNat).key).toList (B (ix s.os i).key).toList) = !decide ((ix s.os (i - 1)).key < (ix s.os i).key) := by rw [blt_lt, e1]
      conv => whnf
      refine Grd.intro (fun g6 => ?_) (fun g6 => ?_)
      · have g6 := hcmp.symm.trans g6
        rw [hbad (by unfold Sto.eOK; rw [show decide ((ix s.os (i - 1)).key < (ix s.os i).key) = false from wnot g6, decide_eq_false (show ¬ i = 0 by omega)]; simp)]
        exact And.intro trivial (AVle.refl _)
      · have g6 := hcmp.symm.trans g6
        have he := hpre (by rw [show decide ((ix s.os (i - 1)).key < (ix s.os i).key) = true from wyes g6]; simp)
        refine And.intro (inI64 (by omega) (by omega)) ?_
        refine ⟨i + 1, ⟨hin, hnext he⟩, by omega, [(0, 0), (1, 1)], rfl, rfl, ⟨AVle.refl _, AVle.refl _, AVle.refl _, AVle.refl _, AVle.of_eq (congrArg (AV.int .i64) (by simp)), trivial⟩, ⟨MOle.refl _, MOle.of_eq (show MO.imap (if (ix s.os i).ver ∈ s.vers i then s.vers i else s.vers i ++ [(ix s.os i).ver]) = _ from ?_), trivial⟩⟩
        rw [if_neg (of_decide_eq_false g4), Sto.vers_snoc s hin]
    · have h0 : i = 0 := by have := of_decide_eq_false g5; omega
      have he := hpre (by rw [decide_eq_true h0]; rfl)
      refine And.intro (inI64 (by omega) (by omega)) ?_
      refine ⟨i + 1, ⟨hin, hnext he⟩, by omega, [(0, 0), (1, 1)], rfl, rfl, ⟨AVle.refl _, AVle.refl _, AVle.refl _, AVle.refl _, AVle.of_eq (congrArg (AV.int .i64) (by simp)), trivial⟩, ⟨MOle.refl _, MOle.of_eq (show MO.imap (if (ix s.os i).ver ∈ s.vers i then s.vers i else s.vers i ++ [(ix s.os i).ver]) = _ from ?_), trivial⟩⟩
      rw [if_neg (of_decide_eq_false g4), Sto.vers_snoc s hin]
  · have : i = s.os.length := by have := of_decide_eq_false h3; omega
    subst this
    rw [Sto.ok_yes h1 h2 hall]
    exact And.intro trivial (AVle.refl _)
end Go.Proofs.YtlbnpndednhdaaaGreatDoor
set_option linter.unusedVariables false
set_option linter.constructorNameAsVariable false
set_option linter.unusedSimpArgs false
set_option maxRecDepth 20000
namespace Go.Proofs.YtlbnpndednhdaaaGreatDoor
open Go Go.Vw

theorem cmp_lt : ∀ a b : List UInt8, decide (Lib.compareBytes a b < 0) = decide (a < b)
  | [], [] => by simp [Lib.compareBytes]
  | [], _ :: _ => by simp [Lib.compareBytes]
  | _ :: _, [] => by simp [Lib.compareBytes]
  | x :: a, y :: b => by
    have ih := cmp_lt a b
    unfold Lib.compareBytes
    by_cases h1 : x < y
    · simp [h1, List.cons_lt_cons_iff]
    · by_cases h2 : y < x
      · have : ¬ x = y := fun e => by subst e; exact h1 h2
        simp only [List.cons_lt_cons_iff]; simp [h1, h2, this]
      · have : x = y := UInt8.le_antisymm (UInt8.not_lt.1 h2) (UInt8.not_lt.1 h1)
        subst this
        simp only [List.cons_lt_cons_iff]; simp [h1, ih]
theorem cmp_eq : ∀ a b : List UInt8, decide (Lib.compareBytes a b = 0) = decide (a = b)
  | [], [] => by simp [Lib.compareBytes]
  | [], _ :: _ => by simp [Lib.compareBytes]
  | _ :: _, [] => by simp [Lib.compareBytes]
  | x :: a, y :: b => by
    have ih := cmp_eq a b
    unfold Lib.compareBytes
    by_cases h1 : x < y
    · have : ¬ x = y := fun e => by subst e; exact UInt8.lt_irrefl _ h1
      simp [h1, this]
    · by_cases h2 : y < x
      · have : ¬ x = y := fun e => by subst e; exact h1 h2
        simp [h1, h2, this]
      · have : x = y := UInt8.le_antisymm (UInt8.not_lt.1 h2) (UInt8.not_lt.1 h1)
        subst this
        simp [h1]
        simpa using ih
theorem Compare_fn (a b : List UInt8) : VFn Tryz.prog 233 [.str (B a), .str (B b)] (.int .i64 (Lib.compareBytes a b)) := by
  refine VFn.lib Tryz.call233 fun w ok vs hJ hok hv => ?_
  obtain ⟨v, us, rfl, hv, v2, us2, rfl, hv2, hus⟩ := hv
  have e1 : v = .string (B a) := hv
  have e2 : v2 = .string (B b) := hv2
  have e3 : us2 = [] := hus
  subst e1 e2 e3
  refine (Tryz.strings_Compare (B a) (B b) w).mono ?_
  rintro e w' ⟨rfl, rfl⟩
  exact ⟨_, rfl, Go.RowKit.Below.refl _ _, fun _ _ => by rw [B_data, B_data]; rfl⟩
theorem find1_fn (o : Ob) (k : List UInt8) : VFn Tryz.prog 232 [o.av, .str (B k)] (.int .i64 (Lib.compareBytes o.key k)) := by
  refine VFn.introC Tryz.call232 Tryz.func232 rfl rfl ?_
  conv => whnf
  refine CallC.sca _ (Compare_fn o.key k) ?_ ?_
  · exact rfl
  exact And.intro trivial (AVle.refl _)
theorem Search_fn (L : List Ob) (hS : Srt L) (hL : L.length ≤ 1000000) (k : List UInt8) : VFn Tryz.prog 231 [obs L, .str (B k), .fn (.func 232) [] []] (.tup [.int .i64 (lb k L), .bool (hasK k L)]) := by
  have hle := lb_le k L
  refine VFn.introC Tryz.call231 Tryz.func231 rfl rfl ?_
  refine LoopC.mk (fun p : Nat × Nat => p.1 ≤ lb k L ∧ lb k L ≤ p.2 ∧ p.2 ≤ L.length) (fun p => [(0, obs L), (1, .str (B k)), (2, .fn (.func 232) [] []), (6, .int .i64 0), (7, .bool false), (8, .int .i64 L.length), (9, .int .i64 p.1), (10, .int .i64 p.2)]) (fun _ => []) 0 (fun p => p.2 - p.1) (0, L.length)
    ⟨⟨Nat.zero_le _, hle, Nat.le_refl _⟩, [], rfl, rfl, ⟨AVle.refl _, AVle.refl _, AVle.refl _, AVle.refl _, AVle.refl _, AVle.refl _, AVle.refl _, AVle.refl _, trivial⟩, trivial⟩ ?_
  rintro ⟨i, j⟩ hp
  obtain ⟨h1, h2, h3⟩ := hp
  simp only at h1 h2 h3
  refine Grd.intro (fun g1 => ?_) (fun g1 => ?_)
  · have hij : i < j := by have := of_decide_eq_true g1; omega
    have eh : ((i : Int) + (j : Int)) / 2 = (((i + j) / 2 : Nat) : Int) := by omega
    refine And.intro (inI64 (by omega) (by omega)) ?_
    refine And.intro (show inI .u64 ((i : Int) + (j : Int)) from ⟨show (0 : Int) ≤ _ by omega, show _ ≤ (18446744073709551615 : Int) by omega⟩) ?_
    refine And.intro ⟨by omega, by omega, rfl⟩ ?_
    rw [eh]
    obtain ⟨h, hh⟩ : ∃ h, h = (i + j) / 2 := ⟨_, rfl⟩
    rw [← hh]
    have hi : i ≤ h := by omega
    have hj : h < j := by omega
    refine And.intro (inI64 (by omega) (by omega)) ?_
    refine And.intro ⟨by omega, by omega⟩ ?_
    conv => whnf
    refine CallC.sca _ (find1_fn (ix L h) k) ?_ ?_
    · exact rfl
    have hc : decide (Lib.compareBytes (ix L h).key k < 0) = decide (h < lb k L) := by rw [cmp_lt]; exact decide_eq_decide.2 (hS.iff (by omega))
    refine Grd.intro (fun g2 => ?_) (fun g2 => ?_)
    · have g2 : h < lb k L := of_decide_eq_true (hc.symm.trans g2)
      refine And.intro (inI64 (by omega) (by omega)) ?_
      exact ⟨(h + 1, j), ⟨by simp only; omega, by simp only; omega, by simp only; omega⟩, by simp only; omega, [], rfl, rfl, ⟨AVle.refl _, AVle.refl _, AVle.refl _, AVle.refl _, AVle.refl _, AVle.refl _, AVle.of_eq (congrArg (AV.int .i64) (by simp)), AVle.refl _, trivial⟩, trivial⟩
    · have g2 : ¬ h < lb k L := of_decide_eq_false (hc.symm.trans g2)
      exact ⟨(i, h), ⟨by simp only; omega, by simp only; omega, by simp only; omega⟩, by simp only; omega, [], rfl, rfl, ⟨AVle.refl _, AVle.refl _, AVle.refl _, AVle.refl _, AVle.refl _, AVle.refl _, AVle.refl _, AVle.refl _, trivial⟩, trivial⟩
  · have hij : j ≤ i := by have := of_decide_eq_false g1; omega
    have e1 : i = lb k L := by omega
    subst e1
    refine Grd.intro (fun g2 => ?_) (fun g2 => ?_)
    · have g2 : lb k L < L.length := by have := of_decide_eq_true g2; omega
      refine And.intro ⟨by omega, by omega⟩ ?_
      conv => whnf
      refine CallC.sca _ (find1_fn (ix L (lb k L)) k) ?_ ?_
      · exact rfl
      refine And.intro trivial (AVle.of_eq (congrArg (fun b => AV.tup [.int .i64 (lb k L), .bool b]) (show decide (Lib.compareBytes (ix L (lb k L)).key k = 0) = _ from ?_)))
      rw [cmp_eq]; unfold hasK; rw [decide_eq_true g2]; rfl
    · have g2 : ¬ lb k L < L.length := by have := of_decide_eq_false g2; omega
      refine And.intro trivial (AVle.of_eq (congrArg (fun b => AV.tup [.int .i64 (lb k L), .bool b]) (show false = _ from ?_)))
      unfold hasK; rw [decide_eq_false g2]; rfl
theorem find_fn (s : Sto) (hs : s.ok = true) (k : List UInt8) : VFn Tryz.prog 139 [s.av, .str (B k)] (.tup [.int .i64 (s.pos k), .bool (s.has k)]) := by
  have hL := (Sto.ok_at hs).2.1
  refine VFn.introC Tryz.call139 Tryz.func139 rfl rfl ?_
  conv => whnf
  refine CallC.sca _ (Search_fn s.os (Sto.srt hs) (by omega) k) ?_ ?_
  · exact rfl
  exact And.intro trivial (AVle.refl _)
theorem get_fn (s : Sto) (hs : s.ok = true) (k : List UInt8) : VFn Tryz.prog 184 [s.av, .str (B k)] (if s.has k = true then .tup [.str (B (s.get k).data), .bool true] else .tup [.str (B []), .bool false]) := by
  by_cases h : s.has k = true
  · rw [if_pos h]
    have hp := (hasK_at h).1
    have c := find_fn s hs k
    rw [h] at c
    refine VFn.introC Tryz.call184 Tryz.func184 rfl rfl ?_
    conv => whnf
    refine CallC.sca _ (c) ?_ ?_
    · exact rfl
    refine And.intro ⟨by omega, show ((lb k s.os : Nat) : Int) < (s.os.length : Int) by omega⟩ ?_
    exact And.intro trivial (AVle.refl _)
  · rw [if_neg h]
    have c := find_fn s hs k
    rw [show s.has k = false by simpa using h] at c
    refine VFn.introC Tryz.call184 Tryz.func184 rfl rfl ?_
    conv => whnf
    refine CallC.sca _ (c) ?_ ?_
    · exact rfl
    exact And.intro trivial (AVle.refl _)
end Go.Proofs.YtlbnpndednhdaaaGreatDoor
set_option linter.unusedVariables false
set_option linter.constructorNameAsVariable false
set_option linter.unusedSimpArgs false
set_option maxRecDepth 20000
namespace Go.Proofs.YtlbnpndednhdaaaGreatDoor
open Go Go.Vw

def insR (i : Nat) (rows r1 : Nat → List AV) (j : Nat) : List AV := if j < i then rows j else if j = i then r1 0 else rows (j - 1)
end Go.Proofs.YtlbnpndednhdaaaGreatDoor
set_option linter.unusedVariables false
set_option linter.constructorNameAsVariable false
set_option linter.unusedSimpArgs false
set_option maxRecDepth 20000
namespace Go.Proofs.YtlbnpndednhdaaaGreatDoor
open Go Go.Vw

end Go.Proofs.YtlbnpndednhdaaaGreatDoor
set_option linter.unusedVariables false
set_option linter.constructorNameAsVariable false
set_option linter.unusedSimpArgs false
set_option maxRecDepth 20000
namespace Go.Proofs.YtlbnpndednhdaaaGreatDoor
open Go Go.Vw

theorem l03Buckets_fn (L : List Bk) (hL : L.length ≤ 8) (hN : ∀ s ∈ L, s.ok) : VFn Tryz.prog 181 [bks L] (.str (B (bksText L))) := by
  have hlen := bksText_len hN
  refine VFn.introC Tryz.call181 Tryz.func181 rfl rfl ?_
  refine LoopC.mk (fun i : Nat => i ≤ L.length) (fun i => [(0, bks L), (3, .osl 0), (4, .int .i64 i)])
    (fun i => [(0, .arr 9 1 ((L.take i).map bkText).length fun k => [.str (B (ix ((L.take i).map bkText) k))])]) 1 (fun i => L.length - i) 0
    ⟨Nat.zero_le _, [(0, 0)], rfl, rfl, ⟨AVle.refl _, AVle.refl _, AVle.refl _, trivial⟩, ⟨MOle.arr rfl fun i hi => absurd hi (Nat.not_lt_zero i), trivial⟩⟩ ?_
  intro i hi
  refine Grd.intro (fun h2 => ?_) (fun h2 => ?_)
  · have hin : i < L.length := by have := of_decide_eq_true h2; omega
    have hs := hN _ (getD_mem hin)
    have h1 := itoa_len (n := (ix L i).t) (by have := hs.1; omega) (by have := hs.1; omega)
    have h3 := atext_len hs.2
    refine DrawC.mk 16 rfl (by kernel_rfl) ?_
    refine And.intro (by omega) ?_
    refine PCallC.sca _ (digits_fn (ix L i).t (by have := hs.1; omega) (by have := hs.1; omega)) rfl ?_
    refine And.intro (show (((B (Lib.itoa (ix L i).t)).size + (B [58]).size : Nat) : Int) ≤ 9223372036854775807 by rw [B_size, B_size]; simp; omega) ?_
    refine And.intro (by omega) ?_
    refine PCallC.sca _ (l02Text_fn (ix L i).a hs.2) rfl ?_
    refine And.intro (show (((B (Lib.itoa (ix L i).t) ++ B [58]).size + (B (atext (ix L i).a)).size : Nat) : Int) ≤ 9223372036854775807 by rw [B_app, B_size, B_size]; simp; omega) ?_
    refine And.intro ⟨show (((L.take i).map bkText).length + 1) * 16 ≤ 140737488355328 by simp; omega, all1 rfl⟩ ?_
    refine And.intro (inI64 (by omega) (by omega)) ?_
    refine ⟨i + 1, hin, by omega, [(17, 0)], rfl, rfl, ⟨AVle.refl _, AVle.refl _, AVle.of_eq (congrArg (AV.int .i64) (by simp)), trivial⟩, ⟨?_, trivial⟩⟩
    exact arr_next (f := fun x => [.str (B x)]) (map_take_snoc hin) (show [AV.str (B (Lib.itoa (ix L i).t) ++ B [58] ++ B (atext (ix L i).a))] = _ by rw [B_app, B_app, ← join2]; rfl)
  · have : i = L.length := by have := of_decide_eq_false h2; omega
    subst this
    have e : L.take L.length = L := List.take_of_length_le (Nat.le_refl _)
    rw [e]
    conv => whnf
    refine CallC.sca _ (l00Join_fn (L.map bkText) [32] (Nat.le_trans hlen (by omega)) (by simp; omega)) ?_ ?_
    · exact rfl
    exact And.intro trivial (AVle.refl _)

/-- what BucketsText tells -/
def bksCode (L : List Bk) : Int := firstC [(decide (4096 < L.length), 2), (!bksOK L, 1)]
def bksRes (L : List Bk) : List UInt8 := if bksCode L = 0 then bksText L else []
end Go.Proofs.YtlbnpndednhdaaaGreatDoor
set_option linter.unusedVariables false
set_option linter.constructorNameAsVariable false
set_option linter.unusedSimpArgs false
set_option maxRecDepth 20000
namespace Go.Proofs.YtlbnpndednhdaaaGreatDoor
open Go Go.Vw

structure Act where
  k : Int
  who : Int
  n : Int
  tier : Int
  f : Int
  t : Int
  b : List Smp
def Act.av (a : Act) : AV := .agg [.int .i64 a.k, .int .i64 a.who, .int .i64 a.n, .int .i64 a.tier, .int .i64 a.f, .int .i64 a.t, smps a.b]
def isRange (f t : Int) : Bool := within f 0 100000 && within t f 100000
def Act.noR (a : Act) : Bool := decide (a.tier = 0) && decide (a.f = 0) && decide (a.t = 0)
def Act.noB (a : Act) : Bool := decide ((a.b.length : Int) = 0)
def Act.ok (a : Act) : Bool :=
  if a.k = 1 ∨ a.k = 2 then within a.who 0 6 && decide (a.n = 0) && a.noR && a.noB
  else if a.k = 3 then decide (a.who = 0) && within a.n 0 1000 && a.noR && a.noB
  else if a.k = 4 then within a.who 0 6 && within a.n (-3) 3 && a.noR && a.noB
  else if a.k = 5 then within a.who 2 3 && decide (a.n = 0) && a.noR && within a.b.length 1 8 && smpsOK a.b
  else if a.k = 6 then within a.who 4 5 && decide (a.n = 0) && within a.tier 0 2 && isRange a.f a.t && a.noB
  else false
theorem isRange_fn (f t : Int) : VFn Tryz.prog 157 [.int .i64 f, .int .i64 t] (.bool (isRange f t)) := by
  refine VFn.introC Tryz.call157 Tryz.func157 rfl rfl ?_
  repeat' (first
    | refine Grd.intro (fun h => ?_) (fun h => ?_)
    | refine And.intro trivial (AVle.of_eq (congrArg AV.bool ?_)))
  all_goals (simp_all [isRange, within]; try omega)
theorem l04Range_fn (f t : Int) : VFn Tryz.prog 63 [.int .i64 f, .int .i64 t] (.bool (isRange f t)) := by
  refine VFn.introC Tryz.call63 Tryz.func63 rfl rfl ?_
  conv => whnf
  refine CallC.sca _ (l01In_fn _ _ _) ?_ ?_
  · exact rfl
  refine Grd.intro (fun h => ?_) (fun h => ?_)
  · conv => whnf
    refine CallC.sca _ (l01In_fn _ _ _) ?_ ?_
    · exact rfl
    exact And.intro trivial (AVle.of_eq (congrArg AV.bool (by simp_all [isRange])))
  · exact And.intro trivial (AVle.of_eq (congrArg AV.bool (by simp_all [isRange])))
theorem smpsOK_nil {L : List Smp} (h : L.length = 0) : smpsOK L = true := by
  have : L = [] := List.eq_nil_of_length_eq_zero h
  subst this; rfl
def mid (n : Int) : Prop := -1000000 ≤ n ∧ n ≤ 1000000
theorem Act.okN {a : Act} (h : a.ok = true) : mid a.who ∧ mid a.n ∧ mid a.tier ∧ mid a.f ∧ mid a.t ∧ smpsOK a.b = true ∧ a.b.length ≤ 8 := by
  unfold mid
  have e : a.noB = true → smpsOK a.b = true ∧ a.b.length ≤ 8 := fun h => by
    have : a.b.length = 0 := by have := of_decide_eq_true h; omega
    exact ⟨smpsOK_nil this, by omega⟩
  simp only [Act.ok] at h
  split at h
  · simp only [Bool.and_eq_true, win_iff, Act.noR, decide_eq_true_eq] at h
    obtain ⟨⟨⟨h1, h2⟩, ⟨h3, h4⟩, h5⟩, h6⟩ := h
    exact ⟨by omega, by omega, by omega, by omega, by omega, e h6⟩
  split at h
  · simp only [Bool.and_eq_true, win_iff, Act.noR, decide_eq_true_eq] at h
    obtain ⟨⟨⟨h1, h2⟩, ⟨h3, h4⟩, h5⟩, h6⟩ := h
    exact ⟨by omega, by omega, by omega, by omega, by omega, e h6⟩
  split at h
  · simp only [Bool.and_eq_true, win_iff, Act.noR, decide_eq_true_eq] at h
    obtain ⟨⟨⟨h1, h2⟩, ⟨h3, h4⟩, h5⟩, h6⟩ := h
    exact ⟨by omega, by omega, by omega, by omega, by omega, e h6⟩
  split at h
  · simp only [Bool.and_eq_true, win_iff, Act.noR, decide_eq_true_eq] at h
    obtain ⟨⟨⟨⟨h1, h2⟩, ⟨h3, h4⟩, h5⟩, h6⟩, h7⟩ := h
    exact ⟨by omega, by omega, by omega, by omega, by omega, h7, by omega⟩
  split at h
  · simp only [Bool.and_eq_true, win_iff, isRange, decide_eq_true_eq] at h
    obtain ⟨⟨⟨⟨h1, h2⟩, h3⟩, h4, h5⟩, h6⟩ := h
    exact ⟨by omega, by omega, by omega, by omega, by omega, e h6⟩
  · cases h

def Act.items (a : Act) : List It :=
  if a.k = 1 then [.t [115, 116, 101, 112], .n a.who]
  else if a.k = 2 then [.t [99, 114, 97, 115, 104], .n a.who]
  else if a.k = 3 then [.t [116, 105, 99, 107], .n a.n]
  else if a.k = 4 then [.t [115, 107, 101, 119], .n a.who, .n a.n]
  else if a.k = 5 then [.t [105, 110, 103, 101, 115, 116], .n a.who, .t (smpsText a.b)]
  else [.t [113, 117, 101, 114, 121], .n a.who, .n a.tier, .n a.f, .n a.t]
def Act.text (a : Act) : List UInt8 := Lib.join (a.items.map It.txt) [32]
def Act.res (a : Act) : List UInt8 := if a.ok = true then a.text else []
def Act.code (a : Act) : Int := if a.ok = true then 0 else 1
end Go.Proofs.YtlbnpndednhdaaaGreatDoor
set_option linter.unusedVariables false
set_option linter.constructorNameAsVariable false
set_option linter.unusedSimpArgs false
set_option maxRecDepth 20000
namespace Go.Proofs.YtlbnpndednhdaaaGreatDoor
open Go Go.Vw

theorem CutPrefix_fn (s p : List UInt8) : VFn Tryz.prog 257 [.str (B s), .str (B p)] (.tup [.str (B (Lib.trimPrefix s p)), .bool (Lib.hasPrefix s p)]) := by
  refine VFn.lib Tryz.call257 fun w ok vs hJ hok hv => ?_
  obtain ⟨v, us, rfl, hv, v2, us2, rfl, hv2, hus⟩ := hv
  have e1 : v = .string (B s) := hv
  have e2 : v2 = .string (B p) := hv2
  have e3 : us2 = [] := hus
  subst e1 e2 e3
  refine (Tryz.strings_CutPrefix (B s) (B p) w).mono ?_
  rintro e w' ⟨rfl, rfl⟩
  refine ⟨_, rfl, Go.RowKit.Below.refl _ _, fun _ _ => ⟨[_, _], rfl, _, _, rfl, ?_, _, _, rfl, ?_, rfl⟩⟩
  · show Value.string _ = _
    rw [B_data, B_data]; rfl
  · show Value.bool _ = _
    rw [B_data, B_data]

theorem atoi_end (l : List UInt8) : (atoiOk l = true ∧ Lib.atoiAll l = .ok (atoiV l)) ∨ (atoiOk l = false ∧ Lib.atoiAll l = .syntax ∧ atoiV l = 0) ∨ (atoiOk l = false ∧ Lib.atoiAll l = .range ∧ atoiV l = Lib.atoiSat l) := by
  unfold atoiOk atoiV
  cases h : Lib.atoiAll l
  · exact .inl ⟨rfl, rfl⟩
  · exact .inr (.inl ⟨rfl, rfl, rfl⟩)
  · exact .inr (.inr ⟨rfl, rfl, rfl⟩)
theorem Atoi_ok (l : List UInt8) (hl : l.length ≤ 281474976710656) (h : atoiOk l = true) : VFn Tryz.prog 276 [.str (B l)] (.tup [.int .i64 (atoiV l), .niliface]) := by
  have h' : Lib.atoiAll (B l).data.toList = .ok (atoiV l) := by
    rw [B_data]
    rcases atoi_end l with h1 | h1 | h1
    · exact h1.2
    · rw [h] at h1; cases h1.1
    · rw [h] at h1; cases h1.1
  refine VFn.lib Tryz.call276 fun w ok vs hJ hok hv => ?_
  obtain ⟨v, us, rfl, hv, hus⟩ := hv
  have e1 : v = .string (B l) := hv
  have e3 : us = [] := hus
  subst e1 e3
  refine (Tryz.strconv_Atoi_ok (B l) (by rw [B_size]; omega) (atoiV l) h' w).mono ?_
  rintro e w' ⟨rfl, hw⟩
  refine ⟨_, rfl, ?_, fun _ _ => ⟨[_, _], rfl, _, _, rfl, rfl, _, _, rfl, rfl, rfl⟩⟩
  rcases hw with rfl | ⟨t, rfl⟩
  · exact Go.RowKit.Below.refl _ _
  · exact Go.Lib.bytesWorld_below _ _ _
theorem Atoi_no (l : List UInt8) (hl : l.length ≤ 281474976710656) (h : atoiOk l = false) : VFn Tryz.prog 276 [.str (B l)] (.tup [.int .i64 (atoiV l), .iface 332 .any]) := by
  refine VFn.lib Tryz.call276 fun w ok vs hJ hok hv => ?_
  obtain ⟨v, us, rfl, hv, hus⟩ := hv
  have e1 : v = .string (B l) := hv
  have e3 : us = [] := hus
  subst e1 e3
  rcases atoi_end l with h1 | ⟨_, h1, h2⟩ | ⟨_, h1, h2⟩
  · rw [h] at h1; cases h1.1
  · obtain ⟨tp, p, hv⟩ := tab_syntax hJ
    refine (Tryz.strconv_Atoi_syntax_var (B l) (by rw [B_size]; omega) (by rw [B_data]; exact h1) tp p w hv).mono ?_
    rintro e w' ⟨N, rfl, _, _, bel⟩
    refine ⟨_, rfl, bel, fun _ _ => ⟨[_, _], rfl, _, _, rfl, ?_, _, _, rfl, ⟨_, rfl, trivial⟩, rfl⟩⟩
    rw [h2]; rfl
  · obtain ⟨tp, p, hv⟩ := tab_range hJ
    refine (Tryz.strconv_Atoi_range_var (B l) (by rw [B_size]; omega) (by rw [B_data]; exact h1) tp p w hv).mono ?_
    rintro e w' ⟨N, rfl, _, _, bel⟩
    refine ⟨_, rfl, bel, fun _ _ => ⟨[_, _], rfl, _, _, rfl, ?_, _, _, rfl, ⟨_, rfl, trivial⟩, rfl⟩⟩
    rw [h2, ← B_data l]; rfl
end Go.Proofs.YtlbnpndednhdaaaGreatDoor
set_option linter.unusedVariables false
set_option linter.constructorNameAsVariable false
set_option linter.unusedSimpArgs false
set_option maxRecDepth 20000
namespace Go.Proofs.YtlbnpndednhdaaaGreatDoor
open Go Go.Vw

theorem six_fn (n : Int) (h : within n 0 999999 = true) : VFn Tryz.prog 222 [.int .i64 n] (.str (B (six6 n.toNat))) := by
  have hb : 0 ≤ n ∧ n ≤ 999999 := by simpa [within] using h
  have e : 1000000 + n = 1000000 + ((n.toNat : Nat) : Int) := by omega
  have hi := itoa_million (n := n.toNat) (by omega)
  refine VFn.introC Tryz.call222 Tryz.func222 rfl rfl ?_
  refine And.intro (inI64 (by omega) (by omega)) ?_
  conv => whnf
  refine CallC.sca _ (Itoa_fn (1000000 + n) (by omega) (by omega)) ?_ ?_
  · exact rfl
  conv => whnf
  refine And.intro ?_ ?_
  · refine ⟨by omega, ?_⟩
    rw [B_size, e, hi]; simp [six6_len]
  refine And.intro trivial (AVle.of_eq (congrArg AV.str ?_))
  rw [B_extract, B_size, e, hi]; rfl
theorem isSix_fn (n : Int) : VFn Tryz.prog 131 [.int .i64 n] (.bool (within n 0 999999)) := by
  refine VFn.introC Tryz.call131 Tryz.func131 rfl rfl ?_
  conv => whnf
  refine CallC.sca _ (within_fn _ _ _) ?_ ?_
  · exact rfl
  exact And.intro trivial (AVle.refl _)
theorem atoi_yes {l : List UInt8} (hl : l.length = 6) (h : l.all dig = true) : atoiOk l = true ∧ atoiV l = numB 0 l ∧ within (atoiV l) 0 999999 = true ∧ six6 (atoiV l).toNat = l := by
  have h1 := atoi_dig (by intro e; subst e; cases hl) (by omega) h
  have h2 := six6_numB hl h
  have h3 : atoiV l = numB 0 l := by unfold atoiV; rw [h1]
  refine ⟨by unfold atoiOk; rw [h1], h3, ?_, ?_⟩
  · rw [h3]; simp [within]; omega
  · rw [h3]; exact h2.2
theorem readSix_fn (l : List UInt8) (hl : l.length = 6) : VFn Tryz.prog 258 [.str (B l)] (.tup [.int .i64 (atoiV l), .bool (l.all dig)]) := by
  refine VFn.introC Tryz.call258 Tryz.func258 rfl rfl ?_
  by_cases hd : l.all dig = true
  · obtain ⟨h1, h2, h3, h4⟩ := atoi_yes hl hd
    conv => whnf
    refine CallC.sca _ (Atoi_ok l (by omega) h1) ?_ ?_
    · exact rfl
    conv => whnf
    refine CallC.sca _ (isSix_fn _) ?_ ?_
    · exact rfl
    refine Grd.intro (fun h => ?_) (fun h => absurd (h.symm.trans h3) (by simp))
    conv => whnf
    refine CallC.sca _ (six_fn _ h3) ?_ ?_
    · exact rfl
    refine And.intro trivial (AVle.of_eq (show AV.tup [AV.int .i64 (atoiV l), AV.bool ((B (six6 (atoiV l).toNat)).toList == (B l).toList)] = _ from ?_))
    rw [B_eq, hd, h4]; simp
  · have hd' : l.all dig = false := by simpa using hd
    by_cases ho : atoiOk l = true
    · conv => whnf
      refine CallC.sca _ (Atoi_ok l (by omega) ho) ?_ ?_
      · exact rfl
      conv => whnf
      refine CallC.sca _ (isSix_fn _) ?_ ?_
      · exact rfl
      refine Grd.intro (fun h => ?_) (fun h => ?_)
      · conv => whnf
        refine CallC.sca _ (six_fn _ h) ?_ ?_
        · exact rfl
        refine And.intro trivial (AVle.of_eq (show AV.tup [AV.int .i64 (atoiV l), AV.bool ((B (six6 (atoiV l).toNat)).toList == (B l).toList)] = _ from ?_))
        have : ¬ six6 (atoiV l).toNat = l := fun e => hd (by rw [← e]; exact six6_dig _)
        rw [B_eq, hd']; simp [this]
      · rw [hd']
        exact And.intro trivial (AVle.refl _)
    · conv => whnf
      refine CallC.sca _ (Atoi_no l (by omega) (by simpa using ho)) ?_ ?_
      · exact rfl
      rw [hd']
      exact And.intro trivial (AVle.refl _)
theorem dataPrefixes_fn : VFn Tryz.prog 225 [] (txts [pre 0, pre 1, pre 2]) := by
  refine VFn.introC Tryz.call225 Tryz.func225 rfl rfl ?_
  refine And.intro trivial (AVle.sl rfl fun i hi => ?_)
  have : i = 0 ∨ i = 1 ∨ i = 2 := by omega
  rcases this with rfl | rfl | rfl <;> rfl
theorem readSix_at {s : ByteArray} {l : List UInt8} (e : s = B l) (hl : l.length = 6) : VFn Tryz.prog 258 [.str s] (.tup [.int .i64 (atoiV l), .bool (l.all dig)]) := by
  subst e; exact readSix_fn l hl
theorem readDataKey_fn (k : List UInt8) : VFn Tryz.prog 183 [.str (B k)] (.tup [.int .i64 (kT k), .int .i64 (kN k), .int .i64 (kW k), .bool (kOk k)]) := by
  refine VFn.introC Tryz.call183 Tryz.func183 rfl rfl ?_
  conv => whnf
  refine CallC.nl _ (dataPrefixes_fn) ?_ ?_
  · exact rfl
  refine LoopC.mk (fun i : Nat => i ≤ 3 ∧ ∀ j, j < i → tryK j k = none) (fun i => [(0, .str (B k)), (14, txts [pre 0, pre 1, pre 2]), (15, .int .i64 3), (16, .int .i64 i)]) (fun _ => []) 0 (fun i => 3 - i) 0
    ⟨⟨by omega, fun j hj => absurd hj (by omega)⟩, [], rfl, rfl, ⟨AVle.refl _, AVle.refl _, AVle.refl _, AVle.refl _, trivial⟩, trivial⟩ ?_
  intro i hi
  refine Grd.intro (fun h2 => ?_) (fun h2 => ?_)
  · have hin : i < 3 := by have := of_decide_eq_true h2; omega
    have hp : ix [pre 0, pre 1, pre 2] i = pre i := by
      have : i = 0 ∨ i = 1 ∨ i = 2 := by omega
      rcases this with rfl | rfl | rfl <;> rfl
    have hnext : tryK i k = none → ∀ j, j < i + 1 → tryK j k = none := fun h j hj => by
      rcases Nat.lt_or_ge j i with h' | h'
      · exact hi.2 j h'
      · rw [show j = i by omega]; exact h
    conv => whnf
    refine And.intro ⟨by omega, by show (i : Int) < ((3 : Nat) : Int); omega⟩ ?_
    conv => whnf
    refine CallC.sca _ (CutPrefix_fn k (ix [pre 0, pre 1, pre 2] i)) ?_ ?_
    · exact rfl
    have ht : Lib.hasPrefix k (ix [pre 0, pre 1, pre 2] i) = true → Lib.trimPrefix k (ix [pre 0, pre 1, pre 2] i) = k.drop (pre i).length := fun h => by
      unfold Lib.trimPrefix; rw [if_pos h, hp]
    have h0 : Lib.hasPrefix k (ix [pre 0, pre 1, pre 2] i) = false → tryK i k = none := fun h => by
      unfold tryK; rw [← hp, h]; rfl
    have h1 : Lib.hasPrefix k (ix [pre 0, pre 1, pre 2] i) = true → tryK i k = restK i (k.drop (pre i).length) := fun h => by
      rw [hp] at h; unfold tryK; rw [if_pos h]
    generalize Lib.hasPrefix k (ix [pre 0, pre 1, pre 2] i) = hP at h0 h1 ht
    generalize hr : Lib.trimPrefix k (ix [pre 0, pre 1, pre 2] i) = r at ht
    refine Grd.intro (fun h3 => ?_) (fun h3 => ?_)
    · have hr' := ht h3
      have h1' := h1 h3
      rw [← hr'] at h1'
      have hfail : restK i r = none → ∀ j, j < i + 1 → tryK j k = none := fun h => hnext (h1'.trans h)
      refine Grd.intro (fun h4 => ?_) (fun h4 => ?_)
      · have h13 : r.length = 13 := by have := of_decide_eq_true h4; rw [B_size] at this; omega
        refine And.intro ⟨by omega, by rw [B_size]; omega⟩ ?_
        refine Grd.intro (fun h5 => ?_) (fun h5 => ?_)
        · have h6 : ix r 6 = 45 := by
            have h : ((r.getD 6 0).toNat : Int) = 45 := of_decide_eq_true h5
            exact UInt8.toNat_inj.1 (by show (r.getD 6 0).toNat = 45; omega)
          have hA : (B r).extract 0 6 = B (r.take 6) := by rw [B_extract]; rfl
          have hB : (B r).extract 7 (B r).size = B (r.drop 7) := by rw [B_extract, B_size, h13, List.take_of_length_le (by simp; omega)]
          have hlA : (r.take 6).length = 6 := by simp; omega
          have hlB : (r.drop 7).length = 6 := by simp; omega
          conv => whnf
          refine And.intro ⟨by omega, by rw [B_size]; omega⟩ ?_
          conv => whnf
          refine CallC.sca _ (readSix_at hA hlA) ?_ ?_
          · exact rfl
          conv => whnf
          refine And.intro ⟨by omega, by rw [B_size]; omega⟩ ?_
          conv => whnf
          refine CallC.sca _ (readSix_at hB hlB) ?_ ?_
          · exact rfl
          refine Grd.intro (fun h7 => ?_) (fun h7 => ?_)
          · refine Grd.intro (fun h8 => ?_) (fun h8 => ?_)
            · have hs : restK i r = some (i, numB 0 (r.take 6), numB 0 (r.drop 7)) := by
                unfold restK; rw [if_pos ⟨h13, h6, h7, h8⟩]
              have hk := tryK_parse hin (h1'.trans hs)
              refine And.intro trivial (AVle.of_eq (show AV.tup [AV.int .i64 i, AV.int .i64 (atoiV (r.take 6)), AV.int .i64 (atoiV (r.drop 7)), AV.bool true] = _ from ?_))
              unfold kT kN kW kOk
              rw [hk, (atoi_yes hlA h7).2.1, (atoi_yes hlB h8).2.1]; rfl
            · have := hfail (by unfold restK; rw [if_neg (fun h => absurd (h.2.2.2.symm.trans h8) (by simp))])
              refine And.intro (inI64 (by omega) (by omega)) ?_
              exact ⟨i + 1, ⟨by omega, this⟩, by omega, [], rfl, rfl, ⟨AVle.refl _, AVle.refl _, AVle.refl _, AVle.of_eq (congrArg (AV.int .i64) (by simp)), trivial⟩, trivial⟩
          · have := hfail (by unfold restK; rw [if_neg (fun h => absurd (h.2.2.1.symm.trans h7) (by simp))])
            refine And.intro (inI64 (by omega) (by omega)) ?_
            exact ⟨i + 1, ⟨by omega, this⟩, by omega, [], rfl, rfl, ⟨AVle.refl _, AVle.refl _, AVle.refl _, AVle.of_eq (congrArg (AV.int .i64) (by simp)), trivial⟩, trivial⟩
        · have := hfail (by
            unfold restK; rw [if_neg]
            rintro ⟨_, h6, _⟩
            have h : ¬ ((r.getD 6 0).toNat : Int) = 45 := of_decide_eq_false h5
            exact h (by rw [show r.getD 6 0 = 45 from h6]; rfl))
          refine And.intro (inI64 (by omega) (by omega)) ?_
          exact ⟨i + 1, ⟨by omega, this⟩, by omega, [], rfl, rfl, ⟨AVle.refl _, AVle.refl _, AVle.refl _, AVle.of_eq (congrArg (AV.int .i64) (by simp)), trivial⟩, trivial⟩
      · have h13 : ¬ r.length = 13 := by have := of_decide_eq_false h4; rw [B_size] at this; omega
        have := hfail (by unfold restK; rw [if_neg (fun h => h13 h.1)])
        refine And.intro (inI64 (by omega) (by omega)) ?_
        exact ⟨i + 1, ⟨by omega, this⟩, by omega, [], rfl, rfl, ⟨AVle.refl _, AVle.refl _, AVle.refl _, AVle.of_eq (congrArg (AV.int .i64) (by simp)), trivial⟩, trivial⟩
    · have := hnext (h0 (by simpa using h3))
      refine And.intro (inI64 (by omega) (by omega)) ?_
      exact ⟨i + 1, ⟨by omega, this⟩, by omega, [], rfl, rfl, ⟨AVle.refl _, AVle.refl _, AVle.refl _, AVle.of_eq (congrArg (AV.int .i64) (by simp)), trivial⟩, trivial⟩
  · have h3 : i = 3 := by have := of_decide_eq_false h2; omega
    subst h3
    have hk := parse_none hi.2
    refine And.intro trivial (AVle.of_eq (show AV.tup [AV.int .i64 0, AV.int .i64 0, AV.int .i64 0, AV.bool false] = _ from ?_))
    unfold kT kN kW kOk
    rw [hk]; rfl
end Go.Proofs.YtlbnpndednhdaaaGreatDoor
