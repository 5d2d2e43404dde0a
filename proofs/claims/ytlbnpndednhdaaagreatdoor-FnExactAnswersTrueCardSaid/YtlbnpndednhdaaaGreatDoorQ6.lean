/- Contracts of functions that the claim reaches, and the plain law of what they compute; each theorem bears its own conditions. -/
import Derived.Test.YtlbnpndednhdaaaGreatDoorQ1
import Derived.Test.YtlbnpndednhdaaaGreatDoorQ5
set_option linter.unusedVariables false
set_option linter.constructorNameAsVariable false
set_option linter.unusedSimpArgs false
set_option maxRecDepth 20000
namespace Go.Proofs.YtlbnpndednhdaaaGreatDoor
open Go Go.Vw

def Ag.mrg (a b : Ag) : Ag := if a.c = 0 then b else if b.c = 0 then a else ⟨a.c + b.c, a.s + b.s, if b.mn < a.mn then b.mn else a.mn, if a.mx < b.mx then b.mx else a.mx, a.f, b.l⟩
def Ag.cells (a : Ag) : List AV := [.int .i64 a.c, .int .i64 a.s, .int .i64 a.mn, .int .i64 a.mx, .int .i64 a.f, .int .i64 a.l]
def one (v : Int) : Ag := ⟨1, v, v, v, v, v⟩
def aggL (L : List Smp) : Ag := L.foldl (fun a s => a.mrg (one s.v)) default
theorem aggL_snoc {L : List Smp} {i : Nat} (h : i < L.length) : aggL (L.take (i + 1)) = (aggL (L.take i)).mrg (one (ix L i).v) := by
  unfold aggL; rw [take_snoc h, List.foldl_append]; rfl
def Ag.B (a : Ag) (n : Int) : Prop := a.c = n ∧ (-1000000 * n ≤ a.s ∧ a.s ≤ 1000000 * n) ∧ (n = 0 → a = default) ∧ (0 < n → a.some = true)
theorem mrg_B {a : Ag} {n v : Int} (h : a.B n) (hn : 0 ≤ n ∧ n < 100000) (hv : -1000000 ≤ v ∧ v ≤ 1000000) : (a.mrg (one v)).B (n + 1) := by
  obtain ⟨h1, h2, h3, h4⟩ := h
  unfold Ag.mrg
  by_cases h0 : a.c = 0
  · rw [if_pos h0]
    refine ⟨by simp only [one]; omega, by simp only [one]; omega, fun h => by omega, fun _ => ?_⟩
    unfold Ag.some one
    simp [within]; omega
  · rw [if_neg h0, if_neg (show ¬ (one v).c = 0 by simp [one])]
    have h5 := h4 (by omega)
    unfold Ag.some at h5
    simp [within] at h5
    refine ⟨by simp only [one]; omega, by simp only [one]; omega, fun h => by omega, fun _ => ?_⟩
    unfold Ag.some one
    simp only [within]
    have e1 : ∀ m, m ≤ a.mn → m ≤ v → (a.c + 1) * m ≤ a.s + v := fun m q1 q2 => by
      have : a.c * m ≤ a.c * a.mn := Int.mul_le_mul_of_nonneg_left q1 (by omega)
      have : (a.c + 1) * m = a.c * m + m := by rw [Int.add_mul]; omega
      omega
    have e2 : ∀ m, a.mx ≤ m → v ≤ m → a.s + v ≤ (a.c + 1) * m := fun m q1 q2 => by
      have : a.c * a.mx ≤ a.c * m := Int.mul_le_mul_of_nonneg_left q1 (by omega)
      have : (a.c + 1) * m = a.c * m + m := by rw [Int.add_mul]; omega
      omega
    by_cases m1 : v < a.mn <;> by_cases m2 : a.mx < v
    · rw [if_pos m1, if_pos m2]
      have := e1 v (by omega) (by omega)
      have := e2 v (by omega) (by omega)
      simp; omega
    · rw [if_pos m1, if_neg m2]
      have := e1 v (by omega) (by omega)
      have := e2 a.mx (by omega) (by omega)
      simp; omega
    · rw [if_neg m1, if_pos m2]
      have := e1 a.mn (by omega) (by omega)
      have := e2 v (by omega) (by omega)
      simp; omega
    · rw [if_neg m1, if_neg m2]
      have := e1 a.mn (by omega) (by omega)
      have := e2 a.mx (by omega) (by omega)
      simp; omega
theorem aggL_B {L : List Smp} (hL : L.length ≤ 100000) (hv : ∀ e ∈ L, -1000000 ≤ e.v ∧ e.v ≤ 1000000) : ∀ i : Nat, i ≤ L.length → (aggL (L.take i)).B i
  | 0, _ => ⟨rfl, show -1000000 * ((0 : Nat) : Int) ≤ 0 ∧ (0 : Int) ≤ 1000000 * ((0 : Nat) : Int) by omega, fun _ => rfl, fun h => absurd h (by simp)⟩
  | i + 1, h => by
    rw [aggL_snoc h]
    have := mrg_B (aggL_B hL hv i (by omega)) ⟨by omega, by omega⟩ (hv _ (getD_mem (L := L) h))
    simpa using this
theorem l02Merge_fn (a b : Ag) (h1 : inI .i64 (a.c + b.c)) (h2 : inI .i64 (a.s + b.s)) : VFn Tryz.prog 247 [a.av, b.av] (a.mrg b).av := by
  obtain ⟨R, hR⟩ : ∃ R, R = a.mrg b := ⟨_, rfl⟩
  rw [← hR]
  refine VFn.introC Tryz.call247 Tryz.func247 rfl rfl ?_
  refine Grd.intro (fun g1 => ?_) (fun g1 => ?_)
  · rw [Ag.mrg, if_pos (show a.c = 0 from of_decide_eq_true g1)] at hR
    subst hR
    exact And.intro trivial (AVle.refl _)
  refine Grd.intro (fun g2 => ?_) (fun g2 => ?_)
  · rw [Ag.mrg, if_neg (show ¬ a.c = 0 from of_decide_eq_false g1), if_pos (show b.c = 0 from of_decide_eq_true g2)] at hR
    subst hR
    exact And.intro trivial (AVle.refl _)
  rw [Ag.mrg, if_neg (show ¬ a.c = 0 from of_decide_eq_false g1), if_neg (show ¬ b.c = 0 from of_decide_eq_false g2)] at hR
  refine And.intro h1 ?_
  refine And.intro h2 ?_
  subst hR
  exact And.intro trivial (AVle.refl _)
theorem l02Of_fn (L : List Smp) (hL : L.length ≤ 100000) (hv : ∀ e ∈ L, -1000000 ≤ e.v ∧ e.v ≤ 1000000) : VFn Tryz.prog 248 [smps L] (aggL L).av := by
  have hB := aggL_B hL hv
  refine VFn.introC Tryz.call248 Tryz.func248 rfl rfl ?_
  refine LoopC.mk (fun i : Nat => i ≤ L.length) (fun i => [(0, smps L), (2, .bptr 0 0), (3, .bptr 1 0), (4, .int .i64 i)])
    (fun i => [(0, .box [.int .i64 0, .int .i64 0, .int .i64 0, .int .i64 0, .int .i64 0, .int .i64 0]), (1, .box (aggL (L.take i)).cells)]) 2 (fun i => L.length - i) 0
    ⟨Nat.zero_le _, [(0, 0), (1, 1)], rfl, rfl, ⟨AVle.refl _, AVle.refl _, AVle.refl _, AVle.refl _, trivial⟩, ⟨MOle.refl _, MOle.refl _, trivial⟩⟩ ?_
  intro i hi
  refine Grd.intro (fun g1 => ?_) (fun g1 => ?_)
  · have hin : i < L.length := by have := of_decide_eq_true g1; omega
    have b := hB i hi
    have hvi := hv _ (getD_mem hin)
    refine And.intro (by omega) ?_
    conv => whnf
    refine CallC.sca _ (l02Merge_fn (aggL (L.take i)) (one (ix L i).v) (inI64 (by have := b.1; simp only [one]; omega) (by have := b.1; simp only [one]; omega)) (inI64 (by have := b.2.1; simp only [one]; omega) (by have := b.2.1; simp only [one]; omega))) ?_ ?_
    · exact rfl
    refine And.intro (inI64 (by omega) (by omega)) ?_
    exact ⟨i + 1, hin, by omega, [(0, 0), (1, 1)], rfl, rfl, ⟨AVle.refl _, AVle.refl _, AVle.refl _, AVle.of_eq (congrArg (AV.int .i64) (by simp)), trivial⟩, ⟨MOle.refl _, MOle.of_eq (show MO.box ((aggL (L.take i)).mrg (one (ix L i).v)).cells = _ by rw [aggL_snoc hin]), trivial⟩⟩
  · have : i = L.length := by have := of_decide_eq_false g1; omega
    subst this
    exact And.intro trivial (AVle.of_eq (show (aggL (L.take L.length)).av = _ by rw [List.take_of_length_le (Nat.le_refl _)]))
def Ag.eqb (x y : Ag) : Bool := decide (x.c = y.c) && (decide (x.s = y.s) && (decide (x.mn = y.mn) && (decide (x.mx = y.mx) && (decide (x.f = y.f) && (decide (x.l = y.l) && true)))))
theorem smps_bd {L : List Smp} (h : smpsOK L = true) : L.length ≤ 4096 ∧ ∀ e ∈ L, -1000000 ≤ e.v ∧ e.v ≤ 1000000 := by
  unfold smpsOK at h
  rw [Bool.and_eq_true] at h
  refine ⟨of_decide_eq_true h.1, fun e he => ?_⟩
  obtain ⟨i, hi, e0⟩ := List.mem_iff_getElem.1 he
  have e0 : ix L i = e := by rw [ix_lt hi, e0]
  subst e0
  have := allN_iff.1 h.2 i hi
  simp [smpAt, within] at this
  omega
theorem merged_fn (a b : Ag) (h1 : inI .i64 (a.c + b.c)) (h2 : inI .i64 (a.s + b.s)) : VFn Tryz.prog 249 [a.av, b.av] (a.mrg b).av := by
  obtain ⟨R, hR⟩ : ∃ R, R = a.mrg b := ⟨_, rfl⟩
  rw [← hR]
  refine VFn.introC Tryz.call249 Tryz.func249 rfl rfl ?_
  refine Grd.intro (fun g1 => ?_) (fun g1 => ?_)
  · rw [Ag.mrg, if_pos (show a.c = 0 from of_decide_eq_true g1)] at hR
    subst hR
    exact And.intro trivial (AVle.refl _)
  refine Grd.intro (fun g2 => ?_) (fun g2 => ?_)
  · rw [Ag.mrg, if_neg (show ¬ a.c = 0 from of_decide_eq_false g1), if_pos (show b.c = 0 from of_decide_eq_true g2)] at hR
    subst hR
    exact And.intro trivial (AVle.refl _)
  rw [Ag.mrg, if_neg (show ¬ a.c = 0 from of_decide_eq_false g1), if_neg (show ¬ b.c = 0 from of_decide_eq_false g2)] at hR
  refine And.intro h1 ?_
  refine And.intro h2 ?_
  subst hR
  exact And.intro trivial (AVle.refl _)
theorem aggL_app (L : List Smp) (x : Smp) : aggL (L ++ [x]) = (aggL L).mrg (one x.v) := by unfold aggL; rw [List.foldl_append]; rfl
theorem aggL_one (x : Smp) : aggL [x] = one x.v := by simp [aggL, Ag.mrg, default]
theorem aggL_bd {L : List Smp} (hL : L.length ≤ 100000) (hv : ∀ e ∈ L, -1000000 ≤ e.v ∧ e.v ≤ 1000000) : (aggL L).B L.length := by
  have := aggL_B hL hv L.length (Nat.le_refl _)
  rwa [List.take_of_length_le (Nat.le_refl _)] at this
theorem aggOf_fn (L : List Smp) (hL : L.length ≤ 100000) (hv : ∀ e ∈ L, -1000000 ≤ e.v ∧ e.v ≤ 1000000) : VFn Tryz.prog 173 [smps L] (aggL L).av := by
  have hB := aggL_B hL hv
  refine VFn.introC Tryz.call173 Tryz.func173 rfl rfl ?_
  refine LoopC.mk (fun i : Nat => i ≤ L.length) (fun i => [(2, .bptr 0 0), (3, .bptr 1 0), (7, smps L), (8, .int .i64 L.length), (9, .int .i64 i)])
    (fun i => [(0, .box [.int .i64 0, .int .i64 0, .int .i64 0, .int .i64 0, .int .i64 0, .int .i64 0]), (1, .box (aggL (L.take i)).cells)]) 2 (fun i => L.length - i) 0
    ⟨Nat.zero_le _, [(0, 0), (1, 1)], rfl, rfl, ⟨AVle.refl _, AVle.refl _, AVle.refl _, AVle.refl _, AVle.refl _, trivial⟩, ⟨MOle.refl _, MOle.refl _, trivial⟩⟩ ?_
  intro i hi
  refine Grd.intro (fun g1 => ?_) (fun g1 => ?_)
  · have hin : i < L.length := by have := of_decide_eq_true g1; omega
    have b := hB i hi
    have hvi := hv _ (getD_mem hin)
    refine And.intro (by omega) ?_
    conv => whnf
    refine CallC.sca _ (merged_fn (aggL (L.take i)) (one (ix L i).v) (inI64 (by have := b.1; simp only [one]; omega) (by have := b.1; simp only [one]; omega)) (inI64 (by have := b.2.1; simp only [one]; omega) (by have := b.2.1; simp only [one]; omega))) ?_ ?_
    · exact rfl
    refine And.intro (inI64 (by omega) (by omega)) ?_
    exact ⟨i + 1, hin, by omega, [(0, 0), (1, 1)], rfl, rfl, ⟨AVle.refl _, AVle.refl _, AVle.refl _, AVle.refl _, AVle.of_eq (congrArg (AV.int .i64) (by simp)), trivial⟩, ⟨MOle.refl _, MOle.of_eq (show MO.box ((aggL (L.take i)).mrg (one (ix L i).v)).cells = _ by rw [aggL_snoc hin]), trivial⟩⟩
  · have : i = L.length := by have := of_decide_eq_false g1; omega
    subst this
    exact And.intro trivial (AVle.of_eq (show (aggL (L.take L.length)).av = _ by rw [List.take_of_length_le (Nat.le_refl _)]))
def smpsIn (L : List Smp) (a b : Int) : List Smp := L.filter fun e => within e.t a (b - 1)
theorem smpsIn_yes {L : List Smp} {a b : Int} {i : Nat} (h : i < L.length) (hw : within (ix L i).t a (b - 1) = true) : smpsIn (L.take (i + 1)) a b = smpsIn (L.take i) a b ++ [ix L i] := by
  unfold smpsIn; rw [take_snoc h, List.filter_append]; simp [hw]
theorem smpsIn_no {L : List Smp} {a b : Int} {i : Nat} (h : i < L.length) (hw : within (ix L i).t a (b - 1) = false) : smpsIn (L.take (i + 1)) a b = smpsIn (L.take i) a b := by
  unfold smpsIn; rw [take_snoc h, List.filter_append]; simp [hw]
theorem smpsIn_len (L : List Smp) (a b : Int) : (smpsIn L a b).length ≤ L.length := List.length_filter_le _ _
theorem smpsIn_mem {L : List Smp} {a b : Int} {e : Smp} (h : e ∈ smpsIn L a b) : e ∈ L := (List.mem_filter.1 h).1
theorem samplesIn_fn (L : List Smp) (hL : L.length ≤ 1048576) (a b : Int) (hb : inI .i64 (b - 1)) : VFn Tryz.prog 174 [smps L, .int .i64 a, .int .i64 b] (smps (smpsIn L a b)) := by
  obtain ⟨R, hR⟩ : ∃ R, R = smpsIn L a b := ⟨_, rfl⟩
  rw [← hR]
  have hl := fun i => Nat.le_trans (smpsIn_len (L.take i) a b) (by simp; omega : (L.take i).length ≤ i)
  refine VFn.introC Tryz.call174 Tryz.func174 rfl rfl ?_
  refine LoopC.mk (fun i : Nat => i ≤ L.length) (fun i => [(1, .int .i64 a), (2, .int .i64 b), (7, .osl 0), (11, smps L), (12, .int .i64 L.length), (13, .int .i64 i)])
    (fun i => [(0, .arr 144 2 (smpsIn (L.take i) a b).length fun j => (ix (smpsIn (L.take i) a b) j).row)]) 1 (fun i => L.length - i) 0
    ⟨Nat.zero_le _, [(0, 0)], rfl, rfl, ⟨AVle.refl _, AVle.refl _, AVle.refl _, AVle.refl _, AVle.refl _, AVle.refl _, trivial⟩, ⟨MOle.arr rfl fun i hi => absurd hi (Nat.not_lt_zero i), trivial⟩⟩ ?_
  intro i hi
  refine Grd.intro (fun h2 => ?_) (fun h2 => ?_)
  · have hin : i < L.length := by have := of_decide_eq_true h2; omega
    refine And.intro (by omega) ?_
    refine And.intro hb ?_
    conv => whnf
    refine CallC.sca _ (within_fn _ _ _) ?_ ?_
    · exact rfl
    refine Grd.intro (fun h3 => ?_) (fun h3 => ?_)
    · have hs := smpsIn_yes hin h3
      refine And.intro ⟨show ((smpsIn (L.take i) a b).length + 1) * 16 ≤ 140737488355328 by have := hl i; omega, all1 rfl⟩ ?_
      refine And.intro (inI64 (by omega) (by omega)) ?_
      refine ⟨i + 1, hin, by omega, [(3, 0)], rfl, rfl, ⟨AVle.refl _, AVle.refl _, AVle.refl _, AVle.refl _, AVle.refl _, AVle.of_eq (congrArg (AV.int .i64) (by simp)), trivial⟩, ⟨?_, trivial⟩⟩
      exact arr_next (f := Smp.row) hs rfl
    · have hs := smpsIn_no hin h3
      refine And.intro (inI64 (by omega) (by omega)) ?_
      exact ⟨i + 1, hin, by omega, [(0, 0)], rfl, rfl, ⟨AVle.refl _, AVle.refl _, AVle.refl _, AVle.refl _, AVle.refl _, AVle.of_eq (congrArg (AV.int .i64) (by simp)), trivial⟩, ⟨MOle.of_eq (show MO.arr 144 2 (smpsIn (L.take i) a b).length (fun j => (ix (smpsIn (L.take i) a b) j).row) = _ by rw [hs]), trivial⟩⟩
  · have : i = L.length := by have := of_decide_eq_false h2; omega
    subst this
    have e : smpsIn (L.take L.length) a b = R := by rw [List.take_of_length_le (Nat.le_refl _), hR]
    subst e
    exact And.intro trivial (AVle.sl rfl fun j hj => rfl)
theorem l13Fold_fn (L : List Smp) (hL : L.length ≤ 100000) (hv : ∀ e ∈ L, -1000000 ≤ e.v ∧ e.v ≤ 1000000) (a b : Int) (hb : inI .i64 (b - 1)) : VFn Tryz.prog 172 [smps L, .int .i64 a, .int .i64 b] (aggL (smpsIn L a b)).av := by
  have hB := fun i => aggL_bd (L := smpsIn (L.take i) a b) (by have := smpsIn_len (L.take i) a b; simp at this; omega) (fun e he => hv e (List.mem_of_mem_take (smpsIn_mem he)))
  have hl := fun i => Nat.le_trans (smpsIn_len (L.take i) a b) (by simp; omega : (L.take i).length ≤ i)
  refine VFn.introC Tryz.call172 Tryz.func172 rfl rfl ?_
  refine LoopC.mk (fun i : Nat => i ≤ L.length) (fun i => [(0, smps L), (1, .int .i64 a), (2, .int .i64 b), (6, .bptr 0 0), (7, .bptr 1 0), (8, .int .i64 i)])
    (fun i => [(0, .box [.int .i64 0, .int .i64 0, .int .i64 0, .int .i64 0, .int .i64 0, .int .i64 0]), (1, .box (aggL (smpsIn (L.take i) a b)).cells)]) 2 (fun i => L.length - i) 0
    ⟨Nat.zero_le _, [(0, 0), (1, 1)], rfl, rfl, ⟨AVle.refl _, AVle.refl _, AVle.refl _, AVle.refl _, AVle.refl _, AVle.refl _, trivial⟩, ⟨MOle.refl _, MOle.refl _, trivial⟩⟩ ?_
  intro i hi
  refine Grd.intro (fun g1 => ?_) (fun g1 => ?_)
  · have hin : i < L.length := by have := of_decide_eq_true g1; omega
    have bb := hB i
    have hli := hl i
    have hvi := hv _ (getD_mem hin)
    refine And.intro (by omega) ?_
    refine And.intro hb ?_
    conv => whnf
    refine CallC.sca _ (l01In_fn _ _ _) ?_ ?_
    · exact rfl
    refine Grd.intro (fun h3 => ?_) (fun h3 => ?_)
    · have e := (congrArg aggL (smpsIn_yes hin h3)).trans (aggL_app _ _)
      refine DrawC.mk 8 rfl (by kernel_rfl) ?_
      refine And.intro (by omega) ?_
      refine PCallC.sca _ ((l02Of_fn [ix L i] (by simp) (by intro e he; rw [List.mem_singleton.1 he]; exact hvi)).weak (AVsle.cons (AVle.sl1 rfl) AVsle.nil) (AVle.refl _)) rfl ?_
      rw [aggL_one]
      refine PCallC.sca _ (l02Merge_fn (aggL (smpsIn (L.take i) a b)) (one (ix L i).v) (inI64 (by have := bb.1; simp only [one]; omega) (by have := bb.1; simp only [one]; omega)) (inI64 (by have := bb.2.1; simp only [one]; omega) (by have := bb.2.1; simp only [one]; omega))) rfl ?_
      refine And.intro (inI64 (by omega) (by omega)) ?_
      refine ⟨i + 1, hin, by omega, [(0, 0), (1, 1)], rfl, rfl, ⟨AVle.refl _, AVle.refl _, AVle.refl _, AVle.refl _, AVle.refl _, AVle.of_eq (congrArg (AV.int .i64) (by simp)), trivial⟩, ⟨MOle.refl _, ?_, trivial⟩⟩
      exact MOle.of_eq (show MO.box ((aggL (smpsIn (L.take i) a b)).mrg (one (ix L i).v)).cells = _ by rw [← e])
    · have e := congrArg aggL (smpsIn_no hin h3)
      refine And.intro (inI64 (by omega) (by omega)) ?_
      refine ⟨i + 1, hin, by omega, [(0, 0), (1, 1)], rfl, rfl, ⟨AVle.refl _, AVle.refl _, AVle.refl _, AVle.refl _, AVle.refl _, AVle.of_eq (congrArg (AV.int .i64) (by simp)), trivial⟩, ⟨MOle.refl _, ?_, trivial⟩⟩
      exact MOle.of_eq (show MO.box (aggL (smpsIn (L.take i) a b)).cells = _ by rw [← e])
  · have : i = L.length := by have := of_decide_eq_false g1; omega
    subst this
    exact And.intro trivial (AVle.of_eq (show (aggL (smpsIn (L.take L.length) a b)).av = _ by rw [List.take_of_length_le (Nat.le_refl _)]))
end Go.Proofs.YtlbnpndednhdaaaGreatDoor
set_option linter.unusedVariables false
set_option linter.constructorNameAsVariable false
set_option linter.unusedSimpArgs false
set_option maxRecDepth 20000
namespace Go.Proofs.YtlbnpndednhdaaaGreatDoor
open Go Go.Vw

def An.tr (ac : List Smp) (a : An) : Bool := if a.code = 0 then Ag.eqb a.a (aggL (smpsIn ac a.f a.t)) else Ag.eqb a.a ⟨0, 0, 0, 0, 0, 0⟩
theorem An.to_b {a : An} (h : a.ok = true) : inI .i64 (a.t - 1) := by
  simp [An.ok, isRange, within] at h
  exact inI64 (by omega) (by omega)
theorem isTrue_fn (ac : List Smp) (hac : smpsOK ac = true) (a : An) (ha : a.ok = true) : VFn Tryz.prog 105 [a.av, smps ac] (.bool (a.tr ac)) := by
  obtain ⟨h1, h2⟩ := smps_bd hac
  by_cases hc : a.code = 0
  · rw [An.tr, if_pos hc]
    refine VFn.introC Tryz.call105 Tryz.func105 rfl rfl ?_
    refine Grd.intro (fun g => ?_) (fun g => ?_)
    · exfalso; simp_all
    refine DrawC.mk 11 rfl (by kernel_rfl) ?_
    refine PCallC.nl _ (samplesIn_fn ac (by omega) a.f a.t (An.to_b ha)) rfl ?_
    refine PCallC.sca _ (aggOf_fn (smpsIn ac a.f a.t) (by have := smpsIn_len ac a.f a.t; omega) (fun e he => h2 e (smpsIn_mem he))) rfl ?_
    refine And.intro (by kernel_rfl) ?_
    exact And.intro trivial (AVle.of_eq rfl)
  · rw [An.tr, if_neg hc]
    refine VFn.introC Tryz.call105 Tryz.func105 rfl rfl ?_
    refine Grd.intro (fun g => ?_) (fun g => ?_)
    · refine And.intro (by kernel_rfl) ?_
      exact And.intro trivial (AVle.of_eq rfl)
    · exfalso; simp_all
theorem l13Answer_fn (ac : List Smp) (hac : smpsOK ac = true) (a : An) (ha : a.ok = true) : VFn Tryz.prog 103 [smps ac, a.av] (.bool (a.tr ac)) := by
  obtain ⟨h1, h2⟩ := smps_bd hac
  by_cases hc : a.code = 0
  · rw [An.tr, if_pos hc]
    refine VFn.introC Tryz.call103 Tryz.func103 rfl rfl ?_
    refine Grd.intro (fun g => ?_) (fun g => ?_)
    · exfalso; simp_all
    refine DrawC.mk 10 rfl (by kernel_rfl) ?_
    refine PCallC.sca _ (l13Fold_fn ac (by omega) h2 a.f a.t (An.to_b ha)) rfl ?_
    refine And.intro (by kernel_rfl) ?_
    exact And.intro trivial (AVle.of_eq rfl)
  · rw [An.tr, if_neg hc]
    refine VFn.introC Tryz.call103 Tryz.func103 rfl rfl ?_
    refine Grd.intro (fun g => ?_) (fun g => ?_)
    · refine And.intro (by kernel_rfl) ?_
      exact And.intro trivial (AVle.of_eq rfl)
    · exfalso; simp_all
theorem allAnC1_fn (e : An) (G : Nat) (row : List AV) (p : An → Bool) (hp : VFn Tryz.prog G [e.av, .eptr row 0] (.bool (p e))) : VFn Tryz.prog 164 [e.av, .eptr [.fn (.func G) [] [.eptr row 0]] 0] (.bool (!p e)) := by
  refine VFn.introC Tryz.call164 Tryz.func164 rfl rfl ?_
  conv => whnf
  refine CallC.sca _ (hp) ?_ ?_
  · exact rfl
  exact And.intro trivial (AVle.refl _)
theorem allAnC_fn (L : List An) (hL : L.length ≤ 9223372036854775807) (G : Nat) (row : List AV) (p : An → Bool) (hp : ∀ e ∈ L, VFn Tryz.prog G [e.av, .eptr row 0] (.bool (p e))) : VFn Tryz.prog 79 [ans L, .fn (.func G) [] [.eptr row 0]] (.bool (L.all p)) := by
  refine VFn.introC Tryz.call79 Tryz.func79 rfl rfl ?_
  conv => whnf
  refine CallC.sca _ (ContainsAn_1 L hL 164 [.fn (.func G) [] [.eptr row 0]] (fun e => !p e) (fun e he => allAnC1_fn e G row p (hp e he))) ?_ ?_
  · exact rfl
  exact And.intro trivial (AVle.of_eq (congrArg AV.bool (show (!L.any fun e => !p e) = _ by rw [Bool.eq_iff_iff]; simp)))
theorem Fl.ok_ac {s : Fl} (h : s.ok = true) : smpsOK s.ac = true := by
  simp only [Fl.ok, Fl.fin, Bool.and_eq_true] at h
  exact h.2.2.2.2.2.2.1
theorem AnswersTrue1_fn (s : Fl) (ho : s.ok = true) (a : An) (ha : a ∈ s.an) : VFn Tryz.prog 104 [a.av, .eptr s.row 0] (.bool (a.tr s.ac)) := by
  have hk := List.all_eq_true.1 (Fl.ok_cons ho).2.2.1 a ha
  refine VFn.introC Tryz.call104 Tryz.func104 rfl rfl ?_
  conv => whnf
  refine CallC.sca _ (isTrue_fn s.ac (Fl.ok_ac ho) a hk) ?_ ?_
  · exact rfl
  exact And.intro trivial (AVle.refl _)
theorem AnswersTrue_fn (s : Fl) (hS : s.small) : VFn Tryz.prog 24 [s.av] (.tup [.bool (s.ok && s.an.all (An.tr s.ac)), .int .i64 (if s.ok then 0 else 1)]) := by
  have c := FleetOK_fn s hS
  have hA := hS.an
  by_cases ho : s.ok = true
  · rw [ho] at c ⊢
    refine VFn.introC Tryz.call24 Tryz.func24 rfl rfl ?_
    conv => whnf
    refine CallC.sca _ (c) ?_ ?_
    · exact rfl
    conv => whnf
    refine CallC.sca _ (allAnC_fn s.an (by omega) 104 s.row (An.tr s.ac) (fun e he => AnswersTrue1_fn s ho e he)) ?_ ?_
    · exact rfl
    exact And.intro trivial (AVle.refl _)
  · have ho : s.ok = false := by simpa using ho
    rw [ho] at c ⊢
    refine VFn.introC Tryz.call24 Tryz.func24 rfl rfl ?_
    conv => whnf
    refine CallC.sca _ (c) ?_ ?_
    · exact rfl
    exact And.intro trivial (AVle.refl _)
theorem specAnswersTrue_fn (s : Fl) (hS : s.small) (hI : -9223372036854775808 ≤ s.st.next ∧ s.st.next ≤ 9223372036854775807) : VFn Tryz.prog 23 [s.av] (.tup [.bool (s.ok && s.an.all (An.tr s.ac)), .int .i64 (if s.ok then 0 else 1)]) := by
  have c := specFleetOK_fn s hS hI
  have hA := hS.an
  by_cases ho : s.ok = true
  · rw [ho] at c ⊢
    have hac := Fl.ok_ac ho
    have hk := List.all_eq_true.1 (Fl.ok_cons ho).2.2.1
    refine VFn.introC Tryz.call23 Tryz.func23 rfl rfl ?_
    conv => whnf
    refine CallC.sca _ (c) ?_ ?_
    · exact rfl
    refine LoopC.mk (fun i : Nat => i ≤ s.an.length ∧ ∀ j, j < i → An.tr s.ac (ix s.an j) = true) (fun i => [(1, .bptr 0 0), (4, .int .i64 i)]) (fun i => [(0, .box s.row)]) 1 (fun i => s.an.length - i) 0
      ⟨⟨Nat.zero_le _, fun j hj => absurd hj (Nat.not_lt_zero j)⟩, [(0, 0)], rfl, rfl, ⟨AVle.refl _, AVle.refl _, trivial⟩, ⟨MOle.refl _, trivial⟩⟩ ?_
    intro i hi
    obtain ⟨hi, h0⟩ := hi
    refine Grd.intro (fun g => ?_) (fun g => ?_)
    · have hin : i < s.an.length := by have := of_decide_eq_true g; omega
      have cc := l13Answer_fn s.ac hac (ix s.an i) (hk _ (getD_mem hin))
      by_cases ha : An.tr s.ac (ix s.an i) = true
      · rw [ha] at cc
        refine DrawC.mk 9 rfl (by kernel_rfl) ?_
        refine And.intro (by omega) ?_
        refine PCallC.sca _ (cc) rfl ?_
        refine And.intro (inI64 (by omega) (by omega)) ?_
        exact ⟨i + 1, ⟨hin, fun j hj => by
          rcases Nat.lt_or_ge j i with h' | h'
          · exact h0 j h'
          · rw [show j = i by omega]; exact ha⟩, by omega, [(0, 0)], rfl, rfl, ⟨AVle.refl _, AVle.of_eq (congrArg (AV.int .i64) (by simp)), trivial⟩, ⟨MOle.refl _, trivial⟩⟩
      · have ha : An.tr s.ac (ix s.an i) = false := by simpa using ha
        rw [all_bad hin ha]
        rw [ha] at cc
        refine DrawC.mk 9 rfl (by kernel_rfl) ?_
        refine And.intro (by omega) ?_
        refine PCallC.sca _ (cc) rfl ?_
        exact And.intro trivial (AVle.refl _)
    · have : i = s.an.length := by have := of_decide_eq_false g; omega
      subst this
      rw [all_pre h0]
      exact And.intro trivial (AVle.refl _)
  · have ho : s.ok = false := by simpa using ho
    rw [ho] at c ⊢
    refine VFn.introC Tryz.call23 Tryz.func23 rfl rfl ?_
    conv => whnf
    refine CallC.sca _ (c) ?_ ?_
    · exact rfl
    exact And.intro trivial (AVle.refl _)
theorem law_AnswersTrue (s : Fl) (h : FlIn s) : VFn Tryz.prog 7 [s.av] (.bool true) := by
  by_cases hf : (flN s : Int) ≤ 1048576
  · have hs := Fl.small_of hf
    have c1 := specAnswersTrue_fn s hs h.nx
    have c2 := AnswersTrue_fn s hs
    generalize s.ok = b at c1 c2
    generalize s.an.all (An.tr s.ac) = d at c1 c2
    cases b <;> cases d
    all_goals
      refine VFn.introC Tryz.call7 Tryz.func7 rfl rfl ?_
      conv => whnf
      refine CallC.sca _ (szFleet_fn s 1048576 (by decide) (by decide) h) ?_ ?_
      · exact rfl
      rw [szr_yes hf]
      refine Grd.intro (fun h => absurd (of_decide_eq_true h) (by omega)) (fun _ => ?_)
      conv => whnf
      refine CallC.nl _ (toFleet_fn s hs) ?_ ?_
      · exact rfl
      conv => whnf
      refine CallC.sca _ (c1) ?_ ?_
      · exact rfl
      conv => whnf
      refine CallC.nl _ (toFleet_fn s hs) ?_ ?_
      · exact rfl
      conv => whnf
      refine CallC.sca _ (c2) ?_ ?_
      · exact rfl
      conv => whnf
      refine OpC.bneq rfl rfl rfl rfl rfl ?_
      conv => whnf
      refine DrawC.mk 5 rfl (by kernel_rfl) ?_
      refine PCallC.nl _ (toFleet_fn s hs) rfl ?_
      refine PCallC.sca _ (eqFleet_fn s hs) rfl ?_
      exact And.intro trivial (AVle.refl _)
  · refine VFn.introC Tryz.call7 Tryz.func7 rfl rfl ?_
    conv => whnf
    refine CallC.sca _ (szFleet_fn s 1048576 (by decide) (by decide) h) ?_ ?_
    · exact rfl
    rw [szr_no hf]
    exact And.intro trivial (AVle.refl _)
end Go.Proofs.YtlbnpndednhdaaaGreatDoor
