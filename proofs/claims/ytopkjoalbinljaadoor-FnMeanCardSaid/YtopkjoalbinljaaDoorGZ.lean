/- Aggregates made, drawn: contracts; the conditions are the theorems' own. -/
import Derived.Test.YtopkjoalbinljaaDoorGY
set_option linter.unusedVariables false
set_option maxRecDepth 20000
namespace Go.Proofs.YtopkjoalbinljaaDoor
open Go Go.Vw

def Ag.mrg (a b : Ag) : Ag := if a.c = 0 then b else if b.c = 0 then a else ⟨a.c + b.c, a.s + b.s, if b.mn < a.mn then b.mn else a.mn, if a.mx < b.mx then b.mx else a.mx, a.f, b.l⟩
def Ag.cells (a : Ag) : List AV := [.int .i64 a.c, .int .i64 a.s, .int .i64 a.mn, .int .i64 a.mx, .int .i64 a.f, .int .i64 a.l]
def one (v : Int) : Ag := ⟨1, v, v, v, v, v⟩
def aggL (L : List Smp) : Ag := L.foldl (fun a s => a.mrg (one s.v)) default
theorem aggL_snoc {L : List Smp} {i : Nat} (h : i < L.length) : aggL (L.take (i + 1)) = (aggL (L.take i)).mrg (one (ix L i).v) := by
  unfold aggL; rw [take_snoc h, List.foldl_append]; rfl
def Ag.B (a : Ag) (n : Int) : Prop := a.c = n ∧ (-1000000 * n ≤ a.s ∧ a.s ≤ 1000000 * n) ∧ (n = 0 → a = default) ∧ (0 < n → a.some = true)
theorem mrg_B {a : Ag} {n v : Int} (h : a.B n) (hn : 0 ≤ n ∧ n < 100000) (hv : -1000000 ≤ v ∧ v ≤ 1000000) : (a.mrg (one v)).B (n + 1) := by
  obtain ⟨h1, h2, h3, h4⟩ := h
  unfold Ag.mrg
  by_cases h0 : a.c = 0
  · rw [if_pos h0]
    refine ⟨by simp only [one]; omega, by simp only [one]; omega, fun h => by omega, fun _ => ?_⟩
    unfold Ag.some one
    simp [within]; omega
  · rw [if_neg h0, if_neg (show ¬ (one v).c = 0 by simp [one])]
    have h5 := h4 (by omega)
    unfold Ag.some at h5
    simp [within] at h5
    refine ⟨by simp only [one]; omega, by simp only [one]; omega, fun h => by omega, fun _ => ?_⟩
    unfold Ag.some one
    simp only [within]
    have e1 : ∀ m, m ≤ a.mn → m ≤ v → (a.c + 1) * m ≤ a.s + v := fun m q1 q2 => by
      have : a.c * m ≤ a.c * a.mn := Int.mul_le_mul_of_nonneg_left q1 (by omega)
      have : (a.c + 1) * m = a.c * m + m := by rw [Int.add_mul]; omega
      omega
    have e2 : ∀ m, a.mx ≤ m → v ≤ m → a.s + v ≤ (a.c + 1) * m := fun m q1 q2 => by
      have : a.c * a.mx ≤ a.c * m := Int.mul_le_mul_of_nonneg_left q1 (by omega)
      have : (a.c + 1) * m = a.c * m + m := by rw [Int.add_mul]; omega
      omega
    by_cases m1 : v < a.mn <;> by_cases m2 : a.mx < v
    · rw [if_pos m1, if_pos m2]
      have := e1 v (by omega) (by omega)
      have := e2 v (by omega) (by omega)
      simp; omega
    · rw [if_pos m1, if_neg m2]
      have := e1 v (by omega) (by omega)
      have := e2 a.mx (by omega) (by omega)
      simp; omega
    · rw [if_neg m1, if_pos m2]
      have := e1 a.mn (by omega) (by omega)
      have := e2 v (by omega) (by omega)
      simp; omega
    · rw [if_neg m1, if_neg m2]
      have := e1 a.mn (by omega) (by omega)
      have := e2 a.mx (by omega) (by omega)
      simp; omega
theorem aggL_B {L : List Smp} (hL : L.length ≤ 100000) (hv : ∀ e ∈ L, -1000000 ≤ e.v ∧ e.v ≤ 1000000) : ∀ i : Nat, i ≤ L.length → (aggL (L.take i)).B i
  | 0, _ => ⟨rfl, show -1000000 * ((0 : Nat) : Int) ≤ 0 ∧ (0 : Int) ≤ 1000000 * ((0 : Nat) : Int) by omega, fun _ => rfl, fun h => absurd h (by simp)⟩
  | i + 1, h => by
    rw [aggL_snoc h]
    have := mrg_B (aggL_B hL hv i (by omega)) ⟨by omega, by omega⟩ (hv _ (getD_mem (L := L) h))
    simpa using this
theorem B_ok {a : Ag} {n : Int} (h : a.B n) (hn : 0 ≤ n) : a.ok = true := by
  rcases Int.lt_or_le 0 n with h0 | h0
  · unfold Ag.ok; rw [h.2.2.2 h0]; simp
  · have := h.2.2.1 (by omega)
    subst this; rfl
theorem l02Merge_fn (a b : Ag) (h1 : inI .i64 (a.c + b.c)) (h2 : inI .i64 (a.s + b.s)) : VFn Tryd.prog 165 [a.av, b.av] (a.mrg b).av := by
  obtain ⟨R, hR⟩ : ∃ R, R = a.mrg b := ⟨_, rfl⟩
  rw [← hR]
  refine VFn.introC Tryd.call165 Tryd.func165 rfl rfl ?_
  refine Grd.intro (fun g1 => ?_) (fun g1 => ?_)
  · rw [Ag.mrg, if_pos (show a.c = 0 from of_decide_eq_true g1)] at hR
    subst hR
    exact And.intro trivial (AVle.refl _)
  refine Grd.intro (fun g2 => ?_) (fun g2 => ?_)
  · rw [Ag.mrg, if_neg (show ¬ a.c = 0 from of_decide_eq_false g1), if_pos (show b.c = 0 from of_decide_eq_true g2)] at hR
    subst hR
    exact And.intro trivial (AVle.refl _)
  rw [Ag.mrg, if_neg (show ¬ a.c = 0 from of_decide_eq_false g1), if_neg (show ¬ b.c = 0 from of_decide_eq_false g2)] at hR
  refine And.intro h1 ?_
  refine And.intro h2 ?_
  subst hR
  exact And.intro trivial (AVle.refl _)
theorem l02Of_fn (L : List Smp) (hL : L.length ≤ 100000) (hv : ∀ e ∈ L, -1000000 ≤ e.v ∧ e.v ≤ 1000000) : VFn Tryd.prog 141 [smps L] (aggL L).av := by
  have hB := aggL_B hL hv
  refine VFn.introC Tryd.call141 Tryd.func141 rfl rfl ?_
  refine LoopC.mk (fun i : Nat => i ≤ L.length) (fun i => [(0, smps L), (2, .bptr 0 0), (3, .bptr 1 0), (4, .int .i64 i)])
    (fun i => [(0, .box [.int .i64 0, .int .i64 0, .int .i64 0, .int .i64 0, .int .i64 0, .int .i64 0]), (1, .box (aggL (L.take i)).cells)]) 2 (fun i => L.length - i) 0
    ⟨Nat.zero_le _, [(0, 0), (1, 1)], rfl, rfl, ⟨AVle.refl _, AVle.refl _, AVle.refl _, AVle.refl _, trivial⟩, ⟨MOle.refl _, MOle.refl _, trivial⟩⟩ ?_
  intro i hi
  refine Grd.intro (fun g1 => ?_) (fun g1 => ?_)
  · have hin : i < L.length := by have := of_decide_eq_true g1; omega
    have b := hB i hi
    have hvi := hv _ (getD_mem hin)
    refine And.intro (by omega) ?_
    conv => whnf
    refine CallC.sca _ (l02Merge_fn (aggL (L.take i)) (one (ix L i).v) (inI64 (by have := b.1; simp only [one]; omega) (by have := b.1; simp only [one]; omega)) (inI64 (by have := b.2.1; simp only [one]; omega) (by have := b.2.1; simp only [one]; omega))) ?_ ?_
    · exact rfl
    refine And.intro (inI64 (by omega) (by omega)) ?_
    exact ⟨i + 1, hin, by omega, [(0, 0), (1, 1)], rfl, rfl, ⟨AVle.refl _, AVle.refl _, AVle.refl _, AVle.of_eq (congrArg (AV.int .i64) (by simp)), trivial⟩, ⟨MOle.refl _, MOle.of_eq (show MO.box ((aggL (L.take i)).mrg (one (ix L i).v)).cells = _ by rw [aggL_snoc hin]), trivial⟩⟩
  · have : i = L.length := by have := of_decide_eq_false g1; omega
    subst this
    exact And.intro trivial (AVle.of_eq (show (aggL (L.take L.length)).av = _ by rw [List.take_of_length_le (Nat.le_refl _)]))
def Src.agg (s : Src) : Ag := aggL (s.samples 0 6).1
theorem samples_ok (s : Src) (n : Int) (h : s.ok 1000000) (hn : 0 ≤ n ∧ n ≤ 1000) : (s.samples 0 n).1.length ≤ 1000 ∧ (∀ e ∈ (s.samples 0 n).1, -1000000 ≤ e.v ∧ e.v ≤ 1000000) := by
  have n0 := next_b s h (by omega) (n + 1)
  have hm := n0.1.2 (by omega)
  have h0 : SSok ([], 0, (s.next (n + 1)).2) 0 1000003 := ⟨rfl, by simp, n0.2.1, by simp only; omega⟩
  have := it_ok h0 (by omega) (s.next (n + 1)).1.toNat
  unfold Src.samples
  exact ⟨by rw [this.1]; omega, this.2.1⟩
theorem agg_fn (s : Src) (h : s.ok 1000000) : FnM Tryd.prog 79 1 [.bptr 0 0] [(0, .box s.row)] s.agg.av [(0, .box (s.samples 0 6).2.2.row)] 1 := by
  obtain ⟨q1, q2⟩ := samples_ok s 6 h (by omega)
  refine FnM.introC Tryd.call79 Tryd.func79 rfl rfl ?_
  conv => whnf
  refine CallC.k [(0, 0)] (samples_fn s 0 6 h (by omega) (by omega)) rfl rfl (AVsle.refl _) ⟨MOle.refl _, trivial⟩ rfl ?_
  conv => whnf
  refine CallC.sca _ (l02Of_fn (s.samples 0 6).1 (by omega) q2) ?_ ?_
  · exact rfl
  exact And.intro trivial ⟨[(0, 0)], rfl, AVle.refl _, ⟨MOle.refl _, trivial⟩⟩
def srcOf (code : List UInt8) : Src := ⟨code, 0, (code.length : Int).tmod 1000⟩
theorem src_ok (code : List UInt8) (h : code.length ≤ 1048576) : (srcOf code).ok 0 := by
  have := tmod_b (n := (code.length : Int)) (m := 1000) (by omega) (by omega)
  exact ⟨⟨by simp [srcOf], by simp [srcOf]⟩, ⟨this.1, by have := this.2; simp only [srcOf]; omega⟩, by simp only [srcOf]; omega⟩
theorem l00Source_fn (code : List UInt8) (h : code.length ≤ 1048576) : FnM Tryd.prog 71 0 [byts code] [] (.bptr 0 0) [(0, .box (srcOf code).row)] 1 := by
  refine FnM.introC Tryd.call71 Tryd.func71 rfl rfl ?_
  refine And.intro (by decide) ?_
  exact And.intro trivial ⟨[(0, 0)], rfl, AVle.refl _, ⟨MOle.refl _, trivial⟩⟩
theorem AggDrawn_fn (code : List UInt8) (h : code.length ≤ 1048576) : VFn Tryd.prog 34 [byts code] (srcOf code).agg.av := by
  refine VFn.introC Tryd.call34 Tryd.func34 rfl rfl ?_
  conv => whnf
  refine CallC.k [] (l00Source_fn code h) rfl rfl (AVsle.refl _) trivial rfl ?_
  conv => whnf
  refine CallC.k [(1, 0)] (agg_fn (srcOf code) (wk (src_ok code h) (by omega))) rfl rfl (AVsle.refl _) ⟨MOle.refl _, trivial⟩ rfl ?_
  exact And.intro trivial (AVle.refl _)
theorem agg_ok (code : List UInt8) (h : code.length ≤ 1048576) : (srcOf code).agg.ok = true := by
  obtain ⟨q1, q2⟩ := samples_ok (srcOf code) 6 (wk (src_ok code h) (by omega)) (by omega)
  have := aggL_B (L := ((srcOf code).samples 0 6).1) (by omega) q2 _ (Nat.le_refl _)
  rw [List.take_of_length_le (Nat.le_refl _)] at this
  exact B_ok this (by omega)
end Go.Proofs.YtopkjoalbinljaaDoor
