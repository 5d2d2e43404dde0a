/- Samples, aggregates drawn: contracts; the conditions are the theorems' own. -/
import Derived.Test.YtopkjoalbinljaaDoorGW
import Derived.Test.YtopkjoalbinljaaDoorGC
set_option linter.unusedVariables false
set_option maxRecDepth 20000
namespace Go.Proofs.YtopkjoalbinljaaDoor
open Go Go.Vw

abbrev SS := List Smp × Int × Src
def smpStep (x : SS) : SS :=
  let f := x.2.1 + (x.2.2.next 4).1
  let a := (x.2.2.next 4).2.next 40
  let b := a.2.next 12
  let c := b.2.next 2
  let v := if b.1.tdiv 10 * (1 + c.1) = 0 then a.1 - 10 else if b.1.tdiv 10 * (1 + c.1) = 1 then 1000000 else -1000000
  (x.1 ++ [⟨f, v⟩], f + 1, c.2)
def smpIt : Nat → SS → SS
  | 0, x => x
  | k + 1, x => smpStep (smpIt k x)
def SSok (x : SS) (n : Nat) (k : Int) : Prop := x.1.length = n ∧ (∀ e ∈ x.1, -1000000 ≤ e.v ∧ e.v ≤ 1000000) ∧ x.2.2.ok k ∧ (0 ≤ x.2.1 ∧ x.2.1 ≤ k)
theorem wk {x : Src} {a b : Int} (hx : x.ok a) (h : a ≤ b) : x.ok b := ⟨⟨hx.1.1, by have := hx.1.2; omega⟩, hx.2⟩
theorem step_ok {x : SS} {n : Nat} {k : Int} (h : SSok x n k) (hk : 0 ≤ k) : SSok (smpStep x) (n + 1) (k + 12) := by
  obtain ⟨h1, h2, h3, h4⟩ := h
  have n1 := next_b x.2.2 h3 hk 4
  have n2 := next_b (x.2.2.next 4).2 n1.2.1 (by omega) 40
  have n3 := next_b ((x.2.2.next 4).2.next 40).2 n2.2.1 (by omega) 12
  have n4 := next_b (((x.2.2.next 4).2.next 40).2.next 12).2 n3.2.1 (by omega) 2
  have a1 := n1.1.2 (by omega)
  have a2 := n2.1.2 (by omega)
  unfold smpStep
  refine ⟨by simp [h1], fun e he => ?_, wk n4.2.1 (by omega), by simp only; omega⟩
  simp only [List.mem_append, List.mem_cons, List.not_mem_nil, or_false] at he
  rcases he with he | he
  · exact h2 e he
  · subst he
    simp only
    have := n2.1.1
    split
    · omega
    · split <;> omega
theorem it_ok {x : SS} {k : Int} (h : SSok x 0 k) (hk : 0 ≤ k) : ∀ n, SSok (smpIt n x) n (k + 12 * n)
  | 0 => by simpa [smpIt] using h
  | n + 1 => by
    have := step_ok (it_ok h hk n) (by omega)
    have e : k + 12 * ((n + 1 : Nat) : Int) = k + 12 * (n : Int) + 12 := by omega
    rw [e]; exact this
def Src.samples (s : Src) (f n : Int) : SS := smpIt (s.next (n + 1)).1.toNat ([], f, (s.next (n + 1)).2)
theorem samples_fn (s : Src) (f n : Int) (h : s.ok 1000000) (hf : 0 ≤ f ∧ f ≤ 1000000) (hn : 0 ≤ n ∧ n ≤ 1000) :
    FnM Tryd.prog 142 1 [.bptr 0 0, .int .i64 f, .int .i64 n] [(0, .box s.row)] (.osl 1) [(0, .box (s.samples f n).2.2.row), (1, .arr 142 2 (s.samples f n).1.length fun i => (ix (s.samples f n).1 i).row)] 2 := by
  have n0 := next_b s h (by omega) (n + 1)
  have hm := n0.1.2 (by omega)
  have h0 : SSok ([], f, (s.next (n + 1)).2) 0 1000003 := ⟨rfl, by simp, n0.2.1, by simp only; omega⟩
  have hit := it_ok h0 (by omega)
  obtain ⟨R, hR⟩ : ∃ R, R = s.samples f n := ⟨_, rfl⟩
  rw [← hR]
  refine FnM.introC Tryd.call142 Tryd.func142 rfl rfl ?_
  refine And.intro (inI64 (by omega) (by omega)) ?_
  conv => whnf
  refine CallC.k [(0, 0)] (next_fn s (n + 1) (wk h (by omega))) rfl rfl (AVsle.refl _) ⟨MOle.refl _, trivial⟩ rfl ?_
  obtain ⟨M, hM⟩ : ∃ M : Nat, (s.next (n + 1)).1 = M := ⟨(s.next (n + 1)).1.toNat, by omega⟩
  have hR2 : R = smpIt M ([], f, (s.next (n + 1)).2) := by rw [hR, Src.samples, hM]; rfl
  obtain ⟨x0, hx0⟩ : ∃ x0 : SS, x0 = ([], f, (s.next (n + 1)).2) := ⟨_, rfl⟩
  rw [← hx0] at hit hR2
  rw [hM]
  refine LoopC.mk (fun k : Nat => k ≤ M) (fun k => [(0, .bptr 0 0), (1, .int .i64 (smpIt k x0).2.1), (7, .osl 1), (8, .int .i64 ((M : Int) - k))])
    (fun k => [(0, .box (smpIt k x0).2.2.row), (1, .arr 142 2 (smpIt k x0).1.length fun i => (ix (smpIt k x0).1 i).row)]) 2 (fun k => M - k) 0
    ⟨Nat.zero_le _, [(0, 0), (1, 1)], rfl, rfl, ⟨AVle.refl _, AVle.of_eq (congrArg (AV.int .i64) (show f = _ by rw [hx0]; rfl)), AVle.refl _, AVle.of_eq (congrArg (AV.int .i64) (by simp)), trivial⟩, ⟨MOle.of_eq (show MO.box (s.next (n + 1)).2.row = _ by rw [hx0]; rfl), MOle.arr (by rw [hx0]; rfl) fun i hi => absurd hi (Nat.not_lt_zero i), trivial⟩⟩ ?_
  intro k hk
  refine Grd.intro (fun g1 => ?_) (fun g1 => ?_)
  · have hkM : k < M := by have := of_decide_eq_true g1; omega
    obtain ⟨h1, h2, h3, h4⟩ := hit k
    have hstep : smpIt (k + 1) x0 = smpStep (smpIt k x0) := rfl
    generalize smpIt k x0 = x at h1 h2 h3 h4 hstep
    have n1 := next_b x.2.2 h3 (by omega) 4
    have n2 := next_b (x.2.2.next 4).2 n1.2.1 (by omega) 40
    have n3 := next_b ((x.2.2.next 4).2.next 40).2 n2.2.1 (by omega) 12
    have n4 := next_b (((x.2.2.next 4).2.next 40).2.next 12).2 n3.2.1 (by omega) 2
    have a1 := n1.1.2 (by omega)
    have a2 := n2.1.2 (by omega)
    have a3 := n3.1.2 (by omega)
    have a4 := n4.1.2 (by omega)
    conv => whnf
    refine CallC.k [(0, 0)] (next_fn x.2.2 4 (wk h3 (by omega))) rfl rfl (AVsle.refl _) ⟨MOle.refl _, trivial⟩ rfl ?_
    refine And.intro (show inI .i64 (x.2.1 + (x.2.2.next 4).1) from inI64 (by omega) (by omega)) ?_
    conv => whnf
    refine CallC.k [(0, 0)] (next_fn (x.2.2.next 4).2 40 (wk n1.2.1 (by omega))) rfl rfl (AVsle.refl _) ⟨MOle.refl _, trivial⟩ rfl ?_
    refine And.intro (inI64 (by omega) (by omega)) ?_
    conv => whnf
    refine CallC.k [(0, 0)] (next_fn ((x.2.2.next 4).2.next 40).2 12 (wk n2.2.1 (by omega))) rfl rfl (AVsle.refl _) ⟨MOle.refl _, trivial⟩ rfl ?_
    have hq : (((x.2.2.next 4).2.next 40).2.next 12).1.tdiv 10 = (((x.2.2.next 4).2.next 40).2.next 12).1 / 10 := Int.tdiv_eq_ediv_of_nonneg n3.1.1
    have hq01 : (((x.2.2.next 4).2.next 40).2.next 12).1.tdiv 10 = 0 ∨ (((x.2.2.next 4).2.next 40).2.next 12).1.tdiv 10 = 1 := by omega
    have hd01 : ((((x.2.2.next 4).2.next 40).2.next 12).2.next 2).1 = 0 ∨ ((((x.2.2.next 4).2.next 40).2.next 12).2.next 2).1 = 1 := by omega
    have hrow : ∀ v, v = (if (((x.2.2.next 4).2.next 40).2.next 12).1.tdiv 10 * (1 + ((((x.2.2.next 4).2.next 40).2.next 12).2.next 2).1) = 0 then ((x.2.2.next 4).2.next 40).1 - 10 else if (((x.2.2.next 4).2.next 40).2.next 12).1.tdiv 10 * (1 + ((((x.2.2.next 4).2.next 40).2.next 12).2.next 2).1) = 1 then 1000000 else -1000000) →
        (smpIt (k + 1) x0).1 = x.1 ++ [⟨x.2.1 + (x.2.2.next 4).1, v⟩] ∧ (smpIt (k + 1) x0).2.1 = x.2.1 + (x.2.2.next 4).1 + 1 ∧ (smpIt (k + 1) x0).2.2 = ((((x.2.2.next 4).2.next 40).2.next 12).2.next 2).2 := fun v hv => by
      rw [hstep, hv]; exact ⟨rfl, rfl, rfl⟩
    refine And.intro ⟨by decide, show inI .i64 ((((x.2.2.next 4).2.next 40).2.next 12).1.tdiv 10) from inI64 (by omega) (by omega)⟩ ?_
    conv => whnf
    refine CallC.k [(0, 0)] (next_fn (((x.2.2.next 4).2.next 40).2.next 12).2 2 (wk n3.2.1 (by omega))) rfl rfl (AVsle.refl _) ⟨MOle.refl _, trivial⟩ rfl ?_
    rcases hq01 with hq0 | hq0
    · rw [hq0]
      rw [hq0] at hrow
      refine And.intro (show inI .i64 (1 + ((((x.2.2.next 4).2.next 40).2.next 12).2.next 2).1) from inI64 (by omega) (by omega)) ?_
      rcases hd01 with hd | hd
      · rw [hd]
        rw [hd] at hrow
        obtain ⟨w1, w2, w3⟩ := hrow (((x.2.2.next 4).2.next 40).1 - 10) (by simp)
        refine And.intro (inI64 (by omega) (by omega)) ?_
        refine And.intro ⟨by decide, by decide⟩ ?_
        refine And.intro ⟨show (x.1.length + 1) * 16 ≤ 140737488355328 by omega, all1 rfl⟩ ?_
        refine And.intro (show inI .i64 (x.2.1 + (x.2.2.next 4).1 + 1) from inI64 (by omega) (by omega)) ?_
        refine And.intro (inI64 (by omega) (by omega)) ?_
        exact ⟨k + 1, hkM, by omega, [(0, 0), (8, 1)], rfl, rfl, ⟨AVle.refl _, AVle.of_eq (congrArg (AV.int .i64) w2.symm), AVle.refl _, AVle.of_eq (congrArg (AV.int .i64) (show (M : Int) - k - 1 = _ by omega)), trivial⟩, ⟨MOle.of_eq (show MO.box ((((x.2.2.next 4).2.next 40).2.next 12).2.next 2).2.row = _ by rw [w3]), arr_next (f := Smp.row) w1 rfl, trivial⟩⟩
      · rw [hd]
        rw [hd] at hrow
        obtain ⟨w1, w2, w3⟩ := hrow (((x.2.2.next 4).2.next 40).1 - 10) (by simp)
        refine And.intro (inI64 (by omega) (by omega)) ?_
        refine And.intro ⟨by decide, by decide⟩ ?_
        refine And.intro ⟨show (x.1.length + 1) * 16 ≤ 140737488355328 by omega, all1 rfl⟩ ?_
        refine And.intro (show inI .i64 (x.2.1 + (x.2.2.next 4).1 + 1) from inI64 (by omega) (by omega)) ?_
        refine And.intro (inI64 (by omega) (by omega)) ?_
        exact ⟨k + 1, hkM, by omega, [(0, 0), (8, 1)], rfl, rfl, ⟨AVle.refl _, AVle.of_eq (congrArg (AV.int .i64) w2.symm), AVle.refl _, AVle.of_eq (congrArg (AV.int .i64) (show (M : Int) - k - 1 = _ by omega)), trivial⟩, ⟨MOle.of_eq (show MO.box ((((x.2.2.next 4).2.next 40).2.next 12).2.next 2).2.row = _ by rw [w3]), arr_next (f := Smp.row) w1 rfl, trivial⟩⟩
    · rw [hq0]
      rw [hq0] at hrow
      refine And.intro (show inI .i64 (1 + ((((x.2.2.next 4).2.next 40).2.next 12).2.next 2).1) from inI64 (by omega) (by omega)) ?_
      rcases hd01 with hd | hd
      · rw [hd]
        rw [hd] at hrow
        obtain ⟨w1, w2, w3⟩ := hrow (1000000) (by simp)
        refine And.intro (inI64 (by omega) (by omega)) ?_
        refine And.intro ⟨by decide, by decide⟩ ?_
        refine And.intro ⟨show (x.1.length + 1) * 16 ≤ 140737488355328 by omega, all1 rfl⟩ ?_
        refine And.intro (show inI .i64 (x.2.1 + (x.2.2.next 4).1 + 1) from inI64 (by omega) (by omega)) ?_
        refine And.intro (inI64 (by omega) (by omega)) ?_
        exact ⟨k + 1, hkM, by omega, [(0, 0), (8, 1)], rfl, rfl, ⟨AVle.refl _, AVle.of_eq (congrArg (AV.int .i64) w2.symm), AVle.refl _, AVle.of_eq (congrArg (AV.int .i64) (show (M : Int) - k - 1 = _ by omega)), trivial⟩, ⟨MOle.of_eq (show MO.box ((((x.2.2.next 4).2.next 40).2.next 12).2.next 2).2.row = _ by rw [w3]), arr_next (f := Smp.row) w1 rfl, trivial⟩⟩
      · rw [hd]
        rw [hd] at hrow
        obtain ⟨w1, w2, w3⟩ := hrow (-1000000) (by simp)
        refine And.intro (inI64 (by omega) (by omega)) ?_
        refine And.intro ⟨by decide, by decide⟩ ?_
        refine And.intro ⟨show (x.1.length + 1) * 16 ≤ 140737488355328 by omega, all1 rfl⟩ ?_
        refine And.intro (show inI .i64 (x.2.1 + (x.2.2.next 4).1 + 1) from inI64 (by omega) (by omega)) ?_
        refine And.intro (inI64 (by omega) (by omega)) ?_
        exact ⟨k + 1, hkM, by omega, [(0, 0), (8, 1)], rfl, rfl, ⟨AVle.refl _, AVle.of_eq (congrArg (AV.int .i64) w2.symm), AVle.refl _, AVle.of_eq (congrArg (AV.int .i64) (show (M : Int) - k - 1 = _ by omega)), trivial⟩, ⟨MOle.of_eq (show MO.box ((((x.2.2.next 4).2.next 40).2.next 12).2.next 2).2.row = _ by rw [w3]), arr_next (f := Smp.row) w1 rfl, trivial⟩⟩
  · have : k = M := by have := of_decide_eq_false g1; omega
    subst this
    rw [hR2]
    exact And.intro trivial ⟨[(0, 0), (1, 1)], rfl, AVle.refl _, ⟨MOle.refl _, MOle.refl _, trivial⟩⟩
end Go.Proofs.YtopkjoalbinljaaDoor
