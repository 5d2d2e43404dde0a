/- Means; aggregates' texts read back; laws.FnMean. The conditions are the theorems' own. -/
import Derived.Test.YtopkjoalbinljaaDoorGZ
import Derived.Test.YtopkjoalbinljaaDoorGV
import Derived.Test.YtopkjoalbinljaaDoorHA
set_option linter.unusedVariables false
set_option maxRecDepth 20000
namespace Go.Proofs.YtopkjoalbinljaaDoor
open Go Go.Vw

def mq (s c : Int) : Int := if s.tmod c < 0 then s.tdiv c - 1 else s.tdiv c
def mr (s c : Int) : Int := if s.tmod c < 0 then s.tmod c + c else s.tmod c
theorem tdm (s c : Int) (hc : 0 < c) : s.tdiv c * c + s.tmod c = s ∧ -c < s.tmod c ∧ s.tmod c < c ∧ (-(s.natAbs : Int) ≤ s.tdiv c ∧ s.tdiv c ≤ s.natAbs) := by
  have e : s.tdiv c * c + s.tmod c = s := by have := Int.mul_tdiv_add_tmod s c; rw [Int.mul_comm]; exact this
  rcases Int.lt_or_le s 0 with h | h
  · obtain ⟨u, rfl⟩ : ∃ u : Nat, s = -(u : Int) := ⟨s.natAbs, by omega⟩
    have h1 := tmod_b (n := (u : Int)) (m := c) (by omega) hc
    have h2 := tdiv_b (n := (u : Int)) (m := c) (by omega) hc
    rw [Int.neg_tmod, Int.neg_tdiv] at *
    refine ⟨e, by omega, by omega, by omega, by omega⟩
  · have h1 := tmod_b (n := s) (m := c) h hc
    have h2 := tdiv_b (n := s) (m := c) h hc
    refine ⟨e, by omega, by omega, by omega, by omega⟩
theorem mean_ok (s c : Int) (hc : 0 < c) : mq s c * c + mr s c = s ∧ 0 ≤ mr s c ∧ mr s c < c := by
  obtain ⟨h1, h2, h3, _⟩ := tdm s c hc
  unfold mq mr
  split
  · refine ⟨?_, by omega, by omega⟩
    rw [Int.sub_mul]; omega
  · exact ⟨h1, by omega, h3⟩
theorem Ag.c_b {a : Ag} (h : a.ok = true) : 0 ≤ a.c := by
  unfold Ag.ok Ag.nul Ag.some at h
  simp [within] at h
  omega
theorem MeanOf_fn (a : Ag) (h : a.ok = true) : VFn Tryd.prog 35 [a.av] (if a.c = 0 then .tup [.int .i64 0, .int .i64 0, .int .i64 5] else .tup [.int .i64 (mq a.s a.c), .int .i64 (mr a.s a.c), .int .i64 0]) := by
  have hb := Ag.bounds h
  have hc := Ag.c_b h
  refine VFn.introC Tryd.call35 Tryd.func35 rfl rfl ?_
  refine DrawC.mk 13 rfl (by kernel_rfl) ?_
  refine PCallC.sca _ (AggOK_fn a) rfl ?_
  refine PCallC.sca _ (first_of [(!a.ok, 1), (decide (a.c = 0), 5)] (n := 4) ⟨rfl, rfl, rfl, rfl, trivial⟩ rfl (show 2 ≤ 1000 by decide)) rfl ?_
  by_cases h0 : a.c = 0
  · rw [if_pos h0, show firstC [(!a.ok, 1), (decide (a.c = 0), 5)] = 5 by simp [firstC, h, h0]]
    exact And.intro trivial (AVle.refl _)
  · rw [if_neg h0, show firstC [(!a.ok, 1), (decide (a.c = 0), 5)] = 0 by simp [firstC, h, h0]]
    obtain ⟨e1, e2, e3, e4⟩ := tdm a.s a.c (by omega)
    have hs : (a.s.natAbs : Int) ≤ 100000000000 := by omega
    refine DrawC.mk 12 rfl (by kernel_rfl) ?_
    refine And.intro ⟨h0, show inI .i64 (a.s.tdiv a.c) from inI64 (by omega) (by omega)⟩ ?_
    refine And.intro h0 ?_
    refine Grd.intro (fun g => ?_) (fun g => ?_)
    · have g : a.s.tmod a.c < 0 := of_decide_eq_true g
      refine DrawC.mk 8 rfl (by kernel_rfl) ?_
      refine And.intro (show inI .i64 (a.s.tdiv a.c - 1) from inI64 (by omega) (by omega)) ?_
      refine And.intro (show inI .i64 (a.s.tmod a.c + a.c) from inI64 (by omega) (by omega)) ?_
      exact And.intro trivial (AVle.of_eq (show AV.tup [.int .i64 (a.s.tdiv a.c - 1), .int .i64 (a.s.tmod a.c + a.c), .int .i64 0] = _ by unfold mq mr; rw [if_pos g, if_pos g]))
    · have g : ¬ a.s.tmod a.c < 0 := of_decide_eq_false g
      exact And.intro trivial (AVle.of_eq (show AV.tup [.int .i64 (a.s.tdiv a.c), .int .i64 (a.s.tmod a.c), .int .i64 0] = _ by unfold mq mr; rw [if_neg g, if_neg g]))
theorem AggText_ok (a : Ag) (h : a.ok = true) : VFn Tryd.prog 36 [a.av] (.tup [.str (B (atext a)), .int .i64 0]) := by
  refine VFn.introC Tryd.call36 Tryd.func36 rfl rfl ?_
  conv => whnf
  refine CallC.sca _ (AggOK_fn a) ?_ ?_
  · exact rfl
  rw [h]
  conv => whnf
  refine CallC.sca _ (aggText_fn a h) ?_ ?_
  · exact rfl
  exact And.intro trivial (AVle.refl _)
theorem specAggText_ok (a : Ag) (h : a.ok = true) : VFn Tryd.prog 37 [a.av] (.tup [.str (B (atext a)), .int .i64 0]) := by
  refine VFn.introC Tryd.call37 Tryd.func37 rfl rfl ?_
  conv => whnf
  refine CallC.sca _ (specAggOK_fn a) ?_ ?_
  · exact rfl
  rw [h]
  conv => whnf
  refine CallC.sca _ (l02Text_fn a h) ?_ ?_
  · exact rfl
  exact And.intro trivial (AVle.refl _)
theorem nums_agg (a : Ag) (h : a.ok = true) : numsK 44 6 (atext a) = some a.six :=
  nums_back (c := 44) (by decide) (by decide) (by simp [Ag.six]) (fun n hn => by have := six_b h n hn; omega)
theorem readAgg_ok (a : Ag) (h : a.ok = true) : VFn Tryd.prog 85 [.str (B (atext a))] (.tup [a.av, .bool true]) := by
  have hl := atext_len h
  refine VFn.introC Tryd.call85 Tryd.func85 rfl rfl ?_
  conv => whnf
  refine CallC.nl _ (numbers_yes (atext a) 44 6 (by omega) (by decide) (nums_agg a h)) ?_ ?_
  · exact rfl
  refine DrawC.mk 20 rfl (by kernel_rfl) ?_
  iterate 6 (refine And.intro ⟨by decide, by show (_ : Int) < ((6 : Nat) : Int); decide⟩ ?_)
  refine DrawC.mk 3 rfl (by kernel_rfl) ?_
  refine PCallC.sca _ (AggOK_fn a) rfl ?_
  rw [h]
  exact And.intro trivial (AVle.refl _)
theorem ReadAgg_ok (a : Ag) (h : a.ok = true) : VFn Tryd.prog 38 [.str (B (atext a))] (.tup [a.av, .int .i64 0]) := by
  have hl := atext_len h
  refine VFn.introC Tryd.call38 Tryd.func38 rfl rfl ?_
  refine CallC.sca (.bool false) ((isLong_fn [atext a] (show 1 ≤ _ by decide)).weak (AVsle.cons (AVle.sl1 rfl) AVsle.nil) (AVle.of_eq ?_)) ?_ ?_
  · congr 1; simp; omega
  · exact rfl
  conv => whnf
  refine CallC.sca _ (readAgg_ok a h) ?_ ?_
  · exact rfl
  exact And.intro trivial (AVle.refl _)
theorem law_Mean (code : List UInt8) (hL : code.length ≤ 9223372036854775807) : VFn Tryd.prog 8 [byts code] (.bool true) := by
  refine VFn.introC Tryd.call8 Tryd.func8 rfl rfl ?_
  refine Grd.intro (fun g0 => ?_) (fun g0 => ?_)
  · exact And.intro trivial (AVle.refl _)
  have hl : code.length ≤ 1048576 := by have := of_decide_eq_false g0; omega
  have h := agg_ok code hl
  have hb := Ag.bounds h
  have hc := Ag.c_b h
  conv => whnf
  refine CallC.sca _ (AggDrawn_fn code hl) ?_ ?_
  · exact rfl
  generalize (srcOf code).agg = a at h hb hc
  have hM := MeanOf_fn a h
  by_cases h0 : a.c = 0
  · rw [if_pos h0] at hM
    conv => whnf
    refine CallC.sca _ (hM) ?_ ?_
    · exact rfl
    conv => whnf
    refine CallC.sca _ (AggText_ok a h) ?_ ?_
    · exact rfl
    conv => whnf
    refine CallC.sca _ (specAggText_ok a h) ?_ ?_
    · exact rfl
    conv => whnf
    refine CallC.sca _ (ReadAgg_ok a h) ?_ ?_
    · exact rfl
    refine Grd.intro (fun h2 => absurd h2 (by simp)) (fun _ => ?_)
    refine And.intro (by kernel_rfl) ?_
    refine Grd.intro (fun h2 => absurd h2 (by simp)) (fun _ => ?_)
    refine Grd.intro (fun _ => ?_) (fun g => absurd h0 (of_decide_eq_false g))
    exact And.intro trivial (AVle.refl _)
  · rw [if_neg h0] at hM
    obtain ⟨e1, e2, e3⟩ := mean_ok a.s a.c (by omega)
    conv => whnf
    refine CallC.sca _ (hM) ?_ ?_
    · exact rfl
    conv => whnf
    refine CallC.sca _ (AggText_ok a h) ?_ ?_
    · exact rfl
    conv => whnf
    refine CallC.sca _ (specAggText_ok a h) ?_ ?_
    · exact rfl
    conv => whnf
    refine CallC.sca _ (ReadAgg_ok a h) ?_ ?_
    · exact rfl
    refine Grd.intro (fun h2 => absurd h2 (by simp)) (fun _ => ?_)
    refine And.intro (by kernel_rfl) ?_
    refine Grd.intro (fun h2 => absurd h2 (by simp)) (fun _ => ?_)
    refine Grd.intro (fun g => absurd (of_decide_eq_true g) h0) (fun _ => ?_)
    refine And.intro (show inI .i64 (mq a.s a.c * a.c) from inI64 (by omega) (by omega)) ?_
    refine And.intro (show inI .i64 (mq a.s a.c * a.c + mr a.s a.c) from inI64 (by omega) (by omega)) ?_
    refine Grd.intro (fun _ => ?_) (fun g => absurd e1 (of_decide_eq_false (show decide (mq a.s a.c * a.c + mr a.s a.c = a.s) = false from g)))
    refine Grd.intro (fun _ => ?_) (fun g => absurd e2 (of_decide_eq_false (show decide (0 ≤ mr a.s a.c) = false from g)))
    exact And.intro trivial (AVle.of_eq (congrArg AV.bool (show decide (mr a.s a.c < a.c) = true from decide_eq_true e3)))
end Go.Proofs.YtopkjoalbinljaaDoor
