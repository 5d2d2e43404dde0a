/- What each function under laws.FnExactModelBuckets computes, second part: contracts; the conditions are the theorems' own. -/
import Derived.Test.YtiialkiibfmddaaC5
set_option linter.unusedVariables false
set_option linter.unusedSimpArgs false
set_option linter.unusedSectionVars false
namespace Go.Proofs.Ytiialkiibfmddaa
open Go Go.Vw

theorem markBucketS_fn (L : List (Int × Ag)) (hn : L.length ≤ 1048576) (e : Nat) :
    FnM Try.prog 23 1 [.osl 0, .int .i64 1] [(0, .arr e 7 L.length fun i => bkRow (bkAt L i))] (.int .i64 (1 + 7 * L.length)) [(0, .arr e 7 L.length mkRow)] 1 := by
  refine FnM.intro Try.call23 Try.func23 rfl rfl ?_
  refine LoopG.mk (fun i : Nat => i ≤ L.length) (fun i => [(0, .osl 0), (1, .int .i64 (1 + 7 * i)), (5, .int .i64 i)]) (fun i => [(0, .arr e 7 L.length (wr mkRow (fun i => bkRow (bkAt L i)) i))]) 1 (fun i => L.length - i) 0
    ⟨Nat.zero_le _, [(0, 0)], rfl, rfl, ⟨AVle.refl _, AVle.refl _, AVle.refl _, trivial⟩, ⟨MOle.arr rfl fun k hk => (by rw [wr_ge (Nat.zero_le k)]), trivial⟩⟩ ?_
  intro i hi
  refine Grd.intro (fun h2 => ?_) (fun h2 => ?_)
  · have hin : i < L.length := by simp at h2; omega
    have ht : ((i : Int)).toNat = i := by omega
    iterate 7
      refine And.intro (by omega) ?_
      refine And.intro (inI64 (by omega) (by omega)) ?_
    refine And.intro (inI64 (by omega) (by omega)) ?_
    refine ⟨i + 1, hin, by omega, [(0, 0)], rfl, rfl, ⟨AVle.refl _, AVle.of_eq (congrArg (AV.int .i64) (by omega)), AVle.of_eq (congrArg (AV.int .i64) (by simp)), trivial⟩, ⟨MOle.arr rfl fun k hk => ?_, trivial⟩⟩
    dsimp only
    by_cases he : k = i
    · subst he
      rw [wr_lt (Nat.lt_succ_self k)]
      simp only [ht, beq_t, cond_true, wr_ge (Nat.le_refl k)]
      simp [bkRow, mkRow]; omega
    · simp only [ht, beq_f he, cond_false]
      rcases Nat.lt_or_ge k i with h' | h'
      · rw [wr_lt h', wr_lt (show k < i + 1 by omega)]
      · rw [wr_ge h', wr_ge (show i + 1 ≤ k by omega)]
  · have : i = L.length := by simp at h2; omega
    subst this
    exact And.intro trivial ⟨[(0, 0)], rfl, AVle.refl _, ⟨MOle.arr rfl fun k hk => (wr_lt hk), trivial⟩⟩

theorem toSampleS_own (T V : Nat → Int) (n : Nat) (hn : n ≤ 1048576) : FnM Try.prog 8 0 [smp T V n] [] (.osl 0) [(0, .arr 50 2 n (smpRow T V))] 1 := by
  refine FnM.intro Try.call8 Try.func8 rfl rfl ?_
  have h16 : (16 : Int) * n ≤ 140737488355328 := by omega
  refine And.intro ⟨by omega, rfl, h16, by omega⟩ ?_
  refine LoopG.mk (fun i : Nat => i ≤ n) (fun i => [(0, smp T V n), (3, .osl 0), (4, .int .i64 i)])
    (fun i => [(0, .arr 50 2 n (wr (smpRow T V) (fun _ => [.int .i64 0, .int .i64 0]) i))]) 1 (fun i => n - i) 0
    ⟨Nat.zero_le _, [(0, 0)], rfl, rfl, ⟨AVle.refl _, AVle.refl _, AVle.refl _, trivial⟩, ⟨MOle.arr rfl fun i hi => by rw [wr_ge (Nat.zero_le i)], trivial⟩⟩ ?_
  intro i hi
  refine Grd.intro (fun h2 => ?_) (fun h2 => ?_)
  · have hin : i < n := by simp at h2; omega
    refine And.intro (by omega) ?_
    refine CallG.mk _ (callR_sca (toSample_fn _ _) rfl rfl) ?_
    refine And.intro (by omega) ?_
    refine And.intro (inI64 (by omega) (by omega)) ?_
    exact ⟨i + 1, hin, by omega, [(0, 0)], rfl, rfl, ⟨AVle.refl _, AVle.refl _, AVle.of_eq (congrArg (AV.int .i64) (by simp)), trivial⟩, ⟨MOle.arr rfl fun k hk => wr_next fun e => by subst e; rw [wr_ge (Nat.le_refl _)]; rfl, trivial⟩⟩
  · have : i = n := by simp at h2; omega
    subst this
    exact And.intro trivial ⟨[(0, 0)], rfl, AVle.refl _, ⟨MOle.arr rfl fun k hk => wr_lt hk, trivial⟩⟩

theorem first1_fn (b1 : Bool) (c1 : Int) (rows : Nat → List AV) (h0 : rows 0 = [.iface 4 (.bool b1)]) (h1 : rows 1 = [.iface 3 (.int .i64 c1)]) :
    VFn Try.prog 34 [.sl 1 2 rows] (.int .i64 (bif b1 then c1 else 0)) := by
  have key : VFn Try.prog 34 [.sl 1 2 (fun | 0 => [.iface 4 (.bool b1)] | 1 => [.iface 3 (.int .i64 c1)] | _ => [])] (.int .i64 (bif b1 then c1 else 0)) := by
    refine VFn.intro Try.call34 Try.func34 rfl rfl ?_
    refine LoopG.rounds 2 ?_
    refine And.intro (inI64 (by decide) (by decide)) ?_
    refine And.intro (by decide) ?_
    refine Grd.intro (fun h1 => ?_) (fun h1 => ?_)
    · refine And.intro (inI64 (by decide) (by decide)) ?_
      refine And.intro (by decide) ?_
      exact And.intro trivial (AVle.of_eq (congrArg (AV.int .i64) (by simp [h1])))
    · refine And.intro (inI64 (by decide) (by decide)) ?_
      refine And.intro (inI64 (by decide) (by decide)) ?_
      exact And.intro trivial (AVle.of_eq (congrArg (AV.int .i64) (by simp [h1])))
  refine key.weak (AVsle.cons (AVle.sl rfl fun i hi => ?_) AVsle.nil) (AVle.refl _)
  match i, hi with
  | 0, _ => exact h0
  | 1, _ => exact h1
  | i + 2, h => omega
end Go.Proofs.Ytiialkiibfmddaa
