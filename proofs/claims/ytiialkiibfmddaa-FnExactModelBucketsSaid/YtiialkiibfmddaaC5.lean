/- What each function under laws.FnExactModelBuckets computes: contracts; the conditions are the theorems' own. -/
import Derived.Test.YtiialkiibfmddaaC3
import Derived.Test.YtiialkiibfmddaaV23
set_option linter.unusedVariables false
set_option linter.unusedSimpArgs false
set_option linter.unusedSectionVars false
namespace Go.Proofs.Ytiialkiibfmddaa
open Go Go.Vw

theorem isTier_fn (n : Int) : VFn Try.prog 47 [.int .i64 n] (.bool (within n 0 2)) := by
  refine VFn.intro Try.call47 Try.func47 rfl rfl ?_
  refine CallG.mk _ (callR_sca (within_fn _ _ _) rfl rfl) ?_
  exact And.intro trivial (AVle.refl _)
theorem l04Tier_fn (n : Int) : VFn Try.prog 45 [.int .i64 n] (.bool (within n 0 2)) := by
  refine VFn.intro Try.call45 Try.func45 rfl rfl ?_
  refine CallG.mk _ (callR_sca (l01In_fn _ _ _) rfl rfl) ?_
  exact And.intro trivial (AVle.refl _)
def width (t : Int) : Int := if t = 0 then 1 else if t = 1 then 5 else 20
theorem tier_cases {t : Int} (h : within t 0 2 = true) : t = 0 ∨ t = 1 ∨ t = 2 := by simp [within] at h; omega
theorem width_pos (t : Int) : 1 ≤ width t ∧ width t ≤ 20 := by unfold width; split <;> (try split) <;> omega
theorem width_fn (t : Int) (h : within t 0 2 = true) : VFn Try.prog 48 [.int .i64 t] (.int .i64 (width t)) := by
  rcases tier_cases h with rfl | rfl | rfl
  all_goals
    refine VFn.intro Try.call48 Try.func48 rfl rfl ?_
    refine And.intro (by decide) ?_
    exact And.intro trivial (AVle.refl _)
theorem l04Width_fn (t : Int) (h : within t 0 2 = true) : VFn Try.prog 46 [.int .i64 t] (.int .i64 (width t)) := by
  rcases tier_cases h with rfl | rfl | rfl
  all_goals
    refine VFn.intro Try.call46 Try.func46 rfl rfl ?_
    refine And.intro (by decide) ?_
    exact And.intro trivial (AVle.refl _)

def bkRow (p : Int × Ag) : List AV := [.int .i64 p.1, .int .i64 p.2.c, .int .i64 p.2.s, .int .i64 p.2.mn, .int .i64 p.2.mx, .int .i64 p.2.f, .int .i64 p.2.l]
def bkAt (L : List (Int × Ag)) (i : Nat) : Int × Ag := L.getD i (0, .zero)
abbrev bks (L : List (Int × Ag)) : AV := .sl 7 L.length fun i => bkRow (bkAt L i)

theorem bucketOf_no (t : Int) (a : Ag) (h : a.c = 0) : VFn Try.prog 38 [.int .i64 t, a.av] .nilsl := by
  refine VFn.intro Try.call38 Try.func38 rfl rfl ?_
  refine Grd.intro (fun h1 => ?_) (fun h1 => ?_)
  · exact And.intro trivial (AVle.refl _)
  · simp at h1; exact absurd h h1
theorem bucketOf_yes (t : Int) (a : Ag) (h : a.c ≠ 0) : VFn Try.prog 38 [.int .i64 t, a.av] (.sl 7 1 fun _ => bkRow (t, a)) := by
  refine VFn.intro Try.call38 Try.func38 rfl rfl ?_
  refine Grd.intro (fun h1 => ?_) (fun h1 => ?_)
  · simp at h1; exact absurd h1 h
  · exact And.intro trivial (AVle.sl1 rfl)

theorem eqBucket_fn (p : Int × Ag) : VFn Try.prog 49 [.agg (bkRow p), .agg (bkRow p)] (.bool true) := by
  refine VFn.intro Try.call49 Try.func49 rfl rfl ?_
  refine Grd.intro (fun h1 => absurd h1 (by simp)) (fun h1 => ?_)
  refine CallG.mk _ (callR_sca (eqAgg_fn p.2) rfl rfl) ?_
  exact And.intro trivial (AVle.refl _)
theorem eqBucketS_fn (L : List (Int × Ag)) (hn : L.length ≤ 1048576) : VFn Try.prog 21 [bks L, bks L] (.bool true) := by
  refine VFn.intro Try.call21 Try.func21 rfl rfl ?_
  refine Grd.intro (fun h1 => absurd h1 (by simp)) (fun h1 => ?_)
  refine LoopG.mk (fun i : Nat => i ≤ L.length) (fun i => [(0, bks L), (1, bks L), (5, .int .i64 i)]) (fun _ => []) 0 (fun i => L.length - i) 0
    ⟨Nat.zero_le _, [], rfl, rfl, ⟨AVle.refl _, AVle.refl _, AVle.refl _, trivial⟩, trivial⟩ ?_
  intro i hi
  refine Grd.intro (fun h2 => ?_) (fun h2 => ?_)
  · have hin : i < L.length := by simp at h2; omega
    refine DrawG.mk 10 rfl (by kernel_rfl) ?_
    refine And.intro (by omega) ?_
    refine And.intro (by omega) ?_
    refine PCallG.sca _ (eqBucket_fn (bkAt L i)) rfl ?_
    refine And.intro (inI64 (by omega) (by omega)) ?_
    exact ⟨i + 1, hin, by omega, [], rfl, rfl, ⟨AVle.refl _, AVle.refl _, AVle.of_eq (congrArg (AV.int .i64) (by simp)), trivial⟩, trivial⟩
  · exact And.intro trivial (AVle.refl _)

theorem markSampleS_fn (n : Nat) (rows : Nat → List AV) (hn : n ≤ 1048576) : FnM Try.prog 22 1 [.osl 0, .int .i64 1] [(0, .arr 50 2 n rows)] (.int .i64 (1 + 2 * n)) [] 1 := by
  refine FnM.intro Try.call22 Try.func22 rfl rfl ?_
  refine LoopG.mk (fun i : Nat × (Nat → List AV) => i.1 ≤ n) (fun i => [(0, .osl 0), (1, .int .i64 (1 + 2 * i.1)), (5, .int .i64 i.1)]) (fun i => [(0, .arr 50 2 n i.2)]) 1 (fun i => n - i.1) (0, rows)
    ⟨Nat.zero_le _, [(0, 0)], rfl, rfl, ⟨AVle.refl _, AVle.refl _, AVle.refl _, trivial⟩, ⟨MOle.refl _, trivial⟩⟩ ?_
  rintro ⟨i, rs⟩ hi
  have hi' : i ≤ n := hi
  refine Grd.intro (fun h2 => ?_) (fun h2 => ?_)
  · have hin : i < n := by simp at h2; omega
    refine And.intro (by dsimp only; omega) ?_
    refine And.intro (inI64 (by omega) (by omega)) ?_
    refine And.intro (by dsimp only; omega) ?_
    refine And.intro (inI64 (by omega) (by omega)) ?_
    refine And.intro (inI64 (by omega) (by omega)) ?_
    exact ⟨(i + 1, _), hin, by dsimp only; omega, [(0, 0)], rfl, rfl, ⟨AVle.refl _, AVle.of_eq (congrArg (AV.int .i64) (by dsimp only; omega)), AVle.of_eq (congrArg (AV.int .i64) (by dsimp only; omega)), trivial⟩, ⟨MOle.refl _, trivial⟩⟩
  · have : i = n := by simp at h2; omega
    subst this
    exact And.intro trivial ⟨[(0, 0)], rfl, AVle.refl _, trivial⟩

def mkRow (i : Nat) : List AV := [.int .i64 (1 + 7 * i), .int .i64 (2 + 7 * i), .int .i64 (3 + 7 * i), .int .i64 (4 + 7 * i), .int .i64 (5 + 7 * i), .int .i64 (6 + 7 * i), .int .i64 (7 + 7 * i)]
theorem heldBucketS_fn (n : Nat) (hn : n ≤ 1048576) : VFn Try.prog 24 [.sl 7 n mkRow, .int .i64 1] (.int .i64 (1 + 7 * n)) := by
  refine VFn.intro Try.call24 Try.func24 rfl rfl ?_
  refine LoopG.mk (fun i : Nat => i ≤ n) (fun i => [(0, .sl 7 n mkRow), (1, .int .i64 (1 + 7 * i)), (5, .int .i64 i)]) (fun _ => []) 0 (fun i => n - i) 0
    ⟨Nat.zero_le _, [], rfl, rfl, ⟨AVle.refl _, AVle.refl _, AVle.refl _, trivial⟩, trivial⟩ ?_
  intro i hi
  refine Grd.intro (fun h2 => ?_) (fun h2 => ?_)
  · have hin : i < n := by simp at h2; omega
    have ht : ((i : Int)).toNat = i := by omega
    refine And.intro (by omega) ?_
    refine Grd.intro (fun h3 => absurd h3 (by rw [ht]; simp)) (fun h3 => ?_)
    refine And.intro (inI64 (by omega) (by omega)) ?_
    refine And.intro (by omega) ?_
    refine Grd.intro (fun h3 => absurd h3 (by rw [ht]; simp; omega)) (fun h3 => ?_)
    refine And.intro (inI64 (by omega) (by omega)) ?_
    refine And.intro (by omega) ?_
    refine Grd.intro (fun h3 => absurd h3 (by rw [ht]; simp; omega)) (fun h3 => ?_)
    refine And.intro (inI64 (by omega) (by omega)) ?_
    refine And.intro (by omega) ?_
    refine Grd.intro (fun h3 => absurd h3 (by rw [ht]; simp; omega)) (fun h3 => ?_)
    refine And.intro (inI64 (by omega) (by omega)) ?_
    refine And.intro (by omega) ?_
    refine Grd.intro (fun h3 => absurd h3 (by rw [ht]; simp; omega)) (fun h3 => ?_)
    refine And.intro (inI64 (by omega) (by omega)) ?_
    refine And.intro (by omega) ?_
    refine Grd.intro (fun h3 => absurd h3 (by rw [ht]; simp; omega)) (fun h3 => ?_)
    refine And.intro (inI64 (by omega) (by omega)) ?_
    refine And.intro (by omega) ?_
    refine Grd.intro (fun h3 => absurd h3 (by rw [ht]; simp; omega)) (fun h3 => ?_)
    refine And.intro (inI64 (by omega) (by omega)) ?_
    refine And.intro (inI64 (by omega) (by omega)) ?_
    exact ⟨i + 1, hin, by omega, [], rfl, rfl, ⟨AVle.refl _, AVle.of_eq (congrArg (AV.int .i64) (by omega)), AVle.of_eq (congrArg (AV.int .i64) (by simp)), trivial⟩, trivial⟩
  · have : i = n := by simp at h2; omega
    subst this
    exact And.intro trivial (AVle.refl _)
end Go.Proofs.Ytiialkiibfmddaa
