/- What each function under laws.FnExactModelFold computes, for all samples: contracts; the conditions are the theorems' own. -/
import Derived.Test.YtiialkiibfmddaaV21
import Derived.Test.YtiialkiibfmddaaProg
set_option linter.unusedVariables false
set_option linter.unusedSimpArgs false
set_option linter.unusedSectionVars false
namespace Go.Proofs.Ytiialkiibfmddaa
open Go Go.Vw
def within (n lo hi : Int) : Bool := decide (lo ≤ n) && decide (n ≤ hi)
def isRange (a b : Int) : Bool := decide (0 ≤ a) && (decide (a ≤ b) && decide (b ≤ 100000))

theorem within_fn (n lo hi : Int) : VFn Try.prog 54 [.int .i64 n, .int .i64 lo, .int .i64 hi] (.bool (within n lo hi)) := by
  refine VFn.intro Try.call54 Try.func54 rfl rfl ?_
  refine Grd.intro (fun h1 => ?_) (fun h1 => ?_)
  · refine And.intro trivial (AVle.of_eq (congrArg AV.bool ?_))
    simp_all [within]
  · refine And.intro trivial (AVle.of_eq (congrArg AV.bool ?_))
    simp_all [within]; omega
theorem l01In_fn (n lo hi : Int) : VFn Try.prog 50 [.int .i64 n, .int .i64 lo, .int .i64 hi] (.bool (within n lo hi)) := by
  refine VFn.intro Try.call50 Try.func50 rfl rfl ?_
  refine Grd.intro (fun h1 => ?_) (fun h1 => ?_)
  · refine And.intro trivial (AVle.of_eq (congrArg AV.bool ?_))
    simp_all [within]
  · refine And.intro trivial (AVle.of_eq (congrArg AV.bool ?_))
    simp_all [within]; omega
theorem isMoment_fn (n : Int) : VFn Try.prog 56 [.int .i64 n] (.bool (within n 0 99999)) := by
  refine VFn.intro Try.call56 Try.func56 rfl rfl ?_
  refine CallG.mk _ (callR_sca (within_fn _ _ _) rfl rfl) ?_
  exact And.intro trivial (AVle.refl _)
theorem isValue_fn (n : Int) : VFn Try.prog 57 [.int .i64 n] (.bool (within n (-1000000) 1000000)) := by
  refine VFn.intro Try.call57 Try.func57 rfl rfl ?_
  refine CallG.mk _ (callR_sca (within_fn _ _ _) rfl rfl) ?_
  exact And.intro trivial (AVle.refl _)
theorem isRange_fn (a b : Int) : VFn Try.prog 37 [.int .i64 a, .int .i64 b] (.bool (isRange a b)) := by
  refine VFn.intro Try.call37 Try.func37 rfl rfl ?_
  refine Grd.intro (fun h1 => ?_) (fun h1 => ?_)
  · refine Grd.intro (fun h2 => ?_) (fun h2 => ?_)
    · exact And.intro trivial (AVle.of_eq (congrArg AV.bool (by simp_all [isRange])))
    · exact And.intro trivial (AVle.of_eq (congrArg AV.bool (by simp_all [isRange]; omega)))
  · exact And.intro trivial (AVle.of_eq (congrArg AV.bool (by simp_all [isRange]; omega)))
theorem l04Range_fn (a b : Int) : VFn Try.prog 40 [.int .i64 a, .int .i64 b] (.bool (isRange a b)) := by
  refine VFn.intro Try.call40 Try.func40 rfl rfl ?_
  refine CallG.mk _ (callR_sca (l01In_fn _ _ _) rfl rfl) ?_
  refine Grd.intro (fun h1 => ?_) (fun h1 => ?_)
  · refine CallG.mk _ (callR_sca (l01In_fn _ _ _) rfl rfl) ?_
    exact And.intro trivial (AVle.of_eq (congrArg AV.bool (by simp_all [isRange, within])))
  · exact And.intro trivial (AVle.of_eq (congrArg AV.bool (by simp_all [isRange, within]; omega)))

theorem isLong_fn (n : Nat) (rows : Nat → List AV) (sz : Nat) : VFn Try.prog 35 [.sl sz n rows] (.bool (decide (4096 < (n:Int)))) := by
  refine VFn.intro Try.call35 Try.func35 rfl rfl ?_
  exact And.intro trivial (AVle.refl _)

theorem first3_fn (b1 b2 b3 : Bool) (c1 c2 c3 : Int) (rows : Nat → List AV) (h0 : rows 0 = [.iface 4 (.bool b1)]) (h1 : rows 1 = [.iface 3 (.int .i64 c1)]) (h2 : rows 2 = [.iface 4 (.bool b2)])
    (h3 : rows 3 = [.iface 3 (.int .i64 c2)]) (h4 : rows 4 = [.iface 4 (.bool b3)]) (h5 : rows 5 = [.iface 3 (.int .i64 c3)]) :
    VFn Try.prog 34 [.sl 1 6 rows] (.int .i64 (bif b1 then c1 else bif b2 then c2 else bif b3 then c3 else 0)) := by
  have key : VFn Try.prog 34 [.sl 1 6 (fun | 0 => [.iface 4 (.bool b1)] | 1 => [.iface 3 (.int .i64 c1)] | 2 => [.iface 4 (.bool b2)] | 3 => [.iface 3 (.int .i64 c2)] | 4 => [.iface 4 (.bool b3)] | 5 => [.iface 3 (.int .i64 c3)] | _ => [])]
      (.int .i64 (bif b1 then c1 else bif b2 then c2 else bif b3 then c3 else 0)) := by
    refine VFn.intro Try.call34 Try.func34 rfl rfl ?_
    refine LoopG.rounds 4 ?_
    refine And.intro (inI64 (by decide) (by decide)) ?_
    refine And.intro (by decide) ?_
    refine Grd.intro (fun h1 => ?_) (fun h1 => ?_)
    · refine And.intro (inI64 (by decide) (by decide)) ?_
      refine And.intro (by decide) ?_
      exact And.intro trivial (AVle.of_eq (congrArg (AV.int .i64) (by simp [h1])))
    · refine And.intro (inI64 (by decide) (by decide)) ?_
      refine And.intro (inI64 (by decide) (by decide)) ?_
      refine And.intro (by decide) ?_
      refine Grd.intro (fun h2 => ?_) (fun h2 => ?_)
      · refine And.intro (inI64 (by decide) (by decide)) ?_
        refine And.intro (by decide) ?_
        exact And.intro trivial (AVle.of_eq (congrArg (AV.int .i64) (by simp [h1, h2])))
      · refine And.intro (inI64 (by decide) (by decide)) ?_
        refine And.intro (inI64 (by decide) (by decide)) ?_
        refine And.intro (by decide) ?_
        refine Grd.intro (fun h3 => ?_) (fun h3 => ?_)
        · refine And.intro (inI64 (by decide) (by decide)) ?_
          refine And.intro (by decide) ?_
          exact And.intro trivial (AVle.of_eq (congrArg (AV.int .i64) (by simp [h1, h2, h3])))
        · refine And.intro (inI64 (by decide) (by decide)) ?_
          refine And.intro (inI64 (by decide) (by decide)) ?_
          exact And.intro trivial (AVle.of_eq (congrArg (AV.int .i64) (by simp [h1, h2, h3])))
  refine key.weak (AVsle.cons (AVle.sl rfl fun i hi => ?_) AVsle.nil) (AVle.refl _)
  match i, hi with
  | 0, _ => exact h0
  | 1, _ => exact h1
  | 2, _ => exact h2
  | 3, _ => exact h3
  | 4, _ => exact h4
  | 5, _ => exact h5
  | i + 6, h => omega

abbrev smp (T V : Nat → Int) (n : Nat) : AV := .sl 2 n fun i => [.int .i64 (T i), .int .i64 (V i)]
def good1 (t v : Int) : Bool := within t 0 99999 && within v (-1000000) 1000000
theorem l02Sample_fn (t v : Int) : VFn Try.prog 58 [.agg [.int .i64 t, .int .i64 v]] (.bool (good1 t v)) := by
  refine VFn.intro Try.call58 Try.func58 rfl rfl ?_
  refine CallG.mk _ (callR_sca (l01In_fn _ _ _) rfl rfl) ?_
  refine Grd.intro (fun h1 => ?_) (fun h1 => ?_)
  · refine CallG.mk _ (callR_sca (l01In_fn _ _ _) rfl rfl) ?_
    exact And.intro trivial (AVle.of_eq (congrArg AV.bool (by simp_all [good1])))
  · exact And.intro trivial (AVle.of_eq (congrArg AV.bool (by simp_all [good1])))

def good (T V : Nat → Int) (i : Nat) : Bool := good1 (T i) (V i) && (decide (i = 0) || decide (T (i - 1) < T i))
def samplesOK (T V : Nat → Int) (n : Nat) : Bool := decide (n ≤ 4096) && (List.range n).all (good T V)

theorem ok_false {T V : Nat → Int} {n i : Nat} (hi : i < n) (h : good T V i = false) : samplesOK T V n = false := by
  unfold samplesOK
  rw [Bool.and_eq_false_iff]; right
  rw [List.all_eq_false]
  exact ⟨i, List.mem_range.2 hi, by simp [h]⟩
theorem ok_true {T V : Nat → Int} {n : Nat} (hn : n ≤ 4096) (h : ∀ i, i < n → good T V i = true) : samplesOK T V n = true := by
  unfold samplesOK
  simp only [Bool.and_eq_true, decide_eq_true_eq, List.all_eq_true, List.mem_range]
  exact ⟨hn, h⟩

theorem SamplesOK_fn (T V : Nat → Int) (n : Nat) : VFn Try.prog 36 [smp T V n] (.bool (samplesOK T V n)) := by
  refine VFn.intro Try.call36 Try.func36 rfl rfl ?_
  refine CallG.mk _ (callR_sca (isLong_fn _ _ _) rfl rfl) ?_
  refine Grd.intro (fun h1 => ?_) (fun h1 => ?_)
  · exact And.intro trivial (AVle.of_eq (congrArg AV.bool (by simp_all [samplesOK]; omega)))
  · have hn : n ≤ 4096 := by simp at h1; omega
    refine LoopG.mk (fun i : Nat => i ≤ n ∧ ∀ j, j < i → good T V j = true) (fun i => [(0, smp T V n), (7, smp T V n), (8, .int .i64 n), (9, .int .i64 i)]) (fun _ => []) 0 (fun i => n - i) 0
      ⟨⟨Nat.zero_le _, fun j hj => by omega⟩, [], rfl, rfl, ⟨AVle.refl _, AVle.refl _, AVle.refl _, AVle.refl _, trivial⟩, trivial⟩ ?_
    rintro i ⟨hi, hg⟩
    refine Grd.intro (fun h2 => ?_) (fun h2 => ?_)
    · refine And.intro (by simp at h2; omega) ?_
      refine DrawG.mk 25 rfl (by kernel_rfl) ?_
      have hin : i < n := by simp at h2; omega
      have hbad : good T V i = false → (AV.bool false) = .bool (samplesOK T V n) := fun h => congrArg AV.bool (ok_false hin h).symm
      have next : good T V i = true → ∀ j, j < i + 1 → good T V j = true := fun h j hj => by
        by_cases e : j = i
        · subst e; exact h
        · exact hg j (by omega)
      have hbk : ((i : Int) - 1).toNat = i - 1 := by omega
      refine PCallG.sca _ (isMoment_fn _) rfl ?_
      refine Grd.intro (fun a1 => ?_) (fun a1 => ?_)
      · exact And.intro trivial (AVle.of_eq (hbad (by simp at a1; simp [good, good1, a1])))
      · refine PCallG.sca _ (isValue_fn _) rfl ?_
        refine Grd.intro (fun a2 => ?_) (fun a2 => ?_)
        · exact And.intro trivial (AVle.of_eq (hbad (by simp at a2; simp [good, good1, a2])))
        · refine Grd.intro (fun a3 => ?_) (fun a3 => ?_)
          · simp at a3
            refine And.intro (inI64 (by omega) (by omega)) ?_
            refine And.intro (by omega) ?_
            refine Grd.intro (fun a4 => ?_) (fun a4 => ?_)
            · rw [hbk] at a4
              exact And.intro trivial (AVle.of_eq (hbad (by simp at a4; simp [good, a4]; omega)))
            · rw [hbk] at a4
              refine And.intro (inI64 (by omega) (by omega)) ?_
              exact ⟨i + 1, ⟨hin, next (by simp at a1 a2 a4; simp [good, good1, a1, a2, a4])⟩, by omega, [], rfl, rfl, ⟨AVle.refl _, AVle.refl _, AVle.refl _, AVle.of_eq (congrArg (AV.int .i64) (by simp)), trivial⟩, trivial⟩
          · simp at a3
            refine And.intro (inI64 (by omega) (by omega)) ?_
            exact ⟨i + 1, ⟨hin, next (by subst a3; simp at a1 a2; simp [good, good1, a1, a2])⟩, by omega, [], rfl, rfl, ⟨AVle.refl _, AVle.refl _, AVle.refl _, AVle.of_eq (congrArg (AV.int .i64) (by simp)), trivial⟩, trivial⟩
    · have : i = n := by simp at h2; omega
      subst this
      exact And.intro trivial (AVle.of_eq (congrArg AV.bool (ok_true hn hg).symm))

theorem specSamplesOK_fn (T V : Nat → Int) (n : Nat) : VFn Try.prog 39 [smp T V n] (.bool (samplesOK T V n)) := by
  refine VFn.intro Try.call39 Try.func39 rfl rfl ?_
  refine Grd.intro (fun h1 => ?_) (fun h1 => ?_)
  · exact And.intro trivial (AVle.of_eq (congrArg AV.bool (by simp_all [samplesOK]; omega)))
  · have hn : n ≤ 4096 := by simp at h1; omega
    refine LoopG.mk (fun i : Nat => i ≤ n ∧ ∀ j, j < i → good T V j = true) (fun i => [(0, smp T V n), (3, .int .i64 i)]) (fun _ => []) 0 (fun i => n - i) 0
      ⟨⟨Nat.zero_le _, fun j hj => by omega⟩, [], rfl, rfl, ⟨AVle.refl _, AVle.refl _, trivial⟩, trivial⟩ ?_
    rintro i ⟨hi, hg⟩
    refine Grd.intro (fun h2 => ?_) (fun h2 => ?_)
    · refine DrawG.mk 24 rfl (by kernel_rfl) ?_
      have hin : i < n := by simp at h2; omega
      have hbad : good T V i = false → (AV.bool false) = .bool (samplesOK T V n) := fun h => congrArg AV.bool (ok_false hin h).symm
      have next : good T V i = true → ∀ j, j < i + 1 → good T V j = true := fun h j hj => by
        by_cases e : j = i
        · subst e; exact h
        · exact hg j (by omega)
      have hbk : ((i : Int) - 1).toNat = i - 1 := by omega
      refine And.intro (by simp at h2; omega) ?_
      refine PCallG.sca _ (l02Sample_fn _ _) rfl ?_
      refine Grd.intro (fun a1 => ?_) (fun a1 => ?_)
      · exact And.intro trivial (AVle.of_eq (hbad (by simp at a1; simp [good, a1])))
      · refine Grd.intro (fun a3 => ?_) (fun a3 => ?_)
        · simp at a3
          refine And.intro (inI64 (by omega) (by omega)) ?_
          refine And.intro (by omega) ?_
          refine And.intro (by omega) ?_
          refine Grd.intro (fun a4 => ?_) (fun a4 => ?_)
          · rw [hbk] at a4
            exact And.intro trivial (AVle.of_eq (hbad (by simp at a4; simp [good, a4]; omega)))
          · rw [hbk] at a4
            refine And.intro (inI64 (by omega) (by omega)) ?_
            exact ⟨i + 1, ⟨hin, next (by simp at a1 a4; simp [good, a1, a4])⟩, by omega, [], rfl, rfl, ⟨AVle.refl _, AVle.of_eq (congrArg (AV.int .i64) (by simp)), trivial⟩, trivial⟩
        · simp at a3
          refine And.intro (inI64 (by omega) (by omega)) ?_
          exact ⟨i + 1, ⟨hin, next (by subst a3; simp at a1; simp [good, a1])⟩, by omega, [], rfl, rfl, ⟨AVle.refl _, AVle.of_eq (congrArg (AV.int .i64) (by simp)), trivial⟩, trivial⟩
    · have : i = n := by simp at h2; omega
      subst this
      exact And.intro trivial (AVle.of_eq (congrArg AV.bool (ok_true hn hg).symm))

def code (T V : Nat → Int) (n : Nat) (a b : Int) : Int := if 4096 < n then 2 else if samplesOK T V n then (if isRange a b then 0 else 4) else 1
theorem modelCode_fn (T V : Nat → Int) (n : Nat) (a b : Int) : VFn Try.prog 28 [smp T V n, .int .i64 a, .int .i64 b] (.int .i64 (code T V n a b)) := by
  refine VFn.intro Try.call28 Try.func28 rfl rfl ?_
  refine CallG.mk _ (callR_sca (isLong_fn _ _ _) rfl rfl) ?_
  refine CallG.mk _ (callR_sca (SamplesOK_fn _ _ _) rfl rfl) ?_
  refine CallG.mk _ (callR_sca (isRange_fn _ _) rfl rfl) ?_
  refine CallG.mk _ (callR_sca (first3_fn (decide (4096 < (n : Int))) (!samplesOK T V n) (!isRange a b) 2 1 4 _ (by kernel_rfl) (by kernel_rfl) (by kernel_rfl) (by kernel_rfl) (by kernel_rfl) (by kernel_rfl)) rfl rfl) ?_
  refine And.intro trivial (AVle.of_eq (congrArg (AV.int .i64) ?_))
  unfold code
  by_cases h : 4096 < n
  · have e : decide (4096 < (n : Int)) = true := by simp; omega
    simp [e, h]
  · have e : decide (4096 < (n : Int)) = false := by simp; omega
    cases h1 : samplesOK T V n <;> cases h2 : isRange a b <;> simp [e, h]
theorem l13Ask_fn (T V : Nat → Int) (n : Nat) (a b : Int) : VFn Try.prog 25 [smp T V n, .int .i64 a, .int .i64 b] (.int .i64 (code T V n a b)) := by
  refine VFn.intro Try.call25 Try.func25 rfl rfl ?_
  refine Grd.intro (fun h1 => ?_) (fun h1 => ?_)
  · exact And.intro trivial (AVle.of_eq (congrArg (AV.int .i64) (by simp at h1; simp [code]; omega)))
  · refine CallG.mk _ (callR_sca (specSamplesOK_fn _ _ _) rfl rfl) ?_
    refine Grd.intro (fun h2 => ?_) (fun h2 => ?_)
    · exact And.intro trivial (AVle.of_eq (congrArg (AV.int .i64) (by simp at h1 h2; simp [code, h2]; omega)))
    · refine CallG.mk _ (callR_sca (l04Range_fn _ _) rfl rfl) ?_
      refine Grd.intro (fun h3 => ?_) (fun h3 => ?_)
      · exact And.intro trivial (AVle.of_eq (congrArg (AV.int .i64) (by simp at h1 h2 h3; simp [code, h2, h3]; omega)))
      · exact And.intro trivial (AVle.of_eq (congrArg (AV.int .i64) (by simp at h1 h2 h3; simp [code, h2, h3]; omega)))
structure Ag where
  c : Int
  s : Int
  mn : Int
  mx : Int
  f : Int
  l : Int
def Ag.av (a : Ag) : AV := .agg [.int .i64 a.c, .int .i64 a.s, .int .i64 a.mn, .int .i64 a.mx, .int .i64 a.f, .int .i64 a.l]
def Ag.zero : Ag := ⟨0, 0, 0, 0, 0, 0⟩
def Ag.one (v : Int) : Ag := ⟨1, v, v, v, v, v⟩
def merge (a b : Ag) : Ag := if a.c = 0 then b else if b.c = 0 then a else ⟨a.c + b.c, a.s + b.s, if b.mn < a.mn then b.mn else a.mn, if b.mx > a.mx then b.mx else a.mx, a.f, b.l⟩

theorem merged_fn (a b : Ag) (h1 : inI .i64 (a.c + b.c)) (h2 : inI .i64 (a.s + b.s)) : VFn Try.prog 53 [a.av, b.av] (merge a b).av := by
  refine VFn.intro Try.call53 Try.func53 rfl rfl ?_
  refine Grd.intro (fun e1 => ?_) (fun e1 => ?_)
  · exact And.intro trivial (AVle.of_eq (show b.av = (merge a b).av by simp at e1; simp [merge, e1]))
  · refine Grd.intro (fun e2 => ?_) (fun e2 => ?_)
    · exact And.intro trivial (AVle.of_eq (show a.av = (merge a b).av by simp at e1 e2; simp [merge, e1, e2]))
    · refine And.intro h1 (And.intro h2 ?_)
      exact And.intro trivial (AVle.of_eq (show Ag.av ⟨a.c + b.c, a.s + b.s, if b.mn < a.mn then b.mn else a.mn, if b.mx > a.mx then b.mx else a.mx, a.f, b.l⟩ = (merge a b).av by simp at e1 e2; simp [merge, e1, e2]))
theorem l02Merge_fn (a b : Ag) (h1 : inI .i64 (a.c + b.c)) (h2 : inI .i64 (a.s + b.s)) : VFn Try.prog 51 [a.av, b.av] (merge a b).av := by
  refine VFn.intro Try.call51 Try.func51 rfl rfl ?_
  refine Grd.intro (fun e1 => ?_) (fun e1 => ?_)
  · exact And.intro trivial (AVle.of_eq (show b.av = (merge a b).av by simp at e1; simp [merge, e1]))
  · refine Grd.intro (fun e2 => ?_) (fun e2 => ?_)
    · exact And.intro trivial (AVle.of_eq (show a.av = (merge a b).av by simp at e1 e2; simp [merge, e1, e2]))
    · refine And.intro h1 (And.intro h2 ?_)
      exact And.intro trivial (AVle.of_eq (show Ag.av ⟨a.c + b.c, a.s + b.s, if b.mn < a.mn then b.mn else a.mn, if b.mx > a.mx then b.mx else a.mx, a.f, b.l⟩ = (merge a b).av by simp at e1 e2; simp [merge, e1, e2]))

def foldA (V : Nat → Int) : Nat → Ag
  | 0 => .zero
  | n + 1 => merge (foldA V n) (.one (V n))
def small (V : Nat → Int) (n : Nat) : Prop := ∀ i, i < n → -1000000 ≤ V i ∧ V i ≤ 1000000
theorem foldA_b {V : Nat → Int} : ∀ {n : Nat}, small V n → (foldA V n).c = n ∧ -(1000000 * n) ≤ (foldA V n).s ∧ (foldA V n).s ≤ 1000000 * n
  | 0, _ => by simp [foldA, Ag.zero]
  | n + 1, h => by
    obtain ⟨h1, h2, h3⟩ := foldA_b (n := n) fun i hi => h i (by omega)
    have hv := h n (by omega)
    unfold foldA merge
    by_cases e : (foldA V n).c = 0
    · have : n = 0 := by omega
      subst this
      simp [e, Ag.one]; omega
    · simp [e, Ag.one]; omega

theorem aggOf_fn (T V : Nat → Int) (n : Nat) (hn : n ≤ 4096) (hs : small V n) : VFn Try.prog 29 [smp T V n] (foldA V n).av := by
  refine VFn.intro Try.call29 Try.func29 rfl rfl ?_
  refine LoopG.mk (fun i : Nat => i ≤ n) (fun i => [(2, .bptr 0 0), (3, .bptr 1 0), (7, smp T V n), (8, .int .i64 n), (9, .int .i64 i)])
    (fun i => [(0, .box (Ag.av .zero).cells), (1, .box (foldA V i).av.cells)]) 2 (fun i => n - i) 0
    ⟨Nat.zero_le _, [(0, 0), (1, 1)], rfl, rfl, ⟨AVle.refl _, AVle.refl _, AVle.refl _, AVle.refl _, AVle.refl _, trivial⟩, ⟨MOle.refl _, MOle.refl _, trivial⟩⟩ ?_
  intro i hi
  refine Grd.intro (fun h2 => ?_) (fun h2 => ?_)
  · have hin : i < n := by simp at h2; omega
    refine And.intro (by omega) ?_
    have hb := foldA_b (V := V) (n := i) fun j hj => hs j (by omega)
    have hv := hs i hin
    refine CallG.mk _ (callR_sca (merged_fn (foldA V i) (.one (V i)) (inI64 (by simp [Ag.one]; omega) (by simp [Ag.one]; omega)) (inI64 (by simp [Ag.one]; omega) (by simp [Ag.one]; omega))) rfl rfl) ?_
    refine And.intro (inI64 (by omega) (by omega)) ?_
    exact ⟨i + 1, hin, by omega, [(0, 0), (1, 1)], rfl, rfl, ⟨AVle.refl _, AVle.refl _, AVle.refl _, AVle.refl _, AVle.of_eq (congrArg (AV.int .i64) (by simp)), trivial⟩, ⟨MOle.refl _, MOle.refl _, trivial⟩⟩
  · have : i = n := by simp at h2; omega
    subst this
    exact And.intro trivial (AVle.refl _)

theorem l02Of_fn (T V : Nat → Int) (n : Nat) (hn : n ≤ 4096) (hs : small V n) : VFn Try.prog 52 [smp T V n] (foldA V n).av := by
  refine VFn.intro Try.call52 Try.func52 rfl rfl ?_
  refine LoopG.mk (fun i : Nat => i ≤ n) (fun i => [(0, smp T V n), (2, .bptr 0 0), (3, .bptr 1 0), (4, .int .i64 i)])
    (fun i => [(0, .box (Ag.av .zero).cells), (1, .box (foldA V i).av.cells)]) 2 (fun i => n - i) 0
    ⟨Nat.zero_le _, [(0, 0), (1, 1)], rfl, rfl, ⟨AVle.refl _, AVle.refl _, AVle.refl _, AVle.refl _, trivial⟩, ⟨MOle.refl _, MOle.refl _, trivial⟩⟩ ?_
  intro i hi
  refine Grd.intro (fun h2 => ?_) (fun h2 => ?_)
  · have hin : i < n := by simp at h2; omega
    refine And.intro (by omega) ?_
    have hb := foldA_b (V := V) (n := i) fun j hj => hs j (by omega)
    have hv := hs i hin
    refine CallG.mk _ (callR_sca (l02Merge_fn (foldA V i) (.one (V i)) (inI64 (by simp [Ag.one]; omega) (by simp [Ag.one]; omega)) (inI64 (by simp [Ag.one]; omega) (by simp [Ag.one]; omega))) rfl rfl) ?_
    refine And.intro (inI64 (by omega) (by omega)) ?_
    exact ⟨i + 1, hin, by omega, [(0, 0), (1, 1)], rfl, rfl, ⟨AVle.refl _, AVle.refl _, AVle.refl _, AVle.of_eq (congrArg (AV.int .i64) (by simp)), trivial⟩, ⟨MOle.refl _, MOle.refl _, trivial⟩⟩
  · have : i = n := by simp at h2; omega
    subst this
    exact And.intro trivial (AVle.refl _)

/-- The samples of a range, in order. -/
def sel (T V : Nat → Int) (a b : Int) : Nat → List (Int × Int)
  | 0 => []
  | n + 1 => if within (T n) a (b - 1) then sel T V a b n ++ [(T n, V n)] else sel T V a b n
def selT (T V : Nat → Int) (a b : Int) (n : Nat) : Nat → Int := fun i => ((sel T V a b n).getD i (0, 0)).1
def selV (T V : Nat → Int) (a b : Int) (n : Nat) : Nat → Int := fun i => ((sel T V a b n).getD i (0, 0)).2
theorem sel_len {T V : Nat → Int} {a b : Int} : ∀ n, (sel T V a b n).length ≤ n
  | 0 => Nat.le_refl _
  | n + 1 => by
    have := sel_len (T := T) (V := V) (a := a) (b := b) n
    unfold sel; split <;> simp <;> omega

section
variable {T V : Nat → Int} {a b : Int} {n : Nat}
theorem sel_no (h : within (T n) a (b - 1) = false) : sel T V a b (n + 1) = sel T V a b n := by
  show (if _ then _ else _) = _
  simp [h]
theorem sel_yes (h : within (T n) a (b - 1) = true) : sel T V a b (n + 1) = sel T V a b n ++ [(T n, V n)] := by
  show (if _ then _ else _) = _
  simp [h]
theorem selV_no (h : within (T n) a (b - 1) = false) : selV T V a b (n + 1) = selV T V a b n := by unfold selV; rw [sel_no h]
theorem selT_no (h : within (T n) a (b - 1) = false) : selT T V a b (n + 1) = selT T V a b n := by unfold selT; rw [sel_no h]
theorem selV_lt (h : within (T n) a (b - 1) = true) {i : Nat} (hi : i < (sel T V a b n).length) : selV T V a b (n + 1) i = selV T V a b n i := by
  unfold selV; rw [sel_yes h]; simp [List.getD, List.getElem?_append_left hi, hi]
theorem selT_lt (h : within (T n) a (b - 1) = true) {i : Nat} (hi : i < (sel T V a b n).length) : selT T V a b (n + 1) i = selT T V a b n i := by
  unfold selT; rw [sel_yes h]; simp [List.getD, List.getElem?_append_left hi, hi]
theorem selV_at (h : within (T n) a (b - 1) = true) : selV T V a b (n + 1) (sel T V a b n).length = V n := by
  unfold selV; rw [sel_yes h]; simp
theorem selT_at (h : within (T n) a (b - 1) = true) : selT T V a b (n + 1) (sel T V a b n).length = T n := by
  unfold selT; rw [sel_yes h]; simp
end
def foldS (T V : Nat → Int) (a b : Int) : Nat → Ag
  | 0 => .zero
  | n + 1 => if within (T n) a (b - 1) then merge (foldS T V a b n) (.one (V n)) else foldS T V a b n
theorem foldA_congr {V W : Nat → Int} : ∀ n, (∀ i, i < n → V i = W i) → foldA V n = foldA W n
  | 0, _ => rfl
  | n + 1, h => by
    show merge _ _ = merge _ _
    rw [foldA_congr n fun i hi => h i (by omega), h n (by omega)]
theorem foldA_sel {T V : Nat → Int} {a b : Int} : ∀ n, foldA (selV T V a b n) (sel T V a b n).length = foldS T V a b n
  | 0 => rfl
  | n + 1 => by
    have ih := foldA_sel (T := T) (V := V) (a := a) (b := b) n
    show _ = (if _ then _ else _)
    cases h : within (T n) a (b - 1)
    · rw [sel_no h, selV_no h]; simpa using ih
    · rw [sel_yes h, List.length_append]
      show merge (foldA _ (sel T V a b n).length) (.one _) = _
      rw [selV_at h, foldA_congr (W := selV T V a b n) _ fun i hi => selV_lt h hi, ih]; simp
theorem small_sel {T V : Nat → Int} {a b : Int} : ∀ {n : Nat}, small V n → small (selV T V a b n) (sel T V a b n).length
  | 0, _ => fun i hi => by simp [sel] at hi
  | n + 1, h => by
    have ih := small_sel (T := T) (a := a) (b := b) (n := n) fun i hi => h i (by omega)
    have hn := h n (by omega)
    cases hw : within (T n) a (b - 1)
    · rw [sel_no hw, selV_no hw]; exact ih
    · intro i hi
      rw [sel_yes hw, List.length_append] at hi
      by_cases hi' : i < (sel T V a b n).length
      · rw [selV_lt hw hi']; exact ih i hi'
      · have : i = (sel T V a b n).length := by simp at hi; omega
        subst this
        rw [selV_at hw]; exact hn

theorem samplesIn_fn (T V : Nat → Int) (n : Nat) (a b : Int) (hn : n ≤ 4096) (hb : inI .i64 (b - 1)) : VFn Try.prog 30 [smp T V n, .int .i64 a, .int .i64 b] (smp (selT T V a b n) (selV T V a b n) (sel T V a b n).length) := by
  refine VFn.intro Try.call30 Try.func30 rfl rfl ?_
  refine LoopG.mk (fun i : Nat => i ≤ n) (fun i => [(1, .int .i64 a), (2, .int .i64 b), (7, .osl 0), (11, smp T V n), (12, .int .i64 n), (13, .int .i64 i)])
    (fun i => [(0, .arr 50 2 (sel T V a b i).length fun k => [.int .i64 (selT T V a b i k), .int .i64 (selV T V a b i k)])]) 1 (fun i => n - i) 0
    ⟨Nat.zero_le _, [(0, 0)], rfl, rfl, ⟨AVle.refl _, AVle.refl _, AVle.refl _, AVle.refl _, AVle.refl _, AVle.refl _, trivial⟩, ⟨MOle.arr rfl fun i hi => by simp [sel] at hi, trivial⟩⟩ ?_
  intro i hi
  have hl := sel_len (T := T) (V := V) (a := a) (b := b) i
  refine Grd.intro (fun h2 => ?_) (fun h2 => ?_)
  · have hin : i < n := by simp at h2; omega
    refine And.intro (by omega) ?_
    refine And.intro hb ?_
    refine CallG.mk _ (callR_sca (within_fn _ _ _) rfl rfl) ?_
    refine Grd.intro (fun h3 => ?_) (fun h3 => ?_)
    · have h3' : within (T i) a (b - 1) = true := h3
      have h16 : ((sel T V a b i).length + 1) * 16 ≤ 140737488355328 := by omega
      refine And.intro ⟨h16, all1 rfl⟩ ?_
      refine And.intro (inI64 (by omega) (by omega)) ?_
      refine ⟨i + 1, hin, by omega, [(3, 0)], rfl, rfl, ⟨AVle.refl _, AVle.refl _, AVle.refl _, AVle.refl _, AVle.refl _, AVle.of_eq (congrArg (AV.int .i64) (by simp)), trivial⟩, ⟨MOle.arr (by rw [sel_yes h3']; simp) fun k hk => ?_, trivial⟩⟩
      unfold appRows
      rcases Nat.lt_or_ge k (sel T V a b i).length with h | h
      · have hb : Nat.blt k (sel T V a b i).length = true := Nat.ble_eq_true_of_le h
        rw [hb]
        dsimp only [cond_true]
        rw [selT_lt h3' h, selV_lt h3' h]
      · have hb : Nat.blt k (sel T V a b i).length = false := by
          cases hc : Nat.blt k (sel T V a b i).length
          · rfl
          · have := Nat.le_of_ble_eq_true hc; omega
        have hk' : k = (sel T V a b i).length := by omega
        rw [hb]
        subst hk'
        rw [Nat.sub_self]
        dsimp only [cond_false]
        rw [selT_at h3', selV_at h3']
        rfl
    · have h3' : within (T i) a (b - 1) = false := h3
      refine And.intro (inI64 (by omega) (by omega)) ?_
      exact ⟨i + 1, hin, by omega, [(0, 0)], rfl, rfl, ⟨AVle.refl _, AVle.refl _, AVle.refl _, AVle.refl _, AVle.refl _, AVle.of_eq (congrArg (AV.int .i64) (by simp)), trivial⟩, ⟨MOle.arr (by rw [sel_no h3']) fun k hk => by rw [selT_no h3', selV_no h3'], trivial⟩⟩
  · have : i = n := by simp at h2; omega
    subst this
    exact And.intro trivial (AVle.refl _)

theorem small_ok {T V : Nat → Int} {n : Nat} (h : samplesOK T V n = true) : n ≤ 4096 ∧ small V n := by
  unfold samplesOK at h
  simp only [Bool.and_eq_true, decide_eq_true_eq, List.all_eq_true, List.mem_range] at h
  refine ⟨h.1, fun i hi => ?_⟩
  have := h.2 i hi
  simp [good, good1, within] at this
  omega
theorem code_zero {T V : Nat → Int} {n : Nat} {a b : Int} (h : code T V n a b = 0) : n ≤ 4096 ∧ small V n ∧ inI .i64 (b - 1) := by
  unfold code at h
  split at h
  · cases h
  split at h
  · rename_i h1
    split at h
    · rename_i h2
      obtain ⟨e1, e2⟩ := small_ok h1
      refine ⟨e1, e2, ?_⟩
      simp [isRange] at h2
      exact inI64 (by omega) (by omega)
    · cases h
  · cases h

def fold (T V : Nat → Int) (n : Nat) (a b : Int) : Ag := if code T V n a b = 0 then foldS T V a b n else .zero
theorem ModelFold_fn (T V : Nat → Int) (n : Nat) (a b : Int) : VFn Try.prog 9 [smp T V n, .int .i64 a, .int .i64 b] (.tup [(fold T V n a b).av, .int .i64 (code T V n a b)]) := by
  refine VFn.intro Try.call9 Try.func9 rfl rfl ?_
  refine CallG.mk _ (callR_sca (modelCode_fn _ _ _ _ _) rfl rfl) ?_
  refine Grd.intro (fun h1 => ?_) (fun h1 => ?_)
  · simp at h1
    exact And.intro trivial (AVle.of_eq (show AV.tup [Ag.zero.av, .int .i64 (code T V n a b)] = _ by simp [fold, h1]))
  · simp at h1
    obtain ⟨e1, e2, e3⟩ := code_zero h1
    refine CallG.mk _ (callR_nl (samplesIn_fn _ _ _ _ _ e1 e3) rfl rfl) ?_
    refine CallG.mk _ (callR_sca (aggOf_fn _ _ _ (Nat.le_trans (sel_len n) e1) (small_sel e2)) rfl rfl) ?_
    rw [foldA_sel]
    exact And.intro trivial (AVle.of_eq (show AV.tup [(foldS T V a b n).av, .int .i64 0] = _ by simp [fold, h1]))

theorem foldS_b {T V : Nat → Int} {a b : Int} : ∀ {n : Nat}, small V n → 0 ≤ (foldS T V a b n).c ∧ (foldS T V a b n).c ≤ n ∧ -(1000000 * n) ≤ (foldS T V a b n).s ∧ (foldS T V a b n).s ≤ 1000000 * n := by
  intro n h
  rw [← foldA_sel]
  have h1 := foldA_b (small_sel (T := T) (a := a) (b := b) h)
  have h2 := sel_len (T := T) (V := V) (a := a) (b := b) n
  omega
theorem one_of (v : Int) : foldA (fun _ => v) 1 = .one v := by
  show merge .zero (.one v) = _
  simp [merge, Ag.zero]

theorem l13Fold_fn (T V : Nat → Int) (n : Nat) (a b : Int) (hn : n ≤ 4096) (hs : small V n) (hb : inI .i64 (b - 1)) : VFn Try.prog 26 [smp T V n, .int .i64 a, .int .i64 b] (foldS T V a b n).av := by
  refine VFn.intro Try.call26 Try.func26 rfl rfl ?_
  refine LoopG.mk (fun i : Nat => i ≤ n) (fun i => [(0, smp T V n), (1, .int .i64 a), (2, .int .i64 b), (6, .bptr 0 0), (7, .bptr 1 0), (8, .int .i64 i)])
    (fun i => [(0, .box (Ag.av .zero).cells), (1, .box (foldS T V a b i).av.cells)]) 2 (fun i => n - i) 0
    ⟨Nat.zero_le _, [(0, 0), (1, 1)], rfl, rfl, ⟨AVle.refl _, AVle.refl _, AVle.refl _, AVle.refl _, AVle.refl _, AVle.refl _, trivial⟩, ⟨MOle.refl _, MOle.refl _, trivial⟩⟩ ?_
  intro i hi
  refine Grd.intro (fun h2 => ?_) (fun h2 => ?_)
  · have hin : i < n := by simp at h2; omega
    have hb' := foldS_b (T := T) (V := V) (a := a) (b := b) (n := i) fun j hj => hs j (by omega)
    have hv := hs i hin
    refine And.intro (by omega) ?_
    refine And.intro hb ?_
    refine CallG.mk _ (callR_sca (l01In_fn _ _ _) rfl rfl) ?_
    refine Grd.intro (fun h3 => ?_) (fun h3 => ?_)
    · have h3' : within (T i) a (b - 1) = true := h3
      refine DrawG.mk 8 rfl (by kernel_rfl) ?_
      refine And.intro (by omega) ?_
      refine PCallG.sca _ ((l02Of_fn (fun _ => T i) (fun _ => V i) 1 (by omega) (fun _ _ => hv)).weak (AVsle.cons (AVle.sl1 rfl) AVsle.nil) (AVle.refl _)) rfl ?_
      rw [one_of]
      refine PCallG.sca _ (l02Merge_fn (foldS T V a b i) (.one (V i)) (inI64 (by simp [Ag.one]; omega) (by simp [Ag.one]; omega)) (inI64 (by simp [Ag.one]; omega) (by simp [Ag.one]; omega))) rfl ?_
      refine And.intro (inI64 (by omega) (by omega)) ?_
      have e : foldS T V a b (i + 1) = merge (foldS T V a b i) (.one (V i)) := by show (if _ then _ else _) = _; rw [if_pos h3']
      refine ⟨i + 1, hin, by omega, [(0, 0), (1, 1)], rfl, rfl, ⟨AVle.refl _, AVle.refl _, AVle.refl _, AVle.refl _, AVle.refl _, AVle.of_eq (congrArg (AV.int .i64) (by simp)), trivial⟩, ⟨MOle.refl _, ?_, trivial⟩⟩
      rw [e]
      exact MOle.refl _
    · have h3' : within (T i) a (b - 1) = false := h3
      have e : foldS T V a b (i + 1) = foldS T V a b i := by show (if _ then _ else _) = _; rw [if_neg (by simp [h3'])]
      refine And.intro (inI64 (by omega) (by omega)) ?_
      refine ⟨i + 1, hin, by omega, [(0, 0), (1, 1)], rfl, rfl, ⟨AVle.refl _, AVle.refl _, AVle.refl _, AVle.refl _, AVle.refl _, AVle.of_eq (congrArg (AV.int .i64) (by simp)), trivial⟩, ⟨MOle.refl _, ?_, trivial⟩⟩
      rw [e]
      exact MOle.refl _
  · have : i = n := by simp at h2; omega
    subst this
    exact And.intro trivial (AVle.refl _)

theorem specModelFold_fn (T V : Nat → Int) (n : Nat) (a b : Int) : VFn Try.prog 7 [smp T V n, .int .i64 a, .int .i64 b] (.tup [(fold T V n a b).av, .int .i64 (code T V n a b)]) := by
  refine VFn.intro Try.call7 Try.func7 rfl rfl ?_
  refine Grd.intro (fun h0 => ?_) (fun h0 => ?_)
  · have e : code T V n a b = 2 := by simp at h0; unfold code; rw [if_pos (by omega)]
    exact And.intro trivial (AVle.of_eq (show AV.tup [Ag.zero.av, .int .i64 2] = _ by simp [fold, e]))
  · refine CallG.mk _ (callR_sca (l13Ask_fn _ _ _ _ _) rfl rfl) ?_
    refine Grd.intro (fun h1 => ?_) (fun h1 => ?_)
    · simp at h1
      exact And.intro trivial (AVle.of_eq (show AV.tup [Ag.zero.av, .int .i64 (code T V n a b)] = _ by simp [fold, h1]))
    · simp at h1
      obtain ⟨e1, e2, e3⟩ := code_zero h1
      refine CallG.mk _ (callR_sca (l13Fold_fn _ _ _ _ _ e1 e2 e3) rfl rfl) ?_
      exact And.intro trivial (AVle.of_eq (show AV.tup [(foldS T V a b n).av, .int .i64 0] = _ by simp [fold, h1]))

theorem toSample_fn (t v : Int) : VFn Try.prog 27 [.agg [.int .i64 t, .int .i64 v]] (.agg [.int .i64 t, .int .i64 v]) := by
  refine VFn.intro Try.call27 Try.func27 rfl rfl ?_
  exact And.intro trivial (AVle.refl _)
def smpRow (T V : Nat → Int) (i : Nat) : List AV := [.int .i64 (T i), .int .i64 (V i)]
theorem toSampleS_fn (T V : Nat → Int) (n : Nat) (hn : n ≤ 1048576) : VFn Try.prog 8 [smp T V n] (smp T V n) := by
  refine VFn.intro Try.call8 Try.func8 rfl rfl ?_
  have h16 : (16 : Int) * n ≤ 140737488355328 := by omega
  refine And.intro ⟨by omega, rfl, h16, by omega⟩ ?_
  refine LoopG.mk (fun i : Nat => i ≤ n) (fun i => [(0, smp T V n), (3, .osl 0), (4, .int .i64 i)])
    (fun i => [(0, .arr 50 2 n (wr (smpRow T V) (fun _ => [.int .i64 0, .int .i64 0]) i))]) 1 (fun i => n - i) 0
    ⟨Nat.zero_le _, [(0, 0)], rfl, rfl, ⟨AVle.refl _, AVle.refl _, AVle.refl _, trivial⟩, ⟨MOle.arr rfl fun i hi => by rw [wr_ge (Nat.zero_le i)], trivial⟩⟩ ?_
  intro i hi
  refine Grd.intro (fun h2 => ?_) (fun h2 => ?_)
  · have hin : i < n := by simp at h2; omega
    refine And.intro (by omega) ?_
    refine CallG.mk _ (callR_sca (toSample_fn _ _) rfl rfl) ?_
    refine And.intro (by omega) ?_
    refine And.intro (inI64 (by omega) (by omega)) ?_
    exact ⟨i + 1, hin, by omega, [(0, 0)], rfl, rfl, ⟨AVle.refl _, AVle.refl _, AVle.of_eq (congrArg (AV.int .i64) (by simp)), trivial⟩, ⟨MOle.arr rfl fun k hk => wr_next fun e => by subst e; rw [wr_ge (Nat.le_refl _)]; rfl, trivial⟩⟩
  · have : i = n := by simp at h2; omega
    subst this
    exact And.intro trivial (AVle.sl rfl fun k hk => wr_lt hk)

theorem szSampleS_fn (T V : Nat → Int) (n : Nat) (l : Int) (hl : 0 ≤ l ∧ l ≤ 1048576) (hn : (n : Int) ≤ 9223372036854775807) : VFn Try.prog 6 [smp T V n, .int .i64 l] (.int .i64 (if l < n then -1 else l - n)) := by
  refine VFn.intro Try.call6 Try.func6 rfl rfl ?_
  refine And.intro (inI64 (by omega) (by omega)) ?_
  refine Grd.intro (fun h1 => ?_) (fun h1 => ?_)
  · exact And.intro trivial (AVle.of_eq (congrArg (AV.int .i64) (by simp at h1; rw [if_pos (by omega)])))
  · exact And.intro trivial (AVle.of_eq (congrArg (AV.int .i64) (by simp at h1; rw [if_neg (by omega)])))
theorem eqSample_fn (t v : Int) : VFn Try.prog 31 [.agg [.int .i64 t, .int .i64 v], .agg [.int .i64 t, .int .i64 v]] (.bool true) := by
  refine VFn.intro Try.call31 Try.func31 rfl rfl ?_
  refine Grd.intro (fun h1 => absurd h1 (by simp)) (fun h1 => ?_)
  refine Grd.intro (fun h1 => absurd h1 (by simp)) (fun h1 => ?_)
  exact And.intro trivial (AVle.refl _)
theorem eqSampleS_fn (T V : Nat → Int) (n : Nat) (hn : n ≤ 1048576) : VFn Try.prog 11 [smp T V n, smp T V n] (.bool true) := by
  refine VFn.intro Try.call11 Try.func11 rfl rfl ?_
  refine Grd.intro (fun h1 => absurd h1 (by simp)) (fun h1 => ?_)
  refine LoopG.mk (fun i : Nat => i ≤ n) (fun i => [(0, smp T V n), (1, smp T V n), (5, .int .i64 i)]) (fun _ => []) 0 (fun i => n - i) 0
    ⟨Nat.zero_le _, [], rfl, rfl, ⟨AVle.refl _, AVle.refl _, AVle.refl _, trivial⟩, trivial⟩ ?_
  intro i hi
  refine Grd.intro (fun h2 => ?_) (fun h2 => ?_)
  · have hin : i < n := by simp at h2; omega
    refine DrawG.mk 10 rfl (by kernel_rfl) ?_
    refine And.intro (by omega) ?_
    refine And.intro (by omega) ?_
    refine PCallG.sca _ (eqSample_fn _ _) rfl ?_
    refine And.intro (inI64 (by omega) (by omega)) ?_
    exact ⟨i + 1, hin, by omega, [], rfl, rfl, ⟨AVle.refl _, AVle.refl _, AVle.of_eq (congrArg (AV.int .i64) (by simp)), trivial⟩, trivial⟩
  · exact And.intro trivial (AVle.refl _)
theorem eqAgg_fn (a : Ag) : VFn Try.prog 10 [a.av, a.av] (.bool true) := by
  refine VFn.intro Try.call10 Try.func10 rfl rfl ?_
  refine Grd.intro (fun h1 => absurd h1 (by simp)) (fun h1 => ?_)
  refine Grd.intro (fun h1 => absurd h1 (by simp)) (fun h1 => ?_)
  refine Grd.intro (fun h1 => absurd h1 (by simp)) (fun h1 => ?_)
  refine Grd.intro (fun h1 => absurd h1 (by simp)) (fun h1 => ?_)
  refine Grd.intro (fun h1 => absurd h1 (by simp)) (fun h1 => ?_)
  refine Grd.intro (fun h1 => absurd h1 (by simp)) (fun h1 => ?_)
  exact And.intro trivial (AVle.refl _)

theorem law_fn (T V : Nat → Int) (n : Nat) (a b : Int) (hn : (n : Int) ≤ 9223372036854775807) : VFn Try.prog 3 [smp T V n, .int .i64 a, .int .i64 b] (.bool true) := by
  refine VFn.intro Try.call3 Try.func3 rfl rfl ?_
  refine CallG.mk _ (callR_sca (szSampleS_fn T V n 1048576 (by omega) hn) rfl rfl) ?_
  refine Grd.intro (fun h1 => ?_) (fun h1 => ?_)
  · exact And.intro trivial (AVle.refl _)
  · have hs : n ≤ 1048576 := by simp at h1; split at h1 <;> omega
    refine CallG.mk _ (callR_nl (toSampleS_fn T V n hs) rfl rfl) ?_
    refine CallG.mk _ (callR_sca (specModelFold_fn T V n a b) rfl rfl) ?_
    refine CallG.mk _ (callR_nl (toSampleS_fn T V n hs) rfl rfl) ?_
    refine CallG.mk _ (callR_sca (ModelFold_fn T V n a b) rfl rfl) ?_
    refine CallG.mk _ (callR_sca (eqAgg_fn (fold T V n a b)) rfl rfl) ?_
    refine Grd.intro (fun h2 => absurd h2 (by simp)) (fun h2 => ?_)
    refine CallG.mk _ (callR_nl (toSampleS_fn T V n hs) rfl rfl) ?_
    refine CallG.mk _ (callR_sca (eqSampleS_fn T V n hs) rfl rfl) ?_
    exact And.intro trivial (AVle.refl _)
end Go.Proofs.Ytiialkiibfmddaa
