/- Ranges, aggregates, the first code that applies: contracts; the conditions are the theorems' own. -/
import Derived.Test.YtpfmfdioonjccaaGreatDoorGA
set_option linter.unusedVariables false
set_option linter.constructorNameAsVariable false
set_option linter.unusedSimpArgs false
set_option maxRecDepth 20000
namespace Go.Proofs.YtpfmfdioonjccaaGreatDoor
open Go Go.Vw

theorem within_fn (n lo hi : Int) : VFn Tryz.prog 99 [.int .i64 n, .int .i64 lo, .int .i64 hi] (.bool (within n lo hi)) := by
  refine VFn.introC Tryz.call99 Tryz.func99 rfl rfl ?_
  refine Grd.intro (fun h1 => ?_) (fun h1 => ?_)
  · refine And.intro trivial (AVle.of_eq (congrArg AV.bool ?_))
    simp_all [within]
  · refine And.intro trivial (AVle.of_eq (congrArg AV.bool ?_))
    simp_all [within]; omega
theorem l01In_fn (n lo hi : Int) : VFn Tryz.prog 87 [.int .i64 n, .int .i64 lo, .int .i64 hi] (.bool (within n lo hi)) := by
  refine VFn.introC Tryz.call87 Tryz.func87 rfl rfl ?_
  refine Grd.intro (fun h1 => ?_) (fun h1 => ?_)
  · refine And.intro trivial (AVle.of_eq (congrArg AV.bool ?_))
    simp_all [within]
  · refine And.intro trivial (AVle.of_eq (congrArg AV.bool ?_))
    simp_all [within]; omega

theorem first_of (l : List (Bool × Int)) {n : Nat} {rows : Nat → List AV} (hr : FirstRows 4 3 rows 0 l) (hn : n = 2 * l.length) (hl : l.length ≤ 1000) :
    VFn Tryz.prog 64 [.sl 1 n rows] (.int .i64 (firstC l)) := by
  subst hn
  refine VFn.introC Tryz.call64 Tryz.func64 rfl rfl ?_
  refine LoopC.mk (fun i : Nat => i ≤ l.length ∧ ∀ j, j < i → (ix l j).1 = false) (fun i => [(0, .sl 1 (2 * l.length) rows), (3, .int .i64 (2 * (i : Int)))]) (fun _ => []) 0 (fun i => l.length - i) 0
    ⟨⟨Nat.zero_le _, fun j hj => absurd hj (Nat.not_lt_zero j)⟩, [], rfl, rfl, ⟨AVle.refl _, AVle.refl _, trivial⟩, trivial⟩ ?_
  rintro i ⟨hi, hf⟩
  refine And.intro (inI64 (by omega) (by omega)) ?_
  refine Grd.intro (fun h2 => ?_) (fun h2 => ?_)
  · have hin : i < l.length := by have := of_decide_eq_true h2; omega
    have hg := hr.get i hin
    have e1 : rows (Int.toNat (2 * (i : Int))) = [.iface 4 (.bool (ix l i).1)] := by rw [show Int.toNat (2 * (i : Int)) = 0 + 2 * i by omega]; exact hg.1
    have e2 : rows (Int.toNat (2 * (i : Int) + 1)) = [.iface 3 (.int .i64 (ix l i).2)] := by rw [show Int.toNat (2 * (i : Int) + 1) = 0 + (2 * i + 1) by omega]; exact hg.2
    refine And.intro (by omega) ?_
    rw [e1]
    refine Grd.intro (fun h3 => ?_) (fun h3 => ?_)
    · refine And.intro (inI64 (by omega) (by omega)) ?_
      refine And.intro (by omega) ?_
      rw [e2]
      refine And.intro trivial (AVle.of_eq (congrArg (AV.int .i64) ?_))
      rw [firstC_none hf hi]
      have : l.drop i = ix l i :: l.drop (i + 1) := drop_ix hin
      rw [this]
      show _ = bif (ix l i).1 then _ else _
      rw [show (ix l i).1 = true from h3]; rfl
    · refine And.intro (inI64 (by omega) (by omega)) ?_
      refine ⟨i + 1, ⟨hin, fun j hj => ?_⟩, by omega, [], rfl, rfl, ⟨AVle.refl _, AVle.of_eq (congrArg (AV.int .i64) (by omega)), trivial⟩, trivial⟩
      by_cases e : j = i
      · subst e; exact h3
      · exact hf j (by omega)
  · have : i = l.length := by have := of_decide_eq_false h2; omega
    subst this
    refine And.intro trivial (AVle.of_eq (congrArg (AV.int .i64) ?_))
    rw [firstC_none hf (Nat.le_refl _), List.drop_length]; rfl
structure Ag where
  c : Int
  s : Int
  mn : Int
  mx : Int
  f : Int
  l : Int
def Ag.av (a : Ag) : AV := .agg [.int .i64 a.c, .int .i64 a.s, .int .i64 a.mn, .int .i64 a.mx, .int .i64 a.f, .int .i64 a.l]
def Ag.nul (a : Ag) : Bool := decide (a.c = 0) && (decide (a.s = 0) && (decide (a.mn = 0) && (decide (a.mx = 0) && (decide (a.f = 0) && (decide (a.l = 0) && true)))))
def Ag.some (a : Ag) : Bool := within a.c 1 100000 && within a.mn (-1000000) 1000000 && within a.mx (-1000000) 1000000 && within a.f a.mn a.mx && within a.l a.mn a.mx && within a.s (a.c * a.mn) (a.c * a.mx)
def Ag.ok (a : Ag) : Bool := a.nul || a.some
theorem mul_b {c m : Int} (h1 : within c 1 100000 = true) (h2 : within m (-1000000) 1000000 = true) : -100000000000 ≤ c * m ∧ c * m ≤ 100000000000 := by
  simp [within] at h1 h2
  have e1 : c * m ≤ c * 1000000 := Int.mul_le_mul_of_nonneg_left h2.2 (by omega)
  have e2 : c * (-1000000) ≤ c * m := Int.mul_le_mul_of_nonneg_left h2.1 (by omega)
  omega

theorem isValue_fn (n : Int) : VFn Tryz.prog 183 [.int .i64 n] (.bool (within n (-1000000) 1000000)) := by
  refine VFn.introC Tryz.call183 Tryz.func183 rfl rfl ?_
  conv => whnf
  refine CallC.sca _ (within_fn _ _ _) ?_ ?_
  · exact rfl
  exact And.intro trivial (AVle.refl _)
theorem l02Value_fn (n : Int) : VFn Tryz.prog 195 [.int .i64 n] (.bool (within n (-1000000) 1000000)) := by
  refine VFn.introC Tryz.call195 Tryz.func195 rfl rfl ?_
  conv => whnf
  refine CallC.sca _ (l01In_fn _ _ _) ?_ ?_
  · exact rfl
  exact And.intro trivial (AVle.refl _)

theorem AggOK_fn (a : Ag) : VFn Tryz.prog 211 [a.av] (.bool a.ok) := by
  refine VFn.introC Tryz.call211 Tryz.func211 rfl rfl ?_
  refine And.intro (by kernel_rfl) ?_
  refine Grd.intro (fun h0 => ?_) (fun h0 => ?_)
  · exact And.intro trivial (AVle.of_eq (congrArg AV.bool (show true = a.ok by have : a.nul = true := h0; simp [Ag.ok, this])))
  have hn : a.nul = false := h0
  have no : a.some = false → AV.bool false = .bool a.ok := fun h => by simp [Ag.ok, hn, h]
  conv => whnf
  refine CallC.sca _ (within_fn _ _ _) ?_ ?_
  · exact rfl
  refine Grd.intro (fun h1 => ?_) (fun h1 => ?_)
  · conv => whnf
    refine CallC.sca _ (isValue_fn _) ?_ ?_
    · exact rfl
    refine Grd.intro (fun h2 => ?_) (fun h2 => ?_)
    · conv => whnf
      refine CallC.sca _ (isValue_fn _) ?_ ?_
      · exact rfl
      refine Grd.intro (fun h3 => ?_) (fun h3 => ?_)
      · conv => whnf
        refine CallC.sca _ (within_fn _ _ _) ?_ ?_
        · exact rfl
        refine Grd.intro (fun h4 => ?_) (fun h4 => ?_)
        · conv => whnf
          refine CallC.sca _ (within_fn _ _ _) ?_ ?_
          · exact rfl
          refine Grd.intro (fun h5 => ?_) (fun h5 => ?_)
          · have b1 := mul_b h1 h2
            have b2 := mul_b h1 h3
            refine And.intro (inI64 (by omega) (by omega)) ?_
            refine And.intro (inI64 (by omega) (by omega)) ?_
            conv => whnf
            refine CallC.sca _ (within_fn _ _ _) ?_ ?_
            · exact rfl
            exact And.intro trivial (AVle.of_eq (congrArg AV.bool (show within a.s (a.c * a.mn) (a.c * a.mx) = a.ok by
              have q1 : within a.c 1 100000 = true := h1
              have q2 : within a.mn (-1000000) 1000000 = true := h2
              have q3 : within a.mx (-1000000) 1000000 = true := h3
              have q4 : within a.f a.mn a.mx = true := h4
              have q5 : within a.l a.mn a.mx = true := h5
              simp [Ag.ok, Ag.some, hn, q1, q2, q3, q4, q5])))
          · exact And.intro trivial (AVle.of_eq (no (by have q : within a.l a.mn a.mx = false := h5; simp [Ag.some, q])))
        · exact And.intro trivial (AVle.of_eq (no (by have q : within a.f a.mn a.mx = false := h4; simp [Ag.some, q])))
      · exact And.intro trivial (AVle.of_eq (no (by have q : within a.mx (-1000000) 1000000 = false := h3; simp [Ag.some, q])))
    · exact And.intro trivial (AVle.of_eq (no (by have q : within a.mn (-1000000) 1000000 = false := h2; simp [Ag.some, q])))
  · exact And.intro trivial (AVle.of_eq (no (by have q : within a.c 1 100000 = false := h1; simp [Ag.some, q])))

theorem specAggOK_fn (a : Ag) : VFn Tryz.prog 93 [a.av] (.bool a.ok) := by
  refine VFn.introC Tryz.call93 Tryz.func93 rfl rfl ?_
  refine Grd.intro (fun h0 => ?_) (fun h0 => ?_)
  · refine And.intro (by kernel_rfl) ?_
    have hc : a.c = 0 := of_decide_eq_true h0
    exact And.intro trivial (AVle.of_eq (congrArg AV.bool (show a.nul = a.ok by
      have q : within a.c 1 100000 = false := by rw [hc]; rfl
      simp [Ag.ok, Ag.some, q])))
  have hc : ¬ a.c = 0 := of_decide_eq_false h0
  have hn : a.nul = false := by simp [Ag.nul, hc]
  have no : a.some = false → AV.bool false = .bool a.ok := fun h => by simp [Ag.ok, hn, h]
  conv => whnf
  refine CallC.sca _ (l01In_fn _ _ _) ?_ ?_
  · exact rfl
  refine Grd.intro (fun h1 => ?_) (fun h1 => ?_)
  · conv => whnf
    refine CallC.sca _ (l02Value_fn _) ?_ ?_
    · exact rfl
    refine Grd.intro (fun h2 => ?_) (fun h2 => ?_)
    · conv => whnf
      refine CallC.sca _ (l02Value_fn _) ?_ ?_
      · exact rfl
      refine Grd.intro (fun h3 => ?_) (fun h3 => ?_)
      · conv => whnf
        refine CallC.sca _ (l01In_fn _ _ _) ?_ ?_
        · exact rfl
        refine Grd.intro (fun h4 => ?_) (fun h4 => ?_)
        · conv => whnf
          refine CallC.sca _ (l01In_fn _ _ _) ?_ ?_
          · exact rfl
          refine Grd.intro (fun h5 => ?_) (fun h5 => ?_)
          · have b1 := mul_b h1 h2
            have b2 := mul_b h1 h3
            refine And.intro (inI64 (by omega) (by omega)) ?_
            refine And.intro (inI64 (by omega) (by omega)) ?_
            conv => whnf
            refine CallC.sca _ (l01In_fn _ _ _) ?_ ?_
            · exact rfl
            exact And.intro trivial (AVle.of_eq (congrArg AV.bool (show within a.s (a.c * a.mn) (a.c * a.mx) = a.ok by
              have q1 : within a.c 1 100000 = true := h1
              have q2 : within a.mn (-1000000) 1000000 = true := h2
              have q3 : within a.mx (-1000000) 1000000 = true := h3
              have q4 : within a.f a.mn a.mx = true := h4
              have q5 : within a.l a.mn a.mx = true := h5
              simp [Ag.ok, Ag.some, hn, q1, q2, q3, q4, q5])))
          · exact And.intro trivial (AVle.of_eq (no (by have q : within a.l a.mn a.mx = false := h5; simp [Ag.some, q])))
        · exact And.intro trivial (AVle.of_eq (no (by have q : within a.f a.mn a.mx = false := h4; simp [Ag.some, q])))
      · exact And.intro trivial (AVle.of_eq (no (by have q : within a.mx (-1000000) 1000000 = false := h3; simp [Ag.some, q])))
    · exact And.intro trivial (AVle.of_eq (no (by have q : within a.mn (-1000000) 1000000 = false := h2; simp [Ag.some, q])))
  · exact And.intro trivial (AVle.of_eq (no (by have q : within a.c 1 100000 = false := h1; simp [Ag.some, q])))


theorem Ag.bounds {a : Ag} (h : a.ok = true) : (-100000000000 ≤ a.c ∧ a.c ≤ 100000000000) ∧ (-100000000000 ≤ a.s ∧ a.s ≤ 100000000000) ∧ (-100000000000 ≤ a.mn ∧ a.mn ≤ 100000000000) ∧ (-100000000000 ≤ a.mx ∧ a.mx ≤ 100000000000) ∧
      (-100000000000 ≤ a.f ∧ a.f ≤ 100000000000) ∧ (-100000000000 ≤ a.l ∧ a.l ≤ 100000000000) := by
  simp only [Ag.ok, Bool.or_eq_true] at h
  rcases h with h | h
  · simp [Ag.nul] at h; omega
  · simp only [Ag.some, Bool.and_eq_true] at h
    obtain ⟨⟨⟨⟨⟨h1, h2⟩, h3⟩, h4⟩, h5⟩, h6⟩ := h
    have b1 := mul_b h1 h2
    have b2 := mul_b h1 h3
    simp [within] at h1 h2 h3 h4 h5 h6
    omega
def Ag.six (a : Ag) : List Int := [a.c, a.s, a.mn, a.mx, a.f, a.l]
def atext (a : Ag) : List UInt8 := Lib.join (a.six.map Lib.itoa) [44]
theorem six_b {a : Ag} (h : a.ok = true) : ∀ x ∈ a.six, -100000000000 ≤ x ∧ x ≤ 100000000000 := by
  have := Ag.bounds h
  intro x hx
  simp only [Ag.six, List.mem_cons, List.not_mem_nil, or_false] at hx
  rcases hx with rfl | rfl | rfl | rfl | rfl | rfl <;> omega
theorem atext_len {a : Ag} (h : a.ok = true) : (atext a).length ≤ 132 := by
  have := itoas_len (N := a.six) (s := [44]) (c := 1) (fun x hx => by have := six_b h x hx; omega) (by decide)
  exact this
theorem l02Text_fn (a : Ag) (h : a.ok = true) : VFn Tryz.prog 264 [a.av] (.str (B (atext a))) := by
  have hb := six_b h
  refine VFn.introC Tryz.call264 Tryz.func264 rfl rfl ?_
  conv => whnf
  refine CallC.sca _ ((l02Join_fn a.six (show 6 ≤ 100000000 by decide) (fun x hx => by have := hb x hx; omega)).weak (AVsle.cons (RowsAre.le (f := fun n : Int => [AV.int .i64 n]) rfl ⟨rfl, rfl, rfl, rfl, rfl, rfl, trivial⟩) AVsle.nil) (AVle.refl _)) ?_ ?_
  · exact rfl
  exact And.intro trivial (AVle.refl _)
end Go.Proofs.YtpfmfdioonjccaaGreatDoor
