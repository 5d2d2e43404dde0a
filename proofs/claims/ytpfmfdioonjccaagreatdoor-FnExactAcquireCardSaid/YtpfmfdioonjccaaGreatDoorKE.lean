/- Stores: an object laid in: contracts; the conditions are the theorems' own. -/
import Derived.Test.YtpfmfdioonjccaaGreatDoorKD
import Derived.Test.YtpfmfdioonjccaaGreatDoorV41
set_option linter.unusedVariables false
set_option linter.constructorNameAsVariable false
set_option linter.unusedSimpArgs false
set_option maxRecDepth 20000
namespace Go.Proofs.YtpfmfdioonjccaaGreatDoor
open Go Go.Vw

def insR (i : Nat) (rows r1 : Nat → List AV) (j : Nat) : List AV := if j < i then rows j else if j = i then r1 0 else rows (j - 1)
theorem Insert_own (n i : Nat) (rows r1 : Nat → List AV) (hn : n ≤ 1000000) (hi : i ≤ n) (h1 : ∀ j, j < n → (rows j).all AV.one = true) (h2 : (r1 0).all AV.one = true) :
    FnM Tryz.prog 250 2 [.osl 0, .int .i64 i, .osl 1] [(0, .arr 187 3 n rows), (1, .arr 187 3 1 r1)] (.osl 2) [(2, .arr 187 3 (n + 1) (insR i rows r1))] 3 := by
  refine FnM.introC Tryz.call250 Tryz.func250 rfl rfl ?_
  refine And.intro ⟨by omega, by omega⟩ ?_
  refine Grd.intro (fun g1 => ?_) (fun g1 => ?_)
  · have e : i = n := by have := of_decide_eq_true g1; omega
    subst e
    refine And.intro ⟨show (i + 1) * 40 ≤ 140737488355328 by omega, all1 h2⟩ ?_
    exact And.intro trivial ⟨[(0, 0), (1, 1), (2, 2)], rfl, AVle.refl _, ⟨MOle.arr rfl fun j hj => by
      unfold insR
      by_cases hji : j < i
      · rw [appRows_lt hji, if_pos hji]
      · have : j = i := by omega
        subst this
        rw [appRows_ge (Nat.le_refl _), if_neg hji, if_pos rfl, Nat.sub_self], trivial⟩⟩
  have hin : i < n := by have := of_decide_eq_false g1; omega
  refine And.intro (inI64 (by omega) (by omega)) ?_
  conv => whnf
  refine OpC.cap rfl rfl rfl rfl rfl (fun c hc hcm => ?_)
  refine Grd.intro (fun g2 => ?_) (fun g2 => ?_)
  · have g2 : c < n + 1 := by have := of_decide_eq_true g2; omega
    conv => whnf
    refine OpC.headc rfl rfl rfl rfl rfl rfl rfl ⟨by omega, by omega⟩ ?_
    refine And.intro (inI64 (by omega) (by omega)) ?_
    refine And.intro (inI64 (by omega) (by omega)) ?_
    conv => whnf
    refine OpC.appz (q := n + 1 - i) rfl rfl rfl rfl rfl rfl rfl rfl rfl (by show ((n : Int) + 1 - i) = _; omega) (by omega) (by show c < (i : Int).toNat + (n + 1 - i); omega) (show ((i : Int).toNat + (n + 1 - i)) * 40 ≤ 140737488355328 by omega) ?_
    refine And.intro ⟨by omega, by omega⟩ ?_
    conv => whnf
    refine OpC.copy rfl rfl rfl rfl rfl rfl rfl (by show 1 ≤ (i : Int).toNat + (n + 1 - i) - (i : Int).toNat; omega) (Nat.le_refl _) (fun j hj => ?_) ?_
    · have : j = 0 := by have : Nat.min 1 ((i : Int).toNat + (n + 1 - i) - (i : Int).toNat) ≤ 1 := Nat.min_le_left _ _; omega
      subst this; exact h2
    refine DrawC.mk 8 rfl (by kernel_rfl) ?_
    refine And.intro (inI64 (by omega) (by omega)) ?_
    conv => whnf
    refine And.intro ⟨by omega, by omega⟩ ?_
    conv => whnf
    refine And.intro ⟨by omega, by omega⟩ ?_
    conv => whnf
    refine OpC.copy rfl rfl rfl rfl rfl rfl rfl (by show 1 ≤ (i : Int).toNat + (n + 1 - i) - ((i : Int) + ((1 : Nat) : Int)).toNat; omega) (by show 1 ≤ n - (i : Int).toNat; omega) (fun j hj => ?_) ?_
    · have : Nat.min (n - (i : Int).toNat) ((i : Int).toNat + (n + 1 - i) - ((i : Int) + ((1 : Nat) : Int)).toNat) ≤ n - (i : Int).toNat := Nat.min_le_left _ _
      exact h1 _ (by omega)
    refine And.intro trivial ⟨[(0, 0), (1, 1), (2, 2)], rfl, AVle.refl _, ⟨MOle.arr (by omega) fun j hj => ?_, trivial⟩⟩
    have e1 : Nat.min 1 ((i : Int).toNat + (n + 1 - i) - (i : Int).toNat) = 1 := Nat.min_eq_left (by omega)
    have e2 : Nat.min (n - (i : Int).toNat) ((i : Int).toNat + (n + 1 - i) - ((i : Int) + ((1 : Nat) : Int)).toNat) = n - i := (Nat.min_eq_left (by omega)).trans (by omega)
    have e3 : (i : Int).toNat = i := by omega
    have e4 : ((i : Int) + ((1 : Nat) : Int)).toNat = i + 1 := by omega
    have hj : j < n + 1 := by omega
    simp only [e1, e2]
    simp only [e3, e4]
    unfold insR
    by_cases c1 : j < i
    · rw [blt_t (show j < i + 1 by omega), blt_t c1, if_pos c1]
      simp only [cond_true, blt_t c1]
    · by_cases c2 : j = i
      · subst c2
        rw [blt_t (Nat.lt_succ_self j), blt_f (Nat.le_refl _), if_neg c1, if_pos rfl]
        simp [blt_t (Nat.lt_succ_self j)]
      · rw [blt_f (show i + 1 ≤ j by omega), blt_t (show j < i + 1 + (n - i) by omega), if_neg c1, if_neg c2]
        simp only [cond_true, cond_false]
        congr 1; omega
  · have g2 : n + 1 ≤ c := by have := of_decide_eq_false g2; omega
    refine And.intro (inI64 (by omega) (by omega)) ?_
    conv => whnf
    refine OpC.grow rfl rfl rfl rfl rfl rfl rfl ⟨by omega, by omega⟩ ?_
    refine And.intro (inI64 (by omega) (by omega)) ?_
    refine And.intro ⟨by omega, by omega⟩ ?_
    conv => whnf
    refine CallC.overlaps Tryz.func316 (by kernel_rfl) (by kernel_rfl) (by kernel_rfl) (tS := 26) (tR := 4) (sz := 3) (by kernel_rfl) rfl rfl (by decide) rfl rfl rfl (Nat.le_refl _) (by omega) rfl ?_
    conv => whnf
    refine DrawC.mk 8 rfl (by kernel_rfl) ?_
    refine And.intro (inI64 (by omega) (by omega)) ?_
    conv => whnf
    refine And.intro ⟨by omega, by omega⟩ ?_
    conv => whnf
    refine And.intro ⟨by omega, by omega⟩ ?_
    conv => whnf
    have m1 : Nat.min (((n : Int) + ((1 : Nat) : Int)).toNat - (i : Int).toNat) (((n : Int) + ((1 : Nat) : Int)).toNat - ((i : Int) + ((1 : Nat) : Int)).toNat) = n - i := (Nat.min_eq_right (by omega)).trans (by omega)
    have m2 : Nat.min 1 (((n : Int) + ((1 : Nat) : Int)).toNat - (i : Int).toNat) = 1 := Nat.min_eq_left (by omega)
    refine OpC.copy rfl rfl rfl rfl rfl rfl rfl (by show 1 ≤ ((n : Int) + ((1 : Nat) : Int)).toNat - ((i : Int) + ((1 : Nat) : Int)).toNat; omega) (by show 1 ≤ ((n : Int) + ((1 : Nat) : Int)).toNat - (i : Int).toNat; omega) (fun j hj => ?_) ?_
    · have hj : j < n - i := by rw [← m1]; exact hj
      dsimp only
      rw [blt_t (show (i : Int).toNat + j < n by omega)]
      exact h1 _ (by omega)
    refine And.intro ⟨by omega, by omega⟩ ?_
    conv => whnf
    refine OpC.copy rfl rfl rfl rfl rfl rfl rfl (by show 1 ≤ ((n : Int) + ((1 : Nat) : Int)).toNat - (i : Int).toNat; omega) (Nat.le_refl _) (fun j hj => ?_) ?_
    · have hj : j < 1 := by rw [← m2]; exact hj
      have : j = 0 := by omega
      subst this; exact h2
    refine And.intro trivial ⟨[(0, 0), (1, 1), (2, 2)], rfl, AVle.refl _, ⟨MOle.arr (by omega) fun j hj => ?_, trivial⟩⟩
    have e3 : (i : Int).toNat = i := by omega
    have e4 : ((i : Int) + ((1 : Nat) : Int)).toNat = i + 1 := by omega
    have e5 : ((n : Int) + ((1 : Nat) : Int)).toNat = n + 1 := by omega
    have hj : j < n + 1 := by omega
    simp only [m1, m2]
    simp only [e3, e4, e5]
    unfold insR
    by_cases c1 : j < i
    · rw [if_pos c1]
      simp only [cond_true, blt_t c1, blt_t (show j < i + 1 by omega), blt_t (show j < n by omega)]
    · by_cases c2 : j = i
      · subst c2
        rw [if_neg c1, if_pos rfl]
        simp [blt_f (Nat.le_refl j), blt_t (Nat.lt_succ_self j)]
      · rw [if_neg c1, if_neg c2]
        simp only [cond_true, cond_false, blt_f (show i ≤ j by omega), blt_f (show i + 1 ≤ j by omega), blt_t (show j < i + 1 + (n - i) by omega), blt_t (show i + (j - (i + 1)) < n by omega)]
        congr 1; omega
end Go.Proofs.YtpfmfdioonjccaaGreatDoor
