/- Contracts of functions that the claim reaches, and the plain law of what they compute; each theorem bears its own conditions. -/
import Derived.Test.YtijokkaeofagoaaGreatDoorQ9
import Derived.Test.YtijokkaeofagoaaGreatDoorQ1
import Derived.Test.YtijokkaeofagoaaGreatDoorQ2
set_option linter.unusedVariables false
set_option linter.constructorNameAsVariable false
set_option linter.unusedSimpArgs false
set_option maxRecDepth 20000
namespace Go.Proofs.YtijokkaeofagoaaGreatDoor
open Go Go.Vw

theorem en_tier0 {e : En} (h : e.ok = true) : 0 ≤ e.tier := by
  simp [En.ok] at h
  have := kT_nat e.key
  omega
theorem tier0 (e : En) : (e.ok && decide (0 ≤ e.tier)) = e.ok := by
  cases h : e.ok
  · rfl
  · rw [decide_eq_true (en_tier0 h)]; rfl
theorem tiered0 (e : En) (hk : e.key.length ≤ 1000000000) : VFn Tryz.prog 103 [.agg [.int .i64 0, .int .i64 0, .int .i64 e.tier, .int .i64 e.f, .int .i64 e.t, .str (B e.key)], .int .i64 0] (.bool e.ok) := by
  have c := l06Tiered_fn ⟨0, 0, e.tier, e.f, e.t, e.key⟩ hk 0
  have h : ((Rc.mk 0 0 e.tier e.f e.t e.key).en.ok && decide ((0 : Int) ≤ (Rc.mk 0 0 e.tier e.f e.t e.key).tier)) = e.ok := tier0 e
  rw [h] at c
  exact c
def Wk.ok2 (w : Wk) : Bool := w.ins.all En.ok && (within w.id 0 9 && (within w.ph 0 7 && (within w.tok (if decide (1 < w.ph) = true then 1 else 0) 999999 && ((!within w.ph 4 6 || (w.job.ok && (decide (w.job.tok = w.tok) && (decide (w.job.k = 3) || (decide (w.ph = 6) && decide (w.job.k = 4)))))) && (w.got.ok && (decide (w.got.c ≤ 1000) && decide ((w.ins.length : Int) ≤ 300)))))))
theorem Wk.ok2_ok (w : Wk) : w.ok2 = w.ok := by
  have e : within w.tok (if decide (1 < w.ph) = true then 1 else 0) 999999 = (within w.tok 0 999999 && !(decide (2 ≤ w.ph) && decide (w.tok = 0))) := by
    rw [Bool.eq_iff_iff]
    simp only [within, Bool.and_eq_true, decide_eq_true_eq, Bool.not_eq_true', Bool.and_eq_false_iff, decide_eq_false_iff_not]
    split <;> omega
  unfold Wk.ok2 Wk.ok gotOK
  rw [e]
  generalize w.ins.all En.ok = a
  generalize within w.id 0 9 = b
  generalize within w.ph 0 7 = c
  generalize within w.tok 0 999999 = d
  generalize (!(decide (2 ≤ w.ph) && decide (w.tok = 0))) = f
  generalize (!within w.ph 4 6 || (w.job.ok && (decide (w.job.tok = w.tok) && (decide (w.job.k = 3) || (decide (w.ph = 6) && decide (w.job.k = 4)))))) = g
  generalize w.got.ok = i
  generalize decide (w.got.c ≤ 1000) = j
  generalize decide ((w.ins.length : Int) ≤ 300) = k
  cases a <;> cases b <;> cases c <;> cases d <;> cases f <;> cases g <;> cases i <;> cases j <;> cases k <;> rfl
theorem all_pre {α : Type} [Inhabited α] {L : List α} {p : α → Bool} (h : ∀ j, j < L.length → p (ix L j) = true) : L.all p = true := List.all_eq_true.2 fun x hx => by
  obtain ⟨j, hj, rfl⟩ := List.getElem_of_mem hx
  have := h j hj
  rwa [ix_lt hj] at this
theorem all_bad {α : Type} [Inhabited α] {L : List α} {p : α → Bool} {j : Nat} (hj : j < L.length) (h : p (ix L j) = false) : L.all p = false := by
  cases hq : L.all p
  · rfl
  · have := List.all_eq_true.1 hq _ (getD_mem hj)
    have this : p (ix L j) = true := this
    rw [h] at this; cases this
theorem specWorkerOK_fn (w : Wk) (h : w.ins.length ≤ 1048576) (hj : w.job.key.length ≤ 1000000000) (hk : ∀ x ∈ w.ins, x.key.length ≤ 1000000000) : VFn Tryz.prog 49 [w.av] (.bool w.ok) := by
  rw [← Wk.ok2_ok]
  refine VFn.introC Tryz.call49 Tryz.func49 rfl rfl ?_
  refine LoopC.mk (fun i : Nat => i ≤ w.ins.length ∧ ∀ j, j < i → En.ok (ix w.ins j) = true) (fun i => [(1, .bptr 0 0), (3, .int .i64 i)]) (fun i => [(0, .box w.row)]) 1 (fun i => w.ins.length - i) 0
    ⟨⟨Nat.zero_le _, fun j hj => absurd hj (Nat.not_lt_zero j)⟩, [(0, 0)], rfl, rfl, ⟨AVle.refl _, AVle.refl _, trivial⟩, ⟨MOle.refl _, trivial⟩⟩ ?_
  intro i hi
  obtain ⟨hi, h0⟩ := hi
  refine Grd.intro (fun g => ?_) (fun g => ?_)
  · have hin : i < w.ins.length := by have := of_decide_eq_true g; omega
    refine And.intro (by omega) ?_
    by_cases ho : En.ok (ix w.ins i) = true
    · have c := tiered0 (ix w.ins i) (hk _ (getD_mem hin))
      rw [ho] at c
      conv => whnf
      refine CallC.sca _ (c) ?_ ?_
      · exact rfl
      refine And.intro (inI64 (by omega) (by omega)) ?_
      exact ⟨i + 1, ⟨hin, fun j hj => by
        rcases Nat.lt_or_ge j i with h' | h'
        · exact h0 j h'
        · rw [show j = i by omega]; exact ho⟩, by omega, [(0, 0)], rfl, rfl, ⟨AVle.refl _, AVle.of_eq (congrArg (AV.int .i64) (by simp)), trivial⟩, ⟨MOle.refl _, trivial⟩⟩
    · have ho : En.ok (ix w.ins i) = false := by simpa using ho
      have c := tiered0 (ix w.ins i) (hk _ (getD_mem hin))
      rw [ho] at c
      conv => whnf
      refine CallC.sca _ (c) ?_ ?_
      · exact rfl
      rw [show w.ok2 = false by unfold Wk.ok2; rw [all_bad hin ho]; rfl]
      exact And.intro trivial (AVle.refl _)
  · have : i = w.ins.length := by have := of_decide_eq_false g; omega
    subst this
    have hall : w.ins.all En.ok = true := all_pre h0
    clear g h0
    conv => whnf
    refine CallC.sca _ (l01In_fn w.ph 4 6) ?_ ?_
    · exact rfl
    refine DrawC.mkQ 69 [] rfl (by kernel_rfl) ?_; refine And.intro (by kernel_rfl) ?_
    repeat' (conv => whnf
             first
               | (refine Grd.intro (fun h => ?_) (fun h => ?_); rotate_left; focus (exfalso; simp_all; done))
               | (refine Grd.intro (fun h => ?_) (fun h => ?_); focus (exfalso; simp_all; done))
               | refine Grd.intro (fun h => ?_) (fun h => ?_)
               | (refine CallC.sca _ (l01In_fn w.id 0 9) ?_ ?_; focus (exact rfl))
               | (refine CallC.sca _ (l01In_fn w.ph 0 7) ?_ ?_; focus (exact rfl))
               | (refine CallC.sca _ (l01Bit_fn _) ?_ ?_; focus (exact rfl))
               | (refine CallC.sca _ (l01In_fn w.tok _ 999999) ?_ ?_; focus (exact rfl))
               | (refine CallC.sca _ (specRecordOK_fn w.job hj) ?_ ?_; focus (exact rfl))
               | (refine CallC.sca _ (specAggOK_fn w.got) ?_ ?_; focus (exact rfl))
               | refine PCallQ.sca _ (l01In_fn w.id 0 9) rfl ?_
               | refine PCallQ.sca _ (l01In_fn w.ph 0 7) rfl ?_
               | refine PCallQ.sca _ (l01Bit_fn _) rfl ?_
               | refine PCallQ.sca _ (l01In_fn w.tok _ 999999) rfl ?_
               | refine PCallQ.sca _ (specRecordOK_fn w.job hj) rfl ?_
               | refine PCallQ.sca _ (specAggOK_fn w.got) rfl ?_
               | (refine And.intro trivial (AVle.of_eq (congrArg AV.bool ?_)); focus (simp_all [Wk.ok2, -List.all_eq_true, -List.all_eq_false]; done))
               | (refine And.intro trivial (AVle.of_eq (congrArg AV.bool ?_)); focus (simp only [Wk.ok2, *, cond_true, cond_false, Bool.true_and, Bool.and_true, Bool.false_and, Bool.and_false, Bool.not_true, Bool.not_false, Bool.true_or, Bool.or_true, Bool.false_or, Bool.or_false, if_true, ite_true, reduceIte]; done))
               | (refine And.intro trivial (AVle.of_eq (congrArg AV.bool ?_)); focus (simp_all [Wk.ok2, -List.all_eq_true, -List.all_eq_false]; intros; omega))
               | fail)
def igOK (id seq f t : Int) (b : List Smp) (put : Bool) : Bool := within id 0 9 && (smpsOK b && (!decide (8 < (b.length : Int)) && (if put = true then decide (0 < (b.length : Int)) && (within seq 1 999999 && (within f 0 (ix b (Int.toNat 0)).t && decide (t = (ix b ((b.length : Int) - 1).toNat).t + 1))) else decide (seq = 0) && (decide (f = 0) && decide (t = 0)))))
def Ig.ok (e : Ig) : Bool := igOK e.id e.seq e.f e.t e.b e.put
theorem smps_b {L : List Smp} (h : smpsOK L = true) {i : Nat} (hi : i < L.length) : 0 ≤ (ix L i).t ∧ (ix L i).t ≤ 99999 := by
  unfold smpsOK at h
  simp only [Bool.and_eq_true] at h
  have := Go.Vw.allN_iff.1 h.2 i hi
  simp [smpAt, within] at this
  omega
theorem IngesterOK_fn0 (id seq f t : Int) (b : List Smp) (put : Bool) (h : b.length ≤ 1048576) : VFn Tryz.prog 69 [.agg [.int .i64 id, .int .i64 seq, .int .i64 f, .int .i64 t, smps b, .bool put]] (.bool (igOK id seq f t b put)) := by
  cases hs : smpsOK b
  · have cs := SamplesOK_fn b
    rw [hs] at cs
    have ho : igOK id seq f t b put = false := by unfold igOK; rw [hs]; simp
    rw [ho]
    refine VFn.introC Tryz.call69 Tryz.func69 rfl rfl ?_
    conv => whnf
    refine CallC.sca _ (isId0 id) ?_ ?_
    · exact rfl
    refine Grd.intro (fun h => ?_) (fun h => ?_)
    · exact And.intro trivial (AVle.refl _)
    · conv => whnf
      refine CallC.sca _ (cs) ?_ ?_
      · exact rfl
      exact And.intro trivial (AVle.refl _)
  · have cs := SamplesOK_fn b
    rw [hs] at cs
    cases put
    · refine VFn.introC Tryz.call69 Tryz.func69 rfl rfl ?_
      repeat' (conv => whnf
               first
                 | (refine Grd.intro (fun h => ?_) (fun h => ?_); rotate_left; focus (exfalso; simp_all; done))
                 | (refine Grd.intro (fun h => ?_) (fun h => ?_); focus (exfalso; simp_all; done))
                 | refine Grd.intro (fun h => ?_) (fun h => ?_)
                 | (refine CallC.sca _ (isId0 id) ?_ ?_; focus (exact rfl))
                 | (refine CallC.sca _ (cs) ?_ ?_; focus (exact rfl))
                 | (refine And.intro trivial (AVle.of_eq (congrArg AV.bool ?_)); focus (simp_all [igOK]; done))
                 | (refine And.intro trivial (AVle.of_eq (congrArg AV.bool ?_)); focus (simp only [igOK, *, cond_true, cond_false, Bool.true_and, Bool.and_true, Bool.false_and, Bool.and_false, Bool.not_true, Bool.not_false, Bool.true_or, Bool.or_true, Bool.false_or, Bool.or_false, if_true, ite_true, reduceIte]; done))
                 | (refine And.intro trivial (AVle.of_eq (congrArg AV.bool ?_)); focus (simp_all [igOK]; intros; omega))
                 | fail)
    by_cases hl : b.length = 0
    · refine VFn.introC Tryz.call69 Tryz.func69 rfl rfl ?_
      conv => whnf
      refine CallC.sca _ (isId0 id) ?_ ?_
      · exact rfl
      refine Grd.intro (fun h1 => ?_) (fun h1 => ?_)
      · rw [show igOK id seq f t b true = false by unfold igOK; simp_all]
        exact And.intro trivial (AVle.refl _)
      conv => whnf
      refine CallC.sca _ (cs) ?_ ?_
      · exact rfl
      refine Grd.intro (fun h2 => ?_) (fun h2 => ?_)
      · rw [show igOK id seq f t b true = false by unfold igOK; simp_all]
        exact And.intro trivial (AVle.refl _)
      refine DrawC.mkQ 32 [] rfl (by kernel_rfl) ?_; refine And.intro (by kernel_rfl) ?_
      repeat' (conv => whnf
               first
                 | (refine Grd.intro (fun h => ?_) (fun h => ?_); rotate_left; focus (exfalso; simp_all; done))
                 | (refine Grd.intro (fun h => ?_) (fun h => ?_); focus (exfalso; simp_all; done))
                 | refine Grd.intro (fun h => ?_) (fun h => ?_)
                 | (refine And.intro trivial (AVle.of_eq (congrArg AV.bool ?_)); focus (simp_all [igOK]; done))
                 | (refine And.intro trivial (AVle.of_eq (congrArg AV.bool ?_)); focus (simp only [igOK, *, cond_true, cond_false, Bool.true_and, Bool.and_true, Bool.false_and, Bool.and_false, Bool.not_true, Bool.not_false, Bool.true_or, Bool.or_true, Bool.false_or, Bool.or_false, if_true, ite_true, reduceIte]; done))
                 | (refine And.intro trivial (AVle.of_eq (congrArg AV.bool ?_)); focus (simp_all [igOK]; intros; omega))
                 | fail)
    · have b0 := smps_b hs (i := 0) (by omega)
      have bl := smps_b hs (i := ((b.length : Int) - 1).toNat) (by omega)
      refine VFn.introC Tryz.call69 Tryz.func69 rfl rfl ?_
      conv => whnf
      refine CallC.sca _ (isId0 id) ?_ ?_
      · exact rfl
      refine Grd.intro (fun h1 => ?_) (fun h1 => ?_)
      · rw [show igOK id seq f t b true = false by unfold igOK; simp_all]
        exact And.intro trivial (AVle.refl _)
      conv => whnf
      refine CallC.sca _ (cs) ?_ ?_
      · exact rfl
      clear cs
      refine Grd.intro (fun h2 => ?_) (fun h2 => ?_)
      · rw [show igOK id seq f t b true = false by unfold igOK; simp_all]
        exact And.intro trivial (AVle.refl _)
      refine DrawC.mkQ 32 [] rfl (by kernel_rfl) ?_; refine And.intro (by kernel_rfl) ?_
      repeat' (conv => whnf
               first
                 | (refine Grd.intro (fun h => ?_) (fun h => ?_); rotate_left; focus (exfalso; simp_all; done))
                 | (refine Grd.intro (fun h => ?_) (fun h => ?_); focus (exfalso; simp_all; done))
                 | refine Grd.intro (fun h => ?_) (fun h => ?_)
                 | (refine CallC.sca _ (within_fn seq 1 999999) ?_ ?_; focus (exact rfl))
                 | (refine CallC.sca _ (within_fn f 0 _) ?_ ?_; focus (exact rfl))
                 | refine PCallQ.sca _ (within_fn seq 1 999999) rfl ?_
                 | refine PCallQ.sca _ (within_fn f 0 _) rfl ?_
                 | (refine And.intro trivial (AVle.of_eq (congrArg AV.bool ?_)); focus (simp_all [igOK]; done))
                 | (refine And.intro trivial (AVle.of_eq (congrArg AV.bool ?_)); focus (simp only [igOK, *, cond_true, cond_false, Bool.true_and, Bool.and_true, Bool.false_and, Bool.and_false, Bool.not_true, Bool.not_false, Bool.true_or, Bool.or_true, Bool.false_or, Bool.or_false, if_true, ite_true, reduceIte]; done))
                 | (refine And.intro trivial (AVle.of_eq (congrArg AV.bool ?_)); focus (simp_all [igOK]; intros; omega))
                 | (refine And.intro ?_ ?_; focus (apply inI64 <;> omega))
                 | (refine And.intro ?_ ?_; focus (constructor <;> omega))
                 | fail)
theorem IngesterOK_fn (e : Ig) (h : e.b.length ≤ 1048576) : VFn Tryz.prog 69 [e.av] (.bool e.ok) := IngesterOK_fn0 e.id e.seq e.f e.t e.b e.put h
theorem specIngesterOK_fn0 (id seq f t : Int) (b : List Smp) (put : Bool) (h : b.length ≤ 1048576) : VFn Tryz.prog 50 [.agg [.int .i64 id, .int .i64 seq, .int .i64 f, .int .i64 t, smps b, .bool put]] (.bool (igOK id seq f t b put)) := by
  cases hs : smpsOK b
  · have cs := specSamplesOK_fn b
    rw [hs] at cs
    have ho : igOK id seq f t b put = false := by unfold igOK; rw [hs]; simp
    rw [ho]
    refine VFn.introC Tryz.call50 Tryz.func50 rfl rfl ?_
    conv => whnf
    refine CallC.sca _ (l01In_fn id 0 9) ?_ ?_
    · exact rfl
    refine Grd.intro (fun h => ?_) (fun h => ?_)
    · exact And.intro trivial (AVle.refl _)
    · conv => whnf
      refine CallC.sca _ (cs) ?_ ?_
      · exact rfl
      exact And.intro trivial (AVle.refl _)
  · have cs := specSamplesOK_fn b
    rw [hs] at cs
    cases put
    · refine VFn.introC Tryz.call50 Tryz.func50 rfl rfl ?_
      repeat' (conv => whnf
               first
                 | (refine Grd.intro (fun h => ?_) (fun h => ?_); rotate_left; focus (exfalso; simp_all; done))
                 | (refine Grd.intro (fun h => ?_) (fun h => ?_); focus (exfalso; simp_all; done))
                 | refine Grd.intro (fun h => ?_) (fun h => ?_)
                 | (refine CallC.sca _ (l01In_fn id 0 9) ?_ ?_; focus (exact rfl))
                 | (refine CallC.sca _ (cs) ?_ ?_; focus (exact rfl))
                 | (refine And.intro trivial (AVle.of_eq (congrArg AV.bool ?_)); focus (simp_all [igOK]; done))
                 | (refine And.intro trivial (AVle.of_eq (congrArg AV.bool ?_)); focus (simp only [igOK, *, cond_true, cond_false, Bool.true_and, Bool.and_true, Bool.false_and, Bool.and_false, Bool.not_true, Bool.not_false, Bool.true_or, Bool.or_true, Bool.false_or, Bool.or_false, if_true, ite_true, reduceIte]; done))
                 | (refine And.intro trivial (AVle.of_eq (congrArg AV.bool ?_)); focus (simp_all [igOK]; intros; omega))
                 | fail)
    by_cases hl : b.length = 0
    · refine VFn.introC Tryz.call50 Tryz.func50 rfl rfl ?_
      conv => whnf
      refine CallC.sca _ (l01In_fn id 0 9) ?_ ?_
      · exact rfl
      refine Grd.intro (fun h1 => ?_) (fun h1 => ?_)
      · rw [show igOK id seq f t b true = false by unfold igOK; simp_all]
        exact And.intro trivial (AVle.refl _)
      conv => whnf
      refine CallC.sca _ (cs) ?_ ?_
      · exact rfl
      refine Grd.intro (fun h2 => ?_) (fun h2 => ?_)
      · rw [show igOK id seq f t b true = false by unfold igOK; simp_all]
        exact And.intro trivial (AVle.refl _)
      refine DrawC.mkQ 32 [] rfl (by kernel_rfl) ?_; refine And.intro (by kernel_rfl) ?_
      repeat' (conv => whnf
               first
                 | (refine Grd.intro (fun h => ?_) (fun h => ?_); rotate_left; focus (exfalso; simp_all; done))
                 | (refine Grd.intro (fun h => ?_) (fun h => ?_); focus (exfalso; simp_all; done))
                 | refine Grd.intro (fun h => ?_) (fun h => ?_)
                 | (refine And.intro trivial (AVle.of_eq (congrArg AV.bool ?_)); focus (simp_all [igOK]; done))
                 | (refine And.intro trivial (AVle.of_eq (congrArg AV.bool ?_)); focus (simp only [igOK, *, cond_true, cond_false, Bool.true_and, Bool.and_true, Bool.false_and, Bool.and_false, Bool.not_true, Bool.not_false, Bool.true_or, Bool.or_true, Bool.false_or, Bool.or_false, if_true, ite_true, reduceIte]; done))
                 | (refine And.intro trivial (AVle.of_eq (congrArg AV.bool ?_)); focus (simp_all [igOK]; intros; omega))
                 | fail)
    · have b0 := smps_b hs (i := 0) (by omega)
      have bl := smps_b hs (i := ((b.length : Int) - 1).toNat) (by omega)
      refine VFn.introC Tryz.call50 Tryz.func50 rfl rfl ?_
      conv => whnf
      refine CallC.sca _ (l01In_fn id 0 9) ?_ ?_
      · exact rfl
      refine Grd.intro (fun h1 => ?_) (fun h1 => ?_)
      · rw [show igOK id seq f t b true = false by unfold igOK; simp_all]
        exact And.intro trivial (AVle.refl _)
      conv => whnf
      refine CallC.sca _ (cs) ?_ ?_
      · exact rfl
      clear cs
      refine Grd.intro (fun h2 => ?_) (fun h2 => ?_)
      · rw [show igOK id seq f t b true = false by unfold igOK; simp_all]
        exact And.intro trivial (AVle.refl _)
      refine DrawC.mkQ 32 [] rfl (by kernel_rfl) ?_; refine And.intro (by kernel_rfl) ?_
      repeat' (conv => whnf
               first
                 | (refine Grd.intro (fun h => ?_) (fun h => ?_); rotate_left; focus (exfalso; simp_all; done))
                 | (refine Grd.intro (fun h => ?_) (fun h => ?_); focus (exfalso; simp_all; done))
                 | refine Grd.intro (fun h => ?_) (fun h => ?_)
                 | (refine CallC.sca _ (l01In_fn seq 1 999999) ?_ ?_; focus (exact rfl))
                 | (refine CallC.sca _ (l01In_fn f 0 _) ?_ ?_; focus (exact rfl))
                 | refine PCallQ.sca _ (l01In_fn seq 1 999999) rfl ?_
                 | refine PCallQ.sca _ (l01In_fn f 0 _) rfl ?_
                 | (refine And.intro trivial (AVle.of_eq (congrArg AV.bool ?_)); focus (simp_all [igOK]; done))
                 | (refine And.intro trivial (AVle.of_eq (congrArg AV.bool ?_)); focus (simp only [igOK, *, cond_true, cond_false, Bool.true_and, Bool.and_true, Bool.false_and, Bool.and_false, Bool.not_true, Bool.not_false, Bool.true_or, Bool.or_true, Bool.false_or, Bool.or_false, if_true, ite_true, reduceIte]; done))
                 | (refine And.intro trivial (AVle.of_eq (congrArg AV.bool ?_)); focus (simp_all [igOK]; intros; omega))
                 | (refine And.intro ?_ ?_; focus (apply inI64 <;> omega))
                 | (refine And.intro ?_ ?_; focus (constructor <;> omega))
                 | fail)
theorem specIngesterOK_fn (e : Ig) (h : e.b.length ≤ 1048576) : VFn Tryz.prog 50 [e.av] (.bool e.ok) := specIngesterOK_fn0 e.id e.seq e.f e.t e.b e.put h
end Go.Proofs.YtijokkaeofagoaaGreatDoor
set_option linter.unusedVariables false
set_option linter.constructorNameAsVariable false
set_option linter.unusedSimpArgs false
set_option maxRecDepth 20000
namespace Go.Proofs.YtijokkaeofagoaaGreatDoor
open Go Go.Vw

def atTier (k : Int) (x : En) : Bool := x.ok && decide (x.tier = k)
def Rr.ok (r : Rr) : Bool := within r.id 0 9 && (within r.ph 0 4 && (within r.tier 0 2 && (isRange r.f r.t && (within r.til 0 200000 && (within r.code 0 19 && (gotOK r.got && (decide ((r.left.length : Int) ≤ 300) && r.left.all (atTier r.tier))))))))
theorem ReaderOK1_fn (e : En) (r : Rr) : VFn Tryz.prog 134 [e.av, .eptr r.row 0] (.bool (atTier r.tier e)) := by
  refine VFn.introC Tryz.call134 Tryz.func134 rfl rfl ?_
  repeat' (conv => whnf
           first
             | (refine Grd.intro (fun h => ?_) (fun h => ?_); rotate_left; focus (exfalso; simp_all; done))
             | (refine Grd.intro (fun h => ?_) (fun h => ?_); focus (exfalso; simp_all; done))
             | refine Grd.intro (fun h => ?_) (fun h => ?_)
             | (refine CallC.sca _ (entryOK_fn e) ?_ ?_; focus (exact rfl))
             | (refine And.intro trivial (AVle.of_eq (congrArg AV.bool ?_)); focus (simp_all [atTier]; done))
             | (refine And.intro trivial (AVle.of_eq (congrArg AV.bool ?_)); focus (simp only [atTier, *, cond_true, cond_false, Bool.true_and, Bool.and_true, Bool.false_and, Bool.and_false, Bool.not_true, Bool.not_false, Bool.true_or, Bool.or_true, Bool.false_or, Bool.or_false, if_true, ite_true, reduceIte]; done))
             | (refine And.intro trivial (AVle.of_eq (congrArg AV.bool ?_)); focus (simp_all [atTier]; intros; omega))
             | (refine And.intro trivial (AVle.of_eq (congrArg AV.bool ?_)); focus (simp only [cond_true, cond_false, Bool.not_eq_true', Bool.not_eq_false'] at *; simp only [atTier, *, cond_true, cond_false, Bool.true_and, Bool.and_true, Bool.false_and, Bool.and_false, Bool.not_true, Bool.not_false, Bool.true_or, Bool.or_true, Bool.false_or, Bool.or_false, if_true, ite_true, reduceIte]; done))
             | fail)
theorem ReaderOK_fn (r : Rr) (h : r.left.length ≤ 1048576) : VFn Tryz.prog 70 [r.av] (.bool r.ok) := by
  refine VFn.introC Tryz.call70 Tryz.func70 rfl rfl ?_
  repeat' (conv => whnf
           first
             | (refine Grd.intro (fun h => ?_) (fun h => ?_); rotate_left; focus (exfalso; simp_all; done))
             | (refine Grd.intro (fun h => ?_) (fun h => ?_); focus (exfalso; simp_all; done))
             | refine Grd.intro (fun h => ?_) (fun h => ?_)
             | (refine CallC.sca _ (isId0 r.id) ?_ ?_; focus (exact rfl))
             | (refine CallC.sca _ (within_fn r.ph 0 4) ?_ ?_; focus (exact rfl))
             | (refine CallC.sca _ (isTier_fn r.tier) ?_ ?_; focus (exact rfl))
             | (refine CallC.sca _ (isRange_fn r.f r.t) ?_ ?_; focus (exact rfl))
             | (refine CallC.sca _ (isUntil0 r.til) ?_ ?_; focus (exact rfl))
             | (refine CallC.sca _ (isCode0 r.code) ?_ ?_; focus (exact rfl))
             | (refine CallC.sca _ (isGot_fn r.got) ?_ ?_; focus (exact rfl))
             | (refine CallC.sca _ (allEnC_fn r.left (by omega) 134 r.row (atTier r.tier) (fun e _ => ReaderOK1_fn e r)) ?_ ?_; focus (exact rfl))
             | (refine And.intro trivial (AVle.of_eq (congrArg AV.bool ?_)); focus (simp_all [Rr.ok, -List.all_eq_true, -List.all_eq_false]; done))
             | (refine And.intro trivial (AVle.of_eq (congrArg AV.bool ?_)); focus (simp only [Rr.ok, *, cond_true, cond_false, Bool.true_and, Bool.and_true, Bool.false_and, Bool.and_false, Bool.not_true, Bool.not_false, Bool.true_or, Bool.or_true, Bool.false_or, Bool.or_false, if_true, ite_true, reduceIte]; done))
             | (refine And.intro trivial (AVle.of_eq (congrArg AV.bool ?_)); focus (simp_all [Rr.ok, -List.all_eq_true, -List.all_eq_false]; intros; omega))
             | (refine And.intro trivial (AVle.of_eq (congrArg AV.bool ?_)); focus (simp only [cond_true, cond_false, Bool.not_eq_true', Bool.not_eq_false'] at *; simp only [Rr.ok, *, cond_true, cond_false, Bool.true_and, Bool.and_true, Bool.false_and, Bool.and_false, Bool.not_true, Bool.not_false, Bool.true_or, Bool.or_true, Bool.false_or, Bool.or_false, if_true, ite_true, reduceIte]; done))
             | fail)
def Rr.ok2 (r : Rr) : Bool := r.left.all (atTier r.tier) && (within r.id 0 9 && (within r.ph 0 4 && (within r.til 0 200000 && (within r.code 0 19 && (r.got.ok && (!decide (1000 < r.got.c) && (!decide (300 < (r.left.length : Int)) && (within r.tier 0 2 && isRange r.f r.t))))))))
theorem Rr.ok2_ok (r : Rr) : r.ok2 = r.ok := by
  have e1 : decide (r.got.c ≤ 1000) = !decide (1000 < r.got.c) := by rw [Bool.eq_iff_iff]; simp
  have e2 : decide ((r.left.length : Int) ≤ 300) = !decide (300 < (r.left.length : Int)) := by rw [Bool.eq_iff_iff]; simp
  unfold Rr.ok2 Rr.ok gotOK
  rw [e1, e2]
  generalize r.left.all (atTier r.tier) = a
  generalize within r.id 0 9 = b
  generalize within r.ph 0 4 = c
  generalize within r.til 0 200000 = d
  generalize within r.code 0 19 = f
  generalize r.got.ok = g
  generalize (!decide (1000 < r.got.c)) = i
  generalize (!decide (300 < (r.left.length : Int))) = j
  generalize within r.tier 0 2 = k
  generalize isRange r.f r.t = l
  cases a <;> cases b <;> cases c <;> cases d <;> cases f <;> cases g <;> cases i <;> cases j <;> cases k <;> cases l <;> rfl
theorem specReaderOK_fn (r : Rr) (h : r.left.length ≤ 1048576) (hk : ∀ x ∈ r.left, x.key.length ≤ 1000000000) : VFn Tryz.prog 51 [r.av] (.bool r.ok) := by
  rw [← Rr.ok2_ok]
  refine VFn.introC Tryz.call51 Tryz.func51 rfl rfl ?_
  refine LoopC.mk (fun i : Nat => i ≤ r.left.length ∧ ∀ j, j < i → atTier r.tier (ix r.left j) = true) (fun i => [(1, .bptr 0 0), (3, .int .i64 i)]) (fun i => [(0, .box r.row)]) 1 (fun i => r.left.length - i) 0
    ⟨⟨Nat.zero_le _, fun j hj => absurd hj (Nat.not_lt_zero j)⟩, [(0, 0)], rfl, rfl, ⟨AVle.refl _, AVle.refl _, trivial⟩, ⟨MOle.refl _, trivial⟩⟩ ?_
  intro i hi
  obtain ⟨hi, h0⟩ := hi
  refine Grd.intro (fun g => ?_) (fun g => ?_)
  · have hin : i < r.left.length := by have := of_decide_eq_true g; omega
    refine And.intro (by omega) ?_
    have c := tiered0 (ix r.left i) (hk _ (getD_mem hin))
    by_cases ho : En.ok (ix r.left i) = true
    · rw [ho] at c
      by_cases ht : (ix r.left i).tier = r.tier
      · have ha : atTier r.tier (ix r.left i) = true := by simp [atTier, ho, ht]
        conv => whnf
        refine CallC.sca _ (c) ?_ ?_
        · exact rfl
        refine Grd.intro (fun g2 => ?_) (fun g2 => ?_)
        · exfalso
          have g2 : (!decide ((ix r.left i).tier = r.tier)) = true := g2
          rw [decide_eq_true ht] at g2; cases g2
        refine And.intro (inI64 (by omega) (by omega)) ?_
        exact ⟨i + 1, ⟨hin, fun j hj => by
          rcases Nat.lt_or_ge j i with h' | h'
          · exact h0 j h'
          · rw [show j = i by omega]; exact ha⟩, by omega, [(0, 0)], rfl, rfl, ⟨AVle.refl _, AVle.of_eq (congrArg (AV.int .i64) (by simp)), trivial⟩, ⟨MOle.refl _, trivial⟩⟩
      · have ha : atTier r.tier (ix r.left i) = false := by simp [atTier, ho, ht]
        conv => whnf
        refine CallC.sca _ (c) ?_ ?_
        · exact rfl
        refine Grd.intro (fun g2 => ?_) (fun g2 => ?_)
        · rw [show r.ok2 = false by unfold Rr.ok2; rw [all_bad hin ha]; rfl]
          exact And.intro trivial (AVle.refl _)
        · exfalso
          have g2 : (!decide ((ix r.left i).tier = r.tier)) = false := g2
          rw [decide_eq_false ht] at g2; cases g2
    · have ho : En.ok (ix r.left i) = false := by simpa using ho
      have ha : atTier r.tier (ix r.left i) = false := by simp [atTier, ho]
      rw [ho] at c
      conv => whnf
      refine CallC.sca _ (c) ?_ ?_
      · exact rfl
      rw [show r.ok2 = false by unfold Rr.ok2; rw [all_bad hin ha]; rfl]
      exact And.intro trivial (AVle.refl _)
  · have : i = r.left.length := by have := of_decide_eq_false g; omega
    subst this
    have hall : r.left.all (atTier r.tier) = true := all_pre h0
    clear g h0
    repeat' (conv => whnf
             first
               | (refine Grd.intro (fun h => ?_) (fun h => ?_); rotate_left; focus (exfalso; simp_all; done))
               | (refine Grd.intro (fun h => ?_) (fun h => ?_); focus (exfalso; simp_all; done))
               | refine Grd.intro (fun h => ?_) (fun h => ?_)
               | (refine CallC.sca _ (l01In_fn r.id 0 9) ?_ ?_; focus (exact rfl))
               | (refine CallC.sca _ (l01In_fn r.ph 0 4) ?_ ?_; focus (exact rfl))
               | (refine CallC.sca _ (l01In_fn r.til 0 200000) ?_ ?_; focus (exact rfl))
               | (refine CallC.sca _ (l01In_fn r.code 0 19) ?_ ?_; focus (exact rfl))
               | (refine CallC.sca _ (specAggOK_fn r.got) ?_ ?_; focus (exact rfl))
               | (refine CallC.sca _ (l04Tier_fn r.tier) ?_ ?_; focus (exact rfl))
               | (refine CallC.sca _ (l04Range_fn r.f r.t) ?_ ?_; focus (exact rfl))
               | (refine And.intro trivial (AVle.of_eq (congrArg AV.bool ?_)); focus (simp_all [Rr.ok2, -List.all_eq_true, -List.all_eq_false]; done))
               | (refine And.intro trivial (AVle.of_eq (congrArg AV.bool ?_)); focus (simp only [Rr.ok2, *, cond_true, cond_false, Bool.true_and, Bool.and_true, Bool.false_and, Bool.and_false, Bool.not_true, Bool.not_false, Bool.true_or, Bool.or_true, Bool.false_or, Bool.or_false, if_true, ite_true, reduceIte]; done))
               | (refine And.intro trivial (AVle.of_eq (congrArg AV.bool ?_)); focus (simp_all [Rr.ok2, -List.all_eq_true, -List.all_eq_false]; intros; omega))
               | (refine And.intro trivial (AVle.of_eq (congrArg AV.bool ?_)); focus (simp only [cond_true, cond_false, Bool.not_eq_true', Bool.not_eq_false'] at *; simp only [Rr.ok2, *, cond_true, cond_false, Bool.true_and, Bool.and_true, Bool.false_and, Bool.and_false, Bool.not_true, Bool.not_false, Bool.true_or, Bool.or_true, Bool.false_or, Bool.or_false, if_true, ite_true, reduceIte]; done))
               | fail)
end Go.Proofs.YtijokkaeofagoaaGreatDoor
set_option linter.unusedVariables false
set_option linter.constructorNameAsVariable false
set_option linter.unusedSimpArgs false
set_option maxRecDepth 20000
namespace Go.Proofs.YtijokkaeofagoaaGreatDoor
open Go Go.Vw

def Fl.lens (s : Fl) : Bool := decide ((s.ws.length : Int) = 2) && (decide ((s.gs.length : Int) = 2) && decide ((s.rs.length : Int) = 2))
def Fl.skOK (s : Fl) : Bool := [s.k0, s.k1, s.k2, s.k3, s.k4, s.k5, s.k6].all fun e => within e (-3) 3
def Fl.rnd (s : Fl) (i : Nat) : Bool := decide ((ix s.ws i).id = i) && (decide ((ix s.gs i).id = 2 + i) && (decide ((ix s.rs i).id = 4 + i) && ((ix s.ws i).ok && ((ix s.gs i).ok && (ix s.rs i).ok))))
def Fl.fin (s : Fl) : Bool := smpsOK s.ac && (!decide (4096 < s.an.length) && s.an.all An.ok)
def Fl.ok (s : Fl) : Bool := s.st.ok && (within s.clk 3 100000 && (s.skOK && (s.lens && (s.rnd 0 && (s.rnd 1 && s.fin)))))
theorem FleetOK_sk (s : Fl) : VFn Tryz.prog 66 [.sl 1 7 fun i => [s.row.getD (3 + i) .any], .fn (.func 67) [] []] (.bool s.skOK) := by
  refine (allIn_fn [s.k0, s.k1, s.k2, s.k3, s.k4, s.k5, s.k6] (by simp) 67 (fun e => within e (-3) 3) (fun e _ => isSkew_fn e)).weak (AVsle.cons (AVle.sl rfl fun i hi => ?_) (AVsle.cons (AVle.refl _) AVsle.nil)) (AVle.refl _)
  match i, hi with
  | 0, _ => rfl
  | 1, _ => rfl
  | 2, _ => rfl
  | 3, _ => rfl
  | 4, _ => rfl
  | 5, _ => rfl
  | 6, _ => rfl
theorem FleetOK_fn (s : Fl) (hS : s.small) : VFn Tryz.prog 27 [s.av] (.bool s.ok) := by
  by_cases hl : s.ws.length = 2 ∧ s.gs.length = 2 ∧ s.rs.length = 2
  · obtain ⟨l1, l2, l3⟩ := hl
    have hl : s.lens = true := by unfold Fl.lens; simp [l1, l2, l3]
    have e1 : decide ((s.ws.length : Int) = 2) = true := decide_eq_true (by omega)
    have e2 : decide ((s.gs.length : Int) = 2) = true := decide_eq_true (by omega)
    have e3 : decide ((s.rs.length : Int) = 2) = true := decide_eq_true (by omega)
    have w0 := WorkerOK_fn (ix s.ws 0) (hS.wr _ (getD_mem (by omega)))
    have w1 := WorkerOK_fn (ix s.ws 1) (hS.wr _ (getD_mem (by omega)))
    have g0 := IngesterOK_fn (ix s.gs 0) (hS.gr _ (getD_mem (by omega)))
    have g1 := IngesterOK_fn (ix s.gs 1) (hS.gr _ (getD_mem (by omega)))
    have r0 := ReaderOK_fn (ix s.rs 0) (hS.rr _ (getD_mem (by omega)))
    have r1 := ReaderOK_fn (ix s.rs 1) (hS.rr _ (getD_mem (by omega)))
    refine VFn.introC Tryz.call27 Tryz.func27 rfl rfl ?_
    repeat' (conv => whnf
             first
               | (refine Grd.intro (fun h => ?_) (fun h => ?_); rotate_left; focus (exfalso; simp_all; done))
               | (refine Grd.intro (fun h => ?_) (fun h => ?_); focus (exfalso; simp_all; done))
               | refine Grd.intro (fun h => ?_) (fun h => ?_)
               | (refine CallC.sca _ (StoreOK_fn s.st (by have := hS.st; omega) (fun o ho => by have := hS.sk o ho; omega)) ?_ ?_; focus (exact rfl))
               | (refine CallC.sca _ (within_fn s.clk 3 100000) ?_ ?_; focus (exact rfl))
               | (refine CallC.sca _ (FleetOK_sk s) ?_ ?_; focus (exact rfl))
               | (refine CallC.sca _ (SamplesOK_fn s.ac) ?_ ?_; focus (exact rfl))
               | (refine CallC.sca _ (isLongAn_fn s.an) ?_ ?_; focus (exact rfl))
               | (refine CallC.sca _ (allAn_fn s.an (by have := hS.an; omega) 74 An.ok (fun e _ => answerOK_fn e)) ?_ ?_; focus (exact rfl))
               | (refine CallC.sca _ (w0) ?_ ?_; focus (exact rfl))
               | (refine CallC.sca _ (w1) ?_ ?_; focus (exact rfl))
               | (refine CallC.sca _ (g0) ?_ ?_; focus (exact rfl))
               | (refine CallC.sca _ (g1) ?_ ?_; focus (exact rfl))
               | (refine CallC.sca _ (r0) ?_ ?_; focus (exact rfl))
               | (refine CallC.sca _ (r1) ?_ ?_; focus (exact rfl))
               | (refine And.intro trivial (AVle.of_eq (congrArg AV.bool ?_)); focus (simp_all [Fl.ok, Fl.rnd, Fl.fin, -List.all_eq_true, -List.all_eq_false]; done))
               | (refine And.intro trivial (AVle.of_eq (congrArg AV.bool ?_)); focus (simp only [Fl.ok, *, cond_true, cond_false, Bool.true_and, Bool.and_true, Bool.false_and, Bool.and_false, Bool.not_true, Bool.not_false, Bool.true_or, Bool.or_true, Bool.false_or, Bool.or_false, if_true, ite_true, reduceIte]; done))
               | (refine And.intro trivial (AVle.of_eq (congrArg AV.bool ?_)); focus (simp_all [Fl.ok, Fl.rnd, Fl.fin, -List.all_eq_true, -List.all_eq_false]; intros; omega))
               | (refine And.intro trivial (AVle.of_eq (congrArg AV.bool ?_)); focus (simp only [cond_true, cond_false, Bool.not_eq_true', Bool.not_eq_false'] at *; simp only [Fl.ok, *, cond_true, cond_false, Bool.true_and, Bool.and_true, Bool.false_and, Bool.and_false, Bool.not_true, Bool.not_false, Bool.true_or, Bool.or_true, Bool.false_or, Bool.or_false, if_true, ite_true, reduceIte]; done))
               | refine OpC.asl rfl rfl ⟨_, rfl⟩ rfl rfl rfl rfl rfl ?_
               | refine LoopC.rounds 3 ?_
               | (refine DrawC.mkQ 21 [(.inr 15, 18), (.inr 16, 19), (.inr 17, 20)] rfl (by kernel_rfl) ?_; refine And.intro (by kernel_rfl) ?_)
               | refine And.intro (by omega) ?_
               | refine And.intro (inI64 (by omega) (by omega)) ?_
               | fail)
  · have hl' : s.lens = false := by unfold Fl.lens; rw [Bool.eq_false_iff]; intro h; apply hl; simp at h; omega
    have hl : ¬ ((s.ws.length : Int) = 2 ∧ (s.gs.length : Int) = 2 ∧ (s.rs.length : Int) = 2) := by omega
    rw [show s.ok = (s.st.ok && (within s.clk 3 100000 && (s.skOK && false))) by unfold Fl.ok; rw [hl']; rfl]
    refine VFn.introC Tryz.call27 Tryz.func27 rfl rfl ?_
    repeat' (conv => whnf
             first
               | (refine Grd.intro (fun h => ?_) (fun h => ?_); rotate_left; focus (exfalso; simp_all; done))
               | (refine Grd.intro (fun h => ?_) (fun h => ?_); focus (exfalso; simp_all; done))
               | refine Grd.intro (fun h => ?_) (fun h => ?_)
               | (refine CallC.sca _ (StoreOK_fn s.st (by have := hS.st; omega) (fun o ho => by have := hS.sk o ho; omega)) ?_ ?_; focus (exact rfl))
               | (refine CallC.sca _ (within_fn s.clk 3 100000) ?_ ?_; focus (exact rfl))
               | (refine CallC.sca _ (FleetOK_sk s) ?_ ?_; focus (exact rfl))
               | (refine CallC.sca _ (SamplesOK_fn s.ac) ?_ ?_; focus (exact rfl))
               | (refine CallC.sca _ (isLongAn_fn s.an) ?_ ?_; focus (exact rfl))
               | (refine CallC.sca _ (allAn_fn s.an (by have := hS.an; omega) 74 An.ok (fun e _ => answerOK_fn e)) ?_ ?_; focus (exact rfl))
               | (refine And.intro trivial (AVle.of_eq (congrArg AV.bool ?_)); focus (simp_all [Fl.ok, Fl.rnd, Fl.fin, -List.all_eq_true, -List.all_eq_false]; done))
               | (refine And.intro trivial (AVle.of_eq (congrArg AV.bool ?_)); focus (simp only [Fl.ok, *, cond_true, cond_false, Bool.true_and, Bool.and_true, Bool.false_and, Bool.and_false, Bool.not_true, Bool.not_false, Bool.true_or, Bool.or_true, Bool.false_or, Bool.or_false, if_true, ite_true, reduceIte]; done))
               | (refine And.intro trivial (AVle.of_eq (congrArg AV.bool ?_)); focus (simp_all [Fl.ok, Fl.rnd, Fl.fin, -List.all_eq_true, -List.all_eq_false]; intros; omega))
               | (refine And.intro trivial (AVle.of_eq (congrArg AV.bool ?_)); focus (simp only [cond_true, cond_false, Bool.not_eq_true', Bool.not_eq_false'] at *; simp only [Fl.ok, *, cond_true, cond_false, Bool.true_and, Bool.and_true, Bool.false_and, Bool.and_false, Bool.not_true, Bool.not_false, Bool.true_or, Bool.or_true, Bool.false_or, Bool.or_false, if_true, ite_true, reduceIte]; done))
               | refine OpC.asl rfl rfl ⟨_, rfl⟩ rfl rfl rfl rfl rfl ?_
               | refine LoopC.rounds 3 ?_
               | (refine DrawC.mkQ 21 [(.inr 15, 18), (.inr 16, 19), (.inr 17, 20)] rfl (by kernel_rfl) ?_; refine And.intro (by kernel_rfl) ?_)
               | refine And.intro (by omega) ?_
               | refine And.intro (inI64 (by omega) (by omega)) ?_
               | fail)
end Go.Proofs.YtijokkaeofagoaaGreatDoor
set_option linter.unusedVariables false
set_option linter.constructorNameAsVariable false
set_option linter.unusedSimpArgs false
set_option maxRecDepth 20000
namespace Go.Proofs.YtijokkaeofagoaaGreatDoor
open Go Go.Vw

def Fl.rnd2 (s : Fl) (i : Nat) : Bool := (ix s.ws i).ok && (decide ((ix s.ws i).id = i) && ((ix s.gs i).ok && (decide ((ix s.gs i).id = 2 + i) && ((ix s.rs i).ok && decide ((ix s.rs i).id = 4 + i)))))
def Fl.ok2 (s : Fl) : Bool := s.st.ok && (within s.clk 3 100000 && (s.lens && (smpsOK s.ac && (!decide (4096 < (s.ac.length : Int)) && (!decide (4096 < (s.an.length : Int)) && (s.rnd2 0 && (s.rnd2 1 && (s.skOK && s.an.all An.ok))))))))
theorem Fl.ok2_ok (s : Fl) : s.ok2 = s.ok := by
  have e1 : decide (4096 < (s.an.length : Int)) = decide (4096 < s.an.length) := decide_eq_decide.2 (by omega)
  have e2 : (smpsOK s.ac && !decide (4096 < (s.ac.length : Int))) = smpsOK s.ac := by
    cases hs : smpsOK s.ac
    · rfl
    · have : s.ac.length ≤ 4096 := by
        simp [smpsOK] at hs
        omega
      simp; omega
  unfold Fl.ok2 Fl.ok Fl.fin Fl.rnd2 Fl.rnd
  rw [e1, ← Bool.and_assoc (smpsOK s.ac), e2]
  ac_rfl
set_option maxHeartbeats 2000000 in
theorem specFleetOK_fn (s : Fl) (hS : s.small) (hI : -9223372036854775808 ≤ s.st.next ∧ s.st.next ≤ 9223372036854775807) : VFn Tryz.prog 18 [s.av] (.bool s.ok) := by
  rw [← Fl.ok2_ok]
  have hA := hS.an
  by_cases hl : s.ws.length = 2 ∧ s.gs.length = 2 ∧ s.rs.length = 2
  · obtain ⟨l1, l2, l3⟩ := hl
    have hl : s.lens = true := by unfold Fl.lens; simp [l1, l2, l3]
    have e1 : decide ((s.ws.length : Int) = 2) = true := decide_eq_true (by omega)
    have e2 : decide ((s.gs.length : Int) = 2) = true := decide_eq_true (by omega)
    have e3 : decide ((s.rs.length : Int) = 2) = true := decide_eq_true (by omega)
    have kk : ∀ i : Nat, i < s.ws.length → (ix s.ws i).job.key.length ≤ 1000000000 ∧ ∀ x ∈ (ix s.ws i).ins, x.key.length ≤ 1000000000 := fun i hi => ⟨by have := (hS.wk _ (getD_mem hi)).1; omega, fun x hx => by have := (hS.wk _ (getD_mem hi)).2 x hx; omega⟩
    have kr : ∀ i : Nat, i < s.rs.length → ∀ x ∈ (ix s.rs i).left, x.key.length ≤ 1000000000 := fun i hi x hx => by have := hS.rk _ (getD_mem hi) x hx; omega
    have w0 := specWorkerOK_fn (ix s.ws 0) (hS.wr _ (getD_mem (by omega))) (kk 0 (by omega)).1 (kk 0 (by omega)).2
    have w1 := specWorkerOK_fn (ix s.ws 1) (hS.wr _ (getD_mem (by omega))) (kk 1 (by omega)).1 (kk 1 (by omega)).2
    have g0 := specIngesterOK_fn (ix s.gs 0) (hS.gr _ (getD_mem (by omega)))
    have g1 := specIngesterOK_fn (ix s.gs 1) (hS.gr _ (getD_mem (by omega)))
    have r0 := specReaderOK_fn (ix s.rs 0) (hS.rr _ (getD_mem (by omega))) (kr 0 (by omega))
    have r1 := specReaderOK_fn (ix s.rs 1) (hS.rr _ (getD_mem (by omega))) (kr 1 (by omega))
    clear kk kr
    refine VFn.introC Tryz.call18 Tryz.func18 rfl rfl ?_
    repeat' (conv => whnf
             first
               | (refine Grd.intro (fun h => ?_) (fun h => ?_); rotate_left; focus (exfalso; simp_all; done))
               | (refine Grd.intro (fun h => ?_) (fun h => ?_); focus (exfalso; simp_all; done))
               | refine Grd.intro (fun h => ?_) (fun h => ?_)
               | (refine CallC.sca _ (specStoreOK_ok s.st (by have := hS.st; omega) (fun o ho => by have := hS.sk o ho; omega) hI) ?_ ?_; focus (exact rfl))
               | (refine CallC.sca _ (l01In_fn s.clk 3 100000) ?_ ?_; focus (exact rfl))
               | (refine CallC.sca _ (specSamplesOK_fn s.ac) ?_ ?_; focus (exact rfl))
               | (refine CallC.sca _ (l01In_fn s.k0 (-3) 3) ?_ ?_; focus (exact rfl))
               | (refine CallC.sca _ (l01In_fn s.k1 (-3) 3) ?_ ?_; focus (exact rfl))
               | (refine CallC.sca _ (l01In_fn s.k2 (-3) 3) ?_ ?_; focus (exact rfl))
               | (refine CallC.sca _ (l01In_fn s.k3 (-3) 3) ?_ ?_; focus (exact rfl))
               | (refine CallC.sca _ (l01In_fn s.k4 (-3) 3) ?_ ?_; focus (exact rfl))
               | (refine CallC.sca _ (l01In_fn s.k5 (-3) 3) ?_ ?_; focus (exact rfl))
               | (refine CallC.sca _ (l01In_fn s.k6 (-3) 3) ?_ ?_; focus (exact rfl))
               | (refine CallC.sca _ (w0) ?_ ?_; focus (exact rfl))
               | (refine CallC.sca _ (w1) ?_ ?_; focus (exact rfl))
               | (refine CallC.sca _ (g0) ?_ ?_; focus (exact rfl))
               | (refine CallC.sca _ (g1) ?_ ?_; focus (exact rfl))
               | (refine CallC.sca _ (r0) ?_ ?_; focus (exact rfl))
               | (refine CallC.sca _ (r1) ?_ ?_; focus (exact rfl))
               | (refine And.intro trivial (AVle.of_eq (congrArg AV.bool ?_)); focus (simp_all [Fl.ok2, Fl.rnd2, Fl.skOK, -List.all_eq_true, -List.all_eq_false]; done))
               | (refine And.intro trivial (AVle.of_eq (congrArg AV.bool ?_)); focus (simp only [Fl.ok2, *, cond_true, cond_false, Bool.true_and, Bool.and_true, Bool.false_and, Bool.and_false, Bool.not_true, Bool.not_false, Bool.true_or, Bool.or_true, Bool.false_or, Bool.or_false, if_true, ite_true, reduceIte]; done))
               | (refine And.intro trivial (AVle.of_eq (congrArg AV.bool ?_)); focus (simp_all [Fl.ok2, Fl.rnd2, Fl.skOK, -List.all_eq_true, -List.all_eq_false]; intros; omega))
               | (refine And.intro trivial (AVle.of_eq (congrArg AV.bool ?_)); focus (simp only [cond_true, cond_false, Bool.not_eq_true', Bool.not_eq_false'] at *; simp only [Fl.ok2, *, cond_true, cond_false, Bool.true_and, Bool.and_true, Bool.false_and, Bool.and_false, Bool.not_true, Bool.not_false, Bool.true_or, Bool.or_true, Bool.false_or, Bool.or_false, if_true, ite_true, reduceIte]; done))
               | refine And.intro (by omega) ?_
               | refine LoopC.mk (fun i : Nat => i ≤ s.an.length ∧ ∀ j, j < i → An.ok (ix s.an j) = true) (fun i => [(1, .bptr 0 0), (5, .int .i64 i)]) (fun i => [(0, .box s.row)]) 1 (fun i => s.an.length - i) 0 ⟨⟨Nat.zero_le _, fun j hj => absurd hj (Nat.not_lt_zero j)⟩, [(0, 0)], rfl, rfl, ⟨AVle.refl _, AVle.refl _, trivial⟩, ⟨MOle.refl _, trivial⟩⟩ ?_
               | refine LoopC.rounds 8 ?_
               | refine And.intro (inI64 (by omega) (by omega)) ?_
               | fail)
    intro i hi
    obtain ⟨hi, h0⟩ := hi
    have hk : s.ok2 = s.an.all An.ok := by
      simp_all [Fl.ok2, Fl.rnd2, Fl.skOK, -List.all_eq_true, -List.all_eq_false]
      rw [decide_eq_false (by omega), decide_eq_false (by omega)]
      rfl
    refine Grd.intro (fun g => ?_) (fun g => ?_)
    · have hin : i < s.an.length := by have := of_decide_eq_true g; omega
      refine And.intro (by omega) ?_
      by_cases ho : An.ok (ix s.an i) = true
      · have ho2 := ho
        simp only [An.ok, Bool.and_eq_true] at ho2
        obtain ⟨o1, o2, o3, o4⟩ := ho2
        repeat' (conv => whnf
                 first
                   | (refine Grd.intro (fun h => ?_) (fun h => ?_); rotate_left; focus (exfalso; simp_all; done))
                   | (refine Grd.intro (fun h => ?_) (fun h => ?_); focus (exfalso; simp_all; done))
                   | refine Grd.intro (fun h => ?_) (fun h => ?_)
                   | (refine CallC.sca _ (l04Tier_fn (ix s.an i).tier) ?_ ?_; focus (exact rfl))
                   | (refine CallC.sca _ (l04Range_fn (ix s.an i).f (ix s.an i).t) ?_ ?_; focus (exact rfl))
                   | (refine CallC.sca _ (l01In_fn (ix s.an i).code 0 19) ?_ ?_; focus (exact rfl))
                   | (refine CallC.sca _ (specAggOK_fn (ix s.an i).a) ?_ ?_; focus (exact rfl))
                   | (refine And.intro trivial (AVle.of_eq (congrArg AV.bool ?_)); focus (simp_all [Fl.ok2, Fl.rnd2, Fl.skOK, -List.all_eq_true, -List.all_eq_false]; done))
                   | (refine And.intro trivial (AVle.of_eq (congrArg AV.bool ?_)); focus (simp only [Fl.ok2, *, cond_true, cond_false, Bool.true_and, Bool.and_true, Bool.false_and, Bool.and_false, Bool.not_true, Bool.not_false, Bool.true_or, Bool.or_true, Bool.false_or, Bool.or_false, if_true, ite_true, reduceIte]; done))
                   | (refine And.intro trivial (AVle.of_eq (congrArg AV.bool ?_)); focus (simp_all [Fl.ok2, Fl.rnd2, Fl.skOK, -List.all_eq_true, -List.all_eq_false]; intros; omega))
                   | (refine And.intro trivial (AVle.of_eq (congrArg AV.bool ?_)); focus (simp only [cond_true, cond_false, Bool.not_eq_true', Bool.not_eq_false'] at *; simp only [Fl.ok2, *, cond_true, cond_false, Bool.true_and, Bool.and_true, Bool.false_and, Bool.and_false, Bool.not_true, Bool.not_false, Bool.true_or, Bool.or_true, Bool.false_or, Bool.or_false, if_true, ite_true, reduceIte]; done))
                   | refine And.intro (by omega) ?_
                   | refine And.intro (inI64 (by omega) (by omega)) ?_
                   | exact ⟨i + 1, ⟨hin, fun j hj => by
                      rcases Nat.lt_or_ge j i with h' | h'
                      · exact h0 j h'
                      · rw [show j = i by omega]; exact ho⟩, by omega, [(0, 0)], rfl, rfl, ⟨AVle.refl _, AVle.of_eq (congrArg (AV.int .i64) (by simp)), trivial⟩, ⟨MOle.refl _, trivial⟩⟩
                   | fail)
      · have ho : An.ok (ix s.an i) = false := by simpa using ho
        rw [hk, all_bad hin ho]
        have ho2 := ho
        simp only [An.ok, Bool.and_eq_false_iff] at ho2
        clear hk
        repeat' (conv => whnf
                 first
                   | (refine Grd.intro (fun h => ?_) (fun h => ?_); rotate_left; focus (exfalso; simp_all; done))
                   | (refine Grd.intro (fun h => ?_) (fun h => ?_); focus (exfalso; simp_all; done))
                   | refine Grd.intro (fun h => ?_) (fun h => ?_)
                   | (refine CallC.sca _ (l04Tier_fn (ix s.an i).tier) ?_ ?_; focus (exact rfl))
                   | (refine CallC.sca _ (l04Range_fn (ix s.an i).f (ix s.an i).t) ?_ ?_; focus (exact rfl))
                   | (refine CallC.sca _ (l01In_fn (ix s.an i).code 0 19) ?_ ?_; focus (exact rfl))
                   | (refine CallC.sca _ (specAggOK_fn (ix s.an i).a) ?_ ?_; focus (exact rfl))
                   | (refine And.intro trivial (AVle.of_eq (congrArg AV.bool ?_)); focus (simp_all [An.ok]; done))
                   | (refine And.intro trivial (AVle.of_eq (congrArg AV.bool ?_)); focus (simp only [An.ok, *, cond_true, cond_false, Bool.true_and, Bool.and_true, Bool.false_and, Bool.and_false, Bool.not_true, Bool.not_false, Bool.true_or, Bool.or_true, Bool.false_or, Bool.or_false, if_true, ite_true, reduceIte]; done))
                   | (refine And.intro trivial (AVle.of_eq (congrArg AV.bool ?_)); focus (simp_all [An.ok]; intros; omega))
                   | (refine And.intro trivial (AVle.of_eq (congrArg AV.bool ?_)); focus (simp only [cond_true, cond_false, Bool.not_eq_true', Bool.not_eq_false'] at *; simp only [An.ok, *, cond_true, cond_false, Bool.true_and, Bool.and_true, Bool.false_and, Bool.and_false, Bool.not_true, Bool.not_false, Bool.true_or, Bool.or_true, Bool.false_or, Bool.or_false, if_true, ite_true, reduceIte]; done))
                   | refine And.intro (by omega) ?_
                   | refine And.intro (inI64 (by omega) (by omega)) ?_
                   | exact ⟨i + 1, ⟨hin, fun j hj => by
                      rcases Nat.lt_or_ge j i with h' | h'
                      · exact h0 j h'
                      · rw [show j = i by omega]; exact ho⟩, by omega, [(0, 0)], rfl, rfl, ⟨AVle.refl _, AVle.of_eq (congrArg (AV.int .i64) (by simp)), trivial⟩, ⟨MOle.refl _, trivial⟩⟩
                   | fail)
    · have : i = s.an.length := by have := of_decide_eq_false g; omega
      subst this
      have hall : s.an.all An.ok = true := all_pre h0
      rw [hk, hall]
      exact And.intro trivial (AVle.refl _)
  · have hl' : s.lens = false := by unfold Fl.lens; rw [Bool.eq_false_iff]; intro h; apply hl; simp at h; omega
    have hl : ¬ ((s.ws.length : Int) = 2 ∧ (s.gs.length : Int) = 2 ∧ (s.rs.length : Int) = 2) := by omega
    rw [show s.ok2 = (s.st.ok && (within s.clk 3 100000 && false)) by unfold Fl.ok2; rw [hl']; rfl]
    refine VFn.introC Tryz.call18 Tryz.func18 rfl rfl ?_
    repeat' (conv => whnf
             first
               | (refine Grd.intro (fun h => ?_) (fun h => ?_); rotate_left; focus (exfalso; simp_all; done))
               | (refine Grd.intro (fun h => ?_) (fun h => ?_); focus (exfalso; simp_all; done))
               | refine Grd.intro (fun h => ?_) (fun h => ?_)
               | (refine CallC.sca _ (specStoreOK_ok s.st (by have := hS.st; omega) (fun o ho => by have := hS.sk o ho; omega) hI) ?_ ?_; focus (exact rfl))
               | (refine CallC.sca _ (l01In_fn s.clk 3 100000) ?_ ?_; focus (exact rfl))
               | (refine CallC.sca _ (specSamplesOK_fn s.ac) ?_ ?_; focus (exact rfl))
               | (refine CallC.sca _ (l01In_fn s.k0 (-3) 3) ?_ ?_; focus (exact rfl))
               | (refine CallC.sca _ (l01In_fn s.k1 (-3) 3) ?_ ?_; focus (exact rfl))
               | (refine CallC.sca _ (l01In_fn s.k2 (-3) 3) ?_ ?_; focus (exact rfl))
               | (refine CallC.sca _ (l01In_fn s.k3 (-3) 3) ?_ ?_; focus (exact rfl))
               | (refine CallC.sca _ (l01In_fn s.k4 (-3) 3) ?_ ?_; focus (exact rfl))
               | (refine CallC.sca _ (l01In_fn s.k5 (-3) 3) ?_ ?_; focus (exact rfl))
               | (refine CallC.sca _ (l01In_fn s.k6 (-3) 3) ?_ ?_; focus (exact rfl))
               | (refine And.intro trivial (AVle.of_eq (congrArg AV.bool ?_)); focus (simp_all [Fl.ok2, Fl.rnd2, Fl.skOK, -List.all_eq_true, -List.all_eq_false]; done))
               | (refine And.intro trivial (AVle.of_eq (congrArg AV.bool ?_)); focus (simp only [Fl.ok2, *, cond_true, cond_false, Bool.true_and, Bool.and_true, Bool.false_and, Bool.and_false, Bool.not_true, Bool.not_false, Bool.true_or, Bool.or_true, Bool.false_or, Bool.or_false, if_true, ite_true, reduceIte]; done))
               | (refine And.intro trivial (AVle.of_eq (congrArg AV.bool ?_)); focus (simp_all [Fl.ok2, Fl.rnd2, Fl.skOK, -List.all_eq_true, -List.all_eq_false]; intros; omega))
               | (refine And.intro trivial (AVle.of_eq (congrArg AV.bool ?_)); focus (simp only [cond_true, cond_false, Bool.not_eq_true', Bool.not_eq_false'] at *; simp only [Fl.ok2, *, cond_true, cond_false, Bool.true_and, Bool.and_true, Bool.false_and, Bool.and_false, Bool.not_true, Bool.not_false, Bool.true_or, Bool.or_true, Bool.false_or, Bool.or_false, if_true, ite_true, reduceIte]; done))
               | refine And.intro (by omega) ?_
               | refine LoopC.mk (fun i : Nat => i ≤ s.an.length ∧ ∀ j, j < i → An.ok (ix s.an j) = true) (fun i => [(1, .bptr 0 0), (5, .int .i64 i)]) (fun i => [(0, .box s.row)]) 1 (fun i => s.an.length - i) 0 ⟨⟨Nat.zero_le _, fun j hj => absurd hj (Nat.not_lt_zero j)⟩, [(0, 0)], rfl, rfl, ⟨AVle.refl _, AVle.refl _, trivial⟩, ⟨MOle.refl _, trivial⟩⟩ ?_
               | refine LoopC.rounds 8 ?_
               | refine And.intro (inI64 (by omega) (by omega)) ?_
               | fail)
end Go.Proofs.YtijokkaeofagoaaGreatDoor
set_option linter.unusedVariables false
set_option linter.constructorNameAsVariable false
set_option linter.unusedSimpArgs false
set_option maxRecDepth 20000
namespace Go.Proofs.YtijokkaeofagoaaGreatDoor
open Go Go.Vw

theorem FlIn.nx {s : Fl} (h : FlIn s) : -9223372036854775808 ≤ s.st.next ∧ s.st.next ≤ 9223372036854775807 := by
  have := h.st.nxt
  exact this
def Fl.skew (s : Fl) (i : Int) : Int := if i = 0 then s.k0 else if i = 1 then s.k1 else if i = 2 then s.k2 else if i = 3 then s.k3 else if i = 4 then s.k4 else if i = 5 then s.k5 else s.k6
def Fl.clockV (s : Fl) (who : Int) : AV := if s.ok = true then if within who 0 6 = true then .tup [.int .i64 (s.clk + s.skew who), .int .i64 0] else .tup [.int .i64 0, .int .i64 4] else .tup [.int .i64 0, .int .i64 1]
theorem Fl.ok_cons {s : Fl} (h : s.ok = true) : within s.clk 3 100000 = true ∧ s.skOK = true ∧ s.an.all An.ok = true ∧ s.an.length ≤ 4096 := by
  simp only [Fl.ok, Fl.fin, Bool.and_eq_true] at h
  obtain ⟨_, h1, h2, _, _, _, _, h3, h4⟩ := h
  exact ⟨h1, h2, h4, by simpa using h3⟩
theorem within_iff {n lo hi : Int} (h : within n lo hi = true) : lo ≤ n ∧ n ≤ hi := by
  simpa [within] using h
def An.here (a : An) : Bool := !decide (a.code = 5) && !decide (a.code = 17)
end Go.Proofs.YtijokkaeofagoaaGreatDoor
