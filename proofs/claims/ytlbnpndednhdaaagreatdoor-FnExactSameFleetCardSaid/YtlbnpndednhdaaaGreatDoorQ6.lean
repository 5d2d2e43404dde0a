/- Contracts of functions that the claim reaches, and the plain law of what they compute; each theorem bears its own conditions. -/
import Derived.Test.YtlbnpndednhdaaaGreatDoorQ5
import Derived.Test.YtlbnpndednhdaaaGreatDoorQ2
import Derived.Test.YtlbnpndednhdaaaGreatDoorV48
set_option linter.unusedVariables false
set_option linter.constructorNameAsVariable false
set_option linter.unusedSimpArgs false
set_option maxRecDepth 20000
namespace Go.Proofs.YtlbnpndednhdaaaGreatDoor
open Go Go.Vw

def eqS {α : Type} [Inhabited α] (q : α → α → Bool) (L M : List α) : Bool := decide ((L.length : Int) = M.length) && allN L.length fun i => q (ix L i) (ix M i)
theorem eqS_len {α : Type} [Inhabited α] {q : α → α → Bool} {L M : List α} (h : ¬ (L.length : Int) = M.length) : eqS q L M = false := by
  unfold eqS; rw [decide_eq_false h]; rfl
theorem eqS_no {α : Type} [Inhabited α] {q : α → α → Bool} {L M : List α} {i : Nat} (hi : i < L.length) (h : q (ix L i) (ix M i) = false) : eqS q L M = false := by
  unfold eqS; rw [allN_no (q := fun i => q (ix L i) (ix M i)) hi h]; simp
theorem eqS_yes {α : Type} [Inhabited α] {q : α → α → Bool} {L M : List α} (hl : (L.length : Int) = M.length) (h : ∀ j, j < L.length → q (ix L j) (ix M j) = true) : eqS q L M = true := by
  unfold eqS; rw [decide_eq_true hl, allN_iff.2 h]; rfl
def Ob.eqb (x y : Ob) : Bool := ((B x.key).toList == (B y.key).toList) && (decide (x.ver = y.ver) && (((B x.data).toList == (B y.data).toList) && true))
def En.eqb (x y : En) : Bool := decide (x.tier = y.tier) && (decide (x.f = y.f) && (decide (x.t = y.t) && (((B x.key).toList == (B y.key).toList) && true)))
def Smp.eqb (x y : Smp) : Bool := decide (x.t = y.t) && (decide (x.v = y.v) && true)
def Rc.eqb (x y : Rc) : Bool := decide (x.k = y.k) && (decide (x.tok = y.tok) && (decide (x.tier = y.tier) && (decide (x.f = y.f) && (decide (x.t = y.t) && (((B x.key).toList == (B y.key).toList) && true)))))
def Bk.eqb (x y : Bk) : Bool := decide (x.t = y.t) && ((Ag.eqb x.a y.a) && true)
theorem EqualOb2_fn (L M : List Ob) (hL : L.length ≤ 1048576) (hM : M.length ≤ 1048576) : VFn Tryz.prog 170 [obs L, obs M] (.bool (eqS Ob.eqb L M)) := by
  by_cases hl : (L.length : Int) = M.length
  · refine VFn.introC Tryz.call170 Tryz.func170 rfl rfl ?_
    refine Grd.intro (fun g => ?_) (fun _ => ?_)
    · exfalso; simp [hl] at g
    refine LoopC.mk (fun i : Nat => i ≤ L.length ∧ ∀ j, j < i → Ob.eqb (ix L j) (ix M j) = true) (fun i => [(0, obs L), (1, obs M), (12, .int .i64 L.length), (13, .int .i64 i)]) (fun i => []) 0 (fun i => L.length - i) 0
      ⟨⟨Nat.zero_le _, fun j hj => absurd hj (Nat.not_lt_zero j)⟩, [], rfl, rfl, ⟨AVle.refl _, AVle.refl _, AVle.refl _, AVle.refl _, trivial⟩, trivial⟩ ?_
    intro i hi
    obtain ⟨hi, h0⟩ := hi
    refine Grd.intro (fun h2 => ?_) (fun h2 => ?_)
    · have hin : i < L.length := by have := of_decide_eq_true h2; omega
      refine DrawC.mk 8 rfl (by kernel_rfl) ?_
      refine And.intro (by omega) ?_
      refine And.intro (by omega) ?_
      refine And.intro (by kernel_rfl) ?_
      refine Grd.intro (fun g => ?_) (fun g => ?_)
      · have g : (!Ob.eqb (ix L i) (ix M i)) = true := g
        rw [eqS_no hin (by simpa using g)]
        exact And.intro trivial (AVle.refl _)
      · have g : (!Ob.eqb (ix L i) (ix M i)) = false := g
        have g : Ob.eqb (ix L i) (ix M i) = true := by simpa using g
        refine And.intro (inI64 (by omega) (by omega)) ?_
        exact ⟨i + 1, ⟨hin, fun j hj => by
          rcases Nat.lt_or_ge j i with h' | h'
          · exact h0 j h'
          · rw [show j = i by omega]; exact g⟩, by omega, [], rfl, rfl, ⟨AVle.refl _, AVle.refl _, AVle.refl _, AVle.of_eq (congrArg (AV.int .i64) (by simp)), trivial⟩, trivial⟩
    · have : i = L.length := by have := of_decide_eq_false h2; omega
      subst this
      rw [eqS_yes hl h0]
      exact And.intro trivial (AVle.refl _)
  · rw [eqS_len hl]
    refine VFn.introC Tryz.call170 Tryz.func170 rfl rfl ?_
    refine Grd.intro (fun g => ?_) (fun g => ?_)
    · exact And.intro trivial (AVle.refl _)
    · exfalso; simp [hl] at g
theorem EqualEn2_fn (L M : List En) (hL : L.length ≤ 1048576) (hM : M.length ≤ 1048576) : VFn Tryz.prog 171 [ents L, ents M] (.bool (eqS En.eqb L M)) := by
  by_cases hl : (L.length : Int) = M.length
  · refine VFn.introC Tryz.call171 Tryz.func171 rfl rfl ?_
    refine Grd.intro (fun g => ?_) (fun _ => ?_)
    · exfalso; simp [hl] at g
    refine LoopC.mk (fun i : Nat => i ≤ L.length ∧ ∀ j, j < i → En.eqb (ix L j) (ix M j) = true) (fun i => [(0, ents L), (1, ents M), (12, .int .i64 L.length), (13, .int .i64 i)]) (fun i => []) 0 (fun i => L.length - i) 0
      ⟨⟨Nat.zero_le _, fun j hj => absurd hj (Nat.not_lt_zero j)⟩, [], rfl, rfl, ⟨AVle.refl _, AVle.refl _, AVle.refl _, AVle.refl _, trivial⟩, trivial⟩ ?_
    intro i hi
    obtain ⟨hi, h0⟩ := hi
    refine Grd.intro (fun h2 => ?_) (fun h2 => ?_)
    · have hin : i < L.length := by have := of_decide_eq_true h2; omega
      refine DrawC.mk 8 rfl (by kernel_rfl) ?_
      refine And.intro (by omega) ?_
      refine And.intro (by omega) ?_
      refine And.intro (by kernel_rfl) ?_
      refine Grd.intro (fun g => ?_) (fun g => ?_)
      · have g : (!En.eqb (ix L i) (ix M i)) = true := g
        rw [eqS_no hin (by simpa using g)]
        exact And.intro trivial (AVle.refl _)
      · have g : (!En.eqb (ix L i) (ix M i)) = false := g
        have g : En.eqb (ix L i) (ix M i) = true := by simpa using g
        refine And.intro (inI64 (by omega) (by omega)) ?_
        exact ⟨i + 1, ⟨hin, fun j hj => by
          rcases Nat.lt_or_ge j i with h' | h'
          · exact h0 j h'
          · rw [show j = i by omega]; exact g⟩, by omega, [], rfl, rfl, ⟨AVle.refl _, AVle.refl _, AVle.refl _, AVle.of_eq (congrArg (AV.int .i64) (by simp)), trivial⟩, trivial⟩
    · have : i = L.length := by have := of_decide_eq_false h2; omega
      subst this
      rw [eqS_yes hl h0]
      exact And.intro trivial (AVle.refl _)
  · rw [eqS_len hl]
    refine VFn.introC Tryz.call171 Tryz.func171 rfl rfl ?_
    refine Grd.intro (fun g => ?_) (fun g => ?_)
    · exact And.intro trivial (AVle.refl _)
    · exfalso; simp [hl] at g
theorem EqualSmp2_fn (L M : List Smp) (hL : L.length ≤ 1048576) (hM : M.length ≤ 1048576) : VFn Tryz.prog 101 [smps L, smps M] (.bool (eqS Smp.eqb L M)) := by
  by_cases hl : (L.length : Int) = M.length
  · refine VFn.introC Tryz.call101 Tryz.func101 rfl rfl ?_
    refine Grd.intro (fun g => ?_) (fun _ => ?_)
    · exfalso; simp [hl] at g
    refine LoopC.mk (fun i : Nat => i ≤ L.length ∧ ∀ j, j < i → Smp.eqb (ix L j) (ix M j) = true) (fun i => [(0, smps L), (1, smps M), (12, .int .i64 L.length), (13, .int .i64 i)]) (fun i => []) 0 (fun i => L.length - i) 0
      ⟨⟨Nat.zero_le _, fun j hj => absurd hj (Nat.not_lt_zero j)⟩, [], rfl, rfl, ⟨AVle.refl _, AVle.refl _, AVle.refl _, AVle.refl _, trivial⟩, trivial⟩ ?_
    intro i hi
    obtain ⟨hi, h0⟩ := hi
    refine Grd.intro (fun h2 => ?_) (fun h2 => ?_)
    · have hin : i < L.length := by have := of_decide_eq_true h2; omega
      refine DrawC.mk 8 rfl (by kernel_rfl) ?_
      refine And.intro (by omega) ?_
      refine And.intro (by omega) ?_
      refine And.intro (by kernel_rfl) ?_
      refine Grd.intro (fun g => ?_) (fun g => ?_)
      · have g : (!Smp.eqb (ix L i) (ix M i)) = true := g
        rw [eqS_no hin (by simpa using g)]
        exact And.intro trivial (AVle.refl _)
      · have g : (!Smp.eqb (ix L i) (ix M i)) = false := g
        have g : Smp.eqb (ix L i) (ix M i) = true := by simpa using g
        refine And.intro (inI64 (by omega) (by omega)) ?_
        exact ⟨i + 1, ⟨hin, fun j hj => by
          rcases Nat.lt_or_ge j i with h' | h'
          · exact h0 j h'
          · rw [show j = i by omega]; exact g⟩, by omega, [], rfl, rfl, ⟨AVle.refl _, AVle.refl _, AVle.refl _, AVle.of_eq (congrArg (AV.int .i64) (by simp)), trivial⟩, trivial⟩
    · have : i = L.length := by have := of_decide_eq_false h2; omega
      subst this
      rw [eqS_yes hl h0]
      exact And.intro trivial (AVle.refl _)
  · rw [eqS_len hl]
    refine VFn.introC Tryz.call101 Tryz.func101 rfl rfl ?_
    refine Grd.intro (fun g => ?_) (fun g => ?_)
    · exact And.intro trivial (AVle.refl _)
    · exfalso; simp [hl] at g
end Go.Proofs.YtlbnpndednhdaaaGreatDoor
set_option linter.unusedVariables false
set_option linter.constructorNameAsVariable false
set_option linter.unusedSimpArgs false
set_option maxRecDepth 20000
namespace Go.Proofs.YtlbnpndednhdaaaGreatDoor
open Go Go.Vw

def An.eqb (x y : An) : Bool := decide (x.tier = y.tier) && (decide (x.f = y.f) && (decide (x.t = y.t) && (decide (x.code = y.code) && ((Ag.eqb x.a y.a) && true))))
theorem EqualAn2_fn (L M : List An) (hL : L.length ≤ 1048576) (hM : M.length ≤ 1048576) : VFn Tryz.prog 102 [ans L, ans M] (.bool (eqS An.eqb L M)) := by
  by_cases hl : (L.length : Int) = M.length
  · refine VFn.introC Tryz.call102 Tryz.func102 rfl rfl ?_
    refine Grd.intro (fun g => ?_) (fun _ => ?_)
    · exfalso; simp [hl] at g
    refine LoopC.mk (fun i : Nat => i ≤ L.length ∧ ∀ j, j < i → An.eqb (ix L j) (ix M j) = true) (fun i => [(0, ans L), (1, ans M), (12, .int .i64 L.length), (13, .int .i64 i)]) (fun i => []) 0 (fun i => L.length - i) 0
      ⟨⟨Nat.zero_le _, fun j hj => absurd hj (Nat.not_lt_zero j)⟩, [], rfl, rfl, ⟨AVle.refl _, AVle.refl _, AVle.refl _, AVle.refl _, trivial⟩, trivial⟩ ?_
    intro i hi
    obtain ⟨hi, h0⟩ := hi
    refine Grd.intro (fun h2 => ?_) (fun h2 => ?_)
    · have hin : i < L.length := by have := of_decide_eq_true h2; omega
      refine DrawC.mk 8 rfl (by kernel_rfl) ?_
      refine And.intro (by omega) ?_
      refine And.intro (by omega) ?_
      refine And.intro (by kernel_rfl) ?_
      refine Grd.intro (fun g => ?_) (fun g => ?_)
      · have g : (!An.eqb (ix L i) (ix M i)) = true := g
        rw [eqS_no hin (by simpa using g)]
        exact And.intro trivial (AVle.refl _)
      · have g : (!An.eqb (ix L i) (ix M i)) = false := g
        have g : An.eqb (ix L i) (ix M i) = true := by simpa using g
        refine And.intro (inI64 (by omega) (by omega)) ?_
        exact ⟨i + 1, ⟨hin, fun j hj => by
          rcases Nat.lt_or_ge j i with h' | h'
          · exact h0 j h'
          · rw [show j = i by omega]; exact g⟩, by omega, [], rfl, rfl, ⟨AVle.refl _, AVle.refl _, AVle.refl _, AVle.of_eq (congrArg (AV.int .i64) (by simp)), trivial⟩, trivial⟩
    · have : i = L.length := by have := of_decide_eq_false h2; omega
      subst this
      rw [eqS_yes hl h0]
      exact And.intro trivial (AVle.refl _)
  · rw [eqS_len hl]
    refine VFn.introC Tryz.call102 Tryz.func102 rfl rfl ?_
    refine Grd.intro (fun g => ?_) (fun g => ?_)
    · exact And.intro trivial (AVle.refl _)
    · exfalso; simp [hl] at g
def Sto.eqb (x y : Sto) : Bool := eqS Ob.eqb x.os y.os && decide (x.next = y.next)
def Wk.eqb (x y : Wk) : Bool := decide (x.id = y.id) && (decide (x.ph = y.ph) && (decide (x.tok = y.tok) && (Rc.eqb x.job y.job && (eqS En.eqb x.ins y.ins && Ag.eqb x.got y.got))))
def Ig.eqb (x y : Ig) : Bool := decide (x.id = y.id) && (decide (x.seq = y.seq) && (decide (x.f = y.f) && (decide (x.t = y.t) && (eqS Smp.eqb x.b y.b && (x.put == y.put)))))
def Rr.eqb (x y : Rr) : Bool := eqS En.eqb x.left y.left && (decide (x.id = y.id) && (decide (x.ph = y.ph) && (decide (x.tier = y.tier) && (decide (x.f = y.f) && (decide (x.t = y.t) && (decide (x.til = y.til) && (decide (x.code = y.code) && Ag.eqb x.got y.got)))))))
theorem SameStore_fn (x y : Sto) (hx : x.os.length ≤ 1048576) (hy : y.os.length ≤ 1048576) : VFn Tryz.prog 94 [x.av, y.av] (.bool (Sto.eqb x y)) := by
  refine VFn.introC Tryz.call94 Tryz.func94 rfl rfl ?_
  repeat' (conv => whnf
           first
             | (refine Grd.intro (fun h => ?_) (fun h => ?_); rotate_left; focus (exfalso; simp_all; done))
             | (refine Grd.intro (fun h => ?_) (fun h => ?_); focus (exfalso; simp_all; done))
             | refine Grd.intro (fun h => ?_) (fun h => ?_)
             | (refine CallC.sca _ (EqualOb2_fn x.os y.os hx hy) ?_ ?_; focus (exact rfl))
             | (refine And.intro trivial (AVle.of_eq (congrArg AV.bool ?_)); focus (simp_all [Sto.eqb]; done))
             | (refine And.intro trivial (AVle.of_eq (congrArg AV.bool ?_)); focus (simp only [Sto.eqb, *, cond_true, cond_false, Bool.true_and, Bool.and_true, Bool.false_and, Bool.and_false, Bool.not_true, Bool.not_false, Bool.true_or, Bool.or_true, Bool.false_or, Bool.or_false, if_true, ite_true, reduceIte]; done))
             | (refine And.intro trivial (AVle.of_eq (congrArg AV.bool ?_)); focus (simp_all [Sto.eqb]; intros; omega))
             | (refine And.intro trivial (AVle.of_eq (congrArg AV.bool ?_)); focus (simp only [cond_true, cond_false, Bool.not_eq_true', Bool.not_eq_false'] at *; simp only [Sto.eqb, *, cond_true, cond_false, Bool.true_and, Bool.and_true, Bool.false_and, Bool.and_false, Bool.not_true, Bool.not_false, Bool.true_or, Bool.or_true, Bool.false_or, Bool.or_false, if_true, ite_true, reduceIte]; done))
             | fail)
theorem SameWorker_fn (x y : Wk) (hx : x.small) (hy : y.small) : VFn Tryz.prog 96 [x.av, y.av] (.bool (Wk.eqb x y)) := by
  refine VFn.introC Tryz.call96 Tryz.func96 rfl rfl ?_
  repeat' (conv => whnf
           first
             | (refine Grd.intro (fun (h : Rc.eqb x.job y.job = true) => ?_) (fun (h : Rc.eqb x.job y.job = false) => ?_))
             | (refine Grd.intro (fun (h : (!Rc.eqb x.job y.job) = true) => ?_) (fun (h : (!Rc.eqb x.job y.job) = false) => ?_))
             | (refine And.intro trivial (AVle.of_eq (congrArg AV.bool (show Rc.eqb x.job y.job = _ from ?_))); focus (simp_all [Wk.eqb]; done))
             | (refine And.intro trivial (AVle.of_eq (congrArg AV.bool (show (!Rc.eqb x.job y.job) = _ from ?_))); focus (simp_all [Wk.eqb]; done))
             | (refine Grd.intro (fun (h : Ag.eqb x.got y.got = true) => ?_) (fun (h : Ag.eqb x.got y.got = false) => ?_))
             | (refine Grd.intro (fun (h : (!Ag.eqb x.got y.got) = true) => ?_) (fun (h : (!Ag.eqb x.got y.got) = false) => ?_))
             | (refine And.intro trivial (AVle.of_eq (congrArg AV.bool (show Ag.eqb x.got y.got = _ from ?_))); focus (simp_all [Wk.eqb]; done))
             | (refine And.intro trivial (AVle.of_eq (congrArg AV.bool (show (!Ag.eqb x.got y.got) = _ from ?_))); focus (simp_all [Wk.eqb]; done))
             | (refine Grd.intro (fun h => ?_) (fun h => ?_); rotate_left; focus (exfalso; simp_all; done))
             | (refine Grd.intro (fun h => ?_) (fun h => ?_); focus (exfalso; simp_all; done))
             | refine Grd.intro (fun h => ?_) (fun h => ?_)
             | (refine CallC.sca _ (EqualEn2_fn x.ins y.ins hx hy) ?_ ?_; focus (exact rfl))
             | (refine And.intro trivial (AVle.of_eq (congrArg AV.bool ?_)); focus (simp_all [Wk.eqb]; done))
             | (refine And.intro trivial (AVle.of_eq (congrArg AV.bool ?_)); focus (simp only [Wk.eqb, *, cond_true, cond_false, Bool.true_and, Bool.and_true, Bool.false_and, Bool.and_false, Bool.not_true, Bool.not_false, Bool.true_or, Bool.or_true, Bool.false_or, Bool.or_false, if_true, ite_true, reduceIte]; done))
             | (refine And.intro trivial (AVle.of_eq (congrArg AV.bool ?_)); focus (simp_all [Wk.eqb]; intros; omega))
             | (refine And.intro trivial (AVle.of_eq (congrArg AV.bool ?_)); focus (simp only [cond_true, cond_false, Bool.not_eq_true', Bool.not_eq_false'] at *; simp only [Wk.eqb, *, cond_true, cond_false, Bool.true_and, Bool.and_true, Bool.false_and, Bool.and_false, Bool.not_true, Bool.not_false, Bool.true_or, Bool.or_true, Bool.false_or, Bool.or_false, if_true, ite_true, reduceIte]; done))
             | refine And.intro (by kernel_rfl) ?_
             | refine OpC.bneq rfl rfl rfl rfl rfl ?_
             | refine OpC.beql rfl rfl rfl rfl rfl ?_
             | fail)
theorem SameIngester_fn (x y : Ig) (hx : x.small) (hy : y.small) : VFn Tryz.prog 98 [x.av, y.av] (.bool (Ig.eqb x y)) := by
  refine VFn.introC Tryz.call98 Tryz.func98 rfl rfl ?_
  repeat' (conv => whnf
           first
             | (refine Grd.intro (fun h => ?_) (fun h => ?_); rotate_left; focus (exfalso; simp_all; done))
             | (refine Grd.intro (fun h => ?_) (fun h => ?_); focus (exfalso; simp_all; done))
             | refine Grd.intro (fun h => ?_) (fun h => ?_)
             | (refine CallC.sca _ (EqualSmp2_fn x.b y.b hx hy) ?_ ?_; focus (exact rfl))
             | (refine And.intro trivial (AVle.of_eq (congrArg AV.bool ?_)); focus (simp_all [Ig.eqb]; done))
             | (refine And.intro trivial (AVle.of_eq (congrArg AV.bool ?_)); focus (simp only [Ig.eqb, *, cond_true, cond_false, Bool.true_and, Bool.and_true, Bool.false_and, Bool.and_false, Bool.not_true, Bool.not_false, Bool.true_or, Bool.or_true, Bool.false_or, Bool.or_false, if_true, ite_true, reduceIte]; done))
             | (refine And.intro trivial (AVle.of_eq (congrArg AV.bool ?_)); focus (simp_all [Ig.eqb]; intros; omega))
             | (refine And.intro trivial (AVle.of_eq (congrArg AV.bool ?_)); focus (simp only [cond_true, cond_false, Bool.not_eq_true', Bool.not_eq_false'] at *; simp only [Ig.eqb, *, cond_true, cond_false, Bool.true_and, Bool.and_true, Bool.false_and, Bool.and_false, Bool.not_true, Bool.not_false, Bool.true_or, Bool.or_true, Bool.false_or, Bool.or_false, if_true, ite_true, reduceIte]; done))
             | refine And.intro (by kernel_rfl) ?_
             | refine OpC.bneq rfl rfl rfl rfl rfl ?_
             | refine OpC.beql rfl rfl rfl rfl rfl ?_
             | fail)
theorem SameReader_fn (x y : Rr) (hx : x.small) (hy : y.small) : VFn Tryz.prog 100 [x.av, y.av] (.bool (Rr.eqb x y)) := by
  refine VFn.introC Tryz.call100 Tryz.func100 rfl rfl ?_
  repeat' (conv => whnf
           first
             | (refine Grd.intro (fun (h : Ag.eqb x.got y.got = true) => ?_) (fun (h : Ag.eqb x.got y.got = false) => ?_))
             | (refine Grd.intro (fun (h : (!Ag.eqb x.got y.got) = true) => ?_) (fun (h : (!Ag.eqb x.got y.got) = false) => ?_))
             | (refine And.intro trivial (AVle.of_eq (congrArg AV.bool (show Ag.eqb x.got y.got = _ from ?_))); focus (simp_all [Rr.eqb]; done))
             | (refine And.intro trivial (AVle.of_eq (congrArg AV.bool (show (!Ag.eqb x.got y.got) = _ from ?_))); focus (simp_all [Rr.eqb]; done))
             | (refine Grd.intro (fun h => ?_) (fun h => ?_); rotate_left; focus (exfalso; simp_all; done))
             | (refine Grd.intro (fun h => ?_) (fun h => ?_); focus (exfalso; simp_all; done))
             | refine Grd.intro (fun h => ?_) (fun h => ?_)
             | (refine CallC.sca _ (EqualEn2_fn x.left y.left hx hy) ?_ ?_; focus (exact rfl))
             | (refine And.intro trivial (AVle.of_eq (congrArg AV.bool ?_)); focus (simp_all [Rr.eqb]; done))
             | (refine And.intro trivial (AVle.of_eq (congrArg AV.bool ?_)); focus (simp only [Rr.eqb, *, cond_true, cond_false, Bool.true_and, Bool.and_true, Bool.false_and, Bool.and_false, Bool.not_true, Bool.not_false, Bool.true_or, Bool.or_true, Bool.false_or, Bool.or_false, if_true, ite_true, reduceIte]; done))
             | (refine And.intro trivial (AVle.of_eq (congrArg AV.bool ?_)); focus (simp_all [Rr.eqb]; intros; omega))
             | (refine And.intro trivial (AVle.of_eq (congrArg AV.bool ?_)); focus (simp only [cond_true, cond_false, Bool.not_eq_true', Bool.not_eq_false'] at *; simp only [Rr.eqb, *, cond_true, cond_false, Bool.true_and, Bool.and_true, Bool.false_and, Bool.and_false, Bool.not_true, Bool.not_false, Bool.true_or, Bool.or_true, Bool.false_or, Bool.or_false, if_true, ite_true, reduceIte]; done))
             | refine And.intro (by kernel_rfl) ?_
             | refine OpC.bneq rfl rfl rfl rfl rfl ?_
             | refine OpC.beql rfl rfl rfl rfl rfl ?_
             | fail)
theorem specSameStore_fn (x y : Sto) (hx : x.os.length ≤ 1048576) (hy : y.os.length ≤ 1048576) : VFn Tryz.prog 90 [x.av, y.av] (.bool (Sto.eqb x y)) := by
  by_cases hl : (x.os.length : Int) = y.os.length
  · refine VFn.introC Tryz.call90 Tryz.func90 rfl rfl ?_
    repeat' (conv => whnf
             first
               | (refine Grd.intro (fun h => ?_) (fun h => ?_); rotate_left; focus (exfalso; simp_all; done))
               | (refine Grd.intro (fun h => ?_) (fun h => ?_); focus (exfalso; simp_all; done))
               | refine Grd.intro (fun h => ?_) (fun h => ?_)
               | (refine And.intro trivial (AVle.of_eq (congrArg AV.bool ?_)); focus (simp_all [Sto.eqb, eqS_len]; done))
               | (refine And.intro trivial (AVle.of_eq (congrArg AV.bool ?_)); focus (simp only [Sto.eqb, *, cond_true, cond_false, Bool.true_and, Bool.and_true, Bool.false_and, Bool.and_false, Bool.not_true, Bool.not_false, Bool.true_or, Bool.or_true, Bool.false_or, Bool.or_false, if_true, ite_true, reduceIte]; done))
               | (refine And.intro trivial (AVle.of_eq (congrArg AV.bool ?_)); focus (simp_all [Sto.eqb, eqS_len]; intros; omega))
               | (refine And.intro trivial (AVle.of_eq (congrArg AV.bool ?_)); focus (simp only [cond_true, cond_false, Bool.not_eq_true', Bool.not_eq_false'] at *; simp only [Sto.eqb, *, cond_true, cond_false, Bool.true_and, Bool.and_true, Bool.false_and, Bool.and_false, Bool.not_true, Bool.not_false, Bool.true_or, Bool.or_true, Bool.false_or, Bool.or_false, if_true, ite_true, reduceIte]; done))
               | refine And.intro (by kernel_rfl) ?_
               | refine OpC.bneq rfl rfl rfl rfl rfl ?_
               | refine OpC.beql rfl rfl rfl rfl rfl ?_
               | refine LoopC.mk (fun i : Nat => i ≤ x.os.length ∧ ∀ j, j < i → Ob.eqb (ix x.os j) (ix y.os j) = true) (fun i => [(2, .bptr 0 0), (3, .bptr 1 0), (5, .int .i64 i)]) (fun i => [(0, .box x.row), (1, .box y.row)]) 2 (fun i => x.os.length - i) 0 ⟨⟨Nat.zero_le _, fun j hj => absurd hj (Nat.not_lt_zero j)⟩, [(0, 0), (1, 1)], rfl, rfl, ⟨AVle.refl _, AVle.refl _, AVle.refl _, trivial⟩, ⟨MOle.refl _, MOle.refl _, trivial⟩⟩ ?_
               | fail)
    intro i hi
    obtain ⟨hi, h0⟩ := hi
    refine Grd.intro (fun g => ?_) (fun g => ?_)
    · have hin : i < x.os.length := by have := of_decide_eq_true g; omega
      refine DrawC.mk 11 rfl (by kernel_rfl) ?_
      refine And.intro (by omega) ?_
      refine And.intro (by omega) ?_
      refine And.intro (by kernel_rfl) ?_
      refine Grd.intro (fun g => ?_) (fun g => ?_)
      · have g : (!Ob.eqb (ix x.os i) (ix y.os i)) = true := g
        have e := eqS_no (q := Ob.eqb) (M := y.os) hin (by simpa using g)
        exact And.intro trivial (AVle.of_eq (congrArg AV.bool (by simp [Sto.eqb, e])))
      · have g : (!Ob.eqb (ix x.os i) (ix y.os i)) = false := g
        have g : Ob.eqb (ix x.os i) (ix y.os i) = true := by simpa using g
        refine And.intro (inI64 (by omega) (by omega)) ?_
        exact ⟨i + 1, ⟨hin, fun j hj => by
          rcases Nat.lt_or_ge j i with h' | h'
          · exact h0 j h'
          · rw [show j = i by omega]; exact g⟩, by omega, [(0, 0), (1, 1)], rfl, rfl, ⟨AVle.refl _, AVle.refl _, AVle.of_eq (congrArg (AV.int .i64) (by simp)), trivial⟩, ⟨MOle.refl _, MOle.refl _, trivial⟩⟩
    · have : i = x.os.length := by have := of_decide_eq_false g; omega
      subst this
      have e := eqS_yes (q := Ob.eqb) hl h0
      clear h0 g hi
      exact And.intro trivial (AVle.of_eq (congrArg AV.bool (by simp_all [Sto.eqb])))
  · have e := eqS_len (q := Ob.eqb) hl
    rw [show Sto.eqb x y = false by simp [Sto.eqb, e]]
    refine VFn.introC Tryz.call90 Tryz.func90 rfl rfl ?_
    repeat' (conv => whnf
             first
               | (refine Grd.intro (fun h => ?_) (fun h => ?_); rotate_left; focus (exfalso; simp_all; done))
               | (refine Grd.intro (fun h => ?_) (fun h => ?_); focus (exfalso; simp_all; done))
               | refine Grd.intro (fun h => ?_) (fun h => ?_)
               | (refine And.intro trivial (AVle.of_eq (congrArg AV.bool ?_)); focus (simp_all [Sto.eqb, eqS_len]; done))
               | (refine And.intro trivial (AVle.of_eq (congrArg AV.bool ?_)); focus (simp only [Sto.eqb, *, cond_true, cond_false, Bool.true_and, Bool.and_true, Bool.false_and, Bool.and_false, Bool.not_true, Bool.not_false, Bool.true_or, Bool.or_true, Bool.false_or, Bool.or_false, if_true, ite_true, reduceIte]; done))
               | (refine And.intro trivial (AVle.of_eq (congrArg AV.bool ?_)); focus (simp_all [Sto.eqb, eqS_len]; intros; omega))
               | (refine And.intro trivial (AVle.of_eq (congrArg AV.bool ?_)); focus (simp only [cond_true, cond_false, Bool.not_eq_true', Bool.not_eq_false'] at *; simp only [Sto.eqb, *, cond_true, cond_false, Bool.true_and, Bool.and_true, Bool.false_and, Bool.and_false, Bool.not_true, Bool.not_false, Bool.true_or, Bool.or_true, Bool.false_or, Bool.or_false, if_true, ite_true, reduceIte]; done))
               | refine And.intro (by kernel_rfl) ?_
               | refine OpC.bneq rfl rfl rfl rfl rfl ?_
               | refine OpC.beql rfl rfl rfl rfl rfl ?_
               | fail)
theorem specSameWorker_fn (x y : Wk) (hx : x.small) (hy : y.small) : VFn Tryz.prog 91 [x.av, y.av] (.bool (Wk.eqb x y)) := by
  have hx : x.ins.length ≤ 1048576 := hx
  have hy : y.ins.length ≤ 1048576 := hy
  by_cases hl : (x.ins.length : Int) = y.ins.length
  · refine VFn.introC Tryz.call91 Tryz.func91 rfl rfl ?_
    repeat' (conv => whnf
             first
               | (refine Grd.intro (fun (h : Rc.eqb x.job y.job = true) => ?_) (fun (h : Rc.eqb x.job y.job = false) => ?_))
               | (refine Grd.intro (fun (h : (!Rc.eqb x.job y.job) = true) => ?_) (fun (h : (!Rc.eqb x.job y.job) = false) => ?_))
               | (refine And.intro trivial (AVle.of_eq (congrArg AV.bool (show Rc.eqb x.job y.job = _ from ?_))); focus (simp_all [Wk.eqb, eqS_len]; done))
               | (refine And.intro trivial (AVle.of_eq (congrArg AV.bool (show (!Rc.eqb x.job y.job) = _ from ?_))); focus (simp_all [Wk.eqb, eqS_len]; done))
               | (refine Grd.intro (fun (h : Ag.eqb x.got y.got = true) => ?_) (fun (h : Ag.eqb x.got y.got = false) => ?_))
               | (refine Grd.intro (fun (h : (!Ag.eqb x.got y.got) = true) => ?_) (fun (h : (!Ag.eqb x.got y.got) = false) => ?_))
               | (refine And.intro trivial (AVle.of_eq (congrArg AV.bool (show Ag.eqb x.got y.got = _ from ?_))); focus (simp_all [Wk.eqb, eqS_len]; done))
               | (refine And.intro trivial (AVle.of_eq (congrArg AV.bool (show (!Ag.eqb x.got y.got) = _ from ?_))); focus (simp_all [Wk.eqb, eqS_len]; done))
               | (refine Grd.intro (fun h => ?_) (fun h => ?_); rotate_left; focus (exfalso; simp_all; done))
               | (refine Grd.intro (fun h => ?_) (fun h => ?_); focus (exfalso; simp_all; done))
               | refine Grd.intro (fun h => ?_) (fun h => ?_)
               | (refine And.intro trivial (AVle.of_eq (congrArg AV.bool ?_)); focus (simp_all [Wk.eqb, eqS_len]; done))
               | (refine And.intro trivial (AVle.of_eq (congrArg AV.bool ?_)); focus (simp only [Wk.eqb, *, cond_true, cond_false, Bool.true_and, Bool.and_true, Bool.false_and, Bool.and_false, Bool.not_true, Bool.not_false, Bool.true_or, Bool.or_true, Bool.false_or, Bool.or_false, if_true, ite_true, reduceIte]; done))
               | (refine And.intro trivial (AVle.of_eq (congrArg AV.bool ?_)); focus (simp_all [Wk.eqb, eqS_len]; intros; omega))
               | (refine And.intro trivial (AVle.of_eq (congrArg AV.bool ?_)); focus (simp only [cond_true, cond_false, Bool.not_eq_true', Bool.not_eq_false'] at *; simp only [Wk.eqb, *, cond_true, cond_false, Bool.true_and, Bool.and_true, Bool.false_and, Bool.and_false, Bool.not_true, Bool.not_false, Bool.true_or, Bool.or_true, Bool.false_or, Bool.or_false, if_true, ite_true, reduceIte]; done))
               | refine And.intro (by kernel_rfl) ?_
               | refine OpC.bneq rfl rfl rfl rfl rfl ?_
               | refine OpC.beql rfl rfl rfl rfl rfl ?_
               | refine LoopC.mk (fun i : Nat => i ≤ x.ins.length ∧ ∀ j, j < i → En.eqb (ix x.ins j) (ix y.ins j) = true) (fun i => [(2, .bptr 0 0), (3, .bptr 1 0), (5, .int .i64 i)]) (fun i => [(0, .box x.row), (1, .box y.row)]) 2 (fun i => x.ins.length - i) 0 ⟨⟨Nat.zero_le _, fun j hj => absurd hj (Nat.not_lt_zero j)⟩, [(0, 0), (1, 1)], rfl, rfl, ⟨AVle.refl _, AVle.refl _, AVle.refl _, trivial⟩, ⟨MOle.refl _, MOle.refl _, trivial⟩⟩ ?_
               | fail)
    intro i hi
    obtain ⟨hi, h0⟩ := hi
    refine Grd.intro (fun g => ?_) (fun g => ?_)
    · have hin : i < x.ins.length := by have := of_decide_eq_true g; omega
      refine DrawC.mk 11 rfl (by kernel_rfl) ?_
      refine And.intro (by omega) ?_
      refine And.intro (by omega) ?_
      refine And.intro (by kernel_rfl) ?_
      refine Grd.intro (fun g => ?_) (fun g => ?_)
      · have g : (!En.eqb (ix x.ins i) (ix y.ins i)) = true := g
        have e := eqS_no (q := En.eqb) (M := y.ins) hin (by simpa using g)
        exact And.intro trivial (AVle.of_eq (congrArg AV.bool (by simp [Wk.eqb, e])))
      · have g : (!En.eqb (ix x.ins i) (ix y.ins i)) = false := g
        have g : En.eqb (ix x.ins i) (ix y.ins i) = true := by simpa using g
        refine And.intro (inI64 (by omega) (by omega)) ?_
        exact ⟨i + 1, ⟨hin, fun j hj => by
          rcases Nat.lt_or_ge j i with h' | h'
          · exact h0 j h'
          · rw [show j = i by omega]; exact g⟩, by omega, [(0, 0), (1, 1)], rfl, rfl, ⟨AVle.refl _, AVle.refl _, AVle.of_eq (congrArg (AV.int .i64) (by simp)), trivial⟩, ⟨MOle.refl _, MOle.refl _, trivial⟩⟩
    · have : i = x.ins.length := by have := of_decide_eq_false g; omega
      subst this
      have e := eqS_yes (q := En.eqb) hl h0
      clear h0 g hi
      exact And.intro trivial (AVle.of_eq (congrArg AV.bool (by simp_all [Wk.eqb])))
  · have e := eqS_len (q := En.eqb) hl
    rw [show Wk.eqb x y = false by simp [Wk.eqb, e]]
    refine VFn.introC Tryz.call91 Tryz.func91 rfl rfl ?_
    repeat' (conv => whnf
             first
               | (refine Grd.intro (fun (h : Rc.eqb x.job y.job = true) => ?_) (fun (h : Rc.eqb x.job y.job = false) => ?_))
               | (refine Grd.intro (fun (h : (!Rc.eqb x.job y.job) = true) => ?_) (fun (h : (!Rc.eqb x.job y.job) = false) => ?_))
               | (refine And.intro trivial (AVle.of_eq (congrArg AV.bool (show Rc.eqb x.job y.job = _ from ?_))); focus (simp_all [Wk.eqb, eqS_len]; done))
               | (refine And.intro trivial (AVle.of_eq (congrArg AV.bool (show (!Rc.eqb x.job y.job) = _ from ?_))); focus (simp_all [Wk.eqb, eqS_len]; done))
               | (refine Grd.intro (fun (h : Ag.eqb x.got y.got = true) => ?_) (fun (h : Ag.eqb x.got y.got = false) => ?_))
               | (refine Grd.intro (fun (h : (!Ag.eqb x.got y.got) = true) => ?_) (fun (h : (!Ag.eqb x.got y.got) = false) => ?_))
               | (refine And.intro trivial (AVle.of_eq (congrArg AV.bool (show Ag.eqb x.got y.got = _ from ?_))); focus (simp_all [Wk.eqb, eqS_len]; done))
               | (refine And.intro trivial (AVle.of_eq (congrArg AV.bool (show (!Ag.eqb x.got y.got) = _ from ?_))); focus (simp_all [Wk.eqb, eqS_len]; done))
               | (refine Grd.intro (fun h => ?_) (fun h => ?_); rotate_left; focus (exfalso; simp_all; done))
               | (refine Grd.intro (fun h => ?_) (fun h => ?_); focus (exfalso; simp_all; done))
               | refine Grd.intro (fun h => ?_) (fun h => ?_)
               | (refine And.intro trivial (AVle.of_eq (congrArg AV.bool ?_)); focus (simp_all [Wk.eqb, eqS_len]; done))
               | (refine And.intro trivial (AVle.of_eq (congrArg AV.bool ?_)); focus (simp only [Wk.eqb, *, cond_true, cond_false, Bool.true_and, Bool.and_true, Bool.false_and, Bool.and_false, Bool.not_true, Bool.not_false, Bool.true_or, Bool.or_true, Bool.false_or, Bool.or_false, if_true, ite_true, reduceIte]; done))
               | (refine And.intro trivial (AVle.of_eq (congrArg AV.bool ?_)); focus (simp_all [Wk.eqb, eqS_len]; intros; omega))
               | (refine And.intro trivial (AVle.of_eq (congrArg AV.bool ?_)); focus (simp only [cond_true, cond_false, Bool.not_eq_true', Bool.not_eq_false'] at *; simp only [Wk.eqb, *, cond_true, cond_false, Bool.true_and, Bool.and_true, Bool.false_and, Bool.and_false, Bool.not_true, Bool.not_false, Bool.true_or, Bool.or_true, Bool.false_or, Bool.or_false, if_true, ite_true, reduceIte]; done))
               | refine And.intro (by kernel_rfl) ?_
               | refine OpC.bneq rfl rfl rfl rfl rfl ?_
               | refine OpC.beql rfl rfl rfl rfl rfl ?_
               | fail)
theorem specSameIngester_fn (x y : Ig) (hx : x.small) (hy : y.small) : VFn Tryz.prog 92 [x.av, y.av] (.bool (Ig.eqb x y)) := by
  have hx : x.b.length ≤ 1048576 := hx
  have hy : y.b.length ≤ 1048576 := hy
  by_cases hl : (x.b.length : Int) = y.b.length
  · refine VFn.introC Tryz.call92 Tryz.func92 rfl rfl ?_
    repeat' (conv => whnf
             first
               | (refine Grd.intro (fun h => ?_) (fun h => ?_); rotate_left; focus (exfalso; simp_all; done))
               | (refine Grd.intro (fun h => ?_) (fun h => ?_); focus (exfalso; simp_all; done))
               | refine Grd.intro (fun h => ?_) (fun h => ?_)
               | (refine And.intro trivial (AVle.of_eq (congrArg AV.bool ?_)); focus (simp_all [Ig.eqb, eqS_len]; done))
               | (refine And.intro trivial (AVle.of_eq (congrArg AV.bool ?_)); focus (simp only [Ig.eqb, *, cond_true, cond_false, Bool.true_and, Bool.and_true, Bool.false_and, Bool.and_false, Bool.not_true, Bool.not_false, Bool.true_or, Bool.or_true, Bool.false_or, Bool.or_false, if_true, ite_true, reduceIte]; done))
               | (refine And.intro trivial (AVle.of_eq (congrArg AV.bool ?_)); focus (simp_all [Ig.eqb, eqS_len]; intros; omega))
               | (refine And.intro trivial (AVle.of_eq (congrArg AV.bool ?_)); focus (simp only [cond_true, cond_false, Bool.not_eq_true', Bool.not_eq_false'] at *; simp only [Ig.eqb, *, cond_true, cond_false, Bool.true_and, Bool.and_true, Bool.false_and, Bool.and_false, Bool.not_true, Bool.not_false, Bool.true_or, Bool.or_true, Bool.false_or, Bool.or_false, if_true, ite_true, reduceIte]; done))
               | refine And.intro (by kernel_rfl) ?_
               | refine OpC.bneq rfl rfl rfl rfl rfl ?_
               | refine OpC.beql rfl rfl rfl rfl rfl ?_
               | refine LoopC.mk (fun i : Nat => i ≤ x.b.length ∧ ∀ j, j < i → Smp.eqb (ix x.b j) (ix y.b j) = true) (fun i => [(2, .bptr 0 0), (3, .bptr 1 0), (5, .int .i64 i)]) (fun i => [(0, .box x.row), (1, .box y.row)]) 2 (fun i => x.b.length - i) 0 ⟨⟨Nat.zero_le _, fun j hj => absurd hj (Nat.not_lt_zero j)⟩, [(0, 0), (1, 1)], rfl, rfl, ⟨AVle.refl _, AVle.refl _, AVle.refl _, trivial⟩, ⟨MOle.refl _, MOle.refl _, trivial⟩⟩ ?_
               | fail)
    intro i hi
    obtain ⟨hi, h0⟩ := hi
    refine Grd.intro (fun g => ?_) (fun g => ?_)
    · have hin : i < x.b.length := by have := of_decide_eq_true g; omega
      refine DrawC.mk 11 rfl (by kernel_rfl) ?_
      refine And.intro (by omega) ?_
      refine And.intro (by omega) ?_
      refine And.intro (by kernel_rfl) ?_
      refine Grd.intro (fun g => ?_) (fun g => ?_)
      · have g : (!Smp.eqb (ix x.b i) (ix y.b i)) = true := g
        have e := eqS_no (q := Smp.eqb) (M := y.b) hin (by simpa using g)
        exact And.intro trivial (AVle.of_eq (congrArg AV.bool (by simp [Ig.eqb, e])))
      · have g : (!Smp.eqb (ix x.b i) (ix y.b i)) = false := g
        have g : Smp.eqb (ix x.b i) (ix y.b i) = true := by simpa using g
        refine And.intro (inI64 (by omega) (by omega)) ?_
        exact ⟨i + 1, ⟨hin, fun j hj => by
          rcases Nat.lt_or_ge j i with h' | h'
          · exact h0 j h'
          · rw [show j = i by omega]; exact g⟩, by omega, [(0, 0), (1, 1)], rfl, rfl, ⟨AVle.refl _, AVle.refl _, AVle.of_eq (congrArg (AV.int .i64) (by simp)), trivial⟩, ⟨MOle.refl _, MOle.refl _, trivial⟩⟩
    · have : i = x.b.length := by have := of_decide_eq_false g; omega
      subst this
      have e := eqS_yes (q := Smp.eqb) hl h0
      clear h0 g hi
      exact And.intro trivial (AVle.of_eq (congrArg AV.bool (by simp_all [Ig.eqb])))
  · have e := eqS_len (q := Smp.eqb) hl
    rw [show Ig.eqb x y = false by simp [Ig.eqb, e]]
    refine VFn.introC Tryz.call92 Tryz.func92 rfl rfl ?_
    repeat' (conv => whnf
             first
               | (refine Grd.intro (fun h => ?_) (fun h => ?_); rotate_left; focus (exfalso; simp_all; done))
               | (refine Grd.intro (fun h => ?_) (fun h => ?_); focus (exfalso; simp_all; done))
               | refine Grd.intro (fun h => ?_) (fun h => ?_)
               | (refine And.intro trivial (AVle.of_eq (congrArg AV.bool ?_)); focus (simp_all [Ig.eqb, eqS_len]; done))
               | (refine And.intro trivial (AVle.of_eq (congrArg AV.bool ?_)); focus (simp only [Ig.eqb, *, cond_true, cond_false, Bool.true_and, Bool.and_true, Bool.false_and, Bool.and_false, Bool.not_true, Bool.not_false, Bool.true_or, Bool.or_true, Bool.false_or, Bool.or_false, if_true, ite_true, reduceIte]; done))
               | (refine And.intro trivial (AVle.of_eq (congrArg AV.bool ?_)); focus (simp_all [Ig.eqb, eqS_len]; intros; omega))
               | (refine And.intro trivial (AVle.of_eq (congrArg AV.bool ?_)); focus (simp only [cond_true, cond_false, Bool.not_eq_true', Bool.not_eq_false'] at *; simp only [Ig.eqb, *, cond_true, cond_false, Bool.true_and, Bool.and_true, Bool.false_and, Bool.and_false, Bool.not_true, Bool.not_false, Bool.true_or, Bool.or_true, Bool.false_or, Bool.or_false, if_true, ite_true, reduceIte]; done))
               | refine And.intro (by kernel_rfl) ?_
               | refine OpC.bneq rfl rfl rfl rfl rfl ?_
               | refine OpC.beql rfl rfl rfl rfl rfl ?_
               | fail)
theorem specSameReader_fn (x y : Rr) (hx : x.small) (hy : y.small) : VFn Tryz.prog 93 [x.av, y.av] (.bool (Rr.eqb x y)) := by
  have hx : x.left.length ≤ 1048576 := hx
  have hy : y.left.length ≤ 1048576 := hy
  by_cases hl : (x.left.length : Int) = y.left.length
  · refine VFn.introC Tryz.call93 Tryz.func93 rfl rfl ?_
    repeat' (conv => whnf
             first
               | (refine Grd.intro (fun (h : Ag.eqb x.got y.got = true) => ?_) (fun (h : Ag.eqb x.got y.got = false) => ?_))
               | (refine Grd.intro (fun (h : (!Ag.eqb x.got y.got) = true) => ?_) (fun (h : (!Ag.eqb x.got y.got) = false) => ?_))
               | (refine And.intro trivial (AVle.of_eq (congrArg AV.bool (show Ag.eqb x.got y.got = _ from ?_))); focus (simp_all [Rr.eqb, eqS_len]; done))
               | (refine And.intro trivial (AVle.of_eq (congrArg AV.bool (show (!Ag.eqb x.got y.got) = _ from ?_))); focus (simp_all [Rr.eqb, eqS_len]; done))
               | (refine Grd.intro (fun h => ?_) (fun h => ?_); rotate_left; focus (exfalso; simp_all; done))
               | (refine Grd.intro (fun h => ?_) (fun h => ?_); focus (exfalso; simp_all; done))
               | refine Grd.intro (fun h => ?_) (fun h => ?_)
               | (refine And.intro trivial (AVle.of_eq (congrArg AV.bool ?_)); focus (simp_all [Rr.eqb, eqS_len]; done))
               | (refine And.intro trivial (AVle.of_eq (congrArg AV.bool ?_)); focus (simp only [Rr.eqb, *, cond_true, cond_false, Bool.true_and, Bool.and_true, Bool.false_and, Bool.and_false, Bool.not_true, Bool.not_false, Bool.true_or, Bool.or_true, Bool.false_or, Bool.or_false, if_true, ite_true, reduceIte]; done))
               | (refine And.intro trivial (AVle.of_eq (congrArg AV.bool ?_)); focus (simp_all [Rr.eqb, eqS_len]; intros; omega))
               | (refine And.intro trivial (AVle.of_eq (congrArg AV.bool ?_)); focus (simp only [cond_true, cond_false, Bool.not_eq_true', Bool.not_eq_false'] at *; simp only [Rr.eqb, *, cond_true, cond_false, Bool.true_and, Bool.and_true, Bool.false_and, Bool.and_false, Bool.not_true, Bool.not_false, Bool.true_or, Bool.or_true, Bool.false_or, Bool.or_false, if_true, ite_true, reduceIte]; done))
               | refine And.intro (by kernel_rfl) ?_
               | refine OpC.bneq rfl rfl rfl rfl rfl ?_
               | refine OpC.beql rfl rfl rfl rfl rfl ?_
               | refine LoopC.mk (fun i : Nat => i ≤ x.left.length ∧ ∀ j, j < i → En.eqb (ix x.left j) (ix y.left j) = true) (fun i => [(2, .bptr 0 0), (3, .bptr 1 0), (5, .int .i64 i)]) (fun i => [(0, .box x.row), (1, .box y.row)]) 2 (fun i => x.left.length - i) 0 ⟨⟨Nat.zero_le _, fun j hj => absurd hj (Nat.not_lt_zero j)⟩, [(0, 0), (1, 1)], rfl, rfl, ⟨AVle.refl _, AVle.refl _, AVle.refl _, trivial⟩, ⟨MOle.refl _, MOle.refl _, trivial⟩⟩ ?_
               | fail)
    intro i hi
    obtain ⟨hi, h0⟩ := hi
    refine Grd.intro (fun g => ?_) (fun g => ?_)
    · have hin : i < x.left.length := by have := of_decide_eq_true g; omega
      refine DrawC.mk 11 rfl (by kernel_rfl) ?_
      refine And.intro (by omega) ?_
      refine And.intro (by omega) ?_
      refine And.intro (by kernel_rfl) ?_
      refine Grd.intro (fun g => ?_) (fun g => ?_)
      · have g : (!En.eqb (ix x.left i) (ix y.left i)) = true := g
        have e := eqS_no (q := En.eqb) (M := y.left) hin (by simpa using g)
        exact And.intro trivial (AVle.of_eq (congrArg AV.bool (by simp [Rr.eqb, e])))
      · have g : (!En.eqb (ix x.left i) (ix y.left i)) = false := g
        have g : En.eqb (ix x.left i) (ix y.left i) = true := by simpa using g
        refine And.intro (inI64 (by omega) (by omega)) ?_
        exact ⟨i + 1, ⟨hin, fun j hj => by
          rcases Nat.lt_or_ge j i with h' | h'
          · exact h0 j h'
          · rw [show j = i by omega]; exact g⟩, by omega, [(0, 0), (1, 1)], rfl, rfl, ⟨AVle.refl _, AVle.refl _, AVle.of_eq (congrArg (AV.int .i64) (by simp)), trivial⟩, ⟨MOle.refl _, MOle.refl _, trivial⟩⟩
    · have : i = x.left.length := by have := of_decide_eq_false g; omega
      subst this
      have e := eqS_yes (q := En.eqb) hl h0
      clear h0 g hi
      exact And.intro trivial (AVle.of_eq (congrArg AV.bool (by simp_all [Rr.eqb])))
  · have e := eqS_len (q := En.eqb) hl
    rw [show Rr.eqb x y = false by simp [Rr.eqb, e]]
    refine VFn.introC Tryz.call93 Tryz.func93 rfl rfl ?_
    repeat' (conv => whnf
             first
               | (refine Grd.intro (fun (h : Ag.eqb x.got y.got = true) => ?_) (fun (h : Ag.eqb x.got y.got = false) => ?_))
               | (refine Grd.intro (fun (h : (!Ag.eqb x.got y.got) = true) => ?_) (fun (h : (!Ag.eqb x.got y.got) = false) => ?_))
               | (refine And.intro trivial (AVle.of_eq (congrArg AV.bool (show Ag.eqb x.got y.got = _ from ?_))); focus (simp_all [Rr.eqb, eqS_len]; done))
               | (refine And.intro trivial (AVle.of_eq (congrArg AV.bool (show (!Ag.eqb x.got y.got) = _ from ?_))); focus (simp_all [Rr.eqb, eqS_len]; done))
               | (refine Grd.intro (fun h => ?_) (fun h => ?_); rotate_left; focus (exfalso; simp_all; done))
               | (refine Grd.intro (fun h => ?_) (fun h => ?_); focus (exfalso; simp_all; done))
               | refine Grd.intro (fun h => ?_) (fun h => ?_)
               | (refine And.intro trivial (AVle.of_eq (congrArg AV.bool ?_)); focus (simp_all [Rr.eqb, eqS_len]; done))
               | (refine And.intro trivial (AVle.of_eq (congrArg AV.bool ?_)); focus (simp only [Rr.eqb, *, cond_true, cond_false, Bool.true_and, Bool.and_true, Bool.false_and, Bool.and_false, Bool.not_true, Bool.not_false, Bool.true_or, Bool.or_true, Bool.false_or, Bool.or_false, if_true, ite_true, reduceIte]; done))
               | (refine And.intro trivial (AVle.of_eq (congrArg AV.bool ?_)); focus (simp_all [Rr.eqb, eqS_len]; intros; omega))
               | (refine And.intro trivial (AVle.of_eq (congrArg AV.bool ?_)); focus (simp only [cond_true, cond_false, Bool.not_eq_true', Bool.not_eq_false'] at *; simp only [Rr.eqb, *, cond_true, cond_false, Bool.true_and, Bool.and_true, Bool.false_and, Bool.and_false, Bool.not_true, Bool.not_false, Bool.true_or, Bool.or_true, Bool.false_or, Bool.or_false, if_true, ite_true, reduceIte]; done))
               | refine And.intro (by kernel_rfl) ?_
               | refine OpC.bneq rfl rfl rfl rfl rfl ?_
               | refine OpC.beql rfl rfl rfl rfl rfl ?_
               | fail)
end Go.Proofs.YtlbnpndednhdaaaGreatDoor
