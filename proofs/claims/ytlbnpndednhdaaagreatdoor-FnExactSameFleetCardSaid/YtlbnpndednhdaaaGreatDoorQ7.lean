/- Contracts of functions that the claim reaches, and the plain law of what they compute; each theorem bears its own conditions. -/
import Derived.Test.YtlbnpndednhdaaaGreatDoorQ6
set_option linter.unusedVariables false
set_option linter.constructorNameAsVariable false
set_option linter.unusedSimpArgs false
set_option maxRecDepth 20000
namespace Go.Proofs.YtlbnpndednhdaaaGreatDoor
open Go Go.Vw

theorem EqualFWk_fn (L M : List Wk) (hL : L.length ≤ 1048576) (hM : M.length ≤ 1048576) (F : Nat) (q : Wk → Wk → Bool) (hq : ∀ x ∈ L, ∀ y ∈ M, VFn Tryz.prog F [x.av, y.av] (.bool (q x y))) : VFn Tryz.prog 95 [wks L, wks M, .fn (.func F) [] []] (.bool (eqS q L M)) := by
  by_cases hl : (L.length : Int) = M.length
  · refine VFn.introC Tryz.call95 Tryz.func95 rfl rfl ?_
    refine Grd.intro (fun g => ?_) (fun _ => ?_)
    · exfalso; simp [hl] at g
    refine LoopC.mk (fun i : Nat => i ≤ L.length ∧ ∀ j, j < i → q (ix L j) (ix M j) = true) (fun i => [(1, wks M), (2, .fn (.func F) [] []), (15, wks L), (16, .int .i64 L.length), (17, .int .i64 i)]) (fun i => []) 0 (fun i => L.length - i) 0
      ⟨⟨Nat.zero_le _, fun j hj => absurd hj (Nat.not_lt_zero j)⟩, [], rfl, rfl, ⟨AVle.refl _, AVle.refl _, AVle.refl _, AVle.refl _, AVle.refl _, trivial⟩, trivial⟩ ?_
    intro i hi
    obtain ⟨hi, h0⟩ := hi
    refine Grd.intro (fun h2 => ?_) (fun h2 => ?_)
    · have hin : i < L.length := by have := of_decide_eq_true h2; omega
      have c := hq _ (getD_mem hin) (ix M i) (getD_mem (by omega))
      refine And.intro (by omega) ?_
      refine And.intro (by omega) ?_
      by_cases g : q (ix L i) (ix M i) = true
      · rw [g] at c
        conv => whnf
        refine CallC.sca _ (c) ?_ ?_
        · exact rfl
        refine And.intro (inI64 (by omega) (by omega)) ?_
        exact ⟨i + 1, ⟨hin, fun j hj => by
          rcases Nat.lt_or_ge j i with h' | h'
          · exact h0 j h'
          · rw [show j = i by omega]; exact g⟩, by omega, [], rfl, rfl, ⟨AVle.refl _, AVle.refl _, AVle.refl _, AVle.refl _, AVle.of_eq (congrArg (AV.int .i64) (by simp)), trivial⟩, trivial⟩
      · have g : q (ix L i) (ix M i) = false := by simpa using g
        rw [g] at c
        rw [eqS_no hin g]
        conv => whnf
        refine CallC.sca _ (c) ?_ ?_
        · exact rfl
        exact And.intro trivial (AVle.refl _)
    · have : i = L.length := by have := of_decide_eq_false h2; omega
      subst this
      rw [eqS_yes hl h0]
      exact And.intro trivial (AVle.refl _)
  · rw [eqS_len hl]
    refine VFn.introC Tryz.call95 Tryz.func95 rfl rfl ?_
    refine Grd.intro (fun g => ?_) (fun g => ?_)
    · exact And.intro trivial (AVle.refl _)
    · exfalso; simp [hl] at g
theorem EqualFIg_fn (L M : List Ig) (hL : L.length ≤ 1048576) (hM : M.length ≤ 1048576) (F : Nat) (q : Ig → Ig → Bool) (hq : ∀ x ∈ L, ∀ y ∈ M, VFn Tryz.prog F [x.av, y.av] (.bool (q x y))) : VFn Tryz.prog 97 [igs L, igs M, .fn (.func F) [] []] (.bool (eqS q L M)) := by
  by_cases hl : (L.length : Int) = M.length
  · refine VFn.introC Tryz.call97 Tryz.func97 rfl rfl ?_
    refine Grd.intro (fun g => ?_) (fun _ => ?_)
    · exfalso; simp [hl] at g
    refine LoopC.mk (fun i : Nat => i ≤ L.length ∧ ∀ j, j < i → q (ix L j) (ix M j) = true) (fun i => [(1, igs M), (2, .fn (.func F) [] []), (15, igs L), (16, .int .i64 L.length), (17, .int .i64 i)]) (fun i => []) 0 (fun i => L.length - i) 0
      ⟨⟨Nat.zero_le _, fun j hj => absurd hj (Nat.not_lt_zero j)⟩, [], rfl, rfl, ⟨AVle.refl _, AVle.refl _, AVle.refl _, AVle.refl _, AVle.refl _, trivial⟩, trivial⟩ ?_
    intro i hi
    obtain ⟨hi, h0⟩ := hi
    refine Grd.intro (fun h2 => ?_) (fun h2 => ?_)
    · have hin : i < L.length := by have := of_decide_eq_true h2; omega
      have c := hq _ (getD_mem hin) (ix M i) (getD_mem (by omega))
      refine And.intro (by omega) ?_
      refine And.intro (by omega) ?_
      by_cases g : q (ix L i) (ix M i) = true
      · rw [g] at c
        conv => whnf
        refine CallC.sca _ (c) ?_ ?_
        · exact rfl
        refine And.intro (inI64 (by omega) (by omega)) ?_
        exact ⟨i + 1, ⟨hin, fun j hj => by
          rcases Nat.lt_or_ge j i with h' | h'
          · exact h0 j h'
          · rw [show j = i by omega]; exact g⟩, by omega, [], rfl, rfl, ⟨AVle.refl _, AVle.refl _, AVle.refl _, AVle.refl _, AVle.of_eq (congrArg (AV.int .i64) (by simp)), trivial⟩, trivial⟩
      · have g : q (ix L i) (ix M i) = false := by simpa using g
        rw [g] at c
        rw [eqS_no hin g]
        conv => whnf
        refine CallC.sca _ (c) ?_ ?_
        · exact rfl
        exact And.intro trivial (AVle.refl _)
    · have : i = L.length := by have := of_decide_eq_false h2; omega
      subst this
      rw [eqS_yes hl h0]
      exact And.intro trivial (AVle.refl _)
  · rw [eqS_len hl]
    refine VFn.introC Tryz.call97 Tryz.func97 rfl rfl ?_
    refine Grd.intro (fun g => ?_) (fun g => ?_)
    · exact And.intro trivial (AVle.refl _)
    · exfalso; simp [hl] at g
theorem EqualFRr_fn (L M : List Rr) (hL : L.length ≤ 1048576) (hM : M.length ≤ 1048576) (F : Nat) (q : Rr → Rr → Bool) (hq : ∀ x ∈ L, ∀ y ∈ M, VFn Tryz.prog F [x.av, y.av] (.bool (q x y))) : VFn Tryz.prog 99 [rrs L, rrs M, .fn (.func F) [] []] (.bool (eqS q L M)) := by
  by_cases hl : (L.length : Int) = M.length
  · refine VFn.introC Tryz.call99 Tryz.func99 rfl rfl ?_
    refine Grd.intro (fun g => ?_) (fun _ => ?_)
    · exfalso; simp [hl] at g
    refine LoopC.mk (fun i : Nat => i ≤ L.length ∧ ∀ j, j < i → q (ix L j) (ix M j) = true) (fun i => [(1, rrs M), (2, .fn (.func F) [] []), (15, rrs L), (16, .int .i64 L.length), (17, .int .i64 i)]) (fun i => []) 0 (fun i => L.length - i) 0
      ⟨⟨Nat.zero_le _, fun j hj => absurd hj (Nat.not_lt_zero j)⟩, [], rfl, rfl, ⟨AVle.refl _, AVle.refl _, AVle.refl _, AVle.refl _, AVle.refl _, trivial⟩, trivial⟩ ?_
    intro i hi
    obtain ⟨hi, h0⟩ := hi
    refine Grd.intro (fun h2 => ?_) (fun h2 => ?_)
    · have hin : i < L.length := by have := of_decide_eq_true h2; omega
      have c := hq _ (getD_mem hin) (ix M i) (getD_mem (by omega))
      refine And.intro (by omega) ?_
      refine And.intro (by omega) ?_
      by_cases g : q (ix L i) (ix M i) = true
      · rw [g] at c
        conv => whnf
        refine CallC.sca _ (c) ?_ ?_
        · exact rfl
        refine And.intro (inI64 (by omega) (by omega)) ?_
        exact ⟨i + 1, ⟨hin, fun j hj => by
          rcases Nat.lt_or_ge j i with h' | h'
          · exact h0 j h'
          · rw [show j = i by omega]; exact g⟩, by omega, [], rfl, rfl, ⟨AVle.refl _, AVle.refl _, AVle.refl _, AVle.refl _, AVle.of_eq (congrArg (AV.int .i64) (by simp)), trivial⟩, trivial⟩
      · have g : q (ix L i) (ix M i) = false := by simpa using g
        rw [g] at c
        rw [eqS_no hin g]
        conv => whnf
        refine CallC.sca _ (c) ?_ ?_
        · exact rfl
        exact And.intro trivial (AVle.refl _)
    · have : i = L.length := by have := of_decide_eq_false h2; omega
      subst this
      rw [eqS_yes hl h0]
      exact And.intro trivial (AVle.refl _)
  · rw [eqS_len hl]
    refine VFn.introC Tryz.call99 Tryz.func99 rfl rfl ?_
    refine Grd.intro (fun g => ?_) (fun g => ?_)
    · exact And.intro trivial (AVle.refl _)
    · exfalso; simp [hl] at g
def Fl.eqk (x y : Fl) : Bool := decide ([x.k0, x.k1, x.k2, x.k3, x.k4, x.k5, x.k6] = [y.k0, y.k1, y.k2, y.k3, y.k4, y.k5, y.k6])
def Fl.eqb (x y : Fl) : Bool := Sto.eqb x.st y.st && (decide (x.clk = y.clk) && (Fl.eqk x y && (eqS Wk.eqb x.ws y.ws && (eqS Ig.eqb x.gs y.gs && (eqS Rr.eqb x.rs y.rs && (eqS Smp.eqb x.ac y.ac && eqS An.eqb x.an y.an))))))
theorem SameFleet_fn (x y : Fl) (hx : x.small) (hy : y.small) : VFn Tryz.prog 22 [x.av, y.av] (.bool (x.ok && (y.ok && Fl.eqb x y))) := by
  have cx := FleetOK_fn x hx
  have cy := FleetOK_fn y hy
  generalize x.ok = ox at cx ⊢
  generalize y.ok = oy at cy ⊢
  refine VFn.introC Tryz.call22 Tryz.func22 rfl rfl ?_
  repeat' (conv => whnf
           first
             | (refine Grd.intro (fun (h : Fl.eqk x y = true) => ?_) (fun (h : Fl.eqk x y = false) => ?_))
             | (refine Grd.intro (fun (h : (!Fl.eqk x y) = true) => ?_) (fun (h : (!Fl.eqk x y) = false) => ?_))
             | (refine And.intro trivial (AVle.of_eq (congrArg AV.bool (show Fl.eqk x y = _ from ?_))); focus (simp_all [Fl.eqb]; done))
             | (refine And.intro trivial (AVle.of_eq (congrArg AV.bool (show (!Fl.eqk x y) = _ from ?_))); focus (simp_all [Fl.eqb]; done))
             | (refine Grd.intro (fun h => ?_) (fun h => ?_); rotate_left; focus (exfalso; simp_all; done))
             | (refine Grd.intro (fun h => ?_) (fun h => ?_); focus (exfalso; simp_all; done))
             | refine Grd.intro (fun h => ?_) (fun h => ?_)
             | (refine CallC.sca _ (cx) ?_ ?_; focus (exact rfl))
             | (refine CallC.sca _ (cy) ?_ ?_; focus (exact rfl))
             | (refine CallC.sca _ (SameStore_fn x.st y.st hx.st hy.st) ?_ ?_; focus (exact rfl))
             | (refine CallC.sca _ (EqualFWk_fn x.ws y.ws hx.ws hy.ws 96 Wk.eqb (fun a ha b hb => SameWorker_fn a b (hx.wr a ha) (hy.wr b hb))) ?_ ?_; focus (exact rfl))
             | (refine CallC.sca _ (EqualFIg_fn x.gs y.gs hx.gs hy.gs 98 Ig.eqb (fun a ha b hb => SameIngester_fn a b (hx.gr a ha) (hy.gr b hb))) ?_ ?_; focus (exact rfl))
             | (refine CallC.sca _ (EqualFRr_fn x.rs y.rs hx.rs hy.rs 100 Rr.eqb (fun a ha b hb => SameReader_fn a b (hx.rr a ha) (hy.rr b hb))) ?_ ?_; focus (exact rfl))
             | (refine CallC.sca _ (EqualSmp2_fn x.ac y.ac hx.ac hy.ac) ?_ ?_; focus (exact rfl))
             | (refine CallC.sca _ (EqualAn2_fn x.an y.an hx.an hy.an) ?_ ?_; focus (exact rfl))
             | (refine And.intro trivial (AVle.of_eq (congrArg AV.bool ?_)); focus (simp_all [Fl.eqb]; done))
             | (refine And.intro trivial (AVle.of_eq (congrArg AV.bool ?_)); focus (simp only [Fl.eqb, *, cond_true, cond_false, Bool.true_and, Bool.and_true, Bool.false_and, Bool.and_false, Bool.not_true, Bool.not_false, Bool.true_or, Bool.or_true, Bool.false_or, Bool.or_false, if_true, ite_true, reduceIte]; done))
             | (refine And.intro trivial (AVle.of_eq (congrArg AV.bool ?_)); focus (simp_all [Fl.eqb]; intros; omega))
             | (refine And.intro trivial (AVle.of_eq (congrArg AV.bool ?_)); focus (simp only [cond_true, cond_false, Bool.not_eq_true', Bool.not_eq_false'] at *; simp only [Fl.eqb, *, cond_true, cond_false, Bool.true_and, Bool.and_true, Bool.false_and, Bool.and_false, Bool.not_true, Bool.not_false, Bool.true_or, Bool.or_true, Bool.false_or, Bool.or_false, if_true, ite_true, reduceIte]; done))
             | refine OpC.aneq [x.k0, x.k1, x.k2, x.k3, x.k4, x.k5, x.k6] [y.k0, y.k1, y.k2, y.k3, y.k4, y.k5, y.k6] rfl rfl (by kernel_rfl) rfl rfl rfl ?_
             | refine OpC.anneq [x.k0, x.k1, x.k2, x.k3, x.k4, x.k5, x.k6] [y.k0, y.k1, y.k2, y.k3, y.k4, y.k5, y.k6] rfl rfl (by kernel_rfl) rfl rfl rfl ?_
             | fail)
theorem eqS_two {α : Type} [Inhabited α] {q : α → α → Bool} {L M : List α} (hl : L.length = 2) (hm : M.length = 2) : eqS q L M = (q (ix L 0) (ix M 0) && q (ix L 1) (ix M 1)) := by
  simp [eqS, hl, hm, allN, List.range_succ]
theorem Fl.ok_two {s : Fl} (h : s.ok = true) : s.ws.length = 2 ∧ s.gs.length = 2 ∧ s.rs.length = 2 := by
  simp only [Fl.ok, Fl.lens, Bool.and_eq_true, decide_eq_true_eq] at h
  obtain ⟨_, _, _, ⟨h1, h2, h3⟩, _⟩ := h
  omega
set_option maxHeartbeats 4000000 in
theorem specSameFleet_fn (x y : Fl) (hx : x.small) (hy : y.small) (ix1 : -9223372036854775808 ≤ x.st.next ∧ x.st.next ≤ 9223372036854775807) (iy1 : -9223372036854775808 ≤ y.st.next ∧ y.st.next ≤ 9223372036854775807) : VFn Tryz.prog 21 [x.av, y.av] (.bool (x.ok && (y.ok && Fl.eqb x y))) := by
  have cx := specFleetOK_fn x hx ix1
  have cy := specFleetOK_fn y hy iy1
  by_cases ox : x.ok = true
  rotate_left
  · have ox : x.ok = false := by simpa using ox
    rw [ox] at cx ⊢
    generalize y.ok = oy at cy ⊢
    refine VFn.introC Tryz.call21 Tryz.func21 rfl rfl ?_
    conv => whnf
    refine CallC.sca _ (cx) ?_ ?_
    · exact rfl
    exact And.intro trivial (AVle.refl _)
  by_cases oy : y.ok = true
  rotate_left
  · have oy : y.ok = false := by simpa using oy
    rw [ox] at cx ⊢
    rw [oy] at cy ⊢
    refine VFn.introC Tryz.call21 Tryz.func21 rfl rfl ?_
    conv => whnf
    refine CallC.sca _ (cx) ?_ ?_
    · exact rfl
    conv => whnf
    refine CallC.sca _ (cy) ?_ ?_
    · exact rfl
    exact And.intro trivial (AVle.refl _)
  obtain ⟨l1, l2, l3⟩ := Fl.ok_two ox
  obtain ⟨m1, m2, m3⟩ := Fl.ok_two oy
  rw [ox] at cx ⊢
  rw [oy] at cy ⊢
  rw [Bool.true_and, Bool.true_and]
  clear ox oy
  by_cases hlac : (x.ac.length : Int) = y.ac.length
  rotate_left
  · have e := eqS_len (q := Smp.eqb) hlac
    rw [show Fl.eqb x y = false by simp [Fl.eqb, e]]
    refine VFn.introC Tryz.call21 Tryz.func21 rfl rfl ?_
    repeat' (conv => whnf
             first
               | (refine Grd.intro (fun (h : Fl.eqk x y = true) => ?_) (fun (h : Fl.eqk x y = false) => ?_))
               | (refine Grd.intro (fun (h : (!Fl.eqk x y) = true) => ?_) (fun (h : (!Fl.eqk x y) = false) => ?_))
               | (refine And.intro trivial (AVle.of_eq (congrArg AV.bool (show Fl.eqk x y = _ from ?_))); focus (simp_all [Fl.eqk]; done))
               | (refine And.intro trivial (AVle.of_eq (congrArg AV.bool (show (!Fl.eqk x y) = _ from ?_))); focus (simp_all [Fl.eqk]; done))
               | (refine Grd.intro (fun h => ?_) (fun h => ?_); rotate_left; focus (exfalso; simp_all; done))
               | (refine Grd.intro (fun h => ?_) (fun h => ?_); focus (exfalso; simp_all; done))
               | refine Grd.intro (fun h => ?_) (fun h => ?_)
               | (refine CallC.sca _ (cx) ?_ ?_; focus (exact rfl))
               | (refine CallC.sca _ (cy) ?_ ?_; focus (exact rfl))
               | (refine CallC.sca _ (specSameStore_fn x.st y.st hx.st hy.st) ?_ ?_; focus (exact rfl))
               | (refine And.intro trivial (AVle.of_eq (congrArg AV.bool ?_)); focus (simp_all [Fl.eqk]; done))
               | (refine And.intro trivial (AVle.of_eq (congrArg AV.bool ?_)); focus (simp only [Fl.eqk, *, cond_true, cond_false, Bool.true_and, Bool.and_true, Bool.false_and, Bool.and_false, Bool.not_true, Bool.not_false, Bool.true_or, Bool.or_true, Bool.false_or, Bool.or_false, if_true, ite_true, reduceIte]; done))
               | (refine And.intro trivial (AVle.of_eq (congrArg AV.bool ?_)); focus (simp_all [Fl.eqk]; intros; omega))
               | (refine And.intro trivial (AVle.of_eq (congrArg AV.bool ?_)); focus (simp only [cond_true, cond_false, Bool.not_eq_true', Bool.not_eq_false'] at *; simp only [Fl.eqk, *, cond_true, cond_false, Bool.true_and, Bool.and_true, Bool.false_and, Bool.and_false, Bool.not_true, Bool.not_false, Bool.true_or, Bool.or_true, Bool.false_or, Bool.or_false, if_true, ite_true, reduceIte]; done))
               | refine OpC.aneq [x.k0, x.k1, x.k2, x.k3, x.k4, x.k5, x.k6] [y.k0, y.k1, y.k2, y.k3, y.k4, y.k5, y.k6] rfl rfl (by kernel_rfl) rfl rfl rfl ?_
               | refine OpC.anneq [x.k0, x.k1, x.k2, x.k3, x.k4, x.k5, x.k6] [y.k0, y.k1, y.k2, y.k3, y.k4, y.k5, y.k6] rfl rfl (by kernel_rfl) rfl rfl rfl ?_
               | fail)
  by_cases hlan : (x.an.length : Int) = y.an.length
  rotate_left
  · have e := eqS_len (q := An.eqb) hlan
    rw [show Fl.eqb x y = false by simp [Fl.eqb, e]]
    refine VFn.introC Tryz.call21 Tryz.func21 rfl rfl ?_
    repeat' (conv => whnf
             first
               | (refine Grd.intro (fun (h : Fl.eqk x y = true) => ?_) (fun (h : Fl.eqk x y = false) => ?_))
               | (refine Grd.intro (fun (h : (!Fl.eqk x y) = true) => ?_) (fun (h : (!Fl.eqk x y) = false) => ?_))
               | (refine And.intro trivial (AVle.of_eq (congrArg AV.bool (show Fl.eqk x y = _ from ?_))); focus (simp_all [Fl.eqk]; done))
               | (refine And.intro trivial (AVle.of_eq (congrArg AV.bool (show (!Fl.eqk x y) = _ from ?_))); focus (simp_all [Fl.eqk]; done))
               | (refine Grd.intro (fun h => ?_) (fun h => ?_); rotate_left; focus (exfalso; simp_all; done))
               | (refine Grd.intro (fun h => ?_) (fun h => ?_); focus (exfalso; simp_all; done))
               | refine Grd.intro (fun h => ?_) (fun h => ?_)
               | (refine CallC.sca _ (cx) ?_ ?_; focus (exact rfl))
               | (refine CallC.sca _ (cy) ?_ ?_; focus (exact rfl))
               | (refine CallC.sca _ (specSameStore_fn x.st y.st hx.st hy.st) ?_ ?_; focus (exact rfl))
               | (refine And.intro trivial (AVle.of_eq (congrArg AV.bool ?_)); focus (simp_all [Fl.eqk]; done))
               | (refine And.intro trivial (AVle.of_eq (congrArg AV.bool ?_)); focus (simp only [Fl.eqk, *, cond_true, cond_false, Bool.true_and, Bool.and_true, Bool.false_and, Bool.and_false, Bool.not_true, Bool.not_false, Bool.true_or, Bool.or_true, Bool.false_or, Bool.or_false, if_true, ite_true, reduceIte]; done))
               | (refine And.intro trivial (AVle.of_eq (congrArg AV.bool ?_)); focus (simp_all [Fl.eqk]; intros; omega))
               | (refine And.intro trivial (AVle.of_eq (congrArg AV.bool ?_)); focus (simp only [cond_true, cond_false, Bool.not_eq_true', Bool.not_eq_false'] at *; simp only [Fl.eqk, *, cond_true, cond_false, Bool.true_and, Bool.and_true, Bool.false_and, Bool.and_false, Bool.not_true, Bool.not_false, Bool.true_or, Bool.or_true, Bool.false_or, Bool.or_false, if_true, ite_true, reduceIte]; done))
               | refine OpC.aneq [x.k0, x.k1, x.k2, x.k3, x.k4, x.k5, x.k6] [y.k0, y.k1, y.k2, y.k3, y.k4, y.k5, y.k6] rfl rfl (by kernel_rfl) rfl rfl rfl ?_
               | refine OpC.anneq [x.k0, x.k1, x.k2, x.k3, x.k4, x.k5, x.k6] [y.k0, y.k1, y.k2, y.k3, y.k4, y.k5, y.k6] rfl rfl (by kernel_rfl) rfl rfl rfl ?_
               | fail)
  have eW := eqS_two (q := Wk.eqb) l1 m1
  have eG := eqS_two (q := Ig.eqb) l2 m2
  have eR := eqS_two (q := Rr.eqb) l3 m3
  have w0 := specSameWorker_fn (ix x.ws 0) (ix y.ws 0) (hx.wr _ (getD_mem (by omega))) (hy.wr _ (getD_mem (by omega)))
  have g0 := specSameIngester_fn (ix x.gs 0) (ix y.gs 0) (hx.gr _ (getD_mem (by omega))) (hy.gr _ (getD_mem (by omega)))
  have r0 := specSameReader_fn (ix x.rs 0) (ix y.rs 0) (hx.rr _ (getD_mem (by omega))) (hy.rr _ (getD_mem (by omega)))
  have w1 := specSameWorker_fn (ix x.ws 1) (ix y.ws 1) (hx.wr _ (getD_mem (by omega))) (hy.wr _ (getD_mem (by omega)))
  have g1 := specSameIngester_fn (ix x.gs 1) (ix y.gs 1) (hx.gr _ (getD_mem (by omega))) (hy.gr _ (getD_mem (by omega)))
  have r1 := specSameReader_fn (ix x.rs 1) (ix y.rs 1) (hx.rr _ (getD_mem (by omega))) (hy.rr _ (getD_mem (by omega)))
  refine VFn.introC Tryz.call21 Tryz.func21 rfl rfl ?_
  repeat' (conv => whnf
           first
             | (refine Grd.intro (fun (h : Fl.eqk x y = true) => ?_) (fun (h : Fl.eqk x y = false) => ?_))
             | (refine Grd.intro (fun (h : (!Fl.eqk x y) = true) => ?_) (fun (h : (!Fl.eqk x y) = false) => ?_))
             | (refine And.intro trivial (AVle.of_eq (congrArg AV.bool (show Fl.eqk x y = _ from ?_))); focus (simp_all [Fl.eqb, eqS_len]; done))
             | (refine And.intro trivial (AVle.of_eq (congrArg AV.bool (show (!Fl.eqk x y) = _ from ?_))); focus (simp_all [Fl.eqb, eqS_len]; done))
             | (refine Grd.intro (fun h => ?_) (fun h => ?_); rotate_left; focus (exfalso; simp_all; done))
             | (refine Grd.intro (fun h => ?_) (fun h => ?_); focus (exfalso; simp_all; done))
             | refine Grd.intro (fun h => ?_) (fun h => ?_)
             | (refine CallC.sca _ (cx) ?_ ?_; focus (exact rfl))
             | (refine CallC.sca _ (cy) ?_ ?_; focus (exact rfl))
             | (refine CallC.sca _ (specSameStore_fn x.st y.st hx.st hy.st) ?_ ?_; focus (exact rfl))
             | (refine And.intro trivial (AVle.of_eq (congrArg AV.bool ?_)); focus (simp_all [Fl.eqb, eqS_len]; done))
             | (refine And.intro trivial (AVle.of_eq (congrArg AV.bool ?_)); focus (simp only [Fl.eqb, *, cond_true, cond_false, Bool.true_and, Bool.and_true, Bool.false_and, Bool.and_false, Bool.not_true, Bool.not_false, Bool.true_or, Bool.or_true, Bool.false_or, Bool.or_false, if_true, ite_true, reduceIte]; done))
             | (refine And.intro trivial (AVle.of_eq (congrArg AV.bool ?_)); focus (simp_all [Fl.eqb, eqS_len]; intros; omega))
             | (refine And.intro trivial (AVle.of_eq (congrArg AV.bool ?_)); focus (simp only [cond_true, cond_false, Bool.not_eq_true', Bool.not_eq_false'] at *; simp only [Fl.eqb, *, cond_true, cond_false, Bool.true_and, Bool.and_true, Bool.false_and, Bool.and_false, Bool.not_true, Bool.not_false, Bool.true_or, Bool.or_true, Bool.false_or, Bool.or_false, if_true, ite_true, reduceIte]; done))
             | refine OpC.aneq [x.k0, x.k1, x.k2, x.k3, x.k4, x.k5, x.k6] [y.k0, y.k1, y.k2, y.k3, y.k4, y.k5, y.k6] rfl rfl (by kernel_rfl) rfl rfl rfl ?_
             | refine OpC.anneq [x.k0, x.k1, x.k2, x.k3, x.k4, x.k5, x.k6] [y.k0, y.k1, y.k2, y.k3, y.k4, y.k5, y.k6] rfl rfl (by kernel_rfl) rfl rfl rfl ?_
             | refine LoopC.rounds 3 ?_
             | fail)
  cases bw0 : Wk.eqb (ix x.ws 0) (ix y.ws 0)
  · rw [bw0] at w0 eW
    have eW : eqS Wk.eqb x.ws y.ws = false := by rw [eW]; simp
    repeat' (conv => whnf
             first
               | refine DrawC.mk 40 rfl (by kernel_rfl) ?_
               | refine And.intro (by omega) ?_
               | refine PCallC.sca _ (w0) rfl ?_
               | (refine And.intro trivial (AVle.of_eq (congrArg AV.bool ?_)); focus (simp_all [Fl.eqb]; done))
               | refine And.intro (inI64 (by omega) (by omega)) ?_
               | fail)
  rw [bw0] at w0 eW
  cases bg0 : Ig.eqb (ix x.gs 0) (ix y.gs 0)
  · rw [bg0] at g0 eG
    have eG : eqS Ig.eqb x.gs y.gs = false := by rw [eG]; simp
    repeat' (conv => whnf
             first
               | refine DrawC.mk 40 rfl (by kernel_rfl) ?_
               | refine And.intro (by omega) ?_
               | refine PCallC.sca _ (w0) rfl ?_
               | refine PCallC.sca _ (g0) rfl ?_
               | (refine And.intro trivial (AVle.of_eq (congrArg AV.bool ?_)); focus (simp_all [Fl.eqb]; done))
               | refine And.intro (inI64 (by omega) (by omega)) ?_
               | fail)
  rw [bg0] at g0 eG
  cases br0 : Rr.eqb (ix x.rs 0) (ix y.rs 0)
  · rw [br0] at r0 eR
    have eR : eqS Rr.eqb x.rs y.rs = false := by rw [eR]; simp
    repeat' (conv => whnf
             first
               | refine DrawC.mk 40 rfl (by kernel_rfl) ?_
               | refine And.intro (by omega) ?_
               | refine PCallC.sca _ (w0) rfl ?_
               | refine PCallC.sca _ (g0) rfl ?_
               | refine PCallC.sca _ (r0) rfl ?_
               | (refine And.intro trivial (AVle.of_eq (congrArg AV.bool ?_)); focus (simp_all [Fl.eqb]; done))
               | refine And.intro (inI64 (by omega) (by omega)) ?_
               | fail)
  rw [br0] at r0 eR
  repeat' (conv => whnf
           first
             | refine DrawC.mk 40 rfl (by kernel_rfl) ?_
             | refine And.intro (by omega) ?_
             | refine PCallC.sca _ (w0) rfl ?_
             | refine PCallC.sca _ (g0) rfl ?_
             | refine PCallC.sca _ (r0) rfl ?_
             | (refine And.intro trivial (AVle.of_eq (congrArg AV.bool ?_)); focus (simp_all [Fl.eqb, eqS_len]; done))
             | refine And.intro (inI64 (by omega) (by omega)) ?_
             | fail)
  cases bw1 : Wk.eqb (ix x.ws 1) (ix y.ws 1)
  · rw [bw1] at w1 eW
    have eW : eqS Wk.eqb x.ws y.ws = false := by rw [eW]; simp
    repeat' (conv => whnf
             first
               | refine DrawC.mk 40 rfl (by kernel_rfl) ?_
               | refine And.intro (by omega) ?_
               | refine PCallC.sca _ (w1) rfl ?_
               | (refine And.intro trivial (AVle.of_eq (congrArg AV.bool ?_)); focus (simp_all [Fl.eqb]; done))
               | refine And.intro (inI64 (by omega) (by omega)) ?_
               | fail)
  rw [bw1] at w1 eW
  cases bg1 : Ig.eqb (ix x.gs 1) (ix y.gs 1)
  · rw [bg1] at g1 eG
    have eG : eqS Ig.eqb x.gs y.gs = false := by rw [eG]; simp
    repeat' (conv => whnf
             first
               | refine DrawC.mk 40 rfl (by kernel_rfl) ?_
               | refine And.intro (by omega) ?_
               | refine PCallC.sca _ (w1) rfl ?_
               | refine PCallC.sca _ (g1) rfl ?_
               | (refine And.intro trivial (AVle.of_eq (congrArg AV.bool ?_)); focus (simp_all [Fl.eqb]; done))
               | refine And.intro (inI64 (by omega) (by omega)) ?_
               | fail)
  rw [bg1] at g1 eG
  cases br1 : Rr.eqb (ix x.rs 1) (ix y.rs 1)
  · rw [br1] at r1 eR
    have eR : eqS Rr.eqb x.rs y.rs = false := by rw [eR]; simp
    repeat' (conv => whnf
             first
               | refine DrawC.mk 40 rfl (by kernel_rfl) ?_
               | refine And.intro (by omega) ?_
               | refine PCallC.sca _ (w1) rfl ?_
               | refine PCallC.sca _ (g1) rfl ?_
               | refine PCallC.sca _ (r1) rfl ?_
               | (refine And.intro trivial (AVle.of_eq (congrArg AV.bool ?_)); focus (simp_all [Fl.eqb]; done))
               | refine And.intro (inI64 (by omega) (by omega)) ?_
               | fail)
  rw [br1] at r1 eR
  repeat' (conv => whnf
           first
             | refine DrawC.mk 40 rfl (by kernel_rfl) ?_
             | refine And.intro (by omega) ?_
             | refine PCallC.sca _ (w1) rfl ?_
             | refine PCallC.sca _ (g1) rfl ?_
             | refine PCallC.sca _ (r1) rfl ?_
             | (refine And.intro trivial (AVle.of_eq (congrArg AV.bool ?_)); focus (simp_all [Fl.eqb, eqS_len]; done))
             | refine And.intro (inI64 (by omega) (by omega)) ?_
             | refine LoopC.mk (fun i : Nat => i ≤ x.ac.length ∧ ∀ j, j < i → Smp.eqb (ix x.ac j) (ix y.ac j) = true) (fun i => [(2, .bptr 0 0), (3, .bptr 1 0), (6, .int .i64 i)]) (fun i => [(0, .box x.row), (1, .box y.row)]) 2 (fun i => x.ac.length - i) 0 ⟨⟨Nat.zero_le _, fun j hj => absurd hj (Nat.not_lt_zero j)⟩, [(0, 0), (1, 1)], rfl, rfl, ⟨AVle.refl _, AVle.refl _, AVle.refl _, trivial⟩, ⟨MOle.refl _, MOle.refl _, trivial⟩⟩ ?_
             | fail)
  have hxa := hx.ac
  have hxn := hx.an
  intro i hi
  obtain ⟨hi, h0⟩ := hi
  refine Grd.intro (fun g => ?_) (fun g => ?_)
  · have hin : i < x.ac.length := by have := of_decide_eq_true g; omega
    refine DrawC.mk 11 rfl (by kernel_rfl) ?_
    refine And.intro (by omega) ?_
    refine And.intro (by omega) ?_
    refine And.intro (by kernel_rfl) ?_
    refine Grd.intro (fun g => ?_) (fun g => ?_)
    · have g : (!Smp.eqb (ix x.ac i) (ix y.ac i)) = true := g
      have e := eqS_no (q := Smp.eqb) (M := y.ac) hin (by simpa using g)
      exact And.intro trivial (AVle.of_eq (congrArg AV.bool (by simp [Fl.eqb, e])))
    · have g : (!Smp.eqb (ix x.ac i) (ix y.ac i)) = false := g
      have g : Smp.eqb (ix x.ac i) (ix y.ac i) = true := by simpa using g
      refine And.intro (inI64 (by omega) (by omega)) ?_
      exact ⟨i + 1, ⟨hin, fun j hj => by
        rcases Nat.lt_or_ge j i with h' | h'
        · exact h0 j h'
        · rw [show j = i by omega]; exact g⟩, by omega, [(0, 0), (1, 1)], rfl, rfl, ⟨AVle.refl _, AVle.refl _, AVle.of_eq (congrArg (AV.int .i64) (by simp)), trivial⟩, ⟨MOle.refl _, MOle.refl _, trivial⟩⟩
  · have : i = x.ac.length := by have := of_decide_eq_false g; omega
    subst this
    have eSmp := eqS_yes (q := Smp.eqb) hlac h0
    clear h0 g hi
    repeat' (conv => whnf
             first
               | (refine Grd.intro (fun h => ?_) (fun h => ?_); rotate_left; focus (exfalso; simp_all; done))
               | (refine Grd.intro (fun h => ?_) (fun h => ?_); focus (exfalso; simp_all; done))
               | refine Grd.intro (fun h => ?_) (fun h => ?_)
               | (refine And.intro trivial (AVle.of_eq (congrArg AV.bool ?_)); focus (simp_all [Fl.eqb, eqS_len]; done))
               | (refine And.intro trivial (AVle.of_eq (congrArg AV.bool ?_)); focus (simp only [Fl.eqb, *, cond_true, cond_false, Bool.true_and, Bool.and_true, Bool.false_and, Bool.and_false, Bool.not_true, Bool.not_false, Bool.true_or, Bool.or_true, Bool.false_or, Bool.or_false, if_true, ite_true, reduceIte]; done))
               | (refine And.intro trivial (AVle.of_eq (congrArg AV.bool ?_)); focus (simp_all [Fl.eqb, eqS_len]; intros; omega))
               | (refine And.intro trivial (AVle.of_eq (congrArg AV.bool ?_)); focus (simp only [cond_true, cond_false, Bool.not_eq_true', Bool.not_eq_false'] at *; simp only [Fl.eqb, *, cond_true, cond_false, Bool.true_and, Bool.and_true, Bool.false_and, Bool.and_false, Bool.not_true, Bool.not_false, Bool.true_or, Bool.or_true, Bool.false_or, Bool.or_false, if_true, ite_true, reduceIte]; done))
               | refine LoopC.mk (fun i : Nat => i ≤ x.an.length ∧ ∀ j, j < i → An.eqb (ix x.an j) (ix y.an j) = true) (fun i => [(2, .bptr 0 0), (3, .bptr 1 0), (7, .int .i64 i)]) (fun i => [(0, .box x.row), (1, .box y.row)]) 2 (fun i => x.an.length - i) 0 ⟨⟨Nat.zero_le _, fun j hj => absurd hj (Nat.not_lt_zero j)⟩, [(0, 0), (1, 1)], rfl, rfl, ⟨AVle.refl _, AVle.refl _, AVle.refl _, trivial⟩, ⟨MOle.refl _, MOle.refl _, trivial⟩⟩ ?_
               | fail)
    intro i hi
    obtain ⟨hi, h0⟩ := hi
    refine Grd.intro (fun g => ?_) (fun g => ?_)
    · have hin : i < x.an.length := by have := of_decide_eq_true g; omega
      refine DrawC.mk 11 rfl (by kernel_rfl) ?_
      refine And.intro (by omega) ?_
      refine And.intro (by omega) ?_
      refine And.intro (by kernel_rfl) ?_
      refine Grd.intro (fun g => ?_) (fun g => ?_)
      · have g : (!An.eqb (ix x.an i) (ix y.an i)) = true := g
        have e := eqS_no (q := An.eqb) (M := y.an) hin (by simpa using g)
        exact And.intro trivial (AVle.of_eq (congrArg AV.bool (by simp [Fl.eqb, e])))
      · have g : (!An.eqb (ix x.an i) (ix y.an i)) = false := g
        have g : An.eqb (ix x.an i) (ix y.an i) = true := by simpa using g
        refine And.intro (inI64 (by omega) (by omega)) ?_
        exact ⟨i + 1, ⟨hin, fun j hj => by
          rcases Nat.lt_or_ge j i with h' | h'
          · exact h0 j h'
          · rw [show j = i by omega]; exact g⟩, by omega, [(0, 0), (1, 1)], rfl, rfl, ⟨AVle.refl _, AVle.refl _, AVle.of_eq (congrArg (AV.int .i64) (by simp)), trivial⟩, ⟨MOle.refl _, MOle.refl _, trivial⟩⟩
    · have : i = x.an.length := by have := of_decide_eq_false g; omega
      subst this
      have eAn := eqS_yes (q := An.eqb) hlan h0
      clear h0 g hi
      exact And.intro trivial (AVle.of_eq (congrArg AV.bool (by simp_all [Fl.eqb])))
theorem law_SameFleet (a : Fl) (ha : FlIn a) (b : Fl) (hb : FlIn b) : VFn Tryz.prog 6 [a.av, b.av] (.bool true) := by
  by_cases hf : (flN a : Int) ≤ 1048576
  · by_cases hg : (flN b : Int) ≤ 1048576 - (flN a : Int)
    · have hs := Fl.small_of hf
      have ht := Fl.small_of (s := b) (by omega)
      have c1 := specSameFleet_fn a b hs ht ha.nx hb.nx
      have c2 := SameFleet_fn a b hs ht
      generalize (a.ok && (b.ok && Fl.eqb a b)) = r at c1 c2
      cases r
      all_goals
        refine VFn.introC Tryz.call6 Tryz.func6 rfl rfl ?_
        conv => whnf
        refine CallC.sca _ (szFleet_fn a 1048576 (by decide) (by decide) ha) ?_ ?_
        · exact rfl
        rw [szr_yes hf]
        refine Grd.intro (fun h => absurd (of_decide_eq_true h) (by omega)) (fun _ => ?_)
        conv => whnf
        refine CallC.sca _ (szFleet_fn b (1048576 - (flN a : Int)) (by omega) (by omega) hb) ?_ ?_
        · exact rfl
        rw [szr_yes hg]
        refine Grd.intro (fun h => absurd (of_decide_eq_true h) (by omega)) (fun _ => ?_)
        refine DrawC.mk 6 rfl (by kernel_rfl) ?_
        refine PCallC.nl _ (toFleet_fn a hs) rfl ?_
        refine PCallC.nl _ (toFleet_fn b ht) rfl ?_
        refine PCallC.sca _ (c1) rfl ?_
        conv => whnf
        refine CallC.nl _ (toFleet_fn a hs) ?_ ?_
        · exact rfl
        conv => whnf
        refine CallC.nl _ (toFleet_fn b ht) ?_ ?_
        · exact rfl
        conv => whnf
        refine CallC.sca _ (c2) ?_ ?_
        · exact rfl
        conv => whnf
        refine OpC.bneq rfl rfl rfl rfl rfl ?_
        conv => whnf
        refine DrawC.mk 5 rfl (by kernel_rfl) ?_
        refine PCallC.nl _ (toFleet_fn a hs) rfl ?_
        refine PCallC.sca _ (eqFleet_fn a hs) rfl ?_
        refine DrawC.mk 5 rfl (by kernel_rfl) ?_
        refine PCallC.nl _ (toFleet_fn b ht) rfl ?_
        refine PCallC.sca _ (eqFleet_fn b ht) rfl ?_
        exact And.intro trivial (AVle.refl _)
    · refine VFn.introC Tryz.call6 Tryz.func6 rfl rfl ?_
      conv => whnf
      refine CallC.sca _ (szFleet_fn a 1048576 (by decide) (by decide) ha) ?_ ?_
      · exact rfl
      rw [szr_yes hf]
      refine Grd.intro (fun h => absurd (of_decide_eq_true h) (by omega)) (fun _ => ?_)
      conv => whnf
      refine CallC.sca _ (szFleet_fn b (1048576 - (flN a : Int)) (by omega) (by omega) hb) ?_ ?_
      · exact rfl
      rw [szr_no hg]
      exact And.intro trivial (AVle.refl _)
  · refine VFn.introC Tryz.call6 Tryz.func6 rfl rfl ?_
    conv => whnf
    refine CallC.sca _ (szFleet_fn a 1048576 (by decide) (by decide) ha) ?_ ?_
    · exact rfl
    rw [szr_no hf]
    exact And.intro trivial (AVle.refl _)
end Go.Proofs.YtlbnpndednhdaaaGreatDoor
