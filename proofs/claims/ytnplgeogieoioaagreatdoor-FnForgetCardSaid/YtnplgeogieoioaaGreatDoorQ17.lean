/- Contracts of functions that the claim reaches, and the plain law of what they compute; each theorem bears its own conditions. -/
import Derived.Test.YtnplgeogieoioaaGreatDoorQ16
import Derived.Test.YtnplgeogieoioaaGreatDoorQ5
import Derived.Test.YtnplgeogieoioaaGreatDoorV52
import Derived.Test.YtnplgeogieoioaaGreatDoorQ9
import Derived.Test.YtnplgeogieoioaaGreatDoorQ7
set_option linter.unusedVariables false
set_option linter.constructorNameAsVariable false
set_option linter.unusedSimpArgs false
set_option maxRecDepth 20000
set_option maxHeartbeats 1000000
namespace Go.Proofs.YtnplgeogieoioaaGreatDoor
open Go Go.Vw
theorem EqualFWk_fn (L M : List Wk) (hL : L.length ≤ 1048576) (hM : M.length ≤ 1048576) (F : Nat) (q : Wk → Wk → Bool) (hq : ∀ x ∈ L, ∀ y ∈ M, VFn Tryz.prog F [x.av, y.av] (.bool (q x y))) : VFn Tryz.prog 39 [wks L, wks M, .fn (.func F) [] []] (.bool (eqS q L M)) := by
 by_cases hl : (L.length : Int) = M.length
 · refine VFn.introC Tryz.call39 Tryz.func39 rfl rfl ?_
   refine Grd.intro (fun g => ?_) (fun _ => ?_)
   · exfalso; simp [hl] at g
   refine LoopC.mk (fun i : Nat => i ≤ L.length ∧ ∀ j, j < i → q (ix L j) (ix M j) = true) (fun i => [(1, wks M), (2, .fn (.func F) [] []), (15, wks L), (16, .int .i64 L.length), (17, .int .i64 i)]) (fun i => []) 0 (fun i => L.length - i) 0
    ⟨⟨Nat.zero_le _, fun j hj => absurd hj (Nat.not_lt_zero j)⟩, [], rfl, rfl, ⟨AVle.refl _, AVle.refl _, AVle.refl _, AVle.refl _, AVle.refl _, trivial⟩, trivial⟩ ?_
   intro i hi
   obtain ⟨hi, h0⟩ := hi
   refine Grd.intro (fun h2 => ?_) (fun h2 => ?_)
   · have hin : i < L.length := by have := of_decide_eq_true h2; omega
     have c := hq _ (getD_mem hin) (ix M i) (getD_mem (by omega))
     refine And.intro (by omega) ?_
     refine And.intro (by omega) ?_
     by_cases g : q (ix L i) (ix M i) = true
     · rw [g] at c
       conv => whnf
       refine CallC.sca _ (c) ?_ ?_
       · exact rfl
       refine And.intro (inI64 (by omega) (by omega)) ?_
       exact ⟨i + 1, ⟨hin, fun j hj => by
        rcases Nat.lt_or_ge j i with h' | h'
        · exact h0 j h'
        · rw [show j = i by omega]; exact g⟩, by omega, [], rfl, rfl, ⟨AVle.refl _, AVle.refl _, AVle.refl _, AVle.refl _, AVle.of_eq (congrArg (AV.int .i64) (by simp)), trivial⟩, trivial⟩
     · have g : q (ix L i) (ix M i) = false := by simpa using g
       rw [g] at c
       rw [eqS_no hin g]
       conv => whnf
       refine CallC.sca _ (c) ?_ ?_
       · exact rfl
       exact And.intro trivial (AVle.refl _)
   · have : i = L.length := by have := of_decide_eq_false h2; omega
     subst this
     rw [eqS_yes hl h0]
     exact And.intro trivial (AVle.refl _)
 · rw [eqS_len hl]
   refine VFn.introC Tryz.call39 Tryz.func39 rfl rfl ?_
   refine Grd.intro (fun g => ?_) (fun g => ?_)
   · exact And.intro trivial (AVle.refl _)
   · exfalso; simp [hl] at g
theorem EqualFIg_fn (L M : List Ig) (hL : L.length ≤ 1048576) (hM : M.length ≤ 1048576) (F : Nat) (q : Ig → Ig → Bool) (hq : ∀ x ∈ L, ∀ y ∈ M, VFn Tryz.prog F [x.av, y.av] (.bool (q x y))) : VFn Tryz.prog 40 [igs L, igs M, .fn (.func F) [] []] (.bool (eqS q L M)) := by
 by_cases hl : (L.length : Int) = M.length
 · refine VFn.introC Tryz.call40 Tryz.func40 rfl rfl ?_
   refine Grd.intro (fun g => ?_) (fun _ => ?_)
   · exfalso; simp [hl] at g
   refine LoopC.mk (fun i : Nat => i ≤ L.length ∧ ∀ j, j < i → q (ix L j) (ix M j) = true) (fun i => [(1, igs M), (2, .fn (.func F) [] []), (15, igs L), (16, .int .i64 L.length), (17, .int .i64 i)]) (fun i => []) 0 (fun i => L.length - i) 0
    ⟨⟨Nat.zero_le _, fun j hj => absurd hj (Nat.not_lt_zero j)⟩, [], rfl, rfl, ⟨AVle.refl _, AVle.refl _, AVle.refl _, AVle.refl _, AVle.refl _, trivial⟩, trivial⟩ ?_
   intro i hi
   obtain ⟨hi, h0⟩ := hi
   refine Grd.intro (fun h2 => ?_) (fun h2 => ?_)
   · have hin : i < L.length := by have := of_decide_eq_true h2; omega
     have c := hq _ (getD_mem hin) (ix M i) (getD_mem (by omega))
     refine And.intro (by omega) ?_
     refine And.intro (by omega) ?_
     by_cases g : q (ix L i) (ix M i) = true
     · rw [g] at c
       conv => whnf
       refine CallC.sca _ (c) ?_ ?_
       · exact rfl
       refine And.intro (inI64 (by omega) (by omega)) ?_
       exact ⟨i + 1, ⟨hin, fun j hj => by
        rcases Nat.lt_or_ge j i with h' | h'
        · exact h0 j h'
        · rw [show j = i by omega]; exact g⟩, by omega, [], rfl, rfl, ⟨AVle.refl _, AVle.refl _, AVle.refl _, AVle.refl _, AVle.of_eq (congrArg (AV.int .i64) (by simp)), trivial⟩, trivial⟩
     · have g : q (ix L i) (ix M i) = false := by simpa using g
       rw [g] at c
       rw [eqS_no hin g]
       conv => whnf
       refine CallC.sca _ (c) ?_ ?_
       · exact rfl
       exact And.intro trivial (AVle.refl _)
   · have : i = L.length := by have := of_decide_eq_false h2; omega
     subst this
     rw [eqS_yes hl h0]
     exact And.intro trivial (AVle.refl _)
 · rw [eqS_len hl]
   refine VFn.introC Tryz.call40 Tryz.func40 rfl rfl ?_
   refine Grd.intro (fun g => ?_) (fun g => ?_)
   · exact And.intro trivial (AVle.refl _)
   · exfalso; simp [hl] at g
theorem EqualFRr_fn (L M : List Rr) (hL : L.length ≤ 1048576) (hM : M.length ≤ 1048576) (F : Nat) (q : Rr → Rr → Bool) (hq : ∀ x ∈ L, ∀ y ∈ M, VFn Tryz.prog F [x.av, y.av] (.bool (q x y))) : VFn Tryz.prog 41 [rrs L, rrs M, .fn (.func F) [] []] (.bool (eqS q L M)) := by
 by_cases hl : (L.length : Int) = M.length
 · refine VFn.introC Tryz.call41 Tryz.func41 rfl rfl ?_
   refine Grd.intro (fun g => ?_) (fun _ => ?_)
   · exfalso; simp [hl] at g
   refine LoopC.mk (fun i : Nat => i ≤ L.length ∧ ∀ j, j < i → q (ix L j) (ix M j) = true) (fun i => [(1, rrs M), (2, .fn (.func F) [] []), (15, rrs L), (16, .int .i64 L.length), (17, .int .i64 i)]) (fun i => []) 0 (fun i => L.length - i) 0
    ⟨⟨Nat.zero_le _, fun j hj => absurd hj (Nat.not_lt_zero j)⟩, [], rfl, rfl, ⟨AVle.refl _, AVle.refl _, AVle.refl _, AVle.refl _, AVle.refl _, trivial⟩, trivial⟩ ?_
   intro i hi
   obtain ⟨hi, h0⟩ := hi
   refine Grd.intro (fun h2 => ?_) (fun h2 => ?_)
   · have hin : i < L.length := by have := of_decide_eq_true h2; omega
     have c := hq _ (getD_mem hin) (ix M i) (getD_mem (by omega))
     refine And.intro (by omega) ?_
     refine And.intro (by omega) ?_
     by_cases g : q (ix L i) (ix M i) = true
     · rw [g] at c
       conv => whnf
       refine CallC.sca _ (c) ?_ ?_
       · exact rfl
       refine And.intro (inI64 (by omega) (by omega)) ?_
       exact ⟨i + 1, ⟨hin, fun j hj => by
        rcases Nat.lt_or_ge j i with h' | h'
        · exact h0 j h'
        · rw [show j = i by omega]; exact g⟩, by omega, [], rfl, rfl, ⟨AVle.refl _, AVle.refl _, AVle.refl _, AVle.refl _, AVle.of_eq (congrArg (AV.int .i64) (by simp)), trivial⟩, trivial⟩
     · have g : q (ix L i) (ix M i) = false := by simpa using g
       rw [g] at c
       rw [eqS_no hin g]
       conv => whnf
       refine CallC.sca _ (c) ?_ ?_
       · exact rfl
       exact And.intro trivial (AVle.refl _)
   · have : i = L.length := by have := of_decide_eq_false h2; omega
     subst this
     rw [eqS_yes hl h0]
     exact And.intro trivial (AVle.refl _)
 · rw [eqS_len hl]
   refine VFn.introC Tryz.call41 Tryz.func41 rfl rfl ?_
   refine Grd.intro (fun g => ?_) (fun g => ?_)
   · exact And.intro trivial (AVle.refl _)
   · exfalso; simp [hl] at g
def Fl.eqk (x y : Fl) : Bool := decide ([x.k0, x.k1, x.k2, x.k3, x.k4, x.k5, x.k6] = [y.k0, y.k1, y.k2, y.k3, y.k4, y.k5, y.k6])
def Fl.eqb (x y : Fl) : Bool := Sto.eqb x.st y.st && (decide (x.clk = y.clk) && (Fl.eqk x y && (eqS Wk.eqb x.ws y.ws && (eqS Ig.eqb x.gs y.gs && (eqS Rr.eqb x.rs y.rs && (eqS Smp.eqb x.ac y.ac && eqS An.eqb x.an y.an))))))
theorem SameFleet_fn (x y : Fl) (hx : x.small) (hy : y.small) : VFn Tryz.prog 11 [x.av, y.av] (.bool (x.ok && (y.ok && Fl.eqb x y))) := by
 have cx := FleetOK_fn x hx
 have cy := FleetOK_fn y hy
 generalize x.ok = ox at cx ⊢
 generalize y.ok = oy at cy ⊢
 refine VFn.introC Tryz.call11 Tryz.func11 rfl rfl ?_
 repeat' (conv => whnf
          first
           | (refine Grd.intro (fun (h : Fl.eqk x y = true) => ?_) (fun (h : Fl.eqk x y = false) => ?_))
           | (refine Grd.intro (fun (h : (!Fl.eqk x y) = true) => ?_) (fun (h : (!Fl.eqk x y) = false) => ?_))
           | (refine And.intro trivial (AVle.of_eq (congrArg AV.bool (show Fl.eqk x y = _ from ?_))); focus (simp_all [Fl.eqb]; done))
           | (refine And.intro trivial (AVle.of_eq (congrArg AV.bool (show (!Fl.eqk x y) = _ from ?_))); focus (simp_all [Fl.eqb]; done))
           | (refine Grd.intro (fun h => ?_) (fun h => ?_); rotate_left; focus (exfalso; simp_all; done))
           | (refine Grd.intro (fun h => ?_) (fun h => ?_); focus (exfalso; simp_all; done))
           | refine Grd.intro (fun h => ?_) (fun h => ?_)
           | (refine CallC.sca _ (cx) ?_ ?_; focus (exact rfl))
           | (refine CallC.sca _ (cy) ?_ ?_; focus (exact rfl))
           | (refine CallC.sca _ (SameStore_fn x.st y.st hx.st hy.st) ?_ ?_; focus (exact rfl))
           | (refine CallC.sca _ (EqualFWk_fn x.ws y.ws hx.ws hy.ws 15 Wk.eqb (fun a ha b hb => SameWorker_fn a b (hx.wr a ha) (hy.wr b hb))) ?_ ?_; focus (exact rfl))
           | (refine CallC.sca _ (EqualFIg_fn x.gs y.gs hx.gs hy.gs 16 Ig.eqb (fun a ha b hb => SameIngester_fn a b (hx.gr a ha) (hy.gr b hb))) ?_ ?_; focus (exact rfl))
           | (refine CallC.sca _ (EqualFRr_fn x.rs y.rs hx.rs hy.rs 17 Rr.eqb (fun a ha b hb => SameReader_fn a b (hx.rr a ha) (hy.rr b hb))) ?_ ?_; focus (exact rfl))
           | (refine CallC.sca _ (EqualSmp2_fn x.ac y.ac hx.ac hy.ac) ?_ ?_; focus (exact rfl))
           | (refine CallC.sca _ (EqualAn2_fn x.an y.an hx.an hy.an) ?_ ?_; focus (exact rfl))
           | (refine And.intro trivial (AVle.of_eq (congrArg AV.bool ?_)); focus (simp_all [Fl.eqb]; done))
           | (refine And.intro trivial (AVle.of_eq (congrArg AV.bool ?_)); focus (simp only [Fl.eqb, *, cond_true, cond_false, Bool.true_and, Bool.and_true, Bool.false_and, Bool.and_false, Bool.not_true, Bool.not_false, Bool.true_or, Bool.or_true, Bool.false_or, Bool.or_false, if_true, ite_true, reduceIte]; done))
           | (refine And.intro trivial (AVle.of_eq (congrArg AV.bool ?_)); focus (simp_all [Fl.eqb]; intros; omega))
           | (refine And.intro trivial (AVle.of_eq (congrArg AV.bool ?_)); focus (simp only [cond_true, cond_false, Bool.not_eq_true', Bool.not_eq_false'] at *; simp only [Fl.eqb, *, cond_true, cond_false, Bool.true_and, Bool.and_true, Bool.false_and, Bool.and_false, Bool.not_true, Bool.not_false, Bool.true_or, Bool.or_true, Bool.false_or, Bool.or_false, if_true, ite_true, reduceIte]; done))
           | refine OpC.aneq [x.k0, x.k1, x.k2, x.k3, x.k4, x.k5, x.k6] [y.k0, y.k1, y.k2, y.k3, y.k4, y.k5, y.k6] rfl rfl (by kernel_rfl) rfl rfl rfl ?_
           | refine OpC.anneq [x.k0, x.k1, x.k2, x.k3, x.k4, x.k5, x.k6] [y.k0, y.k1, y.k2, y.k3, y.k4, y.k5, y.k6] rfl rfl (by kernel_rfl) rfl rfl rfl ?_
           | fail)
theorem sameSamples_fn (L : List Smp) (hL : L.length ≤ 1000000) : VFn Tryz.prog 12 [smps L, smps L] (.bool true) := by
 refine VFn.introC Tryz.call12 Tryz.func12 rfl rfl ?_
 refine Grd.intro (fun h => absurd h (by simp)) (fun _ => ?_)
 refine LoopC.mk (fun i : Nat => i ≤ L.length) (fun i => [(0, smps L), (1, smps L), (5, .int .i64 i)]) (fun i => []) 0 (fun i => L.length - i) 0
  ⟨Nat.zero_le _, [], rfl, rfl, ⟨AVle.refl _, AVle.refl _, AVle.refl _, trivial⟩, trivial⟩ ?_
 intro i hi
 refine Grd.intro (fun h2 => ?_) (fun h2 => ?_)
 · have hin : i < L.length := by have := of_decide_eq_true h2; omega
   refine DrawC.mq 9 rfl (by kernel_rfl) ?_
   refine And.intro (by omega) ?_
   refine And.intro (by omega) ?_
   refine And.intro (by kernel_rfl) ?_
   refine Grd.intro (fun h => absurd h (by simp)) (fun _ => ?_)
   refine And.intro (inI64 (by omega) (by omega)) ?_
   exact ⟨i + 1, hin, by omega, [], rfl, rfl, ⟨AVle.refl _, AVle.refl _, AVle.of_eq (congrArg (AV.int .i64) (by simp)), trivial⟩, trivial⟩
 · exact And.intro trivial (AVle.refl _)


theorem at_fn (L : List UInt8) (i n : Int) (hm : L.length ≤ 1048576) (hi : 0 ≤ i ∧ i ≤ 1000) (hn : 1 < n ∧ n ≤ 1000) : ∃ v, (0 ≤ v ∧ v < n) ∧ VFn Tryz.prog 8 [byts L, .int .i64 i, .int .i64 n] (.int .i64 v) := by
 by_cases h0 : L.length = 0
 · refine ⟨(i * 7).tmod n, tmod_b (by omega) (by omega), ?_⟩
   refine VFn.introC Tryz.call8 Tryz.func8 rfl rfl ?_
   refine Grd.intro (fun h => absurd (of_decide_eq_true h) (by omega)) (fun _ => ?_)
   refine Grd.intro (fun h => ?_) (fun h => absurd (of_decide_eq_false h) (by omega))
   refine And.intro (inI64 (by omega) (by omega)) ?_
   refine And.intro (show n ≠ 0 by omega) ?_
   exact And.intro trivial (AVle.refl _)
 · have q1 := tmod_b (n := i) (m := L.length) (by omega) (by omega)
   have q2 := tmod_b (n := i + 1) (m := L.length) (by omega) (by omega)
   have q3 := tdiv_b (n := i) (m := L.length) (by omega) (by omega)
   have b1 := (ix L (i.tmod L.length).toNat).toNat_lt
   have b2 := (ix L ((i + 1).tmod L.length).toNat).toNat_lt
   refine ⟨(((ix L (i.tmod L.length).toNat).toNat : Int) * 31 + ((ix L ((i + 1).tmod L.length).toNat).toNat : Int) + i.tdiv L.length).tmod n, tmod_b (by omega) (by omega), ?_⟩
   refine VFn.introC Tryz.call8 Tryz.func8 rfl rfl ?_
   refine Grd.intro (fun h => absurd (of_decide_eq_true h) (by omega)) (fun _ => ?_)
   refine Grd.intro (fun h => absurd (of_decide_eq_true h) (by omega)) (fun h => ?_)
   refine DrawC.mq 25 rfl (by kernel_rfl) ?_
   refine And.intro (show (L.length : Int) ≠ 0 by omega) ?_
   refine And.intro q1 ?_
   refine And.intro (show inI .i64 _ from inI64 (by omega) (by omega)) ?_
   refine And.intro (show inI .i64 _ from inI64 (by omega) (by omega)) ?_
   refine And.intro (show inI .i64 (i + 1) from inI64 (by omega) (by omega)) ?_
   refine And.intro (show (L.length : Int) ≠ 0 by omega) ?_
   refine And.intro q2 ?_
   refine And.intro (show inI .i64 _ from inI64 (by omega) (by omega)) ?_
   refine And.intro (show inI .i64 _ from inI64 (by omega) (by omega)) ?_
   refine And.intro ⟨show (L.length : Int) ≠ 0 by omega, show inI .i64 (i.tdiv L.length) from inI64 (by omega) (by omega)⟩ ?_
   refine And.intro (show inI .i64 _ from inI64 (by omega) (by omega)) ?_
   refine And.intro (show n ≠ 0 by omega) ?_
   exact And.intro trivial (AVle.refl _)
theorem sameStore_fn (s : Sto) (hL : s.os.length ≤ 1000000) : VFn Tryz.prog 10 [s.av, s.av] (.bool true) := by
 refine VFn.introC Tryz.call10 Tryz.func10 rfl rfl ?_
 refine Grd.intro (fun h => absurd h (by simp)) (fun _ => ?_)
 refine Grd.intro (fun h => absurd h (by simp)) (fun _ => ?_)
 refine LoopC.mk (fun i : Nat => i ≤ s.os.length) (fun i => [(2, .bptr 0 0), (3, .bptr 1 0), (5, .int .i64 i)]) (fun i => [(0, .box s.row), (1, .box s.row)]) 2 (fun i => s.os.length - i) 0
  ⟨Nat.zero_le _, [(0, 0), (1, 1)], rfl, rfl, ⟨AVle.refl _, AVle.refl _, AVle.refl _, trivial⟩, ⟨MOle.refl _, MOle.refl _, trivial⟩⟩ ?_
 intro i hi
 refine Grd.intro (fun h2 => ?_) (fun h2 => ?_)
 · have hin : i < s.os.length := by have := of_decide_eq_true h2; omega
   refine DrawC.mq 10 rfl (by kernel_rfl) ?_
   refine And.intro (by omega) ?_
   refine And.intro (by omega) ?_
   refine And.intro (by kernel_rfl) ?_
   refine Grd.intro (fun h => absurd h (by simp)) (fun _ => ?_)
   refine And.intro (inI64 (by omega) (by omega)) ?_
   exact ⟨i + 1, hin, by omega, [(0, 0), (1, 1)], rfl, rfl, ⟨AVle.refl _, AVle.refl _, AVle.of_eq (congrArg (AV.int .i64) (by simp)), trivial⟩, ⟨MOle.refl _, MOle.refl _, trivial⟩⟩
 · exact And.intro trivial (AVle.refl _)
theorem eqS_refl {α : Type} [Inhabited α] {q : α → α → Bool} {L : List α} (h : ∀ x, q x x = true) : eqS q L L = true := eqS_yes rfl fun j _ => h _
theorem Ob.eqb_refl (x : Ob) : Ob.eqb x x = true := by simp [Ob.eqb]
theorem En.eqb_refl (x : En) : En.eqb x x = true := by simp [En.eqb]
theorem Smp.eqb_refl (x : Smp) : Smp.eqb x x = true := by simp [Smp.eqb]
theorem Rc.eqb_refl (x : Rc) : Rc.eqb x x = true := by simp [Rc.eqb]
theorem Ag.eqb_refl (x : Ag) : Ag.eqb x x = true := by simp [Ag.eqb]
theorem An.eqb_refl (x : An) : An.eqb x x = true := by simp [An.eqb, Ag.eqb_refl]
theorem Sto.eqb_refl (x : Sto) : Sto.eqb x x = true := by simp [Sto.eqb, eqS_refl Ob.eqb_refl]
theorem Wk.eqb_refl (x : Wk) : Wk.eqb x x = true := by simp [Wk.eqb, Rc.eqb_refl, Ag.eqb_refl, eqS_refl En.eqb_refl]
theorem Ig.eqb_refl (x : Ig) : Ig.eqb x x = true := by simp [Ig.eqb, eqS_refl Smp.eqb_refl]
theorem Rr.eqb_refl (x : Rr) : Rr.eqb x x = true := by simp [Rr.eqb, Ag.eqb_refl, eqS_refl En.eqb_refl]
theorem Fl.eqb_refl (x : Fl) : Fl.eqb x x = true := by simp [Fl.eqb, Fl.eqk, Sto.eqb_refl, eqS_refl Wk.eqb_refl, eqS_refl Ig.eqb_refl, eqS_refl Rr.eqb_refl, eqS_refl Smp.eqb_refl, eqS_refl An.eqb_refl]
theorem crash_twice (f : Fl) (w : Nat) : crashF (crashF f w) w = crashF f w := by
 unfold crashF
 by_cases h6 : w = 6
 · simp [h6]
 by_cases h4 : w = 4 ∨ w = 5
 · simp [h6, h4, List.set_set]
 by_cases h2 : w = 2 ∨ w = 3
 · simp [h6, h4, h2, List.set_set]
 · simp [h6, h4, h2, List.set_set]
def actC (w : Nat) : Act := ⟨2, w, 0, 0, 0, 0, []⟩
theorem Crash_fn {f : Fl} {M Q : Nat} (F : FlI f M Q) (J : FlJ f) (hM : M ≤ 900) (hQ : Q ≤ 1000) {w : Nat} (hw : w ≤ 6) : VFn Tryz.prog 9 [f.av, .agg [.int .i64 2, .int .i64 w, .int .i64 0, .int .i64 0, .int .i64 0, .int .i64 0, .nilsl]] (.tup [(crashF f w).av, .int .i64 0]) := by
 have h : (actC w).ok = true := by
  unfold Act.ok actC Act.noR Act.noB within
  simp
  omega
 have c := ActDo_fn F J hM hQ h
 exact c.weak (AVsle.cons (AVle.refl _) (AVsle.cons (AVle.agg (AVsle.cons (AVle.refl _) (AVsle.cons (AVle.refl _) (AVsle.cons (AVle.refl _) (AVsle.cons (AVle.refl _) (AVsle.cons (AVle.refl _) (AVsle.cons (AVle.refl _) (AVsle.cons (AVle.nilsl _ _ rfl) AVsle.nil)))))))) AVsle.nil)) (AVle.refl _)
theorem crash_who {f : Fl} {M Q : Nat} (F : FlI f M Q) {w : Nat} (hw : w ≤ 6) :
 (w < 2 → ix (crashF f w).ws w = wkR w) ∧ (2 ≤ w → w < 4 → ix (crashF f w).gs (w - 2) = ingR w) ∧ (4 ≤ w → w < 6 → ix (crashF f w).rs (w - 4) = rd0 w) ∧ (w = 6 → crashF f w = f) := by
 obtain ⟨l1, l2, l3⟩ := F.lens
 have hs : ∀ {α : Type} [Inhabited α] (L : List α) (i : Nat) (v : α), i < L.length → ix (L.set i v) i = v := fun L i v h => by
  rw [ix_lt (by rw [List.length_set]; exact h)]; simp
 unfold crashF
 refine ⟨fun h => ?_, fun h h' => ?_, fun h h' => ?_, fun h => ?_⟩
 · rw [if_neg (by omega), if_neg (by omega), if_neg (by omega)]
   exact hs _ _ _ (by omega)
 · rw [if_neg (by omega), if_neg (by omega), if_pos (by omega)]
   exact hs _ _ _ (by omega)
 · rw [if_neg (by omega), if_pos (by omega)]
   exact hs _ _ _ (by omega)
 · rw [if_pos h]
theorem law_Forget (code : List UInt8) (hc : code.length ≤ 9223372036854775807) (more : List UInt8) (hm : more.length ≤ 9223372036854775807) : VFn Tryz.prog 3 [byts code, byts more] (.bool true) := by
 by_cases hL1 : 1048576 < code.length
 · refine VFn.introC Tryz.call3 Tryz.func3 rfl rfl ?_
   refine Grd.intro (fun _ => ?_) (fun h => absurd (of_decide_eq_false h) (by omega))
   exact And.intro trivial (AVle.refl _)
 by_cases hL2 : 1048576 < more.length
 · refine VFn.introC Tryz.call3 Tryz.func3 rfl rfl ?_
   refine Grd.intro (fun h => absurd (of_decide_eq_true h) (by omega)) (fun _ => ?_)
   refine Grd.intro (fun _ => ?_) (fun h => absurd (of_decide_eq_false h) (by omega))
   exact And.intro trivial (AVle.refl _)
 obtain ⟨L, f, W, ca, cr⟩ := run_fn code (by omega)
 obtain ⟨v, hv, cv⟩ := at_fn more 0 7 (by omega) (by omega) (by omega)
 obtain ⟨w, rfl⟩ : ∃ w : Nat, v = w := ⟨v.toNat, by omega⟩
 have hw : w ≤ 6 := by omega
 have F := W.i
 have J := W.j
 have c1 := Crash_fn F J (by omega) (by omega) hw
 have F' := (F.crash hw).1
 have J' := J.crash w
 have c2 := Crash_fn F' J' (by omega) (by omega) hw
 rw [crash_twice] at c2
 have hst : (crashF f w).st = f.st := by unfold crashF; (repeat' split) <;> rfl
 have hac : (crashF f w).ac = f.ac := by unfold crashF; (repeat' split) <;> rfl
 have S := F.small J (by omega) (by omega)
 have c3 := sameStore_fn f.st (by have := ((stoOK_iff f.st).1 F.st.lg.ok).len; omega)
 have S' := F'.small J' (by omega) (by omega)
 have c4 := SameFleet_fn _ _ S' S'
 rw [F'.ok (by omega), Fl.eqb_refl] at c4
 have c5 := sameSamples_fn f.ac (by have := F.acl; omega)
 have c6 := FleetOK_fn _ S'
 rw [F'.ok (by omega)] at c6
 have c7 := SameFleet_fn _ _ S S
 rw [F.ok (by omega), Fl.eqb_refl] at c7
 obtain ⟨d0, d1, d2, d6⟩ := crash_who F hw
 have e6 : w = 6 → VFn Tryz.prog 11 [(crashF f w).av, f.av] (.bool true) := fun h => by rw [d6 h]; exact c7
 obtain ⟨l1, l2, l3⟩ := F'.lens
 rw [← hst] at c3
 rw [← hac] at c5
 have c3 : VFn Tryz.prog 10 [(crashF f w).st.av, f.st.av] (.bool true) := by rw [← hst]; exact c3
 have c5 : VFn Tryz.prog 12 [smps (crashF f w).ac, smps f.ac] (.bool true) := by rw [← hac]; exact c5
 clear hst hac F' J' c7 d6 S S'
 generalize crashF f w = x at *
 refine VFn.introC Tryz.call3 Tryz.func3 rfl rfl ?_
 refine Grd.intro (fun h => absurd (of_decide_eq_true h) (by omega)) (fun _ => ?_)
 refine Grd.intro (fun h => absurd (of_decide_eq_true h) (by omega)) (fun _ => ?_)
 conv => whnf
 refine CallC.nl _ (ca) ?_ ?_
 · exact rfl
 conv => whnf
 refine CallC.nl _ (cr) ?_ ?_
 · exact rfl
 conv => whnf
 conv => whnf
 refine CallC.nl _ (cv) ?_ ?_
 · exact rfl
 conv => whnf
 conv => whnf
 refine CallC.nl _ (c1) ?_ ?_
 · exact rfl
 conv => whnf
 conv => whnf
 refine CallC.nl _ (c2) ?_ ?_
 · exact rfl
 conv => whnf
 conv => whnf
 refine CallC.nl _ (c3) ?_ ?_
 · exact rfl
 conv => whnf
 conv => whnf
 refine CallC.nl _ (c4) ?_ ?_
 · exact rfl
 conv => whnf
 conv => whnf
 refine CallC.nl _ (c5) ?_ ?_
 · exact rfl
 conv => whnf
 conv => whnf
 refine CallC.nl _ (NewFleet_fn) ?_ ?_
 · exact rfl
 conv => whnf
 conv => whnf
 refine CallC.nl _ (c6) ?_ ?_
 · exact rfl
 conv => whnf
 have h7 : w = 0 ∨ w = 1 ∨ w = 2 ∨ w = 3 ∨ w = 4 ∨ w = 5 ∨ w = 6 := by omega
 rcases h7 with rfl | rfl | rfl | rfl | rfl | rfl | rfl
 · have e := d0 (by omega)
   have cs : VFn Tryz.prog 15 [(ix x.ws 0).av, (ix newF.ws 0).av] (.bool true) := by
    have := SameWorker_fn (wkR 0) (wkR 0) (by show (0 : Nat) ≤ 1048576; decide) (by show (0 : Nat) ≤ 1048576; decide)
    rw [Wk.eqb_refl] at this
    have e : ix x.ws 0 = wkR 0 := e
    rw [e]
    exact this
   clear d0 d1 d2 e6
   conv => whnf
   refine DrawC.mq 10 rfl (by kernel_rfl) ?_
   refine And.intro ⟨by decide, show ((0 : Nat) : Int) < (x.ws.length : Int) by omega⟩ ?_
   refine And.intro ⟨by decide, by decide⟩ ?_
   conv => whnf
   refine CallC.nl _ (cs) ?_ ?_
   · exact rfl
   exact And.intro trivial (AVle.refl _)
 · have e := d0 (by omega)
   have cs : VFn Tryz.prog 15 [(ix x.ws 1).av, (ix newF.ws 1).av] (.bool true) := by
    have := SameWorker_fn (wkR 1) (wkR 1) (by show (0 : Nat) ≤ 1048576; decide) (by show (0 : Nat) ≤ 1048576; decide)
    rw [Wk.eqb_refl] at this
    have e : ix x.ws 1 = wkR 1 := e
    rw [e]
    exact this
   clear d0 d1 d2 e6
   conv => whnf
   refine DrawC.mq 10 rfl (by kernel_rfl) ?_
   refine And.intro ⟨by decide, show ((1 : Nat) : Int) < (x.ws.length : Int) by omega⟩ ?_
   refine And.intro ⟨by decide, by decide⟩ ?_
   conv => whnf
   refine CallC.nl _ (cs) ?_ ?_
   · exact rfl
   exact And.intro trivial (AVle.refl _)
 · have e := d1 (by omega) (by omega)
   have cs : VFn Tryz.prog 16 [(ix x.gs 0).av, (ix newF.gs 0).av] (.bool true) := by
    have := SameIngester_fn (ingR 2) (ingR 2) (by show (0 : Nat) ≤ 1048576; decide) (by show (0 : Nat) ≤ 1048576; decide)
    rw [Ig.eqb_refl] at this
    have e : ix x.gs 0 = ingR 2 := e
    rw [e]
    exact this
   clear d0 d1 d2 e6
   conv => whnf
   refine DrawC.mq 12 rfl (by kernel_rfl) ?_
   refine And.intro (inI64 (by omega) (by omega)) ?_
   refine And.intro (show (0 : Int) ≤ ((2 : Nat) : Int) - 2 ∧ ((2 : Nat) : Int) - 2 < (x.gs.length : Int) by omega) ?_
   refine And.intro (inI64 (by omega) (by omega)) ?_
   refine And.intro (show (0 : Int) ≤ ((2 : Nat) : Int) - 2 ∧ ((2 : Nat) : Int) - 2 < ((2 : Nat) : Int) by omega) ?_
   conv => whnf
   refine CallC.nl _ (cs) ?_ ?_
   · exact rfl
   exact And.intro trivial (AVle.refl _)
 · have e := d1 (by omega) (by omega)
   have cs : VFn Tryz.prog 16 [(ix x.gs 1).av, (ix newF.gs 1).av] (.bool true) := by
    have := SameIngester_fn (ingR 3) (ingR 3) (by show (0 : Nat) ≤ 1048576; decide) (by show (0 : Nat) ≤ 1048576; decide)
    rw [Ig.eqb_refl] at this
    have e : ix x.gs 1 = ingR 3 := e
    rw [e]
    exact this
   clear d0 d1 d2 e6
   conv => whnf
   refine DrawC.mq 12 rfl (by kernel_rfl) ?_
   refine And.intro (inI64 (by omega) (by omega)) ?_
   refine And.intro (show (0 : Int) ≤ ((3 : Nat) : Int) - 2 ∧ ((3 : Nat) : Int) - 2 < (x.gs.length : Int) by omega) ?_
   refine And.intro (inI64 (by omega) (by omega)) ?_
   refine And.intro (show (0 : Int) ≤ ((3 : Nat) : Int) - 2 ∧ ((3 : Nat) : Int) - 2 < ((2 : Nat) : Int) by omega) ?_
   conv => whnf
   refine CallC.nl _ (cs) ?_ ?_
   · exact rfl
   exact And.intro trivial (AVle.refl _)
 · have e := d2 (by omega) (by omega)
   have cs : VFn Tryz.prog 17 [(ix x.rs 0).av, (ix newF.rs 0).av] (.bool true) := by
    have := SameReader_fn (rd0 4) (rd0 4) (by show (0 : Nat) ≤ 1048576; decide) (by show (0 : Nat) ≤ 1048576; decide)
    rw [Rr.eqb_refl] at this
    have e : ix x.rs 0 = rd0 4 := e
    rw [e]
    exact this
   clear d0 d1 d2 e6
   conv => whnf
   refine DrawC.mq 12 rfl (by kernel_rfl) ?_
   refine And.intro (inI64 (by omega) (by omega)) ?_
   refine And.intro (show (0 : Int) ≤ ((4 : Nat) : Int) - 4 ∧ ((4 : Nat) : Int) - 4 < (x.rs.length : Int) by omega) ?_
   refine And.intro (inI64 (by omega) (by omega)) ?_
   refine And.intro (show (0 : Int) ≤ ((4 : Nat) : Int) - 4 ∧ ((4 : Nat) : Int) - 4 < ((2 : Nat) : Int) by omega) ?_
   conv => whnf
   refine CallC.nl _ (cs) ?_ ?_
   · exact rfl
   exact And.intro trivial (AVle.refl _)
 · have e := d2 (by omega) (by omega)
   have cs : VFn Tryz.prog 17 [(ix x.rs 1).av, (ix newF.rs 1).av] (.bool true) := by
    have := SameReader_fn (rd0 5) (rd0 5) (by show (0 : Nat) ≤ 1048576; decide) (by show (0 : Nat) ≤ 1048576; decide)
    rw [Rr.eqb_refl] at this
    have e : ix x.rs 1 = rd0 5 := e
    rw [e]
    exact this
   clear d0 d1 d2 e6
   conv => whnf
   refine DrawC.mq 12 rfl (by kernel_rfl) ?_
   refine And.intro (inI64 (by omega) (by omega)) ?_
   refine And.intro (show (0 : Int) ≤ ((5 : Nat) : Int) - 4 ∧ ((5 : Nat) : Int) - 4 < (x.rs.length : Int) by omega) ?_
   refine And.intro (inI64 (by omega) (by omega)) ?_
   refine And.intro (show (0 : Int) ≤ ((5 : Nat) : Int) - 4 ∧ ((5 : Nat) : Int) - 4 < ((2 : Nat) : Int) by omega) ?_
   conv => whnf
   refine CallC.nl _ (cs) ?_ ?_
   · exact rfl
   exact And.intro trivial (AVle.refl _)
 · have e6 := e6 rfl
   clear d0 d1 d2
   conv => whnf
   conv => whnf
   refine CallC.nl _ (e6) ?_ ?_
   · exact rfl
   exact And.intro trivial (AVle.refl _)
end Go.Proofs.YtnplgeogieoioaaGreatDoor
