/- Contracts of functions that the claim reaches, and the plain law of what they compute; each theorem bears its own conditions. -/
import Derived.Test.YtnplgeogieoioaaGreatDoorQ8
import Derived.Test.YtnplgeogieoioaaGreatDoorQ7
import Derived.Test.YtnplgeogieoioaaGreatDoorV52
import Derived.Test.YtnplgeogieoioaaGreatDoorQ3
import Derived.Test.YtnplgeogieoioaaGreatDoorQ5
import Derived.Test.YtnplgeogieoioaaGreatDoorQ4
set_option linter.unusedVariables false
set_option linter.constructorNameAsVariable false
set_option linter.unusedSimpArgs false
set_option maxRecDepth 20000
namespace Go.Proofs.YtnplgeogieoioaaGreatDoor
open Go Go.Vw
theorem cover_fn (s : Sta) (hL : s.es.length ≤ 1000000) (k a b : Int) (hk : within k 0 2 = true) (hr : isRange a b = true) : VFn Tryz.prog 196 [s.av, .int .i64 k, .int .i64 a, .int .i64 b]
 (if covC s k a b = 0 then .tup [ents (covL s k a b), .int .i64 0] else .tup [.nilsl, .int .i64 (covC s k a b)]) := by
 have c1 := isTier_fn k
 have c2 := isRange_fn a b
 rw [hk] at c1
 rw [hr] at c2
 have hk3 : k = 0 ∨ k = 1 ∨ k = 2 := by simp [within] at hk; omega
 have cw := width_fn k hk3
 have hab : (0 ≤ a ∧ a ≤ 100000) ∧ (a ≤ b ∧ b ≤ 100000) := by simp [isRange, within] at hr; omega
 have ct : VFn Tryz.prog 222 [s.av, .int .i64 k, .int .i64 a, .int .i64 b] (ents (covL s k a b)) := (touching_own s k a b hL).vfn
 have cf : ∀ {n : Nat} {rows : Nat → List AV} {p q : Bool} {R : Int}, FirstRows 4 3 rows 0 [(p, 15), (q, 16)] → n = 4 → (if p = true then (15 : Int) else if q = true then 16 else 0) = R → VFn Tryz.prog 30 [.sl 1 n rows] (.int .i64 R) := fun hr hn e => first2_of _ _ 15 16 hr hn e
 obtain ⟨W, hW⟩ : ∃ W, W = wd k := ⟨_, rfl⟩
 have hw : 1 ≤ W ∧ W ≤ 20 := by
  rw [hW]; unfold wd
  rcases hk3 with rfl | rfl | rfl <;> simp
 rw [← hW] at cw
 have ma : 0 ≤ a.tmod W ∧ a.tmod W < W := ⟨Int.tmod_nonneg _ hab.1.1, by rw [Int.tmod_eq_emod_of_nonneg hab.1.1]; exact Int.emod_lt_of_pos _ (by omega)⟩
 have mb : 0 ≤ b.tmod W ∧ b.tmod W < W := ⟨Int.tmod_nonneg _ (by omega), by rw [Int.tmod_eq_emod_of_nonneg (by omega)]; exact Int.emod_lt_of_pos _ (by omega)⟩
 obtain ⟨C, hC⟩ : ∃ C, C = covC s k a b := ⟨_, rfl⟩
 rw [← hC]
 unfold covC at hC
 rw [← hW] at hC
 by_cases g1 : a.tmod W = 0
 rotate_left
 · rw [if_neg (fun h => g1 h.2.2.1)] at hC
   subst hC
   rw [if_neg (by decide)]
   refine VFn.introC Tryz.call196 Tryz.func196 rfl rfl ?_
   repeat' (conv => whnf
            first
             | (refine Grd.intro (fun h => ?_) (fun h => ?_); rotate_left; focus (exfalso; simp_all; done))
             | (refine Grd.intro (fun h => ?_) (fun h => ?_); focus (exfalso; simp_all; done))
             | refine And.intro (show W ≠ 0 by omega) ?_
             | (refine CallC.sca _ c1 ?_ ?_; focus (exact rfl))
             | (refine CallC.sca _ c2 ?_ ?_; focus (exact rfl))
             | (refine CallC.sca _ cw ?_ ?_; focus (exact rfl))
             | (refine And.intro trivial (AVle.refl _); done)
             | fail)
 by_cases g2 : b.tmod W = 0
 rotate_left
 · rw [if_neg (fun h => g2 h.2.2.2)] at hC
   subst hC
   rw [if_neg (by decide)]
   refine VFn.introC Tryz.call196 Tryz.func196 rfl rfl ?_
   repeat' (conv => whnf
            first
             | (refine Grd.intro (fun h => ?_) (fun h => ?_); rotate_left; focus (exfalso; simp_all; done))
             | (refine Grd.intro (fun h => ?_) (fun h => ?_); focus (exfalso; simp_all; done))
             | refine And.intro (show W ≠ 0 by omega) ?_
             | (refine CallC.sca _ c1 ?_ ?_; focus (exact rfl))
             | (refine CallC.sca _ c2 ?_ ?_; focus (exact rfl))
             | (refine CallC.sca _ cw ?_ ?_; focus (exact rfl))
             | (refine And.intro trivial (AVle.refl _); done)
             | fail)
 rw [if_pos ⟨hk, hr, g1, g2⟩] at hC
 have key : ∀ lo hi : Int, s.lo k = lo → s.hi k = hi → C = (if decide (a < lo) = true then 15 else if decide (hi < b) = true then 16 else 0) := fun lo hi h1 h2 => by
  rw [hC, h1, h2]
  simp
 clear hW
 rcases hk3 with rfl | rfl | rfl
 all_goals
  refine VFn.introC Tryz.call196 Tryz.func196 rfl rfl ?_
  repeat' (conv => whnf
           first
            | (refine Grd.intro (fun h => ?_) (fun h => ?_); rotate_left; focus (exfalso; simp_all; done))
            | (refine Grd.intro (fun h => ?_) (fun h => ?_); focus (exfalso; simp_all; done))
            | refine And.intro (show W ≠ 0 by omega) ?_
            | (refine CallC.sca _ c1 ?_ ?_; focus (exact rfl))
            | (refine CallC.sca _ c2 ?_ ?_; focus (exact rfl))
            | (refine CallC.sca _ cw ?_ ?_; focus (exact rfl))
            | (refine And.intro trivial (AVle.refl _); done)
            | fail)
  refine DrawC.mq 19 rfl (by kernel_rfl) ?_
  refine And.intro (by decide) ?_
  refine And.intro (by decide) ?_
  refine PCallQ.sca _ (cf ⟨rfl, rfl, rfl, rfl, trivial⟩ rfl (key _ _ rfl rfl).symm) rfl ?_
  conv => whnf
  by_cases hC0 : C = 0
  · rw [if_pos hC0]
    refine Grd.intro (fun h => absurd (show (!decide (C = 0)) = true from h) (by simp [hC0])) (fun _ => ?_)
    conv => whnf
    refine CallC.nl _ (ct) ?_ ?_
    · exact rfl
    exact And.intro trivial (AVle.refl _)
  · rw [if_neg hC0]
    refine Grd.intro (fun _ => ?_) (fun h => absurd (show (!decide (C = 0)) = false from h) (by simp [hC0]))
    exact And.intro trivial (AVle.refl _)
def goOnR (r : Rr) (c : Int) : Rr := { r with code := c, left := [], ph := 4 }
def stepR (x : Sto) (r : Rr) (now : Int) : Sto × Rr × Bool × Int :=
 if r.ph = 0 then (x, r, false, 18)
 else if r.ph = 1 then
  if x.room (pinK r.id) (Lib.itoa (now + 30)) = 0 then (x.set (pinK r.id) (Lib.itoa (now + 30)), { r with til := now + 30, ph := 2 }, false, 0)
  else (x, goOnR r (x.room (pinK r.id) (Lib.itoa (now + 30))), false, 0)
 else if r.ph = 2 then
  if covC (logS x) r.tier r.f r.t = 0 then (x, { r with left := covL (logS x) r.tier r.f r.t, ph := 3 }, false, 0)
  else (x, goOnR r (covC (logS x) r.tier r.f r.t), false, 0)
 else if r.ph = 3 then
  match r.left with
  | [] => (x, goOnR r 0, false, 0)
  | e :: l => if r.til - 3 < now then (x, goOnR r 14, false, 0)
    else if (winR x e r.f r.t r.got).2 = 0 then (x, { r with got := (winR x e r.f r.t r.got).1, left := l }, false, 0)
    else (x, goOnR r (winR x e r.f r.t r.got).2, false, 0)
 else (wo x (pinK r.id), { r with ph := 0 }, true, 0)
def goOnN (r : Rr) (c : Int) : List AV := [.int .i64 r.id, .int .i64 4, .int .i64 r.tier, .int .i64 r.f, .int .i64 r.t, .int .i64 r.til, .int .i64 c, .nilsl, .int .i64 r.got.c, .int .i64 r.got.s, .int .i64 r.got.mn, .int .i64 r.got.mx, .int .i64 r.got.f, .int .i64 r.got.l]
theorem goOn_fn (r : Rr) (c : Int) : FnM Tryz.prog 194 1 [.int .i64 c, .bptr 0 0] [(0, .box r.row)] (.tup []) [(0, .box (goOnN r c))] 1 := by
 refine FnM.introC Tryz.call194 Tryz.func194 rfl rfl ?_
 exact And.intro trivial ⟨[(0, 0)], rfl, AVle.refl _, ⟨MOle.refl _, trivial⟩⟩
theorem goOn_le (r : Rr) (c : Int) : AVle (.agg (goOnN r c)) (goOnR r c).av :=
 AVle.agg (AVsle.cons (AVle.refl _) (AVsle.cons (AVle.refl _) (AVsle.cons (AVle.refl _) (AVsle.cons (AVle.refl _) (AVsle.cons (AVle.refl _) (AVsle.cons (AVle.refl _) (AVsle.cons (AVle.refl _) (AVsle.cons (AVle.nilsl _ _ rfl) (AVsle.refl _)))))))))
theorem rstep_fn (x : Sto) (hs : x.ok = true) (r : Rr) (now : Int) (hid : 0 ≤ r.id ∧ r.id ≤ 9) (hk : within r.tier 0 2 = true) (hr : isRange r.f r.t = true) (hn : 0 ≤ now ∧ now ≤ 101000) (htl : 0 ≤ r.til ∧ r.til ≤ 200000) (hlen : r.left.length ≤ 1000000)
 (hw : r.ph = 3 → ∀ e l, r.left = e :: l → ¬ r.til - 3 < now → x.has e.key = true → WinOK x e r.f r.t r.got) :
 VFn Tryz.prog 163 [r.av, x.av, .int .i64 now] (.tup [(stepR x r now).1.av, (stepR x r now).2.1.av, .bool (stepR x r now).2.2.1, .int .i64 (stepR x r now).2.2.2]) := by
 obtain ⟨R, hR⟩ : ∃ R, R = stepR x r now := ⟨_, rfl⟩
 rw [← hR]
 unfold stepR at hR
 have ck := pinKey_fn r.id hid
 by_cases h0 : r.ph = 0
 · rw [if_pos h0] at hR
   subst hR
   refine VFn.introC Tryz.call163 Tryz.func163 rfl rfl ?_
   refine Grd.intro (fun _ => ?_) (fun h => absurd h0 (of_decide_eq_false h))
   refine DrawC.mkQ 6 [(.inl 2, 2), (.inl 3, 3)] rfl (by kernel_rfl) ?_
   refine And.intro rfl ?_
   exact And.intro trivial (AVle.refl _)
 rw [if_neg h0] at hR
 by_cases h1 : r.ph = 1
 · rw [if_pos h1] at hR
   have ci := Itoa_fn (now + 30) (by omega) (by omega)
   have cp := put_fn x hs (pinK r.id) (Lib.itoa (now + 30)) (by have := itoa_len (n := now + 30) (by omega) (by omega); omega)
   obtain ⟨K, hK⟩ : ∃ K, K = pinK r.id := ⟨_, rfl⟩
   obtain ⟨D, hD⟩ : ∃ D, D = Lib.itoa (now + 30) := ⟨_, rfl⟩
   rw [← hK] at ck
   rw [← hK, ← hD] at hR cp
   rw [← hD] at ci
   by_cases hroom : x.room K D = 0
   · rw [if_pos hroom] at hR cp
     subst hR
     refine VFn.introC Tryz.call163 Tryz.func163 rfl rfl ?_
     refine Grd.intro (fun h => absurd (of_decide_eq_true h) h0) (fun _ => ?_)
     refine Grd.intro (fun _ => ?_) (fun h => absurd h1 (of_decide_eq_false h))
     refine DrawC.mkQ 16 [(.inr 12, 13)] rfl (by kernel_rfl) ?_
     refine And.intro rfl ?_
     refine PCallQ.sca _ (ck) rfl ?_
     refine And.intro (show inI .i64 (now + 30) from inI64 (by omega) (by omega)) ?_
     refine PCallQ.sca _ (ci) rfl ?_
     refine PCallQ.nl _ (cp) rfl ?_
     refine And.intro (show inI .i64 (now + 30) from inI64 (by omega) (by omega)) ?_
     refine DrawC.mkQ 6 [(.inl 2, 2), (.inl 3, 3)] rfl (by kernel_rfl) ?_
     refine And.intro rfl ?_
     exact And.intro trivial (AVle.refl _)
   · rw [if_neg hroom] at hR cp
     subst hR
     refine VFn.introC Tryz.call163 Tryz.func163 rfl rfl ?_
     refine Grd.intro (fun h => absurd (of_decide_eq_true h) h0) (fun _ => ?_)
     refine Grd.intro (fun _ => ?_) (fun h => absurd h1 (of_decide_eq_false h))
     refine DrawC.mkQ 16 [(.inr 12, 13)] rfl (by kernel_rfl) ?_
     refine And.intro rfl ?_
     refine PCallQ.sca _ (ck) rfl ?_
     refine And.intro (show inI .i64 (now + 30) from inI64 (by omega) (by omega)) ?_
     refine PCallQ.sca _ (ci) rfl ?_
     refine PCallQ.nl _ (cp) rfl ?_
     conv => whnf
     refine Grd.intro (fun _ => ?_) (fun h => absurd (show (!decide (x.room K D = 0)) = false from h) (by simp [hroom]))
     conv => whnf
     refine CallC.k [(0, 0)] (goOn_fn r (x.room K D)) rfl rfl (AVsle.refl _) ⟨MOle.refl _, trivial⟩ rfl ?_
     refine DrawC.mkQ 6 [(.inl 2, 2), (.inl 3, 3)] rfl (by kernel_rfl) ?_
     refine And.intro rfl ?_
     exact And.intro trivial (AVle.tup (AVsle.cons (AVle.refl _) (AVsle.cons (goOn_le r _) (AVsle.refl _))))
 rw [if_neg h1] at hR
 by_cases h2 : r.ph = 2
 · rw [if_pos h2] at hR
   have cl := log_fn x hs
   have hel : (logS x).es.length ≤ 1000000 := by
    have := ((staOK_iff _).1 (logS_ok x)).len
    omega
   have cc := cover_fn (logS x) hel r.tier r.f r.t hk hr
   obtain ⟨C, hC⟩ : ∃ C, C = covC (logS x) r.tier r.f r.t := ⟨_, rfl⟩
   rw [← hC] at hR cc
   by_cases hC0 : C = 0
   · rw [if_pos hC0] at hR cc
     subst hR
     refine VFn.introC Tryz.call163 Tryz.func163 rfl rfl ?_
     refine Grd.intro (fun h => absurd (of_decide_eq_true h) h0) (fun _ => ?_)
     refine Grd.intro (fun h => absurd (of_decide_eq_true h) h1) (fun _ => ?_)
     refine Grd.intro (fun _ => ?_) (fun h => absurd h2 (of_decide_eq_false h))
     refine DrawC.mq 14 rfl (by kernel_rfl) ?_
     refine PCallQ.nl _ (cl) rfl ?_
     refine PCallQ.nl _ (cc) rfl ?_
     conv => whnf
     refine DrawC.mkQ 6 [(.inl 2, 2), (.inl 3, 3)] rfl (by kernel_rfl) ?_
     refine And.intro rfl ?_
     exact And.intro trivial (AVle.refl _)
   · rw [if_neg hC0] at hR cc
     subst hR
     refine VFn.introC Tryz.call163 Tryz.func163 rfl rfl ?_
     refine Grd.intro (fun h => absurd (of_decide_eq_true h) h0) (fun _ => ?_)
     refine Grd.intro (fun h => absurd (of_decide_eq_true h) h1) (fun _ => ?_)
     refine Grd.intro (fun _ => ?_) (fun h => absurd h2 (of_decide_eq_false h))
     refine DrawC.mq 14 rfl (by kernel_rfl) ?_
     refine PCallQ.nl _ (cl) rfl ?_
     refine PCallQ.nl _ (cc) rfl ?_
     conv => whnf
     refine Grd.intro (fun _ => ?_) (fun h => absurd (show (!decide (C = 0)) = false from h) (by simp [hC0]))
     conv => whnf
     refine CallC.k [(0, 0)] (goOn_fn r C) rfl rfl (AVsle.refl _) ⟨MOle.refl _, trivial⟩ rfl ?_
     refine DrawC.mkQ 6 [(.inl 2, 2), (.inl 3, 3)] rfl (by kernel_rfl) ?_
     refine And.intro rfl ?_
     exact And.intro trivial (AVle.tup (AVsle.cons (AVle.refl _) (AVsle.cons (goOn_le r _) (AVsle.refl _))))
 rw [if_neg h2] at hR
 by_cases h3 : r.ph = 3
 rotate_left
 · rw [if_neg h3] at hR
   subst hR
   have cwo := withoutG_fn x hs (pinK r.id)
   refine VFn.introC Tryz.call163 Tryz.func163 rfl rfl ?_
   refine Grd.intro (fun h => absurd (of_decide_eq_true h) h0) (fun _ => ?_)
   refine Grd.intro (fun h => absurd (of_decide_eq_true h) h1) (fun _ => ?_)
   refine Grd.intro (fun h => absurd (of_decide_eq_true h) h2) (fun _ => ?_)
   refine Grd.intro (fun h => absurd (of_decide_eq_true h) h3) (fun _ => ?_)
   refine DrawC.mkQ 10 [(.inl 2, 6), (.inl 3, 7)] rfl (by kernel_rfl) ?_
   refine And.intro rfl ?_
   refine PCallQ.sca _ (ck) rfl ?_
   refine PCallQ.nl _ (cwo) rfl ?_
   exact And.intro trivial (AVle.refl _)
 rw [if_pos h3] at hR
 cases hl : r.left with
 | nil =>
   rw [hl] at hR
   simp only at hR
   subst hR
   refine VFn.introC Tryz.call163 Tryz.func163 rfl rfl ?_
   refine Grd.intro (fun h => absurd (of_decide_eq_true h) h0) (fun _ => ?_)
   refine Grd.intro (fun h => absurd (of_decide_eq_true h) h1) (fun _ => ?_)
   refine Grd.intro (fun h => absurd (of_decide_eq_true h) h2) (fun _ => ?_)
   refine Grd.intro (fun _ => ?_) (fun h => absurd h3 (of_decide_eq_false h))
   refine Grd.intro (fun _ => ?_) (fun h => absurd (show ¬ (r.left.length : Int) = 0 from of_decide_eq_false h) (by rw [hl]; simp))
   conv => whnf
   refine CallC.k [(0, 0)] (goOn_fn r 0) rfl rfl (AVsle.refl _) ⟨MOle.refl _, trivial⟩ rfl ?_
   refine DrawC.mkQ 6 [(.inl 2, 2), (.inl 3, 3)] rfl (by kernel_rfl) ?_
   refine And.intro rfl ?_
   exact And.intro trivial (AVle.tup (AVsle.cons (AVle.refl _) (AVsle.cons (goOn_le r _) (AVsle.refl _))))
 | cons e l =>
   rw [hl] at hR
   simp only at hR
   have hll : r.left.length = l.length + 1 := by rw [hl]; rfl
   by_cases ht : r.til - 3 < now
   · rw [if_pos ht] at hR
     subst hR
     refine VFn.introC Tryz.call163 Tryz.func163 rfl rfl ?_
     refine Grd.intro (fun h => absurd (of_decide_eq_true h) h0) (fun _ => ?_)
     refine Grd.intro (fun h => absurd (of_decide_eq_true h) h1) (fun _ => ?_)
     refine Grd.intro (fun h => absurd (of_decide_eq_true h) h2) (fun _ => ?_)
     refine Grd.intro (fun _ => ?_) (fun h => absurd h3 (of_decide_eq_false h))
     refine Grd.intro (fun h => absurd (show (r.left.length : Int) = 0 from of_decide_eq_true h) (by omega)) (fun _ => ?_)
     refine And.intro (show inI .i64 (r.til - 3) from inI64 (by omega) (by omega)) ?_
     refine Grd.intro (fun _ => ?_) (fun h => absurd ht (of_decide_eq_false h))
     conv => whnf
     refine CallC.k [(0, 0)] (goOn_fn r 14) rfl rfl (AVsle.refl _) ⟨MOle.refl _, trivial⟩ rfl ?_
     refine DrawC.mkQ 6 [(.inl 2, 2), (.inl 3, 3)] rfl (by kernel_rfl) ?_
     refine And.intro rfl ?_
     exact And.intro trivial (AVle.tup (AVsle.cons (AVle.refl _) (AVsle.cons (goOn_le r _) (AVsle.refl _))))
   rw [if_neg ht] at hR
   have hfb : r.t ≤ 100000 ∧ 0 ≤ r.t := by simp [isRange, within] at hr; omega
   have cw := window_fn x hs e r.f r.t (inI64 (by omega) (by omega)) r.got (hw h3 e l hl ht)
   obtain ⟨Wn, hWn⟩ : ∃ W, W = winR x e r.f r.t r.got := ⟨_, rfl⟩
   rw [← hWn] at cw hR
   have he : ix r.left 0 = e := by rw [hl]; rfl
   rw [← he] at cw
   by_cases hc : Wn.2 = 0
   · rw [if_pos hc] at hR
     subst hR
     rw [hc] at cw
     refine VFn.introC Tryz.call163 Tryz.func163 rfl rfl ?_
     refine Grd.intro (fun h => absurd (of_decide_eq_true h) h0) (fun _ => ?_)
     refine Grd.intro (fun h => absurd (of_decide_eq_true h) h1) (fun _ => ?_)
     refine Grd.intro (fun h => absurd (of_decide_eq_true h) h2) (fun _ => ?_)
     refine Grd.intro (fun _ => ?_) (fun h => absurd h3 (of_decide_eq_false h))
     refine Grd.intro (fun h => absurd (show (r.left.length : Int) = 0 from of_decide_eq_true h) (by omega)) (fun _ => ?_)
     refine And.intro (show inI .i64 (r.til - 3) from inI64 (by omega) (by omega)) ?_
     refine Grd.intro (fun h => absurd (of_decide_eq_true h) ht) (fun _ => ?_)
     refine DrawC.mkQ 18 [(.inr 15, 16)] rfl (by kernel_rfl) ?_
     refine And.intro rfl ?_
     refine And.intro (show (0 : Int) ≤ 0 ∧ (0 : Int) < (r.left.length : Int) by omega) ?_
     refine PCallQ.nl _ (cw) rfl ?_
     conv => whnf
     refine DrawC.mkQ 6 [(.inl 0, 2), (.inl 0, 5)] rfl (by kernel_rfl) ?_
     refine And.intro (by kernel_rfl) ?_
     conv => whnf
     refine And.intro ⟨by omega, by omega⟩ ?_
     refine DrawC.mkQ 6 [(.inl 2, 2), (.inl 3, 3)] rfl (by kernel_rfl) ?_
     refine And.intro rfl ?_
     have hs2 : AVle (.sl 4 (r.left.length - Int.toNat 1) fun i => (ix r.left (Int.toNat 1 + i)).row) (ents l) := AVle.sl (show r.left.length - Int.toNat 1 = l.length by rw [hll]; rfl) (fun i hi => by
      rw [hl, show Int.toNat 1 + i = i + 1 by rw [show Int.toNat 1 = 1 from rfl]; omega]
      rfl)
     have c1 : ∀ (a : AV) {l m : List AV}, AVsle l m → AVsle (a :: l) (a :: m) := fun a _ _ h => AVsle.cons (AVle.refl a) h
     exact And.intro trivial (AVle.tup (c1 _ (AVsle.cons (AVle.agg (c1 _ (c1 _ (c1 _ (c1 _ (c1 _ (c1 _ (c1 _ (AVsle.cons hs2 (AVsle.refl _)))))))))) (AVsle.refl _))))
   · rw [if_neg hc] at hR
     subst hR
     refine VFn.introC Tryz.call163 Tryz.func163 rfl rfl ?_
     refine Grd.intro (fun h => absurd (of_decide_eq_true h) h0) (fun _ => ?_)
     refine Grd.intro (fun h => absurd (of_decide_eq_true h) h1) (fun _ => ?_)
     refine Grd.intro (fun h => absurd (of_decide_eq_true h) h2) (fun _ => ?_)
     refine Grd.intro (fun _ => ?_) (fun h => absurd h3 (of_decide_eq_false h))
     refine Grd.intro (fun h => absurd (show (r.left.length : Int) = 0 from of_decide_eq_true h) (by omega)) (fun _ => ?_)
     refine And.intro (show inI .i64 (r.til - 3) from inI64 (by omega) (by omega)) ?_
     refine Grd.intro (fun h => absurd (of_decide_eq_true h) ht) (fun _ => ?_)
     refine DrawC.mkQ 18 [(.inr 15, 16)] rfl (by kernel_rfl) ?_
     refine And.intro rfl ?_
     refine And.intro (show (0 : Int) ≤ 0 ∧ (0 : Int) < (r.left.length : Int) by omega) ?_
     refine PCallQ.nl _ (cw) rfl ?_
     conv => whnf
     refine Grd.intro (fun _ => ?_) (fun h => absurd (show (!decide (Wn.2 = 0)) = false from h) (by simp [hc]))
     conv => whnf
     refine CallC.k [(0, 0)] (goOn_fn r Wn.2) rfl rfl (AVsle.refl _) ⟨MOle.refl _, trivial⟩ rfl ?_
     refine DrawC.mkQ 6 [(.inl 2, 2), (.inl 3, 3)] rfl (by kernel_rfl) ?_
     refine And.intro rfl ?_
     exact And.intro trivial (AVle.tup (AVsle.cons (AVle.refl _) (AVsle.cons (goOn_le r _) (AVsle.refl _))))
theorem ag_some {a : Ag} (h : a.some = true) : (1 ≤ a.c ∧ a.c ≤ 100000) ∧ (-1000000 ≤ a.mn ∧ a.mn ≤ 1000000) ∧ (-1000000 ≤ a.mx ∧ a.mx ≤ 1000000) ∧ (a.mn ≤ a.f ∧ a.f ≤ a.mx) ∧ (a.mn ≤ a.l ∧ a.l ≤ a.mx) ∧ (a.c * a.mn ≤ a.s ∧ a.s ≤ a.c * a.mx) := by
 unfold Ag.some at h
 simp only [Bool.and_eq_true, within, decide_eq_true_eq] at h
 obtain ⟨⟨⟨⟨⟨h1, h2⟩, h3⟩, h4⟩, h5⟩, h6⟩ := h
 exact ⟨h1, h2, h3, h4, h5, h6⟩
theorem ag_nul {a : Ag} (h : a.nul = true) : a = default := by
 unfold Ag.nul at h
 simp only [Bool.and_eq_true, decide_eq_true_eq, and_true] at h
 obtain ⟨c, s, mn, mx, f, l⟩ := a
 obtain ⟨rfl, rfl, rfl, rfl, rfl, rfl⟩ := h
 rfl
theorem ag_cases {a : Ag} (h : a.ok = true) : a = default ∨ a.some = true := by
 unfold Ag.ok at h
 rw [Bool.or_eq_true] at h
 exact h.imp ag_nul id
theorem ag_c {a : Ag} (h : a.ok = true) : 0 ≤ a.c ∧ a.c ≤ 100000 ∧ (a.c = 0 → a = default) := by
 rcases ag_cases h with rfl | h
 · exact ⟨Int.le_refl _, by decide, fun _ => rfl⟩
 · have := (ag_some h).1
   exact ⟨by omega, by omega, fun e => by omega⟩
theorem mrg_def (a : Ag) (h : a.c = 0 → a = default) : a.mrg default = a := by
 unfold Ag.mrg
 split
 · rename_i g; exact (h g).symm
 · rw [if_pos (by rfl)]
theorem def_mrg (a : Ag) : Ag.mrg default a = a := by
 unfold Ag.mrg
 rw [if_pos (by rfl)]
theorem mrg_ok {a b : Ag} (ha : a.ok = true) (hb : b.ok = true) (hc : a.c + b.c ≤ 100000) : (a.mrg b).ok = true ∧ (a.mrg b).c = a.c + b.c := by
 rcases ag_cases ha with rfl | h1
 · rw [def_mrg]; exact ⟨hb, (Int.zero_add _).symm⟩
 rcases ag_cases hb with rfl | h2
 · rw [mrg_def a (ag_c ha).2.2]; exact ⟨ha, (Int.add_zero _).symm⟩
 obtain ⟨a1, a2, a3, a4, a5, a6⟩ := ag_some h1
 obtain ⟨b1, b2, b3, b4, b5, b6⟩ := ag_some h2
 unfold Ag.mrg
 rw [if_neg (by omega), if_neg (by omega)]
 refine ⟨?_, rfl⟩
 have hmn : ∃ m, m = (if b.mn < a.mn then b.mn else a.mn) ∧ m ≤ a.mn ∧ m ≤ b.mn ∧ -1000000 ≤ m := ⟨_, rfl, by split <;> omega, by split <;> omega, by split <;> omega⟩
 have hmx : ∃ m, m = (if a.mx < b.mx then b.mx else a.mx) ∧ a.mx ≤ m ∧ b.mx ≤ m ∧ m ≤ 1000000 := ⟨_, rfl, by split <;> omega, by split <;> omega, by split <;> omega⟩
 obtain ⟨m, em, m1, m2, m3⟩ := hmn
 obtain ⟨M, eM, M1, M2, M3⟩ := hmx
 rw [← em, ← eM]
 have p1 : a.c * m ≤ a.c * a.mn := Int.mul_le_mul_of_nonneg_left m1 (by omega)
 have p2 : b.c * m ≤ b.c * b.mn := Int.mul_le_mul_of_nonneg_left m2 (by omega)
 have p3 : a.c * a.mx ≤ a.c * M := Int.mul_le_mul_of_nonneg_left M1 (by omega)
 have p4 : b.c * b.mx ≤ b.c * M := Int.mul_le_mul_of_nonneg_left M2 (by omega)
 have e1 : (a.c + b.c) * m = a.c * m + b.c * m := Int.add_mul _ _ _
 have e2 : (a.c + b.c) * M = a.c * M + b.c * M := Int.add_mul _ _ _
 unfold Ag.ok
 rw [Bool.or_eq_true]
 right
 unfold Ag.some
 simp only [Bool.and_eq_true, within, decide_eq_true_eq]
 rw [e1, e2]
 generalize a.c * m = x1 at *
 generalize b.c * m = x2 at *
 generalize a.c * M = x3 at *
 generalize b.c * M = x4 at *
 generalize a.c * a.mn = x5 at *
 generalize b.c * b.mn = x6 at *
 generalize a.c * a.mx = x7 at *
 generalize b.c * b.mx = x8 at *
 refine ⟨⟨⟨⟨⟨⟨by omega, by omega⟩, by omega, by omega⟩, by omega, by omega⟩, by omega, by omega⟩, by omega, by omega⟩, by omega, by omega⟩
theorem aggL_ok' {L : List Smp} (hl : L.length ≤ 100000) (hv : ∀ e ∈ L, -1000000 ≤ e.v ∧ e.v ≤ 1000000) : (aggL L).ok = true ∧ (aggL L).c = L.length := by
 have := aggL_B (L := L) hl hv L.length (Nat.le_refl _)
 rw [List.take_of_length_le (Nat.le_refl _)] at this
 exact ⟨B_ok this (by omega), this.1⟩
def Rr.own (r : Rr) (m : Nat) : AV := .agg [.int .i64 r.id, .int .i64 r.ph, .int .i64 r.tier, .int .i64 r.f, .int .i64 r.t, .int .i64 r.til, .int .i64 r.code, .osl m, .int .i64 r.got.c, .int .i64 r.got.s, .int .i64 r.got.mn, .int .i64 r.got.mx, .int .i64 r.got.f, .int .i64 r.got.l]
theorem copiedR_own (r : Rr) (hL : r.left.length ≤ 1000000) : FnM Tryz.prog 96 0 [r.av] [] (r.own 0) [(0, .arr 116 4 r.left.length fun i => (ix r.left i).row)] 1 := by
 refine FnM.introC Tryz.call96 Tryz.func96 rfl rfl ?_
 conv => whnf
 refine CallC.k [] (CloneEn_own r.left hL) rfl rfl (AVsle.refl _) trivial rfl ?_
 conv => whnf
 exact And.intro trivial ⟨[(2, 0)], rfl, AVle.refl _, ⟨MOle.refl _, trivial⟩⟩
theorem copiedR_fn (r : Rr) (hL : r.left.length ≤ 1000000) : VFn Tryz.prog 96 [r.av] r.av := (copiedR_own r hL).vfn
theorem rr_facts {r : Rr} (h : r.ok = true) : (0 ≤ r.id ∧ r.id ≤ 9) ∧ within r.tier 0 2 = true ∧ isRange r.f r.t = true ∧ (0 ≤ r.til ∧ r.til ≤ 200000) ∧ r.left.length ≤ 300 := by
 unfold Rr.ok at h
 simp only [Bool.and_eq_true, decide_eq_true_eq] at h
 obtain ⟨h1, h2, h3, h4, h5, h6, h7, h8, h9⟩ := h
 refine ⟨by simpa [within] using h1, h3, h4, by simpa [within] using h5, by omega⟩
def rd0 (id : Int) : Rr := ⟨id, 0, 0, 0, 0, 0, 0, [], default⟩
def rdAsk (id k a b : Int) : Rr := ⟨id, 1, k, a, b, 0, 0, [], default⟩
theorem nilR (id ph k a b til code : Int) (g : Ag) : AVle (.agg [.int .i64 id, .int .i64 ph, .int .i64 k, .int .i64 a, .int .i64 b, .int .i64 til, .int .i64 code, .nilsl, .int .i64 g.c, .int .i64 g.s, .int .i64 g.mn, .int .i64 g.mx, .int .i64 g.f, .int .i64 g.l]) (Rr.mk id ph k a b til code [] g).av :=
 AVle.agg (AVsle.cons (AVle.refl _) (AVsle.cons (AVle.refl _) (AVsle.cons (AVle.refl _) (AVsle.cons (AVle.refl _) (AVsle.cons (AVle.refl _) (AVsle.cons (AVle.refl _) (AVsle.cons (AVle.refl _) (AVsle.cons (AVle.nilsl _ _ rfl) (AVsle.refl _)))))))))
theorem ask_fn (r : Rr) (h0 : r.ph = 0) (k a b : Int) : VFn Tryz.prog 91 [r.av, .int .i64 k, .int .i64 a, .int .i64 b] (.tup [(rdAsk r.id k a b).av, .int .i64 0]) := by
 refine VFn.introC Tryz.call91 Tryz.func91 rfl rfl ?_
 refine Grd.intro (fun h => absurd (show (!decide (r.ph = 0)) = true from h) (by simp [h0])) (fun _ => ?_)
 exact And.intro trivial (AVle.tup (AVsle.cons (nilR _ _ _ _ _ _ _ default) (AVsle.refl _)))
theorem askNo_fn (r : Rr) (h0 : ¬ r.ph = 0) (k a b : Int) : VFn Tryz.prog 91 [r.av, .int .i64 k, .int .i64 a, .int .i64 b] (.tup [r.av, .int .i64 9]) := by
 refine VFn.introC Tryz.call91 Tryz.func91 rfl rfl ?_
 refine Grd.intro (fun _ => ?_) (fun h => absurd (show (!decide (r.ph = 0)) = false from h) (by simp [h0]))
 exact And.intro trivial (AVle.refl _)
def acqC (s : Sto) (now : Int) : Int := if s.lea.2 = 17 then 17 else if s.lea.2 = 0 ∧ s.lea.1.til ≠ 0 ∧ now ≤ s.lea.1.til + 6 then 12 else if s.lea.1.tok = 999999 then 7 else 0
def acqL (s : Sto) (who now : Int) : Lea := ⟨s.lea.1.tok + 1, who, now + 20⟩
def acqS (s : Sto) (who now : Int) : Sto := if acqC s now = 0 then s.put leaK (acqL s who now).text else s
def acqT (s : Sto) (who now : Int) : Int := if acqC s now = 0 ∧ s.room leaK (acqL s who now).text = 0 then s.lea.1.tok + 1 else 0
def acqR (s : Sto) (who now : Int) : Int := if acqC s now = 0 then s.room leaK (acqL s who now).text else acqC s now
theorem acqL_b {s : Sto} {who now : Int} (hw : within who 0 9 = true) (hn : 0 ≤ now ∧ now ≤ 101000) (hl : 0 ≤ s.lea.1.tok ∧ s.lea.1.tok ≤ 999999) : ∀ x ∈ [(acqL s who now).tok, (acqL s who now).who, (acqL s who now).til], -9223372036854775807 ≤ x ∧ x ≤ 9223372036854775807 := by
 have hw : 0 ≤ who ∧ who ≤ 9 := by simpa [within] using hw
 intro x hx
 simp [acqL] at hx
 omega
theorem lea_b {l : Lea} (h : l.ok = true) : (1 ≤ l.tok ∧ l.tok ≤ 999999) ∧ (0 ≤ l.til ∧ l.til ≤ 200000) := by
 simp [Lea.ok, within] at h
 omega
theorem first3_of (a b c : Bool) (x y z : Int) {n : Nat} {rows : Nat → List AV} (hr : FirstRows 4 3 rows 0 [(a, x), (b, y), (c, z)]) (hn : n = 6) {r : Int} (h : (if a = true then x else if b = true then y else if c = true then z else 0) = r) : VFn Tryz.prog 30 [.sl 1 n rows] (.int .i64 r) := by
 have e : firstC [(a, x), (b, y), (c, z)] = r := by
  rw [← h]
  unfold firstC firstC firstC firstC
  cases a <;> cases b <;> cases c <;> rfl
 rw [← e]
 exact first_of _ hr hn (show 3 ≤ 1000 by decide)
theorem first3_gen {s : Sto} {now : Int} {l : Lea} (e : s.lea = (l, 0)) (b : Bool) (hb : b = true ↔ (l.til ≠ 0 ∧ now ≤ l.til + 6)) : (if decide ((0 : Int) = 17) = true then (0 : Int) else if b = true then 12 else if decide (l.tok = 999999) = true then 7 else 0) = acqC s now := by
 unfold acqC
 rw [e]
 by_cases h : l.til ≠ 0 ∧ now ≤ l.til + 6 <;> by_cases h2 : l.tok = 999999 <;> simp [h, h2, hb]
set_option maxHeartbeats 1000000 in
theorem acquire_fn (s : Sto) (hs : s.ok = true) (who now : Int) (hw : within who 0 9 = true) (hn : 0 ≤ now ∧ now ≤ 101000) : VFn Tryz.prog 230 [s.av, .int .i64 who, .int .i64 now] (.tup [(acqS s who now).av, .int .i64 (acqT s who now), .int .i64 (acqR s who now)]) := by
 have c := lease_fn s hs
 rcases s.lea_cases with ⟨e, h⟩ | ⟨e, h, hr⟩ | ⟨l, e, h, hr, hl⟩
 · have e1 : acqC s now = 0 := by unfold acqC; rw [e]; simp; decide
   have ez : ((default : Lea), (5 : Int)).fst.tok = 0 := rfl
   have hb := acqL_b (s := s) hw hn (by rw [e]; decide)
   have ct := leaText_fn _ hb
   have hlen := Lea.text_len _ hb
   have co := put_fn s hs leaK (acqL s who now).text (by omega)
   have eL : acqL s who now = ⟨0 + 1, who, now + 20⟩ := by unfold acqL; rw [e]; rfl
   rw [e] at c
   unfold acqS acqT acqR Sto.put
   rw [e1, if_pos rfl, if_pos rfl]
   have f1 : (if decide ((5 : Int) = 17) = true then (5 : Int) else if false = true then 12 else if decide ((0 : Int) = 999999) = true then 7 else 0) = 0 := by decide
   by_cases hroom : s.room leaK (acqL s who now).text = 0
   · rw [if_pos hroom] at co
     rw [if_pos hroom, hroom, if_pos ⟨rfl, rfl⟩, e]
     rw [eL] at ct co ⊢
     refine VFn.introC Tryz.call230 Tryz.func230 rfl rfl ?_
     conv => whnf
     refine CallC.sca _ (c) ?_ ?_
     · exact rfl
     conv => whnf
     refine CallC.sca _ (first3_of _ _ _ _ _ _ ⟨rfl, rfl, rfl, rfl, rfl, rfl, trivial⟩ rfl f1) ?_ ?_
     · exact rfl
     refine And.intro (inI64 (by omega) (by omega)) ?_
     refine And.intro (inI64 (by omega) (by omega)) ?_
     refine DrawC.mkQ 12 [(.inr 8, 9)] rfl (by kernel_rfl) ?_
     refine And.intro rfl ?_
     conv => whnf
     refine PCallQ.sca _ (ct) rfl ?_
     conv => whnf
     refine PCallQ.nl _ (co) rfl ?_
     refine DrawC.mkQ 6 [(.inl 1, 3)] rfl (by kernel_rfl) ?_
     refine And.intro rfl ?_
     exact And.intro trivial (AVle.refl _)
   · rw [if_neg hroom] at co
     rw [if_neg hroom, if_neg (fun h => hroom h.2)]
     rw [eL] at ct co hroom ⊢
     refine VFn.introC Tryz.call230 Tryz.func230 rfl rfl ?_
     conv => whnf
     refine CallC.sca _ (c) ?_ ?_
     · exact rfl
     conv => whnf
     refine CallC.sca _ (first3_of _ _ _ _ _ _ ⟨rfl, rfl, rfl, rfl, rfl, rfl, trivial⟩ rfl f1) ?_ ?_
     · exact rfl
     refine And.intro (inI64 (by omega) (by omega)) ?_
     refine And.intro (inI64 (by omega) (by omega)) ?_
     refine DrawC.mkQ 12 [(.inr 8, 9)] rfl (by kernel_rfl) ?_
     refine And.intro rfl ?_
     conv => whnf
     refine PCallQ.sca _ (ct) rfl ?_
     conv => whnf
     refine PCallQ.nl _ (co) rfl ?_
     refine Grd.intro (fun _ => ?_) (fun g => absurd (by simpa using g) hroom)
     exact And.intro trivial (AVle.refl _)
 · have e1 : acqC s now = 17 := by unfold acqC; rw [e]; simp
   rw [e] at c
   unfold acqS acqT acqR
   rw [e1, if_neg (by decide), if_neg (fun h => absurd h.1 (by decide)), if_neg (by decide)]
   refine VFn.introC Tryz.call230 Tryz.func230 rfl rfl ?_
   conv => whnf
   refine CallC.sca _ (c) ?_ ?_
   · exact rfl
   conv => whnf
   refine CallC.sca _ (first3_of _ _ _ _ _ _ ⟨rfl, rfl, rfl, rfl, rfl, rfl, trivial⟩ rfl (show (if decide ((17 : Int) = 17) = true then (17 : Int) else if false = true then 12 else if decide ((0 : Int) = 999999) = true then 7 else 0) = 17 by decide)) ?_ ?_
   · exact rfl
   exact And.intro trivial (AVle.refl _)
 · have lb := lea_b hl
   have hb := acqL_b (s := s) hw hn (by rw [e]; exact ⟨by have := lb.1; simp only; omega, lb.1.2⟩)
   have ct := leaText_fn _ hb
   have hlen := Lea.text_len _ hb
   have co := put_fn s hs leaK (acqL s who now).text (by omega)
   have eL : acqL s who now = ⟨l.tok + 1, who, now + 20⟩ := by unfold acqL; rw [e]
   rw [e] at c
   have c : VFn Tryz.prog 259 [s.av] (.tup [l.av, .int .i64 0]) := c
   by_cases e1 : acqC s now = 0
   · unfold acqS acqT acqR Sto.put
     rw [if_pos e1, if_pos e1]
     by_cases hroom : s.room leaK (acqL s who now).text = 0
     · rw [if_pos hroom] at co
       rw [if_pos hroom, hroom, if_pos ⟨e1, rfl⟩, e]
       rw [eL] at ct co ⊢
       refine VFn.introC Tryz.call230 Tryz.func230 rfl rfl ?_
       conv => whnf
       refine CallC.sca _ (c) ?_ ?_
       · exact rfl
       refine Grd.intro (fun g => ?_) (fun g => ?_)
       · have g : l.til ≠ 0 := by simpa using g
         refine And.intro (inI64 (by omega) (by omega)) ?_
         conv => whnf
         refine CallC.sca _ (first3_of _ (decide (now ≤ l.til + 6)) _ _ _ _ ⟨rfl, rfl, rfl, rfl, rfl, rfl, trivial⟩ rfl ((first3_gen e (now := now) (decide (now ≤ l.til + 6)) (by simp [g])).trans e1)) ?_ ?_
         · exact rfl
         refine And.intro (inI64 (by omega) (by omega)) ?_
         refine And.intro (inI64 (by omega) (by omega)) ?_
         refine DrawC.mkQ 12 [(.inr 8, 9)] rfl (by kernel_rfl) ?_
         refine And.intro rfl ?_
         conv => whnf
         refine PCallQ.sca _ (ct) rfl ?_
         conv => whnf
         refine PCallQ.nl _ (co) rfl ?_
         refine DrawC.mkQ 6 [(.inl 1, 3)] rfl (by kernel_rfl) ?_
         refine And.intro rfl ?_
         exact And.intro trivial (AVle.refl _)
       · have g : l.til = 0 := by simpa using g
         conv => whnf
         refine CallC.sca _ (first3_of _ false _ _ _ _ ⟨rfl, rfl, rfl, rfl, rfl, rfl, trivial⟩ rfl ((first3_gen e (now := now) false (by simp [g])).trans e1)) ?_ ?_
         · exact rfl
         refine And.intro (inI64 (by omega) (by omega)) ?_
         refine And.intro (inI64 (by omega) (by omega)) ?_
         refine DrawC.mkQ 12 [(.inr 8, 9)] rfl (by kernel_rfl) ?_
         refine And.intro rfl ?_
         conv => whnf
         refine PCallQ.sca _ (ct) rfl ?_
         conv => whnf
         refine PCallQ.nl _ (co) rfl ?_
         refine DrawC.mkQ 6 [(.inl 1, 3)] rfl (by kernel_rfl) ?_
         refine And.intro rfl ?_
         exact And.intro trivial (AVle.refl _)
     · rw [if_neg hroom] at co
       rw [if_neg hroom, if_neg (fun h => hroom h.2)]
       rw [eL] at ct co hroom ⊢
       refine VFn.introC Tryz.call230 Tryz.func230 rfl rfl ?_
       conv => whnf
       refine CallC.sca _ (c) ?_ ?_
       · exact rfl
       refine Grd.intro (fun g => ?_) (fun g => ?_)
       · have g : l.til ≠ 0 := by simpa using g
         refine And.intro (inI64 (by omega) (by omega)) ?_
         conv => whnf
         refine CallC.sca _ (first3_of _ (decide (now ≤ l.til + 6)) _ _ _ _ ⟨rfl, rfl, rfl, rfl, rfl, rfl, trivial⟩ rfl ((first3_gen e (now := now) (decide (now ≤ l.til + 6)) (by simp [g])).trans e1)) ?_ ?_
         · exact rfl
         refine And.intro (inI64 (by omega) (by omega)) ?_
         refine And.intro (inI64 (by omega) (by omega)) ?_
         refine DrawC.mkQ 12 [(.inr 8, 9)] rfl (by kernel_rfl) ?_
         refine And.intro rfl ?_
         conv => whnf
         refine PCallQ.sca _ (ct) rfl ?_
         conv => whnf
         refine PCallQ.nl _ (co) rfl ?_
         refine Grd.intro (fun _ => ?_) (fun g => absurd (by simpa using g) hroom)
         exact And.intro trivial (AVle.refl _)
       · have g : l.til = 0 := by simpa using g
         conv => whnf
         refine CallC.sca _ (first3_of _ false _ _ _ _ ⟨rfl, rfl, rfl, rfl, rfl, rfl, trivial⟩ rfl ((first3_gen e (now := now) false (by simp [g])).trans e1)) ?_ ?_
         · exact rfl
         refine And.intro (inI64 (by omega) (by omega)) ?_
         refine And.intro (inI64 (by omega) (by omega)) ?_
         refine DrawC.mkQ 12 [(.inr 8, 9)] rfl (by kernel_rfl) ?_
         refine And.intro rfl ?_
         conv => whnf
         refine PCallQ.sca _ (ct) rfl ?_
         conv => whnf
         refine PCallQ.nl _ (co) rfl ?_
         refine Grd.intro (fun _ => ?_) (fun g => absurd (by simpa using g) hroom)
         exact And.intro trivial (AVle.refl _)
   · unfold acqS acqT acqR
     rw [if_neg e1, if_neg (fun h => e1 h.1), if_neg e1]
     refine VFn.introC Tryz.call230 Tryz.func230 rfl rfl ?_
     conv => whnf
     refine CallC.sca _ (c) ?_ ?_
     · exact rfl
     refine Grd.intro (fun g => ?_) (fun g => ?_)
     · have g : l.til ≠ 0 := by simpa using g
       refine And.intro (inI64 (by omega) (by omega)) ?_
       conv => whnf
       refine CallC.sca _ (first3_of _ (decide (now ≤ l.til + 6)) _ _ _ _ ⟨rfl, rfl, rfl, rfl, rfl, rfl, trivial⟩ rfl (first3_gen e (now := now) (decide (now ≤ l.til + 6)) (by simp [g]))) ?_ ?_
       · exact rfl
       refine Grd.intro (fun _ => ?_) (fun g => absurd (by simpa using g) e1)
       exact And.intro trivial (AVle.refl _)
     · have g : l.til = 0 := by simpa using g
       conv => whnf
       refine CallC.sca _ (first3_of _ false _ _ _ _ ⟨rfl, rfl, rfl, rfl, rfl, rfl, trivial⟩ rfl (first3_gen e (now := now) false (by simp [g]))) ?_ ?_
       · exact rfl
       refine Grd.intro (fun _ => ?_) (fun g => absurd (by simpa using g) e1)
       exact And.intro trivial (AVle.refl _)

def stoN0 : Sto := ⟨[], 1⟩
theorem chance_fn (s : Src) (n : Int) (h : s.ok 100000000) (hn : -1000000 ≤ n ∧ n ≤ 1000000) : FnM Tryz.prog 121 1 [.bptr 0 0, .int .i64 n] [(0, .box s.row)] (.bool (decide ((s.next n).1 = n - 1))) [(0, .box (s.next n).2.row)] 1 := by
 refine FnM.introC Tryz.call121 Tryz.func121 rfl rfl ?_
 conv => whnf
 refine CallC.k [(0, 0)] (next_fn s n h) rfl rfl (AVsle.refl _) ⟨MOle.refl _, trivial⟩ rfl ?_
 refine And.intro (inI64 (by omega) (by omega)) ?_
 exact And.intro trivial ⟨[(0, 0)], rfl, AVle.refl _, ⟨MOle.refl _, trivial⟩⟩
theorem keyF_ok {t n w : Nat} (ht : t ≤ 2) : keyOK (keyB t n w) = true := by
 have hs : (keyB t n w).length ≤ 17 ∧ 13 ≤ (keyB t n w).length := by
  unfold keyB pre
  split <;> simp [six6]
 unfold keyOK
 have e : (keyB t n w).all keyC = true := by
  have hd : ∀ m, (six6 m).all keyC = true := fun m => List.all_eq_true.2 fun x hx => by
   have := List.all_eq_true.1 (six6_dig m) x hx
   have := of_decide_eq_true this
   unfold keyC
   simp only [Bool.or_eq_true, Bool.and_eq_true, decide_eq_true_eq]
   left; left; right
   omega
  unfold keyB
  rw [List.all_append, List.all_append, List.all_cons, hd, hd]
  have h : t = 0 ∨ t = 1 ∨ t = 2 := by omega
  rcases h with rfl | rfl | rfl <;> decide
 rw [e]
 simp [within]; omega
structure FS where
 x : Sto
 at_ : Int
 s : Src
structure FI (i : Nat) (q : FS) : Prop where
 ok : q.x.ok = true
 len : q.x.os.length ≤ 2 * (i - 1)
 nxt : q.x.next ≤ 1 + 2 * ((i : Int) - 1)
 at_ : 0 ≤ q.at_ ∧ q.at_ ≤ 100 * ((i : Int) - 1)
 s : q.s.ok (100000 + 200 * i)
theorem manK_keyOK (n : Int) : keyOK (manK n) = true := by
 have hs : (manK n).length = 10 := by simp [manK, six6]
 have e : (manK n).all keyC = true := by
  unfold manK
  rw [List.all_append]
  have : (six6 n.toNat).all keyC = true := List.all_eq_true.2 fun x hx => by
   have := List.all_eq_true.1 (six6_dig n.toNat) x hx
   have := of_decide_eq_true this
   unfold keyC
   simp only [Bool.or_eq_true, Bool.and_eq_true, decide_eq_true_eq]
   left; left; right
   omega
  rw [this]
  decide
 unfold keyOK
 rw [e, hs]
 decide
theorem Rc.txt_len {r : Rc} (h : r.ok = true) : r.text.length ≤ 130 := by
 have hk := (Rc.okN h).2
 have hh := Rc.head_len h
 unfold Rc.text; simp only [List.length_append, List.length_cons, List.length_nil]; omega
theorem join_no32 : ∀ L : List Int, ∀ x ∈ Lib.join (L.map Lib.itoa) [44], x ≠ (32 : UInt8)
 | [], x, hx => by simp [Lib.join] at hx
 | [a], x, hx => itoa_ne (by decide) (by decide) x (by simpa [Lib.join] using hx)
 | a :: b :: r, x, hx => by
   have e : Lib.join ((a :: b :: r).map Lib.itoa) [44] = Lib.itoa a ++ [44] ++ Lib.join ((b :: r).map Lib.itoa) [44] := by simp [Lib.join, List.intercalate, List.intersperse]
   rw [e] at hx
   rcases List.mem_append.1 hx with hx | hx
   · rcases List.mem_append.1 hx with hx | hx
     · exact itoa_ne (by decide) (by decide) x hx
     · simp at hx; rw [hx]; decide
   · exact join_no32 (b :: r) x hx
theorem text_nums {r : Rc} (h : r.ok = true) : numsK 44 5 (Lib.join (r.nums.map Lib.itoa) [44]) = some [r.k, r.tok, r.tier, r.f, r.t] :=
 nums_back (c := 44) (by decide) (by decide) (N := r.nums) (by simp [Rc.nums]) (fun n hn => by have := (Rc.okN h).1 n hn; unfold mid at this; omega)
theorem text_back {r : Rc} (h : r.ok = true) : readR r.text = some r := by
 have := (readR_at (b := r.key) (join_no32 r.nums)).1 _ _ _ _ _ (text_nums h)
 show readR (Lib.join (r.nums.map Lib.itoa) [44] ++ 32 :: r.key) = _
 rw [this, if_pos h]
theorem man_ne_key (n : Int) {t m w : Nat} : manK n ≠ keyB t m w := fun h => by
 have h1 : (manK n).length = 10 := by simp [manK, six6]
 have h2 : 13 ≤ (keyB t m w).length := by
  unfold keyB pre
  split <;> simp [six6]
 rw [h] at h1
 omega
structure LogX (x : Sto) (n : Nat) (s : Sta) : Prop where
 ok : x.ok = true
 has : ∀ k : Nat, 1 ≤ k → k ≤ 999999 → x.has (manK (k : Int)) = decide (k ≤ n)
 fin : logEnd x = n
 log : logS x = s
theorem manK_head (n : Int) : (manK n).head? ≠ some 112 := by simp [manK]
theorem keyB_head {t n w : Nat} (ht : t ≤ 2) : (keyB t n w).head? ≠ some 112 := by
 have h : t = 0 ∨ t = 1 ∨ t = 2 := by omega
 rcases h with rfl | rfl | rfl <;> simp [keyB, pre]
theorem wo_mem (x : Sto) (k : List UInt8) (o : Ob) : o ∈ (wo x k).os ↔ o ∈ x.os ∧ o.key ≠ k := by
 unfold wo
 rw [List.mem_filter]
 simp
theorem wo_ne {x : Sto} (hs : x.ok = true) {k k' : List UInt8} (hk : k' ≠ k) : (wo x k).has k' = x.has k' ∧ (x.has k' = true → (wo x k).get k' = x.get k') := by
 have h1 := Sto.srt hs
 have h2 := Sto.srt (wo_ok hs k)
 have fw : (wo x k).has k' = true → x.has k' = true := fun h => by
  obtain ⟨a1, a2⟩ := has_get h
  have := (mem_has h1 ((wo_mem x k _).1 a1).1).1
  rwa [a2] at this
 have bw : x.has k' = true → (wo x k).has k' = true ∧ (wo x k).get k' = x.get k' := fun h => by
  obtain ⟨a1, a2⟩ := has_get h
  have := mem_has h2 ((wo_mem x k _).2 ⟨a1, by rw [a2]; exact hk⟩)
  rw [a2] at this
  exact this
 refine ⟨?_, fun h => (bw h).2⟩
 cases h : x.has k' with
 | true => exact (bw h).1
 | false =>
   cases h' : (wo x k).has k' with
   | false => rfl
   | true => rw [fw h'] at h; cases h
theorem pin_head {k : List UInt8} (h : Lib.hasPrefix k pinP = true) : k.head? = some 112 := by
 unfold Lib.hasPrefix pinP at h
 cases k with
 | nil => simp at h
 | cons a r =>
   simp [List.isPrefixOf] at h
   simp [h.1]
theorem pin_ne_man {k : List UInt8} (h : Lib.hasPrefix k pinP = true) (i : Int) : k ≠ manK i := fun e => by
 have := pin_head h
 rw [e] at this
 exact manK_head i this
theorem pin_ne_key {k : List UInt8} (h : Lib.hasPrefix k pinP = true) {t n w : Nat} (ht : t ≤ 2) : k ≠ keyB t n w := fun e => by
 have := pin_head h
 rw [e] at this
 exact keyB_head ht this
end Go.Proofs.YtnplgeogieoioaaGreatDoor
