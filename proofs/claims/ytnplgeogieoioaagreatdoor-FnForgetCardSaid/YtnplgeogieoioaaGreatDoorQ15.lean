/- Contracts of functions that the claim reaches, and the plain law of what they compute; each theorem bears its own conditions. -/
import Derived.Test.YtnplgeogieoioaaGreatDoorQ14
import Derived.Test.YtnplgeogieoioaaGreatDoorV52
import Derived.Test.YtnplgeogieoioaaGreatDoorQ9
import Derived.Test.YtnplgeogieoioaaGreatDoorQ13
set_option linter.unusedVariables false
set_option linter.constructorNameAsVariable false
set_option linter.unusedSimpArgs false
set_option maxRecDepth 20000
set_option maxHeartbeats 1000000
namespace Go.Proofs.YtnplgeogieoioaaGreatDoor
open Go Go.Vw
theorem fstep4_fn {f : Fl} {M Q : Nat} (F : FlI f M Q) (hM : M ≤ 1000) (hQ : Q ≤ 100000) : FnM Tryz.prog 88 6 [.bptr 0 0, .int .i64 4] f.objs (.int .i64 (stepF f 4).2) ((stepF f 4).1.objN 4 (if (stepR f.st (ix f.rs 0) (f.now 4)).2.2.1 = true then 6 else 5)) 7 := by
 obtain ⟨hl, hg⟩ : 0 < f.rs.length ∧ (ix f.rs 0).ok = true := by
  obtain ⟨g0, g1, eg, ⟨i0, i1⟩, W0, W1⟩ := F.rs
  rw [eg]
  exact ⟨by simp, W0.ok⟩
 have R := (rr_iff _).1 hg
 have nb := now_bd F 4
 have hw := (F.step hM (who := 4) (by decide)).2.2 (by decide)
 have han := F.an.2
 have cs := rstep_fn f.st F.st.lg.ok (ix f.rs 0) (f.now 4) R.id (by have := R.tier; simp only [within, Bool.and_eq_true, decide_eq_true_eq]; omega) R.rg nb.1 R.til (by have := R.len; omega) hw
 have es : stepF f 4 = ({ f with st := (stepR f.st (ix f.rs 0) (f.now 4)).1, rs := f.rs.set 0 (stepR f.st (ix f.rs 0) (f.now 4)).2.1, an := if (stepR f.st (ix f.rs 0) (f.now 4)).2.2.1 = true then f.an ++ [ansR (stepR f.st (ix f.rs 0) (f.now 4)).2.1] else f.an }, (stepR f.st (ix f.rs 0) (f.now 4)).2.2.2) := by
  unfold stepF
  rw [if_neg (by decide), if_pos (by decide)]
  rfl
 rw [es]
 clear es hw
 have hk := skew_b F 4
 have hk : -3 ≤ f.k4 ∧ f.k4 ≤ 3 := hk
 have hc := F.clk
 have e0 : f.now 4 = f.clk + f.k4 := rfl
 rw [e0] at cs
 rw [e0]
 generalize stepR f.st (ix f.rs 0) (f.clk + f.k4) = p at *
 obtain ⟨y, v, d, c⟩ := p
 have cs : VFn Tryz.prog 163 [(ix f.rs 0).av, f.st.av, .int .i64 (f.clk + f.k4)] (.tup [y.av, v.av, .bool d, .int .i64 c]) := cs
 have cr := isReader_fn 4
 cases d
 · refine FnM.introC Tryz.call88 Tryz.func88 rfl rfl ?_
   conv => whnf
   refine DrawC.mq 13 rfl (by kernel_rfl) ?_
   conv => whnf
   refine And.intro ⟨by decide, by decide⟩ ?_
   conv => whnf
   refine And.intro (inI64 (by omega) (by omega)) ?_
   conv => whnf
   conv => whnf
   refine CallC.nl _ (cr) ?_ ?_
   · exact rfl
   conv => whnf
   refine And.intro (inI64 (by decide) (by decide)) ?_
   conv => whnf
   refine And.intro ⟨by decide, show ((0 : Nat) : Int) < (f.rs.length : Int) by omega⟩ ?_
   conv => whnf
   refine DrawC.mkR 23 [(.inl 0, 18), (.inl 3, 20)] [(0, 8), (3, 4)] rfl (by kernel_rfl) ?_
   refine And.intro (And.intro (by kernel_rfl) (by kernel_rfl)) ?_
   conv => whnf
   refine PCallQ.nl _ (cs) rfl ?_
   conv => whnf
   refine And.intro trivial ⟨[(0, 0), (1, 1), (2, 2), (3, 3), (4, 4), (5, 5)], rfl, AVle.refl _, MOle.refl _, MOle.refl _, MOle.refl _, arr_set f.rs hl v rfl (fun j hj => ?_) _ _, MOle.refl _, MOle.refl _, trivial⟩
   show (bif j.beq 0 then _ else _) = _
   rw [beq_f hj]
   rfl
 · have hixv : ansR v = ansR v := rfl
   by_cases hv : v.code = 0
   · have ea : ansR v = ⟨v.tier, v.f, v.t, v.code, v.got⟩ := by unfold ansR; rw [if_pos hv]
     show FnM _ _ _ _ _ _ (Fl.objN { f with st := y, rs := f.rs.set 0 v, an := f.an ++ [ansR v] } 4 6) _
     rw [ea]
     refine FnM.introC Tryz.call88 Tryz.func88 rfl rfl ?_
     conv => whnf
     refine DrawC.mq 13 rfl (by kernel_rfl) ?_
     conv => whnf
     refine And.intro ⟨by decide, by decide⟩ ?_
     conv => whnf
     refine And.intro (inI64 (by omega) (by omega)) ?_
     conv => whnf
     conv => whnf
     refine CallC.nl _ (cr) ?_ ?_
     · exact rfl
     conv => whnf
     refine And.intro (inI64 (by decide) (by decide)) ?_
     conv => whnf
     refine And.intro ⟨by decide, show ((0 : Nat) : Int) < (f.rs.length : Int) by omega⟩ ?_
     conv => whnf
     refine DrawC.mkR 23 [(.inl 0, 18), (.inl 3, 20)] [(0, 8), (3, 4)] rfl (by kernel_rfl) ?_
     refine And.intro (And.intro (by kernel_rfl) (by kernel_rfl)) ?_
     conv => whnf
     refine PCallQ.nl _ (cs) rfl ?_
     conv => whnf
     refine DrawC.mkQ 19 [(.inr 17, 18)] rfl (by kernel_rfl) ?_
     refine And.intro rfl ?_
     conv => whnf
     refine Grd.intro (fun _ => ?_) (fun h => absurd hv (of_decide_eq_false h))
     conv => whnf
     refine DrawC.mkR 11 [(.inl 5, 7), (.inl 0, 10)] [(0, 4)] rfl (by kernel_rfl) ?_
     refine And.intro (And.intro (by kernel_rfl) (by kernel_rfl)) ?_
     conv => whnf
     refine And.intro ⟨show (f.an.length + 1) * 80 ≤ 140737488355328 by omega, fun i hi => by (obtain rfl : i = 0 := by omega); rfl⟩ ?_
     conv => whnf
     refine And.intro trivial ⟨[(0, 0), (1, 1), (2, 2), (3, 3), (4, 4), (5, 5), (68, 6)], rfl, AVle.refl _, MOle.refl _, MOle.refl _, MOle.refl _, arr_set f.rs hl v rfl (fun j hj => ?_) _ _, MOle.refl _, MOle.arr (show _ = (f.an ++ [(⟨v.tier, v.f, v.t, v.code, v.got⟩ : An)]).length by simp) (fun i hi => app_row1 (f := An.row) (L := f.an) (x := ⟨v.tier, v.f, v.t, v.code, v.got⟩) rfl hi), trivial⟩
     show (bif j.beq 0 then _ else _) = _
     rw [beq_f hj]
     rfl
   · have ea : ansR v = ⟨v.tier, v.f, v.t, v.code, default⟩ := by unfold ansR; rw [if_neg hv]
     show FnM _ _ _ _ _ _ (Fl.objN { f with st := y, rs := f.rs.set 0 v, an := f.an ++ [ansR v] } 4 6) _
     rw [ea]
     refine FnM.introC Tryz.call88 Tryz.func88 rfl rfl ?_
     conv => whnf
     refine DrawC.mq 13 rfl (by kernel_rfl) ?_
     conv => whnf
     refine And.intro ⟨by decide, by decide⟩ ?_
     conv => whnf
     refine And.intro (inI64 (by omega) (by omega)) ?_
     conv => whnf
     conv => whnf
     refine CallC.nl _ (cr) ?_ ?_
     · exact rfl
     conv => whnf
     refine And.intro (inI64 (by decide) (by decide)) ?_
     conv => whnf
     refine And.intro ⟨by decide, show ((0 : Nat) : Int) < (f.rs.length : Int) by omega⟩ ?_
     conv => whnf
     refine DrawC.mkR 23 [(.inl 0, 18), (.inl 3, 20)] [(0, 8), (3, 4)] rfl (by kernel_rfl) ?_
     refine And.intro (And.intro (by kernel_rfl) (by kernel_rfl)) ?_
     conv => whnf
     refine PCallQ.nl _ (cs) rfl ?_
     conv => whnf
     refine DrawC.mkQ 19 [(.inr 17, 18)] rfl (by kernel_rfl) ?_
     refine And.intro rfl ?_
     conv => whnf
     refine Grd.intro (fun h => absurd (of_decide_eq_true h) hv) (fun _ => ?_)
     conv => whnf
     refine DrawC.mkR 11 [(.inl 5, 7), (.inl 0, 10)] [(0, 4)] rfl (by kernel_rfl) ?_
     refine And.intro (And.intro (by kernel_rfl) (by kernel_rfl)) ?_
     conv => whnf
     refine And.intro ⟨show (f.an.length + 1) * 80 ≤ 140737488355328 by omega, fun i hi => by (obtain rfl : i = 0 := by omega); rfl⟩ ?_
     conv => whnf
     refine And.intro trivial ⟨[(0, 0), (1, 1), (2, 2), (3, 3), (4, 4), (5, 5), (68, 6)], rfl, AVle.refl _, MOle.refl _, MOle.refl _, MOle.refl _, arr_set f.rs hl v rfl (fun j hj => ?_) _ _, MOle.refl _, MOle.arr (show _ = (f.an ++ [(⟨v.tier, v.f, v.t, v.code, default⟩ : An)]).length by simp) (fun i hi => app_row1 (f := An.row) (L := f.an) (x := ⟨v.tier, v.f, v.t, v.code, default⟩) rfl hi), trivial⟩
     show (bif j.beq 0 then _ else _) = _
     rw [beq_f hj]
     rfl
theorem fstep5_fn {f : Fl} {M Q : Nat} (F : FlI f M Q) (hM : M ≤ 1000) (hQ : Q ≤ 100000) : FnM Tryz.prog 88 6 [.bptr 0 0, .int .i64 5] f.objs (.int .i64 (stepF f 5).2) ((stepF f 5).1.objN 4 (if (stepR f.st (ix f.rs 1) (f.now 5)).2.2.1 = true then 6 else 5)) 7 := by
 obtain ⟨hl, hg⟩ : 1 < f.rs.length ∧ (ix f.rs 1).ok = true := by
  obtain ⟨g0, g1, eg, ⟨i0, i1⟩, W0, W1⟩ := F.rs
  rw [eg]
  exact ⟨by simp, W1.ok⟩
 have R := (rr_iff _).1 hg
 have nb := now_bd F 5
 have hw := (F.step hM (who := 5) (by decide)).2.2 (by decide)
 have han := F.an.2
 have cs := rstep_fn f.st F.st.lg.ok (ix f.rs 1) (f.now 5) R.id (by have := R.tier; simp only [within, Bool.and_eq_true, decide_eq_true_eq]; omega) R.rg nb.1 R.til (by have := R.len; omega) hw
 have es : stepF f 5 = ({ f with st := (stepR f.st (ix f.rs 1) (f.now 5)).1, rs := f.rs.set 1 (stepR f.st (ix f.rs 1) (f.now 5)).2.1, an := if (stepR f.st (ix f.rs 1) (f.now 5)).2.2.1 = true then f.an ++ [ansR (stepR f.st (ix f.rs 1) (f.now 5)).2.1] else f.an }, (stepR f.st (ix f.rs 1) (f.now 5)).2.2.2) := by
  unfold stepF
  rw [if_neg (by decide), if_pos (by decide)]
  rfl
 rw [es]
 clear es hw
 have hk := skew_b F 5
 have hk : -3 ≤ f.k5 ∧ f.k5 ≤ 3 := hk
 have hc := F.clk
 have e0 : f.now 5 = f.clk + f.k5 := rfl
 rw [e0] at cs
 rw [e0]
 generalize stepR f.st (ix f.rs 1) (f.clk + f.k5) = p at *
 obtain ⟨y, v, d, c⟩ := p
 have cs : VFn Tryz.prog 163 [(ix f.rs 1).av, f.st.av, .int .i64 (f.clk + f.k5)] (.tup [y.av, v.av, .bool d, .int .i64 c]) := cs
 have cr := isReader_fn 5
 cases d
 · refine FnM.introC Tryz.call88 Tryz.func88 rfl rfl ?_
   conv => whnf
   refine DrawC.mq 13 rfl (by kernel_rfl) ?_
   conv => whnf
   refine And.intro ⟨by decide, by decide⟩ ?_
   conv => whnf
   refine And.intro (inI64 (by omega) (by omega)) ?_
   conv => whnf
   conv => whnf
   refine CallC.nl _ (cr) ?_ ?_
   · exact rfl
   conv => whnf
   refine And.intro (inI64 (by decide) (by decide)) ?_
   conv => whnf
   refine And.intro ⟨by decide, show ((1 : Nat) : Int) < (f.rs.length : Int) by omega⟩ ?_
   conv => whnf
   refine DrawC.mkR 23 [(.inl 0, 18), (.inl 3, 20)] [(0, 8), (3, 4)] rfl (by kernel_rfl) ?_
   refine And.intro (And.intro (by kernel_rfl) (by kernel_rfl)) ?_
   conv => whnf
   refine PCallQ.nl _ (cs) rfl ?_
   conv => whnf
   refine And.intro trivial ⟨[(0, 0), (1, 1), (2, 2), (3, 3), (4, 4), (5, 5)], rfl, AVle.refl _, MOle.refl _, MOle.refl _, MOle.refl _, arr_set f.rs hl v rfl (fun j hj => ?_) _ _, MOle.refl _, MOle.refl _, trivial⟩
   show (bif j.beq 1 then _ else _) = _
   rw [beq_f hj]
   rfl
 · have hixv : ansR v = ansR v := rfl
   by_cases hv : v.code = 0
   · have ea : ansR v = ⟨v.tier, v.f, v.t, v.code, v.got⟩ := by unfold ansR; rw [if_pos hv]
     show FnM _ _ _ _ _ _ (Fl.objN { f with st := y, rs := f.rs.set 1 v, an := f.an ++ [ansR v] } 4 6) _
     rw [ea]
     refine FnM.introC Tryz.call88 Tryz.func88 rfl rfl ?_
     conv => whnf
     refine DrawC.mq 13 rfl (by kernel_rfl) ?_
     conv => whnf
     refine And.intro ⟨by decide, by decide⟩ ?_
     conv => whnf
     refine And.intro (inI64 (by omega) (by omega)) ?_
     conv => whnf
     conv => whnf
     refine CallC.nl _ (cr) ?_ ?_
     · exact rfl
     conv => whnf
     refine And.intro (inI64 (by decide) (by decide)) ?_
     conv => whnf
     refine And.intro ⟨by decide, show ((1 : Nat) : Int) < (f.rs.length : Int) by omega⟩ ?_
     conv => whnf
     refine DrawC.mkR 23 [(.inl 0, 18), (.inl 3, 20)] [(0, 8), (3, 4)] rfl (by kernel_rfl) ?_
     refine And.intro (And.intro (by kernel_rfl) (by kernel_rfl)) ?_
     conv => whnf
     refine PCallQ.nl _ (cs) rfl ?_
     conv => whnf
     refine DrawC.mkQ 19 [(.inr 17, 18)] rfl (by kernel_rfl) ?_
     refine And.intro rfl ?_
     conv => whnf
     refine Grd.intro (fun _ => ?_) (fun h => absurd hv (of_decide_eq_false h))
     conv => whnf
     refine DrawC.mkR 11 [(.inl 5, 7), (.inl 0, 10)] [(0, 4)] rfl (by kernel_rfl) ?_
     refine And.intro (And.intro (by kernel_rfl) (by kernel_rfl)) ?_
     conv => whnf
     refine And.intro ⟨show (f.an.length + 1) * 80 ≤ 140737488355328 by omega, fun i hi => by (obtain rfl : i = 0 := by omega); rfl⟩ ?_
     conv => whnf
     refine And.intro trivial ⟨[(0, 0), (1, 1), (2, 2), (3, 3), (4, 4), (5, 5), (68, 6)], rfl, AVle.refl _, MOle.refl _, MOle.refl _, MOle.refl _, arr_set f.rs hl v rfl (fun j hj => ?_) _ _, MOle.refl _, MOle.arr (show _ = (f.an ++ [(⟨v.tier, v.f, v.t, v.code, v.got⟩ : An)]).length by simp) (fun i hi => app_row1 (f := An.row) (L := f.an) (x := ⟨v.tier, v.f, v.t, v.code, v.got⟩) rfl hi), trivial⟩
     show (bif j.beq 1 then _ else _) = _
     rw [beq_f hj]
     rfl
   · have ea : ansR v = ⟨v.tier, v.f, v.t, v.code, default⟩ := by unfold ansR; rw [if_neg hv]
     show FnM _ _ _ _ _ _ (Fl.objN { f with st := y, rs := f.rs.set 1 v, an := f.an ++ [ansR v] } 4 6) _
     rw [ea]
     refine FnM.introC Tryz.call88 Tryz.func88 rfl rfl ?_
     conv => whnf
     refine DrawC.mq 13 rfl (by kernel_rfl) ?_
     conv => whnf
     refine And.intro ⟨by decide, by decide⟩ ?_
     conv => whnf
     refine And.intro (inI64 (by omega) (by omega)) ?_
     conv => whnf
     conv => whnf
     refine CallC.nl _ (cr) ?_ ?_
     · exact rfl
     conv => whnf
     refine And.intro (inI64 (by decide) (by decide)) ?_
     conv => whnf
     refine And.intro ⟨by decide, show ((1 : Nat) : Int) < (f.rs.length : Int) by omega⟩ ?_
     conv => whnf
     refine DrawC.mkR 23 [(.inl 0, 18), (.inl 3, 20)] [(0, 8), (3, 4)] rfl (by kernel_rfl) ?_
     refine And.intro (And.intro (by kernel_rfl) (by kernel_rfl)) ?_
     conv => whnf
     refine PCallQ.nl _ (cs) rfl ?_
     conv => whnf
     refine DrawC.mkQ 19 [(.inr 17, 18)] rfl (by kernel_rfl) ?_
     refine And.intro rfl ?_
     conv => whnf
     refine Grd.intro (fun h => absurd (of_decide_eq_true h) hv) (fun _ => ?_)
     conv => whnf
     refine DrawC.mkR 11 [(.inl 5, 7), (.inl 0, 10)] [(0, 4)] rfl (by kernel_rfl) ?_
     refine And.intro (And.intro (by kernel_rfl) (by kernel_rfl)) ?_
     conv => whnf
     refine And.intro ⟨show (f.an.length + 1) * 80 ≤ 140737488355328 by omega, fun i hi => by (obtain rfl : i = 0 := by omega); rfl⟩ ?_
     conv => whnf
     refine And.intro trivial ⟨[(0, 0), (1, 1), (2, 2), (3, 3), (4, 4), (5, 5), (68, 6)], rfl, AVle.refl _, MOle.refl _, MOle.refl _, MOle.refl _, arr_set f.rs hl v rfl (fun j hj => ?_) _ _, MOle.refl _, MOle.arr (show _ = (f.an ++ [(⟨v.tier, v.f, v.t, v.code, default⟩ : An)]).length by simp) (fun i hi => app_row1 (f := An.row) (L := f.an) (x := ⟨v.tier, v.f, v.t, v.code, default⟩) rfl hi), trivial⟩
     show (bif j.beq 1 then _ else _) = _
     rw [beq_f hj]
     rfl
def NN (a n : Nat) : Prop := (a = 4 ∧ n = 5) ∨ (a = 6 ∧ n = 5) ∨ (a = 4 ∧ n = 6)
theorem fstep_fn {f : Fl} {M Q : Nat} (F : FlI f M Q) (hM : M ≤ 1000) (hQ : Q ≤ 100000) {w : Nat} (hw : w ≤ 6) : ∃ a n, NN a n ∧ FnM Tryz.prog 88 6 [.bptr 0 0, .int .i64 w] f.objs (.int .i64 (stepF f w).2) ((stepF f w).1.objN a n) 7 := by
 have : w = 0 ∨ w = 1 ∨ w = 2 ∨ w = 3 ∨ w = 4 ∨ w = 5 ∨ w = 6 := by omega
 rcases this with rfl | rfl | rfl | rfl | rfl | rfl | rfl
 · exact ⟨4, 5, .inl ⟨rfl, rfl⟩, fstep0_fn F hM⟩
 · exact ⟨4, 5, .inl ⟨rfl, rfl⟩, fstep1_fn F hM⟩
 · refine ⟨_, 5, ?_, fstep2_fn F hM⟩
   split
   · exact .inr (.inl ⟨rfl, rfl⟩)
   · exact .inl ⟨rfl, rfl⟩
 · refine ⟨_, 5, ?_, fstep3_fn F hM⟩
   split
   · exact .inr (.inl ⟨rfl, rfl⟩)
   · exact .inl ⟨rfl, rfl⟩
 · refine ⟨4, _, ?_, fstep4_fn F hM hQ⟩
   split
   · exact .inr (.inr ⟨rfl, rfl⟩)
   · exact .inl ⟨rfl, rfl⟩
 · refine ⟨4, _, ?_, fstep5_fn F hM hQ⟩
   split
   · exact .inr (.inr ⟨rfl, rfl⟩)
   · exact .inl ⟨rfl, rfl⟩
 · exact ⟨4, 5, .inl ⟨rfl, rfl⟩, fstep6_fn F hM⟩

theorem arr_setLe {α : Type} [Inhabited α] (l : List α) {k : Nat} (hk : k < l.length) (v : α) {row : α → List AV} {g : Nat → List AV} (h1 : AVsle (g k) (row v)) (h2 : ∀ j, j ≠ k → g j = row (ix l j)) (e sz : Nat) :
 MOle (.arr e sz l.length g) (.arr e sz (l.set k v).length fun i => row (ix (l.set k v) i)) := by
 refine MOle.arrLe (by simp) (fun i hi => ?_)
 rw [ixset l hk]
 by_cases h : i = k
 · subst h; rw [if_pos rfl]; exact h1
 · rw [if_neg h, h2 i h]; exact AVsle.refl _
theorem rowW0 (id : Int) : AVsle [.int .i64 id, .int .i64 0, .int .i64 0, .int .i64 0, .int .i64 0, .int .i64 0, .int .i64 0, .int .i64 0, .str (B []), .nilsl, .int .i64 0, .int .i64 0, .int .i64 0, .int .i64 0, .int .i64 0, .int .i64 0] (wkR id).row :=
 AVsle.cons (AVle.refl _) (AVsle.cons (AVle.refl _) (AVsle.cons (AVle.refl _) (AVsle.cons (AVle.refl _) (AVsle.cons (AVle.refl _) (AVsle.cons (AVle.refl _) (AVsle.cons (AVle.refl _) (AVsle.cons (AVle.refl _) (AVsle.cons (AVle.refl _) (AVsle.cons (AVle.nilsl _ _ rfl) (AVsle.refl _))))))))))
theorem rowG0 (id : Int) : AVsle [.int .i64 id, .int .i64 0, .int .i64 0, .int .i64 0, .nilsl, .bool false] (ingR id).row :=
 AVsle.cons (AVle.refl _) (AVsle.cons (AVle.refl _) (AVsle.cons (AVle.refl _) (AVsle.cons (AVle.refl _) (AVsle.cons (AVle.nilsl _ _ rfl) (AVsle.refl _)))))
theorem rowR0 (id : Int) : AVsle [.int .i64 id, .int .i64 0, .int .i64 0, .int .i64 0, .int .i64 0, .int .i64 0, .int .i64 0, .nilsl, .int .i64 0, .int .i64 0, .int .i64 0, .int .i64 0, .int .i64 0, .int .i64 0] (rd0 id).row :=
 AVsle.cons (AVle.refl _) (AVsle.cons (AVle.refl _) (AVsle.cons (AVle.refl _) (AVsle.cons (AVle.refl _) (AVsle.cons (AVle.refl _) (AVsle.cons (AVle.refl _) (AVsle.cons (AVle.refl _) (AVsle.cons (AVle.nilsl _ _ rfl) (AVsle.refl _))))))))
theorem FlI.lens {f : Fl} {M Q : Nat} (F : FlI f M Q) : f.ws.length = 2 ∧ f.gs.length = 2 ∧ f.rs.length = 2 := by
 obtain ⟨w0, w1, ew, _⟩ := F.ws
 obtain ⟨g0, g1, eg, _⟩ := F.gs
 obtain ⟨r0, r1, er, _⟩ := F.rs
 rw [ew, eg, er]
 exact ⟨rfl, rfl, rfl⟩
theorem crash0_fn {f : Fl} {M Q : Nat} (F : FlI f M Q) : FnM Tryz.prog 89 6 [.bptr 0 0, .int .i64 0] f.objs (.tup []) (crashF f 0).objs 7 := by
 have hl := F.lens
 have es : crashF f 0 = { f with ws := f.ws.set 0 (wkR 0) } := by
  unfold crashF
  rw [if_neg (by decide), if_neg (by decide), if_neg (by decide)]
  try rfl
 rw [es]
 clear es
 have cr := isReader_fn 0
 have ci := isIngester_fn 0
 refine FnM.introC Tryz.call89 Tryz.func89 rfl rfl ?_
 conv => whnf
 conv => whnf
 refine CallC.nl _ (cr) ?_ ?_
 · exact rfl
 conv => whnf
 conv => whnf
 refine CallC.nl _ (ci) ?_ ?_
 · exact rfl
 conv => whnf
 refine And.intro ⟨by decide, show ((0 : Nat) : Int) < (f.ws.length : Int) by omega⟩ ?_
 conv => whnf
 refine And.intro trivial ⟨[(0, 0), (1, 1), (2, 2), (3, 3), (4, 4), (5, 5)], rfl, AVle.refl _, MOle.refl _, arr_setLe f.ws (show 0 < f.ws.length by omega) (wkR 0) (rowW0 0) (fun j hj => ?_) _ _, MOle.refl _, MOle.refl _, MOle.refl _, MOle.refl _, trivial⟩
 show (bif j.beq 0 then _ else _) = _
 rw [beq_f hj]
 rfl
theorem crash1_fn {f : Fl} {M Q : Nat} (F : FlI f M Q) : FnM Tryz.prog 89 6 [.bptr 0 0, .int .i64 1] f.objs (.tup []) (crashF f 1).objs 7 := by
 have hl := F.lens
 have es : crashF f 1 = { f with ws := f.ws.set 1 (wkR 1) } := by
  unfold crashF
  rw [if_neg (by decide), if_neg (by decide), if_neg (by decide)]
  try rfl
 rw [es]
 clear es
 have cr := isReader_fn 1
 have ci := isIngester_fn 1
 refine FnM.introC Tryz.call89 Tryz.func89 rfl rfl ?_
 conv => whnf
 conv => whnf
 refine CallC.nl _ (cr) ?_ ?_
 · exact rfl
 conv => whnf
 conv => whnf
 refine CallC.nl _ (ci) ?_ ?_
 · exact rfl
 conv => whnf
 refine And.intro ⟨by decide, show ((1 : Nat) : Int) < (f.ws.length : Int) by omega⟩ ?_
 conv => whnf
 refine And.intro trivial ⟨[(0, 0), (1, 1), (2, 2), (3, 3), (4, 4), (5, 5)], rfl, AVle.refl _, MOle.refl _, arr_setLe f.ws (show 1 < f.ws.length by omega) (wkR 1) (rowW0 1) (fun j hj => ?_) _ _, MOle.refl _, MOle.refl _, MOle.refl _, MOle.refl _, trivial⟩
 show (bif j.beq 1 then _ else _) = _
 rw [beq_f hj]
 rfl
theorem crash2_fn {f : Fl} {M Q : Nat} (F : FlI f M Q) : FnM Tryz.prog 89 6 [.bptr 0 0, .int .i64 2] f.objs (.tup []) (crashF f 2).objs 7 := by
 have hl := F.lens
 have es : crashF f 2 = { f with gs := f.gs.set 0 (ingR 2) } := by
  unfold crashF
  rw [if_neg (by decide), if_neg (by decide), if_pos (by decide)]
  try rfl
 rw [es]
 clear es
 have cr := isReader_fn 2
 have ci := isIngester_fn 2
 refine FnM.introC Tryz.call89 Tryz.func89 rfl rfl ?_
 conv => whnf
 conv => whnf
 refine CallC.nl _ (cr) ?_ ?_
 · exact rfl
 conv => whnf
 conv => whnf
 refine CallC.nl _ (ci) ?_ ?_
 · exact rfl
 conv => whnf
 refine And.intro (inI64 (by decide) (by decide)) ?_
 conv => whnf
 refine And.intro ⟨by decide, show ((0 : Nat) : Int) < (f.gs.length : Int) by omega⟩ ?_
 conv => whnf
 refine And.intro trivial ⟨[(0, 0), (1, 1), (2, 2), (3, 3), (4, 4), (5, 5)], rfl, AVle.refl _, MOle.refl _, MOle.refl _, arr_setLe f.gs (show 0 < f.gs.length by omega) (ingR 2) (rowG0 2) (fun j hj => ?_) _ _, MOle.refl _, MOle.refl _, MOle.refl _, trivial⟩
 show (bif j.beq 0 then _ else _) = _
 rw [beq_f hj]
 rfl
theorem crash3_fn {f : Fl} {M Q : Nat} (F : FlI f M Q) : FnM Tryz.prog 89 6 [.bptr 0 0, .int .i64 3] f.objs (.tup []) (crashF f 3).objs 7 := by
 have hl := F.lens
 have es : crashF f 3 = { f with gs := f.gs.set 1 (ingR 3) } := by
  unfold crashF
  rw [if_neg (by decide), if_neg (by decide), if_pos (by decide)]
  try rfl
 rw [es]
 clear es
 have cr := isReader_fn 3
 have ci := isIngester_fn 3
 refine FnM.introC Tryz.call89 Tryz.func89 rfl rfl ?_
 conv => whnf
 conv => whnf
 refine CallC.nl _ (cr) ?_ ?_
 · exact rfl
 conv => whnf
 conv => whnf
 refine CallC.nl _ (ci) ?_ ?_
 · exact rfl
 conv => whnf
 refine And.intro (inI64 (by decide) (by decide)) ?_
 conv => whnf
 refine And.intro ⟨by decide, show ((1 : Nat) : Int) < (f.gs.length : Int) by omega⟩ ?_
 conv => whnf
 refine And.intro trivial ⟨[(0, 0), (1, 1), (2, 2), (3, 3), (4, 4), (5, 5)], rfl, AVle.refl _, MOle.refl _, MOle.refl _, arr_setLe f.gs (show 1 < f.gs.length by omega) (ingR 3) (rowG0 3) (fun j hj => ?_) _ _, MOle.refl _, MOle.refl _, MOle.refl _, trivial⟩
 show (bif j.beq 1 then _ else _) = _
 rw [beq_f hj]
 rfl
theorem crash4_fn {f : Fl} {M Q : Nat} (F : FlI f M Q) : FnM Tryz.prog 89 6 [.bptr 0 0, .int .i64 4] f.objs (.tup []) (crashF f 4).objs 7 := by
 have hl := F.lens
 have es : crashF f 4 = { f with rs := f.rs.set 0 (rd0 4) } := by
  unfold crashF
  rw [if_neg (by decide), if_pos (by decide)]
  try rfl
 rw [es]
 clear es
 have cr := isReader_fn 4
 have ci := isIngester_fn 4
 refine FnM.introC Tryz.call89 Tryz.func89 rfl rfl ?_
 conv => whnf
 conv => whnf
 refine CallC.nl _ (cr) ?_ ?_
 · exact rfl
 conv => whnf
 refine And.intro (inI64 (by decide) (by decide)) ?_
 conv => whnf
 refine And.intro ⟨by decide, show ((0 : Nat) : Int) < (f.rs.length : Int) by omega⟩ ?_
 conv => whnf
 refine And.intro trivial ⟨[(0, 0), (1, 1), (2, 2), (3, 3), (4, 4), (5, 5)], rfl, AVle.refl _, MOle.refl _, MOle.refl _, MOle.refl _, arr_setLe f.rs (show 0 < f.rs.length by omega) (rd0 4) (rowR0 4) (fun j hj => ?_) _ _, MOle.refl _, MOle.refl _, trivial⟩
 show (bif j.beq 0 then _ else _) = _
 rw [beq_f hj]
 rfl
theorem crash5_fn {f : Fl} {M Q : Nat} (F : FlI f M Q) : FnM Tryz.prog 89 6 [.bptr 0 0, .int .i64 5] f.objs (.tup []) (crashF f 5).objs 7 := by
 have hl := F.lens
 have es : crashF f 5 = { f with rs := f.rs.set 1 (rd0 5) } := by
  unfold crashF
  rw [if_neg (by decide), if_pos (by decide)]
  try rfl
 rw [es]
 clear es
 have cr := isReader_fn 5
 have ci := isIngester_fn 5
 refine FnM.introC Tryz.call89 Tryz.func89 rfl rfl ?_
 conv => whnf
 conv => whnf
 refine CallC.nl _ (cr) ?_ ?_
 · exact rfl
 conv => whnf
 refine And.intro (inI64 (by decide) (by decide)) ?_
 conv => whnf
 refine And.intro ⟨by decide, show ((1 : Nat) : Int) < (f.rs.length : Int) by omega⟩ ?_
 conv => whnf
 refine And.intro trivial ⟨[(0, 0), (1, 1), (2, 2), (3, 3), (4, 4), (5, 5)], rfl, AVle.refl _, MOle.refl _, MOle.refl _, MOle.refl _, arr_setLe f.rs (show 1 < f.rs.length by omega) (rd0 5) (rowR0 5) (fun j hj => ?_) _ _, MOle.refl _, MOle.refl _, trivial⟩
 show (bif j.beq 1 then _ else _) = _
 rw [beq_f hj]
 rfl
theorem crash6_fn {f : Fl} {M Q : Nat} (F : FlI f M Q) : FnM Tryz.prog 89 6 [.bptr 0 0, .int .i64 6] f.objs (.tup []) (crashF f 6).objs 7 := by
 have hl := F.lens
 have es : crashF f 6 = f := by
  unfold crashF
  rw [if_pos (by decide)]
 rw [es]
 clear es
 refine FnM.introC Tryz.call89 Tryz.func89 rfl rfl ?_
 conv => whnf
 exact And.intro trivial ⟨[(0, 0), (1, 1), (2, 2), (3, 3), (4, 4), (5, 5)], rfl, AVle.refl _, MOle.refl _, MOle.refl _, MOle.refl _, MOle.refl _, MOle.refl _, MOle.refl _, trivial⟩
theorem give2_fn (g : Ig) (h0 : g.b.length = 0) (L : List Smp) (hL : L.length ≤ 1000000) : VFn Tryz.prog 90 [g.av, smps L] (.tup [(⟨g.id, 0, 0, 0, L, false⟩ : Ig).av, .int .i64 0]) := by
 have c : VFn Tryz.prog 92 [smps L] (smps L) := (CloneSm_own L hL).vfn
 refine VFn.introC Tryz.call90 Tryz.func90 rfl rfl ?_
 refine Grd.intro (fun h => absurd (show (0 : Int) < (g.b.length : Int) from of_decide_eq_true h) (by omega)) (fun _ => ?_)
 refine DrawC.mkQ 7 [(.inl 1, 5)] rfl (by kernel_rfl) ?_
 refine And.intro rfl ?_
 refine PCallQ.nl _ (c) rfl ?_
 exact And.intro trivial (AVle.refl _)
theorem giveNo_fn (g : Ig) (h0 : ¬ g.b.length = 0) (L : List Smp) : VFn Tryz.prog 90 [g.av, smps L] (.tup [g.av, .int .i64 9]) := by
 refine VFn.introC Tryz.call90 Tryz.func90 rfl rfl ?_
 refine Grd.intro (fun _ => ?_) (fun h => absurd (show ¬ (0 : Int) < (g.b.length : Int) from of_decide_eq_false h) (by omega))
 exact And.intro trivial (AVle.refl _)
theorem giveI_fn (g : Ig) (L : List Smp) (hL : L.length ≤ 1000000) : VFn Tryz.prog 90 [g.av, smps L] (.tup [(giveI g L).1.av, .int .i64 (giveI g L).2]) := by
 unfold giveI
 by_cases h : g.b.length = 0
 · rw [if_pos h]; exact give2_fn g h L hL
 · rw [if_neg h]; exact giveNo_fn g h L
theorem askR_fn (r : Rr) (k a b : Int) : VFn Tryz.prog 91 [r.av, .int .i64 k, .int .i64 a, .int .i64 b] (.tup [(askR r k a b).1.av, .int .i64 (askR r k a b).2]) := by
 unfold askR
 by_cases h : r.ph = 0
 · rw [if_pos h]; exact ask_fn r h k a b
 · rw [if_neg h]; exact askNo_fn r h k a b
theorem crash_fn {f : Fl} {M Q : Nat} (F : FlI f M Q) {w : Nat} (hw : w ≤ 6) : FnM Tryz.prog 89 6 [.bptr 0 0, .int .i64 w] f.objs (.tup []) (crashF f w).objs 7 := by
 have : w = 0 ∨ w = 1 ∨ w = 2 ∨ w = 3 ∨ w = 4 ∨ w = 5 ∨ w = 6 := by omega
 rcases this with rfl | rfl | rfl | rfl | rfl | rfl | rfl
 · exact crash0_fn F
 · exact crash1_fn F
 · exact crash2_fn F
 · exact crash3_fn F
 · exact crash4_fn F
 · exact crash5_fn F
 · exact crash6_fn F
theorem minN (c n : Int) : (if (100000 : Int) < c + n then 100000 else c + n) = if c + n < 100000 then c + n else 100000 := by
 by_cases h : c + n < 100000
 · rw [if_pos h, if_neg (by omega)]
 · by_cases h2 : (100000 : Int) < c + n
   · rw [if_neg h, if_pos h2]
   · rw [if_neg h, if_neg h2]; omega
theorem do1_fn {f : Fl} {M Q : Nat} (F : FlI f M Q) (hM : M ≤ 1000) (hQ : Q ≤ 100000) {a : Act} (A : ActI a) (hk : a.k = 1) : ∃ x y, NN x y ∧ FnM Tryz.prog 34 6 [.bptr 0 0, a.av] f.objs (.int .i64 (doF f a).2) ((doF f a).1.objN x y) 7 := by
 have hw := A.who
 obtain ⟨x, y, hN, cs⟩ := fstep_fn F hM hQ (w := a.who.toNat) (by omega)
 rw [show ((a.who.toNat : Nat) : Int) = a.who from Int.toNat_of_nonneg hw.1] at cs
 have es : doF f a = stepF f a.who.toNat := by
  unfold doF
  rw [if_pos hk]
 rw [es]
 clear es
 generalize stepF f a.who.toNat = p at *
 refine ⟨x, y, hN, ?_⟩
 rcases hN with ⟨rfl, rfl⟩ | ⟨rfl, rfl⟩ | ⟨rfl, rfl⟩
 · refine FnM.introC Tryz.call34 Tryz.func34 rfl rfl ?_
   conv => whnf
   refine Grd.intro (fun _ => ?_) (fun h => absurd (show ¬ a.k = 1 from of_decide_eq_false h) (by omega))
   conv => whnf
   refine CallC.k [(0, 0), (1, 1), (2, 2), (3, 3), (4, 4), (5, 5)] cs rfl rfl (AVsle.refl _) ⟨MOle.refl _, MOle.refl _, MOle.refl _, MOle.refl _, MOle.refl _, MOle.refl _, trivial⟩ rfl ?_
   conv => whnf
   exact And.intro trivial ⟨[(0, 0), (1, 1), (2, 2), (3, 3), (4, 4), (5, 5)], rfl, AVle.refl _, MOle.refl _, MOle.refl _, MOle.refl _, MOle.refl _, MOle.refl _, MOle.refl _, trivial⟩
 · refine FnM.introC Tryz.call34 Tryz.func34 rfl rfl ?_
   conv => whnf
   refine Grd.intro (fun _ => ?_) (fun h => absurd (show ¬ a.k = 1 from of_decide_eq_false h) (by omega))
   conv => whnf
   refine CallC.k [(0, 0), (1, 1), (2, 2), (3, 3), (4, 4), (5, 5)] cs rfl rfl (AVsle.refl _) ⟨MOle.refl _, MOle.refl _, MOle.refl _, MOle.refl _, MOle.refl _, MOle.refl _, trivial⟩ rfl ?_
   conv => whnf
   exact And.intro trivial ⟨[(0, 0), (1, 1), (2, 2), (3, 3), (4, 4), (5, 5), (7, 6)], rfl, AVle.refl _, MOle.refl _, MOle.refl _, MOle.refl _, MOle.refl _, MOle.refl _, MOle.refl _, trivial⟩
 · refine FnM.introC Tryz.call34 Tryz.func34 rfl rfl ?_
   conv => whnf
   refine Grd.intro (fun _ => ?_) (fun h => absurd (show ¬ a.k = 1 from of_decide_eq_false h) (by omega))
   conv => whnf
   refine CallC.k [(0, 0), (1, 1), (2, 2), (3, 3), (4, 4), (5, 5)] cs rfl rfl (AVsle.refl _) ⟨MOle.refl _, MOle.refl _, MOle.refl _, MOle.refl _, MOle.refl _, MOle.refl _, trivial⟩ rfl ?_
   conv => whnf
   exact And.intro trivial ⟨[(0, 0), (1, 1), (2, 2), (3, 3), (4, 4), (5, 5), (7, 6)], rfl, AVle.refl _, MOle.refl _, MOle.refl _, MOle.refl _, MOle.refl _, MOle.refl _, MOle.refl _, trivial⟩
theorem do2_fn {f : Fl} {M Q : Nat} (F : FlI f M Q) (hM : M ≤ 1000) (hQ : Q ≤ 100000) {a : Act} (A : ActI a) (hk : a.k = 2) : FnM Tryz.prog 34 6 [.bptr 0 0, a.av] f.objs (.int .i64 (doF f a).2) (doF f a).1.objs 7 := by
 have hw := A.who
 have cs := crash_fn F (w := a.who.toNat) (by omega)
 rw [show ((a.who.toNat : Nat) : Int) = a.who from Int.toNat_of_nonneg hw.1] at cs
 have es : doF f a = (crashF f a.who.toNat, 0) := by
  unfold doF
  rw [if_neg (by omega), if_pos hk]
 rw [es]
 clear es
 generalize crashF f a.who.toNat = p at *
 refine FnM.introC Tryz.call34 Tryz.func34 rfl rfl ?_
 conv => whnf
 refine Grd.intro (fun h => absurd (of_decide_eq_true h) (by omega)) (fun _ => ?_)
 conv => whnf
 refine Grd.intro (fun _ => ?_) (fun h => absurd (show ¬ a.k = 2 from of_decide_eq_false h) (by omega))
 conv => whnf
 refine CallC.k [(0, 0), (1, 1), (2, 2), (3, 3), (4, 4), (5, 5)] cs rfl rfl (AVsle.refl _) ⟨MOle.refl _, MOle.refl _, MOle.refl _, MOle.refl _, MOle.refl _, MOle.refl _, trivial⟩ rfl ?_
 conv => whnf
 exact And.intro trivial ⟨[(0, 0), (1, 1), (2, 2), (3, 3), (4, 4), (5, 5)], rfl, AVle.refl _, MOle.refl _, MOle.refl _, MOle.refl _, MOle.refl _, MOle.refl _, MOle.refl _, trivial⟩
theorem do3_fn {f : Fl} {M Q : Nat} (F : FlI f M Q) (hM : M ≤ 1000) (hQ : Q ≤ 100000) {a : Act} (A : ActI a) (hk : a.k = 3) : FnM Tryz.prog 34 6 [.bptr 0 0, a.av] f.objs (.int .i64 (doF f a).2) (doF f a).1.objs 7 := by
 have hn := A.n3 hk
 have hc := F.clk
 have es : doF f a = ({ f with clk := if f.clk + a.n < 100000 then f.clk + a.n else 100000 }, 0) := by
  unfold doF
  rw [if_neg (by omega), if_neg (by omega), if_pos hk]
 rw [es, ← minN]
 clear es
 refine FnM.introC Tryz.call34 Tryz.func34 rfl rfl ?_
 conv => whnf
 refine Grd.intro (fun h => absurd (of_decide_eq_true h) (by omega)) (fun _ => ?_)
 conv => whnf
 refine Grd.intro (fun h => absurd (of_decide_eq_true h) (by omega)) (fun _ => ?_)
 conv => whnf
 refine Grd.intro (fun _ => ?_) (fun h => absurd (show ¬ a.k = 3 from of_decide_eq_false h) (by omega))
 conv => whnf
 refine DrawC.mkR 12 [(.inl 0, 11)] [(0, 4)] rfl (by kernel_rfl) ?_
 refine And.intro (And.intro (by kernel_rfl) (by kernel_rfl)) ?_
 conv => whnf
 refine And.intro (inI64 (by omega) (by omega)) ?_
 conv => whnf
 exact And.intro trivial ⟨[(0, 0), (1, 1), (2, 2), (3, 3), (4, 4), (5, 5)], rfl, AVle.refl _, MOle.refl _, MOle.refl _, MOle.refl _, MOle.refl _, MOle.refl _, MOle.refl _, trivial⟩
theorem do4_fn {f : Fl} {M Q : Nat} (F : FlI f M Q) (hM : M ≤ 1000) (hQ : Q ≤ 100000) {a : Act} (A : ActI a) (hk : a.k = 4) : FnM Tryz.prog 34 6 [.bptr 0 0, a.av] f.objs (.int .i64 (doF f a).2) (doF f a).1.objs 7 := by
 have hw := A.who
 have es : doF f a = (f.setK a.who a.n, 0) := by
  unfold doF
  rw [if_neg (by omega), if_neg (by omega), if_neg (by omega), if_pos hk]
 rw [es]
 clear es
 obtain ⟨k, w, n, t1, t2, t3, b⟩ := a
 have hw : 0 ≤ w ∧ w ≤ 6 := hw
 have hk : k = 4 := hk
 subst hk
 have h7 : w = 0 ∨ w = 1 ∨ w = 2 ∨ w = 3 ∨ w = 4 ∨ w = 5 ∨ w = 6 := by omega
 rcases h7 with rfl | rfl | rfl | rfl | rfl | rfl | rfl
 all_goals
  show FnM _ _ _ _ _ _ (Fl.objs (f.setK _ n)) _
  refine FnM.introC Tryz.call34 Tryz.func34 rfl rfl ?_
  conv => whnf
  refine DrawC.mkQ 9 [(.inl 0, 8)] rfl (by kernel_rfl) ?_
  refine And.intro rfl ?_
  conv => whnf
  refine And.intro ⟨by dsimp only; decide, by dsimp only; decide⟩ ?_
  conv => whnf
  exact And.intro trivial ⟨[(0, 0), (1, 1), (2, 2), (3, 3), (4, 4), (5, 5)], rfl, AVle.refl _, MOle.refl _, MOle.refl _, MOle.refl _, MOle.refl _, MOle.refl _, MOle.refl _, trivial⟩
theorem do50_fn {f : Fl} {M Q : Nat} (F : FlI f M Q) (hM : M ≤ 1000) (hQ : Q ≤ 100000) {a : Act} (A : ActI a) (hk : a.k = 5) (hw : a.who = 2) : FnM Tryz.prog 34 6 [.bptr 0 0, a.av] f.objs (.int .i64 (doF f a).2) (doF f a).1.objs 7 := by
 have hl := F.lens
 have hb := (A.b hk).2.2
 have es : doF f a = ({ f with gs := f.gs.set 0 (giveI (ix f.gs 0) a.b).1 }, (giveI (ix f.gs 0) a.b).2) := by
  unfold doF
  rw [if_neg (by omega), if_neg (by omega), if_neg (by omega), if_neg (by omega), if_pos hk]
  rw [hw]
  rfl
 rw [es]
 clear es
 have cs := giveI_fn (ix f.gs 0) a.b (by omega)
 generalize giveI (ix f.gs 0) a.b = p at *
 obtain ⟨kk, ww, n, t1, t2, t3, b⟩ := a
 have hw : ww = 2 := hw
 have hk : kk = 5 := hk
 subst hk hw
 clear A
 refine FnM.introC Tryz.call34 Tryz.func34 rfl rfl ?_
 conv => whnf
 refine DrawC.mq 9 rfl (by kernel_rfl) ?_
 conv => whnf
 refine And.intro (inI64 (by dsimp only; decide) (by dsimp only; decide)) ?_
 conv => whnf
 refine And.intro ⟨by dsimp only; decide, show ((0 : Nat) : Int) < (f.gs.length : Int) by omega⟩ ?_
 conv => whnf
 refine DrawC.mkR 13 [(.inl 2, 11)] [(2, 3)] rfl (by kernel_rfl) ?_
 refine And.intro (And.intro (by kernel_rfl) (by kernel_rfl)) ?_
 conv => whnf
 refine PCallQ.nl _ (cs) rfl ?_
 conv => whnf
 refine And.intro trivial ⟨[(0, 0), (1, 1), (2, 2), (3, 3), (4, 4), (5, 5)], rfl, AVle.refl _, MOle.refl _, MOle.refl _, arr_set f.gs (show 0 < f.gs.length by omega) p.1 rfl (fun j hj => ?_) _ _, MOle.refl _, MOle.refl _, MOle.refl _, trivial⟩
 show (bif j.beq 0 then _ else _) = _
 rw [beq_f hj]
 rfl
theorem do51_fn {f : Fl} {M Q : Nat} (F : FlI f M Q) (hM : M ≤ 1000) (hQ : Q ≤ 100000) {a : Act} (A : ActI a) (hk : a.k = 5) (hw : a.who = 3) : FnM Tryz.prog 34 6 [.bptr 0 0, a.av] f.objs (.int .i64 (doF f a).2) (doF f a).1.objs 7 := by
 have hl := F.lens
 have hb := (A.b hk).2.2
 have es : doF f a = ({ f with gs := f.gs.set 1 (giveI (ix f.gs 1) a.b).1 }, (giveI (ix f.gs 1) a.b).2) := by
  unfold doF
  rw [if_neg (by omega), if_neg (by omega), if_neg (by omega), if_neg (by omega), if_pos hk]
  rw [hw]
  rfl
 rw [es]
 clear es
 have cs := giveI_fn (ix f.gs 1) a.b (by omega)
 generalize giveI (ix f.gs 1) a.b = p at *
 obtain ⟨kk, ww, n, t1, t2, t3, b⟩ := a
 have hw : ww = 3 := hw
 have hk : kk = 5 := hk
 subst hk hw
 clear A
 refine FnM.introC Tryz.call34 Tryz.func34 rfl rfl ?_
 conv => whnf
 refine DrawC.mq 9 rfl (by kernel_rfl) ?_
 conv => whnf
 refine And.intro (inI64 (by dsimp only; decide) (by dsimp only; decide)) ?_
 conv => whnf
 refine And.intro ⟨by dsimp only; decide, show ((1 : Nat) : Int) < (f.gs.length : Int) by omega⟩ ?_
 conv => whnf
 refine DrawC.mkR 13 [(.inl 2, 11)] [(2, 3)] rfl (by kernel_rfl) ?_
 refine And.intro (And.intro (by kernel_rfl) (by kernel_rfl)) ?_
 conv => whnf
 refine PCallQ.nl _ (cs) rfl ?_
 conv => whnf
 refine And.intro trivial ⟨[(0, 0), (1, 1), (2, 2), (3, 3), (4, 4), (5, 5)], rfl, AVle.refl _, MOle.refl _, MOle.refl _, arr_set f.gs (show 1 < f.gs.length by omega) p.1 rfl (fun j hj => ?_) _ _, MOle.refl _, MOle.refl _, MOle.refl _, trivial⟩
 show (bif j.beq 1 then _ else _) = _
 rw [beq_f hj]
 rfl
theorem do60_fn {f : Fl} {M Q : Nat} (F : FlI f M Q) (hM : M ≤ 1000) (hQ : Q ≤ 100000) {a : Act} (A : ActI a) (hk : a.k = 6) (hw : a.who = 4) : FnM Tryz.prog 34 6 [.bptr 0 0, a.av] f.objs (.int .i64 (doF f a).2) (doF f a).1.objs 7 := by
 have hl := F.lens
 have es : doF f a = ({ f with rs := f.rs.set 0 (askR (ix f.rs 0) a.tier a.f a.t).1 }, (askR (ix f.rs 0) a.tier a.f a.t).2) := by
  unfold doF
  rw [if_neg (by omega), if_neg (by omega), if_neg (by omega), if_neg (by omega), if_neg (by omega)]
  rw [hw]
  rfl
 rw [es]
 clear es
 have cs := askR_fn (ix f.rs 0) a.tier a.f a.t
 generalize askR (ix f.rs 0) a.tier a.f a.t = p at *
 obtain ⟨kk, ww, n, t1, t2, t3, b⟩ := a
 have hw : ww = 4 := hw
 have hk : kk = 6 := hk
 subst hk hw
 clear A
 refine FnM.introC Tryz.call34 Tryz.func34 rfl rfl ?_
 conv => whnf
 refine DrawC.mq 9 rfl (by kernel_rfl) ?_
 conv => whnf
 refine And.intro (inI64 (by dsimp only; decide) (by dsimp only; decide)) ?_
 conv => whnf
 refine And.intro ⟨by dsimp only; decide, show ((0 : Nat) : Int) < (f.rs.length : Int) by omega⟩ ?_
 conv => whnf
 refine DrawC.mkR 17 [(.inl 3, 15)] [(3, 3)] rfl (by kernel_rfl) ?_
 refine And.intro (And.intro (by kernel_rfl) (by kernel_rfl)) ?_
 conv => whnf
 refine PCallQ.nl _ (cs) rfl ?_
 conv => whnf
 refine And.intro trivial ⟨[(0, 0), (1, 1), (2, 2), (3, 3), (4, 4), (5, 5)], rfl, AVle.refl _, MOle.refl _, MOle.refl _, MOle.refl _, arr_set f.rs (show 0 < f.rs.length by omega) p.1 rfl (fun j hj => ?_) _ _, MOle.refl _, MOle.refl _, trivial⟩
 show (bif j.beq 0 then _ else _) = _
 rw [beq_f hj]
 rfl
theorem do61_fn {f : Fl} {M Q : Nat} (F : FlI f M Q) (hM : M ≤ 1000) (hQ : Q ≤ 100000) {a : Act} (A : ActI a) (hk : a.k = 6) (hw : a.who = 5) : FnM Tryz.prog 34 6 [.bptr 0 0, a.av] f.objs (.int .i64 (doF f a).2) (doF f a).1.objs 7 := by
 have hl := F.lens
 have es : doF f a = ({ f with rs := f.rs.set 1 (askR (ix f.rs 1) a.tier a.f a.t).1 }, (askR (ix f.rs 1) a.tier a.f a.t).2) := by
  unfold doF
  rw [if_neg (by omega), if_neg (by omega), if_neg (by omega), if_neg (by omega), if_neg (by omega)]
  rw [hw]
  rfl
 rw [es]
 clear es
 have cs := askR_fn (ix f.rs 1) a.tier a.f a.t
 generalize askR (ix f.rs 1) a.tier a.f a.t = p at *
 obtain ⟨kk, ww, n, t1, t2, t3, b⟩ := a
 have hw : ww = 5 := hw
 have hk : kk = 6 := hk
 subst hk hw
 clear A
 refine FnM.introC Tryz.call34 Tryz.func34 rfl rfl ?_
 conv => whnf
 refine DrawC.mq 9 rfl (by kernel_rfl) ?_
 conv => whnf
 refine And.intro (inI64 (by dsimp only; decide) (by dsimp only; decide)) ?_
 conv => whnf
 refine And.intro ⟨by dsimp only; decide, show ((1 : Nat) : Int) < (f.rs.length : Int) by omega⟩ ?_
 conv => whnf
 refine DrawC.mkR 17 [(.inl 3, 15)] [(3, 3)] rfl (by kernel_rfl) ?_
 refine And.intro (And.intro (by kernel_rfl) (by kernel_rfl)) ?_
 conv => whnf
 refine PCallQ.nl _ (cs) rfl ?_
 conv => whnf
 refine And.intro trivial ⟨[(0, 0), (1, 1), (2, 2), (3, 3), (4, 4), (5, 5)], rfl, AVle.refl _, MOle.refl _, MOle.refl _, MOle.refl _, arr_set f.rs (show 1 < f.rs.length by omega) p.1 rfl (fun j hj => ?_) _ _, MOle.refl _, MOle.refl _, trivial⟩
 show (bif j.beq 1 then _ else _) = _
 rw [beq_f hj]
 rfl
theorem do_fn {f : Fl} {M Q : Nat} (F : FlI f M Q) (hM : M ≤ 1000) (hQ : Q ≤ 100000) {a : Act} (A : ActI a) : ∃ x y, NN x y ∧ FnM Tryz.prog 34 6 [.bptr 0 0, a.av] f.objs (.int .i64 (doF f a).2) ((doF f a).1.objN x y) 7 := by
 have hk := A.k
 have h0 : NN 4 5 := .inl ⟨rfl, rfl⟩
 have h6 : a.k = 1 ∨ a.k = 2 ∨ a.k = 3 ∨ a.k = 4 ∨ a.k = 5 ∨ a.k = 6 := by omega
 rcases h6 with h | h | h | h | h | h
 · exact do1_fn F hM hQ A h
 · exact ⟨4, 5, h0, do2_fn F hM hQ A h⟩
 · exact ⟨4, 5, h0, do3_fn F hM hQ A h⟩
 · exact ⟨4, 5, h0, do4_fn F hM hQ A h⟩
 · rcases (A.b h).1 with e | e
   · exact ⟨4, 5, h0, do50_fn F hM hQ A h e⟩
   · exact ⟨4, 5, h0, do51_fn F hM hQ A h e⟩
 · rcases (A.q h).1 with e | e
   · exact ⟨4, 5, h0, do60_fn F hM hQ A h e⟩
   · exact ⟨4, 5, h0, do61_fn F hM hQ A h e⟩
theorem NewStoreI_fn : VFn Tryz.prog 44 [] stoN0.av := by
 refine VFn.introC Tryz.call44 Tryz.func44 rfl rfl ?_
 conv => whnf
 refine And.intro trivial (AVle.agg (AVsle.cons (AVle.nilsl _ _ rfl) (AVsle.cons (AVle.refl _) AVsle.nil)))
theorem CloneAn_own (L : List An) (hL : L.length ≤ 1000000) : FnM Tryz.prog 93 0 [ans L] [] (.osl 0) [(0, .arr 101 10 L.length fun i => (ix L i).row)] 1 := by
 refine FnM.introN Tryz.call93 Tryz.func93 rfl rfl ?_
 conv => whnf
 refine OpC.isnil rfl rfl rfl rfl rfl (fun h0 => ?_) ?_
 · conv => whnf
   exact ⟨_, .inr ⟨2, 101, 10, fun i => (ix L i).row, rfl, rfl⟩, And.intro trivial ⟨[(0, 0)], rfl, AVle.refl _, ⟨MOle.arr h0.symm fun i hi => rfl, trivial⟩⟩⟩
 · conv => whnf
   refine And.intro ⟨show (0 + L.length) * 80 ≤ 140737488355328 by omega, fun i hi => rfl⟩ ?_
   conv => whnf
   exact ⟨_, .inl rfl, And.intro trivial ⟨[(1, 0)], rfl, AVle.refl _, ⟨MOle.arr (Nat.zero_add _) fun i hi => appRows_ge (Nat.zero_le _), trivial⟩⟩⟩
theorem copiedW_fn (w : Wk) (hL : w.ins.length ≤ 1000000) : VFn Tryz.prog 94 [w.av] w.av := by
 have c : VFn Tryz.prog 159 [ents w.ins] (ents w.ins) := (CloneEn_own w.ins hL).vfn
 refine VFn.introC Tryz.call94 Tryz.func94 rfl rfl ?_
 conv => whnf
 refine CallC.nl _ (c) ?_ ?_
 · exact rfl
 exact And.intro trivial (AVle.refl _)
theorem copiedIg_fn (g : Ig) (hL : g.b.length ≤ 1000000) : VFn Tryz.prog 95 [g.av] g.av := (copiedI_own g hL).vfn
def WN (id : Int) : List AV := [.int .i64 id, .int .i64 0, .int .i64 0, .int .i64 0, .int .i64 0, .int .i64 0, .int .i64 0, .int .i64 0, .str (B []), .nilsl, .int .i64 0, .int .i64 0, .int .i64 0, .int .i64 0, .int .i64 0, .int .i64 0]
def GN (id : Int) : List AV := [.int .i64 id, .int .i64 0, .int .i64 0, .int .i64 0, .nilsl, .bool false]
def RN (id : Int) : List AV := [.int .i64 id, .int .i64 0, .int .i64 0, .int .i64 0, .int .i64 0, .int .i64 0, .int .i64 0, .nilsl, .int .i64 0, .int .i64 0, .int .i64 0, .int .i64 0, .int .i64 0, .int .i64 0]
theorem two {P : Nat → Prop} (h0 : P 0) (h1 : P 1) (i : Nat) (h : i < 2) : P i := by
 have : i = 0 ∨ i = 1 := by omega
 rcases this with rfl | rfl
 · exact h0
 · exact h1
theorem NewFleet_own : FnM Tryz.prog 13 0 [] [] (.agg [obs [], .int .i64 1, .int .i64 10, .int .i64 0, .int .i64 0, .int .i64 0, .int .i64 0, .int .i64 0, .int .i64 0, .int .i64 0, .osl 0, .osl 1, .osl 2, .nilsl, .nilsl])
 [(0, .arr 56 16 2 fun i => (ix newF.ws i).row), (1, .arr 59 6 2 fun i => (ix newF.gs i).row), (2, .arr 62 14 2 fun i => (ix newF.rs i).row)] 3 := by
 refine FnM.introC Tryz.call13 Tryz.func13 rfl rfl ?_
 conv => whnf
 conv => whnf
 refine CallC.nl _ (NewStoreI_fn) ?_ ?_
 · exact rfl
 conv => whnf
 exact And.intro trivial ⟨[(1, 0), (2, 1), (3, 2)], rfl, AVle.refl _,
  MOle.arrLe rfl (fun i hi => two (P := fun i => AVsle (List.take 16 (List.drop (i * 16) (WN 0 ++ WN 1))) (ix newF.ws i).row) (rowW0 0) (rowW0 1) i hi),
  MOle.arrLe rfl (fun i hi => two (P := fun i => AVsle (List.take 6 (List.drop (i * 6) (GN 2 ++ GN 3))) (ix newF.gs i).row) (rowG0 2) (rowG0 3) i hi),
  MOle.arrLe rfl (fun i hi => two (P := fun i => AVsle (List.take 14 (List.drop (i * 14) (RN 4 ++ RN 5))) (ix newF.rs i).row) (rowR0 4) (rowR0 5) i hi), trivial⟩
def Fl.ownA (f : Fl) : AV := .agg [obs f.st.os, .int .i64 f.st.next, .int .i64 f.clk, .int .i64 f.k0, .int .i64 f.k1, .int .i64 f.k2, .int .i64 f.k3, .int .i64 f.k4, .int .i64 f.k5, .int .i64 f.k6, .osl 0, .osl 1, .osl 2, .osl 3, .osl 4]
theorem app_ix {i : Nat} {r1 r2 : Nat → List AV} (h : r2 0 = r1 i) {k : Nat} (hk : k < i + 1) : appRows i r1 r2 k = r1 k := by
 unfold appRows
 rcases Nat.lt_or_ge k i with h' | h'
 · rw [blt_t h', cond_true]
 · rw [blt_f h', cond_false]
   obtain rfl : k = i := by omega
   rw [show k - k = 0 by omega]; exact h
structure FlSz (f : Fl) : Prop where
 st : f.st.os.length ≤ 1000000
 ws : f.ws.length ≤ 1000
 gs : f.gs.length ≤ 1000
 rs : f.rs.length ≤ 1000
 wi : ∀ w ∈ f.ws, w.ins.length ≤ 1000000
 gi : ∀ g ∈ f.gs, g.b.length ≤ 1000000
 ri : ∀ r ∈ f.rs, r.left.length ≤ 1000000
 ac : f.ac.length ≤ 1000000
 an : f.an.length ≤ 1000000
theorem copiedF_own (f : Fl) (S : FlSz f) : FnM Tryz.prog 35 0 [f.av] [] f.ownA
 [(0, .arr 56 16 f.ws.length fun i => (ix f.ws i).row), (1, .arr 59 6 f.gs.length fun i => (ix f.gs i).row), (2, .arr 62 14 f.rs.length fun i => (ix f.rs i).row), (3, .arr 98 2 f.ac.length fun i => (ix f.ac i).row), (4, .arr 101 10 f.an.length fun i => (ix f.an i).row)] 5 := by
 have cst : VFn Tryz.prog 78 [f.st.av] f.st.av := (copied_own f.st S.st).vfn
 refine FnM.introC Tryz.call35 Tryz.func35 rfl rfl ?_
 conv => whnf
 refine DrawC.mkQ 16 [(.inr 14, 15)] rfl (by kernel_rfl) ?_
 refine And.intro rfl ?_
 refine PCallQ.nl _ (cst) rfl ?_
 conv => whnf
 refine PCallQ.own (CloneSm_own f.ac S.ac) rfl (fun i hi => rfl) ?_
 conv => whnf
 refine PCallQ.own (CloneAn_own f.an S.an) rfl (fun i hi => rfl) ?_
 conv => whnf
 refine LoopC.nilb 16 10 56 16 (fun k => (ix f.ws k).row) rfl rfl ?_
 conv => whnf
 refine LoopC.mk (fun i : Nat => i ≤ f.ws.length) (fun i => [(1, .bptr 0 0), (2, .bptr 1 0), (3, .bptr 2 0), (25, wks f.ws), (26, .int .i64 f.ws.length), (27, .int .i64 i)]) (fun i => [(0, .box f.row), (1, .box [.nilsl, .int .i64 0, .int .i64 0, .int .i64 0, .int .i64 0, .int .i64 0, .int .i64 0, .int .i64 0, .int .i64 0, .int .i64 0, .nilsl, .nilsl, .nilsl, .nilsl, .nilsl]), (2, .box [obs f.st.os, .int .i64 f.st.next, .int .i64 f.clk, .int .i64 f.k0, .int .i64 f.k1, .int .i64 f.k2, .int .i64 f.k3, .int .i64 f.k4, .int .i64 f.k5, .int .i64 f.k6, .osl 5, .nilsl, .nilsl, .osl 3, .osl 4]), (3, .arr 98 2 f.ac.length fun k => (ix f.ac k).row), (4, .arr 101 10 f.an.length fun k => (ix f.an k).row), (5, .arr 56 16 i fun k => (ix f.ws k).row)]) 6 (fun i => f.ws.length - i) 0
  ⟨Nat.zero_le _, [(0, 0), (1, 1), (16, 2), (11, 3), (14, 4), (18, 5)], rfl, rfl, ⟨AVle.refl _, AVle.refl _, AVle.refl _, AVle.refl _, AVle.refl _, AVle.refl _, trivial⟩, ⟨MOle.refl _, MOle.refl _, MOle.refl _, MOle.refl _, MOle.refl _, MOle.refl _, trivial⟩⟩ ?_
 intro i hi
 conv => whnf
 refine Grd.intro (fun h => ?_) (fun h => ?_)
 · have hlt : i < f.ws.length := by have := of_decide_eq_true h; omega
   have cw := copiedW_fn (ix f.ws i) (S.wi _ (getD_mem hlt))
   have hsz := S.ws
   conv => whnf
   refine And.intro ⟨by omega, by omega⟩ ?_
   conv => whnf
   refine DrawC.mkR 8 [(.inl 5, 5), (.inl 2, 7)] [(2, 1)] rfl (by kernel_rfl) ?_
   refine And.intro (And.intro (by kernel_rfl) (by kernel_rfl)) ?_
   conv => whnf
   refine PCallQ.nl _ (cw) rfl ?_
   conv => whnf
   refine And.intro ⟨Nat.le_trans (Nat.mul_le_mul_right _ (show i + 1 ≤ 1000 by omega)) (by decide), fun k hk => by (obtain rfl : k = 0 := by omega); rfl⟩ ?_
   conv => whnf
   refine And.intro (inI64 (by omega) (by omega)) ?_
   conv => whnf
   exact ⟨i + 1, hlt, by omega, [(0, 0), (1, 1), (2, 2), (3, 3), (4, 4), (12, 5)], rfl, rfl, ⟨AVle.refl _, AVle.refl _, AVle.refl _, AVle.refl _, AVle.refl _, AVle.refl _, trivial⟩, ⟨MOle.refl _, MOle.refl _, MOle.refl _, MOle.refl _, MOle.refl _, MOle.arr rfl (fun k hk => app_ix (i := i) (r1 := fun k => (ix f.ws k).row) rfl hk), trivial⟩⟩
 have he : i = f.ws.length := by have := of_decide_eq_false h; omega
 subst he
 clear hi h
 conv => whnf
 refine LoopC.nilb 2 11 59 6 (fun k => (ix f.gs k).row) rfl rfl ?_
 conv => whnf
 refine LoopC.mk (fun i : Nat => i ≤ f.gs.length) (fun i => [(1, .bptr 0 0), (2, .bptr 1 0), (3, .bptr 2 0), (40, igs f.gs), (41, .int .i64 f.gs.length), (42, .int .i64 i)]) (fun i => [(0, .box f.row), (1, .box [.nilsl, .int .i64 0, .int .i64 0, .int .i64 0, .int .i64 0, .int .i64 0, .int .i64 0, .int .i64 0, .int .i64 0, .int .i64 0, .nilsl, .nilsl, .nilsl, .nilsl, .nilsl]), (2, .box [obs f.st.os, .int .i64 f.st.next, .int .i64 f.clk, .int .i64 f.k0, .int .i64 f.k1, .int .i64 f.k2, .int .i64 f.k3, .int .i64 f.k4, .int .i64 f.k5, .int .i64 f.k6, .osl 5, .osl 6, .nilsl, .osl 3, .osl 4]), (3, .arr 98 2 f.ac.length fun k => (ix f.ac k).row), (4, .arr 101 10 f.an.length fun k => (ix f.an k).row), (5, .arr 56 16 f.ws.length fun k => (ix f.ws k).row), (6, .arr 59 6 i fun k => (ix f.gs k).row)]) 7 (fun i => f.gs.length - i) 0
  ⟨Nat.zero_le _, [(0, 0), (1, 1), (2, 2), (3, 3), (4, 4), (5, 5), (6, 6)], rfl, rfl, ⟨AVle.refl _, AVle.refl _, AVle.refl _, AVle.refl _, AVle.refl _, AVle.refl _, trivial⟩, ⟨MOle.refl _, MOle.refl _, MOle.refl _, MOle.refl _, MOle.refl _, MOle.refl _, MOle.refl _, trivial⟩⟩ ?_
 intro i hi
 conv => whnf
 refine Grd.intro (fun h => ?_) (fun h => ?_)
 · have hlt : i < f.gs.length := by have := of_decide_eq_true h; omega
   have cw := copiedIg_fn (ix f.gs i) (S.gi _ (getD_mem hlt))
   have hsz := S.gs
   conv => whnf
   refine And.intro ⟨by omega, by omega⟩ ?_
   conv => whnf
   refine DrawC.mkR 8 [(.inl 6, 5), (.inl 2, 7)] [(2, 1)] rfl (by kernel_rfl) ?_
   refine And.intro (And.intro (by kernel_rfl) (by kernel_rfl)) ?_
   conv => whnf
   refine PCallQ.nl _ (cw) rfl ?_
   conv => whnf
   refine And.intro ⟨Nat.le_trans (Nat.mul_le_mul_right _ (show i + 1 ≤ 1000 by omega)) (by decide), fun k hk => by (obtain rfl : k = 0 := by omega); rfl⟩ ?_
   conv => whnf
   refine And.intro (inI64 (by omega) (by omega)) ?_
   conv => whnf
   exact ⟨i + 1, hlt, by omega, [(0, 0), (1, 1), (2, 2), (3, 3), (4, 4), (5, 5), (13, 6)], rfl, rfl, ⟨AVle.refl _, AVle.refl _, AVle.refl _, AVle.refl _, AVle.refl _, AVle.refl _, trivial⟩, ⟨MOle.refl _, MOle.refl _, MOle.refl _, MOle.refl _, MOle.refl _, MOle.refl _, MOle.arr rfl (fun k hk => app_ix (i := i) (r1 := fun k => (ix f.gs k).row) rfl hk), trivial⟩⟩
 have he : i = f.gs.length := by have := of_decide_eq_false h; omega
 subst he
 clear hi h
 conv => whnf
 refine LoopC.nilb 2 12 62 14 (fun k => (ix f.rs k).row) rfl rfl ?_
 conv => whnf
 refine LoopC.mk (fun i : Nat => i ≤ f.rs.length) (fun i => [(1, .bptr 0 0), (2, .bptr 1 0), (3, .bptr 2 0), (55, rrs f.rs), (56, .int .i64 f.rs.length), (57, .int .i64 i)]) (fun i => [(0, .box f.row), (1, .box [.nilsl, .int .i64 0, .int .i64 0, .int .i64 0, .int .i64 0, .int .i64 0, .int .i64 0, .int .i64 0, .int .i64 0, .int .i64 0, .nilsl, .nilsl, .nilsl, .nilsl, .nilsl]), (2, .box [obs f.st.os, .int .i64 f.st.next, .int .i64 f.clk, .int .i64 f.k0, .int .i64 f.k1, .int .i64 f.k2, .int .i64 f.k3, .int .i64 f.k4, .int .i64 f.k5, .int .i64 f.k6, .osl 5, .osl 6, .osl 7, .osl 3, .osl 4]), (3, .arr 98 2 f.ac.length fun k => (ix f.ac k).row), (4, .arr 101 10 f.an.length fun k => (ix f.an k).row), (5, .arr 56 16 f.ws.length fun k => (ix f.ws k).row), (6, .arr 59 6 f.gs.length fun k => (ix f.gs k).row), (7, .arr 62 14 i fun k => (ix f.rs k).row)]) 8 (fun i => f.rs.length - i) 0
  ⟨Nat.zero_le _, [(0, 0), (1, 1), (2, 2), (3, 3), (4, 4), (5, 5), (6, 6), (7, 7)], rfl, rfl, ⟨AVle.refl _, AVle.refl _, AVle.refl _, AVle.refl _, AVle.refl _, AVle.refl _, trivial⟩, ⟨MOle.refl _, MOle.refl _, MOle.refl _, MOle.refl _, MOle.refl _, MOle.refl _, MOle.refl _, MOle.refl _, trivial⟩⟩ ?_
 intro i hi
 conv => whnf
 refine Grd.intro (fun h => ?_) (fun h => ?_)
 · have hlt : i < f.rs.length := by have := of_decide_eq_true h; omega
   have cw := copiedR_fn (ix f.rs i) (S.ri _ (getD_mem hlt))
   have hsz := S.rs
   conv => whnf
   refine And.intro ⟨by omega, by omega⟩ ?_
   conv => whnf
   refine DrawC.mkR 8 [(.inl 7, 5), (.inl 2, 7)] [(2, 1)] rfl (by kernel_rfl) ?_
   refine And.intro (And.intro (by kernel_rfl) (by kernel_rfl)) ?_
   conv => whnf
   refine PCallQ.nl _ (cw) rfl ?_
   conv => whnf
   refine And.intro ⟨Nat.le_trans (Nat.mul_le_mul_right _ (show i + 1 ≤ 1000 by omega)) (by decide), fun k hk => by (obtain rfl : k = 0 := by omega); rfl⟩ ?_
   conv => whnf
   refine And.intro (inI64 (by omega) (by omega)) ?_
   conv => whnf
   exact ⟨i + 1, hlt, by omega, [(0, 0), (1, 1), (2, 2), (3, 3), (4, 4), (5, 5), (6, 6), (14, 7)], rfl, rfl, ⟨AVle.refl _, AVle.refl _, AVle.refl _, AVle.refl _, AVle.refl _, AVle.refl _, trivial⟩, ⟨MOle.refl _, MOle.refl _, MOle.refl _, MOle.refl _, MOle.refl _, MOle.refl _, MOle.refl _, MOle.arr rfl (fun k hk => app_ix (i := i) (r1 := fun k => (ix f.rs k).row) rfl hk), trivial⟩⟩
 have he : i = f.rs.length := by have := of_decide_eq_false h; omega
 subst he
 clear hi h
 conv => whnf
 exact And.intro trivial ⟨[(5, 0), (6, 1), (7, 2), (3, 3), (4, 4)], rfl, AVle.refl _, MOle.refl _, MOle.refl _, MOle.refl _, MOle.refl _, MOle.refl _, trivial⟩
end Go.Proofs.YtnplgeogieoioaaGreatDoor
