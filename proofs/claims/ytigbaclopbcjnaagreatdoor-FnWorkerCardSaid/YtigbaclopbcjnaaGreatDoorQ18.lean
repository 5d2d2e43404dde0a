/- Contracts of functions that the claim reaches, and the plain law of what they compute; each theorem bears its own conditions. -/
import Derived.Test.YtigbaclopbcjnaaGreatDoorQ17
import Derived.Test.YtigbaclopbcjnaaGreatDoorQ12
import Derived.Test.YtigbaclopbcjnaaGreatDoorV52
import Derived.Test.YtigbaclopbcjnaaGreatDoorQ2
import Derived.Test.YtigbaclopbcjnaaGreatDoorQ13
import Derived.Test.YtigbaclopbcjnaaGreatDoorQ16
import Derived.Test.YtigbaclopbcjnaaGreatDoorQ10
import Derived.Test.YtigbaclopbcjnaaGreatDoorQ14
set_option linter.unusedVariables false
set_option linter.constructorNameAsVariable false
set_option linter.unusedSimpArgs false
set_option maxRecDepth 20000
set_option maxHeartbeats 1000000
namespace Go.Proofs.YtigbaclopbcjnaaGreatDoor
open Go Go.Vw
theorem cov_eq {s : Sta} (hs : ∀ e ∈ s.es, e.ok = true) (k a b : Int) (hab : a < b) : s.es.filter (cvB k a b) = covL s k a b := by
 unfold covL ofT
 rw [List.filter_filter]
 refine List.filter_congr fun e he => ?_
 have h := (en_tier (hs e he)).2
 have h2 : e.f < e.t := h.2.1
 unfold cvB tch
 rw [Bool.eq_iff_iff]
 simp only [Bool.and_eq_true, decide_eq_true_eq]
 constructor
 · rintro ⟨h3, h4, h5⟩
   refine ⟨?_, h3⟩
   split <;> split <;> omega
 · rintro ⟨h3, h4⟩
   refine ⟨h4, ?_⟩
   split at h3 <;> split at h3 <;> omega
theorem ins9 {a b c d e f g h i x y : AV} {r : List AV} (H : AVle x y) : AVsle (a :: b :: c :: d :: e :: f :: g :: h :: i :: x :: r) (a :: b :: c :: d :: e :: f :: g :: h :: i :: y :: r) :=
 AVsle.cons (AVle.refl _) (AVsle.cons (AVle.refl _) (AVsle.cons (AVle.refl _) (AVsle.cons (AVle.refl _) (AVsle.cons (AVle.refl _) (AVsle.cons (AVle.refl _) (AVsle.cons (AVle.refl _) (AVsle.cons (AVle.refl _) (AVsle.cons (AVle.refl _) (AVsle.cons H (AVsle.refl _))))))))))
section
variable {x : Sto} {w : Wk} {now : Int}
theorem l08Plan_fn (H : WkW x w now) (h3 : w.ph = 3) : VFn Tryz.prog 52 [x.av, w.av, .int .i64 now] (.tup [(stepW x w now).2.1.av, .int .i64 (stepW x w now).2.2]) := by
 have F := (wk_iff w).1 H.hw
 have ht := F.t1 (by omega)
 have hb := F.tok
 have hh := H.hi
 have cl := l06Replay_fn x H.hs
 have lb := log_b x
 have cd := l07Due_fn (logS x) (by omega) (by omega) (by omega)
 have ce := l07Expired_fn (logS x) now (by have := H.hn; omega) (logS_ok x)
 rw [stepW_3 h3]
 by_cases hf : (logS x).fence = w.tok
 rotate_left
 · rw [if_neg hf]
   refine VFn.introC Tryz.call52 Tryz.func52 rfl rfl ?_
   conv => whnf
   refine CallC.nl _ (cl) ?_ ?_
   · exact rfl
   conv => whnf
   refine Grd.intro (fun _ => ?_) (fun h => absurd (show (!decide ((logS x).fence = w.tok)) = false from h) (by simp [hf]))
   conv => whnf
   refine CallC.nl _ (l08Rest_fn _) ?_ ?_
   · exact rfl
   exact And.intro trivial (AVle.refl _)
 rw [if_pos hf]
 by_cases hd : dueT (logS x).h0 (logS x).h1 (logS x).h2 = 0
 · rw [if_pos hd]
   rw [hd] at cd
   generalize dueF (logS x).h0 (logS x).h1 (logS x).h2 = df at *
   generalize expR (logS x) now = E at *
   cases he : E.2 with
   | true =>
     rw [if_pos rfl]
     rw [he] at ce
     refine VFn.introC Tryz.call52 Tryz.func52 rfl rfl ?_
     conv => whnf
     refine CallC.nl _ (cl) ?_ ?_
     · exact rfl
     conv => whnf
     refine Grd.intro (fun h => absurd (show (!decide ((logS x).fence = w.tok)) = true from h) (by simp [hf])) (fun _ => ?_)
     conv => whnf
     refine CallC.sca _ (cd) ?_ ?_
     · exact rfl
     conv => whnf
     refine CallC.sca _ (ce) ?_ ?_
     · exact rfl
     conv => whnf
     exact And.intro trivial (AVle.refl _)
   | false =>
     rw [if_neg (by simp)]
     rw [he] at ce
     refine VFn.introC Tryz.call52 Tryz.func52 rfl rfl ?_
     conv => whnf
     refine CallC.nl _ (cl) ?_ ?_
     · exact rfl
     conv => whnf
     refine Grd.intro (fun h => absurd (show (!decide ((logS x).fence = w.tok)) = true from h) (by simp [hf])) (fun _ => ?_)
     conv => whnf
     refine CallC.sca _ (cd) ?_ ?_
     · exact rfl
     conv => whnf
     refine CallC.sca _ (ce) ?_ ?_
     · exact rfl
     conv => whnf
     exact And.intro trivial (AVle.refl _)
 · rw [if_neg hd]
   rw [decide_eq_false hd] at cd
   have hdc : dueT (logS x).h0 (logS x).h1 (logS x).h2 = 1 ∨ dueT (logS x).h0 (logS x).h1 (logS x).h2 = 2 := by
    unfold dueT at hd ⊢
    split
    · exact .inl rfl
    · split
      · exact .inr rfl
      · rename_i a b; rw [if_neg a, if_neg b] at hd; exact absurd rfl hd
   have hfb : 0 ≤ dueF (logS x).h0 (logS x).h1 (logS x).h2 ∧ dueF (logS x).h0 (logS x).h1 (logS x).h2 ≤ 100000 := by
    unfold dueF
    split
    · omega
    · split <;> omega
   have hel : (logS x).es.length ≤ 1000000 := by omega
   unfold pubW
   simp only
   generalize dueT (logS x).h0 (logS x).h1 (logS x).h2 = t at *
   generalize dueF (logS x).h0 (logS x).h1 (logS x).h2 = df at *
   have cw := l04Width_fn t (by omega)
   have hwd : 1 ≤ wd t ∧ wd t ≤ 20 := wd_b t
   have ck : VFn Tryz.prog 66 [.int .i64 t, .int .i64 df, .int .i64 w.tok] (.str (B (keyB t.toNat df.toNat w.tok.toNat))) := l03Key_at (t := t.toNat) (n := df.toNat) (w := w.tok.toNat) (by omega) (by omega) (by omega) (by omega) (by omega) (by omega)
   have ct := l07Cover_fn (logS x) hel (t - 1) df (df + wd t)
   rw [cov_eq (logS_eok x) _ _ _ (by omega)] at ct
   refine VFn.introC Tryz.call52 Tryz.func52 rfl rfl ?_
   conv => whnf
   refine CallC.nl _ (cl) ?_ ?_
   · exact rfl
   conv => whnf
   refine Grd.intro (fun h => absurd (show (!decide ((logS x).fence = w.tok)) = true from h) (by simp [hf])) (fun _ => ?_)
   conv => whnf
   refine CallC.sca _ (cd) ?_ ?_
   · exact rfl
   conv => whnf
   refine CallC.sca _ (cw) ?_ ?_
   · exact rfl
   refine And.intro (show inI .i64 (df + wd t) from inI64 (by omega) (by omega)) ?_
   conv => whnf
   refine DrawC.mkR 13 [(.inl 1, 12)] [(1, 1), (1, 8)] rfl (by kernel_rfl) ?_
   refine And.intro (And.intro (by kernel_rfl) (by kernel_rfl)) ?_
   conv => whnf
   refine PCallQ.sca _ (ck) rfl ?_
   refine And.intro (show inI .i64 (t - 1) from inI64 (by omega) (by omega)) ?_
   conv => whnf
   refine CallC.nl _ (ct) ?_ ?_
   · exact rfl
   conv => whnf
   exact And.intro trivial (AVle.refl _)
theorem l08Fetch_fn (H : WkW x w now) (h4 : w.ph = 4) : VFn Tryz.prog 53 [x.av, w.av] (.tup [(stepW x w now).2.1.av, .int .i64 (stepW x w now).2.2]) := by
 have F := (wk_iff w).1 H.hw
 rw [stepW_4 h4]
 obtain ⟨j1, j2, j3⟩ := F.job (.inl h4)
 have jk : w.job.k = 3 := by rcases j3 with h | h; · exact h
                             · omega
 have ek := (rc_tier j1).2.1 jk
 have ee := (en_tier ek.2).2
 have ee3 : w.job.t ≤ 100000 := ee.2.2.1
 have ee1 : 0 ≤ w.job.f := ee.1
 have ee2 : w.job.f < w.job.t := ee.2.1
 have c1 : ∀ (a : AV) {l m : List AV}, AVsle l m → AVsle (a :: l) (a :: m) := fun a _ _ h => AVsle.cons (AVle.refl a) h
 cases hi : w.ins with
 | nil =>
   simp only
   refine VFn.introC Tryz.call53 Tryz.func53 rfl rfl ?_
   refine Grd.intro (fun _ => ?_) (fun h => absurd (show ¬ (w.ins.length : Int) = 0 from of_decide_eq_false h) (by rw [hi]; simp))
   conv => whnf
   have h0 : AVle (ents w.ins) (ents []) := AVle.sl (by rw [hi]) (fun i h => absurd h (by rw [hi]; simp))
   exact And.intro trivial (AVle.tup (AVsle.cons (AVle.agg (ins9 h0)) (AVsle.refl _)))
 | cons e l =>
   simp only
   have hll : w.ins.length = l.length + 1 := by rw [hi]; rfl
   have cg := l01Get_fn x H.hs e.key
   have he : ix w.ins 0 = e := by rw [hi]; rfl
   unfold winR
   cases hh : x.has e.key with
   | false =>
     rw [hh, if_neg (by simp)] at cg
     rw [if_neg (by simp), if_neg (by simp)]
     rw [← he] at cg
     refine VFn.introC Tryz.call53 Tryz.func53 rfl rfl ?_
     refine Grd.intro (fun h => absurd (show (w.ins.length : Int) = 0 from of_decide_eq_true h) (by rw [hll]; omega)) (fun _ => ?_)
     refine And.intro (show (0 : Int) ≤ 0 ∧ (0 : Int) < (w.ins.length : Int) by omega) ?_
     conv => whnf
     refine CallC.sca _ (cg) ?_ ?_
     · exact rfl
     conv => whnf
     refine CallC.nl _ (l08Rest_fn _) ?_ ?_
     · exact rfl
     exact And.intro trivial (AVle.refl _)
   | true =>
     rw [hh, if_pos rfl] at cg
     rw [if_pos rfl, if_pos rfl]
     obtain ⟨q1, q2, q3, q4⟩ := H.win h4 e l hi hh
     have hel := ((stoOK_iff x).1 H.hs).el _ (has_get hh).1
     have hdl : (x.get e.key).data.length ≤ 600 := hel.2.2
     have hv : 1 ≤ (x.get e.key).ver := by have := hel.2.1; omega
     have cw := l08Window_fn e (x.get e.key).data (by omega) w.job.f w.job.t (inI64 (by omega) (by omega)) q1
     obtain ⟨g1, g2, _⟩ := Ag.bounds q2
     obtain ⟨g3, g4, _⟩ := Ag.bounds q3
     have cm := l02Merge_fn w.got (winV e (x.get e.key).data w.job.f w.job.t) (inI64 (by omega) (by omega)) (inI64 (by omega) (by omega))
     generalize winV e (x.get e.key).data w.job.f w.job.t = W at *
     generalize (x.get e.key).data = D at *
     generalize (x.get e.key).ver = V at *
     rw [← he] at cg cw
     refine VFn.introC Tryz.call53 Tryz.func53 rfl rfl ?_
     refine Grd.intro (fun h => absurd (show (w.ins.length : Int) = 0 from of_decide_eq_true h) (by rw [hll]; omega)) (fun _ => ?_)
     refine And.intro (show (0 : Int) ≤ 0 ∧ (0 : Int) < (w.ins.length : Int) by omega) ?_
     conv => whnf
     refine CallC.sca _ (cg) ?_ ?_
     · exact rfl
     refine Grd.intro (fun h => absurd (show V = 0 from of_decide_eq_true h) (by omega)) (fun _ => ?_)
     conv => whnf
     refine CallC.sca _ (cw) ?_ ?_
     · exact rfl
     conv => whnf
     refine And.intro ⟨by omega, by omega⟩ ?_
     conv => whnf
     refine And.intro ⟨show (0 + (w.ins.length - Int.toNat 1)) * 40 ≤ 140737488355328 by have := F.len; omega, fun i hi => rfl⟩ ?_
     conv => whnf
     refine CallC.sca _ (cm) ?_ ?_
     · exact rfl
     conv => whnf
     have hs2 : ∀ {r : Nat → List AV}, (∀ i, i < w.ins.length - Int.toNat 1 → r i = (ix w.ins (Int.toNat 1 + i)).row) → AVle (.sl 4 (0 + (w.ins.length - Int.toNat 1)) r) (ents l) := fun {r} hr => AVle.sl (show 0 + (w.ins.length - Int.toNat 1) = l.length by rw [hll, show Int.toNat 1 = 1 from rfl]; omega) (fun i hi' => by
      rw [hr i (by omega), hi, show Int.toNat 1 + i = i + 1 by rw [show Int.toNat 1 = 1 from rfl]; omega]
      rfl)
     by_cases hn : l = []
     · rw [if_pos hn]
       refine Grd.intro (fun _ => ?_) (fun h => absurd (show ¬ ((0 + (w.ins.length - Int.toNat 1) : Nat) : Int) = 0 from of_decide_eq_false h) (fun q => q (by rw [hll, hn]; rfl)))
       conv => whnf
       exact And.intro trivial (AVle.tup (AVsle.cons (AVle.agg (ins9 (hs2 fun i hi => rfl))) (AVsle.refl _)))
     · rw [if_neg hn]
       have hl0 : l.length ≠ 0 := fun q => hn (List.length_eq_zero_iff.1 q)
       refine Grd.intro (fun h => absurd (show ((0 + (w.ins.length - Int.toNat 1) : Nat) : Int) = 0 from of_decide_eq_true h) (fun q => hl0 (by rw [hll, show Int.toNat 1 = 1 from rfl] at q; omega))) (fun _ => ?_)
       conv => whnf
       rw [← h4]
       exact And.intro trivial (AVle.tup (AVsle.cons (AVle.agg (ins9 (hs2 fun i hi => rfl))) (AVsle.refl _)))
theorem l08Put_fn (H : WkW x w now) (h5 : w.ph = 5) : VFn Tryz.prog 54 [x.av, w.av] (resV (stepW x w now)) := by
 have F := (wk_iff w).1 H.hw
 rw [stepW_5 h5]
 obtain ⟨j1, j2, j3⟩ := F.job (.inr (.inl h5))
 have jk : w.job.k = 3 := by rcases j3 with h | h; · exact h
                             · omega
 have ek := (rc_tier j1).2.1 jk
 have ee := (en_tier ek.2).2
 have ee3 : w.job.t ≤ 100000 := ee.2.2.1
 have ee1 : 0 ≤ w.job.f := ee.1
 have ee2 : w.job.f < w.job.t := ee.2.1
 have hbk := bkt_ok (f := w.job.f) (A := w.got) (by omega) F.got.1
 have ct := l03Buckets_fn (bkt w.job.f w.got) (bks_8 hbk) (bksOK_ok hbk)
 have ca := l01Absent_fn x H.hs w.job.key (bksText (bkt w.job.f w.got))
 generalize bksText (bkt w.job.f w.got) = T at *
 generalize x.putA w.job.key T = p at *
 by_cases hz : w.got.c = 0
 · have e : bkt w.job.f w.got = [] := by unfold bkt; rw [if_pos hz]
   rw [e] at ct
   refine VFn.introC Tryz.call54 Tryz.func54 rfl rfl ?_
   conv => whnf
   refine Grd.intro (fun h => absurd (show 0 < w.got.c from of_decide_eq_true h) (by omega)) (fun _ => ?_)
   conv => whnf
   refine DrawC.mkQ 13 [(.inr 10, 11)] rfl (by kernel_rfl) ?_
   refine And.intro rfl ?_
   conv => whnf
   refine PCallQ.sca _ (ct.weak (AVsle.cons (AVle.sl rfl fun i hi => absurd hi (Nat.not_lt_zero i)) AVsle.nil) (AVle.refl _)) rfl ?_
   conv => whnf
   refine PCallQ.nl _ (ca) rfl ?_
   conv => whnf
   by_cases h9 : p.2 = 9
   · rw [if_pos (.inr h9)]
     refine Grd.intro (fun _ => ?_) (fun h => absurd (show (!decide (p.2 = 0)) = false from h) (by rw [h9]; decide))
     conv => whnf
     refine Grd.intro (fun h => absurd (show (!decide (p.2 = 9)) = true from h) (by rw [h9]; decide)) (fun _ => ?_)
     conv => whnf
     refine DrawC.mkQ 5 [(.inl 2, 2), (.inl 3, 3)] rfl (by kernel_rfl) ?_
     refine And.intro rfl ?_
     exact And.intro trivial (AVle.refl _)
   by_cases h0 : p.2 = 0
   · rw [if_pos (.inl h0)]
     refine Grd.intro (fun h => absurd (show (!decide (p.2 = 0)) = true from h) (by rw [h0]; decide)) (fun _ => ?_)
     conv => whnf
     refine DrawC.mkQ 5 [(.inl 2, 2), (.inl 3, 3)] rfl (by kernel_rfl) ?_
     refine And.intro rfl ?_
     exact And.intro trivial (AVle.refl _)
   · rw [if_neg (by rintro (g | g); exact h0 g; exact h9 g)]
     refine Grd.intro (fun _ => ?_) (fun h => absurd (show (!decide (p.2 = 0)) = false from h) (by simp [h0]))
     conv => whnf
     refine Grd.intro (fun _ => ?_) (fun h => absurd (show (!decide (p.2 = 9)) = false from h) (by simp [h9]))
     conv => whnf
     refine DrawC.mkQ 7 [(.inl 2, 4), (.inl 3, 5)] rfl (by kernel_rfl) ?_
     refine And.intro rfl ?_
     conv => whnf
     refine PCallQ.nl _ (l08Rest_fn _) rfl ?_
     exact And.intro trivial (AVle.refl _)
 · have hc : 0 < w.got.c := by have := (ag_c F.got.1).1; omega
   have e : bkt w.job.f w.got = [⟨w.job.f, w.got⟩] := by unfold bkt; rw [if_neg hz]
   rw [e] at ct
   refine VFn.introC Tryz.call54 Tryz.func54 rfl rfl ?_
   conv => whnf
   refine Grd.intro (fun _ => ?_) (fun h => absurd (show ¬ 0 < w.got.c from of_decide_eq_false h) (by omega))
   conv => whnf
   refine And.intro ⟨by decide, all1 rfl⟩ ?_
   conv => whnf
   refine DrawC.mkQ 13 [(.inr 10, 11)] rfl (by kernel_rfl) ?_
   refine And.intro rfl ?_
   conv => whnf
   refine PCallQ.sca _ (ct.weak (AVsle.cons (AVle.sl rfl fun i hi => by have h0 : i = 0 := (by have hi : i < 1 := hi; omega); subst h0; rfl) AVsle.nil) (AVle.refl _)) rfl ?_
   conv => whnf
   refine PCallQ.nl _ (ca) rfl ?_
   conv => whnf
   by_cases h9 : p.2 = 9
   · rw [if_pos (.inr h9)]
     refine Grd.intro (fun _ => ?_) (fun h => absurd (show (!decide (p.2 = 0)) = false from h) (by rw [h9]; decide))
     conv => whnf
     refine Grd.intro (fun h => absurd (show (!decide (p.2 = 9)) = true from h) (by rw [h9]; decide)) (fun _ => ?_)
     conv => whnf
     refine DrawC.mkQ 5 [(.inl 2, 2), (.inl 3, 3)] rfl (by kernel_rfl) ?_
     refine And.intro rfl ?_
     exact And.intro trivial (AVle.refl _)
   by_cases h0 : p.2 = 0
   · rw [if_pos (.inl h0)]
     refine Grd.intro (fun h => absurd (show (!decide (p.2 = 0)) = true from h) (by rw [h0]; decide)) (fun _ => ?_)
     conv => whnf
     refine DrawC.mkQ 5 [(.inl 2, 2), (.inl 3, 3)] rfl (by kernel_rfl) ?_
     refine And.intro rfl ?_
     exact And.intro trivial (AVle.refl _)
   · rw [if_neg (by rintro (g | g); exact h0 g; exact h9 g)]
     refine Grd.intro (fun _ => ?_) (fun h => absurd (show (!decide (p.2 = 0)) = false from h) (by simp [h0]))
     conv => whnf
     refine Grd.intro (fun _ => ?_) (fun h => absurd (show (!decide (p.2 = 9)) = false from h) (by simp [h9]))
     conv => whnf
     refine DrawC.mkQ 7 [(.inl 2, 4), (.inl 3, 5)] rfl (by kernel_rfl) ?_
     refine And.intro rfl ?_
     conv => whnf
     refine PCallQ.nl _ (l08Rest_fn _) rfl ?_
     exact And.intro trivial (AVle.refl _)
theorem l08Append_fn (H : WkW x w now) (h6 : w.ph = 6) : VFn Tryz.prog 55 [x.av, w.av] (resV (stepW x w now)) := by
 have F := (wk_iff w).1 H.hw
 obtain ⟨j1, j2, j3⟩ := F.job (.inr (.inr h6))
 have cl := l06Replay_fn x H.hs
 have lb := log_b x
 have cy := l06Append_fn x H.hs ((logS x).seq + 1) (by simp [within]; omega) w.job j1
 rw [stepW_6 h6]
 generalize appS x ((logS x).seq + 1) w.job = p at *
 by_cases hf : (logS x).fence = w.tok
 rotate_left
 · rw [if_neg hf]
   refine VFn.introC Tryz.call55 Tryz.func55 rfl rfl ?_
   conv => whnf
   refine CallC.nl _ (cl) ?_ ?_
   · exact rfl
   conv => whnf
   refine Grd.intro (fun _ => ?_) (fun h => absurd (show (!decide ((logS x).fence = w.tok)) = false from h) (by simp [hf]))
   conv => whnf
   refine DrawC.mkQ 6 [(.inl 2, 3), (.inl 3, 4)] rfl (by kernel_rfl) ?_
   refine And.intro rfl ?_
   conv => whnf
   refine PCallQ.nl _ (l08Rest_fn _) rfl ?_
   exact And.intro trivial (AVle.refl _)
 rw [if_pos hf]
 by_cases hc : p.2 = 0
 · rw [if_pos hc]
   rw [hc] at cy
   refine VFn.introC Tryz.call55 Tryz.func55 rfl rfl ?_
   conv => whnf
   refine CallC.nl _ (cl) ?_ ?_
   · exact rfl
   conv => whnf
   refine Grd.intro (fun h => absurd (show (!decide ((logS x).fence = w.tok)) = true from h) (by simp [hf])) (fun _ => ?_)
   refine And.intro (show inI .i64 ((logS x).seq + 1) from inI64 (by omega) (by omega)) ?_
   conv => whnf
   refine CallC.nl _ (cy) ?_ ?_
   · exact rfl
   conv => whnf
   refine DrawC.mkQ 5 [(.inl 2, 2), (.inl 3, 3)] rfl (by kernel_rfl) ?_
   refine And.intro rfl ?_
   exact And.intro trivial (AVle.refl _)
 · rw [if_neg hc]
   refine VFn.introC Tryz.call55 Tryz.func55 rfl rfl ?_
   conv => whnf
   refine CallC.nl _ (cl) ?_ ?_
   · exact rfl
   conv => whnf
   refine Grd.intro (fun h => absurd (show (!decide ((logS x).fence = w.tok)) = true from h) (by simp [hf])) (fun _ => ?_)
   refine And.intro (show inI .i64 ((logS x).seq + 1) from inI64 (by omega) (by omega)) ?_
   conv => whnf
   refine CallC.nl _ (cy) ?_ ?_
   · exact rfl
   conv => whnf
   refine Grd.intro (fun _ => ?_) (fun h => absurd (show (!decide (p.2 = 0)) = false from h) (by simp [hc]))
   conv => whnf
   refine DrawC.mkQ 7 [(.inl 2, 4), (.inl 3, 5)] rfl (by kernel_rfl) ?_
   refine And.intro rfl ?_
   conv => whnf
   refine PCallQ.nl _ (l08Rest_fn _) rfl ?_
   exact And.intro trivial (AVle.refl _)
end
section
variable {x : Sto} {w : Wk} {now : Int}
theorem stepW_x3 (h3 : w.ph = 3 ∨ w.ph = 4) : (stepW x w now).1 = x := by
 rcases h3 with h | h
 · rw [stepW_3 h]
   split
   · split
     · split <;> rfl
     · rfl
   · rfl
 · rw [stepW_4 h]
   split
   · rfl
   · split <;> rfl
theorem sstep3_fn (H : WkW x w now) (h3 : w.ph = 3) : VFn Tryz.prog 23 [x.av, w.av, .int .i64 now] (resV (stepW x w now)) := by
 have c := l08Plan_fn H h3
 have hx := stepW_x3 (x := x) (now := now) (.inl h3)
 unfold resV
 generalize stepW x w now = p at *
 rw [hx]
 refine VFn.introC Tryz.call23 Tryz.func23 rfl rfl ?_
 refine Grd.intro (fun h => absurd (of_decide_eq_true h) (by omega)) (fun _ => ?_)
 refine Grd.intro (fun h => absurd (of_decide_eq_true h) (by omega)) (fun _ => ?_)
 refine Grd.intro (fun h => absurd (of_decide_eq_true h) (by omega)) (fun _ => ?_)
 refine Grd.intro (fun _ => ?_) (fun h => absurd (show ¬ w.ph = 3 from of_decide_eq_false h) (by omega))
 conv => whnf
 refine CallC.nl _ (c) ?_ ?_
 · exact rfl
 conv => whnf
 refine DrawC.mkQ 6 [(.inl 2, 3), (.inl 3, 4)] rfl (by kernel_rfl) ?_
 refine And.intro rfl ?_
 exact And.intro trivial (AVle.refl _)
theorem sstep4_fn (H : WkW x w now) (h4 : w.ph = 4) : VFn Tryz.prog 23 [x.av, w.av, .int .i64 now] (resV (stepW x w now)) := by
 have c := l08Fetch_fn H h4
 have hx := stepW_x3 (x := x) (now := now) (.inr h4)
 unfold resV
 generalize stepW x w now = p at *
 rw [hx]
 refine VFn.introC Tryz.call23 Tryz.func23 rfl rfl ?_
 refine Grd.intro (fun h => absurd (of_decide_eq_true h) (by omega)) (fun _ => ?_)
 refine Grd.intro (fun h => absurd (of_decide_eq_true h) (by omega)) (fun _ => ?_)
 refine Grd.intro (fun h => absurd (of_decide_eq_true h) (by omega)) (fun _ => ?_)
 refine Grd.intro (fun h => absurd (of_decide_eq_true h) (by omega)) (fun _ => ?_)
 refine Grd.intro (fun _ => ?_) (fun h => absurd (show ¬ w.ph = 4 from of_decide_eq_false h) (by omega))
 conv => whnf
 refine CallC.nl _ (c) ?_ ?_
 · exact rfl
 conv => whnf
 refine DrawC.mkQ 6 [(.inl 2, 3), (.inl 3, 4)] rfl (by kernel_rfl) ?_
 refine And.intro rfl ?_
 exact And.intro trivial (AVle.refl _)
theorem sstep5_fn (H : WkW x w now) (h5 : w.ph = 5) : VFn Tryz.prog 23 [x.av, w.av, .int .i64 now] (resV (stepW x w now)) := by
 have c := l08Put_fn H h5
 unfold resV at c ⊢
 generalize stepW x w now = p at *
 refine VFn.introC Tryz.call23 Tryz.func23 rfl rfl ?_
 refine Grd.intro (fun h => absurd (of_decide_eq_true h) (by omega)) (fun _ => ?_)
 refine Grd.intro (fun h => absurd (of_decide_eq_true h) (by omega)) (fun _ => ?_)
 refine Grd.intro (fun h => absurd (of_decide_eq_true h) (by omega)) (fun _ => ?_)
 refine Grd.intro (fun h => absurd (of_decide_eq_true h) (by omega)) (fun _ => ?_)
 refine Grd.intro (fun h => absurd (of_decide_eq_true h) (by omega)) (fun _ => ?_)
 refine Grd.intro (fun _ => ?_) (fun h => absurd (show ¬ w.ph = 5 from of_decide_eq_false h) (by omega))
 conv => whnf
 refine CallC.nl _ (c) ?_ ?_
 · exact rfl
 exact And.intro trivial (AVle.refl _)
theorem sstep6_fn (H : WkW x w now) (h6 : w.ph = 6) : VFn Tryz.prog 23 [x.av, w.av, .int .i64 now] (resV (stepW x w now)) := by
 have c := l08Append_fn H h6
 unfold resV at c ⊢
 generalize stepW x w now = p at *
 refine VFn.introC Tryz.call23 Tryz.func23 rfl rfl ?_
 refine Grd.intro (fun h => absurd (of_decide_eq_true h) (by omega)) (fun _ => ?_)
 refine Grd.intro (fun h => absurd (of_decide_eq_true h) (by omega)) (fun _ => ?_)
 refine Grd.intro (fun h => absurd (of_decide_eq_true h) (by omega)) (fun _ => ?_)
 refine Grd.intro (fun h => absurd (of_decide_eq_true h) (by omega)) (fun _ => ?_)
 refine Grd.intro (fun h => absurd (of_decide_eq_true h) (by omega)) (fun _ => ?_)
 refine Grd.intro (fun h => absurd (of_decide_eq_true h) (by omega)) (fun _ => ?_)
 refine Grd.intro (fun _ => ?_) (fun h => absurd (show ¬ w.ph = 6 from of_decide_eq_false h) (by omega))
 conv => whnf
 refine CallC.nl _ (c) ?_ ?_
 · exact rfl
 exact And.intro trivial (AVle.refl _)
theorem l08Step_fn (H : WkW x w now) : VFn Tryz.prog 23 [x.av, w.av, .int .i64 now] (resV (stepW x w now)) := by
 have F := (wk_iff w).1 H.hw
 have hp := F.ph
 have h : w.ph = 0 ∨ w.ph = 1 ∨ w.ph = 2 ∨ w.ph = 3 ∨ w.ph = 4 ∨ w.ph = 5 ∨ w.ph = 6 ∨ w.ph = 7 := by omega
 rcases h with h | h | h | h | h | h | h | h
 · exact sstep0_fn H h
 · exact sstep1_fn H h
 · exact sstep2_fn H h
 · exact sstep3_fn H h
 · exact sstep4_fn H h
 · exact sstep5_fn H h
 · exact sstep6_fn H h
 · exact sstep7_fn H h
end
theorem l08Own_fn (w : Wk) (hL : w.ins.length ≤ 1000000) : VFn Tryz.prog 25 [w.av] w.av := by
 refine VFn.introC Tryz.call25 Tryz.func25 rfl rfl ?_
 conv => whnf
 refine And.intro ⟨show (0 + w.ins.length) * 40 ≤ 140737488355328 by omega, fun i hi => rfl⟩ ?_
 conv => whnf
 exact And.intro trivial (AVle.agg (ins9 (AVle.sl (Nat.zero_add _) fun i hi => (appRows_ge (Nat.zero_le _)).trans rfl)))
theorem StoRdW {x : Sto} (h : x.ok = true) : StoRd x := by
 obtain ⟨a1, a2, a3, _, _⟩ := (stoOK_iff x).1 h
 refine ⟨by omega, fun o ho => ?_, by omega⟩
 have := (a3 o ho).1
 unfold keyOK at this
 simp only [Bool.and_eq_true, within, decide_eq_true_eq] at this
 omega
structure WkL (w : Wk) : Prop where
 l : w.ins.length ≤ 1000000
 j : w.job.key.length ≤ 1000000000
 k : ∀ e ∈ w.ins, e.key.length ≤ 1000000000
section
variable {x : Sto} {w : Wk} {now : Int}
theorem specStepWorker_fn (H : WkW x w now) (L : WkL w) (hy : (stepW x w now).1.os.length ≤ 1000000) (hv : (stepW x w now).2.1.ins.length ≤ 1000000) : VFn Tryz.prog 8 [x.av, w.av, .int .i64 now] (resV (stepW x w now)) := by
 have hr := StoRdW H.hs
 have c1 := specStoreOK_ok x (by have := hr.len; omega) hr.key hr.nxt
 have c2 := specWorkerOK_fn w (by have := L.l; omega) L.j L.k
 have c3 := l05Now_fn now
 have hn := H.hn
 rw [H.hs] at c1
 rw [H.hw] at c2
 rw [show within now 0 101000 = true by simp [within]; omega] at c3
 have c4 := l08Step_fn H
 have c5 := l01Own_fn (stepW x w now).1 hy
 have c6 := l08Own_fn (stepW x w now).2.1 hv
 unfold resV at c4 ⊢
 generalize stepW x w now = p at *
 refine VFn.introC Tryz.call8 Tryz.func8 rfl rfl ?_
 conv => whnf
 refine CallC.sca _ (c1) ?_ ?_
 · exact rfl
 conv => whnf
 refine CallC.sca _ (c2) ?_ ?_
 · exact rfl
 conv => whnf
 refine CallC.sca _ (c3) ?_ ?_
 · exact rfl
 conv => whnf
 refine CallC.nl _ (c4) ?_ ?_
 · exact rfl
 conv => whnf
 refine DrawC.mkQ 8 [(.inl 2, 5), (.inl 3, 6)] rfl (by kernel_rfl) ?_
 refine And.intro rfl ?_
 conv => whnf
 refine PCallQ.nl _ (c5) rfl ?_
 conv => whnf
 refine PCallQ.nl _ (c6) rfl ?_
 exact And.intro trivial (AVle.refl _)
theorem StepWorker_fn (H : WkW x w now) (L : WkL w) (hy : (stepW x w now).1.os.length ≤ 1000000) (hv : (stepW x w now).2.1.ins.length ≤ 1000000) : VFn Tryz.prog 7 [x.av, w.av, .int .i64 now] (resV (stepW x w now)) := by
 have hr := StoRdW H.hs
 have c1 := StoreOK_fn x (by have := hr.len; omega) hr.key
 have c2 := WorkerOK_fn w (by have := L.l; omega)
 have c3 := isNow_fn now
 have hn := H.hn
 rw [H.hs] at c1
 rw [H.hw] at c2
 rw [show within now 0 101000 = true by simp [within]; omega] at c3
 have c4 := stepped_fn H
 have c5 := (copied_own (stepW x w now).1 hy).vfn
 have c6 := copiedW_fn (stepW x w now).2.1 hv
 unfold resV
 generalize stepW x w now = p at *
 refine VFn.introC Tryz.call7 Tryz.func7 rfl rfl ?_
 conv => whnf
 refine CallC.sca _ (c1) ?_ ?_
 · exact rfl
 conv => whnf
 refine CallC.sca _ (c2) ?_ ?_
 · exact rfl
 conv => whnf
 refine CallC.sca _ (c3) ?_ ?_
 · exact rfl
 conv => whnf
 refine CallC.sca _ (first2_of false false _ _ ⟨rfl, rfl, rfl, rfl, trivial⟩ rfl (show _ = (0 : Int) from rfl)) ?_ ?_
 · exact rfl
 conv => whnf
 refine CallC.nl _ (c4) ?_ ?_
 · exact rfl
 conv => whnf
 refine DrawC.mkQ 8 [(.inl 2, 5), (.inl 3, 6)] rfl (by kernel_rfl) ?_
 refine And.intro rfl ?_
 conv => whnf
 refine PCallQ.nl _ (c5) rfl ?_
 conv => whnf
 refine PCallQ.nl _ (c6) rfl ?_
 exact And.intro trivial (AVle.refl _)
end
def SI (i : Nat) (q : FS) : Prop := ∃ ac, StI q.x (i - 1) (logS q.x) ac ∧ ac.length ≤ 8 * (i - 1)
theorem SI.zero {s : Src} : SI 1 ⟨stoN0, 0, s⟩ := by
 have h : StI newF.st (logEnd newF.st) (logS newF.st) newF.ac := newF_I.st
 have e : logEnd newF.st = 0 := log_none.fin
 rw [e] at h
 exact ⟨[], h, Nat.zero_le _⟩
theorem SI.step {i : Nat} {q : FS} (h : FI i q) (hf : FL i q) (hI : SI i q) (hs : q.draw.s.ok (100003 + 200 * i)) (hi : 1 ≤ i ∧ i ≤ 6) : SI (i + 1) (q.draw.step i) := by
 have b := h.facts hs hi
 have hok2 := (h.step hs hi).ok
 obtain ⟨f1, f2, E, f3, f4, f5⟩ := hf
 obtain ⟨ac, I, hac⟩ := hI
 have I : StI q.draw.x (i - 1) (logS q.draw.x) ac := I
 have f3 : logS q.draw.x = ⟨((i - 1 : Nat) : Int), 0, E, [], 0, 0, 0, q.draw.at_, 0, 0⟩ := f3
 have hln : q.draw.x.os.length ≤ 2 * (i - 1) := h.len
 generalize q.draw = q at *
 obtain ⟨w, hw⟩ : ∃ w : Nat, q.W.1 = w := ⟨q.W.1.toNat, by have := b.w; omega⟩
 have hw1 : w ≤ 1 := by have := b.w; omega
 have hkey : q.key i = keyB 0 i w := by unfold FS.key; rw [hw]; rfl
 have h0 : (logS q.x).h0 = q.at_ := by rw [f3]
 have hsq : (logS q.x).seq = ((i - 1 : Nat) : Int) := by rw [f3]
 generalize logS q.x = s at *
 have en : (s.seq + 1).toNat = i := by omega
 have hx1 : q.x1 i = q.x.set (keyB 0 (s.seq + 1).toNat w) (smpsText q.L.1) := by unfold FS.x1; rw [hkey, en]
 have I1 : StI (q.x1 i) (i - 1) s ac := by
  have := I.raw (id := w) (by omega) (d := smpsText q.L.1) (by rw [← hx1]; exact b.ok1)
  rw [← hx1] at this
  exact this
 have hrc : q.rc i = ⟨1, 0, 0, q.at_, q.to, keyB 0 (i - 1 + 1) w⟩ := by
  unfold FS.rc
  rw [hkey, show i - 1 + 1 = i by omega]
 have hr := b.rc
 have hno : (q.x1 i).has (manK ((i - 1 + 1 : Nat) : Int)) = false := by
  rw [I1.lg.has (i - 1 + 1) (by omega) (by omega)]
  exact decide_eq_false (by omega)
 obtain ⟨p1, p2, p3, p4, p5⟩ := put_ok b.ok1 (manK_keyOK ((i - 1 + 1 : Nat) : Int)) (d := (q.rc i).text) (by have := Rc.txt_len hr; omega) (by have := b.len1; omega) (by have := b.nxt1; omega)
 have ha : appS (q.x1 i) ((i - 1 + 1 : Nat) : Int) (q.rc i) = ((q.step i).x, 0) := by
  unfold appS Sto.putA
  rw [if_neg (by rw [hno]; decide), p1, p2]
  show (Sto.set (q.x1 i) (manK ((i - 1 + 1 : Nat) : Int)) (q.rc i).text, (0 : Int)) = (Sto.set (q.x1 i) (manK (i : Int)) (q.rc i).text, 0)
  rw [show i - 1 + 1 = i by omega]
 rcases I1.lg.layG hr with ⟨c, c1, c2, e⟩ | ⟨y, e, L, S, _⟩
 · rw [ha] at e
   have := congrArg Prod.snd e
   exact absurd this.symm c1
 rw [ha] at e
 have ey : (q.step i).x = y := congrArg Prod.fst e
 rw [← ey] at L S
 have c := set_at q.x (q.key i) (smpsText q.L.1)
 have c1 : (q.x1 i).has (q.key i) = true := c.1
 have c2 : (q.x1 i).get (q.key i) = ⟨q.key i, q.x.next, smpsText q.L.1⟩ := c.2
 have kk : q.key i = keyB 0 (i - 1 + 1) w := by rw [hkey, show i - 1 + 1 = i by omega]
 rw [kk] at c1 c2
 have hb : ∀ a ∈ q.L.1, s.h0 ≤ a.t ∧ a.t < q.to := fun a ha => by
  have t1 := b.m.tm a ha
  refine ⟨by omega, ?_⟩
  obtain ⟨j, hj, e1⟩ := List.getElem_of_mem ha
  have e2 := smpsF_srt b.m.ok j (q.L.1.length - 1) (by omega) (by omega)
  rw [ix_lt hj, e1] at e2
  unfold FS.to
  rw [if_neg (by omega)]
  omega
 have hl6 := b.m.len
 have hcat := smps_cat I1.acok b.m.ok I1.ach (fun e he => (hb e he).1) (by omega)
 rw [hrc] at hr L
 obtain ⟨b1, b2⟩ := I1.add hr (by omega) h0.symm (by omega) hb c1 (by rw [c2]) hcat L S
 refine ⟨ac ++ q.L.1, ?_, by rw [List.length_append]; omega⟩
 have e3 := b1.lg.log
 rw [e3]
 rw [show i + 1 - 1 = i - 1 + 1 by omega]
 exact b1
theorem fill_I {i : Nat} {q : FS} (h : FI i q) (hf : FL i q) (hI : SI i q) (hi : 1 ≤ i ∧ i ≤ 6) : ∃ j, i ≤ j ∧ j ≤ 6 ∧ SI j (fiIt (7 - i) i q) := by
 have hd := h.draw hi
 rw [fiIt_eq hi.2]
 split
 · rename_i g
   have hi5 : i ≤ 5 := by have := hd.1.2; omega
   obtain ⟨j, j1, j2, r⟩ := fill_I (h.step hd.2 hi) (FL.step h hf hd.2 hi) (SI.step h hf hI hd.2 hi) ⟨by omega, by omega⟩
   exact ⟨j, by omega, j2, r⟩
 · exact ⟨i, Nat.le_refl _, hi.2, hI⟩
termination_by 7 - i
theorem filled_I {s : Src} (h : s.ok 100000) : ∃ n t ac, StI s.filled.x n t ac ∧ ac.length ≤ 40 := by
 obtain ⟨j, j1, j2, ac, I, hl⟩ := fill_I (FI.zero h) FL.zero SI.zero (by decide)
 exact ⟨j - 1, _, ac, I, by omega⟩
def One (x y : Sto) : Prop := y.next ≤ x.next + 1 ∧ y.os.length ≤ x.os.length + 1
theorem One.refl (x : Sto) : One x x := ⟨by omega, by omega⟩
theorem One.put (x : Sto) (k d : List UInt8) : One x (x.put k d) := by
 unfold Sto.put
 split
 · exact ⟨Int.le_refl _, set_len_le _ _ _⟩
 · exact One.refl x
theorem One.putA (x : Sto) (k d : List UInt8) : One x (x.putA k d).1 := by
 unfold Sto.putA
 split
 · exact One.refl x
 · exact One.put x k d
theorem One.app (x : Sto) (n : Int) (r : Rc) : One x (appS x n r).1 := One.putA x _ _
theorem One.acq (x : Sto) (who now : Int) : One x (acqS x who now) := by
 unfold acqS
 split
 · exact One.put x _ _
 · exact One.refl x
theorem One.chg (x : Sto) (who tok til : Int) : One x (x.chg who tok til).1 := by
 unfold Sto.chg
 split
 · exact One.put x _ _
 · exact One.refl x
theorem stepW_one (x : Sto) (w : Wk) (now : Int) : One x (stepW x w now).1 := by
 unfold stepW
 repeat' (first
  | exact One.refl x
  | exact One.app x _ _
  | exact One.putA x _ _
  | exact One.acq x _ _
  | exact One.chg x _ _ _
  | split)
structure WS where
 x : Sto
 w : Wk
 s : Src
def WS.now (q : WS) : Int := 10 + (q.s.next 200).1
def WS.step (q : WS) : WS := ⟨(stepW q.x q.w q.now).1, (stepW q.x q.w q.now).2.1, (q.s.next 200).2⟩
def wsIt : Nat → WS → WS
 | 0, q => q
 | n + 1, q => (wsIt n q).step
structure WSI (q : WS) (ac : List Smp) (id : Int) (k : Int) (m : Nat) : Prop where
 i : ∃ n t, StI q.x n t ac ∧ WkI q.x t ac q.w ∧ (1 ≤ n ∧ n ≤ 5 + m)
 id : q.w.id = id
 s : q.s.ok k
 sz : q.x.os.length ≤ 10 + m ∧ q.x.next ≤ 11 + (m : Int)
theorem WSI.step {q : WS} {ac : List Smp} {id k : Int} {m : Nat} (h : WSI q ac id k m) (hac : ac.length ≤ 1000) (hk : 0 ≤ k ∧ k ≤ 10000000) : WSI q.step ac id (k + 3) (m + 1) := by
 obtain ⟨⟨n, t, I, W, hn⟩, hid, hs, z1, z2⟩ := h
 have n1 := next_b q.s hs (by omega) 200
 obtain ⟨n', t', S, W', e⟩ := wk_step 0 0 I hac W q.now
 obtain ⟨o1, o2⟩ := stepW_one q.x q.w q.now
 have hn' : n' = n ∨ n' = n + 1 := by
  rcases S.lg with ⟨h, _⟩ | h
  · exact .inl h
  · exact .inr h
 exact ⟨⟨n', t', S.st, W', by omega⟩, e.trans hid, n1.2.1, by show (stepW q.x q.w q.now).1.os.length ≤ _; omega, by show (stepW q.x q.w q.now).1.next ≤ _; omega⟩
theorem wsIt_I {q : WS} {ac : List Smp} {id k : Int} (h : WSI q ac id k 0) (hac : ac.length ≤ 1000) (hk : 0 ≤ k ∧ k ≤ 1000000) : ∀ n : Nat, n ≤ 1000 → WSI (wsIt n q) ac id (k + 3 * n) n
 | 0, _ => by simpa [wsIt] using h
 | n + 1, hn => by
   have := (wsIt_I h hac hk n (by omega)).step hac (by omega)
   rw [show k + 3 * (n : Int) + 3 = k + 3 * ((n + 1 : Nat) : Int) by push_cast; omega] at this
   exact this
theorem wkL_of {x : Sto} {s : Sta} {ac : List Smp} {w : Wk} (W : WkI x s ac w) (hj : w.job.key.length ≤ 30) : WkL w := by
 have F := (wk_iff w).1 W.ok
 refine ⟨by have := F.len; omega, by omega, fun e he => ?_⟩
 have := (en_key (F.es e he)).1
 exact Nat.le_trans (key_len this) (by decide)
theorem wkI_len {x : Sto} {s : Sta} {ac : List Smp} {w : Wk} (W : WkI x s ac w) : w.ins.length ≤ 300 := ((wk_iff w).1 W.ok).len
theorem stI_len' {x : Sto} {n : Nat} {s : Sta} {ac : List Smp} (I : StI x n s ac) : x.os.length ≤ 1000000 := by have := ((stoOK_iff x).1 I.lg.ok).len; omega
theorem wsnow_b {q : WS} {ac : List Smp} {id k : Int} {m : Nat} (h : WSI q ac id k m) (hk : 0 ≤ k ∧ k ≤ 10000000) : 10 ≤ q.now ∧ q.now < 210 := by
 have n1 := next_b q.s h.s (by omega) 200
 have := n1.1.1
 have := n1.1.2 (by omega)
 unfold WS.now
 omega
theorem working_fn (s : Src) (h : s.ok 100000) : ∃ (x : Sto) (w : Wk) (ac : List Smp) (q : Src), (ac.length ≤ 40 ∧ ∃ n t, StI x n t ac ∧ WkI x t ac w ∧ (1 ≤ n ∧ n ≤ 60)) ∧ (w.job.key.length ≤ 30 ∧ x.os.length ≤ 60 ∧ x.next ≤ 60) ∧ q.ok 1000000 ∧
 FnM Tryz.prog 13 1 [.bptr 0 0] [(0, .box s.row)] (.tup [x.av, w.av]) [(0, .box q.row)] 1 := by
 obtain ⟨m, E, F⟩ := filled_facts h
 obtain ⟨n0, t0, ac, I0, hac⟩ := filled_I h
 have cF := filled_fn s h
 have hsrc := F.src
 obtain ⟨d, s1, hd, k1, c1⟩ := draw s.filled.s hsrc (by omega) 2 (by decide)
 obtain ⟨z, hz, cz⟩ := size_fn s1 30 (wk k1 (by omega)) (by decide)
 obtain ⟨M, s2, hM, k2, c2⟩ := draw s1 k1 (by omega) (z + 4) (by omega)
 have hn0 : n0 = m := by rw [← I0.lg.fin, F.fin]
 have hrg := F.rng
 have W0 : WSI ⟨s.filled.x, wkR d, s2⟩ ac d 101306 0 := ⟨⟨n0, t0, I0, wkR_I ⟨by omega, by omega⟩, by omega⟩, rfl, wk k2 (by omega), by have := F.len; exact this, by have := F.nxt; show s.filled.x.next ≤ _; omega⟩
 have WI := fun n hn => wsIt_I W0 (by omega) (by omega) n hn
 generalize hw0 : (⟨s.filled.x, wkR d, s2⟩ : WS) = w0 at *
 have hxe : w0.x = s.filled.x := by rw [← hw0]
 have hwe : w0.w = wkR d := by rw [← hw0]
 have hse : w0.s = s2 := by rw [← hw0]
 have WM := WI M (by omega)
 have hjk : ∀ i, (wsIt i w0).w.job.key.length ≤ 30 := fun i => by
  induction i with
  | zero => show w0.w.job.key.length ≤ 30; rw [hwe]; show ([] : List UInt8).length ≤ 30; decide
  | succ i ih => exact stepW_jk ih _
 obtain ⟨nM, tM, IM, WkM, hnM⟩ := WM.i
 have hszM := WM.sz
 refine ⟨(wsIt M w0).x, (wsIt M w0).w, ac, (wsIt M w0).s, ⟨hac, nM, tM, IM, WkM, by omega⟩, ⟨hjk M, by omega, by omega⟩, wk WM.s (by omega), ?_⟩
 have co := l01Own_fn (wsIt M w0).x (stI_len' IM)
 have cw := l08Own_fn (wsIt M w0).w (by have := wkI_len WkM; omega)
 refine FnM.introC Tryz.call13 Tryz.func13 rfl rfl ?_
 conv => whnf
 refine CallC.k [(0, 0)] (cF) rfl rfl (AVsle.refl _) ⟨MOle.refl _, trivial⟩ rfl ?_
 conv => whnf
 conv => whnf
 refine CallC.k [(0, 0)] (c1) rfl rfl (AVsle.refl _) ⟨MOle.refl _, trivial⟩ rfl ?_
 conv => whnf
 refine CallC.k [(0, 0)] (cz) rfl rfl (AVsle.refl _) ⟨MOle.refl _, trivial⟩ rfl ?_
 refine And.intro (inI64 (by omega) (by omega)) ?_
 conv => whnf
 refine CallC.k [(0, 0)] (c2) rfl rfl (AVsle.refl _) ⟨MOle.refl _, trivial⟩ rfl ?_
 conv => whnf
 refine LoopC.mk (fun i : Nat => i ≤ M) (fun i => [(0, .bptr 0 0), (2, .bptr 1 0), (3, .bptr 2 0), (4, .bptr 3 0), (5, .bptr 4 0), (6, .int .i64 ((M : Int) - i))])
  (fun i => [(0, .box (wsIt i w0).s.row), (1, .box [.nilsl, .int .i64 0]), (2, .box [.int .i64 0, .int .i64 0, .int .i64 0, .int .i64 0, .int .i64 0, .int .i64 0, .int .i64 0, .int .i64 0, .str (B []), .nilsl, .int .i64 0, .int .i64 0, .int .i64 0, .int .i64 0, .int .i64 0, .int .i64 0]), (3, .box (wsIt i w0).x.row), (4, .box (wsIt i w0).w.row)]) 5 (fun i => M - i) 0
  ⟨Nat.zero_le _, [(0, 0), (1, 1), (2, 2), (4, 3), (7, 4)], rfl, rfl, ⟨AVle.refl _, AVle.refl _, AVle.refl _, AVle.refl _, AVle.refl _, AVle.of_eq (congrArg (AV.int .i64) (by simp)), trivial⟩, ⟨MOle.of_eq (show _ = MO.box w0.s.row by rw [hse]; rfl), MOle.refl _, MOle.refl _, MOle.of_eq (show _ = MO.box w0.x.row by rw [hxe]; rfl), ?_, trivial⟩⟩ ?_
 · show MOle _ (MO.box w0.w.row)
   rw [hwe]
   exact MOle.box (ins9 (AVle.sl rfl fun i hi => absurd hi (Nat.not_lt_zero i)))
 intro i hi
 refine Grd.intro (fun j1 => ?_) (fun j1 => ?_)
 · have hiM : i < M := by have := of_decide_eq_true j1; omega
   have Wi := WI i (by omega)
   obtain ⟨n, t, I, W, _⟩ := Wi.i
   have hb := wsnow_b Wi (by omega)
   have cs := l08Step_fn (wkW_of I (by omega) W (now := (wsIt i w0).now) (by omega))
   have cn := next_fn (wsIt i w0).s 200 (wk Wi.s (by omega))
   unfold WS.now at hb cs
   unfold resV at cs
   have e1 : (stepW (wsIt i w0).x (wsIt i w0).w (10 + ((wsIt i w0).s.next 200).1)).1 = (wsIt (i + 1) w0).x := rfl
   have e2 : (stepW (wsIt i w0).x (wsIt i w0).w (10 + ((wsIt i w0).s.next 200).1)).2.1 = (wsIt (i + 1) w0).w := rfl
   have e3 : ((wsIt i w0).s.next 200).2 = (wsIt (i + 1) w0).s := rfl
   rw [e1, e2] at cs
   rw [e3] at cn
   generalize (stepW (wsIt i w0).x (wsIt i w0).w (10 + ((wsIt i w0).s.next 200).1)).2.2 = cc at cs
   generalize ((wsIt i w0).s.next 200).1 = v at *
   conv => whnf
   refine DrawC.mkQ 15 [(.inl 0, 3), (.inr 10, 12), (.inr 11, 13)] rfl (by kernel_rfl) ?_; refine And.intro (by kernel_rfl) ?_
   conv => whnf
   refine PCallQ.m 0 (cn) rfl rfl rfl rfl ?_
   refine And.intro (show inI .i64 (10 + v) from inI64 (by omega) (by omega)) ?_
   conv => whnf
   refine PCallQ.nl _ (cs) rfl ?_
   refine And.intro (inI64 (by omega) (by omega)) ?_
   exact ⟨i + 1, hiM, by omega, [(0, 0), (1, 1), (2, 2), (3, 3), (4, 4)], rfl, rfl, ⟨AVle.refl _, AVle.refl _, AVle.refl _, AVle.refl _, AVle.refl _, AVle.of_eq (congrArg (AV.int .i64) (show (M : Int) - i - 1 = _ by omega)), trivial⟩, ⟨MOle.refl _, MOle.refl _, MOle.refl _, MOle.refl _, MOle.refl _, trivial⟩⟩
 · have : i = M := by have := of_decide_eq_false j1; omega
   subst this
   conv => whnf
   refine DrawC.mkQ 6 [(.inl 1, 4), (.inl 2, 5)] rfl (by kernel_rfl) ?_
   refine And.intro rfl ?_
   conv => whnf
   refine PCallQ.nl _ (co) rfl ?_
   conv => whnf
   refine PCallQ.nl _ (cw) rfl ?_
   conv => whnf
   exact And.intro trivial ⟨[(0, 0)], rfl, AVle.refl _, ⟨MOle.refl _, trivial⟩⟩


theorem at_fn (L : List UInt8) (i n : Int) (hm : L.length ≤ 1048576) (hi : 0 ≤ i ∧ i ≤ 1000) (hn : 1 < n ∧ n ≤ 1000) : ∃ v, (0 ≤ v ∧ v < n) ∧ VFn Tryz.prog 6 [byts L, .int .i64 i, .int .i64 n] (.int .i64 v) := by
 by_cases h0 : L.length = 0
 · refine ⟨(i * 7).tmod n, tmod_b (by omega) (by omega), ?_⟩
   refine VFn.introC Tryz.call6 Tryz.func6 rfl rfl ?_
   refine Grd.intro (fun h => absurd (of_decide_eq_true h) (by omega)) (fun _ => ?_)
   refine Grd.intro (fun h => ?_) (fun h => absurd (of_decide_eq_false h) (by omega))
   refine And.intro (inI64 (by omega) (by omega)) ?_
   refine And.intro (show n ≠ 0 by omega) ?_
   exact And.intro trivial (AVle.refl _)
 · have q1 := tmod_b (n := i) (m := L.length) (by omega) (by omega)
   have q2 := tmod_b (n := i + 1) (m := L.length) (by omega) (by omega)
   have q3 := tdiv_b (n := i) (m := L.length) (by omega) (by omega)
   have b1 := (ix L (i.tmod L.length).toNat).toNat_lt
   have b2 := (ix L ((i + 1).tmod L.length).toNat).toNat_lt
   refine ⟨(((ix L (i.tmod L.length).toNat).toNat : Int) * 31 + ((ix L ((i + 1).tmod L.length).toNat).toNat : Int) + i.tdiv L.length).tmod n, tmod_b (by omega) (by omega), ?_⟩
   refine VFn.introC Tryz.call6 Tryz.func6 rfl rfl ?_
   refine Grd.intro (fun h => absurd (of_decide_eq_true h) (by omega)) (fun _ => ?_)
   refine Grd.intro (fun h => absurd (of_decide_eq_true h) (by omega)) (fun h => ?_)
   refine DrawC.mq 25 rfl (by kernel_rfl) ?_
   refine And.intro (show (L.length : Int) ≠ 0 by omega) ?_
   refine And.intro q1 ?_
   refine And.intro (show inI .i64 _ from inI64 (by omega) (by omega)) ?_
   refine And.intro (show inI .i64 _ from inI64 (by omega) (by omega)) ?_
   refine And.intro (show inI .i64 (i + 1) from inI64 (by omega) (by omega)) ?_
   refine And.intro (show (L.length : Int) ≠ 0 by omega) ?_
   refine And.intro q2 ?_
   refine And.intro (show inI .i64 _ from inI64 (by omega) (by omega)) ?_
   refine And.intro (show inI .i64 _ from inI64 (by omega) (by omega)) ?_
   refine And.intro ⟨show (L.length : Int) ≠ 0 by omega, show inI .i64 (i.tdiv L.length) from inI64 (by omega) (by omega)⟩ ?_
   refine And.intro (show inI .i64 _ from inI64 (by omega) (by omega)) ?_
   refine And.intro (show n ≠ 0 by omega) ?_
   exact And.intro trivial (AVle.refl _)
theorem sameStore_fn (s : Sto) (hL : s.os.length ≤ 1000000) : VFn Tryz.prog 9 [s.av, s.av] (.bool true) := by
 refine VFn.introC Tryz.call9 Tryz.func9 rfl rfl ?_
 refine Grd.intro (fun h => absurd h (by simp)) (fun _ => ?_)
 refine Grd.intro (fun h => absurd h (by simp)) (fun _ => ?_)
 refine LoopC.mk (fun i : Nat => i ≤ s.os.length) (fun i => [(2, .bptr 0 0), (3, .bptr 1 0), (5, .int .i64 i)]) (fun i => [(0, .box s.row), (1, .box s.row)]) 2 (fun i => s.os.length - i) 0
  ⟨Nat.zero_le _, [(0, 0), (1, 1)], rfl, rfl, ⟨AVle.refl _, AVle.refl _, AVle.refl _, trivial⟩, ⟨MOle.refl _, MOle.refl _, trivial⟩⟩ ?_
 intro i hi
 refine Grd.intro (fun h2 => ?_) (fun h2 => ?_)
 · have hin : i < s.os.length := by have := of_decide_eq_true h2; omega
   refine DrawC.mq 10 rfl (by kernel_rfl) ?_
   refine And.intro (by omega) ?_
   refine And.intro (by omega) ?_
   refine And.intro (by kernel_rfl) ?_
   refine Grd.intro (fun h => absurd h (by simp)) (fun _ => ?_)
   refine And.intro (inI64 (by omega) (by omega)) ?_
   exact ⟨i + 1, hin, by omega, [(0, 0), (1, 1)], rfl, rfl, ⟨AVle.refl _, AVle.refl _, AVle.of_eq (congrArg (AV.int .i64) (by simp)), trivial⟩, ⟨MOle.refl _, MOle.refl _, trivial⟩⟩
 · exact And.intro trivial (AVle.refl _)
def Wk.eqb (x y : Wk) : Bool := decide (x.id = y.id) && (decide (x.ph = y.ph) && (decide (x.tok = y.tok) && (Rc.eqb x.job y.job && (eqS En.eqb x.ins y.ins && Ag.eqb x.got y.got))))
theorem SameWorker_fn (x y : Wk) (hx : x.small) (hy : y.small) : VFn Tryz.prog 10 [x.av, y.av] (.bool (Wk.eqb x y)) := by
 refine VFn.introC Tryz.call10 Tryz.func10 rfl rfl ?_
 repeat' (conv => whnf
          first
           | (refine Grd.intro (fun (h : Rc.eqb x.job y.job = true) => ?_) (fun (h : Rc.eqb x.job y.job = false) => ?_))
           | (refine Grd.intro (fun (h : (!Rc.eqb x.job y.job) = true) => ?_) (fun (h : (!Rc.eqb x.job y.job) = false) => ?_))
           | (refine And.intro trivial (AVle.of_eq (congrArg AV.bool (show Rc.eqb x.job y.job = _ from ?_))); focus (simp_all [Wk.eqb]; done))
           | (refine And.intro trivial (AVle.of_eq (congrArg AV.bool (show (!Rc.eqb x.job y.job) = _ from ?_))); focus (simp_all [Wk.eqb]; done))
           | (refine Grd.intro (fun (h : Ag.eqb x.got y.got = true) => ?_) (fun (h : Ag.eqb x.got y.got = false) => ?_))
           | (refine Grd.intro (fun (h : (!Ag.eqb x.got y.got) = true) => ?_) (fun (h : (!Ag.eqb x.got y.got) = false) => ?_))
           | (refine And.intro trivial (AVle.of_eq (congrArg AV.bool (show Ag.eqb x.got y.got = _ from ?_))); focus (simp_all [Wk.eqb]; done))
           | (refine And.intro trivial (AVle.of_eq (congrArg AV.bool (show (!Ag.eqb x.got y.got) = _ from ?_))); focus (simp_all [Wk.eqb]; done))
           | (refine Grd.intro (fun h => ?_) (fun h => ?_); rotate_left; focus (exfalso; simp_all; done))
           | (refine Grd.intro (fun h => ?_) (fun h => ?_); focus (exfalso; simp_all; done))
           | refine Grd.intro (fun h => ?_) (fun h => ?_)
           | (refine CallC.sca _ (EqualEn2_fn x.ins y.ins hx hy) ?_ ?_; focus (exact rfl))
           | (refine And.intro trivial (AVle.of_eq (congrArg AV.bool ?_)); focus (simp_all [Wk.eqb]; done))
           | (refine And.intro trivial (AVle.of_eq (congrArg AV.bool ?_)); focus (simp only [Wk.eqb, *, cond_true, cond_false, Bool.true_and, Bool.and_true, Bool.false_and, Bool.and_false, Bool.not_true, Bool.not_false, Bool.true_or, Bool.or_true, Bool.false_or, Bool.or_false, if_true, ite_true, reduceIte]; done))
           | (refine And.intro trivial (AVle.of_eq (congrArg AV.bool ?_)); focus (simp_all [Wk.eqb]; intros; omega))
           | (refine And.intro trivial (AVle.of_eq (congrArg AV.bool ?_)); focus (simp only [cond_true, cond_false, Bool.not_eq_true', Bool.not_eq_false'] at *; simp only [Wk.eqb, *, cond_true, cond_false, Bool.true_and, Bool.and_true, Bool.false_and, Bool.and_false, Bool.not_true, Bool.not_false, Bool.true_or, Bool.or_true, Bool.false_or, Bool.or_false, if_true, ite_true, reduceIte]; done))
           | refine And.intro (by kernel_rfl) ?_
           | refine OpC.bneq rfl rfl rfl rfl rfl ?_
           | refine OpC.beql rfl rfl rfl rfl rfl ?_
           | fail)
theorem WorkingStore_fn {code : List UInt8} {x : Sto} {w : Wk} {q : Src} (h : code.length ≤ 1048576) (c : FnM Tryz.prog 13 1 [.bptr 0 0] [(0, .box (srcOf code).row)] (.tup [x.av, w.av]) [(0, .box q.row)] 1) :
 VFn Tryz.prog 4 [byts code] x.av ∧ VFn Tryz.prog 5 [byts code] w.av := by
 constructor
 · refine VFn.introC Tryz.call4 Tryz.func4 rfl rfl ?_
   conv => whnf
   refine CallC.k [] (l00Source_fn code h) rfl rfl (AVsle.refl _) trivial rfl ?_
   conv => whnf
   refine CallC.k [(1, 0)] (c) rfl rfl (AVsle.refl _) ⟨MOle.refl _, trivial⟩ rfl ?_
   exact And.intro trivial (AVle.refl _)
 · refine VFn.introC Tryz.call5 Tryz.func5 rfl rfl ?_
   conv => whnf
   refine CallC.k [] (l00Source_fn code h) rfl rfl (AVsle.refl _) trivial rfl ?_
   conv => whnf
   refine CallC.k [(1, 0)] (c) rfl rfl (AVsle.refl _) ⟨MOle.refl _, trivial⟩ rfl ?_
   exact And.intro trivial (AVle.refl _)
def wIt (now : Int) : Nat → Sto × Wk → Sto × Wk
 | 0, p => p
 | n + 1, p => ((stepW (wIt now n p).1 (wIt now n p).2 now).1, (stepW (wIt now n p).1 (wIt now n p).2 now).2.1)
theorem wIt_I {x : Sto} {w : Wk} {ac : List Smp} {n : Nat} {t : Sta} (I : StI x n t ac) (W : WkI x t ac w) (hac : ac.length ≤ 1000) (now : Int) : ∀ i : Nat, ∃ n t, StI (wIt now i (x, w)).1 n t ac ∧ WkI (wIt now i (x, w)).1 t ac (wIt now i (x, w)).2
 | 0 => ⟨n, t, I, W⟩
 | i + 1 => by
   obtain ⟨n1, t1, I1, W1⟩ := wIt_I I W hac now i
   obtain ⟨n', t', S, W', e⟩ := wk_step 0 0 I1 hac W1 now
   exact ⟨n', t', S.st, W'⟩
theorem wIt_jk {x : Sto} {w : Wk} (h : w.job.key.length ≤ 30) (now : Int) : ∀ i : Nat, (wIt now i (x, w)).2.job.key.length ≤ 30
 | 0 => h
 | i + 1 => stepW_jk (wIt_jk h now i) now
theorem wIt_rfl (w : Wk) : Wk.eqb w w = true := by
 have h1 : eqS En.eqb w.ins w.ins = true := eqS_rfl _ (fun e => by simp [En.eqb]) _
 simp [Wk.eqb, Rc.eqb, Ag.eqb, h1]
theorem law_Worker (code : List UInt8) (hc : code.length ≤ 9223372036854775807) (more : List UInt8) (hm : more.length ≤ 9223372036854775807) : VFn Tryz.prog 3 [byts code, byts more] (.bool true) := by
 by_cases hL1 : 1048576 < code.length
 · refine VFn.introC Tryz.call3 Tryz.func3 rfl rfl ?_
   refine Grd.intro (fun _ => ?_) (fun h => absurd (of_decide_eq_false h) (by omega))
   exact And.intro trivial (AVle.refl _)
 by_cases hL2 : 1048576 < more.length
 · refine VFn.introC Tryz.call3 Tryz.func3 rfl rfl ?_
   refine Grd.intro (fun h => absurd (of_decide_eq_true h) (by omega)) (fun _ => ?_)
   refine Grd.intro (fun _ => ?_) (fun h => absurd (of_decide_eq_false h) (by omega))
   exact And.intro trivial (AVle.refl _)
 obtain ⟨x, w, ac, q, ⟨hac, n, t, I, W, _⟩, ⟨hj, _, _⟩, hq, c⟩ := working_fn (srcOf code) (wk (src_ok code (by omega)) (show (0 : Int) ≤ 100000 by decide))
 obtain ⟨cS, cW⟩ := WorkingStore_fn (by omega) c
 obtain ⟨v, hv, cv⟩ := at_fn more 0 200 (by omega) (by omega) (by omega)
 have hI := wIt_I I W (by omega) (10 + v)
 have hJ := wIt_jk (x := x) hj (10 + v)
 refine VFn.introC Tryz.call3 Tryz.func3 rfl rfl ?_
 refine Grd.intro (fun h => absurd (of_decide_eq_true h) (by omega)) (fun _ => ?_)
 refine Grd.intro (fun h => absurd (of_decide_eq_true h) (by omega)) (fun _ => ?_)
 conv => whnf
 refine CallC.nl _ (cS) ?_ ?_
 · exact rfl
 conv => whnf
 refine CallC.nl _ (cW) ?_ ?_
 · exact rfl
 conv => whnf
 refine CallC.sca _ (cv) ?_ ?_
 · exact rfl
 refine And.intro (show inI .i64 (10 + v) from inI64 (by omega) (by omega)) ?_
 conv => whnf
 refine LoopC.mk (fun i : Nat => i ≤ 3) (fun i => [(5, .bptr 0 0), (6, .bptr 1 0), (7, .int .i64 (10 + v)), (8, .int .i64 i)])
  (fun i => [(0, .box (wIt (10 + v) i (x, w)).1.row), (1, .box (wIt (10 + v) i (x, w)).2.row)]) 2 (fun i => 3 - i) 0
  ⟨Nat.zero_le _, [(0, 0), (1, 1)], rfl, rfl, ⟨AVle.refl _, AVle.refl _, AVle.refl _, AVle.refl _, trivial⟩, ⟨MOle.refl _, MOle.refl _, trivial⟩⟩ ?_
 intro i hi
 refine Grd.intro (fun j1 => ?_) (fun j1 => ?_)
 · have hi3 : i < 3 := by have := of_decide_eq_true j1; omega
   obtain ⟨n1, t1, I1, W1⟩ := hI i
   obtain ⟨n2, t2, I2, W2⟩ := hI (i + 1)
   have H := wkW_of I1 (by omega) W1 (now := 10 + v) (by omega)
   have L1 := wkL_of W1 (hJ i)
   have c1 := StepWorker_fn H L1 (stI_len' I2) (show (wIt (10 + v) (i + 1) (x, w)).2.ins.length ≤ _ by have := wkI_len W2; omega)
   have c2 := specStepWorker_fn H L1 (stI_len' I2) (show (wIt (10 + v) (i + 1) (x, w)).2.ins.length ≤ _ by have := wkI_len W2; omega)
   have o1 := stepW_one (wIt (10 + v) i (x, w)).1 (wIt (10 + v) i (x, w)).2 (10 + v)
   have b1 := ((stoOK_iff _).1 I1.lg.ok).nx
   have b2 := ((stoOK_iff _).1 I1.lg.ok).len
   have c5 := WorkerOK_fn (wIt (10 + v) (i + 1) (x, w)).2 (by have := wkI_len W2; omega)
   rw [W2.ok] at c5
   have c3 := sameStore_fn (wIt (10 + v) (i + 1) (x, w)).1 (stI_len' I2)
   have c4 := SameWorker_fn (wIt (10 + v) (i + 1) (x, w)).2 (wIt (10 + v) (i + 1) (x, w)).2 (by show _ ≤ _; have := wkI_len W2; omega) (by show _ ≤ _; have := wkI_len W2; omega)
   have e4 : Wk.eqb (wIt (10 + v) (i + 1) (x, w)).2 (wIt (10 + v) (i + 1) (x, w)).2 = true := by
    have h1 := wIt_rfl (wIt (10 + v) (i + 1) (x, w)).2
    exact h1
   rw [e4] at c4
   unfold resV at c1 c2
   change VFn _ _ _ (.tup [(wIt (10 + v) (i + 1) (x, w)).1.av, (wIt (10 + v) (i + 1) (x, w)).2.av, _]) at c1 c2
   change One _ (wIt (10 + v) (i + 1) (x, w)).1 at o1
   generalize (stepW (wIt (10 + v) i (x, w)).1 (wIt (10 + v) i (x, w)).2 (10 + v)).2.2 = cc at c1 c2
   obtain ⟨o2, o3⟩ := o1
   conv => whnf
   conv => whnf
   refine CallC.nl _ (c1) ?_ ?_
   · exact rfl
   conv => whnf
   conv => whnf
   refine CallC.nl _ (c2) ?_ ?_
   · exact rfl
   have hnx : wIt (10 + v) (i + 1) (x, w) = wIt (10 + v) (i + 1) (x, w) := rfl
   generalize hy : wIt (10 + v) (i + 1) (x, w) = P at *
   generalize hz : wIt (10 + v) i (x, w) = Z at *
   obtain ⟨y, u⟩ := P
   obtain ⟨z, r⟩ := Z
   simp only at c1 c2 c3 c4 c5 o2 o3 b1 b2
   conv => whnf
   refine Grd.intro (fun h => absurd (show (!decide (cc = cc)) = true from h) (by simp)) (fun _ => ?_)
   conv => whnf
   refine CallC.nl _ (c3) ?_ ?_
   · exact rfl
   conv => whnf
   conv => whnf
   refine CallC.nl _ (c4) ?_ ?_
   · exact rfl
   conv => whnf
   refine Grd.intro (fun h => absurd (show (!decide (u.ph = u.ph)) = true from h) (by simp)) (fun _ => ?_)
   conv => whnf
   refine And.intro (by kernel_rfl) ?_
   refine force_to (congrArg AV.bool (show (!(decide (u.job.k = u.job.k) && (decide (u.job.tok = u.job.tok) && (decide (u.job.tier = u.job.tier) && (decide (u.job.f = u.job.f) && (decide (u.job.t = u.job.t) && ((B u.job.key).toList == (B u.job.key).toList && true))))))) = false by simp)) ?_
   conv => whnf
   conv => whnf
   refine CallC.sca _ (c5) ?_ ?_
   · exact rfl
   refine And.intro (show inI .i64 (z.next + 1) from inI64 (by omega) (by omega)) ?_
   conv => whnf
   refine Grd.intro (fun h => absurd (show z.next + 1 < y.next from of_decide_eq_true h) (by omega)) (fun _ => ?_)
   refine And.intro (show inI .i64 ((z.os.length : Int) + 1) from inI64 (by omega) (by omega)) ?_
   conv => whnf
   refine Grd.intro (fun h => absurd (show (z.os.length : Int) + 1 < (y.os.length : Int) from of_decide_eq_true h) (by omega)) (fun _ => ?_)
   conv => whnf
   refine And.intro (inI64 (by omega) (by omega)) ?_
   refine ⟨i + 1, hi3, by omega, [(0, 0), (1, 1)], rfl, rfl, ⟨AVle.refl _, AVle.refl _, AVle.refl _, AVle.of_eq (congrArg (AV.int .i64) (by simp)), trivial⟩, ⟨MOle.of_eq (by rw [hy]; rfl), MOle.of_eq (by rw [hy]; rfl), trivial⟩⟩
 · exact And.intro trivial (AVle.refl _)
end Go.Proofs.YtigbaclopbcjnaaGreatDoor
