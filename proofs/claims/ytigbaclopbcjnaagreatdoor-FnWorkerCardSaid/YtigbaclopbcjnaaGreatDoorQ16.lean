/- Contracts of functions that the claim reaches, and the plain law of what they compute; each theorem bears its own conditions. -/
import Derived.Test.YtigbaclopbcjnaaGreatDoorQ15
import Derived.Test.YtigbaclopbcjnaaGreatDoorQ11
import Derived.Test.YtigbaclopbcjnaaGreatDoorQ12
import Derived.Test.YtigbaclopbcjnaaGreatDoorV52
import Derived.Test.YtigbaclopbcjnaaGreatDoorQ14
import Derived.Test.YtigbaclopbcjnaaGreatDoorQ5
import Derived.Test.YtigbaclopbcjnaaGreatDoorQ13
set_option linter.unusedVariables false
set_option linter.constructorNameAsVariable false
set_option linter.unusedSimpArgs false
set_option maxRecDepth 20000
set_option maxHeartbeats 1000000
namespace Go.Proofs.YtigbaclopbcjnaaGreatDoor
open Go Go.Vw
def ResW (F : AV → Prop) (p : Sto × Wk × Int) : Prop := ∃ (y : Sto) (v : Wk), F (.tup [y.av, v.av, .int .i64 p.2.2]) ∧ (p.2.2 = 0 → y = p.1 ∧ v = p.2.1)
theorem ResW.zero {F : AV → Prop} {y : Sto} {v : Wk} (h : F (.tup [y.av, v.av, .int .i64 0])) : ResW F (y, v, 0) := ⟨y, v, h, fun _ => ⟨rfl, rfl⟩⟩
theorem ResW.code {F : AV → Prop} {y : Sto} {v : Wk} {c : Int} (y' : Sto) (v' : Wk) (hc : c ≠ 0) (h : F (.tup [y'.av, v'.av, .int .i64 c])) : ResW F (y, v, c) := ⟨y', v', h, fun h0 => absurd h0 hc⟩
theorem clmR_okW {tok : Int} (h : 1 ≤ tok ∧ tok ≤ 999999) : (clmR tok).ok = true := by
 unfold Rc.ok clmR
 simp [within, Rc.bare]
 omega
theorem bktT_len {f : Int} {A : Ag} (h : ∀ b ∈ bkt f A, b.ok) : (bksText (bkt f A)).length ≤ 1000000000 := by
 have hl : (bkt f A).length ≤ 1 := by unfold bkt; split <;> simp
 have := bksText_len h
 omega
theorem stepW_3 {x : Sto} {w : Wk} {now : Int} (h : w.ph = 3) : stepW x w now = if (logS x).fence = w.tok then
 if dueT (logS x).h0 (logS x).h1 (logS x).h2 = 0 then
  if (expR (logS x) now).2 = true then (x, { w with job := retW (expR (logS x) now).1 w.tok, ph := 6 }, 0) else (x, { w with ph := 7 }, 0)
 else (x, { w with job := pubW (logS x) w.tok, ins := covL (logS x) ((pubW (logS x) w.tok).tier - 1) (pubW (logS x) w.tok).f (pubW (logS x) w.tok).t, got := default, ph := 4 }, 0)
 else (x, wkR w.id, 13) := by unfold stepW; rw [if_neg (by omega), if_neg (by omega), if_neg (by omega), if_pos h]
theorem stepW_4 {x : Sto} {w : Wk} {now : Int} (h : w.ph = 4) : stepW x w now = match w.ins with
 | [] => (x, { w with ph := 5 }, 0)
 | e :: l => if (winR x e w.job.f w.job.t w.got).2 = 0 then (x, { w with got := (winR x e w.job.f w.job.t w.got).1, ins := l, ph := if l = [] then 5 else 4 }, 0) else (x, wkR w.id, (winR x e w.job.f w.job.t w.got).2) := by
 unfold stepW; rw [if_neg (by omega), if_neg (by omega), if_neg (by omega), if_neg (by omega), if_pos h]; try rfl
theorem stepW_5 {x : Sto} {w : Wk} {now : Int} (h : w.ph = 5) : stepW x w now = (if (x.putA w.job.key (bksText (bkt w.job.f w.got))).2 = 0 ∨ (x.putA w.job.key (bksText (bkt w.job.f w.got))).2 = 9 then ((x.putA w.job.key (bksText (bkt w.job.f w.got))).1, { w with ph := 6 }, 0) else (x, wkR w.id, (x.putA w.job.key (bksText (bkt w.job.f w.got))).2)) := by
 unfold stepW; rw [if_neg (by omega), if_neg (by omega), if_neg (by omega), if_neg (by omega), if_neg (by omega), if_pos h]
theorem stepW_6 {x : Sto} {w : Wk} {now : Int} (h : w.ph = 6) : stepW x w now = if (logS x).fence = w.tok then
 (if (appS x ((logS x).seq + 1) w.job).2 = 0 then ((appS x ((logS x).seq + 1) w.job).1, { w with job := default, got := default, ph := 3 }, 0) else (x, wkR w.id, (appS x ((logS x).seq + 1) w.job).2))
 else (x, wkR w.id, 13) := by
 unfold stepW; rw [if_neg (by omega), if_neg (by omega), if_neg (by omega), if_neg (by omega), if_neg (by omega), if_neg (by omega), if_pos h]
theorem stepW_7 {x : Sto} {w : Wk} {now : Int} (h : w.ph = 7) : stepW x w now = (if (x.chg w.id w.tok 0).2 = 0 then ((x.chg w.id w.tok 0).1, wkR w.id, 0) else (x, wkR w.id, (x.chg w.id w.tok 0).2)) := by
 unfold stepW; rw [if_neg (by omega), if_neg (by omega), if_neg (by omega), if_neg (by omega), if_neg (by omega), if_neg (by omega), if_neg (by omega)]
structure WkW (x : Sto) (w : Wk) (now : Int) : Prop where
 hs : x.ok = true
 hw : w.ok = true
 hn : 0 ≤ now ∧ now ≤ 101000
 win : w.ph = 4 → ∀ e l, w.ins = e :: l → x.has e.key = true → WinOK x e w.job.f w.job.t w.got
 hi : 0 ≤ (logS x).h2 ∧ (logS x).h2 ≤ (logS x).h1 ∧ (logS x).h1 ≤ (logS x).h0 ∧ (logS x).h0 ≤ 100000
section
variable {x : Sto} {w : Wk} {now : Int}
theorem wstep0_fn (H : WkW x w now) (h0 : w.ph = 0) : ResW (VFn Tryz.prog 37 [w.av, x.av, .int .i64 now]) (stepW x w now) := by
 have cl := log_fn x H.hs
 have cd := due_fn (logS x) (by have := H.hi; omega) (by have := H.hi; omega) (by have := H.hi; omega)
 have ce := expired_fn (logS x) now (by have := H.hn; omega) (logS_ok x)
 have e : stepW x w now = if dueT (logS x).h0 (logS x).h1 (logS x).h2 = 0 ∧ (expR (logS x) now).2 = false then (x, w, 18) else (x, { w with ph := 1 }, 0) := by unfold stepW; rw [if_pos h0]
 rw [e]
 clear e
 generalize dueT (logS x).h0 (logS x).h1 (logS x).h2 = d at *
 generalize dueF (logS x).h0 (logS x).h1 (logS x).h2 = df at *
 generalize expR (logS x) now = E at *
 by_cases hc : d = 0 ∧ E.2 = false
 · rw [if_pos hc]
   refine ResW.code x w (by decide) ?_
   rw [hc.2] at ce
   rw [hc.1] at cd
   refine VFn.introC Tryz.call37 Tryz.func37 rfl rfl ?_
   refine Grd.intro (fun _ => ?_) (fun h => absurd h0 (of_decide_eq_false h))
   conv => whnf
   refine CallC.nl _ (cl) ?_ ?_
   · exact rfl
   conv => whnf
   refine CallC.sca _ (cd) ?_ ?_
   · exact rfl
   conv => whnf
   refine CallC.sca _ (ce) ?_ ?_
   · exact rfl
   refine DrawC.mkQ 5 [(.inl 2, 2), (.inl 3, 3)] rfl (by kernel_rfl) ?_
   refine And.intro rfl ?_
   exact And.intro trivial (AVle.refl _)
 · rw [if_neg hc]
   refine ResW.zero ?_
   have grd : ∀ p q : Bool, p = (!decide (d = 0)) → q = E.2 → (p = false → q = false → False) := fun p q e1 e2 h1 h2 => hc ⟨by rw [e1] at h1; simpa using h1, by rw [← e2]; exact h2⟩
   refine VFn.introC Tryz.call37 Tryz.func37 rfl rfl ?_
   refine Grd.intro (fun _ => ?_) (fun h => absurd (show ¬ w.ph = 0 from of_decide_eq_false h) (by omega))
   conv => whnf
   refine CallC.nl _ (cl) ?_ ?_
   · exact rfl
   conv => whnf
   refine CallC.sca _ (cd) ?_ ?_
   · exact rfl
   conv => whnf
   refine CallC.sca _ (ce) ?_ ?_
   · exact rfl
   conv => whnf
   refine Grd.intro (fun h1 => ?_) (fun h1 => ?_)
   · refine Grd.intro (fun h2 => ?_) (fun h2 => ?_)
     · exfalso; simp_all
     · refine DrawC.mkQ 6 [(.inl 2, 3), (.inl 3, 4)] rfl (by kernel_rfl) ?_
       refine And.intro rfl ?_
       exact And.intro trivial (AVle.refl _)
   · refine DrawC.mkQ 6 [(.inl 2, 3), (.inl 3, 4)] rfl (by kernel_rfl) ?_
     refine And.intro rfl ?_
     exact And.intro trivial (AVle.refl _)
theorem wstep1_fn (H : WkW x w now) (h1 : w.ph = 1) : ResW (VFn Tryz.prog 37 [w.av, x.av, .int .i64 now]) (stepW x w now) := by
 have F := (wk_iff w).1 H.hw
 have ca := acquire_fn x H.hs w.id now (by simp [within]; exact F.id) H.hn
 have e : stepW x w now = if acqR x w.id now = 0 then (acqS x w.id now, { w with tok := acqT x w.id now, ph := 2 }, 0) else (x, wkR w.id, acqR x w.id now) := by unfold stepW; rw [if_neg (by omega), if_pos h1]
 rw [e]
 clear e
 generalize acqR x w.id now = c at *
 by_cases hc : c = 0
 · rw [if_pos hc]
   refine ResW.zero ?_
   subst hc
   refine VFn.introC Tryz.call37 Tryz.func37 rfl rfl ?_
   refine Grd.intro (fun h => absurd (of_decide_eq_true h) (by omega)) (fun _ => ?_)
   refine Grd.intro (fun _ => ?_) (fun h => absurd (show ¬ w.ph = 1 from of_decide_eq_false h) (by omega))
   conv => whnf
   refine CallC.nl _ (ca) ?_ ?_
   · exact rfl
   conv => whnf
   refine DrawC.mkQ 6 [(.inl 2, 3), (.inl 3, 4)] rfl (by kernel_rfl) ?_
   refine And.intro rfl ?_
   exact And.intro trivial (AVle.refl _)
 · rw [if_neg hc]
   refine ResW.code (acqS x w.id now) { w with tok := acqT x w.id now, ph := 2 } hc ?_
   refine VFn.introC Tryz.call37 Tryz.func37 rfl rfl ?_
   refine Grd.intro (fun h => absurd (of_decide_eq_true h) (by omega)) (fun _ => ?_)
   refine Grd.intro (fun _ => ?_) (fun h => absurd (show ¬ w.ph = 1 from of_decide_eq_false h) (by omega))
   conv => whnf
   refine CallC.nl _ (ca) ?_ ?_
   · exact rfl
   conv => whnf
   refine DrawC.mkQ 6 [(.inl 2, 3), (.inl 3, 4)] rfl (by kernel_rfl) ?_
   refine And.intro rfl ?_
   exact And.intro trivial (AVle.refl _)
theorem wstep2_fn (H : WkW x w now) (h2 : w.ph = 2) : ResW (VFn Tryz.prog 37 [w.av, x.av, .int .i64 now]) (stepW x w now) := by
 have F := (wk_iff w).1 H.hw
 have ht := F.t1 (by omega)
 have hb := F.tok
 have cl := log_fn x H.hs
 have lb := log_b x
 have cy := lay_fn x H.hs ((logS x).seq + 1) (by simp [within]; omega) (clmR w.tok) (clmR_okW (by omega))
 have e : stepW x w now = if (appS x ((logS x).seq + 1) (clmR w.tok)).2 = 0 then ((appS x ((logS x).seq + 1) (clmR w.tok)).1, { w with ph := 3 }, 0) else (x, wkR w.id, (appS x ((logS x).seq + 1) (clmR w.tok)).2) := by unfold stepW; rw [if_neg (by omega), if_neg (by omega), if_pos h2]
 rw [e]
 clear e
 generalize appS x ((logS x).seq + 1) (clmR w.tok) = p at *
 by_cases hc : p.2 = 0
 · rw [if_pos hc]
   refine ResW.zero ?_
   rw [hc] at cy
   refine VFn.introC Tryz.call37 Tryz.func37 rfl rfl ?_
   refine Grd.intro (fun h => absurd (of_decide_eq_true h) (by omega)) (fun _ => ?_)
   refine Grd.intro (fun h => absurd (of_decide_eq_true h) (by omega)) (fun _ => ?_)
   refine Grd.intro (fun _ => ?_) (fun h => absurd (show ¬ w.ph = 2 from of_decide_eq_false h) (by omega))
   refine DrawC.mkR 14 [(.inl 1, 12)] [(1, 0), (1, 1)] rfl (by kernel_rfl) ?_
   refine And.intro (And.intro (by kernel_rfl) (by kernel_rfl)) ?_
   refine PCallQ.nl _ (cl) rfl ?_
   refine And.intro (show inI .i64 ((logS x).seq + 1) from inI64 (by omega) (by omega)) ?_
   refine PCallQ.nl _ (cy) rfl ?_
   conv => whnf
   refine DrawC.mkQ 6 [(.inl 2, 3), (.inl 3, 4)] rfl (by kernel_rfl) ?_
   refine And.intro rfl ?_
   exact And.intro trivial (AVle.refl _)
 · rw [if_neg hc]
   refine ResW.code p.1 { w with ph := 3 } hc ?_
   refine VFn.introC Tryz.call37 Tryz.func37 rfl rfl ?_
   refine Grd.intro (fun h => absurd (of_decide_eq_true h) (by omega)) (fun _ => ?_)
   refine Grd.intro (fun h => absurd (of_decide_eq_true h) (by omega)) (fun _ => ?_)
   refine Grd.intro (fun _ => ?_) (fun h => absurd (show ¬ w.ph = 2 from of_decide_eq_false h) (by omega))
   refine DrawC.mkR 14 [(.inl 1, 12)] [(1, 0), (1, 1)] rfl (by kernel_rfl) ?_
   refine And.intro (And.intro (by kernel_rfl) (by kernel_rfl)) ?_
   refine PCallQ.nl _ (cl) rfl ?_
   refine And.intro (show inI .i64 ((logS x).seq + 1) from inI64 (by omega) (by omega)) ?_
   refine PCallQ.nl _ (cy) rfl ?_
   conv => whnf
   refine DrawC.mkQ 6 [(.inl 2, 3), (.inl 3, 4)] rfl (by kernel_rfl) ?_
   refine And.intro rfl ?_
   exact And.intro trivial (AVle.refl _)
theorem wstep3_fn (H : WkW x w now) (h3 : w.ph = 3) : ResW (VFn Tryz.prog 37 [w.av, x.av, .int .i64 now]) (stepW x w now) := by
 have F := (wk_iff w).1 H.hw
 have ht := F.t1 (by omega)
 have hb := F.tok
 have hh := H.hi
 have cl := log_fn x H.hs
 have lb := log_b x
 have cd := due_fn (logS x) (by omega) (by omega) (by omega)
 have ce := expired_fn (logS x) now (by have := H.hn; omega) (logS_ok x)
 have e := stepW_3 (x := x) (w := w) (now := now) h3
 rw [e]
 clear e
 by_cases hf : (logS x).fence = w.tok
 rotate_left
 · rw [if_neg hf]
   refine ResW.code x w (by decide) ?_
   refine VFn.introC Tryz.call37 Tryz.func37 rfl rfl ?_
   refine Grd.intro (fun h => absurd (of_decide_eq_true h) (by omega)) (fun _ => ?_)
   refine Grd.intro (fun h => absurd (of_decide_eq_true h) (by omega)) (fun _ => ?_)
   refine Grd.intro (fun h => absurd (of_decide_eq_true h) (by omega)) (fun _ => ?_)
   refine Grd.intro (fun _ => ?_) (fun h => absurd (show ¬ w.ph = 3 from of_decide_eq_false h) (by omega))
   conv => whnf
   refine CallC.nl _ (cl) ?_ ?_
   · exact rfl
   refine Grd.intro (fun _ => ?_) (fun h => absurd (show (!decide ((logS x).fence = w.tok)) = false from h) (by simp [hf]))
   refine DrawC.mkQ 5 [(.inl 2, 2), (.inl 3, 3)] rfl (by kernel_rfl) ?_
   refine And.intro rfl ?_
   exact And.intro trivial (AVle.refl _)
 rw [if_pos hf]
 by_cases hd : dueT (logS x).h0 (logS x).h1 (logS x).h2 = 0
 · rw [if_pos hd]
   rw [hd] at cd
   generalize dueF (logS x).h0 (logS x).h1 (logS x).h2 = df at *
   generalize expR (logS x) now = E at *
   cases he : E.2 with
   | true =>
     rw [if_pos rfl]
     refine ResW.zero ?_
     rw [he] at ce
     refine VFn.introC Tryz.call37 Tryz.func37 rfl rfl ?_
     refine Grd.intro (fun h => absurd (of_decide_eq_true h) (by omega)) (fun _ => ?_)
     refine Grd.intro (fun h => absurd (of_decide_eq_true h) (by omega)) (fun _ => ?_)
     refine Grd.intro (fun h => absurd (of_decide_eq_true h) (by omega)) (fun _ => ?_)
     refine Grd.intro (fun _ => ?_) (fun h => absurd (show ¬ w.ph = 3 from of_decide_eq_false h) (by omega))
     conv => whnf
     refine CallC.nl _ (cl) ?_ ?_
     · exact rfl
     refine Grd.intro (fun h => absurd (show (!decide ((logS x).fence = w.tok)) = true from h) (by simp [hf])) (fun _ => ?_)
     conv => whnf
     refine CallC.sca _ (cd) ?_ ?_
     · exact rfl
     conv => whnf
     refine CallC.sca _ (ce) ?_ ?_
     · exact rfl
     conv => whnf
     refine DrawC.mkQ 6 [(.inl 2, 3), (.inl 3, 4)] rfl (by kernel_rfl) ?_
     refine And.intro rfl ?_
     exact And.intro trivial (AVle.refl _)
   | false =>
     rw [if_neg (by simp)]
     refine ResW.zero ?_
     rw [he] at ce
     refine VFn.introC Tryz.call37 Tryz.func37 rfl rfl ?_
     refine Grd.intro (fun h => absurd (of_decide_eq_true h) (by omega)) (fun _ => ?_)
     refine Grd.intro (fun h => absurd (of_decide_eq_true h) (by omega)) (fun _ => ?_)
     refine Grd.intro (fun h => absurd (of_decide_eq_true h) (by omega)) (fun _ => ?_)
     refine Grd.intro (fun _ => ?_) (fun h => absurd (show ¬ w.ph = 3 from of_decide_eq_false h) (by omega))
     conv => whnf
     refine CallC.nl _ (cl) ?_ ?_
     · exact rfl
     refine Grd.intro (fun h => absurd (show (!decide ((logS x).fence = w.tok)) = true from h) (by simp [hf])) (fun _ => ?_)
     conv => whnf
     refine CallC.sca _ (cd) ?_ ?_
     · exact rfl
     conv => whnf
     refine CallC.sca _ (ce) ?_ ?_
     · exact rfl
     conv => whnf
     refine DrawC.mkQ 6 [(.inl 2, 3), (.inl 3, 4)] rfl (by kernel_rfl) ?_
     refine And.intro rfl ?_
     exact And.intro trivial (AVle.refl _)
 · rw [if_neg hd]
   refine ResW.zero ?_
   rw [decide_eq_false hd] at cd
   have hdc : dueT (logS x).h0 (logS x).h1 (logS x).h2 = 1 ∨ dueT (logS x).h0 (logS x).h1 (logS x).h2 = 2 := by
    unfold dueT at hd ⊢
    split
    · exact .inl rfl
    · split
      · exact .inr rfl
      · rename_i a b; rw [if_neg a, if_neg b] at hd; exact absurd rfl hd
   have hfb : 0 ≤ dueF (logS x).h0 (logS x).h1 (logS x).h2 ∧ dueF (logS x).h0 (logS x).h1 (logS x).h2 ≤ 100000 := by
    unfold dueF
    split
    · omega
    · split <;> omega
   have hel : (logS x).es.length ≤ 1000000 := by omega
   unfold pubW
   simp only
   generalize dueT (logS x).h0 (logS x).h1 (logS x).h2 = t at *
   generalize dueF (logS x).h0 (logS x).h1 (logS x).h2 = df at *
   have cw := width_fn t (by omega)
   have hwd : 1 ≤ wd t ∧ wd t ≤ 20 := wd_b t
   have ck : VFn Tryz.prog 78 [.int .i64 t, .int .i64 df, .int .i64 w.tok] (.str (B (keyB t.toNat df.toNat w.tok.toNat))) := by
    have c := dataKey_fn t.toNat df w.tok (by omega) (by simp [within]; omega) (by simp [within]; omega)
    rw [show ((t.toNat : Nat) : Int) = t by omega] at c
    exact c
   have ct : VFn Tryz.prog 79 [(logS x).av, .int .i64 (t - 1), .int .i64 df, .int .i64 (df + wd t)] (ents (covL (logS x) (t - 1) df (df + wd t))) := (touching_own (logS x) (t - 1) df (df + wd t) hel).vfn
   refine VFn.introC Tryz.call37 Tryz.func37 rfl rfl ?_
   refine Grd.intro (fun h => absurd (of_decide_eq_true h) (by omega)) (fun _ => ?_)
   refine Grd.intro (fun h => absurd (of_decide_eq_true h) (by omega)) (fun _ => ?_)
   refine Grd.intro (fun h => absurd (of_decide_eq_true h) (by omega)) (fun _ => ?_)
   refine Grd.intro (fun _ => ?_) (fun h => absurd (show ¬ w.ph = 3 from of_decide_eq_false h) (by omega))
   conv => whnf
   refine CallC.nl _ (cl) ?_ ?_
   · exact rfl
   refine Grd.intro (fun h => absurd (show (!decide ((logS x).fence = w.tok)) = true from h) (by simp [hf])) (fun _ => ?_)
   conv => whnf
   refine CallC.sca _ (cd) ?_ ?_
   · exact rfl
   conv => whnf
   refine CallC.sca _ (cw) ?_ ?_
   · exact rfl
   refine And.intro (show inI .i64 (df + wd t) from inI64 (by omega) (by omega)) ?_
   conv => whnf
   refine DrawC.mkR 13 [(.inl 0, 12)] [(0, 1), (0, 8)] rfl (by kernel_rfl) ?_
   refine And.intro (And.intro (by kernel_rfl) (by kernel_rfl)) ?_
   refine PCallQ.sca _ (ck) rfl ?_
   refine And.intro (show inI .i64 (t - 1) from inI64 (by omega) (by omega)) ?_
   conv => whnf
   refine CallC.nl _ (ct) ?_ ?_
   · exact rfl
   conv => whnf
   refine DrawC.mkQ 6 [(.inl 2, 3), (.inl 3, 4)] rfl (by kernel_rfl) ?_
   refine And.intro rfl ?_
   exact And.intro trivial (AVle.refl _)
theorem wstep4_fn (H : WkW x w now) (h4 : w.ph = 4) : ResW (VFn Tryz.prog 37 [w.av, x.av, .int .i64 now]) (stepW x w now) := by
 have F := (wk_iff w).1 H.hw
 have e := stepW_4 (x := x) (w := w) (now := now) h4
 obtain ⟨j1, j2, j3⟩ := F.job (.inl h4)
 have jk : w.job.k = 3 := by rcases j3 with h | h; · exact h
                             · omega
 have ek := (rc_tier j1).2.1 jk
 have ee := (en_tier ek.2).2
 have ee3 : w.job.t ≤ 100000 := ee.2.2.1
 have ee1 : 0 ≤ w.job.f := ee.1
 have ee2 : w.job.f < w.job.t := ee.2.1
 rw [e]
 clear e
 cases hi : w.ins with
 | nil =>
   simp only
   refine ResW.zero ?_
   refine VFn.introC Tryz.call37 Tryz.func37 rfl rfl ?_
   refine Grd.intro (fun h => absurd (of_decide_eq_true h) (by omega)) (fun _ => ?_)
   refine Grd.intro (fun h => absurd (of_decide_eq_true h) (by omega)) (fun _ => ?_)
   refine Grd.intro (fun h => absurd (of_decide_eq_true h) (by omega)) (fun _ => ?_)
   refine Grd.intro (fun h => absurd (of_decide_eq_true h) (by omega)) (fun _ => ?_)
   refine Grd.intro (fun _ => ?_) (fun h => absurd (show ¬ w.ph = 4 from of_decide_eq_false h) (by omega))
   refine Grd.intro (fun h => absurd (show (0 : Int) < (w.ins.length : Int) from of_decide_eq_true h) (by rw [hi]; simp)) (fun _ => ?_)
   refine Grd.intro (fun _ => ?_) (fun h => absurd (show ¬ (w.ins.length : Int) = 0 from of_decide_eq_false h) (by rw [hi]; simp))
   conv => whnf
   refine DrawC.mkQ 6 [(.inl 2, 3), (.inl 3, 4)] rfl (by kernel_rfl) ?_
   refine And.intro rfl ?_
   have h0 : AVle (ents w.ins) (ents []) := AVle.sl (by rw [hi]) (fun i h => absurd h (by rw [hi]; simp))
   have c1 : ∀ (a : AV) {l m : List AV}, AVsle l m → AVsle (a :: l) (a :: m) := fun a _ _ h => AVsle.cons (AVle.refl a) h
   exact And.intro trivial (AVle.tup (c1 _ (AVsle.cons (AVle.agg (c1 _ (c1 _ (c1 _ (c1 _ (c1 _ (c1 _ (c1 _ (c1 _ (c1 _ (AVsle.cons h0 (AVsle.refl _)))))))))))) (AVsle.refl _))))
 | cons e l =>
   simp only
   have hll : w.ins.length = l.length + 1 := by rw [hi]; rfl
   have cw := window_fn x H.hs e w.job.f w.job.t (inI64 (by omega) (by omega)) w.got (H.win h4 e l hi)
   generalize winR x e w.job.f w.job.t w.got = W at *
   have he : ix w.ins 0 = e := by rw [hi]; rfl
   rw [← he] at cw
   have hs2 : AVle (.sl 4 (w.ins.length - Int.toNat 1) fun i => (ix w.ins (Int.toNat 1 + i)).row) (ents l) := AVle.sl (show w.ins.length - Int.toNat 1 = l.length by rw [hll]; rfl) (fun i hi' => by
    rw [hi, show Int.toNat 1 + i = i + 1 by rw [show Int.toNat 1 = 1 from rfl]; omega]
    rfl)
   have c1 : ∀ (a : AV) {l m : List AV}, AVsle l m → AVsle (a :: l) (a :: m) := fun a _ _ h => AVsle.cons (AVle.refl a) h
   by_cases hc : W.2 = 0
   · rw [if_pos hc]
     refine ResW.zero ?_
     rw [hc] at cw
     refine VFn.introC Tryz.call37 Tryz.func37 rfl rfl ?_
     refine Grd.intro (fun h => absurd (of_decide_eq_true h) (by omega)) (fun _ => ?_)
     refine Grd.intro (fun h => absurd (of_decide_eq_true h) (by omega)) (fun _ => ?_)
     refine Grd.intro (fun h => absurd (of_decide_eq_true h) (by omega)) (fun _ => ?_)
     refine Grd.intro (fun h => absurd (of_decide_eq_true h) (by omega)) (fun _ => ?_)
     refine Grd.intro (fun _ => ?_) (fun h => absurd (show ¬ w.ph = 4 from of_decide_eq_false h) (by omega))
     refine Grd.intro (fun _ => ?_) (fun h => absurd (show ¬ (0 : Int) < (w.ins.length : Int) from of_decide_eq_false h) (by rw [hll]; omega))
     refine DrawC.mkR 20 [(.inl 0, 18)] [(0, 2), (0, 7), (0, 10), (0, 12)] rfl (by kernel_rfl) ?_
     refine And.intro (And.intro (by kernel_rfl) (by kernel_rfl)) ?_
     refine And.intro (show (0 : Int) ≤ 0 ∧ (0 : Int) < (w.ins.length : Int) by omega) ?_
     refine PCallQ.nl _ (cw) rfl ?_
     conv => whnf
     refine And.intro ⟨by omega, by omega⟩ ?_
     by_cases hn : l = []
     · rw [if_pos hn]
       refine Grd.intro (fun _ => ?_) (fun h => absurd (show ¬ ((w.ins.length - Int.toNat 1 : Nat) : Int) = 0 from of_decide_eq_false h) (fun q => q (by rw [hll, hn]; rfl)))
       conv => whnf
       refine DrawC.mkQ 6 [(.inl 2, 3), (.inl 3, 4)] rfl (by kernel_rfl) ?_
       refine And.intro rfl ?_
       exact And.intro trivial (AVle.tup (c1 _ (AVsle.cons (AVle.agg (c1 _ (c1 _ (c1 _ (c1 _ (c1 _ (c1 _ (c1 _ (c1 _ (c1 _ (AVsle.cons hs2 (AVsle.refl _)))))))))))) (AVsle.refl _))))
     · rw [if_neg hn]
       have hl0 : l.length ≠ 0 := fun q => hn (List.length_eq_zero_iff.1 q)
       refine Grd.intro (fun h => absurd (show ((w.ins.length - Int.toNat 1 : Nat) : Int) = 0 from of_decide_eq_true h) (fun q => hl0 (by rw [hll, show Int.toNat 1 = 1 from rfl] at q; omega))) (fun _ => ?_)
       conv => whnf
       refine DrawC.mkQ 6 [(.inl 2, 3), (.inl 3, 4)] rfl (by kernel_rfl) ?_
       refine And.intro rfl ?_
       rw [← h4]
       exact And.intro trivial (AVle.tup (c1 _ (AVsle.cons (AVle.agg (c1 _ (c1 _ (c1 _ (c1 _ (c1 _ (c1 _ (c1 _ (c1 _ (c1 _ (AVsle.cons hs2 (AVsle.refl _)))))))))))) (AVsle.refl _))))
   · rw [if_neg hc]
     refine ResW.code x { w with got := W.1, ins := l, ph := if l = [] then 5 else 4 } hc ?_
     refine VFn.introC Tryz.call37 Tryz.func37 rfl rfl ?_
     refine Grd.intro (fun h => absurd (of_decide_eq_true h) (by omega)) (fun _ => ?_)
     refine Grd.intro (fun h => absurd (of_decide_eq_true h) (by omega)) (fun _ => ?_)
     refine Grd.intro (fun h => absurd (of_decide_eq_true h) (by omega)) (fun _ => ?_)
     refine Grd.intro (fun h => absurd (of_decide_eq_true h) (by omega)) (fun _ => ?_)
     refine Grd.intro (fun _ => ?_) (fun h => absurd (show ¬ w.ph = 4 from of_decide_eq_false h) (by omega))
     refine Grd.intro (fun _ => ?_) (fun h => absurd (show ¬ (0 : Int) < (w.ins.length : Int) from of_decide_eq_false h) (by rw [hll]; omega))
     refine DrawC.mkR 20 [(.inl 0, 18)] [(0, 2), (0, 7), (0, 10), (0, 12)] rfl (by kernel_rfl) ?_
     refine And.intro (And.intro (by kernel_rfl) (by kernel_rfl)) ?_
     refine And.intro (show (0 : Int) ≤ 0 ∧ (0 : Int) < (w.ins.length : Int) by omega) ?_
     refine PCallQ.nl _ (cw) rfl ?_
     conv => whnf
     refine And.intro ⟨by omega, by omega⟩ ?_
     by_cases hn : l = []
     · rw [if_pos hn]
       refine Grd.intro (fun _ => ?_) (fun h => absurd (show ¬ ((w.ins.length - Int.toNat 1 : Nat) : Int) = 0 from of_decide_eq_false h) (fun q => q (by rw [hll, hn]; rfl)))
       conv => whnf
       refine DrawC.mkQ 6 [(.inl 2, 3), (.inl 3, 4)] rfl (by kernel_rfl) ?_
       refine And.intro rfl ?_
       exact And.intro trivial (AVle.tup (c1 _ (AVsle.cons (AVle.agg (c1 _ (c1 _ (c1 _ (c1 _ (c1 _ (c1 _ (c1 _ (c1 _ (c1 _ (AVsle.cons hs2 (AVsle.refl _)))))))))))) (AVsle.refl _))))
     · rw [if_neg hn]
       have hl0 : l.length ≠ 0 := fun q => hn (List.length_eq_zero_iff.1 q)
       refine Grd.intro (fun h => absurd (show ((w.ins.length - Int.toNat 1 : Nat) : Int) = 0 from of_decide_eq_true h) (fun q => hl0 (by rw [hll, show Int.toNat 1 = 1 from rfl] at q; omega))) (fun _ => ?_)
       conv => whnf
       refine DrawC.mkQ 6 [(.inl 2, 3), (.inl 3, 4)] rfl (by kernel_rfl) ?_
       refine And.intro rfl ?_
       rw [← h4]
       exact And.intro trivial (AVle.tup (c1 _ (AVsle.cons (AVle.agg (c1 _ (c1 _ (c1 _ (c1 _ (c1 _ (c1 _ (c1 _ (c1 _ (c1 _ (AVsle.cons hs2 (AVsle.refl _)))))))))))) (AVsle.refl _))))
theorem wstep5_fn (H : WkW x w now) (h5 : w.ph = 5) : ResW (VFn Tryz.prog 37 [w.av, x.av, .int .i64 now]) (stepW x w now) := by
 have F := (wk_iff w).1 H.hw
 obtain ⟨j1, j2, j3⟩ := F.job (.inr (.inl h5))
 have jk : w.job.k = 3 := by rcases j3 with h | h; · exact h
                             · omega
 have ek := (rc_tier j1).2.1 jk
 have ee := (en_tier ek.2).2
 have ee3 : w.job.t ≤ 100000 := ee.2.2.1
 have ee1 : 0 ≤ w.job.f := ee.1
 have ee2 : w.job.f < w.job.t := ee.2.1
 have hbk := bkt_ok (f := w.job.f) (A := w.got) (by omega) F.got.1
 have cb := bucketOf_fn w.job.f w.got
 have ct := bucketsText_fn (bkt w.job.f w.got) (bks_8 hbk) (bksOK_ok hbk)
 have hT : (bksText (bkt w.job.f w.got)).length ≤ 1000000000 := bktT_len (bksOK_ok hbk)
 have cp := putAbsent_fn x H.hs w.job.key (bksText (bkt w.job.f w.got)) hT
 have e := stepW_5 (x := x) (w := w) (now := now) h5
 rw [e]
 clear e hT
 generalize bksText (bkt w.job.f w.got) = T at *
 generalize (if x.has w.job.key = true ∨ x.room w.job.key T ≠ 0 then (0 : Int) else x.next) = nx at *
 generalize x.putA w.job.key T = p at *
 by_cases h9 : p.2 = 9
 · rw [if_pos (.inr h9)]
   refine ResW.zero ?_
   rw [h9] at cp
   refine VFn.introC Tryz.call37 Tryz.func37 rfl rfl ?_
   refine Grd.intro (fun h => absurd (of_decide_eq_true h) (by omega)) (fun _ => ?_)
   refine Grd.intro (fun h => absurd (of_decide_eq_true h) (by omega)) (fun _ => ?_)
   refine Grd.intro (fun h => absurd (of_decide_eq_true h) (by omega)) (fun _ => ?_)
   refine Grd.intro (fun h => absurd (of_decide_eq_true h) (by omega)) (fun _ => ?_)
   refine Grd.intro (fun h => absurd (of_decide_eq_true h) (by omega)) (fun _ => ?_)
   refine Grd.intro (fun _ => ?_) (fun h => absurd (show ¬ w.ph = 5 from of_decide_eq_false h) (by omega))
   refine DrawC.mkR 18 [(.inl 1, 16)] [(1, 0)] rfl (by kernel_rfl) ?_
   refine And.intro (And.intro (by kernel_rfl) (by kernel_rfl)) ?_
   refine PCallQ.nl _ (cb) rfl ?_
   refine PCallQ.sca _ (ct) rfl ?_
   refine PCallQ.nl _ (cp) rfl ?_
   conv => whnf
   refine DrawC.mkQ 6 [(.inl 2, 3), (.inl 3, 4)] rfl (by kernel_rfl) ?_
   refine And.intro rfl ?_
   exact And.intro trivial (AVle.refl _)
 by_cases h0 : p.2 = 0
 · rw [if_pos (.inl h0)]
   refine ResW.zero ?_
   rw [h0] at cp
   refine VFn.introC Tryz.call37 Tryz.func37 rfl rfl ?_
   refine Grd.intro (fun h => absurd (of_decide_eq_true h) (by omega)) (fun _ => ?_)
   refine Grd.intro (fun h => absurd (of_decide_eq_true h) (by omega)) (fun _ => ?_)
   refine Grd.intro (fun h => absurd (of_decide_eq_true h) (by omega)) (fun _ => ?_)
   refine Grd.intro (fun h => absurd (of_decide_eq_true h) (by omega)) (fun _ => ?_)
   refine Grd.intro (fun h => absurd (of_decide_eq_true h) (by omega)) (fun _ => ?_)
   refine Grd.intro (fun _ => ?_) (fun h => absurd (show ¬ w.ph = 5 from of_decide_eq_false h) (by omega))
   refine DrawC.mkR 18 [(.inl 1, 16)] [(1, 0)] rfl (by kernel_rfl) ?_
   refine And.intro (And.intro (by kernel_rfl) (by kernel_rfl)) ?_
   refine PCallQ.nl _ (cb) rfl ?_
   refine PCallQ.sca _ (ct) rfl ?_
   refine PCallQ.nl _ (cp) rfl ?_
   conv => whnf
   refine DrawC.mkQ 6 [(.inl 2, 3), (.inl 3, 4)] rfl (by kernel_rfl) ?_
   refine And.intro rfl ?_
   exact And.intro trivial (AVle.refl _)
 · rw [if_neg (by rintro (g | g); exact h0 g; exact h9 g)]
   refine ResW.code p.1 { w with ph := 6 } h0 ?_
   refine VFn.introC Tryz.call37 Tryz.func37 rfl rfl ?_
   refine Grd.intro (fun h => absurd (of_decide_eq_true h) (by omega)) (fun _ => ?_)
   refine Grd.intro (fun h => absurd (of_decide_eq_true h) (by omega)) (fun _ => ?_)
   refine Grd.intro (fun h => absurd (of_decide_eq_true h) (by omega)) (fun _ => ?_)
   refine Grd.intro (fun h => absurd (of_decide_eq_true h) (by omega)) (fun _ => ?_)
   refine Grd.intro (fun h => absurd (of_decide_eq_true h) (by omega)) (fun _ => ?_)
   refine Grd.intro (fun _ => ?_) (fun h => absurd (show ¬ w.ph = 5 from of_decide_eq_false h) (by omega))
   refine DrawC.mkR 18 [(.inl 1, 16)] [(1, 0)] rfl (by kernel_rfl) ?_
   refine And.intro (And.intro (by kernel_rfl) (by kernel_rfl)) ?_
   refine PCallQ.nl _ (cb) rfl ?_
   refine PCallQ.sca _ (ct) rfl ?_
   refine PCallQ.nl _ (cp) rfl ?_
   conv => whnf
   refine Grd.intro (fun h => absurd (of_decide_eq_true h) h9) (fun _ => ?_)
   conv => whnf
   refine DrawC.mkQ 6 [(.inl 2, 3), (.inl 3, 4)] rfl (by kernel_rfl) ?_
   refine And.intro rfl ?_
   exact And.intro trivial (AVle.refl _)
theorem wstep6_fn (H : WkW x w now) (h6 : w.ph = 6) : ResW (VFn Tryz.prog 37 [w.av, x.av, .int .i64 now]) (stepW x w now) := by
 have F := (wk_iff w).1 H.hw
 obtain ⟨j1, j2, j3⟩ := F.job (.inr (.inr h6))
 have cl := log_fn x H.hs
 have lb := log_b x
 have cy := lay_fn x H.hs ((logS x).seq + 1) (by simp [within]; omega) w.job j1
 have e := stepW_6 (x := x) (w := w) (now := now) h6
 rw [e]
 clear e
 generalize appS x ((logS x).seq + 1) w.job = p at *
 by_cases hf : (logS x).fence = w.tok
 rotate_left
 · rw [if_neg hf]
   refine ResW.code x w (by decide) ?_
   refine VFn.introC Tryz.call37 Tryz.func37 rfl rfl ?_
   refine Grd.intro (fun h => absurd (of_decide_eq_true h) (by omega)) (fun _ => ?_)
   refine Grd.intro (fun h => absurd (of_decide_eq_true h) (by omega)) (fun _ => ?_)
   refine Grd.intro (fun h => absurd (of_decide_eq_true h) (by omega)) (fun _ => ?_)
   refine Grd.intro (fun h => absurd (of_decide_eq_true h) (by omega)) (fun _ => ?_)
   refine Grd.intro (fun h => absurd (of_decide_eq_true h) (by omega)) (fun _ => ?_)
   refine Grd.intro (fun h => absurd (of_decide_eq_true h) (by omega)) (fun _ => ?_)
   refine Grd.intro (fun _ => ?_) (fun h => absurd (show ¬ w.ph = 6 from of_decide_eq_false h) (by omega))
   conv => whnf
   refine CallC.nl _ (cl) ?_ ?_
   · exact rfl
   refine Grd.intro (fun _ => ?_) (fun h => absurd (show (!decide ((logS x).fence = w.tok)) = false from h) (by simp [hf]))
   refine DrawC.mkQ 5 [(.inl 2, 2), (.inl 3, 3)] rfl (by kernel_rfl) ?_
   refine And.intro rfl ?_
   exact And.intro trivial (AVle.refl _)
 rw [if_pos hf]
 by_cases hc : p.2 = 0
 · rw [if_pos hc]
   refine ResW.zero ?_
   rw [hc] at cy
   refine VFn.introC Tryz.call37 Tryz.func37 rfl rfl ?_
   refine Grd.intro (fun h => absurd (of_decide_eq_true h) (by omega)) (fun _ => ?_)
   refine Grd.intro (fun h => absurd (of_decide_eq_true h) (by omega)) (fun _ => ?_)
   refine Grd.intro (fun h => absurd (of_decide_eq_true h) (by omega)) (fun _ => ?_)
   refine Grd.intro (fun h => absurd (of_decide_eq_true h) (by omega)) (fun _ => ?_)
   refine Grd.intro (fun h => absurd (of_decide_eq_true h) (by omega)) (fun _ => ?_)
   refine Grd.intro (fun h => absurd (of_decide_eq_true h) (by omega)) (fun _ => ?_)
   refine Grd.intro (fun _ => ?_) (fun h => absurd (show ¬ w.ph = 6 from of_decide_eq_false h) (by omega))
   conv => whnf
   refine CallC.nl _ (cl) ?_ ?_
   · exact rfl
   refine Grd.intro (fun h => absurd (show (!decide ((logS x).fence = w.tok)) = true from h) (by simp [hf])) (fun _ => ?_)
   refine And.intro (show inI .i64 ((logS x).seq + 1) from inI64 (by omega) (by omega)) ?_
   conv => whnf
   refine CallC.nl _ (cy) ?_ ?_
   · exact rfl
   conv => whnf
   refine DrawC.mkQ 6 [(.inl 2, 3), (.inl 3, 4)] rfl (by kernel_rfl) ?_
   refine And.intro rfl ?_
   exact And.intro trivial (AVle.refl _)
 · rw [if_neg hc]
   refine ResW.code p.1 { w with job := default, got := default, ph := 3 } hc ?_
   refine VFn.introC Tryz.call37 Tryz.func37 rfl rfl ?_
   refine Grd.intro (fun h => absurd (of_decide_eq_true h) (by omega)) (fun _ => ?_)
   refine Grd.intro (fun h => absurd (of_decide_eq_true h) (by omega)) (fun _ => ?_)
   refine Grd.intro (fun h => absurd (of_decide_eq_true h) (by omega)) (fun _ => ?_)
   refine Grd.intro (fun h => absurd (of_decide_eq_true h) (by omega)) (fun _ => ?_)
   refine Grd.intro (fun h => absurd (of_decide_eq_true h) (by omega)) (fun _ => ?_)
   refine Grd.intro (fun h => absurd (of_decide_eq_true h) (by omega)) (fun _ => ?_)
   refine Grd.intro (fun _ => ?_) (fun h => absurd (show ¬ w.ph = 6 from of_decide_eq_false h) (by omega))
   conv => whnf
   refine CallC.nl _ (cl) ?_ ?_
   · exact rfl
   refine Grd.intro (fun h => absurd (show (!decide ((logS x).fence = w.tok)) = true from h) (by simp [hf])) (fun _ => ?_)
   refine And.intro (show inI .i64 ((logS x).seq + 1) from inI64 (by omega) (by omega)) ?_
   conv => whnf
   refine CallC.nl _ (cy) ?_ ?_
   · exact rfl
   conv => whnf
   refine DrawC.mkQ 6 [(.inl 2, 3), (.inl 3, 4)] rfl (by kernel_rfl) ?_
   refine And.intro rfl ?_
   exact And.intro trivial (AVle.refl _)
theorem nilW (id ph tok : Int) (j : Rc) (g : Ag) : AVle (.agg [.int .i64 id, .int .i64 ph, .int .i64 tok, .int .i64 j.k, .int .i64 j.tok, .int .i64 j.tier, .int .i64 j.f, .int .i64 j.t, .str (B j.key), .nilsl, .int .i64 g.c, .int .i64 g.s, .int .i64 g.mn, .int .i64 g.mx, .int .i64 g.f, .int .i64 g.l]) (Wk.mk id ph tok j [] g).av :=
 AVle.agg (AVsle.cons (AVle.refl _) (AVsle.cons (AVle.refl _) (AVsle.cons (AVle.refl _) (AVsle.cons (AVle.refl _) (AVsle.cons (AVle.refl _) (AVsle.cons (AVle.refl _) (AVsle.cons (AVle.refl _) (AVsle.cons (AVle.refl _) (AVsle.cons (AVle.refl _) (AVsle.cons (AVle.nilsl _ _ rfl) (AVsle.refl _)))))))))))
theorem wstep7_fn (H : WkW x w now) (h7 : w.ph = 7) : ResW (VFn Tryz.prog 37 [w.av, x.av, .int .i64 now]) (stepW x w now) := by
 have ct := till_fn x H.hs w.id w.tok 0 (by omega)
 have e := stepW_7 (x := x) (w := w) (now := now) h7
 rw [e]
 clear e
 generalize x.chg w.id w.tok 0 = p at *
 by_cases hc : p.2 = 0
 · rw [if_pos hc]
   refine ResW.zero ?_
   rw [hc] at ct
   refine VFn.introC Tryz.call37 Tryz.func37 rfl rfl ?_
   refine Grd.intro (fun h => absurd (of_decide_eq_true h) (by omega)) (fun _ => ?_)
   refine Grd.intro (fun h => absurd (of_decide_eq_true h) (by omega)) (fun _ => ?_)
   refine Grd.intro (fun h => absurd (of_decide_eq_true h) (by omega)) (fun _ => ?_)
   refine Grd.intro (fun h => absurd (of_decide_eq_true h) (by omega)) (fun _ => ?_)
   refine Grd.intro (fun h => absurd (of_decide_eq_true h) (by omega)) (fun _ => ?_)
   refine Grd.intro (fun h => absurd (of_decide_eq_true h) (by omega)) (fun _ => ?_)
   refine Grd.intro (fun h => absurd (of_decide_eq_true h) (by omega)) (fun _ => ?_)
   conv => whnf
   refine CallC.nl _ (ct) ?_ ?_
   · exact rfl
   conv => whnf
   refine DrawC.mkQ 6 [(.inl 2, 3), (.inl 3, 4)] rfl (by kernel_rfl) ?_
   refine And.intro rfl ?_
   exact And.intro trivial (AVle.tup (AVsle.cons (AVle.refl _) (AVsle.cons (nilW _ _ _ default default) (AVsle.refl _))))
 · rw [if_neg hc]
   refine ResW.code p.1 (wkR w.id) hc ?_
   refine VFn.introC Tryz.call37 Tryz.func37 rfl rfl ?_
   refine Grd.intro (fun h => absurd (of_decide_eq_true h) (by omega)) (fun _ => ?_)
   refine Grd.intro (fun h => absurd (of_decide_eq_true h) (by omega)) (fun _ => ?_)
   refine Grd.intro (fun h => absurd (of_decide_eq_true h) (by omega)) (fun _ => ?_)
   refine Grd.intro (fun h => absurd (of_decide_eq_true h) (by omega)) (fun _ => ?_)
   refine Grd.intro (fun h => absurd (of_decide_eq_true h) (by omega)) (fun _ => ?_)
   refine Grd.intro (fun h => absurd (of_decide_eq_true h) (by omega)) (fun _ => ?_)
   refine Grd.intro (fun h => absurd (of_decide_eq_true h) (by omega)) (fun _ => ?_)
   conv => whnf
   refine CallC.nl _ (ct) ?_ ?_
   · exact rfl
   conv => whnf
   refine DrawC.mkQ 6 [(.inl 2, 3), (.inl 3, 4)] rfl (by kernel_rfl) ?_
   refine And.intro rfl ?_
   exact And.intro trivial (AVle.tup (AVsle.cons (AVle.refl _) (AVsle.cons (nilW _ _ _ default default) (AVsle.refl _))))
theorem wstep_fn (H : WkW x w now) : ResW (VFn Tryz.prog 37 [w.av, x.av, .int .i64 now]) (stepW x w now) := by
 have F := (wk_iff w).1 H.hw
 have hp := F.ph
 have : w.ph = 0 ∨ w.ph = 1 ∨ w.ph = 2 ∨ w.ph = 3 ∨ w.ph = 4 ∨ w.ph = 5 ∨ w.ph = 6 ∨ w.ph = 7 := by omega
 rcases this with h | h | h | h | h | h | h | h
 · exact wstep0_fn H h
 · exact wstep1_fn H h
 · exact wstep2_fn H h
 · exact wstep3_fn H h
 · exact wstep4_fn H h
 · exact wstep5_fn H h
 · exact wstep6_fn H h
 · exact wstep7_fn H h
end
def WkOut (me C : Int) (x : Sto) (n : Nat) (s : Sta) (ac : List Smp) (id : Int) (p : Sto × Wk × Int) : Prop := ∃ n' s', Stp me C x n s ac p.1 n' s' ac ∧ WkI p.1 s' ac p.2.1 ∧ p.2.1.id = id
section wk
variable {x : Sto} {n : Nat} {s : Sta} {ac : List Smp} {me C : Int}
theorem WkOut.reset (I : StI x n s ac) {id : Int} (h : 0 ≤ id ∧ id ≤ 9) (c : Int) : WkOut me C x n s ac id (x, wkR id, c) := ⟨n, s, Stp.refl me C I, wkR_I h, rfl⟩
theorem WkOut.stay (I : StI x n s ac) {w : Wk} {c id : Int} (h : WkI x s ac w) (hi : w.id = id) : WkOut me C x n s ac id (x, w, c) := ⟨n, s, Stp.refl me C I, h, hi⟩
theorem Stp.lea (me C : Int) (I : StI x n s ac) {d : List UInt8} (hr : x.room leaK d = 0) : Stp me C x n s ac (x.set leaK d) n s ac := by
 have hy := set_ok I.lg.ok (show keyOK leaK = true by decide) hr
 have S : Same x (x.set leaK d) leaK := fun q hq => set_ne I.lg.ok hy hq
 exact ⟨I.other S hy kOk_lea man_ne_lea, Gr.other me I S kOk_lea (fun i _ _ => pin_ne_lea i), Kept.other C S kOk_lea, .inl ⟨rfl, rfl⟩⟩
theorem wk_acq (I : StI x n s ac) {w : Wk} (W : WkI x s ac w) (h1 : w.ph = 1) (now : Int) : WkOut me C x n s ac w.id (if acqR x w.id now = 0 then (acqS x w.id now, { w with tok := acqT x w.id now, ph := 2 }, 0) else (x, wkR w.id, acqR x w.id now)) := by
 have F := (wk_iff w).1 W.ok
 by_cases h : acqR x w.id now = 0
 · rw [if_pos h]
   have hc : acqC x now = 0 := by
    rcases Classical.em (acqC x now = 0) with g | g
    · exact g
    · unfold acqR at h; rw [if_neg g] at h; exact absurd h g
   have hr : x.room leaK (acqL x w.id now).text = 0 := by unfold acqR at h; rw [if_pos hc] at h; exact h
   have es : acqS x w.id now = x.set leaK (acqL x w.id now).text := by unfold acqS Sto.put; rw [if_pos hc, if_pos hr]
   have et : acqT x w.id now = x.lea.1.tok + 1 := by unfold acqT; rw [if_pos ⟨hc, hr⟩]
   have hl := lea_tok x
   have hne : x.lea.1.tok ≠ 999999 := fun g => by
    unfold acqC at hc
    split at hc
    · omega
    · split at hc
      · omega
      · omega
   rw [es, et]
   refine ⟨n, s, Stp.lea me C I hr, WkI.plain ((wk_iff _).2 ⟨F.id, (show (0 : Int) ≤ 2 ∧ (2 : Int) ≤ 7 by decide), ⟨by show 0 ≤ x.lea.1.tok + 1; omega, by show x.lea.1.tok + 1 ≤ 999999; omega⟩, fun _ => by show x.lea.1.tok + 1 ≠ 0; omega, fun g => ?_, F.len, F.es, F.got⟩) (fun g => absurd (show (3 : Int) ≤ 2 from g) (by decide)) ⟨(by decide : ¬ (2 : Int) = 4), (by decide : ¬ (2 : Int) = 5), (by decide : ¬ (2 : Int) = 6)⟩, rfl⟩
   rcases g with g | g | g <;> exact absurd (show (2 : Int) = _ from g) (by decide)
 · rw [if_neg h]
   exact WkOut.reset I F.id _
theorem clmR_ok {tok : Int} (h : 1 ≤ tok ∧ tok ≤ 999999) : (clmR tok).ok = true := by
 unfold Rc.ok clmR
 simp [within, Rc.bare]
 omega
theorem lay_at (I : StI x n s ac) (r : Rc) : appS x (s.seq + 1) r = appS x ((n + 1 : Nat) : Int) r := by
 rw [I.seqN]
 rfl
theorem wk_claim (I : StI x n s ac) {w : Wk} (W : WkI x s ac w) (h2 : w.ph = 2) : WkOut me C x n s ac w.id (if (appS x ((logS x).seq + 1) (clmR w.tok)).2 = 0 then ((appS x ((logS x).seq + 1) (clmR w.tok)).1, { w with ph := 3 }, 0) else (x, wkR w.id, (appS x ((logS x).seq + 1) (clmR w.tok)).2)) := by
 have F := (wk_iff w).1 W.ok
 have ht := F.t1 (by omega)
 have hb := F.tok
 have hr := clmR_ok (tok := w.tok) (by omega)
 rw [I.lg.log, lay_at I]
 rcases I.lg.layG hr with ⟨c, c1, c2, h⟩ | ⟨y, h, L, S, _⟩
 · rw [h, if_neg c1]
   exact WkOut.reset I F.id _
 · rw [h, if_pos rfl]
   refine ⟨n + 1, s.app (clmR w.tok), ⟨I.recd hr (show (2 : Int) ≠ 1 by decide) (fun g => absurd (show (2 : Int) = 3 from g) (by decide)) L S, Gr.lay me I hr S ⟨[], by simp, by simp⟩, Kept.lay C hr (show (2 : Int) ≠ 5 by decide) S, .inr rfl⟩, WkI.plain ((wk_iff _).2 ⟨F.id, (show (0 : Int) ≤ 3 ∧ (3 : Int) ≤ 7 by decide), F.tok, fun _ => ht, fun g => ?_, F.len, F.es, F.got⟩) (fun _ => ?_) ⟨(by decide : ¬ (3 : Int) = 4), (by decide : ¬ (3 : Int) = 5), (by decide : ¬ (3 : Int) = 6)⟩, rfl⟩
   · rcases g with g | g | g <;> exact absurd (show (3 : Int) = _ from g) (by decide)
   · show w.tok ≤ (s.app (clmR w.tok)).fence
     cases tk : s.takes (clmR w.tok) with
     | true => rw [app_2 tk rfl]; exact Int.le_refl _
     | false =>
       have e : s.takes (clmR w.tok) = decide (s.fence < w.tok) := rfl
       rw [e] at tk
       have := of_decide_eq_false tk
       rw [app_no (by rw [e]; exact tk)]
       show w.tok ≤ s.fence
       omega
theorem due_cases (a b c : Int) : (dueT a b c = 1 ∧ dueF a b c = b ∧ b + 5 ≤ a) ∨ (dueT a b c = 2 ∧ dueF a b c = c ∧ c + 20 ≤ b) ∨ dueT a b c = 0 := by
 unfold dueT dueF
 by_cases h1 : b + 5 ≤ a
 · rw [if_pos h1, if_pos h1]; exact .inl ⟨rfl, rfl, h1⟩
 · rw [if_neg h1, if_neg h1]
   by_cases h2 : c + 20 ≤ b
   · rw [if_pos h2, if_pos h2]; exact .inr (.inl ⟨rfl, rfl, h2⟩)
   · rw [if_neg h2]; exact .inr (.inr rfl)
theorem pub_ok {tok t f : Int} (ht : t = 1 ∨ t = 2) (hf : 0 ≤ f ∧ f + wd t ≤ 100000) (hk : 1 ≤ tok ∧ tok ≤ 999999) : (Rc.mk 3 tok t f (f + wd t) (keyB t.toNat f.toNat tok.toNat)).ok = true ∧ (kOk (keyB t.toNat f.toNat tok.toNat) = true ∧ kT (keyB t.toNat f.toNat tok.toNat) = t ∧ kN (keyB t.toNat f.toNat tok.toNat) = f ∧ kW (keyB t.toNat f.toNat tok.toNat) = tok) := by
 have hw := wd_b t
 obtain ⟨k1, k2, k3, k4⟩ := key_fields (t := t.toNat) (n := f.toNat) (w := tok.toNat) (by omega) (by omega) (by omega)
 have e1 : ((t.toNat : Nat) : Int) = t := by omega
 have e2 : ((f.toNat : Nat) : Int) = f := by omega
 have e3 : ((tok.toNat : Nat) : Int) = tok := by omega
 rw [e1] at k2
 rw [e2] at k3
 rw [e3] at k4
 refine ⟨?_, k1, k2, k3, k4⟩
 unfold Rc.ok Rc.en En.ok
 simp only [k1, k2, isRange, within]
 simp
 omega
theorem wk_plan (I : StI x n s ac) {w : Wk} (W : WkI x s ac w) (h3 : w.ph = 3) (now : Int) : WkOut me C x n s ac w.id (if (logS x).fence = w.tok then
 if dueT (logS x).h0 (logS x).h1 (logS x).h2 = 0 then
  if (expR (logS x) now).2 = true then (x, { w with job := retW (expR (logS x) now).1 w.tok, ph := 6 }, 0) else (x, { w with ph := 7 }, 0)
 else (x, { w with job := pubW (logS x) w.tok, ins := covL (logS x) ((pubW (logS x) w.tok).tier - 1) (pubW (logS x) w.tok).f (pubW (logS x) w.tok).t, got := default, ph := 4 }, 0)
 else (x, wkR w.id, 13)) := by
 have F := (wk_iff w).1 W.ok
 have ht := F.t1 (by omega)
 have hb := F.tok
 have hl := I.li
 have htf := W.tok (by omega)
 rw [I.lg.log]
 by_cases hf : s.fence = w.tok
 rotate_left
 · rw [if_neg hf]; exact WkOut.reset I F.id _
 rw [if_pos hf]
 have pub : ∀ t f : Int, dueT s.h0 s.h1 s.h2 = t → dueF s.h0 s.h1 s.h2 = f → (t = 1 ∨ t = 2) → 0 ≤ f → f = s.hi t → f + wd t ≤ s.hi (t - 1) → s.lo (t - 1) ≤ f → f % wd (t - 1) = 0 → (f + wd t) % wd (t - 1) = 0 →
  WkOut me C x n s ac w.id (x, { w with job := pubW s w.tok, ins := covL s ((pubW s w.tok).tier - 1) (pubW s w.tok).f (pubW s w.tok).t, got := default, ph := 4 }, 0) := by
  intro t f e1 e2 t12 f0 ef et el m1 m2
  have hw := wd_b t
  have hh := hi_le hl (t - 1)
  have hn := hl.nn
  obtain ⟨o1, o2⟩ := pub_ok (tok := w.tok) t12 ⟨f0, by omega⟩ ⟨by omega, hb.2⟩
  obtain ⟨c1, c2, c3⟩ := cov_I I (k := t - 1) (a := f) (b := f + wd t) (by omega) (by omega) el et m1 m2
  have ep : pubW s w.tok = ⟨3, w.tok, t, f, f + wd t, keyB t.toNat f.toNat w.tok.toNat⟩ := by unfold pubW; rw [e1, e2]
  rw [ep]
  refine WkOut.stay I ⟨(wk_iff _).2 ⟨F.id, (show (0 : Int) ≤ 4 ∧ (4 : Int) ≤ 7 by decide), F.tok, fun _ => ht, fun _ => ⟨o1, rfl, .inl rfl⟩, c3, fun e he => (c2 e he).1.kn.st.ok, rfl, (by decide : (0 : Int) ≤ 1000)⟩, fun _ => htf, fun _ _ => ⟨t12, f0, rfl, by show f + wd t ≤ s.h0; omega, by show f ≤ s.hi t; omega, o2⟩, fun _ => ⟨c1, fun e he => (c2 e he).1⟩, fun g => absurd (show (4 : Int) = 5 from g) (by decide), fun g => absurd (show (4 : Int) = 6 from g) (by decide)⟩ rfl
 rcases due_cases s.h0 s.h1 s.h2 with ⟨d1, d2, d3⟩ | ⟨d1, d2, d3⟩ | d1
 · rw [if_neg (by omega)]
   have q1 := hl.l01
   have q2 := hl.nn
   have q3 := hl.h21
   exact pub 1 s.h1 d1 d2 (.inl rfl) (by omega) rfl (show s.h1 + 5 ≤ s.h0 from d3) (show s.l0 ≤ s.h1 from q1) (show s.h1 % 1 = 0 by omega) (show (s.h1 + 5) % 1 = 0 by omega)
 · rw [if_neg (by omega)]
   have q1 := hl.l12
   have q2 := hl.nn
   have q3 := hl.a2
   exact pub 2 s.h2 d1 d2 (.inr rfl) (by omega) rfl (show s.h2 + 20 ≤ s.h1 from d3) (show s.l1 ≤ s.h2 from q1) (show s.h2 % 5 = 0 by omega) (show (s.h2 + 20) % 5 = 0 by omega)
 · rw [if_pos d1]
   by_cases he : (expR s now).2 = true
   · rw [if_pos he]
     have hm := exp_mem he
     obtain ⟨kn, _⟩ := I.es _ hm
     have ho : (retW (expR s now).1 w.tok).ok = true := by
      have : (retW (expR s now).1 w.tok).en.ok = true := kn.st.ok
      unfold Rc.ok
      have k4 : (retW (expR s now).1 w.tok).k = 4 := rfl
      rw [if_neg (by omega), if_neg (by omega), if_neg (by omega), if_pos k4, this]
      show (within w.tok 1 999999 && true) = true
      simp [within]; omega
     refine WkOut.stay I ⟨(wk_iff _).2 ⟨F.id, (show (0 : Int) ≤ 6 ∧ (6 : Int) ≤ 7 by decide), F.tok, fun _ => ht, fun _ => ⟨ho, rfl, .inr ⟨rfl, rfl⟩⟩, F.len, F.es, F.got⟩, fun _ => htf, fun _ g => absurd (show (4 : Int) = 3 from g) (by decide), fun g => absurd (show (6 : Int) = 4 from g) (by decide), fun g => absurd (show (6 : Int) = 5 from g) (by decide), fun _ g => absurd (show (4 : Int) = 3 from g) (by decide)⟩ rfl
   · rw [if_neg he]
     refine WkOut.stay I (WkI.plain ((wk_iff _).2 ⟨F.id, (show (0 : Int) ≤ 7 ∧ (7 : Int) ≤ 7 by decide), F.tok, fun _ => ht, fun g => ?_, F.len, F.es, F.got⟩) (fun _ => htf) ⟨(by decide : ¬ (7 : Int) = 4), (by decide : ¬ (7 : Int) = 5), (by decide : ¬ (7 : Int) = 6)⟩) rfl
     rcases g with g | g | g <;> exact absurd (show (7 : Int) = _ from g) (by decide)
theorem wk_fetch (I : StI x n s ac) (hac : ac.length ≤ 1000) {w : Wk} (W : WkI x s ac w) (h4 : w.ph = 4) : WkOut me C x n s ac w.id (match w.ins with
 | [] => (x, { w with ph := 5 }, 0)
 | e :: l => if (winR x e w.job.f w.job.t w.got).2 = 0 then (x, { w with got := (winR x e w.job.f w.job.t w.got).1, ins := l, ph := if l = [] then 5 else 4 }, 0) else (x, wkR w.id, (winR x e w.job.f w.job.t w.got).2)) := by
 have F := (wk_iff w).1 W.ok
 have ht := F.t1 (by omega)
 have htf := W.tok (by omega)
 obtain ⟨j1, j2, j3⟩ := F.job (.inl h4)
 have jk : w.job.k = 3 := by rcases j3 with h | h; · exact h
                             · omega
 have J := W.job (.inl h4) jk
 obtain ⟨p1, p2⟩ := W.p4 h4
 cases hi : w.ins with
 | nil =>
   simp only
   rw [hi] at p1
   refine WkOut.stay I ⟨(wk_iff _).2 ⟨F.id, (show (0 : Int) ≤ 5 ∧ (5 : Int) ≤ 7 by decide), F.tok, fun _ => ht, fun _ => ⟨j1, j2, .inl jk⟩, by simp, by simp, F.got⟩, fun _ => htf, fun _ _ => J, fun g => absurd (show (5 : Int) = 4 from g) (by decide), fun _ => p1, fun g => absurd (show (5 : Int) = 6 from g) (by decide)⟩ rfl
 | cons e l =>
   simp only
   have hin := p2 e (by rw [hi]; simp)
   rw [hi] at p1
   cases hh : x.has e.key with
   | false =>
     have : winR x e w.job.f w.job.t w.got = (w.got, 5) := by unfold winR; rw [hh, if_neg (by simp)]
     rw [this, if_neg (show ¬ (5 : Int) = 0 by decide)]
     exact WkOut.reset I F.id _
   | true =>
     obtain ⟨_, w2, w3, w4, w5⟩ := win_step I hac F.got.1 p1 hin hh
     rw [w2, if_pos rfl]
     have hl : l.length ≤ 300 := by have := F.len; rw [hi] at this; simp at this; omega
     have hes : ∀ e ∈ l, e.ok = true := fun y hy => F.es y (by rw [hi]; simp [hy])
     by_cases hn : l = []
     · rw [if_pos hn]
       rw [hn] at w5
       refine WkOut.stay I ⟨(wk_iff _).2 ⟨F.id, (show (0 : Int) ≤ 5 ∧ (5 : Int) ≤ 7 by decide), F.tok, fun _ => ht, fun _ => ⟨j1, j2, .inl jk⟩, hl, hes, w3, w4⟩, fun _ => htf, fun _ _ => J, fun g => absurd (show (5 : Int) = 4 from g) (by decide), fun _ => w5, fun g => absurd (show (5 : Int) = 6 from g) (by decide)⟩ rfl
     · rw [if_neg hn]
       refine WkOut.stay I ⟨(wk_iff _).2 ⟨F.id, (show (0 : Int) ≤ 4 ∧ (4 : Int) ≤ 7 by decide), F.tok, fun _ => ht, fun _ => ⟨j1, j2, .inl jk⟩, hl, hes, w3, w4⟩, fun _ => htf, fun _ _ => J, fun _ => ⟨w5, fun y hy => p2 y (by rw [hi]; simp [hy])⟩, fun g => absurd (show (4 : Int) = 5 from g) (by decide), fun g => absurd (show (4 : Int) = 6 from g) (by decide)⟩ rfl
theorem wk_put (I : StI x n s ac) {w : Wk} (W : WkI x s ac w) (h5 : w.ph = 5) : WkOut me C x n s ac w.id (if (x.putA w.job.key (bksText (bkt w.job.f w.got))).2 = 0 ∨ (x.putA w.job.key (bksText (bkt w.job.f w.got))).2 = 9 then ((x.putA w.job.key (bksText (bkt w.job.f w.got))).1, { w with ph := 6 }, 0) else (x, wkR w.id, (x.putA w.job.key (bksText (bkt w.job.f w.got))).2)) := by
 have F := (wk_iff w).1 W.ok
 have ht := F.t1 (by omega)
 have htf := W.tok (by omega)
 obtain ⟨j1, j2, j3⟩ := F.job (.inr (.inl h5))
 have jk : w.job.k = 3 := by rcases j3 with h | h; · exact h
                             · omega
 have J := W.job (.inr (.inl h5)) jk
 obtain ⟨k1, k2, k3, k4⟩ := J.key
 have t0 : kT w.job.key ≠ 0 := by have := J.tier; omega
 have ed : bksText (bkt w.job.f w.got) = datK ac w.job.key := by
  unfold datK
  rw [k3, k2, ← J.t, W.p5 h5]
 have fin : ∀ y, x.has w.job.key = true ∨ y.has w.job.key = true → ∀ hh : y.has w.job.key = true, WkI y s ac { w with ph := 6 } := fun y _ hh =>
  ⟨(wk_iff _).2 ⟨F.id, (show (0 : Int) ≤ 6 ∧ (6 : Int) ≤ 7 by decide), F.tok, fun _ => ht, fun _ => ⟨j1, j2, .inl jk⟩, F.len, F.es, F.got⟩, fun _ => htf, fun _ _ => J, fun g => absurd (show (6 : Int) = 4 from g) (by decide), fun g => absurd (show (6 : Int) = 5 from g) (by decide), fun _ _ _ _ => hh⟩
 rw [ed]
 cases hh : x.has w.job.key with
 | true =>
   have e : x.putA w.job.key (datK ac w.job.key) = (x, 9) := by unfold Sto.putA; rw [if_pos hh]
   rw [e, if_pos (.inr rfl)]
   exact WkOut.stay I (fin x (.inl hh) hh) rfl
 | false =>
   have e : x.putA w.job.key (datK ac w.job.key) = (x.put w.job.key (datK ac w.job.key), x.room w.job.key (datK ac w.job.key)) := by unfold Sto.putA; rw [if_neg (by rw [hh]; simp)]
   rw [e]
   by_cases hr : x.room w.job.key (datK ac w.job.key) = 0
   · have ep : x.put w.job.key (datK ac w.job.key) = x.set w.job.key (datK ac w.job.key) := by unfold Sto.put; rw [if_pos hr]
     rw [if_pos (.inl hr), ep]
     obtain ⟨t, m, v, a1, _, _, a2, _⟩ := key_of k1
     have hy := set_ok I.lg.ok (show keyOK w.job.key = true by rw [a2]; exact keyF_ok a1) hr
     have c := set_at x w.job.key (datK ac w.job.key)
     refine ⟨n, s, ⟨I.roll k1 t0 hh (by rw [k3, k2, ← J.t]; exact J.th) hy, Gr.roll me I k1 t0 hh hy, Kept.roll C I hh hy, .inl ⟨rfl, rfl⟩⟩, fin _ (.inr c.1) c.1, rfl⟩
   · have h9 : x.room w.job.key (datK ac w.job.key) ≠ 9 := by
      unfold Sto.room
      split
      · decide
      · split <;> decide
     rw [if_neg (by rintro (g | g); exact hr g; exact h9 g)]
     exact WkOut.reset I F.id _
theorem wk_lay (I : StI x n s ac) {w : Wk} (W : WkI x s ac w) (h6 : w.ph = 6) : WkOut me C x n s ac w.id (if (logS x).fence = w.tok then
 (if (appS x ((logS x).seq + 1) w.job).2 = 0 then ((appS x ((logS x).seq + 1) w.job).1, { w with job := default, got := default, ph := 3 }, 0) else (x, wkR w.id, (appS x ((logS x).seq + 1) w.job).2))
 else (x, wkR w.id, 13)) := by
 have F := (wk_iff w).1 W.ok
 have ht := F.t1 (by omega)
 have htf := W.tok (by omega)
 obtain ⟨j1, j2, j3⟩ := F.job (.inr (.inr h6))
 have jk : w.job.k = 3 ∨ w.job.k = 4 := j3.imp id And.right
 rw [I.lg.log]
 by_cases hf : s.fence = w.tok
 rotate_left
 · rw [if_neg hf]; exact WkOut.reset I F.id _
 rw [if_pos hf, lay_at I]
 rcases I.lg.layG j1 with ⟨c, c1, c2, h⟩ | ⟨y, h, L, S, _⟩
 · rw [h, if_neg c1]
   exact WkOut.reset I F.id _
 · rw [h, if_pos rfl]
   have A := app_mono (s := s) j1
   refine ⟨n + 1, s.app w.job, ⟨I.recd j1 (by omega) (fun g tk => ?_) L S, Gr.lay me I j1 S ⟨[], by simp, by simp⟩, Kept.lay C j1 (by omega) S, .inr rfl⟩, WkI.plain ((wk_iff _).2 ⟨F.id, (show (0 : Int) ≤ 3 ∧ (3 : Int) ≤ 7 by decide), F.tok, fun _ => ht, fun g => ?_, F.len, F.es, rfl, (by decide : (0 : Int) ≤ 1000)⟩) (fun _ => ?_) ⟨(by decide : ¬ (3 : Int) = 4), (by decide : ¬ (3 : Int) = 5), (by decide : ¬ (3 : Int) = 6)⟩, rfl⟩
   · have T := tkF3 tk g
     exact W.p6 h6 g hf T.f
   · rcases g with g | g | g <;> exact absurd (show (3 : Int) = _ from g) (by decide)
   · exact Int.le_trans htf A.fen
theorem wk_let (I : StI x n s ac) {w : Wk} (W : WkI x s ac w) : WkOut me C x n s ac w.id (if (x.chg w.id w.tok 0).2 = 0 then ((x.chg w.id w.tok 0).1, wkR w.id, 0) else (x, wkR w.id, (x.chg w.id w.tok 0).2)) := by
 have F := (wk_iff w).1 W.ok
 by_cases h : (x.chg w.id w.tok 0).2 = 0
 · rw [if_pos h]
   unfold Sto.chg at h ⊢
   by_cases hc : x.chgC w.id w.tok = 0
   · rw [if_pos hc] at h ⊢
     have h : x.room leaK (x.chgL 0).text = 0 := h
     have e : x.put leaK (x.chgL 0).text = x.set leaK (x.chgL 0).text := by unfold Sto.put; rw [if_pos h]
     show WkOut me C x n s ac w.id (x.put leaK (x.chgL 0).text, wkR w.id, 0)
     rw [e]
     exact ⟨n, s, Stp.lea me C I h, wkR_I F.id, rfl⟩
   · rw [if_neg hc] at h
     exact absurd h hc
 · rw [if_neg h]
   exact WkOut.reset I F.id _
theorem wk_step (me C : Int) (I : StI x n s ac) (hac : ac.length ≤ 1000) {w : Wk} (W : WkI x s ac w) (now : Int) : WkOut me C x n s ac w.id (stepW x w now) := by
 have F := (wk_iff w).1 W.ok
 unfold stepW
 by_cases h0 : w.ph = 0
 · rw [if_pos h0]
   by_cases g : dueT (logS x).h0 (logS x).h1 (logS x).h2 = 0 ∧ (expR (logS x) now).2 = false
   · rw [if_pos g]; exact WkOut.stay I W rfl
   · rw [if_neg g]
     refine WkOut.stay I (WkI.plain ((wk_iff _).2 ⟨F.id, (show (0 : Int) ≤ 1 ∧ (1 : Int) ≤ 7 by decide), F.tok, fun g => absurd (show (2 : Int) ≤ 1 from g) (by decide), fun g => ?_, F.len, F.es, F.got⟩) (fun g => absurd (show (3 : Int) ≤ 1 from g) (by decide)) ⟨(by decide : ¬ (1 : Int) = 4), (by decide : ¬ (1 : Int) = 5), (by decide : ¬ (1 : Int) = 6)⟩) rfl
     rcases g with g | g | g <;> exact absurd (show (1 : Int) = _ from g) (by decide)
 rw [if_neg h0]
 by_cases h1 : w.ph = 1
 · rw [if_pos h1]; exact wk_acq I W h1 now
 rw [if_neg h1]
 by_cases h2 : w.ph = 2
 · rw [if_pos h2]; exact wk_claim I W h2
 rw [if_neg h2]
 by_cases h3 : w.ph = 3
 · rw [if_pos h3]; exact wk_plan I W h3 now
 rw [if_neg h3]
 by_cases h4 : w.ph = 4
 · rw [if_pos h4]; exact wk_fetch I hac W h4
 rw [if_neg h4]
 by_cases h5 : w.ph = 5
 · rw [if_pos h5]; exact wk_put I W h5
 rw [if_neg h5]
 by_cases h6 : w.ph = 6
 · rw [if_pos h6]; exact wk_lay I W h6
 rw [if_neg h6]
 exact wk_let I W
end wk




theorem ingR_ok {id : Int} (h : 0 ≤ id ∧ id ≤ 9) : (ingR id).ok = true := by
 unfold Ig.ok ingR igOK
 simp [within, smpsOK_nil]
 exact h
end Go.Proofs.YtigbaclopbcjnaaGreatDoor
