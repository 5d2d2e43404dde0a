/- Contracts of functions that the claim reaches, and the plain law of what they compute; each theorem bears its own conditions. -/
import Derived.Test.YtbhgcfhbhjcjhaaGreatDoorQ16
import Derived.Test.YtbhgcfhbhjcjhaaGreatDoorQ14
import Derived.Test.YtbhgcfhbhjcjhaaGreatDoorV52
import Derived.Test.YtbhgcfhbhjcjhaaGreatDoorQ3
import Derived.Test.YtbhgcfhbhjcjhaaGreatDoorQ13
import Derived.Test.YtbhgcfhbhjcjhaaGreatDoorQ8
import Derived.Test.YtbhgcfhbhjcjhaaGreatDoorQ6
set_option linter.unusedVariables false
set_option linter.constructorNameAsVariable false
set_option linter.unusedSimpArgs false
set_option maxRecDepth 20000
set_option maxHeartbeats 1000000
namespace Go.Proofs.YtbhgcfhbhjcjhaaGreatDoor
open Go Go.Vw
theorem AnswerTrue_fn (ac : List Smp) (hac : smpsOK ac = true) (hl : ac.length ≤ 4096) (a : An) (ha : a.ok = true) : VFn Tryz.prog 13 [smps ac, a.av] (.tup [.bool (a.tr ac), .int .i64 0]) := by
 have c1 := isLongSmp_fn ac
 rw [decide_eq_false (show ¬ 4096 < ac.length by omega)] at c1
 have c2 := SamplesOK_fn ac
 rw [hac] at c2
 have hk := ha
 unfold An.ok at hk
 simp only [Bool.and_eq_true] at hk
 obtain ⟨k1, k2, k3, k4⟩ := hk
 have c3 := isCode0 a.code
 rw [k3] at c3
 have c4 := AggOK_fn a.a
 rw [k4] at c4
 have c5 := isTier_fn a.tier
 rw [k1] at c5
 have c6 := isRange_fn a.f a.t
 rw [k2] at c6
 have c7 := isTrue_fn ac hac a ha
 refine VFn.introC Tryz.call13 Tryz.func13 rfl rfl ?_
 refine DrawC.mq 38 rfl (by kernel_rfl) ?_
 refine PCallQ.sca _ (c1) rfl ?_
 refine PCallQ.sca _ (c2) rfl ?_
 refine PCallQ.sca _ (c3) rfl ?_
 refine PCallQ.sca _ (c4) rfl ?_
 refine PCallQ.sca _ (c5) rfl ?_
 refine PCallQ.sca _ (c6) rfl ?_
 refine PCallQ.sca _ (first3_of false false false 2 1 4 ⟨rfl, rfl, rfl, rfl, rfl, rfl, trivial⟩ rfl (show (if false = true then (2 : Int) else if false = true then 1 else if false = true then 4 else 0) = 0 by decide)) rfl ?_
 conv => whnf
 refine CallC.sca _ (c7) ?_ ?_
 · exact rfl
 exact And.intro trivial (AVle.refl _)
theorem law_Answers (code : List UInt8) (hc : code.length ≤ 9223372036854775807) (more : List UInt8) (hm : more.length ≤ 9223372036854775807) : VFn Tryz.prog 4 [byts code, byts more] (.bool true) := by
 by_cases hL1 : 1048576 < code.length
 · refine VFn.introC Tryz.call4 Tryz.func4 rfl rfl ?_
   refine Grd.intro (fun _ => ?_) (fun h => absurd (of_decide_eq_false h) (by omega))
   exact And.intro trivial (AVle.refl _)
 by_cases hL2 : 1048576 < more.length
 · refine VFn.introC Tryz.call4 Tryz.func4 rfl rfl ?_
   refine Grd.intro (fun h => absurd (of_decide_eq_true h) (by omega)) (fun _ => ?_)
   refine Grd.intro (fun _ => ?_) (fun h => absurd (of_decide_eq_false h) (by omega))
   exact And.intro trivial (AVle.refl _)
 obtain ⟨L, f, W, ca, cr⟩ := run_fn code (by omega)
 have cd := DrainFleet_fn W.i W.j (by omega) (n := 9) (by omega) (by omega)
 have F := W.i.drain (by omega) 9
 have J := W.j.drain 9
 have hS := F.small J (by omega) (by omega)
 have ho := F.ok (by omega)
 have cn := AnswersTrue_fn (drainF f 9) hS
 have cf := FleetOK_fn (drainF f 9) hS
 rw [ho, F.answers] at cn
 rw [ho] at cf
 have hall := List.all_eq_true.1 F.answers
 have hok : ∀ a ∈ (drainF f 9).an, a.ok = true := fun a ha => (F.an.1 a ha).ok
 have hac : smpsOK (drainF f 9).ac = true := Fl.ok_ac ho
 have hacl := F.acl
 have hanl := F.an.2
 generalize drainF f 9 = g at *
 refine VFn.introC Tryz.call4 Tryz.func4 rfl rfl ?_
 refine Grd.intro (fun h => absurd (of_decide_eq_true h) (by omega)) (fun _ => ?_)
 refine Grd.intro (fun h => absurd (of_decide_eq_true h) (by omega)) (fun _ => ?_)
 conv => whnf
 refine CallC.nl _ (ca) ?_ ?_
 · exact rfl
 conv => whnf
 refine CallC.nl _ (cr) ?_ ?_
 · exact rfl
 conv => whnf
 conv => whnf
 refine CallC.nl _ (cd) ?_ ?_
 · exact rfl
 conv => whnf
 conv => whnf
 refine CallC.nl _ (cn) ?_ ?_
 · exact rfl
 conv => whnf
 conv => whnf
 refine CallC.nl _ (cf) ?_ ?_
 · exact rfl
 conv => whnf
 refine LoopC.mk (fun i : Nat => i ≤ g.an.length) (fun i => [(8, .bptr 0 0), (12, .int .i64 i)]) (fun i => [(0, .box g.row)]) 1 (fun i => g.an.length - i) 0
  ⟨Nat.zero_le _, [(1, 0)], rfl, rfl, ⟨AVle.refl _, AVle.refl _, trivial⟩, ⟨MOle.refl _, trivial⟩⟩ ?_
 intro i hi
 conv => whnf
 refine Grd.intro (fun h => ?_) (fun h => ?_)
 · have hlt : i < g.an.length := by have := of_decide_eq_true h; omega
   have cx := AnswerTrue_fn g.ac hac (by omega) (ix g.an i) (hok _ (getD_mem hlt))
   rw [hall _ (getD_mem hlt)] at cx
   conv => whnf
   refine DrawC.mq 13 rfl (by kernel_rfl) ?_
   conv => whnf
   refine And.intro ⟨by omega, by omega⟩ ?_
   conv => whnf
   refine PCallQ.nl _ (cx) rfl ?_
   conv => whnf
   refine And.intro (inI64 (by omega) (by omega)) ?_
   conv => whnf
   exact ⟨i + 1, hlt, by omega, [(0, 0)], rfl, rfl, ⟨AVle.refl _, AVle.refl _, trivial⟩, ⟨MOle.refl _, trivial⟩⟩
 · conv => whnf
   exact And.intro trivial (AVle.refl _)


theorem StoRdE {x : Sto} (h : x.ok = true) : StoRd x := by
 obtain ⟨a1, a2, a3, _, _⟩ := (stoOK_iff x).1 h
 refine ⟨by omega, fun o ho => ?_, by omega⟩
 have := (a3 o ho).1
 unfold keyOK at this
 simp only [Bool.and_eq_true, within, decide_eq_true_eq] at this
 omega
theorem ActDo_fn {f : Fl} {M Q : Nat} (F : FlI f M Q) (J : FlJ f) (hM : M ≤ 900) (hQ : Q ≤ 1000) {a : Act} (ha : a.ok = true) : VFn Tryz.prog 20 [f.av, a.av] (.tup [(doF f a).1.av, .int .i64 (doF f a).2]) := by
 have A := ActI.of_ok ha
 have c1 := FleetOK_fn f (F.small J (by omega) (by omega))
 rw [F.ok (by omega)] at c1
 have c2 := ActOK_fn a
 rw [ha] at c2
 have c3 := copiedF_own f (F.sz (by omega) (by omega))
 obtain ⟨x, y, hN, c4⟩ := do_fn F (by omega) (by omega) A
 have c5 := copiedF_fn (doF f a).1 ((F.act A (by omega)).1.sz (by omega) (by omega))
 generalize doF f a = p at *
 rcases hN with ⟨rfl, rfl⟩ | ⟨rfl, rfl⟩ | ⟨rfl, rfl⟩
 all_goals
  refine VFn.introC Tryz.call20 Tryz.func20 rfl rfl ?_
  conv => whnf
  conv => whnf
  refine CallC.nl _ (c1) ?_ ?_
  · exact rfl
  conv => whnf
  conv => whnf
  refine CallC.nl _ (c2) ?_ ?_
  · exact rfl
  conv => whnf
  refine CallC.k [] c3 rfl rfl (AVsle.refl _) trivial rfl ?_
  conv => whnf
  refine CallC.k [(8, 0), (3, 1), (4, 2), (5, 3), (6, 4), (7, 5)] c4 rfl rfl (AVsle.refl _) ⟨MOle.refl _, MOle.refl _, MOle.refl _, MOle.refl _, MOle.refl _, MOle.refl _, trivial⟩ rfl ?_
  conv => whnf
  refine CallN.c ?_
  refine CallN.frz 3 rfl ?_
  refine CallN.frz 4 rfl ?_
  refine CallN.frz 5 rfl ?_
 · refine CallN.frz 6 rfl ?_
   refine CallN.frz 7 rfl ?_
   refine CallN.nl _ c5 ?_ ?_
   · exact rfl
   conv => whnf
   exact And.intro trivial (AVle.refl _)
 · refine CallN.frz 9 rfl ?_
   refine CallN.frz 7 rfl ?_
   refine CallN.nl _ c5 ?_ ?_
   · exact rfl
   conv => whnf
   exact And.intro trivial (AVle.refl _)
 · refine CallN.frz 6 rfl ?_
   refine CallN.frz 9 rfl ?_
   refine CallN.nl _ c5 ?_ ?_
   · exact rfl
   conv => whnf
   exact And.intro trivial (AVle.refl _)
theorem NewFleet_fn : VFn Tryz.prog 19 [] newF.av :=
 (NewFleet_own.vfn).weak (AVsle.refl _) (AVle.agg (AVsle.cons (AVle.refl _) (AVsle.cons (AVle.refl _) (AVsle.cons (AVle.refl _) (AVsle.cons (AVle.refl _) (AVsle.cons (AVle.refl _) (AVsle.cons (AVle.refl _) (AVsle.cons (AVle.refl _) (AVsle.cons (AVle.refl _) (AVsle.cons (AVle.refl _) (AVsle.cons (AVle.refl _) (AVsle.cons (AVle.refl _) (AVsle.cons (AVle.refl _) (AVsle.cons (AVle.refl _) (AVsle.cons (AVle.nilsl _ _ rfl) (AVsle.cons (AVle.nilsl _ _ rfl) AVsle.nil))))))))))))))))
theorem law_Atomic (code : List UInt8) (hc : code.length ≤ 9223372036854775807) (more : List UInt8) (hm : more.length ≤ 9223372036854775807) : VFn Tryz.prog 6 [byts code, byts more] (.bool true) := by
 by_cases hL1 : 1048576 < code.length
 · refine VFn.introC Tryz.call6 Tryz.func6 rfl rfl ?_
   refine Grd.intro (fun _ => ?_) (fun h => absurd (of_decide_eq_false h) (by omega))
   exact And.intro trivial (AVle.refl _)
 by_cases hL2 : 1048576 < more.length
 · refine VFn.introC Tryz.call6 Tryz.func6 rfl rfl ?_
   refine Grd.intro (fun h => absurd (of_decide_eq_true h) (by omega)) (fun _ => ?_)
   refine Grd.intro (fun _ => ?_) (fun h => absurd (of_decide_eq_false h) (by omega))
   exact And.intro trivial (AVle.refl _)
 obtain ⟨L, ⟨hl, hok⟩, ca⟩ := ActsOf_fn code (by omega)
 have FI : ∀ i, i ≤ L.length → FlI (actsF newF (L.take i)) (8 * i) i := fun i hi => by
  have := FlI.acts (L.take i) newF_I (fun a ha => ActI.of_ok (hok a (List.mem_of_mem_take ha))) (by rw [List.length_take]; omega)
  rw [List.length_take, Nat.min_eq_left hi, Nat.zero_add, Nat.zero_add] at this
  exact this
 have JI : ∀ i, FlJ (actsF newF (L.take i)) := fun i => FlJ.acts _ newF_J
 refine VFn.introC Tryz.call6 Tryz.func6 rfl rfl ?_
 refine Grd.intro (fun h => absurd (of_decide_eq_true h) (by omega)) (fun _ => ?_)
 refine Grd.intro (fun h => absurd (of_decide_eq_true h) (by omega)) (fun _ => ?_)
 conv => whnf
 refine CallC.nl _ (ca) ?_ ?_
 · exact rfl
 conv => whnf
 conv => whnf
 refine CallC.nl _ (NewFleet_fn) ?_ ?_
 · exact rfl
 conv => whnf
 refine LoopC.mk (fun i : Nat => i ≤ L.length) (fun i => [(5, acts L), (6, .bptr 0 0), (7, .int .i64 i)]) (fun i => [(0, .box (actsF newF (L.take i)).row)]) 1 (fun i => L.length - i) 0
  ⟨Nat.zero_le _, [(0, 0)], rfl, rfl, ⟨AVle.refl _, AVle.refl _, AVle.refl _, trivial⟩, ⟨MOle.refl _, trivial⟩⟩ ?_
 intro i hi
 have Fi := FI i hi
 have Ji := JI i
 have endc : VFn Tryz.prog 12 [(actsF newF (L.take i)).av] (.bool true) := by
  have := FleetOK_fn _ (Fi.small Ji (by omega) (by omega))
  rw [Fi.ok (by omega)] at this
  exact this
 conv => whnf
 refine Grd.intro (fun h => ?_) (fun h => ?_)
 · have hlt : i < L.length := by have := of_decide_eq_true h; omega
   conv => whnf
   refine Grd.intro (fun h40 => ?_) (fun h40 => ?_)
   · have cd := ActDo_fn Fi Ji (by omega) (by omega) (hok _ (getD_mem hlt))
     rw [← take_acts newF L hlt] at cd
     obtain ⟨F2, S2⟩ := Fi.act (ActI.of_ok (hok _ (getD_mem hlt))) (by omega)
     rw [← take_acts newF L hlt] at F2 S2
     have r1 : VFn Tryz.prog 16 [(actsF newF (L.take i)).st.av] (.tup [(logS (actsF newF (L.take i)).st).av, .int .i64 0]) := (ReplayLog_own _ (StoRdE Fi.st.lg.ok) Fi.st.lg.ok).vfn
     have r2 : VFn Tryz.prog 16 [(actsF newF (L.take (i + 1))).st.av] (.tup [(logS (actsF newF (L.take (i + 1))).st).av, .int .i64 0]) := (ReplayLog_own _ (StoRdE F2.st.lg.ok) F2.st.lg.ok).vfn
     have b1 := log_b (actsF newF (L.take i)).st
     have b2 := log_b (actsF newF (L.take (i + 1))).st
     have sl := S2.lg
     have sa := S2.ac
     have cs := sameState_fn (logS (actsF newF (L.take i)).st) (by omega) (by omega)
     generalize (doF (actsF newF (L.take i)) (ix L i)).2 = c at *
     conv => whnf
     conv => whnf
     refine CallC.nl _ (r1) ?_ ?_
     · exact rfl
     conv => whnf
     refine DrawC.mkQ 12 [(.inr 9, 10)] rfl (by kernel_rfl) ?_
     refine And.intro rfl ?_
     conv => whnf
     refine And.intro ⟨by omega, by omega⟩ ?_
     conv => whnf
     refine PCallQ.nl _ (cd) rfl ?_
     conv => whnf
     conv => whnf
     refine CallC.nl _ (r2) ?_ ?_
     · exact rfl
     have st : logS (actsF newF (L.take (i + 1))).st = logS (actsF newF (L.take i)).st ∨ (logS (actsF newF (L.take (i + 1))).st).seq = (logS (actsF newF (L.take i)).st).seq + 1 := by
      rcases sl with ⟨_, e⟩ | e
      · exact .inl e
      · exact .inr (by rw [b1.1, b2.1, e]; push_cast; rfl)
     clear r1 r2 cd Fi F2 S2 sl endc
     have hs1 := b1.1
     have hs2 := b1.2.1
     clear b1 b2
     generalize logS (actsF newF (L.take i)).st = s at *
     generalize logS (actsF newF (L.take (i + 1))).st = t at *
     by_cases hq : (actsF newF (L.take i)).ac.length < (actsF newF (L.take (i + 1))).ac.length <;> rcases st with rfl | e
     all_goals
      repeat' (conv => whnf
               first
                | refine And.intro (inI64 (by omega) (by omega)) ?_
                | refine And.intro ⟨by decide, by decide⟩ ?_
                | (refine CallC.nl _ cs ?_ ?_; focus (exact rfl))
                | exact ⟨i + 1, hlt, by omega, [(0, 0)], rfl, rfl, ⟨AVle.refl _, AVle.refl _, AVle.refl _, trivial⟩, ⟨MOle.refl _, trivial⟩⟩
                | exact ⟨i + 1, hlt, by omega, [(0, 0)], rfl, rfl, ⟨AVle.refl _, AVle.refl _, AVle.of_eq (congrArg (AV.int .i64) (by simp)), trivial⟩, ⟨MOle.refl _, trivial⟩⟩
                | (refine Grd.intro (fun h => ?_) (fun h => ?_); focus (exfalso; first | (simp at h; done) | (simp at h; omega) | (have := sa (by omega); simp at h; omega)))
                | (refine Grd.intro (fun h => ?_) (fun h => ?_); rotate_left; focus (exfalso; first | (simp at h; done) | (simp at h; omega) | (have := sa (by omega); simp at h; omega)))
                | refine Grd.intro (fun h => ?_) (fun h => ?_)
                | fail)
   · conv => whnf
     conv => whnf
     refine CallC.nl _ (endc) ?_ ?_
     · exact rfl
     exact And.intro trivial (AVle.refl _)
 · conv => whnf
   conv => whnf
   refine CallC.nl _ (endc) ?_ ?_
   · exact rfl
   exact And.intro trivial (AVle.refl _)
end Go.Proofs.YtbhgcfhbhjcjhaaGreatDoor
