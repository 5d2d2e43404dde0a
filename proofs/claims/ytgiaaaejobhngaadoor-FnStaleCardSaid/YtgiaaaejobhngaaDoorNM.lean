/- The law FnStale; the conditions are the theorem's own. -/
import Derived.Test.YtgiaaaejobhngaaDoorNK
set_option linter.unusedVariables false
set_option linter.constructorNameAsVariable false
set_option linter.unusedSimpArgs false
set_option maxRecDepth 20000
namespace Go.Proofs.YtgiaaaejobhngaaDoor
open Go Go.Vw

theorem stale {s : Sta} {r : Rc} (hr : r.ok = true) (h0 : r.tok ≠ 0) (hf : r.tok < s.fence) : s.takes r = false := by
  unfold Rc.ok at hr
  unfold Sta.takes
  split at hr
  · simp at hr; omega
  · rename_i h1
    rw [if_neg h1]
    split at hr
    · rename_i h2
      rw [if_pos h2]
      simp; omega
    · rename_i h2
      rw [if_neg h2]
      split at hr
      · rename_i h3
        rw [if_pos h3, decide_eq_false (by omega)]; rfl
      · rename_i h3
        rw [if_neg h3]
        split at hr
        · rename_i h4
          rw [if_pos h4, decide_eq_false (by omega)]; rfl
        · split at hr
          · simp at hr; omega
          · cases hr
def claim (t : Int) : Rc := ⟨2, t, 0, 0, 0, []⟩
theorem claim_ok {t : Int} (h : 1 ≤ t ∧ t ≤ 999999) : (claim t).ok = true := by
  have : within t 1 999999 = true := by simp [within]; omega
  simp [claim, Rc.ok, Rc.bare, this]
theorem at_fn' (L : List UInt8) (i n : Int) (hm : L.length ≤ 1048576) (hi : 0 ≤ i ∧ i ≤ 1000) (hn : 1 < n ∧ n ≤ 1000) : ∃ v, (0 ≤ v ∧ v < n) ∧ VFn Tryd.prog 6 [byts L, .int .i64 i, .int .i64 n] (.int .i64 v) := by
  by_cases h0 : L.length = 0
  · refine ⟨(i * 7).tmod n, tmod_b (by omega) (by omega), ?_⟩
    refine VFn.introC Tryd.call6 Tryd.func6 rfl rfl ?_
    refine Grd.intro (fun h => absurd (of_decide_eq_true h) (by omega)) (fun _ => ?_)
    refine Grd.intro (fun h => ?_) (fun h => absurd (of_decide_eq_false h) (by omega))
    refine And.intro (inI64 (by omega) (by omega)) ?_
    refine And.intro (show n ≠ 0 by omega) ?_
    exact And.intro trivial (AVle.refl _)
  · have q1 := tmod_b (n := i) (m := L.length) (by omega) (by omega)
    have q2 := tmod_b (n := i + 1) (m := L.length) (by omega) (by omega)
    have q3 := tdiv_b (n := i) (m := L.length) (by omega) (by omega)
    have b1 := (ix L (i.tmod L.length).toNat).toNat_lt
    have b2 := (ix L ((i + 1).tmod L.length).toNat).toNat_lt
    refine ⟨(((ix L (i.tmod L.length).toNat).toNat : Int) * 31 + ((ix L ((i + 1).tmod L.length).toNat).toNat : Int) + i.tdiv L.length).tmod n, tmod_b (by omega) (by omega), ?_⟩
    refine VFn.introC Tryd.call6 Tryd.func6 rfl rfl ?_
    refine Grd.intro (fun h => absurd (of_decide_eq_true h) (by omega)) (fun _ => ?_)
    refine Grd.intro (fun h => absurd (of_decide_eq_true h) (by omega)) (fun h => ?_)
    refine DrawC.mk 25 rfl (by kernel_rfl) ?_
    refine And.intro (show (L.length : Int) ≠ 0 by omega) ?_
    refine And.intro q1 ?_
    refine And.intro (show inI .i64 _ from inI64 (by omega) (by omega)) ?_
    refine And.intro (show inI .i64 _ from inI64 (by omega) (by omega)) ?_
    refine And.intro (show inI .i64 (i + 1) from inI64 (by omega) (by omega)) ?_
    refine And.intro (show (L.length : Int) ≠ 0 by omega) ?_
    refine And.intro q2 ?_
    refine And.intro (show inI .i64 _ from inI64 (by omega) (by omega)) ?_
    refine And.intro (show inI .i64 _ from inI64 (by omega) (by omega)) ?_
    refine And.intro ⟨show (L.length : Int) ≠ 0 by omega, show inI .i64 (i.tdiv L.length) from inI64 (by omega) (by omega)⟩ ?_
    refine And.intro (show inI .i64 _ from inI64 (by omega) (by omega)) ?_
    refine And.intro (show n ≠ 0 by omega) ?_
    exact And.intro trivial (AVle.refl _)
theorem law_Stale (code : List UInt8) (hc : code.length ≤ 9223372036854775807) (more : List UInt8) (hm : more.length ≤ 9223372036854775807) : VFn Tryd.prog 3 [byts code, byts more] (.bool true) := by
  by_cases hL : 1048576 < code.length
  · refine VFn.introC Tryd.call3 Tryd.func3 rfl rfl ?_
    refine Grd.intro (fun _ => ?_) (fun h => absurd (of_decide_eq_false h) (by omega))
    exact And.intro trivial (AVle.refl _)
  by_cases hL2 : 1048576 < more.length
  · refine VFn.introC Tryd.call3 Tryd.func3 rfl rfl ?_
    refine Grd.intro (fun h => absurd (of_decide_eq_true h) (by omega)) (fun _ => ?_)
    refine Grd.intro (fun _ => ?_) (fun h => absurd (of_decide_eq_false h) (by omega))
    exact And.intro trivial (AVle.refl _)
  obtain ⟨x, hx, cx⟩ := StateDrawn_fn code (by omega)
  obtain ⟨v, hv, cv⟩ := at_fn' more 0 3 (by omega) (by omega) (by omega)
  have hO := (staOK_iff x).1 hx.ok
  have hf := hO.f
  have hq := hO.q
  have hx2 := hx.fe
  have hx1 := hx.sq
  have hx3 := hx.len
  have ho := claim_ok (t := x.fence + 1 + v) (by omega)
  have ht : x.takes (claim (x.fence + 1 + v)) = true := by
    show decide (x.fence < x.fence + 1 + v) = true
    simp; omega
  have cA := ApplyRecordF x _ hx (by omega) ho
  rw [ht] at cA
  have ec : x.app (claim (x.fence + 1 + v)) = { x.tick with fence := x.fence + 1 + v } := by
    unfold Sta.app
    rw [if_pos ht]; rfl
  have hy : Dr 31 (x.app (claim (x.fence + 1 + v))) := by
    refine ⟨(staOK_iff _).2 (app_staOK hO ho (by omega) (by omega)), ?_, ?_, ?_⟩
    · rw [app_seq]; omega
    · rw [ec]; show x.fence + 1 + v ≤ _; omega
    · have := appL_len x (claim (x.fence + 1 + v)); omega
  have hyf : (x.app (claim (x.fence + 1 + v))).fence = x.fence + 1 + v := by rw [ec]
  generalize x.app (claim (x.fence + 1 + v)) = y at cA hy hyf ec
  have hyO := (staOK_iff y).1 hy.ok
  have hyb := hyO.f
  have hyl := hy.len
  have cE := sameEntries_fn y.es (by omega)
  refine VFn.introC Tryd.call3 Tryd.func3 rfl rfl ?_
  refine Grd.intro (fun h => absurd (of_decide_eq_true h) (by omega)) (fun _ => ?_)
  refine Grd.intro (fun h => absurd (of_decide_eq_true h) (by omega)) (fun _ => ?_)
  conv => whnf
  refine CallC.nl _ (cx) ?_ ?_
  · exact rfl
  refine DrawC.mkQ 16 [(.inr 13, 14)] rfl (by kernel_rfl) ?_; refine And.intro (by kernel_rfl) ?_
  refine And.intro (inI64 (by omega) (by omega)) ?_
  conv => whnf
  refine PCallQ.sca _ (cv) rfl ?_
  refine And.intro (inI64 (by omega) (by omega)) ?_
  conv => whnf
  refine PCallQ.nl _ (cA) rfl ?_
  refine Grd.intro (fun h => absurd h (by simp; omega)) (fun _ => ?_)
  refine LoopC.mk (fun i : Nat => i ≤ 4) (fun i => [(1, byts more), (5, .bptr 0 0), (6, .bptr 1 0), (9, .int .i64 i)]) (fun i => [(0, .box x.row), (1, .box y.row)]) 2 (fun i => 4 - i) 0
    ⟨Nat.zero_le _, [(0, 0), (14, 1)], rfl, rfl, ⟨AVle.refl _, AVle.refl _, AVle.refl _, AVle.refl _, trivial⟩, ⟨MOle.refl _, MOle.refl _, trivial⟩⟩ ?_
  intro i hi
  refine Grd.intro (fun g1 => ?_) (fun g1 => ?_)
  · have hi4 : i < 4 := by have := of_decide_eq_true g1; omega
    obtain ⟨r, hr, hrt, cr⟩ := RecordFor_fn (UInt8.ofNat i :: more) (by simp; omega) hx (by omega)
    have c1 := specRecordOK_fn r (by omega)
    have fin : ∀ j : Nat, j = i + 1 → (i : Int) + 1 = j := fun j h => by omega
    refine DrawC.mkQ 8 [(.inr 2, 4)] rfl (by kernel_rfl) ?_; refine And.intro (by kernel_rfl) ?_
    refine And.intro (show inI .u8 (i : Int) from ⟨by show (0 : Int) ≤ _; omega, by show _ ≤ (255 : Int); omega⟩) ?_
    refine And.intro ⟨show (1 + more.length) * 1 ≤ 140737488355328 by omega, fun i hi => rfl⟩ ?_
    conv => whnf
    have hrow : ∀ j, j < 1 + more.length → appRows 1 (fun k => List.take 1 (List.drop (k * 1) [AV.int .u8 (i : Int)])) (fun k => [AV.int .u8 ((ix more k).toNat : Int)]) j = [AV.int .u8 ((ix (UInt8.ofNat i :: more) j).toNat : Int)] := fun j hj => by
      unfold appRows
      cases j with
      | zero =>
        show [AV.int .u8 (i : Int)] = [AV.int .u8 ((UInt8.ofNat i).toNat : Int)]
        congr 2
        simp; omega
      | succ j => rfl
    refine PCallQ.sca _ (cr.weak (AVsle.cons (AVle.sl (show 1 + more.length = (UInt8.ofNat i :: more).length by simp; omega) fun j hj => hrow j (by simpa [Nat.add_comm] using hj)) (AVsle.cons (AVle.refl _) AVsle.nil)) (AVle.refl _)) rfl ?_
    by_cases hro : r.ok = true
    · rw [hro] at c1
      conv => whnf
      refine CallC.sca _ (c1) ?_ ?_
      · exact rfl
      refine Grd.intro (fun g2 => ?_) (fun g2 => ?_)
      · refine And.intro (inI64 (by omega) (by omega)) ?_
        exact ⟨i + 1, hi4, by omega, [(0, 0), (1, 1)], rfl, rfl, ⟨AVle.refl _, AVle.refl _, AVle.refl _, AVle.of_eq (congrArg (AV.int .i64) (by simp)), trivial⟩, ⟨MOle.refl _, MOle.refl _, trivial⟩⟩
      have g2 : ¬ r.tok = 0 := by simpa using g2
      refine Grd.intro (fun g3 => ?_) (fun g3 => ?_)
      · refine And.intro (inI64 (by omega) (by omega)) ?_
        exact ⟨i + 1, hi4, by omega, [(0, 0), (1, 1)], rfl, rfl, ⟨AVle.refl _, AVle.refl _, AVle.refl _, AVle.of_eq (congrArg (AV.int .i64) (by simp)), trivial⟩, ⟨MOle.refl _, MOle.refl _, trivial⟩⟩
      have g3 : r.tok < y.fence := by simp at g3; omega
      have hnt := stale hro g2 g3
      have cB := ApplyRecordF y r hy (by omega) hro
      have ey : y.app r = y.tick := by unfold Sta.app; rw [if_neg (by rw [hnt]; simp)]
      rw [hnt, ey] at cB
      conv => whnf
      refine CallC.nl _ (cB) ?_ ?_
      · exact rfl
      refine Grd.intro (fun h => absurd h (by simp [Sta.tick])) (fun _ => ?_)
      conv => whnf
      refine CallC.nl _ (cE) ?_ ?_
      · exact rfl
      refine And.intro (inI64 (by omega) (by omega)) ?_
      exact ⟨i + 1, hi4, by omega, [(0, 0), (1, 1)], rfl, rfl, ⟨AVle.refl _, AVle.refl _, AVle.refl _, AVle.of_eq (congrArg (AV.int .i64) (by simp)), trivial⟩, ⟨MOle.refl _, MOle.refl _, trivial⟩⟩
    · rw [show r.ok = false by simpa using hro] at c1
      conv => whnf
      refine CallC.sca _ (c1) ?_ ?_
      · exact rfl
      refine And.intro (inI64 (by omega) (by omega)) ?_
      exact ⟨i + 1, hi4, by omega, [(0, 0), (1, 1)], rfl, rfl, ⟨AVle.refl _, AVle.refl _, AVle.refl _, AVle.of_eq (congrArg (AV.int .i64) (by simp)), trivial⟩, ⟨MOle.refl _, MOle.refl _, trivial⟩⟩
  · exact And.intro trivial (AVle.refl _)
end Go.Proofs.YtgiaaaejobhngaaDoor
