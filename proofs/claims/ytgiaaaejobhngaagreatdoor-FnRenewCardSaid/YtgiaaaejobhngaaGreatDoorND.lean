/- What the laws of leases call: contracts; the conditions are the theorems' own. -/
import Derived.Test.YtgiaaaejobhngaaGreatDoorQ6
import Derived.Test.YtgiaaaejobhngaaGreatDoorQ5
set_option linter.unusedVariables false
set_option linter.constructorNameAsVariable false
set_option linter.unusedSimpArgs false
set_option maxRecDepth 20000
namespace Go.Proofs.YtgiaaaejobhngaaGreatDoor
open Go Go.Vw

theorem rd_of {s : Sto} (hs : s.ok = true) : StoRd s := by
  obtain ⟨h1, h2, h3⟩ := Sto.ok_at hs
  have hn : 1 ≤ s.next ∧ s.next ≤ 1000000000 := by simpa [within] using h1
  refine ⟨by omega, fun o ho => ?_, by omega⟩
  have := (((stoOK_iff s).1 hs).el o ho).1
  simp [keyOK, within] at this
  omega
theorem ask_of {s : Sto} {who now : Int} (hs : s.ok = true) (hw : 0 ≤ who ∧ who ≤ 9) (hn : 0 ≤ now ∧ now ≤ 101000) : ask s who now = 0 := by
  unfold ask
  rw [if_pos hs, if_pos ⟨by simp [within]; omega, by simp [within]; omega⟩]
theorem AcquireF (s : Sto) (who now : Int) (hs : s.ok = true) (hw : 0 ≤ who ∧ who ≤ 9) (hn : 0 ≤ now ∧ now ≤ 101000) : VFn Tryz.prog 15 [s.av, .int .i64 who, .int .i64 now] (.tup [(acqS s who now).av, .int .i64 (acqT s who now), .int .i64 (acqR s who now)]) :=
  (Acquire_own s (rd_of hs) who now (ask_of hs hw hn)).vfn
theorem RenewF (s : Sto) (who tok now : Int) (hs : s.ok = true) (hw : 0 ≤ who ∧ who ≤ 9) (hn : 0 ≤ now ∧ now ≤ 101000) : VFn Tryz.prog 17 [s.av, .int .i64 who, .int .i64 tok, .int .i64 now] (.tup [(s.chg who tok (now + 20)).1.av, .int .i64 (s.chg who tok (now + 20)).2]) :=
  (Renew_own s (rd_of hs) who tok now (ask_of hs hw hn)).vfn
theorem LeaseOf_fn (s : Sto) (hs : s.ok = true) : VFn Tryz.prog 14 [s.av] (.tup [s.lea.1.av, .int .i64 s.lea.2]) := by
  have cs := StoreOK_fn s (by have := (rd_of hs).len; omega) (rd_of hs).key
  rw [hs] at cs
  refine VFn.introC Tryz.call14 Tryz.func14 rfl rfl ?_
  conv => whnf
  refine CallC.sca _ (cs) ?_ ?_
  · exact rfl
  conv => whnf
  refine CallC.sca _ (lease_fn s hs) ?_ ?_
  · exact rfl
  exact And.intro trivial (AVle.refl _)
theorem at_fn (L : List UInt8) (i n : Int) (hm : L.length ≤ 1048576) (hi : 0 ≤ i ∧ i ≤ 1000) (hn : 1 < n ∧ n ≤ 1000) : ∃ v, (0 ≤ v ∧ v < n) ∧ VFn Tryz.prog 13 [byts L, .int .i64 i, .int .i64 n] (.int .i64 v) := by
  by_cases h0 : L.length = 0
  · refine ⟨(i * 7).tmod n, tmod_b (by omega) (by omega), ?_⟩
    refine VFn.introC Tryz.call13 Tryz.func13 rfl rfl ?_
    refine Grd.intro (fun h => absurd (of_decide_eq_true h) (by omega)) (fun _ => ?_)
    refine Grd.intro (fun h => ?_) (fun h => absurd (of_decide_eq_false h) (by omega))
    refine And.intro (inI64 (by omega) (by omega)) ?_
    refine And.intro (show n ≠ 0 by omega) ?_
    exact And.intro trivial (AVle.refl _)
  · have q1 := tmod_b (n := i) (m := L.length) (by omega) (by omega)
    have q2 := tmod_b (n := i + 1) (m := L.length) (by omega) (by omega)
    have q3 := tdiv_b (n := i) (m := L.length) (by omega) (by omega)
    have b1 := (ix L (i.tmod L.length).toNat).toNat_lt
    have b2 := (ix L ((i + 1).tmod L.length).toNat).toNat_lt
    refine ⟨(((ix L (i.tmod L.length).toNat).toNat : Int) * 31 + ((ix L ((i + 1).tmod L.length).toNat).toNat : Int) + i.tdiv L.length).tmod n, tmod_b (by omega) (by omega), ?_⟩
    refine VFn.introC Tryz.call13 Tryz.func13 rfl rfl ?_
    refine Grd.intro (fun h => absurd (of_decide_eq_true h) (by omega)) (fun _ => ?_)
    refine Grd.intro (fun h => absurd (of_decide_eq_true h) (by omega)) (fun h => ?_)
    refine DrawC.mk 25 rfl (by kernel_rfl) ?_
    refine And.intro (show (L.length : Int) ≠ 0 by omega) ?_
    refine And.intro q1 ?_
    refine And.intro (show inI .i64 _ from inI64 (by omega) (by omega)) ?_
    refine And.intro (show inI .i64 _ from inI64 (by omega) (by omega)) ?_
    refine And.intro (show inI .i64 (i + 1) from inI64 (by omega) (by omega)) ?_
    refine And.intro (show (L.length : Int) ≠ 0 by omega) ?_
    refine And.intro q2 ?_
    refine And.intro (show inI .i64 _ from inI64 (by omega) (by omega)) ?_
    refine And.intro (show inI .i64 _ from inI64 (by omega) (by omega)) ?_
    refine And.intro ⟨show (L.length : Int) ≠ 0 by omega, show inI .i64 (i.tdiv L.length) from inI64 (by omega) (by omega)⟩ ?_
    refine And.intro (show inI .i64 _ from inI64 (by omega) (by omega)) ?_
    refine And.intro (show n ≠ 0 by omega) ?_
    exact And.intro trivial (AVle.refl _)
theorem sameStore_fn (s : Sto) (hL : s.os.length ≤ 1000000) : VFn Tryz.prog 19 [s.av, s.av] (.bool true) := by
  refine VFn.introC Tryz.call19 Tryz.func19 rfl rfl ?_
  refine Grd.intro (fun h => absurd h (by simp)) (fun _ => ?_)
  refine Grd.intro (fun h => absurd h (by simp)) (fun _ => ?_)
  refine LoopC.mk (fun i : Nat => i ≤ s.os.length) (fun i => [(2, .bptr 0 0), (3, .bptr 1 0), (5, .int .i64 i)]) (fun i => [(0, .box s.row), (1, .box s.row)]) 2 (fun i => s.os.length - i) 0
    ⟨Nat.zero_le _, [(0, 0), (1, 1)], rfl, rfl, ⟨AVle.refl _, AVle.refl _, AVle.refl _, trivial⟩, ⟨MOle.refl _, MOle.refl _, trivial⟩⟩ ?_
  intro i hi
  refine Grd.intro (fun h2 => ?_) (fun h2 => ?_)
  · have hin : i < s.os.length := by have := of_decide_eq_true h2; omega
    refine DrawC.mk 10 rfl (by kernel_rfl) ?_
    refine And.intro (by omega) ?_
    refine And.intro (by omega) ?_
    refine And.intro (by kernel_rfl) ?_
    refine Grd.intro (fun h => absurd h (by simp)) (fun _ => ?_)
    refine And.intro (inI64 (by omega) (by omega)) ?_
    exact ⟨i + 1, hin, by omega, [(0, 0), (1, 1)], rfl, rfl, ⟨AVle.refl _, AVle.refl _, AVle.of_eq (congrArg (AV.int .i64) (by simp)), trivial⟩, ⟨MOle.refl _, MOle.refl _, trivial⟩⟩
  · exact And.intro trivial (AVle.refl _)
end Go.Proofs.YtgiaaaejobhngaaGreatDoor
