/- laws.FnExactSweepOrphans. The conditions are the theorems' own. -/
import Derived.Test.YtgiaaaejobhngaaGreatDoorMW
import Derived.Test.YtgiaaaejobhngaaGreatDoorQ3
set_option linter.unusedVariables false
set_option linter.constructorNameAsVariable false
set_option linter.unusedSimpArgs false
set_option maxRecDepth 20000
namespace Go.Proofs.YtgiaaaejobhngaaGreatDoor
open Go Go.Vw

def orphL (x : Sto) : List (List UInt8) := (dataKs x).filter (logS x).orph
def swO (x : Sto) : Sto × Int := match orphL x with | [] => (x, 18) | k :: _ => (wo x k, 0)
theorem orphL_has {x : Sto} (hs : x.ok = true) {k : List UInt8} {r : List (List UInt8)} (h : orphL x = k :: r) : x.has k = true := by
  have h1 : k ∈ orphL x := by rw [h]; simp
  exact has_of_mem hs (List.mem_filter.1 (List.mem_filter.1 h1).1).1
theorem swO_len {x : Sto} (hs : x.ok = true) : (swO x).1.os.length ≤ 300 := by
  have hL := (Sto.ok_at hs).2.1
  unfold swO
  split
  · exact hL
  · exact Nat.le_trans (wo_len _ _) hL
theorem dataKs_len (x : Sto) : (dataKs x).length ≤ x.os.length := Nat.le_trans (List.length_filter_le _ _) (by simp)
theorem ok_key {x : Sto} (hs : x.ok = true) : ∀ o ∈ x.os, o.key.length ≤ 30 := fun o ho => by
  have := ((stoOK_iff x).1 hs).el o ho
  simp only [keyOK, within, Bool.and_eq_true, decide_eq_true_eq] at this
  omega
theorem sweepOrphans_fn (x : Sto) (hs : x.ok = true) : VFn Tryz.prog 108 [x.av] (.tup [(swO x).1.av, .int .i64 (swO x).2]) := by
  have hL := (Sto.ok_at hs).2.1
  obtain ⟨b1, b2, b3, b4⟩ := log_b x
  have co := orphans_fn (logS x) (by omega) (by omega) (dataKs x) (by have := dataKs_len x; omega)
  rw [show (dataKs x).filter (logS x).orph = orphL x from rfl] at co
  cases hl : orphL x with
  | nil =>
    have e : swO x = (x, 18) := by unfold swO; rw [hl]
    rw [hl] at co
    rw [e]
    refine VFn.introC Tryz.call108 Tryz.func108 rfl rfl ?_
    refine DrawC.mk 6 rfl (by kernel_rfl) ?_
    refine PCallC.nl _ (log_fn x hs) rfl ?_
    refine PCallC.nl _ (dataKeys_fn x (by omega)) rfl ?_
    refine PCallC.nl _ (co) rfl ?_
    exact And.intro trivial (AVle.refl _)
  | cons k r =>
    have e : swO x = (wo x k, 0) := by unfold swO; rw [hl]
    rw [hl] at co
    rw [e]
    have hk := orphL_has hs hl
    refine VFn.introC Tryz.call108 Tryz.func108 rfl rfl ?_
    refine DrawC.mk 6 rfl (by kernel_rfl) ?_
    refine PCallC.nl _ (log_fn x hs) rfl ?_
    refine PCallC.nl _ (dataKeys_fn x (by omega)) rfl ?_
    refine PCallC.nl _ (co) rfl ?_
    refine DrawC.mk 4 rfl (by kernel_rfl) ?_
    refine And.intro ⟨Int.le_refl 0, show (0 : Int) < (((k :: r).length : Nat) : Int) by rw [List.length_cons]; omega⟩ ?_
    conv => whnf
    refine CallC.nl _ (without_fn x hs k hk) ?_ ?_
    · exact rfl
    exact And.intro trivial (AVle.refl _)
theorem l11Orphans_fn (x : Sto) (hs : x.ok = true) : VFn Tryz.prog 107 [x.av] (.tup [(swO x).1.av, .int .i64 (swO x).2]) := by
  have hL := (Sto.ok_at hs).2.1
  have hkk := ok_key hs
  obtain ⟨b1, b2, b3, b4⟩ := log_b x
  have co := l07Orphans_fn (logS x) (by omega) (by omega) (dataKs x) (by have := dataKs_len x; omega) (fun k hk => by
    obtain ⟨o, ho, rfl⟩ := List.mem_map.1 (List.mem_filter.1 hk).1
    have := hkk o ho; omega)
  rw [show (dataKs x).filter (logS x).orph = orphL x from rfl] at co
  have ck := l11Keys_fn x (by omega) (fun o ho => by have := hkk o ho; omega)
  cases hl : orphL x with
  | nil =>
    have e : swO x = (x, 18) := by unfold swO; rw [hl]
    rw [hl] at co
    rw [e]
    refine VFn.introC Tryz.call107 Tryz.func107 rfl rfl ?_
    refine DrawC.mk 6 rfl (by kernel_rfl) ?_
    refine PCallC.nl _ (l06Replay_fn x hs) rfl ?_
    refine PCallC.nl _ (ck) rfl ?_
    refine PCallC.nl _ (co) rfl ?_
    exact And.intro trivial (AVle.refl _)
  | cons k r =>
    have e : swO x = (wo x k, 0) := by unfold swO; rw [hl]
    rw [hl] at co
    rw [e]
    have hk := orphL_has hs hl
    have cg := l01Get_fn x hs k
    rw [if_pos hk] at cg
    refine VFn.introC Tryz.call107 Tryz.func107 rfl rfl ?_
    refine DrawC.mk 6 rfl (by kernel_rfl) ?_
    refine PCallC.nl _ (l06Replay_fn x hs) rfl ?_
    refine PCallC.nl _ (ck) rfl ?_
    refine PCallC.nl _ (co) rfl ?_
    refine DrawC.mk 10 rfl (by kernel_rfl) ?_
    refine And.intro ⟨Int.le_refl 0, show (0 : Int) < (((k :: r).length : Nat) : Int) by rw [List.length_cons]; omega⟩ ?_
    refine PCallC.sca _ (cg) rfl ?_
    refine DrawC.mk 8 rfl (by kernel_rfl) ?_
    refine And.intro ⟨Int.le_refl 0, show (0 : Int) < (((k :: r).length : Nat) : Int) by rw [List.length_cons]; omega⟩ ?_
    refine PCallC.nl _ (l01Delete_fn x hs k hk) rfl ?_
    exact And.intro trivial (AVle.refl _)
theorem SweepOrphans_own (x : Sto) (hr : StoRd x) (hs : x.ok = true) : FnM Tryz.prog 40 0 [x.av] [] (.tup [(swO x).1.own, .int .i64 (swO x).2]) [(0, .arr 98 3 (swO x).1.os.length fun i => (ix (swO x).1.os i).row)] 1 := by
  have c := StoreOK_fn x (by have := hr.len; omega) hr.key
  rw [hs] at c
  have hl := swO_len hs
  refine FnM.introC Tryz.call40 Tryz.func40 rfl rfl ?_
  conv => whnf
  refine CallC.sca _ (c) ?_ ?_
  · exact rfl
  conv => whnf
  refine CallC.nl _ (sweepOrphans_fn x hs) ?_ ?_
  · exact rfl
  conv => whnf
  refine CallC.k [] (copied_own (swO x).1 (by omega)) rfl rfl (AVsle.refl _) trivial rfl ?_
  exact And.intro trivial ⟨[(3, 0)], rfl, AVle.refl _, ⟨MOle.refl _, trivial⟩⟩
theorem SweepOrphans_no (x : Sto) (hr : StoRd x) (hs : x.ok = false) : VFn Tryz.prog 40 [x.av] (.tup [sto0, .int .i64 1]) := by
  have c := StoreOK_fn x (by have := hr.len; omega) hr.key
  rw [hs] at c
  refine VFn.introC Tryz.call40 Tryz.func40 rfl rfl ?_
  conv => whnf
  refine CallC.sca _ (c) ?_ ?_
  · exact rfl
  exact And.intro trivial (AVle.refl _)
theorem specSweepOrphans_yes (x : Sto) (hr : StoRd x) (hs : x.ok = true) : VFn Tryz.prog 39 [x.av] (.tup [(swO x).1.av, .int .i64 (swO x).2]) := by
  have c := specStoreOK_ok x (by have := hr.len; omega) hr.key hr.nxt
  rw [hs] at c
  have hl := swO_len hs
  refine VFn.introC Tryz.call39 Tryz.func39 rfl rfl ?_
  conv => whnf
  refine CallC.sca _ (c) ?_ ?_
  · exact rfl
  conv => whnf
  refine CallC.nl _ (l11Orphans_fn x hs) ?_ ?_
  · exact rfl
  conv => whnf
  refine CallC.nl _ (l01Own_fn (swO x).1 (by omega)) ?_ ?_
  · exact rfl
  exact And.intro trivial (AVle.refl _)
theorem specSweepOrphans_no (x : Sto) (hr : StoRd x) (hs : x.ok = false) : VFn Tryz.prog 39 [x.av] (.tup [sto0, .int .i64 1]) := by
  have c := specStoreOK_ok x (by have := hr.len; omega) hr.key hr.nxt
  rw [hs] at c
  refine VFn.introC Tryz.call39 Tryz.func39 rfl rfl ?_
  conv => whnf
  refine CallC.sca _ (c) ?_ ?_
  · exact rfl
  exact And.intro trivial (AVle.refl _)
theorem lawSweepOrphans (s : Sto) (h : StoIn s) : VFn Tryz.prog 8 [s.av] (.bool true) := by
  refine VFn.introC Tryz.call8 Tryz.func8 rfl rfl ?_
  conv => whnf
  refine CallC.sca _ (szStore_fn s h) ?_ ?_
  · exact rfl
  by_cases hl : (stoN s : Int) ≤ 1048576
  case neg =>
    rw [szr_no hl]
    exact And.intro trivial (AVle.refl _)
  rw [szr_yes hl]
  obtain ⟨m1, m2, m3⟩ := Sto_small hl
  have hr : StoRd s := ⟨m1, fun o ho => Nat.le_trans (m2 o ho) (by decide), h.nxt⟩
  refine Grd.intro (fun h2 => absurd (of_decide_eq_true h2) (by omega)) (fun _ => ?_)
  conv => whnf
  refine CallC.nl _ (toStore_fn s m1) ?_ ?_
  · exact rfl
  by_cases hs : s.ok = true
  · have hcl := swO_len hs
    obtain ⟨s', hs'⟩ : ∃ s', s' = (swO s).1 := ⟨_, rfl⟩
    obtain ⟨c', hc'⟩ : ∃ c', c' = (swO s).2 := ⟨_, rfl⟩
    have c1 := specSweepOrphans_yes s hr hs
    have c2 := SweepOrphans_own s hr hs
    rw [← hs', ← hc'] at c1 c2
    rw [← hs'] at hcl
    conv => whnf
    refine CallC.nl _ (c1) ?_ ?_
    · exact rfl
    conv => whnf
    refine CallC.k [] (toStore_own s m1) rfl rfl (AVsle.refl _) trivial rfl ?_
    conv => whnf
    refine CallC.m [] c2 rfl rfl (AVsle.refl _) trivial rfl ⟨fun i hi => rfl, trivial⟩ rfl ?_
    conv => whnf
    refine CallC.sca _ (eqStore_fn s' (by omega)) ?_ ?_
    · exact rfl
    refine Grd.intro (fun h => absurd h (by simp)) (fun _ => ?_)
    refine DrawC.mk 5 rfl (by kernel_rfl) ?_
    refine PCallC.nl _ (toStore_fn s m1) rfl ?_
    refine PCallC.sca _ (eqStore_fn s m1) rfl ?_
    conv => whnf
    refine CallC.k [(2, 0)] (markStore_fn s.os.length _ s.next (fun i hi => ⟨_, _, _, rfl⟩) m1 1 (by omega)) rfl rfl (AVsle.refl _) ⟨MOle.refl _, trivial⟩ rfl ?_
    conv => whnf
    refine CallC.sca _ (eqStore_fn s' (by omega)) ?_ ?_
    · exact rfl
    refine Grd.intro (fun h => absurd h (by simp)) (fun _ => ?_)
    conv => whnf
    refine CallC.k [(4, 0)] (markStore_fn s'.os.length _ s'.next (fun i hi => ⟨_, _, _, rfl⟩) (by omega) 1 (by omega)) rfl rfl (AVsle.refl _) ⟨MOle.refl _, trivial⟩ rfl ?_
    conv => whnf
    refine CallC.sca _ (heldStore_fn s'.os.length s'.next (by omega) 1 (by omega)) ?_ ?_
    · exact rfl
    refine Grd.intro (fun h => absurd h (by simp)) (fun _ => ?_)
    conv => whnf
    refine CallC.nl _ (toStore_fn s m1) ?_ ?_
    · exact rfl
    conv => whnf
    refine CallC.k [] c2 rfl rfl (AVsle.refl _) trivial rfl ?_
    conv => whnf
    refine CallC.sca _ (eqStore_fn s' (by omega)) ?_ ?_
    · exact rfl
    refine Grd.intro (fun h => absurd h (by simp)) (fun _ => ?_)
    conv => whnf
    refine CallC.sca _ (heldStore_fn s'.os.length s'.next (by omega) 1 (by omega)) ?_ ?_
    · exact rfl
    refine Grd.intro (fun h => absurd h (by simp)) (fun _ => ?_)
    exact And.intro trivial (AVle.refl _)
  · have hs : s.ok = false := by simpa using hs
    have c1 := specSweepOrphans_no s hr hs
    have c2 := SweepOrphans_no s hr hs
    conv => whnf
    refine CallC.nl _ (c1) ?_ ?_
    · exact rfl
    conv => whnf
    refine CallC.k [] (toStore_own s m1) rfl rfl (AVsle.refl _) trivial rfl ?_
    conv => whnf
    refine CallC.sca _ (c2) ?_ ?_
    · exact rfl
    conv => whnf
    refine CallC.sca _ (eqStore0_fn) ?_ ?_
    · exact rfl
    refine DrawC.mk 5 rfl (by kernel_rfl) ?_
    refine PCallC.nl _ (toStore_fn s m1) rfl ?_
    refine PCallC.sca _ (eqStore_fn s m1) rfl ?_
    conv => whnf
    refine CallC.k [(2, 0)] (markStore_fn s.os.length _ s.next (fun i hi => ⟨_, _, _, rfl⟩) m1 1 (by omega)) rfl rfl (AVsle.refl _) ⟨MOle.refl _, trivial⟩ rfl ?_
    conv => whnf
    refine CallC.sca _ (eqStore0_fn) ?_ ?_
    · exact rfl
    conv => whnf
    refine CallC.sca _ (markStore0_fn 1) ?_ ?_
    · exact rfl
    conv => whnf
    refine CallC.sca _ (heldStore0_fn) ?_ ?_
    · exact rfl
    conv => whnf
    refine CallC.nl _ (toStore_fn s m1) ?_ ?_
    · exact rfl
    conv => whnf
    refine CallC.nl _ (c2) ?_ ?_
    · exact rfl
    conv => whnf
    refine CallC.sca _ (eqStore0_fn) ?_ ?_
    · exact rfl
    conv => whnf
    refine CallC.sca _ (heldStore0_fn) ?_ ?_
    · exact rfl
    exact And.intro trivial (AVle.refl _)
theorem law_SweepOrphans (s : Sto) (h : StoIn s) : VFn Tryz.prog 8 [s.av] (.bool true) := lawSweepOrphans s h
end Go.Proofs.YtgiaaaejobhngaaGreatDoor
