/- laws.FnExactRelease. The conditions are the theorem's own. -/
import Derived.Test.YthonnbgcpaofoaaGreatDoorKJ
import Derived.Test.YthonnbgcpaofoaaGreatDoorKA
set_option linter.unusedVariables false
set_option linter.constructorNameAsVariable false
set_option linter.unusedSimpArgs false
set_option maxRecDepth 20000
namespace Go.Proofs.YthonnbgcpaofoaaGreatDoor
open Go Go.Vw

theorem set_len_le (s : Sto) (k d : List UInt8) : (s.set k d).os.length ≤ s.os.length + 1 := by rw [Sto.set_len]; split <;> omega
theorem chg_len (s : Sto) (hs : s.ok = true) (who tok til : Int) : (s.chg who tok til).1.os.length ≤ 301 := by
  have hL := (Sto.ok_at hs).2.1
  unfold Sto.chg
  split
  · show (s.put _ _).os.length ≤ 301
    unfold Sto.put
    split
    · have := set_len_le s leaK (s.chgL til).text; omega
    · omega
  · show s.os.length ≤ 301; omega
theorem ask_ok {s : Sto} {who now : Int} (h : ask s who now = 0) : s.ok = true ∧ within who 0 9 = true ∧ within now 0 101000 = true := by
  unfold ask at h
  split at h
  · rename_i h1
    split at h
    · rename_i h2; exact ⟨h1, h2.1, h2.2⟩
    · cases h
  · cases h
theorem specRelease_yes (s : Sto) (hr : StoRd s) (who tok : Int) (ha : ask s who 0 = 0) : VFn Tryz.prog 66 [s.av, .int .i64 who, .int .i64 tok] (.tup [(s.chg who tok 0).1.av, .int .i64 (s.chg who tok 0).2]) := by
  have hs := (ask_ok ha).1
  have c := l05Ask_fn s hr who 0
  rw [ha] at c
  have hl := chg_len s hs who tok 0
  refine VFn.introC Tryz.call66 Tryz.func66 rfl rfl ?_
  conv => whnf
  refine CallC.sca _ (c) ?_ ?_
  · exact rfl
  conv => whnf
  refine CallC.nl _ (l05Change_fn s hs who tok 0 (by omega)) ?_ ?_
  · exact rfl
  conv => whnf
  refine CallC.nl _ (l01Own_fn (s.chg who tok 0).1 (by omega)) ?_ ?_
  · exact rfl
  exact And.intro trivial (AVle.refl _)
theorem specRelease_no (s : Sto) (hr : StoRd s) (who tok : Int) (ha : ask s who 0 ≠ 0) : VFn Tryz.prog 66 [s.av, .int .i64 who, .int .i64 tok] (.tup [sto0, .int .i64 (ask s who 0)]) := by
  have c := l05Ask_fn s hr who 0
  refine VFn.introC Tryz.call66 Tryz.func66 rfl rfl ?_
  conv => whnf
  refine CallC.sca _ (c) ?_ ?_
  · exact rfl
  refine Grd.intro (fun _ => ?_) (fun h => absurd (by simpa using h) ha)
  exact And.intro trivial (AVle.refl _)
theorem releaseC (s : Sto) (who : Int) : (if (!s.ok) = true then (1 : Int) else if (!within who 0 9) = true then 4 else 0) = ask s who 0 := by
  unfold ask
  cases s.ok <;> cases h : within who 0 9 <;> simp [h, within]
theorem Release_own (s : Sto) (hr : StoRd s) (who tok : Int) (ha : ask s who 0 = 0) : FnM Tryz.prog 67 0 [s.av, .int .i64 who, .int .i64 tok] [] (.tup [(s.chg who tok 0).1.own, .int .i64 (s.chg who tok 0).2]) [(0, .arr 225 3 (s.chg who tok 0).1.os.length fun i => (ix (s.chg who tok 0).1.os i).row)] 1 := by
  have hs := (ask_ok ha).1
  have hl := chg_len s hs who tok 0
  have cs := StoreOK_fn s (by have := hr.len; omega) hr.key
  have e := (releaseC s who).trans ha
  refine FnM.introC Tryz.call67 Tryz.func67 rfl rfl ?_
  conv => whnf
  refine CallC.sca _ (cs) ?_ ?_
  · exact rfl
  conv => whnf
  refine CallC.sca _ (isId_fn who) ?_ ?_
  · exact rfl
  conv => whnf
  refine CallC.sca _ (first2_of _ _ _ _ ⟨rfl, rfl, rfl, rfl, trivial⟩ rfl e) ?_ ?_
  · exact rfl
  conv => whnf
  refine CallC.nl _ (till_fn s hs who tok 0 (by omega)) ?_ ?_
  · exact rfl
  conv => whnf
  refine CallC.k [] (copied_own (s.chg who tok 0).1 (by omega)) rfl rfl (AVsle.refl _) trivial rfl ?_
  exact And.intro trivial ⟨[(4, 0)], rfl, AVle.refl _, ⟨MOle.refl _, trivial⟩⟩
theorem Release_no (s : Sto) (hr : StoRd s) (who tok : Int) (ha : ask s who 0 ≠ 0) : VFn Tryz.prog 67 [s.av, .int .i64 who, .int .i64 tok] (.tup [sto0, .int .i64 (ask s who 0)]) := by
  have cs := StoreOK_fn s (by have := hr.len; omega) hr.key
  refine VFn.introC Tryz.call67 Tryz.func67 rfl rfl ?_
  conv => whnf
  refine CallC.sca _ (cs) ?_ ?_
  · exact rfl
  conv => whnf
  refine CallC.sca _ (isId_fn who) ?_ ?_
  · exact rfl
  conv => whnf
  refine CallC.sca _ (first2_of _ _ _ _ ⟨rfl, rfl, rfl, rfl, trivial⟩ rfl (releaseC s who)) ?_ ?_
  · exact rfl
  refine Grd.intro (fun _ => ?_) (fun h => absurd (by simpa using h) ha)
  exact And.intro trivial (AVle.refl _)
theorem lawRelease (s : Sto) (who tok : Int) (h : StoIn s) : VFn Tryz.prog 11 [s.av, .int .i64 who, .int .i64 tok] (.bool true) := by
  refine VFn.introC Tryz.call11 Tryz.func11 rfl rfl ?_
  conv => whnf
  refine CallC.sca _ (szStore_fn s h) ?_ ?_
  · exact rfl
  by_cases hl : (stoN s : Int) ≤ 1048576
  case neg =>
    rw [szr_no hl]
    exact And.intro trivial (AVle.refl _)
  rw [szr_yes hl]
  obtain ⟨m1, m2, m3⟩ := Sto_small hl
  have hr : StoRd s := ⟨m1, fun o ho => Nat.le_trans (m2 o ho) (by decide), h.nxt⟩
  refine Grd.intro (fun h2 => absurd (of_decide_eq_true h2) (by omega)) (fun _ => ?_)
  conv => whnf
  refine CallC.nl _ (toStore_fn s m1) ?_ ?_
  · exact rfl
  by_cases ha : ask s who 0 = 0
  · have hs := (ask_ok ha).1
    have hcl := chg_len s hs who tok 0
    obtain ⟨s', hs'⟩ : ∃ s', s' = (s.chg who tok 0).1 := ⟨_, rfl⟩
    obtain ⟨c', hc'⟩ : ∃ c', c' = (s.chg who tok 0).2 := ⟨_, rfl⟩
    have c1 := specRelease_yes s hr who tok ha
    have c2 := Release_own s hr who tok ha
    rw [← hs', ← hc'] at c1 c2
    rw [← hs'] at hcl
    conv => whnf
    refine CallC.nl _ (c1) ?_ ?_
    · exact rfl
    conv => whnf
    refine CallC.k [] (toStore_own s m1) rfl rfl (AVsle.refl _) trivial rfl ?_
    conv => whnf
    refine CallC.m [] c2 rfl rfl (AVsle.refl _) trivial rfl ⟨fun i hi => rfl, trivial⟩ rfl ?_
    conv => whnf
    refine CallC.sca _ (eqStore_fn s' (by omega)) ?_ ?_
    · exact rfl
    refine Grd.intro (fun h => absurd h (by simp)) (fun _ => ?_)
    refine DrawC.mk 5 rfl (by kernel_rfl) ?_
    refine PCallC.nl _ (toStore_fn s m1) rfl ?_
    refine PCallC.sca _ (eqStore_fn s m1) rfl ?_
    conv => whnf
    refine CallC.k [(2, 0)] (markStore_fn s.os.length _ s.next (fun i hi => ⟨_, _, _, rfl⟩) m1 1 (by omega)) rfl rfl (AVsle.refl _) ⟨MOle.refl _, trivial⟩ rfl ?_
    conv => whnf
    refine CallC.sca _ (eqStore_fn s' (by omega)) ?_ ?_
    · exact rfl
    refine Grd.intro (fun h => absurd h (by simp)) (fun _ => ?_)
    conv => whnf
    refine CallC.k [(4, 0)] (markStore_fn s'.os.length _ s'.next (fun i hi => ⟨_, _, _, rfl⟩) (by omega) 1 (by omega)) rfl rfl (AVsle.refl _) ⟨MOle.refl _, trivial⟩ rfl ?_
    conv => whnf
    refine CallC.sca _ (heldStore_fn s'.os.length s'.next (by omega) 1 (by omega)) ?_ ?_
    · exact rfl
    refine Grd.intro (fun h => absurd h (by simp)) (fun _ => ?_)
    conv => whnf
    refine CallC.nl _ (toStore_fn s m1) ?_ ?_
    · exact rfl
    conv => whnf
    refine CallC.k [] c2 rfl rfl (AVsle.refl _) trivial rfl ?_
    conv => whnf
    refine CallC.sca _ (eqStore_fn s' (by omega)) ?_ ?_
    · exact rfl
    refine Grd.intro (fun h => absurd h (by simp)) (fun _ => ?_)
    conv => whnf
    refine CallC.sca _ (heldStore_fn s'.os.length s'.next (by omega) 1 (by omega)) ?_ ?_
    · exact rfl
    refine Grd.intro (fun h => absurd h (by simp)) (fun _ => ?_)
    exact And.intro trivial (AVle.refl _)
  · have c1 := specRelease_no s hr who tok ha
    have c2 := Release_no s hr who tok ha
    conv => whnf
    refine CallC.nl _ (c1) ?_ ?_
    · exact rfl
    conv => whnf
    refine CallC.k [] (toStore_own s m1) rfl rfl (AVsle.refl _) trivial rfl ?_
    conv => whnf
    refine CallC.sca _ (c2) ?_ ?_
    · exact rfl
    conv => whnf
    refine CallC.sca _ (eqStore0_fn) ?_ ?_
    · exact rfl
    refine Grd.intro (fun h => absurd h (by simp)) (fun _ => ?_)
    refine DrawC.mk 5 rfl (by kernel_rfl) ?_
    refine PCallC.nl _ (toStore_fn s m1) rfl ?_
    refine PCallC.sca _ (eqStore_fn s m1) rfl ?_
    conv => whnf
    refine CallC.k [(2, 0)] (markStore_fn s.os.length _ s.next (fun i hi => ⟨_, _, _, rfl⟩) m1 1 (by omega)) rfl rfl (AVsle.refl _) ⟨MOle.refl _, trivial⟩ rfl ?_
    conv => whnf
    refine CallC.sca _ (eqStore0_fn) ?_ ?_
    · exact rfl
    refine Grd.intro (fun h => absurd h (by simp)) (fun _ => ?_)
    conv => whnf
    refine CallC.sca _ (markStore0_fn 1) ?_ ?_
    · exact rfl
    conv => whnf
    refine CallC.sca _ (heldStore0_fn) ?_ ?_
    · exact rfl
    conv => whnf
    refine CallC.nl _ (toStore_fn s m1) ?_ ?_
    · exact rfl
    conv => whnf
    refine CallC.nl _ (c2) ?_ ?_
    · exact rfl
    conv => whnf
    refine CallC.sca _ (eqStore0_fn) ?_ ?_
    · exact rfl
    refine Grd.intro (fun h => absurd h (by simp)) (fun _ => ?_)
    conv => whnf
    refine CallC.sca _ (heldStore0_fn) ?_ ?_
    · exact rfl
    exact And.intro trivial (AVle.refl _)
theorem law_Release (s : Sto) (h : StoIn s) (who : Int) (_ : IntKind.i64.min ≤ who ∧ who ≤ IntKind.i64.max) (tok : Int) (_ : IntKind.i64.min ≤ tok ∧ tok ≤ IntKind.i64.max) : VFn Tryz.prog 11 [s.av, .int .i64 who, .int .i64 tok] (.bool true) := lawRelease s who tok h
end Go.Proofs.YthonnbgcpaofoaaGreatDoor
