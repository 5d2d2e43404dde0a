/- laws.FnExactRenew. The conditions are the theorem's own. -/
import Derived.Test.YthonnbgcpaofoaaGreatDoorKK
set_option linter.unusedVariables false
set_option linter.constructorNameAsVariable false
set_option linter.unusedSimpArgs false
set_option maxRecDepth 20000
namespace Go.Proofs.YthonnbgcpaofoaaGreatDoor
open Go Go.Vw

theorem isNow_fn (n : Int) : VFn Tryz.prog 76 [.int .i64 n] (.bool (within n 0 101000)) := by
  refine VFn.introC Tryz.call76 Tryz.func76 rfl rfl ?_
  conv => whnf
  refine CallC.sca _ (within_fn _ _ _) ?_ ?_
  · exact rfl
  exact And.intro trivial (AVle.refl _)
theorem now_b {now : Int} (h : within now 0 101000 = true) : 0 ≤ now ∧ now ≤ 101000 := by simpa [within] using h
theorem specRenew_yes (s : Sto) (hr : StoRd s) (who tok now : Int) (ha : ask s who now = 0) : VFn Tryz.prog 68 [s.av, .int .i64 who, .int .i64 tok, .int .i64 now] (.tup [(s.chg who tok (now + 20)).1.av, .int .i64 (s.chg who tok (now + 20)).2]) := by
  have hs := (ask_ok ha).1
  have hn := now_b (ask_ok ha).2.2
  have c := l05Ask_fn s hr who now
  rw [ha] at c
  have hl := chg_len s hs who tok (now + 20)
  refine VFn.introC Tryz.call68 Tryz.func68 rfl rfl ?_
  conv => whnf
  refine CallC.sca _ (c) ?_ ?_
  · exact rfl
  refine And.intro (inI64 (by omega) (by omega)) ?_
  conv => whnf
  refine CallC.nl _ (l05Change_fn s hs who tok (now + 20) (by omega)) ?_ ?_
  · exact rfl
  conv => whnf
  refine CallC.nl _ (l01Own_fn (s.chg who tok (now + 20)).1 (by omega)) ?_ ?_
  · exact rfl
  exact And.intro trivial (AVle.refl _)
theorem specRenew_no (s : Sto) (hr : StoRd s) (who tok now : Int) (ha : ask s who now ≠ 0) : VFn Tryz.prog 68 [s.av, .int .i64 who, .int .i64 tok, .int .i64 now] (.tup [sto0, .int .i64 (ask s who now)]) := by
  have c := l05Ask_fn s hr who now
  refine VFn.introC Tryz.call68 Tryz.func68 rfl rfl ?_
  conv => whnf
  refine CallC.sca _ (c) ?_ ?_
  · exact rfl
  refine Grd.intro (fun _ => ?_) (fun h => absurd (by simpa using h) ha)
  exact And.intro trivial (AVle.refl _)
theorem renewC (s : Sto) (who now : Int) {b : Bool} (h : (!within who 0 9 || !within now 0 101000) = b) : (if (!s.ok) = true then (1 : Int) else if b = true then 4 else 0) = ask s who now := by
  subst h
  unfold ask
  cases s.ok <;> cases within who 0 9 <;> cases within now 0 101000 <;> rfl
theorem Renew_own (s : Sto) (hr : StoRd s) (who tok now : Int) (ha : ask s who now = 0) : FnM Tryz.prog 69 0 [s.av, .int .i64 who, .int .i64 tok, .int .i64 now] [] (.tup [(s.chg who tok (now + 20)).1.own, .int .i64 (s.chg who tok (now + 20)).2]) [(0, .arr 225 3 (s.chg who tok (now + 20)).1.os.length fun i => (ix (s.chg who tok (now + 20)).1.os i).row)] 1 := by
  have hs := (ask_ok ha).1
  have hw := (ask_ok ha).2.1
  have hn' := (ask_ok ha).2.2
  have hn := now_b hn'
  have hl := chg_len s hs who tok (now + 20)
  have cs := StoreOK_fn s (by have := hr.len; omega) hr.key
  have ci := isId_fn who
  have cn := isNow_fn now
  rw [hw] at ci
  rw [hn'] at cn
  refine FnM.introC Tryz.call69 Tryz.func69 rfl rfl ?_
  conv => whnf
  refine CallC.sca _ (cs) ?_ ?_
  · exact rfl
  conv => whnf
  refine CallC.sca _ (ci) ?_ ?_
  · exact rfl
  conv => whnf
  refine CallC.sca _ (cn) ?_ ?_
  · exact rfl
  conv => whnf
  refine CallC.sca _ (first2_of _ _ _ _ ⟨rfl, rfl, rfl, rfl, trivial⟩ rfl ((renewC s who now (by rw [hw, hn']; rfl)).trans ha)) ?_ ?_
  · exact rfl
  refine And.intro (inI64 (by omega) (by omega)) ?_
  conv => whnf
  refine CallC.nl _ (till_fn s hs who tok (now + 20) (by omega)) ?_ ?_
  · exact rfl
  conv => whnf
  refine CallC.k [] (copied_own (s.chg who tok (now + 20)).1 (by omega)) rfl rfl (AVsle.refl _) trivial rfl ?_
  exact And.intro trivial ⟨[(4, 0)], rfl, AVle.refl _, ⟨MOle.refl _, trivial⟩⟩
theorem Renew_no (s : Sto) (hr : StoRd s) (who tok now : Int) (ha : ask s who now ≠ 0) : VFn Tryz.prog 69 [s.av, .int .i64 who, .int .i64 tok, .int .i64 now] (.tup [sto0, .int .i64 (ask s who now)]) := by
  have cs := StoreOK_fn s (by have := hr.len; omega) hr.key
  have ci := isId_fn who
  have cn := isNow_fn now
  by_cases hw : within who 0 9 = true
  · rw [hw] at ci
    refine VFn.introC Tryz.call69 Tryz.func69 rfl rfl ?_
    conv => whnf
    refine CallC.sca _ (cs) ?_ ?_
    · exact rfl
    conv => whnf
    refine CallC.sca _ (ci) ?_ ?_
    · exact rfl
    conv => whnf
    refine CallC.sca _ (cn) ?_ ?_
    · exact rfl
    conv => whnf
    refine CallC.sca _ (first2_of _ _ _ _ ⟨rfl, rfl, rfl, rfl, trivial⟩ rfl (renewC s who now (by rw [hw]; rfl))) ?_ ?_
    · exact rfl
    refine Grd.intro (fun _ => ?_) (fun h => absurd (by simpa using h) ha)
    exact And.intro trivial (AVle.refl _)
  · have hw : within who 0 9 = false := by simpa using hw
    rw [hw] at ci
    refine VFn.introC Tryz.call69 Tryz.func69 rfl rfl ?_
    conv => whnf
    refine CallC.sca _ (cs) ?_ ?_
    · exact rfl
    conv => whnf
    refine CallC.sca _ (ci) ?_ ?_
    · exact rfl
    conv => whnf
    refine CallC.sca _ (first2_of _ _ _ _ ⟨rfl, rfl, rfl, rfl, trivial⟩ rfl (renewC s who now (by rw [hw]; rfl))) ?_ ?_
    · exact rfl
    refine Grd.intro (fun _ => ?_) (fun h => absurd (by simpa using h) ha)
    exact And.intro trivial (AVle.refl _)
theorem lawRenew (s : Sto) (who tok now : Int) (h : StoIn s) : VFn Tryz.prog 12 [s.av, .int .i64 who, .int .i64 tok, .int .i64 now] (.bool true) := by
  refine VFn.introC Tryz.call12 Tryz.func12 rfl rfl ?_
  conv => whnf
  refine CallC.sca _ (szStore_fn s h) ?_ ?_
  · exact rfl
  by_cases hl : (stoN s : Int) ≤ 1048576
  case neg =>
    rw [szr_no hl]
    exact And.intro trivial (AVle.refl _)
  rw [szr_yes hl]
  obtain ⟨m1, m2, m3⟩ := Sto_small hl
  have hr : StoRd s := ⟨m1, fun o ho => Nat.le_trans (m2 o ho) (by decide), h.nxt⟩
  refine Grd.intro (fun h2 => absurd (of_decide_eq_true h2) (by omega)) (fun _ => ?_)
  conv => whnf
  refine CallC.nl _ (toStore_fn s m1) ?_ ?_
  · exact rfl
  by_cases ha : ask s who now = 0
  · have hs := (ask_ok ha).1
    have hcl := chg_len s hs who tok (now + 20)
    obtain ⟨s', hs'⟩ : ∃ s', s' = (s.chg who tok (now + 20)).1 := ⟨_, rfl⟩
    obtain ⟨c', hc'⟩ : ∃ c', c' = (s.chg who tok (now + 20)).2 := ⟨_, rfl⟩
    have c1 := specRenew_yes s hr who tok now ha
    have c2 := Renew_own s hr who tok now ha
    rw [← hs', ← hc'] at c1 c2
    rw [← hs'] at hcl
    conv => whnf
    refine CallC.nl _ (c1) ?_ ?_
    · exact rfl
    conv => whnf
    refine CallC.k [] (toStore_own s m1) rfl rfl (AVsle.refl _) trivial rfl ?_
    conv => whnf
    refine CallC.m [] c2 rfl rfl (AVsle.refl _) trivial rfl ⟨fun i hi => rfl, trivial⟩ rfl ?_
    conv => whnf
    refine CallC.sca _ (eqStore_fn s' (by omega)) ?_ ?_
    · exact rfl
    refine Grd.intro (fun h => absurd h (by simp)) (fun _ => ?_)
    refine DrawC.mk 5 rfl (by kernel_rfl) ?_
    refine PCallC.nl _ (toStore_fn s m1) rfl ?_
    refine PCallC.sca _ (eqStore_fn s m1) rfl ?_
    conv => whnf
    refine CallC.k [(2, 0)] (markStore_fn s.os.length _ s.next (fun i hi => ⟨_, _, _, rfl⟩) m1 1 (by omega)) rfl rfl (AVsle.refl _) ⟨MOle.refl _, trivial⟩ rfl ?_
    conv => whnf
    refine CallC.sca _ (eqStore_fn s' (by omega)) ?_ ?_
    · exact rfl
    refine Grd.intro (fun h => absurd h (by simp)) (fun _ => ?_)
    conv => whnf
    refine CallC.k [(4, 0)] (markStore_fn s'.os.length _ s'.next (fun i hi => ⟨_, _, _, rfl⟩) (by omega) 1 (by omega)) rfl rfl (AVsle.refl _) ⟨MOle.refl _, trivial⟩ rfl ?_
    conv => whnf
    refine CallC.sca _ (heldStore_fn s'.os.length s'.next (by omega) 1 (by omega)) ?_ ?_
    · exact rfl
    refine Grd.intro (fun h => absurd h (by simp)) (fun _ => ?_)
    conv => whnf
    refine CallC.nl _ (toStore_fn s m1) ?_ ?_
    · exact rfl
    conv => whnf
    refine CallC.k [] c2 rfl rfl (AVsle.refl _) trivial rfl ?_
    conv => whnf
    refine CallC.sca _ (eqStore_fn s' (by omega)) ?_ ?_
    · exact rfl
    refine Grd.intro (fun h => absurd h (by simp)) (fun _ => ?_)
    conv => whnf
    refine CallC.sca _ (heldStore_fn s'.os.length s'.next (by omega) 1 (by omega)) ?_ ?_
    · exact rfl
    refine Grd.intro (fun h => absurd h (by simp)) (fun _ => ?_)
    exact And.intro trivial (AVle.refl _)
  · have c1 := specRenew_no s hr who tok now ha
    have c2 := Renew_no s hr who tok now ha
    conv => whnf
    refine CallC.nl _ (c1) ?_ ?_
    · exact rfl
    conv => whnf
    refine CallC.k [] (toStore_own s m1) rfl rfl (AVsle.refl _) trivial rfl ?_
    conv => whnf
    refine CallC.sca _ (c2) ?_ ?_
    · exact rfl
    conv => whnf
    refine CallC.sca _ (eqStore0_fn) ?_ ?_
    · exact rfl
    refine Grd.intro (fun h => absurd h (by simp)) (fun _ => ?_)
    refine DrawC.mk 5 rfl (by kernel_rfl) ?_
    refine PCallC.nl _ (toStore_fn s m1) rfl ?_
    refine PCallC.sca _ (eqStore_fn s m1) rfl ?_
    conv => whnf
    refine CallC.k [(2, 0)] (markStore_fn s.os.length _ s.next (fun i hi => ⟨_, _, _, rfl⟩) m1 1 (by omega)) rfl rfl (AVsle.refl _) ⟨MOle.refl _, trivial⟩ rfl ?_
    conv => whnf
    refine CallC.sca _ (eqStore0_fn) ?_ ?_
    · exact rfl
    refine Grd.intro (fun h => absurd h (by simp)) (fun _ => ?_)
    conv => whnf
    refine CallC.sca _ (markStore0_fn 1) ?_ ?_
    · exact rfl
    conv => whnf
    refine CallC.sca _ (heldStore0_fn) ?_ ?_
    · exact rfl
    conv => whnf
    refine CallC.nl _ (toStore_fn s m1) ?_ ?_
    · exact rfl
    conv => whnf
    refine CallC.nl _ (c2) ?_ ?_
    · exact rfl
    conv => whnf
    refine CallC.sca _ (eqStore0_fn) ?_ ?_
    · exact rfl
    refine Grd.intro (fun h => absurd h (by simp)) (fun _ => ?_)
    conv => whnf
    refine CallC.sca _ (heldStore0_fn) ?_ ?_
    · exact rfl
    exact And.intro trivial (AVle.refl _)
theorem law_Renew (s : Sto) (h : StoIn s) (who : Int) (_ : IntKind.i64.min ≤ who ∧ who ≤ IntKind.i64.max) (tok : Int) (_ : IntKind.i64.min ≤ tok ∧ tok ≤ IntKind.i64.max) (now : Int) (_ : IntKind.i64.min ≤ now ∧ now ≤ IntKind.i64.max) : VFn Tryz.prog 12 [s.av, .int .i64 who, .int .i64 tok, .int .i64 now] (.bool true) := lawRenew s who tok now h
end Go.Proofs.YthonnbgcpaofoaaGreatDoor
