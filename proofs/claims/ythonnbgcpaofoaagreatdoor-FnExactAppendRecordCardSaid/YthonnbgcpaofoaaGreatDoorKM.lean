/- laws.FnExactAppendRecord. The conditions are the theorems' own. -/
import Derived.Test.YthonnbgcpaofoaaGreatDoorKO
import Derived.Test.YthonnbgcpaofoaaGreatDoorKJ
import Derived.Test.YthonnbgcpaofoaaGreatDoorKA
import Derived.Test.YthonnbgcpaofoaaGreatDoorGM
set_option linter.unusedVariables false
set_option linter.constructorNameAsVariable false
set_option linter.unusedSimpArgs false
set_option maxRecDepth 20000
namespace Go.Proofs.YthonnbgcpaofoaaGreatDoor
open Go Go.Vw

def manK (n : Int) : List UInt8 := [109, 97, 110, 47] ++ six6 n.toNat
def appS (s : Sto) (n : Int) (r : Rc) : Sto × Int := s.putA (manK n) r.text
def appC (s : Sto) (n : Int) (r : Rc) : Int := if s.ok = true ∧ r.ok = true then (if within n 1 999999 = true then 0 else 4) else 1
theorem app_ok {s : Sto} {n : Int} {r : Rc} (h : appC s n r = 0) : s.ok = true ∧ r.ok = true ∧ within n 1 999999 = true := by
  unfold appC at h
  split at h
  · rename_i h1
    split at h
    · rename_i h2; exact ⟨h1.1, h1.2, h2⟩
    · cases h
  · cases h
theorem app_len (s : Sto) (hs : s.ok = true) (n : Int) (r : Rc) : (appS s n r).1.os.length ≤ 301 := by
  have hL := (Sto.ok_at hs).2.1
  unfold appS Sto.putA
  split
  · show s.os.length ≤ 301; omega
  · show (s.put _ _).os.length ≤ 301
    unfold Sto.put
    split
    · have := set_len_le s (manK n) r.text; omega
    · omega
theorem text_len {r : Rc} (h : r.ok = true) : r.text.length ≤ 1000000 := by
  have hl := Rc.head_len h
  have hk := (Rc.okN h).2
  unfold Rc.text
  simp only [List.length_append, List.length_cons, List.length_nil]
  omega
theorem l06Key_fn (n : Int) (h : within n 1 999999 = true) : VFn Tryz.prog 147 [.int .i64 n] (.str (B (manK n))) := by
  have hb : 1 ≤ n ∧ n ≤ 999999 := by simpa [within] using h
  have c := l03Wide_fn n.toNat (by omega)
  rw [show ((n.toNat : Nat) : Int) = n by omega] at c
  refine VFn.introC Tryz.call147 Tryz.func147 rfl rfl ?_
  conv => whnf
  refine CallC.sca _ (c) ?_ ?_
  · exact rfl
  refine And.intro (show ((4 + (B (six6 n.toNat)).size : Nat) : Int) ≤ 9223372036854775807 by rw [B_size, six6_len]; decide) ?_
  refine force_to (congrArg AV.str (show B [109, 97, 110, 47] ++ B (six6 n.toNat) = B (manK n) from B_app _ _)) ?_
  exact And.intro trivial (AVle.refl _)
theorem l06Append_fn (s : Sto) (hs : s.ok = true) (n : Int) (h : within n 1 999999 = true) (r : Rc) (hr : r.ok = true) : VFn Tryz.prog 136 [s.av, .int .i64 n, r.av] (.tup [(appS s n r).1.av, .int .i64 (appS s n r).2]) := by
  have co := l01Absent_fn s hs (manK n) r.text
  refine VFn.introC Tryz.call136 Tryz.func136 rfl rfl ?_
  refine DrawC.mkK 10 [(.inl 2, 8)] rfl (by kernel_rfl) ?_
  refine And.intro rfl ?_
  conv => whnf
  refine PCallK.sca _ (l06Key_fn n h) rfl ?_
  conv => whnf
  refine PCallK.sca _ (l06Text_fn r hr) rfl ?_
  conv => whnf
  refine PCallK.nl _ (co) rfl ?_
  exact And.intro trivial (AVle.refl _)
theorem lay_fn (s : Sto) (hs : s.ok = true) (n : Int) (h : within n 1 999999 = true) (r : Rc) (hr : r.ok = true) : VFn Tryz.prog 140 [s.av, .int .i64 n, r.av] (.tup [(appS s n r).1.av, .int .i64 (appS s n r).2]) := by
  have hb : 1 ≤ n ∧ n ≤ 999999 := by simpa [within] using h
  have co := putAbsent_fn s hs (manK n) r.text (by have := text_len hr; omega)
  have cw := within_fn n 1 999999
  rw [h] at cw
  refine VFn.introC Tryz.call140 Tryz.func140 rfl rfl ?_
  conv => whnf
  refine CallC.sca _ (cw) ?_ ?_
  · exact rfl
  refine DrawC.mkK 15 [(.inr 11, 12)] rfl (by kernel_rfl) ?_
  refine And.intro rfl ?_
  conv => whnf
  refine PCallK.sca _ (six_fn n (by simp [within]; omega)) rfl ?_
  conv => whnf
  refine And.intro (show ((4 + (B (six6 n.toNat)).size : Nat) : Int) ≤ 9223372036854775807 by rw [B_size, six6_len]; decide) ?_
  refine force_to (congrArg AV.str (show B [109, 97, 110, 47] ++ B (six6 n.toNat) = B (manK n) from B_app _ _)) ?_
  conv => whnf
  refine PCallK.sca _ (recText_fn r hr) rfl ?_
  conv => whnf
  refine PCallK.nl _ (co) rfl ?_
  exact And.intro trivial (AVle.refl _)
theorem specAppend_yes (s : Sto) (hr : StoRd s) (n : Int) (r : Rc) (hk : r.key.length ≤ 1000000000) (ha : appC s n r = 0) : VFn Tryz.prog 57 [s.av, .int .i64 n, r.av] (.tup [(appS s n r).1.av, .int .i64 (appS s n r).2]) := by
  obtain ⟨hs, ho, hw⟩ := app_ok ha
  have hl := app_len s hs n r
  have c := specStoreOK_ok s (by have := hr.len; omega) hr.key hr.nxt
  have cr := specRecordOK_fn r hk
  have cw := l01In_fn n 1 999999
  rw [hs] at c
  rw [ho] at cr
  rw [hw] at cw
  refine VFn.introC Tryz.call57 Tryz.func57 rfl rfl ?_
  conv => whnf
  refine CallC.sca _ (c) ?_ ?_
  · exact rfl
  conv => whnf
  refine CallC.sca _ (cr) ?_ ?_
  · exact rfl
  conv => whnf
  refine CallC.sca _ (cw) ?_ ?_
  · exact rfl
  conv => whnf
  refine CallC.nl _ (l06Append_fn s hs n hw r ho) ?_ ?_
  · exact rfl
  conv => whnf
  refine CallC.nl _ (l01Own_fn (appS s n r).1 (by omega)) ?_ ?_
  · exact rfl
  exact And.intro trivial (AVle.refl _)
theorem specAppend_no (s : Sto) (hr : StoRd s) (n : Int) (r : Rc) (hk : r.key.length ≤ 1000000000) (ha : appC s n r ≠ 0) : VFn Tryz.prog 57 [s.av, .int .i64 n, r.av] (.tup [sto0, .int .i64 (appC s n r)]) := by
  have c := specStoreOK_ok s (by have := hr.len; omega) hr.key hr.nxt
  have cr := specRecordOK_fn r hk
  have cw := l01In_fn n 1 999999
  unfold appC at ha ⊢
  cases hs : s.ok
  · rw [hs] at c
    rw [if_neg (by simp)]
    refine VFn.introC Tryz.call57 Tryz.func57 rfl rfl ?_
    conv => whnf
    refine CallC.sca _ (c) ?_ ?_
    · exact rfl
    exact And.intro trivial (AVle.refl _)
  cases ho : r.ok
  · rw [hs] at c
    rw [ho] at cr
    rw [if_neg (by simp)]
    refine VFn.introC Tryz.call57 Tryz.func57 rfl rfl ?_
    conv => whnf
    refine CallC.sca _ (c) ?_ ?_
    · exact rfl
    conv => whnf
    refine CallC.sca _ (cr) ?_ ?_
    · exact rfl
    exact And.intro trivial (AVle.refl _)
  cases hw : within n 1 999999
  · rw [hs] at c
    rw [ho] at cr
    rw [hw] at cw
    rw [if_pos ⟨rfl, rfl⟩, if_neg (by simp)]
    refine VFn.introC Tryz.call57 Tryz.func57 rfl rfl ?_
    conv => whnf
    refine CallC.sca _ (c) ?_ ?_
    · exact rfl
    conv => whnf
    refine CallC.sca _ (cr) ?_ ?_
    · exact rfl
    conv => whnf
    refine CallC.sca _ (cw) ?_ ?_
    · exact rfl
    exact And.intro trivial (AVle.refl _)
  · rw [hs, ho, hw] at ha; exact absurd rfl ha
theorem Append_own (s : Sto) (hr : StoRd s) (n : Int) (r : Rc) (ha : appC s n r = 0) : FnM Tryz.prog 60 0 [s.av, .int .i64 n, r.av] [] (.tup [(appS s n r).1.own, .int .i64 (appS s n r).2]) [(0, .arr 225 3 (appS s n r).1.os.length fun i => (ix (appS s n r).1.os i).row)] 1 := by
  obtain ⟨hs, ho, hw⟩ := app_ok ha
  have hl := app_len s hs n r
  have c := StoreOK_fn s (by have := hr.len; omega) hr.key
  have cr := RecordOK_fn r
  have cw := within_fn n 1 999999
  rw [hs] at c
  rw [ho] at cr
  rw [hw] at cw
  refine FnM.introC Tryz.call60 Tryz.func60 rfl rfl ?_
  conv => whnf
  refine CallC.sca _ (c) ?_ ?_
  · exact rfl
  conv => whnf
  refine CallC.sca _ (cr) ?_ ?_
  · exact rfl
  conv => whnf
  refine CallC.sca _ (cw) ?_ ?_
  · exact rfl
  conv => whnf
  refine CallC.sca _ (first2_of false false _ _ ⟨rfl, rfl, rfl, rfl, trivial⟩ rfl (show _ = (0 : Int) from rfl)) ?_ ?_
  · exact rfl
  conv => whnf
  refine CallC.nl _ (lay_fn s hs n hw r ho) ?_ ?_
  · exact rfl
  conv => whnf
  refine CallC.k [] (copied_own (appS s n r).1 (by omega)) rfl rfl (AVsle.refl _) trivial rfl ?_
  exact And.intro trivial ⟨[(5, 0)], rfl, AVle.refl _, ⟨MOle.refl _, trivial⟩⟩
theorem Append_no (s : Sto) (hr : StoRd s) (n : Int) (r : Rc) (ha : appC s n r ≠ 0) : VFn Tryz.prog 60 [s.av, .int .i64 n, r.av] (.tup [sto0, .int .i64 (appC s n r)]) := by
  have c := StoreOK_fn s (by have := hr.len; omega) hr.key
  have cr := RecordOK_fn r
  have cw := within_fn n 1 999999
  unfold appC at ha ⊢
  cases hs : s.ok
  · rw [hs] at c
    rw [if_neg (by simp)]
    refine VFn.introC Tryz.call60 Tryz.func60 rfl rfl ?_
    conv => whnf
    refine CallC.sca _ (c) ?_ ?_
    · exact rfl
    conv => whnf
    refine CallC.sca _ (cw) ?_ ?_
    · exact rfl
    conv => whnf
    refine CallC.sca _ (first2_of true _ _ _ ⟨rfl, rfl, rfl, rfl, trivial⟩ rfl (show _ = (1 : Int) from rfl)) ?_ ?_
    · exact rfl
    exact And.intro trivial (AVle.refl _)
  cases ho : r.ok
  · rw [hs] at c
    rw [ho] at cr
    rw [if_neg (by simp)]
    refine VFn.introC Tryz.call60 Tryz.func60 rfl rfl ?_
    conv => whnf
    refine CallC.sca _ (c) ?_ ?_
    · exact rfl
    conv => whnf
    refine CallC.sca _ (cr) ?_ ?_
    · exact rfl
    conv => whnf
    refine CallC.sca _ (cw) ?_ ?_
    · exact rfl
    conv => whnf
    refine CallC.sca _ (first2_of true _ _ _ ⟨rfl, rfl, rfl, rfl, trivial⟩ rfl (show _ = (1 : Int) from rfl)) ?_ ?_
    · exact rfl
    exact And.intro trivial (AVle.refl _)
  cases hw : within n 1 999999
  · rw [hs] at c
    rw [ho] at cr
    rw [hw] at cw
    rw [if_pos ⟨rfl, rfl⟩, if_neg (by simp)]
    refine VFn.introC Tryz.call60 Tryz.func60 rfl rfl ?_
    conv => whnf
    refine CallC.sca _ (c) ?_ ?_
    · exact rfl
    conv => whnf
    refine CallC.sca _ (cr) ?_ ?_
    · exact rfl
    conv => whnf
    refine CallC.sca _ (cw) ?_ ?_
    · exact rfl
    conv => whnf
    refine CallC.sca _ (first2_of false true _ _ ⟨rfl, rfl, rfl, rfl, trivial⟩ rfl (show _ = (4 : Int) from rfl)) ?_ ?_
    · exact rfl
    exact And.intro trivial (AVle.refl _)
  · rw [hs, ho, hw] at ha; exact absurd rfl ha
theorem szRecordN_fn (r : Rc) (n : Int) (h0 : 0 ≤ n) (h1 : n ≤ 1048576) (hk : r.key.length ≤ 9223372036854775807) : VFn Tryz.prog 56 [r.av, .int .i64 n] (.int .i64 (szr r.key.length n)) := by
  refine VFn.introC Tryz.call56 Tryz.func56 rfl rfl ?_
  refine And.intro (show inI .i64 (n - ((B r.key).size : Int)) by rw [B_size]; exact inI64 (by omega) (by omega)) ?_
  refine Grd.intro (fun h2 => ?_) (fun h2 => ?_)
  · have h2 : n - ((B r.key).size : Int) < 0 := of_decide_eq_true h2
    rw [B_size] at h2
    rw [szr_no (show ¬ ((r.key.length : Nat) : Int) ≤ n by omega)]
    exact And.intro trivial (AVle.refl _)
  · have h2 : ¬ n - ((B r.key).size : Int) < 0 := of_decide_eq_false h2
    rw [B_size] at h2
    rw [szr_yes (show ((r.key.length : Nat) : Int) ≤ n by omega)]
    exact And.intro trivial (AVle.of_eq (congrArg (AV.int .i64) (show n - ((B r.key).size : Int) = _ by rw [B_size])))
theorem law_AppendRecord (s : Sto) (h : StoIn s) (n : Int) (_ : IntKind.i64.min ≤ n ∧ n ≤ IntKind.i64.max) (r : Rc) (hq : r.key.length ≤ 9223372036854775807) : VFn Tryz.prog 9 [s.av, .int .i64 n, r.av] (.bool true) := by
  refine VFn.introC Tryz.call9 Tryz.func9 rfl rfl ?_
  conv => whnf
  refine CallC.sca _ (szStore_fn s h) ?_ ?_
  · exact rfl
  by_cases hl : (stoN s : Int) ≤ 1048576
  case neg =>
    rw [szr_no hl]
    exact And.intro trivial (AVle.refl _)
  rw [szr_yes hl]
  obtain ⟨m1, m2, m3⟩ := Sto_small hl
  have hr : StoRd s := ⟨m1, fun o ho => Nat.le_trans (m2 o ho) (by decide), h.nxt⟩
  refine Grd.intro (fun h2 => absurd (of_decide_eq_true h2) (by omega)) (fun _ => ?_)
  conv => whnf
  refine CallC.sca _ (szRecordN_fn r (1048576 - (stoN s : Int)) (by omega) (by omega) hq) ?_ ?_
  · exact rfl
  by_cases hl2 : ((r.key.length : Nat) : Int) ≤ 1048576 - (stoN s : Int)
  case neg =>
    rw [szr_no hl2]
    exact And.intro trivial (AVle.refl _)
  rw [szr_yes hl2]
  have hk : r.key.length ≤ 1000000000 := by omega
  refine Grd.intro (fun h2 => absurd (of_decide_eq_true h2) (by omega)) (fun _ => ?_)
  refine DrawC.mkK 12 [(.inr 9, 10)] rfl (by kernel_rfl) ?_
  refine And.intro rfl ?_
  conv => whnf
  refine PCallK.nl _ (toStore_fn s m1) rfl ?_
  conv => whnf
  refine PCallK.sca _ (toRecord_fn r) rfl ?_
  by_cases ha : appC s n r = 0
  · have hs := (app_ok ha).1
    have hcl := app_len s hs n r
    obtain ⟨s', hs'⟩ : ∃ s', s' = (appS s n r).1 := ⟨_, rfl⟩
    obtain ⟨c', hc'⟩ : ∃ c', c' = (appS s n r).2 := ⟨_, rfl⟩
    have c1 := specAppend_yes s hr n r hk ha
    have c2 := Append_own s hr n r ha
    rw [← hs', ← hc'] at c1 c2
    rw [← hs'] at hcl
    conv => whnf
    refine PCallK.nl _ (c1) rfl ?_
    conv => whnf
    refine CallC.k [] (toStore_own s m1) rfl rfl (AVsle.refl _) trivial rfl ?_
    refine DrawC.mkK 11 [(.inr 8, 9)] rfl (by kernel_rfl) ?_
    refine And.intro rfl ?_
    conv => whnf
    refine PCallK.sca _ (toRecord_fn r) rfl ?_
    conv => whnf
    refine PCallK.own c2 rfl (fun i hi => rfl) ?_
    conv => whnf
    refine CallC.sca _ (eqStore_fn s' (by omega)) ?_ ?_
    · exact rfl
    refine Grd.intro (fun h => absurd h (by simp)) (fun _ => ?_)
    refine DrawC.mk 5 rfl (by kernel_rfl) ?_
    refine PCallC.nl _ (toStore_fn s m1) rfl ?_
    refine PCallC.sca _ (eqStore_fn s m1) rfl ?_
    conv => whnf
    refine CallC.k [(14, 0)] (markStore_fn s.os.length _ s.next (fun i hi => ⟨_, _, _, rfl⟩) m1 1 (by omega)) rfl rfl (AVsle.refl _) ⟨MOle.refl _, trivial⟩ rfl ?_
    conv => whnf
    refine CallC.sca _ (eqStore_fn s' (by omega)) ?_ ?_
    · exact rfl
    refine Grd.intro (fun h => absurd h (by simp)) (fun _ => ?_)
    conv => whnf
    refine CallC.k [(20, 0)] (markStore_fn s'.os.length _ s'.next (fun i hi => ⟨_, _, _, rfl⟩) (by omega) 1 (by omega)) rfl rfl (AVsle.refl _) ⟨MOle.refl _, trivial⟩ rfl ?_
    conv => whnf
    refine CallC.sca _ (heldStore_fn s'.os.length s'.next (by omega) 1 (by omega)) ?_ ?_
    · exact rfl
    refine Grd.intro (fun h => absurd h (by simp)) (fun _ => ?_)
    refine DrawC.mkK 12 [(.inr 9, 10)] rfl (by kernel_rfl) ?_
    refine And.intro rfl ?_
    conv => whnf
    refine PCallK.nl _ (toStore_fn s m1) rfl ?_
    conv => whnf
    refine PCallK.sca _ (toRecord_fn r) rfl ?_
    conv => whnf
    refine PCallK.own c2 rfl (fun i hi => rfl) ?_
    conv => whnf
    refine CallC.sca _ (eqStore_fn s' (by omega)) ?_ ?_
    · exact rfl
    refine Grd.intro (fun h => absurd h (by simp)) (fun _ => ?_)
    conv => whnf
    refine CallC.sca _ (heldStore_fn s'.os.length s'.next (by omega) 1 (by omega)) ?_ ?_
    · exact rfl
    refine Grd.intro (fun h => absurd h (by simp)) (fun _ => ?_)
    exact And.intro trivial (AVle.refl _)
  · have c1 := specAppend_no s hr n r hk ha
    have c2 := Append_no s hr n r ha
    conv => whnf
    refine PCallK.nl _ (c1) rfl ?_
    conv => whnf
    refine CallC.k [] (toStore_own s m1) rfl rfl (AVsle.refl _) trivial rfl ?_
    refine DrawC.mkK 11 [(.inr 8, 9)] rfl (by kernel_rfl) ?_
    refine And.intro rfl ?_
    conv => whnf
    refine PCallK.sca _ (toRecord_fn r) rfl ?_
    conv => whnf
    refine PCallK.sca _ (c2) rfl ?_
    conv => whnf
    refine CallC.sca _ (eqStore0_fn) ?_ ?_
    · exact rfl
    refine Grd.intro (fun h => absurd h (by simp)) (fun _ => ?_)
    refine DrawC.mk 5 rfl (by kernel_rfl) ?_
    refine PCallC.nl _ (toStore_fn s m1) rfl ?_
    refine PCallC.sca _ (eqStore_fn s m1) rfl ?_
    conv => whnf
    refine CallC.k [(14, 0)] (markStore_fn s.os.length _ s.next (fun i hi => ⟨_, _, _, rfl⟩) m1 1 (by omega)) rfl rfl (AVsle.refl _) ⟨MOle.refl _, trivial⟩ rfl ?_
    conv => whnf
    refine CallC.sca _ (eqStore0_fn) ?_ ?_
    · exact rfl
    refine Grd.intro (fun h => absurd h (by simp)) (fun _ => ?_)
    conv => whnf
    refine CallC.sca _ (markStore0_fn 1) ?_ ?_
    · exact rfl
    conv => whnf
    refine CallC.sca _ (heldStore0_fn) ?_ ?_
    · exact rfl
    refine DrawC.mkK 12 [(.inr 9, 10)] rfl (by kernel_rfl) ?_
    refine And.intro rfl ?_
    conv => whnf
    refine PCallK.nl _ (toStore_fn s m1) rfl ?_
    conv => whnf
    refine PCallK.sca _ (toRecord_fn r) rfl ?_
    conv => whnf
    refine PCallK.sca _ (c2) rfl ?_
    conv => whnf
    refine CallC.sca _ (eqStore0_fn) ?_ ?_
    · exact rfl
    refine Grd.intro (fun h => absurd h (by simp)) (fun _ => ?_)
    conv => whnf
    refine CallC.sca _ (heldStore0_fn) ?_ ?_
    · exact rfl
    exact And.intro trivial (AVle.refl _)
end Go.Proofs.YthonnbgcpaofoaaGreatDoor
