/- Contracts of functions that the claim reaches, and the plain law of what they compute; each theorem bears its own conditions. -/
import Derived.Test.YtgiaaaejobhngaaGreatDoorQ10
import Derived.Test.YtgiaaaejobhngaaGreatDoorQ3
import Derived.Test.YtgiaaaejobhngaaGreatDoorQ1
import Derived.Test.YtgiaaaejobhngaaGreatDoorV43
set_option linter.unusedVariables false
set_option linter.constructorNameAsVariable false
set_option linter.unusedSimpArgs false
set_option maxRecDepth 20000
namespace Go.Proofs.YtgiaaaejobhngaaGreatDoor
open Go Go.Vw

theorem l05Now_fn (n : Int) : VFn Tryz.prog 133 [.int .i64 n] (.bool (within n 0 101000)) := by
  refine VFn.introC Tryz.call133 Tryz.func133 rfl rfl ?_
  conv => whnf
  refine CallC.sca _ (l01In_fn _ _ _) ?_ ?_
  · exact rfl
  exact And.intro trivial (AVle.refl _)
def ask (s : Sto) (who now : Int) : Int := if s.ok = true then (if within who 0 9 = true ∧ within now 0 101000 = true then 0 else 4) else 1
theorem l05Ask_fn (s : Sto) (hr : StoRd s) (who now : Int) : VFn Tryz.prog 69 [s.av, .int .i64 who, .int .i64 now] (.int .i64 (ask s who now)) := by
  have c := specStoreOK_ok s (by have := hr.len; omega) hr.key hr.nxt
  unfold ask
  refine VFn.introC Tryz.call69 Tryz.func69 rfl rfl ?_
  conv => whnf
  refine CallC.sca _ (c) ?_ ?_
  · exact rfl
  refine Grd.intro (fun h1 => ?_) (fun h1 => ?_)
  · rw [if_neg (by have := wnot h1; simp [this])]
    exact And.intro trivial (AVle.refl _)
  rw [if_pos (wyes h1)]
  conv => whnf
  refine CallC.sca _ (l01In_fn _ _ _) ?_ ?_
  · exact rfl
  refine Grd.intro (fun h2 => ?_) (fun h2 => ?_)
  · rw [if_neg (fun h => by have := wnot h2; rw [h.1] at this; cases this)]
    exact And.intro trivial (AVle.refl _)
  conv => whnf
  refine CallC.sca _ (l05Now_fn _) ?_ ?_
  · exact rfl
  refine Grd.intro (fun h3 => ?_) (fun h3 => ?_)
  · rw [if_neg (fun h => by have := wnot h3; rw [h.2] at this; cases this)]
    exact And.intro trivial (AVle.refl _)
  rw [if_pos ⟨wyes h2, wyes h3⟩]
  exact And.intro trivial (AVle.refl _)
theorem l01Over_fn (s : Sto) (hs : s.ok = true) (k d : List UInt8) (hk : s.has k = true) : VFn Tryz.prog 153 [s.av, .str (B k), .int .i64 (s.get k).ver, .str (B d)] (.tup [(s.put k d).av, .int .i64 (s.room k d)]) := by
  have hL := (Sto.ok_at hs).2.1
  have hn : 1 ≤ s.next ∧ s.next ≤ 1000000000 := by simpa [within] using (Sto.ok_at hs).1
  have hv := get_ok s hs k hk
  have c := l01Get_fn s hs k
  rw [if_pos hk] at c
  refine VFn.introC Tryz.call153 Tryz.func153 rfl rfl ?_
  conv => whnf
  refine CallC.sca _ (c) ?_ ?_
  · exact rfl
  refine Grd.intro (fun h => absurd (of_decide_eq_true (p := (s.get k).ver = 0) h) (by omega)) (fun _ => ?_)
  refine Grd.intro (fun h => (wyes' h (decide_eq_true rfl)).elim) (fun _ => ?_)
  conv => whnf
  refine CallC.sca _ (l01Room_fn s hs k d) ?_ ?_
  · exact rfl
  refine Grd.intro (fun h => ?_) (fun h => ?_)
  · have h : s.room k d ≠ 0 := by simpa using h
    unfold Sto.put
    rw [if_neg h]
    exact And.intro trivial (AVle.refl _)
  · have h : s.room k d = 0 := by simpa using h
    unfold Sto.put
    rw [if_pos h, h]
    conv => whnf
    refine CallC.nl _ (l01Set_fn s (by omega) ⟨by omega, by omega⟩ k d) ?_ ?_
    · exact rfl
    exact And.intro trivial (AVle.refl _)
theorem chgC_cases (s : Sto) (who tok : Int) {l : Lea} (h : s.lea = (l, 0)) : s.chgC who tok = if l.who ≠ who ∨ l.tok ≠ tok ∨ l.til = 0 then 13 else 0 := by
  unfold Sto.chgC
  rw [h]
  simp
theorem l05Change_fn (s : Sto) (hs : s.ok = true) (who tok til : Int) (ht : -9223372036854775807 ≤ til ∧ til ≤ 9223372036854775807) : VFn Tryz.prog 75 [s.av, .int .i64 who, .int .i64 tok, .int .i64 til] (.tup [(s.chg who tok til).1.av, .int .i64 (s.chg who tok til).2]) := by
  have c := l05Of_fn s hs
  unfold Sto.chg
  rcases s.lea_cases with ⟨e, h⟩ | ⟨e, h, hr⟩ | ⟨l, e, h, hr, hl⟩
  · have e1 : s.chgC who tok = 13 := by unfold Sto.chgC; rw [e]; simp
    rw [e1, if_neg (by decide)]
    unfold Sto.leaV at c
    rw [e] at c
    refine VFn.introC Tryz.call75 Tryz.func75 rfl rfl ?_
    conv => whnf
    refine CallC.sca _ (c) ?_ ?_
    · exact rfl
    exact And.intro trivial (AVle.refl _)
  · have e1 : s.chgC who tok = 17 := by unfold Sto.chgC; rw [e]; simp
    rw [e1, if_neg (by decide)]
    unfold Sto.leaV at c
    rw [e] at c
    refine VFn.introC Tryz.call75 Tryz.func75 rfl rfl ?_
    conv => whnf
    refine CallC.sca _ (c) ?_ ?_
    · exact rfl
    exact And.intro trivial (AVle.refl _)
  · have e1 := chgC_cases s who tok e
    have e2 : s.chgL til = ⟨l.tok, l.who, til⟩ := by unfold Sto.chgL; rw [e]
    have hv := get_ok s hs leaK h
    unfold Sto.leaV at c
    rw [e] at c
    have c : VFn Tryz.prog 150 [s.av] (.tup [l.av, .int .i64 (s.get leaK).ver, .int .i64 0]) := c
    have hb : ∀ x ∈ [l.tok, l.who, til], -9223372036854775807 ≤ x ∧ x ≤ 9223372036854775807 := by
      simp [Lea.ok, within] at hl
      intro x hx
      simp at hx
      omega
    have ct := l05Text_fn ⟨l.tok, l.who, til⟩ hb
    have co := l01Over_fn s hs leaK (Lea.text ⟨l.tok, l.who, til⟩) h
    refine VFn.introC Tryz.call75 Tryz.func75 rfl rfl ?_
    conv => whnf
    refine CallC.sca _ (c) ?_ ?_
    · exact rfl
    refine Grd.intro (fun h => absurd (of_decide_eq_true (p := (s.get leaK).ver = 0) h) (by omega)) (fun _ => ?_)
    refine Grd.intro (fun h1 => ?_) (fun h1 => ?_)
    · have h1 : l.tok ≠ tok := by simpa using h1
      have e3 : s.chgC who tok = 13 := by rw [e1, if_pos (.inr (.inl h1))]
      rw [e3, if_neg (by decide)]
      exact And.intro trivial (AVle.refl _)
    have h1 : l.tok = tok := by simpa using h1
    refine Grd.intro (fun h2 => ?_) (fun h2 => ?_)
    · have h2 : l.who ≠ who := by simpa using h2
      have e3 : s.chgC who tok = 13 := by rw [e1, if_pos (.inl h2)]
      rw [e3, if_neg (by decide)]
      exact And.intro trivial (AVle.refl _)
    have h2 : l.who = who := by simpa using h2
    refine Grd.intro (fun h3 => ?_) (fun h3 => ?_)
    · have h3 : l.til = 0 := by simpa using h3
      have e3 : s.chgC who tok = 13 := by rw [e1, if_pos (.inr (.inr h3))]
      rw [e3, if_neg (by decide)]
      exact And.intro trivial (AVle.refl _)
    have h3 : ¬ l.til = 0 := by simpa using h3
    have e3 : s.chgC who tok = 0 := by rw [e1, if_neg (fun q => by rcases q with q | q | q; exact q h2; exact q h1; exact h3 q)]
    rw [e3, if_pos rfl, e2]
    refine DrawC.mkK 9 [(.inl 1, 7)] rfl (by kernel_rfl) ?_
    refine And.intro rfl ?_
    conv => whnf
    refine PCallK.sca _ (ct) rfl ?_
    conv => whnf
    refine PCallK.nl _ (co) rfl ?_
    exact And.intro trivial (AVle.refl _)
theorem till_fn (s : Sto) (hs : s.ok = true) (who tok til : Int) (ht : -9223372036854775807 ≤ til ∧ til ≤ 9223372036854775807) : VFn Tryz.prog 72 [s.av, .int .i64 who, .int .i64 tok, .int .i64 til] (.tup [(s.chg who tok til).1.av, .int .i64 (s.chg who tok til).2]) := by
  have c := lease_fn s hs
  unfold Sto.chg
  rcases s.lea_cases with ⟨e, h⟩ | ⟨e, h, hr⟩ | ⟨l, e, h, hr, hl⟩
  · have e1 : s.chgC who tok = 13 := by unfold Sto.chgC; rw [e]; simp
    rw [e1, if_neg (by decide)]
    rw [e] at c
    refine VFn.introC Tryz.call72 Tryz.func72 rfl rfl ?_
    conv => whnf
    refine CallC.sca _ (c) ?_ ?_
    · exact rfl
    conv => whnf
    refine CallC.sca _ (first2_of _ _ _ _ ⟨rfl, rfl, rfl, rfl, trivial⟩ rfl (show (if decide ((5 : Int) = 17) = true then (5 : Int) else if true = true then 13 else 0) = 13 by decide)) ?_ ?_
    · exact rfl
    exact And.intro trivial (AVle.refl _)
  · have e1 : s.chgC who tok = 17 := by unfold Sto.chgC; rw [e]; simp
    rw [e1, if_neg (by decide)]
    rw [e] at c
    refine VFn.introC Tryz.call72 Tryz.func72 rfl rfl ?_
    conv => whnf
    refine CallC.sca _ (c) ?_ ?_
    · exact rfl
    conv => whnf
    refine CallC.sca _ (first2_of _ _ _ _ ⟨rfl, rfl, rfl, rfl, trivial⟩ rfl (show (if decide ((17 : Int) = 17) = true then (17 : Int) else if true = true then 13 else 0) = 17 by decide)) ?_ ?_
    · exact rfl
    exact And.intro trivial (AVle.refl _)
  · have e1 := chgC_cases s who tok e
    have e2 : s.chgL til = ⟨l.tok, l.who, til⟩ := by unfold Sto.chgL; rw [e]
    rw [e] at c
    have hb : ∀ x ∈ [l.tok, l.who, til], -9223372036854775807 ≤ x ∧ x ≤ 9223372036854775807 := by
      simp [Lea.ok, within] at hl
      intro x hx
      simp at hx
      omega
    have ct := leaText_fn ⟨l.tok, l.who, til⟩ hb
    have hlen := Lea.text_len ⟨l.tok, l.who, til⟩ hb
    have co := put_fn s hs leaK (Lea.text ⟨l.tok, l.who, til⟩) (by omega)
    have f0 : ∀ b : Bool, (if decide ((0 : Int) = 17) = true then (0 : Int) else if b = true then 13 else 0) = if b = true then 13 else 0 := fun b => by rw [if_neg (by decide)]
    refine VFn.introC Tryz.call72 Tryz.func72 rfl rfl ?_
    conv => whnf
    refine CallC.sca _ (c) ?_ ?_
    · exact rfl
    refine Grd.intro (fun h1 => ?_) (fun h1 => ?_)
    · have h1 : l.who ≠ who := by simpa using h1
      have e3 : s.chgC who tok = 13 := by rw [e1, if_pos (.inl h1)]
      rw [e3, if_neg (by decide)]
      conv => whnf
      refine CallC.sca _ (first2_of _ true _ _ ⟨rfl, rfl, rfl, rfl, trivial⟩ rfl (f0 true)) ?_ ?_
      · exact rfl
      exact And.intro trivial (AVle.refl _)
    have h1 : l.who = who := by simpa using h1
    refine Grd.intro (fun h2 => ?_) (fun h2 => ?_)
    · have h2 : l.tok ≠ tok := by simpa using h2
      have e3 : s.chgC who tok = 13 := by rw [e1, if_pos (.inr (.inl h2))]
      rw [e3, if_neg (by decide)]
      conv => whnf
      refine CallC.sca _ (first2_of _ true _ _ ⟨rfl, rfl, rfl, rfl, trivial⟩ rfl (f0 true)) ?_ ?_
      · exact rfl
      exact And.intro trivial (AVle.refl _)
    have h2 : l.tok = tok := by simpa using h2
    by_cases h3 : l.til = 0
    · have e3 : s.chgC who tok = 13 := by rw [e1, if_pos (.inr (.inr h3))]
      rw [e3, if_neg (by decide)]
      conv => whnf
      refine CallC.sca _ (first2_of _ (decide (l.til = 0)) _ _ ⟨rfl, rfl, rfl, rfl, trivial⟩ rfl ((f0 _).trans (show _ = (13 : Int) by rw [if_pos (decide_eq_true h3)]))) ?_ ?_
      · exact rfl
      exact And.intro trivial (AVle.refl _)
    have e3 : s.chgC who tok = 0 := by rw [e1, if_neg (fun q => by rcases q with q | q | q; exact q h1; exact q h2; exact h3 q)]
    rw [e3, if_pos rfl, e2]
    conv => whnf
    refine CallC.sca _ (first2_of _ (decide (l.til = 0)) _ _ ⟨rfl, rfl, rfl, rfl, trivial⟩ rfl ((f0 _).trans (show _ = (0 : Int) by rw [if_neg (by simpa using h3)]))) ?_ ?_
    · exact rfl
    refine DrawC.mkK 12 [(.inr 8, 9)] rfl (by kernel_rfl) ?_
    refine And.intro rfl ?_
    conv => whnf
    refine PCallK.sca _ (ct) rfl ?_
    conv => whnf
    by_cases hroom : s.room leaK (Lea.text ⟨l.tok, l.who, til⟩) = 0
    · rw [if_pos hroom] at co
      unfold Sto.put
      rw [if_pos hroom, hroom]
      refine PCallK.nl _ (co) rfl ?_
      exact And.intro trivial (AVle.refl _)
    · rw [if_neg hroom] at co
      unfold Sto.put
      rw [if_neg hroom]
      refine PCallK.nl _ (co) rfl ?_
      exact And.intro trivial (AVle.refl _)
end Go.Proofs.YtgiaaaejobhngaaGreatDoor
set_option linter.unusedVariables false
set_option linter.constructorNameAsVariable false
set_option linter.unusedSimpArgs false
set_option maxRecDepth 20000
namespace Go.Proofs.YtgiaaaejobhngaaGreatDoor
open Go Go.Vw

theorem chg_len (s : Sto) (hs : s.ok = true) (who tok til : Int) : (s.chg who tok til).1.os.length ≤ 301 := by
  have hL := (Sto.ok_at hs).2.1
  unfold Sto.chg
  split
  · show (s.put _ _).os.length ≤ 301
    unfold Sto.put
    split
    · have := set_len_le s leaK (s.chgL til).text; omega
    · omega
  · show s.os.length ≤ 301; omega
theorem ask_ok {s : Sto} {who now : Int} (h : ask s who now = 0) : s.ok = true ∧ within who 0 9 = true ∧ within now 0 101000 = true := by
  unfold ask at h
  split at h
  · rename_i h1
    split at h
    · rename_i h2; exact ⟨h1, h2.1, h2.2⟩
    · cases h
  · cases h
theorem releaseC (s : Sto) (who : Int) : (if (!s.ok) = true then (1 : Int) else if (!within who 0 9) = true then 4 else 0) = ask s who 0 := by
  unfold ask
  cases s.ok <;> cases h : within who 0 9 <;> simp [h, within]
theorem Release_own (s : Sto) (hr : StoRd s) (who tok : Int) (ha : ask s who 0 = 0) : FnM Tryz.prog 18 0 [s.av, .int .i64 who, .int .i64 tok] [] (.tup [(s.chg who tok 0).1.own, .int .i64 (s.chg who tok 0).2]) [(0, .arr 98 3 (s.chg who tok 0).1.os.length fun i => (ix (s.chg who tok 0).1.os i).row)] 1 := by
  have hs := (ask_ok ha).1
  have hl := chg_len s hs who tok 0
  have cs := StoreOK_fn s (by have := hr.len; omega) hr.key
  have e := (releaseC s who).trans ha
  refine FnM.introC Tryz.call18 Tryz.func18 rfl rfl ?_
  conv => whnf
  refine CallC.sca _ (cs) ?_ ?_
  · exact rfl
  conv => whnf
  refine CallC.sca _ (isId_fn who) ?_ ?_
  · exact rfl
  conv => whnf
  refine CallC.sca _ (first2_of _ _ _ _ ⟨rfl, rfl, rfl, rfl, trivial⟩ rfl e) ?_ ?_
  · exact rfl
  conv => whnf
  refine CallC.nl _ (till_fn s hs who tok 0 (by omega)) ?_ ?_
  · exact rfl
  conv => whnf
  refine CallC.k [] (copied_own (s.chg who tok 0).1 (by omega)) rfl rfl (AVsle.refl _) trivial rfl ?_
  exact And.intro trivial ⟨[(4, 0)], rfl, AVle.refl _, ⟨MOle.refl _, trivial⟩⟩
theorem Release_no (s : Sto) (hr : StoRd s) (who tok : Int) (ha : ask s who 0 ≠ 0) : VFn Tryz.prog 18 [s.av, .int .i64 who, .int .i64 tok] (.tup [sto0, .int .i64 (ask s who 0)]) := by
  have cs := StoreOK_fn s (by have := hr.len; omega) hr.key
  refine VFn.introC Tryz.call18 Tryz.func18 rfl rfl ?_
  conv => whnf
  refine CallC.sca _ (cs) ?_ ?_
  · exact rfl
  conv => whnf
  refine CallC.sca _ (isId_fn who) ?_ ?_
  · exact rfl
  conv => whnf
  refine CallC.sca _ (first2_of _ _ _ _ ⟨rfl, rfl, rfl, rfl, trivial⟩ rfl (releaseC s who)) ?_ ?_
  · exact rfl
  refine Grd.intro (fun _ => ?_) (fun h => absurd (by simpa using h) ha)
  exact And.intro trivial (AVle.refl _)
end Go.Proofs.YtgiaaaejobhngaaGreatDoor
set_option linter.unusedVariables false
set_option linter.constructorNameAsVariable false
set_option linter.unusedSimpArgs false
set_option maxRecDepth 20000
namespace Go.Proofs.YtgiaaaejobhngaaGreatDoor
open Go Go.Vw

theorem isNow_fn (n : Int) : VFn Tryz.prog 66 [.int .i64 n] (.bool (within n 0 101000)) := by
  refine VFn.introC Tryz.call66 Tryz.func66 rfl rfl ?_
  conv => whnf
  refine CallC.sca _ (within_fn _ _ _) ?_ ?_
  · exact rfl
  exact And.intro trivial (AVle.refl _)
theorem now_b {now : Int} (h : within now 0 101000 = true) : 0 ≤ now ∧ now ≤ 101000 := by simpa [within] using h
theorem specRenew_yes (s : Sto) (hr : StoRd s) (who tok now : Int) (ha : ask s who now = 0) : VFn Tryz.prog 21 [s.av, .int .i64 who, .int .i64 tok, .int .i64 now] (.tup [(s.chg who tok (now + 20)).1.av, .int .i64 (s.chg who tok (now + 20)).2]) := by
  have hs := (ask_ok ha).1
  have hn := now_b (ask_ok ha).2.2
  have c := l05Ask_fn s hr who now
  rw [ha] at c
  have hl := chg_len s hs who tok (now + 20)
  refine VFn.introC Tryz.call21 Tryz.func21 rfl rfl ?_
  conv => whnf
  refine CallC.sca _ (c) ?_ ?_
  · exact rfl
  refine And.intro (inI64 (by omega) (by omega)) ?_
  conv => whnf
  refine CallC.nl _ (l05Change_fn s hs who tok (now + 20) (by omega)) ?_ ?_
  · exact rfl
  conv => whnf
  refine CallC.nl _ (l01Own_fn (s.chg who tok (now + 20)).1 (by omega)) ?_ ?_
  · exact rfl
  exact And.intro trivial (AVle.refl _)
theorem specRenew_no (s : Sto) (hr : StoRd s) (who tok now : Int) (ha : ask s who now ≠ 0) : VFn Tryz.prog 21 [s.av, .int .i64 who, .int .i64 tok, .int .i64 now] (.tup [sto0, .int .i64 (ask s who now)]) := by
  have c := l05Ask_fn s hr who now
  refine VFn.introC Tryz.call21 Tryz.func21 rfl rfl ?_
  conv => whnf
  refine CallC.sca _ (c) ?_ ?_
  · exact rfl
  refine Grd.intro (fun _ => ?_) (fun h => absurd (by simpa using h) ha)
  exact And.intro trivial (AVle.refl _)
theorem renewC (s : Sto) (who now : Int) {b : Bool} (h : (!within who 0 9 || !within now 0 101000) = b) : (if (!s.ok) = true then (1 : Int) else if b = true then 4 else 0) = ask s who now := by
  subst h
  unfold ask
  cases s.ok <;> cases within who 0 9 <;> cases within now 0 101000 <;> rfl
theorem Renew_own (s : Sto) (hr : StoRd s) (who tok now : Int) (ha : ask s who now = 0) : FnM Tryz.prog 17 0 [s.av, .int .i64 who, .int .i64 tok, .int .i64 now] [] (.tup [(s.chg who tok (now + 20)).1.own, .int .i64 (s.chg who tok (now + 20)).2]) [(0, .arr 98 3 (s.chg who tok (now + 20)).1.os.length fun i => (ix (s.chg who tok (now + 20)).1.os i).row)] 1 := by
  have hs := (ask_ok ha).1
  have hw := (ask_ok ha).2.1
  have hn' := (ask_ok ha).2.2
  have hn := now_b hn'
  have hl := chg_len s hs who tok (now + 20)
  have cs := StoreOK_fn s (by have := hr.len; omega) hr.key
  have ci := isId_fn who
  have cn := isNow_fn now
  rw [hw] at ci
  rw [hn'] at cn
  refine FnM.introC Tryz.call17 Tryz.func17 rfl rfl ?_
  conv => whnf
  refine CallC.sca _ (cs) ?_ ?_
  · exact rfl
  conv => whnf
  refine CallC.sca _ (ci) ?_ ?_
  · exact rfl
  conv => whnf
  refine CallC.sca _ (cn) ?_ ?_
  · exact rfl
  conv => whnf
  refine CallC.sca _ (first2_of _ _ _ _ ⟨rfl, rfl, rfl, rfl, trivial⟩ rfl ((renewC s who now (by rw [hw, hn']; rfl)).trans ha)) ?_ ?_
  · exact rfl
  refine And.intro (inI64 (by omega) (by omega)) ?_
  conv => whnf
  refine CallC.nl _ (till_fn s hs who tok (now + 20) (by omega)) ?_ ?_
  · exact rfl
  conv => whnf
  refine CallC.k [] (copied_own (s.chg who tok (now + 20)).1 (by omega)) rfl rfl (AVsle.refl _) trivial rfl ?_
  exact And.intro trivial ⟨[(4, 0)], rfl, AVle.refl _, ⟨MOle.refl _, trivial⟩⟩
theorem Renew_no (s : Sto) (hr : StoRd s) (who tok now : Int) (ha : ask s who now ≠ 0) : VFn Tryz.prog 17 [s.av, .int .i64 who, .int .i64 tok, .int .i64 now] (.tup [sto0, .int .i64 (ask s who now)]) := by
  have cs := StoreOK_fn s (by have := hr.len; omega) hr.key
  have ci := isId_fn who
  have cn := isNow_fn now
  by_cases hw : within who 0 9 = true
  · rw [hw] at ci
    refine VFn.introC Tryz.call17 Tryz.func17 rfl rfl ?_
    conv => whnf
    refine CallC.sca _ (cs) ?_ ?_
    · exact rfl
    conv => whnf
    refine CallC.sca _ (ci) ?_ ?_
    · exact rfl
    conv => whnf
    refine CallC.sca _ (cn) ?_ ?_
    · exact rfl
    conv => whnf
    refine CallC.sca _ (first2_of _ _ _ _ ⟨rfl, rfl, rfl, rfl, trivial⟩ rfl (renewC s who now (by rw [hw]; rfl))) ?_ ?_
    · exact rfl
    refine Grd.intro (fun _ => ?_) (fun h => absurd (by simpa using h) ha)
    exact And.intro trivial (AVle.refl _)
  · have hw : within who 0 9 = false := by simpa using hw
    rw [hw] at ci
    refine VFn.introC Tryz.call17 Tryz.func17 rfl rfl ?_
    conv => whnf
    refine CallC.sca _ (cs) ?_ ?_
    · exact rfl
    conv => whnf
    refine CallC.sca _ (ci) ?_ ?_
    · exact rfl
    conv => whnf
    refine CallC.sca _ (first2_of _ _ _ _ ⟨rfl, rfl, rfl, rfl, trivial⟩ rfl (renewC s who now (by rw [hw]; rfl))) ?_ ?_
    · exact rfl
    refine Grd.intro (fun _ => ?_) (fun h => absurd (by simpa using h) ha)
    exact And.intro trivial (AVle.refl _)
end Go.Proofs.YtgiaaaejobhngaaGreatDoor
set_option linter.unusedVariables false
set_option linter.constructorNameAsVariable false
set_option linter.unusedSimpArgs false
set_option maxRecDepth 20000
namespace Go.Proofs.YtgiaaaejobhngaaGreatDoor
open Go Go.Vw

theorem IndexStr_1 (L : List (List UInt8)) (hL : L.length ≤ 9223372036854775807) (F : Nat) (row : List AV) (p : List UInt8 → Bool) (hp : ∀ e ∈ L, VFn Tryz.prog F [.str (B e), .eptr row 0] (.bool (p e))) :
    VFn Tryz.prog 248 [txts L, .fn (.func F) [] [.eptr row 0]] (.int .i64 (fi p L)) := by
  refine VFn.introC Tryz.call248 Tryz.func248 rfl rfl ?_
  refine LoopC.mk (fun i : Nat => i ≤ L.length ∧ ∀ j, j < i → p (ix L j) = false) (fun i => [(0, txts L), (1, .fn (.func F) [] [.eptr row 0]), (7, .int .i64 L.length), (8, .int .i64 i)]) (fun _ => []) 0 (fun i => L.length - i) 0
    ⟨⟨Nat.zero_le _, fun j hj => absurd hj (Nat.not_lt_zero j)⟩, [], rfl, rfl, ⟨AVle.refl _, AVle.refl _, AVle.refl _, AVle.refl _, trivial⟩, trivial⟩ ?_
  intro i hi
  refine Grd.intro (fun h2 => ?_) (fun h2 => ?_)
  · have hin : i < L.length := by have := of_decide_eq_true h2; omega
    refine And.intro (by omega) ?_
    conv => whnf
    refine CallC.sca _ (hp (ix L i) (getD_mem hin)) ?_ ?_
    · exact rfl
    refine Grd.intro (fun h3 => ?_) (fun h3 => ?_)
    · exact And.intro trivial (AVle.of_eq (congrArg (AV.int .i64) (fi_at hin hi.2 h3).symm))
    · refine And.intro (inI64 (by omega) (by omega)) ?_
      exact ⟨i + 1, ⟨hin, fun j hj => by
        rcases Nat.lt_or_ge j i with h' | h'
        · exact hi.2 j h'
        · rw [show j = i by omega]; exact h3⟩, by omega, [], rfl, rfl, ⟨AVle.refl _, AVle.refl _, AVle.refl _, AVle.of_eq (congrArg (AV.int .i64) (by simp)), trivial⟩, trivial⟩
  · have : i = L.length := by have := of_decide_eq_false h2; omega
    subst this
    exact And.intro trivial (AVle.of_eq (congrArg (AV.int .i64) (fi_none hi.2).symm))
theorem ContainsStr_1 (L : List (List UInt8)) (hL : L.length ≤ 9223372036854775807) (F : Nat) (row : List AV) (p : List UInt8 → Bool) (hp : ∀ e ∈ L, VFn Tryz.prog F [.str (B e), .eptr row 0] (.bool (p e))) :
    VFn Tryz.prog 214 [txts L, .fn (.func F) [] [.eptr row 0]] (.bool (L.any p)) := by
  refine VFn.introC Tryz.call214 Tryz.func214 rfl rfl ?_
  conv => whnf
  refine CallC.sca _ (IndexStr_1 L hL F row p hp) ?_ ?_
  · exact rfl
  exact And.intro trivial (AVle.of_eq (congrArg AV.bool (show decide (0 ≤ fi p L) = _ from fi_any)))
theorem allStr1_fn (e : List UInt8) (G : Nat) (p : List UInt8 → Bool) (hp : VFn Tryz.prog G [.str (B e)] (.bool (p e))) : VFn Tryz.prog 215 [.str (B e), .eptr [.fn (.func G) [] []] 0] (.bool (!p e)) := by
  refine VFn.introC Tryz.call215 Tryz.func215 rfl rfl ?_
  conv => whnf
  refine CallC.sca _ (hp) ?_ ?_
  · exact rfl
  exact And.intro trivial (AVle.refl _)
theorem allStr_fn (L : List (List UInt8)) (hL : L.length ≤ 9223372036854775807) (G : Nat) (p : List UInt8 → Bool) (hp : ∀ e ∈ L, VFn Tryz.prog G [.str (B e)] (.bool (p e))) : VFn Tryz.prog 155 [txts L, .fn (.func G) [] []] (.bool (L.all p)) := by
  refine VFn.introC Tryz.call155 Tryz.func155 rfl rfl ?_
  conv => whnf
  refine CallC.sca _ (ContainsStr_1 L hL 215 [.fn (.func G) [] []] (fun e => !p e) (fun e he => allStr1_fn e G p (hp e he))) ?_ ?_
  · exact rfl
  exact And.intro trivial (AVle.of_eq (congrArg AV.bool (show (!L.any fun e => !p e) = _ by rw [Bool.eq_iff_iff]; simp)))
theorem isLong1_fn (t : List UInt8) : VFn Tryz.prog 156 [.str (B t)] (.bool (decide (t.length ≤ 65536))) := by
  refine VFn.introC Tryz.call156 Tryz.func156 rfl rfl ?_
  exact And.intro trivial (AVle.of_eq (congrArg AV.bool (show decide (((B t).size : Int) ≤ 65536) = _ by rw [B_size]; exact decide_eq_decide.2 (by omega))))
theorem isLong_fn (L : List (List UInt8)) (hL : L.length ≤ 9223372036854775807) : VFn Tryz.prog 77 [txts L] (.bool (!L.all fun t => decide (t.length ≤ 65536))) := by
  refine VFn.introC Tryz.call77 Tryz.func77 rfl rfl ?_
  conv => whnf
  refine CallC.sca _ (allStr_fn L hL 156 (fun t => decide (t.length ≤ 65536)) (fun t _ => isLong1_fn t)) ?_ ?_
  · exact rfl
  exact And.intro trivial (AVle.refl _)
end Go.Proofs.YtgiaaaejobhngaaGreatDoor
