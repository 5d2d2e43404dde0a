/- Leases changed, given up: contracts; the conditions are the theorems' own. -/
import Derived.Test.YthonnbgcpaofoaaGreatDoorKH
import Derived.Test.YthonnbgcpaofoaaGreatDoorKC
set_option linter.unusedVariables false
set_option linter.constructorNameAsVariable false
set_option linter.unusedSimpArgs false
set_option maxRecDepth 20000
namespace Go.Proofs.YthonnbgcpaofoaaGreatDoor
open Go Go.Vw

theorem wyes' {a : Bool} (h : (!a) = true) : a = true → False := fun e => by rw [e] at h; cases h
theorem l01Room_fn (s : Sto) (hs : s.ok = true) (k d : List UInt8) : VFn Tryz.prog 257 [s.av, .str (B k), .str (B d)] (.int .i64 (s.room k d)) := by
  have hL := (Sto.ok_at hs).2.1
  have c := l01Find_fn s (by omega) k
  rw [Srt.fi (Sto.srt hs) k, show hasK k s.os = s.has k from rfl] at c
  have r1 : 600 < d.length → s.room k d = 8 := fun h => by unfold Sto.room; rw [if_pos h]
  have r2 : ¬ 600 < d.length → ((!s.has k && decide (s.os.length = 300)) || decide (s.next = 1000000000)) = true → s.room k d = 7 := fun h h2 => by unfold Sto.room; rw [if_neg h, if_pos h2]
  have r3 : ¬ 600 < d.length → ((!s.has k && decide (s.os.length = 300)) || decide (s.next = 1000000000)) = false → s.room k d = 0 := fun h h2 => by unfold Sto.room; rw [if_neg h, if_neg (by rw [h2]; simp)]
  by_cases hk : s.has k = true
  · rw [if_pos hk] at c
    rw [hk] at r2 r3
    refine VFn.introC Tryz.call257 Tryz.func257 rfl rfl ?_
    refine Grd.intro (fun h1 => ?_) (fun h1 => ?_)
    · rw [r1 (by have h : (600 : Int) < (((B d).size : Nat) : Int) := of_decide_eq_true h1; rw [B_size] at h; omega)]
      exact And.intro trivial (AVle.refl _)
    have h1 : ¬ 600 < d.length := by have h : ¬ (600 : Int) < (((B d).size : Nat) : Int) := of_decide_eq_false h1; rw [B_size] at h; omega
    conv => whnf
    refine CallC.sca _ (c) ?_ ?_
    · exact rfl
    refine Grd.intro (fun h3 => ?_) (fun h3 => ?_)
    · rw [r2 h1 h3]
      exact And.intro trivial (AVle.refl _)
    · rw [r3 h1 h3]
      exact And.intro trivial (AVle.refl _)
  · have hk : s.has k = false := by simpa using hk
    rw [if_neg (by rw [hk]; simp)] at c
    rw [hk] at r2 r3
    refine VFn.introC Tryz.call257 Tryz.func257 rfl rfl ?_
    refine Grd.intro (fun h1 => ?_) (fun h1 => ?_)
    · rw [r1 (by have h : (600 : Int) < (((B d).size : Nat) : Int) := of_decide_eq_true h1; rw [B_size] at h; omega)]
      exact And.intro trivial (AVle.refl _)
    have h1 : ¬ 600 < d.length := by have h : ¬ (600 : Int) < (((B d).size : Nat) : Int) := of_decide_eq_false h1; rw [B_size] at h; omega
    conv => whnf
    refine CallC.sca _ (c) ?_ ?_
    · exact rfl
    refine Grd.intro (fun h2 => ?_) (fun h2 => ?_)
    · have h2 : decide (s.os.length = 300) = true := decide_eq_true (by have h : ((s.os.length : Nat) : Int) = 300 := of_decide_eq_true h2; omega)
      rw [r2 h1 (by rw [h2]; rfl)]
      exact And.intro trivial (AVle.refl _)
    have h2 : decide (s.os.length = 300) = false := decide_eq_false (by have h : ¬ ((s.os.length : Nat) : Int) = 300 := of_decide_eq_false h2; omega)
    rw [h2] at r2 r3
    refine Grd.intro (fun h3 => ?_) (fun h3 => ?_)
    · rw [r2 h1 h3]
      exact And.intro trivial (AVle.refl _)
    · rw [r3 h1 h3]
      exact And.intro trivial (AVle.refl _)
theorem l01Own_fn (s : Sto) (hL : s.os.length ≤ 1000000) : VFn Tryz.prog 137 [s.av] s.av := by
  refine VFn.introC Tryz.call137 Tryz.func137 rfl rfl ?_
  refine And.intro ⟨show (0 + s.os.length) * 40 ≤ 140737488355328 by omega, fun i hi => rfl⟩ ?_
  refine And.intro trivial (AVle.agg (AVsle.cons (AVle.sl (Nat.zero_add _) fun i hi => ?_) (AVsle.cons (AVle.refl _) AVsle.nil)))
  rw [appRows_ge (Nat.zero_le _), Nat.sub_zero]
theorem l05Now_fn (n : Int) : VFn Tryz.prog 78 [.int .i64 n] (.bool (within n 0 101000)) := by
  refine VFn.introC Tryz.call78 Tryz.func78 rfl rfl ?_
  conv => whnf
  refine CallC.sca _ (l01In_fn _ _ _) ?_ ?_
  · exact rfl
  exact And.intro trivial (AVle.refl _)
def ask (s : Sto) (who now : Int) : Int := if s.ok = true then (if within who 0 9 = true ∧ within now 0 101000 = true then 0 else 4) else 1
structure StoRd (s : Sto) : Prop where
  len : s.os.length ≤ 1048576
  key : ∀ o ∈ s.os, o.key.length ≤ 1000000000
  nxt : -9223372036854775808 ≤ s.next ∧ s.next ≤ 9223372036854775807
theorem l05Ask_fn (s : Sto) (hr : StoRd s) (who now : Int) : VFn Tryz.prog 151 [s.av, .int .i64 who, .int .i64 now] (.int .i64 (ask s who now)) := by
  have c := specStoreOK_ok s (by have := hr.len; omega) hr.key hr.nxt
  unfold ask
  refine VFn.introC Tryz.call151 Tryz.func151 rfl rfl ?_
  conv => whnf
  refine CallC.sca _ (c) ?_ ?_
  · exact rfl
  refine Grd.intro (fun h1 => ?_) (fun h1 => ?_)
  · rw [if_neg (by have := wnot h1; simp [this])]
    exact And.intro trivial (AVle.refl _)
  rw [if_pos (wyes h1)]
  conv => whnf
  refine CallC.sca _ (l01In_fn _ _ _) ?_ ?_
  · exact rfl
  refine Grd.intro (fun h2 => ?_) (fun h2 => ?_)
  · rw [if_neg (fun h => by have := wnot h2; rw [h.1] at this; cases this)]
    exact And.intro trivial (AVle.refl _)
  conv => whnf
  refine CallC.sca _ (l05Now_fn _) ?_ ?_
  · exact rfl
  refine Grd.intro (fun h3 => ?_) (fun h3 => ?_)
  · rw [if_neg (fun h => by have := wnot h3; rw [h.2] at this; cases this)]
    exact And.intro trivial (AVle.refl _)
  rw [if_pos ⟨wyes h2, wyes h3⟩]
  exact And.intro trivial (AVle.refl _)
theorem l01Over_fn (s : Sto) (hs : s.ok = true) (k d : List UInt8) (hk : s.has k = true) : VFn Tryz.prog 225 [s.av, .str (B k), .int .i64 (s.get k).ver, .str (B d)] (.tup [(s.put k d).av, .int .i64 (s.room k d)]) := by
  have hL := (Sto.ok_at hs).2.1
  have hn : 1 ≤ s.next ∧ s.next ≤ 1000000000 := by simpa [within] using (Sto.ok_at hs).1
  have hv := get_ok s hs k hk
  have c := l01Get_fn s hs k
  rw [if_pos hk] at c
  refine VFn.introC Tryz.call225 Tryz.func225 rfl rfl ?_
  conv => whnf
  refine CallC.sca _ (c) ?_ ?_
  · exact rfl
  refine Grd.intro (fun h => absurd (of_decide_eq_true (p := (s.get k).ver = 0) h) (by omega)) (fun _ => ?_)
  refine Grd.intro (fun h => (wyes' h (decide_eq_true rfl)).elim) (fun _ => ?_)
  conv => whnf
  refine CallC.sca _ (l01Room_fn s hs k d) ?_ ?_
  · exact rfl
  refine Grd.intro (fun h => ?_) (fun h => ?_)
  · have h : s.room k d ≠ 0 := by simpa using h
    unfold Sto.put
    rw [if_neg h]
    exact And.intro trivial (AVle.refl _)
  · have h : s.room k d = 0 := by simpa using h
    unfold Sto.put
    rw [if_pos h, h]
    conv => whnf
    refine CallC.nl _ (l01Set_fn s (by omega) ⟨by omega, by omega⟩ k d) ?_ ?_
    · exact rfl
    exact And.intro trivial (AVle.refl _)
theorem chgC_cases (s : Sto) (who tok : Int) {l : Lea} (h : s.lea = (l, 0)) : s.chgC who tok = if l.who ≠ who ∨ l.tok ≠ tok ∨ l.til = 0 then 13 else 0 := by
  unfold Sto.chgC
  rw [h]
  simp
theorem l05Change_fn (s : Sto) (hs : s.ok = true) (who tok til : Int) (ht : -9223372036854775807 ≤ til ∧ til ≤ 9223372036854775807) : VFn Tryz.prog 152 [s.av, .int .i64 who, .int .i64 tok, .int .i64 til] (.tup [(s.chg who tok til).1.av, .int .i64 (s.chg who tok til).2]) := by
  have c := l05Of_fn s hs
  unfold Sto.chg
  rcases s.lea_cases with ⟨e, h⟩ | ⟨e, h, hr⟩ | ⟨l, e, h, hr, hl⟩
  · have e1 : s.chgC who tok = 13 := by unfold Sto.chgC; rw [e]; simp
    rw [e1, if_neg (by decide)]
    unfold Sto.leaV at c
    rw [e] at c
    refine VFn.introC Tryz.call152 Tryz.func152 rfl rfl ?_
    conv => whnf
    refine CallC.sca _ (c) ?_ ?_
    · exact rfl
    exact And.intro trivial (AVle.refl _)
  · have e1 : s.chgC who tok = 17 := by unfold Sto.chgC; rw [e]; simp
    rw [e1, if_neg (by decide)]
    unfold Sto.leaV at c
    rw [e] at c
    refine VFn.introC Tryz.call152 Tryz.func152 rfl rfl ?_
    conv => whnf
    refine CallC.sca _ (c) ?_ ?_
    · exact rfl
    exact And.intro trivial (AVle.refl _)
  · have e1 := chgC_cases s who tok e
    have e2 : s.chgL til = ⟨l.tok, l.who, til⟩ := by unfold Sto.chgL; rw [e]
    have hv := get_ok s hs leaK h
    unfold Sto.leaV at c
    rw [e] at c
    have c : VFn Tryz.prog 224 [s.av] (.tup [l.av, .int .i64 (s.get leaK).ver, .int .i64 0]) := c
    have hb : ∀ x ∈ [l.tok, l.who, til], -9223372036854775807 ≤ x ∧ x ≤ 9223372036854775807 := by
      simp [Lea.ok, within] at hl
      intro x hx
      simp at hx
      omega
    have ct := l05Text_fn ⟨l.tok, l.who, til⟩ hb
    have co := l01Over_fn s hs leaK (Lea.text ⟨l.tok, l.who, til⟩) h
    refine VFn.introC Tryz.call152 Tryz.func152 rfl rfl ?_
    conv => whnf
    refine CallC.sca _ (c) ?_ ?_
    · exact rfl
    refine Grd.intro (fun h => absurd (of_decide_eq_true (p := (s.get leaK).ver = 0) h) (by omega)) (fun _ => ?_)
    refine Grd.intro (fun h1 => ?_) (fun h1 => ?_)
    · have h1 : l.tok ≠ tok := by simpa using h1
      have e3 : s.chgC who tok = 13 := by rw [e1, if_pos (.inr (.inl h1))]
      rw [e3, if_neg (by decide)]
      exact And.intro trivial (AVle.refl _)
    have h1 : l.tok = tok := by simpa using h1
    refine Grd.intro (fun h2 => ?_) (fun h2 => ?_)
    · have h2 : l.who ≠ who := by simpa using h2
      have e3 : s.chgC who tok = 13 := by rw [e1, if_pos (.inl h2)]
      rw [e3, if_neg (by decide)]
      exact And.intro trivial (AVle.refl _)
    have h2 : l.who = who := by simpa using h2
    refine Grd.intro (fun h3 => ?_) (fun h3 => ?_)
    · have h3 : l.til = 0 := by simpa using h3
      have e3 : s.chgC who tok = 13 := by rw [e1, if_pos (.inr (.inr h3))]
      rw [e3, if_neg (by decide)]
      exact And.intro trivial (AVle.refl _)
    have h3 : ¬ l.til = 0 := by simpa using h3
    have e3 : s.chgC who tok = 0 := by rw [e1, if_neg (fun q => by rcases q with q | q | q; exact q h2; exact q h1; exact h3 q)]
    rw [e3, if_pos rfl, e2]
    refine DrawC.mkK 9 [(.inl 1, 7)] rfl (by kernel_rfl) ?_
    refine And.intro rfl ?_
    conv => whnf
    refine PCallK.sca _ (ct) rfl ?_
    conv => whnf
    refine PCallK.nl _ (co) rfl ?_
    exact And.intro trivial (AVle.refl _)
theorem first2_of (a b : Bool) (x y : Int) {n : Nat} {rows : Nat → List AV} (hr : FirstRows 4 3 rows 0 [(a, x), (b, y)]) (hn : n = 4) {r : Int} (h : (if a = true then x else if b = true then y else 0) = r) : VFn Tryz.prog 75 [.sl 1 n rows] (.int .i64 r) := by
  have e : firstC [(a, x), (b, y)] = r := by
    rw [← h]
    unfold firstC firstC firstC
    cases a <;> cases b <;> rfl
  rw [← e]
  exact first_of _ hr hn (show 2 ≤ 1000 by decide)
theorem till_fn (s : Sto) (hs : s.ok = true) (who tok til : Int) (ht : -9223372036854775807 ≤ til ∧ til ≤ 9223372036854775807) : VFn Tryz.prog 154 [s.av, .int .i64 who, .int .i64 tok, .int .i64 til] (.tup [(s.chg who tok til).1.av, .int .i64 (s.chg who tok til).2]) := by
  have c := lease_fn s hs
  unfold Sto.chg
  rcases s.lea_cases with ⟨e, h⟩ | ⟨e, h, hr⟩ | ⟨l, e, h, hr, hl⟩
  · have e1 : s.chgC who tok = 13 := by unfold Sto.chgC; rw [e]; simp
    rw [e1, if_neg (by decide)]
    rw [e] at c
    refine VFn.introC Tryz.call154 Tryz.func154 rfl rfl ?_
    conv => whnf
    refine CallC.sca _ (c) ?_ ?_
    · exact rfl
    conv => whnf
    refine CallC.sca _ (first2_of _ _ _ _ ⟨rfl, rfl, rfl, rfl, trivial⟩ rfl (show (if decide ((5 : Int) = 17) = true then (5 : Int) else if true = true then 13 else 0) = 13 by decide)) ?_ ?_
    · exact rfl
    exact And.intro trivial (AVle.refl _)
  · have e1 : s.chgC who tok = 17 := by unfold Sto.chgC; rw [e]; simp
    rw [e1, if_neg (by decide)]
    rw [e] at c
    refine VFn.introC Tryz.call154 Tryz.func154 rfl rfl ?_
    conv => whnf
    refine CallC.sca _ (c) ?_ ?_
    · exact rfl
    conv => whnf
    refine CallC.sca _ (first2_of _ _ _ _ ⟨rfl, rfl, rfl, rfl, trivial⟩ rfl (show (if decide ((17 : Int) = 17) = true then (17 : Int) else if true = true then 13 else 0) = 17 by decide)) ?_ ?_
    · exact rfl
    exact And.intro trivial (AVle.refl _)
  · have e1 := chgC_cases s who tok e
    have e2 : s.chgL til = ⟨l.tok, l.who, til⟩ := by unfold Sto.chgL; rw [e]
    rw [e] at c
    have hb : ∀ x ∈ [l.tok, l.who, til], -9223372036854775807 ≤ x ∧ x ≤ 9223372036854775807 := by
      simp [Lea.ok, within] at hl
      intro x hx
      simp at hx
      omega
    have ct := leaText_fn ⟨l.tok, l.who, til⟩ hb
    have hlen := Lea.text_len ⟨l.tok, l.who, til⟩ hb
    have co := put_fn s hs leaK (Lea.text ⟨l.tok, l.who, til⟩) (by omega)
    have f0 : ∀ b : Bool, (if decide ((0 : Int) = 17) = true then (0 : Int) else if b = true then 13 else 0) = if b = true then 13 else 0 := fun b => by rw [if_neg (by decide)]
    refine VFn.introC Tryz.call154 Tryz.func154 rfl rfl ?_
    conv => whnf
    refine CallC.sca _ (c) ?_ ?_
    · exact rfl
    refine Grd.intro (fun h1 => ?_) (fun h1 => ?_)
    · have h1 : l.who ≠ who := by simpa using h1
      have e3 : s.chgC who tok = 13 := by rw [e1, if_pos (.inl h1)]
      rw [e3, if_neg (by decide)]
      conv => whnf
      refine CallC.sca _ (first2_of _ true _ _ ⟨rfl, rfl, rfl, rfl, trivial⟩ rfl (f0 true)) ?_ ?_
      · exact rfl
      exact And.intro trivial (AVle.refl _)
    have h1 : l.who = who := by simpa using h1
    refine Grd.intro (fun h2 => ?_) (fun h2 => ?_)
    · have h2 : l.tok ≠ tok := by simpa using h2
      have e3 : s.chgC who tok = 13 := by rw [e1, if_pos (.inr (.inl h2))]
      rw [e3, if_neg (by decide)]
      conv => whnf
      refine CallC.sca _ (first2_of _ true _ _ ⟨rfl, rfl, rfl, rfl, trivial⟩ rfl (f0 true)) ?_ ?_
      · exact rfl
      exact And.intro trivial (AVle.refl _)
    have h2 : l.tok = tok := by simpa using h2
    by_cases h3 : l.til = 0
    · have e3 : s.chgC who tok = 13 := by rw [e1, if_pos (.inr (.inr h3))]
      rw [e3, if_neg (by decide)]
      conv => whnf
      refine CallC.sca _ (first2_of _ (decide (l.til = 0)) _ _ ⟨rfl, rfl, rfl, rfl, trivial⟩ rfl ((f0 _).trans (show _ = (13 : Int) by rw [if_pos (decide_eq_true h3)]))) ?_ ?_
      · exact rfl
      exact And.intro trivial (AVle.refl _)
    have e3 : s.chgC who tok = 0 := by rw [e1, if_neg (fun q => by rcases q with q | q | q; exact q h1; exact q h2; exact h3 q)]
    rw [e3, if_pos rfl, e2]
    conv => whnf
    refine CallC.sca _ (first2_of _ (decide (l.til = 0)) _ _ ⟨rfl, rfl, rfl, rfl, trivial⟩ rfl ((f0 _).trans (show _ = (0 : Int) by rw [if_neg (by simpa using h3)]))) ?_ ?_
    · exact rfl
    refine DrawC.mkK 12 [(.inr 8, 9)] rfl (by kernel_rfl) ?_
    refine And.intro rfl ?_
    conv => whnf
    refine PCallK.sca _ (ct) rfl ?_
    conv => whnf
    by_cases hroom : s.room leaK (Lea.text ⟨l.tok, l.who, til⟩) = 0
    · rw [if_pos hroom] at co
      unfold Sto.put
      rw [if_pos hroom, hroom]
      refine PCallK.nl _ (co) rfl ?_
      exact And.intro trivial (AVle.refl _)
    · rw [if_neg hroom] at co
      unfold Sto.put
      rw [if_neg hroom]
      refine PCallK.nl _ (co) rfl ?_
      exact And.intro trivial (AVle.refl _)
end Go.Proofs.YthonnbgcpaofoaaGreatDoor
