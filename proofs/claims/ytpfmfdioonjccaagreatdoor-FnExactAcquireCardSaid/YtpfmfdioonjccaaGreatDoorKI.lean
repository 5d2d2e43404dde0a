/- Leases changed, given up: contracts; the conditions are the theorems' own. -/
import Derived.Test.YtpfmfdioonjccaaGreatDoorKH
import Derived.Test.YtpfmfdioonjccaaGreatDoorKC
set_option linter.unusedVariables false
set_option linter.constructorNameAsVariable false
set_option linter.unusedSimpArgs false
set_option maxRecDepth 20000
namespace Go.Proofs.YtpfmfdioonjccaaGreatDoor
open Go Go.Vw

theorem wyes' {a : Bool} (h : (!a) = true) : a = true → False := fun e => by rw [e] at h; cases h
theorem l01Room_fn (s : Sto) (hs : s.ok = true) (k d : List UInt8) : VFn Tryz.prog 246 [s.av, .str (B k), .str (B d)] (.int .i64 (s.room k d)) := by
  have hL := (Sto.ok_at hs).2.1
  have c := l01Find_fn s (by omega) k
  rw [Srt.fi (Sto.srt hs) k, show hasK k s.os = s.has k from rfl] at c
  have r1 : 600 < d.length → s.room k d = 8 := fun h => by unfold Sto.room; rw [if_pos h]
  have r2 : ¬ 600 < d.length → ((!s.has k && decide (s.os.length = 300)) || decide (s.next = 1000000000)) = true → s.room k d = 7 := fun h h2 => by unfold Sto.room; rw [if_neg h, if_pos h2]
  have r3 : ¬ 600 < d.length → ((!s.has k && decide (s.os.length = 300)) || decide (s.next = 1000000000)) = false → s.room k d = 0 := fun h h2 => by unfold Sto.room; rw [if_neg h, if_neg (by rw [h2]; simp)]
  by_cases hk : s.has k = true
  · rw [if_pos hk] at c
    rw [hk] at r2 r3
    refine VFn.introC Tryz.call246 Tryz.func246 rfl rfl ?_
    refine Grd.intro (fun h1 => ?_) (fun h1 => ?_)
    · rw [r1 (by have h : (600 : Int) < (((B d).size : Nat) : Int) := of_decide_eq_true h1; rw [B_size] at h; omega)]
      exact And.intro trivial (AVle.refl _)
    have h1 : ¬ 600 < d.length := by have h : ¬ (600 : Int) < (((B d).size : Nat) : Int) := of_decide_eq_false h1; rw [B_size] at h; omega
    conv => whnf
    refine CallC.sca _ (c) ?_ ?_
    · exact rfl
    refine Grd.intro (fun h3 => ?_) (fun h3 => ?_)
    · rw [r2 h1 h3]
      exact And.intro trivial (AVle.refl _)
    · rw [r3 h1 h3]
      exact And.intro trivial (AVle.refl _)
  · have hk : s.has k = false := by simpa using hk
    rw [if_neg (by rw [hk]; simp)] at c
    rw [hk] at r2 r3
    refine VFn.introC Tryz.call246 Tryz.func246 rfl rfl ?_
    refine Grd.intro (fun h1 => ?_) (fun h1 => ?_)
    · rw [r1 (by have h : (600 : Int) < (((B d).size : Nat) : Int) := of_decide_eq_true h1; rw [B_size] at h; omega)]
      exact And.intro trivial (AVle.refl _)
    have h1 : ¬ 600 < d.length := by have h : ¬ (600 : Int) < (((B d).size : Nat) : Int) := of_decide_eq_false h1; rw [B_size] at h; omega
    conv => whnf
    refine CallC.sca _ (c) ?_ ?_
    · exact rfl
    refine Grd.intro (fun h2 => ?_) (fun h2 => ?_)
    · have h2 : decide (s.os.length = 300) = true := decide_eq_true (by have h : ((s.os.length : Nat) : Int) = 300 := of_decide_eq_true h2; omega)
      rw [r2 h1 (by rw [h2]; rfl)]
      exact And.intro trivial (AVle.refl _)
    have h2 : decide (s.os.length = 300) = false := decide_eq_false (by have h : ¬ ((s.os.length : Nat) : Int) = 300 := of_decide_eq_false h2; omega)
    rw [h2] at r2 r3
    refine Grd.intro (fun h3 => ?_) (fun h3 => ?_)
    · rw [r2 h1 h3]
      exact And.intro trivial (AVle.refl _)
    · rw [r3 h1 h3]
      exact And.intro trivial (AVle.refl _)
theorem l01Own_fn (s : Sto) (hL : s.os.length ≤ 1000000) : VFn Tryz.prog 62 [s.av] s.av := by
  refine VFn.introC Tryz.call62 Tryz.func62 rfl rfl ?_
  refine And.intro ⟨show (0 + s.os.length) * 40 ≤ 140737488355328 by omega, fun i hi => rfl⟩ ?_
  refine And.intro trivial (AVle.agg (AVsle.cons (AVle.sl (Nat.zero_add _) fun i hi => ?_) (AVsle.cons (AVle.refl _) AVsle.nil)))
  rw [appRows_ge (Nat.zero_le _), Nat.sub_zero]
theorem l05Now_fn (n : Int) : VFn Tryz.prog 158 [.int .i64 n] (.bool (within n 0 101000)) := by
  refine VFn.introC Tryz.call158 Tryz.func158 rfl rfl ?_
  conv => whnf
  refine CallC.sca _ (l01In_fn _ _ _) ?_ ?_
  · exact rfl
  exact And.intro trivial (AVle.refl _)
def ask (s : Sto) (who now : Int) : Int := if s.ok = true then (if within who 0 9 = true ∧ within now 0 101000 = true then 0 else 4) else 1
structure StoRd (s : Sto) : Prop where
  len : s.os.length ≤ 1048576
  key : ∀ o ∈ s.os, o.key.length ≤ 1000000000
  nxt : -9223372036854775808 ≤ s.next ∧ s.next ≤ 9223372036854775807
theorem l05Ask_fn (s : Sto) (hr : StoRd s) (who now : Int) : VFn Tryz.prog 60 [s.av, .int .i64 who, .int .i64 now] (.int .i64 (ask s who now)) := by
  have c := specStoreOK_ok s (by have := hr.len; omega) hr.key hr.nxt
  unfold ask
  refine VFn.introC Tryz.call60 Tryz.func60 rfl rfl ?_
  conv => whnf
  refine CallC.sca _ (c) ?_ ?_
  · exact rfl
  refine Grd.intro (fun h1 => ?_) (fun h1 => ?_)
  · rw [if_neg (by have := wnot h1; simp [this])]
    exact And.intro trivial (AVle.refl _)
  rw [if_pos (wyes h1)]
  conv => whnf
  refine CallC.sca _ (l01In_fn _ _ _) ?_ ?_
  · exact rfl
  refine Grd.intro (fun h2 => ?_) (fun h2 => ?_)
  · rw [if_neg (fun h => by have := wnot h2; rw [h.1] at this; cases this)]
    exact And.intro trivial (AVle.refl _)
  conv => whnf
  refine CallC.sca _ (l05Now_fn _) ?_ ?_
  · exact rfl
  refine Grd.intro (fun h3 => ?_) (fun h3 => ?_)
  · rw [if_neg (fun h => by have := wnot h3; rw [h.2] at this; cases this)]
    exact And.intro trivial (AVle.refl _)
  rw [if_pos ⟨wyes h2, wyes h3⟩]
  exact And.intro trivial (AVle.refl _)
theorem l01Over_fn (s : Sto) (hs : s.ok = true) (k d : List UInt8) (hk : s.has k = true) : VFn Tryz.prog 163 [s.av, .str (B k), .int .i64 (s.get k).ver, .str (B d)] (.tup [(s.put k d).av, .int .i64 (s.room k d)]) := by
  have hL := (Sto.ok_at hs).2.1
  have hn : 1 ≤ s.next ∧ s.next ≤ 1000000000 := by simpa [within] using (Sto.ok_at hs).1
  have hv := get_ok s hs k hk
  have c := l01Get_fn s hs k
  rw [if_pos hk] at c
  refine VFn.introC Tryz.call163 Tryz.func163 rfl rfl ?_
  conv => whnf
  refine CallC.sca _ (c) ?_ ?_
  · exact rfl
  refine Grd.intro (fun h => absurd (of_decide_eq_true (p := (s.get k).ver = 0) h) (by omega)) (fun _ => ?_)
  refine Grd.intro (fun h => (wyes' h (decide_eq_true rfl)).elim) (fun _ => ?_)
  conv => whnf
  refine CallC.sca _ (l01Room_fn s hs k d) ?_ ?_
  · exact rfl
  refine Grd.intro (fun h => ?_) (fun h => ?_)
  · have h : s.room k d ≠ 0 := by simpa using h
    unfold Sto.put
    rw [if_neg h]
    exact And.intro trivial (AVle.refl _)
  · have h : s.room k d = 0 := by simpa using h
    unfold Sto.put
    rw [if_pos h, h]
    conv => whnf
    refine CallC.nl _ (l01Set_fn s (by omega) ⟨by omega, by omega⟩ k d) ?_ ?_
    · exact rfl
    exact And.intro trivial (AVle.refl _)
theorem chgC_cases (s : Sto) (who tok : Int) {l : Lea} (h : s.lea = (l, 0)) : s.chgC who tok = if l.who ≠ who ∨ l.tok ≠ tok ∨ l.til = 0 then 13 else 0 := by
  unfold Sto.chgC
  rw [h]
  simp
theorem first2_of (a b : Bool) (x y : Int) {n : Nat} {rows : Nat → List AV} (hr : FirstRows 4 3 rows 0 [(a, x), (b, y)]) (hn : n = 4) {r : Int} (h : (if a = true then x else if b = true then y else 0) = r) : VFn Tryz.prog 64 [.sl 1 n rows] (.int .i64 r) := by
  have e : firstC [(a, x), (b, y)] = r := by
    rw [← h]
    unfold firstC firstC firstC
    cases a <;> cases b <;> rfl
  rw [← e]
  exact first_of _ hr hn (show 2 ≤ 1000 by decide)
end Go.Proofs.YtpfmfdioonjccaaGreatDoor
