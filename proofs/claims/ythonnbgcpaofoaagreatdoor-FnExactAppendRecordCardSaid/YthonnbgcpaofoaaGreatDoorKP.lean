/- Stores: room, one's own, by the reference; small things: contracts; the conditions are the theorems' own. -/
import Derived.Test.YthonnbgcpaofoaaGreatDoorKF
import Derived.Test.YthonnbgcpaofoaaGreatDoorKC
import Derived.Test.YthonnbgcpaofoaaGreatDoorV41
set_option linter.unusedVariables false
set_option linter.constructorNameAsVariable false
set_option linter.unusedSimpArgs false
set_option maxRecDepth 20000
namespace Go.Proofs.YthonnbgcpaofoaaGreatDoor
open Go Go.Vw

theorem force_to {x y : AV} {k : AV → Prop} (e : x = y) (h : y.force k) : x.force k := e ▸ h
theorem wyes' {a : Bool} (h : (!a) = true) : a = true → False := fun e => by rw [e] at h; cases h
theorem l01Room_fn (s : Sto) (hs : s.ok = true) (k d : List UInt8) : VFn Tryz.prog 257 [s.av, .str (B k), .str (B d)] (.int .i64 (s.room k d)) := by
  have hL := (Sto.ok_at hs).2.1
  have c := l01Find_fn s (by omega) k
  rw [Srt.fi (Sto.srt hs) k, show hasK k s.os = s.has k from rfl] at c
  have r1 : 600 < d.length → s.room k d = 8 := fun h => by unfold Sto.room; rw [if_pos h]
  have r2 : ¬ 600 < d.length → ((!s.has k && decide (s.os.length = 300)) || decide (s.next = 1000000000)) = true → s.room k d = 7 := fun h h2 => by unfold Sto.room; rw [if_neg h, if_pos h2]
  have r3 : ¬ 600 < d.length → ((!s.has k && decide (s.os.length = 300)) || decide (s.next = 1000000000)) = false → s.room k d = 0 := fun h h2 => by unfold Sto.room; rw [if_neg h, if_neg (by rw [h2]; simp)]
  by_cases hk : s.has k = true
  · rw [if_pos hk] at c
    rw [hk] at r2 r3
    refine VFn.introC Tryz.call257 Tryz.func257 rfl rfl ?_
    refine Grd.intro (fun h1 => ?_) (fun h1 => ?_)
    · rw [r1 (by have h : (600 : Int) < (((B d).size : Nat) : Int) := of_decide_eq_true h1; rw [B_size] at h; omega)]
      exact And.intro trivial (AVle.refl _)
    have h1 : ¬ 600 < d.length := by have h : ¬ (600 : Int) < (((B d).size : Nat) : Int) := of_decide_eq_false h1; rw [B_size] at h; omega
    conv => whnf
    refine CallC.sca _ (c) ?_ ?_
    · exact rfl
    refine Grd.intro (fun h3 => ?_) (fun h3 => ?_)
    · rw [r2 h1 h3]
      exact And.intro trivial (AVle.refl _)
    · rw [r3 h1 h3]
      exact And.intro trivial (AVle.refl _)
  · have hk : s.has k = false := by simpa using hk
    rw [if_neg (by rw [hk]; simp)] at c
    rw [hk] at r2 r3
    refine VFn.introC Tryz.call257 Tryz.func257 rfl rfl ?_
    refine Grd.intro (fun h1 => ?_) (fun h1 => ?_)
    · rw [r1 (by have h : (600 : Int) < (((B d).size : Nat) : Int) := of_decide_eq_true h1; rw [B_size] at h; omega)]
      exact And.intro trivial (AVle.refl _)
    have h1 : ¬ 600 < d.length := by have h : ¬ (600 : Int) < (((B d).size : Nat) : Int) := of_decide_eq_false h1; rw [B_size] at h; omega
    conv => whnf
    refine CallC.sca _ (c) ?_ ?_
    · exact rfl
    refine Grd.intro (fun h2 => ?_) (fun h2 => ?_)
    · have h2 : decide (s.os.length = 300) = true := decide_eq_true (by have h : ((s.os.length : Nat) : Int) = 300 := of_decide_eq_true h2; omega)
      rw [r2 h1 (by rw [h2]; rfl)]
      exact And.intro trivial (AVle.refl _)
    have h2 : decide (s.os.length = 300) = false := decide_eq_false (by have h : ¬ ((s.os.length : Nat) : Int) = 300 := of_decide_eq_false h2; omega)
    rw [h2] at r2 r3
    refine Grd.intro (fun h3 => ?_) (fun h3 => ?_)
    · rw [r2 h1 h3]
      exact And.intro trivial (AVle.refl _)
    · rw [r3 h1 h3]
      exact And.intro trivial (AVle.refl _)
theorem l01Own_fn (s : Sto) (hL : s.os.length ≤ 1000000) : VFn Tryz.prog 137 [s.av] s.av := by
  refine VFn.introC Tryz.call137 Tryz.func137 rfl rfl ?_
  refine And.intro ⟨show (0 + s.os.length) * 40 ≤ 140737488355328 by omega, fun i hi => rfl⟩ ?_
  refine And.intro trivial (AVle.agg (AVsle.cons (AVle.sl (Nat.zero_add _) fun i hi => ?_) (AVsle.cons (AVle.refl _) AVsle.nil)))
  rw [appRows_ge (Nat.zero_le _), Nat.sub_zero]
structure StoRd (s : Sto) : Prop where
  len : s.os.length ≤ 1048576
  key : ∀ o ∈ s.os, o.key.length ≤ 1000000000
  nxt : -9223372036854775808 ≤ s.next ∧ s.next ≤ 9223372036854775807
theorem first2_of (a b : Bool) (x y : Int) {n : Nat} {rows : Nat → List AV} (hr : FirstRows 4 3 rows 0 [(a, x), (b, y)]) (hn : n = 4) {r : Int} (h : (if a = true then x else if b = true then y else 0) = r) : VFn Tryz.prog 75 [.sl 1 n rows] (.int .i64 r) := by
  have e : firstC [(a, x), (b, y)] = r := by
    rw [← h]
    unfold firstC firstC firstC
    cases a <;> cases b <;> rfl
  rw [← e]
  exact first_of _ hr hn (show 2 ≤ 1000 by decide)
theorem set_len_le (s : Sto) (k d : List UInt8) : (s.set k d).os.length ≤ s.os.length + 1 := by rw [Sto.set_len]; split <;> omega
end Go.Proofs.YthonnbgcpaofoaaGreatDoor
