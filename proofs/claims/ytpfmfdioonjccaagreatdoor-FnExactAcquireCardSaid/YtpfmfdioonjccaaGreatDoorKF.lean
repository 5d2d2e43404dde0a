/- Stores: put: contracts; the conditions are the theorems' own. -/
import Derived.Test.YtpfmfdioonjccaaGreatDoorKE
set_option linter.unusedVariables false
set_option linter.constructorNameAsVariable false
set_option linter.unusedSimpArgs false
set_option maxRecDepth 20000
namespace Go.Proofs.YtpfmfdioonjccaaGreatDoor
open Go Go.Vw

theorem first_room (s : Sto) (k d : List UInt8) (x : Bool) (hx : ((!s.has k && decide (s.os.length = 300)) || decide (s.next = 1000000000)) = x) {n : Nat} {rows : Nat → List AV} (hr : FirstRows 4 3 rows 0 [(decide ((600 : Int) < (((B d).size : Nat) : Int)), 8), (x, 7)]) (hn : n = 4) :
    VFn Tryz.prog 64 [.sl 1 n rows] (.int .i64 (s.room k d)) := by
  have e : firstC [(decide ((600 : Int) < (((B d).size : Nat) : Int)), 8), (x, 7)] = s.room k d := by
    unfold Sto.room
    rw [hx, B_size]
    unfold firstC firstC firstC
    by_cases h1 : 600 < d.length
    · rw [if_pos h1, decide_eq_true (show (600 : Int) < (d.length : Int) by omega)]; rfl
    · rw [if_neg h1, decide_eq_false (show ¬ (600 : Int) < (d.length : Int) by omega)]
      cases x <;> rfl
  rw [← e]
  exact first_of _ hr hn (show 2 ≤ 1000 by decide)
theorem set_ix (s : Sto) (k d : List UInt8) {j : Nat} (hj : j < (s.set k d).os.length) : ix (s.set k d).os j = if j < s.pos k then ix s.os j else if j = s.pos k then ⟨k, s.next, d⟩ else ix s.os (if s.has k = true then j else j - 1) := by
  have hl : s.pos k ≤ s.os.length := lb_le k s.os
  have ht : (s.os.take (s.pos k)).length = s.pos k := by simp; omega
  rw [Sto.set_len] at hj
  have hlen : (s.os.take (s.pos k)).length + ((⟨k, s.next, d⟩ :: s.os.drop (if s.has k = true then s.pos k + 1 else s.pos k)) : List Ob).length = (s.set k d).os.length := by unfold Sto.set; simp
  rw [Sto.set_len] at hlen
  show ix (s.os.take (s.pos k) ++ (⟨k, s.next, d⟩ :: s.os.drop (if s.has k = true then s.pos k + 1 else s.pos k))) j = _
  by_cases h1 : j < s.pos k
  · rw [if_pos h1, ix_app1 (by omega), ix_take h1]
  · rw [if_neg h1, ix_app2 (by omega) (by rw [hlen]; exact hj), ht]
    by_cases h2 : j = s.pos k
    · rw [if_pos h2, h2, Nat.sub_self]; rfl
    · rw [if_neg h2]
      obtain ⟨m, hm⟩ : ∃ m, j - s.pos k = m + 1 := ⟨j - s.pos k - 1, by omega⟩
      rw [hm]
      show ix (s.os.drop _) m = _
      rw [ix_drop]
      congr 1
      split <;> omega
theorem put_fn (s : Sto) (hs : s.ok = true) (k d : List UInt8) (hd : d.length ≤ 1000000000) : VFn Tryz.prog 167 [s.av, .str (B k), .str (B d)] (if s.room k d = 0 then .tup [(s.set k d).av, .int .i64 s.next, .int .i64 0] else .tup [s.av, .int .i64 0, .int .i64 (s.room k d)]) := by
  have hL := (Sto.ok_at hs).2.1
  have hnx : 1 ≤ s.next ∧ s.next ≤ 1000000000 := by simpa [within] using (Sto.ok_at hs).1
  have hlb : s.pos k ≤ s.os.length := lb_le k s.os
  by_cases hk : s.has k = true
  · have hp := (hasK_at hk).1
    have c := find_fn s hs k
    rw [hk] at c
    refine VFn.introC Tryz.call167 Tryz.func167 rfl rfl ?_
    conv => whnf
    refine CallC.sca _ (c) ?_ ?_
    · exact rfl
    conv => whnf
    refine CallC.sca _ (first_room s k d (decide (s.next = 1000000000)) (by rw [hk]; rfl) ⟨rfl, rfl, rfl, rfl, trivial⟩ rfl) ?_ ?_
    · exact rfl
    refine Grd.intro (fun g => ?_) (fun g => ?_)
    · have g : s.room k d ≠ 0 := by simpa using g
      rw [if_neg g]
      exact And.intro trivial (AVle.refl _)
    · have g : s.room k d = 0 := by simpa using g
      rw [if_pos g]
      refine DrawC.mkK 11 [(.inr 7, 9), (.inr 8, 10)] rfl (by kernel_rfl) ?_
      refine And.intro rfl ?_
      conv => whnf
      refine PCallK.own (copied_own s (by omega)) rfl (fun i hi => rfl) ?_
      conv => whnf
      refine And.intro ⟨by omega, show ((lb k s.os : Nat) : Int) < (s.os.length : Int) by omega⟩ ?_
      refine And.intro (inI64 (by omega) (by omega)) ?_
      refine DrawC.mkK 6 [(.inl 1, 3)] rfl (by kernel_rfl) ?_
      refine And.intro rfl ?_
      refine And.intro trivial (AVle.tup (AVsle.cons (AVle.agg (AVsle.cons (AVle.sl (by rw [Sto.set_len, if_pos hk]) fun i hi => ?_) (AVsle.cons (AVle.refl _) AVsle.nil))) (AVsle.cons (AVle.refl _) (AVsle.cons (AVle.refl _) AVsle.nil))))
      show (bif Nat.beq i (((lb k s.os : Nat) : Int).toNat) then [.str (B k), .int .i64 s.next, .str (B d)] else (ix s.os i).row) = _
      rw [set_ix s k d (by rw [Sto.set_len, if_pos hk]; exact hi), if_pos hk]
      unfold Sto.pos
      by_cases h1 : i = lb k s.os
      · subst h1; rw [if_neg (Nat.lt_irrefl _), if_pos rfl]; simp [Ob.row]
      · rw [beq_f (show ¬ i = ((lb k s.os : Nat) : Int).toNat by omega), if_neg h1, ite_self]; rfl
  · have hk' : s.has k = false := by simpa using hk
    have c := find_fn s hs k
    rw [hk'] at c
    have fin : ∀ x : Bool, ((!s.has k && decide (s.os.length = 300)) || decide (s.next = 1000000000)) = x → x = true → s.room k d ≠ 0 := fun x hx h => by
      unfold Sto.room; rw [hx, h]; split <;> decide
    refine VFn.introC Tryz.call167 Tryz.func167 rfl rfl ?_
    conv => whnf
    refine CallC.sca _ (c) ?_ ?_
    · exact rfl
    refine Grd.intro (fun g0 => ?_) (fun g0 => ?_)
    · have hx : ((!s.has k && decide (s.os.length = 300)) || decide (s.next = 1000000000)) = true := by
        rw [hk', show decide (s.os.length = 300) = true from decide_eq_true (by have := of_decide_eq_true g0; omega)]; rfl
      conv => whnf
      refine CallC.sca _ (first_room s k d true hx ⟨rfl, rfl, rfl, rfl, trivial⟩ rfl) ?_ ?_
      · exact rfl
      have g := fin true hx rfl
      rw [if_neg g]
      refine Grd.intro (fun g => ?_) (fun g => absurd (by simpa using g) ‹s.room k d ≠ 0›)
      exact And.intro trivial (AVle.refl _)
    have hx : ((!s.has k && decide (s.os.length = 300)) || decide (s.next = 1000000000)) = decide (s.next = 1000000000) := by
        rw [show decide (s.os.length = 300) = false from decide_eq_false (by have := of_decide_eq_false g0; omega)]; simp
    conv => whnf
    refine CallC.sca _ (first_room s k d (decide (s.next = 1000000000)) hx ⟨rfl, rfl, rfl, rfl, trivial⟩ rfl) ?_ ?_
    · exact rfl
    refine Grd.intro (fun g => ?_) (fun g => ?_)
    · have g : s.room k d ≠ 0 := by simpa using g
      rw [if_neg g]
      exact And.intro trivial (AVle.refl _)
    · have g : s.room k d = 0 := by simpa using g
      rw [if_pos g]
      refine DrawC.mkK 11 [(.inr 7, 9), (.inr 8, 10)] rfl (by kernel_rfl) ?_
      refine And.intro rfl ?_
      conv => whnf
      refine PCallK.own (copied_own s (by omega)) rfl (fun i hi => rfl) ?_
      conv => whnf
      refine CallC.k [(4, 0), (14, 1)] (Insert_own s.os.length (s.pos k) (fun i => (ix s.os i).row) (fun _ => [.str (B k), .int .i64 s.next, .str (B d)]) (by omega) hlb (fun j hj => rfl) rfl) rfl rfl (AVsle.refl _) ?_ rfl ?_
      · refine ⟨MOle.refl _, MOle.arr rfl (fun j hj => ?_), trivial⟩
        have : j = 0 := by omega
        subst this; rfl
      conv => whnf
      refine And.intro (inI64 (by omega) (by omega)) ?_
      refine DrawC.mkK 6 [(.inl 1, 3)] rfl (by kernel_rfl) ?_
      refine And.intro rfl ?_
      refine And.intro trivial (AVle.tup (AVsle.cons (AVle.agg (AVsle.cons (AVle.sl (by rw [Sto.set_len, if_neg hk]) fun i hi => ?_) (AVsle.cons (AVle.refl _) AVsle.nil))) (AVsle.cons (AVle.refl _) (AVsle.cons (AVle.refl _) AVsle.nil))))
      show insR (lb k s.os) (fun i => (ix s.os i).row) (fun _ => [.str (B k), .int .i64 s.next, .str (B d)]) i = _
      rw [set_ix s k d (by rw [Sto.set_len, if_neg hk]; exact hi), if_neg hk]
      unfold insR Sto.pos
      by_cases h1 : i < lb k s.os
      · rw [if_pos h1, if_pos h1]
      · rw [if_neg h1, if_neg h1]
        by_cases h2 : i = lb k s.os
        · rw [if_pos h2, if_pos h2]; rfl
        · rw [if_neg h2, if_neg h2]
end Go.Proofs.YtpfmfdioonjccaaGreatDoor
