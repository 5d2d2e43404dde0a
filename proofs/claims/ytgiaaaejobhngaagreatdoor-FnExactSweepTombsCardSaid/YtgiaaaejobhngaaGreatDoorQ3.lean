/- Contracts of functions that the claim reaches, and the plain law of what they compute; each theorem bears its own conditions. -/
import Derived.Test.YtgiaaaejobhngaaGreatDoorQ1
import Derived.Test.YtgiaaaejobhngaaGreatDoorQ2
import Derived.Test.YtgiaaaejobhngaaGreatDoorV43
set_option linter.unusedVariables false
set_option linter.constructorNameAsVariable false
set_option linter.unusedSimpArgs false
set_option maxRecDepth 20000
namespace Go.Proofs.YtgiaaaejobhngaaGreatDoor
open Go Go.Vw

theorem l01Find_fn (s : Sto) (hL : s.os.length ≤ 1000000000) (k : List UInt8) : VFn Tryz.prog 141 [s.av, .str (B k)] (.int .i64 (fi (fun o : Ob => decide (o.key = k)) s.os)) := by
  refine VFn.introC Tryz.call141 Tryz.func141 rfl rfl ?_
  refine LoopC.mk (fun i : Nat => i ≤ s.os.length ∧ ∀ j, j < i → decide ((ix s.os j).key = k) = false) (fun i => [(1, .str (B k)), (2, .bptr 0 0), (5, .int .i64 i)]) (fun i => [(0, .box s.row)]) 1 (fun i => s.os.length - i) 0
    ⟨⟨Nat.zero_le _, fun j hj => absurd hj (Nat.not_lt_zero j)⟩, [(0, 0)], rfl, rfl, ⟨AVle.refl _, AVle.refl _, AVle.refl _, trivial⟩, ⟨MOle.refl _, trivial⟩⟩ ?_
  intro i hi
  refine Grd.intro (fun h2 => ?_) (fun h2 => ?_)
  · have hin : i < s.os.length := by have := of_decide_eq_true h2; omega
    refine And.intro (by omega) ?_
    refine Grd.intro (fun h3 => ?_) (fun h3 => ?_)
    · have h3 : ((B (ix s.os i).key).toList == (B k).toList) = true := h3
      rw [B_eq] at h3
      exact And.intro trivial (AVle.of_eq (congrArg (AV.int .i64) (show (i : Int) = _ from (fi_at hin hi.2 h3).symm)))
    · have h3 : ((B (ix s.os i).key).toList == (B k).toList) = false := h3
      rw [B_eq] at h3
      refine And.intro (inI64 (by omega) (by omega)) ?_
      exact ⟨i + 1, ⟨hin, fun j hj => by
        rcases Nat.lt_or_ge j i with h' | h'
        · exact hi.2 j h'
        · rw [show j = i by omega]; exact h3⟩, by omega, [(0, 0)], rfl, rfl, ⟨AVle.refl _, AVle.refl _, AVle.of_eq (congrArg (AV.int .i64) (by simp)), trivial⟩, ⟨MOle.refl _, trivial⟩⟩
  · have : i = s.os.length := by have := of_decide_eq_false h2; omega
    subst this
    exact And.intro trivial (AVle.of_eq (congrArg (AV.int .i64) (fi_none hi.2).symm))
theorem l01Get_fn (s : Sto) (hs : s.ok = true) (k : List UInt8) : VFn Tryz.prog 84 [s.av, .str (B k)] (if s.has k = true then .tup [.str (B (s.get k).data), .int .i64 (s.get k).ver] else .tup [.str (B []), .int .i64 0]) := by
  have hL := (Sto.ok_at hs).2.1
  have hf := l01Find_fn s (by omega) k
  rw [(Sto.srt hs).fi] at hf
  by_cases h : hasK k s.os = true
  · rw [if_pos h] at hf
    rw [if_pos (show s.has k = true from h)]
    have hp := (hasK_at h).1
    refine VFn.introC Tryz.call84 Tryz.func84 rfl rfl ?_
    conv => whnf
    refine CallC.sca _ (hf) ?_ ?_
    · exact rfl
    refine DrawC.mk 14 rfl (by kernel_rfl) ?_
    refine And.intro (by omega) ?_
    refine And.intro (by omega) ?_
    exact And.intro trivial (AVle.refl _)
  · rw [if_neg h] at hf
    rw [if_neg (show ¬ s.has k = true from h)]
    refine VFn.introC Tryz.call84 Tryz.func84 rfl rfl ?_
    conv => whnf
    refine CallC.sca _ (hf) ?_ ?_
    · exact rfl
    exact And.intro trivial (AVle.refl _)
theorem l01Set_fn (s : Sto) (hL : s.os.length ≤ 1000000) (hn : s.next ≤ 1000000000 ∧ 0 ≤ s.next) (k d : List UInt8) : VFn Tryz.prog 145 [s.av, .str (B k), .str (B d)] (s.set k d).av := by
  refine VFn.introC Tryz.call145 Tryz.func145 rfl rfl ?_
  refine LoopC.mk (fun i : Nat => i ≤ lb k s.os) (fun i => [(1, .str (B k)), (2, .str (B d)), (3, .bptr 0 0), (6, .bptr 1 0), (7, .int .i64 i)]) (fun i => [(0, .box s.row), (1, .box [.nilsl, .int .i64 0])]) 2 (fun i => s.os.length - i) 0
    ⟨Nat.zero_le _, [(0, 0), (1, 1)], rfl, rfl, ⟨AVle.refl _, AVle.refl _, AVle.refl _, AVle.refl _, AVle.refl _, trivial⟩, ⟨MOle.refl _, MOle.refl _, trivial⟩⟩ ?_
  intro i hi
  have hlb := lb_le k s.os
  refine Grd.intro (fun h2 => ?_) (fun h2 => ?_)
  · have hin : i < s.os.length := by have := of_decide_eq_true h2; omega
    refine And.intro (by omega) ?_
    conv => whnf
    refine Grd.intro (fun h3 => ?_) (fun h3 => ?_)
    · have h3 : (ix s.os i).key < k := by
        have h : Op.bytesLess (B (ix s.os i).key).toList (B k).toList = true := h3
        rw [blt_lt] at h; exact of_decide_eq_true h
      have hlt : i < lb k s.os := by
        rcases Nat.lt_or_ge i (lb k s.os) with h | h
        · exact h
        · have e : i = lb k s.os := by omega
          subst e
          exact absurd h3 (lb_ge hin)
      refine And.intro (inI64 (by omega) (by omega)) ?_
      exact ⟨i + 1, hlt, by omega, [(0, 0), (1, 1)], rfl, rfl, ⟨AVle.refl _, AVle.refl _, AVle.refl _, AVle.refl _, AVle.of_eq (congrArg (AV.int .i64) (by simp)), trivial⟩, ⟨MOle.refl _, MOle.refl _, trivial⟩⟩
    · have h3 : ¬ (ix s.os i).key < k := by
        have h : Op.bytesLess (B (ix s.os i).key).toList (B k).toList = false := h3
        rw [blt_lt] at h; exact of_decide_eq_false h
      have hi' : i = lb k s.os := by
        rcases Nat.lt_or_ge i (lb k s.os) with h | h
        · exact absurd (lb_lt h) h3
        · omega
      subst hi'
      refine And.intro (by omega) ?_
      refine Grd.intro (fun _ => ?_) (fun h => absurd (of_decide_eq_false h) (by omega))
      refine And.intro (by omega) ?_
      conv => whnf
      have hcmp : ((B (ix s.os (lb k s.os)).key).toList == (B k).toList) = s.has k := by
        rw [B_eq]
        unfold Sto.has hasK
        rw [decide_eq_true hin]; rfl
      refine Grd.intro (fun h4 => ?_) (fun h4 => ?_)
      · have h4 : s.has k = true := hcmp.symm.trans h4
        refine And.intro (inI64 (by omega) (by omega)) ?_
        refine And.intro (by omega) ?_
        refine DrawC.mkK 16 [(.inr 0, 5), (.inr 5, 12), (.inr 12, 14)] rfl (by kernel_rfl) ?_; refine And.intro rfl ?_
        conv => whnf
        refine And.intro ⟨by omega, by omega⟩ ?_
        conv => whnf
        refine And.intro ⟨show (0 + (lb k s.os : Int).toNat) * 40 ≤ 140737488355328 by omega, fun i hi => rfl⟩ ?_
        conv => whnf
        refine And.intro ⟨show (0 + (lb k s.os : Int).toNat + 1) * 40 ≤ 140737488355328 by omega, all1 rfl⟩ ?_
        conv => whnf
        refine And.intro ⟨show (0 + (lb k s.os : Int).toNat + 1 + (s.os.length - ((lb k s.os : Int) + 1).toNat)) * 40 ≤ 140737488355328 by omega, fun i hi => rfl⟩ ?_
        refine And.intro (inI64 (by omega) (by omega)) ?_
        refine And.intro trivial (AVle.agg (AVsle.cons (AVle.sl (by rw [Sto.set_len, if_pos h4]; omega) fun i hi => s.set_rows k d (by rw [if_pos h4]; show ((lb k s.os : Int) + 1).toNat = lb k s.os + 1; omega) (by omega) (by omega) rfl i (by rw [Sto.set_len, if_pos h4]; omega)) (AVsle.cons (AVle.refl _) AVsle.nil)))
      · have h4 : s.has k = false := hcmp.symm.trans h4
        have h4' : ¬ s.has k = true := by rw [h4]; simp
        refine DrawC.mkK 16 [(.inr 0, 5), (.inr 5, 12), (.inr 12, 14)] rfl (by kernel_rfl) ?_; refine And.intro rfl ?_
        conv => whnf
        refine And.intro ⟨by omega, by omega⟩ ?_
        conv => whnf
        refine And.intro ⟨show (0 + (lb k s.os : Int).toNat) * 40 ≤ 140737488355328 by omega, fun i hi => rfl⟩ ?_
        conv => whnf
        refine And.intro ⟨show (0 + (lb k s.os : Int).toNat + 1) * 40 ≤ 140737488355328 by omega, all1 rfl⟩ ?_
        conv => whnf
        refine And.intro ⟨show (0 + (lb k s.os : Int).toNat + 1 + (s.os.length - (lb k s.os : Int).toNat)) * 40 ≤ 140737488355328 by omega, fun i hi => rfl⟩ ?_
        refine And.intro (inI64 (by omega) (by omega)) ?_
        refine And.intro trivial (AVle.agg (AVsle.cons (AVle.sl (by rw [Sto.set_len, if_neg h4']; omega) fun i hi => s.set_rows k d (by rw [if_neg h4']; show (lb k s.os : Int).toNat = lb k s.os; omega) (by omega) (by omega) rfl i (by rw [Sto.set_len, if_neg h4']; omega)) (AVsle.cons (AVle.refl _) AVsle.nil)))
  · have hi' : i = s.os.length := by have := of_decide_eq_false h2; omega
    have hi2 : i = lb k s.os := by omega
    have h4' : ¬ s.has k = true := fun h => by have := (hasK_at h).1; omega
    subst hi2
    refine And.intro (by omega) ?_
    refine Grd.intro (fun h => absurd (of_decide_eq_true h) (by omega)) (fun _ => ?_)
    refine DrawC.mkK 16 [(.inr 0, 5), (.inr 5, 12), (.inr 12, 14)] rfl (by kernel_rfl) ?_; refine And.intro rfl ?_
    conv => whnf
    refine And.intro ⟨by omega, by omega⟩ ?_
    conv => whnf
    refine And.intro ⟨show (0 + (lb k s.os : Int).toNat) * 40 ≤ 140737488355328 by omega, fun i hi => rfl⟩ ?_
    conv => whnf
    refine And.intro ⟨show (0 + (lb k s.os : Int).toNat + 1) * 40 ≤ 140737488355328 by omega, all1 rfl⟩ ?_
    conv => whnf
    refine And.intro ⟨show (0 + (lb k s.os : Int).toNat + 1 + (s.os.length - (lb k s.os : Int).toNat)) * 40 ≤ 140737488355328 by omega, fun i hi => rfl⟩ ?_
    refine And.intro (inI64 (by omega) (by omega)) ?_
    refine And.intro trivial (AVle.agg (AVsle.cons (AVle.sl (by rw [Sto.set_len, if_neg h4']; omega) fun i hi => s.set_rows k d (by rw [if_neg h4']; show (lb k s.os : Int).toNat = lb k s.os; omega) (by omega) (by omega) rfl i (by rw [Sto.set_len, if_neg h4']; omega)) (AVsle.cons (AVle.refl _) AVsle.nil)))
end Go.Proofs.YtgiaaaejobhngaaGreatDoor
set_option linter.unusedVariables false
set_option linter.constructorNameAsVariable false
set_option linter.unusedSimpArgs false
set_option maxRecDepth 20000
namespace Go.Proofs.YtgiaaaejobhngaaGreatDoor
open Go Go.Vw

theorem specKeyOK_fn (k : List UInt8) (hk : k.length ≤ 1000000000) : VFn Tryz.prog 159 [.str (B k)] (.bool (keyOK k)) := by
  obtain ⟨R, hR⟩ : ∃ R, R = keyOK k := ⟨_, rfl⟩
  rw [← hR]
  refine VFn.introC Tryz.call159 Tryz.func159 rfl rfl ?_
  refine Grd.intro (fun h0 => ?_) (fun h0 => ?_)
  · have h0 : 65536 < k.length := by
      have := of_decide_eq_true (show decide ((65536 : Int) < (((B k).size : Nat) : Int)) = true from h0)
      rw [B_size] at this; omega
    have hw : within k.length 1 30 = false := by unfold within; simp; omega
    rw [hR, show keyOK k = false by unfold keyOK; rw [hw]; simp]
    exact And.intro trivial (AVle.refl _)
  refine LoopC.mk (fun i : Nat => i ≤ k.length ∧ ∀ j, j < i → keyC (k.getD j 0) = true) (fun i => [(0, .str (B k)), (3, .int .i64 i)]) (fun _ => []) 0 (fun i => k.length - i) 0
    ⟨⟨Nat.zero_le _, fun j hj => absurd hj (Nat.not_lt_zero j)⟩, [], rfl, rfl, ⟨AVle.refl _, AVle.refl _, trivial⟩, trivial⟩ ?_
  intro i hi
  have hsz : (((B k).size : Nat) : Int) = k.length := by rw [B_size]
  refine Grd.intro (fun h2 => ?_) (fun h2 => ?_)
  · have hin : i < k.length := by have := of_decide_eq_true h2; omega
    refine And.intro ⟨by omega, by omega⟩ ?_
    have hbad : keyC (k.getD i 0) = false → false = R := fun h => by rw [hR, keyOK_bad hin h]
    have hgood : keyC (k.getD i 0) = true → ∀ j, j < i + 1 → keyC (k.getD j 0) = true := fun h j hj => by
      rcases Nat.lt_or_ge j i with h' | h'
      · exact hi.2 j h'
      · rw [show j = i by omega]; exact h
    have hx : k.getD i 0 = (B k).data.toList.getD (i : Int).toNat 0 := rfl
    generalize (B k).data.toList.getD (i : Int).toNat 0 = c at hx ⊢
    rw [hx] at hbad hgood
    unfold keyC at hbad
    have hgood : ((decide (97 ≤ (c.toNat : Int)) && decide ((c.toNat : Int) ≤ 122)) || (decide (48 ≤ (c.toNat : Int)) && decide ((c.toNat : Int) ≤ 57)) || decide ((c.toNat : Int) = 47) || decide ((c.toNat : Int) = 45)) = true → ∀ j, j < i + 1 → keyC (k.getD j 0) = true := hgood
    conv => whnf
    refine CallC.sca _ (l00Digit_fn c) ?_ ?_
    · exact rfl
    have hd : dig c = (decide (48 ≤ (c.toNat : Int)) && decide ((c.toNat : Int) ≤ 57)) := by unfold dig; rw [Bool.eq_iff_iff]; simp; omega
    rw [hd]
    generalize c.toNat = c at *
    repeat' (first
      | refine Grd.intro (fun h => ?_) (fun h => ?_)
      | ((conv => whnf); refine Grd.intro (fun h => ?_) (fun h => ?_)))
    all_goals first
      | exact And.intro trivial (AVle.of_eq (congrArg AV.bool (hbad (by simp_all; omega))))
      | exact And.intro trivial (AVle.of_eq (congrArg AV.bool (hbad (by simp_all))))
      | (refine And.intro (inI64 (by omega) (by omega)) ?_
         exact ⟨i + 1, ⟨hin, hgood (by simp_all; omega)⟩, by omega, [], rfl, rfl, ⟨AVle.refl _, AVle.of_eq (congrArg (AV.int .i64) (by simp)), trivial⟩, trivial⟩)
      | (refine And.intro (inI64 (by omega) (by omega)) ?_
         exact ⟨i + 1, ⟨hin, hgood (by simp_all)⟩, by omega, [], rfl, rfl, ⟨AVle.refl _, AVle.of_eq (congrArg (AV.int .i64) (by simp)), trivial⟩, trivial⟩)
  · have : i = k.length := by have := of_decide_eq_false h2; omega
    subst this
    conv => whnf
    refine CallC.sca _ (l01In_fn _ _ _) ?_ ?_
    · exact rfl
    rw [hR, keyOK_all hi.2]
    exact And.intro trivial (AVle.of_eq (congrArg AV.bool (show within ((B k).size : Nat) 1 30 = _ by rw [B_size])))
theorem l01In_lo : VFn Tryz.prog 118 [.lo, .int .i64 1, .int .i64 1000000000] (.bool false) := by
  refine VFn.introC Tryz.call118 Tryz.func118 rfl rfl ?_
  exact And.intro trivial (AVle.refl _)
theorem specStoreOK_lo (os : List Ob) (hL : os.length ≤ 1000000000) (hk : ∀ o ∈ os, o.key.length ≤ 1000000000) : VFn Tryz.prog 82 [.agg [obs os, .lo]] (.bool false) := by
  refine VFn.introC Tryz.call82 Tryz.func82 rfl rfl ?_
  refine LoopC.mk (fun i : Nat => i ≤ os.length) (fun i => [(1, .bptr 0 0), (3, .int .i64 i)]) (fun i => [(0, .box [obs os, .lo])]) 1 (fun i => os.length - i) 0
    ⟨Nat.zero_le _, [(0, 0)], rfl, rfl, ⟨AVle.refl _, AVle.refl _, trivial⟩, ⟨MOle.refl _, trivial⟩⟩ ?_
  intro i hi
  refine Grd.intro (fun h3 => ?_) (fun h3 => ?_)
  · have hin : i < os.length := by have := of_decide_eq_true h3; omega
    refine And.intro (by omega) ?_
    refine DrawC.mk 35 rfl (by kernel_rfl) ?_
    refine PCallC.sca _ (specKeyOK_fn (ix os i).key (hk _ (getD_mem hin))) rfl ?_
    refine Grd.intro (fun g1 => ?_) (fun g1 => ?_)
    · exact And.intro trivial (AVle.refl _)
    refine And.intro ⟨by omega, by omega⟩ ?_
    refine PCallC.sca _ (l01In_fn (ix os i).ver 1 (9223372036854775808 - 1)) rfl ?_
    conv => whnf
    refine Grd.intro (fun g2 => ?_) (fun g2 => ?_)
    · exact And.intro trivial (AVle.refl _)
    conv => whnf
    refine Grd.intro (fun g3 => ?_) (fun g3 => ?_)
    · exact And.intro trivial (AVle.refl _)
    conv => whnf
    refine Grd.intro (fun g5 => ?_) (fun g5 => ?_)
    · have h0 : 0 < i := by have := of_decide_eq_true g5; omega
      have e1 : ((i : Int) - 1).toNat = i - 1 := by omega
      refine And.intro (inI64 (by omega) (by omega)) ?_
      refine And.intro ⟨by omega, by omega⟩ ?_
      conv => whnf
      refine Grd.intro (fun g6 => ?_) (fun g6 => ?_)
      · exact And.intro trivial (AVle.refl _)
      refine LoopC.mk (fun j : Nat => j ≤ i) (fun j => [(1, .bptr 0 0), (3, .int .i64 i), (4, .bptr 1 0), (5, .int .i64 j)]) (fun j => [(0, .box [obs os, .lo]), (1, .box (ix os i).row)]) 2 (fun j => i - j) 0
        ⟨Nat.zero_le _, [(0, 0), (1, 1)], rfl, rfl, ⟨AVle.refl _, AVle.refl _, AVle.refl _, AVle.refl _, trivial⟩, ⟨MOle.refl _, MOle.refl _, trivial⟩⟩ ?_
      intro j hj
      refine Grd.intro (fun h6 => ?_) (fun h6 => ?_)
      · have hjn : j < i := by have := of_decide_eq_true h6; omega
        refine DrawC.mk 9 rfl (by kernel_rfl) ?_
        refine And.intro (by omega) ?_
        refine Grd.intro (fun h7 => ?_) (fun h7 => ?_)
        · exact And.intro trivial (AVle.refl _)
        · refine And.intro (inI64 (by omega) (by omega)) ?_
          exact ⟨j + 1, hjn, by omega, [(0, 0), (1, 1)], rfl, rfl, ⟨AVle.refl _, AVle.refl _, AVle.refl _, AVle.of_eq (congrArg (AV.int .i64) (by simp)), trivial⟩, ⟨MOle.refl _, MOle.refl _, trivial⟩⟩
      · refine And.intro (inI64 (by omega) (by omega)) ?_
        exact ⟨i + 1, hin, by omega, [(0, 0)], rfl, rfl, ⟨AVle.refl _, AVle.of_eq (congrArg (AV.int .i64) (by simp)), trivial⟩, ⟨MOle.refl _, trivial⟩⟩
    · have h0 : i = 0 := by have := of_decide_eq_false g5; omega
      refine LoopC.mk (fun j : Nat => j ≤ i) (fun j => [(1, .bptr 0 0), (3, .int .i64 i), (4, .bptr 1 0), (5, .int .i64 j)]) (fun j => [(0, .box [obs os, .lo]), (1, .box (ix os i).row)]) 2 (fun j => i - j) 0
        ⟨Nat.zero_le _, [(0, 0), (1, 1)], rfl, rfl, ⟨AVle.refl _, AVle.refl _, AVle.refl _, AVle.refl _, trivial⟩, ⟨MOle.refl _, MOle.refl _, trivial⟩⟩ ?_
      intro j hj
      refine Grd.intro (fun h6 => ?_) (fun h6 => ?_)
      · have hjn : j < i := by have := of_decide_eq_true h6; omega
        refine DrawC.mk 9 rfl (by kernel_rfl) ?_
        refine And.intro (by omega) ?_
        refine Grd.intro (fun h7 => ?_) (fun h7 => ?_)
        · exact And.intro trivial (AVle.refl _)
        · refine And.intro (inI64 (by omega) (by omega)) ?_
          exact ⟨j + 1, hjn, by omega, [(0, 0), (1, 1)], rfl, rfl, ⟨AVle.refl _, AVle.refl _, AVle.refl _, AVle.of_eq (congrArg (AV.int .i64) (by simp)), trivial⟩, ⟨MOle.refl _, MOle.refl _, trivial⟩⟩
      · refine And.intro (inI64 (by omega) (by omega)) ?_
        exact ⟨i + 1, hin, by omega, [(0, 0)], rfl, rfl, ⟨AVle.refl _, AVle.of_eq (congrArg (AV.int .i64) (by simp)), trivial⟩, ⟨MOle.refl _, trivial⟩⟩
  · refine Grd.intro (fun _ => ?_) (fun _ => ?_)
    · conv => whnf
      refine CallC.sca _ (l01In_lo) ?_ ?_
      · exact rfl
      exact And.intro trivial (AVle.refl _)
    · exact And.intro trivial (AVle.refl _)
theorem specStoreOK_hi (s : Sto) (hL : s.os.length ≤ 1000000000) (hk : ∀ o ∈ s.os, o.key.length ≤ 1000000000) (hn : -9223372036854775807 ≤ s.next ∧ s.next ≤ 9223372036854775807) : VFn Tryz.prog 82 [s.av] (.bool s.ok) := by
  refine VFn.introC Tryz.call82 Tryz.func82 rfl rfl ?_
  refine LoopC.mk (fun i : Nat => i ≤ s.os.length ∧ ∀ j, j < i → s.eOK j = true) (fun i => [(1, .bptr 0 0), (3, .int .i64 i)]) (fun i => [(0, .box s.row)]) 1 (fun i => s.os.length - i) 0
    ⟨⟨Nat.zero_le _, fun j hj => absurd hj (Nat.not_lt_zero j)⟩, [(0, 0)], rfl, rfl, ⟨AVle.refl _, AVle.refl _, trivial⟩, ⟨MOle.refl _, trivial⟩⟩ ?_
  intro i hi
  obtain ⟨hi, hall⟩ := hi
  refine Grd.intro (fun h3 => ?_) (fun h3 => ?_)
  · have hin : i < s.os.length := by have := of_decide_eq_true h3; omega
    have hbad : s.eOK i = false → s.ok = false := Sto.ok_no hin
    refine And.intro (by omega) ?_
    refine DrawC.mk 35 rfl (by kernel_rfl) ?_
    refine PCallC.sca _ (specKeyOK_fn (ix s.os i).key (hk _ (getD_mem hin))) rfl ?_
    refine Grd.intro (fun g1 => ?_) (fun g1 => ?_)
    · rw [hbad (by unfold Sto.eOK; rw [wnot g1]; rfl)]
      exact And.intro trivial (AVle.refl _)
    refine And.intro (inI64 (by omega) (by omega)) ?_
    refine PCallC.sca _ (l01In_fn (ix s.os i).ver 1 (s.next - 1)) rfl ?_
    conv => whnf
    refine Grd.intro (fun g2 => ?_) (fun g2 => ?_)
    · rw [hbad (by unfold Sto.eOK; rw [show within (ix s.os i).ver 1 (s.next - 1) = false from wnot g2]; simp)]
      exact And.intro trivial (AVle.refl _)
    conv => whnf
    refine Grd.intro (fun g3 => ?_) (fun g3 => ?_)
    · have g3 : ¬ (ix s.os i).data.length ≤ 600 := by
        have := of_decide_eq_true (show decide ((600 : Int) < (((B (ix s.os i).data).size : Nat) : Int)) = true from g3)
        rw [B_size] at this; omega
      rw [hbad (by unfold Sto.eOK; rw [decide_eq_false g3]; simp)]
      exact And.intro trivial (AVle.refl _)
    have g3 : (ix s.os i).data.length ≤ 600 := by
      have := of_decide_eq_false (show decide ((600 : Int) < (((B (ix s.os i).data).size : Nat) : Int)) = false from g3)
      rw [B_size] at this; omega
    have hpre : (!decide ((ix s.os i).ver ∈ (s.os.take i).map (·.ver))) = true → (decide (i = 0) || decide ((ix s.os (i - 1)).key < (ix s.os i).key)) = true → s.eOK i = true := fun h h' => by
      unfold Sto.eOK; rw [wyes g1, show within (ix s.os i).ver 1 (s.next - 1) = true from wyes g2, decide_eq_true g3, h, h']; rfl
    have hnext : s.eOK i = true → ∀ j, j < i + 1 → s.eOK j = true := fun h j hj => by
      rcases Nat.lt_or_ge j i with h' | h'
      · exact hall j h'
      · rw [show j = i by omega]; exact h
    conv => whnf
    refine Grd.intro (fun g5 => ?_) (fun g5 => ?_)
    · have h0 : 0 < i := by have := of_decide_eq_true g5; omega
      have e1 : ((i : Int) - 1).toNat = i - 1 := by omega
      refine And.intro (inI64 (by omega) (by omega)) ?_
      refine And.intro ⟨by omega, by omega⟩ ?_
      conv => whnf
      have hcmp : (!Op.bytesLess (B (ix s.os ((i : Int) - 1).toNat).key).toList (B (ix s.os i).key).toList) = !decide ((ix s.os (i - 1)).key < (ix s.os i).key) := by rw [blt_lt, e1]
      refine Grd.intro (fun g6 => ?_) (fun g6 => ?_)
      · have g6 := hcmp.symm.trans g6
        rw [hbad (by unfold Sto.eOK; rw [show decide ((ix s.os (i - 1)).key < (ix s.os i).key) = false from wnot g6, decide_eq_false (show ¬ i = 0 by omega)]; simp)]
        exact And.intro trivial (AVle.refl _)
      have g6 := hcmp.symm.trans g6
      have hkey : (decide (i = 0) || decide ((ix s.os (i - 1)).key < (ix s.os i).key)) = true := by rw [show decide ((ix s.os (i - 1)).key < (ix s.os i).key) = true from wyes g6]; simp
      refine LoopC.mk (fun j : Nat => j ≤ i ∧ ∀ q, q < j → (ix s.os q).ver ≠ (ix s.os i).ver) (fun j => [(1, .bptr 0 0), (3, .int .i64 i), (4, .bptr 1 0), (5, .int .i64 j)]) (fun j => [(0, .box s.row), (1, .box (ix s.os i).row)]) 2 (fun j => i - j) 0
        ⟨⟨Nat.zero_le _, fun q hq => absurd hq (Nat.not_lt_zero q)⟩, [(0, 0), (1, 1)], rfl, rfl, ⟨AVle.refl _, AVle.refl _, AVle.refl _, AVle.refl _, trivial⟩, ⟨MOle.refl _, MOle.refl _, trivial⟩⟩ ?_
      intro j hj
      obtain ⟨hj, hv⟩ := hj
      refine Grd.intro (fun h6 => ?_) (fun h6 => ?_)
      · have hjn : j < i := by have := of_decide_eq_true h6; omega
        refine DrawC.mk 9 rfl (by kernel_rfl) ?_
        refine And.intro (by omega) ?_
        refine Grd.intro (fun h7 => ?_) (fun h7 => ?_)
        · have h7 : (ix s.os j).ver = (ix s.os i).ver := of_decide_eq_true h7
          have hm : (ix s.os i).ver ∈ (s.os.take i).map (·.ver) := List.mem_map.2 ⟨ix s.os j, by rw [← ix_take hjn]; exact getD_mem (by simp; omega), h7⟩
          rw [hbad (by unfold Sto.eOK; rw [decide_eq_true hm]; simp)]
          exact And.intro trivial (AVle.refl _)
        · have h7 : (ix s.os j).ver ≠ (ix s.os i).ver := of_decide_eq_false h7
          refine And.intro (inI64 (by omega) (by omega)) ?_
          refine ⟨j + 1, ⟨hjn, fun q hq => ?_⟩, by omega, [(0, 0), (1, 1)], rfl, rfl, ⟨AVle.refl _, AVle.refl _, AVle.refl _, AVle.of_eq (congrArg (AV.int .i64) (by simp)), trivial⟩, ⟨MOle.refl _, MOle.refl _, trivial⟩⟩
          rcases Nat.lt_or_ge q j with h' | h'
          · exact hv q h'
          · rw [show q = j by omega]; exact h7
      · have : j = i := by have := of_decide_eq_false h6; omega
        subst this
        have hm : (ix s.os j).ver ∉ (s.os.take j).map (·.ver) := fun hm => by
          obtain ⟨o, ho, e⟩ := List.mem_map.1 hm
          obtain ⟨q, hq, e2⟩ := List.getElem_of_mem ho
          have hq' : q < j := by simp at hq; omega
          refine hv q hq' ?_
          rw [← e, ← e2, ix_lt (by omega)]; simp
        have he := hpre (by rw [decide_eq_false hm]; rfl) hkey
        refine And.intro (inI64 (by omega) (by omega)) ?_
        exact ⟨j + 1, ⟨hin, hnext he⟩, by omega, [(0, 0)], rfl, rfl, ⟨AVle.refl _, AVle.of_eq (congrArg (AV.int .i64) (by simp)), trivial⟩, ⟨MOle.refl _, trivial⟩⟩
    · have h0 : i = 0 := by have := of_decide_eq_false g5; omega
      have hkey : (decide (i = 0) || decide ((ix s.os (i - 1)).key < (ix s.os i).key)) = true := by rw [decide_eq_true h0]; rfl
      refine LoopC.mk (fun j : Nat => j ≤ i ∧ ∀ q, q < j → (ix s.os q).ver ≠ (ix s.os i).ver) (fun j => [(1, .bptr 0 0), (3, .int .i64 i), (4, .bptr 1 0), (5, .int .i64 j)]) (fun j => [(0, .box s.row), (1, .box (ix s.os i).row)]) 2 (fun j => i - j) 0
        ⟨⟨Nat.zero_le _, fun q hq => absurd hq (Nat.not_lt_zero q)⟩, [(0, 0), (1, 1)], rfl, rfl, ⟨AVle.refl _, AVle.refl _, AVle.refl _, AVle.refl _, trivial⟩, ⟨MOle.refl _, MOle.refl _, trivial⟩⟩ ?_
      intro j hj
      obtain ⟨hj, hv⟩ := hj
      refine Grd.intro (fun h6 => ?_) (fun h6 => ?_)
      · have hjn : j < i := by have := of_decide_eq_true h6; omega
        refine DrawC.mk 9 rfl (by kernel_rfl) ?_
        refine And.intro (by omega) ?_
        refine Grd.intro (fun h7 => ?_) (fun h7 => ?_)
        · have h7 : (ix s.os j).ver = (ix s.os i).ver := of_decide_eq_true h7
          have hm : (ix s.os i).ver ∈ (s.os.take i).map (·.ver) := List.mem_map.2 ⟨ix s.os j, by rw [← ix_take hjn]; exact getD_mem (by simp; omega), h7⟩
          rw [hbad (by unfold Sto.eOK; rw [decide_eq_true hm]; simp)]
          exact And.intro trivial (AVle.refl _)
        · have h7 : (ix s.os j).ver ≠ (ix s.os i).ver := of_decide_eq_false h7
          refine And.intro (inI64 (by omega) (by omega)) ?_
          refine ⟨j + 1, ⟨hjn, fun q hq => ?_⟩, by omega, [(0, 0), (1, 1)], rfl, rfl, ⟨AVle.refl _, AVle.refl _, AVle.refl _, AVle.of_eq (congrArg (AV.int .i64) (by simp)), trivial⟩, ⟨MOle.refl _, MOle.refl _, trivial⟩⟩
          rcases Nat.lt_or_ge q j with h' | h'
          · exact hv q h'
          · rw [show q = j by omega]; exact h7
      · have : j = i := by have := of_decide_eq_false h6; omega
        subst this
        have hm : (ix s.os j).ver ∉ (s.os.take j).map (·.ver) := fun hm => by
          obtain ⟨o, ho, e⟩ := List.mem_map.1 hm
          obtain ⟨q, hq, e2⟩ := List.getElem_of_mem ho
          have hq' : q < j := by simp at hq; omega
          refine hv q hq' ?_
          rw [← e, ← e2, ix_lt (by omega)]; simp
        have he := hpre (by rw [decide_eq_false hm]; rfl) hkey
        refine And.intro (inI64 (by omega) (by omega)) ?_
        exact ⟨j + 1, ⟨hin, hnext he⟩, by omega, [(0, 0)], rfl, rfl, ⟨AVle.refl _, AVle.of_eq (congrArg (AV.int .i64) (by simp)), trivial⟩, ⟨MOle.refl _, trivial⟩⟩
  · have : i = s.os.length := by have := of_decide_eq_false h3; omega
    subst this
    refine Grd.intro (fun h4 => ?_) (fun h4 => ?_)
    · have h4 : s.os.length ≤ 300 := by have := of_decide_eq_true h4; omega
      conv => whnf
      refine CallC.sca _ (l01In_fn s.next 1 1000000000) ?_ ?_
      · exact rfl
      refine And.intro trivial (AVle.of_eq (congrArg AV.bool (show within s.next 1 1000000000 = _ from ?_)))
      cases hw : within s.next 1 1000000000
      · unfold Sto.ok; rw [hw]; rfl
      · rw [Sto.ok_yes hw h4 hall]
    · have h4 : ¬ s.os.length ≤ 300 := by have := of_decide_eq_false h4; omega
      rw [show s.ok = false by unfold Sto.ok; rw [decide_eq_false h4]; simp]
      exact And.intro trivial (AVle.refl _)
theorem specStoreOK_ok (s : Sto) (hL : s.os.length ≤ 1000000000) (hk : ∀ o ∈ s.os, o.key.length ≤ 1000000000) (hn : -9223372036854775808 ≤ s.next ∧ s.next ≤ 9223372036854775807) : VFn Tryz.prog 82 [s.av] (.bool s.ok) := by
  by_cases h : s.next = -9223372036854775808
  · have h1 : within s.next 1 1000000000 = false := by rw [h]; rfl
    rw [show s.ok = false by unfold Sto.ok; rw [h1]; rfl]
    refine (specStoreOK_lo s.os hL hk).weak (AVsle.cons (AVle.agg (AVsle.cons (AVle.refl _) (AVsle.cons (fun w ok g v hv => ?_) AVsle.nil))) AVsle.nil) (AVle.refl _)
    have hv : v = .int .i64 s.next := hv
    rw [h] at hv
    exact hv
  · exact specStoreOK_hi s hL hk (by omega)
end Go.Proofs.YtgiaaaejobhngaaGreatDoor
set_option linter.unusedVariables false
set_option linter.constructorNameAsVariable false
set_option linter.unusedSimpArgs false
set_option maxRecDepth 20000
namespace Go.Proofs.YtgiaaaejobhngaaGreatDoor
open Go Go.Vw

theorem force_to {x y : AV} {k : AV → Prop} (e : x = y) (h : y.force k) : x.force k := e ▸ h
theorem wyes' {a : Bool} (h : (!a) = true) : a = true → False := fun e => by rw [e] at h; cases h
theorem l01Room_fn (s : Sto) (hs : s.ok = true) (k d : List UInt8) : VFn Tryz.prog 211 [s.av, .str (B k), .str (B d)] (.int .i64 (s.room k d)) := by
  have hL := (Sto.ok_at hs).2.1
  have c := l01Find_fn s (by omega) k
  rw [Srt.fi (Sto.srt hs) k, show hasK k s.os = s.has k from rfl] at c
  have r1 : 600 < d.length → s.room k d = 8 := fun h => by unfold Sto.room; rw [if_pos h]
  have r2 : ¬ 600 < d.length → ((!s.has k && decide (s.os.length = 300)) || decide (s.next = 1000000000)) = true → s.room k d = 7 := fun h h2 => by unfold Sto.room; rw [if_neg h, if_pos h2]
  have r3 : ¬ 600 < d.length → ((!s.has k && decide (s.os.length = 300)) || decide (s.next = 1000000000)) = false → s.room k d = 0 := fun h h2 => by unfold Sto.room; rw [if_neg h, if_neg (by rw [h2]; simp)]
  by_cases hk : s.has k = true
  · rw [if_pos hk] at c
    rw [hk] at r2 r3
    refine VFn.introC Tryz.call211 Tryz.func211 rfl rfl ?_
    refine Grd.intro (fun h1 => ?_) (fun h1 => ?_)
    · rw [r1 (by have h : (600 : Int) < (((B d).size : Nat) : Int) := of_decide_eq_true h1; rw [B_size] at h; omega)]
      exact And.intro trivial (AVle.refl _)
    have h1 : ¬ 600 < d.length := by have h : ¬ (600 : Int) < (((B d).size : Nat) : Int) := of_decide_eq_false h1; rw [B_size] at h; omega
    conv => whnf
    refine CallC.sca _ (c) ?_ ?_
    · exact rfl
    refine Grd.intro (fun h3 => ?_) (fun h3 => ?_)
    · rw [r2 h1 h3]
      exact And.intro trivial (AVle.refl _)
    · rw [r3 h1 h3]
      exact And.intro trivial (AVle.refl _)
  · have hk : s.has k = false := by simpa using hk
    rw [if_neg (by rw [hk]; simp)] at c
    rw [hk] at r2 r3
    refine VFn.introC Tryz.call211 Tryz.func211 rfl rfl ?_
    refine Grd.intro (fun h1 => ?_) (fun h1 => ?_)
    · rw [r1 (by have h : (600 : Int) < (((B d).size : Nat) : Int) := of_decide_eq_true h1; rw [B_size] at h; omega)]
      exact And.intro trivial (AVle.refl _)
    have h1 : ¬ 600 < d.length := by have h : ¬ (600 : Int) < (((B d).size : Nat) : Int) := of_decide_eq_false h1; rw [B_size] at h; omega
    conv => whnf
    refine CallC.sca _ (c) ?_ ?_
    · exact rfl
    refine Grd.intro (fun h2 => ?_) (fun h2 => ?_)
    · have h2 : decide (s.os.length = 300) = true := decide_eq_true (by have h : ((s.os.length : Nat) : Int) = 300 := of_decide_eq_true h2; omega)
      rw [r2 h1 (by rw [h2]; rfl)]
      exact And.intro trivial (AVle.refl _)
    have h2 : decide (s.os.length = 300) = false := decide_eq_false (by have h : ¬ ((s.os.length : Nat) : Int) = 300 := of_decide_eq_false h2; omega)
    rw [h2] at r2 r3
    refine Grd.intro (fun h3 => ?_) (fun h3 => ?_)
    · rw [r2 h1 h3]
      exact And.intro trivial (AVle.refl _)
    · rw [r3 h1 h3]
      exact And.intro trivial (AVle.refl _)
theorem l01Own_fn (s : Sto) (hL : s.os.length ≤ 1000000) : VFn Tryz.prog 71 [s.av] s.av := by
  refine VFn.introC Tryz.call71 Tryz.func71 rfl rfl ?_
  refine And.intro ⟨show (0 + s.os.length) * 40 ≤ 140737488355328 by omega, fun i hi => rfl⟩ ?_
  refine And.intro trivial (AVle.agg (AVsle.cons (AVle.sl (Nat.zero_add _) fun i hi => ?_) (AVsle.cons (AVle.refl _) AVsle.nil)))
  rw [appRows_ge (Nat.zero_le _), Nat.sub_zero]
structure StoRd (s : Sto) : Prop where
  len : s.os.length ≤ 1048576
  key : ∀ o ∈ s.os, o.key.length ≤ 1000000000
  nxt : -9223372036854775808 ≤ s.next ∧ s.next ≤ 9223372036854775807
theorem first2_of (a b : Bool) (x y : Int) {n : Nat} {rows : Nat → List AV} (hr : FirstRows 4 3 rows 0 [(a, x), (b, y)]) (hn : n = 4) {r : Int} (h : (if a = true then x else if b = true then y else 0) = r) : VFn Tryz.prog 64 [.sl 1 n rows] (.int .i64 r) := by
  have e : firstC [(a, x), (b, y)] = r := by
    rw [← h]
    unfold firstC firstC firstC
    cases a <;> cases b <;> rfl
  rw [← e]
  exact first_of _ hr hn (show 2 ≤ 1000 by decide)
theorem set_len_le (s : Sto) (k d : List UInt8) : (s.set k d).os.length ≤ s.os.length + 1 := by rw [Sto.set_len]; split <;> omega
end Go.Proofs.YtgiaaaejobhngaaGreatDoor
set_option linter.unusedVariables false
set_option linter.constructorNameAsVariable false
set_option linter.unusedSimpArgs false
set_option maxRecDepth 20000
namespace Go.Proofs.YtgiaaaejobhngaaGreatDoor
open Go Go.Vw

theorem putAbsent_fn (s : Sto) (hs : s.ok = true) (k d : List UInt8) (hd : d.length ≤ 1000000000) : VFn Tryz.prog 231 [s.av, .str (B k), .str (B d)] (.tup [(s.putA k d).1.av, .int .i64 (if s.has k = true ∨ s.room k d ≠ 0 then 0 else s.next), .int .i64 (s.putA k d).2]) := by
  have c := find_fn s hs k
  have cp := put_fn s hs k d hd
  unfold Sto.putA
  by_cases hk : s.has k = true
  · rw [hk] at c ⊢
    rw [if_pos rfl, if_pos (.inl rfl)]
    refine VFn.introC Tryz.call231 Tryz.func231 rfl rfl ?_
    conv => whnf
    refine CallC.sca _ (c) ?_ ?_
    · exact rfl
    exact And.intro trivial (AVle.refl _)
  · have hk : s.has k = false := by simpa using hk
    rw [hk] at c ⊢
    rw [if_neg (by simp)]
    unfold Sto.put
    by_cases hr : s.room k d = 0
    · rw [if_pos hr] at cp
      rw [if_pos hr, hr, if_neg (by simp)]
      refine VFn.introC Tryz.call231 Tryz.func231 rfl rfl ?_
      conv => whnf
      refine CallC.sca _ (c) ?_ ?_
      · exact rfl
      conv => whnf
      refine CallC.nl _ (cp) ?_ ?_
      · exact rfl
      exact And.intro trivial (AVle.refl _)
    · rw [if_neg hr] at cp
      rw [if_neg hr, if_pos (.inr hr)]
      refine VFn.introC Tryz.call231 Tryz.func231 rfl rfl ?_
      conv => whnf
      refine CallC.sca _ (c) ?_ ?_
      · exact rfl
      conv => whnf
      refine CallC.nl _ (cp) ?_ ?_
      · exact rfl
      exact And.intro trivial (AVle.refl _)
theorem l01Absent_fn (s : Sto) (hs : s.ok = true) (k d : List UInt8) : VFn Tryz.prog 151 [s.av, .str (B k), .str (B d)] (.tup [(s.putA k d).1.av, .int .i64 (s.putA k d).2]) := by
  have hL := (Sto.ok_at hs).2.1
  have hn : 1 ≤ s.next ∧ s.next ≤ 1000000000 := by simpa [within] using (Sto.ok_at hs).1
  have c := l01Find_fn s (by omega) k
  rw [Srt.fi (Sto.srt hs) k, show hasK k s.os = s.has k from rfl] at c
  unfold Sto.putA
  by_cases hk : s.has k = true
  · rw [if_pos hk] at c
    rw [if_pos hk]
    refine VFn.introC Tryz.call151 Tryz.func151 rfl rfl ?_
    conv => whnf
    refine CallC.sca _ (c) ?_ ?_
    · exact rfl
    exact And.intro trivial (AVle.refl _)
  · rw [if_neg hk] at c
    rw [if_neg hk]
    unfold Sto.put
    refine VFn.introC Tryz.call151 Tryz.func151 rfl rfl ?_
    conv => whnf
    refine CallC.sca _ (c) ?_ ?_
    · exact rfl
    conv => whnf
    refine CallC.sca _ (l01Room_fn s hs k d) ?_ ?_
    · exact rfl
    refine Grd.intro (fun h => ?_) (fun h => ?_)
    · have h : s.room k d ≠ 0 := by simpa using h
      rw [if_neg h]
      exact And.intro trivial (AVle.refl _)
    · have h : s.room k d = 0 := by simpa using h
      rw [if_pos h, h]
      conv => whnf
      refine CallC.nl _ (l01Set_fn s (by omega) ⟨by omega, by omega⟩ k d) ?_ ?_
      · exact rfl
      exact And.intro trivial (AVle.refl _)
end Go.Proofs.YtgiaaaejobhngaaGreatDoor
set_option linter.unusedVariables false
set_option linter.constructorNameAsVariable false
set_option linter.unusedSimpArgs false
set_option maxRecDepth 20000
namespace Go.Proofs.YtgiaaaejobhngaaGreatDoor
open Go Go.Vw

/-- the digits of a positive number, none of 0 -/
def posD : Nat → List UInt8
  | 0 => []
  | n + 1 => posD ((n + 1) / 10) ++ [d1 (n + 1)]
decreasing_by omega
def markT (k : Int) : List UInt8 := if k ≤ 0 then [109, 48] else 109 :: posD k.toNat
theorem posD_len : ∀ (k n : Nat), n < 10 ^ k → (posD n).length ≤ k
  | 0, n, h => by
    have : n = 0 := by simpa using h
    subst this; simp [posD]
  | k + 1, 0, h => by simp [posD]
  | k + 1, n + 1, h => by
    rw [posD]
    have := posD_len k ((n + 1) / 10) (by rw [Nat.pow_succ] at h; omega)
    simp; omega
theorem markText_fn (k : Int) (hk : k ≤ 9223372036854775807) : VFn Tryz.prog 171 [.int .i64 k] (.str (B (markT k))) := by
  obtain ⟨R, hR⟩ : ∃ R, R = markT k := ⟨_, rfl⟩
  rw [← hR]
  refine VFn.introC Tryz.call171 Tryz.func171 rfl rfl ?_
  refine Grd.intro (fun g => ?_) (fun g => ?_)
  · rw [hR, markT, if_pos (of_decide_eq_true g)]
    exact And.intro trivial (AVle.refl _)
  have g : ¬ k ≤ 0 := of_decide_eq_false g
  obtain ⟨n, rfl⟩ : ∃ n : Nat, k = n := ⟨k.toNat, by omega⟩
  have hR' : R = 109 :: posD n := by rw [hR, markT, if_neg g]; rfl
  have hlen : ∀ m : Nat, m ≤ n → (posD m).length ≤ 19 := fun m hm => posD_len 19 m (by simp; omega)
  refine LoopC.mk (fun x : Nat × List UInt8 => x.1 ≤ n ∧ posD x.1 ++ x.2 = posD n) (fun x => [(0, .int .i64 x.1), (3, .str (B x.2))]) (fun _ => []) 0 (fun x => x.1) (n, [])
    ⟨⟨Nat.le_refl _, by simp⟩, [], rfl, rfl, ⟨AVle.refl _, AVle.refl _, trivial⟩, trivial⟩ ?_
  rintro ⟨m, out⟩ hx
  obtain ⟨hm, he⟩ := hx
  simp only at hm he
  refine Grd.intro (fun g1 => ?_) (fun g1 => ?_)
  · have g1 : 0 < m := by have := of_decide_eq_true g1; omega
    have ht : (m : Int).tmod 10 = ((m % 10 : Nat) : Int) := by rw [Int.tmod_eq_emod_of_nonneg (by omega)]; simp
    have hd : (m : Int).tdiv 10 = ((m / 10 : Nat) : Int) := by rw [Int.tdiv_eq_ediv_of_nonneg (by omega)]; simp
    have hp : posD m = posD (m / 10) ++ [d1 m] := by
      obtain ⟨j, rfl⟩ : ∃ j, m = j + 1 := ⟨m - 1, by omega⟩
      rw [posD]
    have hol : out.length ≤ 19 := by
      have := congrArg List.length he
      have := hlen n (Nat.le_refl _)
      simp at *; omega
    refine And.intro (by decide) ?_
    refine And.intro (show inI .i64 (48 + (m : Int).tmod 10) from inI64 (by omega) (by omega)) ?_
    refine And.intro (show inI .u8 (48 + (m : Int).tmod 10) from ⟨show (0 : Int) ≤ _ by omega, show _ ≤ (255 : Int) by omega⟩) ?_
    refine And.intro (fun i hi => ?_) ?_
    · have : i = 0 := by omega
      subst this; rfl
    have h1 : strOfNums [48 + (m : Int).tmod 10] = B [d1 m] := one_digit (k := m % 10) (by rw [ht]) (by omega)
    refine And.intro (show (((strOfNums [48 + (m : Int).tmod 10]).size + (B out).size : Nat) : Int) ≤ 9223372036854775807 by rw [h1, B_size, B_size]; simp; omega) ?_
    refine And.intro ⟨by decide, show inI .i64 ((m : Int).tdiv 10) from inI64 (by omega) (by omega)⟩ ?_
    exact ⟨(m / 10, d1 m :: out), ⟨by simp only; omega, by simp only; rw [← he, hp]; simp⟩, by simp only; omega, [], rfl, rfl, ⟨AVle.of_eq (congrArg (AV.int .i64) (show (m : Int).tdiv 10 = _ by rw [hd])), AVle.of_eq (congrArg AV.str (show strOfNums [48 + (m : Int).tmod 10] ++ B out = _ by rw [h1, B_app]; rfl)), trivial⟩, trivial⟩
  · have : m = 0 := by have := of_decide_eq_false g1; omega
    subst this
    have he : out = posD n := by simpa [posD] using he
    have hol := hlen n (Nat.le_refl _)
    subst he
    refine And.intro (show (((B [109]).size + (B (posD n)).size : Nat) : Int) ≤ 9223372036854775807 by rw [B_size, B_size]; simp; omega) ?_
    exact And.intro trivial (AVle.of_eq (congrArg AV.str (show B [109] ++ B (posD n) = _ by rw [B_app, hR']; rfl)))
/-- texts marked from a number on -/
def mkT (k : Int) (n : Nat) : List (List UInt8) := (List.range n).map fun j : Nat => markT (k + (j : Int))
theorem mkT_len (k : Int) (n : Nat) : (mkT k n).length = n := by simp [mkT]
theorem mkT_ix (k : Int) {n i : Nat} (h : i < n) : ix (mkT k n) i = markT (k + i) := by
  rw [ix_lt (by rw [mkT_len]; exact h)]; simp [mkT]
end Go.Proofs.YtgiaaaejobhngaaGreatDoor
set_option linter.unusedVariables false
set_option linter.constructorNameAsVariable false
set_option linter.unusedSimpArgs false
set_option maxRecDepth 20000
namespace Go.Proofs.YtgiaaaejobhngaaGreatDoor
open Go Go.Vw

def Ob.size (e : Ob) : Nat := e.key.length + e.data.length
theorem szObject_fn (e : Ob) (n : Int) (h0 : 0 ≤ n) (h1 : n ≤ 1048576) (hk : e.key.length ≤ 9223372036854775807 ∧ e.data.length ≤ 9223372036854775807) : VFn Tryz.prog 158 [e.av, .int .i64 n] (.int .i64 (szr (Ob.size e) n)) := by
  have hk1 := hk.1
  have hk2 := hk.2
  refine VFn.introC Tryz.call158 Tryz.func158 rfl rfl ?_
  refine And.intro (show inI .i64 (n - ((B e.key).size : Int)) by rw [B_size]; exact inI64 (by omega) (by omega)) ?_
  refine Grd.intro (fun h2 => ?_) (fun h2 => ?_)
  · have h2 : n - ((B e.key).size : Int) < 0 := of_decide_eq_true h2
    rw [B_size] at h2
    rw [szr_no (k := Ob.size e) (show ¬ ((e.key.length + e.data.length : Nat) : Int) ≤ n by omega)]
    exact And.intro trivial (AVle.refl _)
  have h2 : ¬ n - ((B e.key).size : Int) < 0 := of_decide_eq_false h2
  rw [B_size] at h2
  refine And.intro (show inI .i64 (n - ((B e.key).size : Int) - ((B e.data).size : Int)) by rw [B_size, B_size]; exact inI64 (by omega) (by omega)) ?_
  refine Grd.intro (fun h3 => ?_) (fun h3 => ?_)
  · have h3 : n - ((B e.key).size : Int) - ((B e.data).size : Int) < 0 := of_decide_eq_true h3
    rw [B_size, B_size] at h3
    rw [szr_no (k := Ob.size e) (show ¬ ((e.key.length + e.data.length : Nat) : Int) ≤ n by omega)]
    exact And.intro trivial (AVle.refl _)
  · have h3 : ¬ n - ((B e.key).size : Int) - ((B e.data).size : Int) < 0 := of_decide_eq_false h3
    rw [B_size, B_size] at h3
    rw [szr_yes (k := Ob.size e) (show ((e.key.length + e.data.length : Nat) : Int) ≤ n by omega)]
    exact And.intro trivial (AVle.of_eq (congrArg (AV.int .i64) (show n - ((B e.key).size : Int) - ((B e.data).size : Int) = n - ((e.key.length + e.data.length : Nat) : Int) by rw [B_size, B_size]; omega)))
theorem toObject_fn (e : Ob) : VFn Tryz.prog 165 [e.av] e.av := by
  refine VFn.introC Tryz.call165 Tryz.func165 rfl rfl ?_
  exact And.intro trivial (AVle.refl _)
theorem eqObject_fn (e : Ob) : VFn Tryz.prog 167 [e.av, e.av] (.bool true) := by
  refine VFn.introC Tryz.call167 Tryz.func167 rfl rfl ?_
  refine Grd.intro (fun h => absurd h (by simp)) (fun _ => ?_)
  refine Grd.intro (fun h => absurd h (by simp)) (fun _ => ?_)
  refine Grd.intro (fun h => absurd h (by simp)) (fun _ => ?_)
  exact And.intro trivial (AVle.refl _)
theorem szObjectS_fn (L : List Ob) (n : Int) (h0 : 0 ≤ n) (h1 : n ≤ 1048576) (hL : L.length ≤ 9223372036854775807) (hk : ∀ e ∈ L, e.key.length ≤ 9223372036854775807 ∧ e.data.length ≤ 9223372036854775807) : VFn Tryz.prog 81 [obs L, .int .i64 n] (.int .i64 (szr (L.length + sumL Ob.size L) n)) := by
  refine VFn.introC Tryz.call81 Tryz.func81 rfl rfl ?_
  refine And.intro (inI64 (by omega) (by omega)) ?_
  refine Grd.intro (fun h2 => ?_) (fun h2 => ?_)
  · have h2 : n - (L.length : Int) < 0 := of_decide_eq_true h2
    rw [szr_no (by omega)]
    exact And.intro trivial (AVle.refl _)
  have h2 : ¬ n - (L.length : Int) < 0 := of_decide_eq_false h2
  refine LoopC.mk (fun i : Nat => i ≤ L.length ∧ ((L.length + sumL Ob.size (L.take i) : Nat) : Int) ≤ n) (fun i => [(0, obs L), (1, .int .i64 (n - ((L.length + sumL Ob.size (L.take i) : Nat) : Int))), (5, .int .i64 i)]) (fun _ => []) 0 (fun i => L.length - i) 0
    ⟨⟨Nat.zero_le _, by simp [sumL]; omega⟩, [], rfl, rfl, ⟨AVle.refl _, AVle.of_eq (congrArg (AV.int .i64) (by simp [sumL])), AVle.refl _, trivial⟩, trivial⟩ ?_
  intro i hi
  obtain ⟨hi, hs⟩ := hi
  refine Grd.intro (fun h3 => ?_) (fun h3 => ?_)
  · have hin : i < L.length := by have := of_decide_eq_true h3; omega
    have hsn := sum_snoc (f := Ob.size) hin
    have hle := sum_take_le (f := Ob.size) (L := L) (k := L.length - (i + 1)) (i := i + 1) (by omega)
    refine And.intro (by omega) ?_
    conv => whnf
    refine CallC.sca _ (szObject_fn (ix L i) (n - ((L.length + sumL Ob.size (L.take i) : Nat) : Int)) (by omega) (by omega) (hk _ (getD_mem hin))) ?_ ?_
    · exact rfl
    by_cases hfit : ((Ob.size (ix L i) : Nat) : Int) ≤ n - ((L.length + sumL Ob.size (L.take i) : Nat) : Int)
    · rw [szr_yes hfit]
      refine Grd.intro (fun h4 => absurd (of_decide_eq_true h4) (by omega)) (fun _ => ?_)
      refine And.intro (inI64 (by omega) (by omega)) ?_
      exact ⟨i + 1, ⟨hin, by omega⟩, by omega, [], rfl, rfl, ⟨AVle.refl _, AVle.of_eq (congrArg (AV.int .i64) (by omega)), AVle.of_eq (congrArg (AV.int .i64) (by simp)), trivial⟩, trivial⟩
    · rw [szr_no hfit, szr_no (by omega)]
      exact And.intro trivial (AVle.refl _)
  · have : i = L.length := by have := of_decide_eq_false h3; omega
    subst this
    have e : L.take L.length = L := List.take_of_length_le (Nat.le_refl _)
    have hs' := hs
    rw [e] at hs'
    rw [szr_yes hs']
    exact And.intro trivial (AVle.of_eq (congrArg (AV.int .i64) (show n - ((L.length + sumL Ob.size (L.take L.length) : Nat) : Int) = _ by rw [e])))
theorem toObjectS_fn (L : List Ob) (hL : L.length ≤ 1048576) : VFn Tryz.prog 88 [obs L] (obs L) := by
  refine VFn.introC Tryz.call88 Tryz.func88 rfl rfl ?_
  refine And.intro ⟨by omega, rfl, (show (40 : Int) * L.length ≤ 140737488355328 by omega), by omega⟩ ?_
  refine LoopC.mk (fun i : Nat => i ≤ L.length) (fun i => [(0, obs L), (3, .osl 0), (4, .int .i64 i)])
    (fun i => [(0, .arr 98 3 L.length (wr (fun i => (ix L i).row) (fun _ => (default : Ob).row) i))]) 1 (fun i => L.length - i) 0
    ⟨Nat.zero_le _, [(0, 0)], rfl, rfl, ⟨AVle.refl _, AVle.refl _, AVle.refl _, trivial⟩, ⟨MOle.arr rfl fun i hi => by rw [wr_ge (Nat.zero_le i)]; rfl, trivial⟩⟩ ?_
  intro i hi
  refine Grd.intro (fun h2 => ?_) (fun h2 => ?_)
  · have hin : i < L.length := by have := of_decide_eq_true h2; omega
    refine And.intro (by omega) ?_
    conv => whnf
    refine CallC.sca _ (toObject_fn (ix L i)) ?_ ?_
    · exact rfl
    refine And.intro (by omega) ?_
    refine And.intro (inI64 (by omega) (by omega)) ?_
    exact ⟨i + 1, hin, by omega, [(0, 0)], rfl, rfl, ⟨AVle.refl _, AVle.refl _, AVle.of_eq (congrArg (AV.int .i64) (by simp)), trivial⟩, ⟨MOle.arr rfl fun k hk => wr_next fun e => by subst e; rw [wr_ge (Nat.le_refl _)]; rfl, trivial⟩⟩
  · have : i = L.length := by have := of_decide_eq_false h2; omega
    subst this
    exact And.intro trivial (AVle.sl rfl fun k hk => wr_lt hk)
theorem eqObjectS_fn (L : List Ob) (hL : L.length ≤ 1048576) : VFn Tryz.prog 91 [obs L, obs L] (.bool true) := by
  refine VFn.introC Tryz.call91 Tryz.func91 rfl rfl ?_
  refine Grd.intro (fun h => absurd h (by simp)) (fun _ => ?_)
  refine LoopC.mk (fun i : Nat => i ≤ L.length) (fun i => [(0, obs L), (1, obs L), (5, .int .i64 i)]) (fun _ => []) 0 (fun i => L.length - i) 0
    ⟨Nat.zero_le _, [], rfl, rfl, ⟨AVle.refl _, AVle.refl _, AVle.refl _, trivial⟩, trivial⟩ ?_
  intro i hi
  refine Grd.intro (fun h2 => ?_) (fun h2 => ?_)
  · have hin : i < L.length := by have := of_decide_eq_true h2; omega
    refine DrawC.mk 10 rfl (by kernel_rfl) ?_
    refine And.intro (by omega) ?_
    refine And.intro (by omega) ?_
    refine PCallC.sca _ (eqObject_fn (ix L i)) rfl ?_
    refine And.intro (inI64 (by omega) (by omega)) ?_
    exact ⟨i + 1, hin, by omega, [], rfl, rfl, ⟨AVle.refl _, AVle.refl _, AVle.of_eq (congrArg (AV.int .i64) (by simp)), trivial⟩, trivial⟩
  · exact And.intro trivial (AVle.refl _)
theorem toObjectS_own (L : List Ob) (hL : L.length ≤ 1048576) : FnM Tryz.prog 88 0 [obs L] [] (.osl 0) [(0, .arr 98 3 L.length fun i => (ix L i).row)] 1 := by
  refine FnM.introC Tryz.call88 Tryz.func88 rfl rfl ?_
  refine And.intro ⟨by omega, rfl, (show (40 : Int) * L.length ≤ 140737488355328 by omega), by omega⟩ ?_
  refine LoopC.mk (fun i : Nat => i ≤ L.length) (fun i => [(0, obs L), (3, .osl 0), (4, .int .i64 i)])
    (fun i => [(0, .arr 98 3 L.length (wr (fun i => (ix L i).row) (fun _ => (default : Ob).row) i))]) 1 (fun i => L.length - i) 0
    ⟨Nat.zero_le _, [(0, 0)], rfl, rfl, ⟨AVle.refl _, AVle.refl _, AVle.refl _, trivial⟩, ⟨MOle.arr rfl fun i hi => by rw [wr_ge (Nat.zero_le i)]; rfl, trivial⟩⟩ ?_
  intro i hi
  refine Grd.intro (fun h2 => ?_) (fun h2 => ?_)
  · have hin : i < L.length := by have := of_decide_eq_true h2; omega
    refine And.intro (by omega) ?_
    conv => whnf
    refine CallC.sca _ (toObject_fn (ix L i)) ?_ ?_
    · exact rfl
    refine And.intro (by omega) ?_
    refine And.intro (inI64 (by omega) (by omega)) ?_
    exact ⟨i + 1, hin, by omega, [(0, 0)], rfl, rfl, ⟨AVle.refl _, AVle.refl _, AVle.of_eq (congrArg (AV.int .i64) (by simp)), trivial⟩, ⟨MOle.arr rfl fun k hk => wr_next fun e => by subst e; rw [wr_ge (Nat.le_refl _)]; rfl, trivial⟩⟩
  · have : i = L.length := by have := of_decide_eq_false h2; omega
    subst this
    exact And.intro trivial ⟨[(0, 0)], rfl, AVle.refl _, ⟨MOle.arr rfl fun k hk => wr_lt hk, trivial⟩⟩

def mkO (k : Int) (i : Nat) : List AV := [.str (B (markT (k + 3 * i))), .int .i64 (k + 3 * i + 1), .str (B (markT (k + 3 * i + 1 + 1)))]
theorem markObjectS_fn (n : Nat) (rows : Nat → List AV) (hr : ∀ i, i < n → ∃ a b c, rows i = [a, b, c]) (hn : n ≤ 1048576) (k : Int) (hk : 0 ≤ k ∧ k ≤ 1000000000) :
    FnM Tryz.prog 97 1 [.osl 0, .int .i64 k] [(0, .arr 98 3 n rows)] (.int .i64 (k + 3 * n)) [(0, .arr 98 3 n (mkO k))] 1 := by
  refine FnM.introC Tryz.call97 Tryz.func97 rfl rfl ?_
  refine LoopC.mk (fun i : Nat => i ≤ n) (fun i => [(0, .osl 0), (1, .int .i64 (k + 3 * i)), (5, .int .i64 i)]) (fun i => [(0, .arr 98 3 n (wr (mkO k) rows i))]) 1 (fun i => n - i) 0
    ⟨Nat.zero_le _, [(0, 0)], rfl, rfl, ⟨AVle.refl _, AVle.of_eq (congrArg (AV.int .i64) (by simp)), AVle.refl _, trivial⟩, ⟨MOle.arr rfl fun i hi => by rw [wr_ge (Nat.zero_le i)], trivial⟩⟩ ?_
  intro i hi
  refine Grd.intro (fun h2 => ?_) (fun h2 => ?_)
  · have hin : i < n := by have := of_decide_eq_true h2; omega
    conv => whnf
    refine CallC.sca _ (markText_fn (k + 3 * i) (by omega)) ?_ ?_
    · exact rfl
    refine And.intro (by omega) ?_
    refine And.intro (show inI .i64 (k + 3 * i + 1) from inI64 (by omega) (by omega)) ?_
    refine And.intro (by omega) ?_
    refine And.intro (show inI .i64 (k + 3 * i + 1 + 1) from inI64 (by omega) (by omega)) ?_
    conv => whnf
    refine CallC.sca _ (markText_fn (k + 3 * i + 1 + 1) (by omega)) ?_ ?_
    · exact rfl
    refine And.intro (by omega) ?_
    refine And.intro (show inI .i64 (k + 3 * i + 1 + 1 + 1) from inI64 (by omega) (by omega)) ?_
    refine And.intro (inI64 (by omega) (by omega)) ?_
    refine ⟨i + 1, hin, by omega, [(0, 0)], rfl, rfl, ⟨AVle.refl _, AVle.of_eq (congrArg (AV.int .i64) (show k + 3 * i + 1 + 1 + 1 = _ by simp; omega)), AVle.of_eq (congrArg (AV.int .i64) (by simp)), trivial⟩, ⟨MOle.arr rfl fun j hj => ?_, trivial⟩⟩
    by_cases hji : j = i
    · subst hji
      obtain ⟨a, b, c, e⟩ := hr j hin
      have hb : Nat.beq j ((j : Nat) : Int).toNat = true := beq_t j
      have e1 : wr (mkO k) rows j j = [a, b, c] := by rw [wr_ge (Nat.le_refl _)]; exact e
      simp only [hb, cond_true, e1]
      rw [wr_lt (Nat.lt_succ_self _)]
      unfold mkO
      generalize B (markT (k + 3 * ((j : Nat) : Int))) = m1
      generalize B (markT (k + 3 * ((j : Nat) : Int) + 1 + 1)) = m2
      rfl
    · have hb : Nat.beq j ((i : Nat) : Int).toNat = false := beq_f hji
      simp only [hb, cond_false]
      rcases Nat.lt_or_ge j i with h | h
      · rw [wr_lt h, wr_lt (by omega)]
      · rw [wr_ge h, wr_ge (by omega)]
  · have : i = n := by have := of_decide_eq_false h2; omega
    subst this
    exact And.intro trivial ⟨[(0, 0)], rfl, AVle.refl _, ⟨MOle.arr rfl fun j hj => wr_lt hj, trivial⟩⟩
theorem heldObjectS_fn (n : Nat) (hn : n ≤ 1048576) (k : Int) (hk : 0 ≤ k ∧ k ≤ 1000000000) : VFn Tryz.prog 106 [.sl 3 n (mkO k), .int .i64 k] (.int .i64 (k + 3 * n)) := by
  refine VFn.introC Tryz.call106 Tryz.func106 rfl rfl ?_
  refine LoopC.mk (fun i : Nat => i ≤ n) (fun i => [(0, .sl 3 n (mkO k)), (1, .int .i64 (k + 3 * i)), (5, .int .i64 i)]) (fun _ => []) 0 (fun i => n - i) 0
    ⟨Nat.zero_le _, [], rfl, rfl, ⟨AVle.refl _, AVle.of_eq (congrArg (AV.int .i64) (by simp)), AVle.refl _, trivial⟩, trivial⟩ ?_
  intro i hi
  refine Grd.intro (fun h2 => ?_) (fun h2 => ?_)
  · have hin : i < n := by have := of_decide_eq_true h2; omega
    refine DrawC.mk 8 rfl (by kernel_rfl) ?_
    refine And.intro (by omega) ?_
    refine PCallC.sca _ (markText_fn (k + 3 * i) (by omega)) rfl ?_
    refine Grd.intro (fun h => absurd h (by simp)) (fun _ => ?_)
    refine And.intro (show inI .i64 (k + 3 * i + 1) from inI64 (by omega) (by omega)) ?_
    refine And.intro (by omega) ?_
    refine Grd.intro (fun h => absurd h (by simp)) (fun _ => ?_)
    refine And.intro (show inI .i64 (k + 3 * i + 1 + 1) from inI64 (by omega) (by omega)) ?_
    refine DrawC.mk 8 rfl (by kernel_rfl) ?_
    refine And.intro (by omega) ?_
    refine PCallC.sca _ (markText_fn (k + 3 * i + 1 + 1) (by omega)) rfl ?_
    refine Grd.intro (fun h => absurd h (by simp)) (fun _ => ?_)
    refine And.intro (show inI .i64 (k + 3 * i + 1 + 1 + 1) from inI64 (by omega) (by omega)) ?_
    refine And.intro (inI64 (by omega) (by omega)) ?_
    exact ⟨i + 1, hin, by omega, [], rfl, rfl, ⟨AVle.refl _, AVle.of_eq (congrArg (AV.int .i64) (show k + 3 * i + 1 + 1 + 1 = _ by simp; omega)), AVle.of_eq (congrArg (AV.int .i64) (by simp)), trivial⟩, trivial⟩
  · have : i = n := by have := of_decide_eq_false h2; omega
    subst this
    exact And.intro trivial (AVle.refl _)
def stoN (s : Sto) : Nat := s.os.length + sumL Ob.size s.os
structure StoIn (s : Sto) : Prop where
  len : s.os.length ≤ 9223372036854775807
  sz : ∀ e ∈ s.os, e.key.length ≤ 9223372036854775807 ∧ e.data.length ≤ 9223372036854775807
  nxt : -9223372036854775808 ≤ s.next ∧ s.next ≤ 9223372036854775807
theorem szStore_fn (s : Sto) (h : StoIn s) : VFn Tryz.prog 25 [s.av, .int .i64 1048576] (.int .i64 (szr (stoN s) 1048576)) := by
  unfold stoN
  refine VFn.introC Tryz.call25 Tryz.func25 rfl rfl ?_
  conv => whnf
  refine CallC.sca _ (szObjectS_fn s.os 1048576 (by decide) (by decide) h.len h.sz) ?_ ?_
  · exact rfl
  by_cases f1 : ((s.os.length + sumL Ob.size s.os : Nat) : Int) ≤ 1048576
  · rw [szr_yes f1]
    refine Grd.intro (fun h2 => absurd (of_decide_eq_true h2) (by omega)) (fun _ => ?_)
    exact And.intro trivial (AVle.refl _)
  · rw [szr_no f1]
    exact And.intro trivial (AVle.refl _)
theorem Sto_small {s : Sto} (h : (stoN s : Int) ≤ 1048576) : s.os.length ≤ 1048576 ∧ (∀ e ∈ s.os, e.key.length ≤ 1048576) ∧ ∀ e ∈ s.os, e.data.length ≤ 1048576 := by
  unfold stoN at h
  refine ⟨by omega, fun e he => ?_, fun e he => ?_⟩
  all_goals
    have := sum_mem (f := Ob.size) he
    have e' : Ob.size e = e.key.length + e.data.length := rfl
    omega
theorem toStore_fn (s : Sto) (h1 : s.os.length ≤ 1048576) : VFn Tryz.prog 27 [s.av] s.av := by
  refine VFn.introC Tryz.call27 Tryz.func27 rfl rfl ?_
  conv => whnf
  refine CallC.nl _ (toObjectS_fn s.os h1) ?_ ?_
  · exact rfl
  exact And.intro trivial (AVle.refl _)
theorem toStore_own (s : Sto) (h1 : s.os.length ≤ 1048576) : FnM Tryz.prog 27 0 [s.av] [] s.own [(0, .arr 98 3 s.os.length fun i => (ix s.os i).row)] 1 := by
  refine FnM.introC Tryz.call27 Tryz.func27 rfl rfl ?_
  conv => whnf
  refine CallC.k [] (toObjectS_own s.os h1) rfl rfl (AVsle.refl _) trivial rfl ?_
  exact And.intro trivial ⟨[(3, 0)], rfl, AVle.refl _, ⟨MOle.refl _, trivial⟩⟩
theorem eqStore_fn (s : Sto) (h1 : s.os.length ≤ 1048576) : VFn Tryz.prog 29 [s.av, s.av] (.bool true) := by
  refine VFn.introC Tryz.call29 Tryz.func29 rfl rfl ?_
  conv => whnf
  refine CallC.sca _ (eqObjectS_fn s.os h1) ?_ ?_
  · exact rfl
  refine Grd.intro (fun h => absurd h (by simp)) (fun _ => ?_)
  exact And.intro trivial (AVle.refl _)
theorem markStore_fn (n : Nat) (rows : Nat → List AV) (nx : Int) (hr : ∀ i, i < n → ∃ a b c, rows i = [a, b, c]) (hn : n ≤ 1048576) (k : Int) (hk : 0 ≤ k ∧ k ≤ 1000000000) :
    FnM Tryz.prog 33 1 [.agg [.osl 0, .int .i64 nx], .int .i64 k] [(0, .arr 98 3 n rows)] (.int .i64 (k + 3 * n)) [(0, .arr 98 3 n (mkO k))] 1 := by
  refine FnM.introC Tryz.call33 Tryz.func33 rfl rfl ?_
  conv => whnf
  refine CallC.k [(0, 0)] (markObjectS_fn n rows hr hn k hk) rfl rfl (AVsle.refl _) ⟨MOle.refl _, trivial⟩ rfl ?_
  exact And.intro trivial ⟨[(0, 0)], rfl, AVle.refl _, ⟨MOle.refl _, trivial⟩⟩
theorem heldStore_fn (n : Nat) (nx : Int) (hn : n ≤ 1048576) (k : Int) (hk : 0 ≤ k ∧ k ≤ 1000000000) : VFn Tryz.prog 38 [.agg [.sl 3 n (mkO k), .int .i64 nx], .int .i64 k] (.int .i64 (k + 3 * n)) := by
  refine VFn.introC Tryz.call38 Tryz.func38 rfl rfl ?_
  conv => whnf
  refine CallC.sca _ (heldObjectS_fn n hn k hk) ?_ ?_
  · exact rfl
  refine Grd.intro (fun h2 => absurd (of_decide_eq_true h2) (by omega)) (fun _ => ?_)
  exact And.intro trivial (AVle.refl _)
/-- no store -/
def sto0 : AV := .agg [.nilsl, .int .i64 0]
theorem eqStore0_fn : VFn Tryz.prog 29 [sto0, sto0] (.bool true) := by
  have c : VFn Tryz.prog 91 [.nilsl, .nilsl] (.bool true) := by
    refine VFn.introC Tryz.call91 Tryz.func91 rfl rfl ?_
    refine LoopC.rounds 1 ?_
    exact And.intro trivial (AVle.refl _)
  refine VFn.introC Tryz.call29 Tryz.func29 rfl rfl ?_
  conv => whnf
  refine CallC.sca _ (c) ?_ ?_
  · exact rfl
  exact And.intro trivial (AVle.refl _)
theorem markStore0_fn (k : Int) : VFn Tryz.prog 33 [sto0, .int .i64 k] (.int .i64 k) := by
  have c : VFn Tryz.prog 97 [.nilsl, .int .i64 k] (.int .i64 k) := by
    refine VFn.introC Tryz.call97 Tryz.func97 rfl rfl ?_
    refine LoopC.rounds 1 ?_
    exact And.intro trivial (AVle.refl _)
  refine VFn.introC Tryz.call33 Tryz.func33 rfl rfl ?_
  conv => whnf
  refine CallC.sca _ (c) ?_ ?_
  · exact rfl
  exact And.intro trivial (AVle.refl _)
theorem heldStore0_fn : VFn Tryz.prog 38 [sto0, .int .i64 1] (.int .i64 1) := by
  have c : VFn Tryz.prog 106 [.nilsl, .int .i64 1] (.int .i64 1) := by
    refine VFn.introC Tryz.call106 Tryz.func106 rfl rfl ?_
    refine LoopC.rounds 1 ?_
    exact And.intro trivial (AVle.refl _)
  refine VFn.introC Tryz.call38 Tryz.func38 rfl rfl ?_
  conv => whnf
  refine CallC.sca _ (c) ?_ ?_
  · exact rfl
  exact And.intro trivial (AVle.refl _)
end Go.Proofs.YtgiaaaejobhngaaGreatDoor
