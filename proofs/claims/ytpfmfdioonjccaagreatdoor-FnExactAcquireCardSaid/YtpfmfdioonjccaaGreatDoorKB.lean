/- Stores: keys, right stores, what is found, by the reference: contracts; the conditions are the theorems' own. -/
import Derived.Test.YtpfmfdioonjccaaGreatDoorKA
import Derived.Test.YtpfmfdioonjccaaGreatDoorGJ
import Derived.Test.YtpfmfdioonjccaaGreatDoorV41
set_option linter.unusedVariables false
set_option linter.constructorNameAsVariable false
set_option linter.unusedSimpArgs false
set_option maxRecDepth 20000
namespace Go.Proofs.YtpfmfdioonjccaaGreatDoor
open Go Go.Vw

theorem l01Find_fn (s : Sto) (hL : s.os.length ≤ 1000000000) (k : List UInt8) : VFn Tryz.prog 245 [s.av, .str (B k)] (.int .i64 (fi (fun o : Ob => decide (o.key = k)) s.os)) := by
  refine VFn.introC Tryz.call245 Tryz.func245 rfl rfl ?_
  refine LoopC.mk (fun i : Nat => i ≤ s.os.length ∧ ∀ j, j < i → decide ((ix s.os j).key = k) = false) (fun i => [(1, .str (B k)), (2, .bptr 0 0), (5, .int .i64 i)]) (fun i => [(0, .box s.row)]) 1 (fun i => s.os.length - i) 0
    ⟨⟨Nat.zero_le _, fun j hj => absurd hj (Nat.not_lt_zero j)⟩, [(0, 0)], rfl, rfl, ⟨AVle.refl _, AVle.refl _, AVle.refl _, trivial⟩, ⟨MOle.refl _, trivial⟩⟩ ?_
  intro i hi
  refine Grd.intro (fun h2 => ?_) (fun h2 => ?_)
  · have hin : i < s.os.length := by have := of_decide_eq_true h2; omega
    refine And.intro (by omega) ?_
    refine Grd.intro (fun h3 => ?_) (fun h3 => ?_)
    · have h3 : ((B (ix s.os i).key).toList == (B k).toList) = true := h3
      rw [B_eq] at h3
      exact And.intro trivial (AVle.of_eq (congrArg (AV.int .i64) (show (i : Int) = _ from (fi_at hin hi.2 h3).symm)))
    · have h3 : ((B (ix s.os i).key).toList == (B k).toList) = false := h3
      rw [B_eq] at h3
      refine And.intro (inI64 (by omega) (by omega)) ?_
      exact ⟨i + 1, ⟨hin, fun j hj => by
        rcases Nat.lt_or_ge j i with h' | h'
        · exact hi.2 j h'
        · rw [show j = i by omega]; exact h3⟩, by omega, [(0, 0)], rfl, rfl, ⟨AVle.refl _, AVle.refl _, AVle.of_eq (congrArg (AV.int .i64) (by simp)), trivial⟩, ⟨MOle.refl _, trivial⟩⟩
  · have : i = s.os.length := by have := of_decide_eq_false h2; omega
    subst this
    exact And.intro trivial (AVle.of_eq (congrArg (AV.int .i64) (fi_none hi.2).symm))
theorem l01Get_fn (s : Sto) (hs : s.ok = true) (k : List UInt8) : VFn Tryz.prog 174 [s.av, .str (B k)] (if s.has k = true then .tup [.str (B (s.get k).data), .int .i64 (s.get k).ver] else .tup [.str (B []), .int .i64 0]) := by
  have hL := (Sto.ok_at hs).2.1
  have hf := l01Find_fn s (by omega) k
  rw [(Sto.srt hs).fi] at hf
  by_cases h : hasK k s.os = true
  · rw [if_pos h] at hf
    rw [if_pos (show s.has k = true from h)]
    have hp := (hasK_at h).1
    refine VFn.introC Tryz.call174 Tryz.func174 rfl rfl ?_
    conv => whnf
    refine CallC.sca _ (hf) ?_ ?_
    · exact rfl
    refine DrawC.mk 14 rfl (by kernel_rfl) ?_
    refine And.intro (by omega) ?_
    refine And.intro (by omega) ?_
    exact And.intro trivial (AVle.refl _)
  · rw [if_neg h] at hf
    rw [if_neg (show ¬ s.has k = true from h)]
    refine VFn.introC Tryz.call174 Tryz.func174 rfl rfl ?_
    conv => whnf
    refine CallC.sca _ (hf) ?_ ?_
    · exact rfl
    exact And.intro trivial (AVle.refl _)
theorem l01Set_fn (s : Sto) (hL : s.os.length ≤ 1000000) (hn : s.next ≤ 1000000000 ∧ 0 ≤ s.next) (k d : List UInt8) : VFn Tryz.prog 247 [s.av, .str (B k), .str (B d)] (s.set k d).av := by
  refine VFn.introC Tryz.call247 Tryz.func247 rfl rfl ?_
  refine LoopC.mk (fun i : Nat => i ≤ lb k s.os) (fun i => [(1, .str (B k)), (2, .str (B d)), (3, .bptr 0 0), (6, .bptr 1 0), (7, .int .i64 i)]) (fun i => [(0, .box s.row), (1, .box [.nilsl, .int .i64 0])]) 2 (fun i => s.os.length - i) 0
    ⟨Nat.zero_le _, [(0, 0), (1, 1)], rfl, rfl, ⟨AVle.refl _, AVle.refl _, AVle.refl _, AVle.refl _, AVle.refl _, trivial⟩, ⟨MOle.refl _, MOle.refl _, trivial⟩⟩ ?_
  intro i hi
  have hlb := lb_le k s.os
  refine Grd.intro (fun h2 => ?_) (fun h2 => ?_)
  · have hin : i < s.os.length := by have := of_decide_eq_true h2; omega
    refine And.intro (by omega) ?_
    conv => whnf
    refine Grd.intro (fun h3 => ?_) (fun h3 => ?_)
    · have h3 : (ix s.os i).key < k := by
        have h : Op.bytesLess (B (ix s.os i).key).toList (B k).toList = true := h3
        rw [blt_lt] at h; exact of_decide_eq_true h
      have hlt : i < lb k s.os := by
        rcases Nat.lt_or_ge i (lb k s.os) with h | h
        · exact h
        · have e : i = lb k s.os := by omega
          subst e
          exact absurd h3 (lb_ge hin)
      refine And.intro (inI64 (by omega) (by omega)) ?_
      exact ⟨i + 1, hlt, by omega, [(0, 0), (1, 1)], rfl, rfl, ⟨AVle.refl _, AVle.refl _, AVle.refl _, AVle.refl _, AVle.of_eq (congrArg (AV.int .i64) (by simp)), trivial⟩, ⟨MOle.refl _, MOle.refl _, trivial⟩⟩
    · have h3 : ¬ (ix s.os i).key < k := by
        have h : Op.bytesLess (B (ix s.os i).key).toList (B k).toList = false := h3
        rw [blt_lt] at h; exact of_decide_eq_false h
      have hi' : i = lb k s.os := by
        rcases Nat.lt_or_ge i (lb k s.os) with h | h
        · exact absurd (lb_lt h) h3
        · omega
      subst hi'
      refine And.intro (by omega) ?_
      refine Grd.intro (fun _ => ?_) (fun h => absurd (of_decide_eq_false h) (by omega))
      refine And.intro (by omega) ?_
      conv => whnf
      have hcmp : ((B (ix s.os (lb k s.os)).key).toList == (B k).toList) = s.has k := by
        rw [B_eq]
        unfold Sto.has hasK
        rw [decide_eq_true hin]; rfl
      refine Grd.intro (fun h4 => ?_) (fun h4 => ?_)
      · have h4 : s.has k = true := hcmp.symm.trans h4
        refine And.intro (inI64 (by omega) (by omega)) ?_
        refine And.intro (by omega) ?_
        refine DrawC.mkK 16 [(.inr 0, 5), (.inr 5, 12), (.inr 12, 14)] rfl (by kernel_rfl) ?_; refine And.intro rfl ?_
        conv => whnf
        refine And.intro ⟨by omega, by omega⟩ ?_
        conv => whnf
        refine And.intro ⟨show (0 + (lb k s.os : Int).toNat) * 40 ≤ 140737488355328 by omega, fun i hi => rfl⟩ ?_
        conv => whnf
        refine And.intro ⟨show (0 + (lb k s.os : Int).toNat + 1) * 40 ≤ 140737488355328 by omega, all1 rfl⟩ ?_
        conv => whnf
        refine And.intro ⟨show (0 + (lb k s.os : Int).toNat + 1 + (s.os.length - ((lb k s.os : Int) + 1).toNat)) * 40 ≤ 140737488355328 by omega, fun i hi => rfl⟩ ?_
        refine And.intro (inI64 (by omega) (by omega)) ?_
        refine And.intro trivial (AVle.agg (AVsle.cons (AVle.sl (by rw [Sto.set_len, if_pos h4]; omega) fun i hi => s.set_rows k d (by rw [if_pos h4]; show ((lb k s.os : Int) + 1).toNat = lb k s.os + 1; omega) (by omega) (by omega) rfl i (by rw [Sto.set_len, if_pos h4]; omega)) (AVsle.cons (AVle.refl _) AVsle.nil)))
      · have h4 : s.has k = false := hcmp.symm.trans h4
        have h4' : ¬ s.has k = true := by rw [h4]; simp
        refine DrawC.mkK 16 [(.inr 0, 5), (.inr 5, 12), (.inr 12, 14)] rfl (by kernel_rfl) ?_; refine And.intro rfl ?_
        conv => whnf
        refine And.intro ⟨by omega, by omega⟩ ?_
        conv => whnf
        refine And.intro ⟨show (0 + (lb k s.os : Int).toNat) * 40 ≤ 140737488355328 by omega, fun i hi => rfl⟩ ?_
        conv => whnf
        refine And.intro ⟨show (0 + (lb k s.os : Int).toNat + 1) * 40 ≤ 140737488355328 by omega, all1 rfl⟩ ?_
        conv => whnf
        refine And.intro ⟨show (0 + (lb k s.os : Int).toNat + 1 + (s.os.length - (lb k s.os : Int).toNat)) * 40 ≤ 140737488355328 by omega, fun i hi => rfl⟩ ?_
        refine And.intro (inI64 (by omega) (by omega)) ?_
        refine And.intro trivial (AVle.agg (AVsle.cons (AVle.sl (by rw [Sto.set_len, if_neg h4']; omega) fun i hi => s.set_rows k d (by rw [if_neg h4']; show (lb k s.os : Int).toNat = lb k s.os; omega) (by omega) (by omega) rfl i (by rw [Sto.set_len, if_neg h4']; omega)) (AVsle.cons (AVle.refl _) AVsle.nil)))
  · have hi' : i = s.os.length := by have := of_decide_eq_false h2; omega
    have hi2 : i = lb k s.os := by omega
    have h4' : ¬ s.has k = true := fun h => by have := (hasK_at h).1; omega
    subst hi2
    refine And.intro (by omega) ?_
    refine Grd.intro (fun h => absurd (of_decide_eq_true h) (by omega)) (fun _ => ?_)
    refine DrawC.mkK 16 [(.inr 0, 5), (.inr 5, 12), (.inr 12, 14)] rfl (by kernel_rfl) ?_; refine And.intro rfl ?_
    conv => whnf
    refine And.intro ⟨by omega, by omega⟩ ?_
    conv => whnf
    refine And.intro ⟨show (0 + (lb k s.os : Int).toNat) * 40 ≤ 140737488355328 by omega, fun i hi => rfl⟩ ?_
    conv => whnf
    refine And.intro ⟨show (0 + (lb k s.os : Int).toNat + 1) * 40 ≤ 140737488355328 by omega, all1 rfl⟩ ?_
    conv => whnf
    refine And.intro ⟨show (0 + (lb k s.os : Int).toNat + 1 + (s.os.length - (lb k s.os : Int).toNat)) * 40 ≤ 140737488355328 by omega, fun i hi => rfl⟩ ?_
    refine And.intro (inI64 (by omega) (by omega)) ?_
    refine And.intro trivial (AVle.agg (AVsle.cons (AVle.sl (by rw [Sto.set_len, if_neg h4']; omega) fun i hi => s.set_rows k d (by rw [if_neg h4']; show (lb k s.os : Int).toNat = lb k s.os; omega) (by omega) (by omega) rfl i (by rw [Sto.set_len, if_neg h4']; omega)) (AVsle.cons (AVle.refl _) AVsle.nil)))
end Go.Proofs.YtpfmfdioonjccaaGreatDoor
