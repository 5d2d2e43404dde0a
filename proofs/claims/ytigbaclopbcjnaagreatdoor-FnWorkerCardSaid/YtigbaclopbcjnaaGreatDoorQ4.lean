/- Contracts of functions that the claim reaches, and the plain law of what they compute; each theorem bears its own conditions. -/
import Derived.Test.YtigbaclopbcjnaaGreatDoorQ3
import Derived.Test.YtigbaclopbcjnaaGreatDoorV52
import Derived.Test.YtigbaclopbcjnaaGreatDoorQ2
import Derived.Test.YtigbaclopbcjnaaGreatDoorQ1
set_option linter.unusedVariables false
set_option linter.constructorNameAsVariable false
set_option linter.unusedSimpArgs false
set_option maxRecDepth 20000
namespace Go.Proofs.YtigbaclopbcjnaaGreatDoor
open Go Go.Vw
theorem specKeyOK_fn (k : List UInt8) (hk : k.length ≤ 1000000000) : VFn Tryz.prog 40 [.str (B k)] (.bool (keyOK k)) := by
 obtain ⟨R, hR⟩ : ∃ R, R = keyOK k := ⟨_, rfl⟩
 rw [← hR]
 refine VFn.introC Tryz.call40 Tryz.func40 rfl rfl ?_
 refine Grd.intro (fun h0 => ?_) (fun h0 => ?_)
 · have h0 : 65536 < k.length := by
    have := of_decide_eq_true (show decide ((65536 : Int) < (((B k).size : Nat) : Int)) = true from h0)
    rw [B_size] at this; omega
   have hw : within k.length 1 30 = false := by unfold within; simp; omega
   rw [hR, show keyOK k = false by unfold keyOK; rw [hw]; simp]
   exact And.intro trivial (AVle.refl _)
 refine LoopC.mk (fun i : Nat => i ≤ k.length ∧ ∀ j, j < i → keyC (k.getD j 0) = true) (fun i => [(0, .str (B k)), (3, .int .i64 i)]) (fun _ => []) 0 (fun i => k.length - i) 0
  ⟨⟨Nat.zero_le _, fun j hj => absurd hj (Nat.not_lt_zero j)⟩, [], rfl, rfl, ⟨AVle.refl _, AVle.refl _, trivial⟩, trivial⟩ ?_
 intro i hi
 have hsz : (((B k).size : Nat) : Int) = k.length := by rw [B_size]
 refine Grd.intro (fun h2 => ?_) (fun h2 => ?_)
 · have hin : i < k.length := by have := of_decide_eq_true h2; omega
   refine And.intro ⟨by omega, by omega⟩ ?_
   have hbad : keyC (k.getD i 0) = false → false = R := fun h => by rw [hR, keyOK_bad hin h]
   have hgood : keyC (k.getD i 0) = true → ∀ j, j < i + 1 → keyC (k.getD j 0) = true := fun h j hj => by
    rcases Nat.lt_or_ge j i with h' | h'
    · exact hi.2 j h'
    · rw [show j = i by omega]; exact h
   have hx : k.getD i 0 = (B k).data.toList.getD (i : Int).toNat 0 := rfl
   generalize (B k).data.toList.getD (i : Int).toNat 0 = c at hx ⊢
   rw [hx] at hbad hgood
   unfold keyC at hbad
   have hgood : ((decide (97 ≤ (c.toNat : Int)) && decide ((c.toNat : Int) ≤ 122)) || (decide (48 ≤ (c.toNat : Int)) && decide ((c.toNat : Int) ≤ 57)) || decide ((c.toNat : Int) = 47) || decide ((c.toNat : Int) = 45)) = true → ∀ j, j < i + 1 → keyC (k.getD j 0) = true := hgood
   conv => whnf
   refine CallC.sca _ (l00Digit_fn c) ?_ ?_
   · exact rfl
   have hd : dig c = (decide (48 ≤ (c.toNat : Int)) && decide ((c.toNat : Int) ≤ 57)) := by unfold dig; rw [Bool.eq_iff_iff]; simp; omega
   rw [hd]
   generalize c.toNat = c at *
   repeat' (first
    | refine Grd.intro (fun h => ?_) (fun h => ?_)
    | ((conv => whnf); refine Grd.intro (fun h => ?_) (fun h => ?_)))
   all_goals first
    | exact And.intro trivial (AVle.of_eq (congrArg AV.bool (hbad (by simp_all; omega))))
    | exact And.intro trivial (AVle.of_eq (congrArg AV.bool (hbad (by simp_all))))
    | (refine And.intro (inI64 (by omega) (by omega)) ?_
       exact ⟨i + 1, ⟨hin, hgood (by simp_all; omega)⟩, by omega, [], rfl, rfl, ⟨AVle.refl _, AVle.of_eq (congrArg (AV.int .i64) (by simp)), trivial⟩, trivial⟩)
    | (refine And.intro (inI64 (by omega) (by omega)) ?_
       exact ⟨i + 1, ⟨hin, hgood (by simp_all)⟩, by omega, [], rfl, rfl, ⟨AVle.refl _, AVle.of_eq (congrArg (AV.int .i64) (by simp)), trivial⟩, trivial⟩)
 · have : i = k.length := by have := of_decide_eq_false h2; omega
   subst this
   conv => whnf
   refine CallC.sca _ (l01In_fn _ _ _) ?_ ?_
   · exact rfl
   rw [hR, keyOK_all hi.2]
   exact And.intro trivial (AVle.of_eq (congrArg AV.bool (show within ((B k).size : Nat) 1 30 = _ by rw [B_size])))
theorem l01In_lo : VFn Tryz.prog 41 [.lo, .int .i64 1, .int .i64 1000000000] (.bool false) := by
 refine VFn.introC Tryz.call41 Tryz.func41 rfl rfl ?_
 exact And.intro trivial (AVle.refl _)
theorem specStoreOK_lo (os : List Ob) (hL : os.length ≤ 1000000000) (hk : ∀ o ∈ os, o.key.length ≤ 1000000000) : VFn Tryz.prog 20 [.agg [obs os, .lo]] (.bool false) := by
 refine VFn.introC Tryz.call20 Tryz.func20 rfl rfl ?_
 refine LoopC.mk (fun i : Nat => i ≤ os.length) (fun i => [(1, .bptr 0 0), (3, .int .i64 i)]) (fun i => [(0, .box [obs os, .lo])]) 1 (fun i => os.length - i) 0
  ⟨Nat.zero_le _, [(0, 0)], rfl, rfl, ⟨AVle.refl _, AVle.refl _, trivial⟩, ⟨MOle.refl _, trivial⟩⟩ ?_
 intro i hi
 refine Grd.intro (fun h3 => ?_) (fun h3 => ?_)
 · have hin : i < os.length := by have := of_decide_eq_true h3; omega
   refine And.intro (by omega) ?_
   refine DrawC.mq 35 rfl (by kernel_rfl) ?_
   refine PCallQ.sca _ (specKeyOK_fn (ix os i).key (hk _ (getD_mem hin))) rfl ?_
   refine Grd.intro (fun g1 => ?_) (fun g1 => ?_)
   · exact And.intro trivial (AVle.refl _)
   refine And.intro ⟨by omega, by omega⟩ ?_
   refine PCallQ.sca _ (l01In_fn (ix os i).ver 1 (9223372036854775808 - 1)) rfl ?_
   conv => whnf
   refine Grd.intro (fun g2 => ?_) (fun g2 => ?_)
   · exact And.intro trivial (AVle.refl _)
   conv => whnf
   refine Grd.intro (fun g3 => ?_) (fun g3 => ?_)
   · exact And.intro trivial (AVle.refl _)
   conv => whnf
   refine Grd.intro (fun g5 => ?_) (fun g5 => ?_)
   · have h0 : 0 < i := by have := of_decide_eq_true g5; omega
     have e1 : ((i : Int) - 1).toNat = i - 1 := by omega
     refine And.intro (inI64 (by omega) (by omega)) ?_
     refine And.intro ⟨by omega, by omega⟩ ?_
     conv => whnf
     refine Grd.intro (fun g6 => ?_) (fun g6 => ?_)
     · exact And.intro trivial (AVle.refl _)
     refine LoopC.mk (fun j : Nat => j ≤ i) (fun j => [(1, .bptr 0 0), (3, .int .i64 i), (4, .bptr 1 0), (5, .int .i64 j)]) (fun j => [(0, .box [obs os, .lo]), (1, .box (ix os i).row)]) 2 (fun j => i - j) 0
      ⟨Nat.zero_le _, [(0, 0), (1, 1)], rfl, rfl, ⟨AVle.refl _, AVle.refl _, AVle.refl _, AVle.refl _, trivial⟩, ⟨MOle.refl _, MOle.refl _, trivial⟩⟩ ?_
     intro j hj
     refine Grd.intro (fun h6 => ?_) (fun h6 => ?_)
     · have hjn : j < i := by have := of_decide_eq_true h6; omega
       refine DrawC.mq 9 rfl (by kernel_rfl) ?_
       refine And.intro (by omega) ?_
       refine Grd.intro (fun h7 => ?_) (fun h7 => ?_)
       · exact And.intro trivial (AVle.refl _)
       · refine And.intro (inI64 (by omega) (by omega)) ?_
         exact ⟨j + 1, hjn, by omega, [(0, 0), (1, 1)], rfl, rfl, ⟨AVle.refl _, AVle.refl _, AVle.refl _, AVle.of_eq (congrArg (AV.int .i64) (by simp)), trivial⟩, ⟨MOle.refl _, MOle.refl _, trivial⟩⟩
     · refine And.intro (inI64 (by omega) (by omega)) ?_
       exact ⟨i + 1, hin, by omega, [(0, 0)], rfl, rfl, ⟨AVle.refl _, AVle.of_eq (congrArg (AV.int .i64) (by simp)), trivial⟩, ⟨MOle.refl _, trivial⟩⟩
   · have h0 : i = 0 := by have := of_decide_eq_false g5; omega
     refine LoopC.mk (fun j : Nat => j ≤ i) (fun j => [(1, .bptr 0 0), (3, .int .i64 i), (4, .bptr 1 0), (5, .int .i64 j)]) (fun j => [(0, .box [obs os, .lo]), (1, .box (ix os i).row)]) 2 (fun j => i - j) 0
      ⟨Nat.zero_le _, [(0, 0), (1, 1)], rfl, rfl, ⟨AVle.refl _, AVle.refl _, AVle.refl _, AVle.refl _, trivial⟩, ⟨MOle.refl _, MOle.refl _, trivial⟩⟩ ?_
     intro j hj
     refine Grd.intro (fun h6 => ?_) (fun h6 => ?_)
     · have hjn : j < i := by have := of_decide_eq_true h6; omega
       refine DrawC.mq 9 rfl (by kernel_rfl) ?_
       refine And.intro (by omega) ?_
       refine Grd.intro (fun h7 => ?_) (fun h7 => ?_)
       · exact And.intro trivial (AVle.refl _)
       · refine And.intro (inI64 (by omega) (by omega)) ?_
         exact ⟨j + 1, hjn, by omega, [(0, 0), (1, 1)], rfl, rfl, ⟨AVle.refl _, AVle.refl _, AVle.refl _, AVle.of_eq (congrArg (AV.int .i64) (by simp)), trivial⟩, ⟨MOle.refl _, MOle.refl _, trivial⟩⟩
     · refine And.intro (inI64 (by omega) (by omega)) ?_
       exact ⟨i + 1, hin, by omega, [(0, 0)], rfl, rfl, ⟨AVle.refl _, AVle.of_eq (congrArg (AV.int .i64) (by simp)), trivial⟩, ⟨MOle.refl _, trivial⟩⟩
 · refine Grd.intro (fun _ => ?_) (fun _ => ?_)
   · conv => whnf
     refine CallC.sca _ (l01In_lo) ?_ ?_
     · exact rfl
     exact And.intro trivial (AVle.refl _)
   · exact And.intro trivial (AVle.refl _)
theorem specStoreOK_hi (s : Sto) (hL : s.os.length ≤ 1000000000) (hk : ∀ o ∈ s.os, o.key.length ≤ 1000000000) (hn : -9223372036854775807 ≤ s.next ∧ s.next ≤ 9223372036854775807) : VFn Tryz.prog 20 [s.av] (.bool s.ok) := by
 refine VFn.introC Tryz.call20 Tryz.func20 rfl rfl ?_
 refine LoopC.mk (fun i : Nat => i ≤ s.os.length ∧ ∀ j, j < i → s.eOK j = true) (fun i => [(1, .bptr 0 0), (3, .int .i64 i)]) (fun i => [(0, .box s.row)]) 1 (fun i => s.os.length - i) 0
  ⟨⟨Nat.zero_le _, fun j hj => absurd hj (Nat.not_lt_zero j)⟩, [(0, 0)], rfl, rfl, ⟨AVle.refl _, AVle.refl _, trivial⟩, ⟨MOle.refl _, trivial⟩⟩ ?_
 intro i hi
 obtain ⟨hi, hall⟩ := hi
 refine Grd.intro (fun h3 => ?_) (fun h3 => ?_)
 · have hin : i < s.os.length := by have := of_decide_eq_true h3; omega
   have hbad : s.eOK i = false → s.ok = false := Sto.ok_no hin
   refine And.intro (by omega) ?_
   refine DrawC.mq 35 rfl (by kernel_rfl) ?_
   refine PCallQ.sca _ (specKeyOK_fn (ix s.os i).key (hk _ (getD_mem hin))) rfl ?_
   refine Grd.intro (fun g1 => ?_) (fun g1 => ?_)
   · rw [hbad (by unfold Sto.eOK; rw [wnot g1]; rfl)]
     exact And.intro trivial (AVle.refl _)
   refine And.intro (inI64 (by omega) (by omega)) ?_
   refine PCallQ.sca _ (l01In_fn (ix s.os i).ver 1 (s.next - 1)) rfl ?_
   conv => whnf
   refine Grd.intro (fun g2 => ?_) (fun g2 => ?_)
   · rw [hbad (by unfold Sto.eOK; rw [show within (ix s.os i).ver 1 (s.next - 1) = false from wnot g2]; simp)]
     exact And.intro trivial (AVle.refl _)
   conv => whnf
   refine Grd.intro (fun g3 => ?_) (fun g3 => ?_)
   · have g3 : ¬ (ix s.os i).data.length ≤ 600 := by
      have := of_decide_eq_true (show decide ((600 : Int) < (((B (ix s.os i).data).size : Nat) : Int)) = true from g3)
      rw [B_size] at this; omega
     rw [hbad (by unfold Sto.eOK; rw [decide_eq_false g3]; simp)]
     exact And.intro trivial (AVle.refl _)
   have g3 : (ix s.os i).data.length ≤ 600 := by
    have := of_decide_eq_false (show decide ((600 : Int) < (((B (ix s.os i).data).size : Nat) : Int)) = false from g3)
    rw [B_size] at this; omega
   have hpre : (!decide ((ix s.os i).ver ∈ (s.os.take i).map (·.ver))) = true → (decide (i = 0) || decide ((ix s.os (i - 1)).key < (ix s.os i).key)) = true → s.eOK i = true := fun h h' => by
    unfold Sto.eOK; rw [wyes g1, show within (ix s.os i).ver 1 (s.next - 1) = true from wyes g2, decide_eq_true g3, h, h']; rfl
   have hnext : s.eOK i = true → ∀ j, j < i + 1 → s.eOK j = true := fun h j hj => by
    rcases Nat.lt_or_ge j i with h' | h'
    · exact hall j h'
    · rw [show j = i by omega]; exact h
   conv => whnf
   refine Grd.intro (fun g5 => ?_) (fun g5 => ?_)
   · have h0 : 0 < i := by have := of_decide_eq_true g5; omega
     have e1 : ((i : Int) - 1).toNat = i - 1 := by omega
     refine And.intro (inI64 (by omega) (by omega)) ?_
     refine And.intro ⟨by omega, by omega⟩ ?_
     conv => whnf
     have hcmp : (!Op.bytesLess (B (ix s.os ((i : Int) - 1).toNat).key).toList (B (ix s.os i).key).toList) = !decide ((ix s.os (i - 1)).key < (ix s.os i).key) := by rw [blt_lt, e1]
     refine Grd.intro (fun g6 => ?_) (fun g6 => ?_)
     · have g6 := hcmp.symm.trans g6
       rw [hbad (by unfold Sto.eOK; rw [show decide ((ix s.os (i - 1)).key < (ix s.os i).key) = false from wnot g6, decide_eq_false (show ¬ i = 0 by omega)]; simp)]
       exact And.intro trivial (AVle.refl _)
     have g6 := hcmp.symm.trans g6
     have hkey : (decide (i = 0) || decide ((ix s.os (i - 1)).key < (ix s.os i).key)) = true := by rw [show decide ((ix s.os (i - 1)).key < (ix s.os i).key) = true from wyes g6]; simp
     refine LoopC.mk (fun j : Nat => j ≤ i ∧ ∀ q, q < j → (ix s.os q).ver ≠ (ix s.os i).ver) (fun j => [(1, .bptr 0 0), (3, .int .i64 i), (4, .bptr 1 0), (5, .int .i64 j)]) (fun j => [(0, .box s.row), (1, .box (ix s.os i).row)]) 2 (fun j => i - j) 0
      ⟨⟨Nat.zero_le _, fun q hq => absurd hq (Nat.not_lt_zero q)⟩, [(0, 0), (1, 1)], rfl, rfl, ⟨AVle.refl _, AVle.refl _, AVle.refl _, AVle.refl _, trivial⟩, ⟨MOle.refl _, MOle.refl _, trivial⟩⟩ ?_
     intro j hj
     obtain ⟨hj, hv⟩ := hj
     refine Grd.intro (fun h6 => ?_) (fun h6 => ?_)
     · have hjn : j < i := by have := of_decide_eq_true h6; omega
       refine DrawC.mq 9 rfl (by kernel_rfl) ?_
       refine And.intro (by omega) ?_
       refine Grd.intro (fun h7 => ?_) (fun h7 => ?_)
       · have h7 : (ix s.os j).ver = (ix s.os i).ver := of_decide_eq_true h7
         have hm : (ix s.os i).ver ∈ (s.os.take i).map (·.ver) := List.mem_map.2 ⟨ix s.os j, by rw [← ix_take hjn]; exact getD_mem (by simp; omega), h7⟩
         rw [hbad (by unfold Sto.eOK; rw [decide_eq_true hm]; simp)]
         exact And.intro trivial (AVle.refl _)
       · have h7 : (ix s.os j).ver ≠ (ix s.os i).ver := of_decide_eq_false h7
         refine And.intro (inI64 (by omega) (by omega)) ?_
         refine ⟨j + 1, ⟨hjn, fun q hq => ?_⟩, by omega, [(0, 0), (1, 1)], rfl, rfl, ⟨AVle.refl _, AVle.refl _, AVle.refl _, AVle.of_eq (congrArg (AV.int .i64) (by simp)), trivial⟩, ⟨MOle.refl _, MOle.refl _, trivial⟩⟩
         rcases Nat.lt_or_ge q j with h' | h'
         · exact hv q h'
         · rw [show q = j by omega]; exact h7
     · have : j = i := by have := of_decide_eq_false h6; omega
       subst this
       have hm : (ix s.os j).ver ∉ (s.os.take j).map (·.ver) := fun hm => by
        obtain ⟨o, ho, e⟩ := List.mem_map.1 hm
        obtain ⟨q, hq, e2⟩ := List.getElem_of_mem ho
        have hq' : q < j := by simp at hq; omega
        refine hv q hq' ?_
        rw [← e, ← e2, ix_lt (by omega)]; simp
       have he := hpre (by rw [decide_eq_false hm]; rfl) hkey
       refine And.intro (inI64 (by omega) (by omega)) ?_
       exact ⟨j + 1, ⟨hin, hnext he⟩, by omega, [(0, 0)], rfl, rfl, ⟨AVle.refl _, AVle.of_eq (congrArg (AV.int .i64) (by simp)), trivial⟩, ⟨MOle.refl _, trivial⟩⟩
   · have h0 : i = 0 := by have := of_decide_eq_false g5; omega
     have hkey : (decide (i = 0) || decide ((ix s.os (i - 1)).key < (ix s.os i).key)) = true := by rw [decide_eq_true h0]; rfl
     refine LoopC.mk (fun j : Nat => j ≤ i ∧ ∀ q, q < j → (ix s.os q).ver ≠ (ix s.os i).ver) (fun j => [(1, .bptr 0 0), (3, .int .i64 i), (4, .bptr 1 0), (5, .int .i64 j)]) (fun j => [(0, .box s.row), (1, .box (ix s.os i).row)]) 2 (fun j => i - j) 0
      ⟨⟨Nat.zero_le _, fun q hq => absurd hq (Nat.not_lt_zero q)⟩, [(0, 0), (1, 1)], rfl, rfl, ⟨AVle.refl _, AVle.refl _, AVle.refl _, AVle.refl _, trivial⟩, ⟨MOle.refl _, MOle.refl _, trivial⟩⟩ ?_
     intro j hj
     obtain ⟨hj, hv⟩ := hj
     refine Grd.intro (fun h6 => ?_) (fun h6 => ?_)
     · have hjn : j < i := by have := of_decide_eq_true h6; omega
       refine DrawC.mq 9 rfl (by kernel_rfl) ?_
       refine And.intro (by omega) ?_
       refine Grd.intro (fun h7 => ?_) (fun h7 => ?_)
       · have h7 : (ix s.os j).ver = (ix s.os i).ver := of_decide_eq_true h7
         have hm : (ix s.os i).ver ∈ (s.os.take i).map (·.ver) := List.mem_map.2 ⟨ix s.os j, by rw [← ix_take hjn]; exact getD_mem (by simp; omega), h7⟩
         rw [hbad (by unfold Sto.eOK; rw [decide_eq_true hm]; simp)]
         exact And.intro trivial (AVle.refl _)
       · have h7 : (ix s.os j).ver ≠ (ix s.os i).ver := of_decide_eq_false h7
         refine And.intro (inI64 (by omega) (by omega)) ?_
         refine ⟨j + 1, ⟨hjn, fun q hq => ?_⟩, by omega, [(0, 0), (1, 1)], rfl, rfl, ⟨AVle.refl _, AVle.refl _, AVle.refl _, AVle.of_eq (congrArg (AV.int .i64) (by simp)), trivial⟩, ⟨MOle.refl _, MOle.refl _, trivial⟩⟩
         rcases Nat.lt_or_ge q j with h' | h'
         · exact hv q h'
         · rw [show q = j by omega]; exact h7
     · have : j = i := by have := of_decide_eq_false h6; omega
       subst this
       have hm : (ix s.os j).ver ∉ (s.os.take j).map (·.ver) := fun hm => by
        obtain ⟨o, ho, e⟩ := List.mem_map.1 hm
        obtain ⟨q, hq, e2⟩ := List.getElem_of_mem ho
        have hq' : q < j := by simp at hq; omega
        refine hv q hq' ?_
        rw [← e, ← e2, ix_lt (by omega)]; simp
       have he := hpre (by rw [decide_eq_false hm]; rfl) hkey
       refine And.intro (inI64 (by omega) (by omega)) ?_
       exact ⟨j + 1, ⟨hin, hnext he⟩, by omega, [(0, 0)], rfl, rfl, ⟨AVle.refl _, AVle.of_eq (congrArg (AV.int .i64) (by simp)), trivial⟩, ⟨MOle.refl _, trivial⟩⟩
 · have : i = s.os.length := by have := of_decide_eq_false h3; omega
   subst this
   refine Grd.intro (fun h4 => ?_) (fun h4 => ?_)
   · have h4 : s.os.length ≤ 300 := by have := of_decide_eq_true h4; omega
     conv => whnf
     refine CallC.sca _ (l01In_fn s.next 1 1000000000) ?_ ?_
     · exact rfl
     refine And.intro trivial (AVle.of_eq (congrArg AV.bool (show within s.next 1 1000000000 = _ from ?_)))
     cases hw : within s.next 1 1000000000
     · unfold Sto.ok; rw [hw]; rfl
     · rw [Sto.ok_yes hw h4 hall]
   · have h4 : ¬ s.os.length ≤ 300 := by have := of_decide_eq_false h4; omega
     rw [show s.ok = false by unfold Sto.ok; rw [decide_eq_false h4]; simp]
     exact And.intro trivial (AVle.refl _)
theorem specStoreOK_ok (s : Sto) (hL : s.os.length ≤ 1000000000) (hk : ∀ o ∈ s.os, o.key.length ≤ 1000000000) (hn : -9223372036854775808 ≤ s.next ∧ s.next ≤ 9223372036854775807) : VFn Tryz.prog 20 [s.av] (.bool s.ok) := by
 by_cases h : s.next = -9223372036854775808
 · have h1 : within s.next 1 1000000000 = false := by rw [h]; rfl
   rw [show s.ok = false by unfold Sto.ok; rw [h1]; rfl]
   refine (specStoreOK_lo s.os hL hk).weak (AVsle.cons (AVle.agg (AVsle.cons (AVle.refl _) (AVsle.cons (fun w ok g v hv => ?_) AVsle.nil))) AVsle.nil) (AVle.refl _)
   have hv : v = .int .i64 s.next := hv
   rw [h] at hv
   exact hv
 · exact specStoreOK_hi s hL hk (by omega)
theorem force_to {x y : AV} {k : AV → Prop} (e : x = y) (h : y.force k) : x.force k := e ▸ h
theorem wyes' {a : Bool} (h : (!a) = true) : a = true → False := fun e => by rw [e] at h; cases h
theorem l01Room_fn (s : Sto) (hs : s.ok = true) (k d : List UInt8) : VFn Tryz.prog 137 [s.av, .str (B k), .str (B d)] (.int .i64 (s.room k d)) := by
 have hL := (Sto.ok_at hs).2.1
 have c := l01Find_fn s (by omega) k
 rw [Srt.fi (Sto.srt hs) k, show hasK k s.os = s.has k from rfl] at c
 have r1 : 600 < d.length → s.room k d = 8 := fun h => by unfold Sto.room; rw [if_pos h]
 have r2 : ¬ 600 < d.length → ((!s.has k && decide (s.os.length = 300)) || decide (s.next = 1000000000)) = true → s.room k d = 7 := fun h h2 => by unfold Sto.room; rw [if_neg h, if_pos h2]
 have r3 : ¬ 600 < d.length → ((!s.has k && decide (s.os.length = 300)) || decide (s.next = 1000000000)) = false → s.room k d = 0 := fun h h2 => by unfold Sto.room; rw [if_neg h, if_neg (by rw [h2]; simp)]
 by_cases hk : s.has k = true
 · rw [if_pos hk] at c
   rw [hk] at r2 r3
   refine VFn.introC Tryz.call137 Tryz.func137 rfl rfl ?_
   refine Grd.intro (fun h1 => ?_) (fun h1 => ?_)
   · rw [r1 (by have h : (600 : Int) < (((B d).size : Nat) : Int) := of_decide_eq_true h1; rw [B_size] at h; omega)]
     exact And.intro trivial (AVle.refl _)
   have h1 : ¬ 600 < d.length := by have h : ¬ (600 : Int) < (((B d).size : Nat) : Int) := of_decide_eq_false h1; rw [B_size] at h; omega
   conv => whnf
   refine CallC.sca _ (c) ?_ ?_
   · exact rfl
   refine Grd.intro (fun h3 => ?_) (fun h3 => ?_)
   · rw [r2 h1 h3]
     exact And.intro trivial (AVle.refl _)
   · rw [r3 h1 h3]
     exact And.intro trivial (AVle.refl _)
 · have hk : s.has k = false := by simpa using hk
   rw [if_neg (by rw [hk]; simp)] at c
   rw [hk] at r2 r3
   refine VFn.introC Tryz.call137 Tryz.func137 rfl rfl ?_
   refine Grd.intro (fun h1 => ?_) (fun h1 => ?_)
   · rw [r1 (by have h : (600 : Int) < (((B d).size : Nat) : Int) := of_decide_eq_true h1; rw [B_size] at h; omega)]
     exact And.intro trivial (AVle.refl _)
   have h1 : ¬ 600 < d.length := by have h : ¬ (600 : Int) < (((B d).size : Nat) : Int) := of_decide_eq_false h1; rw [B_size] at h; omega
   conv => whnf
   refine CallC.sca _ (c) ?_ ?_
   · exact rfl
   refine Grd.intro (fun h2 => ?_) (fun h2 => ?_)
   · have h2 : decide (s.os.length = 300) = true := decide_eq_true (by have h : ((s.os.length : Nat) : Int) = 300 := of_decide_eq_true h2; omega)
     rw [r2 h1 (by rw [h2]; rfl)]
     exact And.intro trivial (AVle.refl _)
   have h2 : decide (s.os.length = 300) = false := decide_eq_false (by have h : ¬ ((s.os.length : Nat) : Int) = 300 := of_decide_eq_false h2; omega)
   rw [h2] at r2 r3
   refine Grd.intro (fun h3 => ?_) (fun h3 => ?_)
   · rw [r2 h1 h3]
     exact And.intro trivial (AVle.refl _)
   · rw [r3 h1 h3]
     exact And.intro trivial (AVle.refl _)
theorem l01Own_fn (s : Sto) (hL : s.os.length ≤ 1000000) : VFn Tryz.prog 24 [s.av] s.av := by
 refine VFn.introC Tryz.call24 Tryz.func24 rfl rfl ?_
 refine And.intro ⟨show (0 + s.os.length) * 40 ≤ 140737488355328 by omega, fun i hi => rfl⟩ ?_
 refine And.intro trivial (AVle.agg (AVsle.cons (AVle.sl (Nat.zero_add _) fun i hi => ?_) (AVsle.cons (AVle.refl _) AVsle.nil)))
 rw [appRows_ge (Nat.zero_le _), Nat.sub_zero]
structure StoRd (s : Sto) : Prop where
 len : s.os.length ≤ 1048576
 key : ∀ o ∈ s.os, o.key.length ≤ 1000000000
 nxt : -9223372036854775808 ≤ s.next ∧ s.next ≤ 9223372036854775807
theorem first2_of (a b : Bool) (x y : Int) {n : Nat} {rows : Nat → List AV} (hr : FirstRows 4 3 rows 0 [(a, x), (b, y)]) (hn : n = 4) {r : Int} (h : (if a = true then x else if b = true then y else 0) = r) : VFn Tryz.prog 14 [.sl 1 n rows] (.int .i64 r) := by
 have e : firstC [(a, x), (b, y)] = r := by
  rw [← h]
  unfold firstC firstC firstC
  cases a <;> cases b <;> rfl
 rw [← e]
 exact first_of _ hr hn (show 2 ≤ 1000 by decide)
theorem set_len_le (s : Sto) (k d : List UInt8) : (s.set k d).os.length ≤ s.os.length + 1 := by rw [Sto.set_len]; split <;> omega
theorem alloc_new (w : World) (o : Obj) : (w.alloc o).heap[w.heap.size]? = some o ∧ (w.alloc o).heap.size = w.heap.size + 1 := by
 unfold World.alloc; simp
theorem SplitN_fn (l : List UInt8) (c : UInt8) (m : Nat) (hl : l.length < 4294967281) (hm : m ≤ 1000000) : VFn Tryz.prog 200 [.str (B l), .str (B [c]), .int .i64 ((m + 1 : Nat) : Int)] (txts (Lib.splitN l [c] (m + 1))) := by
 refine ⟨Tryz.call200, fun w ok vs hJ hok hv => ?_⟩
 obtain ⟨v, us, rfl, hv, v2, us2, rfl, hv2, v3, us3, rfl, hv3, hus⟩ := hv
 have e1 : v = .string (B l) := hv
 have e2 : v2 = .string (B [c]) := hv2
 have e3 : v3 = .int .i64 ((m + 1 : Nat) : Int) := hv3
 have e4 : us3 = [] := hus
 subst e1 e2 e3 e4
 obtain ⟨mv, hmv⟩ := tab_maxlen hJ
 have hd := Lib.splitB_data (B [c]) 0 (min (m + 1) ((B l).size + 1) - 1) (B l)
 have hle := Lib.splitB_length_le (B [c]) 0 (min (m + 1) ((B l).size + 1) - 1) (B l)
 refine (Tryz.strings_SplitN (B l) (B [c]) (m + 1) mv w (by rw [B_size]; exact hl) hmv (by rw [B_size]; exact Nat.le_refl 1) (by omega) (by omega)).mono ?_
 rintro e w' ⟨rfl, rfl⟩
 generalize Lib.splitB (B [c]) 0 (min (m + 1) ((B l).size + 1) - 1) (B l) = S at hd hle
 rw [B_data, B_data, B_size] at hd
 have hR : Lib.splitN l [c] (m + 1) = S.map (·.data.toList) := hd.symm
 have hlen : (Lib.splitN l [c] (m + 1)).length = S.length := by rw [hR]; simp
 have bel := (Go.RowKit.Below.refl w.heap.size w).alloc (Nat.le_refl _) (.cells (Lib.cellsOf S (min (m + 1) ((B l).size + 1))) 9)
 obtain ⟨hnew, hsz⟩ := alloc_new w (.cells (Lib.cellsOf S (min (m + 1) ((B l).size + 1))) 9)
 refine ⟨_, rfl, ⟨bel.os, bel.tape, bel.output, bel.size, fun b hb _ => bel.block b hb⟩, ?_⟩
 show RV _ _ G0 (.sl 1 (Lib.splitN l [c] (m + 1)).length fun i => [.str (B (ix (Lib.splitN l [c] (m + 1)) i))]) _
 rw [hlen]
 refine ⟨_, _, rfl, by omega, .inr ⟨w.heap.size, 0, rfl, .inr ⟨Nat.le_refl _, by rw [hsz]; omega⟩, fun i hi => ⟨[.string S[i]], rfl, ⟨_, _, rfl, ?_, rfl⟩, fun j hj => ?_⟩⟩⟩
 · show Value.string _ = Value.string _
   rw [hR, ix_lt (by simpa using hi)]
   simp [B]
 · have : j = 0 := by omega
   subst this
   rw [Nat.zero_add, Nat.mul_one, Nat.add_zero, cell_of_row _ _ _ _ _ _ hnew]
   simp [Lib.cellsOf, List.getElem?_append_left, hi]
theorem atoi_range (t : List UInt8) : -9223372036854775808 ≤ atoiV t ∧ atoiV t ≤ 9223372036854775807 := by
 rcases atoi_end t with ⟨_, h⟩ | ⟨_, h, e⟩ | ⟨_, h, e⟩
 · generalize atoiV t = v at h
   unfold Lib.atoiAll at h
   cases t with
   | nil => cases h
   | cons c r =>
     simp only at h
     split at h
     · cases h
     · cases h
     · split at h
       · cases h
       · split at h
         · cases h
         · injection h with h
           subst h
           split <;> omega
 · rw [e]; decide
 · rw [e]; unfold Lib.atoiSat; split <;> decide
theorem number_fn (t : List UInt8) (hl : t.length ≤ 281474976710656) : VFn Tryz.prog 185 [.str (B t)] (.tup [.int .i64 (atoiV t), .bool (numOk t)]) := by
 refine VFn.introC Tryz.call185 Tryz.func185 rfl rfl ?_
 by_cases ho : atoiOk t = true
 · conv => whnf
   refine CallC.sca _ (Atoi_ok t hl ho) ?_ ?_
   · exact rfl
   have hb := atoi_range t
   conv => whnf
   refine CallC.sca _ (Itoa_fn (atoiV t) hb.1 hb.2) ?_ ?_
   · exact rfl
   refine Grd.intro (fun h => ?_) (fun h => ?_)
   · have h : ((B (Lib.itoa (atoiV t))).toList == (B t).toList) = true := h
     rw [B_eq] at h
     conv => whnf
     refine CallC.sca _ (within_fn _ _ _) ?_ ?_
     · exact rfl
     refine And.intro trivial (AVle.of_eq (show AV.tup [.int .i64 (atoiV t), .bool (within (atoiV t) (-999999999999999999) 999999999999999999)] = _ from ?_))
     unfold numOk; rw [ho, h]; rfl
   · have h : ((B (Lib.itoa (atoiV t))).toList == (B t).toList) = false := h
     rw [B_eq] at h
     refine And.intro trivial (AVle.of_eq (show AV.tup [.int .i64 (atoiV t), .bool false] = _ from ?_))
     unfold numOk; rw [ho, h]; rfl
 · have ho : atoiOk t = false := by simpa using ho
   conv => whnf
   refine CallC.sca _ (Atoi_no t hl ho) ?_ ?_
   · exact rfl
   refine And.intro trivial (AVle.of_eq (show AV.tup [.int .i64 (atoiV t), .bool false] = _ from ?_))
   unfold numOk; rw [ho]; rfl
theorem cutP_piece (c : UInt8) : ∀ (l cur : List UInt8), ∀ x ∈ cutP c cur l, x.length ≤ cur.length + l.length
 | [], cur, x, hx => by simp [cutP] at hx; rw [hx]; simp
 | y :: r, cur, x, hx => by
   unfold cutP at hx
   split at hx
   · rcases List.mem_cons.1 hx with rfl | hx
     · simp
     · have := cutP_piece c r [] x hx; simp at this ⊢; omega
   · have := cutP_piece c r (cur ++ [y]) x hx; simp at this ⊢; omega
theorem numbers_gen (t : List UInt8) (c : UInt8) (m : Nat) (hl : t.length ≤ 1000000000) (hm : m ≤ 1000000) (R : AV) (hy : ∀ N, numsK c m t = some N → R = .tup [ints N, .bool true]) (hn : numsK c m t = none → R = .tup [.nilsl, .bool false]) :
 VFn Tryz.prog 172 [.str (B t), .str (B [c]), .int .i64 (m : Int)] R := by
 have hsl := splitN_len c t m
 refine VFn.introC Tryz.call172 Tryz.func172 rfl rfl ?_
 refine And.intro (inI64 (by omega) (by omega)) ?_
 conv => whnf
 refine CallC.nl _ (SplitN_fn t c m (by omega) hm) ?_ ?_
 · exact rfl
 refine Grd.intro (fun h1 => ?_) (fun h1 => ?_)
 · have h1 : ¬ (Lib.splitN t [c] (m + 1)).length = m := by
    have h : (!decide ((((Lib.splitN t [c] (m + 1)).length : Nat) : Int) = (m : Int))) = true := h1
    simp at h; omega
   rw [hn (by unfold numsK; rw [if_neg (fun h => h1 (hsl.2 h.1))])]
   exact And.intro trivial (AVle.refl _)
 have h1 : (Lib.splitN t [c] (m + 1)).length = m := by
  have h : (!decide ((((Lib.splitN t [c] (m + 1)).length : Nat) : Int) = (m : Int))) = false := h1
  simp at h; omega
 have hcm := hsl.1 h1
 rw [splitN_eq c t m hcm]
 have hcl := cutP_len c t []
 have hpl : ∀ x ∈ cutP c [] t, x.length ≤ t.length := fun x hx => by have := cutP_piece c t [] x hx; simpa using this
 obtain ⟨P, hP⟩ : ∃ P, P = cutP c [] t := ⟨_, rfl⟩
 rw [← hP]
 rw [← hP] at hcm hcl hpl
 have hK : numsK c m t = if P.all numOk = true then some (P.map atoiV) else none := by
  unfold numsK; rw [← hP]
  by_cases h : P.all numOk = true
  · rw [if_pos ⟨hcm, h⟩, if_pos h]
  · rw [if_neg (fun q => h q.2), if_neg h]
 refine LoopC.mk (fun i : Nat => i ≤ P.length ∧ ∀ j, j < i → numOk (ix P j) = true) (fun i => [(9, .osl 0), (24, txts P), (25, .int .i64 P.length), (26, .int .i64 i)])
  (fun i => [(0, .arr 3 1 ((P.take i).map atoiV).length fun j => [.int .i64 (ix ((P.take i).map atoiV) j)])]) 1 (fun i => P.length - i) 0
  ⟨⟨Nat.zero_le _, fun j hj => absurd hj (Nat.not_lt_zero j)⟩, [(0, 0)], rfl, rfl, ⟨AVle.refl _, AVle.refl _, AVle.refl _, AVle.refl _, trivial⟩, ⟨MOle.arr rfl fun i hi => absurd hi (Nat.not_lt_zero i), trivial⟩⟩ ?_
 intro i hi
 obtain ⟨hi, hall⟩ := hi
 refine Grd.intro (fun h2 => ?_) (fun h2 => ?_)
 · have hin : i < P.length := by have := of_decide_eq_true h2; omega
   refine And.intro (by omega) ?_
   conv => whnf
   refine CallC.sca _ (number_fn (ix P i) (by have := hpl _ (getD_mem hin); omega)) ?_ ?_
   · exact rfl
   refine Grd.intro (fun h3 => ?_) (fun h3 => ?_)
   · have h3 : numOk (ix P i) = false := by simpa using (show (!numOk (ix P i)) = true from h3)
     have : ¬ P.all numOk = true := fun h => by rw [List.all_eq_true.1 h _ (getD_mem hin)] at h3; cases h3
     rw [hn (by rw [hK, if_neg this])]
     exact And.intro trivial (AVle.refl _)
   have h3 : numOk (ix P i) = true := by simpa using (show (!numOk (ix P i)) = false from h3)
   refine And.intro ⟨show (((P.take i).map atoiV).length + 1) * 8 ≤ 140737488355328 by simp; omega, all1 rfl⟩ ?_
   refine And.intro (inI64 (by omega) (by omega)) ?_
   refine ⟨i + 1, ⟨hin, fun j hj => ?_⟩, by omega, [(2, 0)], rfl, rfl, ⟨AVle.refl _, AVle.refl _, AVle.refl _, AVle.of_eq (congrArg (AV.int .i64) (by simp)), trivial⟩, ⟨arr_next (f := fun x => [.int .i64 x]) (map_take_snoc hin) rfl, trivial⟩⟩
   rcases Nat.lt_or_ge j i with h' | h'
   · exact hall j h'
   · rw [show j = i by omega]; exact h3
 · have : i = P.length := by have := of_decide_eq_false h2; omega
   subst this
   have e : P.take P.length = P := List.take_of_length_le (Nat.le_refl _)
   have hA : P.all numOk = true := List.all_eq_true.2 fun x hx => by
    obtain ⟨j, hj, q⟩ := List.getElem_of_mem hx
    have := hall j hj
    rw [ix_lt hj, q] at this; exact this
   rw [hy _ (by rw [hK, if_pos hA]), e]
   exact And.intro trivial (AVle.refl _)
theorem numbers_yes (t : List UInt8) (c : UInt8) (m : Nat) (hl : t.length ≤ 1000000000) (hm : m ≤ 1000000) {N : List Int} (h : numsK c m t = some N) : VFn Tryz.prog 172 [.str (B t), .str (B [c]), .int .i64 (m : Int)] (.tup [ints N, .bool true]) :=
 numbers_gen t c m hl hm _ (fun N' h' => by rw [h] at h'; cases h'; rfl) (fun h' => by rw [h] at h'; cases h')
theorem numbers_no (t : List UInt8) (c : UInt8) (m : Nat) (hl : t.length ≤ 1000000000) (hm : m ≤ 1000000) (h : numsK c m t = none) : VFn Tryz.prog 172 [.str (B t), .str (B [c]), .int .i64 (m : Int)] (.tup [.nilsl, .bool false]) :=
 numbers_gen t c m hl hm _ (fun N' h' => by rw [h] at h'; cases h') (fun h' => rfl)
theorem B_nil (a : List UInt8) : ((B a).toList == (ByteArray.mk #[]).toList) = decide (a = []) := B_eq (b := [])
theorem B_isEmpty (a : List UInt8) : (B a).toList.isEmpty = decide (a = []) := by rw [B_toList]; cases a <;> simp
structure En where
 tier : Int
 f : Int
 t : Int
 key : List UInt8
 deriving Inhabited, DecidableEq
def En.row (e : En) : List AV := [.int .i64 e.tier, .int .i64 e.f, .int .i64 e.t, .str (B e.key)]
def En.av (e : En) : AV := .agg e.row
def En.ok (e : En) : Bool := kOk e.key && (decide (kT e.key = e.tier) && (isRange e.f e.t && decide (e.f < e.t)))
structure Rc where
 k : Int
 tok : Int
 tier : Int
 f : Int
 t : Int
 key : List UInt8
 deriving Inhabited, DecidableEq
def Rc.row (r : Rc) : List AV := [.int .i64 r.k, .int .i64 r.tok, .int .i64 r.tier, .int .i64 r.f, .int .i64 r.t, .str (B r.key)]
def Rc.av (r : Rc) : AV := .agg r.row
@[reducible] def Rc.en (r : Rc) : En := ⟨r.tier, r.f, r.t, r.key⟩
def Rc.bare (r : Rc) : Bool := decide (r.tier = 0) && (decide (r.f = 0) && decide (r.t = 0))
def Rc.ok (r : Rc) : Bool :=
 if r.k = 1 then decide (r.tok = 0) && (decide (r.tier = 0) && r.en.ok)
 else if r.k = 2 then within r.tok 1 999999 && (r.bare && decide (r.key = []))
 else if r.k = 3 then within r.tok 1 999999 && (decide (0 < r.tier) && r.en.ok)
 else if r.k = 4 then within r.tok 1 999999 && r.en.ok
 else if r.k = 5 then decide (r.tok = 0) && (r.bare && kOk r.key)
 else false
theorem entryOK_fn (e : En) : VFn Tryz.prog 31 [e.av] (.bool e.ok) := by
 refine VFn.introC Tryz.call31 Tryz.func31 rfl rfl ?_
 conv => whnf
 refine CallC.sca _ (readDataKey_fn e.key) ?_ ?_
 · exact rfl
 repeat' (conv => whnf
          first
  | refine Grd.intro (fun h => ?_) (fun h => ?_)
  | (refine CallC.sca _ (isRange_fn _ _) ?_ ?_; exact rfl)
  | refine And.intro trivial (AVle.of_eq (congrArg AV.bool ?_)))
 all_goals (simp_all [En.ok])
theorem entry_fn (r : Rc) : VFn Tryz.prog 57 [r.av] r.en.av := by
 refine VFn.introC Tryz.call57 Tryz.func57 rfl rfl ?_
 exact And.intro trivial (AVle.refl _)
theorem isToken_fn (n : Int) : VFn Tryz.prog 58 [.int .i64 n] (.bool (within n 1 999999)) := by
 refine VFn.introC Tryz.call58 Tryz.func58 rfl rfl ?_
 conv => whnf
 refine CallC.sca _ (within_fn _ _ _) ?_ ?_
 · exact rfl
 exact And.intro trivial (AVle.refl _)
theorem RecordOK_fn (r : Rc) : VFn Tryz.prog 29 [r.av] (.bool r.ok) := by
 refine VFn.introC Tryz.call29 Tryz.func29 rfl rfl ?_
 repeat' (conv => whnf
          first
  | refine Grd.intro (fun h => ?_) (fun h => ?_)
  | (refine CallC.sca _ (isToken_fn _) ?_ ?_; exact rfl)
  | (refine CallC.sca _ (entry_fn r) ?_ ?_; exact rfl)
  | (refine CallC.sca _ (entryOK_fn r.en) ?_ ?_; exact rfl)
  | (refine CallC.sca _ (readDataKey_fn r.key) ?_ ?_; exact rfl)
  | refine And.intro trivial (AVle.of_eq (congrArg AV.bool ?_)))
 all_goals (first | (simp_all [Rc.ok, Rc.bare, B_nil, B_isEmpty]; done) | (simp_all [Rc.ok, Rc.bare, B_nil, B_isEmpty]; intros; omega))
theorem kT_nat (k : List UInt8) : 0 ≤ kT k ∧ kT k ≤ 2 := by
 unfold kT
 cases h : parseKey k with
 | none => simp
 | some q =>
   obtain ⟨t, n, w⟩ := q
   have := key_parse h
   simp only; omega
theorem l06Tiered_fn (r : Rc) (hk : r.key.length ≤ 1000000000) (n : Int) : VFn Tryz.prog 42 [r.av, .int .i64 n] (.bool (r.en.ok && decide (n ≤ r.tier))) := by
 have h2 := kT_nat r.key
 refine VFn.introC Tryz.call42 Tryz.func42 rfl rfl ?_
 conv => whnf
 refine CallC.sca _ (l03ToKey_fn r.key hk) ?_ ?_
 · exact rfl
 repeat' (conv => whnf
          first
  | refine Grd.intro (fun h => ?_) (fun h => ?_)
  | (refine CallC.sca _ (l01In_fn _ _ _) ?_ ?_; exact rfl)
  | (refine CallC.sca _ (l04Range_fn _ _) ?_ ?_; exact rfl)
  | refine And.intro trivial (AVle.of_eq (congrArg AV.bool ?_)))
 all_goals (simp_all [En.ok, Rc.en, within]; try omega)
theorem specRecordOK_fn (r : Rc) (hk : r.key.length ≤ 1000000000) : VFn Tryz.prog 44 [r.av] (.bool r.ok) := by
 have h0 := l06Tiered_fn r hk 0
 have h1 := l06Tiered_fn r hk 1
 have e0 : (r.en.ok && decide (0 ≤ r.tier)) = r.en.ok := by
  cases h : r.en.ok
  · rfl
  · unfold En.ok at h
    have h2 := kT_nat r.key
    simp [Rc.en] at h
    simp; omega
 have e1 : decide (1 ≤ r.tier) = decide (0 < r.tier) := decide_eq_decide.2 (by omega)
 rw [e0] at h0
 rw [e1] at h1
 refine VFn.introC Tryz.call44 Tryz.func44 rfl rfl ?_
 repeat' (conv => whnf
          first
  | refine Grd.intro (fun h => ?_) (fun h => ?_)
  | (refine CallC.sca _ (l01In_fn _ _ _) ?_ ?_; exact rfl)
  | (refine CallC.sca _ (h0) ?_ ?_; exact rfl)
  | (refine CallC.sca _ (h1) ?_ ?_; exact rfl)
  | (refine CallC.sca _ (l03ToKey_fn r.key hk) ?_ ?_; exact rfl)
  | refine And.intro trivial (AVle.of_eq (congrArg AV.bool ?_)))
 all_goals (simp_all [Rc.ok, Rc.bare, B_nil, B_isEmpty, Bool.and_comm]; done)
theorem key_len {k : List UInt8} (h : kOk k = true) : k.length ≤ 17 := by
 unfold kOk at h
 cases e : parseKey k with
 | none => rw [e] at h; cases h
 | some q =>
   obtain ⟨t, n, w⟩ := q
   obtain ⟨e1, ht, hn, hw⟩ := key_parse e
   rw [e1]
   have h3 : t = 0 ∨ t = 1 ∨ t = 2 := by omega
   rcases h3 with rfl | rfl | rfl <;> simp [keyB, pre, six6_len]
def Rc.nums (r : Rc) : List Int := [r.k, r.tok, r.tier, r.f, r.t]
def Rc.text (r : Rc) : List UInt8 := Lib.join (r.nums.map Lib.itoa) [44] ++ ([32] ++ r.key)
theorem Rc.okN {r : Rc} (h : r.ok = true) : (∀ x ∈ r.nums, mid x) ∧ r.key.length ≤ 17 := by
 have hT := kT_nat r.key
 have hL := @key_len r.key
 have m : (mid r.k ∧ mid r.tok ∧ mid r.tier ∧ mid r.f ∧ mid r.t) ∧ r.key.length ≤ 17 := by
  unfold Rc.ok at h
  split at h
  · simp [Rc.en, En.ok, isRange, within] at h
    refine ⟨⟨?_, ?_, ?_, ?_, ?_⟩, hL h.2.2.1⟩ <;> (unfold mid; omega)
  split at h
  · simp [Rc.bare, within] at h
    refine ⟨⟨?_, ?_, ?_, ?_, ?_⟩, by rw [h.2.2]; simp⟩ <;> (unfold mid; omega)
  split at h
  · simp [Rc.en, En.ok, isRange, within] at h
    refine ⟨⟨?_, ?_, ?_, ?_, ?_⟩, hL h.2.2.1⟩ <;> (unfold mid; omega)
  split at h
  · simp [Rc.en, En.ok, isRange, within] at h
    refine ⟨⟨?_, ?_, ?_, ?_, ?_⟩, hL h.2.1⟩ <;> (unfold mid; omega)
  split at h
  · simp [Rc.bare, within] at h
    refine ⟨⟨?_, ?_, ?_, ?_, ?_⟩, hL h.2.2⟩ <;> (unfold mid; omega)
  · cases h
 refine ⟨fun x hx => ?_, m.2⟩
 obtain ⟨m1, m2, m3, m4, m5⟩ := m.1
 simp only [Rc.nums, List.mem_cons, List.not_mem_nil, or_false] at hx
 rcases hx with rfl | rfl | rfl | rfl | rfl <;> assumption
theorem Rc.head_len {r : Rc} (h : r.ok = true) : (Lib.join (r.nums.map Lib.itoa) [44]).length ≤ 110 := by
 have := join_len (m := 21) (c := 1) (L := r.nums.map Lib.itoa) (s := [44]) (fun x hx => by
  obtain ⟨n, hn, rfl⟩ := List.mem_map.1 hx
  exact mid_len ((Rc.okN h).1 n hn)) (by simp)
 exact Nat.le_trans this (by simp [Rc.nums])
theorem nbOk_no {neg : Bool} {b : List UInt8} (h : 18 < b.length ∨ (b.headD 0 = 48 ∧ (1 < b.length ∨ neg = true)) ∨ b.all dig = false) : nbOk neg b = false := by
 cases hb : nbOk neg b
 · rfl
 · obtain ⟨_, h2, h3, h4⟩ := nbOk_iff.1 hb
   rcases h with h | ⟨h, h'⟩ | h
   · omega
   · obtain ⟨h5, h6⟩ := h3 h
     rcases h' with h' | h'
     · exact absurd h' h5
     · rw [h6] at h'; cases h'
   · rw [h4] at h; cases h
theorem l00Neg_fn (b : List UInt8) (hl : b.length ≤ 1000000000) (hb0 : b ≠ []) (R : AV) (hy : numOk (45 :: b) = true → R = .tup [.int .i64 (-(numB 0 b : Int)), .bool true]) (hn : numOk (45 :: b) = false → R = .tup [.int .i64 0, .bool false]) : VFn Tryz.prog 192 [.str (B (45 :: b))] R := by
 have hk := numOk_neg b
 have hsz : ((B (45 :: b)).size : Int) = b.length + 1 := by rw [B_size]; rfl
 refine VFn.introC Tryz.call192 Tryz.func192 rfl rfl ?_
 refine Grd.intro (fun g1 => ?_) (fun g1 => absurd (of_decide_eq_false g1) (by omega))
 refine And.intro ⟨by omega, by omega⟩ ?_
 refine And.intro ⟨by omega, by omega⟩ ?_
 refine force_to (congrArg AV.str (show (B (45 :: b)).extract (Int.toNat 1) (B (45 :: b)).size = B b by rw [B_extract, B_size]; simp)) ?_
 have hno : nbOk true b = false → numOk (45 :: b) = false := fun h => hk.1.trans h
 refine Grd.intro (fun h1 => ?_) (fun h1 => ?_)
 · have hb0' : b = [] := by have h : (((B b).size : Nat) : Int) = 0 := of_decide_eq_true h1; rw [B_size] at h; exact List.length_eq_zero_iff.1 (by omega)
   exact absurd hb0' hb0
 have hb1 : 1 ≤ b.length := by cases hbb : b with | nil => exact absurd hbb hb0 | cons _ _ => simp
 refine Grd.intro (fun h2 => ?_) (fun h2 => ?_)
 · have hb2 : 18 < b.length := by have h : (18 : Int) < (((B b).size : Nat) : Int) := of_decide_eq_true h2; rw [B_size] at h; omega
   rw [hn (hno (nbOk_no (.inl hb2)))]
   exact And.intro trivial (AVle.refl _)
 have hb2 : b.length ≤ 18 := by have h : ¬ (18 : Int) < (((B b).size : Nat) : Int) := of_decide_eq_false h2; rw [B_size] at h; omega
 refine And.intro ⟨by omega, by rw [B_size]; omega⟩ ?_
 have hix : (B b).data.toList.getD (Int.toNat 0) 0 = b.headD 0 := by rw [B_data]; cases b <;> rfl
 refine Grd.intro (fun h3 => ?_) (fun h3 => ?_)
 · have h3 : b.headD 0 = 48 := hix.symm.trans (UInt8.toNat_inj.1 (by have h : (((B b).data.toList.getD (Int.toNat 0) 0).toNat : Int) = 48 := of_decide_eq_true h3; exact Int.ofNat.inj h))
   refine Grd.intro (fun h4 => ?_) (fun h4 => ?_)
   · have h4 : 1 < b.length := by have h : (1 : Int) < (((B b).size : Nat) : Int) := of_decide_eq_true h4; rw [B_size] at h; omega
     rw [hn (hno (nbOk_no (.inr (.inl ⟨h3, .inl h4⟩))))]
     exact And.intro trivial (AVle.refl _)
   have h4 : ¬ 1 < b.length := by have h : ¬ (1 : Int) < (((B b).size : Nat) : Int) := of_decide_eq_false h4; rw [B_size] at h; omega
   rw [hn (hno (nbOk_no (.inr (.inl ⟨h3, .inr rfl⟩))))]
   exact And.intro trivial (AVle.refl _)
 · have h3 : b.headD 0 ≠ 48 := fun e => (of_decide_eq_false (p := ((((B b).data.toList.getD (Int.toNat 0) 0).toNat : Nat) : Int) = 48) h3) (by rw [hix, e]; rfl)
   have hgood : b.all dig = true → R = .tup [.int .i64 ((-1) * (numB 0 b : Int)), .bool true] := fun h => (hy (hk.1.trans (nbOk_iff.2 ⟨hb0, hb2, (fun e => absurd e h3), h⟩))).trans (congrArg (fun z => AV.tup [AV.int .i64 z, AV.bool true]) (by omega))
   refine LoopC.mk (fun i : Nat => i ≤ b.length ∧ (b.take i).all dig = true ∧ numB 0 (b.take i) < 10 ^ i) (fun i => [(0, .str (B b)), (4, .int .i64 (-1)), (5, .int .i64 (numB 0 (b.take i))), (6, .int .i64 i)]) (fun _ => []) 0 (fun i => b.length - i) 0
    ⟨⟨by omega, rfl, Nat.one_pos⟩, [], rfl, rfl, ⟨AVle.refl _, AVle.refl _, AVle.refl _, AVle.refl _, trivial⟩, trivial⟩ ?_
   intro i hi
   obtain ⟨hi1, hi2, hi3⟩ := hi
   refine Grd.intro (fun h5 => ?_) (fun h5 => ?_)
   · have hin : i < b.length := by have h : (i : Int) < (((B b).size : Nat) : Int) := of_decide_eq_true h5; rw [B_size] at h; omega
     have hp := pow_le18 (i := i) (by omega)
     have bad : dig (ix b i) = false → R = .tup [.int .i64 0, .bool false] := fun h => hn (hno (nbOk_no (.inr (.inr (by
      rw [← Bool.not_eq_true]
      intro h'
      rw [List.all_eq_true.1 h' _ (getD_mem hin)] at h; cases h)))))
     refine And.intro ⟨by omega, by rw [B_size]; omega⟩ ?_
     refine Grd.intro (fun h6 => ?_) (fun h6 => ?_)
     · have h6 : ((ix b i).toNat : Int) < 48 := of_decide_eq_true h6
       rw [bad (decide_eq_false (by omega))]
       exact And.intro trivial (AVle.refl _)
     have h6 : ¬ ((ix b i).toNat : Int) < 48 := of_decide_eq_false h6
     refine And.intro ⟨by omega, by rw [B_size]; omega⟩ ?_
     refine Grd.intro (fun h7 => ?_) (fun h7 => ?_)
     · have h7 : (57 : Int) < ((ix b i).toNat : Int) := of_decide_eq_true h7
       rw [bad (decide_eq_false (by omega))]
       exact And.intro trivial (AVle.refl _)
     have h7 : ¬ (57 : Int) < ((ix b i).toNat : Int) := of_decide_eq_false h7
     have hd : dig (ix b i) = true := decide_eq_true (by omega)
     have hnt := numB_take hin
     refine And.intro (inI64 (by omega) (by omega)) ?_
     refine And.intro ⟨by omega, by rw [B_size]; omega⟩ ?_
     refine And.intro (show inI .i64 ((ix b i).toNat : Int) from inI64 (by omega) (by omega)) ?_
     refine And.intro (show inI .i64 ((numB 0 (b.take i) : Int) * 10 + ((ix b i).toNat : Int)) from inI64 (by omega) (by omega)) ?_
     refine And.intro (show inI .i64 ((numB 0 (b.take i) : Int) * 10 + ((ix b i).toNat : Int) - 48) from inI64 (by omega) (by omega)) ?_
     refine And.intro (inI64 (by omega) (by omega)) ?_
     refine ⟨i + 1, ⟨hin, ?_, ?_⟩, by omega, [], rfl, rfl, ⟨AVle.refl _, AVle.refl _, AVle.of_eq (congrArg (AV.int .i64) (show (numB 0 (b.take i) : Int) * 10 + ((ix b i).toNat : Int) - 48 = _ by rw [hnt]; omega)), AVle.of_eq (congrArg (AV.int .i64) (by simp)), trivial⟩, trivial⟩
     · rw [take_snoc hin, List.all_append, hi2]; simp [hd]
     · rw [hnt, Nat.pow_succ]; omega
   · have : i = b.length := by have h : ¬ (i : Int) < (((B b).size : Nat) : Int) := of_decide_eq_false h5; rw [B_size] at h; omega
     subst this
     rw [List.take_of_length_le (Nat.le_refl _)] at hi2
     have hN := numB_18 hi2 hb2
     have e : b.take b.length = b := List.take_of_length_le (Nat.le_refl _)
     refine And.intro (show inI .i64 ((-1) * (numB 0 (b.take b.length) : Int)) from inI64 (by rw [e]; omega) (by rw [e]; omega)) ?_
     rw [hgood hi2]
     exact And.intro trivial (AVle.of_eq (congrArg (fun z => AV.tup [AV.int .i64 z, AV.bool true]) (show (-1) * (numB 0 (b.take b.length) : Int) = _ by rw [e])))
theorem l00Pos_fn (b : List UInt8) (hl : b.length ≤ 1000000000) (hb0 : b ≠ []) (hh : b.headD 0 ≠ 45) (R : AV) (hy : numOk b = true → R = .tup [.int .i64 (numB 0 b : Int), .bool true]) (hn : numOk b = false → R = .tup [.int .i64 0, .bool false]) : VFn Tryz.prog 192 [.str (B b)] R := by
 have hk := numOk_pos hh
 have hlen : 1 ≤ b.length := by cases hbb : b with | nil => exact absurd hbb hb0 | cons _ _ => simp
 refine VFn.introC Tryz.call192 Tryz.func192 rfl rfl ?_
 refine Grd.intro (fun g1 => ?_) (fun g1 => absurd (of_decide_eq_false (p := (0 : Int) < (((B b).size : Nat) : Int)) g1) (fun h => h (by rw [B_size]; omega)))
 refine And.intro ⟨by omega, by rw [B_size]; omega⟩ ?_
 have hix : (B b).data.toList.getD (Int.toNat 0) 0 = b.headD 0 := by rw [B_data]; cases b <;> rfl
 refine Grd.intro (fun g2 => absurd (hix.symm.trans (UInt8.toNat_inj.1 (by have h : (((B b).data.toList.getD (Int.toNat 0) 0).toNat : Int) = 45 := of_decide_eq_true g2; exact Int.ofNat.inj h))) hh) (fun g2 => ?_)
 have hno : nbOk false b = false → numOk b = false := fun h => hk.1.trans h
 refine Grd.intro (fun h1 => ?_) (fun h1 => ?_)
 · have hb0' : b = [] := by have h : (((B b).size : Nat) : Int) = 0 := of_decide_eq_true h1; rw [B_size] at h; exact List.length_eq_zero_iff.1 (by omega)
   exact absurd hb0' hb0
 have hb1 : 1 ≤ b.length := by cases hbb : b with | nil => exact absurd hbb hb0 | cons _ _ => simp
 refine Grd.intro (fun h2 => ?_) (fun h2 => ?_)
 · have hb2 : 18 < b.length := by have h : (18 : Int) < (((B b).size : Nat) : Int) := of_decide_eq_true h2; rw [B_size] at h; omega
   rw [hn (hno (nbOk_no (.inl hb2)))]
   exact And.intro trivial (AVle.refl _)
 have hb2 : b.length ≤ 18 := by have h : ¬ (18 : Int) < (((B b).size : Nat) : Int) := of_decide_eq_false h2; rw [B_size] at h; omega
 refine And.intro ⟨by omega, by rw [B_size]; omega⟩ ?_
 have hix : (B b).data.toList.getD (Int.toNat 0) 0 = b.headD 0 := by rw [B_data]; cases b <;> rfl
 refine Grd.intro (fun h3 => ?_) (fun h3 => ?_)
 · have h3 : b.headD 0 = 48 := hix.symm.trans (UInt8.toNat_inj.1 (by have h : (((B b).data.toList.getD (Int.toNat 0) 0).toNat : Int) = 48 := of_decide_eq_true h3; exact Int.ofNat.inj h))
   refine Grd.intro (fun h4 => ?_) (fun h4 => ?_)
   · have h4 : 1 < b.length := by have h : (1 : Int) < (((B b).size : Nat) : Int) := of_decide_eq_true h4; rw [B_size] at h; omega
     rw [hn (hno (nbOk_no (.inr (.inl ⟨h3, .inl h4⟩))))]
     exact And.intro trivial (AVle.refl _)
   have h4 : ¬ 1 < b.length := by have h : ¬ (1 : Int) < (((B b).size : Nat) : Int) := of_decide_eq_false h4; rw [B_size] at h; omega
   have hgood : b.all dig = true → R = .tup [.int .i64 (1 * (numB 0 b : Int)), .bool true] := fun h => (hy (hk.1.trans (nbOk_iff.2 ⟨hb0, hb2, (fun _ => ⟨h4, rfl⟩), h⟩))).trans (congrArg (fun z => AV.tup [AV.int .i64 z, AV.bool true]) (by omega))
   refine LoopC.mk (fun i : Nat => i ≤ b.length ∧ (b.take i).all dig = true ∧ numB 0 (b.take i) < 10 ^ i) (fun i => [(0, .str (B b)), (4, .int .i64 1), (5, .int .i64 (numB 0 (b.take i))), (6, .int .i64 i)]) (fun _ => []) 0 (fun i => b.length - i) 0
    ⟨⟨by omega, rfl, Nat.one_pos⟩, [], rfl, rfl, ⟨AVle.refl _, AVle.refl _, AVle.refl _, AVle.refl _, trivial⟩, trivial⟩ ?_
   intro i hi
   obtain ⟨hi1, hi2, hi3⟩ := hi
   refine Grd.intro (fun h5 => ?_) (fun h5 => ?_)
   · have hin : i < b.length := by have h : (i : Int) < (((B b).size : Nat) : Int) := of_decide_eq_true h5; rw [B_size] at h; omega
     have hp := pow_le18 (i := i) (by omega)
     have bad : dig (ix b i) = false → R = .tup [.int .i64 0, .bool false] := fun h => hn (hno (nbOk_no (.inr (.inr (by
      rw [← Bool.not_eq_true]
      intro h'
      rw [List.all_eq_true.1 h' _ (getD_mem hin)] at h; cases h)))))
     refine And.intro ⟨by omega, by rw [B_size]; omega⟩ ?_
     refine Grd.intro (fun h6 => ?_) (fun h6 => ?_)
     · have h6 : ((ix b i).toNat : Int) < 48 := of_decide_eq_true h6
       rw [bad (decide_eq_false (by omega))]
       exact And.intro trivial (AVle.refl _)
     have h6 : ¬ ((ix b i).toNat : Int) < 48 := of_decide_eq_false h6
     refine And.intro ⟨by omega, by rw [B_size]; omega⟩ ?_
     refine Grd.intro (fun h7 => ?_) (fun h7 => ?_)
     · have h7 : (57 : Int) < ((ix b i).toNat : Int) := of_decide_eq_true h7
       rw [bad (decide_eq_false (by omega))]
       exact And.intro trivial (AVle.refl _)
     have h7 : ¬ (57 : Int) < ((ix b i).toNat : Int) := of_decide_eq_false h7
     have hd : dig (ix b i) = true := decide_eq_true (by omega)
     have hnt := numB_take hin
     refine And.intro (inI64 (by omega) (by omega)) ?_
     refine And.intro ⟨by omega, by rw [B_size]; omega⟩ ?_
     refine And.intro (show inI .i64 ((ix b i).toNat : Int) from inI64 (by omega) (by omega)) ?_
     refine And.intro (show inI .i64 ((numB 0 (b.take i) : Int) * 10 + ((ix b i).toNat : Int)) from inI64 (by omega) (by omega)) ?_
     refine And.intro (show inI .i64 ((numB 0 (b.take i) : Int) * 10 + ((ix b i).toNat : Int) - 48) from inI64 (by omega) (by omega)) ?_
     refine And.intro (inI64 (by omega) (by omega)) ?_
     refine ⟨i + 1, ⟨hin, ?_, ?_⟩, by omega, [], rfl, rfl, ⟨AVle.refl _, AVle.refl _, AVle.of_eq (congrArg (AV.int .i64) (show (numB 0 (b.take i) : Int) * 10 + ((ix b i).toNat : Int) - 48 = _ by rw [hnt]; omega)), AVle.of_eq (congrArg (AV.int .i64) (by simp)), trivial⟩, trivial⟩
     · rw [take_snoc hin, List.all_append, hi2]; simp [hd]
     · rw [hnt, Nat.pow_succ]; omega
   · have : i = b.length := by have h : ¬ (i : Int) < (((B b).size : Nat) : Int) := of_decide_eq_false h5; rw [B_size] at h; omega
     subst this
     rw [List.take_of_length_le (Nat.le_refl _)] at hi2
     have hN := numB_18 hi2 hb2
     have e : b.take b.length = b := List.take_of_length_le (Nat.le_refl _)
     refine And.intro (show inI .i64 (1 * (numB 0 (b.take b.length) : Int)) from inI64 (by rw [e]; omega) (by rw [e]; omega)) ?_
     rw [hgood hi2]
     exact And.intro trivial (AVle.of_eq (congrArg (fun z => AV.tup [AV.int .i64 z, AV.bool true]) (show 1 * (numB 0 (b.take b.length) : Int) = _ by rw [e])))
 · have h3 : b.headD 0 ≠ 48 := fun e => (of_decide_eq_false (p := ((((B b).data.toList.getD (Int.toNat 0) 0).toNat : Nat) : Int) = 48) h3) (by rw [hix, e]; rfl)
   have hgood : b.all dig = true → R = .tup [.int .i64 (1 * (numB 0 b : Int)), .bool true] := fun h => (hy (hk.1.trans (nbOk_iff.2 ⟨hb0, hb2, (fun e => absurd e h3), h⟩))).trans (congrArg (fun z => AV.tup [AV.int .i64 z, AV.bool true]) (by omega))
   refine LoopC.mk (fun i : Nat => i ≤ b.length ∧ (b.take i).all dig = true ∧ numB 0 (b.take i) < 10 ^ i) (fun i => [(0, .str (B b)), (4, .int .i64 1), (5, .int .i64 (numB 0 (b.take i))), (6, .int .i64 i)]) (fun _ => []) 0 (fun i => b.length - i) 0
    ⟨⟨by omega, rfl, Nat.one_pos⟩, [], rfl, rfl, ⟨AVle.refl _, AVle.refl _, AVle.refl _, AVle.refl _, trivial⟩, trivial⟩ ?_
   intro i hi
   obtain ⟨hi1, hi2, hi3⟩ := hi
   refine Grd.intro (fun h5 => ?_) (fun h5 => ?_)
   · have hin : i < b.length := by have h : (i : Int) < (((B b).size : Nat) : Int) := of_decide_eq_true h5; rw [B_size] at h; omega
     have hp := pow_le18 (i := i) (by omega)
     have bad : dig (ix b i) = false → R = .tup [.int .i64 0, .bool false] := fun h => hn (hno (nbOk_no (.inr (.inr (by
      rw [← Bool.not_eq_true]
      intro h'
      rw [List.all_eq_true.1 h' _ (getD_mem hin)] at h; cases h)))))
     refine And.intro ⟨by omega, by rw [B_size]; omega⟩ ?_
     refine Grd.intro (fun h6 => ?_) (fun h6 => ?_)
     · have h6 : ((ix b i).toNat : Int) < 48 := of_decide_eq_true h6
       rw [bad (decide_eq_false (by omega))]
       exact And.intro trivial (AVle.refl _)
     have h6 : ¬ ((ix b i).toNat : Int) < 48 := of_decide_eq_false h6
     refine And.intro ⟨by omega, by rw [B_size]; omega⟩ ?_
     refine Grd.intro (fun h7 => ?_) (fun h7 => ?_)
     · have h7 : (57 : Int) < ((ix b i).toNat : Int) := of_decide_eq_true h7
       rw [bad (decide_eq_false (by omega))]
       exact And.intro trivial (AVle.refl _)
     have h7 : ¬ (57 : Int) < ((ix b i).toNat : Int) := of_decide_eq_false h7
     have hd : dig (ix b i) = true := decide_eq_true (by omega)
     have hnt := numB_take hin
     refine And.intro (inI64 (by omega) (by omega)) ?_
     refine And.intro ⟨by omega, by rw [B_size]; omega⟩ ?_
     refine And.intro (show inI .i64 ((ix b i).toNat : Int) from inI64 (by omega) (by omega)) ?_
     refine And.intro (show inI .i64 ((numB 0 (b.take i) : Int) * 10 + ((ix b i).toNat : Int)) from inI64 (by omega) (by omega)) ?_
     refine And.intro (show inI .i64 ((numB 0 (b.take i) : Int) * 10 + ((ix b i).toNat : Int) - 48) from inI64 (by omega) (by omega)) ?_
     refine And.intro (inI64 (by omega) (by omega)) ?_
     refine ⟨i + 1, ⟨hin, ?_, ?_⟩, by omega, [], rfl, rfl, ⟨AVle.refl _, AVle.refl _, AVle.of_eq (congrArg (AV.int .i64) (show (numB 0 (b.take i) : Int) * 10 + ((ix b i).toNat : Int) - 48 = _ by rw [hnt]; omega)), AVle.of_eq (congrArg (AV.int .i64) (by simp)), trivial⟩, trivial⟩
     · rw [take_snoc hin, List.all_append, hi2]; simp [hd]
     · rw [hnt, Nat.pow_succ]; omega
   · have : i = b.length := by have h : ¬ (i : Int) < (((B b).size : Nat) : Int) := of_decide_eq_false h5; rw [B_size] at h; omega
     subst this
     rw [List.take_of_length_le (Nat.le_refl _)] at hi2
     have hN := numB_18 hi2 hb2
     have e : b.take b.length = b := List.take_of_length_le (Nat.le_refl _)
     refine And.intro (show inI .i64 (1 * (numB 0 (b.take b.length) : Int)) from inI64 (by rw [e]; omega) (by rw [e]; omega)) ?_
     rw [hgood hi2]
     exact And.intro trivial (AVle.of_eq (congrArg (fun z => AV.tup [AV.int .i64 z, AV.bool true]) (show 1 * (numB 0 (b.take b.length) : Int) = _ by rw [e])))
theorem l00Nil_fn : VFn Tryz.prog 192 [.str (B [])] (.tup [.int .i64 0, .bool false]) := by
 refine VFn.introC Tryz.call192 Tryz.func192 rfl rfl ?_
 exact And.intro trivial (AVle.refl _)
theorem l00Min_fn : VFn Tryz.prog 192 [.str (B [45])] (.tup [.int .i64 0, .bool false]) := by
 refine VFn.introC Tryz.call192 Tryz.func192 rfl rfl ?_
 refine And.intro ⟨by decide, by decide⟩ ?_
 refine And.intro ⟨by decide, by decide⟩ ?_
 exact And.intro trivial (AVle.refl _)
theorem l00Number_fn (t : List UInt8) (hl : t.length ≤ 1000000000) : VFn Tryz.prog 192 [.str (B t)] (.tup [.int .i64 (if numOk t = true then atoiV t else 0), .bool (numOk t)]) := by
 cases t with
 | nil => rw [show numOk [] = false by decide]; exact l00Nil_fn
 | cons c b =>
   by_cases hc : c = 45
   · subst hc
     by_cases hb : b = []
     · subst hb; rw [show numOk [45] = false by decide]; exact l00Min_fn
     · exact l00Neg_fn b (by simp at hl; omega) hb _ (fun h => by rw [h, if_pos rfl, (numOk_neg b).2 h]) (fun h => by rw [h, if_neg (by simp)])
   · exact l00Pos_fn (c :: b) hl (by simp) hc _ (fun h => by rw [h, if_pos rfl, (numOk_pos (t := c :: b) hc).2 h]) (fun h => by rw [h, if_neg (by simp)])
end Go.Proofs.YtigbaclopbcjnaaGreatDoor
