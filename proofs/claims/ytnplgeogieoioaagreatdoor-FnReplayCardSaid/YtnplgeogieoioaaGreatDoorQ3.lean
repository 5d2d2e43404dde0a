/- Contracts of functions that the claim reaches, and the plain law of what they compute; each theorem bears its own conditions. -/
import Derived.Test.YtnplgeogieoioaaGreatDoorQ2
import Derived.Test.YtnplgeogieoioaaGreatDoorV52
import Derived.Test.YtnplgeogieoioaaGreatDoorQ1
set_option linter.unusedVariables false
set_option linter.constructorNameAsVariable false
set_option linter.unusedSimpArgs false
set_option maxRecDepth 20000
namespace Go.Proofs.YtnplgeogieoioaaGreatDoor
open Go Go.Vw
theorem specKeyOK_fn (k : List UInt8) (hk : k.length ≤ 1000000000) : VFn Tryz.prog 127 [.str (B k)] (.bool (keyOK k)) := by
 obtain ⟨R, hR⟩ : ∃ R, R = keyOK k := ⟨_, rfl⟩
 rw [← hR]
 refine VFn.introC Tryz.call127 Tryz.func127 rfl rfl ?_
 refine Grd.intro (fun h0 => ?_) (fun h0 => ?_)
 · have h0 : 65536 < k.length := by
    have := of_decide_eq_true (show decide ((65536 : Int) < (((B k).size : Nat) : Int)) = true from h0)
    rw [B_size] at this; omega
   have hw : within k.length 1 30 = false := by unfold within; simp; omega
   rw [hR, show keyOK k = false by unfold keyOK; rw [hw]; simp]
   exact And.intro trivial (AVle.refl _)
 refine LoopC.mk (fun i : Nat => i ≤ k.length ∧ ∀ j, j < i → keyC (k.getD j 0) = true) (fun i => [(0, .str (B k)), (3, .int .i64 i)]) (fun _ => []) 0 (fun i => k.length - i) 0
  ⟨⟨Nat.zero_le _, fun j hj => absurd hj (Nat.not_lt_zero j)⟩, [], rfl, rfl, ⟨AVle.refl _, AVle.refl _, trivial⟩, trivial⟩ ?_
 intro i hi
 have hsz : (((B k).size : Nat) : Int) = k.length := by rw [B_size]
 refine Grd.intro (fun h2 => ?_) (fun h2 => ?_)
 · have hin : i < k.length := by have := of_decide_eq_true h2; omega
   refine And.intro ⟨by omega, by omega⟩ ?_
   have hbad : keyC (k.getD i 0) = false → false = R := fun h => by rw [hR, keyOK_bad hin h]
   have hgood : keyC (k.getD i 0) = true → ∀ j, j < i + 1 → keyC (k.getD j 0) = true := fun h j hj => by
    rcases Nat.lt_or_ge j i with h' | h'
    · exact hi.2 j h'
    · rw [show j = i by omega]; exact h
   have hx : k.getD i 0 = (B k).data.toList.getD (i : Int).toNat 0 := rfl
   generalize (B k).data.toList.getD (i : Int).toNat 0 = c at hx ⊢
   rw [hx] at hbad hgood
   unfold keyC at hbad
   have hgood : ((decide (97 ≤ (c.toNat : Int)) && decide ((c.toNat : Int) ≤ 122)) || (decide (48 ≤ (c.toNat : Int)) && decide ((c.toNat : Int) ≤ 57)) || decide ((c.toNat : Int) = 47) || decide ((c.toNat : Int) = 45)) = true → ∀ j, j < i + 1 → keyC (k.getD j 0) = true := hgood
   conv => whnf
   refine CallC.sca _ (l00Digit_fn c) ?_ ?_
   · exact rfl
   have hd : dig c = (decide (48 ≤ (c.toNat : Int)) && decide ((c.toNat : Int) ≤ 57)) := by unfold dig; rw [Bool.eq_iff_iff]; simp; omega
   rw [hd]
   generalize c.toNat = c at *
   repeat' (first
    | refine Grd.intro (fun h => ?_) (fun h => ?_)
    | ((conv => whnf); refine Grd.intro (fun h => ?_) (fun h => ?_)))
   all_goals first
    | exact And.intro trivial (AVle.of_eq (congrArg AV.bool (hbad (by simp_all; omega))))
    | exact And.intro trivial (AVle.of_eq (congrArg AV.bool (hbad (by simp_all))))
    | (refine And.intro (inI64 (by omega) (by omega)) ?_
       exact ⟨i + 1, ⟨hin, hgood (by simp_all; omega)⟩, by omega, [], rfl, rfl, ⟨AVle.refl _, AVle.of_eq (congrArg (AV.int .i64) (by simp)), trivial⟩, trivial⟩)
    | (refine And.intro (inI64 (by omega) (by omega)) ?_
       exact ⟨i + 1, ⟨hin, hgood (by simp_all)⟩, by omega, [], rfl, rfl, ⟨AVle.refl _, AVle.of_eq (congrArg (AV.int .i64) (by simp)), trivial⟩, trivial⟩)
 · have : i = k.length := by have := of_decide_eq_false h2; omega
   subst this
   conv => whnf
   refine CallC.sca _ (l01In_fn _ _ _) ?_ ?_
   · exact rfl
   rw [hR, keyOK_all hi.2]
   exact And.intro trivial (AVle.of_eq (congrArg AV.bool (show within ((B k).size : Nat) 1 30 = _ by rw [B_size])))
theorem l01In_lo : VFn Tryz.prog 71 [.lo, .int .i64 1, .int .i64 1000000000] (.bool false) := by
 refine VFn.introC Tryz.call71 Tryz.func71 rfl rfl ?_
 exact And.intro trivial (AVle.refl _)
theorem specStoreOK_lo (os : List Ob) (hL : os.length ≤ 1000000000) (hk : ∀ o ∈ os, o.key.length ≤ 1000000000) : VFn Tryz.prog 61 [.agg [obs os, .lo]] (.bool false) := by
 refine VFn.introC Tryz.call61 Tryz.func61 rfl rfl ?_
 refine LoopC.mk (fun i : Nat => i ≤ os.length) (fun i => [(1, .bptr 0 0), (3, .int .i64 i)]) (fun i => [(0, .box [obs os, .lo])]) 1 (fun i => os.length - i) 0
  ⟨Nat.zero_le _, [(0, 0)], rfl, rfl, ⟨AVle.refl _, AVle.refl _, trivial⟩, ⟨MOle.refl _, trivial⟩⟩ ?_
 intro i hi
 refine Grd.intro (fun h3 => ?_) (fun h3 => ?_)
 · have hin : i < os.length := by have := of_decide_eq_true h3; omega
   refine And.intro (by omega) ?_
   refine DrawC.mq 35 rfl (by kernel_rfl) ?_
   refine PCallQ.sca _ (specKeyOK_fn (ix os i).key (hk _ (getD_mem hin))) rfl ?_
   refine Grd.intro (fun g1 => ?_) (fun g1 => ?_)
   · exact And.intro trivial (AVle.refl _)
   refine And.intro ⟨by omega, by omega⟩ ?_
   refine PCallQ.sca _ (l01In_fn (ix os i).ver 1 (9223372036854775808 - 1)) rfl ?_
   conv => whnf
   refine Grd.intro (fun g2 => ?_) (fun g2 => ?_)
   · exact And.intro trivial (AVle.refl _)
   conv => whnf
   refine Grd.intro (fun g3 => ?_) (fun g3 => ?_)
   · exact And.intro trivial (AVle.refl _)
   conv => whnf
   refine Grd.intro (fun g5 => ?_) (fun g5 => ?_)
   · have h0 : 0 < i := by have := of_decide_eq_true g5; omega
     have e1 : ((i : Int) - 1).toNat = i - 1 := by omega
     refine And.intro (inI64 (by omega) (by omega)) ?_
     refine And.intro ⟨by omega, by omega⟩ ?_
     conv => whnf
     refine Grd.intro (fun g6 => ?_) (fun g6 => ?_)
     · exact And.intro trivial (AVle.refl _)
     refine LoopC.mk (fun j : Nat => j ≤ i) (fun j => [(1, .bptr 0 0), (3, .int .i64 i), (4, .bptr 1 0), (5, .int .i64 j)]) (fun j => [(0, .box [obs os, .lo]), (1, .box (ix os i).row)]) 2 (fun j => i - j) 0
      ⟨Nat.zero_le _, [(0, 0), (1, 1)], rfl, rfl, ⟨AVle.refl _, AVle.refl _, AVle.refl _, AVle.refl _, trivial⟩, ⟨MOle.refl _, MOle.refl _, trivial⟩⟩ ?_
     intro j hj
     refine Grd.intro (fun h6 => ?_) (fun h6 => ?_)
     · have hjn : j < i := by have := of_decide_eq_true h6; omega
       refine DrawC.mq 9 rfl (by kernel_rfl) ?_
       refine And.intro (by omega) ?_
       refine Grd.intro (fun h7 => ?_) (fun h7 => ?_)
       · exact And.intro trivial (AVle.refl _)
       · refine And.intro (inI64 (by omega) (by omega)) ?_
         exact ⟨j + 1, hjn, by omega, [(0, 0), (1, 1)], rfl, rfl, ⟨AVle.refl _, AVle.refl _, AVle.refl _, AVle.of_eq (congrArg (AV.int .i64) (by simp)), trivial⟩, ⟨MOle.refl _, MOle.refl _, trivial⟩⟩
     · refine And.intro (inI64 (by omega) (by omega)) ?_
       exact ⟨i + 1, hin, by omega, [(0, 0)], rfl, rfl, ⟨AVle.refl _, AVle.of_eq (congrArg (AV.int .i64) (by simp)), trivial⟩, ⟨MOle.refl _, trivial⟩⟩
   · have h0 : i = 0 := by have := of_decide_eq_false g5; omega
     refine LoopC.mk (fun j : Nat => j ≤ i) (fun j => [(1, .bptr 0 0), (3, .int .i64 i), (4, .bptr 1 0), (5, .int .i64 j)]) (fun j => [(0, .box [obs os, .lo]), (1, .box (ix os i).row)]) 2 (fun j => i - j) 0
      ⟨Nat.zero_le _, [(0, 0), (1, 1)], rfl, rfl, ⟨AVle.refl _, AVle.refl _, AVle.refl _, AVle.refl _, trivial⟩, ⟨MOle.refl _, MOle.refl _, trivial⟩⟩ ?_
     intro j hj
     refine Grd.intro (fun h6 => ?_) (fun h6 => ?_)
     · have hjn : j < i := by have := of_decide_eq_true h6; omega
       refine DrawC.mq 9 rfl (by kernel_rfl) ?_
       refine And.intro (by omega) ?_
       refine Grd.intro (fun h7 => ?_) (fun h7 => ?_)
       · exact And.intro trivial (AVle.refl _)
       · refine And.intro (inI64 (by omega) (by omega)) ?_
         exact ⟨j + 1, hjn, by omega, [(0, 0), (1, 1)], rfl, rfl, ⟨AVle.refl _, AVle.refl _, AVle.refl _, AVle.of_eq (congrArg (AV.int .i64) (by simp)), trivial⟩, ⟨MOle.refl _, MOle.refl _, trivial⟩⟩
     · refine And.intro (inI64 (by omega) (by omega)) ?_
       exact ⟨i + 1, hin, by omega, [(0, 0)], rfl, rfl, ⟨AVle.refl _, AVle.of_eq (congrArg (AV.int .i64) (by simp)), trivial⟩, ⟨MOle.refl _, trivial⟩⟩
 · refine Grd.intro (fun _ => ?_) (fun _ => ?_)
   · conv => whnf
     refine CallC.sca _ (l01In_lo) ?_ ?_
     · exact rfl
     exact And.intro trivial (AVle.refl _)
   · exact And.intro trivial (AVle.refl _)
theorem specStoreOK_hi (s : Sto) (hL : s.os.length ≤ 1000000000) (hk : ∀ o ∈ s.os, o.key.length ≤ 1000000000) (hn : -9223372036854775807 ≤ s.next ∧ s.next ≤ 9223372036854775807) : VFn Tryz.prog 61 [s.av] (.bool s.ok) := by
 refine VFn.introC Tryz.call61 Tryz.func61 rfl rfl ?_
 refine LoopC.mk (fun i : Nat => i ≤ s.os.length ∧ ∀ j, j < i → s.eOK j = true) (fun i => [(1, .bptr 0 0), (3, .int .i64 i)]) (fun i => [(0, .box s.row)]) 1 (fun i => s.os.length - i) 0
  ⟨⟨Nat.zero_le _, fun j hj => absurd hj (Nat.not_lt_zero j)⟩, [(0, 0)], rfl, rfl, ⟨AVle.refl _, AVle.refl _, trivial⟩, ⟨MOle.refl _, trivial⟩⟩ ?_
 intro i hi
 obtain ⟨hi, hall⟩ := hi
 refine Grd.intro (fun h3 => ?_) (fun h3 => ?_)
 · have hin : i < s.os.length := by have := of_decide_eq_true h3; omega
   have hbad : s.eOK i = false → s.ok = false := Sto.ok_no hin
   refine And.intro (by omega) ?_
   refine DrawC.mq 35 rfl (by kernel_rfl) ?_
   refine PCallQ.sca _ (specKeyOK_fn (ix s.os i).key (hk _ (getD_mem hin))) rfl ?_
   refine Grd.intro (fun g1 => ?_) (fun g1 => ?_)
   · rw [hbad (by unfold Sto.eOK; rw [wnot g1]; rfl)]
     exact And.intro trivial (AVle.refl _)
   refine And.intro (inI64 (by omega) (by omega)) ?_
   refine PCallQ.sca _ (l01In_fn (ix s.os i).ver 1 (s.next - 1)) rfl ?_
   conv => whnf
   refine Grd.intro (fun g2 => ?_) (fun g2 => ?_)
   · rw [hbad (by unfold Sto.eOK; rw [show within (ix s.os i).ver 1 (s.next - 1) = false from wnot g2]; simp)]
     exact And.intro trivial (AVle.refl _)
   conv => whnf
   refine Grd.intro (fun g3 => ?_) (fun g3 => ?_)
   · have g3 : ¬ (ix s.os i).data.length ≤ 600 := by
      have := of_decide_eq_true (show decide ((600 : Int) < (((B (ix s.os i).data).size : Nat) : Int)) = true from g3)
      rw [B_size] at this; omega
     rw [hbad (by unfold Sto.eOK; rw [decide_eq_false g3]; simp)]
     exact And.intro trivial (AVle.refl _)
   have g3 : (ix s.os i).data.length ≤ 600 := by
    have := of_decide_eq_false (show decide ((600 : Int) < (((B (ix s.os i).data).size : Nat) : Int)) = false from g3)
    rw [B_size] at this; omega
   have hpre : (!decide ((ix s.os i).ver ∈ (s.os.take i).map (·.ver))) = true → (decide (i = 0) || decide ((ix s.os (i - 1)).key < (ix s.os i).key)) = true → s.eOK i = true := fun h h' => by
    unfold Sto.eOK; rw [wyes g1, show within (ix s.os i).ver 1 (s.next - 1) = true from wyes g2, decide_eq_true g3, h, h']; rfl
   have hnext : s.eOK i = true → ∀ j, j < i + 1 → s.eOK j = true := fun h j hj => by
    rcases Nat.lt_or_ge j i with h' | h'
    · exact hall j h'
    · rw [show j = i by omega]; exact h
   conv => whnf
   refine Grd.intro (fun g5 => ?_) (fun g5 => ?_)
   · have h0 : 0 < i := by have := of_decide_eq_true g5; omega
     have e1 : ((i : Int) - 1).toNat = i - 1 := by omega
     refine And.intro (inI64 (by omega) (by omega)) ?_
     refine And.intro ⟨by omega, by omega⟩ ?_
     conv => whnf
     have hcmp : (!Op.bytesLess (B (ix s.os ((i : Int) - 1).toNat).key).toList (B (ix s.os i).key).toList) = !decide ((ix s.os (i - 1)).key < (ix s.os i).key) := by rw [blt_lt, e1]
     refine Grd.intro (fun g6 => ?_) (fun g6 => ?_)
     · have g6 := hcmp.symm.trans g6
       rw [hbad (by unfold Sto.eOK; rw [show decide ((ix s.os (i - 1)).key < (ix s.os i).key) = false from wnot g6, decide_eq_false (show ¬ i = 0 by omega)]; simp)]
       exact And.intro trivial (AVle.refl _)
     have g6 := hcmp.symm.trans g6
     have hkey : (decide (i = 0) || decide ((ix s.os (i - 1)).key < (ix s.os i).key)) = true := by rw [show decide ((ix s.os (i - 1)).key < (ix s.os i).key) = true from wyes g6]; simp
     refine LoopC.mk (fun j : Nat => j ≤ i ∧ ∀ q, q < j → (ix s.os q).ver ≠ (ix s.os i).ver) (fun j => [(1, .bptr 0 0), (3, .int .i64 i), (4, .bptr 1 0), (5, .int .i64 j)]) (fun j => [(0, .box s.row), (1, .box (ix s.os i).row)]) 2 (fun j => i - j) 0
      ⟨⟨Nat.zero_le _, fun q hq => absurd hq (Nat.not_lt_zero q)⟩, [(0, 0), (1, 1)], rfl, rfl, ⟨AVle.refl _, AVle.refl _, AVle.refl _, AVle.refl _, trivial⟩, ⟨MOle.refl _, MOle.refl _, trivial⟩⟩ ?_
     intro j hj
     obtain ⟨hj, hv⟩ := hj
     refine Grd.intro (fun h6 => ?_) (fun h6 => ?_)
     · have hjn : j < i := by have := of_decide_eq_true h6; omega
       refine DrawC.mq 9 rfl (by kernel_rfl) ?_
       refine And.intro (by omega) ?_
       refine Grd.intro (fun h7 => ?_) (fun h7 => ?_)
       · have h7 : (ix s.os j).ver = (ix s.os i).ver := of_decide_eq_true h7
         have hm : (ix s.os i).ver ∈ (s.os.take i).map (·.ver) := List.mem_map.2 ⟨ix s.os j, by rw [← ix_take hjn]; exact getD_mem (by simp; omega), h7⟩
         rw [hbad (by unfold Sto.eOK; rw [decide_eq_true hm]; simp)]
         exact And.intro trivial (AVle.refl _)
       · have h7 : (ix s.os j).ver ≠ (ix s.os i).ver := of_decide_eq_false h7
         refine And.intro (inI64 (by omega) (by omega)) ?_
         refine ⟨j + 1, ⟨hjn, fun q hq => ?_⟩, by omega, [(0, 0), (1, 1)], rfl, rfl, ⟨AVle.refl _, AVle.refl _, AVle.refl _, AVle.of_eq (congrArg (AV.int .i64) (by simp)), trivial⟩, ⟨MOle.refl _, MOle.refl _, trivial⟩⟩
         rcases Nat.lt_or_ge q j with h' | h'
         · exact hv q h'
         · rw [show q = j by omega]; exact h7
     · have : j = i := by have := of_decide_eq_false h6; omega
       subst this
       have hm : (ix s.os j).ver ∉ (s.os.take j).map (·.ver) := fun hm => by
        obtain ⟨o, ho, e⟩ := List.mem_map.1 hm
        obtain ⟨q, hq, e2⟩ := List.getElem_of_mem ho
        have hq' : q < j := by simp at hq; omega
        refine hv q hq' ?_
        rw [← e, ← e2, ix_lt (by omega)]; simp
       have he := hpre (by rw [decide_eq_false hm]; rfl) hkey
       refine And.intro (inI64 (by omega) (by omega)) ?_
       exact ⟨j + 1, ⟨hin, hnext he⟩, by omega, [(0, 0)], rfl, rfl, ⟨AVle.refl _, AVle.of_eq (congrArg (AV.int .i64) (by simp)), trivial⟩, ⟨MOle.refl _, trivial⟩⟩
   · have h0 : i = 0 := by have := of_decide_eq_false g5; omega
     have hkey : (decide (i = 0) || decide ((ix s.os (i - 1)).key < (ix s.os i).key)) = true := by rw [decide_eq_true h0]; rfl
     refine LoopC.mk (fun j : Nat => j ≤ i ∧ ∀ q, q < j → (ix s.os q).ver ≠ (ix s.os i).ver) (fun j => [(1, .bptr 0 0), (3, .int .i64 i), (4, .bptr 1 0), (5, .int .i64 j)]) (fun j => [(0, .box s.row), (1, .box (ix s.os i).row)]) 2 (fun j => i - j) 0
      ⟨⟨Nat.zero_le _, fun q hq => absurd hq (Nat.not_lt_zero q)⟩, [(0, 0), (1, 1)], rfl, rfl, ⟨AVle.refl _, AVle.refl _, AVle.refl _, AVle.refl _, trivial⟩, ⟨MOle.refl _, MOle.refl _, trivial⟩⟩ ?_
     intro j hj
     obtain ⟨hj, hv⟩ := hj
     refine Grd.intro (fun h6 => ?_) (fun h6 => ?_)
     · have hjn : j < i := by have := of_decide_eq_true h6; omega
       refine DrawC.mq 9 rfl (by kernel_rfl) ?_
       refine And.intro (by omega) ?_
       refine Grd.intro (fun h7 => ?_) (fun h7 => ?_)
       · have h7 : (ix s.os j).ver = (ix s.os i).ver := of_decide_eq_true h7
         have hm : (ix s.os i).ver ∈ (s.os.take i).map (·.ver) := List.mem_map.2 ⟨ix s.os j, by rw [← ix_take hjn]; exact getD_mem (by simp; omega), h7⟩
         rw [hbad (by unfold Sto.eOK; rw [decide_eq_true hm]; simp)]
         exact And.intro trivial (AVle.refl _)
       · have h7 : (ix s.os j).ver ≠ (ix s.os i).ver := of_decide_eq_false h7
         refine And.intro (inI64 (by omega) (by omega)) ?_
         refine ⟨j + 1, ⟨hjn, fun q hq => ?_⟩, by omega, [(0, 0), (1, 1)], rfl, rfl, ⟨AVle.refl _, AVle.refl _, AVle.refl _, AVle.of_eq (congrArg (AV.int .i64) (by simp)), trivial⟩, ⟨MOle.refl _, MOle.refl _, trivial⟩⟩
         rcases Nat.lt_or_ge q j with h' | h'
         · exact hv q h'
         · rw [show q = j by omega]; exact h7
     · have : j = i := by have := of_decide_eq_false h6; omega
       subst this
       have hm : (ix s.os j).ver ∉ (s.os.take j).map (·.ver) := fun hm => by
        obtain ⟨o, ho, e⟩ := List.mem_map.1 hm
        obtain ⟨q, hq, e2⟩ := List.getElem_of_mem ho
        have hq' : q < j := by simp at hq; omega
        refine hv q hq' ?_
        rw [← e, ← e2, ix_lt (by omega)]; simp
       have he := hpre (by rw [decide_eq_false hm]; rfl) hkey
       refine And.intro (inI64 (by omega) (by omega)) ?_
       exact ⟨j + 1, ⟨hin, hnext he⟩, by omega, [(0, 0)], rfl, rfl, ⟨AVle.refl _, AVle.of_eq (congrArg (AV.int .i64) (by simp)), trivial⟩, ⟨MOle.refl _, trivial⟩⟩
 · have : i = s.os.length := by have := of_decide_eq_false h3; omega
   subst this
   refine Grd.intro (fun h4 => ?_) (fun h4 => ?_)
   · have h4 : s.os.length ≤ 300 := by have := of_decide_eq_true h4; omega
     conv => whnf
     refine CallC.sca _ (l01In_fn s.next 1 1000000000) ?_ ?_
     · exact rfl
     refine And.intro trivial (AVle.of_eq (congrArg AV.bool (show within s.next 1 1000000000 = _ from ?_)))
     cases hw : within s.next 1 1000000000
     · unfold Sto.ok; rw [hw]; rfl
     · rw [Sto.ok_yes hw h4 hall]
   · have h4 : ¬ s.os.length ≤ 300 := by have := of_decide_eq_false h4; omega
     rw [show s.ok = false by unfold Sto.ok; rw [decide_eq_false h4]; simp]
     exact And.intro trivial (AVle.refl _)
theorem specStoreOK_ok (s : Sto) (hL : s.os.length ≤ 1000000000) (hk : ∀ o ∈ s.os, o.key.length ≤ 1000000000) (hn : -9223372036854775808 ≤ s.next ∧ s.next ≤ 9223372036854775807) : VFn Tryz.prog 61 [s.av] (.bool s.ok) := by
 by_cases h : s.next = -9223372036854775808
 · have h1 : within s.next 1 1000000000 = false := by rw [h]; rfl
   rw [show s.ok = false by unfold Sto.ok; rw [h1]; rfl]
   refine (specStoreOK_lo s.os hL hk).weak (AVsle.cons (AVle.agg (AVsle.cons (AVle.refl _) (AVsle.cons (fun w ok g v hv => ?_) AVsle.nil))) AVsle.nil) (AVle.refl _)
   have hv : v = .int .i64 s.next := hv
   rw [h] at hv
   exact hv
 · exact specStoreOK_hi s hL hk (by omega)
theorem force_to {x y : AV} {k : AV → Prop} (e : x = y) (h : y.force k) : x.force k := e ▸ h
theorem l01Own_fn (s : Sto) (hL : s.os.length ≤ 1000000) : VFn Tryz.prog 125 [s.av] s.av := by
 refine VFn.introC Tryz.call125 Tryz.func125 rfl rfl ?_
 refine And.intro ⟨show (0 + s.os.length) * 40 ≤ 140737488355328 by omega, fun i hi => rfl⟩ ?_
 refine And.intro trivial (AVle.agg (AVsle.cons (AVle.sl (Nat.zero_add _) fun i hi => ?_) (AVsle.cons (AVle.refl _) AVsle.nil)))
 rw [appRows_ge (Nat.zero_le _), Nat.sub_zero]
structure StoRd (s : Sto) : Prop where
 len : s.os.length ≤ 1048576
 key : ∀ o ∈ s.os, o.key.length ≤ 1000000000
 nxt : -9223372036854775808 ≤ s.next ∧ s.next ≤ 9223372036854775807
theorem first2_of (a b : Bool) (x y : Int) {n : Nat} {rows : Nat → List AV} (hr : FirstRows 4 3 rows 0 [(a, x), (b, y)]) (hn : n = 4) {r : Int} (h : (if a = true then x else if b = true then y else 0) = r) : VFn Tryz.prog 30 [.sl 1 n rows] (.int .i64 r) := by
 have e : firstC [(a, x), (b, y)] = r := by
  rw [← h]
  unfold firstC firstC firstC
  cases a <;> cases b <;> rfl
 rw [← e]
 exact first_of _ hr hn (show 2 ≤ 1000 by decide)
theorem set_len_le (s : Sto) (k d : List UInt8) : (s.set k d).os.length ≤ s.os.length + 1 := by rw [Sto.set_len]; split <;> omega
structure StoOK (s : Sto) : Prop where
 nx : 1 ≤ s.next ∧ s.next ≤ 1000000000
 len : s.os.length ≤ 300
 el : ∀ o ∈ s.os, keyOK o.key = true ∧ (1 ≤ o.ver ∧ o.ver ≤ s.next - 1) ∧ o.data.length ≤ 600
 vs : (s.os.map (·.ver)).Nodup
 ks : s.os.Pairwise fun a b => a.key < b.key
theorem pw_srt {L : List Ob} : (L.Pairwise fun a b => a.key < b.key) ↔ Srt L := by
 constructor
 · intro h i hi
   have := List.pairwise_iff_getElem.1 h i (i + 1) (by omega) hi (by omega)
   rw [ix_lt (by omega), ix_lt hi]; exact this
 · intro h
   refine List.pairwise_iff_getElem.2 fun i j hi hj hij => ?_
   have := h.lt hij hj
   rw [ix_lt hi, ix_lt hj] at this; exact this
theorem nodup_take {L : List Int} : L.Nodup ↔ ∀ i, i < L.length → ix L i ∉ L.take i := by
 constructor
 · intro h i hi hm
   obtain ⟨j, hj, e⟩ := List.getElem_of_mem hm
   have hj' : j < i := by simp at hj; omega
   have := List.pairwise_iff_getElem.1 h j i (by omega) hi hj'
   rw [ix_lt hi] at e
   simp at e
   exact this e
 · intro h
   refine List.pairwise_iff_getElem.2 fun i j hi hj hij e => ?_
   refine h j hj ?_
   rw [ix_lt hj, ← e]
   exact List.mem_take_iff_getElem.2 ⟨i, by omega, rfl⟩
theorem stoOK_iff (s : Sto) : s.ok = true ↔ StoOK s := by
 have hv : ∀ i, i < s.os.length → ix (s.os.map (·.ver)) i = (ix s.os i).ver := fun i hi => by rw [ix_lt (by simpa using hi), ix_lt hi, List.getElem_map]
 constructor
 · intro h
   obtain ⟨h1, h2, h3⟩ := Sto.ok_at h
   have h3' : ∀ i, i < s.os.length → keyOK (ix s.os i).key = true ∧ (1 ≤ (ix s.os i).ver ∧ (ix s.os i).ver ≤ s.next - 1) ∧ (ix s.os i).data.length ≤ 600 ∧ (ix s.os i).ver ∉ (s.os.take i).map (·.ver) := fun i hi => by
    have := h3 i hi
    simp only [Sto.eOK, Bool.and_eq_true, decide_eq_true_eq, within, Bool.not_eq_true', decide_eq_false_iff_not] at this
    exact ⟨this.1, this.2.1, this.2.2.1, this.2.2.2.1⟩
   refine ⟨by simpa [within] using h1, h2, fun o ho => ?_, nodup_take.2 fun i hi => ?_, pw_srt.2 (Sto.srt h)⟩
   · obtain ⟨i, hi, rfl⟩ := List.getElem_of_mem ho
     have := h3' i hi
     rw [ix_lt hi] at this
     exact ⟨this.1, this.2.1, this.2.2.1⟩
   · have hi' : i < s.os.length := by simpa using hi
     rw [hv i hi', ← List.map_take]
     exact (h3' i hi').2.2.2
 · rintro ⟨h1, h2, h3, h4, h5⟩
   refine Sto.ok_yes (by simpa [within] using h1) h2 fun i hi => ?_
   have h6 := h3 (ix s.os i) (getD_mem hi)
   have h7 := nodup_take.1 h4 i (by simpa using hi)
   rw [hv i hi, ← List.map_take] at h7
   have h8 : i = 0 ∨ (ix s.os (i - 1)).key < (ix s.os i).key := by
    rcases Nat.eq_zero_or_pos i with h | h
    · exact .inl h
    · have := pw_srt.1 h5 (i - 1) (by omega)
      rw [show i - 1 + 1 = i by omega] at this
      exact .inr this
   simp only [Sto.eOK, Bool.and_eq_true, decide_eq_true_eq, within, Bool.not_eq_true', decide_eq_false_iff_not, Bool.or_eq_true]
   exact ⟨h6.1, h6.2.1, h6.2.2, h7, h8⟩
theorem lb_take {k : List UInt8} {L : List Ob} : ∀ o ∈ L.take (lb k L), o.key < k := fun o ho => by
 obtain ⟨j, hj, rfl⟩ := List.getElem_of_mem ho
 have hj' : j < lb k L := by simp at hj; omega
 have hl := lb_le k L
 have := lb_lt hj'
 rw [ix_lt (by omega)] at this
 simpa using this
theorem lb_drop {k : List UInt8} {L : List Ob} (h : Srt L) : ∀ o ∈ L.drop (if hasK k L = true then lb k L + 1 else lb k L), k < o.key := fun o ho => by
 obtain ⟨j, hj, rfl⟩ := List.getElem_of_mem ho
 rw [List.getElem_drop]
 split at hj <;> rename_i hk
 all_goals (rw [List.length_drop] at hj)
 · obtain ⟨h1, h2⟩ := hasK_at hk
   have := h.lt (i := lb k L) (j := lb k L + 1 + j) (by omega) (by omega)
   rw [h2, ix_lt (by omega)] at this
   simp only [if_pos hk]; exact this
 · have h1 := h.ge (k := k) (j := lb k L + j) (by omega) (by omega)
   have h2 : (ix L (lb k L + j)).key ≠ k := fun e => by
    rcases Nat.eq_zero_or_pos j with h0 | h0
    · subst h0
      apply hk
      unfold hasK
      rw [decide_eq_true (by omega : lb k L < L.length), decide_eq_true (by simpa using e)]; rfl
    · have h3 := h.lt (i := lb k L) (j := lb k L + j) (by omega) (by omega)
      rw [e] at h3
      exact lb_ge (by omega) h3
   have := lt_tri h1 h2
   rw [ix_lt (by omega)] at this
   simp only [if_neg hk]; exact this
theorem room_ok {s : Sto} {k d : List UInt8} (h : s.room k d = 0) : d.length ≤ 600 ∧ (s.has k = false → s.os.length ≠ 300) ∧ s.next ≠ 1000000000 := by
 unfold Sto.room at h
 split at h
 · cases h
 · split at h
   · cases h
   · rename_i h1 h2
     simp only [Bool.or_eq_true, Bool.and_eq_true, Bool.not_eq_true', decide_eq_true_eq, not_or, not_and] at h2
     exact ⟨by omega, h2.1, h2.2⟩
theorem room_yes {s : Sto} {k d : List UInt8} (h1 : d.length ≤ 600) (h2 : s.os.length < 300) (h3 : s.next < 1000000000) : s.room k d = 0 := by
 unfold Sto.room
 rw [if_neg (by omega), if_neg (by simp only [Bool.or_eq_true, Bool.and_eq_true, decide_eq_true_eq]; omega)]
theorem set_ok {s : Sto} (hs : s.ok = true) {k d : List UInt8} (hk : keyOK k = true) (hr : s.room k d = 0) : (s.set k d).ok = true := by
 have h := (stoOK_iff s).1 hs
 have hsr := Sto.srt hs
 obtain ⟨r1, r2, r3⟩ := room_ok hr
 have hl := s.set_len k d
 have e : (s.set k d).os = s.os.take (lb k s.os) ++ (⟨k, s.next, d⟩ :: s.os.drop (if hasK k s.os = true then lb k s.os + 1 else lb k s.os)) := rfl
 have hsub : ∀ q, lb k s.os ≤ q → (s.os.take (lb k s.os) ++ s.os.drop q).Sublist s.os := fun q hq => by
  have h1 : (s.os.drop q).Sublist (s.os.drop (lb k s.os)) := by
   obtain ⟨c, rfl⟩ : ∃ c, q = lb k s.os + c := ⟨q - lb k s.os, by omega⟩
   rw [← List.drop_drop]; exact List.drop_sublist _ _
  have := List.Sublist.append (List.Sublist.refl (s.os.take (lb k s.os))) h1
  rwa [List.take_append_drop] at this
 have hsub' := hsub (if hasK k s.os = true then lb k s.os + 1 else lb k s.os) (by split <;> omega)
 have hd := lb_drop (k := k) hsr
 have ht := lb_take (k := k) (L := s.os)
 generalize hq : (if hasK k s.os = true then lb k s.os + 1 else lb k s.os) = q at *
 refine (stoOK_iff _).2 ⟨by show 1 ≤ s.next + 1 ∧ s.next + 1 ≤ 1000000000; have := h.nx; omega, ?_, fun o ho => ?_, ?_, ?_⟩
 · rw [hl]
   have := h.len
   split
   · omega
   · rename_i hn
     have := r2 (by simpa using hn); omega
 · have hold : ∀ o ∈ s.os, keyOK o.key = true ∧ (1 ≤ o.ver ∧ o.ver ≤ s.next + 1 - 1) ∧ o.data.length ≤ 600 := fun o ho => by have := h.el o ho; exact ⟨this.1, ⟨this.2.1.1, by omega⟩, this.2.2⟩
   rw [e] at ho
   rcases List.mem_append.1 ho with ho | ho
   · exact hold o (List.mem_of_mem_take ho)
   · rcases List.mem_cons.1 ho with rfl | ho
     · exact ⟨hk, ⟨h.nx.1, by show s.next ≤ s.next + 1 - 1; omega⟩, r1⟩
     · exact hold o (List.mem_of_mem_drop ho)
 · rw [e, List.map_append, List.map_cons]
   have hn : ((s.os.take (lb k s.os) ++ s.os.drop q).map (·.ver)).Nodup := (hsub'.map _).nodup h.vs
   rw [List.map_append] at hn
   have h1 := List.nodup_append.1 hn
   have hne : ∀ o ∈ s.os, o.ver ≠ s.next := fun o ho => by have := (h.el o ho).2.1; omega
   refine List.nodup_append.2 ⟨h1.1, List.nodup_cons.2 ⟨fun hm => ?_, h1.2.1⟩, fun a ha b hb => ?_⟩
   · obtain ⟨o, ho, e⟩ := List.mem_map.1 hm
     exact hne o (List.mem_of_mem_drop ho) e
   · rcases List.mem_cons.1 hb with rfl | hb
     · obtain ⟨o, ho, rfl⟩ := List.mem_map.1 ha
       exact hne o (List.mem_of_mem_take ho)
     · exact h1.2.2 a ha b hb
 · rw [e]
   have hp : (s.os.take (lb k s.os) ++ s.os.drop q).Pairwise fun a b => a.key < b.key := h.ks.sublist hsub'
   have h1 := List.pairwise_append.1 hp
   refine List.pairwise_append.2 ⟨h1.1, List.pairwise_cons.2 ⟨hd, h1.2.1⟩, fun a ha b hb => ?_⟩
   rcases List.mem_cons.1 hb with rfl | hb
   · exact ht a ha
   · exact h1.2.2 a ha b hb
theorem putAbsent_fn (s : Sto) (hs : s.ok = true) (k d : List UInt8) (hd : d.length ≤ 1000000000) : VFn Tryz.prog 151 [s.av, .str (B k), .str (B d)] (.tup [(s.putA k d).1.av, .int .i64 (if s.has k = true ∨ s.room k d ≠ 0 then 0 else s.next), .int .i64 (s.putA k d).2]) := by
 have c := find_fn s hs k
 have cp := put_fn s hs k d hd
 unfold Sto.putA
 by_cases hk : s.has k = true
 · rw [hk] at c ⊢
   rw [if_pos rfl, if_pos (.inl rfl)]
   refine VFn.introC Tryz.call151 Tryz.func151 rfl rfl ?_
   conv => whnf
   refine CallC.sca _ (c) ?_ ?_
   · exact rfl
   exact And.intro trivial (AVle.refl _)
 · have hk : s.has k = false := by simpa using hk
   rw [hk] at c ⊢
   rw [if_neg (by simp)]
   unfold Sto.put
   by_cases hr : s.room k d = 0
   · rw [if_pos hr] at cp
     rw [if_pos hr, hr, if_neg (by simp)]
     refine VFn.introC Tryz.call151 Tryz.func151 rfl rfl ?_
     conv => whnf
     refine CallC.sca _ (c) ?_ ?_
     · exact rfl
     conv => whnf
     refine CallC.nl _ (cp) ?_ ?_
     · exact rfl
     exact And.intro trivial (AVle.refl _)
   · rw [if_neg hr] at cp
     rw [if_neg hr, if_pos (.inr hr)]
     refine VFn.introC Tryz.call151 Tryz.func151 rfl rfl ?_
     conv => whnf
     refine CallC.sca _ (c) ?_ ?_
     · exact rfl
     conv => whnf
     refine CallC.nl _ (cp) ?_ ?_
     · exact rfl
     exact And.intro trivial (AVle.refl _)

def Ob.size (e : Ob) : Nat := e.key.length + e.data.length
theorem B_nil (a : List UInt8) : ((B a).toList == (ByteArray.mk #[]).toList) = decide (a = []) := B_eq (b := [])
theorem B_isEmpty (a : List UInt8) : (B a).toList.isEmpty = decide (a = []) := by rw [B_toList]; cases a <;> simp
structure En where
 tier : Int
 f : Int
 t : Int
 key : List UInt8
 deriving Inhabited, DecidableEq
def En.row (e : En) : List AV := [.int .i64 e.tier, .int .i64 e.f, .int .i64 e.t, .str (B e.key)]
def En.av (e : En) : AV := .agg e.row
def En.ok (e : En) : Bool := kOk e.key && (decide (kT e.key = e.tier) && (isRange e.f e.t && decide (e.f < e.t)))
structure Rc where
 k : Int
 tok : Int
 tier : Int
 f : Int
 t : Int
 key : List UInt8
 deriving Inhabited, DecidableEq
def Rc.row (r : Rc) : List AV := [.int .i64 r.k, .int .i64 r.tok, .int .i64 r.tier, .int .i64 r.f, .int .i64 r.t, .str (B r.key)]
def Rc.av (r : Rc) : AV := .agg r.row
@[reducible] def Rc.en (r : Rc) : En := ⟨r.tier, r.f, r.t, r.key⟩
def Rc.bare (r : Rc) : Bool := decide (r.tier = 0) && (decide (r.f = 0) && decide (r.t = 0))
def Rc.ok (r : Rc) : Bool :=
 if r.k = 1 then decide (r.tok = 0) && (decide (r.tier = 0) && r.en.ok)
 else if r.k = 2 then within r.tok 1 999999 && (r.bare && decide (r.key = []))
 else if r.k = 3 then within r.tok 1 999999 && (decide (0 < r.tier) && r.en.ok)
 else if r.k = 4 then within r.tok 1 999999 && r.en.ok
 else if r.k = 5 then decide (r.tok = 0) && (r.bare && kOk r.key)
 else false
theorem entryOK_fn (e : En) : VFn Tryz.prog 67 [e.av] (.bool e.ok) := by
 refine VFn.introC Tryz.call67 Tryz.func67 rfl rfl ?_
 conv => whnf
 refine CallC.sca _ (readDataKey_fn e.key) ?_ ?_
 · exact rfl
 repeat' (conv => whnf
          first
  | refine Grd.intro (fun h => ?_) (fun h => ?_)
  | (refine CallC.sca _ (isRange_fn _ _) ?_ ?_; exact rfl)
  | refine And.intro trivial (AVle.of_eq (congrArg AV.bool ?_)))
 all_goals (simp_all [En.ok])
theorem entry_fn (r : Rc) : VFn Tryz.prog 149 [r.av] r.en.av := by
 refine VFn.introC Tryz.call149 Tryz.func149 rfl rfl ?_
 exact And.intro trivial (AVle.refl _)
theorem isToken_fn (n : Int) : VFn Tryz.prog 150 [.int .i64 n] (.bool (within n 1 999999)) := by
 refine VFn.introC Tryz.call150 Tryz.func150 rfl rfl ?_
 conv => whnf
 refine CallC.sca _ (within_fn _ _ _) ?_ ?_
 · exact rfl
 exact And.intro trivial (AVle.refl _)
theorem RecordOK_fn (r : Rc) : VFn Tryz.prog 76 [r.av] (.bool r.ok) := by
 refine VFn.introC Tryz.call76 Tryz.func76 rfl rfl ?_
 repeat' (conv => whnf
          first
  | refine Grd.intro (fun h => ?_) (fun h => ?_)
  | (refine CallC.sca _ (isToken_fn _) ?_ ?_; exact rfl)
  | (refine CallC.sca _ (entry_fn r) ?_ ?_; exact rfl)
  | (refine CallC.sca _ (entryOK_fn r.en) ?_ ?_; exact rfl)
  | (refine CallC.sca _ (readDataKey_fn r.key) ?_ ?_; exact rfl)
  | refine And.intro trivial (AVle.of_eq (congrArg AV.bool ?_)))
 all_goals (first | (simp_all [Rc.ok, Rc.bare, B_nil, B_isEmpty]; done) | (simp_all [Rc.ok, Rc.bare, B_nil, B_isEmpty]; intros; omega))
theorem kT_nat (k : List UInt8) : 0 ≤ kT k ∧ kT k ≤ 2 := by
 unfold kT
 cases h : parseKey k with
 | none => simp
 | some q =>
   obtain ⟨t, n, w⟩ := q
   have := key_parse h
   simp only; omega
theorem l06Tiered_fn (r : Rc) (hk : r.key.length ≤ 1000000000) (n : Int) : VFn Tryz.prog 70 [r.av, .int .i64 n] (.bool (r.en.ok && decide (n ≤ r.tier))) := by
 have h2 := kT_nat r.key
 refine VFn.introC Tryz.call70 Tryz.func70 rfl rfl ?_
 conv => whnf
 refine CallC.sca _ (l03ToKey_fn r.key hk) ?_ ?_
 · exact rfl
 repeat' (conv => whnf
          first
  | refine Grd.intro (fun h => ?_) (fun h => ?_)
  | (refine CallC.sca _ (l01In_fn _ _ _) ?_ ?_; exact rfl)
  | (refine CallC.sca _ (l04Range_fn _ _) ?_ ?_; exact rfl)
  | refine And.intro trivial (AVle.of_eq (congrArg AV.bool ?_)))
 all_goals (simp_all [En.ok, Rc.en, within]; try omega)
theorem specRecordOK_fn (r : Rc) (hk : r.key.length ≤ 1000000000) : VFn Tryz.prog 25 [r.av] (.bool r.ok) := by
 have h0 := l06Tiered_fn r hk 0
 have h1 := l06Tiered_fn r hk 1
 have e0 : (r.en.ok && decide (0 ≤ r.tier)) = r.en.ok := by
  cases h : r.en.ok
  · rfl
  · unfold En.ok at h
    have h2 := kT_nat r.key
    simp [Rc.en] at h
    simp; omega
 have e1 : decide (1 ≤ r.tier) = decide (0 < r.tier) := decide_eq_decide.2 (by omega)
 rw [e0] at h0
 rw [e1] at h1
 refine VFn.introC Tryz.call25 Tryz.func25 rfl rfl ?_
 repeat' (conv => whnf
          first
  | refine Grd.intro (fun h => ?_) (fun h => ?_)
  | (refine CallC.sca _ (l01In_fn _ _ _) ?_ ?_; exact rfl)
  | (refine CallC.sca _ (h0) ?_ ?_; exact rfl)
  | (refine CallC.sca _ (h1) ?_ ?_; exact rfl)
  | (refine CallC.sca _ (l03ToKey_fn r.key hk) ?_ ?_; exact rfl)
  | refine And.intro trivial (AVle.of_eq (congrArg AV.bool ?_)))
 all_goals (simp_all [Rc.ok, Rc.bare, B_nil, B_isEmpty, Bool.and_comm]; done)
theorem key_len {k : List UInt8} (h : kOk k = true) : k.length ≤ 17 := by
 unfold kOk at h
 cases e : parseKey k with
 | none => rw [e] at h; cases h
 | some q =>
   obtain ⟨t, n, w⟩ := q
   obtain ⟨e1, ht, hn, hw⟩ := key_parse e
   rw [e1]
   have h3 : t = 0 ∨ t = 1 ∨ t = 2 := by omega
   rcases h3 with rfl | rfl | rfl <;> simp [keyB, pre, six6_len]
def Rc.nums (r : Rc) : List Int := [r.k, r.tok, r.tier, r.f, r.t]
def Rc.text (r : Rc) : List UInt8 := Lib.join (r.nums.map Lib.itoa) [44] ++ ([32] ++ r.key)
theorem Rc.okN {r : Rc} (h : r.ok = true) : (∀ x ∈ r.nums, mid x) ∧ r.key.length ≤ 17 := by
 have hT := kT_nat r.key
 have hL := @key_len r.key
 have m : (mid r.k ∧ mid r.tok ∧ mid r.tier ∧ mid r.f ∧ mid r.t) ∧ r.key.length ≤ 17 := by
  unfold Rc.ok at h
  split at h
  · simp [Rc.en, En.ok, isRange, within] at h
    refine ⟨⟨?_, ?_, ?_, ?_, ?_⟩, hL h.2.2.1⟩ <;> (unfold mid; omega)
  split at h
  · simp [Rc.bare, within] at h
    refine ⟨⟨?_, ?_, ?_, ?_, ?_⟩, by rw [h.2.2]; simp⟩ <;> (unfold mid; omega)
  split at h
  · simp [Rc.en, En.ok, isRange, within] at h
    refine ⟨⟨?_, ?_, ?_, ?_, ?_⟩, hL h.2.2.1⟩ <;> (unfold mid; omega)
  split at h
  · simp [Rc.en, En.ok, isRange, within] at h
    refine ⟨⟨?_, ?_, ?_, ?_, ?_⟩, hL h.2.1⟩ <;> (unfold mid; omega)
  split at h
  · simp [Rc.bare, within] at h
    refine ⟨⟨?_, ?_, ?_, ?_, ?_⟩, hL h.2.2⟩ <;> (unfold mid; omega)
  · cases h
 refine ⟨fun x hx => ?_, m.2⟩
 obtain ⟨m1, m2, m3, m4, m5⟩ := m.1
 simp only [Rc.nums, List.mem_cons, List.not_mem_nil, or_false] at hx
 rcases hx with rfl | rfl | rfl | rfl | rfl <;> assumption
theorem Rc.head_len {r : Rc} (h : r.ok = true) : (Lib.join (r.nums.map Lib.itoa) [44]).length ≤ 110 := by
 have := join_len (m := 21) (c := 1) (L := r.nums.map Lib.itoa) (s := [44]) (fun x hx => by
  obtain ⟨n, hn, rfl⟩ := List.mem_map.1 hx
  exact mid_len ((Rc.okN h).1 n hn)) (by simp)
 exact Nat.le_trans this (by simp [Rc.nums])
theorem recText_fn (r : Rc) (h : r.ok = true) : VFn Tryz.prog 152 [r.av] (.str (B r.text)) := by
 have hm := (Rc.okN h).1
 have hk := (Rc.okN h).2
 have hl := Rc.head_len h
 have e : (r.nums.map It.n).map It.txt = r.nums.map Lib.itoa := by rw [List.map_map]; rfl
 refine VFn.introC Tryz.call152 Tryz.func152 rfl rfl ?_
 refine DrawC.mq 22 rfl (by kernel_rfl) ?_
 refine PCallQ.sca _ (joined_of (r.nums.map It.n) (n := 5) ⟨rfl, rfl, rfl, rfl, rfl, trivial⟩ rfl [44] (show 5 ≤ 100000000 by decide) (fun x hx => by
  obtain ⟨n, hn, rfl⟩ := List.mem_map.1 hx
  have := hm n hn; unfold mid at this; exact ⟨by omega, by omega⟩) (by rw [e]; omega)) rfl ?_
 rw [e]
 have add : ∀ (x y : List UInt8), (x.length + y.length : Nat) ≤ 100000 → (((B x).size + (B y).size : Nat) : Int) ≤ 9223372036854775807 := fun x y h => by rw [B_size, B_size]; omega
 refine And.intro (add (Lib.join (r.nums.map Lib.itoa) [44]) [32] (by simp; omega)) ?_
 refine And.intro (show (((B (Lib.join (r.nums.map Lib.itoa) [44]) ++ B [32]).size + (B r.key).size : Nat) : Int) ≤ 9223372036854775807 by rw [B_app]; exact add _ _ (by simp; omega)) ?_
 exact And.intro trivial (AVle.of_eq (congrArg AV.str (show B (Lib.join (r.nums.map Lib.itoa) [44]) ++ B [32] ++ B r.key = B r.text by rw [B_app, B_app, List.append_assoc]; rfl)))
def manK (n : Int) : List UInt8 := [109, 97, 110, 47] ++ six6 n.toNat
def appS (s : Sto) (n : Int) (r : Rc) : Sto × Int := s.putA (manK n) r.text
def appC (s : Sto) (n : Int) (r : Rc) : Int := if s.ok = true ∧ r.ok = true then (if within n 1 999999 = true then 0 else 4) else 1
theorem app_ok {s : Sto} {n : Int} {r : Rc} (h : appC s n r = 0) : s.ok = true ∧ r.ok = true ∧ within n 1 999999 = true := by
 unfold appC at h
 split at h
 · rename_i h1
   split at h
   · rename_i h2; exact ⟨h1.1, h1.2, h2⟩
   · cases h
 · cases h
theorem app_len (s : Sto) (hs : s.ok = true) (n : Int) (r : Rc) : (appS s n r).1.os.length ≤ 301 := by
 have hL := (Sto.ok_at hs).2.1
 unfold appS Sto.putA
 split
 · show s.os.length ≤ 301; omega
 · show (s.put _ _).os.length ≤ 301
   unfold Sto.put
   split
   · have := set_len_le s (manK n) r.text; omega
   · omega
theorem text_len {r : Rc} (h : r.ok = true) : r.text.length ≤ 1000000 := by
 have hl := Rc.head_len h
 have hk := (Rc.okN h).2
 unfold Rc.text
 simp only [List.length_append, List.length_cons, List.length_nil]
 omega
theorem l06Key_fn (n : Int) (h : within n 1 999999 = true) : VFn Tryz.prog 124 [.int .i64 n] (.str (B (manK n))) := by
 have hb : 1 ≤ n ∧ n ≤ 999999 := by simpa [within] using h
 have c := l03Wide_fn n.toNat (by omega)
 rw [show ((n.toNat : Nat) : Int) = n by omega] at c
 refine VFn.introC Tryz.call124 Tryz.func124 rfl rfl ?_
 conv => whnf
 refine CallC.sca _ (c) ?_ ?_
 · exact rfl
 refine And.intro (show ((4 + (B (six6 n.toNat)).size : Nat) : Int) ≤ 9223372036854775807 by rw [B_size, six6_len]; decide) ?_
 refine force_to (congrArg AV.str (show B [109, 97, 110, 47] ++ B (six6 n.toNat) = B (manK n) from B_app _ _)) ?_
 exact And.intro trivial (AVle.refl _)
theorem lay_fn (s : Sto) (hs : s.ok = true) (n : Int) (h : within n 1 999999 = true) (r : Rc) (hr : r.ok = true) : VFn Tryz.prog 77 [s.av, .int .i64 n, r.av] (.tup [(appS s n r).1.av, .int .i64 (appS s n r).2]) := by
 have hb : 1 ≤ n ∧ n ≤ 999999 := by simpa [within] using h
 have co := putAbsent_fn s hs (manK n) r.text (by have := text_len hr; omega)
 have cw := within_fn n 1 999999
 rw [h] at cw
 refine VFn.introC Tryz.call77 Tryz.func77 rfl rfl ?_
 conv => whnf
 refine CallC.sca _ (cw) ?_ ?_
 · exact rfl
 refine DrawC.mkQ 15 [(.inr 11, 12)] rfl (by kernel_rfl) ?_
 refine And.intro rfl ?_
 conv => whnf
 refine PCallQ.sca _ (six_fn n (by simp [within]; omega)) rfl ?_
 conv => whnf
 refine And.intro (show ((4 + (B (six6 n.toNat)).size : Nat) : Int) ≤ 9223372036854775807 by rw [B_size, six6_len]; decide) ?_
 refine force_to (congrArg AV.str (show B [109, 97, 110, 47] ++ B (six6 n.toNat) = B (manK n) from B_app _ _)) ?_
 conv => whnf
 refine PCallQ.sca _ (recText_fn r hr) rfl ?_
 conv => whnf
 refine PCallQ.nl _ (co) rfl ?_
 exact And.intro trivial (AVle.refl _)
theorem Append_own (s : Sto) (hr : StoRd s) (n : Int) (r : Rc) (ha : appC s n r = 0) : FnM Tryz.prog 28 0 [s.av, .int .i64 n, r.av] [] (.tup [(appS s n r).1.own, .int .i64 (appS s n r).2]) [(0, .arr 93 3 (appS s n r).1.os.length fun i => (ix (appS s n r).1.os i).row)] 1 := by
 obtain ⟨hs, ho, hw⟩ := app_ok ha
 have hl := app_len s hs n r
 have c := StoreOK_fn s (by have := hr.len; omega) hr.key
 have cr := RecordOK_fn r
 have cw := within_fn n 1 999999
 rw [hs] at c
 rw [ho] at cr
 rw [hw] at cw
 refine FnM.introC Tryz.call28 Tryz.func28 rfl rfl ?_
 conv => whnf
 refine CallC.sca _ (c) ?_ ?_
 · exact rfl
 conv => whnf
 refine CallC.sca _ (cr) ?_ ?_
 · exact rfl
 conv => whnf
 refine CallC.sca _ (cw) ?_ ?_
 · exact rfl
 conv => whnf
 refine CallC.sca _ (first2_of false false _ _ ⟨rfl, rfl, rfl, rfl, trivial⟩ rfl (show _ = (0 : Int) from rfl)) ?_ ?_
 · exact rfl
 conv => whnf
 refine CallC.nl _ (lay_fn s hs n hw r ho) ?_ ?_
 · exact rfl
 conv => whnf
 refine CallC.k [] (copied_own (appS s n r).1 (by omega)) rfl rfl (AVsle.refl _) trivial rfl ?_
 exact And.intro trivial ⟨[(5, 0)], rfl, AVle.refl _, ⟨MOle.refl _, trivial⟩⟩
structure Tb where
 seq : Int
 key : List UInt8
 deriving Inhabited, DecidableEq
def Tb.row (e : Tb) : List AV := [.int .i64 e.seq, .str (B e.key)]
def Tb.av (e : Tb) : AV := .agg e.row
abbrev ents (L : List En) : AV := .sl 4 L.length fun i => (ix L i).row
abbrev tbs (L : List Tb) : AV := .sl 2 L.length fun i => (ix L i).row
theorem IndexEn_1 (L : List En) (hL : L.length ≤ 9223372036854775807) (F : Nat) (row : List AV) (p : En → Bool) (hp : ∀ e ∈ L, VFn Tryz.prog F [e.av, .eptr row 0] (.bool (p e))) :
 VFn Tryz.prog 180 [ents L, .fn (.func F) [] [.eptr row 0]] (.int .i64 (fi p L)) := by
 refine VFn.introC Tryz.call180 Tryz.func180 rfl rfl ?_
 refine LoopC.mk (fun i : Nat => i ≤ L.length ∧ ∀ j, j < i → p (ix L j) = false) (fun i => [(0, ents L), (1, .fn (.func F) [] [.eptr row 0]), (7, .int .i64 L.length), (8, .int .i64 i)]) (fun _ => []) 0 (fun i => L.length - i) 0
  ⟨⟨Nat.zero_le _, fun j hj => absurd hj (Nat.not_lt_zero j)⟩, [], rfl, rfl, ⟨AVle.refl _, AVle.refl _, AVle.refl _, AVle.refl _, trivial⟩, trivial⟩ ?_
 intro i hi
 refine Grd.intro (fun h2 => ?_) (fun h2 => ?_)
 · have hin : i < L.length := by have := of_decide_eq_true h2; omega
   refine And.intro (by omega) ?_
   conv => whnf
   refine CallC.sca _ (hp (ix L i) (getD_mem hin)) ?_ ?_
   · exact rfl
   refine Grd.intro (fun h3 => ?_) (fun h3 => ?_)
   · exact And.intro trivial (AVle.of_eq (congrArg (AV.int .i64) (fi_at hin hi.2 h3).symm))
   · refine And.intro (inI64 (by omega) (by omega)) ?_
     exact ⟨i + 1, ⟨hin, fun j hj => by
      rcases Nat.lt_or_ge j i with h' | h'
      · exact hi.2 j h'
      · rw [show j = i by omega]; exact h3⟩, by omega, [], rfl, rfl, ⟨AVle.refl _, AVle.refl _, AVle.refl _, AVle.of_eq (congrArg (AV.int .i64) (by simp)), trivial⟩, trivial⟩
 · have : i = L.length := by have := of_decide_eq_false h2; omega
   subst this
   exact And.intro trivial (AVle.of_eq (congrArg (AV.int .i64) (fi_none hi.2).symm))
theorem ContainsEn_1 (L : List En) (hL : L.length ≤ 9223372036854775807) (F : Nat) (row : List AV) (p : En → Bool) (hp : ∀ e ∈ L, VFn Tryz.prog F [e.av, .eptr row 0] (.bool (p e))) :
 VFn Tryz.prog 134 [ents L, .fn (.func F) [] [.eptr row 0]] (.bool (L.any p)) := by
 refine VFn.introC Tryz.call134 Tryz.func134 rfl rfl ?_
 conv => whnf
 refine CallC.sca _ (IndexEn_1 L hL F row p hp) ?_ ?_
 · exact rfl
 exact And.intro trivial (AVle.of_eq (congrArg AV.bool (show decide (0 ≤ fi p L) = _ from fi_any)))
theorem allEn1_fn (e : En) (G : Nat) (p : En → Bool) (hp : VFn Tryz.prog G [e.av] (.bool (p e))) : VFn Tryz.prog 135 [e.av, .eptr [.fn (.func G) [] []] 0] (.bool (!p e)) := by
 refine VFn.introC Tryz.call135 Tryz.func135 rfl rfl ?_
 conv => whnf
 refine CallC.sca _ (hp) ?_ ?_
 · exact rfl
 exact And.intro trivial (AVle.refl _)
theorem allEn_fn (L : List En) (hL : L.length ≤ 9223372036854775807) (G : Nat) (p : En → Bool) (hp : ∀ e ∈ L, VFn Tryz.prog G [e.av] (.bool (p e))) : VFn Tryz.prog 66 [ents L, .fn (.func G) [] []] (.bool (L.all p)) := by
 refine VFn.introC Tryz.call66 Tryz.func66 rfl rfl ?_
 conv => whnf
 refine CallC.sca _ (ContainsEn_1 L hL 135 [.fn (.func G) [] []] (fun e => !p e) (fun e he => allEn1_fn e G p (hp e he))) ?_ ?_
 · exact rfl
 exact And.intro trivial (AVle.of_eq (congrArg AV.bool (show (!L.any fun e => !p e) = _ by rw [Bool.eq_iff_iff]; simp)))
end Go.Proofs.YtnplgeogieoioaaGreatDoor
