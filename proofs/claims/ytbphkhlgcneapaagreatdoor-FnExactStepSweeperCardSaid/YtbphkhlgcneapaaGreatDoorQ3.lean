/- Contracts of functions that the claim reaches, and the plain law of what they compute; each theorem bears its own conditions. -/
import Derived.Test.YtbphkhlgcneapaaGreatDoorQ2
import Derived.Test.YtbphkhlgcneapaaGreatDoorQ1
import Derived.Test.YtbphkhlgcneapaaGreatDoorV46
set_option linter.unusedVariables false
set_option linter.constructorNameAsVariable false
set_option linter.unusedSimpArgs false
set_option maxRecDepth 20000
namespace Go.Proofs.YtbphkhlgcneapaaGreatDoor
open Go Go.Vw

theorem specKeyOK_fn (k : List UInt8) (hk : k.length ≤ 1000000000) : VFn Tryz.prog 135 [.str (B k)] (.bool (keyOK k)) := by
  obtain ⟨R, hR⟩ : ∃ R, R = keyOK k := ⟨_, rfl⟩
  rw [← hR]
  refine VFn.introC Tryz.call135 Tryz.func135 rfl rfl ?_
  refine Grd.intro (fun h0 => ?_) (fun h0 => ?_)
  · have h0 : 65536 < k.length := by
      have := of_decide_eq_true (show decide ((65536 : Int) < (((B k).size : Nat) : Int)) = true from h0)
      rw [B_size] at this; omega
    have hw : within k.length 1 30 = false := by unfold within; simp; omega
    rw [hR, show keyOK k = false by unfold keyOK; rw [hw]; simp]
    exact And.intro trivial (AVle.refl _)
  refine LoopC.mk (fun i : Nat => i ≤ k.length ∧ ∀ j, j < i → keyC (k.getD j 0) = true) (fun i => [(0, .str (B k)), (3, .int .i64 i)]) (fun _ => []) 0 (fun i => k.length - i) 0
    ⟨⟨Nat.zero_le _, fun j hj => absurd hj (Nat.not_lt_zero j)⟩, [], rfl, rfl, ⟨AVle.refl _, AVle.refl _, trivial⟩, trivial⟩ ?_
  intro i hi
  have hsz : (((B k).size : Nat) : Int) = k.length := by rw [B_size]
  refine Grd.intro (fun h2 => ?_) (fun h2 => ?_)
  · have hin : i < k.length := by have := of_decide_eq_true h2; omega
    refine And.intro ⟨by omega, by omega⟩ ?_
    have hbad : keyC (k.getD i 0) = false → false = R := fun h => by rw [hR, keyOK_bad hin h]
    have hgood : keyC (k.getD i 0) = true → ∀ j, j < i + 1 → keyC (k.getD j 0) = true := fun h j hj => by
      rcases Nat.lt_or_ge j i with h' | h'
      · exact hi.2 j h'
      · rw [show j = i by omega]; exact h
    have hx : k.getD i 0 = (B k).data.toList.getD (i : Int).toNat 0 := rfl
    generalize (B k).data.toList.getD (i : Int).toNat 0 = c at hx ⊢
    rw [hx] at hbad hgood
    unfold keyC at hbad
    have hgood : ((decide (97 ≤ (c.toNat : Int)) && decide ((c.toNat : Int) ≤ 122)) || (decide (48 ≤ (c.toNat : Int)) && decide ((c.toNat : Int) ≤ 57)) || decide ((c.toNat : Int) = 47) || decide ((c.toNat : Int) = 45)) = true → ∀ j, j < i + 1 → keyC (k.getD j 0) = true := hgood
    conv => whnf
    refine CallC.sca _ (l00Digit_fn c) ?_ ?_
    · exact rfl
    have hd : dig c = (decide (48 ≤ (c.toNat : Int)) && decide ((c.toNat : Int) ≤ 57)) := by unfold dig; rw [Bool.eq_iff_iff]; simp; omega
    rw [hd]
    generalize c.toNat = c at *
    repeat' (first
      | refine Grd.intro (fun h => ?_) (fun h => ?_)
      | ((conv => whnf); refine Grd.intro (fun h => ?_) (fun h => ?_)))
    all_goals first
      | exact And.intro trivial (AVle.of_eq (congrArg AV.bool (hbad (by simp_all; omega))))
      | exact And.intro trivial (AVle.of_eq (congrArg AV.bool (hbad (by simp_all))))
      | (refine And.intro (inI64 (by omega) (by omega)) ?_
         exact ⟨i + 1, ⟨hin, hgood (by simp_all; omega)⟩, by omega, [], rfl, rfl, ⟨AVle.refl _, AVle.of_eq (congrArg (AV.int .i64) (by simp)), trivial⟩, trivial⟩)
      | (refine And.intro (inI64 (by omega) (by omega)) ?_
         exact ⟨i + 1, ⟨hin, hgood (by simp_all)⟩, by omega, [], rfl, rfl, ⟨AVle.refl _, AVle.of_eq (congrArg (AV.int .i64) (by simp)), trivial⟩, trivial⟩)
  · have : i = k.length := by have := of_decide_eq_false h2; omega
    subst this
    conv => whnf
    refine CallC.sca _ (l01In_fn _ _ _) ?_ ?_
    · exact rfl
    rw [hR, keyOK_all hi.2]
    exact And.intro trivial (AVle.of_eq (congrArg AV.bool (show within ((B k).size : Nat) 1 30 = _ by rw [B_size])))
theorem l01In_lo : VFn Tryz.prog 59 [.lo, .int .i64 1, .int .i64 1000000000] (.bool false) := by
  refine VFn.introC Tryz.call59 Tryz.func59 rfl rfl ?_
  exact And.intro trivial (AVle.refl _)
theorem specStoreOK_lo (os : List Ob) (hL : os.length ≤ 1000000000) (hk : ∀ o ∈ os, o.key.length ≤ 1000000000) : VFn Tryz.prog 58 [.agg [obs os, .lo]] (.bool false) := by
  refine VFn.introC Tryz.call58 Tryz.func58 rfl rfl ?_
  refine LoopC.mk (fun i : Nat => i ≤ os.length) (fun i => [(1, .bptr 0 0), (3, .int .i64 i)]) (fun i => [(0, .box [obs os, .lo])]) 1 (fun i => os.length - i) 0
    ⟨Nat.zero_le _, [(0, 0)], rfl, rfl, ⟨AVle.refl _, AVle.refl _, trivial⟩, ⟨MOle.refl _, trivial⟩⟩ ?_
  intro i hi
  refine Grd.intro (fun h3 => ?_) (fun h3 => ?_)
  · have hin : i < os.length := by have := of_decide_eq_true h3; omega
    refine And.intro (by omega) ?_
    refine DrawC.mk 35 rfl (by kernel_rfl) ?_
    refine PCallC.sca _ (specKeyOK_fn (ix os i).key (hk _ (getD_mem hin))) rfl ?_
    refine Grd.intro (fun g1 => ?_) (fun g1 => ?_)
    · exact And.intro trivial (AVle.refl _)
    refine And.intro ⟨by omega, by omega⟩ ?_
    refine PCallC.sca _ (l01In_fn (ix os i).ver 1 (9223372036854775808 - 1)) rfl ?_
    conv => whnf
    refine Grd.intro (fun g2 => ?_) (fun g2 => ?_)
    · exact And.intro trivial (AVle.refl _)
    conv => whnf
    refine Grd.intro (fun g3 => ?_) (fun g3 => ?_)
    · exact And.intro trivial (AVle.refl _)
    conv => whnf
    refine Grd.intro (fun g5 => ?_) (fun g5 => ?_)
    · have h0 : 0 < i := by have := of_decide_eq_true g5; omega
      have e1 : ((i : Int) - 1).toNat = i - 1 := by omega
      refine And.intro (inI64 (by omega) (by omega)) ?_
      refine And.intro ⟨by omega, by omega⟩ ?_
      conv => whnf
      refine Grd.intro (fun g6 => ?_) (fun g6 => ?_)
      · exact And.intro trivial (AVle.refl _)
      refine LoopC.mk (fun j : Nat => j ≤ i) (fun j => [(1, .bptr 0 0), (3, .int .i64 i), (4, .bptr 1 0), (5, .int .i64 j)]) (fun j => [(0, .box [obs os, .lo]), (1, .box (ix os i).row)]) 2 (fun j => i - j) 0
        ⟨Nat.zero_le _, [(0, 0), (1, 1)], rfl, rfl, ⟨AVle.refl _, AVle.refl _, AVle.refl _, AVle.refl _, trivial⟩, ⟨MOle.refl _, MOle.refl _, trivial⟩⟩ ?_
      intro j hj
      refine Grd.intro (fun h6 => ?_) (fun h6 => ?_)
      · have hjn : j < i := by have := of_decide_eq_true h6; omega
        refine DrawC.mk 9 rfl (by kernel_rfl) ?_
        refine And.intro (by omega) ?_
        refine Grd.intro (fun h7 => ?_) (fun h7 => ?_)
        · exact And.intro trivial (AVle.refl _)
        · refine And.intro (inI64 (by omega) (by omega)) ?_
          exact ⟨j + 1, hjn, by omega, [(0, 0), (1, 1)], rfl, rfl, ⟨AVle.refl _, AVle.refl _, AVle.refl _, AVle.of_eq (congrArg (AV.int .i64) (by simp)), trivial⟩, ⟨MOle.refl _, MOle.refl _, trivial⟩⟩
      · refine And.intro (inI64 (by omega) (by omega)) ?_
        exact ⟨i + 1, hin, by omega, [(0, 0)], rfl, rfl, ⟨AVle.refl _, AVle.of_eq (congrArg (AV.int .i64) (by simp)), trivial⟩, ⟨MOle.refl _, trivial⟩⟩
    · have h0 : i = 0 := by have := of_decide_eq_false g5; omega
      refine LoopC.mk (fun j : Nat => j ≤ i) (fun j => [(1, .bptr 0 0), (3, .int .i64 i), (4, .bptr 1 0), (5, .int .i64 j)]) (fun j => [(0, .box [obs os, .lo]), (1, .box (ix os i).row)]) 2 (fun j => i - j) 0
        ⟨Nat.zero_le _, [(0, 0), (1, 1)], rfl, rfl, ⟨AVle.refl _, AVle.refl _, AVle.refl _, AVle.refl _, trivial⟩, ⟨MOle.refl _, MOle.refl _, trivial⟩⟩ ?_
      intro j hj
      refine Grd.intro (fun h6 => ?_) (fun h6 => ?_)
      · have hjn : j < i := by have := of_decide_eq_true h6; omega
        refine DrawC.mk 9 rfl (by kernel_rfl) ?_
        refine And.intro (by omega) ?_
        refine Grd.intro (fun h7 => ?_) (fun h7 => ?_)
        · exact And.intro trivial (AVle.refl _)
        · refine And.intro (inI64 (by omega) (by omega)) ?_
          exact ⟨j + 1, hjn, by omega, [(0, 0), (1, 1)], rfl, rfl, ⟨AVle.refl _, AVle.refl _, AVle.refl _, AVle.of_eq (congrArg (AV.int .i64) (by simp)), trivial⟩, ⟨MOle.refl _, MOle.refl _, trivial⟩⟩
      · refine And.intro (inI64 (by omega) (by omega)) ?_
        exact ⟨i + 1, hin, by omega, [(0, 0)], rfl, rfl, ⟨AVle.refl _, AVle.of_eq (congrArg (AV.int .i64) (by simp)), trivial⟩, ⟨MOle.refl _, trivial⟩⟩
  · refine Grd.intro (fun _ => ?_) (fun _ => ?_)
    · conv => whnf
      refine CallC.sca _ (l01In_lo) ?_ ?_
      · exact rfl
      exact And.intro trivial (AVle.refl _)
    · exact And.intro trivial (AVle.refl _)
theorem specStoreOK_hi (s : Sto) (hL : s.os.length ≤ 1000000000) (hk : ∀ o ∈ s.os, o.key.length ≤ 1000000000) (hn : -9223372036854775807 ≤ s.next ∧ s.next ≤ 9223372036854775807) : VFn Tryz.prog 58 [s.av] (.bool s.ok) := by
  refine VFn.introC Tryz.call58 Tryz.func58 rfl rfl ?_
  refine LoopC.mk (fun i : Nat => i ≤ s.os.length ∧ ∀ j, j < i → s.eOK j = true) (fun i => [(1, .bptr 0 0), (3, .int .i64 i)]) (fun i => [(0, .box s.row)]) 1 (fun i => s.os.length - i) 0
    ⟨⟨Nat.zero_le _, fun j hj => absurd hj (Nat.not_lt_zero j)⟩, [(0, 0)], rfl, rfl, ⟨AVle.refl _, AVle.refl _, trivial⟩, ⟨MOle.refl _, trivial⟩⟩ ?_
  intro i hi
  obtain ⟨hi, hall⟩ := hi
  refine Grd.intro (fun h3 => ?_) (fun h3 => ?_)
  · have hin : i < s.os.length := by have := of_decide_eq_true h3; omega
    have hbad : s.eOK i = false → s.ok = false := Sto.ok_no hin
    refine And.intro (by omega) ?_
    refine DrawC.mk 35 rfl (by kernel_rfl) ?_
    refine PCallC.sca _ (specKeyOK_fn (ix s.os i).key (hk _ (getD_mem hin))) rfl ?_
    refine Grd.intro (fun g1 => ?_) (fun g1 => ?_)
    · rw [hbad (by unfold Sto.eOK; rw [wnot g1]; rfl)]
      exact And.intro trivial (AVle.refl _)
    refine And.intro (inI64 (by omega) (by omega)) ?_
    refine PCallC.sca _ (l01In_fn (ix s.os i).ver 1 (s.next - 1)) rfl ?_
    conv => whnf
    refine Grd.intro (fun g2 => ?_) (fun g2 => ?_)
    · rw [hbad (by unfold Sto.eOK; rw [show within (ix s.os i).ver 1 (s.next - 1) = false from wnot g2]; simp)]
      exact And.intro trivial (AVle.refl _)
    conv => whnf
    refine Grd.intro (fun g3 => ?_) (fun g3 => ?_)
    · have g3 : ¬ (ix s.os i).data.length ≤ 600 := by
        have := of_decide_eq_true (show decide ((600 : Int) < (((B (ix s.os i).data).size : Nat) : Int)) = true from g3)
        rw [B_size] at this; omega
      rw [hbad (by unfold Sto.eOK; rw [decide_eq_false g3]; simp)]
      exact And.intro trivial (AVle.refl _)
    have g3 : (ix s.os i).data.length ≤ 600 := by
      have := of_decide_eq_false (show decide ((600 : Int) < (((B (ix s.os i).data).size : Nat) : Int)) = false from g3)
      rw [B_size] at this; omega
    have hpre : (!decide ((ix s.os i).ver ∈ (s.os.take i).map (·.ver))) = true → (decide (i = 0) || decide ((ix s.os (i - 1)).key < (ix s.os i).key)) = true → s.eOK i = true := fun h h' => by
      unfold Sto.eOK; rw [wyes g1, show within (ix s.os i).ver 1 (s.next - 1) = true from wyes g2, decide_eq_true g3, h, h']; rfl
    have hnext : s.eOK i = true → ∀ j, j < i + 1 → s.eOK j = true := fun h j hj => by
      rcases Nat.lt_or_ge j i with h' | h'
      · exact hall j h'
      · rw [show j = i by omega]; exact h
    conv => whnf
    refine Grd.intro (fun g5 => ?_) (fun g5 => ?_)
    · have h0 : 0 < i := by have := of_decide_eq_true g5; omega
      have e1 : ((i : Int) - 1).toNat = i - 1 := by omega
      refine And.intro (inI64 (by omega) (by omega)) ?_
      refine And.intro ⟨by omega, by omega⟩ ?_
      conv => whnf
      have hcmp : (!Op.bytesLess (B (ix s.os ((i : Int) - 1).toNat).key).toList (B (ix s.os i).key).toList) = !decide ((ix s.os (i - 1)).key < (ix s.os i).key) := by rw [blt_lt, e1]
      refine Grd.intro (fun g6 => ?_) (fun g6 => ?_)
      · have g6 := hcmp.symm.trans g6
        rw [hbad (by unfold Sto.eOK; rw [show decide ((ix s.os (i - 1)).key < (ix s.os i).key) = false from wnot g6, decide_eq_false (show ¬ i = 0 by omega)]; simp)]
        exact And.intro trivial (AVle.refl _)
      have g6 := hcmp.symm.trans g6
      have hkey : (decide (i = 0) || decide ((ix s.os (i - 1)).key < (ix s.os i).key)) = true := by rw [show decide ((ix s.os (i - 1)).key < (ix s.os i).key) = true from wyes g6]; simp
      refine LoopC.mk (fun j : Nat => j ≤ i ∧ ∀ q, q < j → (ix s.os q).ver ≠ (ix s.os i).ver) (fun j => [(1, .bptr 0 0), (3, .int .i64 i), (4, .bptr 1 0), (5, .int .i64 j)]) (fun j => [(0, .box s.row), (1, .box (ix s.os i).row)]) 2 (fun j => i - j) 0
        ⟨⟨Nat.zero_le _, fun q hq => absurd hq (Nat.not_lt_zero q)⟩, [(0, 0), (1, 1)], rfl, rfl, ⟨AVle.refl _, AVle.refl _, AVle.refl _, AVle.refl _, trivial⟩, ⟨MOle.refl _, MOle.refl _, trivial⟩⟩ ?_
      intro j hj
      obtain ⟨hj, hv⟩ := hj
      refine Grd.intro (fun h6 => ?_) (fun h6 => ?_)
      · have hjn : j < i := by have := of_decide_eq_true h6; omega
        refine DrawC.mk 9 rfl (by kernel_rfl) ?_
        refine And.intro (by omega) ?_
        refine Grd.intro (fun h7 => ?_) (fun h7 => ?_)
        · have h7 : (ix s.os j).ver = (ix s.os i).ver := of_decide_eq_true h7
          have hm : (ix s.os i).ver ∈ (s.os.take i).map (·.ver) := List.mem_map.2 ⟨ix s.os j, by rw [← ix_take hjn]; exact getD_mem (by simp; omega), h7⟩
          rw [hbad (by unfold Sto.eOK; rw [decide_eq_true hm]; simp)]
          exact And.intro trivial (AVle.refl _)
        · have h7 : (ix s.os j).ver ≠ (ix s.os i).ver := of_decide_eq_false h7
          refine And.intro (inI64 (by omega) (by omega)) ?_
          refine ⟨j + 1, ⟨hjn, fun q hq => ?_⟩, by omega, [(0, 0), (1, 1)], rfl, rfl, ⟨AVle.refl _, AVle.refl _, AVle.refl _, AVle.of_eq (congrArg (AV.int .i64) (by simp)), trivial⟩, ⟨MOle.refl _, MOle.refl _, trivial⟩⟩
          rcases Nat.lt_or_ge q j with h' | h'
          · exact hv q h'
          · rw [show q = j by omega]; exact h7
      · have : j = i := by have := of_decide_eq_false h6; omega
        subst this
        have hm : (ix s.os j).ver ∉ (s.os.take j).map (·.ver) := fun hm => by
          obtain ⟨o, ho, e⟩ := List.mem_map.1 hm
          obtain ⟨q, hq, e2⟩ := List.getElem_of_mem ho
          have hq' : q < j := by simp at hq; omega
          refine hv q hq' ?_
          rw [← e, ← e2, ix_lt (by omega)]; simp
        have he := hpre (by rw [decide_eq_false hm]; rfl) hkey
        refine And.intro (inI64 (by omega) (by omega)) ?_
        exact ⟨j + 1, ⟨hin, hnext he⟩, by omega, [(0, 0)], rfl, rfl, ⟨AVle.refl _, AVle.of_eq (congrArg (AV.int .i64) (by simp)), trivial⟩, ⟨MOle.refl _, trivial⟩⟩
    · have h0 : i = 0 := by have := of_decide_eq_false g5; omega
      have hkey : (decide (i = 0) || decide ((ix s.os (i - 1)).key < (ix s.os i).key)) = true := by rw [decide_eq_true h0]; rfl
      refine LoopC.mk (fun j : Nat => j ≤ i ∧ ∀ q, q < j → (ix s.os q).ver ≠ (ix s.os i).ver) (fun j => [(1, .bptr 0 0), (3, .int .i64 i), (4, .bptr 1 0), (5, .int .i64 j)]) (fun j => [(0, .box s.row), (1, .box (ix s.os i).row)]) 2 (fun j => i - j) 0
        ⟨⟨Nat.zero_le _, fun q hq => absurd hq (Nat.not_lt_zero q)⟩, [(0, 0), (1, 1)], rfl, rfl, ⟨AVle.refl _, AVle.refl _, AVle.refl _, AVle.refl _, trivial⟩, ⟨MOle.refl _, MOle.refl _, trivial⟩⟩ ?_
      intro j hj
      obtain ⟨hj, hv⟩ := hj
      refine Grd.intro (fun h6 => ?_) (fun h6 => ?_)
      · have hjn : j < i := by have := of_decide_eq_true h6; omega
        refine DrawC.mk 9 rfl (by kernel_rfl) ?_
        refine And.intro (by omega) ?_
        refine Grd.intro (fun h7 => ?_) (fun h7 => ?_)
        · have h7 : (ix s.os j).ver = (ix s.os i).ver := of_decide_eq_true h7
          have hm : (ix s.os i).ver ∈ (s.os.take i).map (·.ver) := List.mem_map.2 ⟨ix s.os j, by rw [← ix_take hjn]; exact getD_mem (by simp; omega), h7⟩
          rw [hbad (by unfold Sto.eOK; rw [decide_eq_true hm]; simp)]
          exact And.intro trivial (AVle.refl _)
        · have h7 : (ix s.os j).ver ≠ (ix s.os i).ver := of_decide_eq_false h7
          refine And.intro (inI64 (by omega) (by omega)) ?_
          refine ⟨j + 1, ⟨hjn, fun q hq => ?_⟩, by omega, [(0, 0), (1, 1)], rfl, rfl, ⟨AVle.refl _, AVle.refl _, AVle.refl _, AVle.of_eq (congrArg (AV.int .i64) (by simp)), trivial⟩, ⟨MOle.refl _, MOle.refl _, trivial⟩⟩
          rcases Nat.lt_or_ge q j with h' | h'
          · exact hv q h'
          · rw [show q = j by omega]; exact h7
      · have : j = i := by have := of_decide_eq_false h6; omega
        subst this
        have hm : (ix s.os j).ver ∉ (s.os.take j).map (·.ver) := fun hm => by
          obtain ⟨o, ho, e⟩ := List.mem_map.1 hm
          obtain ⟨q, hq, e2⟩ := List.getElem_of_mem ho
          have hq' : q < j := by simp at hq; omega
          refine hv q hq' ?_
          rw [← e, ← e2, ix_lt (by omega)]; simp
        have he := hpre (by rw [decide_eq_false hm]; rfl) hkey
        refine And.intro (inI64 (by omega) (by omega)) ?_
        exact ⟨j + 1, ⟨hin, hnext he⟩, by omega, [(0, 0)], rfl, rfl, ⟨AVle.refl _, AVle.of_eq (congrArg (AV.int .i64) (by simp)), trivial⟩, ⟨MOle.refl _, trivial⟩⟩
  · have : i = s.os.length := by have := of_decide_eq_false h3; omega
    subst this
    refine Grd.intro (fun h4 => ?_) (fun h4 => ?_)
    · have h4 : s.os.length ≤ 300 := by have := of_decide_eq_true h4; omega
      conv => whnf
      refine CallC.sca _ (l01In_fn s.next 1 1000000000) ?_ ?_
      · exact rfl
      refine And.intro trivial (AVle.of_eq (congrArg AV.bool (show within s.next 1 1000000000 = _ from ?_)))
      cases hw : within s.next 1 1000000000
      · unfold Sto.ok; rw [hw]; rfl
      · rw [Sto.ok_yes hw h4 hall]
    · have h4 : ¬ s.os.length ≤ 300 := by have := of_decide_eq_false h4; omega
      rw [show s.ok = false by unfold Sto.ok; rw [decide_eq_false h4]; simp]
      exact And.intro trivial (AVle.refl _)
theorem specStoreOK_ok (s : Sto) (hL : s.os.length ≤ 1000000000) (hk : ∀ o ∈ s.os, o.key.length ≤ 1000000000) (hn : -9223372036854775808 ≤ s.next ∧ s.next ≤ 9223372036854775807) : VFn Tryz.prog 58 [s.av] (.bool s.ok) := by
  by_cases h : s.next = -9223372036854775808
  · have h1 : within s.next 1 1000000000 = false := by rw [h]; rfl
    rw [show s.ok = false by unfold Sto.ok; rw [h1]; rfl]
    refine (specStoreOK_lo s.os hL hk).weak (AVsle.cons (AVle.agg (AVsle.cons (AVle.refl _) (AVsle.cons (fun w ok g v hv => ?_) AVsle.nil))) AVsle.nil) (AVle.refl _)
    have hv : v = .int .i64 s.next := hv
    rw [h] at hv
    exact hv
  · exact specStoreOK_hi s hL hk (by omega)
end Go.Proofs.YtbphkhlgcneapaaGreatDoor
set_option linter.unusedVariables false
set_option linter.constructorNameAsVariable false
set_option linter.unusedSimpArgs false
set_option maxRecDepth 20000
namespace Go.Proofs.YtbphkhlgcneapaaGreatDoor
open Go Go.Vw

theorem force_to {x y : AV} {k : AV → Prop} (e : x = y) (h : y.force k) : x.force k := e ▸ h
theorem wyes' {a : Bool} (h : (!a) = true) : a = true → False := fun e => by rw [e] at h; cases h
theorem l01Room_fn (s : Sto) (hs : s.ok = true) (k d : List UInt8) : VFn Tryz.prog 295 [s.av, .str (B k), .str (B d)] (.int .i64 (s.room k d)) := by
  have hL := (Sto.ok_at hs).2.1
  have c := l01Find_fn s (by omega) k
  rw [Srt.fi (Sto.srt hs) k, show hasK k s.os = s.has k from rfl] at c
  have r1 : 600 < d.length → s.room k d = 8 := fun h => by unfold Sto.room; rw [if_pos h]
  have r2 : ¬ 600 < d.length → ((!s.has k && decide (s.os.length = 300)) || decide (s.next = 1000000000)) = true → s.room k d = 7 := fun h h2 => by unfold Sto.room; rw [if_neg h, if_pos h2]
  have r3 : ¬ 600 < d.length → ((!s.has k && decide (s.os.length = 300)) || decide (s.next = 1000000000)) = false → s.room k d = 0 := fun h h2 => by unfold Sto.room; rw [if_neg h, if_neg (by rw [h2]; simp)]
  by_cases hk : s.has k = true
  · rw [if_pos hk] at c
    rw [hk] at r2 r3
    refine VFn.introC Tryz.call295 Tryz.func295 rfl rfl ?_
    refine Grd.intro (fun h1 => ?_) (fun h1 => ?_)
    · rw [r1 (by have h : (600 : Int) < (((B d).size : Nat) : Int) := of_decide_eq_true h1; rw [B_size] at h; omega)]
      exact And.intro trivial (AVle.refl _)
    have h1 : ¬ 600 < d.length := by have h : ¬ (600 : Int) < (((B d).size : Nat) : Int) := of_decide_eq_false h1; rw [B_size] at h; omega
    conv => whnf
    refine CallC.sca _ (c) ?_ ?_
    · exact rfl
    refine Grd.intro (fun h3 => ?_) (fun h3 => ?_)
    · rw [r2 h1 h3]
      exact And.intro trivial (AVle.refl _)
    · rw [r3 h1 h3]
      exact And.intro trivial (AVle.refl _)
  · have hk : s.has k = false := by simpa using hk
    rw [if_neg (by rw [hk]; simp)] at c
    rw [hk] at r2 r3
    refine VFn.introC Tryz.call295 Tryz.func295 rfl rfl ?_
    refine Grd.intro (fun h1 => ?_) (fun h1 => ?_)
    · rw [r1 (by have h : (600 : Int) < (((B d).size : Nat) : Int) := of_decide_eq_true h1; rw [B_size] at h; omega)]
      exact And.intro trivial (AVle.refl _)
    have h1 : ¬ 600 < d.length := by have h : ¬ (600 : Int) < (((B d).size : Nat) : Int) := of_decide_eq_false h1; rw [B_size] at h; omega
    conv => whnf
    refine CallC.sca _ (c) ?_ ?_
    · exact rfl
    refine Grd.intro (fun h2 => ?_) (fun h2 => ?_)
    · have h2 : decide (s.os.length = 300) = true := decide_eq_true (by have h : ((s.os.length : Nat) : Int) = 300 := of_decide_eq_true h2; omega)
      rw [r2 h1 (by rw [h2]; rfl)]
      exact And.intro trivial (AVle.refl _)
    have h2 : decide (s.os.length = 300) = false := decide_eq_false (by have h : ¬ ((s.os.length : Nat) : Int) = 300 := of_decide_eq_false h2; omega)
    rw [h2] at r2 r3
    refine Grd.intro (fun h3 => ?_) (fun h3 => ?_)
    · rw [r2 h1 h3]
      exact And.intro trivial (AVle.refl _)
    · rw [r3 h1 h3]
      exact And.intro trivial (AVle.refl _)
theorem l01Own_fn (s : Sto) (hL : s.os.length ≤ 1000000) : VFn Tryz.prog 46 [s.av] s.av := by
  refine VFn.introC Tryz.call46 Tryz.func46 rfl rfl ?_
  refine And.intro ⟨show (0 + s.os.length) * 40 ≤ 140737488355328 by omega, fun i hi => rfl⟩ ?_
  refine And.intro trivial (AVle.agg (AVsle.cons (AVle.sl (Nat.zero_add _) fun i hi => ?_) (AVsle.cons (AVle.refl _) AVsle.nil)))
  rw [appRows_ge (Nat.zero_le _), Nat.sub_zero]
structure StoRd (s : Sto) : Prop where
  len : s.os.length ≤ 1048576
  key : ∀ o ∈ s.os, o.key.length ≤ 1000000000
  nxt : -9223372036854775808 ≤ s.next ∧ s.next ≤ 9223372036854775807
theorem set_len_le (s : Sto) (k d : List UInt8) : (s.set k d).os.length ≤ s.os.length + 1 := by rw [Sto.set_len]; split <;> omega
end Go.Proofs.YtbphkhlgcneapaaGreatDoor
set_option linter.unusedVariables false
set_option linter.constructorNameAsVariable false
set_option linter.unusedSimpArgs false
set_option maxRecDepth 20000
namespace Go.Proofs.YtbphkhlgcneapaaGreatDoor
open Go Go.Vw

theorem putAbsent_fn (s : Sto) (hs : s.ok = true) (k d : List UInt8) (hd : d.length ≤ 1000000000) : VFn Tryz.prog 273 [s.av, .str (B k), .str (B d)] (.tup [(s.putA k d).1.av, .int .i64 (if s.has k = true ∨ s.room k d ≠ 0 then 0 else s.next), .int .i64 (s.putA k d).2]) := by
  have c := find_fn s hs k
  have cp := put_fn s hs k d hd
  unfold Sto.putA
  by_cases hk : s.has k = true
  · rw [hk] at c ⊢
    rw [if_pos rfl, if_pos (.inl rfl)]
    refine VFn.introC Tryz.call273 Tryz.func273 rfl rfl ?_
    conv => whnf
    refine CallC.sca _ (c) ?_ ?_
    · exact rfl
    exact And.intro trivial (AVle.refl _)
  · have hk : s.has k = false := by simpa using hk
    rw [hk] at c ⊢
    rw [if_neg (by simp)]
    unfold Sto.put
    by_cases hr : s.room k d = 0
    · rw [if_pos hr] at cp
      rw [if_pos hr, hr, if_neg (by simp)]
      refine VFn.introC Tryz.call273 Tryz.func273 rfl rfl ?_
      conv => whnf
      refine CallC.sca _ (c) ?_ ?_
      · exact rfl
      conv => whnf
      refine CallC.nl _ (cp) ?_ ?_
      · exact rfl
      exact And.intro trivial (AVle.refl _)
    · rw [if_neg hr] at cp
      rw [if_neg hr, if_pos (.inr hr)]
      refine VFn.introC Tryz.call273 Tryz.func273 rfl rfl ?_
      conv => whnf
      refine CallC.sca _ (c) ?_ ?_
      · exact rfl
      conv => whnf
      refine CallC.nl _ (cp) ?_ ?_
      · exact rfl
      exact And.intro trivial (AVle.refl _)
theorem l01Absent_fn (s : Sto) (hs : s.ok = true) (k d : List UInt8) : VFn Tryz.prog 261 [s.av, .str (B k), .str (B d)] (.tup [(s.putA k d).1.av, .int .i64 (s.putA k d).2]) := by
  have hL := (Sto.ok_at hs).2.1
  have hn : 1 ≤ s.next ∧ s.next ≤ 1000000000 := by simpa [within] using (Sto.ok_at hs).1
  have c := l01Find_fn s (by omega) k
  rw [Srt.fi (Sto.srt hs) k, show hasK k s.os = s.has k from rfl] at c
  unfold Sto.putA
  by_cases hk : s.has k = true
  · rw [if_pos hk] at c
    rw [if_pos hk]
    refine VFn.introC Tryz.call261 Tryz.func261 rfl rfl ?_
    conv => whnf
    refine CallC.sca _ (c) ?_ ?_
    · exact rfl
    exact And.intro trivial (AVle.refl _)
  · rw [if_neg hk] at c
    rw [if_neg hk]
    unfold Sto.put
    refine VFn.introC Tryz.call261 Tryz.func261 rfl rfl ?_
    conv => whnf
    refine CallC.sca _ (c) ?_ ?_
    · exact rfl
    conv => whnf
    refine CallC.sca _ (l01Room_fn s hs k d) ?_ ?_
    · exact rfl
    refine Grd.intro (fun h => ?_) (fun h => ?_)
    · have h : s.room k d ≠ 0 := by simpa using h
      rw [if_neg h]
      exact And.intro trivial (AVle.refl _)
    · have h : s.room k d = 0 := by simpa using h
      rw [if_pos h, h]
      conv => whnf
      refine CallC.nl _ (l01Set_fn s (by omega) ⟨by omega, by omega⟩ k d) ?_ ?_
      · exact rfl
      exact And.intro trivial (AVle.refl _)
end Go.Proofs.YtbphkhlgcneapaaGreatDoor
set_option linter.unusedVariables false
set_option linter.constructorNameAsVariable false
set_option linter.unusedSimpArgs false
set_option maxRecDepth 20000
namespace Go.Proofs.YtbphkhlgcneapaaGreatDoor
open Go Go.Vw

/-- the digits of a positive number, none of 0 -/
def posD : Nat → List UInt8
  | 0 => []
  | n + 1 => posD ((n + 1) / 10) ++ [d1 (n + 1)]
decreasing_by omega
def markT (k : Int) : List UInt8 := if k ≤ 0 then [109, 48] else 109 :: posD k.toNat
theorem posD_len : ∀ (k n : Nat), n < 10 ^ k → (posD n).length ≤ k
  | 0, n, h => by
    have : n = 0 := by simpa using h
    subst this; simp [posD]
  | k + 1, 0, h => by simp [posD]
  | k + 1, n + 1, h => by
    rw [posD]
    have := posD_len k ((n + 1) / 10) (by rw [Nat.pow_succ] at h; omega)
    simp; omega
theorem markText_fn (k : Int) (hk : k ≤ 9223372036854775807) : VFn Tryz.prog 131 [.int .i64 k] (.str (B (markT k))) := by
  obtain ⟨R, hR⟩ : ∃ R, R = markT k := ⟨_, rfl⟩
  rw [← hR]
  refine VFn.introC Tryz.call131 Tryz.func131 rfl rfl ?_
  refine Grd.intro (fun g => ?_) (fun g => ?_)
  · rw [hR, markT, if_pos (of_decide_eq_true g)]
    exact And.intro trivial (AVle.refl _)
  have g : ¬ k ≤ 0 := of_decide_eq_false g
  obtain ⟨n, rfl⟩ : ∃ n : Nat, k = n := ⟨k.toNat, by omega⟩
  have hR' : R = 109 :: posD n := by rw [hR, markT, if_neg g]; rfl
  have hlen : ∀ m : Nat, m ≤ n → (posD m).length ≤ 19 := fun m hm => posD_len 19 m (by simp; omega)
  refine LoopC.mk (fun x : Nat × List UInt8 => x.1 ≤ n ∧ posD x.1 ++ x.2 = posD n) (fun x => [(0, .int .i64 x.1), (3, .str (B x.2))]) (fun _ => []) 0 (fun x => x.1) (n, [])
    ⟨⟨Nat.le_refl _, by simp⟩, [], rfl, rfl, ⟨AVle.refl _, AVle.refl _, trivial⟩, trivial⟩ ?_
  rintro ⟨m, out⟩ hx
  obtain ⟨hm, he⟩ := hx
  simp only at hm he
  refine Grd.intro (fun g1 => ?_) (fun g1 => ?_)
  · have g1 : 0 < m := by have := of_decide_eq_true g1; omega
    have ht : (m : Int).tmod 10 = ((m % 10 : Nat) : Int) := by rw [Int.tmod_eq_emod_of_nonneg (by omega)]; simp
    have hd : (m : Int).tdiv 10 = ((m / 10 : Nat) : Int) := by rw [Int.tdiv_eq_ediv_of_nonneg (by omega)]; simp
    have hp : posD m = posD (m / 10) ++ [d1 m] := by
      obtain ⟨j, rfl⟩ : ∃ j, m = j + 1 := ⟨m - 1, by omega⟩
      rw [posD]
    have hol : out.length ≤ 19 := by
      have := congrArg List.length he
      have := hlen n (Nat.le_refl _)
      simp at *; omega
    refine And.intro (by decide) ?_
    refine And.intro (show inI .i64 (48 + (m : Int).tmod 10) from inI64 (by omega) (by omega)) ?_
    refine And.intro (show inI .u8 (48 + (m : Int).tmod 10) from ⟨show (0 : Int) ≤ _ by omega, show _ ≤ (255 : Int) by omega⟩) ?_
    refine And.intro (fun i hi => ?_) ?_
    · have : i = 0 := by omega
      subst this; rfl
    have h1 : strOfNums [48 + (m : Int).tmod 10] = B [d1 m] := one_digit (k := m % 10) (by rw [ht]) (by omega)
    refine And.intro (show (((strOfNums [48 + (m : Int).tmod 10]).size + (B out).size : Nat) : Int) ≤ 9223372036854775807 by rw [h1, B_size, B_size]; simp; omega) ?_
    refine And.intro ⟨by decide, show inI .i64 ((m : Int).tdiv 10) from inI64 (by omega) (by omega)⟩ ?_
    exact ⟨(m / 10, d1 m :: out), ⟨by simp only; omega, by simp only; rw [← he, hp]; simp⟩, by simp only; omega, [], rfl, rfl, ⟨AVle.of_eq (congrArg (AV.int .i64) (show (m : Int).tdiv 10 = _ by rw [hd])), AVle.of_eq (congrArg AV.str (show strOfNums [48 + (m : Int).tmod 10] ++ B out = _ by rw [h1, B_app]; rfl)), trivial⟩, trivial⟩
  · have : m = 0 := by have := of_decide_eq_false g1; omega
    subst this
    have he : out = posD n := by simpa [posD] using he
    have hol := hlen n (Nat.le_refl _)
    subst he
    refine And.intro (show (((B [109]).size + (B (posD n)).size : Nat) : Int) ≤ 9223372036854775807 by rw [B_size, B_size]; simp; omega) ?_
    exact And.intro trivial (AVle.of_eq (congrArg AV.str (show B [109] ++ B (posD n) = _ by rw [B_app, hR']; rfl)))
/-- texts marked from a number on -/
def mkT (k : Int) (n : Nat) : List (List UInt8) := (List.range n).map fun j : Nat => markT (k + (j : Int))
end Go.Proofs.YtbphkhlgcneapaaGreatDoor
set_option linter.unusedVariables false
set_option linter.constructorNameAsVariable false
set_option linter.unusedSimpArgs false
set_option maxRecDepth 20000
namespace Go.Proofs.YtbphkhlgcneapaaGreatDoor
open Go Go.Vw

def Ob.size (e : Ob) : Nat := e.key.length + e.data.length
theorem szObject_fn (e : Ob) (n : Int) (h0 : 0 ≤ n) (h1 : n ≤ 1048576) (hk : e.key.length ≤ 9223372036854775807 ∧ e.data.length ≤ 9223372036854775807) : VFn Tryz.prog 121 [e.av, .int .i64 n] (.int .i64 (szr (Ob.size e) n)) := by
  have hk1 := hk.1
  have hk2 := hk.2
  refine VFn.introC Tryz.call121 Tryz.func121 rfl rfl ?_
  refine And.intro (show inI .i64 (n - ((B e.key).size : Int)) by rw [B_size]; exact inI64 (by omega) (by omega)) ?_
  refine Grd.intro (fun h2 => ?_) (fun h2 => ?_)
  · have h2 : n - ((B e.key).size : Int) < 0 := of_decide_eq_true h2
    rw [B_size] at h2
    rw [szr_no (k := Ob.size e) (show ¬ ((e.key.length + e.data.length : Nat) : Int) ≤ n by omega)]
    exact And.intro trivial (AVle.refl _)
  have h2 : ¬ n - ((B e.key).size : Int) < 0 := of_decide_eq_false h2
  rw [B_size] at h2
  refine And.intro (show inI .i64 (n - ((B e.key).size : Int) - ((B e.data).size : Int)) by rw [B_size, B_size]; exact inI64 (by omega) (by omega)) ?_
  refine Grd.intro (fun h3 => ?_) (fun h3 => ?_)
  · have h3 : n - ((B e.key).size : Int) - ((B e.data).size : Int) < 0 := of_decide_eq_true h3
    rw [B_size, B_size] at h3
    rw [szr_no (k := Ob.size e) (show ¬ ((e.key.length + e.data.length : Nat) : Int) ≤ n by omega)]
    exact And.intro trivial (AVle.refl _)
  · have h3 : ¬ n - ((B e.key).size : Int) - ((B e.data).size : Int) < 0 := of_decide_eq_false h3
    rw [B_size, B_size] at h3
    rw [szr_yes (k := Ob.size e) (show ((e.key.length + e.data.length : Nat) : Int) ≤ n by omega)]
    exact And.intro trivial (AVle.of_eq (congrArg (AV.int .i64) (show n - ((B e.key).size : Int) - ((B e.data).size : Int) = n - ((e.key.length + e.data.length : Nat) : Int) by rw [B_size, B_size]; omega)))
theorem toObject_fn (e : Ob) : VFn Tryz.prog 125 [e.av] e.av := by
  refine VFn.introC Tryz.call125 Tryz.func125 rfl rfl ?_
  exact And.intro trivial (AVle.refl _)
theorem eqObject_fn (e : Ob) : VFn Tryz.prog 130 [e.av, e.av] (.bool true) := by
  refine VFn.introC Tryz.call130 Tryz.func130 rfl rfl ?_
  refine Grd.intro (fun h => absurd h (by simp)) (fun _ => ?_)
  refine Grd.intro (fun h => absurd h (by simp)) (fun _ => ?_)
  refine Grd.intro (fun h => absurd h (by simp)) (fun _ => ?_)
  exact And.intro trivial (AVle.refl _)
theorem szObjectS_fn (L : List Ob) (n : Int) (h0 : 0 ≤ n) (h1 : n ≤ 1048576) (hL : L.length ≤ 9223372036854775807) (hk : ∀ e ∈ L, e.key.length ≤ 9223372036854775807 ∧ e.data.length ≤ 9223372036854775807) : VFn Tryz.prog 43 [obs L, .int .i64 n] (.int .i64 (szr (L.length + sumL Ob.size L) n)) := by
  refine VFn.introC Tryz.call43 Tryz.func43 rfl rfl ?_
  refine And.intro (inI64 (by omega) (by omega)) ?_
  refine Grd.intro (fun h2 => ?_) (fun h2 => ?_)
  · have h2 : n - (L.length : Int) < 0 := of_decide_eq_true h2
    rw [szr_no (by omega)]
    exact And.intro trivial (AVle.refl _)
  have h2 : ¬ n - (L.length : Int) < 0 := of_decide_eq_false h2
  refine LoopC.mk (fun i : Nat => i ≤ L.length ∧ ((L.length + sumL Ob.size (L.take i) : Nat) : Int) ≤ n) (fun i => [(0, obs L), (1, .int .i64 (n - ((L.length + sumL Ob.size (L.take i) : Nat) : Int))), (5, .int .i64 i)]) (fun _ => []) 0 (fun i => L.length - i) 0
    ⟨⟨Nat.zero_le _, by simp [sumL]; omega⟩, [], rfl, rfl, ⟨AVle.refl _, AVle.of_eq (congrArg (AV.int .i64) (by simp [sumL])), AVle.refl _, trivial⟩, trivial⟩ ?_
  intro i hi
  obtain ⟨hi, hs⟩ := hi
  refine Grd.intro (fun h3 => ?_) (fun h3 => ?_)
  · have hin : i < L.length := by have := of_decide_eq_true h3; omega
    have hsn := sum_snoc (f := Ob.size) hin
    have hle := sum_take_le (f := Ob.size) (L := L) (k := L.length - (i + 1)) (i := i + 1) (by omega)
    refine And.intro (by omega) ?_
    conv => whnf
    refine CallC.sca _ (szObject_fn (ix L i) (n - ((L.length + sumL Ob.size (L.take i) : Nat) : Int)) (by omega) (by omega) (hk _ (getD_mem hin))) ?_ ?_
    · exact rfl
    by_cases hfit : ((Ob.size (ix L i) : Nat) : Int) ≤ n - ((L.length + sumL Ob.size (L.take i) : Nat) : Int)
    · rw [szr_yes hfit]
      refine Grd.intro (fun h4 => absurd (of_decide_eq_true h4) (by omega)) (fun _ => ?_)
      refine And.intro (inI64 (by omega) (by omega)) ?_
      exact ⟨i + 1, ⟨hin, by omega⟩, by omega, [], rfl, rfl, ⟨AVle.refl _, AVle.of_eq (congrArg (AV.int .i64) (by omega)), AVle.of_eq (congrArg (AV.int .i64) (by simp)), trivial⟩, trivial⟩
    · rw [szr_no hfit, szr_no (by omega)]
      exact And.intro trivial (AVle.refl _)
  · have : i = L.length := by have := of_decide_eq_false h3; omega
    subst this
    have e : L.take L.length = L := List.take_of_length_le (Nat.le_refl _)
    have hs' := hs
    rw [e] at hs'
    rw [szr_yes hs']
    exact And.intro trivial (AVle.of_eq (congrArg (AV.int .i64) (show n - ((L.length + sumL Ob.size (L.take L.length) : Nat) : Int) = _ by rw [e])))
theorem toObjectS_fn (L : List Ob) (hL : L.length ≤ 1048576) : VFn Tryz.prog 47 [obs L] (obs L) := by
  refine VFn.introC Tryz.call47 Tryz.func47 rfl rfl ?_
  refine And.intro ⟨by omega, rfl, (show (40 : Int) * L.length ≤ 140737488355328 by omega), by omega⟩ ?_
  refine LoopC.mk (fun i : Nat => i ≤ L.length) (fun i => [(0, obs L), (3, .osl 0), (4, .int .i64 i)])
    (fun i => [(0, .arr 155 3 L.length (wr (fun i => (ix L i).row) (fun _ => (default : Ob).row) i))]) 1 (fun i => L.length - i) 0
    ⟨Nat.zero_le _, [(0, 0)], rfl, rfl, ⟨AVle.refl _, AVle.refl _, AVle.refl _, trivial⟩, ⟨MOle.arr rfl fun i hi => by rw [wr_ge (Nat.zero_le i)]; rfl, trivial⟩⟩ ?_
  intro i hi
  refine Grd.intro (fun h2 => ?_) (fun h2 => ?_)
  · have hin : i < L.length := by have := of_decide_eq_true h2; omega
    refine And.intro (by omega) ?_
    conv => whnf
    refine CallC.sca _ (toObject_fn (ix L i)) ?_ ?_
    · exact rfl
    refine And.intro (by omega) ?_
    refine And.intro (inI64 (by omega) (by omega)) ?_
    exact ⟨i + 1, hin, by omega, [(0, 0)], rfl, rfl, ⟨AVle.refl _, AVle.refl _, AVle.of_eq (congrArg (AV.int .i64) (by simp)), trivial⟩, ⟨MOle.arr rfl fun k hk => wr_next fun e => by subst e; rw [wr_ge (Nat.le_refl _)]; rfl, trivial⟩⟩
  · have : i = L.length := by have := of_decide_eq_false h2; omega
    subst this
    exact And.intro trivial (AVle.sl rfl fun k hk => wr_lt hk)
theorem eqObjectS_fn (L : List Ob) (hL : L.length ≤ 1048576) : VFn Tryz.prog 51 [obs L, obs L] (.bool true) := by
  refine VFn.introC Tryz.call51 Tryz.func51 rfl rfl ?_
  refine Grd.intro (fun h => absurd h (by simp)) (fun _ => ?_)
  refine LoopC.mk (fun i : Nat => i ≤ L.length) (fun i => [(0, obs L), (1, obs L), (5, .int .i64 i)]) (fun _ => []) 0 (fun i => L.length - i) 0
    ⟨Nat.zero_le _, [], rfl, rfl, ⟨AVle.refl _, AVle.refl _, AVle.refl _, trivial⟩, trivial⟩ ?_
  intro i hi
  refine Grd.intro (fun h2 => ?_) (fun h2 => ?_)
  · have hin : i < L.length := by have := of_decide_eq_true h2; omega
    refine DrawC.mk 10 rfl (by kernel_rfl) ?_
    refine And.intro (by omega) ?_
    refine And.intro (by omega) ?_
    refine PCallC.sca _ (eqObject_fn (ix L i)) rfl ?_
    refine And.intro (inI64 (by omega) (by omega)) ?_
    exact ⟨i + 1, hin, by omega, [], rfl, rfl, ⟨AVle.refl _, AVle.refl _, AVle.of_eq (congrArg (AV.int .i64) (by simp)), trivial⟩, trivial⟩
  · exact And.intro trivial (AVle.refl _)
theorem toObjectS_own (L : List Ob) (hL : L.length ≤ 1048576) : FnM Tryz.prog 47 0 [obs L] [] (.osl 0) [(0, .arr 155 3 L.length fun i => (ix L i).row)] 1 := by
  refine FnM.introC Tryz.call47 Tryz.func47 rfl rfl ?_
  refine And.intro ⟨by omega, rfl, (show (40 : Int) * L.length ≤ 140737488355328 by omega), by omega⟩ ?_
  refine LoopC.mk (fun i : Nat => i ≤ L.length) (fun i => [(0, obs L), (3, .osl 0), (4, .int .i64 i)])
    (fun i => [(0, .arr 155 3 L.length (wr (fun i => (ix L i).row) (fun _ => (default : Ob).row) i))]) 1 (fun i => L.length - i) 0
    ⟨Nat.zero_le _, [(0, 0)], rfl, rfl, ⟨AVle.refl _, AVle.refl _, AVle.refl _, trivial⟩, ⟨MOle.arr rfl fun i hi => by rw [wr_ge (Nat.zero_le i)]; rfl, trivial⟩⟩ ?_
  intro i hi
  refine Grd.intro (fun h2 => ?_) (fun h2 => ?_)
  · have hin : i < L.length := by have := of_decide_eq_true h2; omega
    refine And.intro (by omega) ?_
    conv => whnf
    refine CallC.sca _ (toObject_fn (ix L i)) ?_ ?_
    · exact rfl
    refine And.intro (by omega) ?_
    refine And.intro (inI64 (by omega) (by omega)) ?_
    exact ⟨i + 1, hin, by omega, [(0, 0)], rfl, rfl, ⟨AVle.refl _, AVle.refl _, AVle.of_eq (congrArg (AV.int .i64) (by simp)), trivial⟩, ⟨MOle.arr rfl fun k hk => wr_next fun e => by subst e; rw [wr_ge (Nat.le_refl _)]; rfl, trivial⟩⟩
  · have : i = L.length := by have := of_decide_eq_false h2; omega
    subst this
    exact And.intro trivial ⟨[(0, 0)], rfl, AVle.refl _, ⟨MOle.arr rfl fun k hk => wr_lt hk, trivial⟩⟩

def mkO (k : Int) (i : Nat) : List AV := [.str (B (markT (k + 3 * i))), .int .i64 (k + 3 * i + 1), .str (B (markT (k + 3 * i + 1 + 1)))]
theorem markObjectS_fn (n : Nat) (rows : Nat → List AV) (hr : ∀ i, i < n → ∃ a b c, rows i = [a, b, c]) (hn : n ≤ 1048576) (k : Int) (hk : 0 ≤ k ∧ k ≤ 1000000000) :
    FnM Tryz.prog 52 1 [.osl 0, .int .i64 k] [(0, .arr 155 3 n rows)] (.int .i64 (k + 3 * n)) [(0, .arr 155 3 n (mkO k))] 1 := by
  refine FnM.introC Tryz.call52 Tryz.func52 rfl rfl ?_
  refine LoopC.mk (fun i : Nat => i ≤ n) (fun i => [(0, .osl 0), (1, .int .i64 (k + 3 * i)), (5, .int .i64 i)]) (fun i => [(0, .arr 155 3 n (wr (mkO k) rows i))]) 1 (fun i => n - i) 0
    ⟨Nat.zero_le _, [(0, 0)], rfl, rfl, ⟨AVle.refl _, AVle.of_eq (congrArg (AV.int .i64) (by simp)), AVle.refl _, trivial⟩, ⟨MOle.arr rfl fun i hi => by rw [wr_ge (Nat.zero_le i)], trivial⟩⟩ ?_
  intro i hi
  refine Grd.intro (fun h2 => ?_) (fun h2 => ?_)
  · have hin : i < n := by have := of_decide_eq_true h2; omega
    conv => whnf
    refine CallC.sca _ (markText_fn (k + 3 * i) (by omega)) ?_ ?_
    · exact rfl
    refine And.intro (by omega) ?_
    refine And.intro (show inI .i64 (k + 3 * i + 1) from inI64 (by omega) (by omega)) ?_
    refine And.intro (by omega) ?_
    refine And.intro (show inI .i64 (k + 3 * i + 1 + 1) from inI64 (by omega) (by omega)) ?_
    conv => whnf
    refine CallC.sca _ (markText_fn (k + 3 * i + 1 + 1) (by omega)) ?_ ?_
    · exact rfl
    refine And.intro (by omega) ?_
    refine And.intro (show inI .i64 (k + 3 * i + 1 + 1 + 1) from inI64 (by omega) (by omega)) ?_
    refine And.intro (inI64 (by omega) (by omega)) ?_
    refine ⟨i + 1, hin, by omega, [(0, 0)], rfl, rfl, ⟨AVle.refl _, AVle.of_eq (congrArg (AV.int .i64) (show k + 3 * i + 1 + 1 + 1 = _ by simp; omega)), AVle.of_eq (congrArg (AV.int .i64) (by simp)), trivial⟩, ⟨MOle.arr rfl fun j hj => ?_, trivial⟩⟩
    by_cases hji : j = i
    · subst hji
      obtain ⟨a, b, c, e⟩ := hr j hin
      have hb : Nat.beq j ((j : Nat) : Int).toNat = true := beq_t j
      have e1 : wr (mkO k) rows j j = [a, b, c] := by rw [wr_ge (Nat.le_refl _)]; exact e
      simp only [hb, cond_true, e1]
      rw [wr_lt (Nat.lt_succ_self _)]
      unfold mkO
      generalize B (markT (k + 3 * ((j : Nat) : Int))) = m1
      generalize B (markT (k + 3 * ((j : Nat) : Int) + 1 + 1)) = m2
      rfl
    · have hb : Nat.beq j ((i : Nat) : Int).toNat = false := beq_f hji
      simp only [hb, cond_false]
      rcases Nat.lt_or_ge j i with h | h
      · rw [wr_lt h, wr_lt (by omega)]
      · rw [wr_ge h, wr_ge (by omega)]
  · have : i = n := by have := of_decide_eq_false h2; omega
    subst this
    exact And.intro trivial ⟨[(0, 0)], rfl, AVle.refl _, ⟨MOle.arr rfl fun j hj => wr_lt hj, trivial⟩⟩
theorem heldObjectS_fn (n : Nat) (hn : n ≤ 1048576) (k : Int) (hk : 0 ≤ k ∧ k ≤ 1000000000) : VFn Tryz.prog 53 [.sl 3 n (mkO k), .int .i64 k] (.int .i64 (k + 3 * n)) := by
  refine VFn.introC Tryz.call53 Tryz.func53 rfl rfl ?_
  refine LoopC.mk (fun i : Nat => i ≤ n) (fun i => [(0, .sl 3 n (mkO k)), (1, .int .i64 (k + 3 * i)), (5, .int .i64 i)]) (fun _ => []) 0 (fun i => n - i) 0
    ⟨Nat.zero_le _, [], rfl, rfl, ⟨AVle.refl _, AVle.of_eq (congrArg (AV.int .i64) (by simp)), AVle.refl _, trivial⟩, trivial⟩ ?_
  intro i hi
  refine Grd.intro (fun h2 => ?_) (fun h2 => ?_)
  · have hin : i < n := by have := of_decide_eq_true h2; omega
    refine DrawC.mk 8 rfl (by kernel_rfl) ?_
    refine And.intro (by omega) ?_
    refine PCallC.sca _ (markText_fn (k + 3 * i) (by omega)) rfl ?_
    refine Grd.intro (fun h => absurd h (by simp)) (fun _ => ?_)
    refine And.intro (show inI .i64 (k + 3 * i + 1) from inI64 (by omega) (by omega)) ?_
    refine And.intro (by omega) ?_
    refine Grd.intro (fun h => absurd h (by simp)) (fun _ => ?_)
    refine And.intro (show inI .i64 (k + 3 * i + 1 + 1) from inI64 (by omega) (by omega)) ?_
    refine DrawC.mk 8 rfl (by kernel_rfl) ?_
    refine And.intro (by omega) ?_
    refine PCallC.sca _ (markText_fn (k + 3 * i + 1 + 1) (by omega)) rfl ?_
    refine Grd.intro (fun h => absurd h (by simp)) (fun _ => ?_)
    refine And.intro (show inI .i64 (k + 3 * i + 1 + 1 + 1) from inI64 (by omega) (by omega)) ?_
    refine And.intro (inI64 (by omega) (by omega)) ?_
    exact ⟨i + 1, hin, by omega, [], rfl, rfl, ⟨AVle.refl _, AVle.of_eq (congrArg (AV.int .i64) (show k + 3 * i + 1 + 1 + 1 = _ by simp; omega)), AVle.of_eq (congrArg (AV.int .i64) (by simp)), trivial⟩, trivial⟩
  · have : i = n := by have := of_decide_eq_false h2; omega
    subst this
    exact And.intro trivial (AVle.refl _)
def stoN (s : Sto) : Nat := s.os.length + sumL Ob.size s.os
structure StoIn (s : Sto) : Prop where
  len : s.os.length ≤ 9223372036854775807
  sz : ∀ e ∈ s.os, e.key.length ≤ 9223372036854775807 ∧ e.data.length ≤ 9223372036854775807
  nxt : -9223372036854775808 ≤ s.next ∧ s.next ≤ 9223372036854775807
theorem szStore_fn (s : Sto) (h : StoIn s) : VFn Tryz.prog 11 [s.av, .int .i64 1048576] (.int .i64 (szr (stoN s) 1048576)) := by
  unfold stoN
  refine VFn.introC Tryz.call11 Tryz.func11 rfl rfl ?_
  conv => whnf
  refine CallC.sca _ (szObjectS_fn s.os 1048576 (by decide) (by decide) h.len h.sz) ?_ ?_
  · exact rfl
  by_cases f1 : ((s.os.length + sumL Ob.size s.os : Nat) : Int) ≤ 1048576
  · rw [szr_yes f1]
    refine Grd.intro (fun h2 => absurd (of_decide_eq_true h2) (by omega)) (fun _ => ?_)
    exact And.intro trivial (AVle.refl _)
  · rw [szr_no f1]
    exact And.intro trivial (AVle.refl _)
theorem Sto_small {s : Sto} (h : (stoN s : Int) ≤ 1048576) : s.os.length ≤ 1048576 ∧ (∀ e ∈ s.os, e.key.length ≤ 1048576) ∧ ∀ e ∈ s.os, e.data.length ≤ 1048576 := by
  unfold stoN at h
  refine ⟨by omega, fun e he => ?_, fun e he => ?_⟩
  all_goals
    have := sum_mem (f := Ob.size) he
    have e' : Ob.size e = e.key.length + e.data.length := rfl
    omega
theorem toStore_fn (s : Sto) (h1 : s.os.length ≤ 1048576) : VFn Tryz.prog 13 [s.av] s.av := by
  refine VFn.introC Tryz.call13 Tryz.func13 rfl rfl ?_
  conv => whnf
  refine CallC.nl _ (toObjectS_fn s.os h1) ?_ ?_
  · exact rfl
  exact And.intro trivial (AVle.refl _)
theorem toStore_own (s : Sto) (h1 : s.os.length ≤ 1048576) : FnM Tryz.prog 13 0 [s.av] [] s.own [(0, .arr 155 3 s.os.length fun i => (ix s.os i).row)] 1 := by
  refine FnM.introC Tryz.call13 Tryz.func13 rfl rfl ?_
  conv => whnf
  refine CallC.k [] (toObjectS_own s.os h1) rfl rfl (AVsle.refl _) trivial rfl ?_
  exact And.intro trivial ⟨[(3, 0)], rfl, AVle.refl _, ⟨MOle.refl _, trivial⟩⟩
theorem eqStore_fn (s : Sto) (h1 : s.os.length ≤ 1048576) : VFn Tryz.prog 15 [s.av, s.av] (.bool true) := by
  refine VFn.introC Tryz.call15 Tryz.func15 rfl rfl ?_
  conv => whnf
  refine CallC.sca _ (eqObjectS_fn s.os h1) ?_ ?_
  · exact rfl
  refine Grd.intro (fun h => absurd h (by simp)) (fun _ => ?_)
  exact And.intro trivial (AVle.refl _)
theorem markStore_fn (n : Nat) (rows : Nat → List AV) (nx : Int) (hr : ∀ i, i < n → ∃ a b c, rows i = [a, b, c]) (hn : n ≤ 1048576) (k : Int) (hk : 0 ≤ k ∧ k ≤ 1000000000) :
    FnM Tryz.prog 16 1 [.agg [.osl 0, .int .i64 nx], .int .i64 k] [(0, .arr 155 3 n rows)] (.int .i64 (k + 3 * n)) [(0, .arr 155 3 n (mkO k))] 1 := by
  refine FnM.introC Tryz.call16 Tryz.func16 rfl rfl ?_
  conv => whnf
  refine CallC.k [(0, 0)] (markObjectS_fn n rows hr hn k hk) rfl rfl (AVsle.refl _) ⟨MOle.refl _, trivial⟩ rfl ?_
  exact And.intro trivial ⟨[(0, 0)], rfl, AVle.refl _, ⟨MOle.refl _, trivial⟩⟩
theorem heldStore_fn (n : Nat) (nx : Int) (hn : n ≤ 1048576) (k : Int) (hk : 0 ≤ k ∧ k ≤ 1000000000) : VFn Tryz.prog 17 [.agg [.sl 3 n (mkO k), .int .i64 nx], .int .i64 k] (.int .i64 (k + 3 * n)) := by
  refine VFn.introC Tryz.call17 Tryz.func17 rfl rfl ?_
  conv => whnf
  refine CallC.sca _ (heldObjectS_fn n hn k hk) ?_ ?_
  · exact rfl
  refine Grd.intro (fun h2 => absurd (of_decide_eq_true h2) (by omega)) (fun _ => ?_)
  exact And.intro trivial (AVle.refl _)
/-- no store -/
def sto0 : AV := .agg [.nilsl, .int .i64 0]
theorem eqStore0_fn : VFn Tryz.prog 15 [sto0, sto0] (.bool true) := by
  have c : VFn Tryz.prog 51 [.nilsl, .nilsl] (.bool true) := by
    refine VFn.introC Tryz.call51 Tryz.func51 rfl rfl ?_
    refine LoopC.rounds 1 ?_
    exact And.intro trivial (AVle.refl _)
  refine VFn.introC Tryz.call15 Tryz.func15 rfl rfl ?_
  conv => whnf
  refine CallC.sca _ (c) ?_ ?_
  · exact rfl
  exact And.intro trivial (AVle.refl _)
theorem markStore0_fn (k : Int) : VFn Tryz.prog 16 [sto0, .int .i64 k] (.int .i64 k) := by
  have c : VFn Tryz.prog 52 [.nilsl, .int .i64 k] (.int .i64 k) := by
    refine VFn.introC Tryz.call52 Tryz.func52 rfl rfl ?_
    refine LoopC.rounds 1 ?_
    exact And.intro trivial (AVle.refl _)
  refine VFn.introC Tryz.call16 Tryz.func16 rfl rfl ?_
  conv => whnf
  refine CallC.sca _ (c) ?_ ?_
  · exact rfl
  exact And.intro trivial (AVle.refl _)
theorem heldStore0_fn : VFn Tryz.prog 17 [sto0, .int .i64 1] (.int .i64 1) := by
  have c : VFn Tryz.prog 53 [.nilsl, .int .i64 1] (.int .i64 1) := by
    refine VFn.introC Tryz.call53 Tryz.func53 rfl rfl ?_
    refine LoopC.rounds 1 ?_
    exact And.intro trivial (AVle.refl _)
  refine VFn.introC Tryz.call17 Tryz.func17 rfl rfl ?_
  conv => whnf
  refine CallC.sca _ (c) ?_ ?_
  · exact rfl
  exact And.intro trivial (AVle.refl _)
end Go.Proofs.YtbphkhlgcneapaaGreatDoor
set_option linter.unusedVariables false
set_option linter.constructorNameAsVariable false
set_option linter.unusedSimpArgs false
set_option maxRecDepth 20000
namespace Go.Proofs.YtbphkhlgcneapaaGreatDoor
open Go Go.Vw

theorem B_nil (a : List UInt8) : ((B a).toList == (ByteArray.mk #[]).toList) = decide (a = []) := B_eq (b := [])
theorem B_isEmpty (a : List UInt8) : (B a).toList.isEmpty = decide (a = []) := by rw [B_toList]; cases a <;> simp
structure En where
  tier : Int
  f : Int
  t : Int
  key : List UInt8
  deriving Inhabited, DecidableEq
def En.row (e : En) : List AV := [.int .i64 e.tier, .int .i64 e.f, .int .i64 e.t, .str (B e.key)]
def En.av (e : En) : AV := .agg e.row
def En.ok (e : En) : Bool := kOk e.key && (decide (kT e.key = e.tier) && (isRange e.f e.t && decide (e.f < e.t)))
structure Rc where
  k : Int
  tok : Int
  tier : Int
  f : Int
  t : Int
  key : List UInt8
  deriving Inhabited, DecidableEq
def Rc.row (r : Rc) : List AV := [.int .i64 r.k, .int .i64 r.tok, .int .i64 r.tier, .int .i64 r.f, .int .i64 r.t, .str (B r.key)]
def Rc.av (r : Rc) : AV := .agg r.row
@[reducible] def Rc.en (r : Rc) : En := ⟨r.tier, r.f, r.t, r.key⟩
def Rc.bare (r : Rc) : Bool := decide (r.tier = 0) && (decide (r.f = 0) && decide (r.t = 0))
def Rc.ok (r : Rc) : Bool :=
  if r.k = 1 then decide (r.tok = 0) && (decide (r.tier = 0) && r.en.ok)
  else if r.k = 2 then within r.tok 1 999999 && (r.bare && decide (r.key = []))
  else if r.k = 3 then within r.tok 1 999999 && (decide (0 < r.tier) && r.en.ok)
  else if r.k = 4 then within r.tok 1 999999 && r.en.ok
  else if r.k = 5 then decide (r.tok = 0) && (r.bare && kOk r.key)
  else false
theorem entryOK_fn (e : En) : VFn Tryz.prog 99 [e.av] (.bool e.ok) := by
  refine VFn.introC Tryz.call99 Tryz.func99 rfl rfl ?_
  conv => whnf
  refine CallC.sca _ (readDataKey_fn e.key) ?_ ?_
  · exact rfl
  repeat' (conv => whnf
           first
      | refine Grd.intro (fun h => ?_) (fun h => ?_)
      | (refine CallC.sca _ (isRange_fn _ _) ?_ ?_; exact rfl)
      | refine And.intro trivial (AVle.of_eq (congrArg AV.bool ?_)))
  all_goals (simp_all [En.ok])
theorem entry_fn (r : Rc) : VFn Tryz.prog 217 [r.av] r.en.av := by
  refine VFn.introC Tryz.call217 Tryz.func217 rfl rfl ?_
  exact And.intro trivial (AVle.refl _)
theorem isToken_fn (n : Int) : VFn Tryz.prog 218 [.int .i64 n] (.bool (within n 1 999999)) := by
  refine VFn.introC Tryz.call218 Tryz.func218 rfl rfl ?_
  conv => whnf
  refine CallC.sca _ (within_fn _ _ _) ?_ ?_
  · exact rfl
  exact And.intro trivial (AVle.refl _)
theorem RecordOK_fn (r : Rc) : VFn Tryz.prog 148 [r.av] (.bool r.ok) := by
  refine VFn.introC Tryz.call148 Tryz.func148 rfl rfl ?_
  repeat' (conv => whnf
           first
      | refine Grd.intro (fun h => ?_) (fun h => ?_)
      | (refine CallC.sca _ (isToken_fn _) ?_ ?_; exact rfl)
      | (refine CallC.sca _ (entry_fn r) ?_ ?_; exact rfl)
      | (refine CallC.sca _ (entryOK_fn r.en) ?_ ?_; exact rfl)
      | (refine CallC.sca _ (readDataKey_fn r.key) ?_ ?_; exact rfl)
      | refine And.intro trivial (AVle.of_eq (congrArg AV.bool ?_)))
  all_goals (first | (simp_all [Rc.ok, Rc.bare, B_nil, B_isEmpty]; done) | (simp_all [Rc.ok, Rc.bare, B_nil, B_isEmpty]; intros; omega))
theorem kT_nat (k : List UInt8) : 0 ≤ kT k ∧ kT k ≤ 2 := by
  unfold kT
  cases h : parseKey k with
  | none => simp
  | some q =>
    obtain ⟨t, n, w⟩ := q
    have := key_parse h
    simp only; omega
theorem l06Tiered_fn (r : Rc) (hk : r.key.length ≤ 1000000000) (n : Int) : VFn Tryz.prog 95 [r.av, .int .i64 n] (.bool (r.en.ok && decide (n ≤ r.tier))) := by
  have h2 := kT_nat r.key
  refine VFn.introC Tryz.call95 Tryz.func95 rfl rfl ?_
  conv => whnf
  refine CallC.sca _ (l03ToKey_fn r.key hk) ?_ ?_
  · exact rfl
  repeat' (conv => whnf
           first
      | refine Grd.intro (fun h => ?_) (fun h => ?_)
      | (refine CallC.sca _ (l01In_fn _ _ _) ?_ ?_; exact rfl)
      | (refine CallC.sca _ (l04Range_fn _ _) ?_ ?_; exact rfl)
      | refine And.intro trivial (AVle.of_eq (congrArg AV.bool ?_)))
  all_goals (simp_all [En.ok, Rc.en, within]; try omega)
theorem specRecordOK_fn (r : Rc) (hk : r.key.length ≤ 1000000000) : VFn Tryz.prog 138 [r.av] (.bool r.ok) := by
  have h0 := l06Tiered_fn r hk 0
  have h1 := l06Tiered_fn r hk 1
  have e0 : (r.en.ok && decide (0 ≤ r.tier)) = r.en.ok := by
    cases h : r.en.ok
    · rfl
    · unfold En.ok at h
      have h2 := kT_nat r.key
      simp [Rc.en] at h
      simp; omega
  have e1 : decide (1 ≤ r.tier) = decide (0 < r.tier) := decide_eq_decide.2 (by omega)
  rw [e0] at h0
  rw [e1] at h1
  refine VFn.introC Tryz.call138 Tryz.func138 rfl rfl ?_
  repeat' (conv => whnf
           first
      | refine Grd.intro (fun h => ?_) (fun h => ?_)
      | (refine CallC.sca _ (l01In_fn _ _ _) ?_ ?_; exact rfl)
      | (refine CallC.sca _ (h0) ?_ ?_; exact rfl)
      | (refine CallC.sca _ (h1) ?_ ?_; exact rfl)
      | (refine CallC.sca _ (l03ToKey_fn r.key hk) ?_ ?_; exact rfl)
      | refine And.intro trivial (AVle.of_eq (congrArg AV.bool ?_)))
  all_goals (simp_all [Rc.ok, Rc.bare, B_nil, B_isEmpty, Bool.and_comm]; done)

theorem key_len {k : List UInt8} (h : kOk k = true) : k.length ≤ 17 := by
  unfold kOk at h
  cases e : parseKey k with
  | none => rw [e] at h; cases h
  | some q =>
    obtain ⟨t, n, w⟩ := q
    obtain ⟨e1, ht, hn, hw⟩ := key_parse e
    rw [e1]
    have h3 : t = 0 ∨ t = 1 ∨ t = 2 := by omega
    rcases h3 with rfl | rfl | rfl <;> simp [keyB, pre, six6_len]
def Rc.nums (r : Rc) : List Int := [r.k, r.tok, r.tier, r.f, r.t]
def Rc.text (r : Rc) : List UInt8 := Lib.join (r.nums.map Lib.itoa) [44] ++ ([32] ++ r.key)
theorem Rc.okN {r : Rc} (h : r.ok = true) : (∀ x ∈ r.nums, mid x) ∧ r.key.length ≤ 17 := by
  have hT := kT_nat r.key
  have hL := @key_len r.key
  have m : (mid r.k ∧ mid r.tok ∧ mid r.tier ∧ mid r.f ∧ mid r.t) ∧ r.key.length ≤ 17 := by
    unfold Rc.ok at h
    split at h
    · simp [Rc.en, En.ok, isRange, within] at h
      refine ⟨⟨?_, ?_, ?_, ?_, ?_⟩, hL h.2.2.1⟩ <;> (unfold mid; omega)
    split at h
    · simp [Rc.bare, within] at h
      refine ⟨⟨?_, ?_, ?_, ?_, ?_⟩, by rw [h.2.2]; simp⟩ <;> (unfold mid; omega)
    split at h
    · simp [Rc.en, En.ok, isRange, within] at h
      refine ⟨⟨?_, ?_, ?_, ?_, ?_⟩, hL h.2.2.1⟩ <;> (unfold mid; omega)
    split at h
    · simp [Rc.en, En.ok, isRange, within] at h
      refine ⟨⟨?_, ?_, ?_, ?_, ?_⟩, hL h.2.1⟩ <;> (unfold mid; omega)
    split at h
    · simp [Rc.bare, within] at h
      refine ⟨⟨?_, ?_, ?_, ?_, ?_⟩, hL h.2.2⟩ <;> (unfold mid; omega)
    · cases h
  refine ⟨fun x hx => ?_, m.2⟩
  obtain ⟨m1, m2, m3, m4, m5⟩ := m.1
  simp only [Rc.nums, List.mem_cons, List.not_mem_nil, or_false] at hx
  rcases hx with rfl | rfl | rfl | rfl | rfl <;> assumption
theorem Rc.head_len {r : Rc} (h : r.ok = true) : (Lib.join (r.nums.map Lib.itoa) [44]).length ≤ 110 := by
  have := join_len (m := 21) (c := 1) (L := r.nums.map Lib.itoa) (s := [44]) (fun x hx => by
    obtain ⟨n, hn, rfl⟩ := List.mem_map.1 hx
    exact mid_len ((Rc.okN h).1 n hn)) (by simp)
  exact Nat.le_trans this (by simp [Rc.nums])
end Go.Proofs.YtbphkhlgcneapaaGreatDoor
set_option linter.unusedVariables false
set_option linter.constructorNameAsVariable false
set_option linter.unusedSimpArgs false
set_option maxRecDepth 20000
namespace Go.Proofs.YtbphkhlgcneapaaGreatDoor
open Go Go.Vw

def Rc.res (r : Rc) : List UInt8 := if r.ok = true then r.text else []
def Rc.code (r : Rc) : Int := if r.ok = true then 0 else 1
theorem recText_fn (r : Rc) (h : r.ok = true) : VFn Tryz.prog 275 [r.av] (.str (B r.text)) := by
  have hm := (Rc.okN h).1
  have hk := (Rc.okN h).2
  have hl := Rc.head_len h
  have e : (r.nums.map It.n).map It.txt = r.nums.map Lib.itoa := by rw [List.map_map]; rfl
  refine VFn.introC Tryz.call275 Tryz.func275 rfl rfl ?_
  refine DrawC.mk 22 rfl (by kernel_rfl) ?_
  refine PCallC.sca _ (joined_of (r.nums.map It.n) (n := 5) ⟨rfl, rfl, rfl, rfl, rfl, trivial⟩ rfl [44] (show 5 ≤ 100000000 by decide) (fun x hx => by
    obtain ⟨n, hn, rfl⟩ := List.mem_map.1 hx
    have := hm n hn; unfold mid at this; exact ⟨by omega, by omega⟩) (by rw [e]; omega)) rfl ?_
  rw [e]
  have add : ∀ (x y : List UInt8), (x.length + y.length : Nat) ≤ 100000 → (((B x).size + (B y).size : Nat) : Int) ≤ 9223372036854775807 := fun x y h => by rw [B_size, B_size]; omega
  refine And.intro (add (Lib.join (r.nums.map Lib.itoa) [44]) [32] (by simp; omega)) ?_
  refine And.intro (show (((B (Lib.join (r.nums.map Lib.itoa) [44]) ++ B [32]).size + (B r.key).size : Nat) : Int) ≤ 9223372036854775807 by rw [B_app]; exact add _ _ (by simp; omega)) ?_
  exact And.intro trivial (AVle.of_eq (congrArg AV.str (show B (Lib.join (r.nums.map Lib.itoa) [44]) ++ B [32] ++ B r.key = B r.text by rw [B_app, B_app, List.append_assoc]; rfl)))
theorem l06Text_fn (r : Rc) (h : r.ok = true) : VFn Tryz.prog 262 [r.av] (.str (B r.text)) := by
  have hm := (Rc.okN h).1
  have hk := (Rc.okN h).2
  have hl := Rc.head_len h
  refine VFn.introC Tryz.call262 Tryz.func262 rfl rfl ?_
  refine DrawC.mk 17 rfl (by kernel_rfl) ?_
  refine PCallC.sca (.str (B (Lib.join (r.nums.map Lib.itoa) [44]))) ((l02Join_fn r.nums (show 5 ≤ 100000000 by decide) (fun x hx => by have := hm x hx; unfold mid at this; omega)).weak (AVsle.cons (RowsAre.le (f := fun n : Int => [AV.int .i64 n]) rfl ⟨rfl, rfl, rfl, rfl, rfl, trivial⟩) AVsle.nil) (AVle.refl _)) rfl ?_
  have add : ∀ (x y : List UInt8), (x.length + y.length : Nat) ≤ 100000 → (((B x).size + (B y).size : Nat) : Int) ≤ 9223372036854775807 := fun x y h => by rw [B_size, B_size]; omega
  refine And.intro (add (Lib.join (r.nums.map Lib.itoa) [44]) [32] (by simp; omega)) ?_
  refine And.intro (show (((B (Lib.join (r.nums.map Lib.itoa) [44]) ++ B [32]).size + (B r.key).size : Nat) : Int) ≤ 9223372036854775807 by rw [B_app]; exact add _ _ (by simp; omega)) ?_
  exact And.intro trivial (AVle.of_eq (congrArg AV.str (show B (Lib.join (r.nums.map Lib.itoa) [44]) ++ B [32] ++ B r.key = B r.text by rw [B_app, B_app, List.append_assoc]; rfl)))
end Go.Proofs.YtbphkhlgcneapaaGreatDoor
