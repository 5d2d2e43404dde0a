/- Stores: right ones, by the reference: contracts; the conditions are the theorems' own. -/
import Derived.Test.YtpfmfdioonjccaaGreatDoorKB
set_option linter.unusedVariables false
set_option linter.constructorNameAsVariable false
set_option linter.unusedSimpArgs false
set_option maxRecDepth 20000
namespace Go.Proofs.YtpfmfdioonjccaaGreatDoor
open Go Go.Vw

theorem specKeyOK_fn (k : List UInt8) (hk : k.length ≤ 1000000000) : VFn Tryz.prog 171 [.str (B k)] (.bool (keyOK k)) := by
  obtain ⟨R, hR⟩ : ∃ R, R = keyOK k := ⟨_, rfl⟩
  rw [← hR]
  refine VFn.introC Tryz.call171 Tryz.func171 rfl rfl ?_
  refine Grd.intro (fun h0 => ?_) (fun h0 => ?_)
  · have h0 : 65536 < k.length := by
      have := of_decide_eq_true (show decide ((65536 : Int) < (((B k).size : Nat) : Int)) = true from h0)
      rw [B_size] at this; omega
    have hw : within k.length 1 30 = false := by unfold within; simp; omega
    rw [hR, show keyOK k = false by unfold keyOK; rw [hw]; simp]
    exact And.intro trivial (AVle.refl _)
  refine LoopC.mk (fun i : Nat => i ≤ k.length ∧ ∀ j, j < i → keyC (k.getD j 0) = true) (fun i => [(0, .str (B k)), (3, .int .i64 i)]) (fun _ => []) 0 (fun i => k.length - i) 0
    ⟨⟨Nat.zero_le _, fun j hj => absurd hj (Nat.not_lt_zero j)⟩, [], rfl, rfl, ⟨AVle.refl _, AVle.refl _, trivial⟩, trivial⟩ ?_
  intro i hi
  have hsz : (((B k).size : Nat) : Int) = k.length := by rw [B_size]
  refine Grd.intro (fun h2 => ?_) (fun h2 => ?_)
  · have hin : i < k.length := by have := of_decide_eq_true h2; omega
    refine And.intro ⟨by omega, by omega⟩ ?_
    have hbad : keyC (k.getD i 0) = false → false = R := fun h => by rw [hR, keyOK_bad hin h]
    have hgood : keyC (k.getD i 0) = true → ∀ j, j < i + 1 → keyC (k.getD j 0) = true := fun h j hj => by
      rcases Nat.lt_or_ge j i with h' | h'
      · exact hi.2 j h'
      · rw [show j = i by omega]; exact h
    have hx : k.getD i 0 = (B k).data.toList.getD (i : Int).toNat 0 := rfl
    generalize (B k).data.toList.getD (i : Int).toNat 0 = c at hx ⊢
    rw [hx] at hbad hgood
    unfold keyC at hbad
    have hgood : ((decide (97 ≤ (c.toNat : Int)) && decide ((c.toNat : Int) ≤ 122)) || (decide (48 ≤ (c.toNat : Int)) && decide ((c.toNat : Int) ≤ 57)) || decide ((c.toNat : Int) = 47) || decide ((c.toNat : Int) = 45)) = true → ∀ j, j < i + 1 → keyC (k.getD j 0) = true := hgood
    conv => whnf
    refine CallC.sca _ (l00Digit_fn c) ?_ ?_
    · exact rfl
    have hd : dig c = (decide (48 ≤ (c.toNat : Int)) && decide ((c.toNat : Int) ≤ 57)) := by unfold dig; rw [Bool.eq_iff_iff]; simp; omega
    rw [hd]
    generalize c.toNat = c at *
    repeat' (first
      | refine Grd.intro (fun h => ?_) (fun h => ?_)
      | ((conv => whnf); refine Grd.intro (fun h => ?_) (fun h => ?_)))
    all_goals first
      | exact And.intro trivial (AVle.of_eq (congrArg AV.bool (hbad (by simp_all; omega))))
      | exact And.intro trivial (AVle.of_eq (congrArg AV.bool (hbad (by simp_all))))
      | (refine And.intro (inI64 (by omega) (by omega)) ?_
         exact ⟨i + 1, ⟨hin, hgood (by simp_all; omega)⟩, by omega, [], rfl, rfl, ⟨AVle.refl _, AVle.of_eq (congrArg (AV.int .i64) (by simp)), trivial⟩, trivial⟩)
      | (refine And.intro (inI64 (by omega) (by omega)) ?_
         exact ⟨i + 1, ⟨hin, hgood (by simp_all)⟩, by omega, [], rfl, rfl, ⟨AVle.refl _, AVle.of_eq (congrArg (AV.int .i64) (by simp)), trivial⟩, trivial⟩)
  · have : i = k.length := by have := of_decide_eq_false h2; omega
    subst this
    conv => whnf
    refine CallC.sca _ (l01In_fn _ _ _) ?_ ?_
    · exact rfl
    rw [hR, keyOK_all hi.2]
    exact And.intro trivial (AVle.of_eq (congrArg AV.bool (show within ((B k).size : Nat) 1 30 = _ by rw [B_size])))
theorem l01In_lo : VFn Tryz.prog 87 [.lo, .int .i64 1, .int .i64 1000000000] (.bool false) := by
  refine VFn.introC Tryz.call87 Tryz.func87 rfl rfl ?_
  exact And.intro trivial (AVle.refl _)
theorem specStoreOK_lo (os : List Ob) (hL : os.length ≤ 1000000000) (hk : ∀ o ∈ os, o.key.length ≤ 1000000000) : VFn Tryz.prog 73 [.agg [obs os, .lo]] (.bool false) := by
  refine VFn.introC Tryz.call73 Tryz.func73 rfl rfl ?_
  refine LoopC.mk (fun i : Nat => i ≤ os.length) (fun i => [(1, .bptr 0 0), (3, .int .i64 i)]) (fun i => [(0, .box [obs os, .lo])]) 1 (fun i => os.length - i) 0
    ⟨Nat.zero_le _, [(0, 0)], rfl, rfl, ⟨AVle.refl _, AVle.refl _, trivial⟩, ⟨MOle.refl _, trivial⟩⟩ ?_
  intro i hi
  refine Grd.intro (fun h3 => ?_) (fun h3 => ?_)
  · have hin : i < os.length := by have := of_decide_eq_true h3; omega
    refine And.intro (by omega) ?_
    refine DrawC.mk 35 rfl (by kernel_rfl) ?_
    refine PCallC.sca _ (specKeyOK_fn (ix os i).key (hk _ (getD_mem hin))) rfl ?_
    refine Grd.intro (fun g1 => ?_) (fun g1 => ?_)
    · exact And.intro trivial (AVle.refl _)
    refine And.intro ⟨by omega, by omega⟩ ?_
    refine PCallC.sca _ (l01In_fn (ix os i).ver 1 (9223372036854775808 - 1)) rfl ?_
    conv => whnf
    refine Grd.intro (fun g2 => ?_) (fun g2 => ?_)
    · exact And.intro trivial (AVle.refl _)
    conv => whnf
    refine Grd.intro (fun g3 => ?_) (fun g3 => ?_)
    · exact And.intro trivial (AVle.refl _)
    conv => whnf
    refine Grd.intro (fun g5 => ?_) (fun g5 => ?_)
    · have h0 : 0 < i := by have := of_decide_eq_true g5; omega
      have e1 : ((i : Int) - 1).toNat = i - 1 := by omega
      refine And.intro (inI64 (by omega) (by omega)) ?_
      refine And.intro ⟨by omega, by omega⟩ ?_
      conv => whnf
      refine Grd.intro (fun g6 => ?_) (fun g6 => ?_)
      · exact And.intro trivial (AVle.refl _)
      refine LoopC.mk (fun j : Nat => j ≤ i) (fun j => [(1, .bptr 0 0), (3, .int .i64 i), (4, .bptr 1 0), (5, .int .i64 j)]) (fun j => [(0, .box [obs os, .lo]), (1, .box (ix os i).row)]) 2 (fun j => i - j) 0
        ⟨Nat.zero_le _, [(0, 0), (1, 1)], rfl, rfl, ⟨AVle.refl _, AVle.refl _, AVle.refl _, AVle.refl _, trivial⟩, ⟨MOle.refl _, MOle.refl _, trivial⟩⟩ ?_
      intro j hj
      refine Grd.intro (fun h6 => ?_) (fun h6 => ?_)
      · have hjn : j < i := by have := of_decide_eq_true h6; omega
        refine DrawC.mk 9 rfl (by kernel_rfl) ?_
        refine And.intro (by omega) ?_
        refine Grd.intro (fun h7 => ?_) (fun h7 => ?_)
        · exact And.intro trivial (AVle.refl _)
        · refine And.intro (inI64 (by omega) (by omega)) ?_
          exact ⟨j + 1, hjn, by omega, [(0, 0), (1, 1)], rfl, rfl, ⟨AVle.refl _, AVle.refl _, AVle.refl _, AVle.of_eq (congrArg (AV.int .i64) (by simp)), trivial⟩, ⟨MOle.refl _, MOle.refl _, trivial⟩⟩
      · refine And.intro (inI64 (by omega) (by omega)) ?_
        exact ⟨i + 1, hin, by omega, [(0, 0)], rfl, rfl, ⟨AVle.refl _, AVle.of_eq (congrArg (AV.int .i64) (by simp)), trivial⟩, ⟨MOle.refl _, trivial⟩⟩
    · have h0 : i = 0 := by have := of_decide_eq_false g5; omega
      refine LoopC.mk (fun j : Nat => j ≤ i) (fun j => [(1, .bptr 0 0), (3, .int .i64 i), (4, .bptr 1 0), (5, .int .i64 j)]) (fun j => [(0, .box [obs os, .lo]), (1, .box (ix os i).row)]) 2 (fun j => i - j) 0
        ⟨Nat.zero_le _, [(0, 0), (1, 1)], rfl, rfl, ⟨AVle.refl _, AVle.refl _, AVle.refl _, AVle.refl _, trivial⟩, ⟨MOle.refl _, MOle.refl _, trivial⟩⟩ ?_
      intro j hj
      refine Grd.intro (fun h6 => ?_) (fun h6 => ?_)
      · have hjn : j < i := by have := of_decide_eq_true h6; omega
        refine DrawC.mk 9 rfl (by kernel_rfl) ?_
        refine And.intro (by omega) ?_
        refine Grd.intro (fun h7 => ?_) (fun h7 => ?_)
        · exact And.intro trivial (AVle.refl _)
        · refine And.intro (inI64 (by omega) (by omega)) ?_
          exact ⟨j + 1, hjn, by omega, [(0, 0), (1, 1)], rfl, rfl, ⟨AVle.refl _, AVle.refl _, AVle.refl _, AVle.of_eq (congrArg (AV.int .i64) (by simp)), trivial⟩, ⟨MOle.refl _, MOle.refl _, trivial⟩⟩
      · refine And.intro (inI64 (by omega) (by omega)) ?_
        exact ⟨i + 1, hin, by omega, [(0, 0)], rfl, rfl, ⟨AVle.refl _, AVle.of_eq (congrArg (AV.int .i64) (by simp)), trivial⟩, ⟨MOle.refl _, trivial⟩⟩
  · refine Grd.intro (fun _ => ?_) (fun _ => ?_)
    · conv => whnf
      refine CallC.sca _ (l01In_lo) ?_ ?_
      · exact rfl
      exact And.intro trivial (AVle.refl _)
    · exact And.intro trivial (AVle.refl _)
theorem specStoreOK_hi (s : Sto) (hL : s.os.length ≤ 1000000000) (hk : ∀ o ∈ s.os, o.key.length ≤ 1000000000) (hn : -9223372036854775807 ≤ s.next ∧ s.next ≤ 9223372036854775807) : VFn Tryz.prog 73 [s.av] (.bool s.ok) := by
  refine VFn.introC Tryz.call73 Tryz.func73 rfl rfl ?_
  refine LoopC.mk (fun i : Nat => i ≤ s.os.length ∧ ∀ j, j < i → s.eOK j = true) (fun i => [(1, .bptr 0 0), (3, .int .i64 i)]) (fun i => [(0, .box s.row)]) 1 (fun i => s.os.length - i) 0
    ⟨⟨Nat.zero_le _, fun j hj => absurd hj (Nat.not_lt_zero j)⟩, [(0, 0)], rfl, rfl, ⟨AVle.refl _, AVle.refl _, trivial⟩, ⟨MOle.refl _, trivial⟩⟩ ?_
  intro i hi
  obtain ⟨hi, hall⟩ := hi
  refine Grd.intro (fun h3 => ?_) (fun h3 => ?_)
  · have hin : i < s.os.length := by have := of_decide_eq_true h3; omega
    have hbad : s.eOK i = false → s.ok = false := Sto.ok_no hin
    refine And.intro (by omega) ?_
    refine DrawC.mk 35 rfl (by kernel_rfl) ?_
    refine PCallC.sca _ (specKeyOK_fn (ix s.os i).key (hk _ (getD_mem hin))) rfl ?_
    refine Grd.intro (fun g1 => ?_) (fun g1 => ?_)
    · rw [hbad (by unfold Sto.eOK; rw [wnot g1]; rfl)]
      exact And.intro trivial (AVle.refl _)
    refine And.intro (inI64 (by omega) (by omega)) ?_
    refine PCallC.sca _ (l01In_fn (ix s.os i).ver 1 (s.next - 1)) rfl ?_
    conv => whnf
    refine Grd.intro (fun g2 => ?_) (fun g2 => ?_)
    · rw [hbad (by unfold Sto.eOK; rw [show within (ix s.os i).ver 1 (s.next - 1) = false from wnot g2]; simp)]
      exact And.intro trivial (AVle.refl _)
    conv => whnf
    refine Grd.intro (fun g3 => ?_) (fun g3 => ?_)
    · have g3 : ¬ (ix s.os i).data.length ≤ 600 := by
        have := of_decide_eq_true (show decide ((600 : Int) < (((B (ix s.os i).data).size : Nat) : Int)) = true from g3)
        rw [B_size] at this; omega
      rw [hbad (by unfold Sto.eOK; rw [decide_eq_false g3]; simp)]
      exact And.intro trivial (AVle.refl _)
    have g3 : (ix s.os i).data.length ≤ 600 := by
      have := of_decide_eq_false (show decide ((600 : Int) < (((B (ix s.os i).data).size : Nat) : Int)) = false from g3)
      rw [B_size] at this; omega
    have hpre : (!decide ((ix s.os i).ver ∈ (s.os.take i).map (·.ver))) = true → (decide (i = 0) || decide ((ix s.os (i - 1)).key < (ix s.os i).key)) = true → s.eOK i = true := fun h h' => by
      unfold Sto.eOK; rw [wyes g1, show within (ix s.os i).ver 1 (s.next - 1) = true from wyes g2, decide_eq_true g3, h, h']; rfl
    have hnext : s.eOK i = true → ∀ j, j < i + 1 → s.eOK j = true := fun h j hj => by
      rcases Nat.lt_or_ge j i with h' | h'
      · exact hall j h'
      · rw [show j = i by omega]; exact h
    conv => whnf
    refine Grd.intro (fun g5 => ?_) (fun g5 => ?_)
    · have h0 : 0 < i := by have := of_decide_eq_true g5; omega
      have e1 : ((i : Int) - 1).toNat = i - 1 := by omega
      refine And.intro (inI64 (by omega) (by omega)) ?_
      refine And.intro ⟨by omega, by omega⟩ ?_
      conv => whnf
      have hcmp : (!Op.bytesLess (B (ix s.os ((i : Int) - 1).toNat).key).toList (B (ix s.os i).key).toList) = !decide ((ix s.os (i - 1)).key < (ix s.os i).key) := by rw [blt_lt, e1]
      refine Grd.intro (fun g6 => ?_) (fun g6 => ?_)
      · have g6 := hcmp.symm.trans g6
        rw [hbad (by unfold Sto.eOK; rw [show decide ((ix s.os (i - 1)).key < (ix s.os i).key) = false from wnot g6, decide_eq_false (show ¬ i = 0 by omega)]; simp)]
        exact And.intro trivial (AVle.refl _)
      have g6 := hcmp.symm.trans g6
      have hkey : (decide (i = 0) || decide ((ix s.os (i - 1)).key < (ix s.os i).key)) = true := by rw [show decide ((ix s.os (i - 1)).key < (ix s.os i).key) = true from wyes g6]; simp
      refine LoopC.mk (fun j : Nat => j ≤ i ∧ ∀ q, q < j → (ix s.os q).ver ≠ (ix s.os i).ver) (fun j => [(1, .bptr 0 0), (3, .int .i64 i), (4, .bptr 1 0), (5, .int .i64 j)]) (fun j => [(0, .box s.row), (1, .box (ix s.os i).row)]) 2 (fun j => i - j) 0
        ⟨⟨Nat.zero_le _, fun q hq => absurd hq (Nat.not_lt_zero q)⟩, [(0, 0), (1, 1)], rfl, rfl, ⟨AVle.refl _, AVle.refl _, AVle.refl _, AVle.refl _, trivial⟩, ⟨MOle.refl _, MOle.refl _, trivial⟩⟩ ?_
      intro j hj
      obtain ⟨hj, hv⟩ := hj
      refine Grd.intro (fun h6 => ?_) (fun h6 => ?_)
      · have hjn : j < i := by have := of_decide_eq_true h6; omega
        refine DrawC.mk 9 rfl (by kernel_rfl) ?_
        refine And.intro (by omega) ?_
        refine Grd.intro (fun h7 => ?_) (fun h7 => ?_)
        · have h7 : (ix s.os j).ver = (ix s.os i).ver := of_decide_eq_true h7
          have hm : (ix s.os i).ver ∈ (s.os.take i).map (·.ver) := List.mem_map.2 ⟨ix s.os j, by rw [← ix_take hjn]; exact getD_mem (by simp; omega), h7⟩
          rw [hbad (by unfold Sto.eOK; rw [decide_eq_true hm]; simp)]
          exact And.intro trivial (AVle.refl _)
        · have h7 : (ix s.os j).ver ≠ (ix s.os i).ver := of_decide_eq_false h7
          refine And.intro (inI64 (by omega) (by omega)) ?_
          refine ⟨j + 1, ⟨hjn, fun q hq => ?_⟩, by omega, [(0, 0), (1, 1)], rfl, rfl, ⟨AVle.refl _, AVle.refl _, AVle.refl _, AVle.of_eq (congrArg (AV.int .i64) (by simp)), trivial⟩, ⟨MOle.refl _, MOle.refl _, trivial⟩⟩
          rcases Nat.lt_or_ge q j with h' | h'
          · exact hv q h'
          · rw [show q = j by omega]; exact h7
      · have : j = i := by have := of_decide_eq_false h6; omega
        subst this
        have hm : (ix s.os j).ver ∉ (s.os.take j).map (·.ver) := fun hm => by
          obtain ⟨o, ho, e⟩ := List.mem_map.1 hm
          obtain ⟨q, hq, e2⟩ := List.getElem_of_mem ho
          have hq' : q < j := by simp at hq; omega
          refine hv q hq' ?_
          rw [← e, ← e2, ix_lt (by omega)]; simp
        have he := hpre (by rw [decide_eq_false hm]; rfl) hkey
        refine And.intro (inI64 (by omega) (by omega)) ?_
        exact ⟨j + 1, ⟨hin, hnext he⟩, by omega, [(0, 0)], rfl, rfl, ⟨AVle.refl _, AVle.of_eq (congrArg (AV.int .i64) (by simp)), trivial⟩, ⟨MOle.refl _, trivial⟩⟩
    · have h0 : i = 0 := by have := of_decide_eq_false g5; omega
      have hkey : (decide (i = 0) || decide ((ix s.os (i - 1)).key < (ix s.os i).key)) = true := by rw [decide_eq_true h0]; rfl
      refine LoopC.mk (fun j : Nat => j ≤ i ∧ ∀ q, q < j → (ix s.os q).ver ≠ (ix s.os i).ver) (fun j => [(1, .bptr 0 0), (3, .int .i64 i), (4, .bptr 1 0), (5, .int .i64 j)]) (fun j => [(0, .box s.row), (1, .box (ix s.os i).row)]) 2 (fun j => i - j) 0
        ⟨⟨Nat.zero_le _, fun q hq => absurd hq (Nat.not_lt_zero q)⟩, [(0, 0), (1, 1)], rfl, rfl, ⟨AVle.refl _, AVle.refl _, AVle.refl _, AVle.refl _, trivial⟩, ⟨MOle.refl _, MOle.refl _, trivial⟩⟩ ?_
      intro j hj
      obtain ⟨hj, hv⟩ := hj
      refine Grd.intro (fun h6 => ?_) (fun h6 => ?_)
      · have hjn : j < i := by have := of_decide_eq_true h6; omega
        refine DrawC.mk 9 rfl (by kernel_rfl) ?_
        refine And.intro (by omega) ?_
        refine Grd.intro (fun h7 => ?_) (fun h7 => ?_)
        · have h7 : (ix s.os j).ver = (ix s.os i).ver := of_decide_eq_true h7
          have hm : (ix s.os i).ver ∈ (s.os.take i).map (·.ver) := List.mem_map.2 ⟨ix s.os j, by rw [← ix_take hjn]; exact getD_mem (by simp; omega), h7⟩
          rw [hbad (by unfold Sto.eOK; rw [decide_eq_true hm]; simp)]
          exact And.intro trivial (AVle.refl _)
        · have h7 : (ix s.os j).ver ≠ (ix s.os i).ver := of_decide_eq_false h7
          refine And.intro (inI64 (by omega) (by omega)) ?_
          refine ⟨j + 1, ⟨hjn, fun q hq => ?_⟩, by omega, [(0, 0), (1, 1)], rfl, rfl, ⟨AVle.refl _, AVle.refl _, AVle.refl _, AVle.of_eq (congrArg (AV.int .i64) (by simp)), trivial⟩, ⟨MOle.refl _, MOle.refl _, trivial⟩⟩
          rcases Nat.lt_or_ge q j with h' | h'
          · exact hv q h'
          · rw [show q = j by omega]; exact h7
      · have : j = i := by have := of_decide_eq_false h6; omega
        subst this
        have hm : (ix s.os j).ver ∉ (s.os.take j).map (·.ver) := fun hm => by
          obtain ⟨o, ho, e⟩ := List.mem_map.1 hm
          obtain ⟨q, hq, e2⟩ := List.getElem_of_mem ho
          have hq' : q < j := by simp at hq; omega
          refine hv q hq' ?_
          rw [← e, ← e2, ix_lt (by omega)]; simp
        have he := hpre (by rw [decide_eq_false hm]; rfl) hkey
        refine And.intro (inI64 (by omega) (by omega)) ?_
        exact ⟨j + 1, ⟨hin, hnext he⟩, by omega, [(0, 0)], rfl, rfl, ⟨AVle.refl _, AVle.of_eq (congrArg (AV.int .i64) (by simp)), trivial⟩, ⟨MOle.refl _, trivial⟩⟩
  · have : i = s.os.length := by have := of_decide_eq_false h3; omega
    subst this
    refine Grd.intro (fun h4 => ?_) (fun h4 => ?_)
    · have h4 : s.os.length ≤ 300 := by have := of_decide_eq_true h4; omega
      conv => whnf
      refine CallC.sca _ (l01In_fn s.next 1 1000000000) ?_ ?_
      · exact rfl
      refine And.intro trivial (AVle.of_eq (congrArg AV.bool (show within s.next 1 1000000000 = _ from ?_)))
      cases hw : within s.next 1 1000000000
      · unfold Sto.ok; rw [hw]; rfl
      · rw [Sto.ok_yes hw h4 hall]
    · have h4 : ¬ s.os.length ≤ 300 := by have := of_decide_eq_false h4; omega
      rw [show s.ok = false by unfold Sto.ok; rw [decide_eq_false h4]; simp]
      exact And.intro trivial (AVle.refl _)
theorem specStoreOK_ok (s : Sto) (hL : s.os.length ≤ 1000000000) (hk : ∀ o ∈ s.os, o.key.length ≤ 1000000000) (hn : -9223372036854775808 ≤ s.next ∧ s.next ≤ 9223372036854775807) : VFn Tryz.prog 73 [s.av] (.bool s.ok) := by
  by_cases h : s.next = -9223372036854775808
  · have h1 : within s.next 1 1000000000 = false := by rw [h]; rfl
    rw [show s.ok = false by unfold Sto.ok; rw [h1]; rfl]
    refine (specStoreOK_lo s.os hL hk).weak (AVsle.cons (AVle.agg (AVsle.cons (AVle.refl _) (AVsle.cons (fun w ok g v hv => ?_) AVsle.nil))) AVsle.nil) (AVle.refl _)
    have hv : v = .int .i64 s.next := hv
    rw [h] at hv
    exact hv
  · exact specStoreOK_hi s hL hk (by omega)
end Go.Proofs.YtpfmfdioonjccaaGreatDoor
