/- Contracts of functions that the claim reaches, and the plain law of what they compute; each theorem bears its own conditions. -/
import Derived.Test.YtlbnpndednhdaaaGreatDoorQ1
import Derived.Test.YtlbnpndednhdaaaGreatDoorV48
import Derived.Test.YtlbnpndednhdaaaGreatDoorQ2
set_option linter.unusedVariables false
set_option linter.constructorNameAsVariable false
set_option linter.unusedSimpArgs false
set_option maxRecDepth 20000
namespace Go.Proofs.YtlbnpndednhdaaaGreatDoor
open Go Go.Vw

theorem keyOK_bad {k : List UInt8} {i : Nat} (hi : i < k.length) (h : keyC (k.getD i 0) = false) : keyOK k = false := by
  have : k.all keyC = false := by
    rw [← Bool.not_eq_true]; intro h'
    have e : k.getD i 0 = k[i] := by simp [List.getD, hi]
    rw [e, List.all_eq_true.1 h' _ (List.getElem_mem hi)] at h; cases h
  unfold keyOK; rw [this]; rfl
theorem keyOK_all {k : List UInt8} (h : ∀ j, j < k.length → keyC (k.getD j 0) = true) : keyOK k = within k.length 1 30 := by
  have : k.all keyC = true := List.all_eq_true.2 fun x hx => by
    obtain ⟨j, hj, e⟩ := List.getElem_of_mem hx
    have := h j hj
    have e2 : k.getD j 0 = k[j] := by simp [List.getD, hj]
    rw [e2, e] at this; exact this
  unfold keyOK; rw [this]; rfl
theorem KeyOK_fn (k : List UInt8) (hk : k.length ≤ 1000000000) : VFn Tryz.prog 152 [.str (B k)] (.bool (keyOK k)) := by
  obtain ⟨R, hR⟩ : ∃ R, R = keyOK k := ⟨_, rfl⟩
  rw [← hR]
  refine VFn.introC Tryz.call152 Tryz.func152 rfl rfl ?_
  refine LoopC.mk (fun i : Nat => i ≤ k.length ∧ ∀ j, j < i → keyC (k.getD j 0) = true) (fun i => [(0, .str (B k)), (6, .int .i64 k.length), (7, .int .i64 i)]) (fun _ => []) 0 (fun i => k.length - i) 0
    ⟨⟨Nat.zero_le _, fun j hj => absurd hj (Nat.not_lt_zero j)⟩, [], rfl, rfl, ⟨AVle.refl _, AVle.refl _, AVle.refl _, trivial⟩, trivial⟩ ?_
  intro i hi
  refine Grd.intro (fun h2 => ?_) (fun h2 => ?_)
  · have hin : i < k.length := by have := of_decide_eq_true h2; omega
    refine And.intro ⟨by omega, show (i : Int) < ((B k).size : Int) by rw [B_size]; omega⟩ ?_
    have hbad : keyC (k.getD i 0) = false → false = R := fun h => by rw [hR, keyOK_bad hin h]
    have hgood : keyC (k.getD i 0) = true → ∀ j, j < i + 1 → keyC (k.getD j 0) = true := fun h j hj => by
      rcases Nat.lt_or_ge j i with h' | h'
      · exact hi.2 j h'
      · rw [show j = i by omega]; exact h
    have hx : (k.getD i 0).toNat = ((B k).data.toList.getD (i : Int).toNat 0).toNat := rfl
    generalize ((B k).data.toList.getD (i : Int).toNat 0).toNat = c at hx ⊢
    have hC : keyC (k.getD i 0) = ((decide (97 ≤ (c : Int)) && decide ((c : Int) ≤ 122)) || (decide (48 ≤ (c : Int)) && decide ((c : Int) ≤ 57)) || decide ((c : Int) = 47) || decide ((c : Int) = 45)) := by unfold keyC; rw [hx]
    rw [hC] at hbad hgood
    repeat' (first
      | refine Grd.intro (fun h => ?_) (fun h => ?_)
      | ((conv => whnf); refine Grd.intro (fun h => ?_) (fun h => ?_)))
    all_goals first
      | exact And.intro trivial (AVle.of_eq (congrArg AV.bool (hbad (by simp_all; omega))))
      | exact And.intro trivial (AVle.of_eq (congrArg AV.bool (hbad (by simp_all))))
      | (refine And.intro (inI64 (by omega) (by omega)) ?_
         exact ⟨i + 1, ⟨hin, hgood (by simp_all; omega)⟩, by omega, [], rfl, rfl, ⟨AVle.refl _, AVle.refl _, AVle.of_eq (congrArg (AV.int .i64) (by simp)), trivial⟩, trivial⟩)
      | (refine And.intro (inI64 (by omega) (by omega)) ?_
         exact ⟨i + 1, ⟨hin, hgood (by simp_all)⟩, by omega, [], rfl, rfl, ⟨AVle.refl _, AVle.refl _, AVle.of_eq (congrArg (AV.int .i64) (by simp)), trivial⟩, trivial⟩)
  · have : i = k.length := by have := of_decide_eq_false h2; omega
    subst this
    conv => whnf
    refine CallC.sca _ (within_fn _ _ _) ?_ ?_
    · exact rfl
    rw [hR, keyOK_all hi.2]
    exact And.intro trivial (AVle.of_eq (congrArg AV.bool (show within ((B k).size : Nat) 1 30 = _ by rw [B_size])))
theorem StoreOK_fn (s : Sto) (hL : s.os.length ≤ 1000000000) (hk : ∀ o ∈ s.os, o.key.length ≤ 1000000000) : VFn Tryz.prog 70 [s.av] (.bool s.ok) := by
  refine VFn.introC Tryz.call70 Tryz.func70 rfl rfl ?_
  conv => whnf
  refine CallC.sca _ (within_fn s.next 1 1000000000) ?_ ?_
  · exact rfl
  refine Grd.intro (fun h1 => ?_) (fun h1 => ?_)
  · have h1 : within s.next 1 1000000000 = false := wnot h1
    rw [show s.ok = false by unfold Sto.ok; rw [h1]; rfl]
    exact And.intro trivial (AVle.refl _)
  have h1 : within s.next 1 1000000000 = true := wyes h1
  refine Grd.intro (fun h2 => ?_) (fun h2 => ?_)
  · have h2 : ¬ s.os.length ≤ 300 := by
      have := of_decide_eq_true (show decide ((300 : Int) < (s.os.length : Int)) = true from h2); omega
    rw [show s.ok = false by unfold Sto.ok; rw [decide_eq_false h2]; simp]
    exact And.intro trivial (AVle.refl _)
  have h2 : s.os.length ≤ 300 := by
    have := of_decide_eq_false (show decide ((300 : Int) < (s.os.length : Int)) = false from h2); omega
  have hn : 1 ≤ s.next ∧ s.next ≤ 1000000000 := by simpa [within] using h1
  refine LoopC.mk (fun i : Nat => i ≤ s.os.length ∧ ∀ j, j < i → s.eOK j = true) (fun i => [(1, .bptr 0 0), (3, .omap 1), (18, obs s.os), (19, .int .i64 s.os.length), (20, .int .i64 i)]) (fun i => [(0, .box s.row), (1, .imap (s.vers i))]) 2 (fun i => s.os.length - i) 0
    ⟨⟨Nat.zero_le _, fun j hj => absurd hj (Nat.not_lt_zero j)⟩, [(0, 0), (1, 1)], rfl, rfl, ⟨AVle.refl _, AVle.refl _, AVle.refl _, AVle.refl _, AVle.refl _, trivial⟩, ⟨MOle.refl _, MOle.refl _, trivial⟩⟩ ?_
  intro i hi
  obtain ⟨hi, hall⟩ := hi
  refine Grd.intro (fun h3 => ?_) (fun h3 => ?_)
  · have hin : i < s.os.length := by have := of_decide_eq_true h3; omega
    have hbad : s.eOK i = false → s.ok = false := Sto.ok_no hin
    refine And.intro (by omega) ?_
    refine DrawC.mk 41 rfl (by kernel_rfl) ?_
    refine PCallC.sca _ (KeyOK_fn (ix s.os i).key (hk _ (getD_mem hin))) rfl ?_
    refine Grd.intro (fun g1 => ?_) (fun g1 => ?_)
    · rw [hbad (by unfold Sto.eOK; rw [wnot g1]; rfl)]
      exact And.intro trivial (AVle.refl _)
    refine And.intro (inI64 (by omega) (by omega)) ?_
    refine PCallC.sca _ (within_fn (ix s.os i).ver 1 (s.next - 1)) rfl ?_
    conv => whnf
    refine Grd.intro (fun g2 => ?_) (fun g2 => ?_)
    · rw [hbad (by unfold Sto.eOK; rw [show within (ix s.os i).ver 1 (s.next - 1) = false from wnot g2]; simp)]
      exact And.intro trivial (AVle.refl _)
    conv => whnf
    refine Grd.intro (fun g3 => ?_) (fun g3 => ?_)
    · have g3 : ¬ (ix s.os i).data.length ≤ 600 := by
        have := of_decide_eq_true (show decide ((600 : Int) < (((B (ix s.os i).data).size : Nat) : Int)) = true from g3)
        rw [B_size] at this; omega
      rw [hbad (by unfold Sto.eOK; rw [decide_eq_false g3]; simp)]
      exact And.intro trivial (AVle.refl _)
    conv => whnf
    refine Grd.intro (fun g4 => ?_) (fun g4 => ?_)
    · have g4 : decide ((ix s.os i).ver ∈ (s.os.take i).map (·.ver)) = true := g4
      rw [hbad (by unfold Sto.eOK; rw [g4]; simp)]
      exact And.intro trivial (AVle.refl _)
    have g4 : decide ((ix s.os i).ver ∈ s.vers i) = false := g4
    have g3 : (ix s.os i).data.length ≤ 600 := by
      have := of_decide_eq_false (show decide ((600 : Int) < (((B (ix s.os i).data).size : Nat) : Int)) = false from g3)
      rw [B_size] at this; omega
    have hpre : (decide (i = 0) || decide ((ix s.os (i - 1)).key < (ix s.os i).key)) = true → s.eOK i = true := fun h => by
      unfold Sto.eOK; rw [wyes g1, show within (ix s.os i).ver 1 (s.next - 1) = true from wyes g2, decide_eq_true g3, show decide ((ix s.os i).ver ∈ (s.os.take i).map (·.ver)) = false from g4, h]; rfl
    have hnext : s.eOK i = true → ∀ j, j < i + 1 → s.eOK j = true := fun h j hj => by
      rcases Nat.lt_or_ge j i with h' | h'
      · exact hall j h'
      · rw [show j = i by omega]; exact h
    conv => whnf
    refine Grd.intro (fun g5 => ?_) (fun g5 => ?_)
    · have h0 : 0 < i := by have := of_decide_eq_true g5; omega
      have e1 : ((i : Int) - 1).toNat = i - 1 := by omega
      refine And.intro (inI64 (by omega) (by omega)) ?_
      refine And.intro ⟨by omega, by omega⟩ ?_
      have hcmp : (!Op.bytesLess (B (ix s.os ((i : Int) - 1).toNat).key).toList (B (ix s.os i).key).toList) = !decide ((ix s.os (i - 1)).key < (ix s.os i).key) := by rw [blt_lt, e1]
      conv => whnf
      refine Grd.intro (fun g6 => ?_) (fun g6 => ?_)
      · have g6 := hcmp.symm.trans g6
        rw [hbad (by unfold Sto.eOK; rw [show decide ((ix s.os (i - 1)).key < (ix s.os i).key) = false from wnot g6, decide_eq_false (show ¬ i = 0 by omega)]; simp)]
        exact And.intro trivial (AVle.refl _)
      · have g6 := hcmp.symm.trans g6
        have he := hpre (by rw [show decide ((ix s.os (i - 1)).key < (ix s.os i).key) = true from wyes g6]; simp)
        refine And.intro (inI64 (by omega) (by omega)) ?_
        refine ⟨i + 1, ⟨hin, hnext he⟩, by omega, [(0, 0), (1, 1)], rfl, rfl, ⟨AVle.refl _, AVle.refl _, AVle.refl _, AVle.refl _, AVle.of_eq (congrArg (AV.int .i64) (by simp)), trivial⟩, ⟨MOle.refl _, MOle.of_eq (show MO.imap (if (ix s.os i).ver ∈ s.vers i then s.vers i else s.vers i ++ [(ix s.os i).ver]) = _ from ?_), trivial⟩⟩
        rw [if_neg (of_decide_eq_false g4), Sto.vers_snoc s hin]
    · have h0 : i = 0 := by have := of_decide_eq_false g5; omega
      have he := hpre (by rw [decide_eq_true h0]; rfl)
      refine And.intro (inI64 (by omega) (by omega)) ?_
      refine ⟨i + 1, ⟨hin, hnext he⟩, by omega, [(0, 0), (1, 1)], rfl, rfl, ⟨AVle.refl _, AVle.refl _, AVle.refl _, AVle.refl _, AVle.of_eq (congrArg (AV.int .i64) (by simp)), trivial⟩, ⟨MOle.refl _, MOle.of_eq (show MO.imap (if (ix s.os i).ver ∈ s.vers i then s.vers i else s.vers i ++ [(ix s.os i).ver]) = _ from ?_), trivial⟩⟩
      rw [if_neg (of_decide_eq_false g4), Sto.vers_snoc s hin]
  · have : i = s.os.length := by have := of_decide_eq_false h3; omega
    subst this
    rw [Sto.ok_yes h1 h2 hall]
    exact And.intro trivial (AVle.refl _)
end Go.Proofs.YtlbnpndednhdaaaGreatDoor
set_option linter.unusedVariables false
set_option linter.constructorNameAsVariable false
set_option linter.unusedSimpArgs false
set_option maxRecDepth 20000
namespace Go.Proofs.YtlbnpndednhdaaaGreatDoor
open Go Go.Vw

theorem cmp_lt : ∀ a b : List UInt8, decide (Lib.compareBytes a b < 0) = decide (a < b)
  | [], [] => by simp [Lib.compareBytes]
  | [], _ :: _ => by simp [Lib.compareBytes]
  | _ :: _, [] => by simp [Lib.compareBytes]
  | x :: a, y :: b => by
    have ih := cmp_lt a b
    unfold Lib.compareBytes
    by_cases h1 : x < y
    · simp [h1, List.cons_lt_cons_iff]
    · by_cases h2 : y < x
      · have : ¬ x = y := fun e => by subst e; exact h1 h2
        simp only [List.cons_lt_cons_iff]; simp [h1, h2, this]
      · have : x = y := UInt8.le_antisymm (UInt8.not_lt.1 h2) (UInt8.not_lt.1 h1)
        subst this
        simp only [List.cons_lt_cons_iff]; simp [h1, ih]
theorem cmp_eq : ∀ a b : List UInt8, decide (Lib.compareBytes a b = 0) = decide (a = b)
  | [], [] => by simp [Lib.compareBytes]
  | [], _ :: _ => by simp [Lib.compareBytes]
  | _ :: _, [] => by simp [Lib.compareBytes]
  | x :: a, y :: b => by
    have ih := cmp_eq a b
    unfold Lib.compareBytes
    by_cases h1 : x < y
    · have : ¬ x = y := fun e => by subst e; exact UInt8.lt_irrefl _ h1
      simp [h1, this]
    · by_cases h2 : y < x
      · have : ¬ x = y := fun e => by subst e; exact h1 h2
        simp [h1, h2, this]
      · have : x = y := UInt8.le_antisymm (UInt8.not_lt.1 h2) (UInt8.not_lt.1 h1)
        subst this
        simp [h1]
        simpa using ih
end Go.Proofs.YtlbnpndednhdaaaGreatDoor
set_option linter.unusedVariables false
set_option linter.constructorNameAsVariable false
set_option linter.unusedSimpArgs false
set_option maxRecDepth 20000
namespace Go.Proofs.YtlbnpndednhdaaaGreatDoor
open Go Go.Vw

def insR (i : Nat) (rows r1 : Nat → List AV) (j : Nat) : List AV := if j < i then rows j else if j = i then r1 0 else rows (j - 1)
end Go.Proofs.YtlbnpndednhdaaaGreatDoor
set_option linter.unusedVariables false
set_option linter.constructorNameAsVariable false
set_option linter.unusedSimpArgs false
set_option maxRecDepth 20000
namespace Go.Proofs.YtlbnpndednhdaaaGreatDoor
open Go Go.Vw

end Go.Proofs.YtlbnpndednhdaaaGreatDoor
set_option linter.unusedVariables false
set_option linter.constructorNameAsVariable false
set_option linter.unusedSimpArgs false
set_option maxRecDepth 20000
namespace Go.Proofs.YtlbnpndednhdaaaGreatDoor
open Go Go.Vw

end Go.Proofs.YtlbnpndednhdaaaGreatDoor
set_option linter.unusedVariables false
set_option linter.constructorNameAsVariable false
set_option linter.unusedSimpArgs false
set_option maxRecDepth 20000
namespace Go.Proofs.YtlbnpndednhdaaaGreatDoor
open Go Go.Vw

theorem specKeyOK_fn (k : List UInt8) (hk : k.length ≤ 1000000000) : VFn Tryz.prog 143 [.str (B k)] (.bool (keyOK k)) := by
  obtain ⟨R, hR⟩ : ∃ R, R = keyOK k := ⟨_, rfl⟩
  rw [← hR]
  refine VFn.introC Tryz.call143 Tryz.func143 rfl rfl ?_
  refine Grd.intro (fun h0 => ?_) (fun h0 => ?_)
  · have h0 : 65536 < k.length := by
      have := of_decide_eq_true (show decide ((65536 : Int) < (((B k).size : Nat) : Int)) = true from h0)
      rw [B_size] at this; omega
    have hw : within k.length 1 30 = false := by unfold within; simp; omega
    rw [hR, show keyOK k = false by unfold keyOK; rw [hw]; simp]
    exact And.intro trivial (AVle.refl _)
  refine LoopC.mk (fun i : Nat => i ≤ k.length ∧ ∀ j, j < i → keyC (k.getD j 0) = true) (fun i => [(0, .str (B k)), (3, .int .i64 i)]) (fun _ => []) 0 (fun i => k.length - i) 0
    ⟨⟨Nat.zero_le _, fun j hj => absurd hj (Nat.not_lt_zero j)⟩, [], rfl, rfl, ⟨AVle.refl _, AVle.refl _, trivial⟩, trivial⟩ ?_
  intro i hi
  have hsz : (((B k).size : Nat) : Int) = k.length := by rw [B_size]
  refine Grd.intro (fun h2 => ?_) (fun h2 => ?_)
  · have hin : i < k.length := by have := of_decide_eq_true h2; omega
    refine And.intro ⟨by omega, by omega⟩ ?_
    have hbad : keyC (k.getD i 0) = false → false = R := fun h => by rw [hR, keyOK_bad hin h]
    have hgood : keyC (k.getD i 0) = true → ∀ j, j < i + 1 → keyC (k.getD j 0) = true := fun h j hj => by
      rcases Nat.lt_or_ge j i with h' | h'
      · exact hi.2 j h'
      · rw [show j = i by omega]; exact h
    have hx : k.getD i 0 = (B k).data.toList.getD (i : Int).toNat 0 := rfl
    generalize (B k).data.toList.getD (i : Int).toNat 0 = c at hx ⊢
    rw [hx] at hbad hgood
    unfold keyC at hbad
    have hgood : ((decide (97 ≤ (c.toNat : Int)) && decide ((c.toNat : Int) ≤ 122)) || (decide (48 ≤ (c.toNat : Int)) && decide ((c.toNat : Int) ≤ 57)) || decide ((c.toNat : Int) = 47) || decide ((c.toNat : Int) = 45)) = true → ∀ j, j < i + 1 → keyC (k.getD j 0) = true := hgood
    conv => whnf
    refine CallC.sca _ (l00Digit_fn c) ?_ ?_
    · exact rfl
    have hd : dig c = (decide (48 ≤ (c.toNat : Int)) && decide ((c.toNat : Int) ≤ 57)) := by unfold dig; rw [Bool.eq_iff_iff]; simp; omega
    rw [hd]
    generalize c.toNat = c at *
    repeat' (first
      | refine Grd.intro (fun h => ?_) (fun h => ?_)
      | ((conv => whnf); refine Grd.intro (fun h => ?_) (fun h => ?_)))
    all_goals first
      | exact And.intro trivial (AVle.of_eq (congrArg AV.bool (hbad (by simp_all; omega))))
      | exact And.intro trivial (AVle.of_eq (congrArg AV.bool (hbad (by simp_all))))
      | (refine And.intro (inI64 (by omega) (by omega)) ?_
         exact ⟨i + 1, ⟨hin, hgood (by simp_all; omega)⟩, by omega, [], rfl, rfl, ⟨AVle.refl _, AVle.of_eq (congrArg (AV.int .i64) (by simp)), trivial⟩, trivial⟩)
      | (refine And.intro (inI64 (by omega) (by omega)) ?_
         exact ⟨i + 1, ⟨hin, hgood (by simp_all)⟩, by omega, [], rfl, rfl, ⟨AVle.refl _, AVle.of_eq (congrArg (AV.int .i64) (by simp)), trivial⟩, trivial⟩)
  · have : i = k.length := by have := of_decide_eq_false h2; omega
    subst this
    conv => whnf
    refine CallC.sca _ (l01In_fn _ _ _) ?_ ?_
    · exact rfl
    rw [hR, keyOK_all hi.2]
    exact And.intro trivial (AVle.of_eq (congrArg AV.bool (show within ((B k).size : Nat) 1 30 = _ by rw [B_size])))
theorem l01In_lo : VFn Tryz.prog 57 [.lo, .int .i64 1, .int .i64 1000000000] (.bool false) := by
  refine VFn.introC Tryz.call57 Tryz.func57 rfl rfl ?_
  exact And.intro trivial (AVle.refl _)
theorem specStoreOK_lo (os : List Ob) (hL : os.length ≤ 1000000000) (hk : ∀ o ∈ os, o.key.length ≤ 1000000000) : VFn Tryz.prog 56 [.agg [obs os, .lo]] (.bool false) := by
  refine VFn.introC Tryz.call56 Tryz.func56 rfl rfl ?_
  refine LoopC.mk (fun i : Nat => i ≤ os.length) (fun i => [(1, .bptr 0 0), (3, .int .i64 i)]) (fun i => [(0, .box [obs os, .lo])]) 1 (fun i => os.length - i) 0
    ⟨Nat.zero_le _, [(0, 0)], rfl, rfl, ⟨AVle.refl _, AVle.refl _, trivial⟩, ⟨MOle.refl _, trivial⟩⟩ ?_
  intro i hi
  refine Grd.intro (fun h3 => ?_) (fun h3 => ?_)
  · have hin : i < os.length := by have := of_decide_eq_true h3; omega
    refine And.intro (by omega) ?_
    refine DrawC.mk 35 rfl (by kernel_rfl) ?_
    refine PCallC.sca _ (specKeyOK_fn (ix os i).key (hk _ (getD_mem hin))) rfl ?_
    refine Grd.intro (fun g1 => ?_) (fun g1 => ?_)
    · exact And.intro trivial (AVle.refl _)
    refine And.intro ⟨by omega, by omega⟩ ?_
    refine PCallC.sca _ (l01In_fn (ix os i).ver 1 (9223372036854775808 - 1)) rfl ?_
    conv => whnf
    refine Grd.intro (fun g2 => ?_) (fun g2 => ?_)
    · exact And.intro trivial (AVle.refl _)
    conv => whnf
    refine Grd.intro (fun g3 => ?_) (fun g3 => ?_)
    · exact And.intro trivial (AVle.refl _)
    conv => whnf
    refine Grd.intro (fun g5 => ?_) (fun g5 => ?_)
    · have h0 : 0 < i := by have := of_decide_eq_true g5; omega
      have e1 : ((i : Int) - 1).toNat = i - 1 := by omega
      refine And.intro (inI64 (by omega) (by omega)) ?_
      refine And.intro ⟨by omega, by omega⟩ ?_
      conv => whnf
      refine Grd.intro (fun g6 => ?_) (fun g6 => ?_)
      · exact And.intro trivial (AVle.refl _)
      refine LoopC.mk (fun j : Nat => j ≤ i) (fun j => [(1, .bptr 0 0), (3, .int .i64 i), (4, .bptr 1 0), (5, .int .i64 j)]) (fun j => [(0, .box [obs os, .lo]), (1, .box (ix os i).row)]) 2 (fun j => i - j) 0
        ⟨Nat.zero_le _, [(0, 0), (1, 1)], rfl, rfl, ⟨AVle.refl _, AVle.refl _, AVle.refl _, AVle.refl _, trivial⟩, ⟨MOle.refl _, MOle.refl _, trivial⟩⟩ ?_
      intro j hj
      refine Grd.intro (fun h6 => ?_) (fun h6 => ?_)
      · have hjn : j < i := by have := of_decide_eq_true h6; omega
        refine DrawC.mk 9 rfl (by kernel_rfl) ?_
        refine And.intro (by omega) ?_
        refine Grd.intro (fun h7 => ?_) (fun h7 => ?_)
        · exact And.intro trivial (AVle.refl _)
        · refine And.intro (inI64 (by omega) (by omega)) ?_
          exact ⟨j + 1, hjn, by omega, [(0, 0), (1, 1)], rfl, rfl, ⟨AVle.refl _, AVle.refl _, AVle.refl _, AVle.of_eq (congrArg (AV.int .i64) (by simp)), trivial⟩, ⟨MOle.refl _, MOle.refl _, trivial⟩⟩
      · refine And.intro (inI64 (by omega) (by omega)) ?_
        exact ⟨i + 1, hin, by omega, [(0, 0)], rfl, rfl, ⟨AVle.refl _, AVle.of_eq (congrArg (AV.int .i64) (by simp)), trivial⟩, ⟨MOle.refl _, trivial⟩⟩
    · have h0 : i = 0 := by have := of_decide_eq_false g5; omega
      refine LoopC.mk (fun j : Nat => j ≤ i) (fun j => [(1, .bptr 0 0), (3, .int .i64 i), (4, .bptr 1 0), (5, .int .i64 j)]) (fun j => [(0, .box [obs os, .lo]), (1, .box (ix os i).row)]) 2 (fun j => i - j) 0
        ⟨Nat.zero_le _, [(0, 0), (1, 1)], rfl, rfl, ⟨AVle.refl _, AVle.refl _, AVle.refl _, AVle.refl _, trivial⟩, ⟨MOle.refl _, MOle.refl _, trivial⟩⟩ ?_
      intro j hj
      refine Grd.intro (fun h6 => ?_) (fun h6 => ?_)
      · have hjn : j < i := by have := of_decide_eq_true h6; omega
        refine DrawC.mk 9 rfl (by kernel_rfl) ?_
        refine And.intro (by omega) ?_
        refine Grd.intro (fun h7 => ?_) (fun h7 => ?_)
        · exact And.intro trivial (AVle.refl _)
        · refine And.intro (inI64 (by omega) (by omega)) ?_
          exact ⟨j + 1, hjn, by omega, [(0, 0), (1, 1)], rfl, rfl, ⟨AVle.refl _, AVle.refl _, AVle.refl _, AVle.of_eq (congrArg (AV.int .i64) (by simp)), trivial⟩, ⟨MOle.refl _, MOle.refl _, trivial⟩⟩
      · refine And.intro (inI64 (by omega) (by omega)) ?_
        exact ⟨i + 1, hin, by omega, [(0, 0)], rfl, rfl, ⟨AVle.refl _, AVle.of_eq (congrArg (AV.int .i64) (by simp)), trivial⟩, ⟨MOle.refl _, trivial⟩⟩
  · refine Grd.intro (fun _ => ?_) (fun _ => ?_)
    · conv => whnf
      refine CallC.sca _ (l01In_lo) ?_ ?_
      · exact rfl
      exact And.intro trivial (AVle.refl _)
    · exact And.intro trivial (AVle.refl _)
theorem specStoreOK_hi (s : Sto) (hL : s.os.length ≤ 1000000000) (hk : ∀ o ∈ s.os, o.key.length ≤ 1000000000) (hn : -9223372036854775807 ≤ s.next ∧ s.next ≤ 9223372036854775807) : VFn Tryz.prog 56 [s.av] (.bool s.ok) := by
  refine VFn.introC Tryz.call56 Tryz.func56 rfl rfl ?_
  refine LoopC.mk (fun i : Nat => i ≤ s.os.length ∧ ∀ j, j < i → s.eOK j = true) (fun i => [(1, .bptr 0 0), (3, .int .i64 i)]) (fun i => [(0, .box s.row)]) 1 (fun i => s.os.length - i) 0
    ⟨⟨Nat.zero_le _, fun j hj => absurd hj (Nat.not_lt_zero j)⟩, [(0, 0)], rfl, rfl, ⟨AVle.refl _, AVle.refl _, trivial⟩, ⟨MOle.refl _, trivial⟩⟩ ?_
  intro i hi
  obtain ⟨hi, hall⟩ := hi
  refine Grd.intro (fun h3 => ?_) (fun h3 => ?_)
  · have hin : i < s.os.length := by have := of_decide_eq_true h3; omega
    have hbad : s.eOK i = false → s.ok = false := Sto.ok_no hin
    refine And.intro (by omega) ?_
    refine DrawC.mk 35 rfl (by kernel_rfl) ?_
    refine PCallC.sca _ (specKeyOK_fn (ix s.os i).key (hk _ (getD_mem hin))) rfl ?_
    refine Grd.intro (fun g1 => ?_) (fun g1 => ?_)
    · rw [hbad (by unfold Sto.eOK; rw [wnot g1]; rfl)]
      exact And.intro trivial (AVle.refl _)
    refine And.intro (inI64 (by omega) (by omega)) ?_
    refine PCallC.sca _ (l01In_fn (ix s.os i).ver 1 (s.next - 1)) rfl ?_
    conv => whnf
    refine Grd.intro (fun g2 => ?_) (fun g2 => ?_)
    · rw [hbad (by unfold Sto.eOK; rw [show within (ix s.os i).ver 1 (s.next - 1) = false from wnot g2]; simp)]
      exact And.intro trivial (AVle.refl _)
    conv => whnf
    refine Grd.intro (fun g3 => ?_) (fun g3 => ?_)
    · have g3 : ¬ (ix s.os i).data.length ≤ 600 := by
        have := of_decide_eq_true (show decide ((600 : Int) < (((B (ix s.os i).data).size : Nat) : Int)) = true from g3)
        rw [B_size] at this; omega
      rw [hbad (by unfold Sto.eOK; rw [decide_eq_false g3]; simp)]
      exact And.intro trivial (AVle.refl _)
    have g3 : (ix s.os i).data.length ≤ 600 := by
      have := of_decide_eq_false (show decide ((600 : Int) < (((B (ix s.os i).data).size : Nat) : Int)) = false from g3)
      rw [B_size] at this; omega
    have hpre : (!decide ((ix s.os i).ver ∈ (s.os.take i).map (·.ver))) = true → (decide (i = 0) || decide ((ix s.os (i - 1)).key < (ix s.os i).key)) = true → s.eOK i = true := fun h h' => by
      unfold Sto.eOK; rw [wyes g1, show within (ix s.os i).ver 1 (s.next - 1) = true from wyes g2, decide_eq_true g3, h, h']; rfl
    have hnext : s.eOK i = true → ∀ j, j < i + 1 → s.eOK j = true := fun h j hj => by
      rcases Nat.lt_or_ge j i with h' | h'
      · exact hall j h'
      · rw [show j = i by omega]; exact h
    conv => whnf
    refine Grd.intro (fun g5 => ?_) (fun g5 => ?_)
    · have h0 : 0 < i := by have := of_decide_eq_true g5; omega
      have e1 : ((i : Int) - 1).toNat = i - 1 := by omega
      refine And.intro (inI64 (by omega) (by omega)) ?_
      refine And.intro ⟨by omega, by omega⟩ ?_
      conv => whnf
      have hcmp : (!Op.bytesLess (B (ix s.os ((i : Int) - 1).toNat).key).toList (B (ix s.os i).key).toList) = !decide ((ix s.os (i - 1)).key < (ix s.os i).key) := by rw [blt_lt, e1]
      refine Grd.intro (fun g6 => ?_) (fun g6 => ?_)
      · have g6 := hcmp.symm.trans g6
        rw [hbad (by unfold Sto.eOK; rw [show decide ((ix s.os (i - 1)).key < (ix s.os i).key) = false from wnot g6, decide_eq_false (show ¬ i = 0 by omega)]; simp)]
        exact And.intro trivial (AVle.refl _)
      have g6 := hcmp.symm.trans g6
      have hkey : (decide (i = 0) || decide ((ix s.os (i - 1)).key < (ix s.os i).key)) = true := by rw [show decide ((ix s.os (i - 1)).key < (ix s.os i).key) = true from wyes g6]; simp
      refine LoopC.mk (fun j : Nat => j ≤ i ∧ ∀ q, q < j → (ix s.os q).ver ≠ (ix s.os i).ver) (fun j => [(1, .bptr 0 0), (3, .int .i64 i), (4, .bptr 1 0), (5, .int .i64 j)]) (fun j => [(0, .box s.row), (1, .box (ix s.os i).row)]) 2 (fun j => i - j) 0
        ⟨⟨Nat.zero_le _, fun q hq => absurd hq (Nat.not_lt_zero q)⟩, [(0, 0), (1, 1)], rfl, rfl, ⟨AVle.refl _, AVle.refl _, AVle.refl _, AVle.refl _, trivial⟩, ⟨MOle.refl _, MOle.refl _, trivial⟩⟩ ?_
      intro j hj
      obtain ⟨hj, hv⟩ := hj
      refine Grd.intro (fun h6 => ?_) (fun h6 => ?_)
      · have hjn : j < i := by have := of_decide_eq_true h6; omega
        refine DrawC.mk 9 rfl (by kernel_rfl) ?_
        refine And.intro (by omega) ?_
        refine Grd.intro (fun h7 => ?_) (fun h7 => ?_)
        · have h7 : (ix s.os j).ver = (ix s.os i).ver := of_decide_eq_true h7
          have hm : (ix s.os i).ver ∈ (s.os.take i).map (·.ver) := List.mem_map.2 ⟨ix s.os j, by rw [← ix_take hjn]; exact getD_mem (by simp; omega), h7⟩
          rw [hbad (by unfold Sto.eOK; rw [decide_eq_true hm]; simp)]
          exact And.intro trivial (AVle.refl _)
        · have h7 : (ix s.os j).ver ≠ (ix s.os i).ver := of_decide_eq_false h7
          refine And.intro (inI64 (by omega) (by omega)) ?_
          refine ⟨j + 1, ⟨hjn, fun q hq => ?_⟩, by omega, [(0, 0), (1, 1)], rfl, rfl, ⟨AVle.refl _, AVle.refl _, AVle.refl _, AVle.of_eq (congrArg (AV.int .i64) (by simp)), trivial⟩, ⟨MOle.refl _, MOle.refl _, trivial⟩⟩
          rcases Nat.lt_or_ge q j with h' | h'
          · exact hv q h'
          · rw [show q = j by omega]; exact h7
      · have : j = i := by have := of_decide_eq_false h6; omega
        subst this
        have hm : (ix s.os j).ver ∉ (s.os.take j).map (·.ver) := fun hm => by
          obtain ⟨o, ho, e⟩ := List.mem_map.1 hm
          obtain ⟨q, hq, e2⟩ := List.getElem_of_mem ho
          have hq' : q < j := by simp at hq; omega
          refine hv q hq' ?_
          rw [← e, ← e2, ix_lt (by omega)]; simp
        have he := hpre (by rw [decide_eq_false hm]; rfl) hkey
        refine And.intro (inI64 (by omega) (by omega)) ?_
        exact ⟨j + 1, ⟨hin, hnext he⟩, by omega, [(0, 0)], rfl, rfl, ⟨AVle.refl _, AVle.of_eq (congrArg (AV.int .i64) (by simp)), trivial⟩, ⟨MOle.refl _, trivial⟩⟩
    · have h0 : i = 0 := by have := of_decide_eq_false g5; omega
      have hkey : (decide (i = 0) || decide ((ix s.os (i - 1)).key < (ix s.os i).key)) = true := by rw [decide_eq_true h0]; rfl
      refine LoopC.mk (fun j : Nat => j ≤ i ∧ ∀ q, q < j → (ix s.os q).ver ≠ (ix s.os i).ver) (fun j => [(1, .bptr 0 0), (3, .int .i64 i), (4, .bptr 1 0), (5, .int .i64 j)]) (fun j => [(0, .box s.row), (1, .box (ix s.os i).row)]) 2 (fun j => i - j) 0
        ⟨⟨Nat.zero_le _, fun q hq => absurd hq (Nat.not_lt_zero q)⟩, [(0, 0), (1, 1)], rfl, rfl, ⟨AVle.refl _, AVle.refl _, AVle.refl _, AVle.refl _, trivial⟩, ⟨MOle.refl _, MOle.refl _, trivial⟩⟩ ?_
      intro j hj
      obtain ⟨hj, hv⟩ := hj
      refine Grd.intro (fun h6 => ?_) (fun h6 => ?_)
      · have hjn : j < i := by have := of_decide_eq_true h6; omega
        refine DrawC.mk 9 rfl (by kernel_rfl) ?_
        refine And.intro (by omega) ?_
        refine Grd.intro (fun h7 => ?_) (fun h7 => ?_)
        · have h7 : (ix s.os j).ver = (ix s.os i).ver := of_decide_eq_true h7
          have hm : (ix s.os i).ver ∈ (s.os.take i).map (·.ver) := List.mem_map.2 ⟨ix s.os j, by rw [← ix_take hjn]; exact getD_mem (by simp; omega), h7⟩
          rw [hbad (by unfold Sto.eOK; rw [decide_eq_true hm]; simp)]
          exact And.intro trivial (AVle.refl _)
        · have h7 : (ix s.os j).ver ≠ (ix s.os i).ver := of_decide_eq_false h7
          refine And.intro (inI64 (by omega) (by omega)) ?_
          refine ⟨j + 1, ⟨hjn, fun q hq => ?_⟩, by omega, [(0, 0), (1, 1)], rfl, rfl, ⟨AVle.refl _, AVle.refl _, AVle.refl _, AVle.of_eq (congrArg (AV.int .i64) (by simp)), trivial⟩, ⟨MOle.refl _, MOle.refl _, trivial⟩⟩
          rcases Nat.lt_or_ge q j with h' | h'
          · exact hv q h'
          · rw [show q = j by omega]; exact h7
      · have : j = i := by have := of_decide_eq_false h6; omega
        subst this
        have hm : (ix s.os j).ver ∉ (s.os.take j).map (·.ver) := fun hm => by
          obtain ⟨o, ho, e⟩ := List.mem_map.1 hm
          obtain ⟨q, hq, e2⟩ := List.getElem_of_mem ho
          have hq' : q < j := by simp at hq; omega
          refine hv q hq' ?_
          rw [← e, ← e2, ix_lt (by omega)]; simp
        have he := hpre (by rw [decide_eq_false hm]; rfl) hkey
        refine And.intro (inI64 (by omega) (by omega)) ?_
        exact ⟨j + 1, ⟨hin, hnext he⟩, by omega, [(0, 0)], rfl, rfl, ⟨AVle.refl _, AVle.of_eq (congrArg (AV.int .i64) (by simp)), trivial⟩, ⟨MOle.refl _, trivial⟩⟩
  · have : i = s.os.length := by have := of_decide_eq_false h3; omega
    subst this
    refine Grd.intro (fun h4 => ?_) (fun h4 => ?_)
    · have h4 : s.os.length ≤ 300 := by have := of_decide_eq_true h4; omega
      conv => whnf
      refine CallC.sca _ (l01In_fn s.next 1 1000000000) ?_ ?_
      · exact rfl
      refine And.intro trivial (AVle.of_eq (congrArg AV.bool (show within s.next 1 1000000000 = _ from ?_)))
      cases hw : within s.next 1 1000000000
      · unfold Sto.ok; rw [hw]; rfl
      · rw [Sto.ok_yes hw h4 hall]
    · have h4 : ¬ s.os.length ≤ 300 := by have := of_decide_eq_false h4; omega
      rw [show s.ok = false by unfold Sto.ok; rw [decide_eq_false h4]; simp]
      exact And.intro trivial (AVle.refl _)
theorem specStoreOK_ok (s : Sto) (hL : s.os.length ≤ 1000000000) (hk : ∀ o ∈ s.os, o.key.length ≤ 1000000000) (hn : -9223372036854775808 ≤ s.next ∧ s.next ≤ 9223372036854775807) : VFn Tryz.prog 56 [s.av] (.bool s.ok) := by
  by_cases h : s.next = -9223372036854775808
  · have h1 : within s.next 1 1000000000 = false := by rw [h]; rfl
    rw [show s.ok = false by unfold Sto.ok; rw [h1]; rfl]
    refine (specStoreOK_lo s.os hL hk).weak (AVsle.cons (AVle.agg (AVsle.cons (AVle.refl _) (AVsle.cons (fun w ok g v hv => ?_) AVsle.nil))) AVsle.nil) (AVle.refl _)
    have hv : v = .int .i64 s.next := hv
    rw [h] at hv
    exact hv
  · exact specStoreOK_hi s hL hk (by omega)
end Go.Proofs.YtlbnpndednhdaaaGreatDoor
set_option linter.unusedVariables false
set_option linter.constructorNameAsVariable false
set_option linter.unusedSimpArgs false
set_option maxRecDepth 20000
namespace Go.Proofs.YtlbnpndednhdaaaGreatDoor
open Go Go.Vw

structure StoRd (s : Sto) : Prop where
  len : s.os.length ≤ 1048576
  key : ∀ o ∈ s.os, o.key.length ≤ 1000000000
  nxt : -9223372036854775808 ≤ s.next ∧ s.next ≤ 9223372036854775807
end Go.Proofs.YtlbnpndednhdaaaGreatDoor
set_option linter.unusedVariables false
set_option linter.constructorNameAsVariable false
set_option linter.unusedSimpArgs false
set_option maxRecDepth 20000
namespace Go.Proofs.YtlbnpndednhdaaaGreatDoor
open Go Go.Vw

end Go.Proofs.YtlbnpndednhdaaaGreatDoor
set_option linter.unusedVariables false
set_option linter.constructorNameAsVariable false
set_option linter.unusedSimpArgs false
set_option maxRecDepth 20000
namespace Go.Proofs.YtlbnpndednhdaaaGreatDoor
open Go Go.Vw

/-- the digits of a positive number, none of 0 -/
def posD : Nat → List UInt8
  | 0 => []
  | n + 1 => posD ((n + 1) / 10) ++ [d1 (n + 1)]
decreasing_by omega
def markT (k : Int) : List UInt8 := if k ≤ 0 then [109, 48] else 109 :: posD k.toNat
theorem posD_len : ∀ (k n : Nat), n < 10 ^ k → (posD n).length ≤ k
  | 0, n, h => by
    have : n = 0 := by simpa using h
    subst this; simp [posD]
  | k + 1, 0, h => by simp [posD]
  | k + 1, n + 1, h => by
    rw [posD]
    have := posD_len k ((n + 1) / 10) (by rw [Nat.pow_succ] at h; omega)
    simp; omega
/-- texts marked from a number on -/
def mkT (k : Int) (n : Nat) : List (List UInt8) := (List.range n).map fun j : Nat => markT (k + (j : Int))
end Go.Proofs.YtlbnpndednhdaaaGreatDoor
set_option linter.unusedVariables false
set_option linter.constructorNameAsVariable false
set_option linter.unusedSimpArgs false
set_option maxRecDepth 20000
namespace Go.Proofs.YtlbnpndednhdaaaGreatDoor
open Go Go.Vw

def Ob.size (e : Ob) : Nat := e.key.length + e.data.length
theorem szObject_fn (e : Ob) (n : Int) (h0 : 0 ≤ n) (h1 : n ≤ 1048576) (hk : e.key.length ≤ 9223372036854775807 ∧ e.data.length ≤ 9223372036854775807) : VFn Tryz.prog 175 [e.av, .int .i64 n] (.int .i64 (szr (Ob.size e) n)) := by
  have hk1 := hk.1
  have hk2 := hk.2
  refine VFn.introC Tryz.call175 Tryz.func175 rfl rfl ?_
  refine And.intro (show inI .i64 (n - ((B e.key).size : Int)) by rw [B_size]; exact inI64 (by omega) (by omega)) ?_
  refine Grd.intro (fun h2 => ?_) (fun h2 => ?_)
  · have h2 : n - ((B e.key).size : Int) < 0 := of_decide_eq_true h2
    rw [B_size] at h2
    rw [szr_no (k := Ob.size e) (show ¬ ((e.key.length + e.data.length : Nat) : Int) ≤ n by omega)]
    exact And.intro trivial (AVle.refl _)
  have h2 : ¬ n - ((B e.key).size : Int) < 0 := of_decide_eq_false h2
  rw [B_size] at h2
  refine And.intro (show inI .i64 (n - ((B e.key).size : Int) - ((B e.data).size : Int)) by rw [B_size, B_size]; exact inI64 (by omega) (by omega)) ?_
  refine Grd.intro (fun h3 => ?_) (fun h3 => ?_)
  · have h3 : n - ((B e.key).size : Int) - ((B e.data).size : Int) < 0 := of_decide_eq_true h3
    rw [B_size, B_size] at h3
    rw [szr_no (k := Ob.size e) (show ¬ ((e.key.length + e.data.length : Nat) : Int) ≤ n by omega)]
    exact And.intro trivial (AVle.refl _)
  · have h3 : ¬ n - ((B e.key).size : Int) - ((B e.data).size : Int) < 0 := of_decide_eq_false h3
    rw [B_size, B_size] at h3
    rw [szr_yes (k := Ob.size e) (show ((e.key.length + e.data.length : Nat) : Int) ≤ n by omega)]
    exact And.intro trivial (AVle.of_eq (congrArg (AV.int .i64) (show n - ((B e.key).size : Int) - ((B e.data).size : Int) = n - ((e.key.length + e.data.length : Nat) : Int) by rw [B_size, B_size]; omega)))
theorem toObject_fn (e : Ob) : VFn Tryz.prog 182 [e.av] e.av := by
  refine VFn.introC Tryz.call182 Tryz.func182 rfl rfl ?_
  exact And.intro trivial (AVle.refl _)
theorem eqObject_fn (e : Ob) : VFn Tryz.prog 189 [e.av, e.av] (.bool true) := by
  refine VFn.introC Tryz.call189 Tryz.func189 rfl rfl ?_
  refine Grd.intro (fun h => absurd h (by simp)) (fun _ => ?_)
  refine Grd.intro (fun h => absurd h (by simp)) (fun _ => ?_)
  refine Grd.intro (fun h => absurd h (by simp)) (fun _ => ?_)
  exact And.intro trivial (AVle.refl _)
theorem szObjectS_fn (L : List Ob) (n : Int) (h0 : 0 ≤ n) (h1 : n ≤ 1048576) (hL : L.length ≤ 9223372036854775807) (hk : ∀ e ∈ L, e.key.length ≤ 9223372036854775807 ∧ e.data.length ≤ 9223372036854775807) : VFn Tryz.prog 106 [obs L, .int .i64 n] (.int .i64 (szr (L.length + sumL Ob.size L) n)) := by
  refine VFn.introC Tryz.call106 Tryz.func106 rfl rfl ?_
  refine And.intro (inI64 (by omega) (by omega)) ?_
  refine Grd.intro (fun h2 => ?_) (fun h2 => ?_)
  · have h2 : n - (L.length : Int) < 0 := of_decide_eq_true h2
    rw [szr_no (by omega)]
    exact And.intro trivial (AVle.refl _)
  have h2 : ¬ n - (L.length : Int) < 0 := of_decide_eq_false h2
  refine LoopC.mk (fun i : Nat => i ≤ L.length ∧ ((L.length + sumL Ob.size (L.take i) : Nat) : Int) ≤ n) (fun i => [(0, obs L), (1, .int .i64 (n - ((L.length + sumL Ob.size (L.take i) : Nat) : Int))), (5, .int .i64 i)]) (fun _ => []) 0 (fun i => L.length - i) 0
    ⟨⟨Nat.zero_le _, by simp [sumL]; omega⟩, [], rfl, rfl, ⟨AVle.refl _, AVle.of_eq (congrArg (AV.int .i64) (by simp [sumL])), AVle.refl _, trivial⟩, trivial⟩ ?_
  intro i hi
  obtain ⟨hi, hs⟩ := hi
  refine Grd.intro (fun h3 => ?_) (fun h3 => ?_)
  · have hin : i < L.length := by have := of_decide_eq_true h3; omega
    have hsn := sum_snoc (f := Ob.size) hin
    have hle := sum_take_le (f := Ob.size) (L := L) (k := L.length - (i + 1)) (i := i + 1) (by omega)
    refine And.intro (by omega) ?_
    conv => whnf
    refine CallC.sca _ (szObject_fn (ix L i) (n - ((L.length + sumL Ob.size (L.take i) : Nat) : Int)) (by omega) (by omega) (hk _ (getD_mem hin))) ?_ ?_
    · exact rfl
    by_cases hfit : ((Ob.size (ix L i) : Nat) : Int) ≤ n - ((L.length + sumL Ob.size (L.take i) : Nat) : Int)
    · rw [szr_yes hfit]
      refine Grd.intro (fun h4 => absurd (of_decide_eq_true h4) (by omega)) (fun _ => ?_)
      refine And.intro (inI64 (by omega) (by omega)) ?_
      exact ⟨i + 1, ⟨hin, by omega⟩, by omega, [], rfl, rfl, ⟨AVle.refl _, AVle.of_eq (congrArg (AV.int .i64) (by omega)), AVle.of_eq (congrArg (AV.int .i64) (by simp)), trivial⟩, trivial⟩
    · rw [szr_no hfit, szr_no (by omega)]
      exact And.intro trivial (AVle.refl _)
  · have : i = L.length := by have := of_decide_eq_false h3; omega
    subst this
    have e : L.take L.length = L := List.take_of_length_le (Nat.le_refl _)
    have hs' := hs
    rw [e] at hs'
    rw [szr_yes hs']
    exact And.intro trivial (AVle.of_eq (congrArg (AV.int .i64) (show n - ((L.length + sumL Ob.size (L.take L.length) : Nat) : Int) = _ by rw [e])))
theorem toObjectS_fn (L : List Ob) (hL : L.length ≤ 1048576) : VFn Tryz.prog 109 [obs L] (obs L) := by
  refine VFn.introC Tryz.call109 Tryz.func109 rfl rfl ?_
  refine And.intro ⟨by omega, rfl, (show (40 : Int) * L.length ≤ 140737488355328 by omega), by omega⟩ ?_
  refine LoopC.mk (fun i : Nat => i ≤ L.length) (fun i => [(0, obs L), (3, .osl 0), (4, .int .i64 i)])
    (fun i => [(0, .arr 181 3 L.length (wr (fun i => (ix L i).row) (fun _ => (default : Ob).row) i))]) 1 (fun i => L.length - i) 0
    ⟨Nat.zero_le _, [(0, 0)], rfl, rfl, ⟨AVle.refl _, AVle.refl _, AVle.refl _, trivial⟩, ⟨MOle.arr rfl fun i hi => by rw [wr_ge (Nat.zero_le i)]; rfl, trivial⟩⟩ ?_
  intro i hi
  refine Grd.intro (fun h2 => ?_) (fun h2 => ?_)
  · have hin : i < L.length := by have := of_decide_eq_true h2; omega
    refine And.intro (by omega) ?_
    conv => whnf
    refine CallC.sca _ (toObject_fn (ix L i)) ?_ ?_
    · exact rfl
    refine And.intro (by omega) ?_
    refine And.intro (inI64 (by omega) (by omega)) ?_
    exact ⟨i + 1, hin, by omega, [(0, 0)], rfl, rfl, ⟨AVle.refl _, AVle.refl _, AVle.of_eq (congrArg (AV.int .i64) (by simp)), trivial⟩, ⟨MOle.arr rfl fun k hk => wr_next fun e => by subst e; rw [wr_ge (Nat.le_refl _)]; rfl, trivial⟩⟩
  · have : i = L.length := by have := of_decide_eq_false h2; omega
    subst this
    exact And.intro trivial (AVle.sl rfl fun k hk => wr_lt hk)
theorem eqObjectS_fn (L : List Ob) (hL : L.length ≤ 1048576) : VFn Tryz.prog 114 [obs L, obs L] (.bool true) := by
  refine VFn.introC Tryz.call114 Tryz.func114 rfl rfl ?_
  refine Grd.intro (fun h => absurd h (by simp)) (fun _ => ?_)
  refine LoopC.mk (fun i : Nat => i ≤ L.length) (fun i => [(0, obs L), (1, obs L), (5, .int .i64 i)]) (fun _ => []) 0 (fun i => L.length - i) 0
    ⟨Nat.zero_le _, [], rfl, rfl, ⟨AVle.refl _, AVle.refl _, AVle.refl _, trivial⟩, trivial⟩ ?_
  intro i hi
  refine Grd.intro (fun h2 => ?_) (fun h2 => ?_)
  · have hin : i < L.length := by have := of_decide_eq_true h2; omega
    refine DrawC.mk 10 rfl (by kernel_rfl) ?_
    refine And.intro (by omega) ?_
    refine And.intro (by omega) ?_
    refine PCallC.sca _ (eqObject_fn (ix L i)) rfl ?_
    refine And.intro (inI64 (by omega) (by omega)) ?_
    exact ⟨i + 1, hin, by omega, [], rfl, rfl, ⟨AVle.refl _, AVle.refl _, AVle.of_eq (congrArg (AV.int .i64) (by simp)), trivial⟩, trivial⟩
  · exact And.intro trivial (AVle.refl _)
def mkO (k : Int) (i : Nat) : List AV := [.str (B (markT (k + 3 * i))), .int .i64 (k + 3 * i + 1), .str (B (markT (k + 3 * i + 1 + 1)))]
def stoN (s : Sto) : Nat := s.os.length + sumL Ob.size s.os
structure StoIn (s : Sto) : Prop where
  len : s.os.length ≤ 9223372036854775807
  sz : ∀ e ∈ s.os, e.key.length ≤ 9223372036854775807 ∧ e.data.length ≤ 9223372036854775807
  nxt : -9223372036854775808 ≤ s.next ∧ s.next ≤ 9223372036854775807
theorem Sto_small {s : Sto} (h : (stoN s : Int) ≤ 1048576) : s.os.length ≤ 1048576 ∧ (∀ e ∈ s.os, e.key.length ≤ 1048576) ∧ ∀ e ∈ s.os, e.data.length ≤ 1048576 := by
  unfold stoN at h
  refine ⟨by omega, fun e he => ?_, fun e he => ?_⟩
  all_goals
    have := sum_mem (f := Ob.size) he
    have e' : Ob.size e = e.key.length + e.data.length := rfl
    omega
theorem toStore_fn (s : Sto) (h1 : s.os.length ≤ 1048576) : VFn Tryz.prog 29 [s.av] s.av := by
  refine VFn.introC Tryz.call29 Tryz.func29 rfl rfl ?_
  conv => whnf
  refine CallC.nl _ (toObjectS_fn s.os h1) ?_ ?_
  · exact rfl
  exact And.intro trivial (AVle.refl _)
theorem eqStore_fn (s : Sto) (h1 : s.os.length ≤ 1048576) : VFn Tryz.prog 33 [s.av, s.av] (.bool true) := by
  refine VFn.introC Tryz.call33 Tryz.func33 rfl rfl ?_
  conv => whnf
  refine CallC.sca _ (eqObjectS_fn s.os h1) ?_ ?_
  · exact rfl
  refine Grd.intro (fun h => absurd h (by simp)) (fun _ => ?_)
  exact And.intro trivial (AVle.refl _)
/-- no store -/
def sto0 : AV := .agg [.nilsl, .int .i64 0]
end Go.Proofs.YtlbnpndednhdaaaGreatDoor
set_option linter.unusedVariables false
set_option linter.constructorNameAsVariable false
set_option linter.unusedSimpArgs false
set_option maxRecDepth 20000
namespace Go.Proofs.YtlbnpndednhdaaaGreatDoor
open Go Go.Vw

def Rc.res (r : Rc) : List UInt8 := if r.ok = true then r.text else []
def Rc.code (r : Rc) : Int := if r.ok = true then 0 else 1
theorem toRecord_fn (r : Rc) : VFn Tryz.prog 237 [r.av] r.av := by
  refine VFn.introC Tryz.call237 Tryz.func237 rfl rfl ?_
  exact And.intro trivial (AVle.refl _)
end Go.Proofs.YtlbnpndednhdaaaGreatDoor
set_option linter.unusedVariables false
set_option linter.constructorNameAsVariable false
set_option linter.unusedSimpArgs false
set_option maxRecDepth 20000
namespace Go.Proofs.YtlbnpndednhdaaaGreatDoor
open Go Go.Vw

def manK (n : Int) : List UInt8 := [109, 97, 110, 47] ++ six6 n.toNat
def appS (s : Sto) (n : Int) (r : Rc) : Sto × Int := s.putA (manK n) r.text
def appC (s : Sto) (n : Int) (r : Rc) : Int := if s.ok = true ∧ r.ok = true then (if within n 1 999999 = true then 0 else 4) else 1
theorem szRecordN_fn (r : Rc) (n : Int) (h0 : 0 ≤ n) (h1 : n ≤ 1048576) (hk : r.key.length ≤ 9223372036854775807) : VFn Tryz.prog 234 [r.av, .int .i64 n] (.int .i64 (szr r.key.length n)) := by
  refine VFn.introC Tryz.call234 Tryz.func234 rfl rfl ?_
  refine And.intro (show inI .i64 (n - ((B r.key).size : Int)) by rw [B_size]; exact inI64 (by omega) (by omega)) ?_
  refine Grd.intro (fun h2 => ?_) (fun h2 => ?_)
  · have h2 : n - ((B r.key).size : Int) < 0 := of_decide_eq_true h2
    rw [B_size] at h2
    rw [szr_no (show ¬ ((r.key.length : Nat) : Int) ≤ n by omega)]
    exact And.intro trivial (AVle.refl _)
  · have h2 : ¬ n - ((B r.key).size : Int) < 0 := of_decide_eq_false h2
    rw [B_size] at h2
    rw [szr_yes (show ((r.key.length : Nat) : Int) ≤ n by omega)]
    exact And.intro trivial (AVle.of_eq (congrArg (AV.int .i64) (show n - ((B r.key).size : Int) = _ by rw [B_size])))
end Go.Proofs.YtlbnpndednhdaaaGreatDoor
set_option linter.unusedVariables false
set_option linter.constructorNameAsVariable false
set_option linter.unusedSimpArgs false
set_option maxRecDepth 20000
namespace Go.Proofs.YtlbnpndednhdaaaGreatDoor
open Go Go.Vw

end Go.Proofs.YtlbnpndednhdaaaGreatDoor
set_option linter.unusedVariables false
set_option linter.constructorNameAsVariable false
set_option linter.unusedSimpArgs false
set_option maxRecDepth 20000
namespace Go.Proofs.YtlbnpndednhdaaaGreatDoor
open Go Go.Vw

theorem toSample_fn (s : Smp) : VFn Tryz.prog 110 [.agg s.row] (.agg s.row) := by
  refine VFn.introC Tryz.call110 Tryz.func110 rfl rfl ?_
  exact And.intro trivial (AVle.refl _)
theorem eqSample_fn (s : Smp) : VFn Tryz.prog 115 [.agg s.row, .agg s.row] (.bool true) := by
  refine VFn.introC Tryz.call115 Tryz.func115 rfl rfl ?_
  iterate 2 (refine Grd.intro (fun h => absurd h (by simp)) (fun _ => ?_))
  exact And.intro trivial (AVle.refl _)
theorem toSampleS_fn (L : List Smp) (hL : L.length ≤ 1048576) : VFn Tryz.prog 31 [smps L] (smps L) := by
  refine VFn.introC Tryz.call31 Tryz.func31 rfl rfl ?_
  refine And.intro ⟨by omega, rfl, (show (16 : Int) * L.length ≤ 140737488355328 by omega), by omega⟩ ?_
  refine LoopC.mk (fun i : Nat => i ≤ L.length) (fun i => [(0, smps L), (3, .osl 0), (4, .int .i64 i)])
    (fun i => [(0, .arr 144 2 L.length (wr (fun i => (ix L i).row) (fun _ => (default : Smp).row) i))]) 1 (fun i => L.length - i) 0
    ⟨Nat.zero_le _, [(0, 0)], rfl, rfl, ⟨AVle.refl _, AVle.refl _, AVle.refl _, trivial⟩, ⟨MOle.arr rfl fun i hi => by rw [wr_ge (Nat.zero_le i)]; rfl, trivial⟩⟩ ?_
  intro i hi
  refine Grd.intro (fun h2 => ?_) (fun h2 => ?_)
  · have hin : i < L.length := by have := of_decide_eq_true h2; omega
    refine And.intro (by omega) ?_
    conv => whnf
    refine CallC.sca _ (toSample_fn (ix L i)) ?_ ?_
    · exact rfl
    refine And.intro (by omega) ?_
    refine And.intro (inI64 (by omega) (by omega)) ?_
    exact ⟨i + 1, hin, by omega, [(0, 0)], rfl, rfl, ⟨AVle.refl _, AVle.refl _, AVle.of_eq (congrArg (AV.int .i64) (by simp)), trivial⟩, ⟨MOle.arr rfl fun k hk => wr_next fun e => by subst e; rw [wr_ge (Nat.le_refl _)]; rfl, trivial⟩⟩
  · have : i = L.length := by have := of_decide_eq_false h2; omega
    subst this
    exact And.intro trivial (AVle.sl rfl fun k hk => wr_lt hk)
theorem eqSampleS_fn (L : List Smp) (hL : L.length ≤ 1048576) : VFn Tryz.prog 34 [smps L, smps L] (.bool true) := by
  refine VFn.introC Tryz.call34 Tryz.func34 rfl rfl ?_
  refine Grd.intro (fun h => absurd h (by simp)) (fun _ => ?_)
  refine LoopC.mk (fun i : Nat => i ≤ L.length) (fun i => [(0, smps L), (1, smps L), (5, .int .i64 i)]) (fun _ => []) 0 (fun i => L.length - i) 0
    ⟨Nat.zero_le _, [], rfl, rfl, ⟨AVle.refl _, AVle.refl _, AVle.refl _, trivial⟩, trivial⟩ ?_
  intro i hi
  refine Grd.intro (fun h2 => ?_) (fun h2 => ?_)
  · have hin : i < L.length := by have := of_decide_eq_true h2; omega
    refine DrawC.mk 10 rfl (by kernel_rfl) ?_
    refine And.intro (by omega) ?_
    refine And.intro (by omega) ?_
    refine PCallC.sca _ (eqSample_fn (ix L i)) rfl ?_
    refine And.intro (inI64 (by omega) (by omega)) ?_
    exact ⟨i + 1, hin, by omega, [], rfl, rfl, ⟨AVle.refl _, AVle.refl _, AVle.of_eq (congrArg (AV.int .i64) (by simp)), trivial⟩, trivial⟩
  · exact And.intro trivial (AVle.refl _)
end Go.Proofs.YtlbnpndednhdaaaGreatDoor
