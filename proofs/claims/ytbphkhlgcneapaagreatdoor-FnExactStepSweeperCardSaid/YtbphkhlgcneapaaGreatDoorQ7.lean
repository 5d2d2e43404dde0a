/- Contracts of functions that the claim reaches, and the plain law of what they compute; each theorem bears its own conditions. -/
import Derived.Test.YtbphkhlgcneapaaGreatDoorQ3
import Derived.Test.YtbphkhlgcneapaaGreatDoorQ6
import Derived.Test.YtbphkhlgcneapaaGreatDoorQ2
import Derived.Test.YtbphkhlgcneapaaGreatDoorV46
import Derived.Test.YtbphkhlgcneapaaGreatDoorQ4
import Derived.Test.YtbphkhlgcneapaaGreatDoorQ1
import Derived.WalkSmall
import Derived.Test.YtbphkhlgcneapaaGreatDoorQ5
set_option linter.unusedVariables false
set_option linter.constructorNameAsVariable false
set_option linter.unusedSimpArgs false
set_option maxRecDepth 20000
namespace Go.Proofs.YtbphkhlgcneapaaGreatDoor
open Go Go.Vw

theorem nbOk_no {neg : Bool} {b : List UInt8} (h : 18 < b.length ∨ (b.headD 0 = 48 ∧ (1 < b.length ∨ neg = true)) ∨ b.all dig = false) : nbOk neg b = false := by
  cases hb : nbOk neg b
  · rfl
  · obtain ⟨_, h2, h3, h4⟩ := nbOk_iff.1 hb
    rcases h with h | ⟨h, h'⟩ | h
    · omega
    · obtain ⟨h5, h6⟩ := h3 h
      rcases h' with h' | h'
      · exact absurd h' h5
      · rw [h6] at h'; cases h'
    · rw [h4] at h; cases h
theorem l00Neg_fn (b : List UInt8) (hl : b.length ≤ 1000000000) (hb0 : b ≠ []) (R : AV) (hy : numOk (45 :: b) = true → R = .tup [.int .i64 (-(numB 0 b : Int)), .bool true]) (hn : numOk (45 :: b) = false → R = .tup [.int .i64 0, .bool false]) : VFn Tryz.prog 243 [.str (B (45 :: b))] R := by
  have hk := numOk_neg b
  have hsz : ((B (45 :: b)).size : Int) = b.length + 1 := by rw [B_size]; rfl
  refine VFn.introC Tryz.call243 Tryz.func243 rfl rfl ?_
  refine Grd.intro (fun g1 => ?_) (fun g1 => absurd (of_decide_eq_false g1) (by omega))
  refine And.intro ⟨by omega, by omega⟩ ?_
  refine And.intro ⟨by omega, by omega⟩ ?_
  refine force_to (congrArg AV.str (show (B (45 :: b)).extract (Int.toNat 1) (B (45 :: b)).size = B b by rw [B_extract, B_size]; simp)) ?_
  have hno : nbOk true b = false → numOk (45 :: b) = false := fun h => hk.1.trans h
  refine Grd.intro (fun h1 => ?_) (fun h1 => ?_)
  · have hb0' : b = [] := by have h : (((B b).size : Nat) : Int) = 0 := of_decide_eq_true h1; rw [B_size] at h; exact List.length_eq_zero_iff.1 (by omega)
    exact absurd hb0' hb0
  have hb1 : 1 ≤ b.length := by cases hbb : b with | nil => exact absurd hbb hb0 | cons _ _ => simp
  refine Grd.intro (fun h2 => ?_) (fun h2 => ?_)
  · have hb2 : 18 < b.length := by have h : (18 : Int) < (((B b).size : Nat) : Int) := of_decide_eq_true h2; rw [B_size] at h; omega
    rw [hn (hno (nbOk_no (.inl hb2)))]
    exact And.intro trivial (AVle.refl _)
  have hb2 : b.length ≤ 18 := by have h : ¬ (18 : Int) < (((B b).size : Nat) : Int) := of_decide_eq_false h2; rw [B_size] at h; omega
  refine And.intro ⟨by omega, by rw [B_size]; omega⟩ ?_
  have hix : (B b).data.toList.getD (Int.toNat 0) 0 = b.headD 0 := by rw [B_data]; cases b <;> rfl
  refine Grd.intro (fun h3 => ?_) (fun h3 => ?_)
  · have h3 : b.headD 0 = 48 := hix.symm.trans (UInt8.toNat_inj.1 (by have h : (((B b).data.toList.getD (Int.toNat 0) 0).toNat : Int) = 48 := of_decide_eq_true h3; exact Int.ofNat.inj h))
    refine Grd.intro (fun h4 => ?_) (fun h4 => ?_)
    · have h4 : 1 < b.length := by have h : (1 : Int) < (((B b).size : Nat) : Int) := of_decide_eq_true h4; rw [B_size] at h; omega
      rw [hn (hno (nbOk_no (.inr (.inl ⟨h3, .inl h4⟩))))]
      exact And.intro trivial (AVle.refl _)
    have h4 : ¬ 1 < b.length := by have h : ¬ (1 : Int) < (((B b).size : Nat) : Int) := of_decide_eq_false h4; rw [B_size] at h; omega
    rw [hn (hno (nbOk_no (.inr (.inl ⟨h3, .inr rfl⟩))))]
    exact And.intro trivial (AVle.refl _)
  · have h3 : b.headD 0 ≠ 48 := fun e => (of_decide_eq_false (p := ((((B b).data.toList.getD (Int.toNat 0) 0).toNat : Nat) : Int) = 48) h3) (by rw [hix, e]; rfl)
    have hgood : b.all dig = true → R = .tup [.int .i64 ((-1) * (numB 0 b : Int)), .bool true] := fun h => (hy (hk.1.trans (nbOk_iff.2 ⟨hb0, hb2, (fun e => absurd e h3), h⟩))).trans (congrArg (fun z => AV.tup [AV.int .i64 z, AV.bool true]) (by omega))
    refine LoopC.mk (fun i : Nat => i ≤ b.length ∧ (b.take i).all dig = true ∧ numB 0 (b.take i) < 10 ^ i) (fun i => [(0, .str (B b)), (4, .int .i64 (-1)), (5, .int .i64 (numB 0 (b.take i))), (6, .int .i64 i)]) (fun _ => []) 0 (fun i => b.length - i) 0
      ⟨⟨by omega, rfl, Nat.one_pos⟩, [], rfl, rfl, ⟨AVle.refl _, AVle.refl _, AVle.refl _, AVle.refl _, trivial⟩, trivial⟩ ?_
    intro i hi
    obtain ⟨hi1, hi2, hi3⟩ := hi
    refine Grd.intro (fun h5 => ?_) (fun h5 => ?_)
    · have hin : i < b.length := by have h : (i : Int) < (((B b).size : Nat) : Int) := of_decide_eq_true h5; rw [B_size] at h; omega
      have hp := pow_le18 (i := i) (by omega)
      have bad : dig (ix b i) = false → R = .tup [.int .i64 0, .bool false] := fun h => hn (hno (nbOk_no (.inr (.inr (by
        rw [← Bool.not_eq_true]
        intro h'
        rw [List.all_eq_true.1 h' _ (getD_mem hin)] at h; cases h)))))
      refine And.intro ⟨by omega, by rw [B_size]; omega⟩ ?_
      refine Grd.intro (fun h6 => ?_) (fun h6 => ?_)
      · have h6 : ((ix b i).toNat : Int) < 48 := of_decide_eq_true h6
        rw [bad (decide_eq_false (by omega))]
        exact And.intro trivial (AVle.refl _)
      have h6 : ¬ ((ix b i).toNat : Int) < 48 := of_decide_eq_false h6
      refine And.intro ⟨by omega, by rw [B_size]; omega⟩ ?_
      refine Grd.intro (fun h7 => ?_) (fun h7 => ?_)
      · have h7 : (57 : Int) < ((ix b i).toNat : Int) := of_decide_eq_true h7
        rw [bad (decide_eq_false (by omega))]
        exact And.intro trivial (AVle.refl _)
      have h7 : ¬ (57 : Int) < ((ix b i).toNat : Int) := of_decide_eq_false h7
      have hd : dig (ix b i) = true := decide_eq_true (by omega)
      have hnt := numB_take hin
      refine And.intro (inI64 (by omega) (by omega)) ?_
      refine And.intro ⟨by omega, by rw [B_size]; omega⟩ ?_
      refine And.intro (show inI .i64 ((ix b i).toNat : Int) from inI64 (by omega) (by omega)) ?_
      refine And.intro (show inI .i64 ((numB 0 (b.take i) : Int) * 10 + ((ix b i).toNat : Int)) from inI64 (by omega) (by omega)) ?_
      refine And.intro (show inI .i64 ((numB 0 (b.take i) : Int) * 10 + ((ix b i).toNat : Int) - 48) from inI64 (by omega) (by omega)) ?_
      refine And.intro (inI64 (by omega) (by omega)) ?_
      refine ⟨i + 1, ⟨hin, ?_, ?_⟩, by omega, [], rfl, rfl, ⟨AVle.refl _, AVle.refl _, AVle.of_eq (congrArg (AV.int .i64) (show (numB 0 (b.take i) : Int) * 10 + ((ix b i).toNat : Int) - 48 = _ by rw [hnt]; omega)), AVle.of_eq (congrArg (AV.int .i64) (by simp)), trivial⟩, trivial⟩
      · rw [take_snoc hin, List.all_append, hi2]; simp [hd]
      · rw [hnt, Nat.pow_succ]; omega
    · have : i = b.length := by have h : ¬ (i : Int) < (((B b).size : Nat) : Int) := of_decide_eq_false h5; rw [B_size] at h; omega
      subst this
      rw [List.take_of_length_le (Nat.le_refl _)] at hi2
      have hN := numB_18 hi2 hb2
      have e : b.take b.length = b := List.take_of_length_le (Nat.le_refl _)
      refine And.intro (show inI .i64 ((-1) * (numB 0 (b.take b.length) : Int)) from inI64 (by rw [e]; omega) (by rw [e]; omega)) ?_
      rw [hgood hi2]
      exact And.intro trivial (AVle.of_eq (congrArg (fun z => AV.tup [AV.int .i64 z, AV.bool true]) (show (-1) * (numB 0 (b.take b.length) : Int) = _ by rw [e])))
theorem l00Pos_fn (b : List UInt8) (hl : b.length ≤ 1000000000) (hb0 : b ≠ []) (hh : b.headD 0 ≠ 45) (R : AV) (hy : numOk b = true → R = .tup [.int .i64 (numB 0 b : Int), .bool true]) (hn : numOk b = false → R = .tup [.int .i64 0, .bool false]) : VFn Tryz.prog 243 [.str (B b)] R := by
  have hk := numOk_pos hh
  have hlen : 1 ≤ b.length := by cases hbb : b with | nil => exact absurd hbb hb0 | cons _ _ => simp
  refine VFn.introC Tryz.call243 Tryz.func243 rfl rfl ?_
  refine Grd.intro (fun g1 => ?_) (fun g1 => absurd (of_decide_eq_false (p := (0 : Int) < (((B b).size : Nat) : Int)) g1) (fun h => h (by rw [B_size]; omega)))
  refine And.intro ⟨by omega, by rw [B_size]; omega⟩ ?_
  have hix : (B b).data.toList.getD (Int.toNat 0) 0 = b.headD 0 := by rw [B_data]; cases b <;> rfl
  refine Grd.intro (fun g2 => absurd (hix.symm.trans (UInt8.toNat_inj.1 (by have h : (((B b).data.toList.getD (Int.toNat 0) 0).toNat : Int) = 45 := of_decide_eq_true g2; exact Int.ofNat.inj h))) hh) (fun g2 => ?_)
  have hno : nbOk false b = false → numOk b = false := fun h => hk.1.trans h
  refine Grd.intro (fun h1 => ?_) (fun h1 => ?_)
  · have hb0' : b = [] := by have h : (((B b).size : Nat) : Int) = 0 := of_decide_eq_true h1; rw [B_size] at h; exact List.length_eq_zero_iff.1 (by omega)
    exact absurd hb0' hb0
  have hb1 : 1 ≤ b.length := by cases hbb : b with | nil => exact absurd hbb hb0 | cons _ _ => simp
  refine Grd.intro (fun h2 => ?_) (fun h2 => ?_)
  · have hb2 : 18 < b.length := by have h : (18 : Int) < (((B b).size : Nat) : Int) := of_decide_eq_true h2; rw [B_size] at h; omega
    rw [hn (hno (nbOk_no (.inl hb2)))]
    exact And.intro trivial (AVle.refl _)
  have hb2 : b.length ≤ 18 := by have h : ¬ (18 : Int) < (((B b).size : Nat) : Int) := of_decide_eq_false h2; rw [B_size] at h; omega
  refine And.intro ⟨by omega, by rw [B_size]; omega⟩ ?_
  have hix : (B b).data.toList.getD (Int.toNat 0) 0 = b.headD 0 := by rw [B_data]; cases b <;> rfl
  refine Grd.intro (fun h3 => ?_) (fun h3 => ?_)
  · have h3 : b.headD 0 = 48 := hix.symm.trans (UInt8.toNat_inj.1 (by have h : (((B b).data.toList.getD (Int.toNat 0) 0).toNat : Int) = 48 := of_decide_eq_true h3; exact Int.ofNat.inj h))
    refine Grd.intro (fun h4 => ?_) (fun h4 => ?_)
    · have h4 : 1 < b.length := by have h : (1 : Int) < (((B b).size : Nat) : Int) := of_decide_eq_true h4; rw [B_size] at h; omega
      rw [hn (hno (nbOk_no (.inr (.inl ⟨h3, .inl h4⟩))))]
      exact And.intro trivial (AVle.refl _)
    have h4 : ¬ 1 < b.length := by have h : ¬ (1 : Int) < (((B b).size : Nat) : Int) := of_decide_eq_false h4; rw [B_size] at h; omega
    have hgood : b.all dig = true → R = .tup [.int .i64 (1 * (numB 0 b : Int)), .bool true] := fun h => (hy (hk.1.trans (nbOk_iff.2 ⟨hb0, hb2, (fun _ => ⟨h4, rfl⟩), h⟩))).trans (congrArg (fun z => AV.tup [AV.int .i64 z, AV.bool true]) (by omega))
    refine LoopC.mk (fun i : Nat => i ≤ b.length ∧ (b.take i).all dig = true ∧ numB 0 (b.take i) < 10 ^ i) (fun i => [(0, .str (B b)), (4, .int .i64 1), (5, .int .i64 (numB 0 (b.take i))), (6, .int .i64 i)]) (fun _ => []) 0 (fun i => b.length - i) 0
      ⟨⟨by omega, rfl, Nat.one_pos⟩, [], rfl, rfl, ⟨AVle.refl _, AVle.refl _, AVle.refl _, AVle.refl _, trivial⟩, trivial⟩ ?_
    intro i hi
    obtain ⟨hi1, hi2, hi3⟩ := hi
    refine Grd.intro (fun h5 => ?_) (fun h5 => ?_)
    · have hin : i < b.length := by have h : (i : Int) < (((B b).size : Nat) : Int) := of_decide_eq_true h5; rw [B_size] at h; omega
      have hp := pow_le18 (i := i) (by omega)
      have bad : dig (ix b i) = false → R = .tup [.int .i64 0, .bool false] := fun h => hn (hno (nbOk_no (.inr (.inr (by
        rw [← Bool.not_eq_true]
        intro h'
        rw [List.all_eq_true.1 h' _ (getD_mem hin)] at h; cases h)))))
      refine And.intro ⟨by omega, by rw [B_size]; omega⟩ ?_
      refine Grd.intro (fun h6 => ?_) (fun h6 => ?_)
      · have h6 : ((ix b i).toNat : Int) < 48 := of_decide_eq_true h6
        rw [bad (decide_eq_false (by omega))]
        exact And.intro trivial (AVle.refl _)
      have h6 : ¬ ((ix b i).toNat : Int) < 48 := of_decide_eq_false h6
      refine And.intro ⟨by omega, by rw [B_size]; omega⟩ ?_
      refine Grd.intro (fun h7 => ?_) (fun h7 => ?_)
      · have h7 : (57 : Int) < ((ix b i).toNat : Int) := of_decide_eq_true h7
        rw [bad (decide_eq_false (by omega))]
        exact And.intro trivial (AVle.refl _)
      have h7 : ¬ (57 : Int) < ((ix b i).toNat : Int) := of_decide_eq_false h7
      have hd : dig (ix b i) = true := decide_eq_true (by omega)
      have hnt := numB_take hin
      refine And.intro (inI64 (by omega) (by omega)) ?_
      refine And.intro ⟨by omega, by rw [B_size]; omega⟩ ?_
      refine And.intro (show inI .i64 ((ix b i).toNat : Int) from inI64 (by omega) (by omega)) ?_
      refine And.intro (show inI .i64 ((numB 0 (b.take i) : Int) * 10 + ((ix b i).toNat : Int)) from inI64 (by omega) (by omega)) ?_
      refine And.intro (show inI .i64 ((numB 0 (b.take i) : Int) * 10 + ((ix b i).toNat : Int) - 48) from inI64 (by omega) (by omega)) ?_
      refine And.intro (inI64 (by omega) (by omega)) ?_
      refine ⟨i + 1, ⟨hin, ?_, ?_⟩, by omega, [], rfl, rfl, ⟨AVle.refl _, AVle.refl _, AVle.of_eq (congrArg (AV.int .i64) (show (numB 0 (b.take i) : Int) * 10 + ((ix b i).toNat : Int) - 48 = _ by rw [hnt]; omega)), AVle.of_eq (congrArg (AV.int .i64) (by simp)), trivial⟩, trivial⟩
      · rw [take_snoc hin, List.all_append, hi2]; simp [hd]
      · rw [hnt, Nat.pow_succ]; omega
    · have : i = b.length := by have h : ¬ (i : Int) < (((B b).size : Nat) : Int) := of_decide_eq_false h5; rw [B_size] at h; omega
      subst this
      rw [List.take_of_length_le (Nat.le_refl _)] at hi2
      have hN := numB_18 hi2 hb2
      have e : b.take b.length = b := List.take_of_length_le (Nat.le_refl _)
      refine And.intro (show inI .i64 (1 * (numB 0 (b.take b.length) : Int)) from inI64 (by rw [e]; omega) (by rw [e]; omega)) ?_
      rw [hgood hi2]
      exact And.intro trivial (AVle.of_eq (congrArg (fun z => AV.tup [AV.int .i64 z, AV.bool true]) (show 1 * (numB 0 (b.take b.length) : Int) = _ by rw [e])))
  · have h3 : b.headD 0 ≠ 48 := fun e => (of_decide_eq_false (p := ((((B b).data.toList.getD (Int.toNat 0) 0).toNat : Nat) : Int) = 48) h3) (by rw [hix, e]; rfl)
    have hgood : b.all dig = true → R = .tup [.int .i64 (1 * (numB 0 b : Int)), .bool true] := fun h => (hy (hk.1.trans (nbOk_iff.2 ⟨hb0, hb2, (fun e => absurd e h3), h⟩))).trans (congrArg (fun z => AV.tup [AV.int .i64 z, AV.bool true]) (by omega))
    refine LoopC.mk (fun i : Nat => i ≤ b.length ∧ (b.take i).all dig = true ∧ numB 0 (b.take i) < 10 ^ i) (fun i => [(0, .str (B b)), (4, .int .i64 1), (5, .int .i64 (numB 0 (b.take i))), (6, .int .i64 i)]) (fun _ => []) 0 (fun i => b.length - i) 0
      ⟨⟨by omega, rfl, Nat.one_pos⟩, [], rfl, rfl, ⟨AVle.refl _, AVle.refl _, AVle.refl _, AVle.refl _, trivial⟩, trivial⟩ ?_
    intro i hi
    obtain ⟨hi1, hi2, hi3⟩ := hi
    refine Grd.intro (fun h5 => ?_) (fun h5 => ?_)
    · have hin : i < b.length := by have h : (i : Int) < (((B b).size : Nat) : Int) := of_decide_eq_true h5; rw [B_size] at h; omega
      have hp := pow_le18 (i := i) (by omega)
      have bad : dig (ix b i) = false → R = .tup [.int .i64 0, .bool false] := fun h => hn (hno (nbOk_no (.inr (.inr (by
        rw [← Bool.not_eq_true]
        intro h'
        rw [List.all_eq_true.1 h' _ (getD_mem hin)] at h; cases h)))))
      refine And.intro ⟨by omega, by rw [B_size]; omega⟩ ?_
      refine Grd.intro (fun h6 => ?_) (fun h6 => ?_)
      · have h6 : ((ix b i).toNat : Int) < 48 := of_decide_eq_true h6
        rw [bad (decide_eq_false (by omega))]
        exact And.intro trivial (AVle.refl _)
      have h6 : ¬ ((ix b i).toNat : Int) < 48 := of_decide_eq_false h6
      refine And.intro ⟨by omega, by rw [B_size]; omega⟩ ?_
      refine Grd.intro (fun h7 => ?_) (fun h7 => ?_)
      · have h7 : (57 : Int) < ((ix b i).toNat : Int) := of_decide_eq_true h7
        rw [bad (decide_eq_false (by omega))]
        exact And.intro trivial (AVle.refl _)
      have h7 : ¬ (57 : Int) < ((ix b i).toNat : Int) := of_decide_eq_false h7
      have hd : dig (ix b i) = true := decide_eq_true (by omega)
      have hnt := numB_take hin
      refine And.intro (inI64 (by omega) (by omega)) ?_
      refine And.intro ⟨by omega, by rw [B_size]; omega⟩ ?_
      refine And.intro (show inI .i64 ((ix b i).toNat : Int) from inI64 (by omega) (by omega)) ?_
      refine And.intro (show inI .i64 ((numB 0 (b.take i) : Int) * 10 + ((ix b i).toNat : Int)) from inI64 (by omega) (by omega)) ?_
      refine And.intro (show inI .i64 ((numB 0 (b.take i) : Int) * 10 + ((ix b i).toNat : Int) - 48) from inI64 (by omega) (by omega)) ?_
      refine And.intro (inI64 (by omega) (by omega)) ?_
      refine ⟨i + 1, ⟨hin, ?_, ?_⟩, by omega, [], rfl, rfl, ⟨AVle.refl _, AVle.refl _, AVle.of_eq (congrArg (AV.int .i64) (show (numB 0 (b.take i) : Int) * 10 + ((ix b i).toNat : Int) - 48 = _ by rw [hnt]; omega)), AVle.of_eq (congrArg (AV.int .i64) (by simp)), trivial⟩, trivial⟩
      · rw [take_snoc hin, List.all_append, hi2]; simp [hd]
      · rw [hnt, Nat.pow_succ]; omega
    · have : i = b.length := by have h : ¬ (i : Int) < (((B b).size : Nat) : Int) := of_decide_eq_false h5; rw [B_size] at h; omega
      subst this
      rw [List.take_of_length_le (Nat.le_refl _)] at hi2
      have hN := numB_18 hi2 hb2
      have e : b.take b.length = b := List.take_of_length_le (Nat.le_refl _)
      refine And.intro (show inI .i64 (1 * (numB 0 (b.take b.length) : Int)) from inI64 (by rw [e]; omega) (by rw [e]; omega)) ?_
      rw [hgood hi2]
      exact And.intro trivial (AVle.of_eq (congrArg (fun z => AV.tup [AV.int .i64 z, AV.bool true]) (show 1 * (numB 0 (b.take b.length) : Int) = _ by rw [e])))
theorem l00Nil_fn : VFn Tryz.prog 243 [.str (B [])] (.tup [.int .i64 0, .bool false]) := by
  refine VFn.introC Tryz.call243 Tryz.func243 rfl rfl ?_
  exact And.intro trivial (AVle.refl _)
theorem l00Min_fn : VFn Tryz.prog 243 [.str (B [45])] (.tup [.int .i64 0, .bool false]) := by
  refine VFn.introC Tryz.call243 Tryz.func243 rfl rfl ?_
  refine And.intro ⟨by decide, by decide⟩ ?_
  refine And.intro ⟨by decide, by decide⟩ ?_
  exact And.intro trivial (AVle.refl _)
theorem l00Number_fn (t : List UInt8) (hl : t.length ≤ 1000000000) : VFn Tryz.prog 243 [.str (B t)] (.tup [.int .i64 (if numOk t = true then atoiV t else 0), .bool (numOk t)]) := by
  cases t with
  | nil => rw [show numOk [] = false by decide]; exact l00Nil_fn
  | cons c b =>
    by_cases hc : c = 45
    · subst hc
      by_cases hb : b = []
      · subst hb; rw [show numOk [45] = false by decide]; exact l00Min_fn
      · exact l00Neg_fn b (by simp at hl; omega) hb _ (fun h => by rw [h, if_pos rfl, (numOk_neg b).2 h]) (fun h => by rw [h, if_neg (by simp)])
    · exact l00Pos_fn (c :: b) hl (by simp) hc _ (fun h => by rw [h, if_pos rfl, (numOk_pos (t := c :: b) hc).2 h]) (fun h => by rw [h, if_neg (by simp)])
end Go.Proofs.YtbphkhlgcneapaaGreatDoor
set_option linter.unusedVariables false
set_option linter.constructorNameAsVariable false
set_option linter.unusedSimpArgs false
set_option maxRecDepth 20000
namespace Go.Proofs.YtbphkhlgcneapaaGreatDoor
open Go Go.Vw

theorem l02Number_fn (t : List UInt8) (hl : t.length ≤ 1000000000) : VFn Tryz.prog 181 [.str (B t)] (.tup [.int .i64 (if numOk t = true then atoiV t else 0), .bool (numOk t)]) := by
  have c := l00Number_fn t hl
  by_cases h : numOk t = true
  · rw [h, if_pos rfl] at c ⊢
    obtain ⟨n, e1, e2, h0, h1⟩ := num_of h
    refine VFn.introC Tryz.call181 Tryz.func181 rfl rfl ?_
    conv => whnf
    refine CallC.sca _ (c) ?_ ?_
    · exact rfl
    conv => whnf
    refine CallC.sca _ (digits_fn (atoiV t) (by omega) (by omega)) ?_ ?_
    · exact rfl
    refine And.intro trivial (AVle.of_eq (show AV.tup [.int .i64 (atoiV t), .bool ((B (Lib.itoa (atoiV t))).toList == (B t).toList)] = _ from ?_))
    rw [B_eq, e2, ← e1, decide_eq_true rfl]
  · have h : numOk t = false := by simpa using h
    rw [h, if_neg (by simp)] at c ⊢
    refine VFn.introC Tryz.call181 Tryz.func181 rfl rfl ?_
    conv => whnf
    refine CallC.sca _ (c) ?_ ?_
    · exact rfl
    exact And.intro trivial (AVle.refl _)
theorem l02Numbers_gen (t : List UInt8) (c : UInt8) (m : Nat) (hl : t.length ≤ 1000000) (R : AV) (hy : ∀ N, numsK c m t = some N → R = .tup [ints N, .bool true]) (hn : numsK c m t = none → R = .tup [.any, .bool false]) :
    VFn Tryz.prog 185 [.str (B t), .int .u8 c.toNat, .int .i64 (m : Int)] R := by
  have hcl := cutP_len c t []
  have hpl : ∀ x ∈ cutP c [] t, x.length ≤ t.length := fun x hx => by have := cutP_piece c t [] x hx; simpa using this
  obtain ⟨P, hP⟩ : ∃ P, P = cutP c [] t := ⟨_, rfl⟩
  have hK : numsK c m t = if P.length = m ∧ P.all numOk = true then some (P.map atoiV) else none := by unfold numsK; rw [← hP]
  have cut := l00Cut_fn t c (by omega)
  rw [← hP] at hcl hpl cut
  refine VFn.introC Tryz.call185 Tryz.func185 rfl rfl ?_
  conv => whnf
  refine CallC.nl _ (cut) ?_ ?_
  · exact rfl
  refine LoopC.mk (fun i : Nat => i ≤ P.length ∧ ∀ j, j < i → numOk (ix P j) = true) (fun i => [(2, .int .i64 (m : Int)), (8, txts P), (9, .osl 0), (10, .int .i64 i)])
    (fun i => [(0, .arr 3 1 ((P.take i).map atoiV).length fun j => [.int .i64 (ix ((P.take i).map atoiV) j)])]) 1 (fun i => P.length - i) 0
    ⟨⟨Nat.zero_le _, fun j hj => absurd hj (Nat.not_lt_zero j)⟩, [(0, 0)], rfl, rfl, ⟨AVle.refl _, AVle.refl _, AVle.refl _, AVle.refl _, trivial⟩, ⟨MOle.arr rfl fun i hi => absurd hi (Nat.not_lt_zero i), trivial⟩⟩ ?_
  intro i hi
  obtain ⟨hi, hall⟩ := hi
  refine Grd.intro (fun h2 => ?_) (fun h2 => ?_)
  · have hin : i < P.length := by have := of_decide_eq_true h2; omega
    refine And.intro (by omega) ?_
    conv => whnf
    refine CallC.sca _ (l02Number_fn (ix P i) (by have := hpl _ (getD_mem hin); omega)) ?_ ?_
    · exact rfl
    refine Grd.intro (fun h3 => ?_) (fun h3 => ?_)
    · have h3 : numOk (ix P i) = false := by simpa using (show (!numOk (ix P i)) = true from h3)
      have : ¬ P.all numOk = true := fun h => by rw [List.all_eq_true.1 h _ (getD_mem hin)] at h3; cases h3
      rw [hn (by rw [hK, if_neg (fun h => this h.2)])]
      exact And.intro trivial (AVle.tup (AVsle.cons (AVle.any _) (AVsle.cons (AVle.refl _) AVsle.nil)))
    have h3 : numOk (ix P i) = true := by simpa using (show (!numOk (ix P i)) = false from h3)
    refine And.intro ⟨show (((P.take i).map atoiV).length + 1) * 8 ≤ 140737488355328 by simp; omega, all1 rfl⟩ ?_
    refine And.intro (inI64 (by omega) (by omega)) ?_
    refine ⟨i + 1, ⟨hin, fun j hj => ?_⟩, by omega, [(2, 0)], rfl, rfl, ⟨AVle.refl _, AVle.refl _, AVle.refl _, AVle.of_eq (congrArg (AV.int .i64) (by simp)), trivial⟩, ⟨arr_next (f := fun x => [.int .i64 x]) (map_take_snoc hin) (by rw [h3, if_pos rfl]; rfl), trivial⟩⟩
    rcases Nat.lt_or_ge j i with h' | h'
    · exact hall j h'
    · rw [show j = i by omega]; exact h3
  · have : i = P.length := by have := of_decide_eq_false h2; omega
    subst this
    have hall' : P.all numOk = true := List.all_eq_true.2 fun x hx => by
      obtain ⟨j, hj, q⟩ := List.getElem_of_mem hx
      have := hall j hj
      rw [ix_lt hj, q] at this; exact this
    have e : P.take P.length = P := List.take_of_length_le (Nat.le_refl _)
    have el : ((((P.take P.length).map atoiV).length : Nat) : Int) = P.length := by rw [e, List.length_map]
    by_cases hm : P.length = m
    · rw [hy _ (by rw [hK, if_pos ⟨hm, hall'⟩])]
      exact And.intro trivial (AVle.tup (AVsle.cons (AVle.of_eq (congrArg ints (congrArg (List.map atoiV) e))) (AVsle.cons (AVle.of_eq (congrArg AV.bool (decide_eq_true (el.trans (by omega))))) AVsle.nil)))
    · rw [hn (by rw [hK, if_neg (fun h => hm h.1)])]
      exact And.intro trivial (AVle.tup (AVsle.cons (AVle.any _) (AVsle.cons (AVle.of_eq (congrArg AV.bool (decide_eq_false (fun h => hm (by have h := el.symm.trans h; omega))))) AVsle.nil)))
theorem Lea.text_len (l : Lea) (h : ∀ x ∈ [l.tok, l.who, l.til], -9223372036854775807 ≤ x ∧ x ≤ 9223372036854775807) : l.text.length ≤ 65 := by
  have h1 := h l.tok (by simp)
  have h2 := h l.who (by simp)
  have h3 := h l.til (by simp)
  have l1 := itoa_len (n := l.tok) (by omega) h1.2
  have l2 := itoa_len (n := l.who) (by omega) h2.2
  have l3 := itoa_len (n := l.til) (by omega) h3.2
  show (Lib.join [Lib.itoa l.tok, Lib.itoa l.who, Lib.itoa l.til] [44]).length ≤ 65
  simp [Lib.join]
  omega
theorem get_ok (s : Sto) (hs : s.ok = true) (k : List UInt8) (h : s.has k = true) : (s.get k).data.length ≤ 600 ∧ 1 ≤ (s.get k).ver ∧ (s.get k).ver ≤ 1000000000 := by
  have h1 : s.eOK (s.pos k) = true := (Sto.ok_at hs).2.2 _ (hasK_at h).1
  have h2 := (Sto.ok_at hs).1
  simp [within] at h2
  simp [Sto.eOK, within] at h1
  unfold Sto.get
  omega
end Go.Proofs.YtbphkhlgcneapaaGreatDoor
set_option linter.unusedVariables false
set_option linter.constructorNameAsVariable false
set_option linter.unusedSimpArgs false
set_option maxRecDepth 20000
namespace Go.Proofs.YtbphkhlgcneapaaGreatDoor
open Go Go.Vw

theorem Cut_fn (s : List UInt8) (c : UInt8) (hl : s.length ≤ 1000000000) : VFn Tryz.prog 240 [.str (B s), .str (B [c])] (.tup [.str (B (Lib.cut s [c]).1), .str (B (Lib.cut s [c]).2.1), .bool (Lib.cut s [c]).2.2]) := by
  refine VFn.lib Tryz.call240 fun w ok vs hJ hok hv => ?_
  obtain ⟨v, us, rfl, hv, v2, us2, rfl, hv2, hus⟩ := hv
  have e1 : v = .string (B s) := hv
  have e2 : v2 = .string (B [c]) := hv2
  have e3 : us2 = [] := hus
  subst e1 e2 e3
  obtain ⟨mv, hmv⟩ := tab_maxlen hJ
  refine (Tryz.strings_Cut (B s) (B [c]) mv w (by rw [B_size]; omega) hmv).mono ?_
  rintro e w' ⟨rfl, n, rfl⟩
  refine ⟨_, rfl, ⟨rfl, rfl, rfl, Nat.le_refl _, fun _ _ => rfl⟩, fun _ _ => ⟨[_, _, _], rfl, _, _, rfl, ?_, _, _, rfl, ?_, _, _, rfl, ?_, rfl⟩⟩
  · show Value.string _ = _
    rw [B_data, B_data]; rfl
  · show Value.string _ = _
    rw [B_data, B_data]; rfl
  · show Value.bool _ = _
    rw [B_data, B_data]
theorem cut_none {s : List UInt8} {c : UInt8} (h : ∀ x ∈ s, x ≠ c) : Lib.cut s [c] = (s, [], false) := by
  unfold Lib.cut; rw [index_none c s h]; rfl
theorem cut_at {a b : List UInt8} {c : UInt8} (h : ∀ x ∈ a, x ≠ c) : Lib.cut (a ++ c :: b) [c] = (a, b, true) := by
  unfold Lib.cut; rw [index_at c a b h]
  rw [if_pos (by omega)]
  simp
theorem readRecord_none (t : List UInt8) (hl : t.length ≤ 1000000) (h : ∀ x ∈ t, x ≠ 32) : VFn Tryz.prog 297 [.str (B t)] (.tup [(default : Rc).av, .bool false]) := by
  have c := Cut_fn t 32 (by omega)
  rw [cut_none h] at c
  refine VFn.introC Tryz.call297 Tryz.func297 rfl rfl ?_
  conv => whnf
  refine CallC.sca _ (c) ?_ ?_
  · exact rfl
  cases hn : numsK 44 5 t with
  | none =>
    conv => whnf
    refine CallC.nl _ (numbers_no t 44 5 (by omega) (by decide) hn) ?_ ?_
    · exact rfl
    exact And.intro trivial (AVle.refl _)
  | some N =>
    conv => whnf
    refine CallC.nl _ (numbers_yes t 44 5 (by omega) (by decide) hn) ?_ ?_
    · exact rfl
    exact And.intro trivial (AVle.refl _)
theorem readRecord_cut (a b : List UInt8) (hl : (a ++ 32 :: b).length ≤ 1000000) (ha : ∀ x ∈ a, x ≠ 32) : (∀ k tok tier f e, numsK 44 5 a = some [k, tok, tier, f, e] → VFn Tryz.prog 297 [.str (B (a ++ 32 :: b))] (.tup [(Rc.mk k tok tier f e b).av, .bool (Rc.ok ⟨k, tok, tier, f, e, b⟩)])) ∧
    (numsK 44 5 a = none → VFn Tryz.prog 297 [.str (B (a ++ 32 :: b))] (.tup [(default : Rc).av, .bool false])) := by
  have c := Cut_fn (a ++ 32 :: b) 32 (by omega)
  rw [cut_at ha] at c
  have hal : a.length ≤ 1000000 := by rw [List.length_append] at hl; omega
  constructor
  · intro k tok tier f e hn
    have ct := RecordOK_fn ⟨k, tok, tier, f, e, b⟩
    refine VFn.introC Tryz.call297 Tryz.func297 rfl rfl ?_
    conv => whnf
    refine CallC.sca _ (c) ?_ ?_
    · exact rfl
    conv => whnf
    refine CallC.nl _ (numbers_yes a 44 5 (by omega) (by decide) hn) ?_ ?_
    · exact rfl
    refine DrawC.mkK 19 [(.inr 17, 18)] rfl (by kernel_rfl) ?_
    refine And.intro rfl ?_
    refine And.intro ⟨by decide, show (0 : Int) < 5 by decide⟩ ?_
    refine And.intro ⟨by decide, show (1 : Int) < 5 by decide⟩ ?_
    refine And.intro ⟨by decide, show (2 : Int) < 5 by decide⟩ ?_
    refine And.intro ⟨by decide, show (3 : Int) < 5 by decide⟩ ?_
    refine And.intro ⟨by decide, show (4 : Int) < 5 by decide⟩ ?_
    refine DrawC.mkK 5 [(.inl 0, 3)] rfl (by kernel_rfl) ?_
    refine And.intro rfl ?_
    conv => whnf
    refine PCallK.sca _ (ct) rfl ?_
    exact And.intro trivial (AVle.refl _)
  · intro hn
    refine VFn.introC Tryz.call297 Tryz.func297 rfl rfl ?_
    conv => whnf
    refine CallC.sca _ (c) ?_ ?_
    · exact rfl
    conv => whnf
    refine CallC.nl _ (numbers_no a 44 5 (by omega) (by decide) hn) ?_ ?_
    · exact rfl
    exact And.intro trivial (AVle.refl _)
theorem readRecord_yes (t : List UInt8) (hl : t.length ≤ 1000000) {r : Rc} (h : readR t = some r) : VFn Tryz.prog 297 [.str (B t)] (.tup [r.av, .bool true]) := by
  rcases first_c 32 t with h1 | ⟨a, b, rfl, ha⟩
  · rw [readR_none h1] at h; cases h
  · obtain ⟨r1, r2⟩ := readR_at (b := b) ha
    obtain ⟨c1, c2⟩ := readRecord_cut a b hl ha
    cases hn : numsK 44 5 a with
    | none => rw [r2 hn] at h; cases h
    | some N =>
      obtain ⟨k, tok, tier, f, e, rfl⟩ := nums5 hn
      rw [r1 _ _ _ _ _ hn] at h
      split at h
      · rename_i hok
        cases h
        have := c1 _ _ _ _ _ hn
        rw [hok] at this; exact this
      · cases h
theorem readRecord_no (t : List UInt8) (hl : t.length ≤ 1000000) (h : readR t = none) : ∃ r : Rc, VFn Tryz.prog 297 [.str (B t)] (.tup [r.av, .bool false]) := by
  rcases first_c 32 t with h1 | ⟨a, b, rfl, ha⟩
  · exact ⟨_, readRecord_none t hl h1⟩
  · obtain ⟨r1, r2⟩ := readR_at (b := b) ha
    obtain ⟨c1, c2⟩ := readRecord_cut a b hl ha
    cases hn : numsK 44 5 a with
    | none => exact ⟨_, c2 hn⟩
    | some N =>
      obtain ⟨k, tok, tier, f, e, rfl⟩ := nums5 hn
      rw [r1 _ _ _ _ _ hn] at h
      split at h
      · cases h
      · rename_i hok
        have := c1 _ _ _ _ _ hn
        rw [show Rc.ok ⟨k, tok, tier, f, e, b⟩ = false by simpa using hok] at this
        exact ⟨_, this⟩
theorem l06Read_gen (t : List UInt8) (hl : t.length ≤ 1000000) (R : AV) (hy : ∀ r, readR t = some r → R = .tup [r.av, .bool true]) (hn : readR t = none → R = .tup [(default : Rc).av, .bool false]) : VFn Tryz.prog 258 [.str (B t)] R := by
  have cc := l00Cut_fn t 32 (by omega)
  have hpl : ∀ x ∈ cutP 32 [] t, x.length ≤ t.length := fun x hx => by have := cutP_piece 32 t [] x hx; simpa using this
  have hR : readR t = readP (cutP 32 [] t) := rfl
  generalize cutP 32 [] t = P at cc hpl hR
  by_cases h2 : P.length = 2
  case neg =>
    have hr : readR t = none := by
      match P, h2 with
      | [], _ => exact hR
      | [_], _ => exact hR
      | [_, _], h => exact absurd rfl h
      | _ :: _ :: _ :: _, _ => exact hR
    rw [hn hr]
    refine VFn.introC Tryz.call258 Tryz.func258 rfl rfl ?_
    conv => whnf
    refine CallC.nl _ (cc) ?_ ?_
    · exact rfl
    refine Grd.intro (fun g => ?_) (fun g => absurd (show ((P.length : Nat) : Int) = 2 by simpa using g) (by omega))
    exact And.intro trivial (AVle.refl _)
  case pos =>
    obtain ⟨a, b, rfl⟩ : ∃ a b, P = [a, b] := by
      match P, h2 with
      | [a, b], _ => exact ⟨a, b, rfl⟩
    have hR : readR t = (match numsK 44 5 a with
      | some [k, tok, tier, f, e] => if Rc.ok ⟨k, tok, tier, f, e, b⟩ = true then some ⟨k, tok, tier, f, e, b⟩ else none
      | _ => none) := hR
    have hal := hpl a (by simp)
    have hbl := hpl b (by simp)
    cases hN : numsK 44 5 a with
    | none =>
      rw [hN] at hR
      rw [hn hR]
      refine VFn.introC Tryz.call258 Tryz.func258 rfl rfl ?_
      conv => whnf
      refine CallC.nl _ (cc) ?_ ?_
      · exact rfl
      refine And.intro ⟨by decide, show (0 : Int) < 2 by decide⟩ ?_
      conv => whnf
      refine CallC.nl _ (l02Numbers_gen a 44 5 (by omega) _ (fun N h => by rw [hN] at h; cases h) (fun h => rfl)) ?_ ?_
      · exact rfl
      exact And.intro trivial (AVle.refl _)
    | some N =>
      obtain ⟨k, tok, tier, f, e, rfl⟩ := nums5 hN
      rw [hN] at hR
      have hR : readR t = if Rc.ok ⟨k, tok, tier, f, e, b⟩ = true then some ⟨k, tok, tier, f, e, b⟩ else none := hR
      have ct := specRecordOK_fn ⟨k, tok, tier, f, e, b⟩ (by show b.length ≤ _; omega)
      by_cases hok : Rc.ok ⟨k, tok, tier, f, e, b⟩ = true
      · rw [if_pos hok] at hR
        rw [hy _ hR]
        rw [hok] at ct
        refine VFn.introC Tryz.call258 Tryz.func258 rfl rfl ?_
        conv => whnf
        refine CallC.nl _ (cc) ?_ ?_
        · exact rfl
        refine And.intro ⟨by decide, show (0 : Int) < 2 by decide⟩ ?_
        conv => whnf
        refine CallC.nl _ (l02Numbers_gen a 44 5 (by omega) _ (fun N h => by rw [hN] at h; cases h; rfl) (fun h => by rw [hN] at h; cases h)) ?_ ?_
        · exact rfl
        refine DrawC.mkK 21 [(.inr 19, 20)] rfl (by kernel_rfl) ?_
        refine And.intro rfl ?_
        refine And.intro ⟨by decide, show (0 : Int) < 5 by decide⟩ ?_
        refine And.intro ⟨by decide, show (1 : Int) < 5 by decide⟩ ?_
        refine And.intro ⟨by decide, show (2 : Int) < 5 by decide⟩ ?_
        refine And.intro ⟨by decide, show (3 : Int) < 5 by decide⟩ ?_
        refine And.intro ⟨by decide, show (4 : Int) < 5 by decide⟩ ?_
        refine And.intro ⟨by decide, show (1 : Int) < 2 by decide⟩ ?_
        conv => whnf
        refine CallC.sca _ (ct) ?_ ?_
        · exact rfl
        exact And.intro trivial (AVle.refl _)
      · have hok : Rc.ok ⟨k, tok, tier, f, e, b⟩ = false := by simpa using hok
        rw [if_neg (by rw [hok]; simp)] at hR
        rw [hn hR]
        rw [hok] at ct
        refine VFn.introC Tryz.call258 Tryz.func258 rfl rfl ?_
        conv => whnf
        refine CallC.nl _ (cc) ?_ ?_
        · exact rfl
        refine And.intro ⟨by decide, show (0 : Int) < 2 by decide⟩ ?_
        conv => whnf
        refine CallC.nl _ (l02Numbers_gen a 44 5 (by omega) _ (fun N h => by rw [hN] at h; cases h; rfl) (fun h => by rw [hN] at h; cases h)) ?_ ?_
        · exact rfl
        refine DrawC.mkK 21 [(.inr 19, 20)] rfl (by kernel_rfl) ?_
        refine And.intro rfl ?_
        refine And.intro ⟨by decide, show (0 : Int) < 5 by decide⟩ ?_
        refine And.intro ⟨by decide, show (1 : Int) < 5 by decide⟩ ?_
        refine And.intro ⟨by decide, show (2 : Int) < 5 by decide⟩ ?_
        refine And.intro ⟨by decide, show (3 : Int) < 5 by decide⟩ ?_
        refine And.intro ⟨by decide, show (4 : Int) < 5 by decide⟩ ?_
        refine And.intro ⟨by decide, show (1 : Int) < 2 by decide⟩ ?_
        conv => whnf
        refine CallC.sca _ (ct) ?_ ?_
        · exact rfl
        exact And.intro trivial (AVle.refl _)
theorem l06Read_yes (t : List UInt8) (hl : t.length ≤ 1000000) {r : Rc} (h : readR t = some r) : VFn Tryz.prog 258 [.str (B t)] (.tup [r.av, .bool true]) := l06Read_gen t hl _ (fun r' h' => by rw [h] at h'; cases h'; rfl) (fun h' => by rw [h] at h'; cases h')
theorem l06Read_no (t : List UInt8) (hl : t.length ≤ 1000000) (h : readR t = none) : VFn Tryz.prog 258 [.str (B t)] (.tup [(default : Rc).av, .bool false]) := l06Read_gen t hl _ (fun r' h' => by rw [h] at h'; cases h') (fun h' => rfl)
end Go.Proofs.YtbphkhlgcneapaaGreatDoor
set_option linter.unusedVariables false
set_option linter.constructorNameAsVariable false
set_option linter.unusedSimpArgs false
set_option maxRecDepth 20000
namespace Go.Proofs.YtbphkhlgcneapaaGreatDoor
open Go Go.Vw

def Sta.orow (s : Sta) (a b : Nat) : List AV := [.int .i64 s.seq, .int .i64 s.fence, .osl a, .osl b, .int .i64 s.l0, .int .i64 s.l1, .int .i64 s.l2, .int .i64 s.h0, .int .i64 s.h1, .int .i64 s.h2]
theorem logN_no {x : Sto} {i : Nat} {st : Sta} (h : logN x i = st) (hr : recAt x ((i : Int) + 1) = none) : logN x (i + 1) = st.tick := by
  show stepL x (logN x i) = _
  unfold stepL
  rw [logN_seq, hr, h]
theorem logN_yes {x : Sto} {i : Nat} {st : Sta} {r : Rc} (h : logN x i = st) (hr : recAt x ((i : Int) + 1) = some r) : logN x (i + 1) = st.app r := by
  show stepL x (logN x i) = _
  unfold stepL
  rw [logN_seq, hr, h]
theorem has_next {x : Sto} {i : Nat} (h : ∀ j, j < i → x.has (manK ((j + 1 : Nat) : Int)) = true) (h' : x.has (manK ((i : Int) + 1)) = true) : ∀ j, j < i + 1 → x.has (manK ((j + 1 : Nat) : Int)) = true := fun j hj => by
  rcases Nat.lt_or_ge j i with h1 | h1
  · exact h j h1
  · have : j = i := by omega
    subst this; exact h'
theorem replay_own (x : Sto) (hs : x.ok = true) (F : Nat) (hF : ∀ (r : Rc) (took : Bool), VFn Tryz.prog F [r.av, .bool took] (.tup [])) :
    FnM Tryz.prog 264 0 [x.av, .fn (.func F) [] []] [] (logS x).own (logS x).objs 2 := by
  have hL := (Sto.ok_at hs).2.1
  refine FnM.introC Tryz.call264 Tryz.func264 rfl rfl ?_
  refine LoopC.nilb 2 2 65 4 (fun _ => []) rfl rfl ?_
  conv => whnf
  refine LoopC.nilb 2 3 226 2 (fun _ => []) rfl rfl ?_
  conv => whnf
  refine LoopC.mk (fun i : Nat => ∀ j, j < i → x.has (manK ((j + 1 : Nat) : Int)) = true) (fun i => [(1, .fn (.func F) [] []), (2, .bptr 0 0), (4, .bptr 1 0), (5, .bptr 2 0)])
    (fun i => [(0, .box x.row), (1, .box sta0.nrow), (2, .box ((logN x i).orow 3 4)), (3, .arr 65 4 (logN x i).es.length fun j => (ix (logN x i).es j).row), (4, .arr 226 2 (logN x i).ts.length fun j => (ix (logN x i).ts j).row)]) 5 (fun i => 1000 - i) 0
    ⟨fun j hj => absurd hj (Nat.not_lt_zero j), [(0, 0), (1, 1), (2, 2), (3, 3), (4, 4)], rfl, rfl, ⟨AVle.refl _, AVle.refl _, AVle.refl _, AVle.refl _, trivial⟩, ⟨MOle.refl _, MOle.refl _, MOle.refl _, MOle.arr rfl fun i hi => absurd hi (Nat.not_lt_zero i), MOle.arr rfl fun i hi => absurd hi (Nat.not_lt_zero i), trivial⟩⟩ ?_
  intro i hi
  have hi3 : i ≤ 300 := by
    rcases Nat.lt_or_ge 300 i with h | h
    · have := log_len (x := x) (n := 301) (by omega) (fun j hj => hi j (by omega)); omega
    · exact h
  obtain ⟨st, hst⟩ : ∃ st, logN x i = st := ⟨_, rfl⟩
  have hseq := logN_seq x i
  have hlen := logN_len x i
  have hlog := logN_log x i
  rw [hst] at hseq hlen hlog ⊢
  refine Grd.intro (fun h2 => ?_) (fun h2 => absurd (of_decide_eq_false h2) (fun h => h (by omega)))
  have cg := get_fn x hs (manK (st.seq + 1))
  by_cases hh : x.has (manK (st.seq + 1)) = true
  · rw [if_pos hh] at cg
    refine DrawC.mk 12 rfl (by kernel_rfl) ?_
    refine And.intro (inI64 (by omega) (by omega)) ?_
    conv => whnf
    refine PCallC.sca _ (six_fn (st.seq + 1) (by simp [within]; omega)) rfl ?_
    conv => whnf
    refine And.intro (show ((4 + (B (six6 (st.seq + 1).toNat)).size : Nat) : Int) ≤ 9223372036854775807 by rw [B_size, six6_len]; decide) ?_
    refine force_to (congrArg AV.str (show B [109, 97, 110, 47] ++ B (six6 (st.seq + 1).toNat) = B (manK (st.seq + 1)) from B_app _ _)) ?_
    conv => whnf
    refine PCallC.sca _ (cg) rfl ?_
    have hd := (get_ok x hs _ hh).1
    have hh' : x.has (manK ((i : Int) + 1)) = true := by rw [← hseq]; exact hh
    cases hr : readR (x.get (manK (st.seq + 1))).data with
    | none =>
      obtain ⟨r, cr⟩ := readRecord_no _ (by omega) hr
      conv => whnf
      refine CallC.sca _ (cr) ?_ ?_
      · exact rfl
      refine And.intro (inI64 (by omega) (by omega)) ?_
      have e := logN_no hst (by unfold recAt; rw [← hseq]; exact hr)
      refine ⟨i + 1, has_next hi hh', by omega, [(0, 0), (1, 1), (2, 2), (3, 3), (4, 4)], rfl, rfl, ⟨AVle.refl _, AVle.refl _, AVle.refl _, AVle.refl _, trivial⟩, ⟨MOle.refl _, MOle.refl _, MOle.of_eq (show MO.box (st.tick.orow 3 4) = _ by rw [e]), MOle.of_eq (show MO.arr 65 4 st.tick.es.length (fun j => (ix st.tick.es j).row) = _ by rw [e]), MOle.of_eq (show MO.arr 226 2 st.tick.ts.length (fun j => (ix st.tick.ts j).row) = _ by rw [e]), trivial⟩⟩
    | some r =>
      have hrk := readR_ok hr
      conv => whnf
      refine CallC.sca _ (readRecord_yes _ (by omega) hr) ?_ ?_
      · exact rfl
      conv => whnf
      refine CallC.m [] (apply_fn st (by omega) (by omega) r hrk) rfl rfl (AVsle.refl _) trivial rfl ⟨fun i hi => rfl, fun i hi => rfl, trivial⟩ rfl ?_
      conv => whnf
      refine CallC.sca _ (hF r (st.takes r)) ?_ ?_
      · exact rfl
      have e := logN_yes hst (by unfold recAt; rw [← hseq]; exact hr)
      refine ⟨i + 1, has_next hi hh', by omega, [(0, 0), (1, 1), (2, 2), (18, 3), (19, 4)], rfl, rfl, ⟨AVle.refl _, AVle.refl _, AVle.refl _, AVle.refl _, trivial⟩, ⟨MOle.refl _, MOle.refl _, MOle.of_eq (show MO.box ((st.app r).orow 3 4) = _ by rw [e]), MOle.of_eq (show MO.arr 65 4 (st.app r).es.length (fun j => (ix (st.app r).es j).row) = _ by rw [e]), MOle.of_eq (show MO.arr 226 2 (st.app r).ts.length (fun j => (ix (st.app r).ts j).row) = _ by rw [e]), trivial⟩⟩
  · have hh : x.has (manK (st.seq + 1)) = false := by simpa using hh
    rw [if_neg (by rw [hh]; simp)] at cg
    have e : logS x = st := by
      have := log_end hs hi3 hi (by rw [hseq] at hh; exact hh)
      unfold logS; rw [← this]; exact hst
    rw [e]
    refine DrawC.mk 12 rfl (by kernel_rfl) ?_
    refine And.intro (inI64 (by omega) (by omega)) ?_
    conv => whnf
    refine PCallC.sca _ (six_fn (st.seq + 1) (by simp [within]; omega)) rfl ?_
    conv => whnf
    refine And.intro (show ((4 + (B (six6 (st.seq + 1).toNat)).size : Nat) : Int) ≤ 9223372036854775807 by rw [B_size, six6_len]; decide) ?_
    refine force_to (congrArg AV.str (show B [109, 97, 110, 47] ++ B (six6 (st.seq + 1).toNat) = B (manK (st.seq + 1)) from B_app _ _)) ?_
    conv => whnf
    refine PCallC.sca _ (cg) rfl ?_
    exact And.intro trivial ⟨[(3, 0), (4, 1)], rfl, AVle.refl _, ⟨MOle.refl _, MOle.refl _, trivial⟩⟩
theorem log1_fn (r : Rc) (took : Bool) : VFn Tryz.prog 265 [r.av, .bool took] (.tup []) := by
  refine VFn.introC Tryz.call265 Tryz.func265 rfl rfl ?_
  exact And.intro trivial (AVle.refl _)
theorem log_own (x : Sto) (hs : x.ok = true) : FnM Tryz.prog 203 0 [x.av] [] (logS x).own (logS x).objs 2 := by
  refine FnM.introC Tryz.call203 Tryz.func203 rfl rfl ?_
  conv => whnf
  refine CallC.k [] (replay_own x hs 265 log1_fn) rfl rfl (AVsle.refl _) trivial rfl ?_
  exact And.intro trivial ⟨[(2, 0), (3, 1)], rfl, AVle.refl _, ⟨MOle.refl _, MOle.refl _, trivial⟩⟩
theorem log_fn (x : Sto) (hs : x.ok = true) : VFn Tryz.prog 203 [x.av] (logS x).av := (log_own x hs).vfn
end Go.Proofs.YtbphkhlgcneapaaGreatDoor
set_option linter.unusedVariables false
set_option linter.constructorNameAsVariable false
set_option linter.unusedSimpArgs false
set_option maxRecDepth 20000
namespace Go.Proofs.YtbphkhlgcneapaaGreatDoor
open Go Go.Vw

theorem l06Empty_fn : VFn Tryz.prog 256 [] sta0.av := by
  refine VFn.introC Tryz.call256 Tryz.func256 rfl rfl ?_
  exact And.intro trivial (AVle.agg (AVsle.cons (AVle.refl _) (AVsle.cons (AVle.refl _) (AVsle.cons (AVle.sl rfl fun i hi => absurd hi (Nat.not_lt_zero i)) (AVsle.cons (AVle.sl rfl fun i hi => absurd hi (Nat.not_lt_zero i)) (AVsle.refl _))))))
theorem l06Key_at (n : Int) (h : 0 ≤ n ∧ n ≤ 999998) : VFn Tryz.prog 257 [.int .i64 (n + 1)] (.str (B (manK (n + 1)))) := l06Key_fn (n + 1) (by simp [within]; omega)
theorem l06Replay_fn (x : Sto) (hs : x.ok = true) : VFn Tryz.prog 197 [x.av] (logS x).av := by
  have hL := (Sto.ok_at hs).2.1
  refine VFn.introC Tryz.call197 Tryz.func197 rfl rfl ?_
  conv => whnf
  refine CallC.nl _ (l06Empty_fn) ?_ ?_
  · exact rfl
  refine LoopC.mk (fun i : Nat => ∀ j, j < i → x.has (manK ((j + 1 : Nat) : Int)) = true) (fun i => [(1, .bptr 0 0), (2, .bptr 1 0), (3, .bptr 2 0)])
    (fun i => [(0, .box x.row), (1, .box sta0.nrow), (2, .box (logN x i).row)]) 3 (fun i => 1000 - i) 0
    ⟨fun j hj => absurd hj (Nat.not_lt_zero j), [(0, 0), (1, 1), (2, 2)], rfl, rfl, ⟨AVle.refl _, AVle.refl _, AVle.refl _, trivial⟩, ⟨MOle.refl _, MOle.refl _, MOle.refl _, trivial⟩⟩ ?_
  intro i hi
  have hi3 : i ≤ 300 := by
    rcases Nat.lt_or_ge 300 i with h | h
    · have := log_len (x := x) (n := 301) (by omega) (fun j hj => hi j (by omega)); omega
    · exact h
  obtain ⟨st, hst⟩ : ∃ st, logN x i = st := ⟨_, rfl⟩
  have hseq := logN_seq x i
  have hlen := logN_len x i
  have hlog := logN_log x i
  rw [hst] at hseq hlen hlog ⊢
  have cg := l01Get_fn x hs (manK (st.seq + 1))
  have ck := l06Key_at st.seq (by omega)
  by_cases hh : x.has (manK (st.seq + 1)) = true
  · rw [if_pos hh] at cg
    have hd := get_ok x hs _ hh
    refine DrawC.mk 11 rfl (by kernel_rfl) ?_
    refine And.intro (inI64 (by omega) (by omega)) ?_
    conv => whnf
    refine PCallC.sca _ (ck) rfl ?_
    conv => whnf
    refine PCallC.sca _ (cg) rfl ?_
    refine Grd.intro (fun h => absurd (of_decide_eq_true (p := (x.get (manK (st.seq + 1))).ver = 0) h) (by omega)) (fun _ => ?_)
    have hh' : x.has (manK ((i : Int) + 1)) = true := by rw [← hseq]; exact hh
    cases hr : readR (x.get (manK (st.seq + 1))).data with
    | none =>
      conv => whnf
      refine CallC.sca _ (l06Read_no _ (by omega) hr) ?_ ?_
      · exact rfl
      refine And.intro (inI64 (by omega) (by omega)) ?_
      have e := logN_no hst (by unfold recAt; rw [← hseq]; exact hr)
      exact ⟨i + 1, has_next hi hh', by omega, [(0, 0), (1, 1), (2, 2)], rfl, rfl, ⟨AVle.refl _, AVle.refl _, AVle.refl _, trivial⟩, ⟨MOle.refl _, MOle.refl _, MOle.of_eq (show MO.box st.tick.row = _ by rw [e]), trivial⟩⟩
    | some r =>
      have hrk := readR_ok hr
      conv => whnf
      refine CallC.sca _ (l06Read_yes _ (by omega) hr) ?_ ?_
      · exact rfl
      conv => whnf
      refine CallC.nl _ (l06Apply_fn st (by omega) (by omega) hlog.nd r hrk) ?_ ?_
      · exact rfl
      have e := logN_yes hst (by unfold recAt; rw [← hseq]; exact hr)
      exact ⟨i + 1, has_next hi hh', by omega, [(0, 0), (1, 1), (2, 2)], rfl, rfl, ⟨AVle.refl _, AVle.refl _, AVle.refl _, trivial⟩, ⟨MOle.refl _, MOle.refl _, MOle.of_eq (show MO.box (st.app r).row = _ by rw [e]), trivial⟩⟩
  · have hh : x.has (manK (st.seq + 1)) = false := by simpa using hh
    rw [if_neg (by rw [hh]; simp)] at cg
    have e : logS x = st := by
      have := log_end hs hi3 hi (by rw [hseq] at hh; exact hh)
      unfold logS; rw [← this]; exact hst
    rw [e]
    refine DrawC.mk 11 rfl (by kernel_rfl) ?_
    refine And.intro (inI64 (by omega) (by omega)) ?_
    conv => whnf
    refine PCallC.sca _ (ck) rfl ?_
    conv => whnf
    refine PCallC.sca _ (cg) rfl ?_
    exact And.intro trivial (AVle.refl _)
def rlC (x : Sto) : Int := if x.ok = true then 0 else 1
def rlS (x : Sto) : Sta := if x.ok = true then logS x else sta0
end Go.Proofs.YtbphkhlgcneapaaGreatDoor
set_option linter.unusedVariables false
set_option linter.constructorNameAsVariable false
set_option linter.unusedSimpArgs false
set_option maxRecDepth 20000
namespace Go.Proofs.YtbphkhlgcneapaaGreatDoor
open Go Go.Vw

theorem IndexOb_1 (L : List Ob) (hL : L.length ≤ 9223372036854775807) (F : Nat) (row : List AV) (p : Ob → Bool) (hp : ∀ e ∈ L, VFn Tryz.prog F [e.av, .eptr row 0] (.bool (p e))) :
    VFn Tryz.prog 301 [obs L, .fn (.func F) [] [.eptr row 0]] (.int .i64 (fi p L)) := by
  refine VFn.introC Tryz.call301 Tryz.func301 rfl rfl ?_
  refine LoopC.mk (fun i : Nat => i ≤ L.length ∧ ∀ j, j < i → p (ix L j) = false) (fun i => [(0, obs L), (1, .fn (.func F) [] [.eptr row 0]), (7, .int .i64 L.length), (8, .int .i64 i)]) (fun _ => []) 0 (fun i => L.length - i) 0
    ⟨⟨Nat.zero_le _, fun j hj => absurd hj (Nat.not_lt_zero j)⟩, [], rfl, rfl, ⟨AVle.refl _, AVle.refl _, AVle.refl _, AVle.refl _, trivial⟩, trivial⟩ ?_
  intro i hi
  refine Grd.intro (fun h2 => ?_) (fun h2 => ?_)
  · have hin : i < L.length := by have := of_decide_eq_true h2; omega
    refine And.intro (by omega) ?_
    conv => whnf
    refine CallC.sca _ (hp (ix L i) (getD_mem hin)) ?_ ?_
    · exact rfl
    refine Grd.intro (fun h3 => ?_) (fun h3 => ?_)
    · exact And.intro trivial (AVle.of_eq (congrArg (AV.int .i64) (fi_at hin hi.2 h3).symm))
    · refine And.intro (inI64 (by omega) (by omega)) ?_
      exact ⟨i + 1, ⟨hin, fun j hj => by
        rcases Nat.lt_or_ge j i with h' | h'
        · exact hi.2 j h'
        · rw [show j = i by omega]; exact h3⟩, by omega, [], rfl, rfl, ⟨AVle.refl _, AVle.refl _, AVle.refl _, AVle.of_eq (congrArg (AV.int .i64) (by simp)), trivial⟩, trivial⟩
  · have : i = L.length := by have := of_decide_eq_false h2; omega
    subst this
    exact And.intro trivial (AVle.of_eq (congrArg (AV.int .i64) (fi_none hi.2).symm))
theorem DelOb_some (L : List Ob) (hL : L.length ≤ 1000000) (F : Nat) (row : List AV) (p : Ob → Bool) (hp : ∀ e ∈ L, VFn Tryz.prog F [e.av, .eptr row 0] (.bool (p e))) (hs : L.any p = true) :
    FnM Tryz.prog 271 1 [.osl 0, .fn (.func F) [] [.eptr row 0]] [(0, .arr 155 3 L.length fun i => (ix L i).row)] (.osl 1) [(1, .arr 155 3 (L.filter fun e => !p e).length fun i => (ix (L.filter fun e => !p e) i).row)] 2 := by
  have c := IndexOb_1 L (by omega) F row p hp
  obtain ⟨i0, hi0, hfi, hp0⟩ : ∃ i0 : Nat, i0 < L.length ∧ fi p L = (i0 : Int) ∧ p (ix L i0) = true ∧ ∀ j, j < i0 → p (ix L j) = false := by
    rcases fi_first p L with ⟨h, _⟩ | h
    · have := fi_any (p := p) (L := L)
      rw [h, hs] at this; simp at this
    · exact h
  rw [hfi] at c
  have hk0 : (L.take (i0 + 1)).filter (fun e => !p e) = L.take i0 := by
    rw [filter_snoc hi0, if_neg (by rw [hp0.1]; simp)]
    exact List.filter_eq_self.2 fun x hx => by
      obtain ⟨j, hj, rfl⟩ := List.getElem_of_mem hx
      have hj' : j < i0 := by simp at hj; omega
      have := hp0.2 j hj'
      rw [ix_lt (by omega)] at this
      simp [this]
  have hlt : ∀ j, i0 < j → j ≤ L.length → ((L.take j).filter fun e => !p e).length < j := fun j h1 h2 => filter_lt h1 h2 (by rw [hp0.1]; rfl)
  refine FnM.introC Tryz.call271 Tryz.func271 rfl rfl ?_
  conv => whnf
  refine CallC.sca _ (c) ?_ ?_
  · exact rfl
  refine And.intro (inI64 (by omega) (by omega)) ?_
  refine LoopC.mk (fun j : Nat => i0 < j ∧ j ≤ L.length) (fun j => [(0, .osl 0), (1, .fn (.func F) [] [.eptr row 0]), (5, .int .i64 ((L.take j).filter fun e => !p e).length), (6, .int .i64 j)])
    (fun j => [(0, .arr 155 3 L.length fun i => (ix (kept p L j) i).row)]) 1 (fun j => L.length - j) (i0 + 1)
    ⟨⟨by omega, hi0⟩, [(0, 0)], rfl, rfl, ⟨AVle.refl _, AVle.refl _, AVle.of_eq (congrArg (AV.int .i64) (by rw [hk0]; simp; omega)), AVle.of_eq (congrArg (AV.int .i64) (by simp)), trivial⟩, ⟨MOle.arr rfl fun i hi => by
      have e : kept p L (i0 + 1) = L := by unfold kept; rw [hk0]; simp only [List.length_take]; rw [Nat.min_eq_left (by omega)]; simp
      rw [e], trivial⟩⟩ ?_
  intro j hj
  obtain ⟨hj1, hj2⟩ := hj
  have hkl := hlt j hj1 hj2
  refine Grd.intro (fun h2 => ?_) (fun h2 => ?_)
  · have hjn : j < L.length := by have := of_decide_eq_true h2; omega
    have hsn := filter_snoc (p := fun e => !p e) hjn
    have e := kept_at (p := p) hjn (Nat.le_of_lt hkl)
    have cp := hp (ix L j) (getD_mem hjn)
    rw [← e] at cp
    refine And.intro (by omega) ?_
    conv => whnf
    refine CallC.sca _ (cp) ?_ ?_
    · exact rfl
    refine Grd.intro (fun h3 => ?_) (fun h3 => ?_)
    · have h3 : p (ix L j) = false := by rw [e] at h3; simpa using h3
      rw [h3] at hsn
      have hl := hlt (j + 1) (by omega) hjn
      rw [hsn] at hl
      simp at hl
      refine And.intro (by omega) ?_
      refine And.intro (inI64 (by omega) (by omega)) ?_
      refine And.intro (inI64 (by omega) (by omega)) ?_
      refine ⟨j + 1, ⟨by omega, hjn⟩, by omega, [(0, 0)], rfl, rfl, ⟨AVle.refl _, AVle.refl _, AVle.of_eq (congrArg (AV.int .i64) (by rw [hsn]; simp)), AVle.of_eq (congrArg (AV.int .i64) (by simp)), trivial⟩, ⟨MOle.arr rfl fun k hk => ?_, trivial⟩⟩
      have en := kept_next hjn h3 hkl k hk
      by_cases hkc : k = ((L.take j).filter fun e => !p e).length
      · rw [en, if_pos hkc, ← e]
        show (bif Nat.beq k ((L.take j).filter fun e => !p e).length then _ else _) = _
        rw [hkc, beq_t]; rfl
      · rw [en, if_neg hkc]
        show (bif Nat.beq k ((L.take j).filter fun e => !p e).length then _ else _) = _
        rw [beq_f hkc]; rfl
    · have h3 : p (ix L j) = true := by rw [e] at h3; simpa using h3
      rw [h3] at hsn
      refine And.intro (inI64 (by omega) (by omega)) ?_
      refine ⟨j + 1, ⟨by omega, hjn⟩, by omega, [(0, 0)], rfl, rfl, ⟨AVle.refl _, AVle.refl _, AVle.of_eq (congrArg (AV.int .i64) (by rw [hsn]; simp)), AVle.of_eq (congrArg (AV.int .i64) (by simp)), trivial⟩, ⟨MOle.arr rfl fun k hk => ?_, trivial⟩⟩
      have e2 : kept p L (j + 1) = kept p L j := by unfold kept; rw [hsn]; simp
      rw [e2]
  · have : j = L.length := by have := of_decide_eq_false h2; omega
    subst this
    have eT : L.take L.length = L := List.take_of_length_le (Nat.le_refl _)
    obtain ⟨c, hc⟩ : ∃ c, c = ((L.take L.length).filter fun e => !p e).length := ⟨_, rfl⟩
    have hk : ∀ k, k < c → ix (kept p L L.length) k = ix (L.filter fun e => !p e) k := fun k hk => by
      unfold kept
      rw [ix_app_l (by omega), eT]
    have hcl : c = (L.filter fun e => !p e).length := by rw [hc, eT]
    rw [← hc] at hkl
    rw [← hc]
    refine And.intro ⟨by omega, by omega⟩ ?_
    conv => whnf
    refine OpC.clear rfl rfl rfl rfl rfl rfl rfl (by show 1 ≤ L.length - ((c : Int)).toNat; omega) ?_
    conv => whnf
    refine OpC.head rfl rfl rfl rfl rfl rfl rfl ⟨by omega, by omega⟩ ?_
    refine And.intro trivial ⟨[(0, 0), (1, 1)], rfl, AVle.refl _, ⟨MOle.arr (by show ((c : Int)).toNat = _; omega) fun k hk' => ?_, trivial⟩⟩
    have hk' : k < c := by have : k < ((c : Int)).toNat := hk'; omega
    rw [← hk k hk']
    show (bif Nat.blt k ((c : Int)).toNat then _ else _) = _
    rw [blt_t (show k < ((c : Int)).toNat by omega)]; rfl
theorem has_of_mem {x : Sto} (hs : x.ok = true) {k : List UInt8} (h : k ∈ x.os.map (·.key)) : x.has k = true := by
  obtain ⟨o, ho, rfl⟩ := List.mem_map.1 h
  have h1 := Srt.fi (Sto.srt hs) o.key
  have h2 := fi_any (p := fun q : Ob => decide (q.key = o.key)) (L := x.os)
  rw [List.any_eq_true.2 ⟨o, ho, decide_eq_true rfl⟩, h1] at h2
  cases hh : hasK o.key x.os with
  | true => exact hh
  | false => rw [hh] at h2; simp at h2
theorem without1_fn (o : Ob) (k : List UInt8) : VFn Tryz.prog 272 [o.av, .eptr [.str (B k)] 0] (.bool (decide (o.key = k))) := by
  refine VFn.introC Tryz.call272 Tryz.func272 rfl rfl ?_
  exact And.intro trivial (AVle.of_eq (congrArg AV.bool (show ((B o.key).toList == (B k).toList) = _ from B_eq)))
theorem without_own (x : Sto) (hs : x.ok = true) (k : List UInt8) (hk : x.has k = true) : FnM Tryz.prog 206 0 [x.av, .str (B k)] [] (wo x k).own [(0, .arr 155 3 (wo x k).os.length fun i => (ix (wo x k).os i).row)] 1 := by
  have hL := (Sto.ok_at hs).2.1
  have hany : x.os.any (fun o => decide (o.key = k)) = true := by
    obtain ⟨h1, h2⟩ := hasK_at hk
    exact List.any_eq_true.2 ⟨_, getD_mem h1, decide_eq_true h2⟩
  have hd := DelOb_some x.os (by omega) 272 [.str (B k)] (fun o => decide (o.key = k)) (fun o _ => without1_fn o k) hany
  refine FnM.introC Tryz.call206 Tryz.func206 rfl rfl ?_
  conv => whnf
  refine CallC.k [] (copied_own x (by omega)) rfl rfl (AVsle.refl _) trivial rfl ?_
  conv => whnf
  refine CallC.m [(3, 0)] hd rfl rfl (AVsle.refl _) ⟨MOle.refl _, trivial⟩ rfl ⟨fun i hi => rfl, trivial⟩ rfl ?_
  exact And.intro trivial ⟨[(5, 0)], rfl, AVle.refl _, ⟨MOle.refl _, trivial⟩⟩
theorem without_fn (x : Sto) (hs : x.ok = true) (k : List UInt8) (hk : x.has k = true) : VFn Tryz.prog 206 [x.av, .str (B k)] (wo x k).av := (without_own x hs k hk).vfn
theorem cut_rows' {α : Type} [Inhabited α] {f : α → List AV} {L : List α} {i q : Nat} (hi : i < L.length) (hq : q = i + 1) {M : List α} (hM : L.take i ++ L.drop (i + 1) = M) {r0 : Nat → List AV} {n1 : Nat} (hn : n1 = i) :
    ∀ j, j < M.length → appRows n1 (appRows 0 r0 fun j => f (ix L j)) (fun j => f (ix L (q + j))) j = f (ix M j) := by
  subst hM hq hn
  refine app_rows (f := f) (by simp; omega) (fun j hj => ?_) fun j hj => ?_
  · rw [appRows_ge (Nat.zero_le _), Nat.sub_zero, ix_take (by simp at hj; omega)]
  · rw [ix_drop]
theorem l01Delete_fn (x : Sto) (hs : x.ok = true) (k : List UInt8) (hk : x.has k = true) : VFn Tryz.prog 199 [x.av, .str (B k), .int .i64 (x.get k).ver] (.tup [(wo x k).av, .int .i64 0]) := by
  have hL := (Sto.ok_at hs).2.1
  have c := l01Find_fn x (by omega) k
  rw [Srt.fi (Sto.srt hs) k, if_pos (show hasK k x.os = true from hk)] at c
  obtain ⟨h1, h2⟩ := hasK_at hk
  have hcut := wo_cut hs hk
  have hlen : (wo x k).os.length = lb k x.os + (x.os.length - (lb k x.os + 1)) := by rw [← hcut]; unfold Sto.pos; simp; omega
  refine VFn.introC Tryz.call199 Tryz.func199 rfl rfl ?_
  conv => whnf
  refine CallC.sca _ (c) ?_ ?_
  · exact rfl
  refine And.intro ⟨by omega, by omega⟩ ?_
  refine Grd.intro (fun h => (wyes' h (decide_eq_true rfl)).elim) (fun _ => ?_)
  refine DrawC.mkK 11 [(.inr 0, 5)] rfl (by kernel_rfl) ?_
  refine And.intro rfl ?_
  conv => whnf
  refine And.intro ⟨by omega, by omega⟩ ?_
  conv => whnf
  refine And.intro ⟨show (0 + ((lb k x.os : Nat) : Int).toNat) * 40 ≤ 140737488355328 by omega, fun i hi => rfl⟩ ?_
  conv => whnf
  refine And.intro (inI64 (by omega) (by omega)) ?_
  conv => whnf
  refine And.intro ⟨by omega, by omega⟩ ?_
  conv => whnf
  refine And.intro ⟨show (0 + ((lb k x.os : Nat) : Int).toNat + (x.os.length - (((lb k x.os : Nat) : Int) + 1).toNat)) * 40 ≤ 140737488355328 by omega, fun i hi => rfl⟩ ?_
  refine And.intro trivial (AVle.tup (AVsle.cons (AVle.agg (AVsle.cons (AVle.sl (show 0 + ((lb k x.os : Nat) : Int).toNat + (x.os.length - (((lb k x.os : Nat) : Int) + 1).toNat) = _ by omega) fun j hj => cut_rows' (f := Ob.row) h1 (show (((lb k x.os : Nat) : Int) + 1).toNat = lb k x.os + 1 by omega) hcut (show 0 + ((lb k x.os : Nat) : Int).toNat = lb k x.os by omega) j (by have hj' : j < 0 + ((lb k x.os : Nat) : Int).toNat + (x.os.length - (((lb k x.os : Nat) : Int) + 1).toNat) := hj; omega)) (AVsle.refl _))) (AVsle.refl _)))
end Go.Proofs.YtbphkhlgcneapaaGreatDoor
