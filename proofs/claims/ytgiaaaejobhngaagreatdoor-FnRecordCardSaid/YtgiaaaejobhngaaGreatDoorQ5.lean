/- Contracts of functions that the claim reaches, and the plain law of what they compute; each theorem bears its own conditions. -/
import Derived.Test.YtgiaaaejobhngaaGreatDoorQ2
import Derived.Test.YtgiaaaejobhngaaGreatDoorQ4
import Derived.Test.YtgiaaaejobhngaaGreatDoorV46
import Derived.Test.YtgiaaaejobhngaaGreatDoorQ3
import Derived.Test.YtgiaaaejobhngaaGreatDoorQ1
import Derived.WalkSmall
set_option linter.unusedVariables false
set_option linter.constructorNameAsVariable false
set_option linter.unusedSimpArgs false
set_option maxRecDepth 20000
namespace Go.Proofs.YtgiaaaejobhngaaGreatDoor
open Go Go.Vw

theorem nbOk_no {neg : Bool} {b : List UInt8} (h : 18 < b.length ∨ (b.headD 0 = 48 ∧ (1 < b.length ∨ neg = true)) ∨ b.all dig = false) : nbOk neg b = false := by
  cases hb : nbOk neg b
  · rfl
  · obtain ⟨_, h2, h3, h4⟩ := nbOk_iff.1 hb
    rcases h with h | ⟨h, h'⟩ | h
    · omega
    · obtain ⟨h5, h6⟩ := h3 h
      rcases h' with h' | h'
      · exact absurd h' h5
      · rw [h6] at h'; cases h'
    · rw [h4] at h; cases h
theorem l00Neg_fn (b : List UInt8) (hl : b.length ≤ 1000000000) (hb0 : b ≠ []) (R : AV) (hy : numOk (45 :: b) = true → R = .tup [.int .i64 (-(numB 0 b : Int)), .bool true]) (hn : numOk (45 :: b) = false → R = .tup [.int .i64 0, .bool false]) : VFn Tryz.prog 250 [.str (B (45 :: b))] R := by
  have hk := numOk_neg b
  have hsz : ((B (45 :: b)).size : Int) = b.length + 1 := by rw [B_size]; rfl
  refine VFn.introC Tryz.call250 Tryz.func250 rfl rfl ?_
  refine Grd.intro (fun g1 => ?_) (fun g1 => absurd (of_decide_eq_false g1) (by omega))
  refine And.intro ⟨by omega, by omega⟩ ?_
  refine And.intro ⟨by omega, by omega⟩ ?_
  refine force_to (congrArg AV.str (show (B (45 :: b)).extract (Int.toNat 1) (B (45 :: b)).size = B b by rw [B_extract, B_size]; simp)) ?_
  have hno : nbOk true b = false → numOk (45 :: b) = false := fun h => hk.1.trans h
  refine Grd.intro (fun h1 => ?_) (fun h1 => ?_)
  · have hb0' : b = [] := by have h : (((B b).size : Nat) : Int) = 0 := of_decide_eq_true h1; rw [B_size] at h; exact List.length_eq_zero_iff.1 (by omega)
    exact absurd hb0' hb0
  have hb1 : 1 ≤ b.length := by cases hbb : b with | nil => exact absurd hbb hb0 | cons _ _ => simp
  refine Grd.intro (fun h2 => ?_) (fun h2 => ?_)
  · have hb2 : 18 < b.length := by have h : (18 : Int) < (((B b).size : Nat) : Int) := of_decide_eq_true h2; rw [B_size] at h; omega
    rw [hn (hno (nbOk_no (.inl hb2)))]
    exact And.intro trivial (AVle.refl _)
  have hb2 : b.length ≤ 18 := by have h : ¬ (18 : Int) < (((B b).size : Nat) : Int) := of_decide_eq_false h2; rw [B_size] at h; omega
  refine And.intro ⟨by omega, by rw [B_size]; omega⟩ ?_
  have hix : (B b).data.toList.getD (Int.toNat 0) 0 = b.headD 0 := by rw [B_data]; cases b <;> rfl
  refine Grd.intro (fun h3 => ?_) (fun h3 => ?_)
  · have h3 : b.headD 0 = 48 := hix.symm.trans (UInt8.toNat_inj.1 (by have h : (((B b).data.toList.getD (Int.toNat 0) 0).toNat : Int) = 48 := of_decide_eq_true h3; exact Int.ofNat.inj h))
    refine Grd.intro (fun h4 => ?_) (fun h4 => ?_)
    · have h4 : 1 < b.length := by have h : (1 : Int) < (((B b).size : Nat) : Int) := of_decide_eq_true h4; rw [B_size] at h; omega
      rw [hn (hno (nbOk_no (.inr (.inl ⟨h3, .inl h4⟩))))]
      exact And.intro trivial (AVle.refl _)
    have h4 : ¬ 1 < b.length := by have h : ¬ (1 : Int) < (((B b).size : Nat) : Int) := of_decide_eq_false h4; rw [B_size] at h; omega
    rw [hn (hno (nbOk_no (.inr (.inl ⟨h3, .inr rfl⟩))))]
    exact And.intro trivial (AVle.refl _)
  · have h3 : b.headD 0 ≠ 48 := fun e => (of_decide_eq_false (p := ((((B b).data.toList.getD (Int.toNat 0) 0).toNat : Nat) : Int) = 48) h3) (by rw [hix, e]; rfl)
    have hgood : b.all dig = true → R = .tup [.int .i64 ((-1) * (numB 0 b : Int)), .bool true] := fun h => (hy (hk.1.trans (nbOk_iff.2 ⟨hb0, hb2, (fun e => absurd e h3), h⟩))).trans (congrArg (fun z => AV.tup [AV.int .i64 z, AV.bool true]) (by omega))
    refine LoopC.mk (fun i : Nat => i ≤ b.length ∧ (b.take i).all dig = true ∧ numB 0 (b.take i) < 10 ^ i) (fun i => [(0, .str (B b)), (4, .int .i64 (-1)), (5, .int .i64 (numB 0 (b.take i))), (6, .int .i64 i)]) (fun _ => []) 0 (fun i => b.length - i) 0
      ⟨⟨by omega, rfl, Nat.one_pos⟩, [], rfl, rfl, ⟨AVle.refl _, AVle.refl _, AVle.refl _, AVle.refl _, trivial⟩, trivial⟩ ?_
    intro i hi
    obtain ⟨hi1, hi2, hi3⟩ := hi
    refine Grd.intro (fun h5 => ?_) (fun h5 => ?_)
    · have hin : i < b.length := by have h : (i : Int) < (((B b).size : Nat) : Int) := of_decide_eq_true h5; rw [B_size] at h; omega
      have hp := pow_le18 (i := i) (by omega)
      have bad : dig (ix b i) = false → R = .tup [.int .i64 0, .bool false] := fun h => hn (hno (nbOk_no (.inr (.inr (by
        rw [← Bool.not_eq_true]
        intro h'
        rw [List.all_eq_true.1 h' _ (getD_mem hin)] at h; cases h)))))
      refine And.intro ⟨by omega, by rw [B_size]; omega⟩ ?_
      refine Grd.intro (fun h6 => ?_) (fun h6 => ?_)
      · have h6 : ((ix b i).toNat : Int) < 48 := of_decide_eq_true h6
        rw [bad (decide_eq_false (by omega))]
        exact And.intro trivial (AVle.refl _)
      have h6 : ¬ ((ix b i).toNat : Int) < 48 := of_decide_eq_false h6
      refine And.intro ⟨by omega, by rw [B_size]; omega⟩ ?_
      refine Grd.intro (fun h7 => ?_) (fun h7 => ?_)
      · have h7 : (57 : Int) < ((ix b i).toNat : Int) := of_decide_eq_true h7
        rw [bad (decide_eq_false (by omega))]
        exact And.intro trivial (AVle.refl _)
      have h7 : ¬ (57 : Int) < ((ix b i).toNat : Int) := of_decide_eq_false h7
      have hd : dig (ix b i) = true := decide_eq_true (by omega)
      have hnt := numB_take hin
      refine And.intro (inI64 (by omega) (by omega)) ?_
      refine And.intro ⟨by omega, by rw [B_size]; omega⟩ ?_
      refine And.intro (show inI .i64 ((ix b i).toNat : Int) from inI64 (by omega) (by omega)) ?_
      refine And.intro (show inI .i64 ((numB 0 (b.take i) : Int) * 10 + ((ix b i).toNat : Int)) from inI64 (by omega) (by omega)) ?_
      refine And.intro (show inI .i64 ((numB 0 (b.take i) : Int) * 10 + ((ix b i).toNat : Int) - 48) from inI64 (by omega) (by omega)) ?_
      refine And.intro (inI64 (by omega) (by omega)) ?_
      refine ⟨i + 1, ⟨hin, ?_, ?_⟩, by omega, [], rfl, rfl, ⟨AVle.refl _, AVle.refl _, AVle.of_eq (congrArg (AV.int .i64) (show (numB 0 (b.take i) : Int) * 10 + ((ix b i).toNat : Int) - 48 = _ by rw [hnt]; omega)), AVle.of_eq (congrArg (AV.int .i64) (by simp)), trivial⟩, trivial⟩
      · rw [take_snoc hin, List.all_append, hi2]; simp [hd]
      · rw [hnt, Nat.pow_succ]; omega
    · have : i = b.length := by have h : ¬ (i : Int) < (((B b).size : Nat) : Int) := of_decide_eq_false h5; rw [B_size] at h; omega
      subst this
      rw [List.take_of_length_le (Nat.le_refl _)] at hi2
      have hN := numB_18 hi2 hb2
      have e : b.take b.length = b := List.take_of_length_le (Nat.le_refl _)
      refine And.intro (show inI .i64 ((-1) * (numB 0 (b.take b.length) : Int)) from inI64 (by rw [e]; omega) (by rw [e]; omega)) ?_
      rw [hgood hi2]
      exact And.intro trivial (AVle.of_eq (congrArg (fun z => AV.tup [AV.int .i64 z, AV.bool true]) (show (-1) * (numB 0 (b.take b.length) : Int) = _ by rw [e])))
theorem l00Pos_fn (b : List UInt8) (hl : b.length ≤ 1000000000) (hb0 : b ≠ []) (hh : b.headD 0 ≠ 45) (R : AV) (hy : numOk b = true → R = .tup [.int .i64 (numB 0 b : Int), .bool true]) (hn : numOk b = false → R = .tup [.int .i64 0, .bool false]) : VFn Tryz.prog 250 [.str (B b)] R := by
  have hk := numOk_pos hh
  have hlen : 1 ≤ b.length := by cases hbb : b with | nil => exact absurd hbb hb0 | cons _ _ => simp
  refine VFn.introC Tryz.call250 Tryz.func250 rfl rfl ?_
  refine Grd.intro (fun g1 => ?_) (fun g1 => absurd (of_decide_eq_false (p := (0 : Int) < (((B b).size : Nat) : Int)) g1) (fun h => h (by rw [B_size]; omega)))
  refine And.intro ⟨by omega, by rw [B_size]; omega⟩ ?_
  have hix : (B b).data.toList.getD (Int.toNat 0) 0 = b.headD 0 := by rw [B_data]; cases b <;> rfl
  refine Grd.intro (fun g2 => absurd (hix.symm.trans (UInt8.toNat_inj.1 (by have h : (((B b).data.toList.getD (Int.toNat 0) 0).toNat : Int) = 45 := of_decide_eq_true g2; exact Int.ofNat.inj h))) hh) (fun g2 => ?_)
  have hno : nbOk false b = false → numOk b = false := fun h => hk.1.trans h
  refine Grd.intro (fun h1 => ?_) (fun h1 => ?_)
  · have hb0' : b = [] := by have h : (((B b).size : Nat) : Int) = 0 := of_decide_eq_true h1; rw [B_size] at h; exact List.length_eq_zero_iff.1 (by omega)
    exact absurd hb0' hb0
  have hb1 : 1 ≤ b.length := by cases hbb : b with | nil => exact absurd hbb hb0 | cons _ _ => simp
  refine Grd.intro (fun h2 => ?_) (fun h2 => ?_)
  · have hb2 : 18 < b.length := by have h : (18 : Int) < (((B b).size : Nat) : Int) := of_decide_eq_true h2; rw [B_size] at h; omega
    rw [hn (hno (nbOk_no (.inl hb2)))]
    exact And.intro trivial (AVle.refl _)
  have hb2 : b.length ≤ 18 := by have h : ¬ (18 : Int) < (((B b).size : Nat) : Int) := of_decide_eq_false h2; rw [B_size] at h; omega
  refine And.intro ⟨by omega, by rw [B_size]; omega⟩ ?_
  have hix : (B b).data.toList.getD (Int.toNat 0) 0 = b.headD 0 := by rw [B_data]; cases b <;> rfl
  refine Grd.intro (fun h3 => ?_) (fun h3 => ?_)
  · have h3 : b.headD 0 = 48 := hix.symm.trans (UInt8.toNat_inj.1 (by have h : (((B b).data.toList.getD (Int.toNat 0) 0).toNat : Int) = 48 := of_decide_eq_true h3; exact Int.ofNat.inj h))
    refine Grd.intro (fun h4 => ?_) (fun h4 => ?_)
    · have h4 : 1 < b.length := by have h : (1 : Int) < (((B b).size : Nat) : Int) := of_decide_eq_true h4; rw [B_size] at h; omega
      rw [hn (hno (nbOk_no (.inr (.inl ⟨h3, .inl h4⟩))))]
      exact And.intro trivial (AVle.refl _)
    have h4 : ¬ 1 < b.length := by have h : ¬ (1 : Int) < (((B b).size : Nat) : Int) := of_decide_eq_false h4; rw [B_size] at h; omega
    have hgood : b.all dig = true → R = .tup [.int .i64 (1 * (numB 0 b : Int)), .bool true] := fun h => (hy (hk.1.trans (nbOk_iff.2 ⟨hb0, hb2, (fun _ => ⟨h4, rfl⟩), h⟩))).trans (congrArg (fun z => AV.tup [AV.int .i64 z, AV.bool true]) (by omega))
    refine LoopC.mk (fun i : Nat => i ≤ b.length ∧ (b.take i).all dig = true ∧ numB 0 (b.take i) < 10 ^ i) (fun i => [(0, .str (B b)), (4, .int .i64 1), (5, .int .i64 (numB 0 (b.take i))), (6, .int .i64 i)]) (fun _ => []) 0 (fun i => b.length - i) 0
      ⟨⟨by omega, rfl, Nat.one_pos⟩, [], rfl, rfl, ⟨AVle.refl _, AVle.refl _, AVle.refl _, AVle.refl _, trivial⟩, trivial⟩ ?_
    intro i hi
    obtain ⟨hi1, hi2, hi3⟩ := hi
    refine Grd.intro (fun h5 => ?_) (fun h5 => ?_)
    · have hin : i < b.length := by have h : (i : Int) < (((B b).size : Nat) : Int) := of_decide_eq_true h5; rw [B_size] at h; omega
      have hp := pow_le18 (i := i) (by omega)
      have bad : dig (ix b i) = false → R = .tup [.int .i64 0, .bool false] := fun h => hn (hno (nbOk_no (.inr (.inr (by
        rw [← Bool.not_eq_true]
        intro h'
        rw [List.all_eq_true.1 h' _ (getD_mem hin)] at h; cases h)))))
      refine And.intro ⟨by omega, by rw [B_size]; omega⟩ ?_
      refine Grd.intro (fun h6 => ?_) (fun h6 => ?_)
      · have h6 : ((ix b i).toNat : Int) < 48 := of_decide_eq_true h6
        rw [bad (decide_eq_false (by omega))]
        exact And.intro trivial (AVle.refl _)
      have h6 : ¬ ((ix b i).toNat : Int) < 48 := of_decide_eq_false h6
      refine And.intro ⟨by omega, by rw [B_size]; omega⟩ ?_
      refine Grd.intro (fun h7 => ?_) (fun h7 => ?_)
      · have h7 : (57 : Int) < ((ix b i).toNat : Int) := of_decide_eq_true h7
        rw [bad (decide_eq_false (by omega))]
        exact And.intro trivial (AVle.refl _)
      have h7 : ¬ (57 : Int) < ((ix b i).toNat : Int) := of_decide_eq_false h7
      have hd : dig (ix b i) = true := decide_eq_true (by omega)
      have hnt := numB_take hin
      refine And.intro (inI64 (by omega) (by omega)) ?_
      refine And.intro ⟨by omega, by rw [B_size]; omega⟩ ?_
      refine And.intro (show inI .i64 ((ix b i).toNat : Int) from inI64 (by omega) (by omega)) ?_
      refine And.intro (show inI .i64 ((numB 0 (b.take i) : Int) * 10 + ((ix b i).toNat : Int)) from inI64 (by omega) (by omega)) ?_
      refine And.intro (show inI .i64 ((numB 0 (b.take i) : Int) * 10 + ((ix b i).toNat : Int) - 48) from inI64 (by omega) (by omega)) ?_
      refine And.intro (inI64 (by omega) (by omega)) ?_
      refine ⟨i + 1, ⟨hin, ?_, ?_⟩, by omega, [], rfl, rfl, ⟨AVle.refl _, AVle.refl _, AVle.of_eq (congrArg (AV.int .i64) (show (numB 0 (b.take i) : Int) * 10 + ((ix b i).toNat : Int) - 48 = _ by rw [hnt]; omega)), AVle.of_eq (congrArg (AV.int .i64) (by simp)), trivial⟩, trivial⟩
      · rw [take_snoc hin, List.all_append, hi2]; simp [hd]
      · rw [hnt, Nat.pow_succ]; omega
    · have : i = b.length := by have h : ¬ (i : Int) < (((B b).size : Nat) : Int) := of_decide_eq_false h5; rw [B_size] at h; omega
      subst this
      rw [List.take_of_length_le (Nat.le_refl _)] at hi2
      have hN := numB_18 hi2 hb2
      have e : b.take b.length = b := List.take_of_length_le (Nat.le_refl _)
      refine And.intro (show inI .i64 (1 * (numB 0 (b.take b.length) : Int)) from inI64 (by rw [e]; omega) (by rw [e]; omega)) ?_
      rw [hgood hi2]
      exact And.intro trivial (AVle.of_eq (congrArg (fun z => AV.tup [AV.int .i64 z, AV.bool true]) (show 1 * (numB 0 (b.take b.length) : Int) = _ by rw [e])))
  · have h3 : b.headD 0 ≠ 48 := fun e => (of_decide_eq_false (p := ((((B b).data.toList.getD (Int.toNat 0) 0).toNat : Nat) : Int) = 48) h3) (by rw [hix, e]; rfl)
    have hgood : b.all dig = true → R = .tup [.int .i64 (1 * (numB 0 b : Int)), .bool true] := fun h => (hy (hk.1.trans (nbOk_iff.2 ⟨hb0, hb2, (fun e => absurd e h3), h⟩))).trans (congrArg (fun z => AV.tup [AV.int .i64 z, AV.bool true]) (by omega))
    refine LoopC.mk (fun i : Nat => i ≤ b.length ∧ (b.take i).all dig = true ∧ numB 0 (b.take i) < 10 ^ i) (fun i => [(0, .str (B b)), (4, .int .i64 1), (5, .int .i64 (numB 0 (b.take i))), (6, .int .i64 i)]) (fun _ => []) 0 (fun i => b.length - i) 0
      ⟨⟨by omega, rfl, Nat.one_pos⟩, [], rfl, rfl, ⟨AVle.refl _, AVle.refl _, AVle.refl _, AVle.refl _, trivial⟩, trivial⟩ ?_
    intro i hi
    obtain ⟨hi1, hi2, hi3⟩ := hi
    refine Grd.intro (fun h5 => ?_) (fun h5 => ?_)
    · have hin : i < b.length := by have h : (i : Int) < (((B b).size : Nat) : Int) := of_decide_eq_true h5; rw [B_size] at h; omega
      have hp := pow_le18 (i := i) (by omega)
      have bad : dig (ix b i) = false → R = .tup [.int .i64 0, .bool false] := fun h => hn (hno (nbOk_no (.inr (.inr (by
        rw [← Bool.not_eq_true]
        intro h'
        rw [List.all_eq_true.1 h' _ (getD_mem hin)] at h; cases h)))))
      refine And.intro ⟨by omega, by rw [B_size]; omega⟩ ?_
      refine Grd.intro (fun h6 => ?_) (fun h6 => ?_)
      · have h6 : ((ix b i).toNat : Int) < 48 := of_decide_eq_true h6
        rw [bad (decide_eq_false (by omega))]
        exact And.intro trivial (AVle.refl _)
      have h6 : ¬ ((ix b i).toNat : Int) < 48 := of_decide_eq_false h6
      refine And.intro ⟨by omega, by rw [B_size]; omega⟩ ?_
      refine Grd.intro (fun h7 => ?_) (fun h7 => ?_)
      · have h7 : (57 : Int) < ((ix b i).toNat : Int) := of_decide_eq_true h7
        rw [bad (decide_eq_false (by omega))]
        exact And.intro trivial (AVle.refl _)
      have h7 : ¬ (57 : Int) < ((ix b i).toNat : Int) := of_decide_eq_false h7
      have hd : dig (ix b i) = true := decide_eq_true (by omega)
      have hnt := numB_take hin
      refine And.intro (inI64 (by omega) (by omega)) ?_
      refine And.intro ⟨by omega, by rw [B_size]; omega⟩ ?_
      refine And.intro (show inI .i64 ((ix b i).toNat : Int) from inI64 (by omega) (by omega)) ?_
      refine And.intro (show inI .i64 ((numB 0 (b.take i) : Int) * 10 + ((ix b i).toNat : Int)) from inI64 (by omega) (by omega)) ?_
      refine And.intro (show inI .i64 ((numB 0 (b.take i) : Int) * 10 + ((ix b i).toNat : Int) - 48) from inI64 (by omega) (by omega)) ?_
      refine And.intro (inI64 (by omega) (by omega)) ?_
      refine ⟨i + 1, ⟨hin, ?_, ?_⟩, by omega, [], rfl, rfl, ⟨AVle.refl _, AVle.refl _, AVle.of_eq (congrArg (AV.int .i64) (show (numB 0 (b.take i) : Int) * 10 + ((ix b i).toNat : Int) - 48 = _ by rw [hnt]; omega)), AVle.of_eq (congrArg (AV.int .i64) (by simp)), trivial⟩, trivial⟩
      · rw [take_snoc hin, List.all_append, hi2]; simp [hd]
      · rw [hnt, Nat.pow_succ]; omega
    · have : i = b.length := by have h : ¬ (i : Int) < (((B b).size : Nat) : Int) := of_decide_eq_false h5; rw [B_size] at h; omega
      subst this
      rw [List.take_of_length_le (Nat.le_refl _)] at hi2
      have hN := numB_18 hi2 hb2
      have e : b.take b.length = b := List.take_of_length_le (Nat.le_refl _)
      refine And.intro (show inI .i64 (1 * (numB 0 (b.take b.length) : Int)) from inI64 (by rw [e]; omega) (by rw [e]; omega)) ?_
      rw [hgood hi2]
      exact And.intro trivial (AVle.of_eq (congrArg (fun z => AV.tup [AV.int .i64 z, AV.bool true]) (show 1 * (numB 0 (b.take b.length) : Int) = _ by rw [e])))
theorem l00Nil_fn : VFn Tryz.prog 250 [.str (B [])] (.tup [.int .i64 0, .bool false]) := by
  refine VFn.introC Tryz.call250 Tryz.func250 rfl rfl ?_
  exact And.intro trivial (AVle.refl _)
theorem l00Min_fn : VFn Tryz.prog 250 [.str (B [45])] (.tup [.int .i64 0, .bool false]) := by
  refine VFn.introC Tryz.call250 Tryz.func250 rfl rfl ?_
  refine And.intro ⟨by decide, by decide⟩ ?_
  refine And.intro ⟨by decide, by decide⟩ ?_
  exact And.intro trivial (AVle.refl _)
theorem l00Number_fn (t : List UInt8) (hl : t.length ≤ 1000000000) : VFn Tryz.prog 250 [.str (B t)] (.tup [.int .i64 (if numOk t = true then atoiV t else 0), .bool (numOk t)]) := by
  cases t with
  | nil => rw [show numOk [] = false by decide]; exact l00Nil_fn
  | cons c b =>
    by_cases hc : c = 45
    · subst hc
      by_cases hb : b = []
      · subst hb; rw [show numOk [45] = false by decide]; exact l00Min_fn
      · exact l00Neg_fn b (by simp at hl; omega) hb _ (fun h => by rw [h, if_pos rfl, (numOk_neg b).2 h]) (fun h => by rw [h, if_neg (by simp)])
    · exact l00Pos_fn (c :: b) hl (by simp) hc _ (fun h => by rw [h, if_pos rfl, (numOk_pos (t := c :: b) hc).2 h]) (fun h => by rw [h, if_neg (by simp)])
end Go.Proofs.YtgiaaaejobhngaaGreatDoor
set_option linter.unusedVariables false
set_option linter.constructorNameAsVariable false
set_option linter.unusedSimpArgs false
set_option maxRecDepth 20000
namespace Go.Proofs.YtgiaaaejobhngaaGreatDoor
open Go Go.Vw

theorem l02Number_fn (t : List UInt8) (hl : t.length ≤ 1000000000) : VFn Tryz.prog 220 [.str (B t)] (.tup [.int .i64 (if numOk t = true then atoiV t else 0), .bool (numOk t)]) := by
  have c := l00Number_fn t hl
  by_cases h : numOk t = true
  · rw [h, if_pos rfl] at c ⊢
    obtain ⟨n, e1, e2, h0, h1⟩ := num_of h
    refine VFn.introC Tryz.call220 Tryz.func220 rfl rfl ?_
    conv => whnf
    refine CallC.sca _ (c) ?_ ?_
    · exact rfl
    conv => whnf
    refine CallC.sca _ (digits_fn (atoiV t) (by omega) (by omega)) ?_ ?_
    · exact rfl
    refine And.intro trivial (AVle.of_eq (show AV.tup [.int .i64 (atoiV t), .bool ((B (Lib.itoa (atoiV t))).toList == (B t).toList)] = _ from ?_))
    rw [B_eq, e2, ← e1, decide_eq_true rfl]
  · have h : numOk t = false := by simpa using h
    rw [h, if_neg (by simp)] at c ⊢
    refine VFn.introC Tryz.call220 Tryz.func220 rfl rfl ?_
    conv => whnf
    refine CallC.sca _ (c) ?_ ?_
    · exact rfl
    exact And.intro trivial (AVle.refl _)
theorem l02Numbers_gen (t : List UInt8) (c : UInt8) (m : Nat) (hl : t.length ≤ 1000000) (R : AV) (hy : ∀ N, numsK c m t = some N → R = .tup [ints N, .bool true]) (hn : numsK c m t = none → R = .tup [.any, .bool false]) :
    VFn Tryz.prog 162 [.str (B t), .int .u8 c.toNat, .int .i64 (m : Int)] R := by
  have hcl := cutP_len c t []
  have hpl : ∀ x ∈ cutP c [] t, x.length ≤ t.length := fun x hx => by have := cutP_piece c t [] x hx; simpa using this
  obtain ⟨P, hP⟩ : ∃ P, P = cutP c [] t := ⟨_, rfl⟩
  have hK : numsK c m t = if P.length = m ∧ P.all numOk = true then some (P.map atoiV) else none := by unfold numsK; rw [← hP]
  have cut := l00Cut_fn t c (by omega)
  rw [← hP] at hcl hpl cut
  refine VFn.introC Tryz.call162 Tryz.func162 rfl rfl ?_
  conv => whnf
  refine CallC.nl _ (cut) ?_ ?_
  · exact rfl
  refine LoopC.mk (fun i : Nat => i ≤ P.length ∧ ∀ j, j < i → numOk (ix P j) = true) (fun i => [(2, .int .i64 (m : Int)), (8, txts P), (9, .osl 0), (10, .int .i64 i)])
    (fun i => [(0, .arr 3 1 ((P.take i).map atoiV).length fun j => [.int .i64 (ix ((P.take i).map atoiV) j)])]) 1 (fun i => P.length - i) 0
    ⟨⟨Nat.zero_le _, fun j hj => absurd hj (Nat.not_lt_zero j)⟩, [(0, 0)], rfl, rfl, ⟨AVle.refl _, AVle.refl _, AVle.refl _, AVle.refl _, trivial⟩, ⟨MOle.arr rfl fun i hi => absurd hi (Nat.not_lt_zero i), trivial⟩⟩ ?_
  intro i hi
  obtain ⟨hi, hall⟩ := hi
  refine Grd.intro (fun h2 => ?_) (fun h2 => ?_)
  · have hin : i < P.length := by have := of_decide_eq_true h2; omega
    refine And.intro (by omega) ?_
    conv => whnf
    refine CallC.sca _ (l02Number_fn (ix P i) (by have := hpl _ (getD_mem hin); omega)) ?_ ?_
    · exact rfl
    refine Grd.intro (fun h3 => ?_) (fun h3 => ?_)
    · have h3 : numOk (ix P i) = false := by simpa using (show (!numOk (ix P i)) = true from h3)
      have : ¬ P.all numOk = true := fun h => by rw [List.all_eq_true.1 h _ (getD_mem hin)] at h3; cases h3
      rw [hn (by rw [hK, if_neg (fun h => this h.2)])]
      exact And.intro trivial (AVle.tup (AVsle.cons (AVle.any _) (AVsle.cons (AVle.refl _) AVsle.nil)))
    have h3 : numOk (ix P i) = true := by simpa using (show (!numOk (ix P i)) = false from h3)
    refine And.intro ⟨show (((P.take i).map atoiV).length + 1) * 8 ≤ 140737488355328 by simp; omega, all1 rfl⟩ ?_
    refine And.intro (inI64 (by omega) (by omega)) ?_
    refine ⟨i + 1, ⟨hin, fun j hj => ?_⟩, by omega, [(2, 0)], rfl, rfl, ⟨AVle.refl _, AVle.refl _, AVle.refl _, AVle.of_eq (congrArg (AV.int .i64) (by simp)), trivial⟩, ⟨arr_next (f := fun x => [.int .i64 x]) (map_take_snoc hin) (by rw [h3, if_pos rfl]; rfl), trivial⟩⟩
    rcases Nat.lt_or_ge j i with h' | h'
    · exact hall j h'
    · rw [show j = i by omega]; exact h3
  · have : i = P.length := by have := of_decide_eq_false h2; omega
    subst this
    have hall' : P.all numOk = true := List.all_eq_true.2 fun x hx => by
      obtain ⟨j, hj, q⟩ := List.getElem_of_mem hx
      have := hall j hj
      rw [ix_lt hj, q] at this; exact this
    have e : P.take P.length = P := List.take_of_length_le (Nat.le_refl _)
    have el : ((((P.take P.length).map atoiV).length : Nat) : Int) = P.length := by rw [e, List.length_map]
    by_cases hm : P.length = m
    · rw [hy _ (by rw [hK, if_pos ⟨hm, hall'⟩])]
      exact And.intro trivial (AVle.tup (AVsle.cons (AVle.of_eq (congrArg ints (congrArg (List.map atoiV) e))) (AVsle.cons (AVle.of_eq (congrArg AV.bool (decide_eq_true (el.trans (by omega))))) AVsle.nil)))
    · rw [hn (by rw [hK, if_neg (fun h => hm h.1)])]
      exact And.intro trivial (AVle.tup (AVsle.cons (AVle.any _) (AVsle.cons (AVle.of_eq (congrArg AV.bool (decide_eq_false (fun h => hm (by have h := el.symm.trans h; omega))))) AVsle.nil)))
end Go.Proofs.YtgiaaaejobhngaaGreatDoor
set_option linter.unusedVariables false
set_option linter.constructorNameAsVariable false
set_option linter.unusedSimpArgs false
set_option maxRecDepth 20000
namespace Go.Proofs.YtgiaaaejobhngaaGreatDoor
open Go Go.Vw

theorem Cut_fn (s : List UInt8) (c : UInt8) (hl : s.length ≤ 1000000000) : VFn Tryz.prog 189 [.str (B s), .str (B [c])] (.tup [.str (B (Lib.cut s [c]).1), .str (B (Lib.cut s [c]).2.1), .bool (Lib.cut s [c]).2.2]) := by
  refine VFn.lib Tryz.call189 fun w ok vs hJ hok hv => ?_
  obtain ⟨v, us, rfl, hv, v2, us2, rfl, hv2, hus⟩ := hv
  have e1 : v = .string (B s) := hv
  have e2 : v2 = .string (B [c]) := hv2
  have e3 : us2 = [] := hus
  subst e1 e2 e3
  obtain ⟨mv, hmv⟩ := tab_maxlen hJ
  refine (Tryz.strings_Cut (B s) (B [c]) mv w (by rw [B_size]; omega) hmv).mono ?_
  rintro e w' ⟨rfl, n, rfl⟩
  refine ⟨_, rfl, ⟨rfl, rfl, rfl, Nat.le_refl _, fun _ _ => rfl⟩, fun _ _ => ⟨[_, _, _], rfl, _, _, rfl, ?_, _, _, rfl, ?_, _, _, rfl, ?_, rfl⟩⟩
  · show Value.string _ = _
    rw [B_data, B_data]; rfl
  · show Value.string _ = _
    rw [B_data, B_data]; rfl
  · show Value.bool _ = _
    rw [B_data, B_data]
theorem cut_none {s : List UInt8} {c : UInt8} (h : ∀ x ∈ s, x ≠ c) : Lib.cut s [c] = (s, [], false) := by
  unfold Lib.cut; rw [index_none c s h]; rfl
theorem cut_at {a b : List UInt8} {c : UInt8} (h : ∀ x ∈ a, x ≠ c) : Lib.cut (a ++ c :: b) [c] = (a, b, true) := by
  unfold Lib.cut; rw [index_at c a b h]
  rw [if_pos (by omega)]
  simp
theorem readRecord_none (t : List UInt8) (hl : t.length ≤ 1000000) (h : ∀ x ∈ t, x ≠ 32) : VFn Tryz.prog 116 [.str (B t)] (.tup [(default : Rc).av, .bool false]) := by
  have c := Cut_fn t 32 (by omega)
  rw [cut_none h] at c
  refine VFn.introC Tryz.call116 Tryz.func116 rfl rfl ?_
  conv => whnf
  refine CallC.sca _ (c) ?_ ?_
  · exact rfl
  cases hn : numsK 44 5 t with
  | none =>
    conv => whnf
    refine CallC.nl _ (numbers_no t 44 5 (by omega) (by decide) hn) ?_ ?_
    · exact rfl
    exact And.intro trivial (AVle.refl _)
  | some N =>
    conv => whnf
    refine CallC.nl _ (numbers_yes t 44 5 (by omega) (by decide) hn) ?_ ?_
    · exact rfl
    exact And.intro trivial (AVle.refl _)
theorem readRecord_cut (a b : List UInt8) (hl : (a ++ 32 :: b).length ≤ 1000000) (ha : ∀ x ∈ a, x ≠ 32) : (∀ k tok tier f e, numsK 44 5 a = some [k, tok, tier, f, e] → VFn Tryz.prog 116 [.str (B (a ++ 32 :: b))] (.tup [(Rc.mk k tok tier f e b).av, .bool (Rc.ok ⟨k, tok, tier, f, e, b⟩)])) ∧
    (numsK 44 5 a = none → VFn Tryz.prog 116 [.str (B (a ++ 32 :: b))] (.tup [(default : Rc).av, .bool false])) := by
  have c := Cut_fn (a ++ 32 :: b) 32 (by omega)
  rw [cut_at ha] at c
  have hal : a.length ≤ 1000000 := by rw [List.length_append] at hl; omega
  constructor
  · intro k tok tier f e hn
    have ct := RecordOK_fn ⟨k, tok, tier, f, e, b⟩
    refine VFn.introC Tryz.call116 Tryz.func116 rfl rfl ?_
    conv => whnf
    refine CallC.sca _ (c) ?_ ?_
    · exact rfl
    conv => whnf
    refine CallC.nl _ (numbers_yes a 44 5 (by omega) (by decide) hn) ?_ ?_
    · exact rfl
    refine DrawC.mkK 19 [(.inr 17, 18)] rfl (by kernel_rfl) ?_
    refine And.intro rfl ?_
    refine And.intro ⟨by decide, show (0 : Int) < 5 by decide⟩ ?_
    refine And.intro ⟨by decide, show (1 : Int) < 5 by decide⟩ ?_
    refine And.intro ⟨by decide, show (2 : Int) < 5 by decide⟩ ?_
    refine And.intro ⟨by decide, show (3 : Int) < 5 by decide⟩ ?_
    refine And.intro ⟨by decide, show (4 : Int) < 5 by decide⟩ ?_
    refine DrawC.mkK 5 [(.inl 0, 3)] rfl (by kernel_rfl) ?_
    refine And.intro rfl ?_
    conv => whnf
    refine PCallK.sca _ (ct) rfl ?_
    exact And.intro trivial (AVle.refl _)
  · intro hn
    refine VFn.introC Tryz.call116 Tryz.func116 rfl rfl ?_
    conv => whnf
    refine CallC.sca _ (c) ?_ ?_
    · exact rfl
    conv => whnf
    refine CallC.nl _ (numbers_no a 44 5 (by omega) (by decide) hn) ?_ ?_
    · exact rfl
    exact And.intro trivial (AVle.refl _)
theorem readRecord_yes (t : List UInt8) (hl : t.length ≤ 1000000) {r : Rc} (h : readR t = some r) : VFn Tryz.prog 116 [.str (B t)] (.tup [r.av, .bool true]) := by
  rcases first_c 32 t with h1 | ⟨a, b, rfl, ha⟩
  · rw [readR_none h1] at h; cases h
  · obtain ⟨r1, r2⟩ := readR_at (b := b) ha
    obtain ⟨c1, c2⟩ := readRecord_cut a b hl ha
    cases hn : numsK 44 5 a with
    | none => rw [r2 hn] at h; cases h
    | some N =>
      obtain ⟨k, tok, tier, f, e, rfl⟩ := nums5 hn
      rw [r1 _ _ _ _ _ hn] at h
      split at h
      · rename_i hok
        cases h
        have := c1 _ _ _ _ _ hn
        rw [hok] at this; exact this
      · cases h
theorem readRecord_no (t : List UInt8) (hl : t.length ≤ 1000000) (h : readR t = none) : ∃ r : Rc, VFn Tryz.prog 116 [.str (B t)] (.tup [r.av, .bool false]) := by
  rcases first_c 32 t with h1 | ⟨a, b, rfl, ha⟩
  · exact ⟨_, readRecord_none t hl h1⟩
  · obtain ⟨r1, r2⟩ := readR_at (b := b) ha
    obtain ⟨c1, c2⟩ := readRecord_cut a b hl ha
    cases hn : numsK 44 5 a with
    | none => exact ⟨_, c2 hn⟩
    | some N =>
      obtain ⟨k, tok, tier, f, e, rfl⟩ := nums5 hn
      rw [r1 _ _ _ _ _ hn] at h
      split at h
      · cases h
      · rename_i hok
        have := c1 _ _ _ _ _ hn
        rw [show Rc.ok ⟨k, tok, tier, f, e, b⟩ = false by simpa using hok] at this
        exact ⟨_, this⟩
theorem l06Read_gen (t : List UInt8) (hl : t.length ≤ 1000000) (R : AV) (hy : ∀ r, readR t = some r → R = .tup [r.av, .bool true]) (hn : readR t = none → R = .tup [(default : Rc).av, .bool false]) : VFn Tryz.prog 86 [.str (B t)] R := by
  have cc := l00Cut_fn t 32 (by omega)
  have hpl : ∀ x ∈ cutP 32 [] t, x.length ≤ t.length := fun x hx => by have := cutP_piece 32 t [] x hx; simpa using this
  have hR : readR t = readP (cutP 32 [] t) := rfl
  generalize cutP 32 [] t = P at cc hpl hR
  by_cases h2 : P.length = 2
  case neg =>
    have hr : readR t = none := by
      match P, h2 with
      | [], _ => exact hR
      | [_], _ => exact hR
      | [_, _], h => exact absurd rfl h
      | _ :: _ :: _ :: _, _ => exact hR
    rw [hn hr]
    refine VFn.introC Tryz.call86 Tryz.func86 rfl rfl ?_
    conv => whnf
    refine CallC.nl _ (cc) ?_ ?_
    · exact rfl
    refine Grd.intro (fun g => ?_) (fun g => absurd (show ((P.length : Nat) : Int) = 2 by simpa using g) (by omega))
    exact And.intro trivial (AVle.refl _)
  case pos =>
    obtain ⟨a, b, rfl⟩ : ∃ a b, P = [a, b] := by
      match P, h2 with
      | [a, b], _ => exact ⟨a, b, rfl⟩
    have hR : readR t = (match numsK 44 5 a with
      | some [k, tok, tier, f, e] => if Rc.ok ⟨k, tok, tier, f, e, b⟩ = true then some ⟨k, tok, tier, f, e, b⟩ else none
      | _ => none) := hR
    have hal := hpl a (by simp)
    have hbl := hpl b (by simp)
    cases hN : numsK 44 5 a with
    | none =>
      rw [hN] at hR
      rw [hn hR]
      refine VFn.introC Tryz.call86 Tryz.func86 rfl rfl ?_
      conv => whnf
      refine CallC.nl _ (cc) ?_ ?_
      · exact rfl
      refine And.intro ⟨by decide, show (0 : Int) < 2 by decide⟩ ?_
      conv => whnf
      refine CallC.nl _ (l02Numbers_gen a 44 5 (by omega) _ (fun N h => by rw [hN] at h; cases h) (fun h => rfl)) ?_ ?_
      · exact rfl
      exact And.intro trivial (AVle.refl _)
    | some N =>
      obtain ⟨k, tok, tier, f, e, rfl⟩ := nums5 hN
      rw [hN] at hR
      have hR : readR t = if Rc.ok ⟨k, tok, tier, f, e, b⟩ = true then some ⟨k, tok, tier, f, e, b⟩ else none := hR
      have ct := specRecordOK_fn ⟨k, tok, tier, f, e, b⟩ (by show b.length ≤ _; omega)
      by_cases hok : Rc.ok ⟨k, tok, tier, f, e, b⟩ = true
      · rw [if_pos hok] at hR
        rw [hy _ hR]
        rw [hok] at ct
        refine VFn.introC Tryz.call86 Tryz.func86 rfl rfl ?_
        conv => whnf
        refine CallC.nl _ (cc) ?_ ?_
        · exact rfl
        refine And.intro ⟨by decide, show (0 : Int) < 2 by decide⟩ ?_
        conv => whnf
        refine CallC.nl _ (l02Numbers_gen a 44 5 (by omega) _ (fun N h => by rw [hN] at h; cases h; rfl) (fun h => by rw [hN] at h; cases h)) ?_ ?_
        · exact rfl
        refine DrawC.mkK 21 [(.inr 19, 20)] rfl (by kernel_rfl) ?_
        refine And.intro rfl ?_
        refine And.intro ⟨by decide, show (0 : Int) < 5 by decide⟩ ?_
        refine And.intro ⟨by decide, show (1 : Int) < 5 by decide⟩ ?_
        refine And.intro ⟨by decide, show (2 : Int) < 5 by decide⟩ ?_
        refine And.intro ⟨by decide, show (3 : Int) < 5 by decide⟩ ?_
        refine And.intro ⟨by decide, show (4 : Int) < 5 by decide⟩ ?_
        refine And.intro ⟨by decide, show (1 : Int) < 2 by decide⟩ ?_
        conv => whnf
        refine CallC.sca _ (ct) ?_ ?_
        · exact rfl
        exact And.intro trivial (AVle.refl _)
      · have hok : Rc.ok ⟨k, tok, tier, f, e, b⟩ = false := by simpa using hok
        rw [if_neg (by rw [hok]; simp)] at hR
        rw [hn hR]
        rw [hok] at ct
        refine VFn.introC Tryz.call86 Tryz.func86 rfl rfl ?_
        conv => whnf
        refine CallC.nl _ (cc) ?_ ?_
        · exact rfl
        refine And.intro ⟨by decide, show (0 : Int) < 2 by decide⟩ ?_
        conv => whnf
        refine CallC.nl _ (l02Numbers_gen a 44 5 (by omega) _ (fun N h => by rw [hN] at h; cases h; rfl) (fun h => by rw [hN] at h; cases h)) ?_ ?_
        · exact rfl
        refine DrawC.mkK 21 [(.inr 19, 20)] rfl (by kernel_rfl) ?_
        refine And.intro rfl ?_
        refine And.intro ⟨by decide, show (0 : Int) < 5 by decide⟩ ?_
        refine And.intro ⟨by decide, show (1 : Int) < 5 by decide⟩ ?_
        refine And.intro ⟨by decide, show (2 : Int) < 5 by decide⟩ ?_
        refine And.intro ⟨by decide, show (3 : Int) < 5 by decide⟩ ?_
        refine And.intro ⟨by decide, show (4 : Int) < 5 by decide⟩ ?_
        refine And.intro ⟨by decide, show (1 : Int) < 2 by decide⟩ ?_
        conv => whnf
        refine CallC.sca _ (ct) ?_ ?_
        · exact rfl
        exact And.intro trivial (AVle.refl _)
end Go.Proofs.YtgiaaaejobhngaaGreatDoor
set_option linter.unusedVariables false
set_option linter.constructorNameAsVariable false
set_option linter.unusedSimpArgs false
set_option maxRecDepth 20000
namespace Go.Proofs.YtgiaaaejobhngaaGreatDoor
open Go Go.Vw

def Sta.orow (s : Sta) (a b : Nat) : List AV := [.int .i64 s.seq, .int .i64 s.fence, .osl a, .osl b, .int .i64 s.l0, .int .i64 s.l1, .int .i64 s.l2, .int .i64 s.h0, .int .i64 s.h1, .int .i64 s.h2]
end Go.Proofs.YtgiaaaejobhngaaGreatDoor
set_option linter.unusedVariables false
set_option linter.constructorNameAsVariable false
set_option linter.unusedSimpArgs false
set_option maxRecDepth 20000
namespace Go.Proofs.YtgiaaaejobhngaaGreatDoor
open Go Go.Vw

def rlC (x : Sto) : Int := if x.ok = true then 0 else 1
def rlS (x : Sto) : Sta := if x.ok = true then logS x else sta0
end Go.Proofs.YtgiaaaejobhngaaGreatDoor
set_option linter.unusedVariables false
set_option linter.constructorNameAsVariable false
set_option linter.unusedSimpArgs false
set_option maxRecDepth 20000
namespace Go.Proofs.YtgiaaaejobhngaaGreatDoor
open Go Go.Vw

structure Src where
  code : List UInt8
  at_ : Int
  seed : Int
abbrev byts (L : List UInt8) : AV := .sl 1 L.length fun i => [.int .u8 ((ix L i).toNat : Int)]
def Src.row (s : Src) : List AV := [byts s.code, .int .i64 s.at_, .int .i64 s.seed]
def Src.ok (s : Src) (k : Int) : Prop := (0 ≤ s.at_ ∧ s.at_ ≤ k) ∧ (0 ≤ s.seed ∧ s.seed < 2147483648) ∧ s.code.length ≤ 1000000000
def Src.chr (s : Src) : Int := (ix s.code (s.at_ + 1 - 1).toNat).toNat
def Src.sd (s : Src) : Int := (s.seed * 1103515245 + 12345).tmod 2147483648
def Src.byte (s : Src) : Int × Src :=
  if s.at_ + 1 ≤ s.code.length then (s.chr, { s with at_ := s.at_ + 1, seed := (s.seed * 31 + s.chr + 7).tmod 2147483648 })
  else if 3000 < s.at_ + 1 then (0, { s with at_ := s.at_ + 1 })
  else ((s.sd.tdiv 65536).tmod 256, { s with at_ := s.at_ + 1, seed := s.sd })
theorem tmod_b {n m : Int} (h : 0 ≤ n) (hm : 0 < m) : 0 ≤ n.tmod m ∧ n.tmod m < m := by
  rw [Int.tmod_eq_emod_of_nonneg h]
  exact ⟨Int.emod_nonneg _ (by omega), Int.emod_lt_of_pos _ hm⟩
theorem tdiv_b {n : Int} {m : Int} (h : 0 ≤ n) (hm : 0 < m) : 0 ≤ n.tdiv m ∧ n.tdiv m ≤ n := by
  rw [Int.tdiv_eq_ediv_of_nonneg h]
  exact ⟨Int.ediv_nonneg h (by omega), Int.ediv_le_self _ h⟩
theorem chr_b (s : Src) : 0 ≤ s.chr ∧ s.chr ≤ 255 := by
  unfold Src.chr
  have := (ix s.code (s.at_ + 1 - 1).toNat).toNat_lt
  omega
theorem byte_b (s : Src) {k : Int} (h : s.ok k) : (0 ≤ s.byte.1 ∧ s.byte.1 ≤ 255) ∧ s.byte.2.ok (k + 1) ∧ s.byte.2.code = s.code := by
  obtain ⟨⟨a0, a1⟩, ⟨s0, s1⟩, hc⟩ := h
  have hch := chr_b s
  have hsd := tmod_b (n := s.seed * 1103515245 + 12345) (m := 2147483648) (by omega) (by omega)
  unfold Src.byte
  split
  · refine ⟨hch, ⟨⟨by simp only; omega, by simp only; omega⟩, ?_, hc⟩, rfl⟩
    exact tmod_b (by omega) (by omega)
  · split
    · exact ⟨by simp, ⟨⟨by simp only; omega, by simp only; omega⟩, ⟨s0, s1⟩, hc⟩, rfl⟩
    · refine ⟨?_, ⟨⟨by simp only; omega, by simp only; omega⟩, hsd, hc⟩, rfl⟩
      have h1 := tdiv_b (n := s.sd) (m := 65536) hsd.1 (by omega)
      have h2 := tmod_b (n := s.sd.tdiv 65536) (m := 256) h1.1 (by omega)
      simp only; omega
theorem byte_fn (s : Src) (h : s.ok 1000000000) : FnM Tryz.prog 208 1 [.bptr 0 0] [(0, .box s.row)] (.int .i64 s.byte.1) [(0, .box s.byte.2.row)] 1 := by
  have h' := h
  obtain ⟨⟨a0, a1⟩, ⟨s0, s1⟩, hc⟩ := h
  have hch := chr_b s
  have hsd := tmod_b (n := s.seed * 1103515245 + 12345) (m := 2147483648) (by omega) (by omega)
  obtain ⟨R, hR⟩ : ∃ R, R = s.byte := ⟨_, rfl⟩
  rw [← hR]
  refine FnM.introC Tryz.call208 Tryz.func208 rfl rfl ?_
  refine And.intro (inI64 (by omega) (by omega)) ?_
  refine DrawC.mk 10 rfl (by kernel_rfl) ?_
  refine Grd.intro (fun g1 => ?_) (fun g1 => ?_)
  · have g1 : s.at_ + 1 ≤ s.code.length := of_decide_eq_true g1
    have hR' : R = (s.chr, { s with at_ := s.at_ + 1, seed := (s.seed * 31 + s.chr + 7).tmod 2147483648 }) := by rw [hR, Src.byte, if_pos g1]
    refine DrawC.mk 23 rfl (by kernel_rfl) ?_
    refine And.intro (inI64 (by omega) (by omega)) ?_
    refine And.intro (inI64 (by omega) (by omega)) ?_
    refine And.intro ⟨by omega, by omega⟩ ?_
    refine And.intro (show inI .i64 s.chr from inI64 (by omega) (by omega)) ?_
    refine And.intro (show inI .i64 (s.seed * 31 + s.chr) from inI64 (by omega) (by omega)) ?_
    refine And.intro (show inI .i64 (s.seed * 31 + s.chr + 7) from inI64 (by omega) (by omega)) ?_
    refine And.intro (by decide) ?_
    refine DrawC.mk 13 rfl (by kernel_rfl) ?_
    refine And.intro (inI64 (by omega) (by omega)) ?_
    refine And.intro ⟨by omega, by omega⟩ ?_
    refine And.intro (show inI .i64 s.chr from inI64 (by omega) (by omega)) ?_
    subst hR'
    exact And.intro trivial ⟨[(0, 0)], rfl, AVle.refl _, ⟨MOle.refl _, trivial⟩⟩
  · have g1 : ¬ s.at_ + 1 ≤ s.code.length := of_decide_eq_false g1
    refine Grd.intro (fun g2 => ?_) (fun g2 => ?_)
    · have g2 : 3000 < s.at_ + 1 := of_decide_eq_true g2
      have hR' : R = (0, { s with at_ := s.at_ + 1 }) := by rw [hR, Src.byte, if_neg g1, if_pos g2]
      subst hR'
      exact And.intro trivial ⟨[(0, 0)], rfl, AVle.refl _, ⟨MOle.refl _, trivial⟩⟩
    · have g2 : ¬ 3000 < s.at_ + 1 := of_decide_eq_false g2
      have hR' : R = ((s.sd.tdiv 65536).tmod 256, { s with at_ := s.at_ + 1, seed := s.sd }) := by rw [hR, Src.byte, if_neg g1, if_neg g2]
      refine And.intro (inI64 (by omega) (by omega)) ?_
      refine And.intro (inI64 (by omega) (by omega)) ?_
      refine And.intro (by decide) ?_
      have h1 := tdiv_b (n := s.sd) (m := 65536) hsd.1 (by omega)
      have hsd' : 0 ≤ s.sd ∧ s.sd < 2147483648 := hsd
      refine And.intro ⟨by decide, show inI .i64 (s.sd.tdiv 65536) from inI64 (by omega) (by omega)⟩ ?_
      refine And.intro (by decide) ?_
      subst hR'
      exact And.intro trivial ⟨[(0, 0)], rfl, AVle.refl _, ⟨MOle.refl _, trivial⟩⟩
def Src.next (s : Src) (n : Int) : Int × Src :=
  if n ≤ 1 then (0, s)
  else if n ≤ 256 then (s.byte.1.tmod n, s.byte.2)
  else ((s.byte.1 * 65536 + s.byte.2.byte.1 * 256 + s.byte.2.byte.2.byte.1).tmod n, s.byte.2.byte.2.byte.2)
theorem next_b (s : Src) {k : Int} (h : s.ok k) (hk : 0 ≤ k) (n : Int) : (0 ≤ (s.next n).1 ∧ (1 ≤ n → (s.next n).1 < n)) ∧ (s.next n).2.ok (k + 3) ∧ (s.next n).2.code = s.code := by
  have h1 := byte_b s h
  have h2 := byte_b s.byte.2 h1.2.1
  have h3 := byte_b s.byte.2.byte.2 h2.2.1
  have w : ∀ (x : Src) (a b : Int), x.ok a → a ≤ b → x.ok b := fun x a b hx hab => ⟨⟨hx.1.1, by have := hx.1.2; omega⟩, hx.2⟩
  unfold Src.next
  split
  · exact ⟨⟨by simp, fun _ => by simp only; omega⟩, w s k _ h (by omega), rfl⟩
  · split
    · have := tmod_b (n := s.byte.1) (m := n) h1.1.1 (by omega)
      exact ⟨⟨this.1, fun _ => this.2⟩, w _ _ _ h1.2.1 (by omega), h1.2.2⟩
    · have := tmod_b (n := s.byte.1 * 65536 + s.byte.2.byte.1 * 256 + s.byte.2.byte.2.byte.1) (m := n) (by omega) (by omega)
      exact ⟨⟨this.1, fun _ => this.2⟩, w _ _ _ h3.2.1 (by omega), h3.2.2.trans (h2.2.2.trans h1.2.2)⟩
theorem next_fn (s : Src) (n : Int) (h : s.ok 100000000) : FnM Tryz.prog 144 1 [.bptr 0 0, .int .i64 n] [(0, .box s.row)] (.int .i64 (s.next n).1) [(0, .box (s.next n).2.row)] 1 := by
  have h1 := byte_b s h
  have h2 := byte_b s.byte.2 h1.2.1
  have h3 := byte_b s.byte.2.byte.2 h2.2.1
  have w : ∀ (x : Src) (a : Int), x.ok a → a ≤ 1000000000 → x.ok 1000000000 := fun x a hx hab => ⟨⟨hx.1.1, by have := hx.1.2; omega⟩, hx.2⟩
  obtain ⟨R, hR⟩ : ∃ R, R = s.next n := ⟨_, rfl⟩
  rw [← hR]
  refine FnM.introC Tryz.call144 Tryz.func144 rfl rfl ?_
  refine Grd.intro (fun g1 => ?_) (fun g1 => ?_)
  · have g1 : n ≤ 1 := of_decide_eq_true g1
    rw [Src.next, if_pos g1] at hR
    subst hR
    exact And.intro trivial ⟨[(0, 0)], rfl, AVle.refl _, ⟨MOle.refl _, trivial⟩⟩
  have g1 : ¬ n ≤ 1 := of_decide_eq_false g1
  refine Grd.intro (fun g2 => ?_) (fun g2 => ?_)
  · have g2 : n ≤ 256 := of_decide_eq_true g2
    rw [Src.next, if_neg g1, if_pos g2] at hR
    conv => whnf
    refine CallC.k [(0, 0)] (byte_fn s (w _ _ h (by omega))) rfl rfl (AVsle.refl _) ⟨MOle.refl _, trivial⟩ rfl ?_
    refine And.intro (show n ≠ 0 by omega) ?_
    subst hR
    exact And.intro trivial ⟨[(0, 0)], rfl, AVle.refl _, ⟨MOle.refl _, trivial⟩⟩
  have g2 : ¬ n ≤ 256 := of_decide_eq_false g2
  rw [Src.next, if_neg g1, if_neg g2] at hR
  conv => whnf
  refine CallC.k [(0, 0)] (byte_fn s (w _ _ h (by omega))) rfl rfl (AVsle.refl _) ⟨MOle.refl _, trivial⟩ rfl ?_
  conv => whnf
  refine CallC.k [(0, 0)] (byte_fn s.byte.2 (w _ _ h1.2.1 (by omega))) rfl rfl (AVsle.refl _) ⟨MOle.refl _, trivial⟩ rfl ?_
  conv => whnf
  refine CallC.k [(0, 0)] (byte_fn s.byte.2.byte.2 (w _ _ h2.2.1 (by omega))) rfl rfl (AVsle.refl _) ⟨MOle.refl _, trivial⟩ rfl ?_
  refine And.intro (inI64 (by omega) (by omega)) ?_
  refine And.intro (inI64 (by omega) (by omega)) ?_
  refine And.intro (inI64 (by omega) (by omega)) ?_
  refine And.intro (inI64 (by omega) (by omega)) ?_
  refine And.intro (show n ≠ 0 by omega) ?_
  subst hR
  exact And.intro trivial ⟨[(0, 0)], rfl, AVle.refl _, ⟨MOle.refl _, trivial⟩⟩
end Go.Proofs.YtgiaaaejobhngaaGreatDoor
set_option linter.unusedVariables false
set_option linter.constructorNameAsVariable false
set_option linter.unusedSimpArgs false
set_option maxRecDepth 20000
namespace Go.Proofs.YtgiaaaejobhngaaGreatDoor
open Go Go.Vw

abbrev SS := List Smp × Int × Src
def smpStep (x : SS) : SS :=
  let f := x.2.1 + (x.2.2.next 4).1
  let a := (x.2.2.next 4).2.next 40
  let b := a.2.next 12
  let c := b.2.next 2
  let v := if b.1.tdiv 10 * (1 + c.1) = 0 then a.1 - 10 else if b.1.tdiv 10 * (1 + c.1) = 1 then 1000000 else -1000000
  (x.1 ++ [⟨f, v⟩], f + 1, c.2)
def smpIt : Nat → SS → SS
  | 0, x => x
  | k + 1, x => smpStep (smpIt k x)
def SSok (x : SS) (n : Nat) (k : Int) : Prop := x.1.length = n ∧ (∀ e ∈ x.1, -1000000 ≤ e.v ∧ e.v ≤ 1000000) ∧ x.2.2.ok k ∧ (0 ≤ x.2.1 ∧ x.2.1 ≤ k)
theorem wk {x : Src} {a b : Int} (hx : x.ok a) (h : a ≤ b) : x.ok b := ⟨⟨hx.1.1, by have := hx.1.2; omega⟩, hx.2⟩
theorem step_ok {x : SS} {n : Nat} {k : Int} (h : SSok x n k) (hk : 0 ≤ k) : SSok (smpStep x) (n + 1) (k + 12) := by
  obtain ⟨h1, h2, h3, h4⟩ := h
  have n1 := next_b x.2.2 h3 hk 4
  have n2 := next_b (x.2.2.next 4).2 n1.2.1 (by omega) 40
  have n3 := next_b ((x.2.2.next 4).2.next 40).2 n2.2.1 (by omega) 12
  have n4 := next_b (((x.2.2.next 4).2.next 40).2.next 12).2 n3.2.1 (by omega) 2
  have a1 := n1.1.2 (by omega)
  have a2 := n2.1.2 (by omega)
  unfold smpStep
  refine ⟨by simp [h1], fun e he => ?_, wk n4.2.1 (by omega), by simp only; omega⟩
  simp only [List.mem_append, List.mem_cons, List.not_mem_nil, or_false] at he
  rcases he with he | he
  · exact h2 e he
  · subst he
    simp only
    have := n2.1.1
    split
    · omega
    · split <;> omega
theorem it_ok {x : SS} {k : Int} (h : SSok x 0 k) (hk : 0 ≤ k) : ∀ n, SSok (smpIt n x) n (k + 12 * n)
  | 0 => by simpa [smpIt] using h
  | n + 1 => by
    have := step_ok (it_ok h hk n) (by omega)
    have e : k + 12 * ((n + 1 : Nat) : Int) = k + 12 * (n : Int) + 12 := by omega
    rw [e]; exact this
def Src.samples (s : Src) (f n : Int) : SS := smpIt (s.next (n + 1)).1.toNat ([], f, (s.next (n + 1)).2)
end Go.Proofs.YtgiaaaejobhngaaGreatDoor
set_option linter.unusedVariables false
set_option linter.constructorNameAsVariable false
set_option linter.unusedSimpArgs false
set_option maxRecDepth 20000
namespace Go.Proofs.YtgiaaaejobhngaaGreatDoor
open Go Go.Vw

def Ag.mrg (a b : Ag) : Ag := if a.c = 0 then b else if b.c = 0 then a else ⟨a.c + b.c, a.s + b.s, if b.mn < a.mn then b.mn else a.mn, if a.mx < b.mx then b.mx else a.mx, a.f, b.l⟩
def Ag.cells (a : Ag) : List AV := [.int .i64 a.c, .int .i64 a.s, .int .i64 a.mn, .int .i64 a.mx, .int .i64 a.f, .int .i64 a.l]
def one (v : Int) : Ag := ⟨1, v, v, v, v, v⟩
def aggL (L : List Smp) : Ag := L.foldl (fun a s => a.mrg (one s.v)) default
theorem aggL_snoc {L : List Smp} {i : Nat} (h : i < L.length) : aggL (L.take (i + 1)) = (aggL (L.take i)).mrg (one (ix L i).v) := by
  unfold aggL; rw [take_snoc h, List.foldl_append]; rfl
def Ag.B (a : Ag) (n : Int) : Prop := a.c = n ∧ (-1000000 * n ≤ a.s ∧ a.s ≤ 1000000 * n) ∧ (n = 0 → a = default) ∧ (0 < n → a.some = true)
theorem mrg_B {a : Ag} {n v : Int} (h : a.B n) (hn : 0 ≤ n ∧ n < 100000) (hv : -1000000 ≤ v ∧ v ≤ 1000000) : (a.mrg (one v)).B (n + 1) := by
  obtain ⟨h1, h2, h3, h4⟩ := h
  unfold Ag.mrg
  by_cases h0 : a.c = 0
  · rw [if_pos h0]
    refine ⟨by simp only [one]; omega, by simp only [one]; omega, fun h => by omega, fun _ => ?_⟩
    unfold Ag.some one
    simp [within]; omega
  · rw [if_neg h0, if_neg (show ¬ (one v).c = 0 by simp [one])]
    have h5 := h4 (by omega)
    unfold Ag.some at h5
    simp [within] at h5
    refine ⟨by simp only [one]; omega, by simp only [one]; omega, fun h => by omega, fun _ => ?_⟩
    unfold Ag.some one
    simp only [within]
    have e1 : ∀ m, m ≤ a.mn → m ≤ v → (a.c + 1) * m ≤ a.s + v := fun m q1 q2 => by
      have : a.c * m ≤ a.c * a.mn := Int.mul_le_mul_of_nonneg_left q1 (by omega)
      have : (a.c + 1) * m = a.c * m + m := by rw [Int.add_mul]; omega
      omega
    have e2 : ∀ m, a.mx ≤ m → v ≤ m → a.s + v ≤ (a.c + 1) * m := fun m q1 q2 => by
      have : a.c * a.mx ≤ a.c * m := Int.mul_le_mul_of_nonneg_left q1 (by omega)
      have : (a.c + 1) * m = a.c * m + m := by rw [Int.add_mul]; omega
      omega
    by_cases m1 : v < a.mn <;> by_cases m2 : a.mx < v
    · rw [if_pos m1, if_pos m2]
      have := e1 v (by omega) (by omega)
      have := e2 v (by omega) (by omega)
      simp; omega
    · rw [if_pos m1, if_neg m2]
      have := e1 v (by omega) (by omega)
      have := e2 a.mx (by omega) (by omega)
      simp; omega
    · rw [if_neg m1, if_pos m2]
      have := e1 a.mn (by omega) (by omega)
      have := e2 v (by omega) (by omega)
      simp; omega
    · rw [if_neg m1, if_neg m2]
      have := e1 a.mn (by omega) (by omega)
      have := e2 a.mx (by omega) (by omega)
      simp; omega
theorem aggL_B {L : List Smp} (hL : L.length ≤ 100000) (hv : ∀ e ∈ L, -1000000 ≤ e.v ∧ e.v ≤ 1000000) : ∀ i : Nat, i ≤ L.length → (aggL (L.take i)).B i
  | 0, _ => ⟨rfl, show -1000000 * ((0 : Nat) : Int) ≤ 0 ∧ (0 : Int) ≤ 1000000 * ((0 : Nat) : Int) by omega, fun _ => rfl, fun h => absurd h (by simp)⟩
  | i + 1, h => by
    rw [aggL_snoc h]
    have := mrg_B (aggL_B hL hv i (by omega)) ⟨by omega, by omega⟩ (hv _ (getD_mem (L := L) h))
    simpa using this
def Src.agg (s : Src) : Ag := aggL (s.samples 0 6).1
def srcOf (code : List UInt8) : Src := ⟨code, 0, (code.length : Int).tmod 1000⟩
end Go.Proofs.YtgiaaaejobhngaaGreatDoor
