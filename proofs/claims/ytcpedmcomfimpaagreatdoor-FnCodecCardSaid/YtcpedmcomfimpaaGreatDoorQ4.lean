/- Contracts of functions that the claim reaches, and the plain law of what they compute; each theorem bears its own conditions. -/
import Derived.Test.YtcpedmcomfimpaaGreatDoorQ3
import Derived.Test.YtcpedmcomfimpaaGreatDoorV49
import Derived.Test.YtcpedmcomfimpaaGreatDoorQ2
import Derived.Test.YtcpedmcomfimpaaGreatDoorQ1
set_option linter.unusedVariables false
set_option linter.constructorNameAsVariable false
set_option linter.unusedSimpArgs false
set_option maxRecDepth 20000
namespace Go.Proofs.YtcpedmcomfimpaaGreatDoor
open Go Go.Vw

theorem nbOk_no {neg : Bool} {b : List UInt8} (h : 18 < b.length ∨ (b.headD 0 = 48 ∧ (1 < b.length ∨ neg = true)) ∨ b.all dig = false) : nbOk neg b = false := by
  cases hb : nbOk neg b
  · rfl
  · obtain ⟨_, h2, h3, h4⟩ := nbOk_iff.1 hb
    rcases h with h | ⟨h, h'⟩ | h
    · omega
    · obtain ⟨h5, h6⟩ := h3 h
      rcases h' with h' | h'
      · exact absurd h' h5
      · rw [h6] at h'; cases h'
    · rw [h4] at h; cases h
theorem l00Neg_fn (b : List UInt8) (hl : b.length ≤ 1000000000) (hb0 : b ≠ []) (R : AV) (hy : numOk (45 :: b) = true → R = .tup [.int .i64 (-(numB 0 b : Int)), .bool true]) (hn : numOk (45 :: b) = false → R = .tup [.int .i64 0, .bool false]) : VFn Tryz.prog 302 [.str (B (45 :: b))] R := by
  have hk := numOk_neg b
  have hsz : ((B (45 :: b)).size : Int) = b.length + 1 := by rw [B_size]; rfl
  refine VFn.introC Tryz.call302 Tryz.func302 rfl rfl ?_
  refine Grd.intro (fun g1 => ?_) (fun g1 => absurd (of_decide_eq_false g1) (by omega))
  refine And.intro ⟨by omega, by omega⟩ ?_
  refine And.intro ⟨by omega, by omega⟩ ?_
  refine force_to (congrArg AV.str (show (B (45 :: b)).extract (Int.toNat 1) (B (45 :: b)).size = B b by rw [B_extract, B_size]; simp)) ?_
  have hno : nbOk true b = false → numOk (45 :: b) = false := fun h => hk.1.trans h
  refine Grd.intro (fun h1 => ?_) (fun h1 => ?_)
  · have hb0' : b = [] := by have h : (((B b).size : Nat) : Int) = 0 := of_decide_eq_true h1; rw [B_size] at h; exact List.length_eq_zero_iff.1 (by omega)
    exact absurd hb0' hb0
  have hb1 : 1 ≤ b.length := by cases hbb : b with | nil => exact absurd hbb hb0 | cons _ _ => simp
  refine Grd.intro (fun h2 => ?_) (fun h2 => ?_)
  · have hb2 : 18 < b.length := by have h : (18 : Int) < (((B b).size : Nat) : Int) := of_decide_eq_true h2; rw [B_size] at h; omega
    rw [hn (hno (nbOk_no (.inl hb2)))]
    exact And.intro trivial (AVle.refl _)
  have hb2 : b.length ≤ 18 := by have h : ¬ (18 : Int) < (((B b).size : Nat) : Int) := of_decide_eq_false h2; rw [B_size] at h; omega
  refine And.intro ⟨by omega, by rw [B_size]; omega⟩ ?_
  have hix : (B b).data.toList.getD (Int.toNat 0) 0 = b.headD 0 := by rw [B_data]; cases b <;> rfl
  refine Grd.intro (fun h3 => ?_) (fun h3 => ?_)
  · have h3 : b.headD 0 = 48 := hix.symm.trans (UInt8.toNat_inj.1 (by have h : (((B b).data.toList.getD (Int.toNat 0) 0).toNat : Int) = 48 := of_decide_eq_true h3; exact Int.ofNat.inj h))
    refine Grd.intro (fun h4 => ?_) (fun h4 => ?_)
    · have h4 : 1 < b.length := by have h : (1 : Int) < (((B b).size : Nat) : Int) := of_decide_eq_true h4; rw [B_size] at h; omega
      rw [hn (hno (nbOk_no (.inr (.inl ⟨h3, .inl h4⟩))))]
      exact And.intro trivial (AVle.refl _)
    have h4 : ¬ 1 < b.length := by have h : ¬ (1 : Int) < (((B b).size : Nat) : Int) := of_decide_eq_false h4; rw [B_size] at h; omega
    rw [hn (hno (nbOk_no (.inr (.inl ⟨h3, .inr rfl⟩))))]
    exact And.intro trivial (AVle.refl _)
  · have h3 : b.headD 0 ≠ 48 := fun e => (of_decide_eq_false (p := ((((B b).data.toList.getD (Int.toNat 0) 0).toNat : Nat) : Int) = 48) h3) (by rw [hix, e]; rfl)
    have hgood : b.all dig = true → R = .tup [.int .i64 ((-1) * (numB 0 b : Int)), .bool true] := fun h => (hy (hk.1.trans (nbOk_iff.2 ⟨hb0, hb2, (fun e => absurd e h3), h⟩))).trans (congrArg (fun z => AV.tup [AV.int .i64 z, AV.bool true]) (by omega))
    refine LoopC.mk (fun i : Nat => i ≤ b.length ∧ (b.take i).all dig = true ∧ numB 0 (b.take i) < 10 ^ i) (fun i => [(0, .str (B b)), (4, .int .i64 (-1)), (5, .int .i64 (numB 0 (b.take i))), (6, .int .i64 i)]) (fun _ => []) 0 (fun i => b.length - i) 0
      ⟨⟨by omega, rfl, Nat.one_pos⟩, [], rfl, rfl, ⟨AVle.refl _, AVle.refl _, AVle.refl _, AVle.refl _, trivial⟩, trivial⟩ ?_
    intro i hi
    obtain ⟨hi1, hi2, hi3⟩ := hi
    refine Grd.intro (fun h5 => ?_) (fun h5 => ?_)
    · have hin : i < b.length := by have h : (i : Int) < (((B b).size : Nat) : Int) := of_decide_eq_true h5; rw [B_size] at h; omega
      have hp := pow_le18 (i := i) (by omega)
      have bad : dig (ix b i) = false → R = .tup [.int .i64 0, .bool false] := fun h => hn (hno (nbOk_no (.inr (.inr (by
        rw [← Bool.not_eq_true]
        intro h'
        rw [List.all_eq_true.1 h' _ (getD_mem hin)] at h; cases h)))))
      refine And.intro ⟨by omega, by rw [B_size]; omega⟩ ?_
      refine Grd.intro (fun h6 => ?_) (fun h6 => ?_)
      · have h6 : ((ix b i).toNat : Int) < 48 := of_decide_eq_true h6
        rw [bad (decide_eq_false (by omega))]
        exact And.intro trivial (AVle.refl _)
      have h6 : ¬ ((ix b i).toNat : Int) < 48 := of_decide_eq_false h6
      refine And.intro ⟨by omega, by rw [B_size]; omega⟩ ?_
      refine Grd.intro (fun h7 => ?_) (fun h7 => ?_)
      · have h7 : (57 : Int) < ((ix b i).toNat : Int) := of_decide_eq_true h7
        rw [bad (decide_eq_false (by omega))]
        exact And.intro trivial (AVle.refl _)
      have h7 : ¬ (57 : Int) < ((ix b i).toNat : Int) := of_decide_eq_false h7
      have hd : dig (ix b i) = true := decide_eq_true (by omega)
      have hnt := numB_take hin
      refine And.intro (inI64 (by omega) (by omega)) ?_
      refine And.intro ⟨by omega, by rw [B_size]; omega⟩ ?_
      refine And.intro (show inI .i64 ((ix b i).toNat : Int) from inI64 (by omega) (by omega)) ?_
      refine And.intro (show inI .i64 ((numB 0 (b.take i) : Int) * 10 + ((ix b i).toNat : Int)) from inI64 (by omega) (by omega)) ?_
      refine And.intro (show inI .i64 ((numB 0 (b.take i) : Int) * 10 + ((ix b i).toNat : Int) - 48) from inI64 (by omega) (by omega)) ?_
      refine And.intro (inI64 (by omega) (by omega)) ?_
      refine ⟨i + 1, ⟨hin, ?_, ?_⟩, by omega, [], rfl, rfl, ⟨AVle.refl _, AVle.refl _, AVle.of_eq (congrArg (AV.int .i64) (show (numB 0 (b.take i) : Int) * 10 + ((ix b i).toNat : Int) - 48 = _ by rw [hnt]; omega)), AVle.of_eq (congrArg (AV.int .i64) (by simp)), trivial⟩, trivial⟩
      · rw [take_snoc hin, List.all_append, hi2]; simp [hd]
      · rw [hnt, Nat.pow_succ]; omega
    · have : i = b.length := by have h : ¬ (i : Int) < (((B b).size : Nat) : Int) := of_decide_eq_false h5; rw [B_size] at h; omega
      subst this
      rw [List.take_of_length_le (Nat.le_refl _)] at hi2
      have hN := numB_18 hi2 hb2
      have e : b.take b.length = b := List.take_of_length_le (Nat.le_refl _)
      refine And.intro (show inI .i64 ((-1) * (numB 0 (b.take b.length) : Int)) from inI64 (by rw [e]; omega) (by rw [e]; omega)) ?_
      rw [hgood hi2]
      exact And.intro trivial (AVle.of_eq (congrArg (fun z => AV.tup [AV.int .i64 z, AV.bool true]) (show (-1) * (numB 0 (b.take b.length) : Int) = _ by rw [e])))
theorem l00Pos_fn (b : List UInt8) (hl : b.length ≤ 1000000000) (hb0 : b ≠ []) (hh : b.headD 0 ≠ 45) (R : AV) (hy : numOk b = true → R = .tup [.int .i64 (numB 0 b : Int), .bool true]) (hn : numOk b = false → R = .tup [.int .i64 0, .bool false]) : VFn Tryz.prog 302 [.str (B b)] R := by
  have hk := numOk_pos hh
  have hlen : 1 ≤ b.length := by cases hbb : b with | nil => exact absurd hbb hb0 | cons _ _ => simp
  refine VFn.introC Tryz.call302 Tryz.func302 rfl rfl ?_
  refine Grd.intro (fun g1 => ?_) (fun g1 => absurd (of_decide_eq_false (p := (0 : Int) < (((B b).size : Nat) : Int)) g1) (fun h => h (by rw [B_size]; omega)))
  refine And.intro ⟨by omega, by rw [B_size]; omega⟩ ?_
  have hix : (B b).data.toList.getD (Int.toNat 0) 0 = b.headD 0 := by rw [B_data]; cases b <;> rfl
  refine Grd.intro (fun g2 => absurd (hix.symm.trans (UInt8.toNat_inj.1 (by have h : (((B b).data.toList.getD (Int.toNat 0) 0).toNat : Int) = 45 := of_decide_eq_true g2; exact Int.ofNat.inj h))) hh) (fun g2 => ?_)
  have hno : nbOk false b = false → numOk b = false := fun h => hk.1.trans h
  refine Grd.intro (fun h1 => ?_) (fun h1 => ?_)
  · have hb0' : b = [] := by have h : (((B b).size : Nat) : Int) = 0 := of_decide_eq_true h1; rw [B_size] at h; exact List.length_eq_zero_iff.1 (by omega)
    exact absurd hb0' hb0
  have hb1 : 1 ≤ b.length := by cases hbb : b with | nil => exact absurd hbb hb0 | cons _ _ => simp
  refine Grd.intro (fun h2 => ?_) (fun h2 => ?_)
  · have hb2 : 18 < b.length := by have h : (18 : Int) < (((B b).size : Nat) : Int) := of_decide_eq_true h2; rw [B_size] at h; omega
    rw [hn (hno (nbOk_no (.inl hb2)))]
    exact And.intro trivial (AVle.refl _)
  have hb2 : b.length ≤ 18 := by have h : ¬ (18 : Int) < (((B b).size : Nat) : Int) := of_decide_eq_false h2; rw [B_size] at h; omega
  refine And.intro ⟨by omega, by rw [B_size]; omega⟩ ?_
  have hix : (B b).data.toList.getD (Int.toNat 0) 0 = b.headD 0 := by rw [B_data]; cases b <;> rfl
  refine Grd.intro (fun h3 => ?_) (fun h3 => ?_)
  · have h3 : b.headD 0 = 48 := hix.symm.trans (UInt8.toNat_inj.1 (by have h : (((B b).data.toList.getD (Int.toNat 0) 0).toNat : Int) = 48 := of_decide_eq_true h3; exact Int.ofNat.inj h))
    refine Grd.intro (fun h4 => ?_) (fun h4 => ?_)
    · have h4 : 1 < b.length := by have h : (1 : Int) < (((B b).size : Nat) : Int) := of_decide_eq_true h4; rw [B_size] at h; omega
      rw [hn (hno (nbOk_no (.inr (.inl ⟨h3, .inl h4⟩))))]
      exact And.intro trivial (AVle.refl _)
    have h4 : ¬ 1 < b.length := by have h : ¬ (1 : Int) < (((B b).size : Nat) : Int) := of_decide_eq_false h4; rw [B_size] at h; omega
    have hgood : b.all dig = true → R = .tup [.int .i64 (1 * (numB 0 b : Int)), .bool true] := fun h => (hy (hk.1.trans (nbOk_iff.2 ⟨hb0, hb2, (fun _ => ⟨h4, rfl⟩), h⟩))).trans (congrArg (fun z => AV.tup [AV.int .i64 z, AV.bool true]) (by omega))
    refine LoopC.mk (fun i : Nat => i ≤ b.length ∧ (b.take i).all dig = true ∧ numB 0 (b.take i) < 10 ^ i) (fun i => [(0, .str (B b)), (4, .int .i64 1), (5, .int .i64 (numB 0 (b.take i))), (6, .int .i64 i)]) (fun _ => []) 0 (fun i => b.length - i) 0
      ⟨⟨by omega, rfl, Nat.one_pos⟩, [], rfl, rfl, ⟨AVle.refl _, AVle.refl _, AVle.refl _, AVle.refl _, trivial⟩, trivial⟩ ?_
    intro i hi
    obtain ⟨hi1, hi2, hi3⟩ := hi
    refine Grd.intro (fun h5 => ?_) (fun h5 => ?_)
    · have hin : i < b.length := by have h : (i : Int) < (((B b).size : Nat) : Int) := of_decide_eq_true h5; rw [B_size] at h; omega
      have hp := pow_le18 (i := i) (by omega)
      have bad : dig (ix b i) = false → R = .tup [.int .i64 0, .bool false] := fun h => hn (hno (nbOk_no (.inr (.inr (by
        rw [← Bool.not_eq_true]
        intro h'
        rw [List.all_eq_true.1 h' _ (getD_mem hin)] at h; cases h)))))
      refine And.intro ⟨by omega, by rw [B_size]; omega⟩ ?_
      refine Grd.intro (fun h6 => ?_) (fun h6 => ?_)
      · have h6 : ((ix b i).toNat : Int) < 48 := of_decide_eq_true h6
        rw [bad (decide_eq_false (by omega))]
        exact And.intro trivial (AVle.refl _)
      have h6 : ¬ ((ix b i).toNat : Int) < 48 := of_decide_eq_false h6
      refine And.intro ⟨by omega, by rw [B_size]; omega⟩ ?_
      refine Grd.intro (fun h7 => ?_) (fun h7 => ?_)
      · have h7 : (57 : Int) < ((ix b i).toNat : Int) := of_decide_eq_true h7
        rw [bad (decide_eq_false (by omega))]
        exact And.intro trivial (AVle.refl _)
      have h7 : ¬ (57 : Int) < ((ix b i).toNat : Int) := of_decide_eq_false h7
      have hd : dig (ix b i) = true := decide_eq_true (by omega)
      have hnt := numB_take hin
      refine And.intro (inI64 (by omega) (by omega)) ?_
      refine And.intro ⟨by omega, by rw [B_size]; omega⟩ ?_
      refine And.intro (show inI .i64 ((ix b i).toNat : Int) from inI64 (by omega) (by omega)) ?_
      refine And.intro (show inI .i64 ((numB 0 (b.take i) : Int) * 10 + ((ix b i).toNat : Int)) from inI64 (by omega) (by omega)) ?_
      refine And.intro (show inI .i64 ((numB 0 (b.take i) : Int) * 10 + ((ix b i).toNat : Int) - 48) from inI64 (by omega) (by omega)) ?_
      refine And.intro (inI64 (by omega) (by omega)) ?_
      refine ⟨i + 1, ⟨hin, ?_, ?_⟩, by omega, [], rfl, rfl, ⟨AVle.refl _, AVle.refl _, AVle.of_eq (congrArg (AV.int .i64) (show (numB 0 (b.take i) : Int) * 10 + ((ix b i).toNat : Int) - 48 = _ by rw [hnt]; omega)), AVle.of_eq (congrArg (AV.int .i64) (by simp)), trivial⟩, trivial⟩
      · rw [take_snoc hin, List.all_append, hi2]; simp [hd]
      · rw [hnt, Nat.pow_succ]; omega
    · have : i = b.length := by have h : ¬ (i : Int) < (((B b).size : Nat) : Int) := of_decide_eq_false h5; rw [B_size] at h; omega
      subst this
      rw [List.take_of_length_le (Nat.le_refl _)] at hi2
      have hN := numB_18 hi2 hb2
      have e : b.take b.length = b := List.take_of_length_le (Nat.le_refl _)
      refine And.intro (show inI .i64 (1 * (numB 0 (b.take b.length) : Int)) from inI64 (by rw [e]; omega) (by rw [e]; omega)) ?_
      rw [hgood hi2]
      exact And.intro trivial (AVle.of_eq (congrArg (fun z => AV.tup [AV.int .i64 z, AV.bool true]) (show 1 * (numB 0 (b.take b.length) : Int) = _ by rw [e])))
  · have h3 : b.headD 0 ≠ 48 := fun e => (of_decide_eq_false (p := ((((B b).data.toList.getD (Int.toNat 0) 0).toNat : Nat) : Int) = 48) h3) (by rw [hix, e]; rfl)
    have hgood : b.all dig = true → R = .tup [.int .i64 (1 * (numB 0 b : Int)), .bool true] := fun h => (hy (hk.1.trans (nbOk_iff.2 ⟨hb0, hb2, (fun e => absurd e h3), h⟩))).trans (congrArg (fun z => AV.tup [AV.int .i64 z, AV.bool true]) (by omega))
    refine LoopC.mk (fun i : Nat => i ≤ b.length ∧ (b.take i).all dig = true ∧ numB 0 (b.take i) < 10 ^ i) (fun i => [(0, .str (B b)), (4, .int .i64 1), (5, .int .i64 (numB 0 (b.take i))), (6, .int .i64 i)]) (fun _ => []) 0 (fun i => b.length - i) 0
      ⟨⟨by omega, rfl, Nat.one_pos⟩, [], rfl, rfl, ⟨AVle.refl _, AVle.refl _, AVle.refl _, AVle.refl _, trivial⟩, trivial⟩ ?_
    intro i hi
    obtain ⟨hi1, hi2, hi3⟩ := hi
    refine Grd.intro (fun h5 => ?_) (fun h5 => ?_)
    · have hin : i < b.length := by have h : (i : Int) < (((B b).size : Nat) : Int) := of_decide_eq_true h5; rw [B_size] at h; omega
      have hp := pow_le18 (i := i) (by omega)
      have bad : dig (ix b i) = false → R = .tup [.int .i64 0, .bool false] := fun h => hn (hno (nbOk_no (.inr (.inr (by
        rw [← Bool.not_eq_true]
        intro h'
        rw [List.all_eq_true.1 h' _ (getD_mem hin)] at h; cases h)))))
      refine And.intro ⟨by omega, by rw [B_size]; omega⟩ ?_
      refine Grd.intro (fun h6 => ?_) (fun h6 => ?_)
      · have h6 : ((ix b i).toNat : Int) < 48 := of_decide_eq_true h6
        rw [bad (decide_eq_false (by omega))]
        exact And.intro trivial (AVle.refl _)
      have h6 : ¬ ((ix b i).toNat : Int) < 48 := of_decide_eq_false h6
      refine And.intro ⟨by omega, by rw [B_size]; omega⟩ ?_
      refine Grd.intro (fun h7 => ?_) (fun h7 => ?_)
      · have h7 : (57 : Int) < ((ix b i).toNat : Int) := of_decide_eq_true h7
        rw [bad (decide_eq_false (by omega))]
        exact And.intro trivial (AVle.refl _)
      have h7 : ¬ (57 : Int) < ((ix b i).toNat : Int) := of_decide_eq_false h7
      have hd : dig (ix b i) = true := decide_eq_true (by omega)
      have hnt := numB_take hin
      refine And.intro (inI64 (by omega) (by omega)) ?_
      refine And.intro ⟨by omega, by rw [B_size]; omega⟩ ?_
      refine And.intro (show inI .i64 ((ix b i).toNat : Int) from inI64 (by omega) (by omega)) ?_
      refine And.intro (show inI .i64 ((numB 0 (b.take i) : Int) * 10 + ((ix b i).toNat : Int)) from inI64 (by omega) (by omega)) ?_
      refine And.intro (show inI .i64 ((numB 0 (b.take i) : Int) * 10 + ((ix b i).toNat : Int) - 48) from inI64 (by omega) (by omega)) ?_
      refine And.intro (inI64 (by omega) (by omega)) ?_
      refine ⟨i + 1, ⟨hin, ?_, ?_⟩, by omega, [], rfl, rfl, ⟨AVle.refl _, AVle.refl _, AVle.of_eq (congrArg (AV.int .i64) (show (numB 0 (b.take i) : Int) * 10 + ((ix b i).toNat : Int) - 48 = _ by rw [hnt]; omega)), AVle.of_eq (congrArg (AV.int .i64) (by simp)), trivial⟩, trivial⟩
      · rw [take_snoc hin, List.all_append, hi2]; simp [hd]
      · rw [hnt, Nat.pow_succ]; omega
    · have : i = b.length := by have h : ¬ (i : Int) < (((B b).size : Nat) : Int) := of_decide_eq_false h5; rw [B_size] at h; omega
      subst this
      rw [List.take_of_length_le (Nat.le_refl _)] at hi2
      have hN := numB_18 hi2 hb2
      have e : b.take b.length = b := List.take_of_length_le (Nat.le_refl _)
      refine And.intro (show inI .i64 (1 * (numB 0 (b.take b.length) : Int)) from inI64 (by rw [e]; omega) (by rw [e]; omega)) ?_
      rw [hgood hi2]
      exact And.intro trivial (AVle.of_eq (congrArg (fun z => AV.tup [AV.int .i64 z, AV.bool true]) (show 1 * (numB 0 (b.take b.length) : Int) = _ by rw [e])))
theorem l00Nil_fn : VFn Tryz.prog 302 [.str (B [])] (.tup [.int .i64 0, .bool false]) := by
  refine VFn.introC Tryz.call302 Tryz.func302 rfl rfl ?_
  exact And.intro trivial (AVle.refl _)
theorem l00Min_fn : VFn Tryz.prog 302 [.str (B [45])] (.tup [.int .i64 0, .bool false]) := by
  refine VFn.introC Tryz.call302 Tryz.func302 rfl rfl ?_
  refine And.intro ⟨by decide, by decide⟩ ?_
  refine And.intro ⟨by decide, by decide⟩ ?_
  exact And.intro trivial (AVle.refl _)
theorem l00Number_fn (t : List UInt8) (hl : t.length ≤ 1000000000) : VFn Tryz.prog 302 [.str (B t)] (.tup [.int .i64 (if numOk t = true then atoiV t else 0), .bool (numOk t)]) := by
  cases t with
  | nil => rw [show numOk [] = false by decide]; exact l00Nil_fn
  | cons c b =>
    by_cases hc : c = 45
    · subst hc
      by_cases hb : b = []
      · subst hb; rw [show numOk [45] = false by decide]; exact l00Min_fn
      · exact l00Neg_fn b (by simp at hl; omega) hb _ (fun h => by rw [h, if_pos rfl, (numOk_neg b).2 h]) (fun h => by rw [h, if_neg (by simp)])
    · exact l00Pos_fn (c :: b) hl (by simp) hc _ (fun h => by rw [h, if_pos rfl, (numOk_pos (t := c :: b) hc).2 h]) (fun h => by rw [h, if_neg (by simp)])
end Go.Proofs.YtcpedmcomfimpaaGreatDoor
set_option linter.unusedVariables false
set_option linter.constructorNameAsVariable false
set_option linter.unusedSimpArgs false
set_option maxRecDepth 20000
namespace Go.Proofs.YtcpedmcomfimpaaGreatDoor
open Go Go.Vw

theorem l02Number_fn (t : List UInt8) (hl : t.length ≤ 1000000000) : VFn Tryz.prog 276 [.str (B t)] (.tup [.int .i64 (if numOk t = true then atoiV t else 0), .bool (numOk t)]) := by
  have c := l00Number_fn t hl
  by_cases h : numOk t = true
  · rw [h, if_pos rfl] at c ⊢
    obtain ⟨n, e1, e2, h0, h1⟩ := num_of h
    refine VFn.introC Tryz.call276 Tryz.func276 rfl rfl ?_
    conv => whnf
    refine CallC.sca _ (c) ?_ ?_
    · exact rfl
    conv => whnf
    refine CallC.sca _ (digits_fn (atoiV t) (by omega) (by omega)) ?_ ?_
    · exact rfl
    refine And.intro trivial (AVle.of_eq (show AV.tup [.int .i64 (atoiV t), .bool ((B (Lib.itoa (atoiV t))).toList == (B t).toList)] = _ from ?_))
    rw [B_eq, e2, ← e1, decide_eq_true rfl]
  · have h : numOk t = false := by simpa using h
    rw [h, if_neg (by simp)] at c ⊢
    refine VFn.introC Tryz.call276 Tryz.func276 rfl rfl ?_
    conv => whnf
    refine CallC.sca _ (c) ?_ ?_
    · exact rfl
    exact And.intro trivial (AVle.refl _)
theorem l02Numbers_gen (t : List UInt8) (c : UInt8) (m : Nat) (hl : t.length ≤ 1000000) (R : AV) (hy : ∀ N, numsK c m t = some N → R = .tup [ints N, .bool true]) (hn : numsK c m t = none → R = .tup [.any, .bool false]) :
    VFn Tryz.prog 235 [.str (B t), .int .u8 c.toNat, .int .i64 (m : Int)] R := by
  have hcl := cutP_len c t []
  have hpl : ∀ x ∈ cutP c [] t, x.length ≤ t.length := fun x hx => by have := cutP_piece c t [] x hx; simpa using this
  obtain ⟨P, hP⟩ : ∃ P, P = cutP c [] t := ⟨_, rfl⟩
  have hK : numsK c m t = if P.length = m ∧ P.all numOk = true then some (P.map atoiV) else none := by unfold numsK; rw [← hP]
  have cut := l00Cut_fn t c (by omega)
  rw [← hP] at hcl hpl cut
  refine VFn.introC Tryz.call235 Tryz.func235 rfl rfl ?_
  conv => whnf
  refine CallC.nl _ (cut) ?_ ?_
  · exact rfl
  refine LoopC.mk (fun i : Nat => i ≤ P.length ∧ ∀ j, j < i → numOk (ix P j) = true) (fun i => [(2, .int .i64 (m : Int)), (8, txts P), (9, .osl 0), (10, .int .i64 i)])
    (fun i => [(0, .arr 3 1 ((P.take i).map atoiV).length fun j => [.int .i64 (ix ((P.take i).map atoiV) j)])]) 1 (fun i => P.length - i) 0
    ⟨⟨Nat.zero_le _, fun j hj => absurd hj (Nat.not_lt_zero j)⟩, [(0, 0)], rfl, rfl, ⟨AVle.refl _, AVle.refl _, AVle.refl _, AVle.refl _, trivial⟩, ⟨MOle.arr rfl fun i hi => absurd hi (Nat.not_lt_zero i), trivial⟩⟩ ?_
  intro i hi
  obtain ⟨hi, hall⟩ := hi
  refine Grd.intro (fun h2 => ?_) (fun h2 => ?_)
  · have hin : i < P.length := by have := of_decide_eq_true h2; omega
    refine And.intro (by omega) ?_
    conv => whnf
    refine CallC.sca _ (l02Number_fn (ix P i) (by have := hpl _ (getD_mem hin); omega)) ?_ ?_
    · exact rfl
    refine Grd.intro (fun h3 => ?_) (fun h3 => ?_)
    · have h3 : numOk (ix P i) = false := by simpa using (show (!numOk (ix P i)) = true from h3)
      have : ¬ P.all numOk = true := fun h => by rw [List.all_eq_true.1 h _ (getD_mem hin)] at h3; cases h3
      rw [hn (by rw [hK, if_neg (fun h => this h.2)])]
      exact And.intro trivial (AVle.tup (AVsle.cons (AVle.any _) (AVsle.cons (AVle.refl _) AVsle.nil)))
    have h3 : numOk (ix P i) = true := by simpa using (show (!numOk (ix P i)) = false from h3)
    refine And.intro ⟨show (((P.take i).map atoiV).length + 1) * 8 ≤ 140737488355328 by simp; omega, all1 rfl⟩ ?_
    refine And.intro (inI64 (by omega) (by omega)) ?_
    refine ⟨i + 1, ⟨hin, fun j hj => ?_⟩, by omega, [(2, 0)], rfl, rfl, ⟨AVle.refl _, AVle.refl _, AVle.refl _, AVle.of_eq (congrArg (AV.int .i64) (by simp)), trivial⟩, ⟨arr_next (f := fun x => [.int .i64 x]) (map_take_snoc hin) (by rw [h3, if_pos rfl]; rfl), trivial⟩⟩
    rcases Nat.lt_or_ge j i with h' | h'
    · exact hall j h'
    · rw [show j = i by omega]; exact h3
  · have : i = P.length := by have := of_decide_eq_false h2; omega
    subst this
    have hall' : P.all numOk = true := List.all_eq_true.2 fun x hx => by
      obtain ⟨j, hj, q⟩ := List.getElem_of_mem hx
      have := hall j hj
      rw [ix_lt hj, q] at this; exact this
    have e : P.take P.length = P := List.take_of_length_le (Nat.le_refl _)
    have el : ((((P.take P.length).map atoiV).length : Nat) : Int) = P.length := by rw [e, List.length_map]
    by_cases hm : P.length = m
    · rw [hy _ (by rw [hK, if_pos ⟨hm, hall'⟩])]
      exact And.intro trivial (AVle.tup (AVsle.cons (AVle.of_eq (congrArg ints (congrArg (List.map atoiV) e))) (AVsle.cons (AVle.of_eq (congrArg AV.bool (decide_eq_true (el.trans (by omega))))) AVsle.nil)))
    · rw [hn (by rw [hK, if_neg (fun h => hm h.1)])]
      exact And.intro trivial (AVle.tup (AVsle.cons (AVle.any _) (AVsle.cons (AVle.of_eq (congrArg AV.bool (decide_eq_false (fun h => hm (by have h := el.symm.trans h; omega))))) AVsle.nil)))
end Go.Proofs.YtcpedmcomfimpaaGreatDoor
set_option linter.unusedVariables false
set_option linter.constructorNameAsVariable false
set_option linter.unusedSimpArgs false
set_option maxRecDepth 20000
namespace Go.Proofs.YtcpedmcomfimpaaGreatDoor
open Go Go.Vw

theorem pre_all {α : Type} [Inhabited α] {L : List α} {p : α → Bool} (h : ∀ j, j < L.length → p (ix L j) = true) : L.all p = true := List.all_eq_true.2 fun x hx => by
  obtain ⟨j, hj, rfl⟩ := List.getElem_of_mem hx
  have := h j hj
  rwa [ix_lt hj] at this
theorem bad_all {α : Type} [Inhabited α] {L : List α} {p : α → Bool} {j : Nat} (hj : j < L.length) (h : p (ix L j) = false) : L.all p = false := by
  cases hq : L.all p
  · rfl
  · have := List.all_eq_true.1 hq _ (getD_mem hj)
    have this : p (ix L j) = true := this
    rw [h] at this; cases this
theorem nums2 {c : UInt8} {t : List UInt8} {N : List Int} (h : numsK c 2 t = some N) : ∃ a b, N = [a, b] := by
  unfold numsK at h
  split at h
  · rename_i hc
    injection h with h
    have : N.length = 2 := by rw [← h, List.length_map]; exact hc.1
    match N, this with
    | [a, b], _ => exact ⟨a, b, rfl⟩
  · cases h
def pOk (w : List UInt8) : Bool := (numsK 61 2 w).isSome
def pv (w : List UInt8) : Smp := match numsK 61 2 w with | some [a, b] => ⟨a, b⟩ | _ => default
theorem pv_some {w : List UInt8} (h : pOk w = true) : numsK 61 2 w = some [(pv w).t, (pv w).v] := by
  unfold pOk at h
  obtain ⟨N, hN⟩ := Option.isSome_iff_exists.1 h
  obtain ⟨a, b, rfl⟩ := nums2 hN
  unfold pv
  rw [hN]
theorem pv_none {w : List UInt8} (h : pOk w = false) : numsK 61 2 w = none := by
  unfold pOk at h
  cases hN : numsK 61 2 w
  · rfl
  · rw [hN] at h; cases h
def wds (t : List UInt8) : List (List UInt8) := if t = [] then [] else cutP 32 [] t
def pts (t : List UInt8) : List (List UInt8) := if t = [] then [] else Lib.splitN t [32] 9
theorem splitN_9 (t : List UInt8) : ((cutP 32 [] t).length ≤ 8 → Lib.splitN t [32] 9 = cutP 32 [] t) ∧ (8 < (cutP 32 [] t).length → (Lib.splitN t [32] 9).length = 9) := by
  have h1 := cutP_len 32 t []
  have h := splitK_cut 32 (min 9 (t.length + 1) - 1) t
  have e : Lib.splitN t [32] 9 = Lib.splitK [32] 0 (min 9 (t.length + 1) - 1) t := rfl
  rw [e]
  refine ⟨fun h2 => h.1 (by omega), fun h2 => ?_⟩
  rcases Nat.lt_or_ge 9 (cutP 32 [] t).length with h3 | h3
  · rw [h.2 (by omega)]; omega
  · rw [h.1 (by omega)]; omega
theorem splitK_piece (c : UInt8) : ∀ (k : Nat) (l : List UInt8), ∀ x ∈ Lib.splitK [c] 0 k l, x.length ≤ l.length
  | 0, l, x, hx => by
    simp [Lib.splitK] at hx
    rw [hx]; exact Nat.le_refl _
  | k + 1, l, x, hx => by
    rcases first_c c l with h | ⟨a, b, rfl, ha⟩
    · unfold Lib.splitK at hx
      rw [index_none c l h] at hx
      simp at hx
      rw [hx]; exact Nat.le_refl _
    · have e : Lib.splitK [c] 0 (k + 1) (a ++ c :: b) = a :: Lib.splitK [c] 0 k b := by
        rw [Lib.splitK, index_at c a b ha, if_neg (by simp <;> omega)]
        simp
      rw [e] at hx
      rcases List.mem_cons.1 hx with rfl | hx
      · simp
      · have := splitK_piece c k b x hx
        simp; omega
theorem pts_piece (t : List UInt8) : ∀ x ∈ pts t, x.length ≤ t.length := by
  intro x hx
  unfold pts at hx
  split at hx
  · cases hx
  · exact splitK_piece 32 _ t x hx
theorem pts_wds (t : List UInt8) : ((wds t).length ≤ 8 → pts t = wds t) ∧ (8 < (wds t).length → (pts t).length = 9) := by
  unfold pts wds
  split
  · exact ⟨fun _ => rfl, fun h => absurd h (by simp)⟩
  · exact splitN_9 t
theorem parts_fn (t : List UInt8) (hl : t.length ≤ 1048576) : VFn Tryz.prog 133 [.str (B t)] (txts (pts t)) := by
  have hb := B_nil t
  obtain ⟨R, hR⟩ : ∃ R, R = txts (pts t) := ⟨_, rfl⟩
  rw [← hR]
  refine VFn.introC Tryz.call133 Tryz.func133 rfl rfl ?_
  refine Grd.intro (fun g => ?_) (fun g => ?_)
  · have h : t = [] := of_decide_eq_true (hb.symm.trans g)
    have e : pts t = [] := by unfold pts; rw [if_pos h]
    rw [e] at hR
    subst hR
    exact And.intro trivial (AVle.nilsl _ _ rfl)
  · have h : ¬ t = [] := of_decide_eq_false (hb.symm.trans g)
    have e : pts t = Lib.splitN t [32] 9 := by unfold pts; rw [if_neg h]
    rw [e] at hR
    conv => whnf
    refine CallC.nl _ (SplitN_fn t 32 8 (by omega) (by decide)) ?_ ?_
    · exact rfl
    subst hR
    exact And.intro trivial (AVle.refl _)
def rdOk (t : List UInt8) : Bool := (wds t).all pOk && (smpsOK ((wds t).map pv) && decide (((wds t).length : Int) ≤ 8))
def rdV (t : List UInt8) : List Smp := (wds t).map pv
theorem rdOk_pts (t : List UInt8) : rdOk t = ((pts t).all pOk && (smpsOK ((pts t).map pv) && decide (((pts t).length : Int) ≤ 8))) := by
  have h := pts_wds t
  unfold rdOk
  rcases Nat.lt_or_ge 8 (wds t).length with h8 | h8
  · rw [decide_eq_false (show ¬ ((wds t).length : Int) ≤ 8 by omega), decide_eq_false (show ¬ ((pts t).length : Int) ≤ 8 by rw [h.2 h8]; decide)]
    simp
  · rw [h.1 h8]
theorem rdV_pts {t : List UInt8} (h : rdOk t = true) : rdV t = (pts t).map pv := by
  simp only [rdOk, Bool.and_eq_true, decide_eq_true_eq] at h
  unfold rdV
  rw [(pts_wds t).1 (by omega)]
theorem readSamples_gen (t : List UInt8) (hl : t.length ≤ 1048576) (R : AV) (hy : rdOk t = true → R = .tup [smps (rdV t), .bool true]) (hn : rdOk t = false → R = .tup [.any, .bool false]) : VFn Tryz.prog 54 [.str (B t)] R := by
  have e0 := rdOk_pts t
  have e1 := fun h => rdV_pts (t := t) h
  have hpl := pts_piece t
  have hc := parts_fn t hl
  obtain ⟨P, hP⟩ : ∃ P, P = pts t := ⟨_, rfl⟩
  rw [← hP] at e0 e1 hpl hc
  have hPl : P.length ≤ 9 := by
    rw [hP]
    rcases Nat.lt_or_ge 8 (wds t).length with h8 | h8
    · rw [(pts_wds t).2 h8]; omega
    · rw [(pts_wds t).1 h8]; omega
  clear hP
  refine VFn.introC Tryz.call54 Tryz.func54 rfl rfl ?_
  conv => whnf
  refine CallC.nl _ (hc) ?_ ?_
  · exact rfl
  refine LoopC.mk (fun i : Nat => i ≤ P.length ∧ ∀ j, j < i → pOk (ix P j) = true) (fun i => [(4, .osl 0), (11, txts P), (12, .int .i64 P.length), (13, .int .i64 i)])
    (fun i => [(0, .arr 108 2 ((P.take i).map pv).length fun j => (ix ((P.take i).map pv) j).row)]) 1 (fun i => P.length - i) 0
    ⟨⟨Nat.zero_le _, fun j hj => absurd hj (Nat.not_lt_zero j)⟩, [(0, 0)], rfl, rfl, ⟨AVle.refl _, AVle.refl _, AVle.refl _, AVle.refl _, trivial⟩, ⟨MOle.arr rfl fun i hi => absurd hi (Nat.not_lt_zero i), trivial⟩⟩ ?_
  intro i hi
  obtain ⟨hi, hall⟩ := hi
  refine Grd.intro (fun h2 => ?_) (fun h2 => ?_)
  · have hin : i < P.length := by have := of_decide_eq_true h2; omega
    have hpi := hpl _ (getD_mem hin)
    refine And.intro (by omega) ?_
    by_cases h3 : pOk (ix P i) = true
    · conv => whnf
      refine CallC.nl _ (numbers_yes (ix P i) 61 2 (by omega) (by decide) (pv_some h3)) ?_ ?_
      · exact rfl
      refine DrawC.mk 9 rfl (by kernel_rfl) ?_
      refine And.intro (by simp) ?_
      refine And.intro (by simp) ?_
      refine And.intro ⟨show (((P.take i).map pv).length + 1) * 16 ≤ 140737488355328 by simp; omega, all1 rfl⟩ ?_
      refine And.intro (inI64 (by omega) (by omega)) ?_
      refine ⟨i + 1, ⟨hin, fun j hj => ?_⟩, by omega, [(10, 0)], rfl, rfl, ⟨AVle.refl _, AVle.refl _, AVle.refl _, AVle.of_eq (congrArg (AV.int .i64) (by simp)), trivial⟩, ⟨arr_next (f := Smp.row) (map_take_snoc hin) rfl, trivial⟩⟩
      rcases Nat.lt_or_ge j i with h' | h'
      · exact hall j h'
      · rw [show j = i by omega]; exact h3
    · have h3 : pOk (ix P i) = false := by simpa using h3
      rw [hn (by rw [e0, bad_all hin h3]; rfl)]
      conv => whnf
      refine CallC.nl _ (numbers_no (ix P i) 61 2 (by omega) (by decide) (pv_none h3)) ?_ ?_
      · exact rfl
      exact And.intro trivial (AVle.tup (AVsle.cons (AVle.any _) (AVsle.cons (AVle.refl _) AVsle.nil)))
  · have : i = P.length := by have := of_decide_eq_false h2; omega
    subst this
    have e : P.take P.length = P := List.take_of_length_le (Nat.le_refl _)
    have hA : P.all pOk = true := pre_all hall
    rw [hA, Bool.true_and] at e0
    rw [e]
    cases hq : smpsOK (P.map pv)
    · have c := SamplesOK_fn (P.map pv)
      rw [hq] at c e0
      rw [hn e0]
      conv => whnf
      refine CallC.sca _ (c) ?_ ?_
      · exact rfl
      exact And.intro trivial (AVle.tup (AVsle.cons (AVle.any _) (AVsle.cons (AVle.refl _) AVsle.nil)))
    · have c := SamplesOK_fn (P.map pv)
      rw [hq, Bool.true_and] at e0
      rw [hq] at c
      conv => whnf
      refine CallC.sca _ (c) ?_ ?_
      · exact rfl
      rcases Int.lt_or_le 8 (P.length : Int) with h8 | h8
      · rw [hn (by rw [e0]; exact decide_eq_false (by omega))]
        conv => whnf
        exact And.intro trivial (AVle.tup (AVsle.cons (AVle.any _) (AVsle.cons (AVle.of_eq (congrArg AV.bool (decide_eq_false (by simp; omega)))) AVsle.nil)))
      · rw [hy (by rw [e0]; exact decide_eq_true h8), e1 (by rw [e0]; exact decide_eq_true h8)]
        conv => whnf
        exact And.intro trivial (AVle.tup (AVsle.cons (AVle.refl _) (AVsle.cons (AVle.of_eq (congrArg AV.bool (decide_eq_true (by simp; omega)))) AVsle.nil)))
theorem smpText_32 (s : Smp) : ∀ x ∈ smpText s, x ≠ 32 := by
  intro x hx
  unfold smpText at hx
  rw [join2] at hx
  simp only [List.mem_append, List.mem_singleton] at hx
  rcases hx with (hx | rfl) | hx
  · exact itoa_ne (by decide) (by decide) x hx
  · decide
  · exact itoa_ne (by decide) (by decide) x hx
theorem pv_text {s : Smp} (h : s.num) : pOk (smpText s) = true ∧ pv (smpText s) = s := by
  have e : numsK 61 2 (smpText s) = some [s.t, s.v] := nums_back (c := 61) (N := [s.t, s.v]) (by decide) (by decide) (by simp) (fun n hn => by
    obtain ⟨h1, h2⟩ := h
    simp only [List.mem_cons, List.not_mem_nil, or_false] at hn
    rcases hn with rfl | rfl <;> omega)
  unfold pOk pv
  rw [e]
  exact ⟨rfl, rfl⟩
theorem smpText_ne (s : Smp) : smpText s ≠ [] := by
  unfold smpText; rw [join2]; simp
theorem join_nil {L : List (List UInt8)} {c : UInt8} (h : ∀ x ∈ L, x ≠ []) (hL : L ≠ []) : Lib.join L [c] ≠ [] := by
  match L, hL with
  | [a], _ => rw [Lib.join_one]; exact h a (by simp)
  | a :: b :: r, _ =>
    have e : Lib.join (a :: b :: r) [c] = a ++ c :: Lib.join (b :: r) [c] := by simp [Lib.join, List.intercalate, List.intersperse]
    rw [e]; simp
theorem wds_join {L : List (List UInt8)} (h : ∀ x ∈ L, x ≠ []) (h2 : ∀ x ∈ L, ∀ b ∈ x, b ≠ 32) : wds (Lib.join L [32]) = L := by
  unfold wds
  by_cases hL : L = []
  · subst hL; rfl
  · rw [if_neg (join_nil h hL), cut_join 32 L hL h2]
theorem wds_smps (L : List Smp) : wds (smpsText L) = L.map smpText := by
  unfold smpsText
  exact wds_join (fun x hx => by obtain ⟨s, _, rfl⟩ := List.mem_map.1 hx; exact smpText_ne s) (fun x hx => by obtain ⟨s, _, rfl⟩ := List.mem_map.1 hx; exact smpText_32 s)
theorem rdV_text {L : List Smp} (h : ∀ s ∈ L, s.num) : rdV (smpsText L) = L := by
  unfold rdV
  rw [wds_smps, List.map_map]
  exact (List.map_congr_left fun s hs => (pv_text (h s hs)).2).trans (List.map_id' L)
theorem rdOk_text {L : List Smp} (h : ∀ s ∈ L, s.num) (hk : smpsOK L = true) (h8 : L.length ≤ 8) : rdOk (smpsText L) = true := by
  have e := rdV_text h
  unfold rdV at e
  unfold rdOk
  rw [e, hk, wds_smps, List.length_map, decide_eq_true (by omega)]
  simp only [Bool.and_true, List.all_map]
  exact List.all_eq_true.2 fun s hs => (pv_text (h s hs)).1
end Go.Proofs.YtcpedmcomfimpaaGreatDoor
set_option linter.unusedVariables false
set_option linter.constructorNameAsVariable false
set_option linter.unusedSimpArgs false
set_option maxRecDepth 20000
namespace Go.Proofs.YtcpedmcomfimpaaGreatDoor
open Go Go.Vw

end Go.Proofs.YtcpedmcomfimpaaGreatDoor
set_option linter.unusedVariables false
set_option linter.constructorNameAsVariable false
set_option linter.unusedSimpArgs false
set_option maxRecDepth 20000
namespace Go.Proofs.YtcpedmcomfimpaaGreatDoor
open Go Go.Vw

/-- the digits of a positive number, none of 0 -/
def posD : Nat → List UInt8
  | 0 => []
  | n + 1 => posD ((n + 1) / 10) ++ [d1 (n + 1)]
decreasing_by omega
def markT (k : Int) : List UInt8 := if k ≤ 0 then [109, 48] else 109 :: posD k.toNat
theorem posD_len : ∀ (k n : Nat), n < 10 ^ k → (posD n).length ≤ k
  | 0, n, h => by
    have : n = 0 := by simpa using h
    subst this; simp [posD]
  | k + 1, 0, h => by simp [posD]
  | k + 1, n + 1, h => by
    rw [posD]
    have := posD_len k ((n + 1) / 10) (by rw [Nat.pow_succ] at h; omega)
    simp; omega
/-- texts marked from a number on -/
def mkT (k : Int) (n : Nat) : List (List UInt8) := (List.range n).map fun j : Nat => markT (k + (j : Int))
end Go.Proofs.YtcpedmcomfimpaaGreatDoor
set_option linter.unusedVariables false
set_option linter.constructorNameAsVariable false
set_option linter.unusedSimpArgs false
set_option maxRecDepth 20000
namespace Go.Proofs.YtcpedmcomfimpaaGreatDoor
open Go Go.Vw

def Ob.size (e : Ob) : Nat := e.key.length + e.data.length
def mkO (k : Int) (i : Nat) : List AV := [.str (B (markT (k + 3 * i))), .int .i64 (k + 3 * i + 1), .str (B (markT (k + 3 * i + 1 + 1)))]
def stoN (s : Sto) : Nat := s.os.length + sumL Ob.size s.os
structure StoIn (s : Sto) : Prop where
  len : s.os.length ≤ 9223372036854775807
  sz : ∀ e ∈ s.os, e.key.length ≤ 9223372036854775807 ∧ e.data.length ≤ 9223372036854775807
  nxt : -9223372036854775808 ≤ s.next ∧ s.next ≤ 9223372036854775807
/-- no store -/
def sto0 : AV := .agg [.nilsl, .int .i64 0]
end Go.Proofs.YtcpedmcomfimpaaGreatDoor
set_option linter.unusedVariables false
set_option linter.constructorNameAsVariable false
set_option linter.unusedSimpArgs false
set_option maxRecDepth 20000
namespace Go.Proofs.YtcpedmcomfimpaaGreatDoor
open Go Go.Vw

def Rc.res (r : Rc) : List UInt8 := if r.ok = true then r.text else []
def Rc.code (r : Rc) : Int := if r.ok = true then 0 else 1
end Go.Proofs.YtcpedmcomfimpaaGreatDoor
set_option linter.unusedVariables false
set_option linter.constructorNameAsVariable false
set_option linter.unusedSimpArgs false
set_option maxRecDepth 20000
namespace Go.Proofs.YtcpedmcomfimpaaGreatDoor
open Go Go.Vw

def manK (n : Int) : List UInt8 := [109, 97, 110, 47] ++ six6 n.toNat
def appS (s : Sto) (n : Int) (r : Rc) : Sto × Int := s.putA (manK n) r.text
def appC (s : Sto) (n : Int) (r : Rc) : Int := if s.ok = true ∧ r.ok = true then (if within n 1 999999 = true then 0 else 4) else 1
end Go.Proofs.YtcpedmcomfimpaaGreatDoor
set_option linter.unusedVariables false
set_option linter.constructorNameAsVariable false
set_option linter.unusedSimpArgs false
set_option maxRecDepth 20000
namespace Go.Proofs.YtcpedmcomfimpaaGreatDoor
open Go Go.Vw

structure Tb where
  seq : Int
  key : List UInt8
  deriving Inhabited, DecidableEq
def Tb.row (e : Tb) : List AV := [.int .i64 e.seq, .str (B e.key)]
def Tb.av (e : Tb) : AV := .agg e.row
abbrev ents (L : List En) : AV := .sl 4 L.length fun i => (ix L i).row
abbrev tbs (L : List Tb) : AV := .sl 2 L.length fun i => (ix L i).row

end Go.Proofs.YtcpedmcomfimpaaGreatDoor
set_option linter.unusedVariables false
set_option linter.constructorNameAsVariable false
set_option linter.unusedSimpArgs false
set_option maxRecDepth 20000
namespace Go.Proofs.YtcpedmcomfimpaaGreatDoor
open Go Go.Vw

structure Sta where
  seq : Int
  fence : Int
  es : List En
  ts : List Tb
  l0 : Int
  l1 : Int
  l2 : Int
  h0 : Int
  h1 : Int
  h2 : Int
  deriving Inhabited, DecidableEq
def Sta.row (s : Sta) : List AV := [.int .i64 s.seq, .int .i64 s.fence, ents s.es, tbs s.ts, .int .i64 s.l0, .int .i64 s.l1, .int .i64 s.l2, .int .i64 s.h0, .int .i64 s.h1, .int .i64 s.h2]
def Sta.av (s : Sta) : AV := .agg s.row
def ofT (L : List En) (k : Int) : List En := L.filter fun e => decide (e.tier = k)
theorem ofT_snoc {L : List En} {i : Nat} (h : i < L.length) (k : Int) : ofT (L.take (i + 1)) k = if (ix L i).tier = k then ofT (L.take i) k ++ [ix L i] else ofT (L.take i) k := by
  unfold ofT
  rw [take_snoc h, List.filter_append]
  by_cases hk : (ix L i).tier = k
  · rw [if_pos hk]; simp [hk]
  · rw [if_neg hk]; simp [hk]
/-- keys met, each once -/
def addK (ks : List (List UInt8)) (k : List UInt8) : List (List UInt8) := if k ∈ ks then ks else ks ++ [k]
def ddk (L : List (List UInt8)) : List (List UInt8) := L.foldl addK []
/-- entries one beside the other, from a moment on: where they end -/
def runs : List En → Int → Option Int
  | [], a => some a
  | e :: r, a => if e.f = a then runs r e.t else none
def atN (a : Int) (L : List En) : Nat → Int
  | 0 => a
  | i + 1 => (ix L i).t
def tierOK (L : List En) (lo hi : Int) (k : Int) : Bool := within lo 0 100000 && decide (runs (ofT L k) lo = some hi)
def tbOK (n : Int) (t : Tb) : Bool := kOk t.key && within t.seq 1 n
def Sta.keys (s : Sta) : List (List UInt8) := s.es.map (·.key) ++ s.ts.map (·.key)
def Sta.ok (s : Sta) : Bool :=
  within s.seq 0 999999 && (within s.fence 0 999999 && (decide (((s.es.length : Nat) : Int) + ((s.ts.length : Nat) : Int) ≤ 4096) && (s.es.all En.ok && (s.ts.all (tbOK s.seq) && (decide s.keys.Nodup &&
    (tierOK s.es s.l0 s.h0 0 && (tierOK s.es s.l1 s.h1 1 && tierOK s.es s.l2 s.h2 2)))))))
end Go.Proofs.YtcpedmcomfimpaaGreatDoor
set_option linter.unusedVariables false
set_option linter.constructorNameAsVariable false
set_option linter.unusedSimpArgs false
set_option maxRecDepth 20000
namespace Go.Proofs.YtcpedmcomfimpaaGreatDoor
open Go Go.Vw

def En.rc (e : En) : Rc := ⟨0, 0, e.tier, e.f, e.t, e.key⟩
/-- where a tier's entries end -/
def endE (L : List En) (lo : Int) (k : Int) : Int := match (ofT L k).getLast? with | some e => e.t | none => lo
theorem endE_snoc {L : List En} {i : Nat} (h : i < L.length) (lo k : Int) : endE (L.take (i + 1)) lo k = if (ix L i).tier = k then (ix L i).t else endE (L.take i) lo k := by
  unfold endE
  rw [ofT_snoc h]
  by_cases hk : (ix L i).tier = k
  · rw [if_pos hk, if_pos hk]; simp
  · rw [if_neg hk, if_neg hk]
def Sta.lo (s : Sta) (k : Int) : Int := if k = 0 then s.l0 else if k = 1 then s.l1 else s.l2
def Sta.hi (s : Sta) (k : Int) : Int := if k = 0 then s.h0 else if k = 1 then s.h1 else s.h2
def Sta.eOK (s : Sta) (i : Nat) : Bool := (ix s.es i).ok && (decide ((ix s.es i).f = endE (s.es.take i) (s.lo (ix s.es i).tier) (ix s.es i).tier) && !decide ((ix s.es i).key ∈ (s.es.take i).map (·.key)))
def Sta.tOK (s : Sta) (i : Nat) : Bool := tbOK s.seq (ix s.ts i) && !decide ((ix s.ts i).key ∈ s.es.map (·.key) ++ (s.ts.take i).map (·.key))
def Sta.ok' (s : Sta) : Bool :=
  within s.seq 0 999999 && (within s.fence 0 999999 && (decide (((s.es.length : Nat) : Int) + ((s.ts.length : Nat) : Int) ≤ 4096) && (allN s.es.length s.eOK && (allN s.ts.length s.tOK &&
    ((within s.l0 0 100000 && decide (s.h0 = endE s.es s.l0 0)) && ((within s.l1 0 100000 && decide (s.h1 = endE s.es s.l1 1)) && (within s.l2 0 100000 && decide (s.h2 = endE s.es s.l2 2))))))))
end Go.Proofs.YtcpedmcomfimpaaGreatDoor
set_option linter.unusedVariables false
set_option linter.constructorNameAsVariable false
set_option linter.unusedSimpArgs false
set_option maxRecDepth 20000
namespace Go.Proofs.YtcpedmcomfimpaaGreatDoor
open Go Go.Vw

theorem runs_snoc : ∀ (L : List En) (e : En) (a : Int), runs (L ++ [e]) a = (runs L a).bind fun b => if e.f = b then some e.t else none
  | [], e, a => by simp [runs]
  | x :: r, e, a => by
    rw [List.cons_append]; unfold runs
    by_cases h : x.f = a
    · rw [if_pos h, if_pos h]; exact runs_snoc r e x.t
    · rw [if_neg h, if_neg h]; rfl
theorem runs_end : ∀ (L : List En) (a b : Int), runs L a = some b → b = match L.getLast? with | some e => e.t | none => a
  | [], a, b, h => by cases h; rfl
  | x :: r, a, b, h => by
    unfold runs at h
    by_cases hx : x.f = a
    · rw [if_pos hx] at h
      have := runs_end r x.t b h
      cases r with
      | nil => exact this
      | cons y r => rw [this, List.getLast?_cons_cons]; cases hq : (y :: r).getLast? with
        | none => simp at hq
        | some z => rfl
    · rw [if_neg hx] at h; cases h
theorem runs_endE {L : List En} {k a b : Int} (h : runs (ofT L k) a = some b) : b = endE L a k := runs_end _ _ _ h
def sideBy (s : Sta) (m : Nat) : Prop := ∀ k, (k = 0 ∨ k = 1 ∨ k = 2) → runs (ofT (s.es.take m) k) (s.lo k) = some (endE (s.es.take m) (s.lo k) k)
theorem sideBy_iff (s : Sta) (ht : ∀ e ∈ s.es, e.tier = 0 ∨ e.tier = 1 ∨ e.tier = 2) : ∀ m, m ≤ s.es.length →
    ((∀ i, i < m → (ix s.es i).f = endE (s.es.take i) (s.lo (ix s.es i).tier) (ix s.es i).tier) ↔ sideBy s m)
  | 0, _ => ⟨fun _ k _ => rfl, fun _ i hi => absurd hi (Nat.not_lt_zero i)⟩
  | m + 1, hm => by
    have hin : m < s.es.length := hm
    have ih := sideBy_iff s ht m (by omega)
    have hs := fun k => ofT_snoc hin k
    have he := fun lo k => endE_snoc hin lo k
    have hte := ht _ (getD_mem hin)
    constructor
    · intro h k hk
      have h0 := ih.1 (fun i hi => h i (by omega)) k hk
      rw [hs, he]
      by_cases hkt : (ix s.es m).tier = k
      · rw [if_pos hkt, if_pos hkt, runs_snoc, h0]
        have := h m (by omega)
        rw [hkt] at this
        simp [this]
      · rw [if_neg hkt, if_neg hkt]; exact h0
    · intro h
      have hprev : sideBy s m := fun k hk => by
        have h1 := h k hk
        rw [hs] at h1
        by_cases hkt : (ix s.es m).tier = k
        · rw [if_pos hkt, runs_snoc] at h1
          cases hr : runs (ofT (s.es.take m) k) (s.lo k) with
          | none => rw [hr] at h1; cases h1
          | some b => rw [runs_endE hr]
        · rw [if_neg hkt] at h1
          rw [h1, runs_endE h1]
      intro i hi
      rcases Nat.lt_or_ge i m with h' | h'
      · exact ih.2 hprev i h'
      · have : i = m := by omega
        subst this
        have h1 := h _ hte
        rw [hs, if_pos rfl, runs_snoc, hprev _ hte] at h1
        simp only [Option.bind_some] at h1
        by_cases hf : (ix s.es i).f = endE (s.es.take i) (s.lo (ix s.es i).tier) (ix s.es i).tier
        · exact hf
        · rw [if_neg hf] at h1; cases h1
theorem allN_iff {n : Nat} {p : Nat → Bool} : allN n p = true ↔ ∀ i, i < n → p i = true := by
  unfold allN; rw [List.all_eq_true]; simp
end Go.Proofs.YtcpedmcomfimpaaGreatDoor
set_option linter.unusedVariables false
set_option linter.constructorNameAsVariable false
set_option linter.unusedSimpArgs false
set_option maxRecDepth 20000
namespace Go.Proofs.YtcpedmcomfimpaaGreatDoor
open Go Go.Vw

def Sta.tombAt (s : Sta) (k : List UInt8) : Int := fi (fun t : Tb => decide (t.key = k)) s.ts
def Sta.has (s : Sta) (k : List UInt8) : Bool := s.es.any (fun e => decide (e.key = k)) || decide (0 ≤ s.tombAt k)
end Go.Proofs.YtcpedmcomfimpaaGreatDoor
set_option linter.unusedVariables false
set_option linter.constructorNameAsVariable false
set_option linter.unusedSimpArgs false
set_option maxRecDepth 20000
namespace Go.Proofs.YtcpedmcomfimpaaGreatDoor
open Go Go.Vw

end Go.Proofs.YtcpedmcomfimpaaGreatDoor
set_option linter.unusedVariables false
set_option linter.constructorNameAsVariable false
set_option linter.unusedSimpArgs false
set_option maxRecDepth 20000
namespace Go.Proofs.YtcpedmcomfimpaaGreatDoor
open Go Go.Vw

def En.size (e : En) : Nat := e.key.length
def Tb.size (e : Tb) : Nat := e.key.length
def Sta.size (s : Sta) : Nat := (s.es.length + sumL En.size s.es) + (s.ts.length + sumL Tb.size s.ts)
/-- what is read of a state -/
def Sta.read (s : Sta) : Prop := s.es.length ≤ 9223372036854775807 ∧ s.ts.length ≤ 9223372036854775807 ∧ (∀ e ∈ s.es, e.size ≤ 9223372036854775807) ∧ ∀ e ∈ s.ts, e.size ≤ 9223372036854775807
theorem Sta.small {s : Sta} (h : (s.size : Int) ≤ 1048576) : s.es.length ≤ 1048576 ∧ s.ts.length ≤ 1048576 ∧ (∀ e ∈ s.es, e.key.length ≤ 1048576) ∧ ∀ e ∈ s.ts, e.key.length ≤ 1048576 := by
  unfold Sta.size at h
  refine ⟨by omega, by omega, fun e he => ?_, fun e he => ?_⟩
  · have := sum_mem (f := En.size) he
    have e' : e.size = e.key.length := rfl
    omega
  · have := sum_mem (f := Tb.size) he
    have e' : e.size = e.key.length := rfl
    omega
end Go.Proofs.YtcpedmcomfimpaaGreatDoor
set_option linter.unusedVariables false
set_option linter.constructorNameAsVariable false
set_option linter.unusedSimpArgs false
set_option maxRecDepth 20000
namespace Go.Proofs.YtcpedmcomfimpaaGreatDoor
open Go Go.Vw

def wd (k : Int) : Int := if k = 0 then 1 else if k = 1 then 5 else 20
/-- the tier whose next window is due: 0, none -/
def dueT (h0 h1 h2 : Int) : Int := if h1 + 5 ≤ h0 then 1 else if h2 + 20 ≤ h1 then 2 else 0
def dueF (h0 h1 h2 : Int) : Int := if h1 + 5 ≤ h0 then h1 else if h2 + 20 ≤ h1 then h2 else 0
/-- how many windows are due -/
def dueN : Nat → Int → Int → Int → Int
  | 0, _, _, _ => 0
  | f + 1, h0, h1, h2 => if h1 + 5 ≤ h0 then 1 + dueN f h0 (h1 + 5) h2 else if h2 + 20 ≤ h1 then 1 + dueN f h0 h1 (h2 + 20) else 0
theorem dueN_b : ∀ f h0 h1 h2, 0 ≤ dueN f h0 h1 h2 ∧ dueN f h0 h1 h2 ≤ f
  | 0, _, _, _ => by simp [dueN]
  | f + 1, h0, h1, h2 => by
    have a := dueN_b f h0 (h1 + 5) h2
    have b := dueN_b f h0 h1 (h2 + 20)
    unfold dueN
    split
    · omega
    · split <;> omega
def Sta.h (s : Sta) (a b : Int) : Sta := { s with h1 := a, h2 := b }
def Sta.due (s : Sta) : Int := dueN 300000 s.h0 s.h1 s.h2
end Go.Proofs.YtcpedmcomfimpaaGreatDoor
set_option linter.unusedVariables false
set_option linter.constructorNameAsVariable false
set_option linter.unusedSimpArgs false
set_option maxRecDepth 20000
namespace Go.Proofs.YtcpedmcomfimpaaGreatDoor
open Go Go.Vw

def headIs (L : List En) (e : En) : Bool := match L with | x :: _ => decide (x = e) | [] => false
def Sta.takes (s : Sta) (r : Rc) : Bool :=
  if r.k = 1 then decide (r.f = s.h0) && (decide (kN r.key = s.seq + 1) && !s.has r.key)
  else if r.k = 2 then decide (s.fence < r.tok)
  else if r.k = 3 then decide (r.tok = s.fence) && (decide (r.f = s.hi r.tier) && (decide (kN r.key = r.f) && (decide (kW r.key = r.tok) && (decide (r.t = r.f + wd r.tier) && (decide (r.t ≤ s.hi (r.tier - 1)) && (decide (s.lo (r.tier - 1) ≤ r.f) && !s.has r.key))))))
  else if r.k = 4 then decide (r.tok = s.fence) && (headIs (ofT s.es r.tier) r.en && (decide (r.tier = 2) || decide (r.t ≤ s.hi (r.tier + 1))))
  else decide (0 ≤ s.tombAt r.key)
end Go.Proofs.YtcpedmcomfimpaaGreatDoor
