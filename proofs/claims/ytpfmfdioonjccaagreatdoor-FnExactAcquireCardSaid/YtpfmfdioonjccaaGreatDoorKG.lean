/- Numbers by the reference: contracts; the conditions are the theorems' own. -/
import Derived.Test.YtpfmfdioonjccaaGreatDoorKF
import Derived.Test.YtpfmfdioonjccaaGreatDoorGV
import Derived.Test.YtpfmfdioonjccaaGreatDoorGK
import Derived.Test.YtpfmfdioonjccaaGreatDoorGJ
import Derived.Test.YtpfmfdioonjccaaGreatDoorV41
set_option linter.unusedVariables false
set_option linter.constructorNameAsVariable false
set_option linter.unusedSimpArgs false
set_option maxRecDepth 20000
namespace Go.Proofs.YtpfmfdioonjccaaGreatDoor
open Go Go.Vw

theorem force_to {x y : AV} {k : AV → Prop} (e : x = y) (h : y.force k) : x.force k := e ▸ h
theorem nbOk_no {neg : Bool} {b : List UInt8} (h : 18 < b.length ∨ (b.headD 0 = 48 ∧ (1 < b.length ∨ neg = true)) ∨ b.all dig = false) : nbOk neg b = false := by
  cases hb : nbOk neg b
  · rfl
  · obtain ⟨_, h2, h3, h4⟩ := nbOk_iff.1 hb
    rcases h with h | ⟨h, h'⟩ | h
    · omega
    · obtain ⟨h5, h6⟩ := h3 h
      rcases h' with h' | h'
      · exact absurd h' h5
      · rw [h6] at h'; cases h'
    · rw [h4] at h; cases h
theorem l00Neg_fn (b : List UInt8) (hl : b.length ≤ 1000000000) (hb0 : b ≠ []) (R : AV) (hy : numOk (45 :: b) = true → R = .tup [.int .i64 (-(numB 0 b : Int)), .bool true]) (hn : numOk (45 :: b) = false → R = .tup [.int .i64 0, .bool false]) : VFn Tryz.prog 320 [.str (B (45 :: b))] R := by
  have hk := numOk_neg b
  have hsz : ((B (45 :: b)).size : Int) = b.length + 1 := by rw [B_size]; rfl
  refine VFn.introC Tryz.call320 Tryz.func320 rfl rfl ?_
  refine Grd.intro (fun g1 => ?_) (fun g1 => absurd (of_decide_eq_false g1) (by omega))
  refine And.intro ⟨by omega, by omega⟩ ?_
  refine And.intro ⟨by omega, by omega⟩ ?_
  refine force_to (congrArg AV.str (show (B (45 :: b)).extract (Int.toNat 1) (B (45 :: b)).size = B b by rw [B_extract, B_size]; simp)) ?_
  have hno : nbOk true b = false → numOk (45 :: b) = false := fun h => hk.1.trans h
  refine Grd.intro (fun h1 => ?_) (fun h1 => ?_)
  · have hb0' : b = [] := by have h : (((B b).size : Nat) : Int) = 0 := of_decide_eq_true h1; rw [B_size] at h; exact List.length_eq_zero_iff.1 (by omega)
    exact absurd hb0' hb0
  have hb1 : 1 ≤ b.length := by cases hbb : b with | nil => exact absurd hbb hb0 | cons _ _ => simp
  refine Grd.intro (fun h2 => ?_) (fun h2 => ?_)
  · have hb2 : 18 < b.length := by have h : (18 : Int) < (((B b).size : Nat) : Int) := of_decide_eq_true h2; rw [B_size] at h; omega
    rw [hn (hno (nbOk_no (.inl hb2)))]
    exact And.intro trivial (AVle.refl _)
  have hb2 : b.length ≤ 18 := by have h : ¬ (18 : Int) < (((B b).size : Nat) : Int) := of_decide_eq_false h2; rw [B_size] at h; omega
  refine And.intro ⟨by omega, by rw [B_size]; omega⟩ ?_
  have hix : (B b).data.toList.getD (Int.toNat 0) 0 = b.headD 0 := by rw [B_data]; cases b <;> rfl
  refine Grd.intro (fun h3 => ?_) (fun h3 => ?_)
  · have h3 : b.headD 0 = 48 := hix.symm.trans (UInt8.toNat_inj.1 (by have h : (((B b).data.toList.getD (Int.toNat 0) 0).toNat : Int) = 48 := of_decide_eq_true h3; exact Int.ofNat.inj h))
    refine Grd.intro (fun h4 => ?_) (fun h4 => ?_)
    · have h4 : 1 < b.length := by have h : (1 : Int) < (((B b).size : Nat) : Int) := of_decide_eq_true h4; rw [B_size] at h; omega
      rw [hn (hno (nbOk_no (.inr (.inl ⟨h3, .inl h4⟩))))]
      exact And.intro trivial (AVle.refl _)
    have h4 : ¬ 1 < b.length := by have h : ¬ (1 : Int) < (((B b).size : Nat) : Int) := of_decide_eq_false h4; rw [B_size] at h; omega
    rw [hn (hno (nbOk_no (.inr (.inl ⟨h3, .inr rfl⟩))))]
    exact And.intro trivial (AVle.refl _)
  · have h3 : b.headD 0 ≠ 48 := fun e => (of_decide_eq_false (p := ((((B b).data.toList.getD (Int.toNat 0) 0).toNat : Nat) : Int) = 48) h3) (by rw [hix, e]; rfl)
    have hgood : b.all dig = true → R = .tup [.int .i64 ((-1) * (numB 0 b : Int)), .bool true] := fun h => (hy (hk.1.trans (nbOk_iff.2 ⟨hb0, hb2, (fun e => absurd e h3), h⟩))).trans (congrArg (fun z => AV.tup [AV.int .i64 z, AV.bool true]) (by omega))
    refine LoopC.mk (fun i : Nat => i ≤ b.length ∧ (b.take i).all dig = true ∧ numB 0 (b.take i) < 10 ^ i) (fun i => [(0, .str (B b)), (4, .int .i64 (-1)), (5, .int .i64 (numB 0 (b.take i))), (6, .int .i64 i)]) (fun _ => []) 0 (fun i => b.length - i) 0
      ⟨⟨by omega, rfl, Nat.one_pos⟩, [], rfl, rfl, ⟨AVle.refl _, AVle.refl _, AVle.refl _, AVle.refl _, trivial⟩, trivial⟩ ?_
    intro i hi
    obtain ⟨hi1, hi2, hi3⟩ := hi
    refine Grd.intro (fun h5 => ?_) (fun h5 => ?_)
    · have hin : i < b.length := by have h : (i : Int) < (((B b).size : Nat) : Int) := of_decide_eq_true h5; rw [B_size] at h; omega
      have hp := pow_le18 (i := i) (by omega)
      have bad : dig (ix b i) = false → R = .tup [.int .i64 0, .bool false] := fun h => hn (hno (nbOk_no (.inr (.inr (by
        rw [← Bool.not_eq_true]
        intro h'
        rw [List.all_eq_true.1 h' _ (getD_mem hin)] at h; cases h)))))
      refine And.intro ⟨by omega, by rw [B_size]; omega⟩ ?_
      refine Grd.intro (fun h6 => ?_) (fun h6 => ?_)
      · have h6 : ((ix b i).toNat : Int) < 48 := of_decide_eq_true h6
        rw [bad (decide_eq_false (by omega))]
        exact And.intro trivial (AVle.refl _)
      have h6 : ¬ ((ix b i).toNat : Int) < 48 := of_decide_eq_false h6
      refine And.intro ⟨by omega, by rw [B_size]; omega⟩ ?_
      refine Grd.intro (fun h7 => ?_) (fun h7 => ?_)
      · have h7 : (57 : Int) < ((ix b i).toNat : Int) := of_decide_eq_true h7
        rw [bad (decide_eq_false (by omega))]
        exact And.intro trivial (AVle.refl _)
      have h7 : ¬ (57 : Int) < ((ix b i).toNat : Int) := of_decide_eq_false h7
      have hd : dig (ix b i) = true := decide_eq_true (by omega)
      have hnt := numB_take hin
      refine And.intro (inI64 (by omega) (by omega)) ?_
      refine And.intro ⟨by omega, by rw [B_size]; omega⟩ ?_
      refine And.intro (show inI .i64 ((ix b i).toNat : Int) from inI64 (by omega) (by omega)) ?_
      refine And.intro (show inI .i64 ((numB 0 (b.take i) : Int) * 10 + ((ix b i).toNat : Int)) from inI64 (by omega) (by omega)) ?_
      refine And.intro (show inI .i64 ((numB 0 (b.take i) : Int) * 10 + ((ix b i).toNat : Int) - 48) from inI64 (by omega) (by omega)) ?_
      refine And.intro (inI64 (by omega) (by omega)) ?_
      refine ⟨i + 1, ⟨hin, ?_, ?_⟩, by omega, [], rfl, rfl, ⟨AVle.refl _, AVle.refl _, AVle.of_eq (congrArg (AV.int .i64) (show (numB 0 (b.take i) : Int) * 10 + ((ix b i).toNat : Int) - 48 = _ by rw [hnt]; omega)), AVle.of_eq (congrArg (AV.int .i64) (by simp)), trivial⟩, trivial⟩
      · rw [take_snoc hin, List.all_append, hi2]; simp [hd]
      · rw [hnt, Nat.pow_succ]; omega
    · have : i = b.length := by have h : ¬ (i : Int) < (((B b).size : Nat) : Int) := of_decide_eq_false h5; rw [B_size] at h; omega
      subst this
      rw [List.take_of_length_le (Nat.le_refl _)] at hi2
      have hN := numB_18 hi2 hb2
      have e : b.take b.length = b := List.take_of_length_le (Nat.le_refl _)
      refine And.intro (show inI .i64 ((-1) * (numB 0 (b.take b.length) : Int)) from inI64 (by rw [e]; omega) (by rw [e]; omega)) ?_
      rw [hgood hi2]
      exact And.intro trivial (AVle.of_eq (congrArg (fun z => AV.tup [AV.int .i64 z, AV.bool true]) (show (-1) * (numB 0 (b.take b.length) : Int) = _ by rw [e])))
theorem l00Pos_fn (b : List UInt8) (hl : b.length ≤ 1000000000) (hb0 : b ≠ []) (hh : b.headD 0 ≠ 45) (R : AV) (hy : numOk b = true → R = .tup [.int .i64 (numB 0 b : Int), .bool true]) (hn : numOk b = false → R = .tup [.int .i64 0, .bool false]) : VFn Tryz.prog 320 [.str (B b)] R := by
  have hk := numOk_pos hh
  have hlen : 1 ≤ b.length := by cases hbb : b with | nil => exact absurd hbb hb0 | cons _ _ => simp
  refine VFn.introC Tryz.call320 Tryz.func320 rfl rfl ?_
  refine Grd.intro (fun g1 => ?_) (fun g1 => absurd (of_decide_eq_false (p := (0 : Int) < (((B b).size : Nat) : Int)) g1) (fun h => h (by rw [B_size]; omega)))
  refine And.intro ⟨by omega, by rw [B_size]; omega⟩ ?_
  have hix : (B b).data.toList.getD (Int.toNat 0) 0 = b.headD 0 := by rw [B_data]; cases b <;> rfl
  refine Grd.intro (fun g2 => absurd (hix.symm.trans (UInt8.toNat_inj.1 (by have h : (((B b).data.toList.getD (Int.toNat 0) 0).toNat : Int) = 45 := of_decide_eq_true g2; exact Int.ofNat.inj h))) hh) (fun g2 => ?_)
  have hno : nbOk false b = false → numOk b = false := fun h => hk.1.trans h
  refine Grd.intro (fun h1 => ?_) (fun h1 => ?_)
  · have hb0' : b = [] := by have h : (((B b).size : Nat) : Int) = 0 := of_decide_eq_true h1; rw [B_size] at h; exact List.length_eq_zero_iff.1 (by omega)
    exact absurd hb0' hb0
  have hb1 : 1 ≤ b.length := by cases hbb : b with | nil => exact absurd hbb hb0 | cons _ _ => simp
  refine Grd.intro (fun h2 => ?_) (fun h2 => ?_)
  · have hb2 : 18 < b.length := by have h : (18 : Int) < (((B b).size : Nat) : Int) := of_decide_eq_true h2; rw [B_size] at h; omega
    rw [hn (hno (nbOk_no (.inl hb2)))]
    exact And.intro trivial (AVle.refl _)
  have hb2 : b.length ≤ 18 := by have h : ¬ (18 : Int) < (((B b).size : Nat) : Int) := of_decide_eq_false h2; rw [B_size] at h; omega
  refine And.intro ⟨by omega, by rw [B_size]; omega⟩ ?_
  have hix : (B b).data.toList.getD (Int.toNat 0) 0 = b.headD 0 := by rw [B_data]; cases b <;> rfl
  refine Grd.intro (fun h3 => ?_) (fun h3 => ?_)
  · have h3 : b.headD 0 = 48 := hix.symm.trans (UInt8.toNat_inj.1 (by have h : (((B b).data.toList.getD (Int.toNat 0) 0).toNat : Int) = 48 := of_decide_eq_true h3; exact Int.ofNat.inj h))
    refine Grd.intro (fun h4 => ?_) (fun h4 => ?_)
    · have h4 : 1 < b.length := by have h : (1 : Int) < (((B b).size : Nat) : Int) := of_decide_eq_true h4; rw [B_size] at h; omega
      rw [hn (hno (nbOk_no (.inr (.inl ⟨h3, .inl h4⟩))))]
      exact And.intro trivial (AVle.refl _)
    have h4 : ¬ 1 < b.length := by have h : ¬ (1 : Int) < (((B b).size : Nat) : Int) := of_decide_eq_false h4; rw [B_size] at h; omega
    have hgood : b.all dig = true → R = .tup [.int .i64 (1 * (numB 0 b : Int)), .bool true] := fun h => (hy (hk.1.trans (nbOk_iff.2 ⟨hb0, hb2, (fun _ => ⟨h4, rfl⟩), h⟩))).trans (congrArg (fun z => AV.tup [AV.int .i64 z, AV.bool true]) (by omega))
    refine LoopC.mk (fun i : Nat => i ≤ b.length ∧ (b.take i).all dig = true ∧ numB 0 (b.take i) < 10 ^ i) (fun i => [(0, .str (B b)), (4, .int .i64 1), (5, .int .i64 (numB 0 (b.take i))), (6, .int .i64 i)]) (fun _ => []) 0 (fun i => b.length - i) 0
      ⟨⟨by omega, rfl, Nat.one_pos⟩, [], rfl, rfl, ⟨AVle.refl _, AVle.refl _, AVle.refl _, AVle.refl _, trivial⟩, trivial⟩ ?_
    intro i hi
    obtain ⟨hi1, hi2, hi3⟩ := hi
    refine Grd.intro (fun h5 => ?_) (fun h5 => ?_)
    · have hin : i < b.length := by have h : (i : Int) < (((B b).size : Nat) : Int) := of_decide_eq_true h5; rw [B_size] at h; omega
      have hp := pow_le18 (i := i) (by omega)
      have bad : dig (ix b i) = false → R = .tup [.int .i64 0, .bool false] := fun h => hn (hno (nbOk_no (.inr (.inr (by
        rw [← Bool.not_eq_true]
        intro h'
        rw [List.all_eq_true.1 h' _ (getD_mem hin)] at h; cases h)))))
      refine And.intro ⟨by omega, by rw [B_size]; omega⟩ ?_
      refine Grd.intro (fun h6 => ?_) (fun h6 => ?_)
      · have h6 : ((ix b i).toNat : Int) < 48 := of_decide_eq_true h6
        rw [bad (decide_eq_false (by omega))]
        exact And.intro trivial (AVle.refl _)
      have h6 : ¬ ((ix b i).toNat : Int) < 48 := of_decide_eq_false h6
      refine And.intro ⟨by omega, by rw [B_size]; omega⟩ ?_
      refine Grd.intro (fun h7 => ?_) (fun h7 => ?_)
      · have h7 : (57 : Int) < ((ix b i).toNat : Int) := of_decide_eq_true h7
        rw [bad (decide_eq_false (by omega))]
        exact And.intro trivial (AVle.refl _)
      have h7 : ¬ (57 : Int) < ((ix b i).toNat : Int) := of_decide_eq_false h7
      have hd : dig (ix b i) = true := decide_eq_true (by omega)
      have hnt := numB_take hin
      refine And.intro (inI64 (by omega) (by omega)) ?_
      refine And.intro ⟨by omega, by rw [B_size]; omega⟩ ?_
      refine And.intro (show inI .i64 ((ix b i).toNat : Int) from inI64 (by omega) (by omega)) ?_
      refine And.intro (show inI .i64 ((numB 0 (b.take i) : Int) * 10 + ((ix b i).toNat : Int)) from inI64 (by omega) (by omega)) ?_
      refine And.intro (show inI .i64 ((numB 0 (b.take i) : Int) * 10 + ((ix b i).toNat : Int) - 48) from inI64 (by omega) (by omega)) ?_
      refine And.intro (inI64 (by omega) (by omega)) ?_
      refine ⟨i + 1, ⟨hin, ?_, ?_⟩, by omega, [], rfl, rfl, ⟨AVle.refl _, AVle.refl _, AVle.of_eq (congrArg (AV.int .i64) (show (numB 0 (b.take i) : Int) * 10 + ((ix b i).toNat : Int) - 48 = _ by rw [hnt]; omega)), AVle.of_eq (congrArg (AV.int .i64) (by simp)), trivial⟩, trivial⟩
      · rw [take_snoc hin, List.all_append, hi2]; simp [hd]
      · rw [hnt, Nat.pow_succ]; omega
    · have : i = b.length := by have h : ¬ (i : Int) < (((B b).size : Nat) : Int) := of_decide_eq_false h5; rw [B_size] at h; omega
      subst this
      rw [List.take_of_length_le (Nat.le_refl _)] at hi2
      have hN := numB_18 hi2 hb2
      have e : b.take b.length = b := List.take_of_length_le (Nat.le_refl _)
      refine And.intro (show inI .i64 (1 * (numB 0 (b.take b.length) : Int)) from inI64 (by rw [e]; omega) (by rw [e]; omega)) ?_
      rw [hgood hi2]
      exact And.intro trivial (AVle.of_eq (congrArg (fun z => AV.tup [AV.int .i64 z, AV.bool true]) (show 1 * (numB 0 (b.take b.length) : Int) = _ by rw [e])))
  · have h3 : b.headD 0 ≠ 48 := fun e => (of_decide_eq_false (p := ((((B b).data.toList.getD (Int.toNat 0) 0).toNat : Nat) : Int) = 48) h3) (by rw [hix, e]; rfl)
    have hgood : b.all dig = true → R = .tup [.int .i64 (1 * (numB 0 b : Int)), .bool true] := fun h => (hy (hk.1.trans (nbOk_iff.2 ⟨hb0, hb2, (fun e => absurd e h3), h⟩))).trans (congrArg (fun z => AV.tup [AV.int .i64 z, AV.bool true]) (by omega))
    refine LoopC.mk (fun i : Nat => i ≤ b.length ∧ (b.take i).all dig = true ∧ numB 0 (b.take i) < 10 ^ i) (fun i => [(0, .str (B b)), (4, .int .i64 1), (5, .int .i64 (numB 0 (b.take i))), (6, .int .i64 i)]) (fun _ => []) 0 (fun i => b.length - i) 0
      ⟨⟨by omega, rfl, Nat.one_pos⟩, [], rfl, rfl, ⟨AVle.refl _, AVle.refl _, AVle.refl _, AVle.refl _, trivial⟩, trivial⟩ ?_
    intro i hi
    obtain ⟨hi1, hi2, hi3⟩ := hi
    refine Grd.intro (fun h5 => ?_) (fun h5 => ?_)
    · have hin : i < b.length := by have h : (i : Int) < (((B b).size : Nat) : Int) := of_decide_eq_true h5; rw [B_size] at h; omega
      have hp := pow_le18 (i := i) (by omega)
      have bad : dig (ix b i) = false → R = .tup [.int .i64 0, .bool false] := fun h => hn (hno (nbOk_no (.inr (.inr (by
        rw [← Bool.not_eq_true]
        intro h'
        rw [List.all_eq_true.1 h' _ (getD_mem hin)] at h; cases h)))))
      refine And.intro ⟨by omega, by rw [B_size]; omega⟩ ?_
      refine Grd.intro (fun h6 => ?_) (fun h6 => ?_)
      · have h6 : ((ix b i).toNat : Int) < 48 := of_decide_eq_true h6
        rw [bad (decide_eq_false (by omega))]
        exact And.intro trivial (AVle.refl _)
      have h6 : ¬ ((ix b i).toNat : Int) < 48 := of_decide_eq_false h6
      refine And.intro ⟨by omega, by rw [B_size]; omega⟩ ?_
      refine Grd.intro (fun h7 => ?_) (fun h7 => ?_)
      · have h7 : (57 : Int) < ((ix b i).toNat : Int) := of_decide_eq_true h7
        rw [bad (decide_eq_false (by omega))]
        exact And.intro trivial (AVle.refl _)
      have h7 : ¬ (57 : Int) < ((ix b i).toNat : Int) := of_decide_eq_false h7
      have hd : dig (ix b i) = true := decide_eq_true (by omega)
      have hnt := numB_take hin
      refine And.intro (inI64 (by omega) (by omega)) ?_
      refine And.intro ⟨by omega, by rw [B_size]; omega⟩ ?_
      refine And.intro (show inI .i64 ((ix b i).toNat : Int) from inI64 (by omega) (by omega)) ?_
      refine And.intro (show inI .i64 ((numB 0 (b.take i) : Int) * 10 + ((ix b i).toNat : Int)) from inI64 (by omega) (by omega)) ?_
      refine And.intro (show inI .i64 ((numB 0 (b.take i) : Int) * 10 + ((ix b i).toNat : Int) - 48) from inI64 (by omega) (by omega)) ?_
      refine And.intro (inI64 (by omega) (by omega)) ?_
      refine ⟨i + 1, ⟨hin, ?_, ?_⟩, by omega, [], rfl, rfl, ⟨AVle.refl _, AVle.refl _, AVle.of_eq (congrArg (AV.int .i64) (show (numB 0 (b.take i) : Int) * 10 + ((ix b i).toNat : Int) - 48 = _ by rw [hnt]; omega)), AVle.of_eq (congrArg (AV.int .i64) (by simp)), trivial⟩, trivial⟩
      · rw [take_snoc hin, List.all_append, hi2]; simp [hd]
      · rw [hnt, Nat.pow_succ]; omega
    · have : i = b.length := by have h : ¬ (i : Int) < (((B b).size : Nat) : Int) := of_decide_eq_false h5; rw [B_size] at h; omega
      subst this
      rw [List.take_of_length_le (Nat.le_refl _)] at hi2
      have hN := numB_18 hi2 hb2
      have e : b.take b.length = b := List.take_of_length_le (Nat.le_refl _)
      refine And.intro (show inI .i64 (1 * (numB 0 (b.take b.length) : Int)) from inI64 (by rw [e]; omega) (by rw [e]; omega)) ?_
      rw [hgood hi2]
      exact And.intro trivial (AVle.of_eq (congrArg (fun z => AV.tup [AV.int .i64 z, AV.bool true]) (show 1 * (numB 0 (b.take b.length) : Int) = _ by rw [e])))
theorem l00Nil_fn : VFn Tryz.prog 320 [.str (B [])] (.tup [.int .i64 0, .bool false]) := by
  refine VFn.introC Tryz.call320 Tryz.func320 rfl rfl ?_
  exact And.intro trivial (AVle.refl _)
theorem l00Min_fn : VFn Tryz.prog 320 [.str (B [45])] (.tup [.int .i64 0, .bool false]) := by
  refine VFn.introC Tryz.call320 Tryz.func320 rfl rfl ?_
  refine And.intro ⟨by decide, by decide⟩ ?_
  refine And.intro ⟨by decide, by decide⟩ ?_
  exact And.intro trivial (AVle.refl _)
theorem l00Number_fn (t : List UInt8) (hl : t.length ≤ 1000000000) : VFn Tryz.prog 320 [.str (B t)] (.tup [.int .i64 (if numOk t = true then atoiV t else 0), .bool (numOk t)]) := by
  cases t with
  | nil => rw [show numOk [] = false by decide]; exact l00Nil_fn
  | cons c b =>
    by_cases hc : c = 45
    · subst hc
      by_cases hb : b = []
      · subst hb; rw [show numOk [45] = false by decide]; exact l00Min_fn
      · exact l00Neg_fn b (by simp at hl; omega) hb _ (fun h => by rw [h, if_pos rfl, (numOk_neg b).2 h]) (fun h => by rw [h, if_neg (by simp)])
    · exact l00Pos_fn (c :: b) hl (by simp) hc _ (fun h => by rw [h, if_pos rfl, (numOk_pos (t := c :: b) hc).2 h]) (fun h => by rw [h, if_neg (by simp)])
end Go.Proofs.YtpfmfdioonjccaaGreatDoor
