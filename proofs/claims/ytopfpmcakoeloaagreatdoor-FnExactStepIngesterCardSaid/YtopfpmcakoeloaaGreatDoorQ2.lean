/- Contracts of functions that the claim reaches, and the plain law of what they compute; each theorem bears its own conditions. -/
import Derived.Test.YtopfpmcakoeloaaGreatDoorQ1
import Derived.Test.YtopfpmcakoeloaaGreatDoorV50
set_option linter.unusedVariables false
set_option linter.constructorNameAsVariable false
set_option linter.unusedSimpArgs false
set_option maxRecDepth 20000
namespace Go.Proofs.YtopfpmcakoeloaaGreatDoor
open Go Go.Vw

theorem l00Digit_fn (c : UInt8) : VFn Tryz.prog 85 [.int .u8 c.toNat] (.bool (dig c)) := by
  refine VFn.introC Tryz.call85 Tryz.func85 rfl rfl ?_
  refine Grd.intro (fun h => ?_) (fun h => ?_)
  · refine And.intro trivial (AVle.of_eq (congrArg AV.bool (show decide ((c.toNat : Int) ≤ 57) = decide (48 ≤ c.toNat ∧ c.toNat ≤ 57) from decide_eq_decide.2 ?_)))
    have h := of_decide_eq_true h
    omega
  · refine And.intro trivial (AVle.of_eq (congrArg AV.bool (show false = decide (48 ≤ c.toNat ∧ c.toNat ≤ 57) from (decide_eq_false ?_).symm)))
    have h := of_decide_eq_false h
    omega
theorem numB_snoc : ∀ (l : List UInt8) (n : Nat) (c : UInt8), numB n (l ++ [c]) = numB n l * 10 + (c.toNat - 48)
  | [], n, c => rfl
  | x :: r, n, c => numB_snoc r _ c
theorem numB_take {l : List UInt8} {i : Nat} (h : i < l.length) : numB 0 (l.take (i + 1)) = numB 0 (l.take i) * 10 + ((ix l i).toNat - 48) := by rw [take_snoc h, numB_snoc]
theorem pow_le18 {i : Nat} (h : i ≤ 17) : 10 ^ i ≤ 100000000000000000 := Nat.pow_le_pow_right (by decide) h
theorem l03Fixed_fn (l : List UInt8) (hl : l.length ≤ 18) : VFn Tryz.prog 149 [.str (B l)] (.tup [.int .i64 (if l.all dig = true then numB 0 l else 0 : Nat), .bool (l.all dig)]) := by
  refine VFn.introC Tryz.call149 Tryz.func149 rfl rfl ?_
  refine LoopC.mk (fun i : Nat => i ≤ l.length ∧ (l.take i).all dig = true ∧ numB 0 (l.take i) < 10 ^ i) (fun i => [(0, .str (B l)), (4, .int .i64 (numB 0 (l.take i))), (5, .int .i64 i)]) (fun _ => []) 0 (fun i => l.length - i) 0
    ⟨⟨by omega, rfl, Nat.one_pos⟩, [], rfl, rfl, ⟨AVle.refl _, AVle.refl _, AVle.refl _, trivial⟩, trivial⟩ ?_
  intro i hi
  obtain ⟨hi1, hi2, hi3⟩ := hi
  refine Grd.intro (fun h2 => ?_) (fun h2 => ?_)
  · have hin : i < l.length := by have := of_decide_eq_true h2; rw [B_size] at this; omega
    have hp := pow_le18 (i := i) (by omega)
    refine And.intro ⟨by omega, by rw [B_size]; omega⟩ ?_
    conv => whnf
    refine CallC.sca _ (l00Digit_fn (ix l i)) ?_ ?_
    · exact rfl
    refine Grd.intro (fun h3 => ?_) (fun h3 => ?_)
    · have hd : l.all dig = false := by
        rw [← Bool.not_eq_true]
        intro h
        have : dig (ix l i) = true := List.all_eq_true.1 h _ (getD_mem hin)
        rw [this] at h3; cases h3
      rw [hd]
      exact And.intro trivial (AVle.refl _)
    · have hd : dig (ix l i) = true := by simpa using h3
      have hd2 := of_decide_eq_true hd
      have hn := numB_take hin
      refine And.intro (inI64 (by omega) (by omega)) ?_
      refine And.intro ⟨by omega, by rw [B_size]; omega⟩ ?_
      refine And.intro (show inI .u8 (((ix l i).toNat : Int) - 48) from ⟨show (0 : Int) ≤ _ by omega, show _ ≤ (255 : Int) by omega⟩) ?_
      refine And.intro (show inI .i64 (((ix l i).toNat : Int) - 48) from inI64 (by omega) (by omega)) ?_
      refine And.intro (show inI .i64 (10 * (numB 0 (l.take i) : Int) + (((ix l i).toNat : Int) - 48)) from inI64 (by omega) (by omega)) ?_
      refine And.intro (inI64 (by omega) (by omega)) ?_
      refine ⟨i + 1, ⟨hin, ?_, ?_⟩, by omega, [], rfl, rfl, ⟨AVle.refl _, AVle.of_eq (congrArg (AV.int .i64) (show 10 * (numB 0 (l.take i) : Int) + (((ix l i).toNat : Int) - 48) = _ by rw [hn]; omega)), AVle.of_eq (congrArg (AV.int .i64) (by simp)), trivial⟩, trivial⟩
      · rw [take_snoc hin, List.all_append, hi2]; simp [hd]
      · rw [hn, Nat.pow_succ]; omega
  · have : i = l.length := by have := of_decide_eq_false h2; rw [B_size] at this; omega
    subst this
    rw [List.take_of_length_le (Nat.le_refl _)] at hi2
    refine And.intro trivial (AVle.of_eq (show AV.tup [AV.int .i64 (numB 0 (l.take l.length)), AV.bool true] = _ from ?_))
    rw [hi2, if_pos rfl, List.take_of_length_le (Nat.le_refl _)]

/-- what is cut off, and from where on -/
def cutS (c : UInt8) (l : List UInt8) : Nat → List (List UInt8) × Nat
  | 0 => ([], 0)
  | i + 1 => if ix l i = c then ((cutS c l i).1 ++ [(l.drop (cutS c l i).2).take (i - (cutS c l i).2)], i + 1) else cutS c l i
theorem cutS_from (c : UInt8) (l : List UInt8) : ∀ i, (cutS c l i).2 ≤ i ∧ (cutS c l i).1.length ≤ i
  | 0 => ⟨Nat.le_refl _, Nat.le_refl _⟩
  | i + 1 => by
    have := cutS_from c l i
    unfold cutS; split
    · simp; omega
    · omega
theorem drop_take_snoc {l : List UInt8} {f i : Nat} (h : i < l.length) (hf : f ≤ i) : (l.drop f).take (i + 1 - f) = (l.drop f).take (i - f) ++ [ix l i] := by
  have e : i + 1 - f = i - f + 1 := by omega
  rw [e, take_snoc (by simp; omega), ix_drop, show f + (i - f) = i by omega]
theorem cutS_all (c : UInt8) (l : List UInt8) : ∀ i, i ≤ l.length → (cutS c l i).1 ++ cutP c ((l.drop (cutS c l i).2).take (i - (cutS c l i).2)) (l.drop i) = cutP c [] l
  | 0, _ => rfl
  | i + 1, h => by
    have ih := cutS_all c l i (by omega)
    have hf := (cutS_from c l i).1
    rw [← ih, drop_ix (L := l) (i := i) (by omega)]
    have e : cutS c l (i + 1) = if ix l i = c then ((cutS c l i).1 ++ [(l.drop (cutS c l i).2).take (i - (cutS c l i).2)], i + 1) else cutS c l i := rfl
    by_cases hc : ix l i = c
    · rw [e, if_pos hc]
      simp only [cutP, if_pos hc, Nat.sub_self, List.take_zero, List.append_assoc, List.cons_append, List.nil_append]
    · rw [e, if_neg hc]
      simp only [cutP, if_neg hc]
      rw [drop_take_snoc (by omega) hf]
theorem l00Cut_fn (l : List UInt8) (c : UInt8) (hl : l.length ≤ 1000000000) : VFn Tryz.prog 109 [.str (B l), .int .u8 c.toNat] (txts (cutP c [] l)) := by
  suffices hR : ∀ R, R = cutP c [] l → VFn Tryz.prog 109 [.str (B l), .int .u8 c.toNat] (txts R) from hR _ rfl
  intro R hR
  refine VFn.introC Tryz.call109 Tryz.func109 rfl rfl ?_
  refine LoopC.mk (fun i : Nat => i ≤ l.length) (fun i => [(0, .str (B l)), (1, .int .u8 c.toNat), (5, .osl 0), (6, .int .i64 (cutS c l i).2), (7, .int .i64 i)])
    (fun i => [(0, .arr 9 1 (cutS c l i).1.length fun k => [.str (B (ix (cutS c l i).1 k))])]) 1 (fun i => l.length - i) 0
    ⟨Nat.zero_le _, [(0, 0)], rfl, rfl, ⟨AVle.refl _, AVle.refl _, AVle.refl _, AVle.refl _, AVle.refl _, trivial⟩, ⟨MOle.arr rfl fun i hi => absurd hi (Nat.not_lt_zero i), trivial⟩⟩ ?_
  intro i hi
  have hf := cutS_from c l i
  refine Grd.intro (fun h2 => ?_) (fun h2 => ?_)
  · have hin : i < l.length := by have := of_decide_eq_true h2; rw [B_size] at this; omega
    refine And.intro ⟨by omega, by rw [B_size]; omega⟩ ?_
    refine Grd.intro (fun h3 => ?_) (fun h3 => ?_)
    · have hc : ix l i = c := UInt8.toNat_inj.1 (by have h : ((ix l i).toNat : Int) = c.toNat := of_decide_eq_true h3; omega)
      have e : cutS c l (i + 1) = ((cutS c l i).1 ++ [(l.drop (cutS c l i).2).take (i - (cutS c l i).2)], i + 1) := by rw [cutS, if_pos hc]
      refine And.intro ⟨by omega, by omega, by rw [B_size]; omega⟩ ?_
      refine And.intro ⟨show ((cutS c l i).1.length + 1) * 16 ≤ 140737488355328 by omega, all1 rfl⟩ ?_
      refine And.intro (inI64 (by omega) (by omega)) ?_
      refine And.intro (inI64 (by omega) (by omega)) ?_
      refine ⟨i + 1, hin, by omega, [(2, 0)], rfl, rfl, ⟨AVle.refl _, AVle.refl _, AVle.refl _, AVle.of_eq (congrArg (AV.int .i64) (by rw [e]; simp)), AVle.of_eq (congrArg (AV.int .i64) (by simp)), trivial⟩, ⟨?_, trivial⟩⟩
      exact arr_next (f := fun x => [.str (B x)]) (by rw [e]) (show [AV.str ((B l).extract (cutS c l i).2 i)] = _ by rw [B_extract])
    · have hc : ¬ ix l i = c := fun hc => (of_decide_eq_false h3 : ¬ ((ix l i).toNat : Int) = c.toNat) (by rw [hc])
      have e : cutS c l (i + 1) = cutS c l i := by rw [cutS, if_neg hc]
      refine And.intro (inI64 (by omega) (by omega)) ?_
      exact ⟨i + 1, hin, by omega, [(0, 0)], rfl, rfl, ⟨AVle.refl _, AVle.refl _, AVle.refl _, AVle.of_eq (congrArg (AV.int .i64) (by rw [e])), AVle.of_eq (congrArg (AV.int .i64) (by simp)), trivial⟩, ⟨MOle.of_eq (show MO.arr 9 1 (cutS c l i).1.length (fun k => [.str (B (ix (cutS c l i).1 k))]) = _ by rw [e]), trivial⟩⟩
  · have : i = l.length := by have := of_decide_eq_false h2; rw [B_size] at this; omega
    subst this
    have h := cutS_all c l l.length (Nat.le_refl _)
    rw [List.drop_length] at h
    have hR' : R = (cutS c l l.length).1 ++ [(l.drop (cutS c l l.length).2).take (l.length - (cutS c l l.length).2)] := hR.trans h.symm
    subst hR'
    refine And.intro ⟨by omega, by rw [B_size]; omega⟩ ?_
    refine And.intro ⟨show ((cutS c l l.length).1.length + 1) * 16 ≤ 140737488355328 by omega, all1 rfl⟩ ?_
    exact And.intro trivial (AVle.sl (show (cutS c l l.length).1.length + 1 = _ by simp) fun k hk => app_row1 (f := fun x => [.str (B x)]) (show [AV.str ((B l).extract (cutS c l l.length).2 (B l).size)] = _ by rw [B_extract, B_size]) hk)
theorem dd6 {n : Nat} (h : n ≤ 999999) : (Lib.decDigits n).length ≤ 6 := by
  have := congrArg List.length (pad6_dd h)
  unfold pad6 at this
  simp [six6_len] at this
  omega
theorem l03Wide_fn (n : Nat) (h : n ≤ 999999) : VFn Tryz.prog 87 [.int .i64 n, .int .i64 6] (.str (B (six6 n))) := by
  have hd := dd6 h
  have hp := pad6_dd h
  refine VFn.introC Tryz.call87 Tryz.func87 rfl rfl ?_
  conv => whnf
  refine CallC.sca _ (digits_nat n (by omega)) ?_ ?_
  · exact rfl
  refine LoopC.mk (fun i : Nat => i + (Lib.decDigits n).length ≤ 6) (fun i => [(1, .int .i64 6), (5, .str (B (List.replicate i 48 ++ Lib.decDigits n)))]) (fun _ => []) 0 (fun i => 6 - i) 0
    ⟨by omega, [], rfl, rfl, ⟨AVle.refl _, AVle.of_eq (congrArg (fun l => AV.str (B l)) (show Lib.decDigits n = _ by simp)), trivial⟩, trivial⟩ ?_
  intro i hi
  refine Grd.intro (fun h2 => ?_) (fun h2 => ?_)
  · have hin : i + (Lib.decDigits n).length < 6 := by have := of_decide_eq_true h2; rw [B_size] at this; simp at this; omega
    refine And.intro (show (((B [48]).size + (B (List.replicate i 48 ++ Lib.decDigits n)).size : Nat) : Int) ≤ 9223372036854775807 by rw [B_size, B_size]; simp; omega) ?_
    exact ⟨i + 1, by omega, by omega, [], rfl, rfl, ⟨AVle.refl _, AVle.of_eq (congrArg AV.str (show B [48] ++ B (List.replicate i 48 ++ Lib.decDigits n) = _ by rw [B_app, List.replicate_succ]; rfl)), trivial⟩, trivial⟩
  · have hin : i = 6 - (Lib.decDigits n).length := by have := of_decide_eq_false h2; rw [B_size] at this; simp at this; omega
    refine And.intro trivial (AVle.of_eq (congrArg (fun l => AV.str (B l)) (show List.replicate i 48 ++ Lib.decDigits n = _ by rw [← hp, hin]; rfl)))
theorem l03KeyOK_fn (t n w : Int) : VFn Tryz.prog 150 [.int .i64 t, .int .i64 n, .int .i64 w] (.bool (within t 0 2 && (within n 0 999999 && within w 0 999999))) := by
  refine VFn.introC Tryz.call150 Tryz.func150 rfl rfl ?_
  repeat' (conv => whnf
           first
      | refine Grd.intro (fun h => ?_) (fun h => ?_)
      | (refine CallC.sca _ (l01In_fn _ _ _) ?_ ?_; exact rfl)
      | refine And.intro trivial (AVle.of_eq (congrArg AV.bool ?_)))
  all_goals (simp_all)
theorem l01Bit_fn (b : Bool) : VFn Tryz.prog 148 [.bool b] (.int .i64 (if b = true then 1 else 0)) := by
  refine VFn.introC Tryz.call148 Tryz.func148 rfl rfl ?_
  refine Grd.intro (fun h => ?_) (fun h => ?_)
  · rw [h]
    exact And.intro trivial (AVle.refl _)
  · rw [h]
    exact And.intro trivial (AVle.refl _)
theorem l03Key_fn (t n w : Nat) (ht : t ≤ 2) (hn : n ≤ 999999) (hw : w ≤ 999999) : VFn Tryz.prog 54 [.int .i64 t, .int .i64 n, .int .i64 w] (.str (B (keyB t n w))) := by
  have h3 : t = 0 ∨ t = 1 ∨ t = 2 := by omega
  have hs : ∀ a b : List UInt8, a.length + b.length ≤ 1000 → (((B a).size + (B b).size : Nat) : Int) ≤ 9223372036854775807 := fun a b h => by rw [B_size, B_size]; omega
  refine VFn.introC Tryz.call54 Tryz.func54 rfl rfl ?_
  refine DrawC.mk 13 rfl (by kernel_rfl) ?_
  rcases h3 with rfl | rfl | rfl
  · refine And.intro ⟨by omega, by show ((0 : Nat) : Int) < ((3 : Nat) : Int); omega⟩ ?_
    refine And.intro (hs (preW 0) [47] (by decide)) ?_
    refine PCallC.sca _ (l03Wide_fn n hn) rfl ?_
    refine And.intro (show (((B [114, 97, 119] ++ B [47]).size + (B (six6 n)).size : Nat) : Int) ≤ 9223372036854775807 by rw [B_app]; exact hs _ _ (by simp [six6_len])) ?_
    refine And.intro (show (((B [114, 97, 119] ++ B [47] ++ B (six6 n)).size + (B [45]).size : Nat) : Int) ≤ 9223372036854775807 by rw [B_app, B_app]; exact hs _ _ (by simp [six6_len])) ?_
    refine PCallC.sca _ (l03Wide_fn w hw) rfl ?_
    refine And.intro (show (((B [114, 97, 119] ++ B [47] ++ B (six6 n) ++ B [45]).size + (B (six6 w)).size : Nat) : Int) ≤ 9223372036854775807 by rw [B_app, B_app, B_app]; exact hs _ _ (by simp [six6_len])) ?_
    exact And.intro trivial (AVle.of_eq (congrArg AV.str (show B [114, 97, 119] ++ B [47] ++ B (six6 n) ++ B [45] ++ B (six6 w) = _ by rw [B_app, B_app, B_app, B_app]; rfl)))
  · refine And.intro ⟨by omega, by show ((1 : Nat) : Int) < ((3 : Nat) : Int); omega⟩ ?_
    refine And.intro (hs (preW 1) [47] (by decide)) ?_
    refine PCallC.sca _ (l03Wide_fn n hn) rfl ?_
    refine And.intro (show (((B [116, 49] ++ B [47]).size + (B (six6 n)).size : Nat) : Int) ≤ 9223372036854775807 by rw [B_app]; exact hs _ _ (by simp [six6_len])) ?_
    refine And.intro (show (((B [116, 49] ++ B [47] ++ B (six6 n)).size + (B [45]).size : Nat) : Int) ≤ 9223372036854775807 by rw [B_app, B_app]; exact hs _ _ (by simp [six6_len])) ?_
    refine PCallC.sca _ (l03Wide_fn w hw) rfl ?_
    refine And.intro (show (((B [116, 49] ++ B [47] ++ B (six6 n) ++ B [45]).size + (B (six6 w)).size : Nat) : Int) ≤ 9223372036854775807 by rw [B_app, B_app, B_app]; exact hs _ _ (by simp [six6_len])) ?_
    exact And.intro trivial (AVle.of_eq (congrArg AV.str (show B [116, 49] ++ B [47] ++ B (six6 n) ++ B [45] ++ B (six6 w) = _ by rw [B_app, B_app, B_app, B_app]; rfl)))
  · refine And.intro ⟨by omega, by show ((2 : Nat) : Int) < ((3 : Nat) : Int); omega⟩ ?_
    refine And.intro (hs (preW 2) [47] (by decide)) ?_
    refine PCallC.sca _ (l03Wide_fn n hn) rfl ?_
    refine And.intro (show (((B [116, 50] ++ B [47]).size + (B (six6 n)).size : Nat) : Int) ≤ 9223372036854775807 by rw [B_app]; exact hs _ _ (by simp [six6_len])) ?_
    refine And.intro (show (((B [116, 50] ++ B [47] ++ B (six6 n)).size + (B [45]).size : Nat) : Int) ≤ 9223372036854775807 by rw [B_app, B_app]; exact hs _ _ (by simp [six6_len])) ?_
    refine PCallC.sca _ (l03Wide_fn w hw) rfl ?_
    refine And.intro (show (((B [116, 50] ++ B [47] ++ B (six6 n) ++ B [45]).size + (B (six6 w)).size : Nat) : Int) ≤ 9223372036854775807 by rw [B_app, B_app, B_app]; exact hs _ _ (by simp [six6_len])) ?_
    exact And.intro trivial (AVle.of_eq (congrArg AV.str (show B [116, 50] ++ B [47] ++ B (six6 n) ++ B [45] ++ B (six6 w) = _ by rw [B_app, B_app, B_app, B_app]; rfl)))
theorem l03Fixed_at {s : ByteArray} {l : List UInt8} (e : s = B l) (hl : l.length ≤ 18) : VFn Tryz.prog 149 [.str s] (.tup [.int .i64 (if l.all dig = true then numB 0 l else 0 : Nat), .bool (l.all dig)]) := by
  subst e; exact l03Fixed_fn l hl
theorem bits_of (a : List UInt8) : ∃ (x1 x2 : Int) (tt : Nat), VFn Tryz.prog 148 [.bool ((B a).toList == (B [116, 49]).toList)] (.int .i64 x1) ∧ VFn Tryz.prog 148 [.bool ((B a).toList == (B [116, 50]).toList)] (.int .i64 x2) ∧
    (0 ≤ x1 ∧ x1 ≤ 1) ∧ (0 ≤ x2 ∧ x2 ≤ 1) ∧ x1 + 2 * x2 = tt ∧ tt ≤ 2 ∧ ∀ t, t ≤ 2 → a = preW t → tt = t := by
  have c1 := l01Bit_fn ((B a).toList == (B [116, 49]).toList)
  have c2 := l01Bit_fn ((B a).toList == (B [116, 50]).toList)
  rw [B_eq] at c1 c2 ⊢
  rw [B_eq]
  have ne : ∀ t, t ≤ 2 → (a = preW t) → (t = 0 → a = [114, 97, 119]) ∧ (t = 1 → a = [116, 49]) ∧ (t = 2 → a = [116, 50]) := fun t _ h => ⟨fun e => by subst e; exact h, fun e => by subst e; exact h, fun e => by subst e; exact h⟩
  by_cases h1 : a = [116, 49]
  · subst h1
    refine ⟨1, 0, 1, c1, c2, by omega, by omega, by omega, by omega, fun t ht e => ?_⟩
    obtain ⟨a0, a1, a2⟩ := ne t ht e
    have h3 : t = 0 ∨ t = 1 ∨ t = 2 := by omega
    rcases h3 with h | h | h
    · exact absurd (a0 h) (by decide)
    · exact h.symm
    · exact absurd (a2 h) (by decide)
  by_cases h2 : a = [116, 50]
  · subst h2
    refine ⟨0, 1, 2, c1, c2, by omega, by omega, by omega, by omega, fun t ht e => ?_⟩
    obtain ⟨a0, a1, a2⟩ := ne t ht e
    have h3 : t = 0 ∨ t = 1 ∨ t = 2 := by omega
    rcases h3 with h | h | h
    · exact absurd (a0 h) (by decide)
    · exact absurd (a1 h) (by decide)
    · exact h.symm
  · refine ⟨0, 0, 0, by simpa [h1] using c1, by simpa [h2] using c2, by omega, by omega, by omega, by omega, fun t ht e => ?_⟩
    obtain ⟨a0, a1, a2⟩ := ne t ht e
    have h3 : t = 0 ∨ t = 1 ∨ t = 2 := by omega
    rcases h3 with h | h | h
    · exact h.symm
    · exact absurd (a1 h) h1
    · exact absurd (a2 h) h2
theorem l03Key_at {t' n' w' : Int} {t n w : Nat} (e1 : t' = t) (e2 : n' = n) (e3 : w' = w) (ht : t ≤ 2) (hn : n ≤ 999999) (hw : w ≤ 999999) : VFn Tryz.prog 54 [.int .i64 t', .int .i64 n', .int .i64 w'] (.str (B (keyB t n w))) := by
  subst e1 e2 e3; exact l03Key_fn t n w ht hn hw
theorem key_parts {k : List UInt8} {t n w : Nat} (h : parseKey k = some (t, n, w)) :
    cutP 47 [] k = [preW t, six6 n ++ 45 :: six6 w] := by
  obtain ⟨e, ht, hn, hw⟩ := key_parse h
  rw [e]; exact cut_key ht
theorem key_zero {k : List UInt8} (h : parseKey k = none) : AV.tup [.int .i64 0, .int .i64 0, .int .i64 0, .bool false] = .tup [.int .i64 (kT k), .int .i64 (kN k), .int .i64 (kW k), .bool (kOk k)] := by
  unfold kT kN kW kOk
  rw [h]; rfl
theorem key_none {k : List UInt8} (h : ∀ t n w, t ≤ 2 → n ≤ 999999 → w ≤ 999999 → k = keyB t n w → cutP 47 [] k = [preW t, six6 n ++ 45 :: six6 w] → False) : parseKey k = none := by
  cases e : parseKey k with
  | none => rfl
  | some q =>
    obtain ⟨t, n, w⟩ := q
    obtain ⟨e1, ht, hn, hw⟩ := key_parse e
    exact (h t n w ht hn hw e1 (key_parts e)).elim
theorem l03ToKey_fn (k : List UInt8) (hk : k.length ≤ 1000000000) : VFn Tryz.prog 127 [.str (B k)] (.tup [.int .i64 (kT k), .int .i64 (kN k), .int .i64 (kW k), .bool (kOk k)]) := by
  have h1 := l00Cut_fn k 47 hk
  have hnone := @key_none k
  generalize cutP 47 [] k = R at h1 hnone
  by_cases hR : R.length = 2
  · obtain ⟨a, r, rfl⟩ : ∃ a r, R = [a, r] := by
      match R, hR with
      | [a, r], _ => exact ⟨a, r, rfl⟩
    refine VFn.introC Tryz.call127 Tryz.func127 rfl rfl ?_
    conv => whnf
    refine CallC.nl _ (h1) ?_ ?_
    · exact rfl
    refine And.intro ⟨by decide, by show (1 : Int) < ((2 : Nat) : Int); decide⟩ ?_
    refine Grd.intro (fun h2 => ?_) (fun h2 => ?_)
    · have h13 : ¬ r.length = 13 := by
        have h : (!decide (((B r).size : Int) = 13)) = true := h2
        rw [B_size] at h; simp at h; omega
      exact And.intro trivial (AVle.of_eq (show AV.tup [.int .i64 0, .int .i64 0, .int .i64 0, .bool false] = _ from key_zero (hnone fun t n w _ _ _ _ e => h13 (by injection e with _ e; injection e with e; rw [e]; rfl))))
    · have h13 : r.length = 13 := by
        have h : (!decide (((B r).size : Int) = 13)) = false := h2
        rw [B_size] at h; simp at h; omega
      refine And.intro ⟨by decide, by show (1 : Int) < ((2 : Nat) : Int); decide⟩ ?_
      refine And.intro ⟨by decide, by show (6 : Int) < ((B r).size : Int); rw [B_size]; omega⟩ ?_
      refine Grd.intro (fun h3 => ?_) (fun h3 => ?_)
      · have h45 : ¬ ix r 6 = 45 := fun e => by
          have h : (!decide (((ix r 6).toNat : Int) = 45)) = true := h3
          rw [e] at h; exact absurd h (by decide)
        exact And.intro trivial (AVle.of_eq (show AV.tup [.int .i64 0, .int .i64 0, .int .i64 0, .bool false] = _ from key_zero (hnone fun t n w _ _ _ _ e => h45 (by injection e with _ e; injection e with e; rw [e]; rfl))))
      · have h45 : ix r 6 = 45 := by
          have h : (!decide (((ix r 6).toNat : Int) = 45)) = false := h3
          simp at h
          exact UInt8.toNat_inj.1 (by show (ix r 6).toNat = 45; omega)
        refine DrawC.mk 13 rfl (by kernel_rfl) ?_
        obtain ⟨x1, x2, tt, c1, c2, b1, b2, ht, ht2, htt⟩ := bits_of a
        refine And.intro ⟨by decide, by show (0 : Int) < ((2 : Nat) : Int); decide⟩ ?_
        refine PCallC.sca _ (c1) rfl ?_
        refine And.intro ⟨by decide, by show (0 : Int) < ((2 : Nat) : Int); decide⟩ ?_
        refine PCallC.sca _ (c2) rfl ?_
        refine And.intro (inI64 (by omega) (by omega)) ?_
        refine And.intro (inI64 (by omega) (by omega)) ?_
        have hlA : (r.take 6).length = 6 := by simp; omega
        have hlB : (r.drop 7).length = 6 := by simp; omega
        have hA : (B r).extract 0 6 = B (r.take 6) := by rw [B_extract]; rfl
        have hB : (B r).extract 7 (B r).size = B (r.drop 7) := by rw [B_extract, B_size, h13, List.take_of_length_le (by simp; omega)]
        have hsplit : ∀ t n w, [a, r] = [preW t, six6 n ++ 45 :: six6 w] → a = preW t ∧ r.take 6 = six6 n ∧ r.drop 7 = six6 w := fun t n w e => by
          injection e with e1 e; injection e with e
          exact ⟨e1, by rw [e]; rfl, by rw [e]; rfl⟩
        refine And.intro ⟨by decide, by show (1 : Int) < ((2 : Nat) : Int); decide⟩ ?_
        refine And.intro ⟨by decide, by show (6 : Int) ≤ ((B r).size : Int); rw [B_size]; omega⟩ ?_
        conv => whnf
        refine CallC.sca _ (l03Fixed_at hA (by omega)) ?_ ?_
        · exact rfl
        refine And.intro ⟨by decide, by show (1 : Int) < ((2 : Nat) : Int); decide⟩ ?_
        refine And.intro ⟨by decide, by show (7 : Int) ≤ ((B r).size : Int); rw [B_size]; omega⟩ ?_
        conv => whnf
        refine CallC.sca _ (l03Fixed_at hB (by omega)) ?_ ?_
        · exact rfl
        by_cases hdA : (r.take 6).all dig = true
        · by_cases hdB : (r.drop 7).all dig = true
          · have nA := six6_numB hlA hdA
            have nB := six6_numB hlB hdB
            refine Grd.intro (fun h4 => absurd (h4.symm.trans (show (!(r.take 6).all dig) = false by rw [hdA]; rfl)) (by simp)) (fun h4 => ?_)
            refine Grd.intro (fun h5 => absurd (h5.symm.trans (show (bif false then true else !(r.drop 7).all dig) = false by rw [hdB]; rfl)) (by simp)) (fun h5 => ?_)
            have eA : (((if (r.take 6).all dig = true then numB 0 (r.take 6) else 0 : Nat) : Nat) : Int) = numB 0 (r.take 6) := by rw [if_pos hdA]
            have eB : (((if (r.drop 7).all dig = true then numB 0 (r.drop 7) else 0 : Nat) : Nat) : Int) = numB 0 (r.drop 7) := by rw [if_pos hdB]
            have hK : (within (x1 + 2 * x2) 0 2 && (within (((if (r.take 6).all dig = true then numB 0 (r.take 6) else 0 : Nat) : Nat) : Int) 0 999999 && within (((if (r.drop 7).all dig = true then numB 0 (r.drop 7) else 0 : Nat) : Nat) : Int) 0 999999)) = true := by
              rw [ht, eA, eB]; simp [within]; omega
            conv => whnf
            refine CallC.sca _ (l03KeyOK_fn _ _ _) ?_ ?_
            · exact rfl
            refine Grd.intro (fun h6 => absurd (h6.symm.trans (show (bif false then true else !_) = false by rw [hK]; rfl)) (by simp)) (fun h6 => ?_)
            conv => whnf
            refine CallC.sca _ (l03Key_at ht eA eB ht2 nA.1 nB.1) ?_ ?_
            · exact rfl
            refine Grd.intro (fun h7 => ?_) (fun h7 => ?_)
            · have hne : ¬ keyB tt (numB 0 (r.take 6)) (numB 0 (r.drop 7)) = k := fun e => by
                have h : (!((B (keyB tt (numB 0 (r.take 6)) (numB 0 (r.drop 7)))).toList == (B k).toList)) = true := h7
                rw [B_eq, e] at h; simp at h
              exact And.intro trivial (AVle.of_eq (show AV.tup [.int .i64 0, .int .i64 0, .int .i64 0, .bool false] = _ from key_zero (hnone fun t n w g1 g2 g3 g4 e => hne (by
                obtain ⟨q1, q2, q3⟩ := hsplit t n w e
                rw [htt t g1 q1, q2, q3, numB_six6 g2, numB_six6 g3]; exact g4.symm))))
            · have he : keyB tt (numB 0 (r.take 6)) (numB 0 (r.drop 7)) = k := by
                have h : (!((B (keyB tt (numB 0 (r.take 6)) (numB 0 (r.drop 7)))).toList == (B k).toList)) = false := h7
                rw [B_eq] at h; simpa using h
              have hp := parse_key ht2 nA.1 nB.1
              rw [he] at hp
              refine And.intro trivial (AVle.of_eq (show AV.tup [.int .i64 (x1 + 2 * x2), .int .i64 (((if (r.take 6).all dig = true then numB 0 (r.take 6) else 0 : Nat) : Nat) : Int), .int .i64 (((if (r.drop 7).all dig = true then numB 0 (r.drop 7) else 0 : Nat) : Nat) : Int), .bool true] = _ from ?_))
              unfold kT kN kW kOk
              rw [hp, ht, eA, eB]; rfl
          · have hf : (r.drop 7).all dig = false := by simpa using hdB
            have hz := key_zero (hnone fun t n w g1 g2 g3 g4 e => hdB (by rw [(hsplit t n w e).2.2]; exact six6_dig w))
            refine Grd.intro (fun h4 => absurd (h4.symm.trans (show (!(r.take 6).all dig) = false by rw [hdA]; rfl)) (by simp)) (fun h4 => ?_)
            refine Grd.intro (fun h5 => ?_) (fun h5 => absurd (h5.symm.trans (show (bif false then true else !(r.drop 7).all dig) = true by rw [hf]; rfl)) (by simp))
            exact And.intro trivial (AVle.of_eq (show AV.tup [.int .i64 0, .int .i64 0, .int .i64 0, .bool false] = _ from hz))
        · have hf : (r.take 6).all dig = false := by simpa using hdA
          have hz := key_zero (hnone fun t n w g1 g2 g3 g4 e => hdA (by rw [(hsplit t n w e).2.1]; exact six6_dig n))
          refine Grd.intro (fun h4 => ?_) (fun h4 => absurd (h4.symm.trans (show (!(r.take 6).all dig) = true by rw [hf]; rfl)) (by simp))
          exact And.intro trivial (AVle.of_eq (show AV.tup [.int .i64 0, .int .i64 0, .int .i64 0, .bool false] = _ from hz))
  · have hz := key_zero (hnone fun t n w _ _ _ _ e => hR (by rw [e]; rfl))
    refine VFn.introC Tryz.call127 Tryz.func127 rfl rfl ?_
    conv => whnf
    refine CallC.nl _ (h1) ?_ ?_
    · exact rfl
    refine Grd.intro (fun h2 => ?_) (fun h2 => ?_)
    · exact And.intro trivial (AVle.of_eq (show AV.tup [.int .i64 0, .int .i64 0, .int .i64 0, .bool false] = _ from hz))
    · exact absurd (of_decide_eq_true (show decide _ = true by simpa using h2)) (by omega)
end Go.Proofs.YtopfpmcakoeloaaGreatDoor
set_option linter.unusedVariables false
set_option linter.constructorNameAsVariable false
set_option linter.unusedSimpArgs false
set_option maxRecDepth 20000
namespace Go.Proofs.YtopfpmcakoeloaaGreatDoor
open Go Go.Vw

theorem B_nil (a : List UInt8) : ((B a).toList == (ByteArray.mk #[]).toList) = decide (a = []) := B_eq (b := [])
theorem B_isEmpty (a : List UInt8) : (B a).toList.isEmpty = decide (a = []) := by rw [B_toList]; cases a <;> simp
structure En where
  tier : Int
  f : Int
  t : Int
  key : List UInt8
  deriving Inhabited, DecidableEq
def En.row (e : En) : List AV := [.int .i64 e.tier, .int .i64 e.f, .int .i64 e.t, .str (B e.key)]
def En.av (e : En) : AV := .agg e.row
def En.ok (e : En) : Bool := kOk e.key && (decide (kT e.key = e.tier) && (isRange e.f e.t && decide (e.f < e.t)))
structure Rc where
  k : Int
  tok : Int
  tier : Int
  f : Int
  t : Int
  key : List UInt8
  deriving Inhabited, DecidableEq
def Rc.row (r : Rc) : List AV := [.int .i64 r.k, .int .i64 r.tok, .int .i64 r.tier, .int .i64 r.f, .int .i64 r.t, .str (B r.key)]
def Rc.av (r : Rc) : AV := .agg r.row
@[reducible] def Rc.en (r : Rc) : En := ⟨r.tier, r.f, r.t, r.key⟩
def Rc.bare (r : Rc) : Bool := decide (r.tier = 0) && (decide (r.f = 0) && decide (r.t = 0))
def Rc.ok (r : Rc) : Bool :=
  if r.k = 1 then decide (r.tok = 0) && (decide (r.tier = 0) && r.en.ok)
  else if r.k = 2 then within r.tok 1 999999 && (r.bare && decide (r.key = []))
  else if r.k = 3 then within r.tok 1 999999 && (decide (0 < r.tier) && r.en.ok)
  else if r.k = 4 then within r.tok 1 999999 && r.en.ok
  else if r.k = 5 then decide (r.tok = 0) && (r.bare && kOk r.key)
  else false
theorem entryOK_fn (e : En) : VFn Tryz.prog 155 [e.av] (.bool e.ok) := by
  refine VFn.introC Tryz.call155 Tryz.func155 rfl rfl ?_
  conv => whnf
  refine CallC.sca _ (readDataKey_fn e.key) ?_ ?_
  · exact rfl
  repeat' (conv => whnf
           first
      | refine Grd.intro (fun h => ?_) (fun h => ?_)
      | (refine CallC.sca _ (isRange_fn _ _) ?_ ?_; exact rfl)
      | refine And.intro trivial (AVle.of_eq (congrArg AV.bool ?_)))
  all_goals (simp_all [En.ok])
theorem entry_fn (r : Rc) : VFn Tryz.prog 136 [r.av] r.en.av := by
  refine VFn.introC Tryz.call136 Tryz.func136 rfl rfl ?_
  exact And.intro trivial (AVle.refl _)
theorem isToken_fn (n : Int) : VFn Tryz.prog 156 [.int .i64 n] (.bool (within n 1 999999)) := by
  refine VFn.introC Tryz.call156 Tryz.func156 rfl rfl ?_
  conv => whnf
  refine CallC.sca _ (within_fn _ _ _) ?_ ?_
  · exact rfl
  exact And.intro trivial (AVle.refl _)
theorem RecordOK_fn (r : Rc) : VFn Tryz.prog 133 [r.av] (.bool r.ok) := by
  refine VFn.introC Tryz.call133 Tryz.func133 rfl rfl ?_
  repeat' (conv => whnf
           first
      | refine Grd.intro (fun h => ?_) (fun h => ?_)
      | (refine CallC.sca _ (isToken_fn _) ?_ ?_; exact rfl)
      | (refine CallC.sca _ (entry_fn r) ?_ ?_; exact rfl)
      | (refine CallC.sca _ (entryOK_fn r.en) ?_ ?_; exact rfl)
      | (refine CallC.sca _ (readDataKey_fn r.key) ?_ ?_; exact rfl)
      | refine And.intro trivial (AVle.of_eq (congrArg AV.bool ?_)))
  all_goals (first | (simp_all [Rc.ok, Rc.bare, B_nil, B_isEmpty]; done) | (simp_all [Rc.ok, Rc.bare, B_nil, B_isEmpty]; intros; omega))
theorem kT_nat (k : List UInt8) : 0 ≤ kT k ∧ kT k ≤ 2 := by
  unfold kT
  cases h : parseKey k with
  | none => simp
  | some q =>
    obtain ⟨t, n, w⟩ := q
    have := key_parse h
    simp only; omega
theorem l06Tiered_fn (r : Rc) (hk : r.key.length ≤ 1000000000) (n : Int) : VFn Tryz.prog 126 [r.av, .int .i64 n] (.bool (r.en.ok && decide (n ≤ r.tier))) := by
  have h2 := kT_nat r.key
  refine VFn.introC Tryz.call126 Tryz.func126 rfl rfl ?_
  conv => whnf
  refine CallC.sca _ (l03ToKey_fn r.key hk) ?_ ?_
  · exact rfl
  repeat' (conv => whnf
           first
      | refine Grd.intro (fun h => ?_) (fun h => ?_)
      | (refine CallC.sca _ (l01In_fn _ _ _) ?_ ?_; exact rfl)
      | (refine CallC.sca _ (l04Range_fn _ _) ?_ ?_; exact rfl)
      | refine And.intro trivial (AVle.of_eq (congrArg AV.bool ?_)))
  all_goals (simp_all [En.ok, Rc.en, within]; try omega)
theorem specRecordOK_fn (r : Rc) (hk : r.key.length ≤ 1000000000) : VFn Tryz.prog 111 [r.av] (.bool r.ok) := by
  have h0 := l06Tiered_fn r hk 0
  have h1 := l06Tiered_fn r hk 1
  have e0 : (r.en.ok && decide (0 ≤ r.tier)) = r.en.ok := by
    cases h : r.en.ok
    · rfl
    · unfold En.ok at h
      have h2 := kT_nat r.key
      simp [Rc.en] at h
      simp; omega
  have e1 : decide (1 ≤ r.tier) = decide (0 < r.tier) := decide_eq_decide.2 (by omega)
  rw [e0] at h0
  rw [e1] at h1
  refine VFn.introC Tryz.call111 Tryz.func111 rfl rfl ?_
  repeat' (conv => whnf
           first
      | refine Grd.intro (fun h => ?_) (fun h => ?_)
      | (refine CallC.sca _ (l01In_fn _ _ _) ?_ ?_; exact rfl)
      | (refine CallC.sca _ (h0) ?_ ?_; exact rfl)
      | (refine CallC.sca _ (h1) ?_ ?_; exact rfl)
      | (refine CallC.sca _ (l03ToKey_fn r.key hk) ?_ ?_; exact rfl)
      | refine And.intro trivial (AVle.of_eq (congrArg AV.bool ?_)))
  all_goals (simp_all [Rc.ok, Rc.bare, B_nil, B_isEmpty, Bool.and_comm]; done)

theorem key_len {k : List UInt8} (h : kOk k = true) : k.length ≤ 17 := by
  unfold kOk at h
  cases e : parseKey k with
  | none => rw [e] at h; cases h
  | some q =>
    obtain ⟨t, n, w⟩ := q
    obtain ⟨e1, ht, hn, hw⟩ := key_parse e
    rw [e1]
    have h3 : t = 0 ∨ t = 1 ∨ t = 2 := by omega
    rcases h3 with rfl | rfl | rfl <;> simp [keyB, pre, six6_len]
def Rc.nums (r : Rc) : List Int := [r.k, r.tok, r.tier, r.f, r.t]
def Rc.text (r : Rc) : List UInt8 := Lib.join (r.nums.map Lib.itoa) [44] ++ ([32] ++ r.key)
theorem Rc.okN {r : Rc} (h : r.ok = true) : (∀ x ∈ r.nums, mid x) ∧ r.key.length ≤ 17 := by
  have hT := kT_nat r.key
  have hL := @key_len r.key
  have m : (mid r.k ∧ mid r.tok ∧ mid r.tier ∧ mid r.f ∧ mid r.t) ∧ r.key.length ≤ 17 := by
    unfold Rc.ok at h
    split at h
    · simp [Rc.en, En.ok, isRange, within] at h
      refine ⟨⟨?_, ?_, ?_, ?_, ?_⟩, hL h.2.2.1⟩ <;> (unfold mid; omega)
    split at h
    · simp [Rc.bare, within] at h
      refine ⟨⟨?_, ?_, ?_, ?_, ?_⟩, by rw [h.2.2]; simp⟩ <;> (unfold mid; omega)
    split at h
    · simp [Rc.en, En.ok, isRange, within] at h
      refine ⟨⟨?_, ?_, ?_, ?_, ?_⟩, hL h.2.2.1⟩ <;> (unfold mid; omega)
    split at h
    · simp [Rc.en, En.ok, isRange, within] at h
      refine ⟨⟨?_, ?_, ?_, ?_, ?_⟩, hL h.2.1⟩ <;> (unfold mid; omega)
    split at h
    · simp [Rc.bare, within] at h
      refine ⟨⟨?_, ?_, ?_, ?_, ?_⟩, hL h.2.2⟩ <;> (unfold mid; omega)
    · cases h
  refine ⟨fun x hx => ?_, m.2⟩
  obtain ⟨m1, m2, m3, m4, m5⟩ := m.1
  simp only [Rc.nums, List.mem_cons, List.not_mem_nil, or_false] at hx
  rcases hx with rfl | rfl | rfl | rfl | rfl <;> assumption
theorem Rc.head_len {r : Rc} (h : r.ok = true) : (Lib.join (r.nums.map Lib.itoa) [44]).length ≤ 110 := by
  have := join_len (m := 21) (c := 1) (L := r.nums.map Lib.itoa) (s := [44]) (fun x hx => by
    obtain ⟨n, hn, rfl⟩ := List.mem_map.1 hx
    exact mid_len ((Rc.okN h).1 n hn)) (by simp)
  exact Nat.le_trans this (by simp [Rc.nums])
end Go.Proofs.YtopfpmcakoeloaaGreatDoor
set_option linter.unusedVariables false
set_option linter.constructorNameAsVariable false
set_option linter.unusedSimpArgs false
set_option maxRecDepth 20000
namespace Go.Proofs.YtopfpmcakoeloaaGreatDoor
open Go Go.Vw

structure Tb where
  seq : Int
  key : List UInt8
  deriving Inhabited, DecidableEq
def Tb.row (e : Tb) : List AV := [.int .i64 e.seq, .str (B e.key)]
def Tb.av (e : Tb) : AV := .agg e.row
abbrev ents (L : List En) : AV := .sl 4 L.length fun i => (ix L i).row
abbrev tbs (L : List Tb) : AV := .sl 2 L.length fun i => (ix L i).row

theorem IndexEn_1 (L : List En) (hL : L.length ≤ 9223372036854775807) (F : Nat) (row : List AV) (p : En → Bool) (hp : ∀ e ∈ L, VFn Tryz.prog F [e.av, .eptr row 0] (.bool (p e))) :
    VFn Tryz.prog 164 [ents L, .fn (.func F) [] [.eptr row 0]] (.int .i64 (fi p L)) := by
  refine VFn.introC Tryz.call164 Tryz.func164 rfl rfl ?_
  refine LoopC.mk (fun i : Nat => i ≤ L.length ∧ ∀ j, j < i → p (ix L j) = false) (fun i => [(0, ents L), (1, .fn (.func F) [] [.eptr row 0]), (7, .int .i64 L.length), (8, .int .i64 i)]) (fun _ => []) 0 (fun i => L.length - i) 0
    ⟨⟨Nat.zero_le _, fun j hj => absurd hj (Nat.not_lt_zero j)⟩, [], rfl, rfl, ⟨AVle.refl _, AVle.refl _, AVle.refl _, AVle.refl _, trivial⟩, trivial⟩ ?_
  intro i hi
  refine Grd.intro (fun h2 => ?_) (fun h2 => ?_)
  · have hin : i < L.length := by have := of_decide_eq_true h2; omega
    refine And.intro (by omega) ?_
    conv => whnf
    refine CallC.sca _ (hp (ix L i) (getD_mem hin)) ?_ ?_
    · exact rfl
    refine Grd.intro (fun h3 => ?_) (fun h3 => ?_)
    · exact And.intro trivial (AVle.of_eq (congrArg (AV.int .i64) (fi_at hin hi.2 h3).symm))
    · refine And.intro (inI64 (by omega) (by omega)) ?_
      exact ⟨i + 1, ⟨hin, fun j hj => by
        rcases Nat.lt_or_ge j i with h' | h'
        · exact hi.2 j h'
        · rw [show j = i by omega]; exact h3⟩, by omega, [], rfl, rfl, ⟨AVle.refl _, AVle.refl _, AVle.refl _, AVle.of_eq (congrArg (AV.int .i64) (by simp)), trivial⟩, trivial⟩
  · have : i = L.length := by have := of_decide_eq_false h2; omega
    subst this
    exact And.intro trivial (AVle.of_eq (congrArg (AV.int .i64) (fi_none hi.2).symm))
theorem ContainsEn_1 (L : List En) (hL : L.length ≤ 9223372036854775807) (F : Nat) (row : List AV) (p : En → Bool) (hp : ∀ e ∈ L, VFn Tryz.prog F [e.av, .eptr row 0] (.bool (p e))) :
    VFn Tryz.prog 180 [ents L, .fn (.func F) [] [.eptr row 0]] (.bool (L.any p)) := by
  refine VFn.introC Tryz.call180 Tryz.func180 rfl rfl ?_
  conv => whnf
  refine CallC.sca _ (IndexEn_1 L hL F row p hp) ?_ ?_
  · exact rfl
  exact And.intro trivial (AVle.of_eq (congrArg AV.bool (show decide (0 ≤ fi p L) = _ from fi_any)))
end Go.Proofs.YtopfpmcakoeloaaGreatDoor
set_option linter.unusedVariables false
set_option linter.constructorNameAsVariable false
set_option linter.unusedSimpArgs false
set_option maxRecDepth 20000
namespace Go.Proofs.YtopfpmcakoeloaaGreatDoor
open Go Go.Vw

structure Sta where
  seq : Int
  fence : Int
  es : List En
  ts : List Tb
  l0 : Int
  l1 : Int
  l2 : Int
  h0 : Int
  h1 : Int
  h2 : Int
  deriving Inhabited, DecidableEq
def Sta.row (s : Sta) : List AV := [.int .i64 s.seq, .int .i64 s.fence, ents s.es, tbs s.ts, .int .i64 s.l0, .int .i64 s.l1, .int .i64 s.l2, .int .i64 s.h0, .int .i64 s.h1, .int .i64 s.h2]
def Sta.av (s : Sta) : AV := .agg s.row
def ofT (L : List En) (k : Int) : List En := L.filter fun e => decide (e.tier = k)
theorem ofT_snoc {L : List En} {i : Nat} (h : i < L.length) (k : Int) : ofT (L.take (i + 1)) k = if (ix L i).tier = k then ofT (L.take i) k ++ [ix L i] else ofT (L.take i) k := by
  unfold ofT
  rw [take_snoc h, List.filter_append]
  by_cases hk : (ix L i).tier = k
  · rw [if_pos hk]; simp [hk]
  · rw [if_neg hk]; simp [hk]
theorem ofT_len (L : List En) (k : Int) : (ofT L k).length ≤ L.length := List.length_filter_le _ _
theorem ofS_fn (s : Sta) (hL : s.es.length ≤ 1000000000) (k : Int) : VFn Tryz.prog 160 [s.av, .int .i64 k] (ents (ofT s.es k)) := by
  obtain ⟨R, hR⟩ : ∃ R, R = ofT s.es k := ⟨_, rfl⟩
  rw [← hR]
  have hl := fun i => Nat.le_trans (ofT_len (s.es.take i) k) (by simp; omega : (s.es.take i).length ≤ i)
  refine VFn.introC Tryz.call160 Tryz.func160 rfl rfl ?_
  refine LoopC.mk (fun i : Nat => i ≤ s.es.length) (fun i => [(1, .int .i64 k), (5, .osl 0), (10, ents s.es), (11, .int .i64 s.es.length), (12, .int .i64 i)])
    (fun i => [(0, .arr 149 4 (ofT (s.es.take i) k).length fun j => (ix (ofT (s.es.take i) k) j).row)]) 1 (fun i => s.es.length - i) 0
    ⟨Nat.zero_le _, [(1, 0)], rfl, rfl, ⟨AVle.refl _, AVle.refl _, AVle.refl _, AVle.refl _, AVle.refl _, trivial⟩, ⟨MOle.arr rfl fun i hi => absurd hi (Nat.not_lt_zero i), trivial⟩⟩ ?_
  intro i hi
  refine Grd.intro (fun h2 => ?_) (fun h2 => ?_)
  · have hin : i < s.es.length := by have := of_decide_eq_true h2; omega
    have hs := ofT_snoc hin k
    refine And.intro (by omega) ?_
    refine Grd.intro (fun h3 => ?_) (fun h3 => ?_)
    · rw [if_pos (show (ix s.es i).tier = k from of_decide_eq_true h3)] at hs
      refine And.intro ⟨show ((ofT (s.es.take i) k).length + 1) * 40 ≤ 140737488355328 by have := hl i; omega, all1 rfl⟩ ?_
      refine And.intro (inI64 (by omega) (by omega)) ?_
      refine ⟨i + 1, hin, by omega, [(3, 0)], rfl, rfl, ⟨AVle.refl _, AVle.refl _, AVle.refl _, AVle.refl _, AVle.of_eq (congrArg (AV.int .i64) (by simp)), trivial⟩, ⟨?_, trivial⟩⟩
      exact arr_next (f := En.row) hs rfl
    · rw [if_neg (show ¬ (ix s.es i).tier = k from of_decide_eq_false h3)] at hs
      refine And.intro (inI64 (by omega) (by omega)) ?_
      exact ⟨i + 1, hin, by omega, [(0, 0)], rfl, rfl, ⟨AVle.refl _, AVle.refl _, AVle.refl _, AVle.refl _, AVle.of_eq (congrArg (AV.int .i64) (by simp)), trivial⟩, ⟨MOle.of_eq (show MO.arr 149 4 (ofT (s.es.take i) k).length (fun j => (ix (ofT (s.es.take i) k) j).row) = _ by rw [hs]), trivial⟩⟩
  · have : i = s.es.length := by have := of_decide_eq_false h2; omega
    subst this
    have e : ofT (s.es.take s.es.length) k = R := by rw [List.take_of_length_le (Nat.le_refl _), hR]
    subst e
    exact And.intro trivial (AVle.sl rfl fun j hj => rfl)
/-- keys met, each once -/
def addK (ks : List (List UInt8)) (k : List UInt8) : List (List UInt8) := if k ∈ ks then ks else ks ++ [k]
def ddk (L : List (List UInt8)) : List (List UInt8) := L.foldl addK []
/-- entries one beside the other, from a moment on: where they end -/
def runs : List En → Int → Option Int
  | [], a => some a
  | e :: r, a => if e.f = a then runs r e.t else none
def atN (a : Int) (L : List En) : Nat → Int
  | 0 => a
  | i + 1 => (ix L i).t
def tierOK (L : List En) (lo hi : Int) (k : Int) : Bool := within lo 0 100000 && decide (runs (ofT L k) lo = some hi)
def tbOK (n : Int) (t : Tb) : Bool := kOk t.key && within t.seq 1 n
def Sta.keys (s : Sta) : List (List UInt8) := s.es.map (·.key) ++ s.ts.map (·.key)
def Sta.ok (s : Sta) : Bool :=
  within s.seq 0 999999 && (within s.fence 0 999999 && (decide (((s.es.length : Nat) : Int) + ((s.ts.length : Nat) : Int) ≤ 4096) && (s.es.all En.ok && (s.ts.all (tbOK s.seq) && (decide s.keys.Nodup &&
    (tierOK s.es s.l0 s.h0 0 && (tierOK s.es s.l1 s.h1 1 && tierOK s.es s.l2 s.h2 2)))))))
end Go.Proofs.YtopfpmcakoeloaaGreatDoor
set_option linter.unusedVariables false
set_option linter.constructorNameAsVariable false
set_option linter.unusedSimpArgs false
set_option maxRecDepth 20000
namespace Go.Proofs.YtopfpmcakoeloaaGreatDoor
open Go Go.Vw

def En.rc (e : En) : Rc := ⟨0, 0, e.tier, e.f, e.t, e.key⟩
/-- where a tier's entries end -/
def endE (L : List En) (lo : Int) (k : Int) : Int := match (ofT L k).getLast? with | some e => e.t | none => lo
theorem endE_snoc {L : List En} {i : Nat} (h : i < L.length) (lo k : Int) : endE (L.take (i + 1)) lo k = if (ix L i).tier = k then (ix L i).t else endE (L.take i) lo k := by
  unfold endE
  rw [ofT_snoc h]
  by_cases hk : (ix L i).tier = k
  · rw [if_pos hk, if_pos hk]; simp
  · rw [if_neg hk, if_neg hk]
def Sta.lo (s : Sta) (k : Int) : Int := if k = 0 then s.l0 else if k = 1 then s.l1 else s.l2
def Sta.hi (s : Sta) (k : Int) : Int := if k = 0 then s.h0 else if k = 1 then s.h1 else s.h2
def Sta.eOK (s : Sta) (i : Nat) : Bool := (ix s.es i).ok && (decide ((ix s.es i).f = endE (s.es.take i) (s.lo (ix s.es i).tier) (ix s.es i).tier) && !decide ((ix s.es i).key ∈ (s.es.take i).map (·.key)))
def Sta.tOK (s : Sta) (i : Nat) : Bool := tbOK s.seq (ix s.ts i) && !decide ((ix s.ts i).key ∈ s.es.map (·.key) ++ (s.ts.take i).map (·.key))
def Sta.ok' (s : Sta) : Bool :=
  within s.seq 0 999999 && (within s.fence 0 999999 && (decide (((s.es.length : Nat) : Int) + ((s.ts.length : Nat) : Int) ≤ 4096) && (allN s.es.length s.eOK && (allN s.ts.length s.tOK &&
    ((within s.l0 0 100000 && decide (s.h0 = endE s.es s.l0 0)) && ((within s.l1 0 100000 && decide (s.h1 = endE s.es s.l1 1)) && (within s.l2 0 100000 && decide (s.h2 = endE s.es s.l2 2))))))))
end Go.Proofs.YtopfpmcakoeloaaGreatDoor
set_option linter.unusedVariables false
set_option linter.constructorNameAsVariable false
set_option linter.unusedSimpArgs false
set_option maxRecDepth 20000
namespace Go.Proofs.YtopfpmcakoeloaaGreatDoor
open Go Go.Vw

theorem runs_snoc : ∀ (L : List En) (e : En) (a : Int), runs (L ++ [e]) a = (runs L a).bind fun b => if e.f = b then some e.t else none
  | [], e, a => by simp [runs]
  | x :: r, e, a => by
    rw [List.cons_append]; unfold runs
    by_cases h : x.f = a
    · rw [if_pos h, if_pos h]; exact runs_snoc r e x.t
    · rw [if_neg h, if_neg h]; rfl
theorem runs_end : ∀ (L : List En) (a b : Int), runs L a = some b → b = match L.getLast? with | some e => e.t | none => a
  | [], a, b, h => by cases h; rfl
  | x :: r, a, b, h => by
    unfold runs at h
    by_cases hx : x.f = a
    · rw [if_pos hx] at h
      have := runs_end r x.t b h
      cases r with
      | nil => exact this
      | cons y r => rw [this, List.getLast?_cons_cons]; cases hq : (y :: r).getLast? with
        | none => simp at hq
        | some z => rfl
    · rw [if_neg hx] at h; cases h
theorem runs_endE {L : List En} {k a b : Int} (h : runs (ofT L k) a = some b) : b = endE L a k := runs_end _ _ _ h
def sideBy (s : Sta) (m : Nat) : Prop := ∀ k, (k = 0 ∨ k = 1 ∨ k = 2) → runs (ofT (s.es.take m) k) (s.lo k) = some (endE (s.es.take m) (s.lo k) k)
theorem sideBy_iff (s : Sta) (ht : ∀ e ∈ s.es, e.tier = 0 ∨ e.tier = 1 ∨ e.tier = 2) : ∀ m, m ≤ s.es.length →
    ((∀ i, i < m → (ix s.es i).f = endE (s.es.take i) (s.lo (ix s.es i).tier) (ix s.es i).tier) ↔ sideBy s m)
  | 0, _ => ⟨fun _ k _ => rfl, fun _ i hi => absurd hi (Nat.not_lt_zero i)⟩
  | m + 1, hm => by
    have hin : m < s.es.length := hm
    have ih := sideBy_iff s ht m (by omega)
    have hs := fun k => ofT_snoc hin k
    have he := fun lo k => endE_snoc hin lo k
    have hte := ht _ (getD_mem hin)
    constructor
    · intro h k hk
      have h0 := ih.1 (fun i hi => h i (by omega)) k hk
      rw [hs, he]
      by_cases hkt : (ix s.es m).tier = k
      · rw [if_pos hkt, if_pos hkt, runs_snoc, h0]
        have := h m (by omega)
        rw [hkt] at this
        simp [this]
      · rw [if_neg hkt, if_neg hkt]; exact h0
    · intro h
      have hprev : sideBy s m := fun k hk => by
        have h1 := h k hk
        rw [hs] at h1
        by_cases hkt : (ix s.es m).tier = k
        · rw [if_pos hkt, runs_snoc] at h1
          cases hr : runs (ofT (s.es.take m) k) (s.lo k) with
          | none => rw [hr] at h1; cases h1
          | some b => rw [runs_endE hr]
        · rw [if_neg hkt] at h1
          rw [h1, runs_endE h1]
      intro i hi
      rcases Nat.lt_or_ge i m with h' | h'
      · exact ih.2 hprev i h'
      · have : i = m := by omega
        subst this
        have h1 := h _ hte
        rw [hs, if_pos rfl, runs_snoc, hprev _ hte] at h1
        simp only [Option.bind_some] at h1
        by_cases hf : (ix s.es i).f = endE (s.es.take i) (s.lo (ix s.es i).tier) (ix s.es i).tier
        · exact hf
        · rw [if_neg hf] at h1; cases h1
theorem allN_iff {n : Nat} {p : Nat → Bool} : allN n p = true ↔ ∀ i, i < n → p i = true := by
  unfold allN; rw [List.all_eq_true]; simp
end Go.Proofs.YtopfpmcakoeloaaGreatDoor
set_option linter.unusedVariables false
set_option linter.constructorNameAsVariable false
set_option linter.unusedSimpArgs false
set_option maxRecDepth 20000
namespace Go.Proofs.YtopfpmcakoeloaaGreatDoor
open Go Go.Vw

def En.size (e : En) : Nat := e.key.length
def Tb.size (e : Tb) : Nat := e.key.length
def Sta.size (s : Sta) : Nat := (s.es.length + sumL En.size s.es) + (s.ts.length + sumL Tb.size s.ts)
/-- what is read of a state -/
def Sta.read (s : Sta) : Prop := s.es.length ≤ 9223372036854775807 ∧ s.ts.length ≤ 9223372036854775807 ∧ (∀ e ∈ s.es, e.size ≤ 9223372036854775807) ∧ ∀ e ∈ s.ts, e.size ≤ 9223372036854775807
theorem Sta.small {s : Sta} (h : (s.size : Int) ≤ 1048576) : s.es.length ≤ 1048576 ∧ s.ts.length ≤ 1048576 ∧ (∀ e ∈ s.es, e.key.length ≤ 1048576) ∧ ∀ e ∈ s.ts, e.key.length ≤ 1048576 := by
  unfold Sta.size at h
  refine ⟨by omega, by omega, fun e he => ?_, fun e he => ?_⟩
  · have := sum_mem (f := En.size) he
    have e' : e.size = e.key.length := rfl
    omega
  · have := sum_mem (f := Tb.size) he
    have e' : e.size = e.key.length := rfl
    omega
end Go.Proofs.YtopfpmcakoeloaaGreatDoor
set_option linter.unusedVariables false
set_option linter.constructorNameAsVariable false
set_option linter.unusedSimpArgs false
set_option maxRecDepth 20000
namespace Go.Proofs.YtopfpmcakoeloaaGreatDoor
open Go Go.Vw

theorem keyOK_bad {k : List UInt8} {i : Nat} (hi : i < k.length) (h : keyC (k.getD i 0) = false) : keyOK k = false := by
  have : k.all keyC = false := by
    rw [← Bool.not_eq_true]; intro h'
    have e : k.getD i 0 = k[i] := by simp [List.getD, hi]
    rw [e, List.all_eq_true.1 h' _ (List.getElem_mem hi)] at h; cases h
  unfold keyOK; rw [this]; rfl
theorem keyOK_all {k : List UInt8} (h : ∀ j, j < k.length → keyC (k.getD j 0) = true) : keyOK k = within k.length 1 30 := by
  have : k.all keyC = true := List.all_eq_true.2 fun x hx => by
    obtain ⟨j, hj, e⟩ := List.getElem_of_mem hx
    have := h j hj
    have e2 : k.getD j 0 = k[j] := by simp [List.getD, hj]
    rw [e2, e] at this; exact this
  unfold keyOK; rw [this]; rfl
theorem KeyOK_fn (k : List UInt8) (hk : k.length ≤ 1000000000) : VFn Tryz.prog 64 [.str (B k)] (.bool (keyOK k)) := by
  obtain ⟨R, hR⟩ : ∃ R, R = keyOK k := ⟨_, rfl⟩
  rw [← hR]
  refine VFn.introC Tryz.call64 Tryz.func64 rfl rfl ?_
  refine LoopC.mk (fun i : Nat => i ≤ k.length ∧ ∀ j, j < i → keyC (k.getD j 0) = true) (fun i => [(0, .str (B k)), (6, .int .i64 k.length), (7, .int .i64 i)]) (fun _ => []) 0 (fun i => k.length - i) 0
    ⟨⟨Nat.zero_le _, fun j hj => absurd hj (Nat.not_lt_zero j)⟩, [], rfl, rfl, ⟨AVle.refl _, AVle.refl _, AVle.refl _, trivial⟩, trivial⟩ ?_
  intro i hi
  refine Grd.intro (fun h2 => ?_) (fun h2 => ?_)
  · have hin : i < k.length := by have := of_decide_eq_true h2; omega
    refine And.intro ⟨by omega, show (i : Int) < ((B k).size : Int) by rw [B_size]; omega⟩ ?_
    have hbad : keyC (k.getD i 0) = false → false = R := fun h => by rw [hR, keyOK_bad hin h]
    have hgood : keyC (k.getD i 0) = true → ∀ j, j < i + 1 → keyC (k.getD j 0) = true := fun h j hj => by
      rcases Nat.lt_or_ge j i with h' | h'
      · exact hi.2 j h'
      · rw [show j = i by omega]; exact h
    have hx : (k.getD i 0).toNat = ((B k).data.toList.getD (i : Int).toNat 0).toNat := rfl
    generalize ((B k).data.toList.getD (i : Int).toNat 0).toNat = c at hx ⊢
    have hC : keyC (k.getD i 0) = ((decide (97 ≤ (c : Int)) && decide ((c : Int) ≤ 122)) || (decide (48 ≤ (c : Int)) && decide ((c : Int) ≤ 57)) || decide ((c : Int) = 47) || decide ((c : Int) = 45)) := by unfold keyC; rw [hx]
    rw [hC] at hbad hgood
    repeat' (first
      | refine Grd.intro (fun h => ?_) (fun h => ?_)
      | ((conv => whnf); refine Grd.intro (fun h => ?_) (fun h => ?_)))
    all_goals first
      | exact And.intro trivial (AVle.of_eq (congrArg AV.bool (hbad (by simp_all; omega))))
      | exact And.intro trivial (AVle.of_eq (congrArg AV.bool (hbad (by simp_all))))
      | (refine And.intro (inI64 (by omega) (by omega)) ?_
         exact ⟨i + 1, ⟨hin, hgood (by simp_all; omega)⟩, by omega, [], rfl, rfl, ⟨AVle.refl _, AVle.refl _, AVle.of_eq (congrArg (AV.int .i64) (by simp)), trivial⟩, trivial⟩)
      | (refine And.intro (inI64 (by omega) (by omega)) ?_
         exact ⟨i + 1, ⟨hin, hgood (by simp_all)⟩, by omega, [], rfl, rfl, ⟨AVle.refl _, AVle.refl _, AVle.of_eq (congrArg (AV.int .i64) (by simp)), trivial⟩, trivial⟩)
  · have : i = k.length := by have := of_decide_eq_false h2; omega
    subst this
    conv => whnf
    refine CallC.sca _ (within_fn _ _ _) ?_ ?_
    · exact rfl
    rw [hR, keyOK_all hi.2]
    exact And.intro trivial (AVle.of_eq (congrArg AV.bool (show within ((B k).size : Nat) 1 30 = _ by rw [B_size])))
theorem StoreOK_fn (s : Sto) (hL : s.os.length ≤ 1000000000) (hk : ∀ o ∈ s.os, o.key.length ≤ 1000000000) : VFn Tryz.prog 34 [s.av] (.bool s.ok) := by
  refine VFn.introC Tryz.call34 Tryz.func34 rfl rfl ?_
  conv => whnf
  refine CallC.sca _ (within_fn s.next 1 1000000000) ?_ ?_
  · exact rfl
  refine Grd.intro (fun h1 => ?_) (fun h1 => ?_)
  · have h1 : within s.next 1 1000000000 = false := wnot h1
    rw [show s.ok = false by unfold Sto.ok; rw [h1]; rfl]
    exact And.intro trivial (AVle.refl _)
  have h1 : within s.next 1 1000000000 = true := wyes h1
  refine Grd.intro (fun h2 => ?_) (fun h2 => ?_)
  · have h2 : ¬ s.os.length ≤ 300 := by
      have := of_decide_eq_true (show decide ((300 : Int) < (s.os.length : Int)) = true from h2); omega
    rw [show s.ok = false by unfold Sto.ok; rw [decide_eq_false h2]; simp]
    exact And.intro trivial (AVle.refl _)
  have h2 : s.os.length ≤ 300 := by
    have := of_decide_eq_false (show decide ((300 : Int) < (s.os.length : Int)) = false from h2); omega
  have hn : 1 ≤ s.next ∧ s.next ≤ 1000000000 := by simpa [within] using h1
  refine LoopC.mk (fun i : Nat => i ≤ s.os.length ∧ ∀ j, j < i → s.eOK j = true) (fun i => [(1, .bptr 0 0), (3, .omap 1), (18, obs s.os), (19, .int .i64 s.os.length), (20, .int .i64 i)]) (fun i => [(0, .box s.row), (1, .imap (s.vers i))]) 2 (fun i => s.os.length - i) 0
    ⟨⟨Nat.zero_le _, fun j hj => absurd hj (Nat.not_lt_zero j)⟩, [(0, 0), (1, 1)], rfl, rfl, ⟨AVle.refl _, AVle.refl _, AVle.refl _, AVle.refl _, AVle.refl _, trivial⟩, ⟨MOle.refl _, MOle.refl _, trivial⟩⟩ ?_
  intro i hi
  obtain ⟨hi, hall⟩ := hi
  refine Grd.intro (fun h3 => ?_) (fun h3 => ?_)
  · have hin : i < s.os.length := by have := of_decide_eq_true h3; omega
    have hbad : s.eOK i = false → s.ok = false := Sto.ok_no hin
    refine And.intro (by omega) ?_
    refine DrawC.mk 41 rfl (by kernel_rfl) ?_
    refine PCallC.sca _ (KeyOK_fn (ix s.os i).key (hk _ (getD_mem hin))) rfl ?_
    refine Grd.intro (fun g1 => ?_) (fun g1 => ?_)
    · rw [hbad (by unfold Sto.eOK; rw [wnot g1]; rfl)]
      exact And.intro trivial (AVle.refl _)
    refine And.intro (inI64 (by omega) (by omega)) ?_
    refine PCallC.sca _ (within_fn (ix s.os i).ver 1 (s.next - 1)) rfl ?_
    conv => whnf
    refine Grd.intro (fun g2 => ?_) (fun g2 => ?_)
    · rw [hbad (by unfold Sto.eOK; rw [show within (ix s.os i).ver 1 (s.next - 1) = false from wnot g2]; simp)]
      exact And.intro trivial (AVle.refl _)
    conv => whnf
    refine Grd.intro (fun g3 => ?_) (fun g3 => ?_)
    · have g3 : ¬ (ix s.os i).data.length ≤ 600 := by
        have := of_decide_eq_true (show decide ((600 : Int) < (((B (ix s.os i).data).size : Nat) : Int)) = true from g3)
        rw [B_size] at this; omega
      rw [hbad (by unfold Sto.eOK; rw [decide_eq_false g3]; simp)]
      exact And.intro trivial (AVle.refl _)
    conv => whnf
    refine Grd.intro (fun g4 => ?_) (fun g4 => ?_)
    · have g4 : decide ((ix s.os i).ver ∈ (s.os.take i).map (·.ver)) = true := g4
      rw [hbad (by unfold Sto.eOK; rw [g4]; simp)]
      exact And.intro trivial (AVle.refl _)
    have g4 : decide ((ix s.os i).ver ∈ s.vers i) = false := g4
    have g3 : (ix s.os i).data.length ≤ 600 := by
      have := of_decide_eq_false (show decide ((600 : Int) < (((B (ix s.os i).data).size : Nat) : Int)) = false from g3)
      rw [B_size] at this; omega
    have hpre : (decide (i = 0) || decide ((ix s.os (i - 1)).key < (ix s.os i).key)) = true → s.eOK i = true := fun h => by
      unfold Sto.eOK; rw [wyes g1, show within (ix s.os i).ver 1 (s.next - 1) = true from wyes g2, decide_eq_true g3, show decide ((ix s.os i).ver ∈ (s.os.take i).map (·.ver)) = false from g4, h]; rfl
    have hnext : s.eOK i = true → ∀ j, j < i + 1 → s.eOK j = true := fun h j hj => by
      rcases Nat.lt_or_ge j i with h' | h'
      · exact hall j h'
      · rw [show j = i by omega]; exact h
    conv => whnf
    refine Grd.intro (fun g5 => ?_) (fun g5 => ?_)
    · have h0 : 0 < i := by have := of_decide_eq_true g5; omega
      have e1 : ((i : Int) - 1).toNat = i - 1 := by omega
      refine And.intro (inI64 (by omega) (by omega)) ?_
      refine And.intro ⟨by omega, by omega⟩ ?_
      have hcmp : (!Op.bytesLess (B (ix s.os ((i : Int) - 1).toNat).key).toList (B (ix s.os i).key).toList) = !decide ((ix s.os (i - 1)).key < (ix s.os i).key) := by rw [blt_lt, e1]
      conv => whnf
      refine Grd.intro (fun g6 => ?_) (fun g6 => ?_)
      · have g6 := hcmp.symm.trans g6
        rw [hbad (by unfold Sto.eOK; rw [show decide ((ix s.os (i - 1)).key < (ix s.os i).key) = false from wnot g6, decide_eq_false (show ¬ i = 0 by omega)]; simp)]
        exact And.intro trivial (AVle.refl _)
      · have g6 := hcmp.symm.trans g6
        have he := hpre (by rw [show decide ((ix s.os (i - 1)).key < (ix s.os i).key) = true from wyes g6]; simp)
        refine And.intro (inI64 (by omega) (by omega)) ?_
        refine ⟨i + 1, ⟨hin, hnext he⟩, by omega, [(0, 0), (1, 1)], rfl, rfl, ⟨AVle.refl _, AVle.refl _, AVle.refl _, AVle.refl _, AVle.of_eq (congrArg (AV.int .i64) (by simp)), trivial⟩, ⟨MOle.refl _, MOle.of_eq (show MO.imap (if (ix s.os i).ver ∈ s.vers i then s.vers i else s.vers i ++ [(ix s.os i).ver]) = _ from ?_), trivial⟩⟩
        rw [if_neg (of_decide_eq_false g4), Sto.vers_snoc s hin]
    · have h0 : i = 0 := by have := of_decide_eq_false g5; omega
      have he := hpre (by rw [decide_eq_true h0]; rfl)
      refine And.intro (inI64 (by omega) (by omega)) ?_
      refine ⟨i + 1, ⟨hin, hnext he⟩, by omega, [(0, 0), (1, 1)], rfl, rfl, ⟨AVle.refl _, AVle.refl _, AVle.refl _, AVle.refl _, AVle.of_eq (congrArg (AV.int .i64) (by simp)), trivial⟩, ⟨MOle.refl _, MOle.of_eq (show MO.imap (if (ix s.os i).ver ∈ s.vers i then s.vers i else s.vers i ++ [(ix s.os i).ver]) = _ from ?_), trivial⟩⟩
      rw [if_neg (of_decide_eq_false g4), Sto.vers_snoc s hin]
  · have : i = s.os.length := by have := of_decide_eq_false h3; omega
    subst this
    rw [Sto.ok_yes h1 h2 hall]
    exact And.intro trivial (AVle.refl _)
end Go.Proofs.YtopfpmcakoeloaaGreatDoor
