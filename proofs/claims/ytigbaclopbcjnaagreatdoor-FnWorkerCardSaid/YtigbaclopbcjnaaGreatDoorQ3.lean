/- Contracts of functions that the claim reaches, and the plain law of what they compute; each theorem bears its own conditions. -/
import Derived.Test.YtigbaclopbcjnaaGreatDoorQ2
import Derived.Test.YtigbaclopbcjnaaGreatDoorV52
set_option linter.unusedVariables false
set_option linter.constructorNameAsVariable false
set_option linter.unusedSimpArgs false
set_option maxRecDepth 20000
namespace Go.Proofs.YtigbaclopbcjnaaGreatDoor
open Go Go.Vw
theorem six_fn (n : Int) (h : within n 0 999999 = true) : VFn Tryz.prog 120 [.int .i64 n] (.str (B (six6 n.toNat))) := by
 have hb : 0 ≤ n ∧ n ≤ 999999 := by simpa [within] using h
 have e : 1000000 + n = 1000000 + ((n.toNat : Nat) : Int) := by omega
 have hi := itoa_million (n := n.toNat) (by omega)
 refine VFn.introC Tryz.call120 Tryz.func120 rfl rfl ?_
 refine And.intro (inI64 (by omega) (by omega)) ?_
 conv => whnf
 refine CallC.sca _ (Itoa_fn (1000000 + n) (by omega) (by omega)) ?_ ?_
 · exact rfl
 conv => whnf
 refine And.intro ?_ ?_
 · refine ⟨by omega, ?_⟩
   rw [B_size, e, hi]; simp [six6_len]
 refine And.intro trivial (AVle.of_eq (congrArg AV.str ?_))
 rw [B_extract, B_size, e, hi]; rfl
theorem isSix_fn (n : Int) : VFn Tryz.prog 146 [.int .i64 n] (.bool (within n 0 999999)) := by
 refine VFn.introC Tryz.call146 Tryz.func146 rfl rfl ?_
 conv => whnf
 refine CallC.sca _ (within_fn _ _ _) ?_ ?_
 · exact rfl
 exact And.intro trivial (AVle.refl _)
theorem atoi_yes {l : List UInt8} (hl : l.length = 6) (h : l.all dig = true) : atoiOk l = true ∧ atoiV l = numB 0 l ∧ within (atoiV l) 0 999999 = true ∧ six6 (atoiV l).toNat = l := by
 have h1 := atoi_dig (by intro e; subst e; cases hl) (by omega) h
 have h2 := six6_numB hl h
 have h3 : atoiV l = numB 0 l := by unfold atoiV; rw [h1]
 refine ⟨by unfold atoiOk; rw [h1], h3, ?_, ?_⟩
 · rw [h3]; simp [within]; omega
 · rw [h3]; exact h2.2
theorem readSix_fn (l : List UInt8) (hl : l.length = 6) : VFn Tryz.prog 106 [.str (B l)] (.tup [.int .i64 (atoiV l), .bool (l.all dig)]) := by
 refine VFn.introC Tryz.call106 Tryz.func106 rfl rfl ?_
 by_cases hd : l.all dig = true
 · obtain ⟨h1, h2, h3, h4⟩ := atoi_yes hl hd
   conv => whnf
   refine CallC.sca _ (Atoi_ok l (by omega) h1) ?_ ?_
   · exact rfl
   conv => whnf
   refine CallC.sca _ (isSix_fn _) ?_ ?_
   · exact rfl
   refine Grd.intro (fun h => ?_) (fun h => absurd (h.symm.trans h3) (by simp))
   conv => whnf
   refine CallC.sca _ (six_fn _ h3) ?_ ?_
   · exact rfl
   refine And.intro trivial (AVle.of_eq (show AV.tup [AV.int .i64 (atoiV l), AV.bool ((B (six6 (atoiV l).toNat)).toList == (B l).toList)] = _ from ?_))
   rw [B_eq, hd, h4]; simp
 · have hd' : l.all dig = false := by simpa using hd
   by_cases ho : atoiOk l = true
   · conv => whnf
     refine CallC.sca _ (Atoi_ok l (by omega) ho) ?_ ?_
     · exact rfl
     conv => whnf
     refine CallC.sca _ (isSix_fn _) ?_ ?_
     · exact rfl
     refine Grd.intro (fun h => ?_) (fun h => ?_)
     · conv => whnf
       refine CallC.sca _ (six_fn _ h) ?_ ?_
       · exact rfl
       refine And.intro trivial (AVle.of_eq (show AV.tup [AV.int .i64 (atoiV l), AV.bool ((B (six6 (atoiV l).toNat)).toList == (B l).toList)] = _ from ?_))
       have : ¬ six6 (atoiV l).toNat = l := fun e => hd (by rw [← e]; exact six6_dig _)
       rw [B_eq, hd']; simp [this]
     · rw [hd']
       exact And.intro trivial (AVle.refl _)
   · conv => whnf
     refine CallC.sca _ (Atoi_no l (by omega) (by simpa using ho)) ?_ ?_
     · exact rfl
     rw [hd']
     exact And.intro trivial (AVle.refl _)
theorem dataPrefixes_fn : VFn Tryz.prog 104 [] (txts [pre 0, pre 1, pre 2]) := by
 refine VFn.introC Tryz.call104 Tryz.func104 rfl rfl ?_
 refine And.intro trivial (AVle.sl rfl fun i hi => ?_)
 have : i = 0 ∨ i = 1 ∨ i = 2 := by omega
 rcases this with rfl | rfl | rfl <;> rfl
theorem readSix_at {s : ByteArray} {l : List UInt8} (e : s = B l) (hl : l.length = 6) : VFn Tryz.prog 106 [.str s] (.tup [.int .i64 (atoiV l), .bool (l.all dig)]) := by
 subst e; exact readSix_fn l hl
theorem readDataKey_fn (k : List UInt8) : VFn Tryz.prog 59 [.str (B k)] (.tup [.int .i64 (kT k), .int .i64 (kN k), .int .i64 (kW k), .bool (kOk k)]) := by
 refine VFn.introC Tryz.call59 Tryz.func59 rfl rfl ?_
 conv => whnf
 refine CallC.nl _ (dataPrefixes_fn) ?_ ?_
 · exact rfl
 refine LoopC.mk (fun i : Nat => i ≤ 3 ∧ ∀ j, j < i → tryK j k = none) (fun i => [(0, .str (B k)), (14, txts [pre 0, pre 1, pre 2]), (15, .int .i64 3), (16, .int .i64 i)]) (fun _ => []) 0 (fun i => 3 - i) 0
  ⟨⟨by omega, fun j hj => absurd hj (by omega)⟩, [], rfl, rfl, ⟨AVle.refl _, AVle.refl _, AVle.refl _, AVle.refl _, trivial⟩, trivial⟩ ?_
 intro i hi
 refine Grd.intro (fun h2 => ?_) (fun h2 => ?_)
 · have hin : i < 3 := by have := of_decide_eq_true h2; omega
   have hp : ix [pre 0, pre 1, pre 2] i = pre i := by
    have : i = 0 ∨ i = 1 ∨ i = 2 := by omega
    rcases this with rfl | rfl | rfl <;> rfl
   have hnext : tryK i k = none → ∀ j, j < i + 1 → tryK j k = none := fun h j hj => by
    rcases Nat.lt_or_ge j i with h' | h'
    · exact hi.2 j h'
    · rw [show j = i by omega]; exact h
   conv => whnf
   refine And.intro ⟨by omega, by show (i : Int) < ((3 : Nat) : Int); omega⟩ ?_
   conv => whnf
   refine CallC.sca _ (CutPrefix_fn k (ix [pre 0, pre 1, pre 2] i)) ?_ ?_
   · exact rfl
   have ht : Lib.hasPrefix k (ix [pre 0, pre 1, pre 2] i) = true → Lib.trimPrefix k (ix [pre 0, pre 1, pre 2] i) = k.drop (pre i).length := fun h => by
    unfold Lib.trimPrefix; rw [if_pos h, hp]
   have h0 : Lib.hasPrefix k (ix [pre 0, pre 1, pre 2] i) = false → tryK i k = none := fun h => by
    unfold tryK; rw [← hp, h]; rfl
   have h1 : Lib.hasPrefix k (ix [pre 0, pre 1, pre 2] i) = true → tryK i k = restK i (k.drop (pre i).length) := fun h => by
    rw [hp] at h; unfold tryK; rw [if_pos h]
   generalize Lib.hasPrefix k (ix [pre 0, pre 1, pre 2] i) = hP at h0 h1 ht
   generalize hr : Lib.trimPrefix k (ix [pre 0, pre 1, pre 2] i) = r at ht
   refine Grd.intro (fun h3 => ?_) (fun h3 => ?_)
   · have hr' := ht h3
     have h1' := h1 h3
     rw [← hr'] at h1'
     have hfail : restK i r = none → ∀ j, j < i + 1 → tryK j k = none := fun h => hnext (h1'.trans h)
     refine Grd.intro (fun h4 => ?_) (fun h4 => ?_)
     · have h13 : r.length = 13 := by have := of_decide_eq_true h4; rw [B_size] at this; omega
       refine And.intro ⟨by omega, by rw [B_size]; omega⟩ ?_
       refine Grd.intro (fun h5 => ?_) (fun h5 => ?_)
       · have h6 : ix r 6 = 45 := by
          have h : ((r.getD 6 0).toNat : Int) = 45 := of_decide_eq_true h5
          exact UInt8.toNat_inj.1 (by show (r.getD 6 0).toNat = 45; omega)
         have hA : (B r).extract 0 6 = B (r.take 6) := by rw [B_extract]; rfl
         have hB : (B r).extract 7 (B r).size = B (r.drop 7) := by rw [B_extract, B_size, h13, List.take_of_length_le (by simp; omega)]
         have hlA : (r.take 6).length = 6 := by simp; omega
         have hlB : (r.drop 7).length = 6 := by simp; omega
         conv => whnf
         refine And.intro ⟨by omega, by rw [B_size]; omega⟩ ?_
         conv => whnf
         refine CallC.sca _ (readSix_at hA hlA) ?_ ?_
         · exact rfl
         conv => whnf
         refine And.intro ⟨by omega, by rw [B_size]; omega⟩ ?_
         conv => whnf
         refine CallC.sca _ (readSix_at hB hlB) ?_ ?_
         · exact rfl
         refine Grd.intro (fun h7 => ?_) (fun h7 => ?_)
         · refine Grd.intro (fun h8 => ?_) (fun h8 => ?_)
           · have hs : restK i r = some (i, numB 0 (r.take 6), numB 0 (r.drop 7)) := by
              unfold restK; rw [if_pos ⟨h13, h6, h7, h8⟩]
             have hk := tryK_parse hin (h1'.trans hs)
             refine And.intro trivial (AVle.of_eq (show AV.tup [AV.int .i64 i, AV.int .i64 (atoiV (r.take 6)), AV.int .i64 (atoiV (r.drop 7)), AV.bool true] = _ from ?_))
             unfold kT kN kW kOk
             rw [hk, (atoi_yes hlA h7).2.1, (atoi_yes hlB h8).2.1]; rfl
           · have := hfail (by unfold restK; rw [if_neg (fun h => absurd (h.2.2.2.symm.trans h8) (by simp))])
             refine And.intro (inI64 (by omega) (by omega)) ?_
             exact ⟨i + 1, ⟨by omega, this⟩, by omega, [], rfl, rfl, ⟨AVle.refl _, AVle.refl _, AVle.refl _, AVle.of_eq (congrArg (AV.int .i64) (by simp)), trivial⟩, trivial⟩
         · have := hfail (by unfold restK; rw [if_neg (fun h => absurd (h.2.2.1.symm.trans h7) (by simp))])
           refine And.intro (inI64 (by omega) (by omega)) ?_
           exact ⟨i + 1, ⟨by omega, this⟩, by omega, [], rfl, rfl, ⟨AVle.refl _, AVle.refl _, AVle.refl _, AVle.of_eq (congrArg (AV.int .i64) (by simp)), trivial⟩, trivial⟩
       · have := hfail (by
          unfold restK; rw [if_neg]
          rintro ⟨_, h6, _⟩
          have h : ¬ ((r.getD 6 0).toNat : Int) = 45 := of_decide_eq_false h5
          exact h (by rw [show r.getD 6 0 = 45 from h6]; rfl))
         refine And.intro (inI64 (by omega) (by omega)) ?_
         exact ⟨i + 1, ⟨by omega, this⟩, by omega, [], rfl, rfl, ⟨AVle.refl _, AVle.refl _, AVle.refl _, AVle.of_eq (congrArg (AV.int .i64) (by simp)), trivial⟩, trivial⟩
     · have h13 : ¬ r.length = 13 := by have := of_decide_eq_false h4; rw [B_size] at this; omega
       have := hfail (by unfold restK; rw [if_neg (fun h => h13 h.1)])
       refine And.intro (inI64 (by omega) (by omega)) ?_
       exact ⟨i + 1, ⟨by omega, this⟩, by omega, [], rfl, rfl, ⟨AVle.refl _, AVle.refl _, AVle.refl _, AVle.of_eq (congrArg (AV.int .i64) (by simp)), trivial⟩, trivial⟩
   · have := hnext (h0 (by simpa using h3))
     refine And.intro (inI64 (by omega) (by omega)) ?_
     exact ⟨i + 1, ⟨by omega, this⟩, by omega, [], rfl, rfl, ⟨AVle.refl _, AVle.refl _, AVle.refl _, AVle.of_eq (congrArg (AV.int .i64) (by simp)), trivial⟩, trivial⟩
 · have h3 : i = 3 := by have := of_decide_eq_false h2; omega
   subst h3
   have hk := parse_none hi.2
   refine And.intro trivial (AVle.of_eq (show AV.tup [AV.int .i64 0, AV.int .i64 0, AV.int .i64 0, AV.bool false] = _ from ?_))
   unfold kT kN kW kOk
   rw [hk]; rfl
theorem l00Digit_fn (c : UInt8) : VFn Tryz.prog 85 [.int .u8 c.toNat] (.bool (dig c)) := by
 refine VFn.introC Tryz.call85 Tryz.func85 rfl rfl ?_
 refine Grd.intro (fun h => ?_) (fun h => ?_)
 · refine And.intro trivial (AVle.of_eq (congrArg AV.bool (show decide ((c.toNat : Int) ≤ 57) = decide (48 ≤ c.toNat ∧ c.toNat ≤ 57) from decide_eq_decide.2 ?_)))
   have h := of_decide_eq_true h
   omega
 · refine And.intro trivial (AVle.of_eq (congrArg AV.bool (show false = decide (48 ≤ c.toNat ∧ c.toNat ≤ 57) from (decide_eq_false ?_).symm)))
   have h := of_decide_eq_false h
   omega
theorem numB_snoc : ∀ (l : List UInt8) (n : Nat) (c : UInt8), numB n (l ++ [c]) = numB n l * 10 + (c.toNat - 48)
 | [], n, c => rfl
 | x :: r, n, c => numB_snoc r _ c
theorem numB_take {l : List UInt8} {i : Nat} (h : i < l.length) : numB 0 (l.take (i + 1)) = numB 0 (l.take i) * 10 + ((ix l i).toNat - 48) := by rw [take_snoc h, numB_snoc]
theorem pow_le18 {i : Nat} (h : i ≤ 17) : 10 ^ i ≤ 100000000000000000 := Nat.pow_le_pow_right (by decide) h
theorem l03Fixed_fn (l : List UInt8) (hl : l.length ≤ 18) : VFn Tryz.prog 130 [.str (B l)] (.tup [.int .i64 (if l.all dig = true then numB 0 l else 0 : Nat), .bool (l.all dig)]) := by
 refine VFn.introC Tryz.call130 Tryz.func130 rfl rfl ?_
 refine LoopC.mk (fun i : Nat => i ≤ l.length ∧ (l.take i).all dig = true ∧ numB 0 (l.take i) < 10 ^ i) (fun i => [(0, .str (B l)), (4, .int .i64 (numB 0 (l.take i))), (5, .int .i64 i)]) (fun _ => []) 0 (fun i => l.length - i) 0
  ⟨⟨by omega, rfl, Nat.one_pos⟩, [], rfl, rfl, ⟨AVle.refl _, AVle.refl _, AVle.refl _, trivial⟩, trivial⟩ ?_
 intro i hi
 obtain ⟨hi1, hi2, hi3⟩ := hi
 refine Grd.intro (fun h2 => ?_) (fun h2 => ?_)
 · have hin : i < l.length := by have := of_decide_eq_true h2; rw [B_size] at this; omega
   have hp := pow_le18 (i := i) (by omega)
   refine And.intro ⟨by omega, by rw [B_size]; omega⟩ ?_
   conv => whnf
   refine CallC.sca _ (l00Digit_fn (ix l i)) ?_ ?_
   · exact rfl
   refine Grd.intro (fun h3 => ?_) (fun h3 => ?_)
   · have hd : l.all dig = false := by
      rw [← Bool.not_eq_true]
      intro h
      have : dig (ix l i) = true := List.all_eq_true.1 h _ (getD_mem hin)
      rw [this] at h3; cases h3
     rw [hd]
     exact And.intro trivial (AVle.refl _)
   · have hd : dig (ix l i) = true := by simpa using h3
     have hd2 := of_decide_eq_true hd
     have hn := numB_take hin
     refine And.intro (inI64 (by omega) (by omega)) ?_
     refine And.intro ⟨by omega, by rw [B_size]; omega⟩ ?_
     refine And.intro (show inI .u8 (((ix l i).toNat : Int) - 48) from ⟨show (0 : Int) ≤ _ by omega, show _ ≤ (255 : Int) by omega⟩) ?_
     refine And.intro (show inI .i64 (((ix l i).toNat : Int) - 48) from inI64 (by omega) (by omega)) ?_
     refine And.intro (show inI .i64 (10 * (numB 0 (l.take i) : Int) + (((ix l i).toNat : Int) - 48)) from inI64 (by omega) (by omega)) ?_
     refine And.intro (inI64 (by omega) (by omega)) ?_
     refine ⟨i + 1, ⟨hin, ?_, ?_⟩, by omega, [], rfl, rfl, ⟨AVle.refl _, AVle.of_eq (congrArg (AV.int .i64) (show 10 * (numB 0 (l.take i) : Int) + (((ix l i).toNat : Int) - 48) = _ by rw [hn]; omega)), AVle.of_eq (congrArg (AV.int .i64) (by simp)), trivial⟩, trivial⟩
     · rw [take_snoc hin, List.all_append, hi2]; simp [hd]
     · rw [hn, Nat.pow_succ]; omega
 · have : i = l.length := by have := of_decide_eq_false h2; rw [B_size] at this; omega
   subst this
   rw [List.take_of_length_le (Nat.le_refl _)] at hi2
   refine And.intro trivial (AVle.of_eq (show AV.tup [AV.int .i64 (numB 0 (l.take l.length)), AV.bool true] = _ from ?_))
   rw [hi2, if_pos rfl, List.take_of_length_le (Nat.le_refl _)]
def cutS (c : UInt8) (l : List UInt8) : Nat → List (List UInt8) × Nat
 | 0 => ([], 0)
 | i + 1 => if ix l i = c then ((cutS c l i).1 ++ [(l.drop (cutS c l i).2).take (i - (cutS c l i).2)], i + 1) else cutS c l i
theorem cutS_from (c : UInt8) (l : List UInt8) : ∀ i, (cutS c l i).2 ≤ i ∧ (cutS c l i).1.length ≤ i
 | 0 => ⟨Nat.le_refl _, Nat.le_refl _⟩
 | i + 1 => by
   have := cutS_from c l i
   unfold cutS; split
   · simp; omega
   · omega
theorem drop_take_snoc {l : List UInt8} {f i : Nat} (h : i < l.length) (hf : f ≤ i) : (l.drop f).take (i + 1 - f) = (l.drop f).take (i - f) ++ [ix l i] := by
 have e : i + 1 - f = i - f + 1 := by omega
 rw [e, take_snoc (by simp; omega), ix_drop, show f + (i - f) = i by omega]
theorem cutS_all (c : UInt8) (l : List UInt8) : ∀ i, i ≤ l.length → (cutS c l i).1 ++ cutP c ((l.drop (cutS c l i).2).take (i - (cutS c l i).2)) (l.drop i) = cutP c [] l
 | 0, _ => rfl
 | i + 1, h => by
   have ih := cutS_all c l i (by omega)
   have hf := (cutS_from c l i).1
   rw [← ih, drop_ix (L := l) (i := i) (by omega)]
   have e : cutS c l (i + 1) = if ix l i = c then ((cutS c l i).1 ++ [(l.drop (cutS c l i).2).take (i - (cutS c l i).2)], i + 1) else cutS c l i := rfl
   by_cases hc : ix l i = c
   · rw [e, if_pos hc]
     simp only [cutP, if_pos hc, Nat.sub_self, List.take_zero, List.append_assoc, List.cons_append, List.nil_append]
   · rw [e, if_neg hc]
     simp only [cutP, if_neg hc]
     rw [drop_take_snoc (by omega) hf]
theorem l00Cut_fn (l : List UInt8) (c : UInt8) (hl : l.length ≤ 1000000000) : VFn Tryz.prog 129 [.str (B l), .int .u8 c.toNat] (txts (cutP c [] l)) := by
 suffices hR : ∀ R, R = cutP c [] l → VFn Tryz.prog 129 [.str (B l), .int .u8 c.toNat] (txts R) from hR _ rfl
 intro R hR
 refine VFn.introC Tryz.call129 Tryz.func129 rfl rfl ?_
 refine LoopC.mk (fun i : Nat => i ≤ l.length) (fun i => [(0, .str (B l)), (1, .int .u8 c.toNat), (5, .osl 0), (6, .int .i64 (cutS c l i).2), (7, .int .i64 i)])
  (fun i => [(0, .arr 9 1 (cutS c l i).1.length fun k => [.str (B (ix (cutS c l i).1 k))])]) 1 (fun i => l.length - i) 0
  ⟨Nat.zero_le _, [(0, 0)], rfl, rfl, ⟨AVle.refl _, AVle.refl _, AVle.refl _, AVle.refl _, AVle.refl _, trivial⟩, ⟨MOle.arr rfl fun i hi => absurd hi (Nat.not_lt_zero i), trivial⟩⟩ ?_
 intro i hi
 have hf := cutS_from c l i
 refine Grd.intro (fun h2 => ?_) (fun h2 => ?_)
 · have hin : i < l.length := by have := of_decide_eq_true h2; rw [B_size] at this; omega
   refine And.intro ⟨by omega, by rw [B_size]; omega⟩ ?_
   refine Grd.intro (fun h3 => ?_) (fun h3 => ?_)
   · have hc : ix l i = c := UInt8.toNat_inj.1 (by have h : ((ix l i).toNat : Int) = c.toNat := of_decide_eq_true h3; omega)
     have e : cutS c l (i + 1) = ((cutS c l i).1 ++ [(l.drop (cutS c l i).2).take (i - (cutS c l i).2)], i + 1) := by rw [cutS, if_pos hc]
     refine And.intro ⟨by omega, by omega, by rw [B_size]; omega⟩ ?_
     refine And.intro ⟨show ((cutS c l i).1.length + 1) * 16 ≤ 140737488355328 by omega, all1 rfl⟩ ?_
     refine And.intro (inI64 (by omega) (by omega)) ?_
     refine And.intro (inI64 (by omega) (by omega)) ?_
     refine ⟨i + 1, hin, by omega, [(2, 0)], rfl, rfl, ⟨AVle.refl _, AVle.refl _, AVle.refl _, AVle.of_eq (congrArg (AV.int .i64) (by rw [e]; simp)), AVle.of_eq (congrArg (AV.int .i64) (by simp)), trivial⟩, ⟨?_, trivial⟩⟩
     exact arr_next (f := fun x => [.str (B x)]) (by rw [e]) (show [AV.str ((B l).extract (cutS c l i).2 i)] = _ by rw [B_extract])
   · have hc : ¬ ix l i = c := fun hc => (of_decide_eq_false h3 : ¬ ((ix l i).toNat : Int) = c.toNat) (by rw [hc])
     have e : cutS c l (i + 1) = cutS c l i := by rw [cutS, if_neg hc]
     refine And.intro (inI64 (by omega) (by omega)) ?_
     exact ⟨i + 1, hin, by omega, [(0, 0)], rfl, rfl, ⟨AVle.refl _, AVle.refl _, AVle.refl _, AVle.of_eq (congrArg (AV.int .i64) (by rw [e])), AVle.of_eq (congrArg (AV.int .i64) (by simp)), trivial⟩, ⟨MOle.of_eq (show MO.arr 9 1 (cutS c l i).1.length (fun k => [.str (B (ix (cutS c l i).1 k))]) = _ by rw [e]), trivial⟩⟩
 · have : i = l.length := by have := of_decide_eq_false h2; rw [B_size] at this; omega
   subst this
   have h := cutS_all c l l.length (Nat.le_refl _)
   rw [List.drop_length] at h
   have hR' : R = (cutS c l l.length).1 ++ [(l.drop (cutS c l l.length).2).take (l.length - (cutS c l l.length).2)] := hR.trans h.symm
   subst hR'
   refine And.intro ⟨by omega, by rw [B_size]; omega⟩ ?_
   refine And.intro ⟨show ((cutS c l l.length).1.length + 1) * 16 ≤ 140737488355328 by omega, all1 rfl⟩ ?_
   exact And.intro trivial (AVle.sl (show (cutS c l l.length).1.length + 1 = _ by simp) fun k hk => app_row1 (f := fun x => [.str (B x)]) (show [AV.str ((B l).extract (cutS c l l.length).2 (B l).size)] = _ by rw [B_extract, B_size]) hk)
theorem dd6 {n : Nat} (h : n ≤ 999999) : (Lib.decDigits n).length ≤ 6 := by
 have := congrArg List.length (pad6_dd h)
 unfold pad6 at this
 simp [six6_len] at this
 omega
theorem l03Wide_fn (n : Nat) (h : n ≤ 999999) : VFn Tryz.prog 109 [.int .i64 n, .int .i64 6] (.str (B (six6 n))) := by
 have hd := dd6 h
 have hp := pad6_dd h
 refine VFn.introC Tryz.call109 Tryz.func109 rfl rfl ?_
 conv => whnf
 refine CallC.sca _ (digits_nat n (by omega)) ?_ ?_
 · exact rfl
 refine LoopC.mk (fun i : Nat => i + (Lib.decDigits n).length ≤ 6) (fun i => [(1, .int .i64 6), (5, .str (B (List.replicate i 48 ++ Lib.decDigits n)))]) (fun _ => []) 0 (fun i => 6 - i) 0
  ⟨by omega, [], rfl, rfl, ⟨AVle.refl _, AVle.of_eq (congrArg (fun l => AV.str (B l)) (show Lib.decDigits n = _ by simp)), trivial⟩, trivial⟩ ?_
 intro i hi
 refine Grd.intro (fun h2 => ?_) (fun h2 => ?_)
 · have hin : i + (Lib.decDigits n).length < 6 := by have := of_decide_eq_true h2; rw [B_size] at this; simp at this; omega
   refine And.intro (show (((B [48]).size + (B (List.replicate i 48 ++ Lib.decDigits n)).size : Nat) : Int) ≤ 9223372036854775807 by rw [B_size, B_size]; simp; omega) ?_
   exact ⟨i + 1, by omega, by omega, [], rfl, rfl, ⟨AVle.refl _, AVle.of_eq (congrArg AV.str (show B [48] ++ B (List.replicate i 48 ++ Lib.decDigits n) = _ by rw [B_app, List.replicate_succ]; rfl)), trivial⟩, trivial⟩
 · have hin : i = 6 - (Lib.decDigits n).length := by have := of_decide_eq_false h2; rw [B_size] at this; simp at this; omega
   refine And.intro trivial (AVle.of_eq (congrArg (fun l => AV.str (B l)) (show List.replicate i 48 ++ Lib.decDigits n = _ by rw [← hp, hin]; rfl)))
theorem l03KeyOK_fn (t n w : Int) : VFn Tryz.prog 131 [.int .i64 t, .int .i64 n, .int .i64 w] (.bool (within t 0 2 && (within n 0 999999 && within w 0 999999))) := by
 refine VFn.introC Tryz.call131 Tryz.func131 rfl rfl ?_
 repeat' (conv => whnf
          first
  | refine Grd.intro (fun h => ?_) (fun h => ?_)
  | (refine CallC.sca _ (l01In_fn _ _ _) ?_ ?_; exact rfl)
  | refine And.intro trivial (AVle.of_eq (congrArg AV.bool ?_)))
 all_goals (simp_all)
theorem l01Bit_fn (b : Bool) : VFn Tryz.prog 43 [.bool b] (.int .i64 (if b = true then 1 else 0)) := by
 refine VFn.introC Tryz.call43 Tryz.func43 rfl rfl ?_
 refine Grd.intro (fun h => ?_) (fun h => ?_)
 · rw [h]
   exact And.intro trivial (AVle.refl _)
 · rw [h]
   exact And.intro trivial (AVle.refl _)
theorem l03Key_fn (t n w : Nat) (ht : t ≤ 2) (hn : n ≤ 999999) (hw : w ≤ 999999) : VFn Tryz.prog 66 [.int .i64 t, .int .i64 n, .int .i64 w] (.str (B (keyB t n w))) := by
 have h3 : t = 0 ∨ t = 1 ∨ t = 2 := by omega
 have hs : ∀ a b : List UInt8, a.length + b.length ≤ 1000 → (((B a).size + (B b).size : Nat) : Int) ≤ 9223372036854775807 := fun a b h => by rw [B_size, B_size]; omega
 refine VFn.introC Tryz.call66 Tryz.func66 rfl rfl ?_
 refine DrawC.mq 13 rfl (by kernel_rfl) ?_
 rcases h3 with rfl | rfl | rfl
 · refine And.intro ⟨by omega, by show ((0 : Nat) : Int) < ((3 : Nat) : Int); omega⟩ ?_
   refine And.intro (hs (preW 0) [47] (by decide)) ?_
   refine PCallQ.sca _ (l03Wide_fn n hn) rfl ?_
   refine And.intro (show (((B [114, 97, 119] ++ B [47]).size + (B (six6 n)).size : Nat) : Int) ≤ 9223372036854775807 by rw [B_app]; exact hs _ _ (by simp [six6_len])) ?_
   refine And.intro (show (((B [114, 97, 119] ++ B [47] ++ B (six6 n)).size + (B [45]).size : Nat) : Int) ≤ 9223372036854775807 by rw [B_app, B_app]; exact hs _ _ (by simp [six6_len])) ?_
   refine PCallQ.sca _ (l03Wide_fn w hw) rfl ?_
   refine And.intro (show (((B [114, 97, 119] ++ B [47] ++ B (six6 n) ++ B [45]).size + (B (six6 w)).size : Nat) : Int) ≤ 9223372036854775807 by rw [B_app, B_app, B_app]; exact hs _ _ (by simp [six6_len])) ?_
   exact And.intro trivial (AVle.of_eq (congrArg AV.str (show B [114, 97, 119] ++ B [47] ++ B (six6 n) ++ B [45] ++ B (six6 w) = _ by rw [B_app, B_app, B_app, B_app]; rfl)))
 · refine And.intro ⟨by omega, by show ((1 : Nat) : Int) < ((3 : Nat) : Int); omega⟩ ?_
   refine And.intro (hs (preW 1) [47] (by decide)) ?_
   refine PCallQ.sca _ (l03Wide_fn n hn) rfl ?_
   refine And.intro (show (((B [116, 49] ++ B [47]).size + (B (six6 n)).size : Nat) : Int) ≤ 9223372036854775807 by rw [B_app]; exact hs _ _ (by simp [six6_len])) ?_
   refine And.intro (show (((B [116, 49] ++ B [47] ++ B (six6 n)).size + (B [45]).size : Nat) : Int) ≤ 9223372036854775807 by rw [B_app, B_app]; exact hs _ _ (by simp [six6_len])) ?_
   refine PCallQ.sca _ (l03Wide_fn w hw) rfl ?_
   refine And.intro (show (((B [116, 49] ++ B [47] ++ B (six6 n) ++ B [45]).size + (B (six6 w)).size : Nat) : Int) ≤ 9223372036854775807 by rw [B_app, B_app, B_app]; exact hs _ _ (by simp [six6_len])) ?_
   exact And.intro trivial (AVle.of_eq (congrArg AV.str (show B [116, 49] ++ B [47] ++ B (six6 n) ++ B [45] ++ B (six6 w) = _ by rw [B_app, B_app, B_app, B_app]; rfl)))
 · refine And.intro ⟨by omega, by show ((2 : Nat) : Int) < ((3 : Nat) : Int); omega⟩ ?_
   refine And.intro (hs (preW 2) [47] (by decide)) ?_
   refine PCallQ.sca _ (l03Wide_fn n hn) rfl ?_
   refine And.intro (show (((B [116, 50] ++ B [47]).size + (B (six6 n)).size : Nat) : Int) ≤ 9223372036854775807 by rw [B_app]; exact hs _ _ (by simp [six6_len])) ?_
   refine And.intro (show (((B [116, 50] ++ B [47] ++ B (six6 n)).size + (B [45]).size : Nat) : Int) ≤ 9223372036854775807 by rw [B_app, B_app]; exact hs _ _ (by simp [six6_len])) ?_
   refine PCallQ.sca _ (l03Wide_fn w hw) rfl ?_
   refine And.intro (show (((B [116, 50] ++ B [47] ++ B (six6 n) ++ B [45]).size + (B (six6 w)).size : Nat) : Int) ≤ 9223372036854775807 by rw [B_app, B_app, B_app]; exact hs _ _ (by simp [six6_len])) ?_
   exact And.intro trivial (AVle.of_eq (congrArg AV.str (show B [116, 50] ++ B [47] ++ B (six6 n) ++ B [45] ++ B (six6 w) = _ by rw [B_app, B_app, B_app, B_app]; rfl)))
theorem l03Fixed_at {s : ByteArray} {l : List UInt8} (e : s = B l) (hl : l.length ≤ 18) : VFn Tryz.prog 130 [.str s] (.tup [.int .i64 (if l.all dig = true then numB 0 l else 0 : Nat), .bool (l.all dig)]) := by
 subst e; exact l03Fixed_fn l hl
theorem bits_of (a : List UInt8) : ∃ (x1 x2 : Int) (tt : Nat), VFn Tryz.prog 43 [.bool ((B a).toList == (B [116, 49]).toList)] (.int .i64 x1) ∧ VFn Tryz.prog 43 [.bool ((B a).toList == (B [116, 50]).toList)] (.int .i64 x2) ∧
 (0 ≤ x1 ∧ x1 ≤ 1) ∧ (0 ≤ x2 ∧ x2 ≤ 1) ∧ x1 + 2 * x2 = tt ∧ tt ≤ 2 ∧ ∀ t, t ≤ 2 → a = preW t → tt = t := by
 have c1 := l01Bit_fn ((B a).toList == (B [116, 49]).toList)
 have c2 := l01Bit_fn ((B a).toList == (B [116, 50]).toList)
 rw [B_eq] at c1 c2 ⊢
 rw [B_eq]
 have ne : ∀ t, t ≤ 2 → (a = preW t) → (t = 0 → a = [114, 97, 119]) ∧ (t = 1 → a = [116, 49]) ∧ (t = 2 → a = [116, 50]) := fun t _ h => ⟨fun e => by subst e; exact h, fun e => by subst e; exact h, fun e => by subst e; exact h⟩
 by_cases h1 : a = [116, 49]
 · subst h1
   refine ⟨1, 0, 1, c1, c2, by omega, by omega, by omega, by omega, fun t ht e => ?_⟩
   obtain ⟨a0, a1, a2⟩ := ne t ht e
   have h3 : t = 0 ∨ t = 1 ∨ t = 2 := by omega
   rcases h3 with h | h | h
   · exact absurd (a0 h) (by decide)
   · exact h.symm
   · exact absurd (a2 h) (by decide)
 by_cases h2 : a = [116, 50]
 · subst h2
   refine ⟨0, 1, 2, c1, c2, by omega, by omega, by omega, by omega, fun t ht e => ?_⟩
   obtain ⟨a0, a1, a2⟩ := ne t ht e
   have h3 : t = 0 ∨ t = 1 ∨ t = 2 := by omega
   rcases h3 with h | h | h
   · exact absurd (a0 h) (by decide)
   · exact absurd (a1 h) (by decide)
   · exact h.symm
 · refine ⟨0, 0, 0, by simpa [h1] using c1, by simpa [h2] using c2, by omega, by omega, by omega, by omega, fun t ht e => ?_⟩
   obtain ⟨a0, a1, a2⟩ := ne t ht e
   have h3 : t = 0 ∨ t = 1 ∨ t = 2 := by omega
   rcases h3 with h | h | h
   · exact h.symm
   · exact absurd (a1 h) h1
   · exact absurd (a2 h) h2
theorem l03Key_at {t' n' w' : Int} {t n w : Nat} (e1 : t' = t) (e2 : n' = n) (e3 : w' = w) (ht : t ≤ 2) (hn : n ≤ 999999) (hw : w ≤ 999999) : VFn Tryz.prog 66 [.int .i64 t', .int .i64 n', .int .i64 w'] (.str (B (keyB t n w))) := by
 subst e1 e2 e3; exact l03Key_fn t n w ht hn hw
theorem key_parts {k : List UInt8} {t n w : Nat} (h : parseKey k = some (t, n, w)) :
 cutP 47 [] k = [preW t, six6 n ++ 45 :: six6 w] := by
 obtain ⟨e, ht, hn, hw⟩ := key_parse h
 rw [e]; exact cut_key ht
theorem key_zero {k : List UInt8} (h : parseKey k = none) : AV.tup [.int .i64 0, .int .i64 0, .int .i64 0, .bool false] = .tup [.int .i64 (kT k), .int .i64 (kN k), .int .i64 (kW k), .bool (kOk k)] := by
 unfold kT kN kW kOk
 rw [h]; rfl
theorem key_none {k : List UInt8} (h : ∀ t n w, t ≤ 2 → n ≤ 999999 → w ≤ 999999 → k = keyB t n w → cutP 47 [] k = [preW t, six6 n ++ 45 :: six6 w] → False) : parseKey k = none := by
 cases e : parseKey k with
 | none => rfl
 | some q =>
   obtain ⟨t, n, w⟩ := q
   obtain ⟨e1, ht, hn, hw⟩ := key_parse e
   exact (h t n w ht hn hw e1 (key_parts e)).elim
theorem l03ToKey_fn (k : List UInt8) (hk : k.length ≤ 1000000000) : VFn Tryz.prog 86 [.str (B k)] (.tup [.int .i64 (kT k), .int .i64 (kN k), .int .i64 (kW k), .bool (kOk k)]) := by
 have h1 := l00Cut_fn k 47 hk
 have hnone := @key_none k
 generalize cutP 47 [] k = R at h1 hnone
 by_cases hR : R.length = 2
 · obtain ⟨a, r, rfl⟩ : ∃ a r, R = [a, r] := by
    match R, hR with
    | [a, r], _ => exact ⟨a, r, rfl⟩
   refine VFn.introC Tryz.call86 Tryz.func86 rfl rfl ?_
   conv => whnf
   refine CallC.nl _ (h1) ?_ ?_
   · exact rfl
   refine And.intro ⟨by decide, by show (1 : Int) < ((2 : Nat) : Int); decide⟩ ?_
   refine Grd.intro (fun h2 => ?_) (fun h2 => ?_)
   · have h13 : ¬ r.length = 13 := by
      have h : (!decide (((B r).size : Int) = 13)) = true := h2
      rw [B_size] at h; simp at h; omega
     exact And.intro trivial (AVle.of_eq (show AV.tup [.int .i64 0, .int .i64 0, .int .i64 0, .bool false] = _ from key_zero (hnone fun t n w _ _ _ _ e => h13 (by injection e with _ e; injection e with e; rw [e]; rfl))))
   · have h13 : r.length = 13 := by
      have h : (!decide (((B r).size : Int) = 13)) = false := h2
      rw [B_size] at h; simp at h; omega
     refine And.intro ⟨by decide, by show (1 : Int) < ((2 : Nat) : Int); decide⟩ ?_
     refine And.intro ⟨by decide, by show (6 : Int) < ((B r).size : Int); rw [B_size]; omega⟩ ?_
     refine Grd.intro (fun h3 => ?_) (fun h3 => ?_)
     · have h45 : ¬ ix r 6 = 45 := fun e => by
        have h : (!decide (((ix r 6).toNat : Int) = 45)) = true := h3
        rw [e] at h; exact absurd h (by decide)
       exact And.intro trivial (AVle.of_eq (show AV.tup [.int .i64 0, .int .i64 0, .int .i64 0, .bool false] = _ from key_zero (hnone fun t n w _ _ _ _ e => h45 (by injection e with _ e; injection e with e; rw [e]; rfl))))
     · have h45 : ix r 6 = 45 := by
        have h : (!decide (((ix r 6).toNat : Int) = 45)) = false := h3
        simp at h
        exact UInt8.toNat_inj.1 (by show (ix r 6).toNat = 45; omega)
       refine DrawC.mq 13 rfl (by kernel_rfl) ?_
       obtain ⟨x1, x2, tt, c1, c2, b1, b2, ht, ht2, htt⟩ := bits_of a
       refine And.intro ⟨by decide, by show (0 : Int) < ((2 : Nat) : Int); decide⟩ ?_
       refine PCallQ.sca _ (c1) rfl ?_
       refine And.intro ⟨by decide, by show (0 : Int) < ((2 : Nat) : Int); decide⟩ ?_
       refine PCallQ.sca _ (c2) rfl ?_
       refine And.intro (inI64 (by omega) (by omega)) ?_
       refine And.intro (inI64 (by omega) (by omega)) ?_
       have hlA : (r.take 6).length = 6 := by simp; omega
       have hlB : (r.drop 7).length = 6 := by simp; omega
       have hA : (B r).extract 0 6 = B (r.take 6) := by rw [B_extract]; rfl
       have hB : (B r).extract 7 (B r).size = B (r.drop 7) := by rw [B_extract, B_size, h13, List.take_of_length_le (by simp; omega)]
       have hsplit : ∀ t n w, [a, r] = [preW t, six6 n ++ 45 :: six6 w] → a = preW t ∧ r.take 6 = six6 n ∧ r.drop 7 = six6 w := fun t n w e => by
        injection e with e1 e; injection e with e
        exact ⟨e1, by rw [e]; rfl, by rw [e]; rfl⟩
       refine And.intro ⟨by decide, by show (1 : Int) < ((2 : Nat) : Int); decide⟩ ?_
       refine And.intro ⟨by decide, by show (6 : Int) ≤ ((B r).size : Int); rw [B_size]; omega⟩ ?_
       conv => whnf
       refine CallC.sca _ (l03Fixed_at hA (by omega)) ?_ ?_
       · exact rfl
       refine And.intro ⟨by decide, by show (1 : Int) < ((2 : Nat) : Int); decide⟩ ?_
       refine And.intro ⟨by decide, by show (7 : Int) ≤ ((B r).size : Int); rw [B_size]; omega⟩ ?_
       conv => whnf
       refine CallC.sca _ (l03Fixed_at hB (by omega)) ?_ ?_
       · exact rfl
       by_cases hdA : (r.take 6).all dig = true
       · by_cases hdB : (r.drop 7).all dig = true
         · have nA := six6_numB hlA hdA
           have nB := six6_numB hlB hdB
           refine Grd.intro (fun h4 => absurd (h4.symm.trans (show (!(r.take 6).all dig) = false by rw [hdA]; rfl)) (by simp)) (fun h4 => ?_)
           refine Grd.intro (fun h5 => absurd (h5.symm.trans (show (bif false then true else !(r.drop 7).all dig) = false by rw [hdB]; rfl)) (by simp)) (fun h5 => ?_)
           have eA : (((if (r.take 6).all dig = true then numB 0 (r.take 6) else 0 : Nat) : Nat) : Int) = numB 0 (r.take 6) := by rw [if_pos hdA]
           have eB : (((if (r.drop 7).all dig = true then numB 0 (r.drop 7) else 0 : Nat) : Nat) : Int) = numB 0 (r.drop 7) := by rw [if_pos hdB]
           have hK : (within (x1 + 2 * x2) 0 2 && (within (((if (r.take 6).all dig = true then numB 0 (r.take 6) else 0 : Nat) : Nat) : Int) 0 999999 && within (((if (r.drop 7).all dig = true then numB 0 (r.drop 7) else 0 : Nat) : Nat) : Int) 0 999999)) = true := by
            rw [ht, eA, eB]; simp [within]; omega
           conv => whnf
           refine CallC.sca _ (l03KeyOK_fn _ _ _) ?_ ?_
           · exact rfl
           refine Grd.intro (fun h6 => absurd (h6.symm.trans (show (bif false then true else !_) = false by rw [hK]; rfl)) (by simp)) (fun h6 => ?_)
           conv => whnf
           refine CallC.sca _ (l03Key_at ht eA eB ht2 nA.1 nB.1) ?_ ?_
           · exact rfl
           refine Grd.intro (fun h7 => ?_) (fun h7 => ?_)
           · have hne : ¬ keyB tt (numB 0 (r.take 6)) (numB 0 (r.drop 7)) = k := fun e => by
              have h : (!((B (keyB tt (numB 0 (r.take 6)) (numB 0 (r.drop 7)))).toList == (B k).toList)) = true := h7
              rw [B_eq, e] at h; simp at h
             exact And.intro trivial (AVle.of_eq (show AV.tup [.int .i64 0, .int .i64 0, .int .i64 0, .bool false] = _ from key_zero (hnone fun t n w g1 g2 g3 g4 e => hne (by
              obtain ⟨q1, q2, q3⟩ := hsplit t n w e
              rw [htt t g1 q1, q2, q3, numB_six6 g2, numB_six6 g3]; exact g4.symm))))
           · have he : keyB tt (numB 0 (r.take 6)) (numB 0 (r.drop 7)) = k := by
              have h : (!((B (keyB tt (numB 0 (r.take 6)) (numB 0 (r.drop 7)))).toList == (B k).toList)) = false := h7
              rw [B_eq] at h; simpa using h
             have hp := parse_key ht2 nA.1 nB.1
             rw [he] at hp
             refine And.intro trivial (AVle.of_eq (show AV.tup [.int .i64 (x1 + 2 * x2), .int .i64 (((if (r.take 6).all dig = true then numB 0 (r.take 6) else 0 : Nat) : Nat) : Int), .int .i64 (((if (r.drop 7).all dig = true then numB 0 (r.drop 7) else 0 : Nat) : Nat) : Int), .bool true] = _ from ?_))
             unfold kT kN kW kOk
             rw [hp, ht, eA, eB]; rfl
         · have hf : (r.drop 7).all dig = false := by simpa using hdB
           have hz := key_zero (hnone fun t n w g1 g2 g3 g4 e => hdB (by rw [(hsplit t n w e).2.2]; exact six6_dig w))
           refine Grd.intro (fun h4 => absurd (h4.symm.trans (show (!(r.take 6).all dig) = false by rw [hdA]; rfl)) (by simp)) (fun h4 => ?_)
           refine Grd.intro (fun h5 => ?_) (fun h5 => absurd (h5.symm.trans (show (bif false then true else !(r.drop 7).all dig) = true by rw [hf]; rfl)) (by simp))
           exact And.intro trivial (AVle.of_eq (show AV.tup [.int .i64 0, .int .i64 0, .int .i64 0, .bool false] = _ from hz))
       · have hf : (r.take 6).all dig = false := by simpa using hdA
         have hz := key_zero (hnone fun t n w g1 g2 g3 g4 e => hdA (by rw [(hsplit t n w e).2.1]; exact six6_dig n))
         refine Grd.intro (fun h4 => ?_) (fun h4 => absurd (h4.symm.trans (show (!(r.take 6).all dig) = true by rw [hf]; rfl)) (by simp))
         exact And.intro trivial (AVle.of_eq (show AV.tup [.int .i64 0, .int .i64 0, .int .i64 0, .bool false] = _ from hz))
 · have hz := key_zero (hnone fun t n w _ _ _ _ e => hR (by rw [e]; rfl))
   refine VFn.introC Tryz.call86 Tryz.func86 rfl rfl ?_
   conv => whnf
   refine CallC.nl _ (h1) ?_ ?_
   · exact rfl
   refine Grd.intro (fun h2 => ?_) (fun h2 => ?_)
   · exact And.intro trivial (AVle.of_eq (show AV.tup [.int .i64 0, .int .i64 0, .int .i64 0, .bool false] = _ from hz))
   · exact absurd (of_decide_eq_true (show decide _ = true by simpa using h2)) (by omega)
theorem l01Find_fn (s : Sto) (hL : s.os.length ≤ 1000000000) (k : List UInt8) : VFn Tryz.prog 132 [s.av, .str (B k)] (.int .i64 (fi (fun o : Ob => decide (o.key = k)) s.os)) := by
 refine VFn.introC Tryz.call132 Tryz.func132 rfl rfl ?_
 refine LoopC.mk (fun i : Nat => i ≤ s.os.length ∧ ∀ j, j < i → decide ((ix s.os j).key = k) = false) (fun i => [(1, .str (B k)), (2, .bptr 0 0), (5, .int .i64 i)]) (fun i => [(0, .box s.row)]) 1 (fun i => s.os.length - i) 0
  ⟨⟨Nat.zero_le _, fun j hj => absurd hj (Nat.not_lt_zero j)⟩, [(0, 0)], rfl, rfl, ⟨AVle.refl _, AVle.refl _, AVle.refl _, trivial⟩, ⟨MOle.refl _, trivial⟩⟩ ?_
 intro i hi
 refine Grd.intro (fun h2 => ?_) (fun h2 => ?_)
 · have hin : i < s.os.length := by have := of_decide_eq_true h2; omega
   refine And.intro (by omega) ?_
   refine Grd.intro (fun h3 => ?_) (fun h3 => ?_)
   · have h3 : ((B (ix s.os i).key).toList == (B k).toList) = true := h3
     rw [B_eq] at h3
     exact And.intro trivial (AVle.of_eq (congrArg (AV.int .i64) (show (i : Int) = _ from (fi_at hin hi.2 h3).symm)))
   · have h3 : ((B (ix s.os i).key).toList == (B k).toList) = false := h3
     rw [B_eq] at h3
     refine And.intro (inI64 (by omega) (by omega)) ?_
     exact ⟨i + 1, ⟨hin, fun j hj => by
      rcases Nat.lt_or_ge j i with h' | h'
      · exact hi.2 j h'
      · rw [show j = i by omega]; exact h3⟩, by omega, [(0, 0)], rfl, rfl, ⟨AVle.refl _, AVle.refl _, AVle.of_eq (congrArg (AV.int .i64) (by simp)), trivial⟩, ⟨MOle.refl _, trivial⟩⟩
 · have : i = s.os.length := by have := of_decide_eq_false h2; omega
   subst this
   exact And.intro trivial (AVle.of_eq (congrArg (AV.int .i64) (fi_none hi.2).symm))
theorem l01Get_fn (s : Sto) (hs : s.ok = true) (k : List UInt8) : VFn Tryz.prog 90 [s.av, .str (B k)] (if s.has k = true then .tup [.str (B (s.get k).data), .int .i64 (s.get k).ver] else .tup [.str (B []), .int .i64 0]) := by
 have hL := (Sto.ok_at hs).2.1
 have hf := l01Find_fn s (by omega) k
 rw [(Sto.srt hs).fi] at hf
 by_cases h : hasK k s.os = true
 · rw [if_pos h] at hf
   rw [if_pos (show s.has k = true from h)]
   have hp := (hasK_at h).1
   refine VFn.introC Tryz.call90 Tryz.func90 rfl rfl ?_
   conv => whnf
   refine CallC.sca _ (hf) ?_ ?_
   · exact rfl
   refine DrawC.mq 14 rfl (by kernel_rfl) ?_
   refine And.intro (by omega) ?_
   refine And.intro (by omega) ?_
   exact And.intro trivial (AVle.refl _)
 · rw [if_neg h] at hf
   rw [if_neg (show ¬ s.has k = true from h)]
   refine VFn.introC Tryz.call90 Tryz.func90 rfl rfl ?_
   conv => whnf
   refine CallC.sca _ (hf) ?_ ?_
   · exact rfl
   exact And.intro trivial (AVle.refl _)
theorem l01Set_fn (s : Sto) (hL : s.os.length ≤ 1000000) (hn : s.next ≤ 1000000000 ∧ 0 ≤ s.next) (k d : List UInt8) : VFn Tryz.prog 67 [s.av, .str (B k), .str (B d)] (s.set k d).av := by
 refine VFn.introC Tryz.call67 Tryz.func67 rfl rfl ?_
 refine LoopC.mk (fun i : Nat => i ≤ lb k s.os) (fun i => [(1, .str (B k)), (2, .str (B d)), (3, .bptr 0 0), (6, .bptr 1 0), (7, .int .i64 i)]) (fun i => [(0, .box s.row), (1, .box [.nilsl, .int .i64 0])]) 2 (fun i => s.os.length - i) 0
  ⟨Nat.zero_le _, [(0, 0), (1, 1)], rfl, rfl, ⟨AVle.refl _, AVle.refl _, AVle.refl _, AVle.refl _, AVle.refl _, trivial⟩, ⟨MOle.refl _, MOle.refl _, trivial⟩⟩ ?_
 intro i hi
 have hlb := lb_le k s.os
 refine Grd.intro (fun h2 => ?_) (fun h2 => ?_)
 · have hin : i < s.os.length := by have := of_decide_eq_true h2; omega
   refine And.intro (by omega) ?_
   conv => whnf
   refine Grd.intro (fun h3 => ?_) (fun h3 => ?_)
   · have h3 : (ix s.os i).key < k := by
      have h : Op.bytesLess (B (ix s.os i).key).toList (B k).toList = true := h3
      rw [blt_lt] at h; exact of_decide_eq_true h
     have hlt : i < lb k s.os := by
      rcases Nat.lt_or_ge i (lb k s.os) with h | h
      · exact h
      · have e : i = lb k s.os := by omega
        subst e
        exact absurd h3 (lb_ge hin)
     refine And.intro (inI64 (by omega) (by omega)) ?_
     exact ⟨i + 1, hlt, by omega, [(0, 0), (1, 1)], rfl, rfl, ⟨AVle.refl _, AVle.refl _, AVle.refl _, AVle.refl _, AVle.of_eq (congrArg (AV.int .i64) (by simp)), trivial⟩, ⟨MOle.refl _, MOle.refl _, trivial⟩⟩
   · have h3 : ¬ (ix s.os i).key < k := by
      have h : Op.bytesLess (B (ix s.os i).key).toList (B k).toList = false := h3
      rw [blt_lt] at h; exact of_decide_eq_false h
     have hi' : i = lb k s.os := by
      rcases Nat.lt_or_ge i (lb k s.os) with h | h
      · exact absurd (lb_lt h) h3
      · omega
     subst hi'
     refine And.intro (by omega) ?_
     refine Grd.intro (fun _ => ?_) (fun h => absurd (of_decide_eq_false h) (by omega))
     refine And.intro (by omega) ?_
     conv => whnf
     have hcmp : ((B (ix s.os (lb k s.os)).key).toList == (B k).toList) = s.has k := by
      rw [B_eq]
      unfold Sto.has hasK
      rw [decide_eq_true hin]; rfl
     refine Grd.intro (fun h4 => ?_) (fun h4 => ?_)
     · have h4 : s.has k = true := hcmp.symm.trans h4
       refine And.intro (inI64 (by omega) (by omega)) ?_
       refine And.intro (by omega) ?_
       refine DrawC.mkQ 16 [(.inr 0, 5), (.inr 5, 12), (.inr 12, 14)] rfl (by kernel_rfl) ?_; refine And.intro rfl ?_
       conv => whnf
       refine And.intro ⟨by omega, by omega⟩ ?_
       conv => whnf
       refine And.intro ⟨show (0 + (lb k s.os : Int).toNat) * 40 ≤ 140737488355328 by omega, fun i hi => rfl⟩ ?_
       conv => whnf
       refine And.intro ⟨show (0 + (lb k s.os : Int).toNat + 1) * 40 ≤ 140737488355328 by omega, all1 rfl⟩ ?_
       conv => whnf
       refine And.intro ⟨show (0 + (lb k s.os : Int).toNat + 1 + (s.os.length - ((lb k s.os : Int) + 1).toNat)) * 40 ≤ 140737488355328 by omega, fun i hi => rfl⟩ ?_
       refine And.intro (inI64 (by omega) (by omega)) ?_
       refine And.intro trivial (AVle.agg (AVsle.cons (AVle.sl (by rw [Sto.set_len, if_pos h4]; omega) fun i hi => s.set_rows k d (by rw [if_pos h4]; show ((lb k s.os : Int) + 1).toNat = lb k s.os + 1; omega) (by omega) (by omega) rfl i (by rw [Sto.set_len, if_pos h4]; omega)) (AVsle.cons (AVle.refl _) AVsle.nil)))
     · have h4 : s.has k = false := hcmp.symm.trans h4
       have h4' : ¬ s.has k = true := by rw [h4]; simp
       refine DrawC.mkQ 16 [(.inr 0, 5), (.inr 5, 12), (.inr 12, 14)] rfl (by kernel_rfl) ?_; refine And.intro rfl ?_
       conv => whnf
       refine And.intro ⟨by omega, by omega⟩ ?_
       conv => whnf
       refine And.intro ⟨show (0 + (lb k s.os : Int).toNat) * 40 ≤ 140737488355328 by omega, fun i hi => rfl⟩ ?_
       conv => whnf
       refine And.intro ⟨show (0 + (lb k s.os : Int).toNat + 1) * 40 ≤ 140737488355328 by omega, all1 rfl⟩ ?_
       conv => whnf
       refine And.intro ⟨show (0 + (lb k s.os : Int).toNat + 1 + (s.os.length - (lb k s.os : Int).toNat)) * 40 ≤ 140737488355328 by omega, fun i hi => rfl⟩ ?_
       refine And.intro (inI64 (by omega) (by omega)) ?_
       refine And.intro trivial (AVle.agg (AVsle.cons (AVle.sl (by rw [Sto.set_len, if_neg h4']; omega) fun i hi => s.set_rows k d (by rw [if_neg h4']; show (lb k s.os : Int).toNat = lb k s.os; omega) (by omega) (by omega) rfl i (by rw [Sto.set_len, if_neg h4']; omega)) (AVsle.cons (AVle.refl _) AVsle.nil)))
 · have hi' : i = s.os.length := by have := of_decide_eq_false h2; omega
   have hi2 : i = lb k s.os := by omega
   have h4' : ¬ s.has k = true := fun h => by have := (hasK_at h).1; omega
   subst hi2
   refine And.intro (by omega) ?_
   refine Grd.intro (fun h => absurd (of_decide_eq_true h) (by omega)) (fun _ => ?_)
   refine DrawC.mkQ 16 [(.inr 0, 5), (.inr 5, 12), (.inr 12, 14)] rfl (by kernel_rfl) ?_; refine And.intro rfl ?_
   conv => whnf
   refine And.intro ⟨by omega, by omega⟩ ?_
   conv => whnf
   refine And.intro ⟨show (0 + (lb k s.os : Int).toNat) * 40 ≤ 140737488355328 by omega, fun i hi => rfl⟩ ?_
   conv => whnf
   refine And.intro ⟨show (0 + (lb k s.os : Int).toNat + 1) * 40 ≤ 140737488355328 by omega, all1 rfl⟩ ?_
   conv => whnf
   refine And.intro ⟨show (0 + (lb k s.os : Int).toNat + 1 + (s.os.length - (lb k s.os : Int).toNat)) * 40 ≤ 140737488355328 by omega, fun i hi => rfl⟩ ?_
   refine And.intro (inI64 (by omega) (by omega)) ?_
   refine And.intro trivial (AVle.agg (AVsle.cons (AVle.sl (by rw [Sto.set_len, if_neg h4']; omega) fun i hi => s.set_rows k d (by rw [if_neg h4']; show (lb k s.os : Int).toNat = lb k s.os; omega) (by omega) (by omega) rfl i (by rw [Sto.set_len, if_neg h4']; omega)) (AVsle.cons (AVle.refl _) AVsle.nil)))
end Go.Proofs.YtigbaclopbcjnaaGreatDoor
