/- Contracts of functions that the claim reaches, and the plain law of what they compute; each theorem bears its own conditions. -/
import Derived.Test.YtigbaclopbcjnaaGreatDoorQ4
import Derived.Test.YtigbaclopbcjnaaGreatDoorQ3
import Derived.Test.YtigbaclopbcjnaaGreatDoorV52
import Derived.Test.YtigbaclopbcjnaaGreatDoorQ2
import Derived.Test.YtigbaclopbcjnaaGreatDoorQ1
set_option linter.unusedVariables false
set_option linter.constructorNameAsVariable false
set_option linter.unusedSimpArgs false
set_option maxRecDepth 20000
namespace Go.Proofs.YtigbaclopbcjnaaGreatDoor
open Go Go.Vw
theorem l02Number_fn (t : List UInt8) (hl : t.length ≤ 1000000000) : VFn Tryz.prog 162 [.str (B t)] (.tup [.int .i64 (if numOk t = true then atoiV t else 0), .bool (numOk t)]) := by
 have c := l00Number_fn t hl
 by_cases h : numOk t = true
 · rw [h, if_pos rfl] at c ⊢
   obtain ⟨n, e1, e2, h0, h1⟩ := num_of h
   refine VFn.introC Tryz.call162 Tryz.func162 rfl rfl ?_
   conv => whnf
   refine CallC.sca _ (c) ?_ ?_
   · exact rfl
   conv => whnf
   refine CallC.sca _ (digits_fn (atoiV t) (by omega) (by omega)) ?_ ?_
   · exact rfl
   refine And.intro trivial (AVle.of_eq (show AV.tup [.int .i64 (atoiV t), .bool ((B (Lib.itoa (atoiV t))).toList == (B t).toList)] = _ from ?_))
   rw [B_eq, e2, ← e1, decide_eq_true rfl]
 · have h : numOk t = false := by simpa using h
   rw [h, if_neg (by simp)] at c ⊢
   refine VFn.introC Tryz.call162 Tryz.func162 rfl rfl ?_
   conv => whnf
   refine CallC.sca _ (c) ?_ ?_
   · exact rfl
   exact And.intro trivial (AVle.refl _)
theorem l02Numbers_gen (t : List UInt8) (c : UInt8) (m : Nat) (hl : t.length ≤ 1000000) (R : AV) (hy : ∀ N, numsK c m t = some N → R = .tup [ints N, .bool true]) (hn : numsK c m t = none → R = .tup [.any, .bool false]) :
 VFn Tryz.prog 133 [.str (B t), .int .u8 c.toNat, .int .i64 (m : Int)] R := by
 have hcl := cutP_len c t []
 have hpl : ∀ x ∈ cutP c [] t, x.length ≤ t.length := fun x hx => by have := cutP_piece c t [] x hx; simpa using this
 obtain ⟨P, hP⟩ : ∃ P, P = cutP c [] t := ⟨_, rfl⟩
 have hK : numsK c m t = if P.length = m ∧ P.all numOk = true then some (P.map atoiV) else none := by unfold numsK; rw [← hP]
 have cut := l00Cut_fn t c (by omega)
 rw [← hP] at hcl hpl cut
 refine VFn.introC Tryz.call133 Tryz.func133 rfl rfl ?_
 conv => whnf
 refine CallC.nl _ (cut) ?_ ?_
 · exact rfl
 refine LoopC.mk (fun i : Nat => i ≤ P.length ∧ ∀ j, j < i → numOk (ix P j) = true) (fun i => [(2, .int .i64 (m : Int)), (8, txts P), (9, .osl 0), (10, .int .i64 i)])
  (fun i => [(0, .arr 3 1 ((P.take i).map atoiV).length fun j => [.int .i64 (ix ((P.take i).map atoiV) j)])]) 1 (fun i => P.length - i) 0
  ⟨⟨Nat.zero_le _, fun j hj => absurd hj (Nat.not_lt_zero j)⟩, [(0, 0)], rfl, rfl, ⟨AVle.refl _, AVle.refl _, AVle.refl _, AVle.refl _, trivial⟩, ⟨MOle.arr rfl fun i hi => absurd hi (Nat.not_lt_zero i), trivial⟩⟩ ?_
 intro i hi
 obtain ⟨hi, hall⟩ := hi
 refine Grd.intro (fun h2 => ?_) (fun h2 => ?_)
 · have hin : i < P.length := by have := of_decide_eq_true h2; omega
   refine And.intro (by omega) ?_
   conv => whnf
   refine CallC.sca _ (l02Number_fn (ix P i) (by have := hpl _ (getD_mem hin); omega)) ?_ ?_
   · exact rfl
   refine Grd.intro (fun h3 => ?_) (fun h3 => ?_)
   · have h3 : numOk (ix P i) = false := by simpa using (show (!numOk (ix P i)) = true from h3)
     have : ¬ P.all numOk = true := fun h => by rw [List.all_eq_true.1 h _ (getD_mem hin)] at h3; cases h3
     rw [hn (by rw [hK, if_neg (fun h => this h.2)])]
     exact And.intro trivial (AVle.tup (AVsle.cons (AVle.any _) (AVsle.cons (AVle.refl _) AVsle.nil)))
   have h3 : numOk (ix P i) = true := by simpa using (show (!numOk (ix P i)) = false from h3)
   refine And.intro ⟨show (((P.take i).map atoiV).length + 1) * 8 ≤ 140737488355328 by simp; omega, all1 rfl⟩ ?_
   refine And.intro (inI64 (by omega) (by omega)) ?_
   refine ⟨i + 1, ⟨hin, fun j hj => ?_⟩, by omega, [(2, 0)], rfl, rfl, ⟨AVle.refl _, AVle.refl _, AVle.refl _, AVle.of_eq (congrArg (AV.int .i64) (by simp)), trivial⟩, ⟨arr_next (f := fun x => [.int .i64 x]) (map_take_snoc hin) (by rw [h3, if_pos rfl]; rfl), trivial⟩⟩
   rcases Nat.lt_or_ge j i with h' | h'
   · exact hall j h'
   · rw [show j = i by omega]; exact h3
 · have : i = P.length := by have := of_decide_eq_false h2; omega
   subst this
   have hall' : P.all numOk = true := List.all_eq_true.2 fun x hx => by
    obtain ⟨j, hj, q⟩ := List.getElem_of_mem hx
    have := hall j hj
    rw [ix_lt hj, q] at this; exact this
   have e : P.take P.length = P := List.take_of_length_le (Nat.le_refl _)
   have el : ((((P.take P.length).map atoiV).length : Nat) : Int) = P.length := by rw [e, List.length_map]
   by_cases hm : P.length = m
   · rw [hy _ (by rw [hK, if_pos ⟨hm, hall'⟩])]
     exact And.intro trivial (AVle.tup (AVsle.cons (AVle.of_eq (congrArg ints (congrArg (List.map atoiV) e))) (AVsle.cons (AVle.of_eq (congrArg AV.bool (decide_eq_true (el.trans (by omega))))) AVsle.nil)))
   · rw [hn (by rw [hK, if_neg (fun h => hm h.1)])]
     exact And.intro trivial (AVle.tup (AVsle.cons (AVle.any _) (AVsle.cons (AVle.of_eq (congrArg AV.bool (decide_eq_false (fun h => hm (by have h := el.symm.trans h; omega))))) AVsle.nil)))
theorem isId_fn (n : Int) : VFn Tryz.prog 27 [.int .i64 n] (.bool (within n 0 9)) := by
 refine VFn.introC Tryz.call27 Tryz.func27 rfl rfl ?_
 conv => whnf
 refine CallC.sca _ (within_fn _ _ _) ?_ ?_
 · exact rfl
 exact And.intro trivial (AVle.refl _)
theorem isUntil_fn (n : Int) : VFn Tryz.prog 205 [.int .i64 n] (.bool (within n 0 200000)) := by
 refine VFn.introC Tryz.call205 Tryz.func205 rfl rfl ?_
 conv => whnf
 refine CallC.sca _ (within_fn _ _ _) ?_ ?_
 · exact rfl
 exact And.intro trivial (AVle.refl _)
theorem LeaseOK_fn (l : Lea) : VFn Tryz.prog 179 [l.av] (.bool l.ok) := by
 refine VFn.introC Tryz.call179 Tryz.func179 rfl rfl ?_
 repeat' (conv => whnf
          first
  | refine Grd.intro (fun h => ?_) (fun h => ?_)
  | (refine CallC.sca _ (isToken_fn _) ?_ ?_; exact rfl)
  | (refine CallC.sca _ (isId_fn _) ?_ ?_; exact rfl)
  | (refine CallC.sca _ (isUntil_fn _) ?_ ?_; exact rfl)
  | refine And.intro trivial (AVle.of_eq (congrArg AV.bool ?_)))
 all_goals (simp_all [Lea.ok])
theorem specLeaseOK_fn (l : Lea) : VFn Tryz.prog 164 [l.av] (.bool l.ok) := by
 refine VFn.introC Tryz.call164 Tryz.func164 rfl rfl ?_
 repeat' (conv => whnf
          first
  | refine Grd.intro (fun h => ?_) (fun h => ?_)
  | (refine CallC.sca _ (l01In_fn _ _ _) ?_ ?_; exact rfl)
  | refine And.intro trivial (AVle.of_eq (congrArg AV.bool ?_)))
 all_goals (simp_all [Lea.ok])
theorem Lea.text_len (l : Lea) (h : ∀ x ∈ [l.tok, l.who, l.til], -9223372036854775807 ≤ x ∧ x ≤ 9223372036854775807) : l.text.length ≤ 65 := by
 have h1 := h l.tok (by simp)
 have h2 := h l.who (by simp)
 have h3 := h l.til (by simp)
 have l1 := itoa_len (n := l.tok) (by omega) h1.2
 have l2 := itoa_len (n := l.who) (by omega) h2.2
 have l3 := itoa_len (n := l.til) (by omega) h3.2
 show (Lib.join [Lib.itoa l.tok, Lib.itoa l.who, Lib.itoa l.til] [44]).length ≤ 65
 simp [Lib.join]
 omega
theorem leaText_fn (l : Lea) (h : ∀ x ∈ [l.tok, l.who, l.til], -9223372036854775807 ≤ x ∧ x ≤ 9223372036854775807) : VFn Tryz.prog 119 [l.av] (.str (B l.text)) := by
 refine VFn.introC Tryz.call119 Tryz.func119 rfl rfl ?_
 conv => whnf
 refine CallC.sca _ (joined_of ([l.tok, l.who, l.til].map It.n) (n := 3) ⟨rfl, rfl, rfl, trivial⟩ rfl [44] (show 3 ≤ 100000000 by decide) (fun x hx => by obtain ⟨y, hy, rfl⟩ := List.mem_map.1 hx; have := h y hy; exact ⟨by omega, by omega⟩) (show l.text.length ≤ _ by have := Lea.text_len l h; omega)) ?_ ?_
 · exact rfl
 exact And.intro trivial (AVle.refl _)
theorem l05Text_fn (l : Lea) (h : ∀ x ∈ [l.tok, l.who, l.til], -9223372036854775807 ≤ x ∧ x ≤ 9223372036854775807) : VFn Tryz.prog 98 [l.av] (.str (B l.text)) := by
 refine VFn.introC Tryz.call98 Tryz.func98 rfl rfl ?_
 conv => whnf
 refine CallC.sca _ ((l02Join_fn [l.tok, l.who, l.til] (show 3 ≤ 100000000 by decide) (fun x hx => by have := h x hx; omega)).weak (AVsle.cons (RowsAre.le (f := fun n : Int => [AV.int .i64 n]) rfl ⟨rfl, rfl, rfl, trivial⟩) AVsle.nil) (AVle.refl _)) ?_ ?_
 · exact rfl
 exact And.intro trivial (AVle.refl _)
theorem readLease_yes (t : List UInt8) (hl : t.length ≤ 1000000) {l : Lea} (h : readL t = some l) : VFn Tryz.prog 149 [.str (B t)] (.tup [l.av, .bool true]) := by
 unfold readL at h
 cases hn : numsK 44 3 t with
 | none => rw [hn] at h; cases h
 | some N =>
   rw [hn] at h
   obtain ⟨a, b, c, rfl⟩ := nums3 hn
   have h : (if Lea.ok ⟨a, b, c⟩ = true then some (⟨a, b, c⟩ : Lea) else none) = some l := h
   split at h
   · rename_i hok
     cases h
     have ct := LeaseOK_fn ⟨a, b, c⟩
     rw [hok] at ct
     refine VFn.introC Tryz.call149 Tryz.func149 rfl rfl ?_
     conv => whnf
     refine CallC.nl _ (numbers_yes t 44 3 (by omega) (by decide) hn) ?_ ?_
     · exact rfl
     refine DrawC.mkQ 12 [(.inr 10, 11)] rfl (by kernel_rfl) ?_
     refine And.intro rfl ?_
     refine And.intro ⟨by decide, show (0 : Int) < 3 by decide⟩ ?_
     refine And.intro ⟨by decide, show (1 : Int) < 3 by decide⟩ ?_
     refine And.intro ⟨by decide, show (2 : Int) < 3 by decide⟩ ?_
     refine DrawC.mkQ 5 [(.inl 0, 3)] rfl (by kernel_rfl) ?_
     refine And.intro rfl ?_
     conv => whnf
     refine PCallQ.sca _ (ct) rfl ?_
     exact And.intro trivial (AVle.refl _)
   · cases h
theorem readLease_no (t : List UInt8) (hl : t.length ≤ 1000000) (h : readL t = none) : ∃ l : Lea, VFn Tryz.prog 149 [.str (B t)] (.tup [l.av, .bool false]) := by
 unfold readL at h
 cases hn : numsK 44 3 t with
 | none =>
   refine ⟨default, ?_⟩
   refine VFn.introC Tryz.call149 Tryz.func149 rfl rfl ?_
   conv => whnf
   refine CallC.nl _ (numbers_no t 44 3 (by omega) (by decide) hn) ?_ ?_
   · exact rfl
   exact And.intro trivial (AVle.refl _)
 | some N =>
   rw [hn] at h
   obtain ⟨a, b, c, rfl⟩ := nums3 hn
   have h : (if Lea.ok ⟨a, b, c⟩ = true then some (⟨a, b, c⟩ : Lea) else none) = none := h
   split at h
   · cases h
   · rename_i hok
     have ct := LeaseOK_fn ⟨a, b, c⟩
     rw [show Lea.ok ⟨a, b, c⟩ = false by simpa using hok] at ct
     refine ⟨⟨a, b, c⟩, ?_⟩
     refine VFn.introC Tryz.call149 Tryz.func149 rfl rfl ?_
     conv => whnf
     refine CallC.nl _ (numbers_yes t 44 3 (by omega) (by decide) hn) ?_ ?_
     · exact rfl
     refine DrawC.mkQ 12 [(.inr 10, 11)] rfl (by kernel_rfl) ?_
     refine And.intro rfl ?_
     refine And.intro ⟨by decide, show (0 : Int) < 3 by decide⟩ ?_
     refine And.intro ⟨by decide, show (1 : Int) < 3 by decide⟩ ?_
     refine And.intro ⟨by decide, show (2 : Int) < 3 by decide⟩ ?_
     refine DrawC.mkQ 5 [(.inl 0, 3)] rfl (by kernel_rfl) ?_
     refine And.intro rfl ?_
     conv => whnf
     refine PCallQ.sca _ (ct) rfl ?_
     exact And.intro trivial (AVle.refl _)
theorem l05Read_yes (t : List UInt8) (hl : t.length ≤ 1000000) {l : Lea} (h : readL t = some l) : VFn Tryz.prog 136 [.str (B t)] (.tup [l.av, .bool true]) := by
 unfold readL at h
 cases hn : numsK 44 3 t with
 | none => rw [hn] at h; cases h
 | some N =>
   rw [hn] at h
   obtain ⟨a, b, c, rfl⟩ := nums3 hn
   have h : (if Lea.ok ⟨a, b, c⟩ = true then some (⟨a, b, c⟩ : Lea) else none) = some l := h
   split at h
   · rename_i hok
     cases h
     have ct := specLeaseOK_fn ⟨a, b, c⟩
     rw [hok] at ct
     refine VFn.introC Tryz.call136 Tryz.func136 rfl rfl ?_
     conv => whnf
     refine CallC.nl _ (l02Numbers_gen t 44 3 hl _ (fun N h => by rw [hn] at h; cases h; rfl) (fun h => by rw [hn] at h; cases h)) ?_ ?_
     · exact rfl
     refine DrawC.mkQ 12 [(.inr 10, 11)] rfl (by kernel_rfl) ?_
     refine And.intro rfl ?_
     refine And.intro ⟨by decide, show (0 : Int) < 3 by decide⟩ ?_
     refine And.intro ⟨by decide, show (1 : Int) < 3 by decide⟩ ?_
     refine And.intro ⟨by decide, show (2 : Int) < 3 by decide⟩ ?_
     conv => whnf
     refine CallC.sca _ (ct) ?_ ?_
     · exact rfl
     exact And.intro trivial (AVle.refl _)
   · cases h
theorem l05Read_no (t : List UInt8) (hl : t.length ≤ 1000000) (h : readL t = none) : VFn Tryz.prog 136 [.str (B t)] (.tup [(default : Lea).av, .bool false]) := by
 unfold readL at h
 cases hn : numsK 44 3 t with
 | none =>
   refine VFn.introC Tryz.call136 Tryz.func136 rfl rfl ?_
   conv => whnf
   refine CallC.nl _ (l02Numbers_gen t 44 3 hl _ (fun N h => by rw [hn] at h; cases h) (fun h => rfl)) ?_ ?_
   · exact rfl
   exact And.intro trivial (AVle.refl _)
 | some N =>
   rw [hn] at h
   obtain ⟨a, b, c, rfl⟩ := nums3 hn
   have h : (if Lea.ok ⟨a, b, c⟩ = true then some (⟨a, b, c⟩ : Lea) else none) = none := h
   split at h
   · cases h
   · rename_i hok
     have ct := specLeaseOK_fn ⟨a, b, c⟩
     rw [show Lea.ok ⟨a, b, c⟩ = false by simpa using hok] at ct
     refine VFn.introC Tryz.call136 Tryz.func136 rfl rfl ?_
     conv => whnf
     refine CallC.nl _ (l02Numbers_gen t 44 3 hl _ (fun N h => by rw [hn] at h; cases h; rfl) (fun h => by rw [hn] at h; cases h)) ?_ ?_
     · exact rfl
     refine DrawC.mkQ 12 [(.inr 10, 11)] rfl (by kernel_rfl) ?_
     refine And.intro rfl ?_
     refine And.intro ⟨by decide, show (0 : Int) < 3 by decide⟩ ?_
     refine And.intro ⟨by decide, show (1 : Int) < 3 by decide⟩ ?_
     refine And.intro ⟨by decide, show (2 : Int) < 3 by decide⟩ ?_
     conv => whnf
     refine CallC.sca _ (ct) ?_ ?_
     · exact rfl
     exact And.intro trivial (AVle.refl _)
theorem get_ok (s : Sto) (hs : s.ok = true) (k : List UInt8) (h : s.has k = true) : (s.get k).data.length ≤ 600 ∧ 1 ≤ (s.get k).ver ∧ (s.get k).ver ≤ 1000000000 := by
 have h1 : s.eOK (s.pos k) = true := (Sto.ok_at hs).2.2 _ (hasK_at h).1
 have h2 := (Sto.ok_at hs).1
 simp [within] at h2
 simp [Sto.eOK, within] at h1
 unfold Sto.get
 omega
theorem lease_fn (s : Sto) (hs : s.ok = true) : VFn Tryz.prog 117 [s.av] (.tup [s.lea.1.av, .int .i64 s.lea.2]) := by
 have c := get_fn s hs leaK
 rcases s.lea_cases with ⟨e, h⟩ | ⟨e, h, hr⟩ | ⟨l, e, h, hr, hl⟩
 · rw [e]
   rw [if_neg (by rw [h]; simp)] at c
   refine VFn.introC Tryz.call117 Tryz.func117 rfl rfl ?_
   conv => whnf
   refine CallC.sca _ (c) ?_ ?_
   · exact rfl
   exact And.intro trivial (AVle.refl _)
 · have hd := get_ok s hs leaK h
   rw [e]
   rw [if_pos h] at c
   refine VFn.introC Tryz.call117 Tryz.func117 rfl rfl ?_
   conv => whnf
   refine CallC.sca _ (c) ?_ ?_
   · exact rfl
   obtain ⟨l, cr⟩ := readLease_no _ (by omega) hr
   conv => whnf
   refine CallC.sca _ (cr) ?_ ?_
   · exact rfl
   exact And.intro trivial (AVle.refl _)
 · have hd := get_ok s hs leaK h
   rw [e]
   rw [if_pos h] at c
   refine VFn.introC Tryz.call117 Tryz.func117 rfl rfl ?_
   conv => whnf
   refine CallC.sca _ (c) ?_ ?_
   · exact rfl
   conv => whnf
   refine CallC.sca _ (readLease_yes _ (by omega) hr) ?_ ?_
   · exact rfl
   exact And.intro trivial (AVle.refl _)
theorem l05Of_fn (s : Sto) (hs : s.ok = true) : VFn Tryz.prog 96 [s.av] (.tup [s.lea.1.av, .int .i64 s.leaV, .int .i64 (if s.lea.2 = 17 then 17 else 0)]) := by
 have c := l01Get_fn s hs leaK
 unfold Sto.leaV
 rcases s.lea_cases with ⟨e, h⟩ | ⟨e, h, hr⟩ | ⟨l, e, h, hr, hl⟩
 · rw [e, if_neg (by decide), if_neg (by decide)]
   rw [if_neg (by rw [h]; simp)] at c
   refine VFn.introC Tryz.call96 Tryz.func96 rfl rfl ?_
   conv => whnf
   refine CallC.sca _ (c) ?_ ?_
   · exact rfl
   exact And.intro trivial (AVle.refl _)
 · have hd := get_ok s hs leaK h
   rw [e, if_neg (by decide), if_pos rfl]
   rw [if_pos h] at c
   refine VFn.introC Tryz.call96 Tryz.func96 rfl rfl ?_
   conv => whnf
   refine CallC.sca _ (c) ?_ ?_
   · exact rfl
   refine Grd.intro (fun g => absurd (of_decide_eq_true (p := (s.get leaK).ver = 0) g) (by omega)) (fun g => ?_)
   conv => whnf
   refine CallC.sca _ (l05Read_no _ (by omega) hr) ?_ ?_
   · exact rfl
   exact And.intro trivial (AVle.refl _)
 · have hd := get_ok s hs leaK h
   rw [e, if_pos rfl, if_neg (show ¬ (0 : Int) = 17 by decide)]
   rw [if_pos h] at c
   refine VFn.introC Tryz.call96 Tryz.func96 rfl rfl ?_
   conv => whnf
   refine CallC.sca _ (c) ?_ ?_
   · exact rfl
   refine Grd.intro (fun g => absurd (of_decide_eq_true (p := (s.get leaK).ver = 0) g) (by omega)) (fun g => ?_)
   conv => whnf
   refine CallC.sca _ (l05Read_yes _ (by omega) hr) ?_ ?_
   · exact rfl
   exact And.intro trivial (AVle.refl _)
theorem pre_all {α : Type} [Inhabited α] {L : List α} {p : α → Bool} (h : ∀ j, j < L.length → p (ix L j) = true) : L.all p = true := List.all_eq_true.2 fun x hx => by
 obtain ⟨j, hj, rfl⟩ := List.getElem_of_mem hx
 have := h j hj
 rwa [ix_lt hj] at this
theorem bad_all {α : Type} [Inhabited α] {L : List α} {p : α → Bool} {j : Nat} (hj : j < L.length) (h : p (ix L j) = false) : L.all p = false := by
 cases hq : L.all p
 · rfl
 · have := List.all_eq_true.1 hq _ (getD_mem hj)
   have this : p (ix L j) = true := this
   rw [h] at this; cases this
theorem nums2 {c : UInt8} {t : List UInt8} {N : List Int} (h : numsK c 2 t = some N) : ∃ a b, N = [a, b] := by
 unfold numsK at h
 split at h
 · rename_i hc
   injection h with h
   have : N.length = 2 := by rw [← h, List.length_map]; exact hc.1
   match N, this with
   | [a, b], _ => exact ⟨a, b, rfl⟩
 · cases h
def pOk (w : List UInt8) : Bool := (numsK 61 2 w).isSome
def pv (w : List UInt8) : Smp := match numsK 61 2 w with | some [a, b] => ⟨a, b⟩ | _ => default
theorem pv_some {w : List UInt8} (h : pOk w = true) : numsK 61 2 w = some [(pv w).t, (pv w).v] := by
 unfold pOk at h
 obtain ⟨N, hN⟩ := Option.isSome_iff_exists.1 h
 obtain ⟨a, b, rfl⟩ := nums2 hN
 unfold pv
 rw [hN]
theorem pv_none {w : List UInt8} (h : pOk w = false) : numsK 61 2 w = none := by
 unfold pOk at h
 cases hN : numsK 61 2 w
 · rfl
 · rw [hN] at h; cases h
def wds (t : List UInt8) : List (List UInt8) := if t = [] then [] else cutP 32 [] t
def pts (t : List UInt8) : List (List UInt8) := if t = [] then [] else Lib.splitN t [32] 9
theorem splitN_9 (t : List UInt8) : ((cutP 32 [] t).length ≤ 8 → Lib.splitN t [32] 9 = cutP 32 [] t) ∧ (8 < (cutP 32 [] t).length → (Lib.splitN t [32] 9).length = 9) := by
 have h1 := cutP_len 32 t []
 have h := splitK_cut 32 (min 9 (t.length + 1) - 1) t
 have e : Lib.splitN t [32] 9 = Lib.splitK [32] 0 (min 9 (t.length + 1) - 1) t := rfl
 rw [e]
 refine ⟨fun h2 => h.1 (by omega), fun h2 => ?_⟩
 rcases Nat.lt_or_ge 9 (cutP 32 [] t).length with h3 | h3
 · rw [h.2 (by omega)]; omega
 · rw [h.1 (by omega)]; omega
theorem splitK_piece (c : UInt8) : ∀ (k : Nat) (l : List UInt8), ∀ x ∈ Lib.splitK [c] 0 k l, x.length ≤ l.length
 | 0, l, x, hx => by
   simp [Lib.splitK] at hx
   rw [hx]; exact Nat.le_refl _
 | k + 1, l, x, hx => by
   rcases first_c c l with h | ⟨a, b, rfl, ha⟩
   · unfold Lib.splitK at hx
     rw [index_none c l h] at hx
     simp at hx
     rw [hx]; exact Nat.le_refl _
   · have e : Lib.splitK [c] 0 (k + 1) (a ++ c :: b) = a :: Lib.splitK [c] 0 k b := by
      rw [Lib.splitK, index_at c a b ha, if_neg (by simp <;> omega)]
      simp
     rw [e] at hx
     rcases List.mem_cons.1 hx with rfl | hx
     · simp
     · have := splitK_piece c k b x hx
       simp; omega
theorem pts_piece (t : List UInt8) : ∀ x ∈ pts t, x.length ≤ t.length := by
 intro x hx
 unfold pts at hx
 split at hx
 · cases hx
 · exact splitK_piece 32 _ t x hx
theorem wds_piece (t : List UInt8) : ∀ x ∈ wds t, x.length ≤ t.length := by
 intro x hx
 unfold wds at hx
 split at hx
 · cases hx
 · have := cutP_piece 32 t [] x hx
   simpa using this
theorem wds_len (t : List UInt8) : (wds t).length ≤ t.length + 1 := by
 unfold wds
 split
 · simp
 · rename_i h
   have := cutP_len 32 t []
   omega
theorem pts_wds (t : List UInt8) : ((wds t).length ≤ 8 → pts t = wds t) ∧ (8 < (wds t).length → (pts t).length = 9) := by
 unfold pts wds
 split
 · exact ⟨fun _ => rfl, fun h => absurd h (by simp)⟩
 · exact splitN_9 t
theorem parts_fn (t : List UInt8) (hl : t.length ≤ 1048576) : VFn Tryz.prog 183 [.str (B t)] (txts (pts t)) := by
 have hb := B_nil t
 obtain ⟨R, hR⟩ : ∃ R, R = txts (pts t) := ⟨_, rfl⟩
 rw [← hR]
 refine VFn.introC Tryz.call183 Tryz.func183 rfl rfl ?_
 refine Grd.intro (fun g => ?_) (fun g => ?_)
 · have h : t = [] := of_decide_eq_true (hb.symm.trans g)
   have e : pts t = [] := by unfold pts; rw [if_pos h]
   rw [e] at hR
   subst hR
   exact And.intro trivial (AVle.nilsl _ _ rfl)
 · have h : ¬ t = [] := of_decide_eq_false (hb.symm.trans g)
   have e : pts t = Lib.splitN t [32] 9 := by unfold pts; rw [if_neg h]
   rw [e] at hR
   conv => whnf
   refine CallC.nl _ (SplitN_fn t 32 8 (by omega) (by decide)) ?_ ?_
   · exact rfl
   subst hR
   exact And.intro trivial (AVle.refl _)
def rdOk (t : List UInt8) : Bool := (wds t).all pOk && (smpsOK ((wds t).map pv) && decide (((wds t).length : Int) ≤ 8))
def rdV (t : List UInt8) : List Smp := (wds t).map pv
theorem rdOk_pts (t : List UInt8) : rdOk t = ((pts t).all pOk && (smpsOK ((pts t).map pv) && decide (((pts t).length : Int) ≤ 8))) := by
 have h := pts_wds t
 unfold rdOk
 rcases Nat.lt_or_ge 8 (wds t).length with h8 | h8
 · rw [decide_eq_false (show ¬ ((wds t).length : Int) ≤ 8 by omega), decide_eq_false (show ¬ ((pts t).length : Int) ≤ 8 by rw [h.2 h8]; decide)]
   simp
 · rw [h.1 h8]
theorem rdV_pts {t : List UInt8} (h : rdOk t = true) : rdV t = (pts t).map pv := by
 simp only [rdOk, Bool.and_eq_true, decide_eq_true_eq] at h
 unfold rdV
 rw [(pts_wds t).1 (by omega)]
theorem readSamples_gen (t : List UInt8) (hl : t.length ≤ 1048576) (R : AV) (hy : rdOk t = true → R = .tup [smps (rdV t), .bool true]) (hn : rdOk t = false → R = .tup [.any, .bool false]) : VFn Tryz.prog 152 [.str (B t)] R := by
 have e0 := rdOk_pts t
 have e1 := fun h => rdV_pts (t := t) h
 have hpl := pts_piece t
 have hc := parts_fn t hl
 obtain ⟨P, hP⟩ : ∃ P, P = pts t := ⟨_, rfl⟩
 rw [← hP] at e0 e1 hpl hc
 have hPl : P.length ≤ 9 := by
  rw [hP]
  rcases Nat.lt_or_ge 8 (wds t).length with h8 | h8
  · rw [(pts_wds t).2 h8]; omega
  · rw [(pts_wds t).1 h8]; omega
 clear hP
 refine VFn.introC Tryz.call152 Tryz.func152 rfl rfl ?_
 conv => whnf
 refine CallC.nl _ (hc) ?_ ?_
 · exact rfl
 refine LoopC.mk (fun i : Nat => i ≤ P.length ∧ ∀ j, j < i → pOk (ix P j) = true) (fun i => [(4, .osl 0), (11, txts P), (12, .int .i64 P.length), (13, .int .i64 i)])
  (fun i => [(0, .arr 101 2 ((P.take i).map pv).length fun j => (ix ((P.take i).map pv) j).row)]) 1 (fun i => P.length - i) 0
  ⟨⟨Nat.zero_le _, fun j hj => absurd hj (Nat.not_lt_zero j)⟩, [(0, 0)], rfl, rfl, ⟨AVle.refl _, AVle.refl _, AVle.refl _, AVle.refl _, trivial⟩, ⟨MOle.arr rfl fun i hi => absurd hi (Nat.not_lt_zero i), trivial⟩⟩ ?_
 intro i hi
 obtain ⟨hi, hall⟩ := hi
 refine Grd.intro (fun h2 => ?_) (fun h2 => ?_)
 · have hin : i < P.length := by have := of_decide_eq_true h2; omega
   have hpi := hpl _ (getD_mem hin)
   refine And.intro (by omega) ?_
   by_cases h3 : pOk (ix P i) = true
   · conv => whnf
     refine CallC.nl _ (numbers_yes (ix P i) 61 2 (by omega) (by decide) (pv_some h3)) ?_ ?_
     · exact rfl
     refine DrawC.mq 9 rfl (by kernel_rfl) ?_
     refine And.intro (by simp) ?_
     refine And.intro (by simp) ?_
     refine And.intro ⟨show (((P.take i).map pv).length + 1) * 16 ≤ 140737488355328 by simp; omega, all1 rfl⟩ ?_
     refine And.intro (inI64 (by omega) (by omega)) ?_
     refine ⟨i + 1, ⟨hin, fun j hj => ?_⟩, by omega, [(10, 0)], rfl, rfl, ⟨AVle.refl _, AVle.refl _, AVle.refl _, AVle.of_eq (congrArg (AV.int .i64) (by simp)), trivial⟩, ⟨arr_next (f := Smp.row) (map_take_snoc hin) rfl, trivial⟩⟩
     rcases Nat.lt_or_ge j i with h' | h'
     · exact hall j h'
     · rw [show j = i by omega]; exact h3
   · have h3 : pOk (ix P i) = false := by simpa using h3
     rw [hn (by rw [e0, bad_all hin h3]; rfl)]
     conv => whnf
     refine CallC.nl _ (numbers_no (ix P i) 61 2 (by omega) (by decide) (pv_none h3)) ?_ ?_
     · exact rfl
     exact And.intro trivial (AVle.tup (AVsle.cons (AVle.any _) (AVsle.cons (AVle.refl _) AVsle.nil)))
 · have : i = P.length := by have := of_decide_eq_false h2; omega
   subst this
   have e : P.take P.length = P := List.take_of_length_le (Nat.le_refl _)
   have hA : P.all pOk = true := pre_all hall
   rw [hA, Bool.true_and] at e0
   rw [e]
   cases hq : smpsOK (P.map pv)
   · have c := SamplesOK_fn (P.map pv)
     rw [hq] at c e0
     rw [hn e0]
     conv => whnf
     refine CallC.sca _ (c) ?_ ?_
     · exact rfl
     exact And.intro trivial (AVle.tup (AVsle.cons (AVle.any _) (AVsle.cons (AVle.refl _) AVsle.nil)))
   · have c := SamplesOK_fn (P.map pv)
     rw [hq, Bool.true_and] at e0
     rw [hq] at c
     conv => whnf
     refine CallC.sca _ (c) ?_ ?_
     · exact rfl
     rcases Int.lt_or_le 8 (P.length : Int) with h8 | h8
     · rw [hn (by rw [e0]; exact decide_eq_false (by omega))]
       conv => whnf
       exact And.intro trivial (AVle.tup (AVsle.cons (AVle.any _) (AVsle.cons (AVle.of_eq (congrArg AV.bool (decide_eq_false (by simp; omega)))) AVsle.nil)))
     · rw [hy (by rw [e0]; exact decide_eq_true h8), e1 (by rw [e0]; exact decide_eq_true h8)]
       conv => whnf
       exact And.intro trivial (AVle.tup (AVsle.cons (AVle.refl _) (AVsle.cons (AVle.of_eq (congrArg AV.bool (decide_eq_true (by simp; omega)))) AVsle.nil)))
theorem smpText_32 (s : Smp) : ∀ x ∈ smpText s, x ≠ 32 := by
 intro x hx
 unfold smpText at hx
 rw [join2] at hx
 simp only [List.mem_append, List.mem_singleton] at hx
 rcases hx with (hx | rfl) | hx
 · exact itoa_ne (by decide) (by decide) x hx
 · decide
 · exact itoa_ne (by decide) (by decide) x hx
theorem pv_text {s : Smp} (h : s.num) : pOk (smpText s) = true ∧ pv (smpText s) = s := by
 have e : numsK 61 2 (smpText s) = some [s.t, s.v] := nums_back (c := 61) (N := [s.t, s.v]) (by decide) (by decide) (by simp) (fun n hn => by
  obtain ⟨h1, h2⟩ := h
  simp only [List.mem_cons, List.not_mem_nil, or_false] at hn
  rcases hn with rfl | rfl <;> omega)
 unfold pOk pv
 rw [e]
 exact ⟨rfl, rfl⟩
theorem smpText_ne (s : Smp) : smpText s ≠ [] := by
 unfold smpText; rw [join2]; simp
theorem join_nil {L : List (List UInt8)} {c : UInt8} (h : ∀ x ∈ L, x ≠ []) (hL : L ≠ []) : Lib.join L [c] ≠ [] := by
 match L, hL with
 | [a], _ => rw [Lib.join_one]; exact h a (by simp)
 | a :: b :: r, _ =>
   have e : Lib.join (a :: b :: r) [c] = a ++ c :: Lib.join (b :: r) [c] := by simp [Lib.join, List.intercalate, List.intersperse]
   rw [e]; simp
theorem wds_join {L : List (List UInt8)} (h : ∀ x ∈ L, x ≠ []) (h2 : ∀ x ∈ L, ∀ b ∈ x, b ≠ 32) : wds (Lib.join L [32]) = L := by
 unfold wds
 by_cases hL : L = []
 · subst hL; rfl
 · rw [if_neg (join_nil h hL), cut_join 32 L hL h2]
theorem wds_smps (L : List Smp) : wds (smpsText L) = L.map smpText := by
 unfold smpsText
 exact wds_join (fun x hx => by obtain ⟨s, _, rfl⟩ := List.mem_map.1 hx; exact smpText_ne s) (fun x hx => by obtain ⟨s, _, rfl⟩ := List.mem_map.1 hx; exact smpText_32 s)
theorem rdV_text {L : List Smp} (h : ∀ s ∈ L, s.num) : rdV (smpsText L) = L := by
 unfold rdV
 rw [wds_smps, List.map_map]
 exact (List.map_congr_left fun s hs => (pv_text (h s hs)).2).trans (List.map_id' L)
theorem rdOk_text {L : List Smp} (h : ∀ s ∈ L, s.num) (hk : smpsOK L = true) (h8 : L.length ≤ 8) : rdOk (smpsText L) = true := by
 have e := rdV_text h
 unfold rdV at e
 unfold rdOk
 rw [e, hk, wds_smps, List.length_map, decide_eq_true (by omega)]
 simp only [Bool.and_true, List.all_map]
 exact List.all_eq_true.2 fun s hs => (pv_text (h s hs)).1
theorem l03ToSamples_gen (t : List UInt8) (hl : t.length ≤ 1000000) (R : AV) (hy : rdOk t = true → R = .tup [smps (rdV t), .bool true]) (hn : rdOk t = false → R = .tup [.any, .bool false]) : VFn Tryz.prog 138 [.str (B t)] R := by
 have hb := B_nil t
 by_cases h0 : t = []
 · have e1 : rdOk t = true := by rw [h0]; rfl
   have e2 : rdV t = [] := by rw [h0]; rfl
   rw [hy e1, e2]
   refine VFn.introC Tryz.call138 Tryz.func138 rfl rfl ?_
   refine Grd.intro (fun g => ?_) (fun g => ?_)
   · exact And.intro trivial (AVle.tup (AVsle.cons (AVle.sl rfl fun j hj => absurd hj (Nat.not_lt_zero j)) (AVsle.cons (AVle.refl _) AVsle.nil)))
   · exact absurd h0 (of_decide_eq_false (hb.symm.trans g))
 have hpl := wds_piece t
 have hwl := wds_len t
 have hc := l00Cut_fn t 32 (by omega)
 have ew : wds t = cutP 32 [] t := by unfold wds; rw [if_neg h0]
 rw [← ew] at hc
 have e0 : rdOk t = ((wds t).all pOk && (smpsOK ((wds t).map pv) && decide (((wds t).length : Int) ≤ 8))) := rfl
 have e1 : rdV t = (wds t).map pv := rfl
 obtain ⟨P, hP⟩ : ∃ P, P = wds t := ⟨_, rfl⟩
 rw [← hP] at e0 e1 hpl hwl hc
 clear hP ew
 refine VFn.introC Tryz.call138 Tryz.func138 rfl rfl ?_
 refine Grd.intro (fun g => ?_) (fun g => ?_)
 · exact absurd (of_decide_eq_true (hb.symm.trans g)) h0
 conv => whnf
 refine CallC.nl _ (hc) ?_ ?_
 · exact rfl
 refine LoopC.mk (fun i : Nat => i ≤ P.length ∧ ∀ j, j < i → pOk (ix P j) = true) (fun i => [(4, .osl 0), (5, txts P), (6, .int .i64 i)])
  (fun i => [(0, .arr 101 2 ((P.take i).map pv).length fun j => (ix ((P.take i).map pv) j).row)]) 1 (fun i => P.length - i) 0
  ⟨⟨Nat.zero_le _, fun j hj => absurd hj (Nat.not_lt_zero j)⟩, [(0, 0)], rfl, rfl, ⟨AVle.refl _, AVle.refl _, AVle.refl _, trivial⟩, ⟨MOle.arr rfl fun i hi => absurd hi (Nat.not_lt_zero i), trivial⟩⟩ ?_
 intro i hi
 obtain ⟨hi, hall⟩ := hi
 refine Grd.intro (fun h2 => ?_) (fun h2 => ?_)
 · have hin : i < P.length := by have := of_decide_eq_true h2; omega
   have hpi := hpl _ (getD_mem hin)
   refine And.intro (by omega) ?_
   by_cases h3 : pOk (ix P i) = true
   · conv => whnf
     refine CallC.nl _ (l02Numbers_gen (ix P i) 61 2 (by omega) _ (fun N h => by rw [pv_some h3] at h; cases h; rfl) (fun h => by rw [pv_some h3] at h; cases h)) ?_ ?_
     · exact rfl
     refine DrawC.mq 9 rfl (by kernel_rfl) ?_
     refine And.intro (by simp) ?_
     refine And.intro (by simp) ?_
     refine And.intro ⟨show (((P.take i).map pv).length + 1) * 16 ≤ 140737488355328 by simp; omega, all1 rfl⟩ ?_
     refine And.intro (inI64 (by omega) (by omega)) ?_
     refine ⟨i + 1, ⟨hin, fun j hj => ?_⟩, by omega, [(10, 0)], rfl, rfl, ⟨AVle.refl _, AVle.refl _, AVle.of_eq (congrArg (AV.int .i64) (by simp)), trivial⟩, ⟨arr_next (f := Smp.row) (map_take_snoc hin) rfl, trivial⟩⟩
     rcases Nat.lt_or_ge j i with h' | h'
     · exact hall j h'
     · rw [show j = i by omega]; exact h3
   · have h3 : pOk (ix P i) = false := by simpa using h3
     rw [hn (by rw [e0, bad_all hin h3]; rfl)]
     conv => whnf
     refine CallC.nl _ (l02Numbers_gen (ix P i) 61 2 (by omega) _ (fun N h => by rw [pv_none h3] at h; cases h) (fun h => rfl)) ?_ ?_
     · exact rfl
     exact And.intro trivial (AVle.tup (AVsle.cons (AVle.any _) (AVsle.cons (AVle.refl _) AVsle.nil)))
 · have : i = P.length := by have := of_decide_eq_false h2; omega
   subst this
   have e : P.take P.length = P := List.take_of_length_le (Nat.le_refl _)
   have hA : P.all pOk = true := pre_all hall
   rw [hA, Bool.true_and] at e0
   rw [e]
   cases hq : smpsOK (P.map pv)
   · have c := specSamplesOK_fn (P.map pv)
     rw [hq] at c e0
     rw [hn e0]
     conv => whnf
     refine CallC.sca _ (c) ?_ ?_
     · exact rfl
     exact And.intro trivial (AVle.tup (AVsle.cons (AVle.any _) (AVsle.cons (AVle.refl _) AVsle.nil)))
   · have c := specSamplesOK_fn (P.map pv)
     rw [hq, Bool.true_and] at e0
     rw [hq] at c
     conv => whnf
     refine CallC.sca _ (c) ?_ ?_
     · exact rfl
     refine Grd.intro (fun g2 => ?_) (fun g2 => ?_)
     · have g2 := of_decide_eq_true g2
       rw [hn (by rw [e0]; exact decide_eq_false (by simp at g2; omega))]
       exact And.intro trivial (AVle.tup (AVsle.cons (AVle.any _) (AVsle.cons (AVle.refl _) AVsle.nil)))
     · have g2 := of_decide_eq_false g2
       have h8 : (P.length : Int) ≤ 8 := by simp at g2; omega
       rw [hy (by rw [e0]; exact decide_eq_true h8), e1]
       exact And.intro trivial (AVle.refl _)
theorem putAbsent_fn (s : Sto) (hs : s.ok = true) (k d : List UInt8) (hd : d.length ≤ 1000000000) : VFn Tryz.prog 81 [s.av, .str (B k), .str (B d)] (.tup [(s.putA k d).1.av, .int .i64 (if s.has k = true ∨ s.room k d ≠ 0 then 0 else s.next), .int .i64 (s.putA k d).2]) := by
 have c := find_fn s hs k
 have cp := put_fn s hs k d hd
 unfold Sto.putA
 by_cases hk : s.has k = true
 · rw [hk] at c ⊢
   rw [if_pos rfl, if_pos (.inl rfl)]
   refine VFn.introC Tryz.call81 Tryz.func81 rfl rfl ?_
   conv => whnf
   refine CallC.sca _ (c) ?_ ?_
   · exact rfl
   exact And.intro trivial (AVle.refl _)
 · have hk : s.has k = false := by simpa using hk
   rw [hk] at c ⊢
   rw [if_neg (by simp)]
   unfold Sto.put
   by_cases hr : s.room k d = 0
   · rw [if_pos hr] at cp
     rw [if_pos hr, hr, if_neg (by simp)]
     refine VFn.introC Tryz.call81 Tryz.func81 rfl rfl ?_
     conv => whnf
     refine CallC.sca _ (c) ?_ ?_
     · exact rfl
     conv => whnf
     refine CallC.nl _ (cp) ?_ ?_
     · exact rfl
     exact And.intro trivial (AVle.refl _)
   · rw [if_neg hr] at cp
     rw [if_neg hr, if_pos (.inr hr)]
     refine VFn.introC Tryz.call81 Tryz.func81 rfl rfl ?_
     conv => whnf
     refine CallC.sca _ (c) ?_ ?_
     · exact rfl
     conv => whnf
     refine CallC.nl _ (cp) ?_ ?_
     · exact rfl
     exact And.intro trivial (AVle.refl _)
theorem l01Absent_fn (s : Sto) (hs : s.ok = true) (k d : List UInt8) : VFn Tryz.prog 97 [s.av, .str (B k), .str (B d)] (.tup [(s.putA k d).1.av, .int .i64 (s.putA k d).2]) := by
 have hL := (Sto.ok_at hs).2.1
 have hn : 1 ≤ s.next ∧ s.next ≤ 1000000000 := by simpa [within] using (Sto.ok_at hs).1
 have c := l01Find_fn s (by omega) k
 rw [Srt.fi (Sto.srt hs) k, show hasK k s.os = s.has k from rfl] at c
 unfold Sto.putA
 by_cases hk : s.has k = true
 · rw [if_pos hk] at c
   rw [if_pos hk]
   refine VFn.introC Tryz.call97 Tryz.func97 rfl rfl ?_
   conv => whnf
   refine CallC.sca _ (c) ?_ ?_
   · exact rfl
   exact And.intro trivial (AVle.refl _)
 · rw [if_neg hk] at c
   rw [if_neg hk]
   unfold Sto.put
   refine VFn.introC Tryz.call97 Tryz.func97 rfl rfl ?_
   conv => whnf
   refine CallC.sca _ (c) ?_ ?_
   · exact rfl
   conv => whnf
   refine CallC.sca _ (l01Room_fn s hs k d) ?_ ?_
   · exact rfl
   refine Grd.intro (fun h => ?_) (fun h => ?_)
   · have h : s.room k d ≠ 0 := by simpa using h
     rw [if_neg h]
     exact And.intro trivial (AVle.refl _)
   · have h : s.room k d = 0 := by simpa using h
     rw [if_pos h, h]
     conv => whnf
     refine CallC.nl _ (l01Set_fn s (by omega) ⟨by omega, by omega⟩ k d) ?_ ?_
     · exact rfl
     exact And.intro trivial (AVle.refl _)

def Ob.size (e : Ob) : Nat := e.key.length + e.data.length
theorem recText_fn (r : Rc) (h : r.ok = true) : VFn Tryz.prog 121 [r.av] (.str (B r.text)) := by
 have hm := (Rc.okN h).1
 have hk := (Rc.okN h).2
 have hl := Rc.head_len h
 have e : (r.nums.map It.n).map It.txt = r.nums.map Lib.itoa := by rw [List.map_map]; rfl
 refine VFn.introC Tryz.call121 Tryz.func121 rfl rfl ?_
 refine DrawC.mq 22 rfl (by kernel_rfl) ?_
 refine PCallQ.sca _ (joined_of (r.nums.map It.n) (n := 5) ⟨rfl, rfl, rfl, rfl, rfl, trivial⟩ rfl [44] (show 5 ≤ 100000000 by decide) (fun x hx => by
  obtain ⟨n, hn, rfl⟩ := List.mem_map.1 hx
  have := hm n hn; unfold mid at this; exact ⟨by omega, by omega⟩) (by rw [e]; omega)) rfl ?_
 rw [e]
 have add : ∀ (x y : List UInt8), (x.length + y.length : Nat) ≤ 100000 → (((B x).size + (B y).size : Nat) : Int) ≤ 9223372036854775807 := fun x y h => by rw [B_size, B_size]; omega
 refine And.intro (add (Lib.join (r.nums.map Lib.itoa) [44]) [32] (by simp; omega)) ?_
 refine And.intro (show (((B (Lib.join (r.nums.map Lib.itoa) [44]) ++ B [32]).size + (B r.key).size : Nat) : Int) ≤ 9223372036854775807 by rw [B_app]; exact add _ _ (by simp; omega)) ?_
 exact And.intro trivial (AVle.of_eq (congrArg AV.str (show B (Lib.join (r.nums.map Lib.itoa) [44]) ++ B [32] ++ B r.key = B r.text by rw [B_app, B_app, List.append_assoc]; rfl)))
theorem l06Text_fn (r : Rc) (h : r.ok = true) : VFn Tryz.prog 70 [r.av] (.str (B r.text)) := by
 have hm := (Rc.okN h).1
 have hk := (Rc.okN h).2
 have hl := Rc.head_len h
 refine VFn.introC Tryz.call70 Tryz.func70 rfl rfl ?_
 refine DrawC.mq 17 rfl (by kernel_rfl) ?_
 refine PCallQ.sca (.str (B (Lib.join (r.nums.map Lib.itoa) [44]))) ((l02Join_fn r.nums (show 5 ≤ 100000000 by decide) (fun x hx => by have := hm x hx; unfold mid at this; omega)).weak (AVsle.cons (RowsAre.le (f := fun n : Int => [AV.int .i64 n]) rfl ⟨rfl, rfl, rfl, rfl, rfl, trivial⟩) AVsle.nil) (AVle.refl _)) rfl ?_
 have add : ∀ (x y : List UInt8), (x.length + y.length : Nat) ≤ 100000 → (((B x).size + (B y).size : Nat) : Int) ≤ 9223372036854775807 := fun x y h => by rw [B_size, B_size]; omega
 refine And.intro (add (Lib.join (r.nums.map Lib.itoa) [44]) [32] (by simp; omega)) ?_
 refine And.intro (show (((B (Lib.join (r.nums.map Lib.itoa) [44]) ++ B [32]).size + (B r.key).size : Nat) : Int) ≤ 9223372036854775807 by rw [B_app]; exact add _ _ (by simp; omega)) ?_
 exact And.intro trivial (AVle.of_eq (congrArg AV.str (show B (Lib.join (r.nums.map Lib.itoa) [44]) ++ B [32] ++ B r.key = B r.text by rw [B_app, B_app, List.append_assoc]; rfl)))
def manK (n : Int) : List UInt8 := [109, 97, 110, 47] ++ six6 n.toNat
def appS (s : Sto) (n : Int) (r : Rc) : Sto × Int := s.putA (manK n) r.text
theorem text_len {r : Rc} (h : r.ok = true) : r.text.length ≤ 1000000 := by
 have hl := Rc.head_len h
 have hk := (Rc.okN h).2
 unfold Rc.text
 simp only [List.length_append, List.length_cons, List.length_nil]
 omega
theorem l06Key_fn (n : Int) (h : within n 1 999999 = true) : VFn Tryz.prog 69 [.int .i64 n] (.str (B (manK n))) := by
 have hb : 1 ≤ n ∧ n ≤ 999999 := by simpa [within] using h
 have c := l03Wide_fn n.toNat (by omega)
 rw [show ((n.toNat : Nat) : Int) = n by omega] at c
 refine VFn.introC Tryz.call69 Tryz.func69 rfl rfl ?_
 conv => whnf
 refine CallC.sca _ (c) ?_ ?_
 · exact rfl
 refine And.intro (show ((4 + (B (six6 n.toNat)).size : Nat) : Int) ≤ 9223372036854775807 by rw [B_size, six6_len]; decide) ?_
 refine force_to (congrArg AV.str (show B [109, 97, 110, 47] ++ B (six6 n.toNat) = B (manK n) from B_app _ _)) ?_
 exact And.intro trivial (AVle.refl _)
theorem l06Append_fn (s : Sto) (hs : s.ok = true) (n : Int) (h : within n 1 999999 = true) (r : Rc) (hr : r.ok = true) : VFn Tryz.prog 51 [s.av, .int .i64 n, r.av] (.tup [(appS s n r).1.av, .int .i64 (appS s n r).2]) := by
 have co := l01Absent_fn s hs (manK n) r.text
 refine VFn.introC Tryz.call51 Tryz.func51 rfl rfl ?_
 refine DrawC.mkQ 10 [(.inl 2, 8)] rfl (by kernel_rfl) ?_
 refine And.intro rfl ?_
 conv => whnf
 refine PCallQ.sca _ (l06Key_fn n h) rfl ?_
 conv => whnf
 refine PCallQ.sca _ (l06Text_fn r hr) rfl ?_
 conv => whnf
 refine PCallQ.nl _ (co) rfl ?_
 exact And.intro trivial (AVle.refl _)
theorem lay_fn (s : Sto) (hs : s.ok = true) (n : Int) (h : within n 1 999999 = true) (r : Rc) (hr : r.ok = true) : VFn Tryz.prog 76 [s.av, .int .i64 n, r.av] (.tup [(appS s n r).1.av, .int .i64 (appS s n r).2]) := by
 have hb : 1 ≤ n ∧ n ≤ 999999 := by simpa [within] using h
 have co := putAbsent_fn s hs (manK n) r.text (by have := text_len hr; omega)
 have cw := within_fn n 1 999999
 rw [h] at cw
 refine VFn.introC Tryz.call76 Tryz.func76 rfl rfl ?_
 conv => whnf
 refine CallC.sca _ (cw) ?_ ?_
 · exact rfl
 refine DrawC.mkQ 15 [(.inr 11, 12)] rfl (by kernel_rfl) ?_
 refine And.intro rfl ?_
 conv => whnf
 refine PCallQ.sca _ (six_fn n (by simp [within]; omega)) rfl ?_
 conv => whnf
 refine And.intro (show ((4 + (B (six6 n.toNat)).size : Nat) : Int) ≤ 9223372036854775807 by rw [B_size, six6_len]; decide) ?_
 refine force_to (congrArg AV.str (show B [109, 97, 110, 47] ++ B (six6 n.toNat) = B (manK n) from B_app _ _)) ?_
 conv => whnf
 refine PCallQ.sca _ (recText_fn r hr) rfl ?_
 conv => whnf
 refine PCallQ.nl _ (co) rfl ?_
 exact And.intro trivial (AVle.refl _)
structure Tb where
 seq : Int
 key : List UInt8
 deriving Inhabited, DecidableEq
def Tb.row (e : Tb) : List AV := [.int .i64 e.seq, .str (B e.key)]
def Tb.av (e : Tb) : AV := .agg e.row
abbrev ents (L : List En) : AV := .sl 4 L.length fun i => (ix L i).row
abbrev tbs (L : List Tb) : AV := .sl 2 L.length fun i => (ix L i).row
theorem IndexEn_1 (L : List En) (hL : L.length ≤ 9223372036854775807) (F : Nat) (row : List AV) (p : En → Bool) (hp : ∀ e ∈ L, VFn Tryz.prog F [e.av, .eptr row 0] (.bool (p e))) :
 VFn Tryz.prog 107 [ents L, .fn (.func F) [] [.eptr row 0]] (.int .i64 (fi p L)) := by
 refine VFn.introC Tryz.call107 Tryz.func107 rfl rfl ?_
 refine LoopC.mk (fun i : Nat => i ≤ L.length ∧ ∀ j, j < i → p (ix L j) = false) (fun i => [(0, ents L), (1, .fn (.func F) [] [.eptr row 0]), (7, .int .i64 L.length), (8, .int .i64 i)]) (fun _ => []) 0 (fun i => L.length - i) 0
  ⟨⟨Nat.zero_le _, fun j hj => absurd hj (Nat.not_lt_zero j)⟩, [], rfl, rfl, ⟨AVle.refl _, AVle.refl _, AVle.refl _, AVle.refl _, trivial⟩, trivial⟩ ?_
 intro i hi
 refine Grd.intro (fun h2 => ?_) (fun h2 => ?_)
 · have hin : i < L.length := by have := of_decide_eq_true h2; omega
   refine And.intro (by omega) ?_
   conv => whnf
   refine CallC.sca _ (hp (ix L i) (getD_mem hin)) ?_ ?_
   · exact rfl
   refine Grd.intro (fun h3 => ?_) (fun h3 => ?_)
   · exact And.intro trivial (AVle.of_eq (congrArg (AV.int .i64) (fi_at hin hi.2 h3).symm))
   · refine And.intro (inI64 (by omega) (by omega)) ?_
     exact ⟨i + 1, ⟨hin, fun j hj => by
      rcases Nat.lt_or_ge j i with h' | h'
      · exact hi.2 j h'
      · rw [show j = i by omega]; exact h3⟩, by omega, [], rfl, rfl, ⟨AVle.refl _, AVle.refl _, AVle.refl _, AVle.of_eq (congrArg (AV.int .i64) (by simp)), trivial⟩, trivial⟩
 · have : i = L.length := by have := of_decide_eq_false h2; omega
   subst this
   exact And.intro trivial (AVle.of_eq (congrArg (AV.int .i64) (fi_none hi.2).symm))
theorem ContainsEn_1 (L : List En) (hL : L.length ≤ 9223372036854775807) (F : Nat) (row : List AV) (p : En → Bool) (hp : ∀ e ∈ L, VFn Tryz.prog F [e.av, .eptr row 0] (.bool (p e))) :
 VFn Tryz.prog 60 [ents L, .fn (.func F) [] [.eptr row 0]] (.bool (L.any p)) := by
 refine VFn.introC Tryz.call60 Tryz.func60 rfl rfl ?_
 conv => whnf
 refine CallC.sca _ (IndexEn_1 L hL F row p hp) ?_ ?_
 · exact rfl
 exact And.intro trivial (AVle.of_eq (congrArg AV.bool (show decide (0 ≤ fi p L) = _ from fi_any)))
theorem allEn1_fn (e : En) (G : Nat) (p : En → Bool) (hp : VFn Tryz.prog G [e.av] (.bool (p e))) : VFn Tryz.prog 61 [e.av, .eptr [.fn (.func G) [] []] 0] (.bool (!p e)) := by
 refine VFn.introC Tryz.call61 Tryz.func61 rfl rfl ?_
 conv => whnf
 refine CallC.sca _ (hp) ?_ ?_
 · exact rfl
 exact And.intro trivial (AVle.refl _)
theorem allEn_fn (L : List En) (hL : L.length ≤ 9223372036854775807) (G : Nat) (p : En → Bool) (hp : ∀ e ∈ L, VFn Tryz.prog G [e.av] (.bool (p e))) : VFn Tryz.prog 30 [ents L, .fn (.func G) [] []] (.bool (L.all p)) := by
 refine VFn.introC Tryz.call30 Tryz.func30 rfl rfl ?_
 conv => whnf
 refine CallC.sca _ (ContainsEn_1 L hL 61 [.fn (.func G) [] []] (fun e => !p e) (fun e he => allEn1_fn e G p (hp e he))) ?_ ?_
 · exact rfl
 exact And.intro trivial (AVle.of_eq (congrArg AV.bool (show (!L.any fun e => !p e) = _ by rw [Bool.eq_iff_iff]; simp)))
structure Sta where
 seq : Int
 fence : Int
 es : List En
 ts : List Tb
 l0 : Int
 l1 : Int
 l2 : Int
 h0 : Int
 h1 : Int
 h2 : Int
 deriving Inhabited, DecidableEq
def Sta.row (s : Sta) : List AV := [.int .i64 s.seq, .int .i64 s.fence, ents s.es, tbs s.ts, .int .i64 s.l0, .int .i64 s.l1, .int .i64 s.l2, .int .i64 s.h0, .int .i64 s.h1, .int .i64 s.h2]
def Sta.av (s : Sta) : AV := .agg s.row
def ofT (L : List En) (k : Int) : List En := L.filter fun e => decide (e.tier = k)
theorem ofT_snoc {L : List En} {i : Nat} (h : i < L.length) (k : Int) : ofT (L.take (i + 1)) k = if (ix L i).tier = k then ofT (L.take i) k ++ [ix L i] else ofT (L.take i) k := by
 unfold ofT
 rw [take_snoc h, List.filter_append]
 by_cases hk : (ix L i).tier = k
 · rw [if_pos hk]; simp [hk]
 · rw [if_neg hk]; simp [hk]
theorem ofT_len (L : List En) (k : Int) : (ofT L k).length ≤ L.length := List.length_filter_le _ _
theorem ofS_fn (s : Sta) (hL : s.es.length ≤ 1000000000) (k : Int) : VFn Tryz.prog 115 [s.av, .int .i64 k] (ents (ofT s.es k)) := by
 obtain ⟨R, hR⟩ : ∃ R, R = ofT s.es k := ⟨_, rfl⟩
 rw [← hR]
 have hl := fun i => Nat.le_trans (ofT_len (s.es.take i) k) (by simp; omega : (s.es.take i).length ≤ i)
 refine VFn.introC Tryz.call115 Tryz.func115 rfl rfl ?_
 refine LoopC.mk (fun i : Nat => i ≤ s.es.length) (fun i => [(1, .int .i64 k), (5, .osl 0), (10, ents s.es), (11, .int .i64 s.es.length), (12, .int .i64 i)])
  (fun i => [(0, .arr 58 4 (ofT (s.es.take i) k).length fun j => (ix (ofT (s.es.take i) k) j).row)]) 1 (fun i => s.es.length - i) 0
  ⟨Nat.zero_le _, [(1, 0)], rfl, rfl, ⟨AVle.refl _, AVle.refl _, AVle.refl _, AVle.refl _, AVle.refl _, trivial⟩, ⟨MOle.arr rfl fun i hi => absurd hi (Nat.not_lt_zero i), trivial⟩⟩ ?_
 intro i hi
 refine Grd.intro (fun h2 => ?_) (fun h2 => ?_)
 · have hin : i < s.es.length := by have := of_decide_eq_true h2; omega
   have hs := ofT_snoc hin k
   refine And.intro (by omega) ?_
   refine Grd.intro (fun h3 => ?_) (fun h3 => ?_)
   · rw [if_pos (show (ix s.es i).tier = k from of_decide_eq_true h3)] at hs
     refine And.intro ⟨show ((ofT (s.es.take i) k).length + 1) * 40 ≤ 140737488355328 by have := hl i; omega, all1 rfl⟩ ?_
     refine And.intro (inI64 (by omega) (by omega)) ?_
     refine ⟨i + 1, hin, by omega, [(3, 0)], rfl, rfl, ⟨AVle.refl _, AVle.refl _, AVle.refl _, AVle.refl _, AVle.of_eq (congrArg (AV.int .i64) (by simp)), trivial⟩, ⟨?_, trivial⟩⟩
     exact arr_next (f := En.row) hs rfl
   · rw [if_neg (show ¬ (ix s.es i).tier = k from of_decide_eq_false h3)] at hs
     refine And.intro (inI64 (by omega) (by omega)) ?_
     exact ⟨i + 1, hin, by omega, [(0, 0)], rfl, rfl, ⟨AVle.refl _, AVle.refl _, AVle.refl _, AVle.refl _, AVle.of_eq (congrArg (AV.int .i64) (by simp)), trivial⟩, ⟨MOle.of_eq (show MO.arr 58 4 (ofT (s.es.take i) k).length (fun j => (ix (ofT (s.es.take i) k) j).row) = _ by rw [hs]), trivial⟩⟩
 · have : i = s.es.length := by have := of_decide_eq_false h2; omega
   subst this
   have e : ofT (s.es.take s.es.length) k = R := by rw [List.take_of_length_le (Nat.le_refl _), hR]
   subst e
   exact And.intro trivial (AVle.sl rfl fun j hj => rfl)
def runs : List En → Int → Option Int
 | [], a => some a
 | e :: r, a => if e.f = a then runs r e.t else none
def tierOK (L : List En) (lo hi : Int) (k : Int) : Bool := within lo 0 100000 && decide (runs (ofT L k) lo = some hi)
def tbOK (n : Int) (t : Tb) : Bool := kOk t.key && within t.seq 1 n
def Sta.keys (s : Sta) : List (List UInt8) := s.es.map (·.key) ++ s.ts.map (·.key)
def Sta.ok (s : Sta) : Bool :=
 within s.seq 0 999999 && (within s.fence 0 999999 && (decide (((s.es.length : Nat) : Int) + ((s.ts.length : Nat) : Int) ≤ 4096) && (s.es.all En.ok && (s.ts.all (tbOK s.seq) && (decide s.keys.Nodup &&
  (tierOK s.es s.l0 s.h0 0 && (tierOK s.es s.l1 s.h1 1 && tierOK s.es s.l2 s.h2 2)))))))
def endE (L : List En) (lo : Int) (k : Int) : Int := match (ofT L k).getLast? with | some e => e.t | none => lo
def Sta.lo (s : Sta) (k : Int) : Int := if k = 0 then s.l0 else if k = 1 then s.l1 else s.l2
def Sta.hi (s : Sta) (k : Int) : Int := if k = 0 then s.h0 else if k = 1 then s.h1 else s.h2
theorem runs_end : ∀ (L : List En) (a b : Int), runs L a = some b → b = match L.getLast? with | some e => e.t | none => a
 | [], a, b, h => by cases h; rfl
 | x :: r, a, b, h => by
   unfold runs at h
   by_cases hx : x.f = a
   · rw [if_pos hx] at h
     have := runs_end r x.t b h
     cases r with
     | nil => exact this
     | cons y r => rw [this, List.getLast?_cons_cons]; cases hq : (y :: r).getLast? with
       | none => simp at hq
       | some z => rfl
   · rw [if_neg hx] at h; cases h
theorem runs_endE {L : List En} {k a b : Int} (h : runs (ofT L k) a = some b) : b = endE L a k := runs_end _ _ _ h
theorem allN_iff {n : Nat} {p : Nat → Bool} : allN n p = true ↔ ∀ i, i < n → p i = true := by
 unfold allN; rw [List.all_eq_true]; simp
theorem IndexTb_1 (L : List Tb) (hL : L.length ≤ 9223372036854775807) (F : Nat) (row : List AV) (p : Tb → Bool) (hp : ∀ e ∈ L, VFn Tryz.prog F [e.av, .eptr row 0] (.bool (p e))) :
 VFn Tryz.prog 204 [tbs L, .fn (.func F) [] [.eptr row 0]] (.int .i64 (fi p L)) := by
 refine VFn.introC Tryz.call204 Tryz.func204 rfl rfl ?_
 refine LoopC.mk (fun i : Nat => i ≤ L.length ∧ ∀ j, j < i → p (ix L j) = false) (fun i => [(0, tbs L), (1, .fn (.func F) [] [.eptr row 0]), (7, .int .i64 L.length), (8, .int .i64 i)]) (fun _ => []) 0 (fun i => L.length - i) 0
  ⟨⟨Nat.zero_le _, fun j hj => absurd hj (Nat.not_lt_zero j)⟩, [], rfl, rfl, ⟨AVle.refl _, AVle.refl _, AVle.refl _, AVle.refl _, trivial⟩, trivial⟩ ?_
 intro i hi
 refine Grd.intro (fun h2 => ?_) (fun h2 => ?_)
 · have hin : i < L.length := by have := of_decide_eq_true h2; omega
   refine And.intro (by omega) ?_
   conv => whnf
   refine CallC.sca _ (hp (ix L i) (getD_mem hin)) ?_ ?_
   · exact rfl
   refine Grd.intro (fun h3 => ?_) (fun h3 => ?_)
   · exact And.intro trivial (AVle.of_eq (congrArg (AV.int .i64) (fi_at hin hi.2 h3).symm))
   · refine And.intro (inI64 (by omega) (by omega)) ?_
     exact ⟨i + 1, ⟨hin, fun j hj => by
      rcases Nat.lt_or_ge j i with h' | h'
      · exact hi.2 j h'
      · rw [show j = i by omega]; exact h3⟩, by omega, [], rfl, rfl, ⟨AVle.refl _, AVle.refl _, AVle.refl _, AVle.of_eq (congrArg (AV.int .i64) (by simp)), trivial⟩, trivial⟩
 · have : i = L.length := by have := of_decide_eq_false h2; omega
   subst this
   exact And.intro trivial (AVle.of_eq (congrArg (AV.int .i64) (fi_none hi.2).symm))
def Sta.tombAt (s : Sta) (k : List UInt8) : Int := fi (fun t : Tb => decide (t.key = k)) s.ts
def Sta.has (s : Sta) (k : List UInt8) : Bool := s.es.any (fun e => decide (e.key = k)) || decide (0 ≤ s.tombAt k)
theorem tomb1_fn (t : Tb) (k : List UInt8) : VFn Tryz.prog 219 [t.av, .eptr [.str (B k)] 0] (.bool (decide (t.key = k))) := by
 refine VFn.introC Tryz.call219 Tryz.func219 rfl rfl ?_
 exact And.intro trivial (AVle.of_eq (congrArg AV.bool (show ((B t.key).toList == (B k).toList) = _ from B_eq)))
theorem tomb_fn (s : Sta) (hT : s.ts.length ≤ 1000000000) (k : List UInt8) : VFn Tryz.prog 202 [s.av, .str (B k)] (.int .i64 (s.tombAt k)) := by
 refine VFn.introC Tryz.call202 Tryz.func202 rfl rfl ?_
 conv => whnf
 refine CallC.sca _ (IndexTb_1 s.ts (by omega) 219 [.str (B k)] (fun t => decide (t.key = k)) (fun t _ => tomb1_fn t k)) ?_ ?_
 · exact rfl
 exact And.intro trivial (AVle.refl _)
theorem hasKey1_fn (e : En) (k : List UInt8) : VFn Tryz.prog 218 [e.av, .eptr [.str (B k)] 0] (.bool (decide (e.key = k))) := by
 refine VFn.introC Tryz.call218 Tryz.func218 rfl rfl ?_
 exact And.intro trivial (AVle.of_eq (congrArg AV.bool (show ((B e.key).toList == (B k).toList) = _ from B_eq)))
theorem hasKey_fn (s : Sta) (hL : s.es.length ≤ 1000000000) (hT : s.ts.length ≤ 1000000000) (k : List UInt8) : VFn Tryz.prog 201 [s.av, .str (B k)] (.bool (s.has k)) := by
 refine VFn.introC Tryz.call201 Tryz.func201 rfl rfl ?_
 conv => whnf
 refine CallC.sca _ (ContainsEn_1 s.es (by omega) 218 [.str (B k)] (fun e => decide (e.key = k)) (fun e _ => hasKey1_fn e k)) ?_ ?_
 · exact rfl
 refine Grd.intro (fun g => ?_) (fun g => ?_)
 · refine And.intro trivial (AVle.of_eq (congrArg AV.bool (show true = _ from ?_)))
   unfold Sta.has; rw [g]; rfl
 · conv => whnf
   refine CallC.sca _ (tomb_fn s hT k) ?_ ?_
   · exact rfl
   refine And.intro trivial (AVle.of_eq (congrArg AV.bool (show decide (0 ≤ s.tombAt k) = _ from ?_)))
   unfold Sta.has; rw [g]; rfl
end Go.Proofs.YtigbaclopbcjnaaGreatDoor
