/- Contracts of functions that the claim reaches, and the plain law of what they compute; each theorem bears its own conditions. -/
import Derived.Test.YtgiaaaejobhngaaGreatDoorQ4
import Derived.Test.YtgiaaaejobhngaaGreatDoorQ2
import Derived.Test.YtgiaaaejobhngaaGreatDoorQ3
import Derived.Test.YtgiaaaejobhngaaGreatDoorQ1
import Derived.WalkSmall
import Derived.Test.YtgiaaaejobhngaaGreatDoorV45
set_option linter.unusedVariables false
set_option linter.constructorNameAsVariable false
set_option linter.unusedSimpArgs false
set_option maxRecDepth 20000
namespace Go.Proofs.YtgiaaaejobhngaaGreatDoor
open Go Go.Vw

theorem l02Number_fn (t : List UInt8) (hl : t.length ≤ 1000000000) : VFn Tryz.prog 220 [.str (B t)] (.tup [.int .i64 (if numOk t = true then atoiV t else 0), .bool (numOk t)]) := by
  have c := l00Number_fn t hl
  by_cases h : numOk t = true
  · rw [h, if_pos rfl] at c ⊢
    obtain ⟨n, e1, e2, h0, h1⟩ := num_of h
    refine VFn.introC Tryz.call220 Tryz.func220 rfl rfl ?_
    conv => whnf
    refine CallC.sca _ (c) ?_ ?_
    · exact rfl
    conv => whnf
    refine CallC.sca _ (digits_fn (atoiV t) (by omega) (by omega)) ?_ ?_
    · exact rfl
    refine And.intro trivial (AVle.of_eq (show AV.tup [.int .i64 (atoiV t), .bool ((B (Lib.itoa (atoiV t))).toList == (B t).toList)] = _ from ?_))
    rw [B_eq, e2, ← e1, decide_eq_true rfl]
  · have h : numOk t = false := by simpa using h
    rw [h, if_neg (by simp)] at c ⊢
    refine VFn.introC Tryz.call220 Tryz.func220 rfl rfl ?_
    conv => whnf
    refine CallC.sca _ (c) ?_ ?_
    · exact rfl
    exact And.intro trivial (AVle.refl _)
theorem l02Numbers_gen (t : List UInt8) (c : UInt8) (m : Nat) (hl : t.length ≤ 1000000) (R : AV) (hy : ∀ N, numsK c m t = some N → R = .tup [ints N, .bool true]) (hn : numsK c m t = none → R = .tup [.any, .bool false]) :
    VFn Tryz.prog 162 [.str (B t), .int .u8 c.toNat, .int .i64 (m : Int)] R := by
  have hcl := cutP_len c t []
  have hpl : ∀ x ∈ cutP c [] t, x.length ≤ t.length := fun x hx => by have := cutP_piece c t [] x hx; simpa using this
  obtain ⟨P, hP⟩ : ∃ P, P = cutP c [] t := ⟨_, rfl⟩
  have hK : numsK c m t = if P.length = m ∧ P.all numOk = true then some (P.map atoiV) else none := by unfold numsK; rw [← hP]
  have cut := l00Cut_fn t c (by omega)
  rw [← hP] at hcl hpl cut
  refine VFn.introC Tryz.call162 Tryz.func162 rfl rfl ?_
  conv => whnf
  refine CallC.nl _ (cut) ?_ ?_
  · exact rfl
  refine LoopC.mk (fun i : Nat => i ≤ P.length ∧ ∀ j, j < i → numOk (ix P j) = true) (fun i => [(2, .int .i64 (m : Int)), (8, txts P), (9, .osl 0), (10, .int .i64 i)])
    (fun i => [(0, .arr 3 1 ((P.take i).map atoiV).length fun j => [.int .i64 (ix ((P.take i).map atoiV) j)])]) 1 (fun i => P.length - i) 0
    ⟨⟨Nat.zero_le _, fun j hj => absurd hj (Nat.not_lt_zero j)⟩, [(0, 0)], rfl, rfl, ⟨AVle.refl _, AVle.refl _, AVle.refl _, AVle.refl _, trivial⟩, ⟨MOle.arr rfl fun i hi => absurd hi (Nat.not_lt_zero i), trivial⟩⟩ ?_
  intro i hi
  obtain ⟨hi, hall⟩ := hi
  refine Grd.intro (fun h2 => ?_) (fun h2 => ?_)
  · have hin : i < P.length := by have := of_decide_eq_true h2; omega
    refine And.intro (by omega) ?_
    conv => whnf
    refine CallC.sca _ (l02Number_fn (ix P i) (by have := hpl _ (getD_mem hin); omega)) ?_ ?_
    · exact rfl
    refine Grd.intro (fun h3 => ?_) (fun h3 => ?_)
    · have h3 : numOk (ix P i) = false := by simpa using (show (!numOk (ix P i)) = true from h3)
      have : ¬ P.all numOk = true := fun h => by rw [List.all_eq_true.1 h _ (getD_mem hin)] at h3; cases h3
      rw [hn (by rw [hK, if_neg (fun h => this h.2)])]
      exact And.intro trivial (AVle.tup (AVsle.cons (AVle.any _) (AVsle.cons (AVle.refl _) AVsle.nil)))
    have h3 : numOk (ix P i) = true := by simpa using (show (!numOk (ix P i)) = false from h3)
    refine And.intro ⟨show (((P.take i).map atoiV).length + 1) * 8 ≤ 140737488355328 by simp; omega, all1 rfl⟩ ?_
    refine And.intro (inI64 (by omega) (by omega)) ?_
    refine ⟨i + 1, ⟨hin, fun j hj => ?_⟩, by omega, [(2, 0)], rfl, rfl, ⟨AVle.refl _, AVle.refl _, AVle.refl _, AVle.of_eq (congrArg (AV.int .i64) (by simp)), trivial⟩, ⟨arr_next (f := fun x => [.int .i64 x]) (map_take_snoc hin) (by rw [h3, if_pos rfl]; rfl), trivial⟩⟩
    rcases Nat.lt_or_ge j i with h' | h'
    · exact hall j h'
    · rw [show j = i by omega]; exact h3
  · have : i = P.length := by have := of_decide_eq_false h2; omega
    subst this
    have hall' : P.all numOk = true := List.all_eq_true.2 fun x hx => by
      obtain ⟨j, hj, q⟩ := List.getElem_of_mem hx
      have := hall j hj
      rw [ix_lt hj, q] at this; exact this
    have e : P.take P.length = P := List.take_of_length_le (Nat.le_refl _)
    have el : ((((P.take P.length).map atoiV).length : Nat) : Int) = P.length := by rw [e, List.length_map]
    by_cases hm : P.length = m
    · rw [hy _ (by rw [hK, if_pos ⟨hm, hall'⟩])]
      exact And.intro trivial (AVle.tup (AVsle.cons (AVle.of_eq (congrArg ints (congrArg (List.map atoiV) e))) (AVsle.cons (AVle.of_eq (congrArg AV.bool (decide_eq_true (el.trans (by omega))))) AVsle.nil)))
    · rw [hn (by rw [hK, if_neg (fun h => hm h.1)])]
      exact And.intro trivial (AVle.tup (AVsle.cons (AVle.any _) (AVsle.cons (AVle.of_eq (congrArg AV.bool (decide_eq_false (fun h => hm (by have h := el.symm.trans h; omega))))) AVsle.nil)))
theorem isId_fn (n : Int) : VFn Tryz.prog 65 [.int .i64 n] (.bool (within n 0 9)) := by
  refine VFn.introC Tryz.call65 Tryz.func65 rfl rfl ?_
  conv => whnf
  refine CallC.sca _ (within_fn _ _ _) ?_ ?_
  · exact rfl
  exact And.intro trivial (AVle.refl _)
theorem isUntil_fn (n : Int) : VFn Tryz.prog 80 [.int .i64 n] (.bool (within n 0 200000)) := by
  refine VFn.introC Tryz.call80 Tryz.func80 rfl rfl ?_
  conv => whnf
  refine CallC.sca _ (within_fn _ _ _) ?_ ?_
  · exact rfl
  exact And.intro trivial (AVle.refl _)
theorem LeaseOK_fn (l : Lea) : VFn Tryz.prog 24 [l.av] (.bool l.ok) := by
  refine VFn.introC Tryz.call24 Tryz.func24 rfl rfl ?_
  repeat' (conv => whnf
           first
      | refine Grd.intro (fun h => ?_) (fun h => ?_)
      | (refine CallC.sca _ (isToken_fn _) ?_ ?_; exact rfl)
      | (refine CallC.sca _ (isId_fn _) ?_ ?_; exact rfl)
      | (refine CallC.sca _ (isUntil_fn _) ?_ ?_; exact rfl)
      | refine And.intro trivial (AVle.of_eq (congrArg AV.bool ?_)))
  all_goals (simp_all [Lea.ok])
theorem specLeaseOK_fn (l : Lea) : VFn Tryz.prog 243 [l.av] (.bool l.ok) := by
  refine VFn.introC Tryz.call243 Tryz.func243 rfl rfl ?_
  repeat' (conv => whnf
           first
      | refine Grd.intro (fun h => ?_) (fun h => ?_)
      | (refine CallC.sca _ (l01In_fn _ _ _) ?_ ?_; exact rfl)
      | refine And.intro trivial (AVle.of_eq (congrArg AV.bool ?_)))
  all_goals (simp_all [Lea.ok])
theorem Lea.text_len (l : Lea) (h : ∀ x ∈ [l.tok, l.who, l.til], -9223372036854775807 ≤ x ∧ x ≤ 9223372036854775807) : l.text.length ≤ 65 := by
  have h1 := h l.tok (by simp)
  have h2 := h l.who (by simp)
  have h3 := h l.til (by simp)
  have l1 := itoa_len (n := l.tok) (by omega) h1.2
  have l2 := itoa_len (n := l.who) (by omega) h2.2
  have l3 := itoa_len (n := l.til) (by omega) h3.2
  show (Lib.join [Lib.itoa l.tok, Lib.itoa l.who, Lib.itoa l.til] [44]).length ≤ 65
  simp [Lib.join]
  omega
theorem leaText_fn (l : Lea) (h : ∀ x ∈ [l.tok, l.who, l.til], -9223372036854775807 ≤ x ∧ x ≤ 9223372036854775807) : VFn Tryz.prog 76 [l.av] (.str (B l.text)) := by
  refine VFn.introC Tryz.call76 Tryz.func76 rfl rfl ?_
  conv => whnf
  refine CallC.sca _ (joined_of ([l.tok, l.who, l.til].map It.n) (n := 3) ⟨rfl, rfl, rfl, trivial⟩ rfl [44] (show 3 ≤ 100000000 by decide) (fun x hx => by obtain ⟨y, hy, rfl⟩ := List.mem_map.1 hx; have := h y hy; exact ⟨by omega, by omega⟩) (show l.text.length ≤ _ by have := Lea.text_len l h; omega)) ?_ ?_
  · exact rfl
  exact And.intro trivial (AVle.refl _)
theorem l05Text_fn (l : Lea) (h : ∀ x ∈ [l.tok, l.who, l.til], -9223372036854775807 ≤ x ∧ x ≤ 9223372036854775807) : VFn Tryz.prog 146 [l.av] (.str (B l.text)) := by
  refine VFn.introC Tryz.call146 Tryz.func146 rfl rfl ?_
  conv => whnf
  refine CallC.sca _ ((l02Join_fn [l.tok, l.who, l.til] (show 3 ≤ 100000000 by decide) (fun x hx => by have := h x hx; omega)).weak (AVsle.cons (RowsAre.le (f := fun n : Int => [AV.int .i64 n]) rfl ⟨rfl, rfl, rfl, trivial⟩) AVsle.nil) (AVle.refl _)) ?_ ?_
  · exact rfl
  exact And.intro trivial (AVle.refl _)
theorem readLease_yes (t : List UInt8) (hl : t.length ≤ 1000000) {l : Lea} (h : readL t = some l) : VFn Tryz.prog 78 [.str (B t)] (.tup [l.av, .bool true]) := by
  unfold readL at h
  cases hn : numsK 44 3 t with
  | none => rw [hn] at h; cases h
  | some N =>
    rw [hn] at h
    obtain ⟨a, b, c, rfl⟩ := nums3 hn
    have h : (if Lea.ok ⟨a, b, c⟩ = true then some (⟨a, b, c⟩ : Lea) else none) = some l := h
    split at h
    · rename_i hok
      cases h
      have ct := LeaseOK_fn ⟨a, b, c⟩
      rw [hok] at ct
      refine VFn.introC Tryz.call78 Tryz.func78 rfl rfl ?_
      conv => whnf
      refine CallC.nl _ (numbers_yes t 44 3 (by omega) (by decide) hn) ?_ ?_
      · exact rfl
      refine DrawC.mkK 12 [(.inr 10, 11)] rfl (by kernel_rfl) ?_
      refine And.intro rfl ?_
      refine And.intro ⟨by decide, show (0 : Int) < 3 by decide⟩ ?_
      refine And.intro ⟨by decide, show (1 : Int) < 3 by decide⟩ ?_
      refine And.intro ⟨by decide, show (2 : Int) < 3 by decide⟩ ?_
      refine DrawC.mkK 5 [(.inl 0, 3)] rfl (by kernel_rfl) ?_
      refine And.intro rfl ?_
      conv => whnf
      refine PCallK.sca _ (ct) rfl ?_
      exact And.intro trivial (AVle.refl _)
    · cases h
theorem readLease_no (t : List UInt8) (hl : t.length ≤ 1000000) (h : readL t = none) : ∃ l : Lea, VFn Tryz.prog 78 [.str (B t)] (.tup [l.av, .bool false]) := by
  unfold readL at h
  cases hn : numsK 44 3 t with
  | none =>
    refine ⟨default, ?_⟩
    refine VFn.introC Tryz.call78 Tryz.func78 rfl rfl ?_
    conv => whnf
    refine CallC.nl _ (numbers_no t 44 3 (by omega) (by decide) hn) ?_ ?_
    · exact rfl
    exact And.intro trivial (AVle.refl _)
  | some N =>
    rw [hn] at h
    obtain ⟨a, b, c, rfl⟩ := nums3 hn
    have h : (if Lea.ok ⟨a, b, c⟩ = true then some (⟨a, b, c⟩ : Lea) else none) = none := h
    split at h
    · cases h
    · rename_i hok
      have ct := LeaseOK_fn ⟨a, b, c⟩
      rw [show Lea.ok ⟨a, b, c⟩ = false by simpa using hok] at ct
      refine ⟨⟨a, b, c⟩, ?_⟩
      refine VFn.introC Tryz.call78 Tryz.func78 rfl rfl ?_
      conv => whnf
      refine CallC.nl _ (numbers_yes t 44 3 (by omega) (by decide) hn) ?_ ?_
      · exact rfl
      refine DrawC.mkK 12 [(.inr 10, 11)] rfl (by kernel_rfl) ?_
      refine And.intro rfl ?_
      refine And.intro ⟨by decide, show (0 : Int) < 3 by decide⟩ ?_
      refine And.intro ⟨by decide, show (1 : Int) < 3 by decide⟩ ?_
      refine And.intro ⟨by decide, show (2 : Int) < 3 by decide⟩ ?_
      refine DrawC.mkK 5 [(.inl 0, 3)] rfl (by kernel_rfl) ?_
      refine And.intro rfl ?_
      conv => whnf
      refine PCallK.sca _ (ct) rfl ?_
      exact And.intro trivial (AVle.refl _)
theorem l05Read_yes (t : List UInt8) (hl : t.length ≤ 1000000) {l : Lea} (h : readL t = some l) : VFn Tryz.prog 210 [.str (B t)] (.tup [l.av, .bool true]) := by
  unfold readL at h
  cases hn : numsK 44 3 t with
  | none => rw [hn] at h; cases h
  | some N =>
    rw [hn] at h
    obtain ⟨a, b, c, rfl⟩ := nums3 hn
    have h : (if Lea.ok ⟨a, b, c⟩ = true then some (⟨a, b, c⟩ : Lea) else none) = some l := h
    split at h
    · rename_i hok
      cases h
      have ct := specLeaseOK_fn ⟨a, b, c⟩
      rw [hok] at ct
      refine VFn.introC Tryz.call210 Tryz.func210 rfl rfl ?_
      conv => whnf
      refine CallC.nl _ (l02Numbers_gen t 44 3 hl _ (fun N h => by rw [hn] at h; cases h; rfl) (fun h => by rw [hn] at h; cases h)) ?_ ?_
      · exact rfl
      refine DrawC.mkK 12 [(.inr 10, 11)] rfl (by kernel_rfl) ?_
      refine And.intro rfl ?_
      refine And.intro ⟨by decide, show (0 : Int) < 3 by decide⟩ ?_
      refine And.intro ⟨by decide, show (1 : Int) < 3 by decide⟩ ?_
      refine And.intro ⟨by decide, show (2 : Int) < 3 by decide⟩ ?_
      conv => whnf
      refine CallC.sca _ (ct) ?_ ?_
      · exact rfl
      exact And.intro trivial (AVle.refl _)
    · cases h
theorem l05Read_no (t : List UInt8) (hl : t.length ≤ 1000000) (h : readL t = none) : VFn Tryz.prog 210 [.str (B t)] (.tup [(default : Lea).av, .bool false]) := by
  unfold readL at h
  cases hn : numsK 44 3 t with
  | none =>
    refine VFn.introC Tryz.call210 Tryz.func210 rfl rfl ?_
    conv => whnf
    refine CallC.nl _ (l02Numbers_gen t 44 3 hl _ (fun N h => by rw [hn] at h; cases h) (fun h => rfl)) ?_ ?_
    · exact rfl
    exact And.intro trivial (AVle.refl _)
  | some N =>
    rw [hn] at h
    obtain ⟨a, b, c, rfl⟩ := nums3 hn
    have h : (if Lea.ok ⟨a, b, c⟩ = true then some (⟨a, b, c⟩ : Lea) else none) = none := h
    split at h
    · cases h
    · rename_i hok
      have ct := specLeaseOK_fn ⟨a, b, c⟩
      rw [show Lea.ok ⟨a, b, c⟩ = false by simpa using hok] at ct
      refine VFn.introC Tryz.call210 Tryz.func210 rfl rfl ?_
      conv => whnf
      refine CallC.nl _ (l02Numbers_gen t 44 3 hl _ (fun N h => by rw [hn] at h; cases h; rfl) (fun h => by rw [hn] at h; cases h)) ?_ ?_
      · exact rfl
      refine DrawC.mkK 12 [(.inr 10, 11)] rfl (by kernel_rfl) ?_
      refine And.intro rfl ?_
      refine And.intro ⟨by decide, show (0 : Int) < 3 by decide⟩ ?_
      refine And.intro ⟨by decide, show (1 : Int) < 3 by decide⟩ ?_
      refine And.intro ⟨by decide, show (2 : Int) < 3 by decide⟩ ?_
      conv => whnf
      refine CallC.sca _ (ct) ?_ ?_
      · exact rfl
      exact And.intro trivial (AVle.refl _)
theorem get_ok (s : Sto) (hs : s.ok = true) (k : List UInt8) (h : s.has k = true) : (s.get k).data.length ≤ 600 ∧ 1 ≤ (s.get k).ver ∧ (s.get k).ver ≤ 1000000000 := by
  have h1 : s.eOK (s.pos k) = true := (Sto.ok_at hs).2.2 _ (hasK_at h).1
  have h2 := (Sto.ok_at hs).1
  simp [within] at h2
  simp [Sto.eOK, within] at h1
  unfold Sto.get
  omega
theorem lease_fn (s : Sto) (hs : s.ok = true) : VFn Tryz.prog 63 [s.av] (.tup [s.lea.1.av, .int .i64 s.lea.2]) := by
  have c := get_fn s hs leaK
  rcases s.lea_cases with ⟨e, h⟩ | ⟨e, h, hr⟩ | ⟨l, e, h, hr, hl⟩
  · rw [e]
    rw [if_neg (by rw [h]; simp)] at c
    refine VFn.introC Tryz.call63 Tryz.func63 rfl rfl ?_
    conv => whnf
    refine CallC.sca _ (c) ?_ ?_
    · exact rfl
    exact And.intro trivial (AVle.refl _)
  · have hd := get_ok s hs leaK h
    rw [e]
    rw [if_pos h] at c
    refine VFn.introC Tryz.call63 Tryz.func63 rfl rfl ?_
    conv => whnf
    refine CallC.sca _ (c) ?_ ?_
    · exact rfl
    obtain ⟨l, cr⟩ := readLease_no _ (by omega) hr
    conv => whnf
    refine CallC.sca _ (cr) ?_ ?_
    · exact rfl
    exact And.intro trivial (AVle.refl _)
  · have hd := get_ok s hs leaK h
    rw [e]
    rw [if_pos h] at c
    refine VFn.introC Tryz.call63 Tryz.func63 rfl rfl ?_
    conv => whnf
    refine CallC.sca _ (c) ?_ ?_
    · exact rfl
    conv => whnf
    refine CallC.sca _ (readLease_yes _ (by omega) hr) ?_ ?_
    · exact rfl
    exact And.intro trivial (AVle.refl _)
theorem l05Of_fn (s : Sto) (hs : s.ok = true) : VFn Tryz.prog 150 [s.av] (.tup [s.lea.1.av, .int .i64 s.leaV, .int .i64 (if s.lea.2 = 17 then 17 else 0)]) := by
  have c := l01Get_fn s hs leaK
  unfold Sto.leaV
  rcases s.lea_cases with ⟨e, h⟩ | ⟨e, h, hr⟩ | ⟨l, e, h, hr, hl⟩
  · rw [e, if_neg (by decide), if_neg (by decide)]
    rw [if_neg (by rw [h]; simp)] at c
    refine VFn.introC Tryz.call150 Tryz.func150 rfl rfl ?_
    conv => whnf
    refine CallC.sca _ (c) ?_ ?_
    · exact rfl
    exact And.intro trivial (AVle.refl _)
  · have hd := get_ok s hs leaK h
    rw [e, if_neg (by decide), if_pos rfl]
    rw [if_pos h] at c
    refine VFn.introC Tryz.call150 Tryz.func150 rfl rfl ?_
    conv => whnf
    refine CallC.sca _ (c) ?_ ?_
    · exact rfl
    refine Grd.intro (fun g => absurd (of_decide_eq_true (p := (s.get leaK).ver = 0) g) (by omega)) (fun g => ?_)
    conv => whnf
    refine CallC.sca _ (l05Read_no _ (by omega) hr) ?_ ?_
    · exact rfl
    exact And.intro trivial (AVle.refl _)
  · have hd := get_ok s hs leaK h
    rw [e, if_pos rfl, if_neg (show ¬ (0 : Int) = 17 by decide)]
    rw [if_pos h] at c
    refine VFn.introC Tryz.call150 Tryz.func150 rfl rfl ?_
    conv => whnf
    refine CallC.sca _ (c) ?_ ?_
    · exact rfl
    refine Grd.intro (fun g => absurd (of_decide_eq_true (p := (s.get leaK).ver = 0) g) (by omega)) (fun g => ?_)
    conv => whnf
    refine CallC.sca _ (l05Read_yes _ (by omega) hr) ?_ ?_
    · exact rfl
    exact And.intro trivial (AVle.refl _)
end Go.Proofs.YtgiaaaejobhngaaGreatDoor
set_option linter.unusedVariables false
set_option linter.constructorNameAsVariable false
set_option linter.unusedSimpArgs false
set_option maxRecDepth 20000
namespace Go.Proofs.YtgiaaaejobhngaaGreatDoor
open Go Go.Vw

end Go.Proofs.YtgiaaaejobhngaaGreatDoor
set_option linter.unusedVariables false
set_option linter.constructorNameAsVariable false
set_option linter.unusedSimpArgs false
set_option maxRecDepth 20000
namespace Go.Proofs.YtgiaaaejobhngaaGreatDoor
open Go Go.Vw

def Sta.orow (s : Sta) (a b : Nat) : List AV := [.int .i64 s.seq, .int .i64 s.fence, .osl a, .osl b, .int .i64 s.l0, .int .i64 s.l1, .int .i64 s.l2, .int .i64 s.h0, .int .i64 s.h1, .int .i64 s.h2]
end Go.Proofs.YtgiaaaejobhngaaGreatDoor
set_option linter.unusedVariables false
set_option linter.constructorNameAsVariable false
set_option linter.unusedSimpArgs false
set_option maxRecDepth 20000
namespace Go.Proofs.YtgiaaaejobhngaaGreatDoor
open Go Go.Vw

def rlC (x : Sto) : Int := if x.ok = true then 0 else 1
def rlS (x : Sto) : Sta := if x.ok = true then logS x else sta0
end Go.Proofs.YtgiaaaejobhngaaGreatDoor
set_option linter.unusedVariables false
set_option linter.constructorNameAsVariable false
set_option linter.unusedSimpArgs false
set_option maxRecDepth 20000
namespace Go.Proofs.YtgiaaaejobhngaaGreatDoor
open Go Go.Vw

theorem l05Now_fn (n : Int) : VFn Tryz.prog 133 [.int .i64 n] (.bool (within n 0 101000)) := by
  refine VFn.introC Tryz.call133 Tryz.func133 rfl rfl ?_
  conv => whnf
  refine CallC.sca _ (l01In_fn _ _ _) ?_ ?_
  · exact rfl
  exact And.intro trivial (AVle.refl _)
def ask (s : Sto) (who now : Int) : Int := if s.ok = true then (if within who 0 9 = true ∧ within now 0 101000 = true then 0 else 4) else 1
theorem l05Ask_fn (s : Sto) (hr : StoRd s) (who now : Int) : VFn Tryz.prog 69 [s.av, .int .i64 who, .int .i64 now] (.int .i64 (ask s who now)) := by
  have c := specStoreOK_ok s (by have := hr.len; omega) hr.key hr.nxt
  unfold ask
  refine VFn.introC Tryz.call69 Tryz.func69 rfl rfl ?_
  conv => whnf
  refine CallC.sca _ (c) ?_ ?_
  · exact rfl
  refine Grd.intro (fun h1 => ?_) (fun h1 => ?_)
  · rw [if_neg (by have := wnot h1; simp [this])]
    exact And.intro trivial (AVle.refl _)
  rw [if_pos (wyes h1)]
  conv => whnf
  refine CallC.sca _ (l01In_fn _ _ _) ?_ ?_
  · exact rfl
  refine Grd.intro (fun h2 => ?_) (fun h2 => ?_)
  · rw [if_neg (fun h => by have := wnot h2; rw [h.1] at this; cases this)]
    exact And.intro trivial (AVle.refl _)
  conv => whnf
  refine CallC.sca _ (l05Now_fn _) ?_ ?_
  · exact rfl
  refine Grd.intro (fun h3 => ?_) (fun h3 => ?_)
  · rw [if_neg (fun h => by have := wnot h3; rw [h.2] at this; cases this)]
    exact And.intro trivial (AVle.refl _)
  rw [if_pos ⟨wyes h2, wyes h3⟩]
  exact And.intro trivial (AVle.refl _)
theorem l01Over_fn (s : Sto) (hs : s.ok = true) (k d : List UInt8) (hk : s.has k = true) : VFn Tryz.prog 153 [s.av, .str (B k), .int .i64 (s.get k).ver, .str (B d)] (.tup [(s.put k d).av, .int .i64 (s.room k d)]) := by
  have hL := (Sto.ok_at hs).2.1
  have hn : 1 ≤ s.next ∧ s.next ≤ 1000000000 := by simpa [within] using (Sto.ok_at hs).1
  have hv := get_ok s hs k hk
  have c := l01Get_fn s hs k
  rw [if_pos hk] at c
  refine VFn.introC Tryz.call153 Tryz.func153 rfl rfl ?_
  conv => whnf
  refine CallC.sca _ (c) ?_ ?_
  · exact rfl
  refine Grd.intro (fun h => absurd (of_decide_eq_true (p := (s.get k).ver = 0) h) (by omega)) (fun _ => ?_)
  refine Grd.intro (fun h => (wyes' h (decide_eq_true rfl)).elim) (fun _ => ?_)
  conv => whnf
  refine CallC.sca _ (l01Room_fn s hs k d) ?_ ?_
  · exact rfl
  refine Grd.intro (fun h => ?_) (fun h => ?_)
  · have h : s.room k d ≠ 0 := by simpa using h
    unfold Sto.put
    rw [if_neg h]
    exact And.intro trivial (AVle.refl _)
  · have h : s.room k d = 0 := by simpa using h
    unfold Sto.put
    rw [if_pos h, h]
    conv => whnf
    refine CallC.nl _ (l01Set_fn s (by omega) ⟨by omega, by omega⟩ k d) ?_ ?_
    · exact rfl
    exact And.intro trivial (AVle.refl _)
theorem chgC_cases (s : Sto) (who tok : Int) {l : Lea} (h : s.lea = (l, 0)) : s.chgC who tok = if l.who ≠ who ∨ l.tok ≠ tok ∨ l.til = 0 then 13 else 0 := by
  unfold Sto.chgC
  rw [h]
  simp
theorem l05Change_fn (s : Sto) (hs : s.ok = true) (who tok til : Int) (ht : -9223372036854775807 ≤ til ∧ til ≤ 9223372036854775807) : VFn Tryz.prog 75 [s.av, .int .i64 who, .int .i64 tok, .int .i64 til] (.tup [(s.chg who tok til).1.av, .int .i64 (s.chg who tok til).2]) := by
  have c := l05Of_fn s hs
  unfold Sto.chg
  rcases s.lea_cases with ⟨e, h⟩ | ⟨e, h, hr⟩ | ⟨l, e, h, hr, hl⟩
  · have e1 : s.chgC who tok = 13 := by unfold Sto.chgC; rw [e]; simp
    rw [e1, if_neg (by decide)]
    unfold Sto.leaV at c
    rw [e] at c
    refine VFn.introC Tryz.call75 Tryz.func75 rfl rfl ?_
    conv => whnf
    refine CallC.sca _ (c) ?_ ?_
    · exact rfl
    exact And.intro trivial (AVle.refl _)
  · have e1 : s.chgC who tok = 17 := by unfold Sto.chgC; rw [e]; simp
    rw [e1, if_neg (by decide)]
    unfold Sto.leaV at c
    rw [e] at c
    refine VFn.introC Tryz.call75 Tryz.func75 rfl rfl ?_
    conv => whnf
    refine CallC.sca _ (c) ?_ ?_
    · exact rfl
    exact And.intro trivial (AVle.refl _)
  · have e1 := chgC_cases s who tok e
    have e2 : s.chgL til = ⟨l.tok, l.who, til⟩ := by unfold Sto.chgL; rw [e]
    have hv := get_ok s hs leaK h
    unfold Sto.leaV at c
    rw [e] at c
    have c : VFn Tryz.prog 150 [s.av] (.tup [l.av, .int .i64 (s.get leaK).ver, .int .i64 0]) := c
    have hb : ∀ x ∈ [l.tok, l.who, til], -9223372036854775807 ≤ x ∧ x ≤ 9223372036854775807 := by
      simp [Lea.ok, within] at hl
      intro x hx
      simp at hx
      omega
    have ct := l05Text_fn ⟨l.tok, l.who, til⟩ hb
    have co := l01Over_fn s hs leaK (Lea.text ⟨l.tok, l.who, til⟩) h
    refine VFn.introC Tryz.call75 Tryz.func75 rfl rfl ?_
    conv => whnf
    refine CallC.sca _ (c) ?_ ?_
    · exact rfl
    refine Grd.intro (fun h => absurd (of_decide_eq_true (p := (s.get leaK).ver = 0) h) (by omega)) (fun _ => ?_)
    refine Grd.intro (fun h1 => ?_) (fun h1 => ?_)
    · have h1 : l.tok ≠ tok := by simpa using h1
      have e3 : s.chgC who tok = 13 := by rw [e1, if_pos (.inr (.inl h1))]
      rw [e3, if_neg (by decide)]
      exact And.intro trivial (AVle.refl _)
    have h1 : l.tok = tok := by simpa using h1
    refine Grd.intro (fun h2 => ?_) (fun h2 => ?_)
    · have h2 : l.who ≠ who := by simpa using h2
      have e3 : s.chgC who tok = 13 := by rw [e1, if_pos (.inl h2)]
      rw [e3, if_neg (by decide)]
      exact And.intro trivial (AVle.refl _)
    have h2 : l.who = who := by simpa using h2
    refine Grd.intro (fun h3 => ?_) (fun h3 => ?_)
    · have h3 : l.til = 0 := by simpa using h3
      have e3 : s.chgC who tok = 13 := by rw [e1, if_pos (.inr (.inr h3))]
      rw [e3, if_neg (by decide)]
      exact And.intro trivial (AVle.refl _)
    have h3 : ¬ l.til = 0 := by simpa using h3
    have e3 : s.chgC who tok = 0 := by rw [e1, if_neg (fun q => by rcases q with q | q | q; exact q h2; exact q h1; exact h3 q)]
    rw [e3, if_pos rfl, e2]
    refine DrawC.mkK 9 [(.inl 1, 7)] rfl (by kernel_rfl) ?_
    refine And.intro rfl ?_
    conv => whnf
    refine PCallK.sca _ (ct) rfl ?_
    conv => whnf
    refine PCallK.nl _ (co) rfl ?_
    exact And.intro trivial (AVle.refl _)
theorem till_fn (s : Sto) (hs : s.ok = true) (who tok til : Int) (ht : -9223372036854775807 ≤ til ∧ til ≤ 9223372036854775807) : VFn Tryz.prog 72 [s.av, .int .i64 who, .int .i64 tok, .int .i64 til] (.tup [(s.chg who tok til).1.av, .int .i64 (s.chg who tok til).2]) := by
  have c := lease_fn s hs
  unfold Sto.chg
  rcases s.lea_cases with ⟨e, h⟩ | ⟨e, h, hr⟩ | ⟨l, e, h, hr, hl⟩
  · have e1 : s.chgC who tok = 13 := by unfold Sto.chgC; rw [e]; simp
    rw [e1, if_neg (by decide)]
    rw [e] at c
    refine VFn.introC Tryz.call72 Tryz.func72 rfl rfl ?_
    conv => whnf
    refine CallC.sca _ (c) ?_ ?_
    · exact rfl
    conv => whnf
    refine CallC.sca _ (first2_of _ _ _ _ ⟨rfl, rfl, rfl, rfl, trivial⟩ rfl (show (if decide ((5 : Int) = 17) = true then (5 : Int) else if true = true then 13 else 0) = 13 by decide)) ?_ ?_
    · exact rfl
    exact And.intro trivial (AVle.refl _)
  · have e1 : s.chgC who tok = 17 := by unfold Sto.chgC; rw [e]; simp
    rw [e1, if_neg (by decide)]
    rw [e] at c
    refine VFn.introC Tryz.call72 Tryz.func72 rfl rfl ?_
    conv => whnf
    refine CallC.sca _ (c) ?_ ?_
    · exact rfl
    conv => whnf
    refine CallC.sca _ (first2_of _ _ _ _ ⟨rfl, rfl, rfl, rfl, trivial⟩ rfl (show (if decide ((17 : Int) = 17) = true then (17 : Int) else if true = true then 13 else 0) = 17 by decide)) ?_ ?_
    · exact rfl
    exact And.intro trivial (AVle.refl _)
  · have e1 := chgC_cases s who tok e
    have e2 : s.chgL til = ⟨l.tok, l.who, til⟩ := by unfold Sto.chgL; rw [e]
    rw [e] at c
    have hb : ∀ x ∈ [l.tok, l.who, til], -9223372036854775807 ≤ x ∧ x ≤ 9223372036854775807 := by
      simp [Lea.ok, within] at hl
      intro x hx
      simp at hx
      omega
    have ct := leaText_fn ⟨l.tok, l.who, til⟩ hb
    have hlen := Lea.text_len ⟨l.tok, l.who, til⟩ hb
    have co := put_fn s hs leaK (Lea.text ⟨l.tok, l.who, til⟩) (by omega)
    have f0 : ∀ b : Bool, (if decide ((0 : Int) = 17) = true then (0 : Int) else if b = true then 13 else 0) = if b = true then 13 else 0 := fun b => by rw [if_neg (by decide)]
    refine VFn.introC Tryz.call72 Tryz.func72 rfl rfl ?_
    conv => whnf
    refine CallC.sca _ (c) ?_ ?_
    · exact rfl
    refine Grd.intro (fun h1 => ?_) (fun h1 => ?_)
    · have h1 : l.who ≠ who := by simpa using h1
      have e3 : s.chgC who tok = 13 := by rw [e1, if_pos (.inl h1)]
      rw [e3, if_neg (by decide)]
      conv => whnf
      refine CallC.sca _ (first2_of _ true _ _ ⟨rfl, rfl, rfl, rfl, trivial⟩ rfl (f0 true)) ?_ ?_
      · exact rfl
      exact And.intro trivial (AVle.refl _)
    have h1 : l.who = who := by simpa using h1
    refine Grd.intro (fun h2 => ?_) (fun h2 => ?_)
    · have h2 : l.tok ≠ tok := by simpa using h2
      have e3 : s.chgC who tok = 13 := by rw [e1, if_pos (.inr (.inl h2))]
      rw [e3, if_neg (by decide)]
      conv => whnf
      refine CallC.sca _ (first2_of _ true _ _ ⟨rfl, rfl, rfl, rfl, trivial⟩ rfl (f0 true)) ?_ ?_
      · exact rfl
      exact And.intro trivial (AVle.refl _)
    have h2 : l.tok = tok := by simpa using h2
    by_cases h3 : l.til = 0
    · have e3 : s.chgC who tok = 13 := by rw [e1, if_pos (.inr (.inr h3))]
      rw [e3, if_neg (by decide)]
      conv => whnf
      refine CallC.sca _ (first2_of _ (decide (l.til = 0)) _ _ ⟨rfl, rfl, rfl, rfl, trivial⟩ rfl ((f0 _).trans (show _ = (13 : Int) by rw [if_pos (decide_eq_true h3)]))) ?_ ?_
      · exact rfl
      exact And.intro trivial (AVle.refl _)
    have e3 : s.chgC who tok = 0 := by rw [e1, if_neg (fun q => by rcases q with q | q | q; exact q h1; exact q h2; exact h3 q)]
    rw [e3, if_pos rfl, e2]
    conv => whnf
    refine CallC.sca _ (first2_of _ (decide (l.til = 0)) _ _ ⟨rfl, rfl, rfl, rfl, trivial⟩ rfl ((f0 _).trans (show _ = (0 : Int) by rw [if_neg (by simpa using h3)]))) ?_ ?_
    · exact rfl
    refine DrawC.mkK 12 [(.inr 8, 9)] rfl (by kernel_rfl) ?_
    refine And.intro rfl ?_
    conv => whnf
    refine PCallK.sca _ (ct) rfl ?_
    conv => whnf
    by_cases hroom : s.room leaK (Lea.text ⟨l.tok, l.who, til⟩) = 0
    · rw [if_pos hroom] at co
      unfold Sto.put
      rw [if_pos hroom, hroom]
      refine PCallK.nl _ (co) rfl ?_
      exact And.intro trivial (AVle.refl _)
    · rw [if_neg hroom] at co
      unfold Sto.put
      rw [if_neg hroom]
      refine PCallK.nl _ (co) rfl ?_
      exact And.intro trivial (AVle.refl _)
end Go.Proofs.YtgiaaaejobhngaaGreatDoor
set_option linter.unusedVariables false
set_option linter.constructorNameAsVariable false
set_option linter.unusedSimpArgs false
set_option maxRecDepth 20000
namespace Go.Proofs.YtgiaaaejobhngaaGreatDoor
open Go Go.Vw

theorem chg_len (s : Sto) (hs : s.ok = true) (who tok til : Int) : (s.chg who tok til).1.os.length ≤ 301 := by
  have hL := (Sto.ok_at hs).2.1
  unfold Sto.chg
  split
  · show (s.put _ _).os.length ≤ 301
    unfold Sto.put
    split
    · have := set_len_le s leaK (s.chgL til).text; omega
    · omega
  · show s.os.length ≤ 301; omega
theorem ask_ok {s : Sto} {who now : Int} (h : ask s who now = 0) : s.ok = true ∧ within who 0 9 = true ∧ within now 0 101000 = true := by
  unfold ask at h
  split at h
  · rename_i h1
    split at h
    · rename_i h2; exact ⟨h1, h2.1, h2.2⟩
    · cases h
  · cases h
end Go.Proofs.YtgiaaaejobhngaaGreatDoor
set_option linter.unusedVariables false
set_option linter.constructorNameAsVariable false
set_option linter.unusedSimpArgs false
set_option maxRecDepth 20000
namespace Go.Proofs.YtgiaaaejobhngaaGreatDoor
open Go Go.Vw

theorem isNow_fn (n : Int) : VFn Tryz.prog 66 [.int .i64 n] (.bool (within n 0 101000)) := by
  refine VFn.introC Tryz.call66 Tryz.func66 rfl rfl ?_
  conv => whnf
  refine CallC.sca _ (within_fn _ _ _) ?_ ?_
  · exact rfl
  exact And.intro trivial (AVle.refl _)
theorem now_b {now : Int} (h : within now 0 101000 = true) : 0 ≤ now ∧ now ≤ 101000 := by simpa [within] using h
theorem specRenew_yes (s : Sto) (hr : StoRd s) (who tok now : Int) (ha : ask s who now = 0) : VFn Tryz.prog 21 [s.av, .int .i64 who, .int .i64 tok, .int .i64 now] (.tup [(s.chg who tok (now + 20)).1.av, .int .i64 (s.chg who tok (now + 20)).2]) := by
  have hs := (ask_ok ha).1
  have hn := now_b (ask_ok ha).2.2
  have c := l05Ask_fn s hr who now
  rw [ha] at c
  have hl := chg_len s hs who tok (now + 20)
  refine VFn.introC Tryz.call21 Tryz.func21 rfl rfl ?_
  conv => whnf
  refine CallC.sca _ (c) ?_ ?_
  · exact rfl
  refine And.intro (inI64 (by omega) (by omega)) ?_
  conv => whnf
  refine CallC.nl _ (l05Change_fn s hs who tok (now + 20) (by omega)) ?_ ?_
  · exact rfl
  conv => whnf
  refine CallC.nl _ (l01Own_fn (s.chg who tok (now + 20)).1 (by omega)) ?_ ?_
  · exact rfl
  exact And.intro trivial (AVle.refl _)
theorem renewC (s : Sto) (who now : Int) {b : Bool} (h : (!within who 0 9 || !within now 0 101000) = b) : (if (!s.ok) = true then (1 : Int) else if b = true then 4 else 0) = ask s who now := by
  subst h
  unfold ask
  cases s.ok <;> cases within who 0 9 <;> cases within now 0 101000 <;> rfl
theorem Renew_own (s : Sto) (hr : StoRd s) (who tok now : Int) (ha : ask s who now = 0) : FnM Tryz.prog 17 0 [s.av, .int .i64 who, .int .i64 tok, .int .i64 now] [] (.tup [(s.chg who tok (now + 20)).1.own, .int .i64 (s.chg who tok (now + 20)).2]) [(0, .arr 98 3 (s.chg who tok (now + 20)).1.os.length fun i => (ix (s.chg who tok (now + 20)).1.os i).row)] 1 := by
  have hs := (ask_ok ha).1
  have hw := (ask_ok ha).2.1
  have hn' := (ask_ok ha).2.2
  have hn := now_b hn'
  have hl := chg_len s hs who tok (now + 20)
  have cs := StoreOK_fn s (by have := hr.len; omega) hr.key
  have ci := isId_fn who
  have cn := isNow_fn now
  rw [hw] at ci
  rw [hn'] at cn
  refine FnM.introC Tryz.call17 Tryz.func17 rfl rfl ?_
  conv => whnf
  refine CallC.sca _ (cs) ?_ ?_
  · exact rfl
  conv => whnf
  refine CallC.sca _ (ci) ?_ ?_
  · exact rfl
  conv => whnf
  refine CallC.sca _ (cn) ?_ ?_
  · exact rfl
  conv => whnf
  refine CallC.sca _ (first2_of _ _ _ _ ⟨rfl, rfl, rfl, rfl, trivial⟩ rfl ((renewC s who now (by rw [hw, hn']; rfl)).trans ha)) ?_ ?_
  · exact rfl
  refine And.intro (inI64 (by omega) (by omega)) ?_
  conv => whnf
  refine CallC.nl _ (till_fn s hs who tok (now + 20) (by omega)) ?_ ?_
  · exact rfl
  conv => whnf
  refine CallC.k [] (copied_own (s.chg who tok (now + 20)).1 (by omega)) rfl rfl (AVsle.refl _) trivial rfl ?_
  exact And.intro trivial ⟨[(4, 0)], rfl, AVle.refl _, ⟨MOle.refl _, trivial⟩⟩
end Go.Proofs.YtgiaaaejobhngaaGreatDoor
set_option linter.unusedVariables false
set_option linter.constructorNameAsVariable false
set_option linter.unusedSimpArgs false
set_option maxRecDepth 20000
namespace Go.Proofs.YtgiaaaejobhngaaGreatDoor
open Go Go.Vw

def acqC (s : Sto) (now : Int) : Int := if s.lea.2 = 17 then 17 else if s.lea.2 = 0 ∧ s.lea.1.til ≠ 0 ∧ now ≤ s.lea.1.til + 6 then 12 else if s.lea.1.tok = 999999 then 7 else 0
def acqL (s : Sto) (who now : Int) : Lea := ⟨s.lea.1.tok + 1, who, now + 20⟩
def acqS (s : Sto) (who now : Int) : Sto := if acqC s now = 0 then s.put leaK (acqL s who now).text else s
def acqT (s : Sto) (who now : Int) : Int := if acqC s now = 0 ∧ s.room leaK (acqL s who now).text = 0 then s.lea.1.tok + 1 else 0
def acqR (s : Sto) (who now : Int) : Int := if acqC s now = 0 then s.room leaK (acqL s who now).text else acqC s now
theorem acq_len (s : Sto) (hs : s.ok = true) (who now : Int) : (acqS s who now).os.length ≤ 301 := by
  have hL := (Sto.ok_at hs).2.1
  unfold acqS
  split
  · unfold Sto.put
    split
    · have := set_len_le s leaK (acqL s who now).text; omega
    · omega
  · omega
theorem acqL_b {s : Sto} {who now : Int} (hw : within who 0 9 = true) (hn : 0 ≤ now ∧ now ≤ 101000) (hl : 0 ≤ s.lea.1.tok ∧ s.lea.1.tok ≤ 999999) : ∀ x ∈ [(acqL s who now).tok, (acqL s who now).who, (acqL s who now).til], -9223372036854775807 ≤ x ∧ x ≤ 9223372036854775807 := by
  have hw : 0 ≤ who ∧ who ≤ 9 := by simpa [within] using hw
  intro x hx
  simp [acqL] at hx
  omega
theorem lea_b {l : Lea} (h : l.ok = true) : (1 ≤ l.tok ∧ l.tok ≤ 999999) ∧ (0 ≤ l.til ∧ l.til ≤ 200000) := by
  simp [Lea.ok, within] at h
  omega
theorem first3_of (a b c : Bool) (x y z : Int) {n : Nat} {rows : Nat → List AV} (hr : FirstRows 4 3 rows 0 [(a, x), (b, y), (c, z)]) (hn : n = 6) {r : Int} (h : (if a = true then x else if b = true then y else if c = true then z else 0) = r) : VFn Tryz.prog 64 [.sl 1 n rows] (.int .i64 r) := by
  have e : firstC [(a, x), (b, y), (c, z)] = r := by
    rw [← h]
    unfold firstC firstC firstC firstC
    cases a <;> cases b <;> cases c <;> rfl
  rw [← e]
  exact first_of _ hr hn (show 3 ≤ 1000 by decide)
theorem first3_gen {s : Sto} {now : Int} {l : Lea} (e : s.lea = (l, 0)) (b : Bool) (hb : b = true ↔ (l.til ≠ 0 ∧ now ≤ l.til + 6)) : (if decide ((0 : Int) = 17) = true then (0 : Int) else if b = true then 12 else if decide (l.tok = 999999) = true then 7 else 0) = acqC s now := by
  unfold acqC
  rw [e]
  by_cases h : l.til ≠ 0 ∧ now ≤ l.til + 6 <;> by_cases h2 : l.tok = 999999 <;> simp [h, h2, hb]
set_option maxHeartbeats 1000000 in
theorem acquire_fn (s : Sto) (hs : s.ok = true) (who now : Int) (hw : within who 0 9 = true) (hn : 0 ≤ now ∧ now ≤ 101000) : VFn Tryz.prog 67 [s.av, .int .i64 who, .int .i64 now] (.tup [(acqS s who now).av, .int .i64 (acqT s who now), .int .i64 (acqR s who now)]) := by
  have c := lease_fn s hs
  rcases s.lea_cases with ⟨e, h⟩ | ⟨e, h, hr⟩ | ⟨l, e, h, hr, hl⟩
  · have e1 : acqC s now = 0 := by unfold acqC; rw [e]; simp; decide
    have ez : ((default : Lea), (5 : Int)).fst.tok = 0 := rfl
    have hb := acqL_b (s := s) hw hn (by rw [e]; decide)
    have ct := leaText_fn _ hb
    have hlen := Lea.text_len _ hb
    have co := put_fn s hs leaK (acqL s who now).text (by omega)
    have eL : acqL s who now = ⟨0 + 1, who, now + 20⟩ := by unfold acqL; rw [e]; rfl
    rw [e] at c
    unfold acqS acqT acqR Sto.put
    rw [e1, if_pos rfl, if_pos rfl]
    have f1 : (if decide ((5 : Int) = 17) = true then (5 : Int) else if false = true then 12 else if decide ((0 : Int) = 999999) = true then 7 else 0) = 0 := by decide
    by_cases hroom : s.room leaK (acqL s who now).text = 0
    · rw [if_pos hroom] at co
      rw [if_pos hroom, hroom, if_pos ⟨rfl, rfl⟩, e]
      rw [eL] at ct co ⊢
      refine VFn.introC Tryz.call67 Tryz.func67 rfl rfl ?_
      conv => whnf
      refine CallC.sca _ (c) ?_ ?_
      · exact rfl
      conv => whnf
      refine CallC.sca _ (first3_of _ _ _ _ _ _ ⟨rfl, rfl, rfl, rfl, rfl, rfl, trivial⟩ rfl f1) ?_ ?_
      · exact rfl
      refine And.intro (inI64 (by omega) (by omega)) ?_
      refine And.intro (inI64 (by omega) (by omega)) ?_
      refine DrawC.mkK 12 [(.inr 8, 9)] rfl (by kernel_rfl) ?_
      refine And.intro rfl ?_
      conv => whnf
      refine PCallK.sca _ (ct) rfl ?_
      conv => whnf
      refine PCallK.nl _ (co) rfl ?_
      refine DrawC.mkK 6 [(.inl 1, 3)] rfl (by kernel_rfl) ?_
      refine And.intro rfl ?_
      exact And.intro trivial (AVle.refl _)
    · rw [if_neg hroom] at co
      rw [if_neg hroom, if_neg (fun h => hroom h.2)]
      rw [eL] at ct co hroom ⊢
      refine VFn.introC Tryz.call67 Tryz.func67 rfl rfl ?_
      conv => whnf
      refine CallC.sca _ (c) ?_ ?_
      · exact rfl
      conv => whnf
      refine CallC.sca _ (first3_of _ _ _ _ _ _ ⟨rfl, rfl, rfl, rfl, rfl, rfl, trivial⟩ rfl f1) ?_ ?_
      · exact rfl
      refine And.intro (inI64 (by omega) (by omega)) ?_
      refine And.intro (inI64 (by omega) (by omega)) ?_
      refine DrawC.mkK 12 [(.inr 8, 9)] rfl (by kernel_rfl) ?_
      refine And.intro rfl ?_
      conv => whnf
      refine PCallK.sca _ (ct) rfl ?_
      conv => whnf
      refine PCallK.nl _ (co) rfl ?_
      refine Grd.intro (fun _ => ?_) (fun g => absurd (by simpa using g) hroom)
      exact And.intro trivial (AVle.refl _)
  · have e1 : acqC s now = 17 := by unfold acqC; rw [e]; simp
    rw [e] at c
    unfold acqS acqT acqR
    rw [e1, if_neg (by decide), if_neg (fun h => absurd h.1 (by decide)), if_neg (by decide)]
    refine VFn.introC Tryz.call67 Tryz.func67 rfl rfl ?_
    conv => whnf
    refine CallC.sca _ (c) ?_ ?_
    · exact rfl
    conv => whnf
    refine CallC.sca _ (first3_of _ _ _ _ _ _ ⟨rfl, rfl, rfl, rfl, rfl, rfl, trivial⟩ rfl (show (if decide ((17 : Int) = 17) = true then (17 : Int) else if false = true then 12 else if decide ((0 : Int) = 999999) = true then 7 else 0) = 17 by decide)) ?_ ?_
    · exact rfl
    exact And.intro trivial (AVle.refl _)
  · have lb := lea_b hl
    have hb := acqL_b (s := s) hw hn (by rw [e]; exact ⟨by have := lb.1; simp only; omega, lb.1.2⟩)
    have ct := leaText_fn _ hb
    have hlen := Lea.text_len _ hb
    have co := put_fn s hs leaK (acqL s who now).text (by omega)
    have eL : acqL s who now = ⟨l.tok + 1, who, now + 20⟩ := by unfold acqL; rw [e]
    rw [e] at c
    have c : VFn Tryz.prog 63 [s.av] (.tup [l.av, .int .i64 0]) := c
    by_cases e1 : acqC s now = 0
    · unfold acqS acqT acqR Sto.put
      rw [if_pos e1, if_pos e1]
      by_cases hroom : s.room leaK (acqL s who now).text = 0
      · rw [if_pos hroom] at co
        rw [if_pos hroom, hroom, if_pos ⟨e1, rfl⟩, e]
        rw [eL] at ct co ⊢
        refine VFn.introC Tryz.call67 Tryz.func67 rfl rfl ?_
        conv => whnf
        refine CallC.sca _ (c) ?_ ?_
        · exact rfl
        refine Grd.intro (fun g => ?_) (fun g => ?_)
        · have g : l.til ≠ 0 := by simpa using g
          refine And.intro (inI64 (by omega) (by omega)) ?_
          conv => whnf
          refine CallC.sca _ (first3_of _ (decide (now ≤ l.til + 6)) _ _ _ _ ⟨rfl, rfl, rfl, rfl, rfl, rfl, trivial⟩ rfl ((first3_gen e (now := now) (decide (now ≤ l.til + 6)) (by simp [g])).trans e1)) ?_ ?_
          · exact rfl
          refine And.intro (inI64 (by omega) (by omega)) ?_
          refine And.intro (inI64 (by omega) (by omega)) ?_
          refine DrawC.mkK 12 [(.inr 8, 9)] rfl (by kernel_rfl) ?_
          refine And.intro rfl ?_
          conv => whnf
          refine PCallK.sca _ (ct) rfl ?_
          conv => whnf
          refine PCallK.nl _ (co) rfl ?_
          refine DrawC.mkK 6 [(.inl 1, 3)] rfl (by kernel_rfl) ?_
          refine And.intro rfl ?_
          exact And.intro trivial (AVle.refl _)
        · have g : l.til = 0 := by simpa using g
          conv => whnf
          refine CallC.sca _ (first3_of _ false _ _ _ _ ⟨rfl, rfl, rfl, rfl, rfl, rfl, trivial⟩ rfl ((first3_gen e (now := now) false (by simp [g])).trans e1)) ?_ ?_
          · exact rfl
          refine And.intro (inI64 (by omega) (by omega)) ?_
          refine And.intro (inI64 (by omega) (by omega)) ?_
          refine DrawC.mkK 12 [(.inr 8, 9)] rfl (by kernel_rfl) ?_
          refine And.intro rfl ?_
          conv => whnf
          refine PCallK.sca _ (ct) rfl ?_
          conv => whnf
          refine PCallK.nl _ (co) rfl ?_
          refine DrawC.mkK 6 [(.inl 1, 3)] rfl (by kernel_rfl) ?_
          refine And.intro rfl ?_
          exact And.intro trivial (AVle.refl _)
      · rw [if_neg hroom] at co
        rw [if_neg hroom, if_neg (fun h => hroom h.2)]
        rw [eL] at ct co hroom ⊢
        refine VFn.introC Tryz.call67 Tryz.func67 rfl rfl ?_
        conv => whnf
        refine CallC.sca _ (c) ?_ ?_
        · exact rfl
        refine Grd.intro (fun g => ?_) (fun g => ?_)
        · have g : l.til ≠ 0 := by simpa using g
          refine And.intro (inI64 (by omega) (by omega)) ?_
          conv => whnf
          refine CallC.sca _ (first3_of _ (decide (now ≤ l.til + 6)) _ _ _ _ ⟨rfl, rfl, rfl, rfl, rfl, rfl, trivial⟩ rfl ((first3_gen e (now := now) (decide (now ≤ l.til + 6)) (by simp [g])).trans e1)) ?_ ?_
          · exact rfl
          refine And.intro (inI64 (by omega) (by omega)) ?_
          refine And.intro (inI64 (by omega) (by omega)) ?_
          refine DrawC.mkK 12 [(.inr 8, 9)] rfl (by kernel_rfl) ?_
          refine And.intro rfl ?_
          conv => whnf
          refine PCallK.sca _ (ct) rfl ?_
          conv => whnf
          refine PCallK.nl _ (co) rfl ?_
          refine Grd.intro (fun _ => ?_) (fun g => absurd (by simpa using g) hroom)
          exact And.intro trivial (AVle.refl _)
        · have g : l.til = 0 := by simpa using g
          conv => whnf
          refine CallC.sca _ (first3_of _ false _ _ _ _ ⟨rfl, rfl, rfl, rfl, rfl, rfl, trivial⟩ rfl ((first3_gen e (now := now) false (by simp [g])).trans e1)) ?_ ?_
          · exact rfl
          refine And.intro (inI64 (by omega) (by omega)) ?_
          refine And.intro (inI64 (by omega) (by omega)) ?_
          refine DrawC.mkK 12 [(.inr 8, 9)] rfl (by kernel_rfl) ?_
          refine And.intro rfl ?_
          conv => whnf
          refine PCallK.sca _ (ct) rfl ?_
          conv => whnf
          refine PCallK.nl _ (co) rfl ?_
          refine Grd.intro (fun _ => ?_) (fun g => absurd (by simpa using g) hroom)
          exact And.intro trivial (AVle.refl _)
    · unfold acqS acqT acqR
      rw [if_neg e1, if_neg (fun h => e1 h.1), if_neg e1]
      refine VFn.introC Tryz.call67 Tryz.func67 rfl rfl ?_
      conv => whnf
      refine CallC.sca _ (c) ?_ ?_
      · exact rfl
      refine Grd.intro (fun g => ?_) (fun g => ?_)
      · have g : l.til ≠ 0 := by simpa using g
        refine And.intro (inI64 (by omega) (by omega)) ?_
        conv => whnf
        refine CallC.sca _ (first3_of _ (decide (now ≤ l.til + 6)) _ _ _ _ ⟨rfl, rfl, rfl, rfl, rfl, rfl, trivial⟩ rfl (first3_gen e (now := now) (decide (now ≤ l.til + 6)) (by simp [g]))) ?_ ?_
        · exact rfl
        refine Grd.intro (fun _ => ?_) (fun g => absurd (by simpa using g) e1)
        exact And.intro trivial (AVle.refl _)
      · have g : l.til = 0 := by simpa using g
        conv => whnf
        refine CallC.sca _ (first3_of _ false _ _ _ _ ⟨rfl, rfl, rfl, rfl, rfl, rfl, trivial⟩ rfl (first3_gen e (now := now) false (by simp [g]))) ?_ ?_
        · exact rfl
        refine Grd.intro (fun _ => ?_) (fun g => absurd (by simpa using g) e1)
        exact And.intro trivial (AVle.refl _)
theorem now_b2 {s : Sto} {who now : Int} (ha : ask s who now = 0) : s.ok = true ∧ within who 0 9 = true ∧ (0 ≤ now ∧ now ≤ 101000) := ⟨(ask_ok ha).1, (ask_ok ha).2.1, now_b (ask_ok ha).2.2⟩
theorem Acquire_own (s : Sto) (hr : StoRd s) (who now : Int) (ha : ask s who now = 0) : FnM Tryz.prog 15 0 [s.av, .int .i64 who, .int .i64 now] [] (.tup [(acqS s who now).own, .int .i64 (acqT s who now), .int .i64 (acqR s who now)]) [(0, .arr 98 3 (acqS s who now).os.length fun i => (ix (acqS s who now).os i).row)] 1 := by
  obtain ⟨hs, hw, hn⟩ := now_b2 ha
  have hn' := (ask_ok ha).2.2
  have hl := acq_len s hs who now
  have cs := StoreOK_fn s (by have := hr.len; omega) hr.key
  have ci := isId_fn who
  have cn := isNow_fn now
  rw [hw] at ci
  rw [hn'] at cn
  refine FnM.introC Tryz.call15 Tryz.func15 rfl rfl ?_
  conv => whnf
  refine CallC.sca _ (cs) ?_ ?_
  · exact rfl
  conv => whnf
  refine CallC.sca _ (ci) ?_ ?_
  · exact rfl
  conv => whnf
  refine CallC.sca _ (cn) ?_ ?_
  · exact rfl
  conv => whnf
  refine CallC.sca _ (first2_of _ _ _ _ ⟨rfl, rfl, rfl, rfl, trivial⟩ rfl ((renewC s who now (by rw [hw, hn']; rfl)).trans ha)) ?_ ?_
  · exact rfl
  conv => whnf
  refine CallC.nl _ (acquire_fn s hs who now hw hn) ?_ ?_
  · exact rfl
  conv => whnf
  refine CallC.k [] (copied_own (acqS s who now) (by omega)) rfl rfl (AVsle.refl _) trivial rfl ?_
  exact And.intro trivial ⟨[(4, 0)], rfl, AVle.refl _, ⟨MOle.refl _, trivial⟩⟩
end Go.Proofs.YtgiaaaejobhngaaGreatDoor
set_option linter.unusedVariables false
set_option linter.constructorNameAsVariable false
set_option linter.unusedSimpArgs false
set_option maxRecDepth 20000
namespace Go.Proofs.YtgiaaaejobhngaaGreatDoor
open Go Go.Vw

theorem leaK_ok : keyOK leaK = true := by decide
theorem put_lea {s : Sto} {l : Lea} (hs : s.ok = true) (hl : l.ok = true) (h1 : s.os.length < 300) (h2 : s.next < 1000000000) :
    s.room leaK l.text = 0 ∧ (s.put leaK l.text).ok = true ∧ (s.put leaK l.text).lea = (l, 0) ∧ (s.put leaK l.text).next = s.next + 1 ∧ (s.put leaK l.text).os.length ≤ s.os.length + 1 := by
  have hb : ∀ x ∈ [l.tok, l.who, l.til], -9223372036854775807 ≤ x ∧ x ≤ 9223372036854775807 := by
    simp [Lea.ok, within] at hl
    intro x hx
    simp at hx
    omega
  have hlen := Lea.text_len l hb
  have hr := room_yes (s := s) (k := leaK) (d := l.text) (by omega) h1 h2
  have e : s.put leaK l.text = s.set leaK l.text := by unfold Sto.put; rw [if_pos hr]
  rw [e]
  refine ⟨hr, set_ok hs leaK_ok hr, ?_, rfl, set_len_le _ _ _⟩
  obtain ⟨a1, a2⟩ := set_at s leaK l.text
  unfold Sto.lea
  rw [if_pos a1, a2]
  show (match readL l.text with | some l => (l, (0 : Int)) | none => (default, 17)) = _
  rw [leaText_back hl]
/-- a store with a lease of long ago, or without one -/
structure Old (s : Sto) (t : Int) : Prop where
  ok : s.ok = true
  len : s.os.length ≤ 100
  nx : s.next ≤ 1000
  tk : 0 ≤ t ∧ t ≤ 1000
  lea : (s.lea.2 = 5 ∧ s.lea.1 = default ∧ t = 0) ∨ (s.lea.2 = 0 ∧ s.lea.1.tok = t ∧ s.lea.1.ok = true ∧ s.lea.1.til ≤ 60)
/-- a store whose lease is held -/
structure Held (s : Sto) (l : Lea) : Prop where
  ok : s.ok = true
  len : s.os.length ≤ 150
  nx : s.next ≤ 2000
  lea : s.lea = (l, 0)
  lok : l.ok = true
theorem acq_free {s : Sto} {who now : Int} (hs : s.ok = true) (h1 : s.os.length < 150) (h2 : s.next < 2000) (hw : 0 ≤ who ∧ who ≤ 9) (hn : 0 ≤ now ∧ now ≤ 101000) (ht : 0 ≤ s.lea.1.tok ∧ s.lea.1.tok ≤ 2000) (hc : acqC s now = 0) :
    Held (acqS s who now) ⟨s.lea.1.tok + 1, who, now + 20⟩ ∧ acqT s who now = s.lea.1.tok + 1 ∧ acqR s who now = 0 ∧ (acqS s who now).next = s.next + 1 ∧ (acqS s who now).os.length ≤ s.os.length + 1 := by
  have hl : Lea.ok (acqL s who now) = true := by
    show Lea.ok ⟨s.lea.1.tok + 1, who, now + 20⟩ = true
    simp only [Lea.ok, within, Bool.and_eq_true, decide_eq_true_eq]
    exact ⟨⟨by omega, by omega⟩, ⟨by omega, by omega⟩, by omega, by omega⟩
  obtain ⟨p1, p2, p3, p4, p5⟩ := put_lea hs hl (by omega) (by omega)
  have e : acqS s who now = s.put leaK (acqL s who now).text := by unfold acqS; rw [if_pos hc]
  rw [e]
  refine ⟨⟨p2, by omega, by omega, p3, hl⟩, ?_, ?_, p4, p5⟩
  · unfold acqT; rw [if_pos ⟨hc, p1⟩]
  · unfold acqR; rw [if_pos hc, p1]
theorem old_free {s : Sto} {t now : Int} (h : Old s t) (hn : 100 ≤ now) : acqC s now = 0 ∧ s.lea.1.tok = t := by
  have ht := h.tk
  unfold acqC
  rcases h.lea with ⟨a, b, c⟩ | ⟨a, b, c, d⟩
  · rw [a, b, c]
    exact ⟨rfl, rfl⟩
  · refine ⟨?_, b⟩
    rw [if_neg (by omega), if_neg (by omega), if_neg (by omega)]
theorem held_held {s : Sto} {l : Lea} {now : Int} (h : Held s l) (h0 : l.til ≠ 0) (hn : now ≤ l.til + 6) : acqC s now = 12 := by
  unfold acqC
  rw [h.lea]
  rw [if_neg (show ¬ (0 : Int) = 17 by decide), if_pos ⟨rfl, h0, hn⟩]
theorem held_stale {s : Sto} {l : Lea} {who tok : Int} (h : Held s l) (h0 : l.who ≠ who ∨ l.tok ≠ tok) (til : Int) : s.chg who tok til = (s, 13) := by
  have hc : s.chgC who tok = 13 := by
    rw [chgC_cases s who tok h.lea, if_pos (by rcases h0 with h0 | h0; exact .inl h0; exact .inr (.inl h0))]
  unfold Sto.chg
  rw [hc, if_neg (by decide)]
theorem held_chg {s : Sto} {l : Lea} {til : Int} (h : Held s l) (h0 : l.til ≠ 0) (ht : 0 ≤ til ∧ til ≤ 200000) (h1 : s.os.length < 150) (h2 : s.next < 2000) :
    Held (s.chg l.who l.tok til).1 ⟨l.tok, l.who, til⟩ ∧ (s.chg l.who l.tok til).2 = 0 ∧ (s.chg l.who l.tok til).1.next = s.next + 1 ∧ (s.chg l.who l.tok til).1.os.length ≤ s.os.length + 1 := by
  have hc : s.chgC l.who l.tok = 0 := by
    rw [chgC_cases s l.who l.tok h.lea, if_neg (by simp [h0])]
  have hL : s.chgL til = ⟨l.tok, l.who, til⟩ := by unfold Sto.chgL; rw [h.lea]
  have hl : Lea.ok ⟨l.tok, l.who, til⟩ = true := by
    have := h.lok
    simp only [Lea.ok, within, Bool.and_eq_true, decide_eq_true_eq] at this ⊢; omega
  obtain ⟨p1, p2, p3, p4, p5⟩ := put_lea h.ok hl (by omega) (by omega)
  unfold Sto.chg
  rw [hc, if_pos rfl, hL]
  exact ⟨⟨p2, Nat.le_trans p5 (by omega), by show (s.put leaK _).next ≤ 2000; rw [p4]; omega, p3, hl⟩, p1, p4, p5⟩
end Go.Proofs.YtgiaaaejobhngaaGreatDoor
