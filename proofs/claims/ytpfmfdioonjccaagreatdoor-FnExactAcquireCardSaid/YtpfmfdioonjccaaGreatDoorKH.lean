/- Leases: contracts; the conditions are the theorems' own. -/
import Derived.Test.YtpfmfdioonjccaaGreatDoorKG
import Derived.Test.YtpfmfdioonjccaaGreatDoorKB
set_option linter.unusedVariables false
set_option linter.constructorNameAsVariable false
set_option linter.unusedSimpArgs false
set_option maxRecDepth 20000
namespace Go.Proofs.YtpfmfdioonjccaaGreatDoor
open Go Go.Vw

theorem l02Number_fn (t : List UInt8) (hl : t.length ≤ 1000000000) : VFn Tryz.prog 259 [.str (B t)] (.tup [.int .i64 (if numOk t = true then atoiV t else 0), .bool (numOk t)]) := by
  have c := l00Number_fn t hl
  by_cases h : numOk t = true
  · rw [h, if_pos rfl] at c ⊢
    obtain ⟨n, e1, e2, h0, h1⟩ := num_of h
    refine VFn.introC Tryz.call259 Tryz.func259 rfl rfl ?_
    conv => whnf
    refine CallC.sca _ (c) ?_ ?_
    · exact rfl
    conv => whnf
    refine CallC.sca _ (digits_fn (atoiV t) (by omega) (by omega)) ?_ ?_
    · exact rfl
    refine And.intro trivial (AVle.of_eq (show AV.tup [.int .i64 (atoiV t), .bool ((B (Lib.itoa (atoiV t))).toList == (B t).toList)] = _ from ?_))
    rw [B_eq, e2, ← e1, decide_eq_true rfl]
  · have h : numOk t = false := by simpa using h
    rw [h, if_neg (by simp)] at c ⊢
    refine VFn.introC Tryz.call259 Tryz.func259 rfl rfl ?_
    conv => whnf
    refine CallC.sca _ (c) ?_ ?_
    · exact rfl
    exact And.intro trivial (AVle.refl _)
theorem l02Numbers_gen (t : List UInt8) (c : UInt8) (m : Nat) (hl : t.length ≤ 1000000) (R : AV) (hy : ∀ N, numsK c m t = some N → R = .tup [ints N, .bool true]) (hn : numsK c m t = none → R = .tup [.any, .bool false]) :
    VFn Tryz.prog 257 [.str (B t), .int .u8 c.toNat, .int .i64 (m : Int)] R := by
  have hcl := cutP_len c t []
  have hpl : ∀ x ∈ cutP c [] t, x.length ≤ t.length := fun x hx => by have := cutP_piece c t [] x hx; simpa using this
  obtain ⟨P, hP⟩ : ∃ P, P = cutP c [] t := ⟨_, rfl⟩
  have hK : numsK c m t = if P.length = m ∧ P.all numOk = true then some (P.map atoiV) else none := by unfold numsK; rw [← hP]
  have cut := l00Cut_fn t c (by omega)
  rw [← hP] at hcl hpl cut
  refine VFn.introC Tryz.call257 Tryz.func257 rfl rfl ?_
  conv => whnf
  refine CallC.nl _ (cut) ?_ ?_
  · exact rfl
  refine LoopC.mk (fun i : Nat => i ≤ P.length ∧ ∀ j, j < i → numOk (ix P j) = true) (fun i => [(2, .int .i64 (m : Int)), (8, txts P), (9, .osl 0), (10, .int .i64 i)])
    (fun i => [(0, .arr 3 1 ((P.take i).map atoiV).length fun j => [.int .i64 (ix ((P.take i).map atoiV) j)])]) 1 (fun i => P.length - i) 0
    ⟨⟨Nat.zero_le _, fun j hj => absurd hj (Nat.not_lt_zero j)⟩, [(0, 0)], rfl, rfl, ⟨AVle.refl _, AVle.refl _, AVle.refl _, AVle.refl _, trivial⟩, ⟨MOle.arr rfl fun i hi => absurd hi (Nat.not_lt_zero i), trivial⟩⟩ ?_
  intro i hi
  obtain ⟨hi, hall⟩ := hi
  refine Grd.intro (fun h2 => ?_) (fun h2 => ?_)
  · have hin : i < P.length := by have := of_decide_eq_true h2; omega
    refine And.intro (by omega) ?_
    conv => whnf
    refine CallC.sca _ (l02Number_fn (ix P i) (by have := hpl _ (getD_mem hin); omega)) ?_ ?_
    · exact rfl
    refine Grd.intro (fun h3 => ?_) (fun h3 => ?_)
    · have h3 : numOk (ix P i) = false := by simpa using (show (!numOk (ix P i)) = true from h3)
      have : ¬ P.all numOk = true := fun h => by rw [List.all_eq_true.1 h _ (getD_mem hin)] at h3; cases h3
      rw [hn (by rw [hK, if_neg (fun h => this h.2)])]
      exact And.intro trivial (AVle.tup (AVsle.cons (AVle.any _) (AVsle.cons (AVle.refl _) AVsle.nil)))
    have h3 : numOk (ix P i) = true := by simpa using (show (!numOk (ix P i)) = false from h3)
    refine And.intro ⟨show (((P.take i).map atoiV).length + 1) * 8 ≤ 140737488355328 by simp; omega, all1 rfl⟩ ?_
    refine And.intro (inI64 (by omega) (by omega)) ?_
    refine ⟨i + 1, ⟨hin, fun j hj => ?_⟩, by omega, [(2, 0)], rfl, rfl, ⟨AVle.refl _, AVle.refl _, AVle.refl _, AVle.of_eq (congrArg (AV.int .i64) (by simp)), trivial⟩, ⟨arr_next (f := fun x => [.int .i64 x]) (map_take_snoc hin) (by rw [h3, if_pos rfl]; rfl), trivial⟩⟩
    rcases Nat.lt_or_ge j i with h' | h'
    · exact hall j h'
    · rw [show j = i by omega]; exact h3
  · have : i = P.length := by have := of_decide_eq_false h2; omega
    subst this
    have hall' : P.all numOk = true := List.all_eq_true.2 fun x hx => by
      obtain ⟨j, hj, q⟩ := List.getElem_of_mem hx
      have := hall j hj
      rw [ix_lt hj, q] at this; exact this
    have e : P.take P.length = P := List.take_of_length_le (Nat.le_refl _)
    have el : ((((P.take P.length).map atoiV).length : Nat) : Int) = P.length := by rw [e, List.length_map]
    by_cases hm : P.length = m
    · rw [hy _ (by rw [hK, if_pos ⟨hm, hall'⟩])]
      exact And.intro trivial (AVle.tup (AVsle.cons (AVle.of_eq (congrArg ints (congrArg (List.map atoiV) e))) (AVsle.cons (AVle.of_eq (congrArg AV.bool (decide_eq_true (el.trans (by omega))))) AVsle.nil)))
    · rw [hn (by rw [hK, if_neg (fun h => hm h.1)])]
      exact And.intro trivial (AVle.tup (AVsle.cons (AVle.any _) (AVsle.cons (AVle.of_eq (congrArg AV.bool (decide_eq_false (fun h => hm (by have h := el.symm.trans h; omega))))) AVsle.nil)))
theorem isId_fn (n : Int) : VFn Tryz.prog 66 [.int .i64 n] (.bool (within n 0 9)) := by
  refine VFn.introC Tryz.call66 Tryz.func66 rfl rfl ?_
  conv => whnf
  refine CallC.sca _ (within_fn _ _ _) ?_ ?_
  · exact rfl
  exact And.intro trivial (AVle.refl _)
theorem isUntil_fn (n : Int) : VFn Tryz.prog 206 [.int .i64 n] (.bool (within n 0 200000)) := by
  refine VFn.introC Tryz.call206 Tryz.func206 rfl rfl ?_
  conv => whnf
  refine CallC.sca _ (within_fn _ _ _) ?_ ?_
  · exact rfl
  exact And.intro trivial (AVle.refl _)
theorem LeaseOK_fn (l : Lea) : VFn Tryz.prog 315 [l.av] (.bool l.ok) := by
  refine VFn.introC Tryz.call315 Tryz.func315 rfl rfl ?_
  repeat' (conv => whnf
           first
      | refine Grd.intro (fun h => ?_) (fun h => ?_)
      | (refine CallC.sca _ (isToken_fn _) ?_ ?_; exact rfl)
      | (refine CallC.sca _ (isId_fn _) ?_ ?_; exact rfl)
      | (refine CallC.sca _ (isUntil_fn _) ?_ ?_; exact rfl)
      | refine And.intro trivial (AVle.of_eq (congrArg AV.bool ?_)))
  all_goals (simp_all [Lea.ok])
theorem specLeaseOK_fn (l : Lea) : VFn Tryz.prog 314 [l.av] (.bool l.ok) := by
  refine VFn.introC Tryz.call314 Tryz.func314 rfl rfl ?_
  repeat' (conv => whnf
           first
      | refine Grd.intro (fun h => ?_) (fun h => ?_)
      | (refine CallC.sca _ (l01In_fn _ _ _) ?_ ?_; exact rfl)
      | refine And.intro trivial (AVle.of_eq (congrArg AV.bool ?_)))
  all_goals (simp_all [Lea.ok])
theorem Lea.text_len (l : Lea) (h : ∀ x ∈ [l.tok, l.who, l.til], -9223372036854775807 ≤ x ∧ x ≤ 9223372036854775807) : l.text.length ≤ 65 := by
  have h1 := h l.tok (by simp)
  have h2 := h l.who (by simp)
  have h3 := h l.til (by simp)
  have l1 := itoa_len (n := l.tok) (by omega) h1.2
  have l2 := itoa_len (n := l.who) (by omega) h2.2
  have l3 := itoa_len (n := l.til) (by omega) h3.2
  show (Lib.join [Lib.itoa l.tok, Lib.itoa l.who, Lib.itoa l.til] [44]).length ≤ 65
  simp [Lib.join]
  omega
theorem leaText_fn (l : Lea) (h : ∀ x ∈ [l.tok, l.who, l.til], -9223372036854775807 ≤ x ∧ x ≤ 9223372036854775807) : VFn Tryz.prog 168 [l.av] (.str (B l.text)) := by
  refine VFn.introC Tryz.call168 Tryz.func168 rfl rfl ?_
  conv => whnf
  refine CallC.sca _ (joined_of ([l.tok, l.who, l.til].map It.n) (n := 3) ⟨rfl, rfl, rfl, trivial⟩ rfl [44] (show 3 ≤ 100000000 by decide) (fun x hx => by obtain ⟨y, hy, rfl⟩ := List.mem_map.1 hx; have := h y hy; exact ⟨by omega, by omega⟩) (show l.text.length ≤ _ by have := Lea.text_len l h; omega)) ?_ ?_
  · exact rfl
  exact And.intro trivial (AVle.refl _)
theorem l05Text_fn (l : Lea) (h : ∀ x ∈ [l.tok, l.who, l.til], -9223372036854775807 ≤ x ∧ x ≤ 9223372036854775807) : VFn Tryz.prog 161 [l.av] (.str (B l.text)) := by
  refine VFn.introC Tryz.call161 Tryz.func161 rfl rfl ?_
  conv => whnf
  refine CallC.sca _ ((l02Join_fn [l.tok, l.who, l.til] (show 3 ≤ 100000000 by decide) (fun x hx => by have := h x hx; omega)).weak (AVsle.cons (RowsAre.le (f := fun n : Int => [AV.int .i64 n]) rfl ⟨rfl, rfl, rfl, trivial⟩) AVsle.nil) (AVle.refl _)) ?_ ?_
  · exact rfl
  exact And.intro trivial (AVle.refl _)
theorem readLease_yes (t : List UInt8) (hl : t.length ≤ 1000000) {l : Lea} (h : readL t = some l) : VFn Tryz.prog 249 [.str (B t)] (.tup [l.av, .bool true]) := by
  unfold readL at h
  cases hn : numsK 44 3 t with
  | none => rw [hn] at h; cases h
  | some N =>
    rw [hn] at h
    obtain ⟨a, b, c, rfl⟩ := nums3 hn
    have h : (if Lea.ok ⟨a, b, c⟩ = true then some (⟨a, b, c⟩ : Lea) else none) = some l := h
    split at h
    · rename_i hok
      cases h
      have ct := LeaseOK_fn ⟨a, b, c⟩
      rw [hok] at ct
      refine VFn.introC Tryz.call249 Tryz.func249 rfl rfl ?_
      conv => whnf
      refine CallC.nl _ (numbers_yes t 44 3 (by omega) (by decide) hn) ?_ ?_
      · exact rfl
      refine DrawC.mkK 12 [(.inr 10, 11)] rfl (by kernel_rfl) ?_
      refine And.intro rfl ?_
      refine And.intro ⟨by decide, show (0 : Int) < 3 by decide⟩ ?_
      refine And.intro ⟨by decide, show (1 : Int) < 3 by decide⟩ ?_
      refine And.intro ⟨by decide, show (2 : Int) < 3 by decide⟩ ?_
      refine DrawC.mkK 5 [(.inl 0, 3)] rfl (by kernel_rfl) ?_
      refine And.intro rfl ?_
      conv => whnf
      refine PCallK.sca _ (ct) rfl ?_
      exact And.intro trivial (AVle.refl _)
    · cases h
theorem readLease_no (t : List UInt8) (hl : t.length ≤ 1000000) (h : readL t = none) : ∃ l : Lea, VFn Tryz.prog 249 [.str (B t)] (.tup [l.av, .bool false]) := by
  unfold readL at h
  cases hn : numsK 44 3 t with
  | none =>
    refine ⟨default, ?_⟩
    refine VFn.introC Tryz.call249 Tryz.func249 rfl rfl ?_
    conv => whnf
    refine CallC.nl _ (numbers_no t 44 3 (by omega) (by decide) hn) ?_ ?_
    · exact rfl
    exact And.intro trivial (AVle.refl _)
  | some N =>
    rw [hn] at h
    obtain ⟨a, b, c, rfl⟩ := nums3 hn
    have h : (if Lea.ok ⟨a, b, c⟩ = true then some (⟨a, b, c⟩ : Lea) else none) = none := h
    split at h
    · cases h
    · rename_i hok
      have ct := LeaseOK_fn ⟨a, b, c⟩
      rw [show Lea.ok ⟨a, b, c⟩ = false by simpa using hok] at ct
      refine ⟨⟨a, b, c⟩, ?_⟩
      refine VFn.introC Tryz.call249 Tryz.func249 rfl rfl ?_
      conv => whnf
      refine CallC.nl _ (numbers_yes t 44 3 (by omega) (by decide) hn) ?_ ?_
      · exact rfl
      refine DrawC.mkK 12 [(.inr 10, 11)] rfl (by kernel_rfl) ?_
      refine And.intro rfl ?_
      refine And.intro ⟨by decide, show (0 : Int) < 3 by decide⟩ ?_
      refine And.intro ⟨by decide, show (1 : Int) < 3 by decide⟩ ?_
      refine And.intro ⟨by decide, show (2 : Int) < 3 by decide⟩ ?_
      refine DrawC.mkK 5 [(.inl 0, 3)] rfl (by kernel_rfl) ?_
      refine And.intro rfl ?_
      conv => whnf
      refine PCallK.sca _ (ct) rfl ?_
      exact And.intro trivial (AVle.refl _)
theorem l05Read_yes (t : List UInt8) (hl : t.length ≤ 1000000) {l : Lea} (h : readL t = some l) : VFn Tryz.prog 244 [.str (B t)] (.tup [l.av, .bool true]) := by
  unfold readL at h
  cases hn : numsK 44 3 t with
  | none => rw [hn] at h; cases h
  | some N =>
    rw [hn] at h
    obtain ⟨a, b, c, rfl⟩ := nums3 hn
    have h : (if Lea.ok ⟨a, b, c⟩ = true then some (⟨a, b, c⟩ : Lea) else none) = some l := h
    split at h
    · rename_i hok
      cases h
      have ct := specLeaseOK_fn ⟨a, b, c⟩
      rw [hok] at ct
      refine VFn.introC Tryz.call244 Tryz.func244 rfl rfl ?_
      conv => whnf
      refine CallC.nl _ (l02Numbers_gen t 44 3 hl _ (fun N h => by rw [hn] at h; cases h; rfl) (fun h => by rw [hn] at h; cases h)) ?_ ?_
      · exact rfl
      refine DrawC.mkK 12 [(.inr 10, 11)] rfl (by kernel_rfl) ?_
      refine And.intro rfl ?_
      refine And.intro ⟨by decide, show (0 : Int) < 3 by decide⟩ ?_
      refine And.intro ⟨by decide, show (1 : Int) < 3 by decide⟩ ?_
      refine And.intro ⟨by decide, show (2 : Int) < 3 by decide⟩ ?_
      conv => whnf
      refine CallC.sca _ (ct) ?_ ?_
      · exact rfl
      exact And.intro trivial (AVle.refl _)
    · cases h
theorem l05Read_no (t : List UInt8) (hl : t.length ≤ 1000000) (h : readL t = none) : VFn Tryz.prog 244 [.str (B t)] (.tup [(default : Lea).av, .bool false]) := by
  unfold readL at h
  cases hn : numsK 44 3 t with
  | none =>
    refine VFn.introC Tryz.call244 Tryz.func244 rfl rfl ?_
    conv => whnf
    refine CallC.nl _ (l02Numbers_gen t 44 3 hl _ (fun N h => by rw [hn] at h; cases h) (fun h => rfl)) ?_ ?_
    · exact rfl
    exact And.intro trivial (AVle.refl _)
  | some N =>
    rw [hn] at h
    obtain ⟨a, b, c, rfl⟩ := nums3 hn
    have h : (if Lea.ok ⟨a, b, c⟩ = true then some (⟨a, b, c⟩ : Lea) else none) = none := h
    split at h
    · cases h
    · rename_i hok
      have ct := specLeaseOK_fn ⟨a, b, c⟩
      rw [show Lea.ok ⟨a, b, c⟩ = false by simpa using hok] at ct
      refine VFn.introC Tryz.call244 Tryz.func244 rfl rfl ?_
      conv => whnf
      refine CallC.nl _ (l02Numbers_gen t 44 3 hl _ (fun N h => by rw [hn] at h; cases h; rfl) (fun h => by rw [hn] at h; cases h)) ?_ ?_
      · exact rfl
      refine DrawC.mkK 12 [(.inr 10, 11)] rfl (by kernel_rfl) ?_
      refine And.intro rfl ?_
      refine And.intro ⟨by decide, show (0 : Int) < 3 by decide⟩ ?_
      refine And.intro ⟨by decide, show (1 : Int) < 3 by decide⟩ ?_
      refine And.intro ⟨by decide, show (2 : Int) < 3 by decide⟩ ?_
      conv => whnf
      refine CallC.sca _ (ct) ?_ ?_
      · exact rfl
      exact And.intro trivial (AVle.refl _)
theorem get_ok (s : Sto) (hs : s.ok = true) (k : List UInt8) (h : s.has k = true) : (s.get k).data.length ≤ 600 ∧ 1 ≤ (s.get k).ver ∧ (s.get k).ver ≤ 1000000000 := by
  have h1 : s.eOK (s.pos k) = true := (Sto.ok_at hs).2.2 _ (hasK_at h).1
  have h2 := (Sto.ok_at hs).1
  simp [within] at h2
  simp [Sto.eOK, within] at h1
  unfold Sto.get
  omega
theorem lease_fn (s : Sto) (hs : s.ok = true) : VFn Tryz.prog 166 [s.av] (.tup [s.lea.1.av, .int .i64 s.lea.2]) := by
  have c := get_fn s hs leaK
  rcases s.lea_cases with ⟨e, h⟩ | ⟨e, h, hr⟩ | ⟨l, e, h, hr, hl⟩
  · rw [e]
    rw [if_neg (by rw [h]; simp)] at c
    refine VFn.introC Tryz.call166 Tryz.func166 rfl rfl ?_
    conv => whnf
    refine CallC.sca _ (c) ?_ ?_
    · exact rfl
    exact And.intro trivial (AVle.refl _)
  · have hd := get_ok s hs leaK h
    rw [e]
    rw [if_pos h] at c
    refine VFn.introC Tryz.call166 Tryz.func166 rfl rfl ?_
    conv => whnf
    refine CallC.sca _ (c) ?_ ?_
    · exact rfl
    obtain ⟨l, cr⟩ := readLease_no _ (by omega) hr
    conv => whnf
    refine CallC.sca _ (cr) ?_ ?_
    · exact rfl
    exact And.intro trivial (AVle.refl _)
  · have hd := get_ok s hs leaK h
    rw [e]
    rw [if_pos h] at c
    refine VFn.introC Tryz.call166 Tryz.func166 rfl rfl ?_
    conv => whnf
    refine CallC.sca _ (c) ?_ ?_
    · exact rfl
    conv => whnf
    refine CallC.sca _ (readLease_yes _ (by omega) hr) ?_ ?_
    · exact rfl
    exact And.intro trivial (AVle.refl _)
theorem l05Of_fn (s : Sto) (hs : s.ok = true) : VFn Tryz.prog 159 [s.av] (.tup [s.lea.1.av, .int .i64 s.leaV, .int .i64 (if s.lea.2 = 17 then 17 else 0)]) := by
  have c := l01Get_fn s hs leaK
  unfold Sto.leaV
  rcases s.lea_cases with ⟨e, h⟩ | ⟨e, h, hr⟩ | ⟨l, e, h, hr, hl⟩
  · rw [e, if_neg (by decide), if_neg (by decide)]
    rw [if_neg (by rw [h]; simp)] at c
    refine VFn.introC Tryz.call159 Tryz.func159 rfl rfl ?_
    conv => whnf
    refine CallC.sca _ (c) ?_ ?_
    · exact rfl
    exact And.intro trivial (AVle.refl _)
  · have hd := get_ok s hs leaK h
    rw [e, if_neg (by decide), if_pos rfl]
    rw [if_pos h] at c
    refine VFn.introC Tryz.call159 Tryz.func159 rfl rfl ?_
    conv => whnf
    refine CallC.sca _ (c) ?_ ?_
    · exact rfl
    refine Grd.intro (fun g => absurd (of_decide_eq_true (p := (s.get leaK).ver = 0) g) (by omega)) (fun g => ?_)
    conv => whnf
    refine CallC.sca _ (l05Read_no _ (by omega) hr) ?_ ?_
    · exact rfl
    exact And.intro trivial (AVle.refl _)
  · have hd := get_ok s hs leaK h
    rw [e, if_pos rfl, if_neg (show ¬ (0 : Int) = 17 by decide)]
    rw [if_pos h] at c
    refine VFn.introC Tryz.call159 Tryz.func159 rfl rfl ?_
    conv => whnf
    refine CallC.sca _ (c) ?_ ?_
    · exact rfl
    refine Grd.intro (fun g => absurd (of_decide_eq_true (p := (s.get leaK).ver = 0) g) (by omega)) (fun g => ?_)
    conv => whnf
    refine CallC.sca _ (l05Read_yes _ (by omega) hr) ?_ ?_
    · exact rfl
    exact And.intro trivial (AVle.refl _)
end Go.Proofs.YtpfmfdioonjccaaGreatDoor
