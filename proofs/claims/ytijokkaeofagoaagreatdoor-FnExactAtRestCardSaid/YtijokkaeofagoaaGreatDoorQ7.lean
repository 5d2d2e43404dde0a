/- Contracts of functions that the claim reaches, and the plain law of what they compute; each theorem bears its own conditions. -/
import Derived.Test.YtijokkaeofagoaaGreatDoorQ6
import Derived.Test.YtijokkaeofagoaaGreatDoorQ2
import Derived.Test.YtijokkaeofagoaaGreatDoorQ4
import Derived.Test.YtijokkaeofagoaaGreatDoorQ1
import Derived.WalkSmall
import Derived.Test.YtijokkaeofagoaaGreatDoorV50
import Derived.Test.YtijokkaeofagoaaGreatDoorQ3
import Derived.Test.YtijokkaeofagoaaGreatDoorQ5
set_option linter.unusedVariables false
set_option linter.constructorNameAsVariable false
set_option linter.unusedSimpArgs false
set_option maxRecDepth 20000
namespace Go.Proofs.YtijokkaeofagoaaGreatDoor
open Go Go.Vw

theorem l02Number_fn (t : List UInt8) (hl : t.length ≤ 1000000000) : VFn Tryz.prog 180 [.str (B t)] (.tup [.int .i64 (if numOk t = true then atoiV t else 0), .bool (numOk t)]) := by
  have c := l00Number_fn t hl
  by_cases h : numOk t = true
  · rw [h, if_pos rfl] at c ⊢
    obtain ⟨n, e1, e2, h0, h1⟩ := num_of h
    refine VFn.introC Tryz.call180 Tryz.func180 rfl rfl ?_
    conv => whnf
    refine CallC.sca _ (c) ?_ ?_
    · exact rfl
    conv => whnf
    refine CallC.sca _ (digits_fn (atoiV t) (by omega) (by omega)) ?_ ?_
    · exact rfl
    refine And.intro trivial (AVle.of_eq (show AV.tup [.int .i64 (atoiV t), .bool ((B (Lib.itoa (atoiV t))).toList == (B t).toList)] = _ from ?_))
    rw [B_eq, e2, ← e1, decide_eq_true rfl]
  · have h : numOk t = false := by simpa using h
    rw [h, if_neg (by simp)] at c ⊢
    refine VFn.introC Tryz.call180 Tryz.func180 rfl rfl ?_
    conv => whnf
    refine CallC.sca _ (c) ?_ ?_
    · exact rfl
    exact And.intro trivial (AVle.refl _)
theorem l02Numbers_gen (t : List UInt8) (c : UInt8) (m : Nat) (hl : t.length ≤ 1000000) (R : AV) (hy : ∀ N, numsK c m t = some N → R = .tup [ints N, .bool true]) (hn : numsK c m t = none → R = .tup [.any, .bool false]) :
    VFn Tryz.prog 175 [.str (B t), .int .u8 c.toNat, .int .i64 (m : Int)] R := by
  have hcl := cutP_len c t []
  have hpl : ∀ x ∈ cutP c [] t, x.length ≤ t.length := fun x hx => by have := cutP_piece c t [] x hx; simpa using this
  obtain ⟨P, hP⟩ : ∃ P, P = cutP c [] t := ⟨_, rfl⟩
  have hK : numsK c m t = if P.length = m ∧ P.all numOk = true then some (P.map atoiV) else none := by unfold numsK; rw [← hP]
  have cut := l00Cut_fn t c (by omega)
  rw [← hP] at hcl hpl cut
  refine VFn.introC Tryz.call175 Tryz.func175 rfl rfl ?_
  conv => whnf
  refine CallC.nl _ (cut) ?_ ?_
  · exact rfl
  refine LoopC.mk (fun i : Nat => i ≤ P.length ∧ ∀ j, j < i → numOk (ix P j) = true) (fun i => [(2, .int .i64 (m : Int)), (8, txts P), (9, .osl 0), (10, .int .i64 i)])
    (fun i => [(0, .arr 3 1 ((P.take i).map atoiV).length fun j => [.int .i64 (ix ((P.take i).map atoiV) j)])]) 1 (fun i => P.length - i) 0
    ⟨⟨Nat.zero_le _, fun j hj => absurd hj (Nat.not_lt_zero j)⟩, [(0, 0)], rfl, rfl, ⟨AVle.refl _, AVle.refl _, AVle.refl _, AVle.refl _, trivial⟩, ⟨MOle.arr rfl fun i hi => absurd hi (Nat.not_lt_zero i), trivial⟩⟩ ?_
  intro i hi
  obtain ⟨hi, hall⟩ := hi
  refine Grd.intro (fun h2 => ?_) (fun h2 => ?_)
  · have hin : i < P.length := by have := of_decide_eq_true h2; omega
    refine And.intro (by omega) ?_
    conv => whnf
    refine CallC.sca _ (l02Number_fn (ix P i) (by have := hpl _ (getD_mem hin); omega)) ?_ ?_
    · exact rfl
    refine Grd.intro (fun h3 => ?_) (fun h3 => ?_)
    · have h3 : numOk (ix P i) = false := by simpa using (show (!numOk (ix P i)) = true from h3)
      have : ¬ P.all numOk = true := fun h => by rw [List.all_eq_true.1 h _ (getD_mem hin)] at h3; cases h3
      rw [hn (by rw [hK, if_neg (fun h => this h.2)])]
      exact And.intro trivial (AVle.tup (AVsle.cons (AVle.any _) (AVsle.cons (AVle.refl _) AVsle.nil)))
    have h3 : numOk (ix P i) = true := by simpa using (show (!numOk (ix P i)) = false from h3)
    refine And.intro ⟨show (((P.take i).map atoiV).length + 1) * 8 ≤ 140737488355328 by simp; omega, all1 rfl⟩ ?_
    refine And.intro (inI64 (by omega) (by omega)) ?_
    refine ⟨i + 1, ⟨hin, fun j hj => ?_⟩, by omega, [(2, 0)], rfl, rfl, ⟨AVle.refl _, AVle.refl _, AVle.refl _, AVle.of_eq (congrArg (AV.int .i64) (by simp)), trivial⟩, ⟨arr_next (f := fun x => [.int .i64 x]) (map_take_snoc hin) (by rw [h3, if_pos rfl]; rfl), trivial⟩⟩
    rcases Nat.lt_or_ge j i with h' | h'
    · exact hall j h'
    · rw [show j = i by omega]; exact h3
  · have : i = P.length := by have := of_decide_eq_false h2; omega
    subst this
    have hall' : P.all numOk = true := List.all_eq_true.2 fun x hx => by
      obtain ⟨j, hj, q⟩ := List.getElem_of_mem hx
      have := hall j hj
      rw [ix_lt hj, q] at this; exact this
    have e : P.take P.length = P := List.take_of_length_le (Nat.le_refl _)
    have el : ((((P.take P.length).map atoiV).length : Nat) : Int) = P.length := by rw [e, List.length_map]
    by_cases hm : P.length = m
    · rw [hy _ (by rw [hK, if_pos ⟨hm, hall'⟩])]
      exact And.intro trivial (AVle.tup (AVsle.cons (AVle.of_eq (congrArg ints (congrArg (List.map atoiV) e))) (AVsle.cons (AVle.of_eq (congrArg AV.bool (decide_eq_true (el.trans (by omega))))) AVsle.nil)))
    · rw [hn (by rw [hK, if_neg (fun h => hm h.1)])]
      exact And.intro trivial (AVle.tup (AVsle.cons (AVle.any _) (AVsle.cons (AVle.of_eq (congrArg AV.bool (decide_eq_false (fun h => hm (by have h := el.symm.trans h; omega))))) AVsle.nil)))
theorem get_ok (s : Sto) (hs : s.ok = true) (k : List UInt8) (h : s.has k = true) : (s.get k).data.length ≤ 600 ∧ 1 ≤ (s.get k).ver ∧ (s.get k).ver ≤ 1000000000 := by
  have h1 : s.eOK (s.pos k) = true := (Sto.ok_at hs).2.2 _ (hasK_at h).1
  have h2 := (Sto.ok_at hs).1
  simp [within] at h2
  simp [Sto.eOK, within] at h1
  unfold Sto.get
  omega
end Go.Proofs.YtijokkaeofagoaaGreatDoor
set_option linter.unusedVariables false
set_option linter.constructorNameAsVariable false
set_option linter.unusedSimpArgs false
set_option maxRecDepth 20000
namespace Go.Proofs.YtijokkaeofagoaaGreatDoor
open Go Go.Vw

theorem Cut_fn (s : List UInt8) (c : UInt8) (hl : s.length ≤ 1000000000) : VFn Tryz.prog 198 [.str (B s), .str (B [c])] (.tup [.str (B (Lib.cut s [c]).1), .str (B (Lib.cut s [c]).2.1), .bool (Lib.cut s [c]).2.2]) := by
  refine VFn.lib Tryz.call198 fun w ok vs hJ hok hv => ?_
  obtain ⟨v, us, rfl, hv, v2, us2, rfl, hv2, hus⟩ := hv
  have e1 : v = .string (B s) := hv
  have e2 : v2 = .string (B [c]) := hv2
  have e3 : us2 = [] := hus
  subst e1 e2 e3
  obtain ⟨mv, hmv⟩ := tab_maxlen hJ
  refine (Tryz.strings_Cut (B s) (B [c]) mv w (by rw [B_size]; omega) hmv).mono ?_
  rintro e w' ⟨rfl, n, rfl⟩
  refine ⟨_, rfl, ⟨rfl, rfl, rfl, Nat.le_refl _, fun _ _ => rfl⟩, fun _ _ => ⟨[_, _, _], rfl, _, _, rfl, ?_, _, _, rfl, ?_, _, _, rfl, ?_, rfl⟩⟩
  · show Value.string _ = _
    rw [B_data, B_data]; rfl
  · show Value.string _ = _
    rw [B_data, B_data]; rfl
  · show Value.bool _ = _
    rw [B_data, B_data]
theorem cut_none {s : List UInt8} {c : UInt8} (h : ∀ x ∈ s, x ≠ c) : Lib.cut s [c] = (s, [], false) := by
  unfold Lib.cut; rw [index_none c s h]; rfl
theorem cut_at {a b : List UInt8} {c : UInt8} (h : ∀ x ∈ a, x ≠ c) : Lib.cut (a ++ c :: b) [c] = (a, b, true) := by
  unfold Lib.cut; rw [index_at c a b h]
  rw [if_pos (by omega)]
  simp
theorem readRecord_none (t : List UInt8) (hl : t.length ≤ 1000000) (h : ∀ x ∈ t, x ≠ 32) : VFn Tryz.prog 163 [.str (B t)] (.tup [(default : Rc).av, .bool false]) := by
  have c := Cut_fn t 32 (by omega)
  rw [cut_none h] at c
  refine VFn.introC Tryz.call163 Tryz.func163 rfl rfl ?_
  conv => whnf
  refine CallC.sca _ (c) ?_ ?_
  · exact rfl
  cases hn : numsK 44 5 t with
  | none =>
    conv => whnf
    refine CallC.nl _ (numbers_no t 44 5 (by omega) (by decide) hn) ?_ ?_
    · exact rfl
    exact And.intro trivial (AVle.refl _)
  | some N =>
    conv => whnf
    refine CallC.nl _ (numbers_yes t 44 5 (by omega) (by decide) hn) ?_ ?_
    · exact rfl
    exact And.intro trivial (AVle.refl _)
theorem readRecord_cut (a b : List UInt8) (hl : (a ++ 32 :: b).length ≤ 1000000) (ha : ∀ x ∈ a, x ≠ 32) : (∀ k tok tier f e, numsK 44 5 a = some [k, tok, tier, f, e] → VFn Tryz.prog 163 [.str (B (a ++ 32 :: b))] (.tup [(Rc.mk k tok tier f e b).av, .bool (Rc.ok ⟨k, tok, tier, f, e, b⟩)])) ∧
    (numsK 44 5 a = none → VFn Tryz.prog 163 [.str (B (a ++ 32 :: b))] (.tup [(default : Rc).av, .bool false])) := by
  have c := Cut_fn (a ++ 32 :: b) 32 (by omega)
  rw [cut_at ha] at c
  have hal : a.length ≤ 1000000 := by rw [List.length_append] at hl; omega
  constructor
  · intro k tok tier f e hn
    have ct := RecordOK_fn ⟨k, tok, tier, f, e, b⟩
    refine VFn.introC Tryz.call163 Tryz.func163 rfl rfl ?_
    conv => whnf
    refine CallC.sca _ (c) ?_ ?_
    · exact rfl
    conv => whnf
    refine CallC.nl _ (numbers_yes a 44 5 (by omega) (by decide) hn) ?_ ?_
    · exact rfl
    refine DrawC.mkK 19 [(.inr 17, 18)] rfl (by kernel_rfl) ?_
    refine And.intro rfl ?_
    refine And.intro ⟨by decide, show (0 : Int) < 5 by decide⟩ ?_
    refine And.intro ⟨by decide, show (1 : Int) < 5 by decide⟩ ?_
    refine And.intro ⟨by decide, show (2 : Int) < 5 by decide⟩ ?_
    refine And.intro ⟨by decide, show (3 : Int) < 5 by decide⟩ ?_
    refine And.intro ⟨by decide, show (4 : Int) < 5 by decide⟩ ?_
    refine DrawC.mkK 5 [(.inl 0, 3)] rfl (by kernel_rfl) ?_
    refine And.intro rfl ?_
    conv => whnf
    refine PCallK.sca _ (ct) rfl ?_
    exact And.intro trivial (AVle.refl _)
  · intro hn
    refine VFn.introC Tryz.call163 Tryz.func163 rfl rfl ?_
    conv => whnf
    refine CallC.sca _ (c) ?_ ?_
    · exact rfl
    conv => whnf
    refine CallC.nl _ (numbers_no a 44 5 (by omega) (by decide) hn) ?_ ?_
    · exact rfl
    exact And.intro trivial (AVle.refl _)
theorem readRecord_yes (t : List UInt8) (hl : t.length ≤ 1000000) {r : Rc} (h : readR t = some r) : VFn Tryz.prog 163 [.str (B t)] (.tup [r.av, .bool true]) := by
  rcases first_c 32 t with h1 | ⟨a, b, rfl, ha⟩
  · rw [readR_none h1] at h; cases h
  · obtain ⟨r1, r2⟩ := readR_at (b := b) ha
    obtain ⟨c1, c2⟩ := readRecord_cut a b hl ha
    cases hn : numsK 44 5 a with
    | none => rw [r2 hn] at h; cases h
    | some N =>
      obtain ⟨k, tok, tier, f, e, rfl⟩ := nums5 hn
      rw [r1 _ _ _ _ _ hn] at h
      split at h
      · rename_i hok
        cases h
        have := c1 _ _ _ _ _ hn
        rw [hok] at this; exact this
      · cases h
theorem readRecord_no (t : List UInt8) (hl : t.length ≤ 1000000) (h : readR t = none) : ∃ r : Rc, VFn Tryz.prog 163 [.str (B t)] (.tup [r.av, .bool false]) := by
  rcases first_c 32 t with h1 | ⟨a, b, rfl, ha⟩
  · exact ⟨_, readRecord_none t hl h1⟩
  · obtain ⟨r1, r2⟩ := readR_at (b := b) ha
    obtain ⟨c1, c2⟩ := readRecord_cut a b hl ha
    cases hn : numsK 44 5 a with
    | none => exact ⟨_, c2 hn⟩
    | some N =>
      obtain ⟨k, tok, tier, f, e, rfl⟩ := nums5 hn
      rw [r1 _ _ _ _ _ hn] at h
      split at h
      · cases h
      · rename_i hok
        have := c1 _ _ _ _ _ hn
        rw [show Rc.ok ⟨k, tok, tier, f, e, b⟩ = false by simpa using hok] at this
        exact ⟨_, this⟩
theorem l06Read_gen (t : List UInt8) (hl : t.length ≤ 1000000) (R : AV) (hy : ∀ r, readR t = some r → R = .tup [r.av, .bool true]) (hn : readR t = none → R = .tup [(default : Rc).av, .bool false]) : VFn Tryz.prog 110 [.str (B t)] R := by
  have cc := l00Cut_fn t 32 (by omega)
  have hpl : ∀ x ∈ cutP 32 [] t, x.length ≤ t.length := fun x hx => by have := cutP_piece 32 t [] x hx; simpa using this
  have hR : readR t = readP (cutP 32 [] t) := rfl
  generalize cutP 32 [] t = P at cc hpl hR
  by_cases h2 : P.length = 2
  case neg =>
    have hr : readR t = none := by
      match P, h2 with
      | [], _ => exact hR
      | [_], _ => exact hR
      | [_, _], h => exact absurd rfl h
      | _ :: _ :: _ :: _, _ => exact hR
    rw [hn hr]
    refine VFn.introC Tryz.call110 Tryz.func110 rfl rfl ?_
    conv => whnf
    refine CallC.nl _ (cc) ?_ ?_
    · exact rfl
    refine Grd.intro (fun g => ?_) (fun g => absurd (show ((P.length : Nat) : Int) = 2 by simpa using g) (by omega))
    exact And.intro trivial (AVle.refl _)
  case pos =>
    obtain ⟨a, b, rfl⟩ : ∃ a b, P = [a, b] := by
      match P, h2 with
      | [a, b], _ => exact ⟨a, b, rfl⟩
    have hR : readR t = (match numsK 44 5 a with
      | some [k, tok, tier, f, e] => if Rc.ok ⟨k, tok, tier, f, e, b⟩ = true then some ⟨k, tok, tier, f, e, b⟩ else none
      | _ => none) := hR
    have hal := hpl a (by simp)
    have hbl := hpl b (by simp)
    cases hN : numsK 44 5 a with
    | none =>
      rw [hN] at hR
      rw [hn hR]
      refine VFn.introC Tryz.call110 Tryz.func110 rfl rfl ?_
      conv => whnf
      refine CallC.nl _ (cc) ?_ ?_
      · exact rfl
      refine And.intro ⟨by decide, show (0 : Int) < 2 by decide⟩ ?_
      conv => whnf
      refine CallC.nl _ (l02Numbers_gen a 44 5 (by omega) _ (fun N h => by rw [hN] at h; cases h) (fun h => rfl)) ?_ ?_
      · exact rfl
      exact And.intro trivial (AVle.refl _)
    | some N =>
      obtain ⟨k, tok, tier, f, e, rfl⟩ := nums5 hN
      rw [hN] at hR
      have hR : readR t = if Rc.ok ⟨k, tok, tier, f, e, b⟩ = true then some ⟨k, tok, tier, f, e, b⟩ else none := hR
      have ct := specRecordOK_fn ⟨k, tok, tier, f, e, b⟩ (by show b.length ≤ _; omega)
      by_cases hok : Rc.ok ⟨k, tok, tier, f, e, b⟩ = true
      · rw [if_pos hok] at hR
        rw [hy _ hR]
        rw [hok] at ct
        refine VFn.introC Tryz.call110 Tryz.func110 rfl rfl ?_
        conv => whnf
        refine CallC.nl _ (cc) ?_ ?_
        · exact rfl
        refine And.intro ⟨by decide, show (0 : Int) < 2 by decide⟩ ?_
        conv => whnf
        refine CallC.nl _ (l02Numbers_gen a 44 5 (by omega) _ (fun N h => by rw [hN] at h; cases h; rfl) (fun h => by rw [hN] at h; cases h)) ?_ ?_
        · exact rfl
        refine DrawC.mkK 21 [(.inr 19, 20)] rfl (by kernel_rfl) ?_
        refine And.intro rfl ?_
        refine And.intro ⟨by decide, show (0 : Int) < 5 by decide⟩ ?_
        refine And.intro ⟨by decide, show (1 : Int) < 5 by decide⟩ ?_
        refine And.intro ⟨by decide, show (2 : Int) < 5 by decide⟩ ?_
        refine And.intro ⟨by decide, show (3 : Int) < 5 by decide⟩ ?_
        refine And.intro ⟨by decide, show (4 : Int) < 5 by decide⟩ ?_
        refine And.intro ⟨by decide, show (1 : Int) < 2 by decide⟩ ?_
        conv => whnf
        refine CallC.sca _ (ct) ?_ ?_
        · exact rfl
        exact And.intro trivial (AVle.refl _)
      · have hok : Rc.ok ⟨k, tok, tier, f, e, b⟩ = false := by simpa using hok
        rw [if_neg (by rw [hok]; simp)] at hR
        rw [hn hR]
        rw [hok] at ct
        refine VFn.introC Tryz.call110 Tryz.func110 rfl rfl ?_
        conv => whnf
        refine CallC.nl _ (cc) ?_ ?_
        · exact rfl
        refine And.intro ⟨by decide, show (0 : Int) < 2 by decide⟩ ?_
        conv => whnf
        refine CallC.nl _ (l02Numbers_gen a 44 5 (by omega) _ (fun N h => by rw [hN] at h; cases h; rfl) (fun h => by rw [hN] at h; cases h)) ?_ ?_
        · exact rfl
        refine DrawC.mkK 21 [(.inr 19, 20)] rfl (by kernel_rfl) ?_
        refine And.intro rfl ?_
        refine And.intro ⟨by decide, show (0 : Int) < 5 by decide⟩ ?_
        refine And.intro ⟨by decide, show (1 : Int) < 5 by decide⟩ ?_
        refine And.intro ⟨by decide, show (2 : Int) < 5 by decide⟩ ?_
        refine And.intro ⟨by decide, show (3 : Int) < 5 by decide⟩ ?_
        refine And.intro ⟨by decide, show (4 : Int) < 5 by decide⟩ ?_
        refine And.intro ⟨by decide, show (1 : Int) < 2 by decide⟩ ?_
        conv => whnf
        refine CallC.sca _ (ct) ?_ ?_
        · exact rfl
        exact And.intro trivial (AVle.refl _)
theorem l06Read_yes (t : List UInt8) (hl : t.length ≤ 1000000) {r : Rc} (h : readR t = some r) : VFn Tryz.prog 110 [.str (B t)] (.tup [r.av, .bool true]) := l06Read_gen t hl _ (fun r' h' => by rw [h] at h'; cases h'; rfl) (fun h' => by rw [h] at h'; cases h')
theorem l06Read_no (t : List UInt8) (hl : t.length ≤ 1000000) (h : readR t = none) : VFn Tryz.prog 110 [.str (B t)] (.tup [(default : Rc).av, .bool false]) := l06Read_gen t hl _ (fun r' h' => by rw [h] at h'; cases h') (fun h' => rfl)
end Go.Proofs.YtijokkaeofagoaaGreatDoor
set_option linter.unusedVariables false
set_option linter.constructorNameAsVariable false
set_option linter.unusedSimpArgs false
set_option maxRecDepth 20000
namespace Go.Proofs.YtijokkaeofagoaaGreatDoor
open Go Go.Vw

def Sta.orow (s : Sta) (a b : Nat) : List AV := [.int .i64 s.seq, .int .i64 s.fence, .osl a, .osl b, .int .i64 s.l0, .int .i64 s.l1, .int .i64 s.l2, .int .i64 s.h0, .int .i64 s.h1, .int .i64 s.h2]
theorem logN_no {x : Sto} {i : Nat} {st : Sta} (h : logN x i = st) (hr : recAt x ((i : Int) + 1) = none) : logN x (i + 1) = st.tick := by
  show stepL x (logN x i) = _
  unfold stepL
  rw [logN_seq, hr, h]
theorem logN_yes {x : Sto} {i : Nat} {st : Sta} {r : Rc} (h : logN x i = st) (hr : recAt x ((i : Int) + 1) = some r) : logN x (i + 1) = st.app r := by
  show stepL x (logN x i) = _
  unfold stepL
  rw [logN_seq, hr, h]
theorem has_next {x : Sto} {i : Nat} (h : ∀ j, j < i → x.has (manK ((j + 1 : Nat) : Int)) = true) (h' : x.has (manK ((i : Int) + 1)) = true) : ∀ j, j < i + 1 → x.has (manK ((j + 1 : Nat) : Int)) = true := fun j hj => by
  rcases Nat.lt_or_ge j i with h1 | h1
  · exact h j h1
  · have : j = i := by omega
    subst this; exact h'
theorem replay_own (x : Sto) (hs : x.ok = true) (F : Nat) (hF : ∀ (r : Rc) (took : Bool), VFn Tryz.prog F [r.av, .bool took] (.tup [])) :
    FnM Tryz.prog 91 0 [x.av, .fn (.func F) [] []] [] (logS x).own (logS x).objs 2 := by
  have hL := (Sto.ok_at hs).2.1
  refine FnM.introC Tryz.call91 Tryz.func91 rfl rfl ?_
  refine LoopC.nilb 2 2 81 4 (fun _ => []) rfl rfl ?_
  conv => whnf
  refine LoopC.nilb 2 3 189 2 (fun _ => []) rfl rfl ?_
  conv => whnf
  refine LoopC.mk (fun i : Nat => ∀ j, j < i → x.has (manK ((j + 1 : Nat) : Int)) = true) (fun i => [(1, .fn (.func F) [] []), (2, .bptr 0 0), (4, .bptr 1 0), (5, .bptr 2 0)])
    (fun i => [(0, .box x.row), (1, .box sta0.nrow), (2, .box ((logN x i).orow 3 4)), (3, .arr 81 4 (logN x i).es.length fun j => (ix (logN x i).es j).row), (4, .arr 189 2 (logN x i).ts.length fun j => (ix (logN x i).ts j).row)]) 5 (fun i => 1000 - i) 0
    ⟨fun j hj => absurd hj (Nat.not_lt_zero j), [(0, 0), (1, 1), (2, 2), (3, 3), (4, 4)], rfl, rfl, ⟨AVle.refl _, AVle.refl _, AVle.refl _, AVle.refl _, trivial⟩, ⟨MOle.refl _, MOle.refl _, MOle.refl _, MOle.arr rfl fun i hi => absurd hi (Nat.not_lt_zero i), MOle.arr rfl fun i hi => absurd hi (Nat.not_lt_zero i), trivial⟩⟩ ?_
  intro i hi
  have hi3 : i ≤ 300 := by
    rcases Nat.lt_or_ge 300 i with h | h
    · have := log_len (x := x) (n := 301) (by omega) (fun j hj => hi j (by omega)); omega
    · exact h
  obtain ⟨st, hst⟩ : ∃ st, logN x i = st := ⟨_, rfl⟩
  have hseq := logN_seq x i
  have hlen := logN_len x i
  have hlog := logN_log x i
  rw [hst] at hseq hlen hlog ⊢
  refine Grd.intro (fun h2 => ?_) (fun h2 => absurd (of_decide_eq_false h2) (fun h => h (by omega)))
  have cg := get_fn x hs (manK (st.seq + 1))
  by_cases hh : x.has (manK (st.seq + 1)) = true
  · rw [if_pos hh] at cg
    refine DrawC.mk 12 rfl (by kernel_rfl) ?_
    refine And.intro (inI64 (by omega) (by omega)) ?_
    conv => whnf
    refine PCallC.sca _ (six_fn (st.seq + 1) (by simp [within]; omega)) rfl ?_
    conv => whnf
    refine And.intro (show ((4 + (B (six6 (st.seq + 1).toNat)).size : Nat) : Int) ≤ 9223372036854775807 by rw [B_size, six6_len]; decide) ?_
    refine force_to (congrArg AV.str (show B [109, 97, 110, 47] ++ B (six6 (st.seq + 1).toNat) = B (manK (st.seq + 1)) from B_app _ _)) ?_
    conv => whnf
    refine PCallC.sca _ (cg) rfl ?_
    have hd := (get_ok x hs _ hh).1
    have hh' : x.has (manK ((i : Int) + 1)) = true := by rw [← hseq]; exact hh
    cases hr : readR (x.get (manK (st.seq + 1))).data with
    | none =>
      obtain ⟨r, cr⟩ := readRecord_no _ (by omega) hr
      conv => whnf
      refine CallC.sca _ (cr) ?_ ?_
      · exact rfl
      refine And.intro (inI64 (by omega) (by omega)) ?_
      have e := logN_no hst (by unfold recAt; rw [← hseq]; exact hr)
      refine ⟨i + 1, has_next hi hh', by omega, [(0, 0), (1, 1), (2, 2), (3, 3), (4, 4)], rfl, rfl, ⟨AVle.refl _, AVle.refl _, AVle.refl _, AVle.refl _, trivial⟩, ⟨MOle.refl _, MOle.refl _, MOle.of_eq (show MO.box (st.tick.orow 3 4) = _ by rw [e]), MOle.of_eq (show MO.arr 81 4 st.tick.es.length (fun j => (ix st.tick.es j).row) = _ by rw [e]), MOle.of_eq (show MO.arr 189 2 st.tick.ts.length (fun j => (ix st.tick.ts j).row) = _ by rw [e]), trivial⟩⟩
    | some r =>
      have hrk := readR_ok hr
      conv => whnf
      refine CallC.sca _ (readRecord_yes _ (by omega) hr) ?_ ?_
      · exact rfl
      conv => whnf
      refine CallC.m [] (apply_fn st (by omega) (by omega) r hrk) rfl rfl (AVsle.refl _) trivial rfl ⟨fun i hi => rfl, fun i hi => rfl, trivial⟩ rfl ?_
      conv => whnf
      refine CallC.sca _ (hF r (st.takes r)) ?_ ?_
      · exact rfl
      have e := logN_yes hst (by unfold recAt; rw [← hseq]; exact hr)
      refine ⟨i + 1, has_next hi hh', by omega, [(0, 0), (1, 1), (2, 2), (18, 3), (19, 4)], rfl, rfl, ⟨AVle.refl _, AVle.refl _, AVle.refl _, AVle.refl _, trivial⟩, ⟨MOle.refl _, MOle.refl _, MOle.of_eq (show MO.box ((st.app r).orow 3 4) = _ by rw [e]), MOle.of_eq (show MO.arr 81 4 (st.app r).es.length (fun j => (ix (st.app r).es j).row) = _ by rw [e]), MOle.of_eq (show MO.arr 189 2 (st.app r).ts.length (fun j => (ix (st.app r).ts j).row) = _ by rw [e]), trivial⟩⟩
  · have hh : x.has (manK (st.seq + 1)) = false := by simpa using hh
    rw [if_neg (by rw [hh]; simp)] at cg
    have e : logS x = st := by
      have := log_end hs hi3 hi (by rw [hseq] at hh; exact hh)
      unfold logS; rw [← this]; exact hst
    rw [e]
    refine DrawC.mk 12 rfl (by kernel_rfl) ?_
    refine And.intro (inI64 (by omega) (by omega)) ?_
    conv => whnf
    refine PCallC.sca _ (six_fn (st.seq + 1) (by simp [within]; omega)) rfl ?_
    conv => whnf
    refine And.intro (show ((4 + (B (six6 (st.seq + 1).toNat)).size : Nat) : Int) ≤ 9223372036854775807 by rw [B_size, six6_len]; decide) ?_
    refine force_to (congrArg AV.str (show B [109, 97, 110, 47] ++ B (six6 (st.seq + 1).toNat) = B (manK (st.seq + 1)) from B_app _ _)) ?_
    conv => whnf
    refine PCallC.sca _ (cg) rfl ?_
    exact And.intro trivial ⟨[(3, 0), (4, 1)], rfl, AVle.refl _, ⟨MOle.refl _, MOle.refl _, trivial⟩⟩
theorem log1_fn (r : Rc) (took : Bool) : VFn Tryz.prog 92 [r.av, .bool took] (.tup []) := by
  refine VFn.introC Tryz.call92 Tryz.func92 rfl rfl ?_
  exact And.intro trivial (AVle.refl _)
theorem log_own (x : Sto) (hs : x.ok = true) : FnM Tryz.prog 37 0 [x.av] [] (logS x).own (logS x).objs 2 := by
  refine FnM.introC Tryz.call37 Tryz.func37 rfl rfl ?_
  conv => whnf
  refine CallC.k [] (replay_own x hs 92 log1_fn) rfl rfl (AVsle.refl _) trivial rfl ?_
  exact And.intro trivial ⟨[(2, 0), (3, 1)], rfl, AVle.refl _, ⟨MOle.refl _, MOle.refl _, trivial⟩⟩
theorem log_fn (x : Sto) (hs : x.ok = true) : VFn Tryz.prog 37 [x.av] (logS x).av := (log_own x hs).vfn
end Go.Proofs.YtijokkaeofagoaaGreatDoor
set_option linter.unusedVariables false
set_option linter.constructorNameAsVariable false
set_option linter.unusedSimpArgs false
set_option maxRecDepth 20000
namespace Go.Proofs.YtijokkaeofagoaaGreatDoor
open Go Go.Vw

theorem l06Empty_fn : VFn Tryz.prog 107 [] sta0.av := by
  refine VFn.introC Tryz.call107 Tryz.func107 rfl rfl ?_
  exact And.intro trivial (AVle.agg (AVsle.cons (AVle.refl _) (AVsle.cons (AVle.refl _) (AVsle.cons (AVle.sl rfl fun i hi => absurd hi (Nat.not_lt_zero i)) (AVsle.cons (AVle.sl rfl fun i hi => absurd hi (Nat.not_lt_zero i)) (AVsle.refl _))))))
theorem l06Key_at (n : Int) (h : 0 ≤ n ∧ n ≤ 999998) : VFn Tryz.prog 109 [.int .i64 (n + 1)] (.str (B (manK (n + 1)))) := l06Key_fn (n + 1) (by simp [within]; omega)
theorem l06Replay_fn (x : Sto) (hs : x.ok = true) : VFn Tryz.prog 55 [x.av] (logS x).av := by
  have hL := (Sto.ok_at hs).2.1
  refine VFn.introC Tryz.call55 Tryz.func55 rfl rfl ?_
  conv => whnf
  refine CallC.nl _ (l06Empty_fn) ?_ ?_
  · exact rfl
  refine LoopC.mk (fun i : Nat => ∀ j, j < i → x.has (manK ((j + 1 : Nat) : Int)) = true) (fun i => [(1, .bptr 0 0), (2, .bptr 1 0), (3, .bptr 2 0)])
    (fun i => [(0, .box x.row), (1, .box sta0.nrow), (2, .box (logN x i).row)]) 3 (fun i => 1000 - i) 0
    ⟨fun j hj => absurd hj (Nat.not_lt_zero j), [(0, 0), (1, 1), (2, 2)], rfl, rfl, ⟨AVle.refl _, AVle.refl _, AVle.refl _, trivial⟩, ⟨MOle.refl _, MOle.refl _, MOle.refl _, trivial⟩⟩ ?_
  intro i hi
  have hi3 : i ≤ 300 := by
    rcases Nat.lt_or_ge 300 i with h | h
    · have := log_len (x := x) (n := 301) (by omega) (fun j hj => hi j (by omega)); omega
    · exact h
  obtain ⟨st, hst⟩ : ∃ st, logN x i = st := ⟨_, rfl⟩
  have hseq := logN_seq x i
  have hlen := logN_len x i
  have hlog := logN_log x i
  rw [hst] at hseq hlen hlog ⊢
  have cg := l01Get_fn x hs (manK (st.seq + 1))
  have ck := l06Key_at st.seq (by omega)
  by_cases hh : x.has (manK (st.seq + 1)) = true
  · rw [if_pos hh] at cg
    have hd := get_ok x hs _ hh
    refine DrawC.mk 11 rfl (by kernel_rfl) ?_
    refine And.intro (inI64 (by omega) (by omega)) ?_
    conv => whnf
    refine PCallC.sca _ (ck) rfl ?_
    conv => whnf
    refine PCallC.sca _ (cg) rfl ?_
    refine Grd.intro (fun h => absurd (of_decide_eq_true (p := (x.get (manK (st.seq + 1))).ver = 0) h) (by omega)) (fun _ => ?_)
    have hh' : x.has (manK ((i : Int) + 1)) = true := by rw [← hseq]; exact hh
    cases hr : readR (x.get (manK (st.seq + 1))).data with
    | none =>
      conv => whnf
      refine CallC.sca _ (l06Read_no _ (by omega) hr) ?_ ?_
      · exact rfl
      refine And.intro (inI64 (by omega) (by omega)) ?_
      have e := logN_no hst (by unfold recAt; rw [← hseq]; exact hr)
      exact ⟨i + 1, has_next hi hh', by omega, [(0, 0), (1, 1), (2, 2)], rfl, rfl, ⟨AVle.refl _, AVle.refl _, AVle.refl _, trivial⟩, ⟨MOle.refl _, MOle.refl _, MOle.of_eq (show MO.box st.tick.row = _ by rw [e]), trivial⟩⟩
    | some r =>
      have hrk := readR_ok hr
      conv => whnf
      refine CallC.sca _ (l06Read_yes _ (by omega) hr) ?_ ?_
      · exact rfl
      conv => whnf
      refine CallC.nl _ (l06Apply_fn st (by omega) (by omega) hlog.nd r hrk) ?_ ?_
      · exact rfl
      have e := logN_yes hst (by unfold recAt; rw [← hseq]; exact hr)
      exact ⟨i + 1, has_next hi hh', by omega, [(0, 0), (1, 1), (2, 2)], rfl, rfl, ⟨AVle.refl _, AVle.refl _, AVle.refl _, trivial⟩, ⟨MOle.refl _, MOle.refl _, MOle.of_eq (show MO.box (st.app r).row = _ by rw [e]), trivial⟩⟩
  · have hh : x.has (manK (st.seq + 1)) = false := by simpa using hh
    rw [if_neg (by rw [hh]; simp)] at cg
    have e : logS x = st := by
      have := log_end hs hi3 hi (by rw [hseq] at hh; exact hh)
      unfold logS; rw [← this]; exact hst
    rw [e]
    refine DrawC.mk 11 rfl (by kernel_rfl) ?_
    refine And.intro (inI64 (by omega) (by omega)) ?_
    conv => whnf
    refine PCallC.sca _ (ck) rfl ?_
    conv => whnf
    refine PCallC.sca _ (cg) rfl ?_
    exact And.intro trivial (AVle.refl _)
def rlC (x : Sto) : Int := if x.ok = true then 0 else 1
def rlS (x : Sto) : Sta := if x.ok = true then logS x else sta0
end Go.Proofs.YtijokkaeofagoaaGreatDoor
set_option linter.unusedVariables false
set_option linter.constructorNameAsVariable false
set_option linter.unusedSimpArgs false
set_option maxRecDepth 20000
namespace Go.Proofs.YtijokkaeofagoaaGreatDoor
open Go Go.Vw

theorem map_take_filter {α β : Type} [Inhabited α] {f : α → β} {p : β → Bool} {L : List α} {i : Nat} (h : i < L.length) : ((L.take (i + 1)).map f).filter p = if p (f (ix L i)) = true then ((L.take i).map f).filter p ++ [f (ix L i)] else ((L.take i).map f).filter p := by
  rw [take_snoc h, List.map_append, List.filter_append]
  by_cases hp : p (f (ix L i)) = true
  · rw [if_pos hp]; simp [hp]
  · rw [if_neg hp]; simp [hp]
theorem dataKeys_fn (x : Sto) (hL : x.os.length ≤ 1000000) : VFn Tryz.prog 41 [x.av] (txts (dataKs x)) := by
  have hle : ∀ i, (((x.os.take i).map (·.key)).filter kOk).length ≤ i := fun i => Nat.le_trans (List.length_filter_le _ _) (by simp; omega)
  refine VFn.introC Tryz.call41 Tryz.func41 rfl rfl ?_
  refine LoopC.mk (fun i : Nat => i ≤ x.os.length) (fun i => [(1, .bptr 0 0), (3, .osl 1), (12, obs x.os), (13, .int .i64 x.os.length), (14, .int .i64 i)])
    (fun i => [(0, .box x.row), (1, .arr 9 1 (((x.os.take i).map (·.key)).filter kOk).length fun j => [.str (B (ix (((x.os.take i).map (·.key)).filter kOk) j))])]) 2 (fun i => x.os.length - i) 0
    ⟨Nat.zero_le _, [(0, 0), (1, 1)], rfl, rfl, ⟨AVle.refl _, AVle.refl _, AVle.refl _, AVle.refl _, AVle.refl _, trivial⟩, ⟨MOle.refl _, MOle.arr rfl fun i hi => absurd hi (Nat.not_lt_zero i), trivial⟩⟩ ?_
  intro i hi
  have hli := hle i
  refine Grd.intro (fun h2 => ?_) (fun h2 => ?_)
  · have hin : i < x.os.length := by have := of_decide_eq_true h2; omega
    have hs := map_take_filter (f := fun o : Ob => o.key) (p := kOk) hin
    refine And.intro (by omega) ?_
    conv => whnf
    refine CallC.sca _ (readDataKey_fn (ix x.os i).key) ?_ ?_
    · exact rfl
    refine Grd.intro (fun h3 => ?_) (fun h3 => ?_)
    · rw [if_pos h3] at hs
      refine And.intro ⟨show ((((x.os.take i).map (·.key)).filter kOk).length + 1) * 16 ≤ 140737488355328 by omega, all1 rfl⟩ ?_
      refine And.intro (inI64 (by omega) (by omega)) ?_
      exact ⟨i + 1, hin, by omega, [(0, 0), (4, 1)], rfl, rfl, ⟨AVle.refl _, AVle.refl _, AVle.refl _, AVle.refl _, AVle.of_eq (congrArg (AV.int .i64) (by simp)), trivial⟩, ⟨MOle.refl _, arr_next (f := fun s : List UInt8 => [.str (B s)]) hs rfl, trivial⟩⟩
    · rw [if_neg (by rw [h3]; simp)] at hs
      refine And.intro (inI64 (by omega) (by omega)) ?_
      exact ⟨i + 1, hin, by omega, [(0, 0), (1, 1)], rfl, rfl, ⟨AVle.refl _, AVle.refl _, AVle.refl _, AVle.refl _, AVle.of_eq (congrArg (AV.int .i64) (by simp)), trivial⟩, ⟨MOle.refl _, MOle.of_eq (show MO.arr 9 1 (((x.os.take i).map (·.key)).filter kOk).length (fun j => [.str (B (ix (((x.os.take i).map (·.key)).filter kOk) j))]) = _ by rw [hs]), trivial⟩⟩
  · have : i = x.os.length := by have := of_decide_eq_false h2; omega
    subst this
    have e : ((x.os.take x.os.length).map (·.key)).filter kOk = dataKs x := by rw [List.take_of_length_le (Nat.le_refl _)]; rfl
    rw [e]
    exact And.intro trivial (AVle.sl rfl fun j hj => rfl)
theorem l11Keys_fn (x : Sto) (hL : x.os.length ≤ 1000000) (hk : ∀ o ∈ x.os, o.key.length ≤ 1000000000) : VFn Tryz.prog 90 [x.av] (txts (dataKs x)) := by
  have hle : ∀ i, (((x.os.take i).map (·.key)).filter kOk).length ≤ i := fun i => Nat.le_trans (List.length_filter_le _ _) (by simp; omega)
  refine VFn.introC Tryz.call90 Tryz.func90 rfl rfl ?_
  refine LoopC.mk (fun i : Nat => i ≤ x.os.length) (fun i => [(1, .bptr 0 0), (3, .osl 1), (4, .int .i64 i)])
    (fun i => [(0, .box x.row), (1, .arr 9 1 (((x.os.take i).map (·.key)).filter kOk).length fun j => [.str (B (ix (((x.os.take i).map (·.key)).filter kOk) j))])]) 2 (fun i => x.os.length - i) 0
    ⟨Nat.zero_le _, [(0, 0), (1, 1)], rfl, rfl, ⟨AVle.refl _, AVle.refl _, AVle.refl _, trivial⟩, ⟨MOle.refl _, MOle.arr rfl fun i hi => absurd hi (Nat.not_lt_zero i), trivial⟩⟩ ?_
  intro i hi
  have hli := hle i
  refine Grd.intro (fun h2 => ?_) (fun h2 => ?_)
  · have hin : i < x.os.length := by have := of_decide_eq_true h2; omega
    have hs := map_take_filter (f := fun o : Ob => o.key) (p := kOk) hin
    refine And.intro (by omega) ?_
    conv => whnf
    refine CallC.sca _ (l03ToKey_fn (ix x.os i).key (hk _ (getD_mem hin))) ?_ ?_
    · exact rfl
    refine Grd.intro (fun h3 => ?_) (fun h3 => ?_)
    · rw [if_pos h3] at hs
      refine And.intro (by omega) ?_
      refine And.intro ⟨show ((((x.os.take i).map (·.key)).filter kOk).length + 1) * 16 ≤ 140737488355328 by omega, all1 rfl⟩ ?_
      refine And.intro (inI64 (by omega) (by omega)) ?_
      exact ⟨i + 1, hin, by omega, [(0, 0), (3, 1)], rfl, rfl, ⟨AVle.refl _, AVle.refl _, AVle.of_eq (congrArg (AV.int .i64) (by simp)), trivial⟩, ⟨MOle.refl _, arr_next (f := fun s : List UInt8 => [.str (B s)]) hs rfl, trivial⟩⟩
    · rw [if_neg (by rw [h3]; simp)] at hs
      refine And.intro (inI64 (by omega) (by omega)) ?_
      exact ⟨i + 1, hin, by omega, [(0, 0), (1, 1)], rfl, rfl, ⟨AVle.refl _, AVle.refl _, AVle.of_eq (congrArg (AV.int .i64) (by simp)), trivial⟩, ⟨MOle.refl _, MOle.of_eq (show MO.arr 9 1 (((x.os.take i).map (·.key)).filter kOk).length (fun j => [.str (B (ix (((x.os.take i).map (·.key)).filter kOk) j))]) = _ by rw [hs]), trivial⟩⟩
  · have : i = x.os.length := by have := of_decide_eq_false h2; omega
    subst this
    have e : ((x.os.take x.os.length).map (·.key)).filter kOk = dataKs x := by rw [List.take_of_length_le (Nat.le_refl _)]; rfl
    rw [e]
    exact And.intro trivial (AVle.sl rfl fun j hj => rfl)
set_option maxHeartbeats 1000000 in
theorem orphans_fn (s : Sta) (hE : s.es.length ≤ 1000000000) (hT : s.ts.length ≤ 1000000000) (L : List (List UInt8)) (hL : L.length ≤ 1000000) : VFn Tryz.prog 40 [s.av, txts L] (txts (L.filter s.orph)) := by
  have hle : ∀ i, ((L.take i).filter s.orph).length ≤ i := fun i => Nat.le_trans (List.length_filter_le _ _) (by simp; omega)
  refine VFn.introC Tryz.call40 Tryz.func40 rfl rfl ?_
  refine LoopC.mk (fun i : Nat => i ≤ L.length) (fun i => [(2, .bptr 0 0), (5, .osl 1), (13, txts L), (14, .int .i64 L.length), (15, .int .i64 i)])
    (fun i => [(0, .box s.row), (1, .arr 9 1 ((L.take i).filter s.orph).length fun j => [.str (B (ix ((L.take i).filter s.orph) j))])]) 2 (fun i => L.length - i) 0
    ⟨Nat.zero_le _, [(0, 0), (1, 1)], rfl, rfl, ⟨AVle.refl _, AVle.refl _, AVle.refl _, AVle.refl _, AVle.refl _, trivial⟩, ⟨MOle.refl _, MOle.arr rfl fun i hi => absurd hi (Nat.not_lt_zero i), trivial⟩⟩ ?_
  intro i hi
  have hli := hle i
  refine Grd.intro (fun h2 => ?_) (fun h2 => ?_)
  · have hin : i < L.length := by have := of_decide_eq_true h2; omega
    have hs := filter_snoc (p := s.orph) hin
    have ch := hasKey_fn s hE hT (ix L i)
    have app : s.orph (ix L i) = true → (L.take (i + 1)).filter s.orph = (L.take i).filter s.orph ++ [ix L i] := fun h => by rw [hs, if_pos h]
    have skp : s.orph (ix L i) = false → (L.take (i + 1)).filter s.orph = (L.take i).filter s.orph := fun h => by rw [hs, if_neg (by rw [h]; simp)]
    clear hs
    have hO : s.orph (ix L i) = (kOk (ix L i) && (!s.has (ix L i) && ((decide (kT (ix L i) = 0) && decide (kN (ix L i) ≤ s.seq)) || (decide (0 < kT (ix L i)) && decide (kW (ix L i) < s.fence))))) := rfl
    refine And.intro (by omega) ?_
    conv => whnf
    refine CallC.sca _ (readDataKey_fn (ix L i)) ?_ ?_
    · exact rfl
    repeat' (conv => whnf
             first
      | refine Grd.intro (fun h => ?_) (fun h => ?_)
      | refine PCallC.sca _ ch rfl ?_
      | (refine CallC.sca _ ch ?_ ?_; exact rfl)
      | refine And.intro ⟨show (0 : Int) ≤ ((i : Nat) : Int) by omega, show ((i : Nat) : Int) < ((L.length : Nat) : Int) by omega⟩ ?_
      | refine And.intro ⟨show (((L.take i).filter s.orph).length + 1) * 16 ≤ 140737488355328 by omega, all1 rfl⟩ ?_
      | refine And.intro (show inI .i64 ((i : Int) + 1) from inI64 (by omega) (by omega)) ?_)
    all_goals first
      | (have hq := app (by rw [hO]; first | (simp_all; done) | (simp_all; intros; omega))
         exact ⟨i + 1, hin, by omega, [(0, 0), (3, 1)], rfl, rfl, ⟨AVle.refl _, AVle.refl _, AVle.refl _, AVle.refl _, AVle.of_eq (congrArg (AV.int .i64) (by simp)), trivial⟩, ⟨MOle.refl _, arr_next (f := fun s : List UInt8 => [.str (B s)]) hq rfl, trivial⟩⟩)
      | (have hq := skp (by rw [hO]; first | (simp_all; done) | (simp_all; intros; omega))
         exact ⟨i + 1, hin, by omega, [(0, 0), (1, 1)], rfl, rfl, ⟨AVle.refl _, AVle.refl _, AVle.refl _, AVle.refl _, AVle.of_eq (congrArg (AV.int .i64) (by simp)), trivial⟩, ⟨MOle.refl _, MOle.of_eq (show MO.arr 9 1 ((L.take i).filter s.orph).length (fun j => [.str (B (ix ((L.take i).filter s.orph) j))]) = _ by rw [hq]), trivial⟩⟩)
  · have : i = L.length := by have := of_decide_eq_false h2; omega
    subst this
    have e : (L.take L.length).filter s.orph = L.filter s.orph := by rw [List.take_of_length_le (Nat.le_refl _)]
    rw [e]
    exact And.intro trivial (AVle.sl rfl fun j hj => rfl)
set_option maxHeartbeats 1000000 in
theorem l07Orphans_fn (s : Sta) (hE : s.es.length ≤ 1000000000) (hT : s.ts.length ≤ 1000000000) (L : List (List UInt8)) (hL : L.length ≤ 1000000) (hk : ∀ k ∈ L, k.length ≤ 1000000000) : VFn Tryz.prog 89 [s.av, txts L] (txts (L.filter s.orph)) := by
  have hle : ∀ i, ((L.take i).filter s.orph).length ≤ i := fun i => Nat.le_trans (List.length_filter_le _ _) (by simp; omega)
  refine VFn.introC Tryz.call89 Tryz.func89 rfl rfl ?_
  refine LoopC.mk (fun i : Nat => i ≤ L.length) (fun i => [(1, txts L), (2, .bptr 0 0), (5, .osl 1), (6, .int .i64 i)])
    (fun i => [(0, .box s.row), (1, .arr 9 1 ((L.take i).filter s.orph).length fun j => [.str (B (ix ((L.take i).filter s.orph) j))])]) 2 (fun i => L.length - i) 0
    ⟨Nat.zero_le _, [(0, 0), (1, 1)], rfl, rfl, ⟨AVle.refl _, AVle.refl _, AVle.refl _, AVle.refl _, trivial⟩, ⟨MOle.refl _, MOle.arr rfl fun i hi => absurd hi (Nat.not_lt_zero i), trivial⟩⟩ ?_
  intro i hi
  have hli := hle i
  refine Grd.intro (fun h2 => ?_) (fun h2 => ?_)
  · have hin : i < L.length := by have := of_decide_eq_true h2; omega
    have hs := filter_snoc (p := s.orph) hin
    have ch := l06Named_fn s hE hT (ix L i)
    have app : s.orph (ix L i) = true → (L.take (i + 1)).filter s.orph = (L.take i).filter s.orph ++ [ix L i] := fun h => by rw [hs, if_pos h]
    have skp : s.orph (ix L i) = false → (L.take (i + 1)).filter s.orph = (L.take i).filter s.orph := fun h => by rw [hs, if_neg (by rw [h]; simp)]
    clear hs
    have hO : s.orph (ix L i) = (kOk (ix L i) && (!s.has (ix L i) && ((decide (kT (ix L i) = 0) && decide (kN (ix L i) ≤ s.seq)) || (decide (0 < kT (ix L i)) && decide (kW (ix L i) < s.fence))))) := rfl
    refine And.intro (by omega) ?_
    conv => whnf
    refine CallC.sca _ (l03ToKey_fn (ix L i) (hk _ (getD_mem hin))) ?_ ?_
    · exact rfl
    refine DrawC.mk 30 rfl (by kernel_rfl) ?_
    repeat' (conv => whnf
             first
      | refine Grd.intro (fun h => ?_) (fun h => ?_)
      | refine PCallC.sca _ ch rfl ?_
      | (refine CallC.sca _ ch ?_ ?_; exact rfl)
      | refine And.intro ⟨show (0 : Int) ≤ ((i : Nat) : Int) by omega, show ((i : Nat) : Int) < ((L.length : Nat) : Int) by omega⟩ ?_
      | refine And.intro ⟨show (((L.take i).filter s.orph).length + 1) * 16 ≤ 140737488355328 by omega, all1 rfl⟩ ?_
      | refine And.intro (show inI .i64 ((i : Int) + 1) from inI64 (by omega) (by omega)) ?_)
    all_goals first
      | (have hq := app (by rw [hO]; first | (simp_all; done) | (simp_all; intros; omega))
         exact ⟨i + 1, hin, by omega, [(0, 0), (33, 1)], rfl, rfl, ⟨AVle.refl _, AVle.refl _, AVle.refl _, AVle.of_eq (congrArg (AV.int .i64) (by simp)), trivial⟩, ⟨MOle.refl _, arr_next (f := fun s : List UInt8 => [.str (B s)]) hq rfl, trivial⟩⟩)
      | (have hq := skp (by rw [hO]; first | (simp_all; done) | (simp_all; intros; omega))
         exact ⟨i + 1, hin, by omega, [(0, 0), (1, 1)], rfl, rfl, ⟨AVle.refl _, AVle.refl _, AVle.refl _, AVle.of_eq (congrArg (AV.int .i64) (by simp)), trivial⟩, ⟨MOle.refl _, MOle.of_eq (show MO.arr 9 1 ((L.take i).filter s.orph).length (fun j => [.str (B (ix ((L.take i).filter s.orph) j))]) = _ by rw [hq]), trivial⟩⟩)
  · have : i = L.length := by have := of_decide_eq_false h2; omega
    subst this
    have e : (L.take L.length).filter s.orph = L.filter s.orph := by rw [List.take_of_length_le (Nat.le_refl _)]
    rw [e]
    exact And.intro trivial (AVle.sl rfl fun j hj => rfl)
end Go.Proofs.YtijokkaeofagoaaGreatDoor
set_option linter.unusedVariables false
set_option linter.constructorNameAsVariable false
set_option linter.unusedSimpArgs false
set_option maxRecDepth 20000
namespace Go.Proofs.YtijokkaeofagoaaGreatDoor
open Go Go.Vw

structure Src where
  code : List UInt8
  at_ : Int
  seed : Int
abbrev byts (L : List UInt8) : AV := .sl 1 L.length fun i => [.int .u8 ((ix L i).toNat : Int)]
def Src.row (s : Src) : List AV := [byts s.code, .int .i64 s.at_, .int .i64 s.seed]
def Src.ok (s : Src) (k : Int) : Prop := (0 ≤ s.at_ ∧ s.at_ ≤ k) ∧ (0 ≤ s.seed ∧ s.seed < 2147483648) ∧ s.code.length ≤ 1000000000
def Src.chr (s : Src) : Int := (ix s.code (s.at_ + 1 - 1).toNat).toNat
def Src.sd (s : Src) : Int := (s.seed * 1103515245 + 12345).tmod 2147483648
def Src.byte (s : Src) : Int × Src :=
  if s.at_ + 1 ≤ s.code.length then (s.chr, { s with at_ := s.at_ + 1, seed := (s.seed * 31 + s.chr + 7).tmod 2147483648 })
  else if 3000 < s.at_ + 1 then (0, { s with at_ := s.at_ + 1 })
  else ((s.sd.tdiv 65536).tmod 256, { s with at_ := s.at_ + 1, seed := s.sd })
theorem tmod_b {n m : Int} (h : 0 ≤ n) (hm : 0 < m) : 0 ≤ n.tmod m ∧ n.tmod m < m := by
  rw [Int.tmod_eq_emod_of_nonneg h]
  exact ⟨Int.emod_nonneg _ (by omega), Int.emod_lt_of_pos _ hm⟩
theorem tdiv_b {n : Int} {m : Int} (h : 0 ≤ n) (hm : 0 < m) : 0 ≤ n.tdiv m ∧ n.tdiv m ≤ n := by
  rw [Int.tdiv_eq_ediv_of_nonneg h]
  exact ⟨Int.ediv_nonneg h (by omega), Int.ediv_le_self _ h⟩
theorem chr_b (s : Src) : 0 ≤ s.chr ∧ s.chr ≤ 255 := by
  unfold Src.chr
  have := (ix s.code (s.at_ + 1 - 1).toNat).toNat_lt
  omega
theorem byte_b (s : Src) {k : Int} (h : s.ok k) : (0 ≤ s.byte.1 ∧ s.byte.1 ≤ 255) ∧ s.byte.2.ok (k + 1) ∧ s.byte.2.code = s.code := by
  obtain ⟨⟨a0, a1⟩, ⟨s0, s1⟩, hc⟩ := h
  have hch := chr_b s
  have hsd := tmod_b (n := s.seed * 1103515245 + 12345) (m := 2147483648) (by omega) (by omega)
  unfold Src.byte
  split
  · refine ⟨hch, ⟨⟨by simp only; omega, by simp only; omega⟩, ?_, hc⟩, rfl⟩
    exact tmod_b (by omega) (by omega)
  · split
    · exact ⟨by simp, ⟨⟨by simp only; omega, by simp only; omega⟩, ⟨s0, s1⟩, hc⟩, rfl⟩
    · refine ⟨?_, ⟨⟨by simp only; omega, by simp only; omega⟩, hsd, hc⟩, rfl⟩
      have h1 := tdiv_b (n := s.sd) (m := 65536) hsd.1 (by omega)
      have h2 := tmod_b (n := s.sd.tdiv 65536) (m := 256) h1.1 (by omega)
      simp only; omega
def Src.next (s : Src) (n : Int) : Int × Src :=
  if n ≤ 1 then (0, s)
  else if n ≤ 256 then (s.byte.1.tmod n, s.byte.2)
  else ((s.byte.1 * 65536 + s.byte.2.byte.1 * 256 + s.byte.2.byte.2.byte.1).tmod n, s.byte.2.byte.2.byte.2)
theorem next_b (s : Src) {k : Int} (h : s.ok k) (hk : 0 ≤ k) (n : Int) : (0 ≤ (s.next n).1 ∧ (1 ≤ n → (s.next n).1 < n)) ∧ (s.next n).2.ok (k + 3) ∧ (s.next n).2.code = s.code := by
  have h1 := byte_b s h
  have h2 := byte_b s.byte.2 h1.2.1
  have h3 := byte_b s.byte.2.byte.2 h2.2.1
  have w : ∀ (x : Src) (a b : Int), x.ok a → a ≤ b → x.ok b := fun x a b hx hab => ⟨⟨hx.1.1, by have := hx.1.2; omega⟩, hx.2⟩
  unfold Src.next
  split
  · exact ⟨⟨by simp, fun _ => by simp only; omega⟩, w s k _ h (by omega), rfl⟩
  · split
    · have := tmod_b (n := s.byte.1) (m := n) h1.1.1 (by omega)
      exact ⟨⟨this.1, fun _ => this.2⟩, w _ _ _ h1.2.1 (by omega), h1.2.2⟩
    · have := tmod_b (n := s.byte.1 * 65536 + s.byte.2.byte.1 * 256 + s.byte.2.byte.2.byte.1) (m := n) (by omega) (by omega)
      exact ⟨⟨this.1, fun _ => this.2⟩, w _ _ _ h3.2.1 (by omega), h3.2.2.trans (h2.2.2.trans h1.2.2)⟩
end Go.Proofs.YtijokkaeofagoaaGreatDoor
set_option linter.unusedVariables false
set_option linter.constructorNameAsVariable false
set_option linter.unusedSimpArgs false
set_option maxRecDepth 20000
namespace Go.Proofs.YtijokkaeofagoaaGreatDoor
open Go Go.Vw

abbrev SS := List Smp × Int × Src
def smpStep (x : SS) : SS :=
  let f := x.2.1 + (x.2.2.next 4).1
  let a := (x.2.2.next 4).2.next 40
  let b := a.2.next 12
  let c := b.2.next 2
  let v := if b.1.tdiv 10 * (1 + c.1) = 0 then a.1 - 10 else if b.1.tdiv 10 * (1 + c.1) = 1 then 1000000 else -1000000
  (x.1 ++ [⟨f, v⟩], f + 1, c.2)
def smpIt : Nat → SS → SS
  | 0, x => x
  | k + 1, x => smpStep (smpIt k x)
def SSok (x : SS) (n : Nat) (k : Int) : Prop := x.1.length = n ∧ (∀ e ∈ x.1, -1000000 ≤ e.v ∧ e.v ≤ 1000000) ∧ x.2.2.ok k ∧ (0 ≤ x.2.1 ∧ x.2.1 ≤ k)
theorem wk {x : Src} {a b : Int} (hx : x.ok a) (h : a ≤ b) : x.ok b := ⟨⟨hx.1.1, by have := hx.1.2; omega⟩, hx.2⟩
theorem step_ok {x : SS} {n : Nat} {k : Int} (h : SSok x n k) (hk : 0 ≤ k) : SSok (smpStep x) (n + 1) (k + 12) := by
  obtain ⟨h1, h2, h3, h4⟩ := h
  have n1 := next_b x.2.2 h3 hk 4
  have n2 := next_b (x.2.2.next 4).2 n1.2.1 (by omega) 40
  have n3 := next_b ((x.2.2.next 4).2.next 40).2 n2.2.1 (by omega) 12
  have n4 := next_b (((x.2.2.next 4).2.next 40).2.next 12).2 n3.2.1 (by omega) 2
  have a1 := n1.1.2 (by omega)
  have a2 := n2.1.2 (by omega)
  unfold smpStep
  refine ⟨by simp [h1], fun e he => ?_, wk n4.2.1 (by omega), by simp only; omega⟩
  simp only [List.mem_append, List.mem_cons, List.not_mem_nil, or_false] at he
  rcases he with he | he
  · exact h2 e he
  · subst he
    simp only
    have := n2.1.1
    split
    · omega
    · split <;> omega
theorem it_ok {x : SS} {k : Int} (h : SSok x 0 k) (hk : 0 ≤ k) : ∀ n, SSok (smpIt n x) n (k + 12 * n)
  | 0 => by simpa [smpIt] using h
  | n + 1 => by
    have := step_ok (it_ok h hk n) (by omega)
    have e : k + 12 * ((n + 1 : Nat) : Int) = k + 12 * (n : Int) + 12 := by omega
    rw [e]; exact this
def Src.samples (s : Src) (f n : Int) : SS := smpIt (s.next (n + 1)).1.toNat ([], f, (s.next (n + 1)).2)
end Go.Proofs.YtijokkaeofagoaaGreatDoor
set_option linter.unusedVariables false
set_option linter.constructorNameAsVariable false
set_option linter.unusedSimpArgs false
set_option maxRecDepth 20000
namespace Go.Proofs.YtijokkaeofagoaaGreatDoor
open Go Go.Vw

def Ag.mrg (a b : Ag) : Ag := if a.c = 0 then b else if b.c = 0 then a else ⟨a.c + b.c, a.s + b.s, if b.mn < a.mn then b.mn else a.mn, if a.mx < b.mx then b.mx else a.mx, a.f, b.l⟩
def Ag.cells (a : Ag) : List AV := [.int .i64 a.c, .int .i64 a.s, .int .i64 a.mn, .int .i64 a.mx, .int .i64 a.f, .int .i64 a.l]
def one (v : Int) : Ag := ⟨1, v, v, v, v, v⟩
def aggL (L : List Smp) : Ag := L.foldl (fun a s => a.mrg (one s.v)) default
theorem aggL_snoc {L : List Smp} {i : Nat} (h : i < L.length) : aggL (L.take (i + 1)) = (aggL (L.take i)).mrg (one (ix L i).v) := by
  unfold aggL; rw [take_snoc h, List.foldl_append]; rfl
def Ag.B (a : Ag) (n : Int) : Prop := a.c = n ∧ (-1000000 * n ≤ a.s ∧ a.s ≤ 1000000 * n) ∧ (n = 0 → a = default) ∧ (0 < n → a.some = true)
theorem mrg_B {a : Ag} {n v : Int} (h : a.B n) (hn : 0 ≤ n ∧ n < 100000) (hv : -1000000 ≤ v ∧ v ≤ 1000000) : (a.mrg (one v)).B (n + 1) := by
  obtain ⟨h1, h2, h3, h4⟩ := h
  unfold Ag.mrg
  by_cases h0 : a.c = 0
  · rw [if_pos h0]
    refine ⟨by simp only [one]; omega, by simp only [one]; omega, fun h => by omega, fun _ => ?_⟩
    unfold Ag.some one
    simp [within]; omega
  · rw [if_neg h0, if_neg (show ¬ (one v).c = 0 by simp [one])]
    have h5 := h4 (by omega)
    unfold Ag.some at h5
    simp [within] at h5
    refine ⟨by simp only [one]; omega, by simp only [one]; omega, fun h => by omega, fun _ => ?_⟩
    unfold Ag.some one
    simp only [within]
    have e1 : ∀ m, m ≤ a.mn → m ≤ v → (a.c + 1) * m ≤ a.s + v := fun m q1 q2 => by
      have : a.c * m ≤ a.c * a.mn := Int.mul_le_mul_of_nonneg_left q1 (by omega)
      have : (a.c + 1) * m = a.c * m + m := by rw [Int.add_mul]; omega
      omega
    have e2 : ∀ m, a.mx ≤ m → v ≤ m → a.s + v ≤ (a.c + 1) * m := fun m q1 q2 => by
      have : a.c * a.mx ≤ a.c * m := Int.mul_le_mul_of_nonneg_left q1 (by omega)
      have : (a.c + 1) * m = a.c * m + m := by rw [Int.add_mul]; omega
      omega
    by_cases m1 : v < a.mn <;> by_cases m2 : a.mx < v
    · rw [if_pos m1, if_pos m2]
      have := e1 v (by omega) (by omega)
      have := e2 v (by omega) (by omega)
      simp; omega
    · rw [if_pos m1, if_neg m2]
      have := e1 v (by omega) (by omega)
      have := e2 a.mx (by omega) (by omega)
      simp; omega
    · rw [if_neg m1, if_pos m2]
      have := e1 a.mn (by omega) (by omega)
      have := e2 v (by omega) (by omega)
      simp; omega
    · rw [if_neg m1, if_neg m2]
      have := e1 a.mn (by omega) (by omega)
      have := e2 a.mx (by omega) (by omega)
      simp; omega
theorem aggL_B {L : List Smp} (hL : L.length ≤ 100000) (hv : ∀ e ∈ L, -1000000 ≤ e.v ∧ e.v ≤ 1000000) : ∀ i : Nat, i ≤ L.length → (aggL (L.take i)).B i
  | 0, _ => ⟨rfl, show -1000000 * ((0 : Nat) : Int) ≤ 0 ∧ (0 : Int) ≤ 1000000 * ((0 : Nat) : Int) by omega, fun _ => rfl, fun h => absurd h (by simp)⟩
  | i + 1, h => by
    rw [aggL_snoc h]
    have := mrg_B (aggL_B hL hv i (by omega)) ⟨by omega, by omega⟩ (hv _ (getD_mem (L := L) h))
    simpa using this
def Ag.eqb (x y : Ag) : Bool := decide (x.c = y.c) && (decide (x.s = y.s) && (decide (x.mn = y.mn) && (decide (x.mx = y.mx) && (decide (x.f = y.f) && (decide (x.l = y.l) && true)))))
def smpsIn (L : List Smp) (a b : Int) : List Smp := L.filter fun e => within e.t a (b - 1)
end Go.Proofs.YtijokkaeofagoaaGreatDoor
set_option linter.unusedVariables false
set_option linter.constructorNameAsVariable false
set_option linter.unusedSimpArgs false
set_option maxRecDepth 20000
namespace Go.Proofs.YtijokkaeofagoaaGreatDoor
open Go Go.Vw

def Src.agg (s : Src) : Ag := aggL (s.samples 0 6).1
def srcOf (code : List UInt8) : Src := ⟨code, 0, (code.length : Int).tmod 1000⟩
end Go.Proofs.YtijokkaeofagoaaGreatDoor
set_option linter.unusedVariables false
set_option linter.constructorNameAsVariable false
set_option linter.unusedSimpArgs false
set_option maxRecDepth 20000
namespace Go.Proofs.YtijokkaeofagoaaGreatDoor
open Go Go.Vw

theorem ix_in {α : Type} [Inhabited α] {L : List α} {i : Nat} (h : i < L.length) : ix L i ∈ L := by rw [ix_lt h]; exact List.getElem_mem h
end Go.Proofs.YtijokkaeofagoaaGreatDoor
set_option linter.unusedVariables false
set_option linter.constructorNameAsVariable false
set_option linter.unusedSimpArgs false
set_option maxRecDepth 20000
namespace Go.Proofs.YtijokkaeofagoaaGreatDoor
open Go Go.Vw

def tch (x y : Int) (e : En) : Bool := decide ((if x > e.f then x else e.f) < (if y < e.t then y else e.t))
def adj : List En → Prop
  | e :: e' :: r => e.t = e'.f ∧ adj (e' :: r)
  | _ => True
theorem adj_ix : ∀ {M : List En}, adj M → ∀ i, i + 1 < M.length → (ix M i).t = (ix M (i + 1)).f
  | [], _, i, h => by simp at h
  | [e], _, i, h => by simp at h
  | e :: e' :: r, h, 0, _ => h.1
  | e :: e' :: r, h, i + 1, hi => adj_ix (M := e' :: r) h.2 i (by simpa using hi)
/-- what comes behind touches nothing -/
theorem cov_no {x y : Int} : ∀ {L : List En} {a b : Int}, runs L a = some b → (∀ e ∈ L, e.f < e.t) → y ≤ a → L.filter (tch x y) = []
  | [], a, b, _, _, _ => rfl
  | e :: r, a, b, h, hL, hy => by
    unfold runs at h
    split at h
    · rename_i ha
      have he := hL e (by simp)
      have : tch x y e = false := by
        unfold tch
        apply decide_eq_false
        split <;> split <;> omega
      rw [List.filter_cons_of_neg (by rw [this]; simp)]
      exact cov_no h (fun e he => hL e (by simp [he])) (by omega)
    · cases h
theorem runs_ge : ∀ {L : List En} {a b : Int}, runs L a = some b → (∀ e ∈ L, e.f < e.t) → a ≤ b
  | [], a, b, h, _ => by simp [runs] at h; omega
  | e :: r, a, b, h, hL => by
    unfold runs at h
    split at h
    · have := runs_ge h (fun e he => hL e (by simp [he]))
      have := hL e (by simp)
      omega
    · cases h
/-- from a range's midst on -/
theorem cov_mid {x y : Int} : ∀ {L : List En} {a b : Int}, runs L a = some b → (∀ e ∈ L, e.f < e.t) → x ≤ a → a < y → y ≤ b →
    adj (L.filter (tch x y)) ∧ ∃ e r, L.filter (tch x y) = e :: r ∧ e.f = a ∧ ∃ q l, L.filter (tch x y) = q ++ [l] ∧ y ≤ l.t
  | [], a, b, h, _, _, h1, h2 => by simp [runs] at h; omega
  | e :: r, a, b, h, hL, hx, h1, h2 => by
    unfold runs at h
    split at h
    · rename_i ha
      have he := hL e (by simp)
      have ht : tch x y e = true := by
        unfold tch
        apply decide_eq_true
        split <;> split <;> omega
      rw [List.filter_cons_of_pos ht]
      have hr : ∀ e ∈ r, e.f < e.t := fun e he => hL e (by simp [he])
      by_cases hy : y ≤ e.t
      · rw [cov_no h hr hy]
        exact ⟨trivial, e, [], rfl, ha, [], e, rfl, hy⟩
      · obtain ⟨q1, e', r', q2, q3, p, l, q4, q5⟩ := cov_mid (x := x) (a := e.t) h hr (by omega) (by omega) h2
        rw [q2] at q1 q4 ⊢
        refine ⟨⟨q3.symm, q1⟩, e, _, rfl, ha, e :: p, l, ?_, q5⟩
        rw [q4]; rfl
    · cases h
theorem cov {x y : Int} (hxy : x < y) : ∀ {L : List En} {a b : Int}, runs L a = some b → (∀ e ∈ L, e.f < e.t) → a ≤ x → y ≤ b →
    adj (L.filter (tch x y)) ∧ ∃ e r, L.filter (tch x y) = e :: r ∧ e.f ≤ x ∧ ∃ q l, L.filter (tch x y) = q ++ [l] ∧ y ≤ l.t
  | [], a, b, h, _, _, h2 => by simp [runs] at h; omega
  | e :: r, a, b, h, hL, hx, h2 => by
    unfold runs at h
    split at h
    · rename_i ha
      have he := hL e (by simp)
      have hr : ∀ e ∈ r, e.f < e.t := fun e he => hL e (by simp [he])
      by_cases hex : e.t ≤ x
      · have : tch x y e = false := by
          unfold tch
          apply decide_eq_false
          split <;> split <;> omega
        rw [List.filter_cons_of_neg (by rw [this]; simp)]
        exact cov hxy h hr hex h2
      · have ht : tch x y e = true := by
          unfold tch
          apply decide_eq_true
          split <;> split <;> omega
        rw [List.filter_cons_of_pos ht]
        by_cases hy : y ≤ e.t
        · rw [cov_no h hr hy]
          exact ⟨trivial, e, [], rfl, by omega, [], e, rfl, hy⟩
        · obtain ⟨q1, e', r', q2, q3, p, l, q4, q5⟩ := cov_mid (x := x) (a := e.t) h hr (by omega) (by omega) h2
          rw [q2] at q1 q4 ⊢
          refine ⟨⟨q3.symm, q1⟩, e, _, rfl, by omega, e :: p, l, ?_, q5⟩
          rw [q4]; rfl
    · cases h
/-- the low ends stay behind the next tier's high ends -/
def Low (s : Sta) : Prop := s.l0 ≤ s.h1 ∧ s.l1 ≤ s.h2
end Go.Proofs.YtijokkaeofagoaaGreatDoor
set_option linter.unusedVariables false
set_option linter.constructorNameAsVariable false
set_option linter.unusedSimpArgs false
set_option maxRecDepth 20000
namespace Go.Proofs.YtijokkaeofagoaaGreatDoor
open Go Go.Vw

structure Dr (i : Nat) (x : Sta) : Prop where
  ok : x.ok = true
  sq : x.seq ≤ i
  fe : x.fence ≤ 3 * (i : Int)
  len : x.es.length + x.ts.length ≤ i
end Go.Proofs.YtijokkaeofagoaaGreatDoor
set_option linter.unusedVariables false
set_option linter.constructorNameAsVariable false
set_option linter.unusedSimpArgs false
set_option maxRecDepth 20000
namespace Go.Proofs.YtijokkaeofagoaaGreatDoor
open Go Go.Vw

end Go.Proofs.YtijokkaeofagoaaGreatDoor
