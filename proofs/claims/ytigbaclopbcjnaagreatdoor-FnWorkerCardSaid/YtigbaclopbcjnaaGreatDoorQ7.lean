/- Contracts of functions that the claim reaches, and the plain law of what they compute; each theorem bears its own conditions. -/
import Derived.Test.YtigbaclopbcjnaaGreatDoorQ5
import Derived.Test.YtigbaclopbcjnaaGreatDoorQ6
import Derived.Test.YtigbaclopbcjnaaGreatDoorQ2
import Derived.Test.YtigbaclopbcjnaaGreatDoorV52
import Derived.Test.YtigbaclopbcjnaaGreatDoorQ3
import Derived.Test.YtigbaclopbcjnaaGreatDoorQ1
set_option linter.unusedVariables false
set_option linter.constructorNameAsVariable false
set_option linter.unusedSimpArgs false
set_option maxRecDepth 20000
namespace Go.Proofs.YtigbaclopbcjnaaGreatDoor
open Go Go.Vw
theorem nums6 {c : UInt8} {t : List UInt8} {N : List Int} (h : numsK c 6 t = some N) : ∃ a b d e f g, N = [a, b, d, e, f, g] := by
 unfold numsK at h
 split at h
 · rename_i hc
   injection h with h
   have : N.length = 6 := by rw [← h, List.length_map]; exact hc.1
   match N, this with
   | [a, b, d, e, f, g], _ => exact ⟨a, b, d, e, f, g, rfl⟩
 · cases h
def agV (t : List UInt8) : Ag := match numsK 44 6 t with | some [a, b, c, d, e, f] => ⟨a, b, c, d, e, f⟩ | _ => ⟨0, 0, 0, 0, 0, 0⟩
def agOk (t : List UInt8) : Bool := (numsK 44 6 t).isSome && (agV t).ok
theorem readAgg_fn (t : List UInt8) (hl : t.length ≤ 1048576) : VFn Tryz.prog 186 [.str (B t)] (.tup [(agV t).av, .bool (agOk t)]) := by
 unfold agOk agV
 cases hn : numsK 44 6 t with
 | none =>
   refine VFn.introC Tryz.call186 Tryz.func186 rfl rfl ?_
   conv => whnf
   refine CallC.nl _ (numbers_no t 44 6 (by omega) (by decide) hn) ?_ ?_
   · exact rfl
   exact And.intro trivial (AVle.refl _)
 | some N =>
   obtain ⟨a, b, c, d, e, f, rfl⟩ := nums6 hn
   refine VFn.introC Tryz.call186 Tryz.func186 rfl rfl ?_
   conv => whnf
   refine CallC.nl _ (numbers_yes t 44 6 (by omega) (by decide) hn) ?_ ?_
   · exact rfl
   refine DrawC.mq 20 rfl (by kernel_rfl) ?_
   iterate 6 (refine And.intro ⟨by decide, by show (_ : Int) < ((6 : Nat) : Int); decide⟩ ?_)
   refine DrawC.mq 3 rfl (by kernel_rfl) ?_
   refine PCallQ.sca _ (AggOK_fn ⟨a, b, c, d, e, f⟩) rfl ?_
   exact And.intro trivial (AVle.refl _)
theorem l02Read_fn (t : List UInt8) (hl : t.length ≤ 1000000) : VFn Tryz.prog 166 [.str (B t)] (.tup [(if agOk t = true then agV t else ⟨0, 0, 0, 0, 0, 0⟩ : Ag).av, .bool (agOk t)]) := by
 unfold agOk agV
 cases hn : numsK 44 6 t with
 | none =>
   refine VFn.introC Tryz.call166 Tryz.func166 rfl rfl ?_
   conv => whnf
   refine CallC.nl _ (l02Numbers_gen t 44 6 hl _ (fun N h => by rw [hn] at h; cases h) (fun h => rfl)) ?_ ?_
   · exact rfl
   exact And.intro trivial (AVle.refl _)
 | some N =>
   obtain ⟨a, b, c, d, e, f, rfl⟩ := nums6 hn
   have k := specAggOK_fn ⟨a, b, c, d, e, f⟩
   show VFn _ _ _ (.tup [(if (Ag.mk a b c d e f).ok = true then Ag.mk a b c d e f else ⟨0, 0, 0, 0, 0, 0⟩ : Ag).av, .bool (Ag.mk a b c d e f).ok])
   by_cases ho : (Ag.mk a b c d e f).ok = true
   · rw [ho] at k ⊢
     refine VFn.introC Tryz.call166 Tryz.func166 rfl rfl ?_
     conv => whnf
     refine CallC.nl _ (l02Numbers_gen t 44 6 hl _ (fun N h => by rw [hn] at h; cases h; rfl) (fun h => by rw [hn] at h; cases h)) ?_ ?_
     · exact rfl
     refine DrawC.mq 20 rfl (by kernel_rfl) ?_
     iterate 6 (refine And.intro ⟨by decide, by show (_ : Int) < ((6 : Nat) : Int); decide⟩ ?_)
     conv => whnf
     refine CallC.sca _ (k) ?_ ?_
     · exact rfl
     exact And.intro trivial (AVle.refl _)
   · have ho : (Ag.mk a b c d e f).ok = false := by simpa using ho
     rw [ho] at k ⊢
     refine VFn.introC Tryz.call166 Tryz.func166 rfl rfl ?_
     conv => whnf
     refine CallC.nl _ (l02Numbers_gen t 44 6 hl _ (fun N h => by rw [hn] at h; cases h; rfl) (fun h => by rw [hn] at h; cases h)) ?_ ?_
     · exact rfl
     refine DrawC.mq 20 rfl (by kernel_rfl) ?_
     iterate 6 (refine And.intro ⟨by decide, by show (_ : Int) < ((6 : Nat) : Int); decide⟩ ?_)
     conv => whnf
     refine CallC.sca _ (k) ?_ ?_
     · exact rfl
     exact And.intro trivial (AVle.refl _)
def bOk (w : List UInt8) : Bool := (Lib.cut w [58]).2.2 && (numOk (Lib.cut w [58]).1 && agOk (Lib.cut w [58]).2.1)
def bv (w : List UInt8) : Bk := ⟨atoiV (Lib.cut w [58]).1, agV (Lib.cut w [58]).2.1⟩
theorem numOk_58 {t : List UInt8} {c : UInt8} (h45 : c ≠ 45) (hc : c.toNat < 48 ∨ 57 < c.toNat) (h : c ∈ t) : numOk t = false := by
 cases hb : numOk t
 · rfl
 · obtain ⟨n, rfl, _⟩ := num_of hb
   exact absurd rfl (itoa_ne h45 hc c h)
theorem cutP_has (c x : UInt8) (hx : x ≠ c) : ∀ (l cur : List UInt8), x ∈ cur ∨ x ∈ l → ∃ p ∈ cutP c cur l, x ∈ p
 | [], cur, h => ⟨cur, by simp [cutP], by rcases h with h | h; exact h; cases h⟩
 | y :: r, cur, h => by
   unfold cutP
   split
   · rename_i hy
     rcases h with h | h
     · exact ⟨cur, by simp, h⟩
     · rcases List.mem_cons.1 h with rfl | h
       · exact absurd (by simpa using hy) hx
       · obtain ⟨p, hp, q⟩ := cutP_has c x hx r [] (.inr h)
         exact ⟨p, List.mem_cons_of_mem _ hp, q⟩
   · obtain ⟨p, hp, q⟩ := cutP_has c x hx r (cur ++ [y]) (by
      rcases h with h | h
      · exact .inl (by simp [h])
      · rcases List.mem_cons.1 h with rfl | h
        · exact .inl (by simp)
        · exact .inr h)
     exact ⟨p, hp, q⟩
theorem agOk_58 {t : List UInt8} (h : 58 ∈ t) : agOk t = false := by
 have : numsK 44 6 t = none := by
  unfold numsK
  rw [if_neg]
  rintro ⟨_, h2⟩
  obtain ⟨p, hp, q⟩ := cutP_has 44 58 (by decide) t [] (.inr h)
  have := List.all_eq_true.1 h2 p hp
  rw [numOk_58 (by decide) (by decide) q] at this
  cases this
 unfold agOk; rw [this]; rfl
theorem bOk_cut (w : List UInt8) : (∃ a b, cutP 58 [] w = [a, b] ∧ bOk w = (numOk a && agOk b) ∧ bv w = ⟨atoiV a, agV b⟩ ∧ a.length ≤ w.length ∧ b.length ≤ w.length) ∨ ((cutP 58 [] w).length ≠ 2 ∧ bOk w = false) := by
 rcases first_c 58 w with h | ⟨a, b, rfl, ha⟩
 · right
   refine ⟨by rw [cutP_none 58 w [] h]; simp, ?_⟩
   unfold bOk; rw [cut_none h]; rfl
 · rcases first_c 58 b with h | ⟨a2, b2, rfl, ha2⟩
   · left
     refine ⟨a, b, by rw [cutP_app 58 a [] b ha, cutP_none 58 b [] h]; simp, ?_, ?_, by simp, by simp <;> omega⟩
     · unfold bOk; rw [cut_at ha]; simp
     · unfold bv; rw [cut_at ha]
   · right
     have := cutP_len 58 b2 []
     refine ⟨by rw [cutP_app 58 a [] _ ha, cutP_app 58 a2 [] b2 ha2]; simp only [List.nil_append, List.length_cons]; omega, ?_⟩
     unfold bOk; rw [cut_at ha]
     simp only
     rw [agOk_58 (t := a2 ++ 58 :: b2) (by simp)]
     simp
def rbOk (t : List UInt8) : Bool := (wds t).all bOk && bksOK ((wds t).map bv)
def rbV (t : List UInt8) : List Bk := (wds t).map bv
theorem bks_8 {L : List Bk} (h : bksOK L = true) : L.length ≤ 8 := by
 unfold bksOK at h
 rw [Bool.and_eq_true] at h
 exact of_decide_eq_true h.1
theorem rbOk_pts (t : List UInt8) : rbOk t = ((pts t).all bOk && bksOK ((pts t).map bv)) := by
 have h := pts_wds t
 unfold rbOk
 rcases Nat.lt_or_ge 8 (wds t).length with h8 | h8
 · have a : bksOK ((wds t).map bv) = false := by
    rw [Bool.eq_false_iff]; intro q; have := bks_8 q; simp at this; omega
   have b : bksOK ((pts t).map bv) = false := by
    rw [Bool.eq_false_iff]; intro q; have := bks_8 q; rw [List.length_map, h.2 h8] at this; omega
   rw [a, b]; simp
 · rw [h.1 h8]
theorem rbV_pts {t : List UInt8} (h : rbOk t = true) : rbV t = (pts t).map bv := by
 simp only [rbOk, Bool.and_eq_true] at h
 have := bks_8 h.2
 rw [List.length_map] at this
 unfold rbV
 rw [(pts_wds t).1 this]
theorem cut_len (w : List UInt8) : (Lib.cut w [58]).1.length ≤ w.length ∧ (Lib.cut w [58]).2.1.length ≤ w.length := by
 rcases first_c 58 w with h | ⟨a, b, rfl, ha⟩
 · rw [cut_none h]; simp
 · rw [cut_at ha]; simp; omega
theorem readBuckets_gen (t : List UInt8) (hl : t.length ≤ 1048576) (R : AV) (hy : rbOk t = true → R = .tup [bks (rbV t), .bool true]) (hn : rbOk t = false → R = .tup [.any, .bool false]) : VFn Tryz.prog 155 [.str (B t)] R := by
 have e0 := rbOk_pts t
 have e1 := fun h => rbV_pts (t := t) h
 have hpl := pts_piece t
 have hc := parts_fn t hl
 obtain ⟨P, hP⟩ : ∃ P, P = pts t := ⟨_, rfl⟩
 rw [← hP] at e0 e1 hpl hc
 have hPl : P.length ≤ 9 := by
  rw [hP]
  rcases Nat.lt_or_ge 8 (wds t).length with h8 | h8
  · rw [(pts_wds t).2 h8]; omega
  · rw [(pts_wds t).1 h8]; omega
 clear hP
 refine VFn.introC Tryz.call155 Tryz.func155 rfl rfl ?_
 conv => whnf
 refine CallC.nl _ (hc) ?_ ?_
 · exact rfl
 refine LoopC.mk (fun i : Nat => i ≤ P.length ∧ ∀ j, j < i → bOk (ix P j) = true) (fun i => [(4, .osl 0), (16, txts P), (17, .int .i64 P.length), (18, .int .i64 i)])
  (fun i => [(0, .arr 141 7 ((P.take i).map bv).length fun j => (ix ((P.take i).map bv) j).row)]) 1 (fun i => P.length - i) 0
  ⟨⟨Nat.zero_le _, fun j hj => absurd hj (Nat.not_lt_zero j)⟩, [(0, 0)], rfl, rfl, ⟨AVle.refl _, AVle.refl _, AVle.refl _, AVle.refl _, trivial⟩, ⟨MOle.arr rfl fun i hi => absurd hi (Nat.not_lt_zero i), trivial⟩⟩ ?_
 intro i hi
 obtain ⟨hi, hall⟩ := hi
 refine Grd.intro (fun h2 => ?_) (fun h2 => ?_)
 · have hin : i < P.length := by have := of_decide_eq_true h2; omega
   have hpi := hpl _ (getD_mem hin)
   have hcl := cut_len (ix P i)
   have c1 := Cut_fn (ix P i) 58 (by omega)
   obtain ⟨x, hcut⟩ : ∃ x, Lib.cut (ix P i) [58] = x := ⟨_, rfl⟩
   obtain ⟨a, b, r⟩ := x
   have e3 : bOk (ix P i) = (r && (numOk a && agOk b)) := by unfold bOk; rw [hcut]
   have e4 : bv (ix P i) = ⟨atoiV a, agV b⟩ := by unfold bv; rw [hcut]
   rw [hcut] at c1 hcl
   simp only at c1
   have hcl1 : a.length ≤ 1048576 := by have := hcl.1; simp only at this; omega
   have hcl2 : b.length ≤ 1048576 := by have := hcl.2; simp only at this; omega
   have c2 := number_fn a (by omega)
   have c3 := readAgg_fn b hcl2
   clear hcut hcl
   have cg : ∀ g : Bool, agOk b = g → VFn Tryz.prog 186 [.str (B b)] (.tup [(agV b).av, .bool g]) := fun g h => by rw [h] at c3; exact c3
   refine And.intro (by omega) ?_
   by_cases h3 : bOk (ix P i) = true
   · have q := h3
     rw [e3] at q
     simp only [Bool.and_eq_true] at q
     obtain ⟨q1, q2, q3⟩ := q
     rw [q1] at c1
     rw [q2] at c2
     have c3 := cg true q3
     conv => whnf
     refine CallC.sca _ (c1) ?_ ?_
     · exact rfl
     conv => whnf
     refine CallC.sca _ (c2) ?_ ?_
     · exact rfl
     conv => whnf
     refine CallC.sca _ (c3) ?_ ?_
     · exact rfl
     refine And.intro ⟨show (((P.take i).map bv).length + 1) * 56 ≤ 140737488355328 by simp; omega, all1 rfl⟩ ?_
     refine And.intro (inI64 (by omega) (by omega)) ?_
     refine ⟨i + 1, ⟨hin, fun j hj => ?_⟩, by omega, [(3, 0)], rfl, rfl, ⟨AVle.refl _, AVle.refl _, AVle.refl _, AVle.of_eq (congrArg (AV.int .i64) (by simp)), trivial⟩, ⟨arr_next (f := Bk.row) (map_take_snoc hin) (by rw [e4]; rfl), trivial⟩⟩
     rcases Nat.lt_or_ge j i with h' | h'
     · exact hall j h'
     · rw [show j = i by omega]; exact h3
   · have h3 : bOk (ix P i) = false := by simpa using h3
     rw [hn (by rw [e0, bad_all hin h3]; rfl)]
     rw [e3] at h3
     have c3 := cg _ rfl
     generalize numOk a = q2 at c2 h3
     generalize agOk b = q3 at c3 h3
     cases r <;> cases q2 <;> cases q3
     all_goals first | (exfalso; cases h3; done) | skip
     all_goals
      conv => whnf
      refine CallC.sca _ (c1) ?_ ?_
      · exact rfl
      conv => whnf
      refine CallC.sca _ (c2) ?_ ?_
      · exact rfl
      conv => whnf
      refine CallC.sca _ (c3) ?_ ?_
      · exact rfl
      exact And.intro trivial (AVle.tup (AVsle.cons (AVle.any _) (AVsle.cons (AVle.refl _) AVsle.nil)))
 · have : i = P.length := by have := of_decide_eq_false h2; omega
   subst this
   have e : P.take P.length = P := List.take_of_length_le (Nat.le_refl _)
   have hA : P.all bOk = true := pre_all hall
   rw [hA, Bool.true_and] at e0
   rw [e]
   have c := BucketsOK_fn (P.map bv)
   cases hq : bksOK (P.map bv)
   · rw [hq] at c e0
     rw [hn e0]
     conv => whnf
     refine CallC.sca _ (c) ?_ ?_
     · exact rfl
     exact And.intro trivial (AVle.tup (AVsle.cons (AVle.any _) (AVsle.cons (AVle.refl _) AVsle.nil)))
   · rw [hq] at c e0
     rw [hy e0, e1 e0]
     conv => whnf
     refine CallC.sca _ (c) ?_ ?_
     · exact rfl
     exact And.intro trivial (AVle.refl _)
theorem l03ToBuckets_gen (t : List UInt8) (hl : t.length ≤ 1000000) (R : AV) (hy : rbOk t = true → R = .tup [bks (rbV t), .bool true]) (hn : rbOk t = false → R = .tup [.any, .bool false]) : VFn Tryz.prog 140 [.str (B t)] R := by
 have hb := B_nil t
 by_cases h0 : t = []
 · have e1 : rbOk t = true := by rw [h0]; rfl
   have e2 : rbV t = [] := by rw [h0]; rfl
   rw [hy e1, e2]
   refine VFn.introC Tryz.call140 Tryz.func140 rfl rfl ?_
   refine Grd.intro (fun g => ?_) (fun g => ?_)
   · exact And.intro trivial (AVle.tup (AVsle.cons (AVle.sl rfl fun j hj => absurd hj (Nat.not_lt_zero j)) (AVsle.cons (AVle.refl _) AVsle.nil)))
   · exact absurd h0 (of_decide_eq_false (hb.symm.trans g))
 have hpl := wds_piece t
 have hwl := wds_len t
 have hc := l00Cut_fn t 32 (by omega)
 have ew : wds t = cutP 32 [] t := by unfold wds; rw [if_neg h0]
 rw [← ew] at hc
 have e0 : rbOk t = ((wds t).all bOk && bksOK ((wds t).map bv)) := rfl
 have e1 : rbV t = (wds t).map bv := rfl
 obtain ⟨P, hP⟩ : ∃ P, P = wds t := ⟨_, rfl⟩
 rw [← hP] at e0 e1 hpl hwl hc
 clear hP ew
 refine VFn.introC Tryz.call140 Tryz.func140 rfl rfl ?_
 refine Grd.intro (fun g => ?_) (fun g => ?_)
 · exact absurd (of_decide_eq_true (hb.symm.trans g)) h0
 conv => whnf
 refine CallC.nl _ (hc) ?_ ?_
 · exact rfl
 refine LoopC.mk (fun i : Nat => i ≤ P.length ∧ ∀ j, j < i → bOk (ix P j) = true) (fun i => [(4, .osl 0), (5, txts P), (6, .int .i64 i)])
  (fun i => [(0, .arr 141 7 ((P.take i).map bv).length fun j => (ix ((P.take i).map bv) j).row)]) 1 (fun i => P.length - i) 0
  ⟨⟨Nat.zero_le _, fun j hj => absurd hj (Nat.not_lt_zero j)⟩, [(0, 0)], rfl, rfl, ⟨AVle.refl _, AVle.refl _, AVle.refl _, trivial⟩, ⟨MOle.arr rfl fun i hi => absurd hi (Nat.not_lt_zero i), trivial⟩⟩ ?_
 intro i hi
 obtain ⟨hi, hall⟩ := hi
 refine Grd.intro (fun h2 => ?_) (fun h2 => ?_)
 · have hin : i < P.length := by have := of_decide_eq_true h2; omega
   have hpi := hpl _ (getD_mem hin)
   have c1 := l00Cut_fn (ix P i) 58 (by omega)
   refine And.intro (by omega) ?_
   rcases bOk_cut (ix P i) with ⟨a, b, hcut, e3, e4, la, lb⟩ | ⟨hcut, e3⟩
   · rw [hcut] at c1
     have c2 := l02Number_fn a (by omega)
     have c3 := l02Read_fn b (by omega)
     have cg : ∀ g : Bool, agOk b = g → VFn Tryz.prog 166 [.str (B b)] (.tup [(if g = true then agV b else ⟨0, 0, 0, 0, 0, 0⟩ : Ag).av, .bool g]) := fun g h => by rw [h] at c3; exact c3
     by_cases h3 : bOk (ix P i) = true
     · have q := h3
       rw [e3] at q
       simp only [Bool.and_eq_true] at q
       obtain ⟨q2, q3⟩ := q
       rw [q2] at c2
       have c3 := cg true q3
       rw [if_pos rfl] at c2 c3
       conv => whnf
       refine CallC.nl _ (c1) ?_ ?_
       · exact rfl
       refine And.intro ⟨by decide, by show (0 : Int) < ((2 : Nat) : Int); decide⟩ ?_
       conv => whnf
       refine CallC.sca _ (c2) ?_ ?_
       · exact rfl
       refine And.intro ⟨by decide, by show (1 : Int) < ((2 : Nat) : Int); decide⟩ ?_
       conv => whnf
       refine CallC.sca _ (c3) ?_ ?_
       · exact rfl
       refine And.intro ⟨show (((P.take i).map bv).length + 1) * 56 ≤ 140737488355328 by simp; omega, all1 rfl⟩ ?_
       refine And.intro (inI64 (by omega) (by omega)) ?_
       refine ⟨i + 1, ⟨hin, fun j hj => ?_⟩, by omega, [(3, 0)], rfl, rfl, ⟨AVle.refl _, AVle.refl _, AVle.of_eq (congrArg (AV.int .i64) (by simp)), trivial⟩, ⟨arr_next (f := Bk.row) (map_take_snoc hin) (by rw [e4]; rfl), trivial⟩⟩
       rcases Nat.lt_or_ge j i with h' | h'
       · exact hall j h'
       · rw [show j = i by omega]; exact h3
     · have h3 : bOk (ix P i) = false := by simpa using h3
       rw [hn (by rw [e0, bad_all hin h3]; rfl)]
       rw [e3] at h3
       have c3 := cg _ rfl
       clear cg
       generalize numOk a = q2 at c2 h3
       generalize agOk b = q3 at c3 h3
       cases q2 <;> cases q3
       all_goals first | (exfalso; cases h3; done) | skip
       all_goals
        simp only [if_true, Bool.false_eq_true, if_false] at c2 c3
        conv => whnf
        refine CallC.nl _ (c1) ?_ ?_
        · exact rfl
        refine And.intro ⟨by decide, by show (0 : Int) < ((2 : Nat) : Int); decide⟩ ?_
        conv => whnf
        refine CallC.sca _ (c2) ?_ ?_
        · exact rfl
        refine And.intro ⟨by decide, by show (1 : Int) < ((2 : Nat) : Int); decide⟩ ?_
        conv => whnf
        refine CallC.sca _ (c3) ?_ ?_
        · exact rfl
        exact And.intro trivial (AVle.tup (AVsle.cons (AVle.any _) (AVsle.cons (AVle.refl _) AVsle.nil)))
   · rw [hn (by rw [e0, bad_all hin e3]; rfl)]
     obtain ⟨Q, hQ⟩ : ∃ Q, Q = cutP 58 [] (ix P i) := ⟨_, rfl⟩
     rw [← hQ] at c1 hcut
     conv => whnf
     refine CallC.nl _ (c1) ?_ ?_
     · exact rfl
     refine Grd.intro (fun g2 => ?_) (fun g2 => ?_)
     · exact And.intro trivial (AVle.tup (AVsle.cons (AVle.any _) (AVsle.cons (AVle.refl _) AVsle.nil)))
     · exfalso
       have g2 : (!decide ((Q.length : Int) = 2)) = false := g2
       simp at g2; omega
 · have : i = P.length := by have := of_decide_eq_false h2; omega
   subst this
   have e : P.take P.length = P := List.take_of_length_le (Nat.le_refl _)
   have hA : P.all bOk = true := pre_all hall
   rw [hA, Bool.true_and] at e0
   rw [e]
   have c := specBucketsOK_fn (P.map bv)
   cases hq : bksOK (P.map bv)
   · rw [hq] at c e0
     rw [hn e0]
     conv => whnf
     refine CallC.sca _ (c) ?_ ?_
     · exact rfl
     exact And.intro trivial (AVle.tup (AVsle.cons (AVle.any _) (AVsle.cons (AVle.refl _) AVsle.nil)))
   · rw [hq] at c e0
     rw [hy e0, e1]
     conv => whnf
     refine CallC.sca _ (c) ?_ ?_
     · exact rfl
     exact And.intro trivial (AVle.refl _)
theorem join_has {c x : UInt8} : ∀ {L : List (List UInt8)}, x ∈ Lib.join L [c] → x = c ∨ ∃ y ∈ L, x ∈ y
 | [], h => by simp [Lib.join, List.intercalate] at h
 | [a], h => by rw [Lib.join_one] at h; exact .inr ⟨a, by simp, h⟩
 | a :: b :: r, h => by
   have e : Lib.join (a :: b :: r) [c] = a ++ c :: Lib.join (b :: r) [c] := by simp [Lib.join, List.intercalate, List.intersperse]
   rw [e, List.mem_append, List.mem_cons] at h
   rcases h with h | rfl | h
   · exact .inr ⟨a, by simp, h⟩
   · exact .inl rfl
   · rcases join_has h with h | ⟨y, hy, q⟩
     · exact .inl h
     · exact .inr ⟨y, List.mem_cons_of_mem _ hy, q⟩
theorem atext_has {a : Ag} {x c : UInt8} (h45 : c ≠ 45) (h44 : c ≠ 44) (hc : c.toNat < 48 ∨ 57 < c.toNat) (h : x ∈ atext a) : x ≠ c := by
 rcases join_has h with rfl | ⟨y, hy, q⟩
 · exact fun e => h44 e.symm
 · obtain ⟨n, _, rfl⟩ := List.mem_map.1 hy
   exact itoa_ne h45 hc x q
theorem bkText_eq (b : Bk) : bkText b = Lib.itoa b.t ++ 58 :: atext b.a := by unfold bkText; rw [join2]; simp
theorem bkText_32 (b : Bk) : ∀ x ∈ bkText b, x ≠ 32 := by
 intro x hx
 rw [bkText_eq, List.mem_append, List.mem_cons] at hx
 rcases hx with hx | rfl | hx
 · exact itoa_ne (by decide) (by decide) x hx
 · decide
 · exact atext_has (by decide) (by decide) (by decide) hx
theorem bkText_ne (b : Bk) : bkText b ≠ [] := by rw [bkText_eq]; simp
theorem bv_text {b : Bk} (h : b.ok) : bOk (bkText b) = true ∧ bv (bkText b) = b := by
 have e : Lib.cut (bkText b) [58] = (Lib.itoa b.t, atext b.a, true) := by
  rw [bkText_eq]; exact cut_at (itoa_ne (by decide) (by decide))
 have hn := num_back (n := b.t) (by have := h.1; omega) (by have := h.1; omega)
 have ha : numsK 44 6 (atext b.a) = some b.a.six := nums_back (c := 44) (N := b.a.six) (by decide) (by decide) (by simp [Ag.six]) (fun n hn => by have := six_b h.2 n hn; omega)
 have hv : agV (atext b.a) = b.a := by unfold agV; rw [ha]; rfl
 unfold bOk bv agOk
 rw [e]
 simp only
 rw [hn.1, hn.2, ha, hv, h.2]
 exact ⟨rfl, rfl⟩
theorem wds_bks (L : List Bk) : wds (bksText L) = L.map bkText := by
 unfold bksText
 exact wds_join (fun x hx => by obtain ⟨s, _, rfl⟩ := List.mem_map.1 hx; exact bkText_ne s) (fun x hx => by obtain ⟨s, _, rfl⟩ := List.mem_map.1 hx; exact bkText_32 s)
theorem rbV_text {L : List Bk} (h : ∀ b ∈ L, b.ok) : rbV (bksText L) = L := by
 unfold rbV
 rw [wds_bks, List.map_map]
 exact (List.map_congr_left fun s hs => (bv_text (h s hs)).2).trans (List.map_id' L)
theorem rbOk_text {L : List Bk} (h : ∀ b ∈ L, b.ok) (hk : bksOK L = true) : rbOk (bksText L) = true := by
 have e := rbV_text h
 unfold rbV at e
 unfold rbOk
 rw [e, hk, wds_bks]
 simp only [Bool.and_true, List.all_map]
 exact List.all_eq_true.2 fun s hs => (bv_text (h s hs)).1
theorem key_fields {t n w : Nat} (ht : t ≤ 2) (hn : n ≤ 999999) (hw : w ≤ 999999) : kOk (keyB t n w) = true ∧ kT (keyB t n w) = t ∧ kN (keyB t n w) = n ∧ kW (keyB t n w) = w := by
 have h := parse_key ht hn hw
 unfold kOk kT kN kW
 rw [h]
 exact ⟨rfl, rfl, rfl, rfl⟩
theorem key_size (t n w : Nat) : (keyB t n w).length ≤ 17 ∧ 13 ≤ (keyB t n w).length := by
 unfold keyB pre
 split <;> simp [six6]
theorem dataKey_fn (t : Nat) (n w : Int) (ht : t ≤ 2) (hn : within n 0 999999 = true) (hw : within w 0 999999 = true) : VFn Tryz.prog 78 [.int .i64 (t : Int), .int .i64 n, .int .i64 w] (.str (B (keyB t n.toNat w.toNat))) := by
 have e : keyB t n.toNat w.toNat = pre t ++ six6 n.toNat ++ [45] ++ six6 w.toNat := by unfold keyB; simp
 have h : t = 0 ∨ t = 1 ∨ t = 2 := by omega
 rcases h with rfl | rfl | rfl
 all_goals
  refine VFn.introC Tryz.call78 Tryz.func78 rfl rfl ?_
  refine DrawC.mq 12 rfl (by kernel_rfl) ?_
  refine PCallQ.nl _ (dataPrefixes_fn) rfl ?_
  refine And.intro ⟨by decide, by decide⟩ ?_
  refine PCallQ.sca _ (six_fn n hn) rfl ?_
  refine And.intro (show (_ : Int) ≤ 9223372036854775807 by rw [B_size, B_size]; simp [six6, pre]) ?_
  refine And.intro (show (((B _ ++ B _).size + (B [45]).size : Nat) : Int) ≤ 9223372036854775807 by rw [B_app, B_size, B_size]; simp [six6, pre]) ?_
  refine PCallQ.sca _ (six_fn w hw) rfl ?_
  refine And.intro (show (((B _ ++ B _ ++ B [45]).size + (B _).size : Nat) : Int) ≤ 9223372036854775807 by rw [B_app, B_app, B_size, B_size]; simp [six6, pre]) ?_
  exact And.intro trivial (AVle.of_eq (congrArg AV.str (show B _ ++ B _ ++ B [45] ++ B _ = _ by rw [e, B_app, B_app, B_app]; rfl)))
structure Src where
 code : List UInt8
 at_ : Int
 seed : Int
abbrev byts (L : List UInt8) : AV := .sl 1 L.length fun i => [.int .u8 ((ix L i).toNat : Int)]
def Src.row (s : Src) : List AV := [byts s.code, .int .i64 s.at_, .int .i64 s.seed]
def Src.ok (s : Src) (k : Int) : Prop := (0 ≤ s.at_ ∧ s.at_ ≤ k) ∧ (0 ≤ s.seed ∧ s.seed < 2147483648) ∧ s.code.length ≤ 1000000000
def Src.chr (s : Src) : Int := (ix s.code (s.at_ + 1 - 1).toNat).toNat
def Src.sd (s : Src) : Int := (s.seed * 1103515245 + 12345).tmod 2147483648
def Src.byte (s : Src) : Int × Src :=
 if s.at_ + 1 ≤ s.code.length then (s.chr, { s with at_ := s.at_ + 1, seed := (s.seed * 31 + s.chr + 7).tmod 2147483648 })
 else if 3000 < s.at_ + 1 then (0, { s with at_ := s.at_ + 1 })
 else ((s.sd.tdiv 65536).tmod 256, { s with at_ := s.at_ + 1, seed := s.sd })
theorem tmod_b {n m : Int} (h : 0 ≤ n) (hm : 0 < m) : 0 ≤ n.tmod m ∧ n.tmod m < m := by
 rw [Int.tmod_eq_emod_of_nonneg h]
 exact ⟨Int.emod_nonneg _ (by omega), Int.emod_lt_of_pos _ hm⟩
theorem tdiv_b {n : Int} {m : Int} (h : 0 ≤ n) (hm : 0 < m) : 0 ≤ n.tdiv m ∧ n.tdiv m ≤ n := by
 rw [Int.tdiv_eq_ediv_of_nonneg h]
 exact ⟨Int.ediv_nonneg h (by omega), Int.ediv_le_self _ h⟩
theorem chr_b (s : Src) : 0 ≤ s.chr ∧ s.chr ≤ 255 := by
 unfold Src.chr
 have := (ix s.code (s.at_ + 1 - 1).toNat).toNat_lt
 omega
theorem byte_b (s : Src) {k : Int} (h : s.ok k) : (0 ≤ s.byte.1 ∧ s.byte.1 ≤ 255) ∧ s.byte.2.ok (k + 1) ∧ s.byte.2.code = s.code := by
 obtain ⟨⟨a0, a1⟩, ⟨s0, s1⟩, hc⟩ := h
 have hch := chr_b s
 have hsd := tmod_b (n := s.seed * 1103515245 + 12345) (m := 2147483648) (by omega) (by omega)
 unfold Src.byte
 split
 · refine ⟨hch, ⟨⟨by simp only; omega, by simp only; omega⟩, ?_, hc⟩, rfl⟩
   exact tmod_b (by omega) (by omega)
 · split
   · exact ⟨by simp, ⟨⟨by simp only; omega, by simp only; omega⟩, ⟨s0, s1⟩, hc⟩, rfl⟩
   · refine ⟨?_, ⟨⟨by simp only; omega, by simp only; omega⟩, hsd, hc⟩, rfl⟩
     have h1 := tdiv_b (n := s.sd) (m := 65536) hsd.1 (by omega)
     have h2 := tmod_b (n := s.sd.tdiv 65536) (m := 256) h1.1 (by omega)
     simp only; omega
theorem byte_fn (s : Src) (h : s.ok 1000000000) : FnM Tryz.prog 71 1 [.bptr 0 0] [(0, .box s.row)] (.int .i64 s.byte.1) [(0, .box s.byte.2.row)] 1 := by
 have h' := h
 obtain ⟨⟨a0, a1⟩, ⟨s0, s1⟩, hc⟩ := h
 have hch := chr_b s
 have hsd := tmod_b (n := s.seed * 1103515245 + 12345) (m := 2147483648) (by omega) (by omega)
 obtain ⟨R, hR⟩ : ∃ R, R = s.byte := ⟨_, rfl⟩
 rw [← hR]
 refine FnM.introC Tryz.call71 Tryz.func71 rfl rfl ?_
 refine And.intro (inI64 (by omega) (by omega)) ?_
 refine DrawC.mq 10 rfl (by kernel_rfl) ?_
 refine Grd.intro (fun g1 => ?_) (fun g1 => ?_)
 · have g1 : s.at_ + 1 ≤ s.code.length := of_decide_eq_true g1
   have hR' : R = (s.chr, { s with at_ := s.at_ + 1, seed := (s.seed * 31 + s.chr + 7).tmod 2147483648 }) := by rw [hR, Src.byte, if_pos g1]
   refine DrawC.mq 23 rfl (by kernel_rfl) ?_
   refine And.intro (inI64 (by omega) (by omega)) ?_
   refine And.intro (inI64 (by omega) (by omega)) ?_
   refine And.intro ⟨by omega, by omega⟩ ?_
   refine And.intro (show inI .i64 s.chr from inI64 (by omega) (by omega)) ?_
   refine And.intro (show inI .i64 (s.seed * 31 + s.chr) from inI64 (by omega) (by omega)) ?_
   refine And.intro (show inI .i64 (s.seed * 31 + s.chr + 7) from inI64 (by omega) (by omega)) ?_
   refine And.intro (by decide) ?_
   refine DrawC.mq 13 rfl (by kernel_rfl) ?_
   refine And.intro (inI64 (by omega) (by omega)) ?_
   refine And.intro ⟨by omega, by omega⟩ ?_
   refine And.intro (show inI .i64 s.chr from inI64 (by omega) (by omega)) ?_
   subst hR'
   exact And.intro trivial ⟨[(0, 0)], rfl, AVle.refl _, ⟨MOle.refl _, trivial⟩⟩
 · have g1 : ¬ s.at_ + 1 ≤ s.code.length := of_decide_eq_false g1
   refine Grd.intro (fun g2 => ?_) (fun g2 => ?_)
   · have g2 : 3000 < s.at_ + 1 := of_decide_eq_true g2
     have hR' : R = (0, { s with at_ := s.at_ + 1 }) := by rw [hR, Src.byte, if_neg g1, if_pos g2]
     subst hR'
     exact And.intro trivial ⟨[(0, 0)], rfl, AVle.refl _, ⟨MOle.refl _, trivial⟩⟩
   · have g2 : ¬ 3000 < s.at_ + 1 := of_decide_eq_false g2
     have hR' : R = ((s.sd.tdiv 65536).tmod 256, { s with at_ := s.at_ + 1, seed := s.sd }) := by rw [hR, Src.byte, if_neg g1, if_neg g2]
     refine And.intro (inI64 (by omega) (by omega)) ?_
     refine And.intro (inI64 (by omega) (by omega)) ?_
     refine And.intro (by decide) ?_
     have h1 := tdiv_b (n := s.sd) (m := 65536) hsd.1 (by omega)
     have hsd' : 0 ≤ s.sd ∧ s.sd < 2147483648 := hsd
     refine And.intro ⟨by decide, show inI .i64 (s.sd.tdiv 65536) from inI64 (by omega) (by omega)⟩ ?_
     refine And.intro (by decide) ?_
     subst hR'
     exact And.intro trivial ⟨[(0, 0)], rfl, AVle.refl _, ⟨MOle.refl _, trivial⟩⟩
def Src.next (s : Src) (n : Int) : Int × Src :=
 if n ≤ 1 then (0, s)
 else if n ≤ 256 then (s.byte.1.tmod n, s.byte.2)
 else ((s.byte.1 * 65536 + s.byte.2.byte.1 * 256 + s.byte.2.byte.2.byte.1).tmod n, s.byte.2.byte.2.byte.2)
theorem next_b (s : Src) {k : Int} (h : s.ok k) (hk : 0 ≤ k) (n : Int) : (0 ≤ (s.next n).1 ∧ (1 ≤ n → (s.next n).1 < n)) ∧ (s.next n).2.ok (k + 3) ∧ (s.next n).2.code = s.code := by
 have h1 := byte_b s h
 have h2 := byte_b s.byte.2 h1.2.1
 have h3 := byte_b s.byte.2.byte.2 h2.2.1
 have w : ∀ (x : Src) (a b : Int), x.ok a → a ≤ b → x.ok b := fun x a b hx hab => ⟨⟨hx.1.1, by have := hx.1.2; omega⟩, hx.2⟩
 unfold Src.next
 split
 · exact ⟨⟨by simp, fun _ => by simp only; omega⟩, w s k _ h (by omega), rfl⟩
 · split
   · have := tmod_b (n := s.byte.1) (m := n) h1.1.1 (by omega)
     exact ⟨⟨this.1, fun _ => this.2⟩, w _ _ _ h1.2.1 (by omega), h1.2.2⟩
   · have := tmod_b (n := s.byte.1 * 65536 + s.byte.2.byte.1 * 256 + s.byte.2.byte.2.byte.1) (m := n) (by omega) (by omega)
     exact ⟨⟨this.1, fun _ => this.2⟩, w _ _ _ h3.2.1 (by omega), h3.2.2.trans (h2.2.2.trans h1.2.2)⟩
theorem next_fn (s : Src) (n : Int) (h : s.ok 100000000) : FnM Tryz.prog 34 1 [.bptr 0 0, .int .i64 n] [(0, .box s.row)] (.int .i64 (s.next n).1) [(0, .box (s.next n).2.row)] 1 := by
 have h1 := byte_b s h
 have h2 := byte_b s.byte.2 h1.2.1
 have h3 := byte_b s.byte.2.byte.2 h2.2.1
 have w : ∀ (x : Src) (a : Int), x.ok a → a ≤ 1000000000 → x.ok 1000000000 := fun x a hx hab => ⟨⟨hx.1.1, by have := hx.1.2; omega⟩, hx.2⟩
 obtain ⟨R, hR⟩ : ∃ R, R = s.next n := ⟨_, rfl⟩
 rw [← hR]
 refine FnM.introC Tryz.call34 Tryz.func34 rfl rfl ?_
 refine Grd.intro (fun g1 => ?_) (fun g1 => ?_)
 · have g1 : n ≤ 1 := of_decide_eq_true g1
   rw [Src.next, if_pos g1] at hR
   subst hR
   exact And.intro trivial ⟨[(0, 0)], rfl, AVle.refl _, ⟨MOle.refl _, trivial⟩⟩
 have g1 : ¬ n ≤ 1 := of_decide_eq_false g1
 refine Grd.intro (fun g2 => ?_) (fun g2 => ?_)
 · have g2 : n ≤ 256 := of_decide_eq_true g2
   rw [Src.next, if_neg g1, if_pos g2] at hR
   conv => whnf
   refine CallC.k [(0, 0)] (byte_fn s (w _ _ h (by omega))) rfl rfl (AVsle.refl _) ⟨MOle.refl _, trivial⟩ rfl ?_
   refine And.intro (show n ≠ 0 by omega) ?_
   subst hR
   exact And.intro trivial ⟨[(0, 0)], rfl, AVle.refl _, ⟨MOle.refl _, trivial⟩⟩
 have g2 : ¬ n ≤ 256 := of_decide_eq_false g2
 rw [Src.next, if_neg g1, if_neg g2] at hR
 conv => whnf
 refine CallC.k [(0, 0)] (byte_fn s (w _ _ h (by omega))) rfl rfl (AVsle.refl _) ⟨MOle.refl _, trivial⟩ rfl ?_
 conv => whnf
 refine CallC.k [(0, 0)] (byte_fn s.byte.2 (w _ _ h1.2.1 (by omega))) rfl rfl (AVsle.refl _) ⟨MOle.refl _, trivial⟩ rfl ?_
 conv => whnf
 refine CallC.k [(0, 0)] (byte_fn s.byte.2.byte.2 (w _ _ h2.2.1 (by omega))) rfl rfl (AVsle.refl _) ⟨MOle.refl _, trivial⟩ rfl ?_
 refine And.intro (inI64 (by omega) (by omega)) ?_
 refine And.intro (inI64 (by omega) (by omega)) ?_
 refine And.intro (inI64 (by omega) (by omega)) ?_
 refine And.intro (inI64 (by omega) (by omega)) ?_
 refine And.intro (show n ≠ 0 by omega) ?_
 subst hR
 exact And.intro trivial ⟨[(0, 0)], rfl, AVle.refl _, ⟨MOle.refl _, trivial⟩⟩
abbrev SS := List Smp × Int × Src
def smpStep (x : SS) : SS :=
 let f := x.2.1 + (x.2.2.next 4).1
 let a := (x.2.2.next 4).2.next 40
 let b := a.2.next 12
 let c := b.2.next 2
 let v := if b.1.tdiv 10 * (1 + c.1) = 0 then a.1 - 10 else if b.1.tdiv 10 * (1 + c.1) = 1 then 1000000 else -1000000
 (x.1 ++ [⟨f, v⟩], f + 1, c.2)
def smpIt : Nat → SS → SS
 | 0, x => x
 | k + 1, x => smpStep (smpIt k x)
def SSok (x : SS) (n : Nat) (k : Int) : Prop := x.1.length = n ∧ (∀ e ∈ x.1, -1000000 ≤ e.v ∧ e.v ≤ 1000000) ∧ x.2.2.ok k ∧ (0 ≤ x.2.1 ∧ x.2.1 ≤ k)
theorem wk {x : Src} {a b : Int} (hx : x.ok a) (h : a ≤ b) : x.ok b := ⟨⟨hx.1.1, by have := hx.1.2; omega⟩, hx.2⟩
theorem step_ok {x : SS} {n : Nat} {k : Int} (h : SSok x n k) (hk : 0 ≤ k) : SSok (smpStep x) (n + 1) (k + 12) := by
 obtain ⟨h1, h2, h3, h4⟩ := h
 have n1 := next_b x.2.2 h3 hk 4
 have n2 := next_b (x.2.2.next 4).2 n1.2.1 (by omega) 40
 have n3 := next_b ((x.2.2.next 4).2.next 40).2 n2.2.1 (by omega) 12
 have n4 := next_b (((x.2.2.next 4).2.next 40).2.next 12).2 n3.2.1 (by omega) 2
 have a1 := n1.1.2 (by omega)
 have a2 := n2.1.2 (by omega)
 unfold smpStep
 refine ⟨by simp [h1], fun e he => ?_, wk n4.2.1 (by omega), by simp only; omega⟩
 simp only [List.mem_append, List.mem_cons, List.not_mem_nil, or_false] at he
 rcases he with he | he
 · exact h2 e he
 · subst he
   simp only
   have := n2.1.1
   split
   · omega
   · split <;> omega
theorem it_ok {x : SS} {k : Int} (h : SSok x 0 k) (hk : 0 ≤ k) : ∀ n, SSok (smpIt n x) n (k + 12 * n)
 | 0 => by simpa [smpIt] using h
 | n + 1 => by
   have := step_ok (it_ok h hk n) (by omega)
   have e : k + 12 * ((n + 1 : Nat) : Int) = k + 12 * (n : Int) + 12 := by omega
   rw [e]; exact this
def Src.samples (s : Src) (f n : Int) : SS := smpIt (s.next (n + 1)).1.toNat ([], f, (s.next (n + 1)).2)
theorem samples_fn (s : Src) (f n : Int) (h : s.ok 1000000) (hf : 0 ≤ f ∧ f ≤ 1000000) (hn : 0 ≤ n ∧ n ≤ 1000) :
 FnM Tryz.prog 65 1 [.bptr 0 0, .int .i64 f, .int .i64 n] [(0, .box s.row)] (.osl 1) [(0, .box (s.samples f n).2.2.row), (1, .arr 101 2 (s.samples f n).1.length fun i => (ix (s.samples f n).1 i).row)] 2 := by
 have n0 := next_b s h (by omega) (n + 1)
 have hm := n0.1.2 (by omega)
 have h0 : SSok ([], f, (s.next (n + 1)).2) 0 1000003 := ⟨rfl, by simp, n0.2.1, by simp only; omega⟩
 have hit := it_ok h0 (by omega)
 obtain ⟨R, hR⟩ : ∃ R, R = s.samples f n := ⟨_, rfl⟩
 rw [← hR]
 refine FnM.introC Tryz.call65 Tryz.func65 rfl rfl ?_
 refine And.intro (inI64 (by omega) (by omega)) ?_
 conv => whnf
 refine CallC.k [(0, 0)] (next_fn s (n + 1) (wk h (by omega))) rfl rfl (AVsle.refl _) ⟨MOle.refl _, trivial⟩ rfl ?_
 obtain ⟨M, hM⟩ : ∃ M : Nat, (s.next (n + 1)).1 = M := ⟨(s.next (n + 1)).1.toNat, by omega⟩
 have hR2 : R = smpIt M ([], f, (s.next (n + 1)).2) := by rw [hR, Src.samples, hM]; rfl
 obtain ⟨x0, hx0⟩ : ∃ x0 : SS, x0 = ([], f, (s.next (n + 1)).2) := ⟨_, rfl⟩
 rw [← hx0] at hit hR2
 rw [hM]
 refine LoopC.mk (fun k : Nat => k ≤ M) (fun k => [(0, .bptr 0 0), (1, .int .i64 (smpIt k x0).2.1), (7, .osl 1), (8, .int .i64 ((M : Int) - k))])
  (fun k => [(0, .box (smpIt k x0).2.2.row), (1, .arr 101 2 (smpIt k x0).1.length fun i => (ix (smpIt k x0).1 i).row)]) 2 (fun k => M - k) 0
  ⟨Nat.zero_le _, [(0, 0), (1, 1)], rfl, rfl, ⟨AVle.refl _, AVle.of_eq (congrArg (AV.int .i64) (show f = _ by rw [hx0]; rfl)), AVle.refl _, AVle.of_eq (congrArg (AV.int .i64) (by simp)), trivial⟩, ⟨MOle.of_eq (show MO.box (s.next (n + 1)).2.row = _ by rw [hx0]; rfl), MOle.arr (by rw [hx0]; rfl) fun i hi => absurd hi (Nat.not_lt_zero i), trivial⟩⟩ ?_
 intro k hk
 refine Grd.intro (fun g1 => ?_) (fun g1 => ?_)
 · have hkM : k < M := by have := of_decide_eq_true g1; omega
   obtain ⟨h1, h2, h3, h4⟩ := hit k
   have hstep : smpIt (k + 1) x0 = smpStep (smpIt k x0) := rfl
   generalize smpIt k x0 = x at h1 h2 h3 h4 hstep
   have n1 := next_b x.2.2 h3 (by omega) 4
   have n2 := next_b (x.2.2.next 4).2 n1.2.1 (by omega) 40
   have n3 := next_b ((x.2.2.next 4).2.next 40).2 n2.2.1 (by omega) 12
   have n4 := next_b (((x.2.2.next 4).2.next 40).2.next 12).2 n3.2.1 (by omega) 2
   have a1 := n1.1.2 (by omega)
   have a2 := n2.1.2 (by omega)
   have a3 := n3.1.2 (by omega)
   have a4 := n4.1.2 (by omega)
   conv => whnf
   refine CallC.k [(0, 0)] (next_fn x.2.2 4 (wk h3 (by omega))) rfl rfl (AVsle.refl _) ⟨MOle.refl _, trivial⟩ rfl ?_
   refine And.intro (show inI .i64 (x.2.1 + (x.2.2.next 4).1) from inI64 (by omega) (by omega)) ?_
   conv => whnf
   refine CallC.k [(0, 0)] (next_fn (x.2.2.next 4).2 40 (wk n1.2.1 (by omega))) rfl rfl (AVsle.refl _) ⟨MOle.refl _, trivial⟩ rfl ?_
   refine And.intro (inI64 (by omega) (by omega)) ?_
   conv => whnf
   refine CallC.k [(0, 0)] (next_fn ((x.2.2.next 4).2.next 40).2 12 (wk n2.2.1 (by omega))) rfl rfl (AVsle.refl _) ⟨MOle.refl _, trivial⟩ rfl ?_
   have hq : (((x.2.2.next 4).2.next 40).2.next 12).1.tdiv 10 = (((x.2.2.next 4).2.next 40).2.next 12).1 / 10 := Int.tdiv_eq_ediv_of_nonneg n3.1.1
   have hq01 : (((x.2.2.next 4).2.next 40).2.next 12).1.tdiv 10 = 0 ∨ (((x.2.2.next 4).2.next 40).2.next 12).1.tdiv 10 = 1 := by omega
   have hd01 : ((((x.2.2.next 4).2.next 40).2.next 12).2.next 2).1 = 0 ∨ ((((x.2.2.next 4).2.next 40).2.next 12).2.next 2).1 = 1 := by omega
   have hrow : ∀ v, v = (if (((x.2.2.next 4).2.next 40).2.next 12).1.tdiv 10 * (1 + ((((x.2.2.next 4).2.next 40).2.next 12).2.next 2).1) = 0 then ((x.2.2.next 4).2.next 40).1 - 10 else if (((x.2.2.next 4).2.next 40).2.next 12).1.tdiv 10 * (1 + ((((x.2.2.next 4).2.next 40).2.next 12).2.next 2).1) = 1 then 1000000 else -1000000) →
    (smpIt (k + 1) x0).1 = x.1 ++ [⟨x.2.1 + (x.2.2.next 4).1, v⟩] ∧ (smpIt (k + 1) x0).2.1 = x.2.1 + (x.2.2.next 4).1 + 1 ∧ (smpIt (k + 1) x0).2.2 = ((((x.2.2.next 4).2.next 40).2.next 12).2.next 2).2 := fun v hv => by
    rw [hstep, hv]; exact ⟨rfl, rfl, rfl⟩
   refine And.intro ⟨by decide, show inI .i64 ((((x.2.2.next 4).2.next 40).2.next 12).1.tdiv 10) from inI64 (by omega) (by omega)⟩ ?_
   conv => whnf
   refine CallC.k [(0, 0)] (next_fn (((x.2.2.next 4).2.next 40).2.next 12).2 2 (wk n3.2.1 (by omega))) rfl rfl (AVsle.refl _) ⟨MOle.refl _, trivial⟩ rfl ?_
   rcases hq01 with hq0 | hq0
   · rw [hq0]
     rw [hq0] at hrow
     refine And.intro (show inI .i64 (1 + ((((x.2.2.next 4).2.next 40).2.next 12).2.next 2).1) from inI64 (by omega) (by omega)) ?_
     rcases hd01 with hd | hd
     · rw [hd]
       rw [hd] at hrow
       obtain ⟨w1, w2, w3⟩ := hrow (((x.2.2.next 4).2.next 40).1 - 10) (by simp)
       refine And.intro (inI64 (by omega) (by omega)) ?_
       refine And.intro ⟨by decide, by decide⟩ ?_
       refine And.intro ⟨show (x.1.length + 1) * 16 ≤ 140737488355328 by omega, all1 rfl⟩ ?_
       refine And.intro (show inI .i64 (x.2.1 + (x.2.2.next 4).1 + 1) from inI64 (by omega) (by omega)) ?_
       refine And.intro (inI64 (by omega) (by omega)) ?_
       exact ⟨k + 1, hkM, by omega, [(0, 0), (8, 1)], rfl, rfl, ⟨AVle.refl _, AVle.of_eq (congrArg (AV.int .i64) w2.symm), AVle.refl _, AVle.of_eq (congrArg (AV.int .i64) (show (M : Int) - k - 1 = _ by omega)), trivial⟩, ⟨MOle.of_eq (show MO.box ((((x.2.2.next 4).2.next 40).2.next 12).2.next 2).2.row = _ by rw [w3]), arr_next (f := Smp.row) w1 rfl, trivial⟩⟩
     · rw [hd]
       rw [hd] at hrow
       obtain ⟨w1, w2, w3⟩ := hrow (((x.2.2.next 4).2.next 40).1 - 10) (by simp)
       refine And.intro (inI64 (by omega) (by omega)) ?_
       refine And.intro ⟨by decide, by decide⟩ ?_
       refine And.intro ⟨show (x.1.length + 1) * 16 ≤ 140737488355328 by omega, all1 rfl⟩ ?_
       refine And.intro (show inI .i64 (x.2.1 + (x.2.2.next 4).1 + 1) from inI64 (by omega) (by omega)) ?_
       refine And.intro (inI64 (by omega) (by omega)) ?_
       exact ⟨k + 1, hkM, by omega, [(0, 0), (8, 1)], rfl, rfl, ⟨AVle.refl _, AVle.of_eq (congrArg (AV.int .i64) w2.symm), AVle.refl _, AVle.of_eq (congrArg (AV.int .i64) (show (M : Int) - k - 1 = _ by omega)), trivial⟩, ⟨MOle.of_eq (show MO.box ((((x.2.2.next 4).2.next 40).2.next 12).2.next 2).2.row = _ by rw [w3]), arr_next (f := Smp.row) w1 rfl, trivial⟩⟩
   · rw [hq0]
     rw [hq0] at hrow
     refine And.intro (show inI .i64 (1 + ((((x.2.2.next 4).2.next 40).2.next 12).2.next 2).1) from inI64 (by omega) (by omega)) ?_
     rcases hd01 with hd | hd
     · rw [hd]
       rw [hd] at hrow
       obtain ⟨w1, w2, w3⟩ := hrow (1000000) (by simp)
       refine And.intro (inI64 (by omega) (by omega)) ?_
       refine And.intro ⟨by decide, by decide⟩ ?_
       refine And.intro ⟨show (x.1.length + 1) * 16 ≤ 140737488355328 by omega, all1 rfl⟩ ?_
       refine And.intro (show inI .i64 (x.2.1 + (x.2.2.next 4).1 + 1) from inI64 (by omega) (by omega)) ?_
       refine And.intro (inI64 (by omega) (by omega)) ?_
       exact ⟨k + 1, hkM, by omega, [(0, 0), (8, 1)], rfl, rfl, ⟨AVle.refl _, AVle.of_eq (congrArg (AV.int .i64) w2.symm), AVle.refl _, AVle.of_eq (congrArg (AV.int .i64) (show (M : Int) - k - 1 = _ by omega)), trivial⟩, ⟨MOle.of_eq (show MO.box ((((x.2.2.next 4).2.next 40).2.next 12).2.next 2).2.row = _ by rw [w3]), arr_next (f := Smp.row) w1 rfl, trivial⟩⟩
     · rw [hd]
       rw [hd] at hrow
       obtain ⟨w1, w2, w3⟩ := hrow (-1000000) (by simp)
       refine And.intro (inI64 (by omega) (by omega)) ?_
       refine And.intro ⟨by decide, by decide⟩ ?_
       refine And.intro ⟨show (x.1.length + 1) * 16 ≤ 140737488355328 by omega, all1 rfl⟩ ?_
       refine And.intro (show inI .i64 (x.2.1 + (x.2.2.next 4).1 + 1) from inI64 (by omega) (by omega)) ?_
       refine And.intro (inI64 (by omega) (by omega)) ?_
       exact ⟨k + 1, hkM, by omega, [(0, 0), (8, 1)], rfl, rfl, ⟨AVle.refl _, AVle.of_eq (congrArg (AV.int .i64) w2.symm), AVle.refl _, AVle.of_eq (congrArg (AV.int .i64) (show (M : Int) - k - 1 = _ by omega)), trivial⟩, ⟨MOle.of_eq (show MO.box ((((x.2.2.next 4).2.next 40).2.next 12).2.next 2).2.row = _ by rw [w3]), arr_next (f := Smp.row) w1 rfl, trivial⟩⟩
 · have : k = M := by have := of_decide_eq_false g1; omega
   subst this
   rw [hR2]
   exact And.intro trivial ⟨[(0, 0), (1, 1)], rfl, AVle.refl _, ⟨MOle.refl _, MOle.refl _, trivial⟩⟩
def srcOf (code : List UInt8) : Src := ⟨code, 0, (code.length : Int).tmod 1000⟩
theorem src_ok (code : List UInt8) (h : code.length ≤ 1048576) : (srcOf code).ok 0 := by
 have := tmod_b (n := (code.length : Int)) (m := 1000) (by omega) (by omega)
 exact ⟨⟨by simp [srcOf], by simp [srcOf]⟩, ⟨this.1, by have := this.2; simp only [srcOf]; omega⟩, by simp only [srcOf]; omega⟩
theorem l00Source_fn (code : List UInt8) (h : code.length ≤ 1048576) : FnM Tryz.prog 12 0 [byts code] [] (.bptr 0 0) [(0, .box (srcOf code).row)] 1 := by
 refine FnM.introC Tryz.call12 Tryz.func12 rfl rfl ?_
 refine And.intro (by decide) ?_
 exact And.intro trivial ⟨[(0, 0)], rfl, AVle.refl _, ⟨MOle.refl _, trivial⟩⟩

theorem windowOf_yes (e : En) (he : e.tier = 0) (t : List UInt8) (hl : t.length ≤ 1048576) (a b : Int) (hb : inI .i64 (b - 1)) (hr : rdOk t = true) : VFn Tryz.prog 123 [e.av, .str (B t), .int .i64 a, .int .i64 b] (.tup [(aggL (smpsIn (rdV t) a b)).av, .int .i64 0]) := by
 have cr := readSamples_gen t hl (.tup [smps (rdV t), .bool true]) (fun _ => rfl) (fun h => by rw [hr] at h; cases h)
 have h2 := hr
 simp only [rdOk, Bool.and_eq_true, decide_eq_true_eq] at h2
 have hb2 := smps_bd (L := rdV t) h2.2.1
 have hq := smpsIn_len (rdV t) a b
 refine VFn.introC Tryz.call123 Tryz.func123 rfl rfl ?_
 refine Grd.intro (fun g => ?_) (fun g => absurd he (of_decide_eq_false g))
 conv => whnf
 refine CallC.nl _ (cr) ?_ ?_
 · exact rfl
 conv => whnf
 refine CallC.nl _ (samplesIn_fn (rdV t) (by omega) a b hb) ?_ ?_
 · exact rfl
 conv => whnf
 refine CallC.sca _ (aggOf_fn (smpsIn (rdV t) a b) (by omega) (fun x hx => hb2.2 x (smpsIn_mem hx))) ?_ ?_
 · exact rfl
 exact And.intro trivial (AVle.refl _)
end Go.Proofs.YtigbaclopbcjnaaGreatDoor
