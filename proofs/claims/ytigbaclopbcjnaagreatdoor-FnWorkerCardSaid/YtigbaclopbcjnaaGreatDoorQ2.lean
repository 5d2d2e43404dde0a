/- Contracts of functions that the claim reaches, and the plain law of what they compute; each theorem bears its own conditions. -/
import Derived.Test.YtigbaclopbcjnaaGreatDoorQ1
import Derived.Test.YtigbaclopbcjnaaGreatDoorV52
import Derived.Lib.AtoiErrMem
set_option linter.unusedVariables false
set_option linter.constructorNameAsVariable false
set_option linter.unusedSimpArgs false
set_option maxRecDepth 20000
namespace Go.Proofs.YtigbaclopbcjnaaGreatDoor
open Go Go.Vw
def Ag.mrg (a b : Ag) : Ag := if a.c = 0 then b else if b.c = 0 then a else ⟨a.c + b.c, a.s + b.s, if b.mn < a.mn then b.mn else a.mn, if a.mx < b.mx then b.mx else a.mx, a.f, b.l⟩
def Ag.cells (a : Ag) : List AV := [.int .i64 a.c, .int .i64 a.s, .int .i64 a.mn, .int .i64 a.mx, .int .i64 a.f, .int .i64 a.l]
def one (v : Int) : Ag := ⟨1, v, v, v, v, v⟩
def aggL (L : List Smp) : Ag := L.foldl (fun a s => a.mrg (one s.v)) default
theorem aggL_snoc {L : List Smp} {i : Nat} (h : i < L.length) : aggL (L.take (i + 1)) = (aggL (L.take i)).mrg (one (ix L i).v) := by
 unfold aggL; rw [take_snoc h, List.foldl_append]; rfl
def Ag.B (a : Ag) (n : Int) : Prop := a.c = n ∧ (-1000000 * n ≤ a.s ∧ a.s ≤ 1000000 * n) ∧ (n = 0 → a = default) ∧ (0 < n → a.some = true)
theorem mrg_B {a : Ag} {n v : Int} (h : a.B n) (hn : 0 ≤ n ∧ n < 100000) (hv : -1000000 ≤ v ∧ v ≤ 1000000) : (a.mrg (one v)).B (n + 1) := by
 obtain ⟨h1, h2, h3, h4⟩ := h
 unfold Ag.mrg
 by_cases h0 : a.c = 0
 · rw [if_pos h0]
   refine ⟨by simp only [one]; omega, by simp only [one]; omega, fun h => by omega, fun _ => ?_⟩
   unfold Ag.some one
   simp [within]; omega
 · rw [if_neg h0, if_neg (show ¬ (one v).c = 0 by simp [one])]
   have h5 := h4 (by omega)
   unfold Ag.some at h5
   simp [within] at h5
   refine ⟨by simp only [one]; omega, by simp only [one]; omega, fun h => by omega, fun _ => ?_⟩
   unfold Ag.some one
   simp only [within]
   have e1 : ∀ m, m ≤ a.mn → m ≤ v → (a.c + 1) * m ≤ a.s + v := fun m q1 q2 => by
    have : a.c * m ≤ a.c * a.mn := Int.mul_le_mul_of_nonneg_left q1 (by omega)
    have : (a.c + 1) * m = a.c * m + m := by rw [Int.add_mul]; omega
    omega
   have e2 : ∀ m, a.mx ≤ m → v ≤ m → a.s + v ≤ (a.c + 1) * m := fun m q1 q2 => by
    have : a.c * a.mx ≤ a.c * m := Int.mul_le_mul_of_nonneg_left q1 (by omega)
    have : (a.c + 1) * m = a.c * m + m := by rw [Int.add_mul]; omega
    omega
   by_cases m1 : v < a.mn <;> by_cases m2 : a.mx < v
   · rw [if_pos m1, if_pos m2]
     have := e1 v (by omega) (by omega)
     have := e2 v (by omega) (by omega)
     simp; omega
   · rw [if_pos m1, if_neg m2]
     have := e1 v (by omega) (by omega)
     have := e2 a.mx (by omega) (by omega)
     simp; omega
   · rw [if_neg m1, if_pos m2]
     have := e1 a.mn (by omega) (by omega)
     have := e2 v (by omega) (by omega)
     simp; omega
   · rw [if_neg m1, if_neg m2]
     have := e1 a.mn (by omega) (by omega)
     have := e2 a.mx (by omega) (by omega)
     simp; omega
theorem aggL_B {L : List Smp} (hL : L.length ≤ 100000) (hv : ∀ e ∈ L, -1000000 ≤ e.v ∧ e.v ≤ 1000000) : ∀ i : Nat, i ≤ L.length → (aggL (L.take i)).B i
 | 0, _ => ⟨rfl, show -1000000 * ((0 : Nat) : Int) ≤ 0 ∧ (0 : Int) ≤ 1000000 * ((0 : Nat) : Int) by omega, fun _ => rfl, fun h => absurd h (by simp)⟩
 | i + 1, h => by
   rw [aggL_snoc h]
   have := mrg_B (aggL_B hL hv i (by omega)) ⟨by omega, by omega⟩ (hv _ (getD_mem (L := L) h))
   simpa using this
theorem B_ok {a : Ag} {n : Int} (h : a.B n) (hn : 0 ≤ n) : a.ok = true := by
 rcases Int.lt_or_le 0 n with h0 | h0
 · unfold Ag.ok; rw [h.2.2.2 h0]; simp
 · have := h.2.2.1 (by omega)
   subst this; rfl
theorem l02Merge_fn (a b : Ag) (h1 : inI .i64 (a.c + b.c)) (h2 : inI .i64 (a.s + b.s)) : VFn Tryz.prog 102 [a.av, b.av] (a.mrg b).av := by
 obtain ⟨R, hR⟩ : ∃ R, R = a.mrg b := ⟨_, rfl⟩
 rw [← hR]
 refine VFn.introC Tryz.call102 Tryz.func102 rfl rfl ?_
 refine Grd.intro (fun g1 => ?_) (fun g1 => ?_)
 · rw [Ag.mrg, if_pos (show a.c = 0 from of_decide_eq_true g1)] at hR
   subst hR
   exact And.intro trivial (AVle.refl _)
 refine Grd.intro (fun g2 => ?_) (fun g2 => ?_)
 · rw [Ag.mrg, if_neg (show ¬ a.c = 0 from of_decide_eq_false g1), if_pos (show b.c = 0 from of_decide_eq_true g2)] at hR
   subst hR
   exact And.intro trivial (AVle.refl _)
 rw [Ag.mrg, if_neg (show ¬ a.c = 0 from of_decide_eq_false g1), if_neg (show ¬ b.c = 0 from of_decide_eq_false g2)] at hR
 refine And.intro h1 ?_
 refine And.intro h2 ?_
 subst hR
 exact And.intro trivial (AVle.refl _)
theorem l02Of_fn (L : List Smp) (hL : L.length ≤ 100000) (hv : ∀ e ∈ L, -1000000 ≤ e.v ∧ e.v ≤ 1000000) : VFn Tryz.prog 139 [smps L] (aggL L).av := by
 have hB := aggL_B hL hv
 refine VFn.introC Tryz.call139 Tryz.func139 rfl rfl ?_
 refine LoopC.mk (fun i : Nat => i ≤ L.length) (fun i => [(0, smps L), (2, .bptr 0 0), (3, .bptr 1 0), (4, .int .i64 i)])
  (fun i => [(0, .box [.int .i64 0, .int .i64 0, .int .i64 0, .int .i64 0, .int .i64 0, .int .i64 0]), (1, .box (aggL (L.take i)).cells)]) 2 (fun i => L.length - i) 0
  ⟨Nat.zero_le _, [(0, 0), (1, 1)], rfl, rfl, ⟨AVle.refl _, AVle.refl _, AVle.refl _, AVle.refl _, trivial⟩, ⟨MOle.refl _, MOle.refl _, trivial⟩⟩ ?_
 intro i hi
 refine Grd.intro (fun g1 => ?_) (fun g1 => ?_)
 · have hin : i < L.length := by have := of_decide_eq_true g1; omega
   have b := hB i hi
   have hvi := hv _ (getD_mem hin)
   refine And.intro (by omega) ?_
   conv => whnf
   refine CallC.sca _ (l02Merge_fn (aggL (L.take i)) (one (ix L i).v) (inI64 (by have := b.1; simp only [one]; omega) (by have := b.1; simp only [one]; omega)) (inI64 (by have := b.2.1; simp only [one]; omega) (by have := b.2.1; simp only [one]; omega))) ?_ ?_
   · exact rfl
   refine And.intro (inI64 (by omega) (by omega)) ?_
   exact ⟨i + 1, hin, by omega, [(0, 0), (1, 1)], rfl, rfl, ⟨AVle.refl _, AVle.refl _, AVle.refl _, AVle.of_eq (congrArg (AV.int .i64) (by simp)), trivial⟩, ⟨MOle.refl _, MOle.of_eq (show MO.box ((aggL (L.take i)).mrg (one (ix L i).v)).cells = _ by rw [aggL_snoc hin]), trivial⟩⟩
 · have : i = L.length := by have := of_decide_eq_false g1; omega
   subst this
   exact And.intro trivial (AVle.of_eq (show (aggL (L.take L.length)).av = _ by rw [List.take_of_length_le (Nat.le_refl _)]))
def Ag.eqb (x y : Ag) : Bool := decide (x.c = y.c) && (decide (x.s = y.s) && (decide (x.mn = y.mn) && (decide (x.mx = y.mx) && (decide (x.f = y.f) && (decide (x.l = y.l) && true)))))
theorem smps_bd {L : List Smp} (h : smpsOK L = true) : L.length ≤ 4096 ∧ ∀ e ∈ L, -1000000 ≤ e.v ∧ e.v ≤ 1000000 := by
 unfold smpsOK at h
 rw [Bool.and_eq_true] at h
 refine ⟨of_decide_eq_true h.1, fun e he => ?_⟩
 obtain ⟨i, hi, e0⟩ := List.mem_iff_getElem.1 he
 have e0 : ix L i = e := by rw [ix_lt hi, e0]
 subst e0
 have := allN_iff.1 h.2 i hi
 simp [smpAt, within] at this
 omega
theorem merged_fn (a b : Ag) (h1 : inI .i64 (a.c + b.c)) (h2 : inI .i64 (a.s + b.s)) : VFn Tryz.prog 157 [a.av, b.av] (a.mrg b).av := by
 obtain ⟨R, hR⟩ : ∃ R, R = a.mrg b := ⟨_, rfl⟩
 rw [← hR]
 refine VFn.introC Tryz.call157 Tryz.func157 rfl rfl ?_
 refine Grd.intro (fun g1 => ?_) (fun g1 => ?_)
 · rw [Ag.mrg, if_pos (show a.c = 0 from of_decide_eq_true g1)] at hR
   subst hR
   exact And.intro trivial (AVle.refl _)
 refine Grd.intro (fun g2 => ?_) (fun g2 => ?_)
 · rw [Ag.mrg, if_neg (show ¬ a.c = 0 from of_decide_eq_false g1), if_pos (show b.c = 0 from of_decide_eq_true g2)] at hR
   subst hR
   exact And.intro trivial (AVle.refl _)
 rw [Ag.mrg, if_neg (show ¬ a.c = 0 from of_decide_eq_false g1), if_neg (show ¬ b.c = 0 from of_decide_eq_false g2)] at hR
 refine And.intro h1 ?_
 refine And.intro h2 ?_
 subst hR
 exact And.intro trivial (AVle.refl _)
theorem aggOf_fn (L : List Smp) (hL : L.length ≤ 100000) (hv : ∀ e ∈ L, -1000000 ≤ e.v ∧ e.v ≤ 1000000) : VFn Tryz.prog 153 [smps L] (aggL L).av := by
 have hB := aggL_B hL hv
 refine VFn.introC Tryz.call153 Tryz.func153 rfl rfl ?_
 refine LoopC.mk (fun i : Nat => i ≤ L.length) (fun i => [(2, .bptr 0 0), (3, .bptr 1 0), (7, smps L), (8, .int .i64 L.length), (9, .int .i64 i)])
  (fun i => [(0, .box [.int .i64 0, .int .i64 0, .int .i64 0, .int .i64 0, .int .i64 0, .int .i64 0]), (1, .box (aggL (L.take i)).cells)]) 2 (fun i => L.length - i) 0
  ⟨Nat.zero_le _, [(0, 0), (1, 1)], rfl, rfl, ⟨AVle.refl _, AVle.refl _, AVle.refl _, AVle.refl _, AVle.refl _, trivial⟩, ⟨MOle.refl _, MOle.refl _, trivial⟩⟩ ?_
 intro i hi
 refine Grd.intro (fun g1 => ?_) (fun g1 => ?_)
 · have hin : i < L.length := by have := of_decide_eq_true g1; omega
   have b := hB i hi
   have hvi := hv _ (getD_mem hin)
   refine And.intro (by omega) ?_
   conv => whnf
   refine CallC.sca _ (merged_fn (aggL (L.take i)) (one (ix L i).v) (inI64 (by have := b.1; simp only [one]; omega) (by have := b.1; simp only [one]; omega)) (inI64 (by have := b.2.1; simp only [one]; omega) (by have := b.2.1; simp only [one]; omega))) ?_ ?_
   · exact rfl
   refine And.intro (inI64 (by omega) (by omega)) ?_
   exact ⟨i + 1, hin, by omega, [(0, 0), (1, 1)], rfl, rfl, ⟨AVle.refl _, AVle.refl _, AVle.refl _, AVle.refl _, AVle.of_eq (congrArg (AV.int .i64) (by simp)), trivial⟩, ⟨MOle.refl _, MOle.of_eq (show MO.box ((aggL (L.take i)).mrg (one (ix L i).v)).cells = _ by rw [aggL_snoc hin]), trivial⟩⟩
 · have : i = L.length := by have := of_decide_eq_false g1; omega
   subst this
   exact And.intro trivial (AVle.of_eq (show (aggL (L.take L.length)).av = _ by rw [List.take_of_length_le (Nat.le_refl _)]))
def smpsIn (L : List Smp) (a b : Int) : List Smp := L.filter fun e => within e.t a (b - 1)
theorem smpsIn_yes {L : List Smp} {a b : Int} {i : Nat} (h : i < L.length) (hw : within (ix L i).t a (b - 1) = true) : smpsIn (L.take (i + 1)) a b = smpsIn (L.take i) a b ++ [ix L i] := by
 unfold smpsIn; rw [take_snoc h, List.filter_append]; simp [hw]
theorem smpsIn_no {L : List Smp} {a b : Int} {i : Nat} (h : i < L.length) (hw : within (ix L i).t a (b - 1) = false) : smpsIn (L.take (i + 1)) a b = smpsIn (L.take i) a b := by
 unfold smpsIn; rw [take_snoc h, List.filter_append]; simp [hw]
theorem smpsIn_len (L : List Smp) (a b : Int) : (smpsIn L a b).length ≤ L.length := List.length_filter_le _ _
theorem smpsIn_mem {L : List Smp} {a b : Int} {e : Smp} (h : e ∈ smpsIn L a b) : e ∈ L := (List.mem_filter.1 h).1
theorem samplesIn_fn (L : List Smp) (hL : L.length ≤ 1048576) (a b : Int) (hb : inI .i64 (b - 1)) : VFn Tryz.prog 154 [smps L, .int .i64 a, .int .i64 b] (smps (smpsIn L a b)) := by
 obtain ⟨R, hR⟩ : ∃ R, R = smpsIn L a b := ⟨_, rfl⟩
 rw [← hR]
 have hl := fun i => Nat.le_trans (smpsIn_len (L.take i) a b) (by simp; omega : (L.take i).length ≤ i)
 refine VFn.introC Tryz.call154 Tryz.func154 rfl rfl ?_
 refine LoopC.mk (fun i : Nat => i ≤ L.length) (fun i => [(1, .int .i64 a), (2, .int .i64 b), (7, .osl 0), (11, smps L), (12, .int .i64 L.length), (13, .int .i64 i)])
  (fun i => [(0, .arr 101 2 (smpsIn (L.take i) a b).length fun j => (ix (smpsIn (L.take i) a b) j).row)]) 1 (fun i => L.length - i) 0
  ⟨Nat.zero_le _, [(0, 0)], rfl, rfl, ⟨AVle.refl _, AVle.refl _, AVle.refl _, AVle.refl _, AVle.refl _, AVle.refl _, trivial⟩, ⟨MOle.arr rfl fun i hi => absurd hi (Nat.not_lt_zero i), trivial⟩⟩ ?_
 intro i hi
 refine Grd.intro (fun h2 => ?_) (fun h2 => ?_)
 · have hin : i < L.length := by have := of_decide_eq_true h2; omega
   refine And.intro (by omega) ?_
   refine And.intro hb ?_
   conv => whnf
   refine CallC.sca _ (within_fn _ _ _) ?_ ?_
   · exact rfl
   refine Grd.intro (fun h3 => ?_) (fun h3 => ?_)
   · have hs := smpsIn_yes hin h3
     refine And.intro ⟨show ((smpsIn (L.take i) a b).length + 1) * 16 ≤ 140737488355328 by have := hl i; omega, all1 rfl⟩ ?_
     refine And.intro (inI64 (by omega) (by omega)) ?_
     refine ⟨i + 1, hin, by omega, [(3, 0)], rfl, rfl, ⟨AVle.refl _, AVle.refl _, AVle.refl _, AVle.refl _, AVle.refl _, AVle.of_eq (congrArg (AV.int .i64) (by simp)), trivial⟩, ⟨?_, trivial⟩⟩
     exact arr_next (f := Smp.row) hs rfl
   · have hs := smpsIn_no hin h3
     refine And.intro (inI64 (by omega) (by omega)) ?_
     exact ⟨i + 1, hin, by omega, [(0, 0)], rfl, rfl, ⟨AVle.refl _, AVle.refl _, AVle.refl _, AVle.refl _, AVle.refl _, AVle.of_eq (congrArg (AV.int .i64) (by simp)), trivial⟩, ⟨MOle.of_eq (show MO.arr 101 2 (smpsIn (L.take i) a b).length (fun j => (ix (smpsIn (L.take i) a b) j).row) = _ by rw [hs]), trivial⟩⟩
 · have : i = L.length := by have := of_decide_eq_false h2; omega
   subst this
   have e : smpsIn (L.take L.length) a b = R := by rw [List.take_of_length_le (Nat.le_refl _), hR]
   subst e
   exact And.intro trivial (AVle.sl rfl fun j hj => rfl)
theorem keyOK_bad {k : List UInt8} {i : Nat} (hi : i < k.length) (h : keyC (k.getD i 0) = false) : keyOK k = false := by
 have : k.all keyC = false := by
  rw [← Bool.not_eq_true]; intro h'
  have e : k.getD i 0 = k[i] := by simp [List.getD, hi]
  rw [e, List.all_eq_true.1 h' _ (List.getElem_mem hi)] at h; cases h
 unfold keyOK; rw [this]; rfl
theorem keyOK_all {k : List UInt8} (h : ∀ j, j < k.length → keyC (k.getD j 0) = true) : keyOK k = within k.length 1 30 := by
 have : k.all keyC = true := List.all_eq_true.2 fun x hx => by
  obtain ⟨j, hj, e⟩ := List.getElem_of_mem hx
  have := h j hj
  have e2 : k.getD j 0 = k[j] := by simp [List.getD, hj]
  rw [e2, e] at this; exact this
 unfold keyOK; rw [this]; rfl
theorem KeyOK_fn (k : List UInt8) (hk : k.length ≤ 1000000000) : VFn Tryz.prog 36 [.str (B k)] (.bool (keyOK k)) := by
 obtain ⟨R, hR⟩ : ∃ R, R = keyOK k := ⟨_, rfl⟩
 rw [← hR]
 refine VFn.introC Tryz.call36 Tryz.func36 rfl rfl ?_
 refine LoopC.mk (fun i : Nat => i ≤ k.length ∧ ∀ j, j < i → keyC (k.getD j 0) = true) (fun i => [(0, .str (B k)), (6, .int .i64 k.length), (7, .int .i64 i)]) (fun _ => []) 0 (fun i => k.length - i) 0
  ⟨⟨Nat.zero_le _, fun j hj => absurd hj (Nat.not_lt_zero j)⟩, [], rfl, rfl, ⟨AVle.refl _, AVle.refl _, AVle.refl _, trivial⟩, trivial⟩ ?_
 intro i hi
 refine Grd.intro (fun h2 => ?_) (fun h2 => ?_)
 · have hin : i < k.length := by have := of_decide_eq_true h2; omega
   refine And.intro ⟨by omega, show (i : Int) < ((B k).size : Int) by rw [B_size]; omega⟩ ?_
   have hbad : keyC (k.getD i 0) = false → false = R := fun h => by rw [hR, keyOK_bad hin h]
   have hgood : keyC (k.getD i 0) = true → ∀ j, j < i + 1 → keyC (k.getD j 0) = true := fun h j hj => by
    rcases Nat.lt_or_ge j i with h' | h'
    · exact hi.2 j h'
    · rw [show j = i by omega]; exact h
   have hx : (k.getD i 0).toNat = ((B k).data.toList.getD (i : Int).toNat 0).toNat := rfl
   generalize ((B k).data.toList.getD (i : Int).toNat 0).toNat = c at hx ⊢
   have hC : keyC (k.getD i 0) = ((decide (97 ≤ (c : Int)) && decide ((c : Int) ≤ 122)) || (decide (48 ≤ (c : Int)) && decide ((c : Int) ≤ 57)) || decide ((c : Int) = 47) || decide ((c : Int) = 45)) := by unfold keyC; rw [hx]
   rw [hC] at hbad hgood
   repeat' (first
    | refine Grd.intro (fun h => ?_) (fun h => ?_)
    | ((conv => whnf); refine Grd.intro (fun h => ?_) (fun h => ?_)))
   all_goals first
    | exact And.intro trivial (AVle.of_eq (congrArg AV.bool (hbad (by simp_all; omega))))
    | exact And.intro trivial (AVle.of_eq (congrArg AV.bool (hbad (by simp_all))))
    | (refine And.intro (inI64 (by omega) (by omega)) ?_
       exact ⟨i + 1, ⟨hin, hgood (by simp_all; omega)⟩, by omega, [], rfl, rfl, ⟨AVle.refl _, AVle.refl _, AVle.of_eq (congrArg (AV.int .i64) (by simp)), trivial⟩, trivial⟩)
    | (refine And.intro (inI64 (by omega) (by omega)) ?_
       exact ⟨i + 1, ⟨hin, hgood (by simp_all)⟩, by omega, [], rfl, rfl, ⟨AVle.refl _, AVle.refl _, AVle.of_eq (congrArg (AV.int .i64) (by simp)), trivial⟩, trivial⟩)
 · have : i = k.length := by have := of_decide_eq_false h2; omega
   subst this
   conv => whnf
   refine CallC.sca _ (within_fn _ _ _) ?_ ?_
   · exact rfl
   rw [hR, keyOK_all hi.2]
   exact And.intro trivial (AVle.of_eq (congrArg AV.bool (show within ((B k).size : Nat) 1 30 = _ by rw [B_size])))
theorem StoreOK_fn (s : Sto) (hL : s.os.length ≤ 1000000000) (hk : ∀ o ∈ s.os, o.key.length ≤ 1000000000) : VFn Tryz.prog 15 [s.av] (.bool s.ok) := by
 refine VFn.introC Tryz.call15 Tryz.func15 rfl rfl ?_
 conv => whnf
 refine CallC.sca _ (within_fn s.next 1 1000000000) ?_ ?_
 · exact rfl
 refine Grd.intro (fun h1 => ?_) (fun h1 => ?_)
 · have h1 : within s.next 1 1000000000 = false := wnot h1
   rw [show s.ok = false by unfold Sto.ok; rw [h1]; rfl]
   exact And.intro trivial (AVle.refl _)
 have h1 : within s.next 1 1000000000 = true := wyes h1
 refine Grd.intro (fun h2 => ?_) (fun h2 => ?_)
 · have h2 : ¬ s.os.length ≤ 300 := by
    have := of_decide_eq_true (show decide ((300 : Int) < (s.os.length : Int)) = true from h2); omega
   rw [show s.ok = false by unfold Sto.ok; rw [decide_eq_false h2]; simp]
   exact And.intro trivial (AVle.refl _)
 have h2 : s.os.length ≤ 300 := by
  have := of_decide_eq_false (show decide ((300 : Int) < (s.os.length : Int)) = false from h2); omega
 have hn : 1 ≤ s.next ∧ s.next ≤ 1000000000 := by simpa [within] using h1
 refine LoopC.mk (fun i : Nat => i ≤ s.os.length ∧ ∀ j, j < i → s.eOK j = true) (fun i => [(1, .bptr 0 0), (3, .omap 1), (18, obs s.os), (19, .int .i64 s.os.length), (20, .int .i64 i)]) (fun i => [(0, .box s.row), (1, .imap (s.vers i))]) 2 (fun i => s.os.length - i) 0
  ⟨⟨Nat.zero_le _, fun j hj => absurd hj (Nat.not_lt_zero j)⟩, [(0, 0), (1, 1)], rfl, rfl, ⟨AVle.refl _, AVle.refl _, AVle.refl _, AVle.refl _, AVle.refl _, trivial⟩, ⟨MOle.refl _, MOle.refl _, trivial⟩⟩ ?_
 intro i hi
 obtain ⟨hi, hall⟩ := hi
 refine Grd.intro (fun h3 => ?_) (fun h3 => ?_)
 · have hin : i < s.os.length := by have := of_decide_eq_true h3; omega
   have hbad : s.eOK i = false → s.ok = false := Sto.ok_no hin
   refine And.intro (by omega) ?_
   refine DrawC.mq 41 rfl (by kernel_rfl) ?_
   refine PCallQ.sca _ (KeyOK_fn (ix s.os i).key (hk _ (getD_mem hin))) rfl ?_
   refine Grd.intro (fun g1 => ?_) (fun g1 => ?_)
   · rw [hbad (by unfold Sto.eOK; rw [wnot g1]; rfl)]
     exact And.intro trivial (AVle.refl _)
   refine And.intro (inI64 (by omega) (by omega)) ?_
   refine PCallQ.sca _ (within_fn (ix s.os i).ver 1 (s.next - 1)) rfl ?_
   conv => whnf
   refine Grd.intro (fun g2 => ?_) (fun g2 => ?_)
   · rw [hbad (by unfold Sto.eOK; rw [show within (ix s.os i).ver 1 (s.next - 1) = false from wnot g2]; simp)]
     exact And.intro trivial (AVle.refl _)
   conv => whnf
   refine Grd.intro (fun g3 => ?_) (fun g3 => ?_)
   · have g3 : ¬ (ix s.os i).data.length ≤ 600 := by
      have := of_decide_eq_true (show decide ((600 : Int) < (((B (ix s.os i).data).size : Nat) : Int)) = true from g3)
      rw [B_size] at this; omega
     rw [hbad (by unfold Sto.eOK; rw [decide_eq_false g3]; simp)]
     exact And.intro trivial (AVle.refl _)
   conv => whnf
   refine Grd.intro (fun g4 => ?_) (fun g4 => ?_)
   · have g4 : decide ((ix s.os i).ver ∈ (s.os.take i).map (·.ver)) = true := g4
     rw [hbad (by unfold Sto.eOK; rw [g4]; simp)]
     exact And.intro trivial (AVle.refl _)
   have g4 : decide ((ix s.os i).ver ∈ s.vers i) = false := g4
   have g3 : (ix s.os i).data.length ≤ 600 := by
    have := of_decide_eq_false (show decide ((600 : Int) < (((B (ix s.os i).data).size : Nat) : Int)) = false from g3)
    rw [B_size] at this; omega
   have hpre : (decide (i = 0) || decide ((ix s.os (i - 1)).key < (ix s.os i).key)) = true → s.eOK i = true := fun h => by
    unfold Sto.eOK; rw [wyes g1, show within (ix s.os i).ver 1 (s.next - 1) = true from wyes g2, decide_eq_true g3, show decide ((ix s.os i).ver ∈ (s.os.take i).map (·.ver)) = false from g4, h]; rfl
   have hnext : s.eOK i = true → ∀ j, j < i + 1 → s.eOK j = true := fun h j hj => by
    rcases Nat.lt_or_ge j i with h' | h'
    · exact hall j h'
    · rw [show j = i by omega]; exact h
   conv => whnf
   refine Grd.intro (fun g5 => ?_) (fun g5 => ?_)
   · have h0 : 0 < i := by have := of_decide_eq_true g5; omega
     have e1 : ((i : Int) - 1).toNat = i - 1 := by omega
     refine And.intro (inI64 (by omega) (by omega)) ?_
     refine And.intro ⟨by omega, by omega⟩ ?_
     have hcmp : (!Op.bytesLess (B (ix s.os ((i : Int) - 1).toNat).key).toList (B (ix s.os i).key).toList) = !decide ((ix s.os (i - 1)).key < (ix s.os i).key) := by rw [blt_lt, e1]
     conv => whnf
     refine Grd.intro (fun g6 => ?_) (fun g6 => ?_)
     · have g6 := hcmp.symm.trans g6
       rw [hbad (by unfold Sto.eOK; rw [show decide ((ix s.os (i - 1)).key < (ix s.os i).key) = false from wnot g6, decide_eq_false (show ¬ i = 0 by omega)]; simp)]
       exact And.intro trivial (AVle.refl _)
     · have g6 := hcmp.symm.trans g6
       have he := hpre (by rw [show decide ((ix s.os (i - 1)).key < (ix s.os i).key) = true from wyes g6]; simp)
       refine And.intro (inI64 (by omega) (by omega)) ?_
       refine ⟨i + 1, ⟨hin, hnext he⟩, by omega, [(0, 0), (1, 1)], rfl, rfl, ⟨AVle.refl _, AVle.refl _, AVle.refl _, AVle.refl _, AVle.of_eq (congrArg (AV.int .i64) (by simp)), trivial⟩, ⟨MOle.refl _, MOle.of_eq (show MO.imap (if (ix s.os i).ver ∈ s.vers i then s.vers i else s.vers i ++ [(ix s.os i).ver]) = _ from ?_), trivial⟩⟩
       rw [if_neg (of_decide_eq_false g4), Sto.vers_snoc s hin]
   · have h0 : i = 0 := by have := of_decide_eq_false g5; omega
     have he := hpre (by rw [decide_eq_true h0]; rfl)
     refine And.intro (inI64 (by omega) (by omega)) ?_
     refine ⟨i + 1, ⟨hin, hnext he⟩, by omega, [(0, 0), (1, 1)], rfl, rfl, ⟨AVle.refl _, AVle.refl _, AVle.refl _, AVle.refl _, AVle.of_eq (congrArg (AV.int .i64) (by simp)), trivial⟩, ⟨MOle.refl _, MOle.of_eq (show MO.imap (if (ix s.os i).ver ∈ s.vers i then s.vers i else s.vers i ++ [(ix s.os i).ver]) = _ from ?_), trivial⟩⟩
     rw [if_neg (of_decide_eq_false g4), Sto.vers_snoc s hin]
 · have : i = s.os.length := by have := of_decide_eq_false h3; omega
   subst this
   rw [Sto.ok_yes h1 h2 hall]
   exact And.intro trivial (AVle.refl _)
theorem CloneOb_own (L : List Ob) (hL : L.length ≤ 1000000) : FnM Tryz.prog 38 0 [obs L] [] (.osl 0) [(0, .arr 55 3 L.length fun i => (ix L i).row)] 1 := by
 refine FnM.introN Tryz.call38 Tryz.func38 rfl rfl ?_
 conv => whnf
 refine OpC.isnil rfl rfl rfl rfl rfl (fun h0 => ?_) ?_
 · conv => whnf
   exact ⟨_, .inr ⟨2, 55, 3, fun i => (ix L i).row, rfl, rfl⟩, And.intro trivial ⟨[(0, 0)], rfl, AVle.refl _, ⟨MOle.arr h0.symm fun i hi => rfl, trivial⟩⟩⟩
 · conv => whnf
   refine And.intro ⟨show (0 + L.length) * 40 ≤ 140737488355328 by omega, fun i hi => rfl⟩ ?_
   conv => whnf
   exact ⟨_, .inl rfl, And.intro trivial ⟨[(1, 0)], rfl, AVle.refl _, ⟨MOle.arr (Nat.zero_add _) fun i hi => appRows_ge (Nat.zero_le _), trivial⟩⟩⟩
theorem cmp_lt : ∀ a b : List UInt8, decide (Lib.compareBytes a b < 0) = decide (a < b)
 | [], [] => by simp [Lib.compareBytes]
 | [], _ :: _ => by simp [Lib.compareBytes]
 | _ :: _, [] => by simp [Lib.compareBytes]
 | x :: a, y :: b => by
   have ih := cmp_lt a b
   unfold Lib.compareBytes
   by_cases h1 : x < y
   · simp [h1, List.cons_lt_cons_iff]
   · by_cases h2 : y < x
     · have : ¬ x = y := fun e => by subst e; exact h1 h2
       simp only [List.cons_lt_cons_iff]; simp [h1, h2, this]
     · have : x = y := UInt8.le_antisymm (UInt8.not_lt.1 h2) (UInt8.not_lt.1 h1)
       subst this
       simp only [List.cons_lt_cons_iff]; simp [h1, ih]
theorem cmp_eq : ∀ a b : List UInt8, decide (Lib.compareBytes a b = 0) = decide (a = b)
 | [], [] => by simp [Lib.compareBytes]
 | [], _ :: _ => by simp [Lib.compareBytes]
 | _ :: _, [] => by simp [Lib.compareBytes]
 | x :: a, y :: b => by
   have ih := cmp_eq a b
   unfold Lib.compareBytes
   by_cases h1 : x < y
   · have : ¬ x = y := fun e => by subst e; exact UInt8.lt_irrefl _ h1
     simp [h1, this]
   · by_cases h2 : y < x
     · have : ¬ x = y := fun e => by subst e; exact h1 h2
       simp [h1, h2, this]
     · have : x = y := UInt8.le_antisymm (UInt8.not_lt.1 h2) (UInt8.not_lt.1 h1)
       subst this
       simp [h1]
       simpa using ih
theorem Compare_fn (a b : List UInt8) : VFn Tryz.prog 160 [.str (B a), .str (B b)] (.int .i64 (Lib.compareBytes a b)) := by
 refine VFn.lib Tryz.call160 fun w ok vs hJ hok hv => ?_
 obtain ⟨v, us, rfl, hv, v2, us2, rfl, hv2, hus⟩ := hv
 have e1 : v = .string (B a) := hv
 have e2 : v2 = .string (B b) := hv2
 have e3 : us2 = [] := hus
 subst e1 e2 e3
 refine (Tryz.strings_Compare (B a) (B b) w).mono ?_
 rintro e w' ⟨rfl, rfl⟩
 exact ⟨_, rfl, Go.RowKit.Below.refl _ _, fun _ _ => by rw [B_data, B_data]; rfl⟩
theorem find1_fn (o : Ob) (k : List UInt8) : VFn Tryz.prog 159 [o.av, .str (B k)] (.int .i64 (Lib.compareBytes o.key k)) := by
 refine VFn.introC Tryz.call159 Tryz.func159 rfl rfl ?_
 conv => whnf
 refine CallC.sca _ (Compare_fn o.key k) ?_ ?_
 · exact rfl
 exact And.intro trivial (AVle.refl _)
theorem Search_fn (L : List Ob) (hS : Srt L) (hL : L.length ≤ 1000000) (k : List UInt8) : VFn Tryz.prog 158 [obs L, .str (B k), .fn (.func 159) [] []] (.tup [.int .i64 (lb k L), .bool (hasK k L)]) := by
 have hle := lb_le k L
 refine VFn.introC Tryz.call158 Tryz.func158 rfl rfl ?_
 refine LoopC.mk (fun p : Nat × Nat => p.1 ≤ lb k L ∧ lb k L ≤ p.2 ∧ p.2 ≤ L.length) (fun p => [(0, obs L), (1, .str (B k)), (2, .fn (.func 159) [] []), (6, .int .i64 0), (7, .bool false), (8, .int .i64 L.length), (9, .int .i64 p.1), (10, .int .i64 p.2)]) (fun _ => []) 0 (fun p => p.2 - p.1) (0, L.length)
  ⟨⟨Nat.zero_le _, hle, Nat.le_refl _⟩, [], rfl, rfl, ⟨AVle.refl _, AVle.refl _, AVle.refl _, AVle.refl _, AVle.refl _, AVle.refl _, AVle.refl _, AVle.refl _, trivial⟩, trivial⟩ ?_
 rintro ⟨i, j⟩ hp
 obtain ⟨h1, h2, h3⟩ := hp
 simp only at h1 h2 h3
 refine Grd.intro (fun g1 => ?_) (fun g1 => ?_)
 · have hij : i < j := by have := of_decide_eq_true g1; omega
   have eh : ((i : Int) + (j : Int)) / 2 = (((i + j) / 2 : Nat) : Int) := by omega
   refine And.intro (inI64 (by omega) (by omega)) ?_
   refine And.intro (show inI .u64 ((i : Int) + (j : Int)) from ⟨show (0 : Int) ≤ _ by omega, show _ ≤ (18446744073709551615 : Int) by omega⟩) ?_
   refine And.intro ⟨by omega, by omega, rfl⟩ ?_
   rw [eh]
   obtain ⟨h, hh⟩ : ∃ h, h = (i + j) / 2 := ⟨_, rfl⟩
   rw [← hh]
   have hi : i ≤ h := by omega
   have hj : h < j := by omega
   refine And.intro (inI64 (by omega) (by omega)) ?_
   refine And.intro ⟨by omega, by omega⟩ ?_
   conv => whnf
   refine CallC.sca _ (find1_fn (ix L h) k) ?_ ?_
   · exact rfl
   have hc : decide (Lib.compareBytes (ix L h).key k < 0) = decide (h < lb k L) := by rw [cmp_lt]; exact decide_eq_decide.2 (hS.iff (by omega))
   refine Grd.intro (fun g2 => ?_) (fun g2 => ?_)
   · have g2 : h < lb k L := of_decide_eq_true (hc.symm.trans g2)
     refine And.intro (inI64 (by omega) (by omega)) ?_
     exact ⟨(h + 1, j), ⟨by simp only; omega, by simp only; omega, by simp only; omega⟩, by simp only; omega, [], rfl, rfl, ⟨AVle.refl _, AVle.refl _, AVle.refl _, AVle.refl _, AVle.refl _, AVle.refl _, AVle.of_eq (congrArg (AV.int .i64) (by simp)), AVle.refl _, trivial⟩, trivial⟩
   · have g2 : ¬ h < lb k L := of_decide_eq_false (hc.symm.trans g2)
     exact ⟨(i, h), ⟨by simp only; omega, by simp only; omega, by simp only; omega⟩, by simp only; omega, [], rfl, rfl, ⟨AVle.refl _, AVle.refl _, AVle.refl _, AVle.refl _, AVle.refl _, AVle.refl _, AVle.refl _, AVle.refl _, trivial⟩, trivial⟩
 · have hij : j ≤ i := by have := of_decide_eq_false g1; omega
   have e1 : i = lb k L := by omega
   subst e1
   refine Grd.intro (fun g2 => ?_) (fun g2 => ?_)
   · have g2 : lb k L < L.length := by have := of_decide_eq_true g2; omega
     refine And.intro ⟨by omega, by omega⟩ ?_
     conv => whnf
     refine CallC.sca _ (find1_fn (ix L (lb k L)) k) ?_ ?_
     · exact rfl
     refine And.intro trivial (AVle.of_eq (congrArg (fun b => AV.tup [.int .i64 (lb k L), .bool b]) (show decide (Lib.compareBytes (ix L (lb k L)).key k = 0) = _ from ?_)))
     rw [cmp_eq]; unfold hasK; rw [decide_eq_true g2]; rfl
   · have g2 : ¬ lb k L < L.length := by have := of_decide_eq_false g2; omega
     refine And.intro trivial (AVle.of_eq (congrArg (fun b => AV.tup [.int .i64 (lb k L), .bool b]) (show false = _ from ?_)))
     unfold hasK; rw [decide_eq_false g2]; rfl
theorem find_fn (s : Sto) (hs : s.ok = true) (k : List UInt8) : VFn Tryz.prog 125 [s.av, .str (B k)] (.tup [.int .i64 (s.pos k), .bool (s.has k)]) := by
 have hL := (Sto.ok_at hs).2.1
 refine VFn.introC Tryz.call125 Tryz.func125 rfl rfl ?_
 conv => whnf
 refine CallC.sca _ (Search_fn s.os (Sto.srt hs) (by omega) k) ?_ ?_
 · exact rfl
 exact And.intro trivial (AVle.refl _)
theorem get_fn (s : Sto) (hs : s.ok = true) (k : List UInt8) : VFn Tryz.prog 122 [s.av, .str (B k)] (if s.has k = true then .tup [.str (B (s.get k).data), .bool true] else .tup [.str (B []), .bool false]) := by
 by_cases h : s.has k = true
 · rw [if_pos h]
   have hp := (hasK_at h).1
   have c := find_fn s hs k
   rw [h] at c
   refine VFn.introC Tryz.call122 Tryz.func122 rfl rfl ?_
   conv => whnf
   refine CallC.sca _ (c) ?_ ?_
   · exact rfl
   refine And.intro ⟨by omega, show ((lb k s.os : Nat) : Int) < (s.os.length : Int) by omega⟩ ?_
   exact And.intro trivial (AVle.refl _)
 · rw [if_neg h]
   have c := find_fn s hs k
   rw [show s.has k = false by simpa using h] at c
   refine VFn.introC Tryz.call122 Tryz.func122 rfl rfl ?_
   conv => whnf
   refine CallC.sca _ (c) ?_ ?_
   · exact rfl
   exact And.intro trivial (AVle.refl _)
theorem copied_own (s : Sto) (hL : s.os.length ≤ 1000000) : FnM Tryz.prog 18 0 [s.av] [] s.own [(0, .arr 55 3 s.os.length fun i => (ix s.os i).row)] 1 := by
 refine FnM.introC Tryz.call18 Tryz.func18 rfl rfl ?_
 refine DrawC.mq 6 rfl (by kernel_rfl) ?_
 conv => whnf
 refine PCallQ.own (CloneOb_own s.os hL) rfl (fun i hi => rfl) ?_
 exact And.intro trivial ⟨[(4, 0)], rfl, AVle.refl _, ⟨MOle.refl _, trivial⟩⟩
def insR (i : Nat) (rows r1 : Nat → List AV) (j : Nat) : List AV := if j < i then rows j else if j = i then r1 0 else rows (j - 1)
theorem Insert_own (n i : Nat) (rows r1 : Nat → List AV) (hn : n ≤ 1000000) (hi : i ≤ n) (h1 : ∀ j, j < n → (rows j).all AV.one = true) (h2 : (r1 0).all AV.one = true) :
 FnM Tryz.prog 150 2 [.osl 0, .int .i64 i, .osl 1] [(0, .arr 55 3 n rows), (1, .arr 55 3 1 r1)] (.osl 2) [(2, .arr 55 3 (n + 1) (insR i rows r1))] 3 := by
 refine FnM.introC Tryz.call150 Tryz.func150 rfl rfl ?_
 refine And.intro ⟨by omega, by omega⟩ ?_
 refine Grd.intro (fun g1 => ?_) (fun g1 => ?_)
 · have e : i = n := by have := of_decide_eq_true g1; omega
   subst e
   refine And.intro ⟨show (i + 1) * 40 ≤ 140737488355328 by omega, all1 h2⟩ ?_
   exact And.intro trivial ⟨[(0, 0), (1, 1), (2, 2)], rfl, AVle.refl _, ⟨MOle.arr rfl fun j hj => by
    unfold insR
    by_cases hji : j < i
    · rw [appRows_lt hji, if_pos hji]
    · have : j = i := by omega
      subst this
      rw [appRows_ge (Nat.le_refl _), if_neg hji, if_pos rfl, Nat.sub_self], trivial⟩⟩
 have hin : i < n := by have := of_decide_eq_false g1; omega
 refine And.intro (inI64 (by omega) (by omega)) ?_
 conv => whnf
 refine OpC.cap rfl rfl rfl rfl rfl (fun c hc hcm => ?_)
 refine Grd.intro (fun g2 => ?_) (fun g2 => ?_)
 · have g2 : c < n + 1 := by have := of_decide_eq_true g2; omega
   conv => whnf
   refine OpC.headc rfl rfl rfl rfl rfl rfl rfl ⟨by omega, by omega⟩ ?_
   refine And.intro (inI64 (by omega) (by omega)) ?_
   refine And.intro (inI64 (by omega) (by omega)) ?_
   conv => whnf
   refine OpC.appz (q := n + 1 - i) rfl rfl rfl rfl rfl rfl rfl rfl rfl (by show ((n : Int) + 1 - i) = _; omega) (by omega) (by show c < (i : Int).toNat + (n + 1 - i); omega) (show ((i : Int).toNat + (n + 1 - i)) * 40 ≤ 140737488355328 by omega) ?_
   refine And.intro ⟨by omega, by omega⟩ ?_
   conv => whnf
   refine OpC.copy rfl rfl rfl rfl rfl rfl rfl (by show 1 ≤ (i : Int).toNat + (n + 1 - i) - (i : Int).toNat; omega) (Nat.le_refl _) (fun j hj => ?_) ?_
   · have : j = 0 := by have : Nat.min 1 ((i : Int).toNat + (n + 1 - i) - (i : Int).toNat) ≤ 1 := Nat.min_le_left _ _; omega
     subst this; exact h2
   refine DrawC.mq 8 rfl (by kernel_rfl) ?_
   refine And.intro (inI64 (by omega) (by omega)) ?_
   conv => whnf
   refine And.intro ⟨by omega, by omega⟩ ?_
   conv => whnf
   refine And.intro ⟨by omega, by omega⟩ ?_
   conv => whnf
   refine OpC.copy rfl rfl rfl rfl rfl rfl rfl (by show 1 ≤ (i : Int).toNat + (n + 1 - i) - ((i : Int) + ((1 : Nat) : Int)).toNat; omega) (by show 1 ≤ n - (i : Int).toNat; omega) (fun j hj => ?_) ?_
   · have : Nat.min (n - (i : Int).toNat) ((i : Int).toNat + (n + 1 - i) - ((i : Int) + ((1 : Nat) : Int)).toNat) ≤ n - (i : Int).toNat := Nat.min_le_left _ _
     exact h1 _ (by omega)
   refine And.intro trivial ⟨[(0, 0), (1, 1), (2, 2)], rfl, AVle.refl _, ⟨MOle.arr (by omega) fun j hj => ?_, trivial⟩⟩
   have e1 : Nat.min 1 ((i : Int).toNat + (n + 1 - i) - (i : Int).toNat) = 1 := Nat.min_eq_left (by omega)
   have e2 : Nat.min (n - (i : Int).toNat) ((i : Int).toNat + (n + 1 - i) - ((i : Int) + ((1 : Nat) : Int)).toNat) = n - i := (Nat.min_eq_left (by omega)).trans (by omega)
   have e3 : (i : Int).toNat = i := by omega
   have e4 : ((i : Int) + ((1 : Nat) : Int)).toNat = i + 1 := by omega
   have hj : j < n + 1 := by omega
   simp only [e1, e2]
   simp only [e3, e4]
   unfold insR
   by_cases c1 : j < i
   · rw [blt_t (show j < i + 1 by omega), blt_t c1, if_pos c1]
     simp only [cond_true, blt_t c1]
   · by_cases c2 : j = i
     · subst c2
       rw [blt_t (Nat.lt_succ_self j), blt_f (Nat.le_refl _), if_neg c1, if_pos rfl]
       simp [blt_t (Nat.lt_succ_self j)]
     · rw [blt_f (show i + 1 ≤ j by omega), blt_t (show j < i + 1 + (n - i) by omega), if_neg c1, if_neg c2]
       simp only [cond_true, cond_false]
       congr 1; omega
 · have g2 : n + 1 ≤ c := by have := of_decide_eq_false g2; omega
   refine And.intro (inI64 (by omega) (by omega)) ?_
   conv => whnf
   refine OpC.grow rfl rfl rfl rfl rfl rfl rfl ⟨by omega, by omega⟩ ?_
   refine And.intro (inI64 (by omega) (by omega)) ?_
   refine And.intro ⟨by omega, by omega⟩ ?_
   conv => whnf
   refine CallC.overlaps Tryz.func180 (by kernel_rfl) (by kernel_rfl) (by kernel_rfl) (tS := 23) (tR := 4) (sz := 3) (by kernel_rfl) rfl rfl (by decide) rfl rfl rfl (Nat.le_refl _) (by omega) rfl ?_
   conv => whnf
   refine DrawC.mq 8 rfl (by kernel_rfl) ?_
   refine And.intro (inI64 (by omega) (by omega)) ?_
   conv => whnf
   refine And.intro ⟨by omega, by omega⟩ ?_
   conv => whnf
   refine And.intro ⟨by omega, by omega⟩ ?_
   conv => whnf
   have m1 : Nat.min (((n : Int) + ((1 : Nat) : Int)).toNat - (i : Int).toNat) (((n : Int) + ((1 : Nat) : Int)).toNat - ((i : Int) + ((1 : Nat) : Int)).toNat) = n - i := (Nat.min_eq_right (by omega)).trans (by omega)
   have m2 : Nat.min 1 (((n : Int) + ((1 : Nat) : Int)).toNat - (i : Int).toNat) = 1 := Nat.min_eq_left (by omega)
   refine OpC.copy rfl rfl rfl rfl rfl rfl rfl (by show 1 ≤ ((n : Int) + ((1 : Nat) : Int)).toNat - ((i : Int) + ((1 : Nat) : Int)).toNat; omega) (by show 1 ≤ ((n : Int) + ((1 : Nat) : Int)).toNat - (i : Int).toNat; omega) (fun j hj => ?_) ?_
   · have hj : j < n - i := by rw [← m1]; exact hj
     dsimp only
     rw [blt_t (show (i : Int).toNat + j < n by omega)]
     exact h1 _ (by omega)
   refine And.intro ⟨by omega, by omega⟩ ?_
   conv => whnf
   refine OpC.copy rfl rfl rfl rfl rfl rfl rfl (by show 1 ≤ ((n : Int) + ((1 : Nat) : Int)).toNat - (i : Int).toNat; omega) (Nat.le_refl _) (fun j hj => ?_) ?_
   · have hj : j < 1 := by rw [← m2]; exact hj
     have : j = 0 := by omega
     subst this; exact h2
   refine And.intro trivial ⟨[(0, 0), (1, 1), (2, 2)], rfl, AVle.refl _, ⟨MOle.arr (by omega) fun j hj => ?_, trivial⟩⟩
   have e3 : (i : Int).toNat = i := by omega
   have e4 : ((i : Int) + ((1 : Nat) : Int)).toNat = i + 1 := by omega
   have e5 : ((n : Int) + ((1 : Nat) : Int)).toNat = n + 1 := by omega
   have hj : j < n + 1 := by omega
   simp only [m1, m2]
   simp only [e3, e4, e5]
   unfold insR
   by_cases c1 : j < i
   · rw [if_pos c1]
     simp only [cond_true, blt_t c1, blt_t (show j < i + 1 by omega), blt_t (show j < n by omega)]
   · by_cases c2 : j = i
     · subst c2
       rw [if_neg c1, if_pos rfl]
       simp [blt_f (Nat.le_refl j), blt_t (Nat.lt_succ_self j)]
     · rw [if_neg c1, if_neg c2]
       simp only [cond_true, cond_false, blt_f (show i ≤ j by omega), blt_f (show i + 1 ≤ j by omega), blt_t (show j < i + 1 + (n - i) by omega), blt_t (show i + (j - (i + 1)) < n by omega)]
       congr 1; omega
theorem first_room (s : Sto) (k d : List UInt8) (x : Bool) (hx : ((!s.has k && decide (s.os.length = 300)) || decide (s.next = 1000000000)) = x) {n : Nat} {rows : Nat → List AV} (hr : FirstRows 4 3 rows 0 [(decide ((600 : Int) < (((B d).size : Nat) : Int)), 8), (x, 7)]) (hn : n = 4) :
 VFn Tryz.prog 14 [.sl 1 n rows] (.int .i64 (s.room k d)) := by
 have e : firstC [(decide ((600 : Int) < (((B d).size : Nat) : Int)), 8), (x, 7)] = s.room k d := by
  unfold Sto.room
  rw [hx, B_size]
  unfold firstC firstC firstC
  by_cases h1 : 600 < d.length
  · rw [if_pos h1, decide_eq_true (show (600 : Int) < (d.length : Int) by omega)]; rfl
  · rw [if_neg h1, decide_eq_false (show ¬ (600 : Int) < (d.length : Int) by omega)]
    cases x <;> rfl
 rw [← e]
 exact first_of _ hr hn (show 2 ≤ 1000 by decide)
theorem set_ix (s : Sto) (k d : List UInt8) {j : Nat} (hj : j < (s.set k d).os.length) : ix (s.set k d).os j = if j < s.pos k then ix s.os j else if j = s.pos k then ⟨k, s.next, d⟩ else ix s.os (if s.has k = true then j else j - 1) := by
 have hl : s.pos k ≤ s.os.length := lb_le k s.os
 have ht : (s.os.take (s.pos k)).length = s.pos k := by simp; omega
 rw [Sto.set_len] at hj
 have hlen : (s.os.take (s.pos k)).length + ((⟨k, s.next, d⟩ :: s.os.drop (if s.has k = true then s.pos k + 1 else s.pos k)) : List Ob).length = (s.set k d).os.length := by unfold Sto.set; simp
 rw [Sto.set_len] at hlen
 show ix (s.os.take (s.pos k) ++ (⟨k, s.next, d⟩ :: s.os.drop (if s.has k = true then s.pos k + 1 else s.pos k))) j = _
 by_cases h1 : j < s.pos k
 · rw [if_pos h1, ix_app1 (by omega), ix_take h1]
 · rw [if_neg h1, ix_app2 (by omega) (by rw [hlen]; exact hj), ht]
   by_cases h2 : j = s.pos k
   · rw [if_pos h2, h2, Nat.sub_self]; rfl
   · rw [if_neg h2]
     obtain ⟨m, hm⟩ : ∃ m, j - s.pos k = m + 1 := ⟨j - s.pos k - 1, by omega⟩
     rw [hm]
     show ix (s.os.drop _) m = _
     rw [ix_drop]
     congr 1
     split <;> omega
theorem put_fn (s : Sto) (hs : s.ok = true) (k d : List UInt8) (hd : d.length ≤ 1000000000) : VFn Tryz.prog 118 [s.av, .str (B k), .str (B d)] (if s.room k d = 0 then .tup [(s.set k d).av, .int .i64 s.next, .int .i64 0] else .tup [s.av, .int .i64 0, .int .i64 (s.room k d)]) := by
 have hL := (Sto.ok_at hs).2.1
 have hnx : 1 ≤ s.next ∧ s.next ≤ 1000000000 := by simpa [within] using (Sto.ok_at hs).1
 have hlb : s.pos k ≤ s.os.length := lb_le k s.os
 by_cases hk : s.has k = true
 · have hp := (hasK_at hk).1
   have c := find_fn s hs k
   rw [hk] at c
   refine VFn.introC Tryz.call118 Tryz.func118 rfl rfl ?_
   conv => whnf
   refine CallC.sca _ (c) ?_ ?_
   · exact rfl
   conv => whnf
   refine CallC.sca _ (first_room s k d (decide (s.next = 1000000000)) (by rw [hk]; rfl) ⟨rfl, rfl, rfl, rfl, trivial⟩ rfl) ?_ ?_
   · exact rfl
   refine Grd.intro (fun g => ?_) (fun g => ?_)
   · have g : s.room k d ≠ 0 := by simpa using g
     rw [if_neg g]
     exact And.intro trivial (AVle.refl _)
   · have g : s.room k d = 0 := by simpa using g
     rw [if_pos g]
     refine DrawC.mkQ 11 [(.inr 7, 9), (.inr 8, 10)] rfl (by kernel_rfl) ?_
     refine And.intro rfl ?_
     conv => whnf
     refine PCallQ.own (copied_own s (by omega)) rfl (fun i hi => rfl) ?_
     conv => whnf
     refine And.intro ⟨by omega, show ((lb k s.os : Nat) : Int) < (s.os.length : Int) by omega⟩ ?_
     refine And.intro (inI64 (by omega) (by omega)) ?_
     refine DrawC.mkQ 6 [(.inl 1, 3)] rfl (by kernel_rfl) ?_
     refine And.intro rfl ?_
     refine And.intro trivial (AVle.tup (AVsle.cons (AVle.agg (AVsle.cons (AVle.sl (by rw [Sto.set_len, if_pos hk]) fun i hi => ?_) (AVsle.cons (AVle.refl _) AVsle.nil))) (AVsle.cons (AVle.refl _) (AVsle.cons (AVle.refl _) AVsle.nil))))
     show (bif Nat.beq i (((lb k s.os : Nat) : Int).toNat) then [.str (B k), .int .i64 s.next, .str (B d)] else (ix s.os i).row) = _
     rw [set_ix s k d (by rw [Sto.set_len, if_pos hk]; exact hi), if_pos hk]
     unfold Sto.pos
     by_cases h1 : i = lb k s.os
     · subst h1; rw [if_neg (Nat.lt_irrefl _), if_pos rfl]; simp [Ob.row]
     · rw [beq_f (show ¬ i = ((lb k s.os : Nat) : Int).toNat by omega), if_neg h1, ite_self]; rfl
 · have hk' : s.has k = false := by simpa using hk
   have c := find_fn s hs k
   rw [hk'] at c
   have fin : ∀ x : Bool, ((!s.has k && decide (s.os.length = 300)) || decide (s.next = 1000000000)) = x → x = true → s.room k d ≠ 0 := fun x hx h => by
    unfold Sto.room; rw [hx, h]; split <;> decide
   refine VFn.introC Tryz.call118 Tryz.func118 rfl rfl ?_
   conv => whnf
   refine CallC.sca _ (c) ?_ ?_
   · exact rfl
   refine Grd.intro (fun g0 => ?_) (fun g0 => ?_)
   · have hx : ((!s.has k && decide (s.os.length = 300)) || decide (s.next = 1000000000)) = true := by
      rw [hk', show decide (s.os.length = 300) = true from decide_eq_true (by have := of_decide_eq_true g0; omega)]; rfl
     conv => whnf
     refine CallC.sca _ (first_room s k d true hx ⟨rfl, rfl, rfl, rfl, trivial⟩ rfl) ?_ ?_
     · exact rfl
     have g := fin true hx rfl
     rw [if_neg g]
     refine Grd.intro (fun g => ?_) (fun g => absurd (by simpa using g) ‹s.room k d ≠ 0›)
     exact And.intro trivial (AVle.refl _)
   have hx : ((!s.has k && decide (s.os.length = 300)) || decide (s.next = 1000000000)) = decide (s.next = 1000000000) := by
    rw [show decide (s.os.length = 300) = false from decide_eq_false (by have := of_decide_eq_false g0; omega)]; simp
   conv => whnf
   refine CallC.sca _ (first_room s k d (decide (s.next = 1000000000)) hx ⟨rfl, rfl, rfl, rfl, trivial⟩ rfl) ?_ ?_
   · exact rfl
   refine Grd.intro (fun g => ?_) (fun g => ?_)
   · have g : s.room k d ≠ 0 := by simpa using g
     rw [if_neg g]
     exact And.intro trivial (AVle.refl _)
   · have g : s.room k d = 0 := by simpa using g
     rw [if_pos g]
     refine DrawC.mkQ 11 [(.inr 7, 9), (.inr 8, 10)] rfl (by kernel_rfl) ?_
     refine And.intro rfl ?_
     conv => whnf
     refine PCallQ.own (copied_own s (by omega)) rfl (fun i hi => rfl) ?_
     conv => whnf
     refine CallC.k [(4, 0), (14, 1)] (Insert_own s.os.length (s.pos k) (fun i => (ix s.os i).row) (fun _ => [.str (B k), .int .i64 s.next, .str (B d)]) (by omega) hlb (fun j hj => rfl) rfl) rfl rfl (AVsle.refl _) ?_ rfl ?_
     · refine ⟨MOle.refl _, MOle.arr rfl (fun j hj => ?_), trivial⟩
       have : j = 0 := by omega
       subst this; rfl
     conv => whnf
     refine And.intro (inI64 (by omega) (by omega)) ?_
     refine DrawC.mkQ 6 [(.inl 1, 3)] rfl (by kernel_rfl) ?_
     refine And.intro rfl ?_
     refine And.intro trivial (AVle.tup (AVsle.cons (AVle.agg (AVsle.cons (AVle.sl (by rw [Sto.set_len, if_neg hk]) fun i hi => ?_) (AVsle.cons (AVle.refl _) AVsle.nil))) (AVsle.cons (AVle.refl _) (AVsle.cons (AVle.refl _) AVsle.nil))))
     show insR (lb k s.os) (fun i => (ix s.os i).row) (fun _ => [.str (B k), .int .i64 s.next, .str (B d)]) i = _
     rw [set_ix s k d (by rw [Sto.set_len, if_neg hk]; exact hi), if_neg hk]
     unfold insR Sto.pos
     by_cases h1 : i < lb k s.os
     · rw [if_pos h1, if_pos h1]
     · rw [if_neg h1, if_neg h1]
       by_cases h2 : i = lb k s.os
       · rw [if_pos h2, if_pos h2]; rfl
       · rw [if_neg h2, if_neg h2]
theorem bucketsText_fn (L : List Bk) (hL : L.length ≤ 8) (hN : ∀ s ∈ L, s.ok) : VFn Tryz.prog 82 [bks L] (.str (B (bksText L))) := by
 have hlen := bksText_len hN
 refine VFn.introC Tryz.call82 Tryz.func82 rfl rfl ?_
 refine LoopC.mk (fun i : Nat => i ≤ L.length) (fun i => [(7, bks L), (8, .int .i64 L.length), (3, .osl 0), (9, .int .i64 i)])
  (fun i => [(0, .arr 20 1 ((L.take i).map fun s => It.t (bkText s)).length (itRow ((L.take i).map fun s => It.t (bkText s))))]) 1 (fun i => L.length - i) 0
  ⟨Nat.zero_le _, [(0, 0)], rfl, rfl, ⟨AVle.refl _, AVle.refl _, AVle.refl _, AVle.refl _, trivial⟩, ⟨MOle.arr rfl fun i hi => absurd hi (Nat.not_lt_zero i), trivial⟩⟩ ?_
 intro i hi
 refine Grd.intro (fun h2 => ?_) (fun h2 => ?_)
 · have hin : i < L.length := by have := of_decide_eq_true h2; omega
   have hs := hN _ (getD_mem hin)
   have hl := bkText_len hs
   refine And.intro (by omega) ?_
   refine DrawC.mq 12 rfl (by kernel_rfl) ?_
   refine PCallQ.sca _ (aggText_fn (ix L i).a hs.2) rfl ?_
   have hok : ∀ x ∈ [It.n (ix L i).t, It.t (atext (ix L i).a)], x.ok := fun x hx => by
    simp only [List.mem_cons, List.not_mem_nil, or_false] at hx
    obtain ⟨g1, g2⟩ := hs
    rcases hx with rfl | rfl
    · exact ⟨by omega, by omega⟩
    · exact trivial
   refine PCallQ.sca (.str (B (bkText (ix L i)))) (joined_of [It.n (ix L i).t, It.t (atext (ix L i).a)] (n := 2) ⟨rfl, rfl, trivial⟩ rfl [58] (show 2 ≤ 100000000 by decide) hok (show (bkText (ix L i)).length ≤ _ by omega)) rfl ?_
   refine And.intro ⟨show (((L.take i).map fun s => It.t (bkText s)).length + 1) * 16 ≤ 140737488355328 by simp; omega, all1 rfl⟩ ?_
   refine And.intro (inI64 (by omega) (by omega)) ?_
   refine ⟨i + 1, hin, by omega, [(14, 0)], rfl, rfl, ⟨AVle.refl _, AVle.refl _, AVle.refl _, AVle.of_eq (congrArg (AV.int .i64) (by simp)), trivial⟩, ⟨?_, trivial⟩⟩
   exact arr_next (f := It.row) (map_take_snoc hin) rfl
 · have : i = L.length := by have := of_decide_eq_false h2; omega
   subst this
   have e : L.take L.length = L := List.take_of_length_le (Nat.le_refl _)
   have e2 : (L.map fun s => It.t (bkText s)).map It.txt = L.map bkText := by rw [List.map_map]; rfl
   rw [e]
   conv => whnf
   refine CallC.sca _ (said_fn (L.map fun s => It.t (bkText s)) (by simp; omega) (fun x hx => by obtain ⟨y, _, rfl⟩ := List.mem_map.1 hx; trivial) (by rw [e2]; exact Nat.le_trans hlen (by omega))) ?_ ?_
   · exact rfl
   exact And.intro trivial (AVle.of_eq (congrArg (fun l => AV.str (B l)) (show Lib.join _ [32] = bksText L by rw [e2]; rfl)))
theorem l03Buckets_fn (L : List Bk) (hL : L.length ≤ 8) (hN : ∀ s ∈ L, s.ok) : VFn Tryz.prog 103 [bks L] (.str (B (bksText L))) := by
 have hlen := bksText_len hN
 refine VFn.introC Tryz.call103 Tryz.func103 rfl rfl ?_
 refine LoopC.mk (fun i : Nat => i ≤ L.length) (fun i => [(0, bks L), (3, .osl 0), (4, .int .i64 i)])
  (fun i => [(0, .arr 9 1 ((L.take i).map bkText).length fun k => [.str (B (ix ((L.take i).map bkText) k))])]) 1 (fun i => L.length - i) 0
  ⟨Nat.zero_le _, [(0, 0)], rfl, rfl, ⟨AVle.refl _, AVle.refl _, AVle.refl _, trivial⟩, ⟨MOle.arr rfl fun i hi => absurd hi (Nat.not_lt_zero i), trivial⟩⟩ ?_
 intro i hi
 refine Grd.intro (fun h2 => ?_) (fun h2 => ?_)
 · have hin : i < L.length := by have := of_decide_eq_true h2; omega
   have hs := hN _ (getD_mem hin)
   have h1 := itoa_len (n := (ix L i).t) (by have := hs.1; omega) (by have := hs.1; omega)
   have h3 := atext_len hs.2
   refine DrawC.mq 16 rfl (by kernel_rfl) ?_
   refine And.intro (by omega) ?_
   refine PCallQ.sca _ (digits_fn (ix L i).t (by have := hs.1; omega) (by have := hs.1; omega)) rfl ?_
   refine And.intro (show (((B (Lib.itoa (ix L i).t)).size + (B [58]).size : Nat) : Int) ≤ 9223372036854775807 by rw [B_size, B_size]; simp; omega) ?_
   refine And.intro (by omega) ?_
   refine PCallQ.sca _ (l02Text_fn (ix L i).a hs.2) rfl ?_
   refine And.intro (show (((B (Lib.itoa (ix L i).t) ++ B [58]).size + (B (atext (ix L i).a)).size : Nat) : Int) ≤ 9223372036854775807 by rw [B_app, B_size, B_size]; simp; omega) ?_
   refine And.intro ⟨show (((L.take i).map bkText).length + 1) * 16 ≤ 140737488355328 by simp; omega, all1 rfl⟩ ?_
   refine And.intro (inI64 (by omega) (by omega)) ?_
   refine ⟨i + 1, hin, by omega, [(17, 0)], rfl, rfl, ⟨AVle.refl _, AVle.refl _, AVle.of_eq (congrArg (AV.int .i64) (by simp)), trivial⟩, ⟨?_, trivial⟩⟩
   exact arr_next (f := fun x => [.str (B x)]) (map_take_snoc hin) (show [AV.str (B (Lib.itoa (ix L i).t) ++ B [58] ++ B (atext (ix L i).a))] = _ by rw [B_app, B_app, ← join2]; rfl)
 · have : i = L.length := by have := of_decide_eq_false h2; omega
   subst this
   have e : L.take L.length = L := List.take_of_length_le (Nat.le_refl _)
   rw [e]
   conv => whnf
   refine CallC.sca _ (l00Join_fn (L.map bkText) [32] (Nat.le_trans hlen (by omega)) (by simp; omega)) ?_ ?_
   · exact rfl
   exact And.intro trivial (AVle.refl _)
structure Act where
 k : Int
 who : Int
 n : Int
 tier : Int
 f : Int
 t : Int
 b : List Smp
def isRange (f t : Int) : Bool := within f 0 100000 && within t f 100000
theorem isRange_fn (f t : Int) : VFn Tryz.prog 62 [.int .i64 f, .int .i64 t] (.bool (isRange f t)) := by
 refine VFn.introC Tryz.call62 Tryz.func62 rfl rfl ?_
 repeat' (first
  | refine Grd.intro (fun h => ?_) (fun h => ?_)
  | refine And.intro trivial (AVle.of_eq (congrArg AV.bool ?_)))
 all_goals (simp_all [isRange, within]; try omega)
theorem l04Range_fn (f t : Int) : VFn Tryz.prog 87 [.int .i64 f, .int .i64 t] (.bool (isRange f t)) := by
 refine VFn.introC Tryz.call87 Tryz.func87 rfl rfl ?_
 conv => whnf
 refine CallC.sca _ (l01In_fn _ _ _) ?_ ?_
 · exact rfl
 refine Grd.intro (fun h => ?_) (fun h => ?_)
 · conv => whnf
   refine CallC.sca _ (l01In_fn _ _ _) ?_ ?_
   · exact rfl
   exact And.intro trivial (AVle.of_eq (congrArg AV.bool (by simp_all [isRange])))
 · exact And.intro trivial (AVle.of_eq (congrArg AV.bool (by simp_all [isRange])))
theorem smpsOK_nil {L : List Smp} (h : L.length = 0) : smpsOK L = true := by
 have : L = [] := List.eq_nil_of_length_eq_zero h
 subst this; rfl
def mid (n : Int) : Prop := -1000000 ≤ n ∧ n ≤ 1000000
theorem mid_len {n : Int} (h : mid n) : (Lib.itoa n).length ≤ 21 := itoa_len (by have := h.1; omega) (by have := h.2; omega)
theorem CutPrefix_fn (s p : List UInt8) : VFn Tryz.prog 105 [.str (B s), .str (B p)] (.tup [.str (B (Lib.trimPrefix s p)), .bool (Lib.hasPrefix s p)]) := by
 refine VFn.lib Tryz.call105 fun w ok vs hJ hok hv => ?_
 obtain ⟨v, us, rfl, hv, v2, us2, rfl, hv2, hus⟩ := hv
 have e1 : v = .string (B s) := hv
 have e2 : v2 = .string (B p) := hv2
 have e3 : us2 = [] := hus
 subst e1 e2 e3
 refine (Tryz.strings_CutPrefix (B s) (B p) w).mono ?_
 rintro e w' ⟨rfl, rfl⟩
 refine ⟨_, rfl, Go.RowKit.Below.refl _ _, fun _ _ => ⟨[_, _], rfl, _, _, rfl, ?_, _, _, rfl, ?_, rfl⟩⟩
 · show Value.string _ = _
   rw [B_data, B_data]; rfl
 · show Value.bool _ = _
   rw [B_data, B_data]
theorem atoi_end (l : List UInt8) : (atoiOk l = true ∧ Lib.atoiAll l = .ok (atoiV l)) ∨ (atoiOk l = false ∧ Lib.atoiAll l = .syntax ∧ atoiV l = 0) ∨ (atoiOk l = false ∧ Lib.atoiAll l = .range ∧ atoiV l = Lib.atoiSat l) := by
 unfold atoiOk atoiV
 cases h : Lib.atoiAll l
 · exact .inl ⟨rfl, rfl⟩
 · exact .inr (.inl ⟨rfl, rfl, rfl⟩)
 · exact .inr (.inr ⟨rfl, rfl, rfl⟩)
theorem Atoi_ok (l : List UInt8) (hl : l.length ≤ 281474976710656) (h : atoiOk l = true) : VFn Tryz.prog 145 [.str (B l)] (.tup [.int .i64 (atoiV l), .niliface]) := by
 have h' : Lib.atoiAll (B l).data.toList = .ok (atoiV l) := by
  rw [B_data]
  rcases atoi_end l with h1 | h1 | h1
  · exact h1.2
  · rw [h] at h1; cases h1.1
  · rw [h] at h1; cases h1.1
 refine VFn.lib Tryz.call145 fun w ok vs hJ hok hv => ?_
 obtain ⟨v, us, rfl, hv, hus⟩ := hv
 have e1 : v = .string (B l) := hv
 have e3 : us = [] := hus
 subst e1 e3
 refine (Tryz.strconv_Atoi_ok (B l) (by rw [B_size]; omega) (atoiV l) h' w).mono ?_
 rintro e w' ⟨rfl, hw⟩
 refine ⟨_, rfl, ?_, fun _ _ => ⟨[_, _], rfl, _, _, rfl, rfl, _, _, rfl, rfl, rfl⟩⟩
 rcases hw with rfl | ⟨t, rfl⟩
 · exact Go.RowKit.Below.refl _ _
 · exact Go.Lib.bytesWorld_below _ _ _
theorem Atoi_no (l : List UInt8) (hl : l.length ≤ 281474976710656) (h : atoiOk l = false) : VFn Tryz.prog 145 [.str (B l)] (.tup [.int .i64 (atoiV l), .iface 220 .any]) := by
 refine VFn.lib Tryz.call145 fun w ok vs hJ hok hv => ?_
 obtain ⟨v, us, rfl, hv, hus⟩ := hv
 have e1 : v = .string (B l) := hv
 have e3 : us = [] := hus
 subst e1 e3
 rcases atoi_end l with h1 | ⟨_, h1, h2⟩ | ⟨_, h1, h2⟩
 · rw [h] at h1; cases h1.1
 · obtain ⟨tp, p, hv⟩ := tab_syntax hJ
   refine (Tryz.strconv_Atoi_syntax_var (B l) (by rw [B_size]; omega) (by rw [B_data]; exact h1) tp p w hv).mono ?_
   rintro e w' ⟨N, rfl, _, _, bel⟩
   refine ⟨_, rfl, bel, fun _ _ => ⟨[_, _], rfl, _, _, rfl, ?_, _, _, rfl, ⟨_, rfl, trivial⟩, rfl⟩⟩
   rw [h2]; rfl
 · obtain ⟨tp, p, hv⟩ := tab_range hJ
   refine (Tryz.strconv_Atoi_range_var (B l) (by rw [B_size]; omega) (by rw [B_data]; exact h1) tp p w hv).mono ?_
   rintro e w' ⟨N, rfl, _, _, bel⟩
   refine ⟨_, rfl, bel, fun _ _ => ⟨[_, _], rfl, _, _, rfl, ?_, _, _, rfl, ⟨_, rfl, trivial⟩, rfl⟩⟩
   rw [h2, ← B_data l]; rfl
end Go.Proofs.YtigbaclopbcjnaaGreatDoor
