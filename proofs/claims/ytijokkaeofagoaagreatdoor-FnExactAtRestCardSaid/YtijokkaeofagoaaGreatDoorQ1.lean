/- Contracts of functions that the claim reaches, and the plain law of what they compute; each theorem bears its own conditions. -/
import Derived.Test.YtijokkaeofagoaaGreatDoorV50
import Derived.Test.YtijokkaeofagoaaGreatDoorSh
import Derived.Test.YtijokkaeofagoaaGreatDoorProg
import Derived.Lib.Join
import Derived.Lib.AtoiErrMem
set_option linter.unusedVariables false
set_option linter.constructorNameAsVariable false
set_option linter.unusedSimpArgs false
namespace Go.Proofs.YtijokkaeofagoaaGreatDoor
open Go Go.Vw
instance : Tabs Tryz.prog := Tabs.and (Tabs.one 3 "internal/strconv.uint64pow10" .u64 Lib.pow10Tab (by kernel_rfl))
  (Tabs.and (Tabs.err 1 "strconv.ErrSyntax" (by kernel_rfl)) (Tabs.and (Tabs.err 2 "strconv.ErrRange" (by kernel_rfl)) (Tabs.num 0)))
theorem tab_pow10 {w : World} (h : Tabs.J Tryz.prog w) : Lib.TabIs Tryz.prog w "internal/strconv.uint64pow10" .u64 Lib.pow10Tab := h.1
theorem tab_syntax {w : World} (h : Tabs.J Tryz.prog w) : HasErr Tryz.prog "strconv.ErrSyntax" w := h.2.1
theorem tab_range {w : World} (h : Tabs.J Tryz.prog w) : HasErr Tryz.prog "strconv.ErrRange" w := h.2.2.1
theorem tab_maxlen {w : World} (h : Tabs.J Tryz.prog w) : HasInt 0 w := h.2.2.2
end Go.Proofs.YtijokkaeofagoaaGreatDoor
set_option linter.unusedVariables false
set_option linter.constructorNameAsVariable false
set_option linter.unusedSimpArgs false
set_option maxRecDepth 20000
namespace Go.Proofs.YtijokkaeofagoaaGreatDoor
open Go Go.Vw

theorem Itoa_fn (n : Int) (h0 : -9223372036854775808 ≤ n) (h1 : n ≤ 9223372036854775807) : VFn Tryz.prog 205 [.int .i64 n] (.str (B (Lib.itoa n))) := by
  refine VFn.lib Tryz.call205 fun w ok vs hJ hok hv => ?_
  obtain ⟨v, us, rfl, hv, hus⟩ := hv
  have e1 : v = .int .i64 n := hv
  have e2 : us = [] := hus
  subst e1 e2
  refine (Tryz.strconv_Itoa n h0 h1 w (tab_pow10 hJ)).mono ?_
  rintro e w' ⟨rfl, k, os, rfl⟩
  exact ⟨_, rfl, Go.Lib.below_grow _ _ (Nat.le_refl _) k os, fun _ _ => rfl⟩

/-- texts in a slice -/
abbrev txts (L : List (List UInt8)) : AV := .sl 1 L.length fun i => [.str (B (ix L i))]
theorem one_digit {n : Int} {k : Nat} (h : n = 48 + k) (hk : k < 10) : strOfNums [n] = B [UInt8.ofNat (48 + k)] := by
  subst h
  have : (48 + (k : Int)).toNat = 48 + k := by omega
  simp [strOfNums, B, this]

theorem digits_nat : ∀ (u : Nat), u ≤ 9223372036854775807 → VFn Tryz.prog 178 [.int .i64 (u : Int)] (.str (B (Lib.decDigits u))) := by
  intro u
  induction u using Nat.strongRecOn with
  | _ u ih =>
    intro hu
    refine VFn.introC Tryz.call178 Tryz.func178 rfl rfl ?_
    refine Grd.intro (fun h1 => ?_) (fun h1 => ?_)
    · have h10 : u < 10 := by simp at h1; omega
      refine And.intro (inI64 (by omega) (by omega)) ?_
      refine And.intro (show inI .u8 (48 + (u : Int)) from ⟨show (0 : Int) ≤ _ by omega, show _ ≤ (255 : Int) by omega⟩) ?_
      refine And.intro (fun i hi => ?_) ?_
      · have : i = 0 := by omega
        subst this; rfl
      exact And.intro trivial (AVle.of_eq (congrArg AV.str (show strOfNums [48 + (u : Int)] = B (Lib.decDigits u) by rw [one_digit rfl h10, Lib.decDigits, dif_pos h10])))
    · have h10 : ¬ u < 10 := by simp at h1; omega
      have hd : (u : Int).tdiv 10 = ((u / 10 : Nat) : Int) := by rw [Int.tdiv_eq_ediv_of_nonneg (by omega)]; simp
      have hm : (u : Int).tmod 10 = ((u % 10 : Nat) : Int) := by rw [Int.tmod_eq_emod_of_nonneg (by omega)]; simp
      refine DrawC.mk 11 rfl (by kernel_rfl) ?_
      refine And.intro ⟨by decide, by rw [hd]; exact inI64 (by omega) (by omega)⟩ ?_
      refine PCallC.sca (.str (B (Lib.decDigits (u / 10)))) (show VFn Tryz.prog 178 [.int .i64 ((u : Int).tdiv 10)] _ from hd ▸ ih (u / 10) (by omega) (by omega)) rfl ?_
      refine And.intro (by decide) ?_
      refine And.intro (inI64 (by omega) (by omega)) ?_
      refine And.intro (show inI .u8 (48 + (u : Int).tmod 10) from ⟨show (0 : Int) ≤ _ by omega, show _ ≤ (255 : Int) by omega⟩) ?_
      refine And.intro (fun i hi => ?_) ?_
      · have : i = 0 := by omega
        subst this; rfl
      have hl := dd_len 19 (u / 10) (by simp; omega)
      refine And.intro (show (((B (Lib.decDigits (u / 10))).size + (strOfNums [48 + (u : Int).tmod 10]).size : Nat) : Int) ≤ 9223372036854775807 by rw [B_size, strOfNums_size]; simp; omega) ?_
      exact And.intro trivial (AVle.of_eq (congrArg AV.str (show B (Lib.decDigits (u / 10)) ++ strOfNums [48 + (u : Int).tmod 10] = B (Lib.decDigits u) by
        rw [one_digit (k := u % 10) (by rw [hm]) (by omega), B_app]; conv => rhs; rw [Lib.decDigits, dif_neg h10])))

theorem digits_fn (n : Int) (h0 : -9223372036854775807 ≤ n) (h1 : n ≤ 9223372036854775807) : VFn Tryz.prog 178 [.int .i64 n] (.str (B (Lib.itoa n))) := by
  by_cases hn : n < 0
  · obtain ⟨u, rfl⟩ : ∃ u : Nat, n = -(u : Int) := ⟨n.natAbs, by omega⟩
    refine VFn.introC Tryz.call178 Tryz.func178 rfl rfl ?_
    refine Grd.intro (fun h => absurd (of_decide_eq_true h) (by omega)) (fun _ => ?_)
    refine Grd.intro (fun _ => ?_) (fun h => absurd (of_decide_eq_false h) (by omega))
    refine And.intro (inI64 (by omega) (by omega)) ?_
    have hneg : - -(u : Int) = u := by omega
    refine CallC.sca (.str (B (Lib.decDigits u))) (show VFn Tryz.prog 178 [.int .i64 (- -(u : Int))] _ from hneg.symm ▸ digits_nat u (by omega)) rfl ?_
    have hl := dd_len 19 u (by simp; omega)
    refine And.intro (show (((B [45]).size + (B (Lib.decDigits u)).size : Nat) : Int) ≤ 9223372036854775807 by rw [B_size, B_size]; simp; omega) ?_
    exact And.intro trivial (AVle.of_eq (congrArg AV.str (show B [45] ++ B (Lib.decDigits u) = B (Lib.itoa (-(u : Int))) by rw [B_app, Lib.itoa_neg u (by omega)]; rfl)))
  · obtain ⟨u, rfl⟩ : ∃ u : Nat, n = (u : Int) := ⟨n.toNat, by omega⟩
    rw [Lib.itoa_nonneg]
    exact digits_nat u (by omega)

theorem join_snoc (s y : List UInt8) : ∀ l : List (List UInt8), l ≠ [] → Lib.join (l ++ [y]) s = Lib.join l s ++ (s ++ y)
  | [], h => absurd rfl h
  | x :: r, _ => by
    rw [List.cons_append, Lib.join_cons, Lib.join_cons]
    simp [Lib.joinTail]
theorem join_take {L : List (List UInt8)} {s : List UInt8} {i : Nat} (h : i < L.length) :
    Lib.join (L.take (i + 1)) s = (if 0 < i then Lib.join (L.take i) s ++ s else Lib.join (L.take i) s) ++ ix L i := by
  rw [take_snoc h]
  split
  · rename_i h0
    rw [join_snoc _ _ _ (fun e => by have := congrArg List.length e; rw [List.length_take] at this; simp only [List.length_nil] at this; omega), List.append_assoc]
  · have : i = 0 := by omega
    subst this
    simp [Lib.join_one, Lib.join_nil]
theorem join_take_len {L : List (List UInt8)} {s : List UInt8} : ∀ {k i : Nat}, i + k = L.length → (Lib.join (L.take i) s).length ≤ (Lib.join L s).length
  | 0, i, h => by rw [List.take_of_length_le (by omega)]; exact Nat.le_refl _
  | k + 1, i, h => by
    have h1 := join_take_len (L := L) (s := s) (k := k) (i := i + 1) (by omega)
    rw [join_take (by omega)] at h1
    split at h1 <;> simp only [List.length_append] at h1 <;> omega
abbrev ints (N : List Int) : AV := .sl 1 N.length fun i => [.int .i64 (ix N i)]
/-- what is joined: a number or a text -/
inductive It where
  | n (i : Int)
  | t (s : List UInt8)
instance : Inhabited It := ⟨.n 0⟩
def It.txt : It → List UInt8
  | .n i => Lib.itoa i
  | .t s => s
def It.row : It → List AV
  | .n i => [.iface 3 (.int .i64 i)]
  | .t s => [.iface 9 (.str (B s))]
def It.ok : It → Prop
  | .n i => -9223372036854775808 ≤ i ∧ i ≤ 9223372036854775807
  | .t _ => True
def itRow (L : List It) (i : Nat) : List AV := (ix L i).row
end Go.Proofs.YtijokkaeofagoaaGreatDoor
set_option linter.unusedVariables false
set_option linter.constructorNameAsVariable false
set_option linter.unusedSimpArgs false
set_option maxRecDepth 20000
namespace Go.Proofs.YtijokkaeofagoaaGreatDoor
open Go Go.Vw

theorem within_fn (n lo hi : Int) : VFn Tryz.prog 65 [.int .i64 n, .int .i64 lo, .int .i64 hi] (.bool (within n lo hi)) := by
  refine VFn.introC Tryz.call65 Tryz.func65 rfl rfl ?_
  refine Grd.intro (fun h1 => ?_) (fun h1 => ?_)
  · refine And.intro trivial (AVle.of_eq (congrArg AV.bool ?_))
    simp_all [within]
  · refine And.intro trivial (AVle.of_eq (congrArg AV.bool ?_))
    simp_all [within]; omega
theorem l01In_fn (n lo hi : Int) : VFn Tryz.prog 47 [.int .i64 n, .int .i64 lo, .int .i64 hi] (.bool (within n lo hi)) := by
  refine VFn.introC Tryz.call47 Tryz.func47 rfl rfl ?_
  refine Grd.intro (fun h1 => ?_) (fun h1 => ?_)
  · refine And.intro trivial (AVle.of_eq (congrArg AV.bool ?_))
    simp_all [within]
  · refine And.intro trivial (AVle.of_eq (congrArg AV.bool ?_))
    simp_all [within]; omega

structure Ag where
  c : Int
  s : Int
  mn : Int
  mx : Int
  f : Int
  l : Int
def Ag.av (a : Ag) : AV := .agg [.int .i64 a.c, .int .i64 a.s, .int .i64 a.mn, .int .i64 a.mx, .int .i64 a.f, .int .i64 a.l]
def Ag.nul (a : Ag) : Bool := decide (a.c = 0) && (decide (a.s = 0) && (decide (a.mn = 0) && (decide (a.mx = 0) && (decide (a.f = 0) && (decide (a.l = 0) && true)))))
def Ag.some (a : Ag) : Bool := within a.c 1 100000 && within a.mn (-1000000) 1000000 && within a.mx (-1000000) 1000000 && within a.f a.mn a.mx && within a.l a.mn a.mx && within a.s (a.c * a.mn) (a.c * a.mx)
def Ag.ok (a : Ag) : Bool := a.nul || a.some
theorem mul_b {c m : Int} (h1 : within c 1 100000 = true) (h2 : within m (-1000000) 1000000 = true) : -100000000000 ≤ c * m ∧ c * m ≤ 100000000000 := by
  simp [within] at h1 h2
  have e1 : c * m ≤ c * 1000000 := Int.mul_le_mul_of_nonneg_left h2.2 (by omega)
  have e2 : c * (-1000000) ≤ c * m := Int.mul_le_mul_of_nonneg_left h2.1 (by omega)
  omega

theorem isValue_fn (n : Int) : VFn Tryz.prog 137 [.int .i64 n] (.bool (within n (-1000000) 1000000)) := by
  refine VFn.introC Tryz.call137 Tryz.func137 rfl rfl ?_
  conv => whnf
  refine CallC.sca _ (within_fn _ _ _) ?_ ?_
  · exact rfl
  exact And.intro trivial (AVle.refl _)
theorem l02Value_fn (n : Int) : VFn Tryz.prog 106 [.int .i64 n] (.bool (within n (-1000000) 1000000)) := by
  refine VFn.introC Tryz.call106 Tryz.func106 rfl rfl ?_
  conv => whnf
  refine CallC.sca _ (l01In_fn _ _ _) ?_ ?_
  · exact rfl
  exact And.intro trivial (AVle.refl _)

theorem AggOK_fn (a : Ag) : VFn Tryz.prog 140 [a.av] (.bool a.ok) := by
  refine VFn.introC Tryz.call140 Tryz.func140 rfl rfl ?_
  refine And.intro (by kernel_rfl) ?_
  refine Grd.intro (fun h0 => ?_) (fun h0 => ?_)
  · exact And.intro trivial (AVle.of_eq (congrArg AV.bool (show true = a.ok by have : a.nul = true := h0; simp [Ag.ok, this])))
  have hn : a.nul = false := h0
  have no : a.some = false → AV.bool false = .bool a.ok := fun h => by simp [Ag.ok, hn, h]
  conv => whnf
  refine CallC.sca _ (within_fn _ _ _) ?_ ?_
  · exact rfl
  refine Grd.intro (fun h1 => ?_) (fun h1 => ?_)
  · conv => whnf
    refine CallC.sca _ (isValue_fn _) ?_ ?_
    · exact rfl
    refine Grd.intro (fun h2 => ?_) (fun h2 => ?_)
    · conv => whnf
      refine CallC.sca _ (isValue_fn _) ?_ ?_
      · exact rfl
      refine Grd.intro (fun h3 => ?_) (fun h3 => ?_)
      · conv => whnf
        refine CallC.sca _ (within_fn _ _ _) ?_ ?_
        · exact rfl
        refine Grd.intro (fun h4 => ?_) (fun h4 => ?_)
        · conv => whnf
          refine CallC.sca _ (within_fn _ _ _) ?_ ?_
          · exact rfl
          refine Grd.intro (fun h5 => ?_) (fun h5 => ?_)
          · have b1 := mul_b h1 h2
            have b2 := mul_b h1 h3
            refine And.intro (inI64 (by omega) (by omega)) ?_
            refine And.intro (inI64 (by omega) (by omega)) ?_
            conv => whnf
            refine CallC.sca _ (within_fn _ _ _) ?_ ?_
            · exact rfl
            exact And.intro trivial (AVle.of_eq (congrArg AV.bool (show within a.s (a.c * a.mn) (a.c * a.mx) = a.ok by
              have q1 : within a.c 1 100000 = true := h1
              have q2 : within a.mn (-1000000) 1000000 = true := h2
              have q3 : within a.mx (-1000000) 1000000 = true := h3
              have q4 : within a.f a.mn a.mx = true := h4
              have q5 : within a.l a.mn a.mx = true := h5
              simp [Ag.ok, Ag.some, hn, q1, q2, q3, q4, q5])))
          · exact And.intro trivial (AVle.of_eq (no (by have q : within a.l a.mn a.mx = false := h5; simp [Ag.some, q])))
        · exact And.intro trivial (AVle.of_eq (no (by have q : within a.f a.mn a.mx = false := h4; simp [Ag.some, q])))
      · exact And.intro trivial (AVle.of_eq (no (by have q : within a.mx (-1000000) 1000000 = false := h3; simp [Ag.some, q])))
    · exact And.intro trivial (AVle.of_eq (no (by have q : within a.mn (-1000000) 1000000 = false := h2; simp [Ag.some, q])))
  · exact And.intro trivial (AVle.of_eq (no (by have q : within a.c 1 100000 = false := h1; simp [Ag.some, q])))

theorem specAggOK_fn (a : Ag) : VFn Tryz.prog 54 [a.av] (.bool a.ok) := by
  refine VFn.introC Tryz.call54 Tryz.func54 rfl rfl ?_
  refine Grd.intro (fun h0 => ?_) (fun h0 => ?_)
  · refine And.intro (by kernel_rfl) ?_
    have hc : a.c = 0 := of_decide_eq_true h0
    exact And.intro trivial (AVle.of_eq (congrArg AV.bool (show a.nul = a.ok by
      have q : within a.c 1 100000 = false := by rw [hc]; rfl
      simp [Ag.ok, Ag.some, q])))
  have hc : ¬ a.c = 0 := of_decide_eq_false h0
  have hn : a.nul = false := by simp [Ag.nul, hc]
  have no : a.some = false → AV.bool false = .bool a.ok := fun h => by simp [Ag.ok, hn, h]
  conv => whnf
  refine CallC.sca _ (l01In_fn _ _ _) ?_ ?_
  · exact rfl
  refine Grd.intro (fun h1 => ?_) (fun h1 => ?_)
  · conv => whnf
    refine CallC.sca _ (l02Value_fn _) ?_ ?_
    · exact rfl
    refine Grd.intro (fun h2 => ?_) (fun h2 => ?_)
    · conv => whnf
      refine CallC.sca _ (l02Value_fn _) ?_ ?_
      · exact rfl
      refine Grd.intro (fun h3 => ?_) (fun h3 => ?_)
      · conv => whnf
        refine CallC.sca _ (l01In_fn _ _ _) ?_ ?_
        · exact rfl
        refine Grd.intro (fun h4 => ?_) (fun h4 => ?_)
        · conv => whnf
          refine CallC.sca _ (l01In_fn _ _ _) ?_ ?_
          · exact rfl
          refine Grd.intro (fun h5 => ?_) (fun h5 => ?_)
          · have b1 := mul_b h1 h2
            have b2 := mul_b h1 h3
            refine And.intro (inI64 (by omega) (by omega)) ?_
            refine And.intro (inI64 (by omega) (by omega)) ?_
            conv => whnf
            refine CallC.sca _ (l01In_fn _ _ _) ?_ ?_
            · exact rfl
            exact And.intro trivial (AVle.of_eq (congrArg AV.bool (show within a.s (a.c * a.mn) (a.c * a.mx) = a.ok by
              have q1 : within a.c 1 100000 = true := h1
              have q2 : within a.mn (-1000000) 1000000 = true := h2
              have q3 : within a.mx (-1000000) 1000000 = true := h3
              have q4 : within a.f a.mn a.mx = true := h4
              have q5 : within a.l a.mn a.mx = true := h5
              simp [Ag.ok, Ag.some, hn, q1, q2, q3, q4, q5])))
          · exact And.intro trivial (AVle.of_eq (no (by have q : within a.l a.mn a.mx = false := h5; simp [Ag.some, q])))
        · exact And.intro trivial (AVle.of_eq (no (by have q : within a.f a.mn a.mx = false := h4; simp [Ag.some, q])))
      · exact And.intro trivial (AVle.of_eq (no (by have q : within a.mx (-1000000) 1000000 = false := h3; simp [Ag.some, q])))
    · exact And.intro trivial (AVle.of_eq (no (by have q : within a.mn (-1000000) 1000000 = false := h2; simp [Ag.some, q])))
  · exact And.intro trivial (AVle.of_eq (no (by have q : within a.c 1 100000 = false := h1; simp [Ag.some, q])))


def Ag.six (a : Ag) : List Int := [a.c, a.s, a.mn, a.mx, a.f, a.l]
def atext (a : Ag) : List UInt8 := Lib.join (a.six.map Lib.itoa) [44]
end Go.Proofs.YtijokkaeofagoaaGreatDoor
set_option linter.unusedVariables false
set_option linter.constructorNameAsVariable false
set_option linter.unusedSimpArgs false
set_option maxRecDepth 20000
namespace Go.Proofs.YtijokkaeofagoaaGreatDoor
open Go Go.Vw

theorem keyOK_bad {k : List UInt8} {i : Nat} (hi : i < k.length) (h : keyC (k.getD i 0) = false) : keyOK k = false := by
  have : k.all keyC = false := by
    rw [← Bool.not_eq_true]; intro h'
    have e : k.getD i 0 = k[i] := by simp [List.getD, hi]
    rw [e, List.all_eq_true.1 h' _ (List.getElem_mem hi)] at h; cases h
  unfold keyOK; rw [this]; rfl
theorem keyOK_all {k : List UInt8} (h : ∀ j, j < k.length → keyC (k.getD j 0) = true) : keyOK k = within k.length 1 30 := by
  have : k.all keyC = true := List.all_eq_true.2 fun x hx => by
    obtain ⟨j, hj, e⟩ := List.getElem_of_mem hx
    have := h j hj
    have e2 : k.getD j 0 = k[j] := by simp [List.getD, hj]
    rw [e2, e] at this; exact this
  unfold keyOK; rw [this]; rfl
theorem KeyOK_fn (k : List UInt8) (hk : k.length ≤ 1000000000) : VFn Tryz.prog 123 [.str (B k)] (.bool (keyOK k)) := by
  obtain ⟨R, hR⟩ : ∃ R, R = keyOK k := ⟨_, rfl⟩
  rw [← hR]
  refine VFn.introC Tryz.call123 Tryz.func123 rfl rfl ?_
  refine LoopC.mk (fun i : Nat => i ≤ k.length ∧ ∀ j, j < i → keyC (k.getD j 0) = true) (fun i => [(0, .str (B k)), (6, .int .i64 k.length), (7, .int .i64 i)]) (fun _ => []) 0 (fun i => k.length - i) 0
    ⟨⟨Nat.zero_le _, fun j hj => absurd hj (Nat.not_lt_zero j)⟩, [], rfl, rfl, ⟨AVle.refl _, AVle.refl _, AVle.refl _, trivial⟩, trivial⟩ ?_
  intro i hi
  refine Grd.intro (fun h2 => ?_) (fun h2 => ?_)
  · have hin : i < k.length := by have := of_decide_eq_true h2; omega
    refine And.intro ⟨by omega, show (i : Int) < ((B k).size : Int) by rw [B_size]; omega⟩ ?_
    have hbad : keyC (k.getD i 0) = false → false = R := fun h => by rw [hR, keyOK_bad hin h]
    have hgood : keyC (k.getD i 0) = true → ∀ j, j < i + 1 → keyC (k.getD j 0) = true := fun h j hj => by
      rcases Nat.lt_or_ge j i with h' | h'
      · exact hi.2 j h'
      · rw [show j = i by omega]; exact h
    have hx : (k.getD i 0).toNat = ((B k).data.toList.getD (i : Int).toNat 0).toNat := rfl
    generalize ((B k).data.toList.getD (i : Int).toNat 0).toNat = c at hx ⊢
    have hC : keyC (k.getD i 0) = ((decide (97 ≤ (c : Int)) && decide ((c : Int) ≤ 122)) || (decide (48 ≤ (c : Int)) && decide ((c : Int) ≤ 57)) || decide ((c : Int) = 47) || decide ((c : Int) = 45)) := by unfold keyC; rw [hx]
    rw [hC] at hbad hgood
    repeat' (first
      | refine Grd.intro (fun h => ?_) (fun h => ?_)
      | ((conv => whnf); refine Grd.intro (fun h => ?_) (fun h => ?_)))
    all_goals first
      | exact And.intro trivial (AVle.of_eq (congrArg AV.bool (hbad (by simp_all; omega))))
      | exact And.intro trivial (AVle.of_eq (congrArg AV.bool (hbad (by simp_all))))
      | (refine And.intro (inI64 (by omega) (by omega)) ?_
         exact ⟨i + 1, ⟨hin, hgood (by simp_all; omega)⟩, by omega, [], rfl, rfl, ⟨AVle.refl _, AVle.refl _, AVle.of_eq (congrArg (AV.int .i64) (by simp)), trivial⟩, trivial⟩)
      | (refine And.intro (inI64 (by omega) (by omega)) ?_
         exact ⟨i + 1, ⟨hin, hgood (by simp_all)⟩, by omega, [], rfl, rfl, ⟨AVle.refl _, AVle.refl _, AVle.of_eq (congrArg (AV.int .i64) (by simp)), trivial⟩, trivial⟩)
  · have : i = k.length := by have := of_decide_eq_false h2; omega
    subst this
    conv => whnf
    refine CallC.sca _ (within_fn _ _ _) ?_ ?_
    · exact rfl
    rw [hR, keyOK_all hi.2]
    exact And.intro trivial (AVle.of_eq (congrArg AV.bool (show within ((B k).size : Nat) 1 30 = _ by rw [B_size])))
theorem StoreOK_fn (s : Sto) (hL : s.os.length ≤ 1000000000) (hk : ∀ o ∈ s.os, o.key.length ≤ 1000000000) : VFn Tryz.prog 64 [s.av] (.bool s.ok) := by
  refine VFn.introC Tryz.call64 Tryz.func64 rfl rfl ?_
  conv => whnf
  refine CallC.sca _ (within_fn s.next 1 1000000000) ?_ ?_
  · exact rfl
  refine Grd.intro (fun h1 => ?_) (fun h1 => ?_)
  · have h1 : within s.next 1 1000000000 = false := wnot h1
    rw [show s.ok = false by unfold Sto.ok; rw [h1]; rfl]
    exact And.intro trivial (AVle.refl _)
  have h1 : within s.next 1 1000000000 = true := wyes h1
  refine Grd.intro (fun h2 => ?_) (fun h2 => ?_)
  · have h2 : ¬ s.os.length ≤ 300 := by
      have := of_decide_eq_true (show decide ((300 : Int) < (s.os.length : Int)) = true from h2); omega
    rw [show s.ok = false by unfold Sto.ok; rw [decide_eq_false h2]; simp]
    exact And.intro trivial (AVle.refl _)
  have h2 : s.os.length ≤ 300 := by
    have := of_decide_eq_false (show decide ((300 : Int) < (s.os.length : Int)) = false from h2); omega
  have hn : 1 ≤ s.next ∧ s.next ≤ 1000000000 := by simpa [within] using h1
  refine LoopC.mk (fun i : Nat => i ≤ s.os.length ∧ ∀ j, j < i → s.eOK j = true) (fun i => [(1, .bptr 0 0), (3, .omap 1), (18, obs s.os), (19, .int .i64 s.os.length), (20, .int .i64 i)]) (fun i => [(0, .box s.row), (1, .imap (s.vers i))]) 2 (fun i => s.os.length - i) 0
    ⟨⟨Nat.zero_le _, fun j hj => absurd hj (Nat.not_lt_zero j)⟩, [(0, 0), (1, 1)], rfl, rfl, ⟨AVle.refl _, AVle.refl _, AVle.refl _, AVle.refl _, AVle.refl _, trivial⟩, ⟨MOle.refl _, MOle.refl _, trivial⟩⟩ ?_
  intro i hi
  obtain ⟨hi, hall⟩ := hi
  refine Grd.intro (fun h3 => ?_) (fun h3 => ?_)
  · have hin : i < s.os.length := by have := of_decide_eq_true h3; omega
    have hbad : s.eOK i = false → s.ok = false := Sto.ok_no hin
    refine And.intro (by omega) ?_
    refine DrawC.mk 41 rfl (by kernel_rfl) ?_
    refine PCallC.sca _ (KeyOK_fn (ix s.os i).key (hk _ (getD_mem hin))) rfl ?_
    refine Grd.intro (fun g1 => ?_) (fun g1 => ?_)
    · rw [hbad (by unfold Sto.eOK; rw [wnot g1]; rfl)]
      exact And.intro trivial (AVle.refl _)
    refine And.intro (inI64 (by omega) (by omega)) ?_
    refine PCallC.sca _ (within_fn (ix s.os i).ver 1 (s.next - 1)) rfl ?_
    conv => whnf
    refine Grd.intro (fun g2 => ?_) (fun g2 => ?_)
    · rw [hbad (by unfold Sto.eOK; rw [show within (ix s.os i).ver 1 (s.next - 1) = false from wnot g2]; simp)]
      exact And.intro trivial (AVle.refl _)
    conv => whnf
    refine Grd.intro (fun g3 => ?_) (fun g3 => ?_)
    · have g3 : ¬ (ix s.os i).data.length ≤ 600 := by
        have := of_decide_eq_true (show decide ((600 : Int) < (((B (ix s.os i).data).size : Nat) : Int)) = true from g3)
        rw [B_size] at this; omega
      rw [hbad (by unfold Sto.eOK; rw [decide_eq_false g3]; simp)]
      exact And.intro trivial (AVle.refl _)
    conv => whnf
    refine Grd.intro (fun g4 => ?_) (fun g4 => ?_)
    · have g4 : decide ((ix s.os i).ver ∈ (s.os.take i).map (·.ver)) = true := g4
      rw [hbad (by unfold Sto.eOK; rw [g4]; simp)]
      exact And.intro trivial (AVle.refl _)
    have g4 : decide ((ix s.os i).ver ∈ s.vers i) = false := g4
    have g3 : (ix s.os i).data.length ≤ 600 := by
      have := of_decide_eq_false (show decide ((600 : Int) < (((B (ix s.os i).data).size : Nat) : Int)) = false from g3)
      rw [B_size] at this; omega
    have hpre : (decide (i = 0) || decide ((ix s.os (i - 1)).key < (ix s.os i).key)) = true → s.eOK i = true := fun h => by
      unfold Sto.eOK; rw [wyes g1, show within (ix s.os i).ver 1 (s.next - 1) = true from wyes g2, decide_eq_true g3, show decide ((ix s.os i).ver ∈ (s.os.take i).map (·.ver)) = false from g4, h]; rfl
    have hnext : s.eOK i = true → ∀ j, j < i + 1 → s.eOK j = true := fun h j hj => by
      rcases Nat.lt_or_ge j i with h' | h'
      · exact hall j h'
      · rw [show j = i by omega]; exact h
    conv => whnf
    refine Grd.intro (fun g5 => ?_) (fun g5 => ?_)
    · have h0 : 0 < i := by have := of_decide_eq_true g5; omega
      have e1 : ((i : Int) - 1).toNat = i - 1 := by omega
      refine And.intro (inI64 (by omega) (by omega)) ?_
      refine And.intro ⟨by omega, by omega⟩ ?_
      have hcmp : (!Op.bytesLess (B (ix s.os ((i : Int) - 1).toNat).key).toList (B (ix s.os i).key).toList) = !decide ((ix s.os (i - 1)).key < (ix s.os i).key) := by rw [blt_lt, e1]
      conv => whnf
      refine Grd.intro (fun g6 => ?_) (fun g6 => ?_)
      · have g6 := hcmp.symm.trans g6
        rw [hbad (by unfold Sto.eOK; rw [show decide ((ix s.os (i - 1)).key < (ix s.os i).key) = false from wnot g6, decide_eq_false (show ¬ i = 0 by omega)]; simp)]
        exact And.intro trivial (AVle.refl _)
      · have g6 := hcmp.symm.trans g6
        have he := hpre (by rw [show decide ((ix s.os (i - 1)).key < (ix s.os i).key) = true from wyes g6]; simp)
        refine And.intro (inI64 (by omega) (by omega)) ?_
        refine ⟨i + 1, ⟨hin, hnext he⟩, by omega, [(0, 0), (1, 1)], rfl, rfl, ⟨AVle.refl _, AVle.refl _, AVle.refl _, AVle.refl _, AVle.of_eq (congrArg (AV.int .i64) (by simp)), trivial⟩, ⟨MOle.refl _, MOle.of_eq (show MO.imap (if (ix s.os i).ver ∈ s.vers i then s.vers i else s.vers i ++ [(ix s.os i).ver]) = _ from ?_), trivial⟩⟩
        rw [if_neg (of_decide_eq_false g4), Sto.vers_snoc s hin]
    · have h0 : i = 0 := by have := of_decide_eq_false g5; omega
      have he := hpre (by rw [decide_eq_true h0]; rfl)
      refine And.intro (inI64 (by omega) (by omega)) ?_
      refine ⟨i + 1, ⟨hin, hnext he⟩, by omega, [(0, 0), (1, 1)], rfl, rfl, ⟨AVle.refl _, AVle.refl _, AVle.refl _, AVle.refl _, AVle.of_eq (congrArg (AV.int .i64) (by simp)), trivial⟩, ⟨MOle.refl _, MOle.of_eq (show MO.imap (if (ix s.os i).ver ∈ s.vers i then s.vers i else s.vers i ++ [(ix s.os i).ver]) = _ from ?_), trivial⟩⟩
      rw [if_neg (of_decide_eq_false g4), Sto.vers_snoc s hin]
  · have : i = s.os.length := by have := of_decide_eq_false h3; omega
    subst this
    rw [Sto.ok_yes h1 h2 hall]
    exact And.intro trivial (AVle.refl _)
end Go.Proofs.YtijokkaeofagoaaGreatDoor
set_option linter.unusedVariables false
set_option linter.constructorNameAsVariable false
set_option linter.unusedSimpArgs false
set_option maxRecDepth 20000
namespace Go.Proofs.YtijokkaeofagoaaGreatDoor
open Go Go.Vw

theorem cmp_lt : ∀ a b : List UInt8, decide (Lib.compareBytes a b < 0) = decide (a < b)
  | [], [] => by simp [Lib.compareBytes]
  | [], _ :: _ => by simp [Lib.compareBytes]
  | _ :: _, [] => by simp [Lib.compareBytes]
  | x :: a, y :: b => by
    have ih := cmp_lt a b
    unfold Lib.compareBytes
    by_cases h1 : x < y
    · simp [h1, List.cons_lt_cons_iff]
    · by_cases h2 : y < x
      · have : ¬ x = y := fun e => by subst e; exact h1 h2
        simp only [List.cons_lt_cons_iff]; simp [h1, h2, this]
      · have : x = y := UInt8.le_antisymm (UInt8.not_lt.1 h2) (UInt8.not_lt.1 h1)
        subst this
        simp only [List.cons_lt_cons_iff]; simp [h1, ih]
theorem cmp_eq : ∀ a b : List UInt8, decide (Lib.compareBytes a b = 0) = decide (a = b)
  | [], [] => by simp [Lib.compareBytes]
  | [], _ :: _ => by simp [Lib.compareBytes]
  | _ :: _, [] => by simp [Lib.compareBytes]
  | x :: a, y :: b => by
    have ih := cmp_eq a b
    unfold Lib.compareBytes
    by_cases h1 : x < y
    · have : ¬ x = y := fun e => by subst e; exact UInt8.lt_irrefl _ h1
      simp [h1, this]
    · by_cases h2 : y < x
      · have : ¬ x = y := fun e => by subst e; exact h1 h2
        simp [h1, h2, this]
      · have : x = y := UInt8.le_antisymm (UInt8.not_lt.1 h2) (UInt8.not_lt.1 h1)
        subst this
        simp [h1]
        simpa using ih
theorem Compare_fn (a b : List UInt8) : VFn Tryz.prog 220 [.str (B a), .str (B b)] (.int .i64 (Lib.compareBytes a b)) := by
  refine VFn.lib Tryz.call220 fun w ok vs hJ hok hv => ?_
  obtain ⟨v, us, rfl, hv, v2, us2, rfl, hv2, hus⟩ := hv
  have e1 : v = .string (B a) := hv
  have e2 : v2 = .string (B b) := hv2
  have e3 : us2 = [] := hus
  subst e1 e2 e3
  refine (Tryz.strings_Compare (B a) (B b) w).mono ?_
  rintro e w' ⟨rfl, rfl⟩
  exact ⟨_, rfl, Go.RowKit.Below.refl _ _, fun _ _ => by rw [B_data, B_data]; rfl⟩
theorem find1_fn (o : Ob) (k : List UInt8) : VFn Tryz.prog 219 [o.av, .str (B k)] (.int .i64 (Lib.compareBytes o.key k)) := by
  refine VFn.introC Tryz.call219 Tryz.func219 rfl rfl ?_
  conv => whnf
  refine CallC.sca _ (Compare_fn o.key k) ?_ ?_
  · exact rfl
  exact And.intro trivial (AVle.refl _)
theorem Search_fn (L : List Ob) (hS : Srt L) (hL : L.length ≤ 1000000) (k : List UInt8) : VFn Tryz.prog 218 [obs L, .str (B k), .fn (.func 219) [] []] (.tup [.int .i64 (lb k L), .bool (hasK k L)]) := by
  have hle := lb_le k L
  refine VFn.introC Tryz.call218 Tryz.func218 rfl rfl ?_
  refine LoopC.mk (fun p : Nat × Nat => p.1 ≤ lb k L ∧ lb k L ≤ p.2 ∧ p.2 ≤ L.length) (fun p => [(0, obs L), (1, .str (B k)), (2, .fn (.func 219) [] []), (6, .int .i64 0), (7, .bool false), (8, .int .i64 L.length), (9, .int .i64 p.1), (10, .int .i64 p.2)]) (fun _ => []) 0 (fun p => p.2 - p.1) (0, L.length)
    ⟨⟨Nat.zero_le _, hle, Nat.le_refl _⟩, [], rfl, rfl, ⟨AVle.refl _, AVle.refl _, AVle.refl _, AVle.refl _, AVle.refl _, AVle.refl _, AVle.refl _, AVle.refl _, trivial⟩, trivial⟩ ?_
  rintro ⟨i, j⟩ hp
  obtain ⟨h1, h2, h3⟩ := hp
  simp only at h1 h2 h3
  refine Grd.intro (fun g1 => ?_) (fun g1 => ?_)
  · have hij : i < j := by have := of_decide_eq_true g1; omega
    have eh : ((i : Int) + (j : Int)) / 2 = (((i + j) / 2 : Nat) : Int) := by omega
    refine And.intro (inI64 (by omega) (by omega)) ?_
    refine And.intro (show inI .u64 ((i : Int) + (j : Int)) from ⟨show (0 : Int) ≤ _ by omega, show _ ≤ (18446744073709551615 : Int) by omega⟩) ?_
    refine And.intro ⟨by omega, by omega, rfl⟩ ?_
    rw [eh]
    obtain ⟨h, hh⟩ : ∃ h, h = (i + j) / 2 := ⟨_, rfl⟩
    rw [← hh]
    have hi : i ≤ h := by omega
    have hj : h < j := by omega
    refine And.intro (inI64 (by omega) (by omega)) ?_
    refine And.intro ⟨by omega, by omega⟩ ?_
    conv => whnf
    refine CallC.sca _ (find1_fn (ix L h) k) ?_ ?_
    · exact rfl
    have hc : decide (Lib.compareBytes (ix L h).key k < 0) = decide (h < lb k L) := by rw [cmp_lt]; exact decide_eq_decide.2 (hS.iff (by omega))
    refine Grd.intro (fun g2 => ?_) (fun g2 => ?_)
    · have g2 : h < lb k L := of_decide_eq_true (hc.symm.trans g2)
      refine And.intro (inI64 (by omega) (by omega)) ?_
      exact ⟨(h + 1, j), ⟨by simp only; omega, by simp only; omega, by simp only; omega⟩, by simp only; omega, [], rfl, rfl, ⟨AVle.refl _, AVle.refl _, AVle.refl _, AVle.refl _, AVle.refl _, AVle.refl _, AVle.of_eq (congrArg (AV.int .i64) (by simp)), AVle.refl _, trivial⟩, trivial⟩
    · have g2 : ¬ h < lb k L := of_decide_eq_false (hc.symm.trans g2)
      exact ⟨(i, h), ⟨by simp only; omega, by simp only; omega, by simp only; omega⟩, by simp only; omega, [], rfl, rfl, ⟨AVle.refl _, AVle.refl _, AVle.refl _, AVle.refl _, AVle.refl _, AVle.refl _, AVle.refl _, AVle.refl _, trivial⟩, trivial⟩
  · have hij : j ≤ i := by have := of_decide_eq_false g1; omega
    have e1 : i = lb k L := by omega
    subst e1
    refine Grd.intro (fun g2 => ?_) (fun g2 => ?_)
    · have g2 : lb k L < L.length := by have := of_decide_eq_true g2; omega
      refine And.intro ⟨by omega, by omega⟩ ?_
      conv => whnf
      refine CallC.sca _ (find1_fn (ix L (lb k L)) k) ?_ ?_
      · exact rfl
      refine And.intro trivial (AVle.of_eq (congrArg (fun b => AV.tup [.int .i64 (lb k L), .bool b]) (show decide (Lib.compareBytes (ix L (lb k L)).key k = 0) = _ from ?_)))
      rw [cmp_eq]; unfold hasK; rw [decide_eq_true g2]; rfl
    · have g2 : ¬ lb k L < L.length := by have := of_decide_eq_false g2; omega
      refine And.intro trivial (AVle.of_eq (congrArg (fun b => AV.tup [.int .i64 (lb k L), .bool b]) (show false = _ from ?_)))
      unfold hasK; rw [decide_eq_false g2]; rfl
theorem find_fn (s : Sto) (hs : s.ok = true) (k : List UInt8) : VFn Tryz.prog 195 [s.av, .str (B k)] (.tup [.int .i64 (s.pos k), .bool (s.has k)]) := by
  have hL := (Sto.ok_at hs).2.1
  refine VFn.introC Tryz.call195 Tryz.func195 rfl rfl ?_
  conv => whnf
  refine CallC.sca _ (Search_fn s.os (Sto.srt hs) (by omega) k) ?_ ?_
  · exact rfl
  exact And.intro trivial (AVle.refl _)
theorem get_fn (s : Sto) (hs : s.ok = true) (k : List UInt8) : VFn Tryz.prog 144 [s.av, .str (B k)] (if s.has k = true then .tup [.str (B (s.get k).data), .bool true] else .tup [.str (B []), .bool false]) := by
  by_cases h : s.has k = true
  · rw [if_pos h]
    have hp := (hasK_at h).1
    have c := find_fn s hs k
    rw [h] at c
    refine VFn.introC Tryz.call144 Tryz.func144 rfl rfl ?_
    conv => whnf
    refine CallC.sca _ (c) ?_ ?_
    · exact rfl
    refine And.intro ⟨by omega, show ((lb k s.os : Nat) : Int) < (s.os.length : Int) by omega⟩ ?_
    exact And.intro trivial (AVle.refl _)
  · rw [if_neg h]
    have c := find_fn s hs k
    rw [show s.has k = false by simpa using h] at c
    refine VFn.introC Tryz.call144 Tryz.func144 rfl rfl ?_
    conv => whnf
    refine CallC.sca _ (c) ?_ ?_
    · exact rfl
    exact And.intro trivial (AVle.refl _)
end Go.Proofs.YtijokkaeofagoaaGreatDoor
set_option linter.unusedVariables false
set_option linter.constructorNameAsVariable false
set_option linter.unusedSimpArgs false
set_option maxRecDepth 20000
namespace Go.Proofs.YtijokkaeofagoaaGreatDoor
open Go Go.Vw

def insR (i : Nat) (rows r1 : Nat → List AV) (j : Nat) : List AV := if j < i then rows j else if j = i then r1 0 else rows (j - 1)
end Go.Proofs.YtijokkaeofagoaaGreatDoor
set_option linter.unusedVariables false
set_option linter.constructorNameAsVariable false
set_option linter.unusedSimpArgs false
set_option maxRecDepth 20000
namespace Go.Proofs.YtijokkaeofagoaaGreatDoor
open Go Go.Vw

end Go.Proofs.YtijokkaeofagoaaGreatDoor
set_option linter.unusedVariables false
set_option linter.constructorNameAsVariable false
set_option linter.unusedSimpArgs false
set_option maxRecDepth 20000
namespace Go.Proofs.YtijokkaeofagoaaGreatDoor
open Go Go.Vw

structure Smp where
  t : Int
  v : Int
instance : Inhabited Smp := ⟨⟨0, 0⟩⟩
def Smp.row (s : Smp) : List AV := [.int .i64 s.t, .int .i64 s.v]
abbrev smps (L : List Smp) : AV := .sl 2 L.length fun i => (ix L i).row
structure Bk where
  t : Int
  a : Ag
instance : Inhabited Ag := ⟨⟨0, 0, 0, 0, 0, 0⟩⟩
instance : Inhabited Bk := ⟨⟨0, default⟩⟩
def Bk.row (b : Bk) : List AV := [.int .i64 b.t, .int .i64 b.a.c, .int .i64 b.a.s, .int .i64 b.a.mn, .int .i64 b.a.mx, .int .i64 b.a.f, .int .i64 b.a.l]
abbrev bks (L : List Bk) : AV := .sl 7 L.length fun i => (ix L i).row

theorem isMoment_fn (n : Int) : VFn Tryz.prog 136 [.int .i64 n] (.bool (within n 0 99999)) := by
  refine VFn.introC Tryz.call136 Tryz.func136 rfl rfl ?_
  conv => whnf
  refine CallC.sca _ (within_fn _ _ _) ?_ ?_
  · exact rfl
  exact And.intro trivial (AVle.refl _)
theorem l02Sample_fn (s : Smp) : VFn Tryz.prog 102 [.agg s.row] (.bool (within s.t 0 99999 && within s.v (-1000000) 1000000)) := by
  refine VFn.introC Tryz.call102 Tryz.func102 rfl rfl ?_
  conv => whnf
  refine CallC.sca _ (l01In_fn _ _ _) ?_ ?_
  · exact rfl
  refine Grd.intro (fun h1 => ?_) (fun h1 => ?_)
  · conv => whnf
    refine CallC.sca _ (l01In_fn _ _ _) ?_ ?_
    · exact rfl
    exact And.intro trivial (AVle.of_eq (congrArg AV.bool (by rw [h1]; rfl)))
  · exact And.intro trivial (AVle.of_eq (congrArg AV.bool (by rw [h1]; rfl)))

def smpAt (L : List Smp) (i : Nat) : Bool := within (ix L i).t 0 99999 && within (ix L i).v (-1000000) 1000000 && (decide (i = 0) || decide ((ix L (i - 1)).t < (ix L i).t))
def smpsOK (L : List Smp) : Bool := decide (L.length ≤ 4096) && allN L.length (smpAt L)
def bkAt (L : List Bk) (i : Nat) : Bool := within (ix L i).t 0 99999 && (ix L i).a.ok && !decide ((ix L i).a.c = 0) && (decide (i = 0) || decide ((ix L (i - 1)).t < (ix L i).t))
def bksOK (L : List Bk) : Bool := decide (L.length ≤ 8) && allN L.length (bkAt L)

theorem isLongSmp_fn (L : List Smp) : VFn Tryz.prog 135 [smps L] (.bool (decide (4096 < L.length))) := by
  refine VFn.introC Tryz.call135 Tryz.func135 rfl rfl ?_
  exact And.intro trivial (AVle.of_eq (congrArg AV.bool (by simp; omega)))
theorem SamplesOK_fn (L : List Smp) : VFn Tryz.prog 71 [smps L] (.bool (smpsOK L)) := by
  refine VFn.introC Tryz.call71 Tryz.func71 rfl rfl ?_
  conv => whnf
  refine CallC.sca _ (isLongSmp_fn L) ?_ ?_
  · exact rfl
  refine Grd.intro (fun h1 => ?_) (fun h1 => ?_)
  · have := of_decide_eq_true h1
    exact And.intro trivial (AVle.of_eq (congrArg AV.bool (by simp [smpsOK]; omega)))
  have hn : L.length ≤ 4096 := by have := of_decide_eq_false h1; omega
  have no : ∀ i, i < L.length → smpAt L i = false → false = smpsOK L := fun i hi h => by simp [smpsOK, allN_no hi h]
  refine LoopC.mk (fun i : Nat => i ≤ L.length ∧ allN i (smpAt L) = true) (fun i => [(0, smps L), (7, smps L), (8, .int .i64 L.length), (9, .int .i64 i)]) (fun _ => []) 0 (fun i => L.length - i) 0
    ⟨⟨Nat.zero_le _, rfl⟩, [], rfl, rfl, ⟨AVle.refl _, AVle.refl _, AVle.refl _, AVle.refl _, trivial⟩, trivial⟩ ?_
  rintro i ⟨hi, ha⟩
  refine Grd.intro (fun h2 => ?_) (fun h2 => ?_)
  · have hin : i < L.length := by have := of_decide_eq_true h2; omega
    refine And.intro (by omega) ?_
    refine DrawC.mk 25 rfl (by kernel_rfl) ?_
    refine PCallC.sca _ (isMoment_fn _) rfl ?_
    refine Grd.intro (fun h3 => ?_) (fun h3 => ?_)
    · exact And.intro trivial (AVle.of_eq (congrArg AV.bool (no i hin (by simp at h3; simp [smpAt, h3]))))
    refine PCallC.sca _ (isValue_fn _) rfl ?_
    refine Grd.intro (fun h4 => ?_) (fun h4 => ?_)
    · exact And.intro trivial (AVle.of_eq (congrArg AV.bool (no i hin (by simp at h4; simp [smpAt, h4]))))
    simp at h3 h4
    refine Grd.intro (fun h5 => ?_) (fun h5 => ?_)
    · have h0 : 0 < i := by have := of_decide_eq_true h5; omega
      refine And.intro (inI64 (by omega) (by omega)) ?_
      refine And.intro (by omega) ?_
      refine Grd.intro (fun h6 => ?_) (fun h6 => ?_)
      · have h6 := of_decide_eq_true h6
        rw [show Int.toNat ((i : Int) - 1) = i - 1 by omega] at h6
        exact And.intro trivial (AVle.of_eq (congrArg AV.bool (no i hin (by
          have : ¬ (ix L (i - 1)).t < (ix L i).t := by simpa using h6
          have h00 : ¬ i = 0 := by omega
          simp only [smpAt, decide_eq_false h00, decide_eq_false this, Bool.or_false, Bool.and_false]))))
      · have h6 := of_decide_eq_false h6
        rw [show Int.toNat ((i : Int) - 1) = i - 1 by omega] at h6
        refine And.intro (inI64 (by omega) (by omega)) ?_
        refine ⟨i + 1, ⟨hin, allN_step ha ?_⟩, by omega, [], rfl, rfl, ⟨AVle.refl _, AVle.refl _, AVle.refl _, AVle.of_eq (congrArg (AV.int .i64) (by simp)), trivial⟩, trivial⟩
        have : (ix L (i - 1)).t < (ix L i).t := by simpa using h6
        simp [smpAt, h3, h4, this]
    · have h0 : i = 0 := by have := of_decide_eq_false h5; omega
      refine And.intro (inI64 (by omega) (by omega)) ?_
      refine ⟨i + 1, ⟨hin, allN_step ha ?_⟩, by omega, [], rfl, rfl, ⟨AVle.refl _, AVle.refl _, AVle.refl _, AVle.of_eq (congrArg (AV.int .i64) (by simp)), trivial⟩, trivial⟩
      subst h0; simp [smpAt, h3, h4]
  · have : i = L.length := by have := of_decide_eq_false h2; omega
    subst this
    exact And.intro trivial (AVle.of_eq (congrArg AV.bool (by simp [smpsOK, ha, hn])))

theorem specSamplesOK_fn (L : List Smp) : VFn Tryz.prog 48 [smps L] (.bool (smpsOK L)) := by
  refine VFn.introC Tryz.call48 Tryz.func48 rfl rfl ?_
  refine Grd.intro (fun h1 => ?_) (fun h1 => ?_)
  · have := of_decide_eq_true h1
    exact And.intro trivial (AVle.of_eq (congrArg AV.bool (by simp [smpsOK]; omega)))
  have hn : L.length ≤ 4096 := by have := of_decide_eq_false h1; omega
  have no : ∀ i, i < L.length → smpAt L i = false → false = smpsOK L := fun i hi h => by simp [smpsOK, allN_no hi h]
  refine LoopC.mk (fun i : Nat => i ≤ L.length ∧ allN i (smpAt L) = true) (fun i => [(0, smps L), (3, .int .i64 i)]) (fun _ => []) 0 (fun i => L.length - i) 0
    ⟨⟨Nat.zero_le _, rfl⟩, [], rfl, rfl, ⟨AVle.refl _, AVle.refl _, trivial⟩, trivial⟩ ?_
  rintro i ⟨hi, ha⟩
  refine Grd.intro (fun h2 => ?_) (fun h2 => ?_)
  · have hin : i < L.length := by have := of_decide_eq_true h2; omega
    refine DrawC.mk 24 rfl (by kernel_rfl) ?_
    refine And.intro (by omega) ?_
    refine PCallC.sca _ (l02Sample_fn (ix L i)) rfl ?_
    refine Grd.intro (fun h3 => ?_) (fun h3 => ?_)
    · exact And.intro trivial (AVle.of_eq (congrArg AV.bool (no i hin (by cases hq : smpAt L i; rfl; simp [smpAt] at hq; simp [hq] at h3))))
    simp at h3
    refine Grd.intro (fun h5 => ?_) (fun h5 => ?_)
    · have h0 : 0 < i := by have := of_decide_eq_true h5; omega
      refine And.intro (inI64 (by omega) (by omega)) ?_
      refine And.intro (by omega) ?_
      refine And.intro (by omega) ?_
      refine Grd.intro (fun h6 => ?_) (fun h6 => ?_)
      · have h6 := of_decide_eq_true h6
        rw [show Int.toNat ((i : Int) - 1) = i - 1 by omega] at h6
        exact And.intro trivial (AVle.of_eq (congrArg AV.bool (no i hin (by
          have : ¬ (ix L (i - 1)).t < (ix L i).t := by simpa using h6
          have h00 : ¬ i = 0 := by omega
          simp only [smpAt, decide_eq_false h00, decide_eq_false this, Bool.or_false, Bool.and_false]))))
      · have h6 := of_decide_eq_false h6
        rw [show Int.toNat ((i : Int) - 1) = i - 1 by omega] at h6
        refine And.intro (inI64 (by omega) (by omega)) ?_
        refine ⟨i + 1, ⟨hin, allN_step ha ?_⟩, by omega, [], rfl, rfl, ⟨AVle.refl _, AVle.of_eq (congrArg (AV.int .i64) (by simp)), trivial⟩, trivial⟩
        have : (ix L (i - 1)).t < (ix L i).t := by simpa using h6
        simp [smpAt, h3, this]
    · have h0 : i = 0 := by have := of_decide_eq_false h5; omega
      refine And.intro (inI64 (by omega) (by omega)) ?_
      refine ⟨i + 1, ⟨hin, allN_step ha ?_⟩, by omega, [], rfl, rfl, ⟨AVle.refl _, AVle.of_eq (congrArg (AV.int .i64) (by simp)), trivial⟩, trivial⟩
      subst h0; simp [smpAt, h3]
  · have : i = L.length := by have := of_decide_eq_false h2; omega
    subst this
    exact And.intro trivial (AVle.of_eq (congrArg AV.bool (by simp [smpsOK, ha, hn])))

def smpText (s : Smp) : List UInt8 := Lib.join [Lib.itoa s.t, Lib.itoa s.v] [61]
def smpsText (L : List Smp) : List UInt8 := Lib.join (L.map smpText) [32]
def bkText (b : Bk) : List UInt8 := Lib.join [Lib.itoa b.t, atext b.a] [58]
def bksText (L : List Bk) : List UInt8 := Lib.join (L.map bkText) [32]
def Smp.num (s : Smp) : Prop := (-1000000000 ≤ s.t ∧ s.t ≤ 1000000000) ∧ (-1000000000 ≤ s.v ∧ s.v ≤ 1000000000)
def Bk.ok (b : Bk) : Prop := (-1000000000 ≤ b.t ∧ b.t ≤ 1000000000) ∧ b.a.ok = true
end Go.Proofs.YtijokkaeofagoaaGreatDoor
set_option linter.unusedVariables false
set_option linter.constructorNameAsVariable false
set_option linter.unusedSimpArgs false
set_option maxRecDepth 20000
namespace Go.Proofs.YtijokkaeofagoaaGreatDoor
open Go Go.Vw

/-- what BucketsText tells -/
def bksCode (L : List Bk) : Int := firstC [(decide (4096 < L.length), 2), (!bksOK L, 1)]
def bksRes (L : List Bk) : List UInt8 := if bksCode L = 0 then bksText L else []
theorem toAgg_fn (a : Ag) : VFn Tryz.prog 122 [a.av] a.av := by
  refine VFn.introC Tryz.call122 Tryz.func122 rfl rfl ?_
  exact And.intro trivial (AVle.refl _)
theorem eqAgg_fn (a : Ag) : VFn Tryz.prog 157 [a.av, a.av] (.bool true) := by
  refine VFn.introC Tryz.call157 Tryz.func157 rfl rfl ?_
  iterate 6 (refine Grd.intro (fun h => absurd h (by simp)) (fun _ => ?_))
  exact And.intro trivial (AVle.refl _)
end Go.Proofs.YtijokkaeofagoaaGreatDoor
set_option linter.unusedVariables false
set_option linter.constructorNameAsVariable false
set_option linter.unusedSimpArgs false
set_option maxRecDepth 20000
namespace Go.Proofs.YtijokkaeofagoaaGreatDoor
open Go Go.Vw

structure Act where
  k : Int
  who : Int
  n : Int
  tier : Int
  f : Int
  t : Int
  b : List Smp
def Act.av (a : Act) : AV := .agg [.int .i64 a.k, .int .i64 a.who, .int .i64 a.n, .int .i64 a.tier, .int .i64 a.f, .int .i64 a.t, smps a.b]
def isRange (f t : Int) : Bool := within f 0 100000 && within t f 100000
def Act.noR (a : Act) : Bool := decide (a.tier = 0) && decide (a.f = 0) && decide (a.t = 0)
def Act.noB (a : Act) : Bool := decide ((a.b.length : Int) = 0)
def Act.ok (a : Act) : Bool :=
  if a.k = 1 ∨ a.k = 2 then within a.who 0 6 && decide (a.n = 0) && a.noR && a.noB
  else if a.k = 3 then decide (a.who = 0) && within a.n 0 1000 && a.noR && a.noB
  else if a.k = 4 then within a.who 0 6 && within a.n (-3) 3 && a.noR && a.noB
  else if a.k = 5 then within a.who 2 3 && decide (a.n = 0) && a.noR && within a.b.length 1 8 && smpsOK a.b
  else if a.k = 6 then within a.who 4 5 && decide (a.n = 0) && within a.tier 0 2 && isRange a.f a.t && a.noB
  else false
theorem isSkew_fn (n : Int) : VFn Tryz.prog 67 [.int .i64 n] (.bool (within n (-3) 3)) := by
  refine VFn.introC Tryz.call67 Tryz.func67 rfl rfl ?_
  conv => whnf
  refine CallC.sca _ (within_fn _ _ _) ?_ ?_
  · exact rfl
  exact And.intro trivial (AVle.refl _)
theorem isTier_fn (n : Int) : VFn Tryz.prog 130 [.int .i64 n] (.bool (within n 0 2)) := by
  refine VFn.introC Tryz.call130 Tryz.func130 rfl rfl ?_
  conv => whnf
  refine CallC.sca _ (within_fn _ _ _) ?_ ?_
  · exact rfl
  exact And.intro trivial (AVle.refl _)
theorem isRange_fn (f t : Int) : VFn Tryz.prog 131 [.int .i64 f, .int .i64 t] (.bool (isRange f t)) := by
  refine VFn.introC Tryz.call131 Tryz.func131 rfl rfl ?_
  repeat' (first
    | refine Grd.intro (fun h => ?_) (fun h => ?_)
    | refine And.intro trivial (AVle.of_eq (congrArg AV.bool ?_)))
  all_goals (simp_all [isRange, within]; try omega)
theorem l04Tier_fn (n : Int) : VFn Tryz.prog 52 [.int .i64 n] (.bool (within n 0 2)) := by
  refine VFn.introC Tryz.call52 Tryz.func52 rfl rfl ?_
  conv => whnf
  refine CallC.sca _ (l01In_fn _ _ _) ?_ ?_
  · exact rfl
  exact And.intro trivial (AVle.refl _)
theorem l04Range_fn (f t : Int) : VFn Tryz.prog 53 [.int .i64 f, .int .i64 t] (.bool (isRange f t)) := by
  refine VFn.introC Tryz.call53 Tryz.func53 rfl rfl ?_
  conv => whnf
  refine CallC.sca _ (l01In_fn _ _ _) ?_ ?_
  · exact rfl
  refine Grd.intro (fun h => ?_) (fun h => ?_)
  · conv => whnf
    refine CallC.sca _ (l01In_fn _ _ _) ?_ ?_
    · exact rfl
    exact And.intro trivial (AVle.of_eq (congrArg AV.bool (by simp_all [isRange])))
  · exact And.intro trivial (AVle.of_eq (congrArg AV.bool (by simp_all [isRange])))
theorem smpsOK_nil {L : List Smp} (h : L.length = 0) : smpsOK L = true := by
  have : L = [] := List.eq_nil_of_length_eq_zero h
  subst this; rfl
def mid (n : Int) : Prop := -1000000 ≤ n ∧ n ≤ 1000000
theorem Act.okN {a : Act} (h : a.ok = true) : mid a.who ∧ mid a.n ∧ mid a.tier ∧ mid a.f ∧ mid a.t ∧ smpsOK a.b = true ∧ a.b.length ≤ 8 := by
  unfold mid
  have e : a.noB = true → smpsOK a.b = true ∧ a.b.length ≤ 8 := fun h => by
    have : a.b.length = 0 := by have := of_decide_eq_true h; omega
    exact ⟨smpsOK_nil this, by omega⟩
  simp only [Act.ok] at h
  split at h
  · simp only [Bool.and_eq_true, win_iff, Act.noR, decide_eq_true_eq] at h
    obtain ⟨⟨⟨h1, h2⟩, ⟨h3, h4⟩, h5⟩, h6⟩ := h
    exact ⟨by omega, by omega, by omega, by omega, by omega, e h6⟩
  split at h
  · simp only [Bool.and_eq_true, win_iff, Act.noR, decide_eq_true_eq] at h
    obtain ⟨⟨⟨h1, h2⟩, ⟨h3, h4⟩, h5⟩, h6⟩ := h
    exact ⟨by omega, by omega, by omega, by omega, by omega, e h6⟩
  split at h
  · simp only [Bool.and_eq_true, win_iff, Act.noR, decide_eq_true_eq] at h
    obtain ⟨⟨⟨h1, h2⟩, ⟨h3, h4⟩, h5⟩, h6⟩ := h
    exact ⟨by omega, by omega, by omega, by omega, by omega, e h6⟩
  split at h
  · simp only [Bool.and_eq_true, win_iff, Act.noR, decide_eq_true_eq] at h
    obtain ⟨⟨⟨⟨h1, h2⟩, ⟨h3, h4⟩, h5⟩, h6⟩, h7⟩ := h
    exact ⟨by omega, by omega, by omega, by omega, by omega, h7, by omega⟩
  split at h
  · simp only [Bool.and_eq_true, win_iff, isRange, decide_eq_true_eq] at h
    obtain ⟨⟨⟨⟨h1, h2⟩, h3⟩, h4, h5⟩, h6⟩ := h
    exact ⟨by omega, by omega, by omega, by omega, by omega, e h6⟩
  · cases h

def Act.items (a : Act) : List It :=
  if a.k = 1 then [.t [115, 116, 101, 112], .n a.who]
  else if a.k = 2 then [.t [99, 114, 97, 115, 104], .n a.who]
  else if a.k = 3 then [.t [116, 105, 99, 107], .n a.n]
  else if a.k = 4 then [.t [115, 107, 101, 119], .n a.who, .n a.n]
  else if a.k = 5 then [.t [105, 110, 103, 101, 115, 116], .n a.who, .t (smpsText a.b)]
  else [.t [113, 117, 101, 114, 121], .n a.who, .n a.tier, .n a.f, .n a.t]
def Act.text (a : Act) : List UInt8 := Lib.join (a.items.map It.txt) [32]
def Act.res (a : Act) : List UInt8 := if a.ok = true then a.text else []
def Act.code (a : Act) : Int := if a.ok = true then 0 else 1
end Go.Proofs.YtijokkaeofagoaaGreatDoor
set_option linter.unusedVariables false
set_option linter.constructorNameAsVariable false
set_option linter.unusedSimpArgs false
set_option maxRecDepth 20000
namespace Go.Proofs.YtijokkaeofagoaaGreatDoor
open Go Go.Vw

theorem CutPrefix_fn (s p : List UInt8) : VFn Tryz.prog 166 [.str (B s), .str (B p)] (.tup [.str (B (Lib.trimPrefix s p)), .bool (Lib.hasPrefix s p)]) := by
  refine VFn.lib Tryz.call166 fun w ok vs hJ hok hv => ?_
  obtain ⟨v, us, rfl, hv, v2, us2, rfl, hv2, hus⟩ := hv
  have e1 : v = .string (B s) := hv
  have e2 : v2 = .string (B p) := hv2
  have e3 : us2 = [] := hus
  subst e1 e2 e3
  refine (Tryz.strings_CutPrefix (B s) (B p) w).mono ?_
  rintro e w' ⟨rfl, rfl⟩
  refine ⟨_, rfl, Go.RowKit.Below.refl _ _, fun _ _ => ⟨[_, _], rfl, _, _, rfl, ?_, _, _, rfl, ?_, rfl⟩⟩
  · show Value.string _ = _
    rw [B_data, B_data]; rfl
  · show Value.bool _ = _
    rw [B_data, B_data]

theorem atoi_end (l : List UInt8) : (atoiOk l = true ∧ Lib.atoiAll l = .ok (atoiV l)) ∨ (atoiOk l = false ∧ Lib.atoiAll l = .syntax ∧ atoiV l = 0) ∨ (atoiOk l = false ∧ Lib.atoiAll l = .range ∧ atoiV l = Lib.atoiSat l) := by
  unfold atoiOk atoiV
  cases h : Lib.atoiAll l
  · exact .inl ⟨rfl, rfl⟩
  · exact .inr (.inl ⟨rfl, rfl, rfl⟩)
  · exact .inr (.inr ⟨rfl, rfl, rfl⟩)
theorem Atoi_ok (l : List UInt8) (hl : l.length ≤ 281474976710656) (h : atoiOk l = true) : VFn Tryz.prog 213 [.str (B l)] (.tup [.int .i64 (atoiV l), .niliface]) := by
  have h' : Lib.atoiAll (B l).data.toList = .ok (atoiV l) := by
    rw [B_data]
    rcases atoi_end l with h1 | h1 | h1
    · exact h1.2
    · rw [h] at h1; cases h1.1
    · rw [h] at h1; cases h1.1
  refine VFn.lib Tryz.call213 fun w ok vs hJ hok hv => ?_
  obtain ⟨v, us, rfl, hv, hus⟩ := hv
  have e1 : v = .string (B l) := hv
  have e3 : us = [] := hus
  subst e1 e3
  refine (Tryz.strconv_Atoi_ok (B l) (by rw [B_size]; omega) (atoiV l) h' w).mono ?_
  rintro e w' ⟨rfl, hw⟩
  refine ⟨_, rfl, ?_, fun _ _ => ⟨[_, _], rfl, _, _, rfl, rfl, _, _, rfl, rfl, rfl⟩⟩
  rcases hw with rfl | ⟨t, rfl⟩
  · exact Go.RowKit.Below.refl _ _
  · exact Go.Lib.bytesWorld_below _ _ _
theorem Atoi_no (l : List UInt8) (hl : l.length ≤ 281474976710656) (h : atoiOk l = false) : VFn Tryz.prog 213 [.str (B l)] (.tup [.int .i64 (atoiV l), .iface 267 .any]) := by
  refine VFn.lib Tryz.call213 fun w ok vs hJ hok hv => ?_
  obtain ⟨v, us, rfl, hv, hus⟩ := hv
  have e1 : v = .string (B l) := hv
  have e3 : us = [] := hus
  subst e1 e3
  rcases atoi_end l with h1 | ⟨_, h1, h2⟩ | ⟨_, h1, h2⟩
  · rw [h] at h1; cases h1.1
  · obtain ⟨tp, p, hv⟩ := tab_syntax hJ
    refine (Tryz.strconv_Atoi_syntax_var (B l) (by rw [B_size]; omega) (by rw [B_data]; exact h1) tp p w hv).mono ?_
    rintro e w' ⟨N, rfl, _, _, bel⟩
    refine ⟨_, rfl, bel, fun _ _ => ⟨[_, _], rfl, _, _, rfl, ?_, _, _, rfl, ⟨_, rfl, trivial⟩, rfl⟩⟩
    rw [h2]; rfl
  · obtain ⟨tp, p, hv⟩ := tab_range hJ
    refine (Tryz.strconv_Atoi_range_var (B l) (by rw [B_size]; omega) (by rw [B_data]; exact h1) tp p w hv).mono ?_
    rintro e w' ⟨N, rfl, _, _, bel⟩
    refine ⟨_, rfl, bel, fun _ _ => ⟨[_, _], rfl, _, _, rfl, ?_, _, _, rfl, ⟨_, rfl, trivial⟩, rfl⟩⟩
    rw [h2, ← B_data l]; rfl
end Go.Proofs.YtijokkaeofagoaaGreatDoor
