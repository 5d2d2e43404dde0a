/- Contracts of functions that the claim reaches, and the plain law of what they compute; each theorem bears its own conditions. -/
import Derived.Test.YtcpedmcomfimpaaGreatDoorV49
import Derived.Test.YtcpedmcomfimpaaGreatDoorSh
import Derived.Test.YtcpedmcomfimpaaGreatDoorProg
import Derived.Lib.Join
import Derived.Lib.AtoiErrMem
set_option linter.unusedVariables false
set_option linter.constructorNameAsVariable false
set_option linter.unusedSimpArgs false
namespace Go.Proofs.YtcpedmcomfimpaaGreatDoor
open Go Go.Vw
instance : Tabs Tryz.prog := Tabs.and (Tabs.one 3 "internal/strconv.uint64pow10" .u64 Lib.pow10Tab (by kernel_rfl))
  (Tabs.and (Tabs.err 1 "strconv.ErrSyntax" (by kernel_rfl)) (Tabs.and (Tabs.err 2 "strconv.ErrRange" (by kernel_rfl)) (Tabs.num 0)))
theorem tab_pow10 {w : World} (h : Tabs.J Tryz.prog w) : Lib.TabIs Tryz.prog w "internal/strconv.uint64pow10" .u64 Lib.pow10Tab := h.1
theorem tab_syntax {w : World} (h : Tabs.J Tryz.prog w) : HasErr Tryz.prog "strconv.ErrSyntax" w := h.2.1
theorem tab_range {w : World} (h : Tabs.J Tryz.prog w) : HasErr Tryz.prog "strconv.ErrRange" w := h.2.2.1
theorem tab_maxlen {w : World} (h : Tabs.J Tryz.prog w) : HasInt 0 w := h.2.2.2
end Go.Proofs.YtcpedmcomfimpaaGreatDoor
set_option linter.unusedVariables false
set_option linter.constructorNameAsVariable false
set_option linter.unusedSimpArgs false
set_option maxRecDepth 20000
namespace Go.Proofs.YtcpedmcomfimpaaGreatDoor
open Go Go.Vw

theorem Itoa_fn (n : Int) (h0 : -9223372036854775808 ≤ n) (h1 : n ≤ 9223372036854775807) : VFn Tryz.prog 219 [.int .i64 n] (.str (B (Lib.itoa n))) := by
  refine VFn.lib Tryz.call219 fun w ok vs hJ hok hv => ?_
  obtain ⟨v, us, rfl, hv, hus⟩ := hv
  have e1 : v = .int .i64 n := hv
  have e2 : us = [] := hus
  subst e1 e2
  refine (Tryz.strconv_Itoa n h0 h1 w (tab_pow10 hJ)).mono ?_
  rintro e w' ⟨rfl, k, os, rfl⟩
  exact ⟨_, rfl, Go.Lib.below_grow _ _ (Nat.le_refl _) k os, fun _ _ => rfl⟩

/-- texts in a slice -/
abbrev txts (L : List (List UInt8)) : AV := .sl 1 L.length fun i => [.str (B (ix L i))]
theorem map_B (L : List (List UInt8)) : (L.map B).map (fun x : ByteArray => x.data.toList) = L := by
  rw [List.map_map]
  exact (List.map_congr_left fun x _ => B_data x).trans (List.map_id' L)
theorem Join_fn (L : List (List UInt8)) (sep : List UInt8) (hlen : (Lib.join L sep).length ≤ 140737488355328) (hn : L.length ≤ 140737488355328) :
    VFn Tryz.prog 220 [txts L, .str (B sep)] (.str (B (Lib.join L sep))) := by
  refine VFn.lib Tryz.call220 fun w ok vs hJ hok hv => ?_
  obtain ⟨v, us, rfl, hv, v2, us2, rfl, hv2, hus⟩ := hv
  obtain ⟨A, c, rfl, hc, hr⟩ := hv
  have e1 : v2 = .string (B sep) := hv2
  have e2 : us2 = [] := hus
  subst e1 e2
  rcases Nat.eq_zero_or_pos L.length with h0 | hpos
  · have : L = [] := List.eq_nil_of_length_eq_zero h0
    subst this
    refine (Tryz.strings_Join_none A c (B sep) w).mono ?_
    rintro e w' ⟨rfl, rfl⟩
    exact ⟨_, rfl, Go.RowKit.Below.refl _ _, fun _ _ => rfl⟩
  · rcases hr with hr | ⟨b, o, rfl, hb, hr⟩
    · omega
    · have hsep : (B sep).data.toList = sep := B_data sep
      have := Tryz.strings_Join b o c (L.map B) (B sep) w (fun j x hx => ?_) (hok b hb) (by simp; omega) (by simpa using hc) (by rw [map_B, hsep]; exact hlen)
      · rw [map_B, hsep, List.length_map] at this
        refine this.mono ?_
        rintro e w' ⟨rfl, hbel⟩
        exact ⟨_, rfl, hbel, fun _ _ => rfl⟩
      · have hj : j < L.length := by
          rcases Nat.lt_or_ge j L.length with h | h
          · exact h
          · rw [List.getElem?_eq_none (by simpa using h)] at hx; cases hx
        have hx' : x = B (ix L j) := by simp [hj] at hx; rw [ix_lt hj, hx]
        subst hx'
        obtain ⟨ws, hl, hrv, hcell⟩ := hr j hj
        obtain ⟨u, us, rfl, h1, h2⟩ := hrv
        have e1 : u = .string (B (ix L j)) := h1
        have := hcell 0 (by omega)
        simp only [Nat.mul_one, Nat.add_zero, List.getElem?_cons_zero] at this
        rw [this, e1]

theorem one_digit {n : Int} {k : Nat} (h : n = 48 + k) (hk : k < 10) : strOfNums [n] = B [UInt8.ofNat (48 + k)] := by
  subst h
  have : (48 + (k : Int)).toNat = 48 + k := by omega
  simp [strOfNums, B, this]

theorem digits_nat : ∀ (u : Nat), u ≤ 9223372036854775807 → VFn Tryz.prog 129 [.int .i64 (u : Int)] (.str (B (Lib.decDigits u))) := by
  intro u
  induction u using Nat.strongRecOn with
  | _ u ih =>
    intro hu
    refine VFn.introC Tryz.call129 Tryz.func129 rfl rfl ?_
    refine Grd.intro (fun h1 => ?_) (fun h1 => ?_)
    · have h10 : u < 10 := by simp at h1; omega
      refine And.intro (inI64 (by omega) (by omega)) ?_
      refine And.intro (show inI .u8 (48 + (u : Int)) from ⟨show (0 : Int) ≤ _ by omega, show _ ≤ (255 : Int) by omega⟩) ?_
      refine And.intro (fun i hi => ?_) ?_
      · have : i = 0 := by omega
        subst this; rfl
      exact And.intro trivial (AVle.of_eq (congrArg AV.str (show strOfNums [48 + (u : Int)] = B (Lib.decDigits u) by rw [one_digit rfl h10, Lib.decDigits, dif_pos h10])))
    · have h10 : ¬ u < 10 := by simp at h1; omega
      have hd : (u : Int).tdiv 10 = ((u / 10 : Nat) : Int) := by rw [Int.tdiv_eq_ediv_of_nonneg (by omega)]; simp
      have hm : (u : Int).tmod 10 = ((u % 10 : Nat) : Int) := by rw [Int.tmod_eq_emod_of_nonneg (by omega)]; simp
      refine DrawC.mk 11 rfl (by kernel_rfl) ?_
      refine And.intro ⟨by decide, by rw [hd]; exact inI64 (by omega) (by omega)⟩ ?_
      refine PCallC.sca (.str (B (Lib.decDigits (u / 10)))) (show VFn Tryz.prog 129 [.int .i64 ((u : Int).tdiv 10)] _ from hd ▸ ih (u / 10) (by omega) (by omega)) rfl ?_
      refine And.intro (by decide) ?_
      refine And.intro (inI64 (by omega) (by omega)) ?_
      refine And.intro (show inI .u8 (48 + (u : Int).tmod 10) from ⟨show (0 : Int) ≤ _ by omega, show _ ≤ (255 : Int) by omega⟩) ?_
      refine And.intro (fun i hi => ?_) ?_
      · have : i = 0 := by omega
        subst this; rfl
      have hl := dd_len 19 (u / 10) (by simp; omega)
      refine And.intro (show (((B (Lib.decDigits (u / 10))).size + (strOfNums [48 + (u : Int).tmod 10]).size : Nat) : Int) ≤ 9223372036854775807 by rw [B_size, strOfNums_size]; simp; omega) ?_
      exact And.intro trivial (AVle.of_eq (congrArg AV.str (show B (Lib.decDigits (u / 10)) ++ strOfNums [48 + (u : Int).tmod 10] = B (Lib.decDigits u) by
        rw [one_digit (k := u % 10) (by rw [hm]) (by omega), B_app]; conv => rhs; rw [Lib.decDigits, dif_neg h10])))

theorem digits_fn (n : Int) (h0 : -9223372036854775807 ≤ n) (h1 : n ≤ 9223372036854775807) : VFn Tryz.prog 129 [.int .i64 n] (.str (B (Lib.itoa n))) := by
  by_cases hn : n < 0
  · obtain ⟨u, rfl⟩ : ∃ u : Nat, n = -(u : Int) := ⟨n.natAbs, by omega⟩
    refine VFn.introC Tryz.call129 Tryz.func129 rfl rfl ?_
    refine Grd.intro (fun h => absurd (of_decide_eq_true h) (by omega)) (fun _ => ?_)
    refine Grd.intro (fun _ => ?_) (fun h => absurd (of_decide_eq_false h) (by omega))
    refine And.intro (inI64 (by omega) (by omega)) ?_
    have hneg : - -(u : Int) = u := by omega
    refine CallC.sca (.str (B (Lib.decDigits u))) (show VFn Tryz.prog 129 [.int .i64 (- -(u : Int))] _ from hneg.symm ▸ digits_nat u (by omega)) rfl ?_
    have hl := dd_len 19 u (by simp; omega)
    refine And.intro (show (((B [45]).size + (B (Lib.decDigits u)).size : Nat) : Int) ≤ 9223372036854775807 by rw [B_size, B_size]; simp; omega) ?_
    exact And.intro trivial (AVle.of_eq (congrArg AV.str (show B [45] ++ B (Lib.decDigits u) = B (Lib.itoa (-(u : Int))) by rw [B_app, Lib.itoa_neg u (by omega)]; rfl)))
  · obtain ⟨u, rfl⟩ : ∃ u : Nat, n = (u : Int) := ⟨n.toNat, by omega⟩
    rw [Lib.itoa_nonneg]
    exact digits_nat u (by omega)

theorem join_snoc (s y : List UInt8) : ∀ l : List (List UInt8), l ≠ [] → Lib.join (l ++ [y]) s = Lib.join l s ++ (s ++ y)
  | [], h => absurd rfl h
  | x :: r, _ => by
    rw [List.cons_append, Lib.join_cons, Lib.join_cons]
    simp [Lib.joinTail]
theorem join_take {L : List (List UInt8)} {s : List UInt8} {i : Nat} (h : i < L.length) :
    Lib.join (L.take (i + 1)) s = (if 0 < i then Lib.join (L.take i) s ++ s else Lib.join (L.take i) s) ++ ix L i := by
  rw [take_snoc h]
  split
  · rename_i h0
    rw [join_snoc _ _ _ (fun e => by have := congrArg List.length e; rw [List.length_take] at this; simp only [List.length_nil] at this; omega), List.append_assoc]
  · have : i = 0 := by omega
    subst this
    simp [Lib.join_one, Lib.join_nil]
theorem join_take_len {L : List (List UInt8)} {s : List UInt8} : ∀ {k i : Nat}, i + k = L.length → (Lib.join (L.take i) s).length ≤ (Lib.join L s).length
  | 0, i, h => by rw [List.take_of_length_le (by omega)]; exact Nat.le_refl _
  | k + 1, i, h => by
    have h1 := join_take_len (L := L) (s := s) (k := k) (i := i + 1) (by omega)
    rw [join_take (by omega)] at h1
    split at h1 <;> simp only [List.length_append] at h1 <;> omega
theorem join_len {m c : Nat} : ∀ {L : List (List UInt8)} {s : List UInt8}, (∀ x ∈ L, x.length ≤ m) → s.length ≤ c → (Lib.join L s).length ≤ (m + c) * L.length := by
  intro L s h hs
  have key : ∀ i, i ≤ L.length → (Lib.join (L.take i) s).length ≤ (m + c) * i := by
    intro i
    induction i with
    | zero => intro _; simp [Lib.join_nil]
    | succ i ih =>
      intro hi
      have := ih (by omega)
      have hx := h _ (getD_mem (L := L) (i := i) (by omega))
      rw [join_take (by omega), Nat.mul_add, Nat.mul_one]
      split <;> simp only [List.length_append] <;> omega
  have := key L.length (Nat.le_refl _)
  rwa [List.take_of_length_le (Nat.le_refl _)] at this

abbrev ints (N : List Int) : AV := .sl 1 N.length fun i => [.int .i64 (ix N i)]
/-- what is joined: a number or a text -/
inductive It where
  | n (i : Int)
  | t (s : List UInt8)
instance : Inhabited It := ⟨.n 0⟩
def It.txt : It → List UInt8
  | .n i => Lib.itoa i
  | .t s => s
def It.row : It → List AV
  | .n i => [.iface 3 (.int .i64 i)]
  | .t s => [.iface 9 (.str (B s))]
def It.ok : It → Prop
  | .n i => -9223372036854775808 ≤ i ∧ i ≤ 9223372036854775807
  | .t _ => True
def itRow (L : List It) (i : Nat) : List AV := (ix L i).row
theorem joined_fn (L : List It) (s : List UInt8) (hn : L.length ≤ 100000000) (hok : ∀ x ∈ L, x.ok) (hlen : (Lib.join (L.map It.txt) s).length ≤ 140737488355328) :
    VFn Tryz.prog 126 [.str (B s), .sl 1 L.length (itRow L)] (.str (B (Lib.join (L.map It.txt) s))) := by
  refine VFn.introC Tryz.call126 Tryz.func126 rfl rfl ?_
  refine LoopC.mk (fun i : Nat => i ≤ L.length) (fun i => [(0, .str (B s)), (11, .sl 1 L.length (itRow L)), (12, .int .i64 L.length), (5, .osl 0), (13, .int .i64 i)])
    (fun i => [(0, .arr 9 1 ((L.take i).map It.txt).length fun k => [.str (B (ix ((L.take i).map It.txt) k))])]) 1 (fun i => L.length - i) 0
    ⟨Nat.zero_le _, [(0, 0)], rfl, rfl, ⟨AVle.refl _, AVle.refl _, AVle.refl _, AVle.refl _, AVle.refl _, trivial⟩, ⟨MOle.arr rfl fun i hi => absurd hi (Nat.not_lt_zero i), trivial⟩⟩ ?_
  intro i hi
  refine Grd.intro (fun h2 => ?_) (fun h2 => ?_)
  · have hin : i < L.length := by simp at h2; omega
    have hx := hok _ (getD_mem hin)
    have hrow : itRow L (Int.toNat (i : Int)) = (ix L i).row := rfl
    have htake := take_snoc hin
    refine And.intro (by omega) ?_
    generalize ix L i = x at hx hrow htake
    rw [hrow]
    cases x with
    | n m =>
      conv => whnf
      refine CallC.sca _ (Itoa_fn m hx.1 hx.2) ?_ ?_
      · exact rfl
      refine And.intro ⟨show (((L.take i).map It.txt).length + 1) * 16 ≤ 140737488355328 by simp; omega, all1 rfl⟩ ?_
      refine And.intro (inI64 (by omega) (by omega)) ?_
      refine ⟨i + 1, hin, by omega, [(2, 0)], rfl, rfl, ⟨AVle.refl _, AVle.refl _, AVle.refl _, AVle.refl _, AVle.of_eq (congrArg (AV.int .i64) (by simp)), trivial⟩, ⟨?_, trivial⟩⟩
      exact arr_next (f := fun x => [.str (B x)]) (by rw [htake, List.map_append]; rfl) rfl
    | t m =>
      refine And.intro ⟨show (((L.take i).map It.txt).length + 1) * 16 ≤ 140737488355328 by simp; omega, all1 rfl⟩ ?_
      refine And.intro (inI64 (by omega) (by omega)) ?_
      refine ⟨i + 1, hin, by omega, [(2, 0)], rfl, rfl, ⟨AVle.refl _, AVle.refl _, AVle.refl _, AVle.refl _, AVle.of_eq (congrArg (AV.int .i64) (by simp)), trivial⟩, ⟨?_, trivial⟩⟩
      exact arr_next (f := fun x => [.str (B x)]) (by rw [htake, List.map_append]; rfl) rfl
  · have : i = L.length := by simp at h2; omega
    subst this
    have e : L.take L.length = L := List.take_of_length_le (Nat.le_refl _)
    rw [e]
    conv => whnf
    refine CallC.sca _ (Join_fn (L.map It.txt) s hlen (by simp; omega)) ?_ ?_
    · exact rfl
    exact And.intro trivial (AVle.refl _)
/-- the same at rows written out -/
theorem joined_of (L : List It) {n : Nat} {rows : Nat → List AV} (hr : RowsAre rows 0 (L.map It.row)) (hn : n = L.length) (s : List UInt8) (hl : L.length ≤ 100000000) (hok : ∀ x ∈ L, x.ok) (hlen : (Lib.join (L.map It.txt) s).length ≤ 140737488355328) :
    VFn Tryz.prog 126 [.str (B s), .sl 1 n rows] (.str (B (Lib.join (L.map It.txt) s))) :=
  (joined_fn L s hl hok hlen).weak (AVsle.cons (AVle.refl _) (AVsle.cons (hr.le hn) AVsle.nil)) (AVle.refl _)
theorem said_fn (L : List It) (hn : L.length ≤ 100000000) (hok : ∀ x ∈ L, x.ok) (hlen : (Lib.join (L.map It.txt) [32]).length ≤ 140737488355328) :
    VFn Tryz.prog 127 [.sl 1 L.length (itRow L)] (.str (B (Lib.join (L.map It.txt) [32]))) := by
  refine VFn.introC Tryz.call127 Tryz.func127 rfl rfl ?_
  conv => whnf
  refine CallC.sca _ (joined_fn L [32] hn hok hlen) ?_ ?_
  · exact rfl
  exact And.intro trivial (AVle.refl _)
end Go.Proofs.YtcpedmcomfimpaaGreatDoor
set_option linter.unusedVariables false
set_option linter.constructorNameAsVariable false
set_option linter.unusedSimpArgs false
set_option maxRecDepth 20000
namespace Go.Proofs.YtcpedmcomfimpaaGreatDoor
open Go Go.Vw

theorem within_fn (n lo hi : Int) : VFn Tryz.prog 65 [.int .i64 n, .int .i64 lo, .int .i64 hi] (.bool (within n lo hi)) := by
  refine VFn.introC Tryz.call65 Tryz.func65 rfl rfl ?_
  refine Grd.intro (fun h1 => ?_) (fun h1 => ?_)
  · refine And.intro trivial (AVle.of_eq (congrArg AV.bool ?_))
    simp_all [within]
  · refine And.intro trivial (AVle.of_eq (congrArg AV.bool ?_))
    simp_all [within]; omega
theorem l01In_fn (n lo hi : Int) : VFn Tryz.prog 84 [.int .i64 n, .int .i64 lo, .int .i64 hi] (.bool (within n lo hi)) := by
  refine VFn.introC Tryz.call84 Tryz.func84 rfl rfl ?_
  refine Grd.intro (fun h1 => ?_) (fun h1 => ?_)
  · refine And.intro trivial (AVle.of_eq (congrArg AV.bool ?_))
    simp_all [within]
  · refine And.intro trivial (AVle.of_eq (congrArg AV.bool ?_))
    simp_all [within]; omega

theorem first_of (l : List (Bool × Int)) {n : Nat} {rows : Nat → List AV} (hr : FirstRows 4 3 rows 0 l) (hn : n = 2 * l.length) (hl : l.length ≤ 1000) :
    VFn Tryz.prog 47 [.sl 1 n rows] (.int .i64 (firstC l)) := by
  subst hn
  refine VFn.introC Tryz.call47 Tryz.func47 rfl rfl ?_
  refine LoopC.mk (fun i : Nat => i ≤ l.length ∧ ∀ j, j < i → (ix l j).1 = false) (fun i => [(0, .sl 1 (2 * l.length) rows), (3, .int .i64 (2 * (i : Int)))]) (fun _ => []) 0 (fun i => l.length - i) 0
    ⟨⟨Nat.zero_le _, fun j hj => absurd hj (Nat.not_lt_zero j)⟩, [], rfl, rfl, ⟨AVle.refl _, AVle.refl _, trivial⟩, trivial⟩ ?_
  rintro i ⟨hi, hf⟩
  refine And.intro (inI64 (by omega) (by omega)) ?_
  refine Grd.intro (fun h2 => ?_) (fun h2 => ?_)
  · have hin : i < l.length := by have := of_decide_eq_true h2; omega
    have hg := hr.get i hin
    have e1 : rows (Int.toNat (2 * (i : Int))) = [.iface 4 (.bool (ix l i).1)] := by rw [show Int.toNat (2 * (i : Int)) = 0 + 2 * i by omega]; exact hg.1
    have e2 : rows (Int.toNat (2 * (i : Int) + 1)) = [.iface 3 (.int .i64 (ix l i).2)] := by rw [show Int.toNat (2 * (i : Int) + 1) = 0 + (2 * i + 1) by omega]; exact hg.2
    refine And.intro (by omega) ?_
    rw [e1]
    refine Grd.intro (fun h3 => ?_) (fun h3 => ?_)
    · refine And.intro (inI64 (by omega) (by omega)) ?_
      refine And.intro (by omega) ?_
      rw [e2]
      refine And.intro trivial (AVle.of_eq (congrArg (AV.int .i64) ?_))
      rw [firstC_none hf hi]
      have : l.drop i = ix l i :: l.drop (i + 1) := drop_ix hin
      rw [this]
      show _ = bif (ix l i).1 then _ else _
      rw [show (ix l i).1 = true from h3]; rfl
    · refine And.intro (inI64 (by omega) (by omega)) ?_
      refine ⟨i + 1, ⟨hin, fun j hj => ?_⟩, by omega, [], rfl, rfl, ⟨AVle.refl _, AVle.of_eq (congrArg (AV.int .i64) (by omega)), trivial⟩, trivial⟩
      by_cases e : j = i
      · subst e; exact h3
      · exact hf j (by omega)
  · have : i = l.length := by have := of_decide_eq_false h2; omega
    subst this
    refine And.intro trivial (AVle.of_eq (congrArg (AV.int .i64) ?_))
    rw [firstC_none hf (Nat.le_refl _), List.drop_length]; rfl
structure Ag where
  c : Int
  s : Int
  mn : Int
  mx : Int
  f : Int
  l : Int
def Ag.av (a : Ag) : AV := .agg [.int .i64 a.c, .int .i64 a.s, .int .i64 a.mn, .int .i64 a.mx, .int .i64 a.f, .int .i64 a.l]
def Ag.nul (a : Ag) : Bool := decide (a.c = 0) && (decide (a.s = 0) && (decide (a.mn = 0) && (decide (a.mx = 0) && (decide (a.f = 0) && (decide (a.l = 0) && true)))))
def Ag.some (a : Ag) : Bool := within a.c 1 100000 && within a.mn (-1000000) 1000000 && within a.mx (-1000000) 1000000 && within a.f a.mn a.mx && within a.l a.mn a.mx && within a.s (a.c * a.mn) (a.c * a.mx)
def Ag.ok (a : Ag) : Bool := a.nul || a.some
theorem isValue_fn (n : Int) : VFn Tryz.prog 125 [.int .i64 n] (.bool (within n (-1000000) 1000000)) := by
  refine VFn.introC Tryz.call125 Tryz.func125 rfl rfl ?_
  conv => whnf
  refine CallC.sca _ (within_fn _ _ _) ?_ ?_
  · exact rfl
  exact And.intro trivial (AVle.refl _)
def Ag.six (a : Ag) : List Int := [a.c, a.s, a.mn, a.mx, a.f, a.l]
def atext (a : Ag) : List UInt8 := Lib.join (a.six.map Lib.itoa) [44]
end Go.Proofs.YtcpedmcomfimpaaGreatDoor
set_option linter.unusedVariables false
set_option linter.constructorNameAsVariable false
set_option linter.unusedSimpArgs false
set_option maxRecDepth 20000
namespace Go.Proofs.YtcpedmcomfimpaaGreatDoor
open Go Go.Vw

structure Smp where
  t : Int
  v : Int
instance : Inhabited Smp := ⟨⟨0, 0⟩⟩
def Smp.row (s : Smp) : List AV := [.int .i64 s.t, .int .i64 s.v]
abbrev smps (L : List Smp) : AV := .sl 2 L.length fun i => (ix L i).row
structure Bk where
  t : Int
  a : Ag
instance : Inhabited Ag := ⟨⟨0, 0, 0, 0, 0, 0⟩⟩
instance : Inhabited Bk := ⟨⟨0, default⟩⟩
def Bk.row (b : Bk) : List AV := [.int .i64 b.t, .int .i64 b.a.c, .int .i64 b.a.s, .int .i64 b.a.mn, .int .i64 b.a.mx, .int .i64 b.a.f, .int .i64 b.a.l]
abbrev bks (L : List Bk) : AV := .sl 7 L.length fun i => (ix L i).row

theorem isMoment_fn (n : Int) : VFn Tryz.prog 66 [.int .i64 n] (.bool (within n 0 99999)) := by
  refine VFn.introC Tryz.call66 Tryz.func66 rfl rfl ?_
  conv => whnf
  refine CallC.sca _ (within_fn _ _ _) ?_ ?_
  · exact rfl
  exact And.intro trivial (AVle.refl _)
def smpAt (L : List Smp) (i : Nat) : Bool := within (ix L i).t 0 99999 && within (ix L i).v (-1000000) 1000000 && (decide (i = 0) || decide ((ix L (i - 1)).t < (ix L i).t))
def smpsOK (L : List Smp) : Bool := decide (L.length ≤ 4096) && allN L.length (smpAt L)
def bkAt (L : List Bk) (i : Nat) : Bool := within (ix L i).t 0 99999 && (ix L i).a.ok && !decide ((ix L i).a.c = 0) && (decide (i = 0) || decide ((ix L (i - 1)).t < (ix L i).t))
def bksOK (L : List Bk) : Bool := decide (L.length ≤ 8) && allN L.length (bkAt L)

theorem isLongSmp_fn (L : List Smp) : VFn Tryz.prog 48 [smps L] (.bool (decide (4096 < L.length))) := by
  refine VFn.introC Tryz.call48 Tryz.func48 rfl rfl ?_
  exact And.intro trivial (AVle.of_eq (congrArg AV.bool (by simp; omega)))
theorem SamplesOK_fn (L : List Smp) : VFn Tryz.prog 49 [smps L] (.bool (smpsOK L)) := by
  refine VFn.introC Tryz.call49 Tryz.func49 rfl rfl ?_
  conv => whnf
  refine CallC.sca _ (isLongSmp_fn L) ?_ ?_
  · exact rfl
  refine Grd.intro (fun h1 => ?_) (fun h1 => ?_)
  · have := of_decide_eq_true h1
    exact And.intro trivial (AVle.of_eq (congrArg AV.bool (by simp [smpsOK]; omega)))
  have hn : L.length ≤ 4096 := by have := of_decide_eq_false h1; omega
  have no : ∀ i, i < L.length → smpAt L i = false → false = smpsOK L := fun i hi h => by simp [smpsOK, allN_no hi h]
  refine LoopC.mk (fun i : Nat => i ≤ L.length ∧ allN i (smpAt L) = true) (fun i => [(0, smps L), (7, smps L), (8, .int .i64 L.length), (9, .int .i64 i)]) (fun _ => []) 0 (fun i => L.length - i) 0
    ⟨⟨Nat.zero_le _, rfl⟩, [], rfl, rfl, ⟨AVle.refl _, AVle.refl _, AVle.refl _, AVle.refl _, trivial⟩, trivial⟩ ?_
  rintro i ⟨hi, ha⟩
  refine Grd.intro (fun h2 => ?_) (fun h2 => ?_)
  · have hin : i < L.length := by have := of_decide_eq_true h2; omega
    refine And.intro (by omega) ?_
    refine DrawC.mk 25 rfl (by kernel_rfl) ?_
    refine PCallC.sca _ (isMoment_fn _) rfl ?_
    refine Grd.intro (fun h3 => ?_) (fun h3 => ?_)
    · exact And.intro trivial (AVle.of_eq (congrArg AV.bool (no i hin (by simp at h3; simp [smpAt, h3]))))
    refine PCallC.sca _ (isValue_fn _) rfl ?_
    refine Grd.intro (fun h4 => ?_) (fun h4 => ?_)
    · exact And.intro trivial (AVle.of_eq (congrArg AV.bool (no i hin (by simp at h4; simp [smpAt, h4]))))
    simp at h3 h4
    refine Grd.intro (fun h5 => ?_) (fun h5 => ?_)
    · have h0 : 0 < i := by have := of_decide_eq_true h5; omega
      refine And.intro (inI64 (by omega) (by omega)) ?_
      refine And.intro (by omega) ?_
      refine Grd.intro (fun h6 => ?_) (fun h6 => ?_)
      · have h6 := of_decide_eq_true h6
        rw [show Int.toNat ((i : Int) - 1) = i - 1 by omega] at h6
        exact And.intro trivial (AVle.of_eq (congrArg AV.bool (no i hin (by
          have : ¬ (ix L (i - 1)).t < (ix L i).t := by simpa using h6
          have h00 : ¬ i = 0 := by omega
          simp only [smpAt, decide_eq_false h00, decide_eq_false this, Bool.or_false, Bool.and_false]))))
      · have h6 := of_decide_eq_false h6
        rw [show Int.toNat ((i : Int) - 1) = i - 1 by omega] at h6
        refine And.intro (inI64 (by omega) (by omega)) ?_
        refine ⟨i + 1, ⟨hin, allN_step ha ?_⟩, by omega, [], rfl, rfl, ⟨AVle.refl _, AVle.refl _, AVle.refl _, AVle.of_eq (congrArg (AV.int .i64) (by simp)), trivial⟩, trivial⟩
        have : (ix L (i - 1)).t < (ix L i).t := by simpa using h6
        simp [smpAt, h3, h4, this]
    · have h0 : i = 0 := by have := of_decide_eq_false h5; omega
      refine And.intro (inI64 (by omega) (by omega)) ?_
      refine ⟨i + 1, ⟨hin, allN_step ha ?_⟩, by omega, [], rfl, rfl, ⟨AVle.refl _, AVle.refl _, AVle.refl _, AVle.of_eq (congrArg (AV.int .i64) (by simp)), trivial⟩, trivial⟩
      subst h0; simp [smpAt, h3, h4]
  · have : i = L.length := by have := of_decide_eq_false h2; omega
    subst this
    exact And.intro trivial (AVle.of_eq (congrArg AV.bool (by simp [smpsOK, ha, hn])))

def smpText (s : Smp) : List UInt8 := Lib.join [Lib.itoa s.t, Lib.itoa s.v] [61]
def smpsText (L : List Smp) : List UInt8 := Lib.join (L.map smpText) [32]
def bkText (b : Bk) : List UInt8 := Lib.join [Lib.itoa b.t, atext b.a] [58]
def bksText (L : List Bk) : List UInt8 := Lib.join (L.map bkText) [32]
theorem join2 (a b s : List UInt8) : Lib.join [a, b] s = a ++ s ++ b := by
  rw [Lib.join_cons]; simp [Lib.joinTail]
def Smp.num (s : Smp) : Prop := (-1000000000 ≤ s.t ∧ s.t ≤ 1000000000) ∧ (-1000000000 ≤ s.v ∧ s.v ≤ 1000000000)
theorem smpText_len {s : Smp} (h : s.num) : (smpText s).length ≤ 43 := by
  have h1 := itoa_len (n := s.t) (by have := h.1; omega) (by have := h.1; omega)
  have h2 := itoa_len (n := s.v) (by have := h.2; omega) (by have := h.2; omega)
  unfold smpText; rw [join2]; simp; omega
theorem smpsText_len {L : List Smp} (h : ∀ s ∈ L, s.num) : (smpsText L).length ≤ 44 * L.length := by
  have := join_len (m := 43) (c := 1) (L := L.map smpText) (s := [32]) (fun x hx => by obtain ⟨y, hy, rfl⟩ := List.mem_map.1 hx; exact smpText_len (h y hy)) (by decide)
  simpa [smpsText] using this
theorem smpsOK_num {L : List Smp} (h : smpsOK L = true) : ∀ s ∈ L, s.num := by
  simp only [smpsOK, Bool.and_eq_true, allN_iff] at h
  intro s hs
  obtain ⟨i, hi, rfl⟩ := List.mem_iff_getElem.1 hs
  have := h.2 i hi
  rw [smpAt, Bool.and_eq_true, Bool.and_eq_true] at this
  rw [← ix_lt hi]
  have a := win_iff.1 this.1.1
  have b := win_iff.1 this.1.2
  exact ⟨⟨by omega, by omega⟩, ⟨by omega, by omega⟩⟩
theorem samplesText_fn (L : List Smp) (hL : L.length ≤ 4096) (hN : ∀ s ∈ L, s.num) : VFn Tryz.prog 50 [smps L] (.str (B (smpsText L))) := by
  have hlen := smpsText_len hN
  refine VFn.introC Tryz.call50 Tryz.func50 rfl rfl ?_
  refine LoopC.mk (fun i : Nat => i ≤ L.length) (fun i => [(7, smps L), (8, .int .i64 L.length), (3, .osl 0), (9, .int .i64 i)])
    (fun i => [(0, .arr 20 1 ((L.take i).map fun s => It.t (smpText s)).length (itRow ((L.take i).map fun s => It.t (smpText s))))]) 1 (fun i => L.length - i) 0
    ⟨Nat.zero_le _, [(0, 0)], rfl, rfl, ⟨AVle.refl _, AVle.refl _, AVle.refl _, AVle.refl _, trivial⟩, ⟨MOle.arr rfl fun i hi => absurd hi (Nat.not_lt_zero i), trivial⟩⟩ ?_
  intro i hi
  refine Grd.intro (fun h2 => ?_) (fun h2 => ?_)
  · have hin : i < L.length := by have := of_decide_eq_true h2; omega
    have hs := hN _ (getD_mem hin)
    refine And.intro (by omega) ?_
    conv => whnf
    refine CallC.sca _ (joined_of [It.n (ix L i).t, It.n (ix L i).v] (n := 2) ⟨rfl, rfl, trivial⟩ rfl [61] (show 2 ≤ 100000000 by decide) (fun x hx => by simp only [List.mem_cons, List.not_mem_nil, or_false] at hx; obtain ⟨g1, g2⟩ := hs; rcases hx with rfl | rfl; exact ⟨by omega, by omega⟩; exact ⟨by omega, by omega⟩) (show (smpText (ix L i)).length ≤ _ by have := smpText_len hs; omega)) ?_ ?_
    · exact rfl
    refine And.intro ⟨show (((L.take i).map fun s => It.t (smpText s)).length + 1) * 16 ≤ 140737488355328 by simp; omega, all1 rfl⟩ ?_
    refine And.intro (inI64 (by omega) (by omega)) ?_
    refine ⟨i + 1, hin, by omega, [(4, 0)], rfl, rfl, ⟨AVle.refl _, AVle.refl _, AVle.refl _, AVle.of_eq (congrArg (AV.int .i64) (by simp)), trivial⟩, ⟨?_, trivial⟩⟩
    exact arr_next (f := It.row) (map_take_snoc hin) rfl
  · have : i = L.length := by have := of_decide_eq_false h2; omega
    subst this
    have e : L.take L.length = L := List.take_of_length_le (Nat.le_refl _)
    have e2 : (L.map fun s => It.t (smpText s)).map It.txt = L.map smpText := by rw [List.map_map]; rfl
    rw [e]
    conv => whnf
    refine CallC.sca _ (said_fn (L.map fun s => It.t (smpText s)) (by simp; omega) (fun x hx => by obtain ⟨y, _, rfl⟩ := List.mem_map.1 hx; trivial) (by rw [e2]; exact Nat.le_trans hlen (by omega))) ?_ ?_
    · exact rfl
    exact And.intro trivial (AVle.of_eq (congrArg (fun l => AV.str (B l)) (show Lib.join _ [32] = smpsText L by rw [e2]; rfl)))

def Bk.ok (b : Bk) : Prop := (-1000000000 ≤ b.t ∧ b.t ≤ 1000000000) ∧ b.a.ok = true
end Go.Proofs.YtcpedmcomfimpaaGreatDoor
set_option linter.unusedVariables false
set_option linter.constructorNameAsVariable false
set_option linter.unusedSimpArgs false
set_option maxRecDepth 20000
namespace Go.Proofs.YtcpedmcomfimpaaGreatDoor
open Go Go.Vw

def Ag.mrg (a b : Ag) : Ag := if a.c = 0 then b else if b.c = 0 then a else ⟨a.c + b.c, a.s + b.s, if b.mn < a.mn then b.mn else a.mn, if a.mx < b.mx then b.mx else a.mx, a.f, b.l⟩
def Ag.cells (a : Ag) : List AV := [.int .i64 a.c, .int .i64 a.s, .int .i64 a.mn, .int .i64 a.mx, .int .i64 a.f, .int .i64 a.l]
def one (v : Int) : Ag := ⟨1, v, v, v, v, v⟩
def aggL (L : List Smp) : Ag := L.foldl (fun a s => a.mrg (one s.v)) default
theorem aggL_snoc {L : List Smp} {i : Nat} (h : i < L.length) : aggL (L.take (i + 1)) = (aggL (L.take i)).mrg (one (ix L i).v) := by
  unfold aggL; rw [take_snoc h, List.foldl_append]; rfl
def Ag.B (a : Ag) (n : Int) : Prop := a.c = n ∧ (-1000000 * n ≤ a.s ∧ a.s ≤ 1000000 * n) ∧ (n = 0 → a = default) ∧ (0 < n → a.some = true)
theorem mrg_B {a : Ag} {n v : Int} (h : a.B n) (hn : 0 ≤ n ∧ n < 100000) (hv : -1000000 ≤ v ∧ v ≤ 1000000) : (a.mrg (one v)).B (n + 1) := by
  obtain ⟨h1, h2, h3, h4⟩ := h
  unfold Ag.mrg
  by_cases h0 : a.c = 0
  · rw [if_pos h0]
    refine ⟨by simp only [one]; omega, by simp only [one]; omega, fun h => by omega, fun _ => ?_⟩
    unfold Ag.some one
    simp [within]; omega
  · rw [if_neg h0, if_neg (show ¬ (one v).c = 0 by simp [one])]
    have h5 := h4 (by omega)
    unfold Ag.some at h5
    simp [within] at h5
    refine ⟨by simp only [one]; omega, by simp only [one]; omega, fun h => by omega, fun _ => ?_⟩
    unfold Ag.some one
    simp only [within]
    have e1 : ∀ m, m ≤ a.mn → m ≤ v → (a.c + 1) * m ≤ a.s + v := fun m q1 q2 => by
      have : a.c * m ≤ a.c * a.mn := Int.mul_le_mul_of_nonneg_left q1 (by omega)
      have : (a.c + 1) * m = a.c * m + m := by rw [Int.add_mul]; omega
      omega
    have e2 : ∀ m, a.mx ≤ m → v ≤ m → a.s + v ≤ (a.c + 1) * m := fun m q1 q2 => by
      have : a.c * a.mx ≤ a.c * m := Int.mul_le_mul_of_nonneg_left q1 (by omega)
      have : (a.c + 1) * m = a.c * m + m := by rw [Int.add_mul]; omega
      omega
    by_cases m1 : v < a.mn <;> by_cases m2 : a.mx < v
    · rw [if_pos m1, if_pos m2]
      have := e1 v (by omega) (by omega)
      have := e2 v (by omega) (by omega)
      simp; omega
    · rw [if_pos m1, if_neg m2]
      have := e1 v (by omega) (by omega)
      have := e2 a.mx (by omega) (by omega)
      simp; omega
    · rw [if_neg m1, if_pos m2]
      have := e1 a.mn (by omega) (by omega)
      have := e2 v (by omega) (by omega)
      simp; omega
    · rw [if_neg m1, if_neg m2]
      have := e1 a.mn (by omega) (by omega)
      have := e2 a.mx (by omega) (by omega)
      simp; omega
theorem aggL_B {L : List Smp} (hL : L.length ≤ 100000) (hv : ∀ e ∈ L, -1000000 ≤ e.v ∧ e.v ≤ 1000000) : ∀ i : Nat, i ≤ L.length → (aggL (L.take i)).B i
  | 0, _ => ⟨rfl, show -1000000 * ((0 : Nat) : Int) ≤ 0 ∧ (0 : Int) ≤ 1000000 * ((0 : Nat) : Int) by omega, fun _ => rfl, fun h => absurd h (by simp)⟩
  | i + 1, h => by
    rw [aggL_snoc h]
    have := mrg_B (aggL_B hL hv i (by omega)) ⟨by omega, by omega⟩ (hv _ (getD_mem (L := L) h))
    simpa using this
def Ag.eqb (x y : Ag) : Bool := decide (x.c = y.c) && (decide (x.s = y.s) && (decide (x.mn = y.mn) && (decide (x.mx = y.mx) && (decide (x.f = y.f) && (decide (x.l = y.l) && true)))))
theorem smps_bd {L : List Smp} (h : smpsOK L = true) : L.length ≤ 4096 ∧ ∀ e ∈ L, -1000000 ≤ e.v ∧ e.v ≤ 1000000 := by
  unfold smpsOK at h
  rw [Bool.and_eq_true] at h
  refine ⟨of_decide_eq_true h.1, fun e he => ?_⟩
  obtain ⟨i, hi, e0⟩ := List.mem_iff_getElem.1 he
  have e0 : ix L i = e := by rw [ix_lt hi, e0]
  subst e0
  have := allN_iff.1 h.2 i hi
  simp [smpAt, within] at this
  omega
theorem merged_fn (a b : Ag) (h1 : inI .i64 (a.c + b.c)) (h2 : inI .i64 (a.s + b.s)) : VFn Tryz.prog 147 [a.av, b.av] (a.mrg b).av := by
  obtain ⟨R, hR⟩ : ∃ R, R = a.mrg b := ⟨_, rfl⟩
  rw [← hR]
  refine VFn.introC Tryz.call147 Tryz.func147 rfl rfl ?_
  refine Grd.intro (fun g1 => ?_) (fun g1 => ?_)
  · rw [Ag.mrg, if_pos (show a.c = 0 from of_decide_eq_true g1)] at hR
    subst hR
    exact And.intro trivial (AVle.refl _)
  refine Grd.intro (fun g2 => ?_) (fun g2 => ?_)
  · rw [Ag.mrg, if_neg (show ¬ a.c = 0 from of_decide_eq_false g1), if_pos (show b.c = 0 from of_decide_eq_true g2)] at hR
    subst hR
    exact And.intro trivial (AVle.refl _)
  rw [Ag.mrg, if_neg (show ¬ a.c = 0 from of_decide_eq_false g1), if_neg (show ¬ b.c = 0 from of_decide_eq_false g2)] at hR
  refine And.intro h1 ?_
  refine And.intro h2 ?_
  subst hR
  exact And.intro trivial (AVle.refl _)
theorem aggOf_fn (L : List Smp) (hL : L.length ≤ 100000) (hv : ∀ e ∈ L, -1000000 ≤ e.v ∧ e.v ≤ 1000000) : VFn Tryz.prog 72 [smps L] (aggL L).av := by
  have hB := aggL_B hL hv
  refine VFn.introC Tryz.call72 Tryz.func72 rfl rfl ?_
  refine LoopC.mk (fun i : Nat => i ≤ L.length) (fun i => [(2, .bptr 0 0), (3, .bptr 1 0), (7, smps L), (8, .int .i64 L.length), (9, .int .i64 i)])
    (fun i => [(0, .box [.int .i64 0, .int .i64 0, .int .i64 0, .int .i64 0, .int .i64 0, .int .i64 0]), (1, .box (aggL (L.take i)).cells)]) 2 (fun i => L.length - i) 0
    ⟨Nat.zero_le _, [(0, 0), (1, 1)], rfl, rfl, ⟨AVle.refl _, AVle.refl _, AVle.refl _, AVle.refl _, AVle.refl _, trivial⟩, ⟨MOle.refl _, MOle.refl _, trivial⟩⟩ ?_
  intro i hi
  refine Grd.intro (fun g1 => ?_) (fun g1 => ?_)
  · have hin : i < L.length := by have := of_decide_eq_true g1; omega
    have b := hB i hi
    have hvi := hv _ (getD_mem hin)
    refine And.intro (by omega) ?_
    conv => whnf
    refine CallC.sca _ (merged_fn (aggL (L.take i)) (one (ix L i).v) (inI64 (by have := b.1; simp only [one]; omega) (by have := b.1; simp only [one]; omega)) (inI64 (by have := b.2.1; simp only [one]; omega) (by have := b.2.1; simp only [one]; omega))) ?_ ?_
    · exact rfl
    refine And.intro (inI64 (by omega) (by omega)) ?_
    exact ⟨i + 1, hin, by omega, [(0, 0), (1, 1)], rfl, rfl, ⟨AVle.refl _, AVle.refl _, AVle.refl _, AVle.refl _, AVle.of_eq (congrArg (AV.int .i64) (by simp)), trivial⟩, ⟨MOle.refl _, MOle.of_eq (show MO.box ((aggL (L.take i)).mrg (one (ix L i).v)).cells = _ by rw [aggL_snoc hin]), trivial⟩⟩
  · have : i = L.length := by have := of_decide_eq_false g1; omega
    subst this
    exact And.intro trivial (AVle.of_eq (show (aggL (L.take L.length)).av = _ by rw [List.take_of_length_le (Nat.le_refl _)]))
def smpsIn (L : List Smp) (a b : Int) : List Smp := L.filter fun e => within e.t a (b - 1)
theorem smpsIn_yes {L : List Smp} {a b : Int} {i : Nat} (h : i < L.length) (hw : within (ix L i).t a (b - 1) = true) : smpsIn (L.take (i + 1)) a b = smpsIn (L.take i) a b ++ [ix L i] := by
  unfold smpsIn; rw [take_snoc h, List.filter_append]; simp [hw]
theorem smpsIn_no {L : List Smp} {a b : Int} {i : Nat} (h : i < L.length) (hw : within (ix L i).t a (b - 1) = false) : smpsIn (L.take (i + 1)) a b = smpsIn (L.take i) a b := by
  unfold smpsIn; rw [take_snoc h, List.filter_append]; simp [hw]
theorem smpsIn_len (L : List Smp) (a b : Int) : (smpsIn L a b).length ≤ L.length := List.length_filter_le _ _
theorem smpsIn_mem {L : List Smp} {a b : Int} {e : Smp} (h : e ∈ smpsIn L a b) : e ∈ L := (List.mem_filter.1 h).1
theorem samplesIn_fn (L : List Smp) (hL : L.length ≤ 1048576) (a b : Int) (hb : inI .i64 (b - 1)) : VFn Tryz.prog 73 [smps L, .int .i64 a, .int .i64 b] (smps (smpsIn L a b)) := by
  obtain ⟨R, hR⟩ : ∃ R, R = smpsIn L a b := ⟨_, rfl⟩
  rw [← hR]
  have hl := fun i => Nat.le_trans (smpsIn_len (L.take i) a b) (by simp; omega : (L.take i).length ≤ i)
  refine VFn.introC Tryz.call73 Tryz.func73 rfl rfl ?_
  refine LoopC.mk (fun i : Nat => i ≤ L.length) (fun i => [(1, .int .i64 a), (2, .int .i64 b), (7, .osl 0), (11, smps L), (12, .int .i64 L.length), (13, .int .i64 i)])
    (fun i => [(0, .arr 108 2 (smpsIn (L.take i) a b).length fun j => (ix (smpsIn (L.take i) a b) j).row)]) 1 (fun i => L.length - i) 0
    ⟨Nat.zero_le _, [(0, 0)], rfl, rfl, ⟨AVle.refl _, AVle.refl _, AVle.refl _, AVle.refl _, AVle.refl _, AVle.refl _, trivial⟩, ⟨MOle.arr rfl fun i hi => absurd hi (Nat.not_lt_zero i), trivial⟩⟩ ?_
  intro i hi
  refine Grd.intro (fun h2 => ?_) (fun h2 => ?_)
  · have hin : i < L.length := by have := of_decide_eq_true h2; omega
    refine And.intro (by omega) ?_
    refine And.intro hb ?_
    conv => whnf
    refine CallC.sca _ (within_fn _ _ _) ?_ ?_
    · exact rfl
    refine Grd.intro (fun h3 => ?_) (fun h3 => ?_)
    · have hs := smpsIn_yes hin h3
      refine And.intro ⟨show ((smpsIn (L.take i) a b).length + 1) * 16 ≤ 140737488355328 by have := hl i; omega, all1 rfl⟩ ?_
      refine And.intro (inI64 (by omega) (by omega)) ?_
      refine ⟨i + 1, hin, by omega, [(3, 0)], rfl, rfl, ⟨AVle.refl _, AVle.refl _, AVle.refl _, AVle.refl _, AVle.refl _, AVle.of_eq (congrArg (AV.int .i64) (by simp)), trivial⟩, ⟨?_, trivial⟩⟩
      exact arr_next (f := Smp.row) hs rfl
    · have hs := smpsIn_no hin h3
      refine And.intro (inI64 (by omega) (by omega)) ?_
      exact ⟨i + 1, hin, by omega, [(0, 0)], rfl, rfl, ⟨AVle.refl _, AVle.refl _, AVle.refl _, AVle.refl _, AVle.refl _, AVle.of_eq (congrArg (AV.int .i64) (by simp)), trivial⟩, ⟨MOle.of_eq (show MO.arr 108 2 (smpsIn (L.take i) a b).length (fun j => (ix (smpsIn (L.take i) a b) j).row) = _ by rw [hs]), trivial⟩⟩
  · have : i = L.length := by have := of_decide_eq_false h2; omega
    subst this
    have e : smpsIn (L.take L.length) a b = R := by rw [List.take_of_length_le (Nat.le_refl _), hR]
    subst e
    exact And.intro trivial (AVle.sl rfl fun j hj => rfl)
end Go.Proofs.YtcpedmcomfimpaaGreatDoor
set_option linter.unusedVariables false
set_option linter.constructorNameAsVariable false
set_option linter.unusedSimpArgs false
set_option maxRecDepth 20000
namespace Go.Proofs.YtcpedmcomfimpaaGreatDoor
open Go Go.Vw

end Go.Proofs.YtcpedmcomfimpaaGreatDoor
set_option linter.unusedVariables false
set_option linter.constructorNameAsVariable false
set_option linter.unusedSimpArgs false
set_option maxRecDepth 20000
namespace Go.Proofs.YtcpedmcomfimpaaGreatDoor
open Go Go.Vw

theorem cmp_lt : ∀ a b : List UInt8, decide (Lib.compareBytes a b < 0) = decide (a < b)
  | [], [] => by simp [Lib.compareBytes]
  | [], _ :: _ => by simp [Lib.compareBytes]
  | _ :: _, [] => by simp [Lib.compareBytes]
  | x :: a, y :: b => by
    have ih := cmp_lt a b
    unfold Lib.compareBytes
    by_cases h1 : x < y
    · simp [h1, List.cons_lt_cons_iff]
    · by_cases h2 : y < x
      · have : ¬ x = y := fun e => by subst e; exact h1 h2
        simp only [List.cons_lt_cons_iff]; simp [h1, h2, this]
      · have : x = y := UInt8.le_antisymm (UInt8.not_lt.1 h2) (UInt8.not_lt.1 h1)
        subst this
        simp only [List.cons_lt_cons_iff]; simp [h1, ih]
theorem cmp_eq : ∀ a b : List UInt8, decide (Lib.compareBytes a b = 0) = decide (a = b)
  | [], [] => by simp [Lib.compareBytes]
  | [], _ :: _ => by simp [Lib.compareBytes]
  | _ :: _, [] => by simp [Lib.compareBytes]
  | x :: a, y :: b => by
    have ih := cmp_eq a b
    unfold Lib.compareBytes
    by_cases h1 : x < y
    · have : ¬ x = y := fun e => by subst e; exact UInt8.lt_irrefl _ h1
      simp [h1, this]
    · by_cases h2 : y < x
      · have : ¬ x = y := fun e => by subst e; exact h1 h2
        simp [h1, h2, this]
      · have : x = y := UInt8.le_antisymm (UInt8.not_lt.1 h2) (UInt8.not_lt.1 h1)
        subst this
        simp [h1]
        simpa using ih
end Go.Proofs.YtcpedmcomfimpaaGreatDoor
set_option linter.unusedVariables false
set_option linter.constructorNameAsVariable false
set_option linter.unusedSimpArgs false
set_option maxRecDepth 20000
namespace Go.Proofs.YtcpedmcomfimpaaGreatDoor
open Go Go.Vw

def insR (i : Nat) (rows r1 : Nat → List AV) (j : Nat) : List AV := if j < i then rows j else if j = i then r1 0 else rows (j - 1)
end Go.Proofs.YtcpedmcomfimpaaGreatDoor
set_option linter.unusedVariables false
set_option linter.constructorNameAsVariable false
set_option linter.unusedSimpArgs false
set_option maxRecDepth 20000
namespace Go.Proofs.YtcpedmcomfimpaaGreatDoor
open Go Go.Vw

end Go.Proofs.YtcpedmcomfimpaaGreatDoor
set_option linter.unusedVariables false
set_option linter.constructorNameAsVariable false
set_option linter.unusedSimpArgs false
set_option maxRecDepth 20000
namespace Go.Proofs.YtcpedmcomfimpaaGreatDoor
open Go Go.Vw

/-- what BucketsText tells -/
def bksCode (L : List Bk) : Int := firstC [(decide (4096 < L.length), 2), (!bksOK L, 1)]
def bksRes (L : List Bk) : List UInt8 := if bksCode L = 0 then bksText L else []
end Go.Proofs.YtcpedmcomfimpaaGreatDoor
set_option linter.unusedVariables false
set_option linter.constructorNameAsVariable false
set_option linter.unusedSimpArgs false
set_option maxRecDepth 20000
namespace Go.Proofs.YtcpedmcomfimpaaGreatDoor
open Go Go.Vw

structure Act where
  k : Int
  who : Int
  n : Int
  tier : Int
  f : Int
  t : Int
  b : List Smp
def Act.av (a : Act) : AV := .agg [.int .i64 a.k, .int .i64 a.who, .int .i64 a.n, .int .i64 a.tier, .int .i64 a.f, .int .i64 a.t, smps a.b]
def isRange (f t : Int) : Bool := within f 0 100000 && within t f 100000
def Act.noR (a : Act) : Bool := decide (a.tier = 0) && decide (a.f = 0) && decide (a.t = 0)
def Act.noB (a : Act) : Bool := decide ((a.b.length : Int) = 0)
def Act.ok (a : Act) : Bool :=
  if a.k = 1 ∨ a.k = 2 then within a.who 0 6 && decide (a.n = 0) && a.noR && a.noB
  else if a.k = 3 then decide (a.who = 0) && within a.n 0 1000 && a.noR && a.noB
  else if a.k = 4 then within a.who 0 6 && within a.n (-3) 3 && a.noR && a.noB
  else if a.k = 5 then within a.who 2 3 && decide (a.n = 0) && a.noR && within a.b.length 1 8 && smpsOK a.b
  else if a.k = 6 then within a.who 4 5 && decide (a.n = 0) && within a.tier 0 2 && isRange a.f a.t && a.noB
  else false
theorem isTier_fn (n : Int) : VFn Tryz.prog 61 [.int .i64 n] (.bool (within n 0 2)) := by
  refine VFn.introC Tryz.call61 Tryz.func61 rfl rfl ?_
  conv => whnf
  refine CallC.sca _ (within_fn _ _ _) ?_ ?_
  · exact rfl
  exact And.intro trivial (AVle.refl _)
theorem isRange_fn (f t : Int) : VFn Tryz.prog 69 [.int .i64 f, .int .i64 t] (.bool (isRange f t)) := by
  refine VFn.introC Tryz.call69 Tryz.func69 rfl rfl ?_
  repeat' (first
    | refine Grd.intro (fun h => ?_) (fun h => ?_)
    | refine And.intro trivial (AVle.of_eq (congrArg AV.bool ?_)))
  all_goals (simp_all [isRange, within]; try omega)
theorem l04Range_fn (f t : Int) : VFn Tryz.prog 168 [.int .i64 f, .int .i64 t] (.bool (isRange f t)) := by
  refine VFn.introC Tryz.call168 Tryz.func168 rfl rfl ?_
  conv => whnf
  refine CallC.sca _ (l01In_fn _ _ _) ?_ ?_
  · exact rfl
  refine Grd.intro (fun h => ?_) (fun h => ?_)
  · conv => whnf
    refine CallC.sca _ (l01In_fn _ _ _) ?_ ?_
    · exact rfl
    exact And.intro trivial (AVle.of_eq (congrArg AV.bool (by simp_all [isRange])))
  · exact And.intro trivial (AVle.of_eq (congrArg AV.bool (by simp_all [isRange])))
def mid (n : Int) : Prop := -1000000 ≤ n ∧ n ≤ 1000000
def Act.items (a : Act) : List It :=
  if a.k = 1 then [.t [115, 116, 101, 112], .n a.who]
  else if a.k = 2 then [.t [99, 114, 97, 115, 104], .n a.who]
  else if a.k = 3 then [.t [116, 105, 99, 107], .n a.n]
  else if a.k = 4 then [.t [115, 107, 101, 119], .n a.who, .n a.n]
  else if a.k = 5 then [.t [105, 110, 103, 101, 115, 116], .n a.who, .t (smpsText a.b)]
  else [.t [113, 117, 101, 114, 121], .n a.who, .n a.tier, .n a.f, .n a.t]
def Act.text (a : Act) : List UInt8 := Lib.join (a.items.map It.txt) [32]
def Act.res (a : Act) : List UInt8 := if a.ok = true then a.text else []
def Act.code (a : Act) : Int := if a.ok = true then 0 else 1
end Go.Proofs.YtcpedmcomfimpaaGreatDoor
set_option linter.unusedVariables false
set_option linter.constructorNameAsVariable false
set_option linter.unusedSimpArgs false
set_option maxRecDepth 20000
namespace Go.Proofs.YtcpedmcomfimpaaGreatDoor
open Go Go.Vw

theorem CutPrefix_fn (s p : List UInt8) : VFn Tryz.prog 144 [.str (B s), .str (B p)] (.tup [.str (B (Lib.trimPrefix s p)), .bool (Lib.hasPrefix s p)]) := by
  refine VFn.lib Tryz.call144 fun w ok vs hJ hok hv => ?_
  obtain ⟨v, us, rfl, hv, v2, us2, rfl, hv2, hus⟩ := hv
  have e1 : v = .string (B s) := hv
  have e2 : v2 = .string (B p) := hv2
  have e3 : us2 = [] := hus
  subst e1 e2 e3
  refine (Tryz.strings_CutPrefix (B s) (B p) w).mono ?_
  rintro e w' ⟨rfl, rfl⟩
  refine ⟨_, rfl, Go.RowKit.Below.refl _ _, fun _ _ => ⟨[_, _], rfl, _, _, rfl, ?_, _, _, rfl, ?_, rfl⟩⟩
  · show Value.string _ = _
    rw [B_data, B_data]; rfl
  · show Value.bool _ = _
    rw [B_data, B_data]

theorem atoi_end (l : List UInt8) : (atoiOk l = true ∧ Lib.atoiAll l = .ok (atoiV l)) ∨ (atoiOk l = false ∧ Lib.atoiAll l = .syntax ∧ atoiV l = 0) ∨ (atoiOk l = false ∧ Lib.atoiAll l = .range ∧ atoiV l = Lib.atoiSat l) := by
  unfold atoiOk atoiV
  cases h : Lib.atoiAll l
  · exact .inl ⟨rfl, rfl⟩
  · exact .inr (.inl ⟨rfl, rfl, rfl⟩)
  · exact .inr (.inr ⟨rfl, rfl, rfl⟩)
theorem Atoi_ok (l : List UInt8) (hl : l.length ≤ 281474976710656) (h : atoiOk l = true) : VFn Tryz.prog 228 [.str (B l)] (.tup [.int .i64 (atoiV l), .niliface]) := by
  have h' : Lib.atoiAll (B l).data.toList = .ok (atoiV l) := by
    rw [B_data]
    rcases atoi_end l with h1 | h1 | h1
    · exact h1.2
    · rw [h] at h1; cases h1.1
    · rw [h] at h1; cases h1.1
  refine VFn.lib Tryz.call228 fun w ok vs hJ hok hv => ?_
  obtain ⟨v, us, rfl, hv, hus⟩ := hv
  have e1 : v = .string (B l) := hv
  have e3 : us = [] := hus
  subst e1 e3
  refine (Tryz.strconv_Atoi_ok (B l) (by rw [B_size]; omega) (atoiV l) h' w).mono ?_
  rintro e w' ⟨rfl, hw⟩
  refine ⟨_, rfl, ?_, fun _ _ => ⟨[_, _], rfl, _, _, rfl, rfl, _, _, rfl, rfl, rfl⟩⟩
  rcases hw with rfl | ⟨t, rfl⟩
  · exact Go.RowKit.Below.refl _ _
  · exact Go.Lib.bytesWorld_below _ _ _
theorem Atoi_no (l : List UInt8) (hl : l.length ≤ 281474976710656) (h : atoiOk l = false) : VFn Tryz.prog 228 [.str (B l)] (.tup [.int .i64 (atoiV l), .iface 325 .any]) := by
  refine VFn.lib Tryz.call228 fun w ok vs hJ hok hv => ?_
  obtain ⟨v, us, rfl, hv, hus⟩ := hv
  have e1 : v = .string (B l) := hv
  have e3 : us = [] := hus
  subst e1 e3
  rcases atoi_end l with h1 | ⟨_, h1, h2⟩ | ⟨_, h1, h2⟩
  · rw [h] at h1; cases h1.1
  · obtain ⟨tp, p, hv⟩ := tab_syntax hJ
    refine (Tryz.strconv_Atoi_syntax_var (B l) (by rw [B_size]; omega) (by rw [B_data]; exact h1) tp p w hv).mono ?_
    rintro e w' ⟨N, rfl, _, _, bel⟩
    refine ⟨_, rfl, bel, fun _ _ => ⟨[_, _], rfl, _, _, rfl, ?_, _, _, rfl, ⟨_, rfl, trivial⟩, rfl⟩⟩
    rw [h2]; rfl
  · obtain ⟨tp, p, hv⟩ := tab_range hJ
    refine (Tryz.strconv_Atoi_range_var (B l) (by rw [B_size]; omega) (by rw [B_data]; exact h1) tp p w hv).mono ?_
    rintro e w' ⟨N, rfl, _, _, bel⟩
    refine ⟨_, rfl, bel, fun _ _ => ⟨[_, _], rfl, _, _, rfl, ?_, _, _, rfl, ⟨_, rfl, trivial⟩, rfl⟩⟩
    rw [h2, ← B_data l]; rfl
end Go.Proofs.YtcpedmcomfimpaaGreatDoor
set_option linter.unusedVariables false
set_option linter.constructorNameAsVariable false
set_option linter.unusedSimpArgs false
set_option maxRecDepth 20000
namespace Go.Proofs.YtcpedmcomfimpaaGreatDoor
open Go Go.Vw

theorem six_fn (n : Int) (h : within n 0 999999 = true) : VFn Tryz.prog 143 [.int .i64 n] (.str (B (six6 n.toNat))) := by
  have hb : 0 ≤ n ∧ n ≤ 999999 := by simpa [within] using h
  have e : 1000000 + n = 1000000 + ((n.toNat : Nat) : Int) := by omega
  have hi := itoa_million (n := n.toNat) (by omega)
  refine VFn.introC Tryz.call143 Tryz.func143 rfl rfl ?_
  refine And.intro (inI64 (by omega) (by omega)) ?_
  conv => whnf
  refine CallC.sca _ (Itoa_fn (1000000 + n) (by omega) (by omega)) ?_ ?_
  · exact rfl
  conv => whnf
  refine And.intro ?_ ?_
  · refine ⟨by omega, ?_⟩
    rw [B_size, e, hi]; simp [six6_len]
  refine And.intro trivial (AVle.of_eq (congrArg AV.str ?_))
  rw [B_extract, B_size, e, hi]; rfl
theorem isSix_fn (n : Int) : VFn Tryz.prog 62 [.int .i64 n] (.bool (within n 0 999999)) := by
  refine VFn.introC Tryz.call62 Tryz.func62 rfl rfl ?_
  conv => whnf
  refine CallC.sca _ (within_fn _ _ _) ?_ ?_
  · exact rfl
  exact And.intro trivial (AVle.refl _)
theorem atoi_yes {l : List UInt8} (hl : l.length = 6) (h : l.all dig = true) : atoiOk l = true ∧ atoiV l = numB 0 l ∧ within (atoiV l) 0 999999 = true ∧ six6 (atoiV l).toNat = l := by
  have h1 := atoi_dig (by intro e; subst e; cases hl) (by omega) h
  have h2 := six6_numB hl h
  have h3 : atoiV l = numB 0 l := by unfold atoiV; rw [h1]
  refine ⟨by unfold atoiOk; rw [h1], h3, ?_, ?_⟩
  · rw [h3]; simp [within]; omega
  · rw [h3]; exact h2.2
theorem readSix_fn (l : List UInt8) (hl : l.length = 6) : VFn Tryz.prog 145 [.str (B l)] (.tup [.int .i64 (atoiV l), .bool (l.all dig)]) := by
  refine VFn.introC Tryz.call145 Tryz.func145 rfl rfl ?_
  by_cases hd : l.all dig = true
  · obtain ⟨h1, h2, h3, h4⟩ := atoi_yes hl hd
    conv => whnf
    refine CallC.sca _ (Atoi_ok l (by omega) h1) ?_ ?_
    · exact rfl
    conv => whnf
    refine CallC.sca _ (isSix_fn _) ?_ ?_
    · exact rfl
    refine Grd.intro (fun h => ?_) (fun h => absurd (h.symm.trans h3) (by simp))
    conv => whnf
    refine CallC.sca _ (six_fn _ h3) ?_ ?_
    · exact rfl
    refine And.intro trivial (AVle.of_eq (show AV.tup [AV.int .i64 (atoiV l), AV.bool ((B (six6 (atoiV l).toNat)).toList == (B l).toList)] = _ from ?_))
    rw [B_eq, hd, h4]; simp
  · have hd' : l.all dig = false := by simpa using hd
    by_cases ho : atoiOk l = true
    · conv => whnf
      refine CallC.sca _ (Atoi_ok l (by omega) ho) ?_ ?_
      · exact rfl
      conv => whnf
      refine CallC.sca _ (isSix_fn _) ?_ ?_
      · exact rfl
      refine Grd.intro (fun h => ?_) (fun h => ?_)
      · conv => whnf
        refine CallC.sca _ (six_fn _ h) ?_ ?_
        · exact rfl
        refine And.intro trivial (AVle.of_eq (show AV.tup [AV.int .i64 (atoiV l), AV.bool ((B (six6 (atoiV l).toNat)).toList == (B l).toList)] = _ from ?_))
        have : ¬ six6 (atoiV l).toNat = l := fun e => hd (by rw [← e]; exact six6_dig _)
        rw [B_eq, hd']; simp [this]
      · rw [hd']
        exact And.intro trivial (AVle.refl _)
    · conv => whnf
      refine CallC.sca _ (Atoi_no l (by omega) (by simpa using ho)) ?_ ?_
      · exact rfl
      rw [hd']
      exact And.intro trivial (AVle.refl _)
theorem dataPrefixes_fn : VFn Tryz.prog 142 [] (txts [pre 0, pre 1, pre 2]) := by
  refine VFn.introC Tryz.call142 Tryz.func142 rfl rfl ?_
  refine And.intro trivial (AVle.sl rfl fun i hi => ?_)
  have : i = 0 ∨ i = 1 ∨ i = 2 := by omega
  rcases this with rfl | rfl | rfl <;> rfl
theorem readSix_at {s : ByteArray} {l : List UInt8} (e : s = B l) (hl : l.length = 6) : VFn Tryz.prog 145 [.str s] (.tup [.int .i64 (atoiV l), .bool (l.all dig)]) := by
  subst e; exact readSix_fn l hl
theorem readDataKey_fn (k : List UInt8) : VFn Tryz.prog 64 [.str (B k)] (.tup [.int .i64 (kT k), .int .i64 (kN k), .int .i64 (kW k), .bool (kOk k)]) := by
  refine VFn.introC Tryz.call64 Tryz.func64 rfl rfl ?_
  conv => whnf
  refine CallC.nl _ (dataPrefixes_fn) ?_ ?_
  · exact rfl
  refine LoopC.mk (fun i : Nat => i ≤ 3 ∧ ∀ j, j < i → tryK j k = none) (fun i => [(0, .str (B k)), (14, txts [pre 0, pre 1, pre 2]), (15, .int .i64 3), (16, .int .i64 i)]) (fun _ => []) 0 (fun i => 3 - i) 0
    ⟨⟨by omega, fun j hj => absurd hj (by omega)⟩, [], rfl, rfl, ⟨AVle.refl _, AVle.refl _, AVle.refl _, AVle.refl _, trivial⟩, trivial⟩ ?_
  intro i hi
  refine Grd.intro (fun h2 => ?_) (fun h2 => ?_)
  · have hin : i < 3 := by have := of_decide_eq_true h2; omega
    have hp : ix [pre 0, pre 1, pre 2] i = pre i := by
      have : i = 0 ∨ i = 1 ∨ i = 2 := by omega
      rcases this with rfl | rfl | rfl <;> rfl
    have hnext : tryK i k = none → ∀ j, j < i + 1 → tryK j k = none := fun h j hj => by
      rcases Nat.lt_or_ge j i with h' | h'
      · exact hi.2 j h'
      · rw [show j = i by omega]; exact h
    conv => whnf
    refine And.intro ⟨by omega, by show (i : Int) < ((3 : Nat) : Int); omega⟩ ?_
    conv => whnf
    refine CallC.sca _ (CutPrefix_fn k (ix [pre 0, pre 1, pre 2] i)) ?_ ?_
    · exact rfl
    have ht : Lib.hasPrefix k (ix [pre 0, pre 1, pre 2] i) = true → Lib.trimPrefix k (ix [pre 0, pre 1, pre 2] i) = k.drop (pre i).length := fun h => by
      unfold Lib.trimPrefix; rw [if_pos h, hp]
    have h0 : Lib.hasPrefix k (ix [pre 0, pre 1, pre 2] i) = false → tryK i k = none := fun h => by
      unfold tryK; rw [← hp, h]; rfl
    have h1 : Lib.hasPrefix k (ix [pre 0, pre 1, pre 2] i) = true → tryK i k = restK i (k.drop (pre i).length) := fun h => by
      rw [hp] at h; unfold tryK; rw [if_pos h]
    generalize Lib.hasPrefix k (ix [pre 0, pre 1, pre 2] i) = hP at h0 h1 ht
    generalize hr : Lib.trimPrefix k (ix [pre 0, pre 1, pre 2] i) = r at ht
    refine Grd.intro (fun h3 => ?_) (fun h3 => ?_)
    · have hr' := ht h3
      have h1' := h1 h3
      rw [← hr'] at h1'
      have hfail : restK i r = none → ∀ j, j < i + 1 → tryK j k = none := fun h => hnext (h1'.trans h)
      refine Grd.intro (fun h4 => ?_) (fun h4 => ?_)
      · have h13 : r.length = 13 := by have := of_decide_eq_true h4; rw [B_size] at this; omega
        refine And.intro ⟨by omega, by rw [B_size]; omega⟩ ?_
        refine Grd.intro (fun h5 => ?_) (fun h5 => ?_)
        · have h6 : ix r 6 = 45 := by
            have h : ((r.getD 6 0).toNat : Int) = 45 := of_decide_eq_true h5
            exact UInt8.toNat_inj.1 (by show (r.getD 6 0).toNat = 45; omega)
          have hA : (B r).extract 0 6 = B (r.take 6) := by rw [B_extract]; rfl
          have hB : (B r).extract 7 (B r).size = B (r.drop 7) := by rw [B_extract, B_size, h13, List.take_of_length_le (by simp; omega)]
          have hlA : (r.take 6).length = 6 := by simp; omega
          have hlB : (r.drop 7).length = 6 := by simp; omega
          conv => whnf
          refine And.intro ⟨by omega, by rw [B_size]; omega⟩ ?_
          conv => whnf
          refine CallC.sca _ (readSix_at hA hlA) ?_ ?_
          · exact rfl
          conv => whnf
          refine And.intro ⟨by omega, by rw [B_size]; omega⟩ ?_
          conv => whnf
          refine CallC.sca _ (readSix_at hB hlB) ?_ ?_
          · exact rfl
          refine Grd.intro (fun h7 => ?_) (fun h7 => ?_)
          · refine Grd.intro (fun h8 => ?_) (fun h8 => ?_)
            · have hs : restK i r = some (i, numB 0 (r.take 6), numB 0 (r.drop 7)) := by
                unfold restK; rw [if_pos ⟨h13, h6, h7, h8⟩]
              have hk := tryK_parse hin (h1'.trans hs)
              refine And.intro trivial (AVle.of_eq (show AV.tup [AV.int .i64 i, AV.int .i64 (atoiV (r.take 6)), AV.int .i64 (atoiV (r.drop 7)), AV.bool true] = _ from ?_))
              unfold kT kN kW kOk
              rw [hk, (atoi_yes hlA h7).2.1, (atoi_yes hlB h8).2.1]; rfl
            · have := hfail (by unfold restK; rw [if_neg (fun h => absurd (h.2.2.2.symm.trans h8) (by simp))])
              refine And.intro (inI64 (by omega) (by omega)) ?_
              exact ⟨i + 1, ⟨by omega, this⟩, by omega, [], rfl, rfl, ⟨AVle.refl _, AVle.refl _, AVle.refl _, AVle.of_eq (congrArg (AV.int .i64) (by simp)), trivial⟩, trivial⟩
          · have := hfail (by unfold restK; rw [if_neg (fun h => absurd (h.2.2.1.symm.trans h7) (by simp))])
            refine And.intro (inI64 (by omega) (by omega)) ?_
            exact ⟨i + 1, ⟨by omega, this⟩, by omega, [], rfl, rfl, ⟨AVle.refl _, AVle.refl _, AVle.refl _, AVle.of_eq (congrArg (AV.int .i64) (by simp)), trivial⟩, trivial⟩
        · have := hfail (by
            unfold restK; rw [if_neg]
            rintro ⟨_, h6, _⟩
            have h : ¬ ((r.getD 6 0).toNat : Int) = 45 := of_decide_eq_false h5
            exact h (by rw [show r.getD 6 0 = 45 from h6]; rfl))
          refine And.intro (inI64 (by omega) (by omega)) ?_
          exact ⟨i + 1, ⟨by omega, this⟩, by omega, [], rfl, rfl, ⟨AVle.refl _, AVle.refl _, AVle.refl _, AVle.of_eq (congrArg (AV.int .i64) (by simp)), trivial⟩, trivial⟩
      · have h13 : ¬ r.length = 13 := by have := of_decide_eq_false h4; rw [B_size] at this; omega
        have := hfail (by unfold restK; rw [if_neg (fun h => h13 h.1)])
        refine And.intro (inI64 (by omega) (by omega)) ?_
        exact ⟨i + 1, ⟨by omega, this⟩, by omega, [], rfl, rfl, ⟨AVle.refl _, AVle.refl _, AVle.refl _, AVle.of_eq (congrArg (AV.int .i64) (by simp)), trivial⟩, trivial⟩
    · have := hnext (h0 (by simpa using h3))
      refine And.intro (inI64 (by omega) (by omega)) ?_
      exact ⟨i + 1, ⟨by omega, this⟩, by omega, [], rfl, rfl, ⟨AVle.refl _, AVle.refl _, AVle.refl _, AVle.of_eq (congrArg (AV.int .i64) (by simp)), trivial⟩, trivial⟩
  · have h3 : i = 3 := by have := of_decide_eq_false h2; omega
    subst h3
    have hk := parse_none hi.2
    refine And.intro trivial (AVle.of_eq (show AV.tup [AV.int .i64 0, AV.int .i64 0, AV.int .i64 0, AV.bool false] = _ from ?_))
    unfold kT kN kW kOk
    rw [hk]; rfl
end Go.Proofs.YtcpedmcomfimpaaGreatDoor
