/- Texts: digits, numbers joined, the first code that applies: contracts; the conditions are the theorems' own. -/
import Derived.Test.YtpfmfdioonjccaaGreatDoorGT
set_option linter.unusedVariables false
set_option linter.constructorNameAsVariable false
set_option linter.unusedSimpArgs false
set_option maxRecDepth 20000
namespace Go.Proofs.YtpfmfdioonjccaaGreatDoor
open Go Go.Vw

theorem Itoa_fn (n : Int) (h0 : -9223372036854775808 ≤ n) (h1 : n ≤ 9223372036854775807) : VFn Tryz.prog 318 [.int .i64 n] (.str (B (Lib.itoa n))) := by
  refine VFn.lib Tryz.call318 fun w ok vs hJ hok hv => ?_
  obtain ⟨v, us, rfl, hv, hus⟩ := hv
  have e1 : v = .int .i64 n := hv
  have e2 : us = [] := hus
  subst e1 e2
  refine (Tryz.strconv_Itoa n h0 h1 w (tab_pow10 hJ)).mono ?_
  rintro e w' ⟨rfl, k, os, rfl⟩
  exact ⟨_, rfl, Go.Lib.below_grow _ _ (Nat.le_refl _) k os, fun _ _ => rfl⟩

/-- texts in a slice -/
abbrev txts (L : List (List UInt8)) : AV := .sl 1 L.length fun i => [.str (B (ix L i))]
theorem map_B (L : List (List UInt8)) : (L.map B).map (fun x : ByteArray => x.data.toList) = L := by
  rw [List.map_map]
  exact (List.map_congr_left fun x _ => B_data x).trans (List.map_id' L)
theorem Join_fn (L : List (List UInt8)) (sep : List UInt8) (hlen : (Lib.join L sep).length ≤ 140737488355328) (hn : L.length ≤ 140737488355328) :
    VFn Tryz.prog 319 [txts L, .str (B sep)] (.str (B (Lib.join L sep))) := by
  refine VFn.lib Tryz.call319 fun w ok vs hJ hok hv => ?_
  obtain ⟨v, us, rfl, hv, v2, us2, rfl, hv2, hus⟩ := hv
  obtain ⟨A, c, rfl, hc, hr⟩ := hv
  have e1 : v2 = .string (B sep) := hv2
  have e2 : us2 = [] := hus
  subst e1 e2
  rcases Nat.eq_zero_or_pos L.length with h0 | hpos
  · have : L = [] := List.eq_nil_of_length_eq_zero h0
    subst this
    refine (Tryz.strings_Join_none A c (B sep) w).mono ?_
    rintro e w' ⟨rfl, rfl⟩
    exact ⟨_, rfl, Go.RowKit.Below.refl _ _, fun _ _ => rfl⟩
  · rcases hr with hr | ⟨b, o, rfl, hb, hr⟩
    · omega
    · have hsep : (B sep).data.toList = sep := B_data sep
      have := Tryz.strings_Join b o c (L.map B) (B sep) w (fun j x hx => ?_) (hok b hb) (by simp; omega) (by simpa using hc) (by rw [map_B, hsep]; exact hlen)
      · rw [map_B, hsep, List.length_map] at this
        refine this.mono ?_
        rintro e w' ⟨rfl, hbel⟩
        exact ⟨_, rfl, hbel, fun _ _ => rfl⟩
      · have hj : j < L.length := by
          rcases Nat.lt_or_ge j L.length with h | h
          · exact h
          · rw [List.getElem?_eq_none (by simpa using h)] at hx; cases hx
        have hx' : x = B (ix L j) := by simp [hj] at hx; rw [ix_lt hj, hx]
        subst hx'
        obtain ⟨ws, hl, hrv, hcell⟩ := hr j hj
        obtain ⟨u, us, rfl, h1, h2⟩ := hrv
        have e1 : u = .string (B (ix L j)) := h1
        have := hcell 0 (by omega)
        simp only [Nat.mul_one, Nat.add_zero, List.getElem?_cons_zero] at this
        rw [this, e1]

theorem one_digit {n : Int} {k : Nat} (h : n = 48 + k) (hk : k < 10) : strOfNums [n] = B [UInt8.ofNat (48 + k)] := by
  subst h
  have : (48 + (k : Int)).toNat = 48 + k := by omega
  simp [strOfNums, B, this]

theorem digits_nat : ∀ (u : Nat), u ≤ 9223372036854775807 → VFn Tryz.prog 232 [.int .i64 (u : Int)] (.str (B (Lib.decDigits u))) := by
  intro u
  induction u using Nat.strongRecOn with
  | _ u ih =>
    intro hu
    refine VFn.introC Tryz.call232 Tryz.func232 rfl rfl ?_
    refine Grd.intro (fun h1 => ?_) (fun h1 => ?_)
    · have h10 : u < 10 := by simp at h1; omega
      refine And.intro (inI64 (by omega) (by omega)) ?_
      refine And.intro (show inI .u8 (48 + (u : Int)) from ⟨show (0 : Int) ≤ _ by omega, show _ ≤ (255 : Int) by omega⟩) ?_
      refine And.intro (fun i hi => ?_) ?_
      · have : i = 0 := by omega
        subst this; rfl
      exact And.intro trivial (AVle.of_eq (congrArg AV.str (show strOfNums [48 + (u : Int)] = B (Lib.decDigits u) by rw [one_digit rfl h10, Lib.decDigits, dif_pos h10])))
    · have h10 : ¬ u < 10 := by simp at h1; omega
      have hd : (u : Int).tdiv 10 = ((u / 10 : Nat) : Int) := by rw [Int.tdiv_eq_ediv_of_nonneg (by omega)]; simp
      have hm : (u : Int).tmod 10 = ((u % 10 : Nat) : Int) := by rw [Int.tmod_eq_emod_of_nonneg (by omega)]; simp
      refine DrawC.mk 11 rfl (by kernel_rfl) ?_
      refine And.intro ⟨by decide, by rw [hd]; exact inI64 (by omega) (by omega)⟩ ?_
      refine PCallC.sca (.str (B (Lib.decDigits (u / 10)))) (show VFn Tryz.prog 232 [.int .i64 ((u : Int).tdiv 10)] _ from hd ▸ ih (u / 10) (by omega) (by omega)) rfl ?_
      refine And.intro (by decide) ?_
      refine And.intro (inI64 (by omega) (by omega)) ?_
      refine And.intro (show inI .u8 (48 + (u : Int).tmod 10) from ⟨show (0 : Int) ≤ _ by omega, show _ ≤ (255 : Int) by omega⟩) ?_
      refine And.intro (fun i hi => ?_) ?_
      · have : i = 0 := by omega
        subst this; rfl
      have hl := dd_len 19 (u / 10) (by simp; omega)
      refine And.intro (show (((B (Lib.decDigits (u / 10))).size + (strOfNums [48 + (u : Int).tmod 10]).size : Nat) : Int) ≤ 9223372036854775807 by rw [B_size, strOfNums_size]; simp; omega) ?_
      exact And.intro trivial (AVle.of_eq (congrArg AV.str (show B (Lib.decDigits (u / 10)) ++ strOfNums [48 + (u : Int).tmod 10] = B (Lib.decDigits u) by
        rw [one_digit (k := u % 10) (by rw [hm]) (by omega), B_app]; conv => rhs; rw [Lib.decDigits, dif_neg h10])))

theorem digits_fn (n : Int) (h0 : -9223372036854775807 ≤ n) (h1 : n ≤ 9223372036854775807) : VFn Tryz.prog 232 [.int .i64 n] (.str (B (Lib.itoa n))) := by
  by_cases hn : n < 0
  · obtain ⟨u, rfl⟩ : ∃ u : Nat, n = -(u : Int) := ⟨n.natAbs, by omega⟩
    refine VFn.introC Tryz.call232 Tryz.func232 rfl rfl ?_
    refine Grd.intro (fun h => absurd (of_decide_eq_true h) (by omega)) (fun _ => ?_)
    refine Grd.intro (fun _ => ?_) (fun h => absurd (of_decide_eq_false h) (by omega))
    refine And.intro (inI64 (by omega) (by omega)) ?_
    have hneg : - -(u : Int) = u := by omega
    refine CallC.sca (.str (B (Lib.decDigits u))) (show VFn Tryz.prog 232 [.int .i64 (- -(u : Int))] _ from hneg.symm ▸ digits_nat u (by omega)) rfl ?_
    have hl := dd_len 19 u (by simp; omega)
    refine And.intro (show (((B [45]).size + (B (Lib.decDigits u)).size : Nat) : Int) ≤ 9223372036854775807 by rw [B_size, B_size]; simp; omega) ?_
    exact And.intro trivial (AVle.of_eq (congrArg AV.str (show B [45] ++ B (Lib.decDigits u) = B (Lib.itoa (-(u : Int))) by rw [B_app, Lib.itoa_neg u (by omega)]; rfl)))
  · obtain ⟨u, rfl⟩ : ∃ u : Nat, n = (u : Int) := ⟨n.toNat, by omega⟩
    rw [Lib.itoa_nonneg]
    exact digits_nat u (by omega)

theorem join_snoc (s y : List UInt8) : ∀ l : List (List UInt8), l ≠ [] → Lib.join (l ++ [y]) s = Lib.join l s ++ (s ++ y)
  | [], h => absurd rfl h
  | x :: r, _ => by
    rw [List.cons_append, Lib.join_cons, Lib.join_cons]
    simp [Lib.joinTail]
theorem join_take {L : List (List UInt8)} {s : List UInt8} {i : Nat} (h : i < L.length) :
    Lib.join (L.take (i + 1)) s = (if 0 < i then Lib.join (L.take i) s ++ s else Lib.join (L.take i) s) ++ ix L i := by
  rw [take_snoc h]
  split
  · rename_i h0
    rw [join_snoc _ _ _ (fun e => by have := congrArg List.length e; rw [List.length_take] at this; simp only [List.length_nil] at this; omega), List.append_assoc]
  · have : i = 0 := by omega
    subst this
    simp [Lib.join_one, Lib.join_nil]
theorem join_take_len {L : List (List UInt8)} {s : List UInt8} : ∀ {k i : Nat}, i + k = L.length → (Lib.join (L.take i) s).length ≤ (Lib.join L s).length
  | 0, i, h => by rw [List.take_of_length_le (by omega)]; exact Nat.le_refl _
  | k + 1, i, h => by
    have h1 := join_take_len (L := L) (s := s) (k := k) (i := i + 1) (by omega)
    rw [join_take (by omega)] at h1
    split at h1 <;> simp only [List.length_append] at h1 <;> omega
theorem join_take_le {L : List (List UInt8)} {s : List UInt8} {i : Nat} (h : i ≤ L.length) : (Lib.join (L.take i) s).length ≤ (Lib.join L s).length := join_take_len (k := L.length - i) (by omega)
theorem join_len {m c : Nat} : ∀ {L : List (List UInt8)} {s : List UInt8}, (∀ x ∈ L, x.length ≤ m) → s.length ≤ c → (Lib.join L s).length ≤ (m + c) * L.length := by
  intro L s h hs
  have key : ∀ i, i ≤ L.length → (Lib.join (L.take i) s).length ≤ (m + c) * i := by
    intro i
    induction i with
    | zero => intro _; simp [Lib.join_nil]
    | succ i ih =>
      intro hi
      have := ih (by omega)
      have hx := h _ (getD_mem (L := L) (i := i) (by omega))
      rw [join_take (by omega), Nat.mul_add, Nat.mul_one]
      split <;> simp only [List.length_append] <;> omega
  have := key L.length (Nat.le_refl _)
  rwa [List.take_of_length_le (Nat.le_refl _)] at this

theorem l00Join_fn (L : List (List UInt8)) (s : List UInt8) (hlen : (Lib.join L s).length ≤ 140737488355328) (hn : L.length ≤ 1000000000) :
    VFn Tryz.prog 258 [txts L, .str (B s)] (.str (B (Lib.join L s))) := by
  refine VFn.introC Tryz.call258 Tryz.func258 rfl rfl ?_
  refine LoopC.mk (fun i : Nat => i ≤ L.length) (fun i => [(0, txts L), (1, .str (B s)), (5, .str (B (Lib.join (L.take i) s))), (6, .int .i64 i)]) (fun _ => []) 0 (fun i => L.length - i) 0
    ⟨Nat.zero_le _, [], rfl, rfl, ⟨AVle.refl _, AVle.refl _, AVle.refl _, AVle.refl _, trivial⟩, trivial⟩ ?_
  intro i hi
  refine Grd.intro (fun h2 => ?_) (fun h2 => ?_)
  · have hin : i < L.length := by simp at h2; omega
    have h1 := join_take_le (L := L) (s := s) (i := i + 1) hin
    rw [join_take hin] at h1
    refine Grd.intro (fun h3 => ?_) (fun h3 => ?_)
    · have hp : 0 < i := by simp at h3; omega
      rw [if_pos hp, List.length_append, List.length_append] at h1
      refine And.intro (show (((B (Lib.join (L.take i) s)).size + (B s).size : Nat) : Int) ≤ 9223372036854775807 by rw [B_size, B_size]; omega) ?_
      refine And.intro (by omega) ?_
      refine And.intro (show ((((B (Lib.join (L.take i) s)) ++ (B s)).size + (B (ix L i)).size : Nat) : Int) ≤ 9223372036854775807 by rw [B_app, B_size, B_size, List.length_append]; omega) ?_
      refine And.intro (inI64 (by omega) (by omega)) ?_
      exact ⟨i + 1, hin, by omega, [], rfl, rfl, ⟨AVle.refl _, AVle.refl _, AVle.of_eq (congrArg AV.str (show B (Lib.join (L.take i) s) ++ B s ++ B (ix L i) = B (Lib.join (L.take (i + 1)) s) by rw [B_app, B_app, join_take hin, if_pos hp])), AVle.of_eq (congrArg (AV.int .i64) (by simp)), trivial⟩, trivial⟩
    · have hp : ¬ 0 < i := by simp at h3; omega
      rw [if_neg hp, List.length_append] at h1
      refine And.intro (by omega) ?_
      refine And.intro (show (((B (Lib.join (L.take i) s)).size + (B (ix L i)).size : Nat) : Int) ≤ 9223372036854775807 by rw [B_size, B_size]; omega) ?_
      refine And.intro (inI64 (by omega) (by omega)) ?_
      exact ⟨i + 1, hin, by omega, [], rfl, rfl, ⟨AVle.refl _, AVle.refl _, AVle.of_eq (congrArg AV.str (show B (Lib.join (L.take i) s) ++ B (ix L i) = B (Lib.join (L.take (i + 1)) s) by rw [B_app, join_take hin, if_neg hp])), AVle.of_eq (congrArg (AV.int .i64) (by simp)), trivial⟩, trivial⟩
  · have : i = L.length := by simp at h2; omega
    subst this
    exact And.intro trivial (AVle.of_eq (congrArg AV.str (show B (Lib.join (L.take L.length) s) = _ by rw [List.take_of_length_le (Nat.le_refl _)])))

abbrev ints (N : List Int) : AV := .sl 1 N.length fun i => [.int .i64 (ix N i)]
theorem txts_sp (N : List Int) (i : Nat) : True := trivial
theorem itoas_len {N : List Int} {s : List UInt8} (hN : ∀ x ∈ N, -9223372036854775808 ≤ x ∧ x ≤ 9223372036854775807) {c : Nat} (hs : s.length ≤ c) : (Lib.join (N.map Lib.itoa) s).length ≤ (21 + c) * N.length := by
  have := join_len (m := 21) (c := c) (L := N.map Lib.itoa) (s := s) (fun x hx => by
    obtain ⟨y, hy, rfl⟩ := List.mem_map.1 hx
    exact itoa_len (hN y hy).1 (hN y hy).2) hs
  simpa using this
theorem l02Join_fn (N : List Int) (hn : N.length ≤ 100000000) (hN : ∀ x ∈ N, -9223372036854775807 ≤ x ∧ x ≤ 9223372036854775807) : VFn Tryz.prog 248 [ints N] (.str (B (Lib.join (N.map Lib.itoa) [44]))) := by
  have hlen := itoas_len (s := [44]) (c := 1) (fun x hx => ⟨by have := (hN x hx).1; omega, (hN x hx).2⟩) (by decide)
  refine VFn.introC Tryz.call248 Tryz.func248 rfl rfl ?_
  refine LoopC.mk (fun i : Nat => i ≤ N.length) (fun i => [(0, ints N), (3, .osl 0), (4, .int .i64 i)]) (fun i => [(0, .arr 9 1 ((N.take i).map Lib.itoa).length fun k => [.str (B (ix ((N.take i).map Lib.itoa) k))])]) 1 (fun i => N.length - i) 0
    ⟨Nat.zero_le _, [(0, 0)], rfl, rfl, ⟨AVle.refl _, AVle.refl _, AVle.refl _, trivial⟩, ⟨MOle.arr rfl fun i hi => absurd hi (Nat.not_lt_zero i), trivial⟩⟩ ?_
  intro i hi
  refine Grd.intro (fun h2 => ?_) (fun h2 => ?_)
  · have hin : i < N.length := by simp at h2; omega
    have hNi := hN _ (getD_mem hin)
    refine And.intro (by omega) ?_
    conv => whnf
    refine CallC.sca _ (digits_fn (ix N i) hNi.1 hNi.2) ?_ ?_
    · exact rfl
    refine And.intro ⟨show (((N.take i).map Lib.itoa).length + 1) * 16 ≤ 140737488355328 by simp; omega, all1 rfl⟩ ?_
    refine And.intro (inI64 (by omega) (by omega)) ?_
    refine ⟨i + 1, hin, by omega, [(2, 0)], rfl, rfl, ⟨AVle.refl _, AVle.refl _, AVle.of_eq (congrArg (AV.int .i64) (by simp)), trivial⟩, ⟨?_, trivial⟩⟩
    exact arr_next (f := fun x => [.str (B x)]) (map_take_snoc hin) rfl
  · have : i = N.length := by simp at h2; omega
    subst this
    have e : N.take N.length = N := List.take_of_length_le (Nat.le_refl _)
    rw [e]
    conv => whnf
    refine CallC.sca _ (l00Join_fn (N.map Lib.itoa) [44] (Nat.le_trans hlen (by omega)) (by simp; omega)) ?_ ?_
    · exact rfl
    exact And.intro trivial (AVle.refl _)

/-- what is joined: a number or a text -/
inductive It where
  | n (i : Int)
  | t (s : List UInt8)
instance : Inhabited It := ⟨.n 0⟩
def It.txt : It → List UInt8
  | .n i => Lib.itoa i
  | .t s => s
def It.row : It → List AV
  | .n i => [.iface 3 (.int .i64 i)]
  | .t s => [.iface 9 (.str (B s))]
def It.ok : It → Prop
  | .n i => -9223372036854775808 ≤ i ∧ i ≤ 9223372036854775807
  | .t _ => True
def itRow (L : List It) (i : Nat) : List AV := (ix L i).row
theorem joined_fn (L : List It) (s : List UInt8) (hn : L.length ≤ 100000000) (hok : ∀ x ∈ L, x.ok) (hlen : (Lib.join (L.map It.txt) s).length ≤ 140737488355328) :
    VFn Tryz.prog 251 [.str (B s), .sl 1 L.length (itRow L)] (.str (B (Lib.join (L.map It.txt) s))) := by
  refine VFn.introC Tryz.call251 Tryz.func251 rfl rfl ?_
  refine LoopC.mk (fun i : Nat => i ≤ L.length) (fun i => [(0, .str (B s)), (11, .sl 1 L.length (itRow L)), (12, .int .i64 L.length), (5, .osl 0), (13, .int .i64 i)])
    (fun i => [(0, .arr 9 1 ((L.take i).map It.txt).length fun k => [.str (B (ix ((L.take i).map It.txt) k))])]) 1 (fun i => L.length - i) 0
    ⟨Nat.zero_le _, [(0, 0)], rfl, rfl, ⟨AVle.refl _, AVle.refl _, AVle.refl _, AVle.refl _, AVle.refl _, trivial⟩, ⟨MOle.arr rfl fun i hi => absurd hi (Nat.not_lt_zero i), trivial⟩⟩ ?_
  intro i hi
  refine Grd.intro (fun h2 => ?_) (fun h2 => ?_)
  · have hin : i < L.length := by simp at h2; omega
    have hx := hok _ (getD_mem hin)
    have hrow : itRow L (Int.toNat (i : Int)) = (ix L i).row := rfl
    have htake := take_snoc hin
    refine And.intro (by omega) ?_
    generalize ix L i = x at hx hrow htake
    rw [hrow]
    cases x with
    | n m =>
      conv => whnf
      refine CallC.sca _ (Itoa_fn m hx.1 hx.2) ?_ ?_
      · exact rfl
      refine And.intro ⟨show (((L.take i).map It.txt).length + 1) * 16 ≤ 140737488355328 by simp; omega, all1 rfl⟩ ?_
      refine And.intro (inI64 (by omega) (by omega)) ?_
      refine ⟨i + 1, hin, by omega, [(2, 0)], rfl, rfl, ⟨AVle.refl _, AVle.refl _, AVle.refl _, AVle.refl _, AVle.of_eq (congrArg (AV.int .i64) (by simp)), trivial⟩, ⟨?_, trivial⟩⟩
      exact arr_next (f := fun x => [.str (B x)]) (by rw [htake, List.map_append]; rfl) rfl
    | t m =>
      refine And.intro ⟨show (((L.take i).map It.txt).length + 1) * 16 ≤ 140737488355328 by simp; omega, all1 rfl⟩ ?_
      refine And.intro (inI64 (by omega) (by omega)) ?_
      refine ⟨i + 1, hin, by omega, [(2, 0)], rfl, rfl, ⟨AVle.refl _, AVle.refl _, AVle.refl _, AVle.refl _, AVle.of_eq (congrArg (AV.int .i64) (by simp)), trivial⟩, ⟨?_, trivial⟩⟩
      exact arr_next (f := fun x => [.str (B x)]) (by rw [htake, List.map_append]; rfl) rfl
  · have : i = L.length := by simp at h2; omega
    subst this
    have e : L.take L.length = L := List.take_of_length_le (Nat.le_refl _)
    rw [e]
    conv => whnf
    refine CallC.sca _ (Join_fn (L.map It.txt) s hlen (by simp; omega)) ?_ ?_
    · exact rfl
    exact And.intro trivial (AVle.refl _)
/-- the same at rows written out -/
theorem joined_of (L : List It) {n : Nat} {rows : Nat → List AV} (hr : RowsAre rows 0 (L.map It.row)) (hn : n = L.length) (s : List UInt8) (hl : L.length ≤ 100000000) (hok : ∀ x ∈ L, x.ok) (hlen : (Lib.join (L.map It.txt) s).length ≤ 140737488355328) :
    VFn Tryz.prog 251 [.str (B s), .sl 1 n rows] (.str (B (Lib.join (L.map It.txt) s))) :=
  (joined_fn L s hl hok hlen).weak (AVsle.cons (AVle.refl _) (AVsle.cons (hr.le hn) AVsle.nil)) (AVle.refl _)
theorem said_fn (L : List It) (hn : L.length ≤ 100000000) (hok : ∀ x ∈ L, x.ok) (hlen : (Lib.join (L.map It.txt) [32]).length ≤ 140737488355328) :
    VFn Tryz.prog 233 [.sl 1 L.length (itRow L)] (.str (B (Lib.join (L.map It.txt) [32]))) := by
  refine VFn.introC Tryz.call233 Tryz.func233 rfl rfl ?_
  conv => whnf
  refine CallC.sca _ (joined_fn L [32] hn hok hlen) ?_ ?_
  · exact rfl
  exact And.intro trivial (AVle.refl _)
theorem said_of (L : List It) {n : Nat} {rows : Nat → List AV} (hr : RowsAre rows 0 (L.map It.row)) (hn : n = L.length) (hl : L.length ≤ 100000000) (hok : ∀ x ∈ L, x.ok) (hlen : (Lib.join (L.map It.txt) [32]).length ≤ 140737488355328) :
    VFn Tryz.prog 233 [.sl 1 n rows] (.str (B (Lib.join (L.map It.txt) [32]))) :=
  (said_fn L hl hok hlen).weak (AVsle.cons (hr.le hn) AVsle.nil) (AVle.refl _)
end Go.Proofs.YtpfmfdioonjccaaGreatDoor
