/- Contracts of functions that the claim reaches, and the plain law of what they compute; each theorem bears its own conditions. -/
import Derived.Test.YtigbaclopbcjnaaGreatDoorV52
import Derived.Test.YtigbaclopbcjnaaGreatDoorSh
import Derived.Test.YtigbaclopbcjnaaGreatDoorProg
import Derived.Lib.Join
set_option linter.unusedVariables false
set_option linter.constructorNameAsVariable false
set_option linter.unusedSimpArgs false
set_option maxRecDepth 20000
namespace Go.Proofs.YtigbaclopbcjnaaGreatDoor
open Go Go.Vw
instance : Tabs Tryz.prog := Tabs.and (Tabs.one 3 "internal/strconv.uint64pow10" .u64 Lib.pow10Tab (by kernel_rfl))
 (Tabs.and (Tabs.err 1 "strconv.ErrSyntax" (by kernel_rfl)) (Tabs.and (Tabs.err 2 "strconv.ErrRange" (by kernel_rfl)) (Tabs.num 0)))
theorem tab_pow10 {w : World} (h : Tabs.J Tryz.prog w) : Lib.TabIs Tryz.prog w "internal/strconv.uint64pow10" .u64 Lib.pow10Tab := h.1
theorem tab_syntax {w : World} (h : Tabs.J Tryz.prog w) : HasErr Tryz.prog "strconv.ErrSyntax" w := h.2.1
theorem tab_range {w : World} (h : Tabs.J Tryz.prog w) : HasErr Tryz.prog "strconv.ErrRange" w := h.2.2.1
theorem tab_maxlen {w : World} (h : Tabs.J Tryz.prog w) : HasInt 0 w := h.2.2.2
theorem Itoa_fn (n : Int) (h0 : -9223372036854775808 ≤ n) (h1 : n ≤ 9223372036854775807) : VFn Tryz.prog 151 [.int .i64 n] (.str (B (Lib.itoa n))) := by
 refine VFn.lib Tryz.call151 fun w ok vs hJ hok hv => ?_
 obtain ⟨v, us, rfl, hv, hus⟩ := hv
 have e1 : v = .int .i64 n := hv
 have e2 : us = [] := hus
 subst e1 e2
 refine (Tryz.strconv_Itoa n h0 h1 w (tab_pow10 hJ)).mono ?_
 rintro e w' ⟨rfl, k, os, rfl⟩
 exact ⟨_, rfl, Go.Lib.below_grow _ _ (Nat.le_refl _) k os, fun _ _ => rfl⟩
abbrev txts (L : List (List UInt8)) : AV := .sl 1 L.length fun i => [.str (B (ix L i))]
theorem map_B (L : List (List UInt8)) : (L.map B).map (fun x : ByteArray => x.data.toList) = L := by
 rw [List.map_map]
 exact (List.map_congr_left fun x _ => B_data x).trans (List.map_id' L)
theorem Join_fn (L : List (List UInt8)) (sep : List UInt8) (hlen : (Lib.join L sep).length ≤ 140737488355328) (hn : L.length ≤ 140737488355328) :
 VFn Tryz.prog 161 [txts L, .str (B sep)] (.str (B (Lib.join L sep))) := by
 refine VFn.lib Tryz.call161 fun w ok vs hJ hok hv => ?_
 obtain ⟨v, us, rfl, hv, v2, us2, rfl, hv2, hus⟩ := hv
 obtain ⟨A, c, rfl, hc, hr⟩ := hv
 have e1 : v2 = .string (B sep) := hv2
 have e2 : us2 = [] := hus
 subst e1 e2
 rcases Nat.eq_zero_or_pos L.length with h0 | hpos
 · have : L = [] := List.eq_nil_of_length_eq_zero h0
   subst this
   refine (Tryz.strings_Join_none A c (B sep) w).mono ?_
   rintro e w' ⟨rfl, rfl⟩
   exact ⟨_, rfl, Go.RowKit.Below.refl _ _, fun _ _ => rfl⟩
 · rcases hr with hr | ⟨b, o, rfl, hb, hr⟩
   · omega
   · have hsep : (B sep).data.toList = sep := B_data sep
     have := Tryz.strings_Join b o c (L.map B) (B sep) w (fun j x hx => ?_) (hok b hb) (by simp; omega) (by simpa using hc) (by rw [map_B, hsep]; exact hlen)
     · rw [map_B, hsep, List.length_map] at this
       refine this.mono ?_
       rintro e w' ⟨rfl, hbel⟩
       exact ⟨_, rfl, hbel, fun _ _ => rfl⟩
     · have hj : j < L.length := by
        rcases Nat.lt_or_ge j L.length with h | h
        · exact h
        · rw [List.getElem?_eq_none (by simpa using h)] at hx; cases hx
       have hx' : x = B (ix L j) := by simp [hj] at hx; rw [ix_lt hj, hx]
       subst hx'
       obtain ⟨ws, hl, hrv, hcell⟩ := hr j hj
       obtain ⟨u, us, rfl, h1, h2⟩ := hrv
       have e1 : u = .string (B (ix L j)) := h1
       have := hcell 0 (by omega)
       simp only [Nat.mul_one, Nat.add_zero, List.getElem?_cons_zero] at this
       rw [this, e1]
theorem one_digit {n : Int} {k : Nat} (h : n = 48 + k) (hk : k < 10) : strOfNums [n] = B [UInt8.ofNat (48 + k)] := by
 subst h
 have : (48 + (k : Int)).toNat = 48 + k := by omega
 simp [strOfNums, B, this]
theorem digits_nat : ∀ (u : Nat), u ≤ 9223372036854775807 → VFn Tryz.prog 110 [.int .i64 (u : Int)] (.str (B (Lib.decDigits u))) := by
 intro u
 induction u using Nat.strongRecOn with
 | _ u ih =>
   intro hu
   refine VFn.introC Tryz.call110 Tryz.func110 rfl rfl ?_
   refine Grd.intro (fun h1 => ?_) (fun h1 => ?_)
   · have h10 : u < 10 := by simp at h1; omega
     refine And.intro (inI64 (by omega) (by omega)) ?_
     refine And.intro (show inI .u8 (48 + (u : Int)) from ⟨show (0 : Int) ≤ _ by omega, show _ ≤ (255 : Int) by omega⟩) ?_
     refine And.intro (fun i hi => ?_) ?_
     · have : i = 0 := by omega
       subst this; rfl
     exact And.intro trivial (AVle.of_eq (congrArg AV.str (show strOfNums [48 + (u : Int)] = B (Lib.decDigits u) by rw [one_digit rfl h10, Lib.decDigits, dif_pos h10])))
   · have h10 : ¬ u < 10 := by simp at h1; omega
     have hd : (u : Int).tdiv 10 = ((u / 10 : Nat) : Int) := by rw [Int.tdiv_eq_ediv_of_nonneg (by omega)]; simp
     have hm : (u : Int).tmod 10 = ((u % 10 : Nat) : Int) := by rw [Int.tmod_eq_emod_of_nonneg (by omega)]; simp
     refine DrawC.mq 11 rfl (by kernel_rfl) ?_
     refine And.intro ⟨by decide, by rw [hd]; exact inI64 (by omega) (by omega)⟩ ?_
     refine PCallQ.sca (.str (B (Lib.decDigits (u / 10)))) (show VFn Tryz.prog 110 [.int .i64 ((u : Int).tdiv 10)] _ from hd ▸ ih (u / 10) (by omega) (by omega)) rfl ?_
     refine And.intro (by decide) ?_
     refine And.intro (inI64 (by omega) (by omega)) ?_
     refine And.intro (show inI .u8 (48 + (u : Int).tmod 10) from ⟨show (0 : Int) ≤ _ by omega, show _ ≤ (255 : Int) by omega⟩) ?_
     refine And.intro (fun i hi => ?_) ?_
     · have : i = 0 := by omega
       subst this; rfl
     have hl := dd_len 19 (u / 10) (by simp; omega)
     refine And.intro (show (((B (Lib.decDigits (u / 10))).size + (strOfNums [48 + (u : Int).tmod 10]).size : Nat) : Int) ≤ 9223372036854775807 by rw [B_size, strOfNums_size]; simp; omega) ?_
     exact And.intro trivial (AVle.of_eq (congrArg AV.str (show B (Lib.decDigits (u / 10)) ++ strOfNums [48 + (u : Int).tmod 10] = B (Lib.decDigits u) by
      rw [one_digit (k := u % 10) (by rw [hm]) (by omega), B_app]; conv => rhs; rw [Lib.decDigits, dif_neg h10])))
theorem digits_fn (n : Int) (h0 : -9223372036854775807 ≤ n) (h1 : n ≤ 9223372036854775807) : VFn Tryz.prog 110 [.int .i64 n] (.str (B (Lib.itoa n))) := by
 by_cases hn : n < 0
 · obtain ⟨u, rfl⟩ : ∃ u : Nat, n = -(u : Int) := ⟨n.natAbs, by omega⟩
   refine VFn.introC Tryz.call110 Tryz.func110 rfl rfl ?_
   refine Grd.intro (fun h => absurd (of_decide_eq_true h) (by omega)) (fun _ => ?_)
   refine Grd.intro (fun _ => ?_) (fun h => absurd (of_decide_eq_false h) (by omega))
   refine And.intro (inI64 (by omega) (by omega)) ?_
   have hneg : - -(u : Int) = u := by omega
   refine CallC.sca (.str (B (Lib.decDigits u))) (show VFn Tryz.prog 110 [.int .i64 (- -(u : Int))] _ from hneg.symm ▸ digits_nat u (by omega)) rfl ?_
   have hl := dd_len 19 u (by simp; omega)
   refine And.intro (show (((B [45]).size + (B (Lib.decDigits u)).size : Nat) : Int) ≤ 9223372036854775807 by rw [B_size, B_size]; simp; omega) ?_
   exact And.intro trivial (AVle.of_eq (congrArg AV.str (show B [45] ++ B (Lib.decDigits u) = B (Lib.itoa (-(u : Int))) by rw [B_app, Lib.itoa_neg u (by omega)]; rfl)))
 · obtain ⟨u, rfl⟩ : ∃ u : Nat, n = (u : Int) := ⟨n.toNat, by omega⟩
   rw [Lib.itoa_nonneg]
   exact digits_nat u (by omega)
theorem join_snoc (s y : List UInt8) : ∀ l : List (List UInt8), l ≠ [] → Lib.join (l ++ [y]) s = Lib.join l s ++ (s ++ y)
 | [], h => absurd rfl h
 | x :: r, _ => by
   rw [List.cons_append, Lib.join_cons, Lib.join_cons]
   simp [Lib.joinTail]
theorem join_take {L : List (List UInt8)} {s : List UInt8} {i : Nat} (h : i < L.length) :
 Lib.join (L.take (i + 1)) s = (if 0 < i then Lib.join (L.take i) s ++ s else Lib.join (L.take i) s) ++ ix L i := by
 rw [take_snoc h]
 split
 · rename_i h0
   rw [join_snoc _ _ _ (fun e => by have := congrArg List.length e; rw [List.length_take] at this; simp only [List.length_nil] at this; omega), List.append_assoc]
 · have : i = 0 := by omega
   subst this
   simp [Lib.join_one, Lib.join_nil]
theorem join_take_len {L : List (List UInt8)} {s : List UInt8} : ∀ {k i : Nat}, i + k = L.length → (Lib.join (L.take i) s).length ≤ (Lib.join L s).length
 | 0, i, h => by rw [List.take_of_length_le (by omega)]; exact Nat.le_refl _
 | k + 1, i, h => by
   have h1 := join_take_len (L := L) (s := s) (k := k) (i := i + 1) (by omega)
   rw [join_take (by omega)] at h1
   split at h1 <;> simp only [List.length_append] at h1 <;> omega
theorem join_take_le {L : List (List UInt8)} {s : List UInt8} {i : Nat} (h : i ≤ L.length) : (Lib.join (L.take i) s).length ≤ (Lib.join L s).length := join_take_len (k := L.length - i) (by omega)
theorem join_len {m c : Nat} : ∀ {L : List (List UInt8)} {s : List UInt8}, (∀ x ∈ L, x.length ≤ m) → s.length ≤ c → (Lib.join L s).length ≤ (m + c) * L.length := by
 intro L s h hs
 have key : ∀ i, i ≤ L.length → (Lib.join (L.take i) s).length ≤ (m + c) * i := by
  intro i
  induction i with
  | zero => intro _; simp [Lib.join_nil]
  | succ i ih =>
    intro hi
    have := ih (by omega)
    have hx := h _ (getD_mem (L := L) (i := i) (by omega))
    rw [join_take (by omega), Nat.mul_add, Nat.mul_one]
    split <;> simp only [List.length_append] <;> omega
 have := key L.length (Nat.le_refl _)
 rwa [List.take_of_length_le (Nat.le_refl _)] at this
theorem l00Join_fn (L : List (List UInt8)) (s : List UInt8) (hlen : (Lib.join L s).length ≤ 140737488355328) (hn : L.length ≤ 1000000000) :
 VFn Tryz.prog 111 [txts L, .str (B s)] (.str (B (Lib.join L s))) := by
 refine VFn.introC Tryz.call111 Tryz.func111 rfl rfl ?_
 refine LoopC.mk (fun i : Nat => i ≤ L.length) (fun i => [(0, txts L), (1, .str (B s)), (5, .str (B (Lib.join (L.take i) s))), (6, .int .i64 i)]) (fun _ => []) 0 (fun i => L.length - i) 0
  ⟨Nat.zero_le _, [], rfl, rfl, ⟨AVle.refl _, AVle.refl _, AVle.refl _, AVle.refl _, trivial⟩, trivial⟩ ?_
 intro i hi
 refine Grd.intro (fun h2 => ?_) (fun h2 => ?_)
 · have hin : i < L.length := by simp at h2; omega
   have h1 := join_take_le (L := L) (s := s) (i := i + 1) hin
   rw [join_take hin] at h1
   refine Grd.intro (fun h3 => ?_) (fun h3 => ?_)
   · have hp : 0 < i := by simp at h3; omega
     rw [if_pos hp, List.length_append, List.length_append] at h1
     refine And.intro (show (((B (Lib.join (L.take i) s)).size + (B s).size : Nat) : Int) ≤ 9223372036854775807 by rw [B_size, B_size]; omega) ?_
     refine And.intro (by omega) ?_
     refine And.intro (show ((((B (Lib.join (L.take i) s)) ++ (B s)).size + (B (ix L i)).size : Nat) : Int) ≤ 9223372036854775807 by rw [B_app, B_size, B_size, List.length_append]; omega) ?_
     refine And.intro (inI64 (by omega) (by omega)) ?_
     exact ⟨i + 1, hin, by omega, [], rfl, rfl, ⟨AVle.refl _, AVle.refl _, AVle.of_eq (congrArg AV.str (show B (Lib.join (L.take i) s) ++ B s ++ B (ix L i) = B (Lib.join (L.take (i + 1)) s) by rw [B_app, B_app, join_take hin, if_pos hp])), AVle.of_eq (congrArg (AV.int .i64) (by simp)), trivial⟩, trivial⟩
   · have hp : ¬ 0 < i := by simp at h3; omega
     rw [if_neg hp, List.length_append] at h1
     refine And.intro (by omega) ?_
     refine And.intro (show (((B (Lib.join (L.take i) s)).size + (B (ix L i)).size : Nat) : Int) ≤ 9223372036854775807 by rw [B_size, B_size]; omega) ?_
     refine And.intro (inI64 (by omega) (by omega)) ?_
     exact ⟨i + 1, hin, by omega, [], rfl, rfl, ⟨AVle.refl _, AVle.refl _, AVle.of_eq (congrArg AV.str (show B (Lib.join (L.take i) s) ++ B (ix L i) = B (Lib.join (L.take (i + 1)) s) by rw [B_app, join_take hin, if_neg hp])), AVle.of_eq (congrArg (AV.int .i64) (by simp)), trivial⟩, trivial⟩
 · have : i = L.length := by simp at h2; omega
   subst this
   exact And.intro trivial (AVle.of_eq (congrArg AV.str (show B (Lib.join (L.take L.length) s) = _ by rw [List.take_of_length_le (Nat.le_refl _)])))
abbrev ints (N : List Int) : AV := .sl 1 N.length fun i => [.int .i64 (ix N i)]
theorem itoas_len {N : List Int} {s : List UInt8} (hN : ∀ x ∈ N, -9223372036854775808 ≤ x ∧ x ≤ 9223372036854775807) {c : Nat} (hs : s.length ≤ c) : (Lib.join (N.map Lib.itoa) s).length ≤ (21 + c) * N.length := by
 have := join_len (m := 21) (c := c) (L := N.map Lib.itoa) (s := s) (fun x hx => by
  obtain ⟨y, hy, rfl⟩ := List.mem_map.1 hx
  exact itoa_len (hN y hy).1 (hN y hy).2) hs
 simpa using this
theorem l02Join_fn (N : List Int) (hn : N.length ≤ 100000000) (hN : ∀ x ∈ N, -9223372036854775807 ≤ x ∧ x ≤ 9223372036854775807) : VFn Tryz.prog 112 [ints N] (.str (B (Lib.join (N.map Lib.itoa) [44]))) := by
 have hlen := itoas_len (s := [44]) (c := 1) (fun x hx => ⟨by have := (hN x hx).1; omega, (hN x hx).2⟩) (by decide)
 refine VFn.introC Tryz.call112 Tryz.func112 rfl rfl ?_
 refine LoopC.mk (fun i : Nat => i ≤ N.length) (fun i => [(0, ints N), (3, .osl 0), (4, .int .i64 i)]) (fun i => [(0, .arr 9 1 ((N.take i).map Lib.itoa).length fun k => [.str (B (ix ((N.take i).map Lib.itoa) k))])]) 1 (fun i => N.length - i) 0
  ⟨Nat.zero_le _, [(0, 0)], rfl, rfl, ⟨AVle.refl _, AVle.refl _, AVle.refl _, trivial⟩, ⟨MOle.arr rfl fun i hi => absurd hi (Nat.not_lt_zero i), trivial⟩⟩ ?_
 intro i hi
 refine Grd.intro (fun h2 => ?_) (fun h2 => ?_)
 · have hin : i < N.length := by simp at h2; omega
   have hNi := hN _ (getD_mem hin)
   refine And.intro (by omega) ?_
   conv => whnf
   refine CallC.sca _ (digits_fn (ix N i) hNi.1 hNi.2) ?_ ?_
   · exact rfl
   refine And.intro ⟨show (((N.take i).map Lib.itoa).length + 1) * 16 ≤ 140737488355328 by simp; omega, all1 rfl⟩ ?_
   refine And.intro (inI64 (by omega) (by omega)) ?_
   refine ⟨i + 1, hin, by omega, [(2, 0)], rfl, rfl, ⟨AVle.refl _, AVle.refl _, AVle.of_eq (congrArg (AV.int .i64) (by simp)), trivial⟩, ⟨?_, trivial⟩⟩
   exact arr_next (f := fun x => [.str (B x)]) (map_take_snoc hin) rfl
 · have : i = N.length := by simp at h2; omega
   subst this
   have e : N.take N.length = N := List.take_of_length_le (Nat.le_refl _)
   rw [e]
   conv => whnf
   refine CallC.sca _ (l00Join_fn (N.map Lib.itoa) [44] (Nat.le_trans hlen (by omega)) (by simp; omega)) ?_ ?_
   · exact rfl
   exact And.intro trivial (AVle.refl _)
inductive It where
 | n (i : Int)
 | t (s : List UInt8)
instance : Inhabited It := ⟨.n 0⟩
def It.txt : It → List UInt8
 | .n i => Lib.itoa i
 | .t s => s
def It.row : It → List AV
 | .n i => [.iface 3 (.int .i64 i)]
 | .t s => [.iface 9 (.str (B s))]
def It.ok : It → Prop
 | .n i => -9223372036854775808 ≤ i ∧ i ≤ 9223372036854775807
 | .t _ => True
def itRow (L : List It) (i : Nat) : List AV := (ix L i).row
theorem joined_fn (L : List It) (s : List UInt8) (hn : L.length ≤ 100000000) (hok : ∀ x ∈ L, x.ok) (hlen : (Lib.join (L.map It.txt) s).length ≤ 140737488355328) :
 VFn Tryz.prog 126 [.str (B s), .sl 1 L.length (itRow L)] (.str (B (Lib.join (L.map It.txt) s))) := by
 refine VFn.introC Tryz.call126 Tryz.func126 rfl rfl ?_
 refine LoopC.mk (fun i : Nat => i ≤ L.length) (fun i => [(0, .str (B s)), (11, .sl 1 L.length (itRow L)), (12, .int .i64 L.length), (5, .osl 0), (13, .int .i64 i)])
  (fun i => [(0, .arr 9 1 ((L.take i).map It.txt).length fun k => [.str (B (ix ((L.take i).map It.txt) k))])]) 1 (fun i => L.length - i) 0
  ⟨Nat.zero_le _, [(0, 0)], rfl, rfl, ⟨AVle.refl _, AVle.refl _, AVle.refl _, AVle.refl _, AVle.refl _, trivial⟩, ⟨MOle.arr rfl fun i hi => absurd hi (Nat.not_lt_zero i), trivial⟩⟩ ?_
 intro i hi
 refine Grd.intro (fun h2 => ?_) (fun h2 => ?_)
 · have hin : i < L.length := by simp at h2; omega
   have hx := hok _ (getD_mem hin)
   have hrow : itRow L (Int.toNat (i : Int)) = (ix L i).row := rfl
   have htake := take_snoc hin
   refine And.intro (by omega) ?_
   generalize ix L i = x at hx hrow htake
   rw [hrow]
   cases x with
   | n m =>
     conv => whnf
     refine CallC.sca _ (Itoa_fn m hx.1 hx.2) ?_ ?_
     · exact rfl
     refine And.intro ⟨show (((L.take i).map It.txt).length + 1) * 16 ≤ 140737488355328 by simp; omega, all1 rfl⟩ ?_
     refine And.intro (inI64 (by omega) (by omega)) ?_
     refine ⟨i + 1, hin, by omega, [(2, 0)], rfl, rfl, ⟨AVle.refl _, AVle.refl _, AVle.refl _, AVle.refl _, AVle.of_eq (congrArg (AV.int .i64) (by simp)), trivial⟩, ⟨?_, trivial⟩⟩
     exact arr_next (f := fun x => [.str (B x)]) (by rw [htake, List.map_append]; rfl) rfl
   | t m =>
     refine And.intro ⟨show (((L.take i).map It.txt).length + 1) * 16 ≤ 140737488355328 by simp; omega, all1 rfl⟩ ?_
     refine And.intro (inI64 (by omega) (by omega)) ?_
     refine ⟨i + 1, hin, by omega, [(2, 0)], rfl, rfl, ⟨AVle.refl _, AVle.refl _, AVle.refl _, AVle.refl _, AVle.of_eq (congrArg (AV.int .i64) (by simp)), trivial⟩, ⟨?_, trivial⟩⟩
     exact arr_next (f := fun x => [.str (B x)]) (by rw [htake, List.map_append]; rfl) rfl
 · have : i = L.length := by simp at h2; omega
   subst this
   have e : L.take L.length = L := List.take_of_length_le (Nat.le_refl _)
   rw [e]
   conv => whnf
   refine CallC.sca _ (Join_fn (L.map It.txt) s hlen (by simp; omega)) ?_ ?_
   · exact rfl
   exact And.intro trivial (AVle.refl _)
theorem joined_of (L : List It) {n : Nat} {rows : Nat → List AV} (hr : RowsAre rows 0 (L.map It.row)) (hn : n = L.length) (s : List UInt8) (hl : L.length ≤ 100000000) (hok : ∀ x ∈ L, x.ok) (hlen : (Lib.join (L.map It.txt) s).length ≤ 140737488355328) :
 VFn Tryz.prog 126 [.str (B s), .sl 1 n rows] (.str (B (Lib.join (L.map It.txt) s))) :=
 (joined_fn L s hl hok hlen).weak (AVsle.cons (AVle.refl _) (AVsle.cons (hr.le hn) AVsle.nil)) (AVle.refl _)
theorem said_fn (L : List It) (hn : L.length ≤ 100000000) (hok : ∀ x ∈ L, x.ok) (hlen : (Lib.join (L.map It.txt) [32]).length ≤ 140737488355328) :
 VFn Tryz.prog 128 [.sl 1 L.length (itRow L)] (.str (B (Lib.join (L.map It.txt) [32]))) := by
 refine VFn.introC Tryz.call128 Tryz.func128 rfl rfl ?_
 conv => whnf
 refine CallC.sca _ (joined_fn L [32] hn hok hlen) ?_ ?_
 · exact rfl
 exact And.intro trivial (AVle.refl _)
theorem within_fn (n lo hi : Int) : VFn Tryz.prog 28 [.int .i64 n, .int .i64 lo, .int .i64 hi] (.bool (within n lo hi)) := by
 refine VFn.introC Tryz.call28 Tryz.func28 rfl rfl ?_
 refine Grd.intro (fun h1 => ?_) (fun h1 => ?_)
 · refine And.intro trivial (AVle.of_eq (congrArg AV.bool ?_))
   simp_all [within]
 · refine And.intro trivial (AVle.of_eq (congrArg AV.bool ?_))
   simp_all [within]; omega
theorem l01In_fn (n lo hi : Int) : VFn Tryz.prog 41 [.int .i64 n, .int .i64 lo, .int .i64 hi] (.bool (within n lo hi)) := by
 refine VFn.introC Tryz.call41 Tryz.func41 rfl rfl ?_
 refine Grd.intro (fun h1 => ?_) (fun h1 => ?_)
 · refine And.intro trivial (AVle.of_eq (congrArg AV.bool ?_))
   simp_all [within]
 · refine And.intro trivial (AVle.of_eq (congrArg AV.bool ?_))
   simp_all [within]; omega
theorem first_of (l : List (Bool × Int)) {n : Nat} {rows : Nat → List AV} (hr : FirstRows 4 3 rows 0 l) (hn : n = 2 * l.length) (hl : l.length ≤ 1000) :
 VFn Tryz.prog 14 [.sl 1 n rows] (.int .i64 (firstC l)) := by
 subst hn
 refine VFn.introC Tryz.call14 Tryz.func14 rfl rfl ?_
 refine LoopC.mk (fun i : Nat => i ≤ l.length ∧ ∀ j, j < i → (ix l j).1 = false) (fun i => [(0, .sl 1 (2 * l.length) rows), (3, .int .i64 (2 * (i : Int)))]) (fun _ => []) 0 (fun i => l.length - i) 0
  ⟨⟨Nat.zero_le _, fun j hj => absurd hj (Nat.not_lt_zero j)⟩, [], rfl, rfl, ⟨AVle.refl _, AVle.refl _, trivial⟩, trivial⟩ ?_
 rintro i ⟨hi, hf⟩
 refine And.intro (inI64 (by omega) (by omega)) ?_
 refine Grd.intro (fun h2 => ?_) (fun h2 => ?_)
 · have hin : i < l.length := by have := of_decide_eq_true h2; omega
   have hg := hr.get i hin
   have e1 : rows (Int.toNat (2 * (i : Int))) = [.iface 4 (.bool (ix l i).1)] := by rw [show Int.toNat (2 * (i : Int)) = 0 + 2 * i by omega]; exact hg.1
   have e2 : rows (Int.toNat (2 * (i : Int) + 1)) = [.iface 3 (.int .i64 (ix l i).2)] := by rw [show Int.toNat (2 * (i : Int) + 1) = 0 + (2 * i + 1) by omega]; exact hg.2
   refine And.intro (by omega) ?_
   rw [e1]
   refine Grd.intro (fun h3 => ?_) (fun h3 => ?_)
   · refine And.intro (inI64 (by omega) (by omega)) ?_
     refine And.intro (by omega) ?_
     rw [e2]
     refine And.intro trivial (AVle.of_eq (congrArg (AV.int .i64) ?_))
     rw [firstC_none hf hi]
     have : l.drop i = ix l i :: l.drop (i + 1) := drop_ix hin
     rw [this]
     show _ = bif (ix l i).1 then _ else _
     rw [show (ix l i).1 = true from h3]; rfl
   · refine And.intro (inI64 (by omega) (by omega)) ?_
     refine ⟨i + 1, ⟨hin, fun j hj => ?_⟩, by omega, [], rfl, rfl, ⟨AVle.refl _, AVle.of_eq (congrArg (AV.int .i64) (by omega)), trivial⟩, trivial⟩
     by_cases e : j = i
     · subst e; exact h3
     · exact hf j (by omega)
 · have : i = l.length := by have := of_decide_eq_false h2; omega
   subst this
   refine And.intro trivial (AVle.of_eq (congrArg (AV.int .i64) ?_))
   rw [firstC_none hf (Nat.le_refl _), List.drop_length]; rfl
structure Ag where
 c : Int
 s : Int
 mn : Int
 mx : Int
 f : Int
 l : Int
def Ag.av (a : Ag) : AV := .agg [.int .i64 a.c, .int .i64 a.s, .int .i64 a.mn, .int .i64 a.mx, .int .i64 a.f, .int .i64 a.l]
def Ag.nul (a : Ag) : Bool := decide (a.c = 0) && (decide (a.s = 0) && (decide (a.mn = 0) && (decide (a.mx = 0) && (decide (a.f = 0) && (decide (a.l = 0) && true)))))
def Ag.some (a : Ag) : Bool := within a.c 1 100000 && within a.mn (-1000000) 1000000 && within a.mx (-1000000) 1000000 && within a.f a.mn a.mx && within a.l a.mn a.mx && within a.s (a.c * a.mn) (a.c * a.mx)
def Ag.ok (a : Ag) : Bool := a.nul || a.some
theorem mul_b {c m : Int} (h1 : within c 1 100000 = true) (h2 : within m (-1000000) 1000000 = true) : -100000000000 ≤ c * m ∧ c * m ≤ 100000000000 := by
 simp [within] at h1 h2
 have e1 : c * m ≤ c * 1000000 := Int.mul_le_mul_of_nonneg_left h2.2 (by omega)
 have e2 : c * (-1000000) ≤ c * m := Int.mul_le_mul_of_nonneg_left h2.1 (by omega)
 omega
theorem isValue_fn (n : Int) : VFn Tryz.prog 108 [.int .i64 n] (.bool (within n (-1000000) 1000000)) := by
 refine VFn.introC Tryz.call108 Tryz.func108 rfl rfl ?_
 conv => whnf
 refine CallC.sca _ (within_fn _ _ _) ?_ ?_
 · exact rfl
 exact And.intro trivial (AVle.refl _)
theorem l02Value_fn (n : Int) : VFn Tryz.prog 88 [.int .i64 n] (.bool (within n (-1000000) 1000000)) := by
 refine VFn.introC Tryz.call88 Tryz.func88 rfl rfl ?_
 conv => whnf
 refine CallC.sca _ (l01In_fn _ _ _) ?_ ?_
 · exact rfl
 exact And.intro trivial (AVle.refl _)
theorem AggOK_fn (a : Ag) : VFn Tryz.prog 63 [a.av] (.bool a.ok) := by
 refine VFn.introC Tryz.call63 Tryz.func63 rfl rfl ?_
 refine And.intro (by kernel_rfl) ?_
 refine Grd.intro (fun h0 => ?_) (fun h0 => ?_)
 · exact And.intro trivial (AVle.of_eq (congrArg AV.bool (show true = a.ok by have : a.nul = true := h0; simp [Ag.ok, this])))
 have hn : a.nul = false := h0
 have no : a.some = false → AV.bool false = .bool a.ok := fun h => by simp [Ag.ok, hn, h]
 conv => whnf
 refine CallC.sca _ (within_fn _ _ _) ?_ ?_
 · exact rfl
 refine Grd.intro (fun h1 => ?_) (fun h1 => ?_)
 · conv => whnf
   refine CallC.sca _ (isValue_fn _) ?_ ?_
   · exact rfl
   refine Grd.intro (fun h2 => ?_) (fun h2 => ?_)
   · conv => whnf
     refine CallC.sca _ (isValue_fn _) ?_ ?_
     · exact rfl
     refine Grd.intro (fun h3 => ?_) (fun h3 => ?_)
     · conv => whnf
       refine CallC.sca _ (within_fn _ _ _) ?_ ?_
       · exact rfl
       refine Grd.intro (fun h4 => ?_) (fun h4 => ?_)
       · conv => whnf
         refine CallC.sca _ (within_fn _ _ _) ?_ ?_
         · exact rfl
         refine Grd.intro (fun h5 => ?_) (fun h5 => ?_)
         · have b1 := mul_b h1 h2
           have b2 := mul_b h1 h3
           refine And.intro (inI64 (by omega) (by omega)) ?_
           refine And.intro (inI64 (by omega) (by omega)) ?_
           conv => whnf
           refine CallC.sca _ (within_fn _ _ _) ?_ ?_
           · exact rfl
           exact And.intro trivial (AVle.of_eq (congrArg AV.bool (show within a.s (a.c * a.mn) (a.c * a.mx) = a.ok by
            have q1 : within a.c 1 100000 = true := h1
            have q2 : within a.mn (-1000000) 1000000 = true := h2
            have q3 : within a.mx (-1000000) 1000000 = true := h3
            have q4 : within a.f a.mn a.mx = true := h4
            have q5 : within a.l a.mn a.mx = true := h5
            simp [Ag.ok, Ag.some, hn, q1, q2, q3, q4, q5])))
         · exact And.intro trivial (AVle.of_eq (no (by have q : within a.l a.mn a.mx = false := h5; simp [Ag.some, q])))
       · exact And.intro trivial (AVle.of_eq (no (by have q : within a.f a.mn a.mx = false := h4; simp [Ag.some, q])))
     · exact And.intro trivial (AVle.of_eq (no (by have q : within a.mx (-1000000) 1000000 = false := h3; simp [Ag.some, q])))
   · exact And.intro trivial (AVle.of_eq (no (by have q : within a.mn (-1000000) 1000000 = false := h2; simp [Ag.some, q])))
 · exact And.intro trivial (AVle.of_eq (no (by have q : within a.c 1 100000 = false := h1; simp [Ag.some, q])))
theorem specAggOK_fn (a : Ag) : VFn Tryz.prog 45 [a.av] (.bool a.ok) := by
 refine VFn.introC Tryz.call45 Tryz.func45 rfl rfl ?_
 refine Grd.intro (fun h0 => ?_) (fun h0 => ?_)
 · refine And.intro (by kernel_rfl) ?_
   have hc : a.c = 0 := of_decide_eq_true h0
   exact And.intro trivial (AVle.of_eq (congrArg AV.bool (show a.nul = a.ok by
    have q : within a.c 1 100000 = false := by rw [hc]; rfl
    simp [Ag.ok, Ag.some, q])))
 have hc : ¬ a.c = 0 := of_decide_eq_false h0
 have hn : a.nul = false := by simp [Ag.nul, hc]
 have no : a.some = false → AV.bool false = .bool a.ok := fun h => by simp [Ag.ok, hn, h]
 conv => whnf
 refine CallC.sca _ (l01In_fn _ _ _) ?_ ?_
 · exact rfl
 refine Grd.intro (fun h1 => ?_) (fun h1 => ?_)
 · conv => whnf
   refine CallC.sca _ (l02Value_fn _) ?_ ?_
   · exact rfl
   refine Grd.intro (fun h2 => ?_) (fun h2 => ?_)
   · conv => whnf
     refine CallC.sca _ (l02Value_fn _) ?_ ?_
     · exact rfl
     refine Grd.intro (fun h3 => ?_) (fun h3 => ?_)
     · conv => whnf
       refine CallC.sca _ (l01In_fn _ _ _) ?_ ?_
       · exact rfl
       refine Grd.intro (fun h4 => ?_) (fun h4 => ?_)
       · conv => whnf
         refine CallC.sca _ (l01In_fn _ _ _) ?_ ?_
         · exact rfl
         refine Grd.intro (fun h5 => ?_) (fun h5 => ?_)
         · have b1 := mul_b h1 h2
           have b2 := mul_b h1 h3
           refine And.intro (inI64 (by omega) (by omega)) ?_
           refine And.intro (inI64 (by omega) (by omega)) ?_
           conv => whnf
           refine CallC.sca _ (l01In_fn _ _ _) ?_ ?_
           · exact rfl
           exact And.intro trivial (AVle.of_eq (congrArg AV.bool (show within a.s (a.c * a.mn) (a.c * a.mx) = a.ok by
            have q1 : within a.c 1 100000 = true := h1
            have q2 : within a.mn (-1000000) 1000000 = true := h2
            have q3 : within a.mx (-1000000) 1000000 = true := h3
            have q4 : within a.f a.mn a.mx = true := h4
            have q5 : within a.l a.mn a.mx = true := h5
            simp [Ag.ok, Ag.some, hn, q1, q2, q3, q4, q5])))
         · exact And.intro trivial (AVle.of_eq (no (by have q : within a.l a.mn a.mx = false := h5; simp [Ag.some, q])))
       · exact And.intro trivial (AVle.of_eq (no (by have q : within a.f a.mn a.mx = false := h4; simp [Ag.some, q])))
     · exact And.intro trivial (AVle.of_eq (no (by have q : within a.mx (-1000000) 1000000 = false := h3; simp [Ag.some, q])))
   · exact And.intro trivial (AVle.of_eq (no (by have q : within a.mn (-1000000) 1000000 = false := h2; simp [Ag.some, q])))
 · exact And.intro trivial (AVle.of_eq (no (by have q : within a.c 1 100000 = false := h1; simp [Ag.some, q])))
theorem Ag.bounds {a : Ag} (h : a.ok = true) : (-100000000000 ≤ a.c ∧ a.c ≤ 100000000000) ∧ (-100000000000 ≤ a.s ∧ a.s ≤ 100000000000) ∧ (-100000000000 ≤ a.mn ∧ a.mn ≤ 100000000000) ∧ (-100000000000 ≤ a.mx ∧ a.mx ≤ 100000000000) ∧
 (-100000000000 ≤ a.f ∧ a.f ≤ 100000000000) ∧ (-100000000000 ≤ a.l ∧ a.l ≤ 100000000000) := by
 simp only [Ag.ok, Bool.or_eq_true] at h
 rcases h with h | h
 · simp [Ag.nul] at h; omega
 · simp only [Ag.some, Bool.and_eq_true] at h
   obtain ⟨⟨⟨⟨⟨h1, h2⟩, h3⟩, h4⟩, h5⟩, h6⟩ := h
   have b1 := mul_b h1 h2
   have b2 := mul_b h1 h3
   simp [within] at h1 h2 h3 h4 h5 h6
   omega
def Ag.six (a : Ag) : List Int := [a.c, a.s, a.mn, a.mx, a.f, a.l]
def atext (a : Ag) : List UInt8 := Lib.join (a.six.map Lib.itoa) [44]
theorem six_b {a : Ag} (h : a.ok = true) : ∀ x ∈ a.six, -100000000000 ≤ x ∧ x ≤ 100000000000 := by
 have := Ag.bounds h
 intro x hx
 simp only [Ag.six, List.mem_cons, List.not_mem_nil, or_false] at hx
 rcases hx with rfl | rfl | rfl | rfl | rfl | rfl <;> omega
theorem atext_len {a : Ag} (h : a.ok = true) : (atext a).length ≤ 132 := by
 have := itoas_len (N := a.six) (s := [44]) (c := 1) (fun x hx => by have := six_b h x hx; omega) (by decide)
 exact this
theorem aggText_fn (a : Ag) (h : a.ok = true) : VFn Tryz.prog 127 [a.av] (.str (B (atext a))) := by
 have hb := six_b h
 have hl := atext_len h
 refine VFn.introC Tryz.call127 Tryz.func127 rfl rfl ?_
 conv => whnf
 refine CallC.sca _ (joined_of (a.six.map It.n) (n := 6) ⟨rfl, rfl, rfl, rfl, rfl, rfl, trivial⟩ rfl [44] (show 6 ≤ 100000000 by decide) (fun x hx => by obtain ⟨y, hy, rfl⟩ := List.mem_map.1 hx; have := hb y hy; exact ⟨by omega, by omega⟩) (show (atext a).length ≤ _ by omega)) ?_ ?_
 · exact rfl
 exact And.intro trivial (AVle.refl _)
theorem l02Text_fn (a : Ag) (h : a.ok = true) : VFn Tryz.prog 143 [a.av] (.str (B (atext a))) := by
 have hb := six_b h
 refine VFn.introC Tryz.call143 Tryz.func143 rfl rfl ?_
 conv => whnf
 refine CallC.sca _ ((l02Join_fn a.six (show 6 ≤ 100000000 by decide) (fun x hx => by have := hb x hx; omega)).weak (AVsle.cons (RowsAre.le (f := fun n : Int => [AV.int .i64 n]) rfl ⟨rfl, rfl, rfl, rfl, rfl, rfl, trivial⟩) AVsle.nil) (AVle.refl _)) ?_ ?_
 · exact rfl
 exact And.intro trivial (AVle.refl _)
structure Smp where
 t : Int
 v : Int
instance : Inhabited Smp := ⟨⟨0, 0⟩⟩
def Smp.row (s : Smp) : List AV := [.int .i64 s.t, .int .i64 s.v]
abbrev smps (L : List Smp) : AV := .sl 2 L.length fun i => (ix L i).row
structure Bk where
 t : Int
 a : Ag
instance : Inhabited Ag := ⟨⟨0, 0, 0, 0, 0, 0⟩⟩
instance : Inhabited Bk := ⟨⟨0, default⟩⟩
def Bk.row (b : Bk) : List AV := [.int .i64 b.t, .int .i64 b.a.c, .int .i64 b.a.s, .int .i64 b.a.mn, .int .i64 b.a.mx, .int .i64 b.a.f, .int .i64 b.a.l]
abbrev bks (L : List Bk) : AV := .sl 7 L.length fun i => (ix L i).row
theorem isMoment_fn (n : Int) : VFn Tryz.prog 209 [.int .i64 n] (.bool (within n 0 99999)) := by
 refine VFn.introC Tryz.call209 Tryz.func209 rfl rfl ?_
 conv => whnf
 refine CallC.sca _ (within_fn _ _ _) ?_ ?_
 · exact rfl
 exact And.intro trivial (AVle.refl _)
theorem l02Sample_fn (s : Smp) : VFn Tryz.prog 193 [.agg s.row] (.bool (within s.t 0 99999 && within s.v (-1000000) 1000000)) := by
 refine VFn.introC Tryz.call193 Tryz.func193 rfl rfl ?_
 conv => whnf
 refine CallC.sca _ (l01In_fn _ _ _) ?_ ?_
 · exact rfl
 refine Grd.intro (fun h1 => ?_) (fun h1 => ?_)
 · conv => whnf
   refine CallC.sca _ (l01In_fn _ _ _) ?_ ?_
   · exact rfl
   exact And.intro trivial (AVle.of_eq (congrArg AV.bool (by rw [h1]; rfl)))
 · exact And.intro trivial (AVle.of_eq (congrArg AV.bool (by rw [h1]; rfl)))
def smpAt (L : List Smp) (i : Nat) : Bool := within (ix L i).t 0 99999 && within (ix L i).v (-1000000) 1000000 && (decide (i = 0) || decide ((ix L (i - 1)).t < (ix L i).t))
def smpsOK (L : List Smp) : Bool := decide (L.length ≤ 4096) && allN L.length (smpAt L)
def bkAt (L : List Bk) (i : Nat) : Bool := within (ix L i).t 0 99999 && (ix L i).a.ok && !decide ((ix L i).a.c = 0) && (decide (i = 0) || decide ((ix L (i - 1)).t < (ix L i).t))
def bksOK (L : List Bk) : Bool := decide (L.length ≤ 8) && allN L.length (bkAt L)
theorem isLongSmp_fn (L : List Smp) : VFn Tryz.prog 208 [smps L] (.bool (decide (4096 < L.length))) := by
 refine VFn.introC Tryz.call208 Tryz.func208 rfl rfl ?_
 exact And.intro trivial (AVle.of_eq (congrArg AV.bool (by simp; omega)))
theorem SamplesOK_fn (L : List Smp) : VFn Tryz.prog 184 [smps L] (.bool (smpsOK L)) := by
 refine VFn.introC Tryz.call184 Tryz.func184 rfl rfl ?_
 conv => whnf
 refine CallC.sca _ (isLongSmp_fn L) ?_ ?_
 · exact rfl
 refine Grd.intro (fun h1 => ?_) (fun h1 => ?_)
 · have := of_decide_eq_true h1
   exact And.intro trivial (AVle.of_eq (congrArg AV.bool (by simp [smpsOK]; omega)))
 have hn : L.length ≤ 4096 := by have := of_decide_eq_false h1; omega
 have no : ∀ i, i < L.length → smpAt L i = false → false = smpsOK L := fun i hi h => by simp [smpsOK, allN_no hi h]
 refine LoopC.mk (fun i : Nat => i ≤ L.length ∧ allN i (smpAt L) = true) (fun i => [(0, smps L), (7, smps L), (8, .int .i64 L.length), (9, .int .i64 i)]) (fun _ => []) 0 (fun i => L.length - i) 0
  ⟨⟨Nat.zero_le _, rfl⟩, [], rfl, rfl, ⟨AVle.refl _, AVle.refl _, AVle.refl _, AVle.refl _, trivial⟩, trivial⟩ ?_
 rintro i ⟨hi, ha⟩
 refine Grd.intro (fun h2 => ?_) (fun h2 => ?_)
 · have hin : i < L.length := by have := of_decide_eq_true h2; omega
   refine And.intro (by omega) ?_
   refine DrawC.mq 25 rfl (by kernel_rfl) ?_
   refine PCallQ.sca _ (isMoment_fn _) rfl ?_
   refine Grd.intro (fun h3 => ?_) (fun h3 => ?_)
   · exact And.intro trivial (AVle.of_eq (congrArg AV.bool (no i hin (by simp at h3; simp [smpAt, h3]))))
   refine PCallQ.sca _ (isValue_fn _) rfl ?_
   refine Grd.intro (fun h4 => ?_) (fun h4 => ?_)
   · exact And.intro trivial (AVle.of_eq (congrArg AV.bool (no i hin (by simp at h4; simp [smpAt, h4]))))
   simp at h3 h4
   refine Grd.intro (fun h5 => ?_) (fun h5 => ?_)
   · have h0 : 0 < i := by have := of_decide_eq_true h5; omega
     refine And.intro (inI64 (by omega) (by omega)) ?_
     refine And.intro (by omega) ?_
     refine Grd.intro (fun h6 => ?_) (fun h6 => ?_)
     · have h6 := of_decide_eq_true h6
       rw [show Int.toNat ((i : Int) - 1) = i - 1 by omega] at h6
       exact And.intro trivial (AVle.of_eq (congrArg AV.bool (no i hin (by
        have : ¬ (ix L (i - 1)).t < (ix L i).t := by simpa using h6
        have h00 : ¬ i = 0 := by omega
        simp only [smpAt, decide_eq_false h00, decide_eq_false this, Bool.or_false, Bool.and_false]))))
     · have h6 := of_decide_eq_false h6
       rw [show Int.toNat ((i : Int) - 1) = i - 1 by omega] at h6
       refine And.intro (inI64 (by omega) (by omega)) ?_
       refine ⟨i + 1, ⟨hin, allN_step ha ?_⟩, by omega, [], rfl, rfl, ⟨AVle.refl _, AVle.refl _, AVle.refl _, AVle.of_eq (congrArg (AV.int .i64) (by simp)), trivial⟩, trivial⟩
       have : (ix L (i - 1)).t < (ix L i).t := by simpa using h6
       simp [smpAt, h3, h4, this]
   · have h0 : i = 0 := by have := of_decide_eq_false h5; omega
     refine And.intro (inI64 (by omega) (by omega)) ?_
     refine ⟨i + 1, ⟨hin, allN_step ha ?_⟩, by omega, [], rfl, rfl, ⟨AVle.refl _, AVle.refl _, AVle.refl _, AVle.of_eq (congrArg (AV.int .i64) (by simp)), trivial⟩, trivial⟩
     subst h0; simp [smpAt, h3, h4]
 · have : i = L.length := by have := of_decide_eq_false h2; omega
   subst this
   exact And.intro trivial (AVle.of_eq (congrArg AV.bool (by simp [smpsOK, ha, hn])))
theorem specSamplesOK_fn (L : List Smp) : VFn Tryz.prog 165 [smps L] (.bool (smpsOK L)) := by
 refine VFn.introC Tryz.call165 Tryz.func165 rfl rfl ?_
 refine Grd.intro (fun h1 => ?_) (fun h1 => ?_)
 · have := of_decide_eq_true h1
   exact And.intro trivial (AVle.of_eq (congrArg AV.bool (by simp [smpsOK]; omega)))
 have hn : L.length ≤ 4096 := by have := of_decide_eq_false h1; omega
 have no : ∀ i, i < L.length → smpAt L i = false → false = smpsOK L := fun i hi h => by simp [smpsOK, allN_no hi h]
 refine LoopC.mk (fun i : Nat => i ≤ L.length ∧ allN i (smpAt L) = true) (fun i => [(0, smps L), (3, .int .i64 i)]) (fun _ => []) 0 (fun i => L.length - i) 0
  ⟨⟨Nat.zero_le _, rfl⟩, [], rfl, rfl, ⟨AVle.refl _, AVle.refl _, trivial⟩, trivial⟩ ?_
 rintro i ⟨hi, ha⟩
 refine Grd.intro (fun h2 => ?_) (fun h2 => ?_)
 · have hin : i < L.length := by have := of_decide_eq_true h2; omega
   refine DrawC.mq 24 rfl (by kernel_rfl) ?_
   refine And.intro (by omega) ?_
   refine PCallQ.sca _ (l02Sample_fn (ix L i)) rfl ?_
   refine Grd.intro (fun h3 => ?_) (fun h3 => ?_)
   · exact And.intro trivial (AVle.of_eq (congrArg AV.bool (no i hin (by cases hq : smpAt L i; rfl; simp [smpAt] at hq; simp [hq] at h3))))
   simp at h3
   refine Grd.intro (fun h5 => ?_) (fun h5 => ?_)
   · have h0 : 0 < i := by have := of_decide_eq_true h5; omega
     refine And.intro (inI64 (by omega) (by omega)) ?_
     refine And.intro (by omega) ?_
     refine And.intro (by omega) ?_
     refine Grd.intro (fun h6 => ?_) (fun h6 => ?_)
     · have h6 := of_decide_eq_true h6
       rw [show Int.toNat ((i : Int) - 1) = i - 1 by omega] at h6
       exact And.intro trivial (AVle.of_eq (congrArg AV.bool (no i hin (by
        have : ¬ (ix L (i - 1)).t < (ix L i).t := by simpa using h6
        have h00 : ¬ i = 0 := by omega
        simp only [smpAt, decide_eq_false h00, decide_eq_false this, Bool.or_false, Bool.and_false]))))
     · have h6 := of_decide_eq_false h6
       rw [show Int.toNat ((i : Int) - 1) = i - 1 by omega] at h6
       refine And.intro (inI64 (by omega) (by omega)) ?_
       refine ⟨i + 1, ⟨hin, allN_step ha ?_⟩, by omega, [], rfl, rfl, ⟨AVle.refl _, AVle.of_eq (congrArg (AV.int .i64) (by simp)), trivial⟩, trivial⟩
       have : (ix L (i - 1)).t < (ix L i).t := by simpa using h6
       simp [smpAt, h3, this]
   · have h0 : i = 0 := by have := of_decide_eq_false h5; omega
     refine And.intro (inI64 (by omega) (by omega)) ?_
     refine ⟨i + 1, ⟨hin, allN_step ha ?_⟩, by omega, [], rfl, rfl, ⟨AVle.refl _, AVle.of_eq (congrArg (AV.int .i64) (by simp)), trivial⟩, trivial⟩
     subst h0; simp [smpAt, h3]
 · have : i = L.length := by have := of_decide_eq_false h2; omega
   subst this
   exact And.intro trivial (AVle.of_eq (congrArg AV.bool (by simp [smpsOK, ha, hn])))
theorem BucketsOK_fn (L : List Bk) : VFn Tryz.prog 187 [bks L] (.bool (bksOK L)) := by
 refine VFn.introC Tryz.call187 Tryz.func187 rfl rfl ?_
 have no : ∀ i, i < L.length → bkAt L i = false → false = bksOK L := fun i hi h => by simp [bksOK, allN_no hi h]
 refine LoopC.mk (fun i : Nat => i ≤ L.length ∧ i ≤ 8 ∧ allN i (bkAt L) = true) (fun i => [(0, bks L), (5, bks L), (6, .int .i64 L.length), (7, .int .i64 i)]) (fun _ => []) 0 (fun i => L.length - i) 0
  ⟨⟨Nat.zero_le _, by omega, rfl⟩, [], rfl, rfl, ⟨AVle.refl _, AVle.refl _, AVle.refl _, AVle.refl _, trivial⟩, trivial⟩ ?_
 rintro i ⟨hi, hi8, ha⟩
 refine Grd.intro (fun h2 => ?_) (fun h2 => ?_)
 · have hin : i < L.length := by have := of_decide_eq_true h2; omega
   refine And.intro (by omega) ?_
   refine DrawC.mq 35 rfl (by kernel_rfl) ?_
   refine Grd.intro (fun h7 => ?_) (fun h7 => ?_)
   · have : (i : Int) = 8 := of_decide_eq_true h7
     exact And.intro trivial (AVle.of_eq (congrArg AV.bool (by simp [bksOK]; omega)))
   have hne : ¬ (i : Int) = 8 := of_decide_eq_false h7
   refine PCallQ.sca _ (isMoment_fn _) rfl ?_
   refine Grd.intro (fun h3 => ?_) (fun h3 => ?_)
   · exact And.intro trivial (AVle.of_eq (congrArg AV.bool (no i hin (by simp at h3; simp [bkAt, h3]))))
   refine PCallQ.sca _ (AggOK_fn (ix L i).a) rfl ?_
   refine Grd.intro (fun h4 => ?_) (fun h4 => ?_)
   · exact And.intro trivial (AVle.of_eq (congrArg AV.bool (no i hin (by simp at h4; simp [bkAt, h4]))))
   simp at h3 h4
   refine Grd.intro (fun h8 => ?_) (fun h8 => ?_)
   · exact And.intro trivial (AVle.of_eq (congrArg AV.bool (no i hin (by simp at h8; simp [bkAt, h8]))))
   simp at h8
   refine Grd.intro (fun h5 => ?_) (fun h5 => ?_)
   · have h0 : 0 < i := by have := of_decide_eq_true h5; omega
     refine And.intro (inI64 (by omega) (by omega)) ?_
     refine And.intro (by omega) ?_
     refine Grd.intro (fun h6 => ?_) (fun h6 => ?_)
     · have h6 := of_decide_eq_true h6
       rw [show Int.toNat ((i : Int) - 1) = i - 1 by omega] at h6
       exact And.intro trivial (AVle.of_eq (congrArg AV.bool (no i hin (by
        have : ¬ (ix L (i - 1)).t < (ix L i).t := by simpa using h6
        have h00 : ¬ i = 0 := by omega
        simp only [bkAt, decide_eq_false h00, decide_eq_false this, Bool.or_false, Bool.and_false]))))
     · have h6 := of_decide_eq_false h6
       rw [show Int.toNat ((i : Int) - 1) = i - 1 by omega] at h6
       refine And.intro (inI64 (by omega) (by omega)) ?_
       refine ⟨i + 1, ⟨hin, by omega, allN_step ha ?_⟩, by omega, [], rfl, rfl, ⟨AVle.refl _, AVle.refl _, AVle.refl _, AVle.of_eq (congrArg (AV.int .i64) (by simp)), trivial⟩, trivial⟩
       have : (ix L (i - 1)).t < (ix L i).t := by simpa using h6
       simp [bkAt, h3, h4, h8, this]
   · have h0 : i = 0 := by have := of_decide_eq_false h5; omega
     refine And.intro (inI64 (by omega) (by omega)) ?_
     refine ⟨i + 1, ⟨hin, by omega, allN_step ha ?_⟩, by omega, [], rfl, rfl, ⟨AVle.refl _, AVle.refl _, AVle.refl _, AVle.of_eq (congrArg (AV.int .i64) (by simp)), trivial⟩, trivial⟩
     subst h0; simp [bkAt, h3, h4, h8]
 · have : i = L.length := by have := of_decide_eq_false h2; omega
   subst this
   exact And.intro trivial (AVle.of_eq (congrArg AV.bool (by simp [bksOK, ha, hi8])))
theorem specBucketsOK_fn (L : List Bk) : VFn Tryz.prog 167 [bks L] (.bool (bksOK L)) := by
 refine VFn.introC Tryz.call167 Tryz.func167 rfl rfl ?_
 refine Grd.intro (fun h1 => ?_) (fun h1 => ?_)
 · have := of_decide_eq_true h1
   exact And.intro trivial (AVle.of_eq (congrArg AV.bool (by simp [bksOK]; omega)))
 have hn : L.length ≤ 4096 := by have := of_decide_eq_false h1; omega
 have no : ∀ i, i < L.length → bkAt L i = false → false = bksOK L := fun i hi h => by simp [bksOK, allN_no hi h]
 refine LoopC.mk (fun i : Nat => i ≤ L.length ∧ allN i (bkAt L) = true) (fun i => [(0, bks L), (3, .int .i64 i)]) (fun _ => []) 0 (fun i => L.length - i) 0
  ⟨⟨Nat.zero_le _, rfl⟩, [], rfl, rfl, ⟨AVle.refl _, AVle.refl _, trivial⟩, trivial⟩ ?_
 rintro i ⟨hi, ha⟩
 refine Grd.intro (fun h2 => ?_) (fun h2 => ?_)
 · have hin : i < L.length := by have := of_decide_eq_true h2; omega
   refine DrawC.mq 43 rfl (by kernel_rfl) ?_
   refine And.intro (by omega) ?_
   refine PCallQ.sca _ (l01In_fn _ _ _) rfl ?_
   refine Grd.intro (fun h3 => ?_) (fun h3 => ?_)
   · exact And.intro trivial (AVle.of_eq (congrArg AV.bool (no i hin (by simp at h3; simp [bkAt, h3]))))
   refine And.intro (by omega) ?_
   refine PCallQ.sca _ (specAggOK_fn (ix L i).a) rfl ?_
   refine Grd.intro (fun h4 => ?_) (fun h4 => ?_)
   · exact And.intro trivial (AVle.of_eq (congrArg AV.bool (no i hin (by simp at h4; simp [bkAt, h4]))))
   simp at h3 h4
   refine And.intro (by omega) ?_
   refine Grd.intro (fun h8 => ?_) (fun h8 => ?_)
   · exact And.intro trivial (AVle.of_eq (congrArg AV.bool (no i hin (by simp at h8; simp [bkAt, h8]))))
   simp at h8
   refine Grd.intro (fun h5 => ?_) (fun h5 => ?_)
   · have h0 : 0 < i := by have := of_decide_eq_true h5; omega
     refine And.intro (inI64 (by omega) (by omega)) ?_
     refine And.intro (by omega) ?_
     refine And.intro (by omega) ?_
     refine Grd.intro (fun h6 => ?_) (fun h6 => ?_)
     · have h6 := of_decide_eq_true h6
       rw [show Int.toNat ((i : Int) - 1) = i - 1 by omega] at h6
       exact And.intro trivial (AVle.of_eq (congrArg AV.bool (no i hin (by
        have : ¬ (ix L (i - 1)).t < (ix L i).t := by simpa using h6
        have h00 : ¬ i = 0 := by omega
        simp only [bkAt, decide_eq_false h00, decide_eq_false this, Bool.or_false, Bool.and_false]))))
     · have h6 := of_decide_eq_false h6
       rw [show Int.toNat ((i : Int) - 1) = i - 1 by omega] at h6
       refine And.intro (inI64 (by omega) (by omega)) ?_
       refine ⟨i + 1, ⟨hin, allN_step ha ?_⟩, by omega, [], rfl, rfl, ⟨AVle.refl _, AVle.of_eq (congrArg (AV.int .i64) (by simp)), trivial⟩, trivial⟩
       have : (ix L (i - 1)).t < (ix L i).t := by simpa using h6
       simp [bkAt, h3, h4, h8, this]
   · have h0 : i = 0 := by have := of_decide_eq_false h5; omega
     refine And.intro (inI64 (by omega) (by omega)) ?_
     refine ⟨i + 1, ⟨hin, allN_step ha ?_⟩, by omega, [], rfl, rfl, ⟨AVle.refl _, AVle.of_eq (congrArg (AV.int .i64) (by simp)), trivial⟩, trivial⟩
     subst h0; simp [bkAt, h3, h4, h8]
 · have : i = L.length := by have := of_decide_eq_false h2; omega
   subst this
   exact And.intro trivial (AVle.of_eq (congrArg AV.bool (by simp [bksOK, ha]; omega)))
def smpText (s : Smp) : List UInt8 := Lib.join [Lib.itoa s.t, Lib.itoa s.v] [61]
def smpsText (L : List Smp) : List UInt8 := Lib.join (L.map smpText) [32]
def bkText (b : Bk) : List UInt8 := Lib.join [Lib.itoa b.t, atext b.a] [58]
def bksText (L : List Bk) : List UInt8 := Lib.join (L.map bkText) [32]
theorem join2 (a b s : List UInt8) : Lib.join [a, b] s = a ++ s ++ b := by
 rw [Lib.join_cons]; simp [Lib.joinTail]
def Smp.num (s : Smp) : Prop := (-1000000000 ≤ s.t ∧ s.t ≤ 1000000000) ∧ (-1000000000 ≤ s.v ∧ s.v ≤ 1000000000)
theorem smpText_len {s : Smp} (h : s.num) : (smpText s).length ≤ 43 := by
 have h1 := itoa_len (n := s.t) (by have := h.1; omega) (by have := h.1; omega)
 have h2 := itoa_len (n := s.v) (by have := h.2; omega) (by have := h.2; omega)
 unfold smpText; rw [join2]; simp; omega
theorem smpsText_len {L : List Smp} (h : ∀ s ∈ L, s.num) : (smpsText L).length ≤ 44 * L.length := by
 have := join_len (m := 43) (c := 1) (L := L.map smpText) (s := [32]) (fun x hx => by obtain ⟨y, hy, rfl⟩ := List.mem_map.1 hx; exact smpText_len (h y hy)) (by decide)
 simpa [smpsText] using this
theorem smpsOK_num {L : List Smp} (h : smpsOK L = true) : ∀ s ∈ L, s.num := by
 simp only [smpsOK, Bool.and_eq_true, allN_iff] at h
 intro s hs
 obtain ⟨i, hi, rfl⟩ := List.mem_iff_getElem.1 hs
 have := h.2 i hi
 rw [smpAt, Bool.and_eq_true, Bool.and_eq_true] at this
 rw [← ix_lt hi]
 have a := win_iff.1 this.1.1
 have b := win_iff.1 this.1.2
 exact ⟨⟨by omega, by omega⟩, ⟨by omega, by omega⟩⟩
theorem l03Samples_fn (L : List Smp) (hL : L.length ≤ 4096) (hN : ∀ s ∈ L, s.num) : VFn Tryz.prog 68 [smps L] (.str (B (smpsText L))) := by
 have hlen := smpsText_len hN
 refine VFn.introC Tryz.call68 Tryz.func68 rfl rfl ?_
 refine LoopC.mk (fun i : Nat => i ≤ L.length) (fun i => [(0, smps L), (3, .osl 0), (4, .int .i64 i)])
  (fun i => [(0, .arr 9 1 ((L.take i).map smpText).length fun k => [.str (B (ix ((L.take i).map smpText) k))])]) 1 (fun i => L.length - i) 0
  ⟨Nat.zero_le _, [(0, 0)], rfl, rfl, ⟨AVle.refl _, AVle.refl _, AVle.refl _, trivial⟩, ⟨MOle.arr rfl fun i hi => absurd hi (Nat.not_lt_zero i), trivial⟩⟩ ?_
 intro i hi
 refine Grd.intro (fun h2 => ?_) (fun h2 => ?_)
 · have hin : i < L.length := by have := of_decide_eq_true h2; omega
   have hs := hN _ (getD_mem hin)
   have h1 := itoa_len (n := (ix L i).t) (by have := hs.1; omega) (by have := hs.1; omega)
   have h3 := itoa_len (n := (ix L i).v) (by have := hs.2; omega) (by have := hs.2; omega)
   refine DrawC.mq 16 rfl (by kernel_rfl) ?_
   refine And.intro (by omega) ?_
   refine PCallQ.sca _ (digits_fn (ix L i).t (by have := hs.1; omega) (by have := hs.1; omega)) rfl ?_
   refine And.intro (show (((B (Lib.itoa (ix L i).t)).size + (B [61]).size : Nat) : Int) ≤ 9223372036854775807 by rw [B_size, B_size]; simp; omega) ?_
   refine And.intro (by omega) ?_
   refine PCallQ.sca _ (digits_fn (ix L i).v (by have := hs.2; omega) (by have := hs.2; omega)) rfl ?_
   refine And.intro (show (((B (Lib.itoa (ix L i).t) ++ B [61]).size + (B (Lib.itoa (ix L i).v)).size : Nat) : Int) ≤ 9223372036854775807 by rw [B_app, B_size, B_size]; simp; omega) ?_
   refine And.intro ⟨show (((L.take i).map smpText).length + 1) * 16 ≤ 140737488355328 by simp; omega, all1 rfl⟩ ?_
   refine And.intro (inI64 (by omega) (by omega)) ?_
   refine ⟨i + 1, hin, by omega, [(17, 0)], rfl, rfl, ⟨AVle.refl _, AVle.refl _, AVle.of_eq (congrArg (AV.int .i64) (by simp)), trivial⟩, ⟨?_, trivial⟩⟩
   exact arr_next (f := fun x => [.str (B x)]) (map_take_snoc hin) (show [AV.str (B (Lib.itoa (ix L i).t) ++ B [61] ++ B (Lib.itoa (ix L i).v))] = _ by rw [B_app, B_app, ← join2]; rfl)
 · have : i = L.length := by have := of_decide_eq_false h2; omega
   subst this
   have e : L.take L.length = L := List.take_of_length_le (Nat.le_refl _)
   rw [e]
   conv => whnf
   refine CallC.sca _ (l00Join_fn (L.map smpText) [32] (Nat.le_trans hlen (by omega)) (by simp; omega)) ?_ ?_
   · exact rfl
   exact And.intro trivial (AVle.refl _)
def Bk.ok (b : Bk) : Prop := (-1000000000 ≤ b.t ∧ b.t ≤ 1000000000) ∧ b.a.ok = true
theorem bkText_len {b : Bk} (h : b.ok) : (bkText b).length ≤ 154 := by
 have h1 := itoa_len (n := b.t) (by have := h.1; omega) (by have := h.1; omega)
 have h2 := atext_len h.2
 unfold bkText; rw [join2]; simp; omega
theorem bksText_len {L : List Bk} (h : ∀ s ∈ L, s.ok) : (bksText L).length ≤ 155 * L.length := by
 have := join_len (m := 154) (c := 1) (L := L.map bkText) (s := [32]) (fun x hx => by obtain ⟨y, hy, rfl⟩ := List.mem_map.1 hx; exact bkText_len (h y hy)) (by decide)
 simpa [bksText] using this
theorem bksOK_ok {L : List Bk} (h : bksOK L = true) : ∀ s ∈ L, s.ok := by
 simp only [bksOK, Bool.and_eq_true, allN_iff] at h
 intro s hs
 obtain ⟨i, hi, rfl⟩ := List.mem_iff_getElem.1 hs
 have := h.2 i hi
 rw [bkAt, Bool.and_eq_true, Bool.and_eq_true, Bool.and_eq_true] at this
 rw [← ix_lt hi]
 have a := win_iff.1 this.1.1.1
 have c := this.1.1.2
 exact ⟨⟨by omega, by omega⟩, c⟩
end Go.Proofs.YtigbaclopbcjnaaGreatDoor
