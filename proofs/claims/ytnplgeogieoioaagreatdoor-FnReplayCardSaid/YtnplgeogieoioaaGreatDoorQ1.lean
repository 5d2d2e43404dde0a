/- Contracts of functions that the claim reaches, and the plain law of what they compute; each theorem bears its own conditions. -/
import Derived.Test.YtnplgeogieoioaaGreatDoorV52
import Derived.Test.YtnplgeogieoioaaGreatDoorSh
import Derived.Test.YtnplgeogieoioaaGreatDoorProg
import Derived.Lib.Join
set_option linter.unusedVariables false
set_option linter.constructorNameAsVariable false
set_option linter.unusedSimpArgs false
set_option maxRecDepth 20000
namespace Go.Proofs.YtnplgeogieoioaaGreatDoor
open Go Go.Vw
instance : Tabs Tryz.prog := Tabs.and (Tabs.one 3 "internal/strconv.uint64pow10" .u64 Lib.pow10Tab (by kernel_rfl))
 (Tabs.and (Tabs.err 1 "strconv.ErrSyntax" (by kernel_rfl)) (Tabs.and (Tabs.err 2 "strconv.ErrRange" (by kernel_rfl)) (Tabs.num 0)))
theorem tab_pow10 {w : World} (h : Tabs.J Tryz.prog w) : Lib.TabIs Tryz.prog w "internal/strconv.uint64pow10" .u64 Lib.pow10Tab := h.1
theorem tab_syntax {w : World} (h : Tabs.J Tryz.prog w) : HasErr Tryz.prog "strconv.ErrSyntax" w := h.2.1
theorem tab_range {w : World} (h : Tabs.J Tryz.prog w) : HasErr Tryz.prog "strconv.ErrRange" w := h.2.2.1
theorem tab_maxlen {w : World} (h : Tabs.J Tryz.prog w) : HasInt 0 w := h.2.2.2
theorem Itoa_fn (n : Int) (h0 : -9223372036854775808 ≤ n) (h1 : n ≤ 9223372036854775807) : VFn Tryz.prog 170 [.int .i64 n] (.str (B (Lib.itoa n))) := by
 refine VFn.lib Tryz.call170 fun w ok vs hJ hok hv => ?_
 obtain ⟨v, us, rfl, hv, hus⟩ := hv
 have e1 : v = .int .i64 n := hv
 have e2 : us = [] := hus
 subst e1 e2
 refine (Tryz.strconv_Itoa n h0 h1 w (tab_pow10 hJ)).mono ?_
 rintro e w' ⟨rfl, k, os, rfl⟩
 exact ⟨_, rfl, Go.Lib.below_grow _ _ (Nat.le_refl _) k os, fun _ _ => rfl⟩
abbrev txts (L : List (List UInt8)) : AV := .sl 1 L.length fun i => [.str (B (ix L i))]
theorem map_B (L : List (List UInt8)) : (L.map B).map (fun x : ByteArray => x.data.toList) = L := by
 rw [List.map_map]
 exact (List.map_congr_left fun x _ => B_data x).trans (List.map_id' L)
theorem Join_fn (L : List (List UInt8)) (sep : List UInt8) (hlen : (Lib.join L sep).length ≤ 140737488355328) (hn : L.length ≤ 140737488355328) :
 VFn Tryz.prog 216 [txts L, .str (B sep)] (.str (B (Lib.join L sep))) := by
 refine VFn.lib Tryz.call216 fun w ok vs hJ hok hv => ?_
 obtain ⟨v, us, rfl, hv, v2, us2, rfl, hv2, hus⟩ := hv
 obtain ⟨A, c, rfl, hc, hr⟩ := hv
 have e1 : v2 = .string (B sep) := hv2
 have e2 : us2 = [] := hus
 subst e1 e2
 rcases Nat.eq_zero_or_pos L.length with h0 | hpos
 · have : L = [] := List.eq_nil_of_length_eq_zero h0
   subst this
   refine (Tryz.strings_Join_none A c (B sep) w).mono ?_
   rintro e w' ⟨rfl, rfl⟩
   exact ⟨_, rfl, Go.RowKit.Below.refl _ _, fun _ _ => rfl⟩
 · rcases hr with hr | ⟨b, o, rfl, hb, hr⟩
   · omega
   · have hsep : (B sep).data.toList = sep := B_data sep
     have := Tryz.strings_Join b o c (L.map B) (B sep) w (fun j x hx => ?_) (hok b hb) (by simp; omega) (by simpa using hc) (by rw [map_B, hsep]; exact hlen)
     · rw [map_B, hsep, List.length_map] at this
       refine this.mono ?_
       rintro e w' ⟨rfl, hbel⟩
       exact ⟨_, rfl, hbel, fun _ _ => rfl⟩
     · have hj : j < L.length := by
        rcases Nat.lt_or_ge j L.length with h | h
        · exact h
        · rw [List.getElem?_eq_none (by simpa using h)] at hx; cases hx
       have hx' : x = B (ix L j) := by simp [hj] at hx; rw [ix_lt hj, hx]
       subst hx'
       obtain ⟨ws, hl, hrv, hcell⟩ := hr j hj
       obtain ⟨u, us, rfl, h1, h2⟩ := hrv
       have e1 : u = .string (B (ix L j)) := h1
       have := hcell 0 (by omega)
       simp only [Nat.mul_one, Nat.add_zero, List.getElem?_cons_zero] at this
       rw [this, e1]
theorem one_digit {n : Int} {k : Nat} (h : n = 48 + k) (hk : k < 10) : strOfNums [n] = B [UInt8.ofNat (48 + k)] := by
 subst h
 have : (48 + (k : Int)).toNat = 48 + k := by omega
 simp [strOfNums, B, this]
theorem digits_nat : ∀ (u : Nat), u ≤ 9223372036854775807 → VFn Tryz.prog 206 [.int .i64 (u : Int)] (.str (B (Lib.decDigits u))) := by
 intro u
 induction u using Nat.strongRecOn with
 | _ u ih =>
   intro hu
   refine VFn.introC Tryz.call206 Tryz.func206 rfl rfl ?_
   refine Grd.intro (fun h1 => ?_) (fun h1 => ?_)
   · have h10 : u < 10 := by simp at h1; omega
     refine And.intro (inI64 (by omega) (by omega)) ?_
     refine And.intro (show inI .u8 (48 + (u : Int)) from ⟨show (0 : Int) ≤ _ by omega, show _ ≤ (255 : Int) by omega⟩) ?_
     refine And.intro (fun i hi => ?_) ?_
     · have : i = 0 := by omega
       subst this; rfl
     exact And.intro trivial (AVle.of_eq (congrArg AV.str (show strOfNums [48 + (u : Int)] = B (Lib.decDigits u) by rw [one_digit rfl h10, Lib.decDigits, dif_pos h10])))
   · have h10 : ¬ u < 10 := by simp at h1; omega
     have hd : (u : Int).tdiv 10 = ((u / 10 : Nat) : Int) := by rw [Int.tdiv_eq_ediv_of_nonneg (by omega)]; simp
     have hm : (u : Int).tmod 10 = ((u % 10 : Nat) : Int) := by rw [Int.tmod_eq_emod_of_nonneg (by omega)]; simp
     refine DrawC.mq 11 rfl (by kernel_rfl) ?_
     refine And.intro ⟨by decide, by rw [hd]; exact inI64 (by omega) (by omega)⟩ ?_
     refine PCallQ.sca (.str (B (Lib.decDigits (u / 10)))) (show VFn Tryz.prog 206 [.int .i64 ((u : Int).tdiv 10)] _ from hd ▸ ih (u / 10) (by omega) (by omega)) rfl ?_
     refine And.intro (by decide) ?_
     refine And.intro (inI64 (by omega) (by omega)) ?_
     refine And.intro (show inI .u8 (48 + (u : Int).tmod 10) from ⟨show (0 : Int) ≤ _ by omega, show _ ≤ (255 : Int) by omega⟩) ?_
     refine And.intro (fun i hi => ?_) ?_
     · have : i = 0 := by omega
       subst this; rfl
     have hl := dd_len 19 (u / 10) (by simp; omega)
     refine And.intro (show (((B (Lib.decDigits (u / 10))).size + (strOfNums [48 + (u : Int).tmod 10]).size : Nat) : Int) ≤ 9223372036854775807 by rw [B_size, strOfNums_size]; simp; omega) ?_
     exact And.intro trivial (AVle.of_eq (congrArg AV.str (show B (Lib.decDigits (u / 10)) ++ strOfNums [48 + (u : Int).tmod 10] = B (Lib.decDigits u) by
      rw [one_digit (k := u % 10) (by rw [hm]) (by omega), B_app]; conv => rhs; rw [Lib.decDigits, dif_neg h10])))
theorem digits_fn (n : Int) (h0 : -9223372036854775807 ≤ n) (h1 : n ≤ 9223372036854775807) : VFn Tryz.prog 206 [.int .i64 n] (.str (B (Lib.itoa n))) := by
 by_cases hn : n < 0
 · obtain ⟨u, rfl⟩ : ∃ u : Nat, n = -(u : Int) := ⟨n.natAbs, by omega⟩
   refine VFn.introC Tryz.call206 Tryz.func206 rfl rfl ?_
   refine Grd.intro (fun h => absurd (of_decide_eq_true h) (by omega)) (fun _ => ?_)
   refine Grd.intro (fun _ => ?_) (fun h => absurd (of_decide_eq_false h) (by omega))
   refine And.intro (inI64 (by omega) (by omega)) ?_
   have hneg : - -(u : Int) = u := by omega
   refine CallC.sca (.str (B (Lib.decDigits u))) (show VFn Tryz.prog 206 [.int .i64 (- -(u : Int))] _ from hneg.symm ▸ digits_nat u (by omega)) rfl ?_
   have hl := dd_len 19 u (by simp; omega)
   refine And.intro (show (((B [45]).size + (B (Lib.decDigits u)).size : Nat) : Int) ≤ 9223372036854775807 by rw [B_size, B_size]; simp; omega) ?_
   exact And.intro trivial (AVle.of_eq (congrArg AV.str (show B [45] ++ B (Lib.decDigits u) = B (Lib.itoa (-(u : Int))) by rw [B_app, Lib.itoa_neg u (by omega)]; rfl)))
 · obtain ⟨u, rfl⟩ : ∃ u : Nat, n = (u : Int) := ⟨n.toNat, by omega⟩
   rw [Lib.itoa_nonneg]
   exact digits_nat u (by omega)
theorem join_snoc (s y : List UInt8) : ∀ l : List (List UInt8), l ≠ [] → Lib.join (l ++ [y]) s = Lib.join l s ++ (s ++ y)
 | [], h => absurd rfl h
 | x :: r, _ => by
   rw [List.cons_append, Lib.join_cons, Lib.join_cons]
   simp [Lib.joinTail]
theorem join_take {L : List (List UInt8)} {s : List UInt8} {i : Nat} (h : i < L.length) :
 Lib.join (L.take (i + 1)) s = (if 0 < i then Lib.join (L.take i) s ++ s else Lib.join (L.take i) s) ++ ix L i := by
 rw [take_snoc h]
 split
 · rename_i h0
   rw [join_snoc _ _ _ (fun e => by have := congrArg List.length e; rw [List.length_take] at this; simp only [List.length_nil] at this; omega), List.append_assoc]
 · have : i = 0 := by omega
   subst this
   simp [Lib.join_one, Lib.join_nil]
theorem join_take_len {L : List (List UInt8)} {s : List UInt8} : ∀ {k i : Nat}, i + k = L.length → (Lib.join (L.take i) s).length ≤ (Lib.join L s).length
 | 0, i, h => by rw [List.take_of_length_le (by omega)]; exact Nat.le_refl _
 | k + 1, i, h => by
   have h1 := join_take_len (L := L) (s := s) (k := k) (i := i + 1) (by omega)
   rw [join_take (by omega)] at h1
   split at h1 <;> simp only [List.length_append] at h1 <;> omega
theorem join_take_le {L : List (List UInt8)} {s : List UInt8} {i : Nat} (h : i ≤ L.length) : (Lib.join (L.take i) s).length ≤ (Lib.join L s).length := join_take_len (k := L.length - i) (by omega)
theorem join_len {m c : Nat} : ∀ {L : List (List UInt8)} {s : List UInt8}, (∀ x ∈ L, x.length ≤ m) → s.length ≤ c → (Lib.join L s).length ≤ (m + c) * L.length := by
 intro L s h hs
 have key : ∀ i, i ≤ L.length → (Lib.join (L.take i) s).length ≤ (m + c) * i := by
  intro i
  induction i with
  | zero => intro _; simp [Lib.join_nil]
  | succ i ih =>
    intro hi
    have := ih (by omega)
    have hx := h _ (getD_mem (L := L) (i := i) (by omega))
    rw [join_take (by omega), Nat.mul_add, Nat.mul_one]
    split <;> simp only [List.length_append] <;> omega
 have := key L.length (Nat.le_refl _)
 rwa [List.take_of_length_le (Nat.le_refl _)] at this
theorem l00Join_fn (L : List (List UInt8)) (s : List UInt8) (hlen : (Lib.join L s).length ≤ 140737488355328) (hn : L.length ≤ 1000000000) :
 VFn Tryz.prog 207 [txts L, .str (B s)] (.str (B (Lib.join L s))) := by
 refine VFn.introC Tryz.call207 Tryz.func207 rfl rfl ?_
 refine LoopC.mk (fun i : Nat => i ≤ L.length) (fun i => [(0, txts L), (1, .str (B s)), (5, .str (B (Lib.join (L.take i) s))), (6, .int .i64 i)]) (fun _ => []) 0 (fun i => L.length - i) 0
  ⟨Nat.zero_le _, [], rfl, rfl, ⟨AVle.refl _, AVle.refl _, AVle.refl _, AVle.refl _, trivial⟩, trivial⟩ ?_
 intro i hi
 refine Grd.intro (fun h2 => ?_) (fun h2 => ?_)
 · have hin : i < L.length := by simp at h2; omega
   have h1 := join_take_le (L := L) (s := s) (i := i + 1) hin
   rw [join_take hin] at h1
   refine Grd.intro (fun h3 => ?_) (fun h3 => ?_)
   · have hp : 0 < i := by simp at h3; omega
     rw [if_pos hp, List.length_append, List.length_append] at h1
     refine And.intro (show (((B (Lib.join (L.take i) s)).size + (B s).size : Nat) : Int) ≤ 9223372036854775807 by rw [B_size, B_size]; omega) ?_
     refine And.intro (by omega) ?_
     refine And.intro (show ((((B (Lib.join (L.take i) s)) ++ (B s)).size + (B (ix L i)).size : Nat) : Int) ≤ 9223372036854775807 by rw [B_app, B_size, B_size, List.length_append]; omega) ?_
     refine And.intro (inI64 (by omega) (by omega)) ?_
     exact ⟨i + 1, hin, by omega, [], rfl, rfl, ⟨AVle.refl _, AVle.refl _, AVle.of_eq (congrArg AV.str (show B (Lib.join (L.take i) s) ++ B s ++ B (ix L i) = B (Lib.join (L.take (i + 1)) s) by rw [B_app, B_app, join_take hin, if_pos hp])), AVle.of_eq (congrArg (AV.int .i64) (by simp)), trivial⟩, trivial⟩
   · have hp : ¬ 0 < i := by simp at h3; omega
     rw [if_neg hp, List.length_append] at h1
     refine And.intro (by omega) ?_
     refine And.intro (show (((B (Lib.join (L.take i) s)).size + (B (ix L i)).size : Nat) : Int) ≤ 9223372036854775807 by rw [B_size, B_size]; omega) ?_
     refine And.intro (inI64 (by omega) (by omega)) ?_
     exact ⟨i + 1, hin, by omega, [], rfl, rfl, ⟨AVle.refl _, AVle.refl _, AVle.of_eq (congrArg AV.str (show B (Lib.join (L.take i) s) ++ B (ix L i) = B (Lib.join (L.take (i + 1)) s) by rw [B_app, join_take hin, if_neg hp])), AVle.of_eq (congrArg (AV.int .i64) (by simp)), trivial⟩, trivial⟩
 · have : i = L.length := by simp at h2; omega
   subst this
   exact And.intro trivial (AVle.of_eq (congrArg AV.str (show B (Lib.join (L.take L.length) s) = _ by rw [List.take_of_length_le (Nat.le_refl _)])))
abbrev ints (N : List Int) : AV := .sl 1 N.length fun i => [.int .i64 (ix N i)]
theorem itoas_len {N : List Int} {s : List UInt8} (hN : ∀ x ∈ N, -9223372036854775808 ≤ x ∧ x ≤ 9223372036854775807) {c : Nat} (hs : s.length ≤ c) : (Lib.join (N.map Lib.itoa) s).length ≤ (21 + c) * N.length := by
 have := join_len (m := 21) (c := c) (L := N.map Lib.itoa) (s := s) (fun x hx => by
  obtain ⟨y, hy, rfl⟩ := List.mem_map.1 hx
  exact itoa_len (hN y hy).1 (hN y hy).2) hs
 simpa using this
theorem l02Join_fn (N : List Int) (hn : N.length ≤ 100000000) (hN : ∀ x ∈ N, -9223372036854775807 ≤ x ∧ x ≤ 9223372036854775807) : VFn Tryz.prog 173 [ints N] (.str (B (Lib.join (N.map Lib.itoa) [44]))) := by
 have hlen := itoas_len (s := [44]) (c := 1) (fun x hx => ⟨by have := (hN x hx).1; omega, (hN x hx).2⟩) (by decide)
 refine VFn.introC Tryz.call173 Tryz.func173 rfl rfl ?_
 refine LoopC.mk (fun i : Nat => i ≤ N.length) (fun i => [(0, ints N), (3, .osl 0), (4, .int .i64 i)]) (fun i => [(0, .arr 9 1 ((N.take i).map Lib.itoa).length fun k => [.str (B (ix ((N.take i).map Lib.itoa) k))])]) 1 (fun i => N.length - i) 0
  ⟨Nat.zero_le _, [(0, 0)], rfl, rfl, ⟨AVle.refl _, AVle.refl _, AVle.refl _, trivial⟩, ⟨MOle.arr rfl fun i hi => absurd hi (Nat.not_lt_zero i), trivial⟩⟩ ?_
 intro i hi
 refine Grd.intro (fun h2 => ?_) (fun h2 => ?_)
 · have hin : i < N.length := by simp at h2; omega
   have hNi := hN _ (getD_mem hin)
   refine And.intro (by omega) ?_
   conv => whnf
   refine CallC.sca _ (digits_fn (ix N i) hNi.1 hNi.2) ?_ ?_
   · exact rfl
   refine And.intro ⟨show (((N.take i).map Lib.itoa).length + 1) * 16 ≤ 140737488355328 by simp; omega, all1 rfl⟩ ?_
   refine And.intro (inI64 (by omega) (by omega)) ?_
   refine ⟨i + 1, hin, by omega, [(2, 0)], rfl, rfl, ⟨AVle.refl _, AVle.refl _, AVle.of_eq (congrArg (AV.int .i64) (by simp)), trivial⟩, ⟨?_, trivial⟩⟩
   exact arr_next (f := fun x => [.str (B x)]) (map_take_snoc hin) rfl
 · have : i = N.length := by simp at h2; omega
   subst this
   have e : N.take N.length = N := List.take_of_length_le (Nat.le_refl _)
   rw [e]
   conv => whnf
   refine CallC.sca _ (l00Join_fn (N.map Lib.itoa) [44] (Nat.le_trans hlen (by omega)) (by simp; omega)) ?_ ?_
   · exact rfl
   exact And.intro trivial (AVle.refl _)
inductive It where
 | n (i : Int)
 | t (s : List UInt8)
instance : Inhabited It := ⟨.n 0⟩
def It.txt : It → List UInt8
 | .n i => Lib.itoa i
 | .t s => s
def It.row : It → List AV
 | .n i => [.iface 3 (.int .i64 i)]
 | .t s => [.iface 9 (.str (B s))]
def It.ok : It → Prop
 | .n i => -9223372036854775808 ≤ i ∧ i ≤ 9223372036854775807
 | .t _ => True
def itRow (L : List It) (i : Nat) : List AV := (ix L i).row
theorem joined_fn (L : List It) (s : List UInt8) (hn : L.length ≤ 100000000) (hok : ∀ x ∈ L, x.ok) (hlen : (Lib.join (L.map It.txt) s).length ≤ 140737488355328) :
 VFn Tryz.prog 187 [.str (B s), .sl 1 L.length (itRow L)] (.str (B (Lib.join (L.map It.txt) s))) := by
 refine VFn.introC Tryz.call187 Tryz.func187 rfl rfl ?_
 refine LoopC.mk (fun i : Nat => i ≤ L.length) (fun i => [(0, .str (B s)), (11, .sl 1 L.length (itRow L)), (12, .int .i64 L.length), (5, .osl 0), (13, .int .i64 i)])
  (fun i => [(0, .arr 9 1 ((L.take i).map It.txt).length fun k => [.str (B (ix ((L.take i).map It.txt) k))])]) 1 (fun i => L.length - i) 0
  ⟨Nat.zero_le _, [(0, 0)], rfl, rfl, ⟨AVle.refl _, AVle.refl _, AVle.refl _, AVle.refl _, AVle.refl _, trivial⟩, ⟨MOle.arr rfl fun i hi => absurd hi (Nat.not_lt_zero i), trivial⟩⟩ ?_
 intro i hi
 refine Grd.intro (fun h2 => ?_) (fun h2 => ?_)
 · have hin : i < L.length := by simp at h2; omega
   have hx := hok _ (getD_mem hin)
   have hrow : itRow L (Int.toNat (i : Int)) = (ix L i).row := rfl
   have htake := take_snoc hin
   refine And.intro (by omega) ?_
   generalize ix L i = x at hx hrow htake
   rw [hrow]
   cases x with
   | n m =>
     conv => whnf
     refine CallC.sca _ (Itoa_fn m hx.1 hx.2) ?_ ?_
     · exact rfl
     refine And.intro ⟨show (((L.take i).map It.txt).length + 1) * 16 ≤ 140737488355328 by simp; omega, all1 rfl⟩ ?_
     refine And.intro (inI64 (by omega) (by omega)) ?_
     refine ⟨i + 1, hin, by omega, [(2, 0)], rfl, rfl, ⟨AVle.refl _, AVle.refl _, AVle.refl _, AVle.refl _, AVle.of_eq (congrArg (AV.int .i64) (by simp)), trivial⟩, ⟨?_, trivial⟩⟩
     exact arr_next (f := fun x => [.str (B x)]) (by rw [htake, List.map_append]; rfl) rfl
   | t m =>
     refine And.intro ⟨show (((L.take i).map It.txt).length + 1) * 16 ≤ 140737488355328 by simp; omega, all1 rfl⟩ ?_
     refine And.intro (inI64 (by omega) (by omega)) ?_
     refine ⟨i + 1, hin, by omega, [(2, 0)], rfl, rfl, ⟨AVle.refl _, AVle.refl _, AVle.refl _, AVle.refl _, AVle.of_eq (congrArg (AV.int .i64) (by simp)), trivial⟩, ⟨?_, trivial⟩⟩
     exact arr_next (f := fun x => [.str (B x)]) (by rw [htake, List.map_append]; rfl) rfl
 · have : i = L.length := by simp at h2; omega
   subst this
   have e : L.take L.length = L := List.take_of_length_le (Nat.le_refl _)
   rw [e]
   conv => whnf
   refine CallC.sca _ (Join_fn (L.map It.txt) s hlen (by simp; omega)) ?_ ?_
   · exact rfl
   exact And.intro trivial (AVle.refl _)
theorem joined_of (L : List It) {n : Nat} {rows : Nat → List AV} (hr : RowsAre rows 0 (L.map It.row)) (hn : n = L.length) (s : List UInt8) (hl : L.length ≤ 100000000) (hok : ∀ x ∈ L, x.ok) (hlen : (Lib.join (L.map It.txt) s).length ≤ 140737488355328) :
 VFn Tryz.prog 187 [.str (B s), .sl 1 n rows] (.str (B (Lib.join (L.map It.txt) s))) :=
 (joined_fn L s hl hok hlen).weak (AVsle.cons (AVle.refl _) (AVsle.cons (hr.le hn) AVsle.nil)) (AVle.refl _)
theorem within_fn (n lo hi : Int) : VFn Tryz.prog 46 [.int .i64 n, .int .i64 lo, .int .i64 hi] (.bool (within n lo hi)) := by
 refine VFn.introC Tryz.call46 Tryz.func46 rfl rfl ?_
 refine Grd.intro (fun h1 => ?_) (fun h1 => ?_)
 · refine And.intro trivial (AVle.of_eq (congrArg AV.bool ?_))
   simp_all [within]
 · refine And.intro trivial (AVle.of_eq (congrArg AV.bool ?_))
   simp_all [within]; omega
theorem l01In_fn (n lo hi : Int) : VFn Tryz.prog 71 [.int .i64 n, .int .i64 lo, .int .i64 hi] (.bool (within n lo hi)) := by
 refine VFn.introC Tryz.call71 Tryz.func71 rfl rfl ?_
 refine Grd.intro (fun h1 => ?_) (fun h1 => ?_)
 · refine And.intro trivial (AVle.of_eq (congrArg AV.bool ?_))
   simp_all [within]
 · refine And.intro trivial (AVle.of_eq (congrArg AV.bool ?_))
   simp_all [within]; omega
theorem first_of (l : List (Bool × Int)) {n : Nat} {rows : Nat → List AV} (hr : FirstRows 4 3 rows 0 l) (hn : n = 2 * l.length) (hl : l.length ≤ 1000) :
 VFn Tryz.prog 30 [.sl 1 n rows] (.int .i64 (firstC l)) := by
 subst hn
 refine VFn.introC Tryz.call30 Tryz.func30 rfl rfl ?_
 refine LoopC.mk (fun i : Nat => i ≤ l.length ∧ ∀ j, j < i → (ix l j).1 = false) (fun i => [(0, .sl 1 (2 * l.length) rows), (3, .int .i64 (2 * (i : Int)))]) (fun _ => []) 0 (fun i => l.length - i) 0
  ⟨⟨Nat.zero_le _, fun j hj => absurd hj (Nat.not_lt_zero j)⟩, [], rfl, rfl, ⟨AVle.refl _, AVle.refl _, trivial⟩, trivial⟩ ?_
 rintro i ⟨hi, hf⟩
 refine And.intro (inI64 (by omega) (by omega)) ?_
 refine Grd.intro (fun h2 => ?_) (fun h2 => ?_)
 · have hin : i < l.length := by have := of_decide_eq_true h2; omega
   have hg := hr.get i hin
   have e1 : rows (Int.toNat (2 * (i : Int))) = [.iface 4 (.bool (ix l i).1)] := by rw [show Int.toNat (2 * (i : Int)) = 0 + 2 * i by omega]; exact hg.1
   have e2 : rows (Int.toNat (2 * (i : Int) + 1)) = [.iface 3 (.int .i64 (ix l i).2)] := by rw [show Int.toNat (2 * (i : Int) + 1) = 0 + (2 * i + 1) by omega]; exact hg.2
   refine And.intro (by omega) ?_
   rw [e1]
   refine Grd.intro (fun h3 => ?_) (fun h3 => ?_)
   · refine And.intro (inI64 (by omega) (by omega)) ?_
     refine And.intro (by omega) ?_
     rw [e2]
     refine And.intro trivial (AVle.of_eq (congrArg (AV.int .i64) ?_))
     rw [firstC_none hf hi]
     have : l.drop i = ix l i :: l.drop (i + 1) := drop_ix hin
     rw [this]
     show _ = bif (ix l i).1 then _ else _
     rw [show (ix l i).1 = true from h3]; rfl
   · refine And.intro (inI64 (by omega) (by omega)) ?_
     refine ⟨i + 1, ⟨hin, fun j hj => ?_⟩, by omega, [], rfl, rfl, ⟨AVle.refl _, AVle.of_eq (congrArg (AV.int .i64) (by omega)), trivial⟩, trivial⟩
     by_cases e : j = i
     · subst e; exact h3
     · exact hf j (by omega)
 · have : i = l.length := by have := of_decide_eq_false h2; omega
   subst this
   refine And.intro trivial (AVle.of_eq (congrArg (AV.int .i64) ?_))
   rw [firstC_none hf (Nat.le_refl _), List.drop_length]; rfl
structure Ag where
 c : Int
 s : Int
 mn : Int
 mx : Int
 f : Int
 l : Int
def Ag.nul (a : Ag) : Bool := decide (a.c = 0) && (decide (a.s = 0) && (decide (a.mn = 0) && (decide (a.mx = 0) && (decide (a.f = 0) && (decide (a.l = 0) && true)))))
def Ag.some (a : Ag) : Bool := within a.c 1 100000 && within a.mn (-1000000) 1000000 && within a.mx (-1000000) 1000000 && within a.f a.mn a.mx && within a.l a.mn a.mx && within a.s (a.c * a.mn) (a.c * a.mx)
def Ag.ok (a : Ag) : Bool := a.nul || a.some
theorem keyOK_bad {k : List UInt8} {i : Nat} (hi : i < k.length) (h : keyC (k.getD i 0) = false) : keyOK k = false := by
 have : k.all keyC = false := by
  rw [← Bool.not_eq_true]; intro h'
  have e : k.getD i 0 = k[i] := by simp [List.getD, hi]
  rw [e, List.all_eq_true.1 h' _ (List.getElem_mem hi)] at h; cases h
 unfold keyOK; rw [this]; rfl
theorem keyOK_all {k : List UInt8} (h : ∀ j, j < k.length → keyC (k.getD j 0) = true) : keyOK k = within k.length 1 30 := by
 have : k.all keyC = true := List.all_eq_true.2 fun x hx => by
  obtain ⟨j, hj, e⟩ := List.getElem_of_mem hx
  have := h j hj
  have e2 : k.getD j 0 = k[j] := by simp [List.getD, hj]
  rw [e2, e] at this; exact this
 unfold keyOK; rw [this]; rfl
theorem KeyOK_fn (k : List UInt8) (hk : k.length ≤ 1000000000) : VFn Tryz.prog 101 [.str (B k)] (.bool (keyOK k)) := by
 obtain ⟨R, hR⟩ : ∃ R, R = keyOK k := ⟨_, rfl⟩
 rw [← hR]
 refine VFn.introC Tryz.call101 Tryz.func101 rfl rfl ?_
 refine LoopC.mk (fun i : Nat => i ≤ k.length ∧ ∀ j, j < i → keyC (k.getD j 0) = true) (fun i => [(0, .str (B k)), (6, .int .i64 k.length), (7, .int .i64 i)]) (fun _ => []) 0 (fun i => k.length - i) 0
  ⟨⟨Nat.zero_le _, fun j hj => absurd hj (Nat.not_lt_zero j)⟩, [], rfl, rfl, ⟨AVle.refl _, AVle.refl _, AVle.refl _, trivial⟩, trivial⟩ ?_
 intro i hi
 refine Grd.intro (fun h2 => ?_) (fun h2 => ?_)
 · have hin : i < k.length := by have := of_decide_eq_true h2; omega
   refine And.intro ⟨by omega, show (i : Int) < ((B k).size : Int) by rw [B_size]; omega⟩ ?_
   have hbad : keyC (k.getD i 0) = false → false = R := fun h => by rw [hR, keyOK_bad hin h]
   have hgood : keyC (k.getD i 0) = true → ∀ j, j < i + 1 → keyC (k.getD j 0) = true := fun h j hj => by
    rcases Nat.lt_or_ge j i with h' | h'
    · exact hi.2 j h'
    · rw [show j = i by omega]; exact h
   have hx : (k.getD i 0).toNat = ((B k).data.toList.getD (i : Int).toNat 0).toNat := rfl
   generalize ((B k).data.toList.getD (i : Int).toNat 0).toNat = c at hx ⊢
   have hC : keyC (k.getD i 0) = ((decide (97 ≤ (c : Int)) && decide ((c : Int) ≤ 122)) || (decide (48 ≤ (c : Int)) && decide ((c : Int) ≤ 57)) || decide ((c : Int) = 47) || decide ((c : Int) = 45)) := by unfold keyC; rw [hx]
   rw [hC] at hbad hgood
   repeat' (first
    | refine Grd.intro (fun h => ?_) (fun h => ?_)
    | ((conv => whnf); refine Grd.intro (fun h => ?_) (fun h => ?_)))
   all_goals first
    | exact And.intro trivial (AVle.of_eq (congrArg AV.bool (hbad (by simp_all; omega))))
    | exact And.intro trivial (AVle.of_eq (congrArg AV.bool (hbad (by simp_all))))
    | (refine And.intro (inI64 (by omega) (by omega)) ?_
       exact ⟨i + 1, ⟨hin, hgood (by simp_all; omega)⟩, by omega, [], rfl, rfl, ⟨AVle.refl _, AVle.refl _, AVle.of_eq (congrArg (AV.int .i64) (by simp)), trivial⟩, trivial⟩)
    | (refine And.intro (inI64 (by omega) (by omega)) ?_
       exact ⟨i + 1, ⟨hin, hgood (by simp_all)⟩, by omega, [], rfl, rfl, ⟨AVle.refl _, AVle.refl _, AVle.of_eq (congrArg (AV.int .i64) (by simp)), trivial⟩, trivial⟩)
 · have : i = k.length := by have := of_decide_eq_false h2; omega
   subst this
   conv => whnf
   refine CallC.sca _ (within_fn _ _ _) ?_ ?_
   · exact rfl
   rw [hR, keyOK_all hi.2]
   exact And.intro trivial (AVle.of_eq (congrArg AV.bool (show within ((B k).size : Nat) 1 30 = _ by rw [B_size])))
theorem StoreOK_fn (s : Sto) (hL : s.os.length ≤ 1000000000) (hk : ∀ o ∈ s.os, o.key.length ≤ 1000000000) : VFn Tryz.prog 45 [s.av] (.bool s.ok) := by
 refine VFn.introC Tryz.call45 Tryz.func45 rfl rfl ?_
 conv => whnf
 refine CallC.sca _ (within_fn s.next 1 1000000000) ?_ ?_
 · exact rfl
 refine Grd.intro (fun h1 => ?_) (fun h1 => ?_)
 · have h1 : within s.next 1 1000000000 = false := wnot h1
   rw [show s.ok = false by unfold Sto.ok; rw [h1]; rfl]
   exact And.intro trivial (AVle.refl _)
 have h1 : within s.next 1 1000000000 = true := wyes h1
 refine Grd.intro (fun h2 => ?_) (fun h2 => ?_)
 · have h2 : ¬ s.os.length ≤ 300 := by
    have := of_decide_eq_true (show decide ((300 : Int) < (s.os.length : Int)) = true from h2); omega
   rw [show s.ok = false by unfold Sto.ok; rw [decide_eq_false h2]; simp]
   exact And.intro trivial (AVle.refl _)
 have h2 : s.os.length ≤ 300 := by
  have := of_decide_eq_false (show decide ((300 : Int) < (s.os.length : Int)) = false from h2); omega
 have hn : 1 ≤ s.next ∧ s.next ≤ 1000000000 := by simpa [within] using h1
 refine LoopC.mk (fun i : Nat => i ≤ s.os.length ∧ ∀ j, j < i → s.eOK j = true) (fun i => [(1, .bptr 0 0), (3, .omap 1), (18, obs s.os), (19, .int .i64 s.os.length), (20, .int .i64 i)]) (fun i => [(0, .box s.row), (1, .imap (s.vers i))]) 2 (fun i => s.os.length - i) 0
  ⟨⟨Nat.zero_le _, fun j hj => absurd hj (Nat.not_lt_zero j)⟩, [(0, 0), (1, 1)], rfl, rfl, ⟨AVle.refl _, AVle.refl _, AVle.refl _, AVle.refl _, AVle.refl _, trivial⟩, ⟨MOle.refl _, MOle.refl _, trivial⟩⟩ ?_
 intro i hi
 obtain ⟨hi, hall⟩ := hi
 refine Grd.intro (fun h3 => ?_) (fun h3 => ?_)
 · have hin : i < s.os.length := by have := of_decide_eq_true h3; omega
   have hbad : s.eOK i = false → s.ok = false := Sto.ok_no hin
   refine And.intro (by omega) ?_
   refine DrawC.mq 41 rfl (by kernel_rfl) ?_
   refine PCallQ.sca _ (KeyOK_fn (ix s.os i).key (hk _ (getD_mem hin))) rfl ?_
   refine Grd.intro (fun g1 => ?_) (fun g1 => ?_)
   · rw [hbad (by unfold Sto.eOK; rw [wnot g1]; rfl)]
     exact And.intro trivial (AVle.refl _)
   refine And.intro (inI64 (by omega) (by omega)) ?_
   refine PCallQ.sca _ (within_fn (ix s.os i).ver 1 (s.next - 1)) rfl ?_
   conv => whnf
   refine Grd.intro (fun g2 => ?_) (fun g2 => ?_)
   · rw [hbad (by unfold Sto.eOK; rw [show within (ix s.os i).ver 1 (s.next - 1) = false from wnot g2]; simp)]
     exact And.intro trivial (AVle.refl _)
   conv => whnf
   refine Grd.intro (fun g3 => ?_) (fun g3 => ?_)
   · have g3 : ¬ (ix s.os i).data.length ≤ 600 := by
      have := of_decide_eq_true (show decide ((600 : Int) < (((B (ix s.os i).data).size : Nat) : Int)) = true from g3)
      rw [B_size] at this; omega
     rw [hbad (by unfold Sto.eOK; rw [decide_eq_false g3]; simp)]
     exact And.intro trivial (AVle.refl _)
   conv => whnf
   refine Grd.intro (fun g4 => ?_) (fun g4 => ?_)
   · have g4 : decide ((ix s.os i).ver ∈ (s.os.take i).map (·.ver)) = true := g4
     rw [hbad (by unfold Sto.eOK; rw [g4]; simp)]
     exact And.intro trivial (AVle.refl _)
   have g4 : decide ((ix s.os i).ver ∈ s.vers i) = false := g4
   have g3 : (ix s.os i).data.length ≤ 600 := by
    have := of_decide_eq_false (show decide ((600 : Int) < (((B (ix s.os i).data).size : Nat) : Int)) = false from g3)
    rw [B_size] at this; omega
   have hpre : (decide (i = 0) || decide ((ix s.os (i - 1)).key < (ix s.os i).key)) = true → s.eOK i = true := fun h => by
    unfold Sto.eOK; rw [wyes g1, show within (ix s.os i).ver 1 (s.next - 1) = true from wyes g2, decide_eq_true g3, show decide ((ix s.os i).ver ∈ (s.os.take i).map (·.ver)) = false from g4, h]; rfl
   have hnext : s.eOK i = true → ∀ j, j < i + 1 → s.eOK j = true := fun h j hj => by
    rcases Nat.lt_or_ge j i with h' | h'
    · exact hall j h'
    · rw [show j = i by omega]; exact h
   conv => whnf
   refine Grd.intro (fun g5 => ?_) (fun g5 => ?_)
   · have h0 : 0 < i := by have := of_decide_eq_true g5; omega
     have e1 : ((i : Int) - 1).toNat = i - 1 := by omega
     refine And.intro (inI64 (by omega) (by omega)) ?_
     refine And.intro ⟨by omega, by omega⟩ ?_
     have hcmp : (!Op.bytesLess (B (ix s.os ((i : Int) - 1).toNat).key).toList (B (ix s.os i).key).toList) = !decide ((ix s.os (i - 1)).key < (ix s.os i).key) := by rw [blt_lt, e1]
     conv => whnf
     refine Grd.intro (fun g6 => ?_) (fun g6 => ?_)
     · have g6 := hcmp.symm.trans g6
       rw [hbad (by unfold Sto.eOK; rw [show decide ((ix s.os (i - 1)).key < (ix s.os i).key) = false from wnot g6, decide_eq_false (show ¬ i = 0 by omega)]; simp)]
       exact And.intro trivial (AVle.refl _)
     · have g6 := hcmp.symm.trans g6
       have he := hpre (by rw [show decide ((ix s.os (i - 1)).key < (ix s.os i).key) = true from wyes g6]; simp)
       refine And.intro (inI64 (by omega) (by omega)) ?_
       refine ⟨i + 1, ⟨hin, hnext he⟩, by omega, [(0, 0), (1, 1)], rfl, rfl, ⟨AVle.refl _, AVle.refl _, AVle.refl _, AVle.refl _, AVle.of_eq (congrArg (AV.int .i64) (by simp)), trivial⟩, ⟨MOle.refl _, MOle.of_eq (show MO.imap (if (ix s.os i).ver ∈ s.vers i then s.vers i else s.vers i ++ [(ix s.os i).ver]) = _ from ?_), trivial⟩⟩
       rw [if_neg (of_decide_eq_false g4), Sto.vers_snoc s hin]
   · have h0 : i = 0 := by have := of_decide_eq_false g5; omega
     have he := hpre (by rw [decide_eq_true h0]; rfl)
     refine And.intro (inI64 (by omega) (by omega)) ?_
     refine ⟨i + 1, ⟨hin, hnext he⟩, by omega, [(0, 0), (1, 1)], rfl, rfl, ⟨AVle.refl _, AVle.refl _, AVle.refl _, AVle.refl _, AVle.of_eq (congrArg (AV.int .i64) (by simp)), trivial⟩, ⟨MOle.refl _, MOle.of_eq (show MO.imap (if (ix s.os i).ver ∈ s.vers i then s.vers i else s.vers i ++ [(ix s.os i).ver]) = _ from ?_), trivial⟩⟩
     rw [if_neg (of_decide_eq_false g4), Sto.vers_snoc s hin]
 · have : i = s.os.length := by have := of_decide_eq_false h3; omega
   subst this
   rw [Sto.ok_yes h1 h2 hall]
   exact And.intro trivial (AVle.refl _)
theorem CloneOb_own (L : List Ob) (hL : L.length ≤ 1000000) : FnM Tryz.prog 153 0 [obs L] [] (.osl 0) [(0, .arr 93 3 L.length fun i => (ix L i).row)] 1 := by
 refine FnM.introN Tryz.call153 Tryz.func153 rfl rfl ?_
 conv => whnf
 refine OpC.isnil rfl rfl rfl rfl rfl (fun h0 => ?_) ?_
 · conv => whnf
   exact ⟨_, .inr ⟨2, 93, 3, fun i => (ix L i).row, rfl, rfl⟩, And.intro trivial ⟨[(0, 0)], rfl, AVle.refl _, ⟨MOle.arr h0.symm fun i hi => rfl, trivial⟩⟩⟩
 · conv => whnf
   refine And.intro ⟨show (0 + L.length) * 40 ≤ 140737488355328 by omega, fun i hi => rfl⟩ ?_
   conv => whnf
   exact ⟨_, .inl rfl, And.intro trivial ⟨[(1, 0)], rfl, AVle.refl _, ⟨MOle.arr (Nat.zero_add _) fun i hi => appRows_ge (Nat.zero_le _), trivial⟩⟩⟩
theorem cmp_lt : ∀ a b : List UInt8, decide (Lib.compareBytes a b < 0) = decide (a < b)
 | [], [] => by simp [Lib.compareBytes]
 | [], _ :: _ => by simp [Lib.compareBytes]
 | _ :: _, [] => by simp [Lib.compareBytes]
 | x :: a, y :: b => by
   have ih := cmp_lt a b
   unfold Lib.compareBytes
   by_cases h1 : x < y
   · simp [h1, List.cons_lt_cons_iff]
   · by_cases h2 : y < x
     · have : ¬ x = y := fun e => by subst e; exact h1 h2
       simp only [List.cons_lt_cons_iff]; simp [h1, h2, this]
     · have : x = y := UInt8.le_antisymm (UInt8.not_lt.1 h2) (UInt8.not_lt.1 h1)
       subst this
       simp only [List.cons_lt_cons_iff]; simp [h1, ih]
theorem cmp_eq : ∀ a b : List UInt8, decide (Lib.compareBytes a b = 0) = decide (a = b)
 | [], [] => by simp [Lib.compareBytes]
 | [], _ :: _ => by simp [Lib.compareBytes]
 | _ :: _, [] => by simp [Lib.compareBytes]
 | x :: a, y :: b => by
   have ih := cmp_eq a b
   unfold Lib.compareBytes
   by_cases h1 : x < y
   · have : ¬ x = y := fun e => by subst e; exact UInt8.lt_irrefl _ h1
     simp [h1, this]
   · by_cases h2 : y < x
     · have : ¬ x = y := fun e => by subst e; exact h1 h2
       simp [h1, h2, this]
     · have : x = y := UInt8.le_antisymm (UInt8.not_lt.1 h2) (UInt8.not_lt.1 h1)
       subst this
       simp [h1]
       simpa using ih
theorem Compare_fn (a b : List UInt8) : VFn Tryz.prog 148 [.str (B a), .str (B b)] (.int .i64 (Lib.compareBytes a b)) := by
 refine VFn.lib Tryz.call148 fun w ok vs hJ hok hv => ?_
 obtain ⟨v, us, rfl, hv, v2, us2, rfl, hv2, hus⟩ := hv
 have e1 : v = .string (B a) := hv
 have e2 : v2 = .string (B b) := hv2
 have e3 : us2 = [] := hus
 subst e1 e2 e3
 refine (Tryz.strings_Compare (B a) (B b) w).mono ?_
 rintro e w' ⟨rfl, rfl⟩
 exact ⟨_, rfl, Go.RowKit.Below.refl _ _, fun _ _ => by rw [B_data, B_data]; rfl⟩
theorem find1_fn (o : Ob) (k : List UInt8) : VFn Tryz.prog 147 [o.av, .str (B k)] (.int .i64 (Lib.compareBytes o.key k)) := by
 refine VFn.introC Tryz.call147 Tryz.func147 rfl rfl ?_
 conv => whnf
 refine CallC.sca _ (Compare_fn o.key k) ?_ ?_
 · exact rfl
 exact And.intro trivial (AVle.refl _)
theorem Search_fn (L : List Ob) (hS : Srt L) (hL : L.length ≤ 1000000) (k : List UInt8) : VFn Tryz.prog 146 [obs L, .str (B k), .fn (.func 147) [] []] (.tup [.int .i64 (lb k L), .bool (hasK k L)]) := by
 have hle := lb_le k L
 refine VFn.introC Tryz.call146 Tryz.func146 rfl rfl ?_
 refine LoopC.mk (fun p : Nat × Nat => p.1 ≤ lb k L ∧ lb k L ≤ p.2 ∧ p.2 ≤ L.length) (fun p => [(0, obs L), (1, .str (B k)), (2, .fn (.func 147) [] []), (6, .int .i64 0), (7, .bool false), (8, .int .i64 L.length), (9, .int .i64 p.1), (10, .int .i64 p.2)]) (fun _ => []) 0 (fun p => p.2 - p.1) (0, L.length)
  ⟨⟨Nat.zero_le _, hle, Nat.le_refl _⟩, [], rfl, rfl, ⟨AVle.refl _, AVle.refl _, AVle.refl _, AVle.refl _, AVle.refl _, AVle.refl _, AVle.refl _, AVle.refl _, trivial⟩, trivial⟩ ?_
 rintro ⟨i, j⟩ hp
 obtain ⟨h1, h2, h3⟩ := hp
 simp only at h1 h2 h3
 refine Grd.intro (fun g1 => ?_) (fun g1 => ?_)
 · have hij : i < j := by have := of_decide_eq_true g1; omega
   have eh : ((i : Int) + (j : Int)) / 2 = (((i + j) / 2 : Nat) : Int) := by omega
   refine And.intro (inI64 (by omega) (by omega)) ?_
   refine And.intro (show inI .u64 ((i : Int) + (j : Int)) from ⟨show (0 : Int) ≤ _ by omega, show _ ≤ (18446744073709551615 : Int) by omega⟩) ?_
   refine And.intro ⟨by omega, by omega, rfl⟩ ?_
   rw [eh]
   obtain ⟨h, hh⟩ : ∃ h, h = (i + j) / 2 := ⟨_, rfl⟩
   rw [← hh]
   have hi : i ≤ h := by omega
   have hj : h < j := by omega
   refine And.intro (inI64 (by omega) (by omega)) ?_
   refine And.intro ⟨by omega, by omega⟩ ?_
   conv => whnf
   refine CallC.sca _ (find1_fn (ix L h) k) ?_ ?_
   · exact rfl
   have hc : decide (Lib.compareBytes (ix L h).key k < 0) = decide (h < lb k L) := by rw [cmp_lt]; exact decide_eq_decide.2 (hS.iff (by omega))
   refine Grd.intro (fun g2 => ?_) (fun g2 => ?_)
   · have g2 : h < lb k L := of_decide_eq_true (hc.symm.trans g2)
     refine And.intro (inI64 (by omega) (by omega)) ?_
     exact ⟨(h + 1, j), ⟨by simp only; omega, by simp only; omega, by simp only; omega⟩, by simp only; omega, [], rfl, rfl, ⟨AVle.refl _, AVle.refl _, AVle.refl _, AVle.refl _, AVle.refl _, AVle.refl _, AVle.of_eq (congrArg (AV.int .i64) (by simp)), AVle.refl _, trivial⟩, trivial⟩
   · have g2 : ¬ h < lb k L := of_decide_eq_false (hc.symm.trans g2)
     exact ⟨(i, h), ⟨by simp only; omega, by simp only; omega, by simp only; omega⟩, by simp only; omega, [], rfl, rfl, ⟨AVle.refl _, AVle.refl _, AVle.refl _, AVle.refl _, AVle.refl _, AVle.refl _, AVle.refl _, AVle.refl _, trivial⟩, trivial⟩
 · have hij : j ≤ i := by have := of_decide_eq_false g1; omega
   have e1 : i = lb k L := by omega
   subst e1
   refine Grd.intro (fun g2 => ?_) (fun g2 => ?_)
   · have g2 : lb k L < L.length := by have := of_decide_eq_true g2; omega
     refine And.intro ⟨by omega, by omega⟩ ?_
     conv => whnf
     refine CallC.sca _ (find1_fn (ix L (lb k L)) k) ?_ ?_
     · exact rfl
     refine And.intro trivial (AVle.of_eq (congrArg (fun b => AV.tup [.int .i64 (lb k L), .bool b]) (show decide (Lib.compareBytes (ix L (lb k L)).key k = 0) = _ from ?_)))
     rw [cmp_eq]; unfold hasK; rw [decide_eq_true g2]; rfl
   · have g2 : ¬ lb k L < L.length := by have := of_decide_eq_false g2; omega
     refine And.intro trivial (AVle.of_eq (congrArg (fun b => AV.tup [.int .i64 (lb k L), .bool b]) (show false = _ from ?_)))
     unfold hasK; rw [decide_eq_false g2]; rfl
theorem find_fn (s : Sto) (hs : s.ok = true) (k : List UInt8) : VFn Tryz.prog 75 [s.av, .str (B k)] (.tup [.int .i64 (s.pos k), .bool (s.has k)]) := by
 have hL := (Sto.ok_at hs).2.1
 refine VFn.introC Tryz.call75 Tryz.func75 rfl rfl ?_
 conv => whnf
 refine CallC.sca _ (Search_fn s.os (Sto.srt hs) (by omega) k) ?_ ?_
 · exact rfl
 exact And.intro trivial (AVle.refl _)
theorem get_fn (s : Sto) (hs : s.ok = true) (k : List UInt8) : VFn Tryz.prog 115 [s.av, .str (B k)] (if s.has k = true then .tup [.str (B (s.get k).data), .bool true] else .tup [.str (B []), .bool false]) := by
 by_cases h : s.has k = true
 · rw [if_pos h]
   have hp := (hasK_at h).1
   have c := find_fn s hs k
   rw [h] at c
   refine VFn.introC Tryz.call115 Tryz.func115 rfl rfl ?_
   conv => whnf
   refine CallC.sca _ (c) ?_ ?_
   · exact rfl
   refine And.intro ⟨by omega, show ((lb k s.os : Nat) : Int) < (s.os.length : Int) by omega⟩ ?_
   exact And.intro trivial (AVle.refl _)
 · rw [if_neg h]
   have c := find_fn s hs k
   rw [show s.has k = false by simpa using h] at c
   refine VFn.introC Tryz.call115 Tryz.func115 rfl rfl ?_
   conv => whnf
   refine CallC.sca _ (c) ?_ ?_
   · exact rfl
   exact And.intro trivial (AVle.refl _)
theorem copied_own (s : Sto) (hL : s.os.length ≤ 1000000) : FnM Tryz.prog 78 0 [s.av] [] s.own [(0, .arr 93 3 s.os.length fun i => (ix s.os i).row)] 1 := by
 refine FnM.introC Tryz.call78 Tryz.func78 rfl rfl ?_
 refine DrawC.mq 6 rfl (by kernel_rfl) ?_
 conv => whnf
 refine PCallQ.own (CloneOb_own s.os hL) rfl (fun i hi => rfl) ?_
 exact And.intro trivial ⟨[(4, 0)], rfl, AVle.refl _, ⟨MOle.refl _, trivial⟩⟩
def insR (i : Nat) (rows r1 : Nat → List AV) (j : Nat) : List AV := if j < i then rows j else if j = i then r1 0 else rows (j - 1)
theorem Insert_own (n i : Nat) (rows r1 : Nat → List AV) (hn : n ≤ 1000000) (hi : i ≤ n) (h1 : ∀ j, j < n → (rows j).all AV.one = true) (h2 : (r1 0).all AV.one = true) :
 FnM Tryz.prog 215 2 [.osl 0, .int .i64 i, .osl 1] [(0, .arr 93 3 n rows), (1, .arr 93 3 1 r1)] (.osl 2) [(2, .arr 93 3 (n + 1) (insR i rows r1))] 3 := by
 refine FnM.introC Tryz.call215 Tryz.func215 rfl rfl ?_
 refine And.intro ⟨by omega, by omega⟩ ?_
 refine Grd.intro (fun g1 => ?_) (fun g1 => ?_)
 · have e : i = n := by have := of_decide_eq_true g1; omega
   subst e
   refine And.intro ⟨show (i + 1) * 40 ≤ 140737488355328 by omega, all1 h2⟩ ?_
   exact And.intro trivial ⟨[(0, 0), (1, 1), (2, 2)], rfl, AVle.refl _, ⟨MOle.arr rfl fun j hj => by
    unfold insR
    by_cases hji : j < i
    · rw [appRows_lt hji, if_pos hji]
    · have : j = i := by omega
      subst this
      rw [appRows_ge (Nat.le_refl _), if_neg hji, if_pos rfl, Nat.sub_self], trivial⟩⟩
 have hin : i < n := by have := of_decide_eq_false g1; omega
 refine And.intro (inI64 (by omega) (by omega)) ?_
 conv => whnf
 refine OpC.cap rfl rfl rfl rfl rfl (fun c hc hcm => ?_)
 refine Grd.intro (fun g2 => ?_) (fun g2 => ?_)
 · have g2 : c < n + 1 := by have := of_decide_eq_true g2; omega
   conv => whnf
   refine OpC.headc rfl rfl rfl rfl rfl rfl rfl ⟨by omega, by omega⟩ ?_
   refine And.intro (inI64 (by omega) (by omega)) ?_
   refine And.intro (inI64 (by omega) (by omega)) ?_
   conv => whnf
   refine OpC.appz (q := n + 1 - i) rfl rfl rfl rfl rfl rfl rfl rfl rfl (by show ((n : Int) + 1 - i) = _; omega) (by omega) (by show c < (i : Int).toNat + (n + 1 - i); omega) (show ((i : Int).toNat + (n + 1 - i)) * 40 ≤ 140737488355328 by omega) ?_
   refine And.intro ⟨by omega, by omega⟩ ?_
   conv => whnf
   refine OpC.copy rfl rfl rfl rfl rfl rfl rfl (by show 1 ≤ (i : Int).toNat + (n + 1 - i) - (i : Int).toNat; omega) (Nat.le_refl _) (fun j hj => ?_) ?_
   · have : j = 0 := by have : Nat.min 1 ((i : Int).toNat + (n + 1 - i) - (i : Int).toNat) ≤ 1 := Nat.min_le_left _ _; omega
     subst this; exact h2
   refine DrawC.mq 8 rfl (by kernel_rfl) ?_
   refine And.intro (inI64 (by omega) (by omega)) ?_
   conv => whnf
   refine And.intro ⟨by omega, by omega⟩ ?_
   conv => whnf
   refine And.intro ⟨by omega, by omega⟩ ?_
   conv => whnf
   refine OpC.copy rfl rfl rfl rfl rfl rfl rfl (by show 1 ≤ (i : Int).toNat + (n + 1 - i) - ((i : Int) + ((1 : Nat) : Int)).toNat; omega) (by show 1 ≤ n - (i : Int).toNat; omega) (fun j hj => ?_) ?_
   · have : Nat.min (n - (i : Int).toNat) ((i : Int).toNat + (n + 1 - i) - ((i : Int) + ((1 : Nat) : Int)).toNat) ≤ n - (i : Int).toNat := Nat.min_le_left _ _
     exact h1 _ (by omega)
   refine And.intro trivial ⟨[(0, 0), (1, 1), (2, 2)], rfl, AVle.refl _, ⟨MOle.arr (by omega) fun j hj => ?_, trivial⟩⟩
   have e1 : Nat.min 1 ((i : Int).toNat + (n + 1 - i) - (i : Int).toNat) = 1 := Nat.min_eq_left (by omega)
   have e2 : Nat.min (n - (i : Int).toNat) ((i : Int).toNat + (n + 1 - i) - ((i : Int) + ((1 : Nat) : Int)).toNat) = n - i := (Nat.min_eq_left (by omega)).trans (by omega)
   have e3 : (i : Int).toNat = i := by omega
   have e4 : ((i : Int) + ((1 : Nat) : Int)).toNat = i + 1 := by omega
   have hj : j < n + 1 := by omega
   simp only [e1, e2]
   simp only [e3, e4]
   unfold insR
   by_cases c1 : j < i
   · rw [blt_t (show j < i + 1 by omega), blt_t c1, if_pos c1]
     simp only [cond_true, blt_t c1]
   · by_cases c2 : j = i
     · subst c2
       rw [blt_t (Nat.lt_succ_self j), blt_f (Nat.le_refl _), if_neg c1, if_pos rfl]
       simp [blt_t (Nat.lt_succ_self j)]
     · rw [blt_f (show i + 1 ≤ j by omega), blt_t (show j < i + 1 + (n - i) by omega), if_neg c1, if_neg c2]
       simp only [cond_true, cond_false]
       congr 1; omega
 · have g2 : n + 1 ≤ c := by have := of_decide_eq_false g2; omega
   refine And.intro (inI64 (by omega) (by omega)) ?_
   conv => whnf
   refine OpC.grow rfl rfl rfl rfl rfl rfl rfl ⟨by omega, by omega⟩ ?_
   refine And.intro (inI64 (by omega) (by omega)) ?_
   refine And.intro ⟨by omega, by omega⟩ ?_
   conv => whnf
   refine CallC.overlaps Tryz.func243 (by kernel_rfl) (by kernel_rfl) (by kernel_rfl) (tS := 23) (tR := 4) (sz := 3) (by kernel_rfl) rfl rfl (by decide) rfl rfl rfl (Nat.le_refl _) (by omega) rfl ?_
   conv => whnf
   refine DrawC.mq 8 rfl (by kernel_rfl) ?_
   refine And.intro (inI64 (by omega) (by omega)) ?_
   conv => whnf
   refine And.intro ⟨by omega, by omega⟩ ?_
   conv => whnf
   refine And.intro ⟨by omega, by omega⟩ ?_
   conv => whnf
   have m1 : Nat.min (((n : Int) + ((1 : Nat) : Int)).toNat - (i : Int).toNat) (((n : Int) + ((1 : Nat) : Int)).toNat - ((i : Int) + ((1 : Nat) : Int)).toNat) = n - i := (Nat.min_eq_right (by omega)).trans (by omega)
   have m2 : Nat.min 1 (((n : Int) + ((1 : Nat) : Int)).toNat - (i : Int).toNat) = 1 := Nat.min_eq_left (by omega)
   refine OpC.copy rfl rfl rfl rfl rfl rfl rfl (by show 1 ≤ ((n : Int) + ((1 : Nat) : Int)).toNat - ((i : Int) + ((1 : Nat) : Int)).toNat; omega) (by show 1 ≤ ((n : Int) + ((1 : Nat) : Int)).toNat - (i : Int).toNat; omega) (fun j hj => ?_) ?_
   · have hj : j < n - i := by rw [← m1]; exact hj
     dsimp only
     rw [blt_t (show (i : Int).toNat + j < n by omega)]
     exact h1 _ (by omega)
   refine And.intro ⟨by omega, by omega⟩ ?_
   conv => whnf
   refine OpC.copy rfl rfl rfl rfl rfl rfl rfl (by show 1 ≤ ((n : Int) + ((1 : Nat) : Int)).toNat - (i : Int).toNat; omega) (Nat.le_refl _) (fun j hj => ?_) ?_
   · have hj : j < 1 := by rw [← m2]; exact hj
     have : j = 0 := by omega
     subst this; exact h2
   refine And.intro trivial ⟨[(0, 0), (1, 1), (2, 2)], rfl, AVle.refl _, ⟨MOle.arr (by omega) fun j hj => ?_, trivial⟩⟩
   have e3 : (i : Int).toNat = i := by omega
   have e4 : ((i : Int) + ((1 : Nat) : Int)).toNat = i + 1 := by omega
   have e5 : ((n : Int) + ((1 : Nat) : Int)).toNat = n + 1 := by omega
   have hj : j < n + 1 := by omega
   simp only [m1, m2]
   simp only [e3, e4, e5]
   unfold insR
   by_cases c1 : j < i
   · rw [if_pos c1]
     simp only [cond_true, blt_t c1, blt_t (show j < i + 1 by omega), blt_t (show j < n by omega)]
   · by_cases c2 : j = i
     · subst c2
       rw [if_neg c1, if_pos rfl]
       simp [blt_f (Nat.le_refl j), blt_t (Nat.lt_succ_self j)]
     · rw [if_neg c1, if_neg c2]
       simp only [cond_true, cond_false, blt_f (show i ≤ j by omega), blt_f (show i + 1 ≤ j by omega), blt_t (show j < i + 1 + (n - i) by omega), blt_t (show i + (j - (i + 1)) < n by omega)]
       congr 1; omega
theorem first_room (s : Sto) (k d : List UInt8) (x : Bool) (hx : ((!s.has k && decide (s.os.length = 300)) || decide (s.next = 1000000000)) = x) {n : Nat} {rows : Nat → List AV} (hr : FirstRows 4 3 rows 0 [(decide ((600 : Int) < (((B d).size : Nat) : Int)), 8), (x, 7)]) (hn : n = 4) :
 VFn Tryz.prog 30 [.sl 1 n rows] (.int .i64 (s.room k d)) := by
 have e : firstC [(decide ((600 : Int) < (((B d).size : Nat) : Int)), 8), (x, 7)] = s.room k d := by
  unfold Sto.room
  rw [hx, B_size]
  unfold firstC firstC firstC
  by_cases h1 : 600 < d.length
  · rw [if_pos h1, decide_eq_true (show (600 : Int) < (d.length : Int) by omega)]; rfl
  · rw [if_neg h1, decide_eq_false (show ¬ (600 : Int) < (d.length : Int) by omega)]
    cases x <;> rfl
 rw [← e]
 exact first_of _ hr hn (show 2 ≤ 1000 by decide)
theorem set_ix (s : Sto) (k d : List UInt8) {j : Nat} (hj : j < (s.set k d).os.length) : ix (s.set k d).os j = if j < s.pos k then ix s.os j else if j = s.pos k then ⟨k, s.next, d⟩ else ix s.os (if s.has k = true then j else j - 1) := by
 have hl : s.pos k ≤ s.os.length := lb_le k s.os
 have ht : (s.os.take (s.pos k)).length = s.pos k := by simp; omega
 rw [Sto.set_len] at hj
 have hlen : (s.os.take (s.pos k)).length + ((⟨k, s.next, d⟩ :: s.os.drop (if s.has k = true then s.pos k + 1 else s.pos k)) : List Ob).length = (s.set k d).os.length := by unfold Sto.set; simp
 rw [Sto.set_len] at hlen
 show ix (s.os.take (s.pos k) ++ (⟨k, s.next, d⟩ :: s.os.drop (if s.has k = true then s.pos k + 1 else s.pos k))) j = _
 by_cases h1 : j < s.pos k
 · rw [if_pos h1, ix_app1 (by omega), ix_take h1]
 · rw [if_neg h1, ix_app2 (by omega) (by rw [hlen]; exact hj), ht]
   by_cases h2 : j = s.pos k
   · rw [if_pos h2, h2, Nat.sub_self]; rfl
   · rw [if_neg h2]
     obtain ⟨m, hm⟩ : ∃ m, j - s.pos k = m + 1 := ⟨j - s.pos k - 1, by omega⟩
     rw [hm]
     show ix (s.os.drop _) m = _
     rw [ix_drop]
     congr 1
     split <;> omega
theorem put_fn (s : Sto) (hs : s.ok = true) (k d : List UInt8) (hd : d.length ≤ 1000000000) : VFn Tryz.prog 186 [s.av, .str (B k), .str (B d)] (if s.room k d = 0 then .tup [(s.set k d).av, .int .i64 s.next, .int .i64 0] else .tup [s.av, .int .i64 0, .int .i64 (s.room k d)]) := by
 have hL := (Sto.ok_at hs).2.1
 have hnx : 1 ≤ s.next ∧ s.next ≤ 1000000000 := by simpa [within] using (Sto.ok_at hs).1
 have hlb : s.pos k ≤ s.os.length := lb_le k s.os
 by_cases hk : s.has k = true
 · have hp := (hasK_at hk).1
   have c := find_fn s hs k
   rw [hk] at c
   refine VFn.introC Tryz.call186 Tryz.func186 rfl rfl ?_
   conv => whnf
   refine CallC.sca _ (c) ?_ ?_
   · exact rfl
   conv => whnf
   refine CallC.sca _ (first_room s k d (decide (s.next = 1000000000)) (by rw [hk]; rfl) ⟨rfl, rfl, rfl, rfl, trivial⟩ rfl) ?_ ?_
   · exact rfl
   refine Grd.intro (fun g => ?_) (fun g => ?_)
   · have g : s.room k d ≠ 0 := by simpa using g
     rw [if_neg g]
     exact And.intro trivial (AVle.refl _)
   · have g : s.room k d = 0 := by simpa using g
     rw [if_pos g]
     refine DrawC.mkQ 11 [(.inr 7, 9), (.inr 8, 10)] rfl (by kernel_rfl) ?_
     refine And.intro rfl ?_
     conv => whnf
     refine PCallQ.own (copied_own s (by omega)) rfl (fun i hi => rfl) ?_
     conv => whnf
     refine And.intro ⟨by omega, show ((lb k s.os : Nat) : Int) < (s.os.length : Int) by omega⟩ ?_
     refine And.intro (inI64 (by omega) (by omega)) ?_
     refine DrawC.mkQ 6 [(.inl 1, 3)] rfl (by kernel_rfl) ?_
     refine And.intro rfl ?_
     refine And.intro trivial (AVle.tup (AVsle.cons (AVle.agg (AVsle.cons (AVle.sl (by rw [Sto.set_len, if_pos hk]) fun i hi => ?_) (AVsle.cons (AVle.refl _) AVsle.nil))) (AVsle.cons (AVle.refl _) (AVsle.cons (AVle.refl _) AVsle.nil))))
     show (bif Nat.beq i (((lb k s.os : Nat) : Int).toNat) then [.str (B k), .int .i64 s.next, .str (B d)] else (ix s.os i).row) = _
     rw [set_ix s k d (by rw [Sto.set_len, if_pos hk]; exact hi), if_pos hk]
     unfold Sto.pos
     by_cases h1 : i = lb k s.os
     · subst h1; rw [if_neg (Nat.lt_irrefl _), if_pos rfl]; simp [Ob.row]
     · rw [beq_f (show ¬ i = ((lb k s.os : Nat) : Int).toNat by omega), if_neg h1, ite_self]; rfl
 · have hk' : s.has k = false := by simpa using hk
   have c := find_fn s hs k
   rw [hk'] at c
   have fin : ∀ x : Bool, ((!s.has k && decide (s.os.length = 300)) || decide (s.next = 1000000000)) = x → x = true → s.room k d ≠ 0 := fun x hx h => by
    unfold Sto.room; rw [hx, h]; split <;> decide
   refine VFn.introC Tryz.call186 Tryz.func186 rfl rfl ?_
   conv => whnf
   refine CallC.sca _ (c) ?_ ?_
   · exact rfl
   refine Grd.intro (fun g0 => ?_) (fun g0 => ?_)
   · have hx : ((!s.has k && decide (s.os.length = 300)) || decide (s.next = 1000000000)) = true := by
      rw [hk', show decide (s.os.length = 300) = true from decide_eq_true (by have := of_decide_eq_true g0; omega)]; rfl
     conv => whnf
     refine CallC.sca _ (first_room s k d true hx ⟨rfl, rfl, rfl, rfl, trivial⟩ rfl) ?_ ?_
     · exact rfl
     have g := fin true hx rfl
     rw [if_neg g]
     refine Grd.intro (fun g => ?_) (fun g => absurd (by simpa using g) ‹s.room k d ≠ 0›)
     exact And.intro trivial (AVle.refl _)
   have hx : ((!s.has k && decide (s.os.length = 300)) || decide (s.next = 1000000000)) = decide (s.next = 1000000000) := by
    rw [show decide (s.os.length = 300) = false from decide_eq_false (by have := of_decide_eq_false g0; omega)]; simp
   conv => whnf
   refine CallC.sca _ (first_room s k d (decide (s.next = 1000000000)) hx ⟨rfl, rfl, rfl, rfl, trivial⟩ rfl) ?_ ?_
   · exact rfl
   refine Grd.intro (fun g => ?_) (fun g => ?_)
   · have g : s.room k d ≠ 0 := by simpa using g
     rw [if_neg g]
     exact And.intro trivial (AVle.refl _)
   · have g : s.room k d = 0 := by simpa using g
     rw [if_pos g]
     refine DrawC.mkQ 11 [(.inr 7, 9), (.inr 8, 10)] rfl (by kernel_rfl) ?_
     refine And.intro rfl ?_
     conv => whnf
     refine PCallQ.own (copied_own s (by omega)) rfl (fun i hi => rfl) ?_
     conv => whnf
     refine CallC.k [(4, 0), (14, 1)] (Insert_own s.os.length (s.pos k) (fun i => (ix s.os i).row) (fun _ => [.str (B k), .int .i64 s.next, .str (B d)]) (by omega) hlb (fun j hj => rfl) rfl) rfl rfl (AVsle.refl _) ?_ rfl ?_
     · refine ⟨MOle.refl _, MOle.arr rfl (fun j hj => ?_), trivial⟩
       have : j = 0 := by omega
       subst this; rfl
     conv => whnf
     refine And.intro (inI64 (by omega) (by omega)) ?_
     refine DrawC.mkQ 6 [(.inl 1, 3)] rfl (by kernel_rfl) ?_
     refine And.intro rfl ?_
     refine And.intro trivial (AVle.tup (AVsle.cons (AVle.agg (AVsle.cons (AVle.sl (by rw [Sto.set_len, if_neg hk]) fun i hi => ?_) (AVsle.cons (AVle.refl _) AVsle.nil))) (AVsle.cons (AVle.refl _) (AVsle.cons (AVle.refl _) AVsle.nil))))
     show insR (lb k s.os) (fun i => (ix s.os i).row) (fun _ => [.str (B k), .int .i64 s.next, .str (B d)]) i = _
     rw [set_ix s k d (by rw [Sto.set_len, if_neg hk]; exact hi), if_neg hk]
     unfold insR Sto.pos
     by_cases h1 : i < lb k s.os
     · rw [if_pos h1, if_pos h1]
     · rw [if_neg h1, if_neg h1]
       by_cases h2 : i = lb k s.os
       · rw [if_pos h2, if_pos h2]; rfl
       · rw [if_neg h2, if_neg h2]
structure Smp where
 t : Int
 v : Int
instance : Inhabited Smp := ⟨⟨0, 0⟩⟩
def Smp.row (s : Smp) : List AV := [.int .i64 s.t, .int .i64 s.v]
abbrev smps (L : List Smp) : AV := .sl 2 L.length fun i => (ix L i).row
structure Bk where
 t : Int
 a : Ag
instance : Inhabited Ag := ⟨⟨0, 0, 0, 0, 0, 0⟩⟩
instance : Inhabited Bk := ⟨⟨0, default⟩⟩
def smpAt (L : List Smp) (i : Nat) : Bool := within (ix L i).t 0 99999 && within (ix L i).v (-1000000) 1000000 && (decide (i = 0) || decide ((ix L (i - 1)).t < (ix L i).t))
def smpsOK (L : List Smp) : Bool := decide (L.length ≤ 4096) && allN L.length (smpAt L)
def smpText (s : Smp) : List UInt8 := Lib.join [Lib.itoa s.t, Lib.itoa s.v] [61]
def smpsText (L : List Smp) : List UInt8 := Lib.join (L.map smpText) [32]

end Go.Proofs.YtnplgeogieoioaaGreatDoor
