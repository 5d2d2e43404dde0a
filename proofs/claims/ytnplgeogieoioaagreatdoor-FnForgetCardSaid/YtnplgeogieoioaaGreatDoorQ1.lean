/- Contracts of functions that the claim reaches, and the plain law of what they compute; each theorem bears its own conditions. -/
import Derived.Test.YtnplgeogieoioaaGreatDoorV52
import Derived.Test.YtnplgeogieoioaaGreatDoorSh
import Derived.Test.YtnplgeogieoioaaGreatDoorProg
import Derived.Lib.Join
set_option linter.unusedVariables false
set_option linter.constructorNameAsVariable false
set_option linter.unusedSimpArgs false
set_option maxRecDepth 20000
namespace Go.Proofs.YtnplgeogieoioaaGreatDoor
open Go Go.Vw
instance : Tabs Tryz.prog := Tabs.and (Tabs.one 3 "internal/strconv.uint64pow10" .u64 Lib.pow10Tab (by kernel_rfl))
 (Tabs.and (Tabs.err 1 "strconv.ErrSyntax" (by kernel_rfl)) (Tabs.and (Tabs.err 2 "strconv.ErrRange" (by kernel_rfl)) (Tabs.num 0)))
theorem tab_pow10 {w : World} (h : Tabs.J Tryz.prog w) : Lib.TabIs Tryz.prog w "internal/strconv.uint64pow10" .u64 Lib.pow10Tab := h.1
theorem tab_syntax {w : World} (h : Tabs.J Tryz.prog w) : HasErr Tryz.prog "strconv.ErrSyntax" w := h.2.1
theorem tab_range {w : World} (h : Tabs.J Tryz.prog w) : HasErr Tryz.prog "strconv.ErrRange" w := h.2.2.1
theorem tab_maxlen {w : World} (h : Tabs.J Tryz.prog w) : HasInt 0 w := h.2.2.2
theorem Itoa_fn (n : Int) (h0 : -9223372036854775808 ≤ n) (h1 : n ≤ 9223372036854775807) : VFn Tryz.prog 170 [.int .i64 n] (.str (B (Lib.itoa n))) := by
 refine VFn.lib Tryz.call170 fun w ok vs hJ hok hv => ?_
 obtain ⟨v, us, rfl, hv, hus⟩ := hv
 have e1 : v = .int .i64 n := hv
 have e2 : us = [] := hus
 subst e1 e2
 refine (Tryz.strconv_Itoa n h0 h1 w (tab_pow10 hJ)).mono ?_
 rintro e w' ⟨rfl, k, os, rfl⟩
 exact ⟨_, rfl, Go.Lib.below_grow _ _ (Nat.le_refl _) k os, fun _ _ => rfl⟩
abbrev txts (L : List (List UInt8)) : AV := .sl 1 L.length fun i => [.str (B (ix L i))]
theorem map_B (L : List (List UInt8)) : (L.map B).map (fun x : ByteArray => x.data.toList) = L := by
 rw [List.map_map]
 exact (List.map_congr_left fun x _ => B_data x).trans (List.map_id' L)
theorem Join_fn (L : List (List UInt8)) (sep : List UInt8) (hlen : (Lib.join L sep).length ≤ 140737488355328) (hn : L.length ≤ 140737488355328) :
 VFn Tryz.prog 216 [txts L, .str (B sep)] (.str (B (Lib.join L sep))) := by
 refine VFn.lib Tryz.call216 fun w ok vs hJ hok hv => ?_
 obtain ⟨v, us, rfl, hv, v2, us2, rfl, hv2, hus⟩ := hv
 obtain ⟨A, c, rfl, hc, hr⟩ := hv
 have e1 : v2 = .string (B sep) := hv2
 have e2 : us2 = [] := hus
 subst e1 e2
 rcases Nat.eq_zero_or_pos L.length with h0 | hpos
 · have : L = [] := List.eq_nil_of_length_eq_zero h0
   subst this
   refine (Tryz.strings_Join_none A c (B sep) w).mono ?_
   rintro e w' ⟨rfl, rfl⟩
   exact ⟨_, rfl, Go.RowKit.Below.refl _ _, fun _ _ => rfl⟩
 · rcases hr with hr | ⟨b, o, rfl, hb, hr⟩
   · omega
   · have hsep : (B sep).data.toList = sep := B_data sep
     have := Tryz.strings_Join b o c (L.map B) (B sep) w (fun j x hx => ?_) (hok b hb) (by simp; omega) (by simpa using hc) (by rw [map_B, hsep]; exact hlen)
     · rw [map_B, hsep, List.length_map] at this
       refine this.mono ?_
       rintro e w' ⟨rfl, hbel⟩
       exact ⟨_, rfl, hbel, fun _ _ => rfl⟩
     · have hj : j < L.length := by
        rcases Nat.lt_or_ge j L.length with h | h
        · exact h
        · rw [List.getElem?_eq_none (by simpa using h)] at hx; cases hx
       have hx' : x = B (ix L j) := by simp [hj] at hx; rw [ix_lt hj, hx]
       subst hx'
       obtain ⟨ws, hl, hrv, hcell⟩ := hr j hj
       obtain ⟨u, us, rfl, h1, h2⟩ := hrv
       have e1 : u = .string (B (ix L j)) := h1
       have := hcell 0 (by omega)
       simp only [Nat.mul_one, Nat.add_zero, List.getElem?_cons_zero] at this
       rw [this, e1]
theorem join_snoc (s y : List UInt8) : ∀ l : List (List UInt8), l ≠ [] → Lib.join (l ++ [y]) s = Lib.join l s ++ (s ++ y)
 | [], h => absurd rfl h
 | x :: r, _ => by
   rw [List.cons_append, Lib.join_cons, Lib.join_cons]
   simp [Lib.joinTail]
theorem join_take {L : List (List UInt8)} {s : List UInt8} {i : Nat} (h : i < L.length) :
 Lib.join (L.take (i + 1)) s = (if 0 < i then Lib.join (L.take i) s ++ s else Lib.join (L.take i) s) ++ ix L i := by
 rw [take_snoc h]
 split
 · rename_i h0
   rw [join_snoc _ _ _ (fun e => by have := congrArg List.length e; rw [List.length_take] at this; simp only [List.length_nil] at this; omega), List.append_assoc]
 · have : i = 0 := by omega
   subst this
   simp [Lib.join_one, Lib.join_nil]
theorem join_len {m c : Nat} : ∀ {L : List (List UInt8)} {s : List UInt8}, (∀ x ∈ L, x.length ≤ m) → s.length ≤ c → (Lib.join L s).length ≤ (m + c) * L.length := by
 intro L s h hs
 have key : ∀ i, i ≤ L.length → (Lib.join (L.take i) s).length ≤ (m + c) * i := by
  intro i
  induction i with
  | zero => intro _; simp [Lib.join_nil]
  | succ i ih =>
    intro hi
    have := ih (by omega)
    have hx := h _ (getD_mem (L := L) (i := i) (by omega))
    rw [join_take (by omega), Nat.mul_add, Nat.mul_one]
    split <;> simp only [List.length_append] <;> omega
 have := key L.length (Nat.le_refl _)
 rwa [List.take_of_length_le (Nat.le_refl _)] at this
abbrev ints (N : List Int) : AV := .sl 1 N.length fun i => [.int .i64 (ix N i)]
theorem itoas_len {N : List Int} {s : List UInt8} (hN : ∀ x ∈ N, -9223372036854775808 ≤ x ∧ x ≤ 9223372036854775807) {c : Nat} (hs : s.length ≤ c) : (Lib.join (N.map Lib.itoa) s).length ≤ (21 + c) * N.length := by
 have := join_len (m := 21) (c := c) (L := N.map Lib.itoa) (s := s) (fun x hx => by
  obtain ⟨y, hy, rfl⟩ := List.mem_map.1 hx
  exact itoa_len (hN y hy).1 (hN y hy).2) hs
 simpa using this
inductive It where
 | n (i : Int)
 | t (s : List UInt8)
instance : Inhabited It := ⟨.n 0⟩
def It.txt : It → List UInt8
 | .n i => Lib.itoa i
 | .t s => s
def It.row : It → List AV
 | .n i => [.iface 3 (.int .i64 i)]
 | .t s => [.iface 9 (.str (B s))]
def It.ok : It → Prop
 | .n i => -9223372036854775808 ≤ i ∧ i ≤ 9223372036854775807
 | .t _ => True
def itRow (L : List It) (i : Nat) : List AV := (ix L i).row
theorem joined_fn (L : List It) (s : List UInt8) (hn : L.length ≤ 100000000) (hok : ∀ x ∈ L, x.ok) (hlen : (Lib.join (L.map It.txt) s).length ≤ 140737488355328) :
 VFn Tryz.prog 187 [.str (B s), .sl 1 L.length (itRow L)] (.str (B (Lib.join (L.map It.txt) s))) := by
 refine VFn.introC Tryz.call187 Tryz.func187 rfl rfl ?_
 refine LoopC.mk (fun i : Nat => i ≤ L.length) (fun i => [(0, .str (B s)), (11, .sl 1 L.length (itRow L)), (12, .int .i64 L.length), (5, .osl 0), (13, .int .i64 i)])
  (fun i => [(0, .arr 9 1 ((L.take i).map It.txt).length fun k => [.str (B (ix ((L.take i).map It.txt) k))])]) 1 (fun i => L.length - i) 0
  ⟨Nat.zero_le _, [(0, 0)], rfl, rfl, ⟨AVle.refl _, AVle.refl _, AVle.refl _, AVle.refl _, AVle.refl _, trivial⟩, ⟨MOle.arr rfl fun i hi => absurd hi (Nat.not_lt_zero i), trivial⟩⟩ ?_
 intro i hi
 refine Grd.intro (fun h2 => ?_) (fun h2 => ?_)
 · have hin : i < L.length := by simp at h2; omega
   have hx := hok _ (getD_mem hin)
   have hrow : itRow L (Int.toNat (i : Int)) = (ix L i).row := rfl
   have htake := take_snoc hin
   refine And.intro (by omega) ?_
   generalize ix L i = x at hx hrow htake
   rw [hrow]
   cases x with
   | n m =>
     conv => whnf
     refine CallC.sca _ (Itoa_fn m hx.1 hx.2) ?_ ?_
     · exact rfl
     refine And.intro ⟨show (((L.take i).map It.txt).length + 1) * 16 ≤ 140737488355328 by simp; omega, all1 rfl⟩ ?_
     refine And.intro (inI64 (by omega) (by omega)) ?_
     refine ⟨i + 1, hin, by omega, [(2, 0)], rfl, rfl, ⟨AVle.refl _, AVle.refl _, AVle.refl _, AVle.refl _, AVle.of_eq (congrArg (AV.int .i64) (by simp)), trivial⟩, ⟨?_, trivial⟩⟩
     exact arr_next (f := fun x => [.str (B x)]) (by rw [htake, List.map_append]; rfl) rfl
   | t m =>
     refine And.intro ⟨show (((L.take i).map It.txt).length + 1) * 16 ≤ 140737488355328 by simp; omega, all1 rfl⟩ ?_
     refine And.intro (inI64 (by omega) (by omega)) ?_
     refine ⟨i + 1, hin, by omega, [(2, 0)], rfl, rfl, ⟨AVle.refl _, AVle.refl _, AVle.refl _, AVle.refl _, AVle.of_eq (congrArg (AV.int .i64) (by simp)), trivial⟩, ⟨?_, trivial⟩⟩
     exact arr_next (f := fun x => [.str (B x)]) (by rw [htake, List.map_append]; rfl) rfl
 · have : i = L.length := by simp at h2; omega
   subst this
   have e : L.take L.length = L := List.take_of_length_le (Nat.le_refl _)
   rw [e]
   conv => whnf
   refine CallC.sca _ (Join_fn (L.map It.txt) s hlen (by simp; omega)) ?_ ?_
   · exact rfl
   exact And.intro trivial (AVle.refl _)
theorem joined_of (L : List It) {n : Nat} {rows : Nat → List AV} (hr : RowsAre rows 0 (L.map It.row)) (hn : n = L.length) (s : List UInt8) (hl : L.length ≤ 100000000) (hok : ∀ x ∈ L, x.ok) (hlen : (Lib.join (L.map It.txt) s).length ≤ 140737488355328) :
 VFn Tryz.prog 187 [.str (B s), .sl 1 n rows] (.str (B (Lib.join (L.map It.txt) s))) :=
 (joined_fn L s hl hok hlen).weak (AVsle.cons (AVle.refl _) (AVsle.cons (hr.le hn) AVsle.nil)) (AVle.refl _)
theorem said_fn (L : List It) (hn : L.length ≤ 100000000) (hok : ∀ x ∈ L, x.ok) (hlen : (Lib.join (L.map It.txt) [32]).length ≤ 140737488355328) :
 VFn Tryz.prog 227 [.sl 1 L.length (itRow L)] (.str (B (Lib.join (L.map It.txt) [32]))) := by
 refine VFn.introC Tryz.call227 Tryz.func227 rfl rfl ?_
 conv => whnf
 refine CallC.sca _ (joined_fn L [32] hn hok hlen) ?_ ?_
 · exact rfl
 exact And.intro trivial (AVle.refl _)
theorem within_fn (n lo hi : Int) : VFn Tryz.prog 46 [.int .i64 n, .int .i64 lo, .int .i64 hi] (.bool (within n lo hi)) := by
 refine VFn.introC Tryz.call46 Tryz.func46 rfl rfl ?_
 refine Grd.intro (fun h1 => ?_) (fun h1 => ?_)
 · refine And.intro trivial (AVle.of_eq (congrArg AV.bool ?_))
   simp_all [within]
 · refine And.intro trivial (AVle.of_eq (congrArg AV.bool ?_))
   simp_all [within]; omega
theorem first_of (l : List (Bool × Int)) {n : Nat} {rows : Nat → List AV} (hr : FirstRows 4 3 rows 0 l) (hn : n = 2 * l.length) (hl : l.length ≤ 1000) :
 VFn Tryz.prog 30 [.sl 1 n rows] (.int .i64 (firstC l)) := by
 subst hn
 refine VFn.introC Tryz.call30 Tryz.func30 rfl rfl ?_
 refine LoopC.mk (fun i : Nat => i ≤ l.length ∧ ∀ j, j < i → (ix l j).1 = false) (fun i => [(0, .sl 1 (2 * l.length) rows), (3, .int .i64 (2 * (i : Int)))]) (fun _ => []) 0 (fun i => l.length - i) 0
  ⟨⟨Nat.zero_le _, fun j hj => absurd hj (Nat.not_lt_zero j)⟩, [], rfl, rfl, ⟨AVle.refl _, AVle.refl _, trivial⟩, trivial⟩ ?_
 rintro i ⟨hi, hf⟩
 refine And.intro (inI64 (by omega) (by omega)) ?_
 refine Grd.intro (fun h2 => ?_) (fun h2 => ?_)
 · have hin : i < l.length := by have := of_decide_eq_true h2; omega
   have hg := hr.get i hin
   have e1 : rows (Int.toNat (2 * (i : Int))) = [.iface 4 (.bool (ix l i).1)] := by rw [show Int.toNat (2 * (i : Int)) = 0 + 2 * i by omega]; exact hg.1
   have e2 : rows (Int.toNat (2 * (i : Int) + 1)) = [.iface 3 (.int .i64 (ix l i).2)] := by rw [show Int.toNat (2 * (i : Int) + 1) = 0 + (2 * i + 1) by omega]; exact hg.2
   refine And.intro (by omega) ?_
   rw [e1]
   refine Grd.intro (fun h3 => ?_) (fun h3 => ?_)
   · refine And.intro (inI64 (by omega) (by omega)) ?_
     refine And.intro (by omega) ?_
     rw [e2]
     refine And.intro trivial (AVle.of_eq (congrArg (AV.int .i64) ?_))
     rw [firstC_none hf hi]
     have : l.drop i = ix l i :: l.drop (i + 1) := drop_ix hin
     rw [this]
     show _ = bif (ix l i).1 then _ else _
     rw [show (ix l i).1 = true from h3]; rfl
   · refine And.intro (inI64 (by omega) (by omega)) ?_
     refine ⟨i + 1, ⟨hin, fun j hj => ?_⟩, by omega, [], rfl, rfl, ⟨AVle.refl _, AVle.of_eq (congrArg (AV.int .i64) (by omega)), trivial⟩, trivial⟩
     by_cases e : j = i
     · subst e; exact h3
     · exact hf j (by omega)
 · have : i = l.length := by have := of_decide_eq_false h2; omega
   subst this
   refine And.intro trivial (AVle.of_eq (congrArg (AV.int .i64) ?_))
   rw [firstC_none hf (Nat.le_refl _), List.drop_length]; rfl
structure Ag where
 c : Int
 s : Int
 mn : Int
 mx : Int
 f : Int
 l : Int
def Ag.av (a : Ag) : AV := .agg [.int .i64 a.c, .int .i64 a.s, .int .i64 a.mn, .int .i64 a.mx, .int .i64 a.f, .int .i64 a.l]
def Ag.nul (a : Ag) : Bool := decide (a.c = 0) && (decide (a.s = 0) && (decide (a.mn = 0) && (decide (a.mx = 0) && (decide (a.f = 0) && (decide (a.l = 0) && true)))))
def Ag.some (a : Ag) : Bool := within a.c 1 100000 && within a.mn (-1000000) 1000000 && within a.mx (-1000000) 1000000 && within a.f a.mn a.mx && within a.l a.mn a.mx && within a.s (a.c * a.mn) (a.c * a.mx)
def Ag.ok (a : Ag) : Bool := a.nul || a.some
theorem mul_b {c m : Int} (h1 : within c 1 100000 = true) (h2 : within m (-1000000) 1000000 = true) : -100000000000 ≤ c * m ∧ c * m ≤ 100000000000 := by
 simp [within] at h1 h2
 have e1 : c * m ≤ c * 1000000 := Int.mul_le_mul_of_nonneg_left h2.2 (by omega)
 have e2 : c * (-1000000) ≤ c * m := Int.mul_le_mul_of_nonneg_left h2.1 (by omega)
 omega
theorem isValue_fn (n : Int) : VFn Tryz.prog 111 [.int .i64 n] (.bool (within n (-1000000) 1000000)) := by
 refine VFn.introC Tryz.call111 Tryz.func111 rfl rfl ?_
 conv => whnf
 refine CallC.sca _ (within_fn _ _ _) ?_ ?_
 · exact rfl
 exact And.intro trivial (AVle.refl _)
theorem AggOK_fn (a : Ag) : VFn Tryz.prog 114 [a.av] (.bool a.ok) := by
 refine VFn.introC Tryz.call114 Tryz.func114 rfl rfl ?_
 refine And.intro (by kernel_rfl) ?_
 refine Grd.intro (fun h0 => ?_) (fun h0 => ?_)
 · exact And.intro trivial (AVle.of_eq (congrArg AV.bool (show true = a.ok by have : a.nul = true := h0; simp [Ag.ok, this])))
 have hn : a.nul = false := h0
 have no : a.some = false → AV.bool false = .bool a.ok := fun h => by simp [Ag.ok, hn, h]
 conv => whnf
 refine CallC.sca _ (within_fn _ _ _) ?_ ?_
 · exact rfl
 refine Grd.intro (fun h1 => ?_) (fun h1 => ?_)
 · conv => whnf
   refine CallC.sca _ (isValue_fn _) ?_ ?_
   · exact rfl
   refine Grd.intro (fun h2 => ?_) (fun h2 => ?_)
   · conv => whnf
     refine CallC.sca _ (isValue_fn _) ?_ ?_
     · exact rfl
     refine Grd.intro (fun h3 => ?_) (fun h3 => ?_)
     · conv => whnf
       refine CallC.sca _ (within_fn _ _ _) ?_ ?_
       · exact rfl
       refine Grd.intro (fun h4 => ?_) (fun h4 => ?_)
       · conv => whnf
         refine CallC.sca _ (within_fn _ _ _) ?_ ?_
         · exact rfl
         refine Grd.intro (fun h5 => ?_) (fun h5 => ?_)
         · have b1 := mul_b h1 h2
           have b2 := mul_b h1 h3
           refine And.intro (inI64 (by omega) (by omega)) ?_
           refine And.intro (inI64 (by omega) (by omega)) ?_
           conv => whnf
           refine CallC.sca _ (within_fn _ _ _) ?_ ?_
           · exact rfl
           exact And.intro trivial (AVle.of_eq (congrArg AV.bool (show within a.s (a.c * a.mn) (a.c * a.mx) = a.ok by
            have q1 : within a.c 1 100000 = true := h1
            have q2 : within a.mn (-1000000) 1000000 = true := h2
            have q3 : within a.mx (-1000000) 1000000 = true := h3
            have q4 : within a.f a.mn a.mx = true := h4
            have q5 : within a.l a.mn a.mx = true := h5
            simp [Ag.ok, Ag.some, hn, q1, q2, q3, q4, q5])))
         · exact And.intro trivial (AVle.of_eq (no (by have q : within a.l a.mn a.mx = false := h5; simp [Ag.some, q])))
       · exact And.intro trivial (AVle.of_eq (no (by have q : within a.f a.mn a.mx = false := h4; simp [Ag.some, q])))
     · exact And.intro trivial (AVle.of_eq (no (by have q : within a.mx (-1000000) 1000000 = false := h3; simp [Ag.some, q])))
   · exact And.intro trivial (AVle.of_eq (no (by have q : within a.mn (-1000000) 1000000 = false := h2; simp [Ag.some, q])))
 · exact And.intro trivial (AVle.of_eq (no (by have q : within a.c 1 100000 = false := h1; simp [Ag.some, q])))
theorem Ag.bounds {a : Ag} (h : a.ok = true) : (-100000000000 ≤ a.c ∧ a.c ≤ 100000000000) ∧ (-100000000000 ≤ a.s ∧ a.s ≤ 100000000000) ∧ (-100000000000 ≤ a.mn ∧ a.mn ≤ 100000000000) ∧ (-100000000000 ≤ a.mx ∧ a.mx ≤ 100000000000) ∧
 (-100000000000 ≤ a.f ∧ a.f ≤ 100000000000) ∧ (-100000000000 ≤ a.l ∧ a.l ≤ 100000000000) := by
 simp only [Ag.ok, Bool.or_eq_true] at h
 rcases h with h | h
 · simp [Ag.nul] at h; omega
 · simp only [Ag.some, Bool.and_eq_true] at h
   obtain ⟨⟨⟨⟨⟨h1, h2⟩, h3⟩, h4⟩, h5⟩, h6⟩ := h
   have b1 := mul_b h1 h2
   have b2 := mul_b h1 h3
   simp [within] at h1 h2 h3 h4 h5 h6
   omega
def Ag.six (a : Ag) : List Int := [a.c, a.s, a.mn, a.mx, a.f, a.l]
def atext (a : Ag) : List UInt8 := Lib.join (a.six.map Lib.itoa) [44]
theorem six_b {a : Ag} (h : a.ok = true) : ∀ x ∈ a.six, -100000000000 ≤ x ∧ x ≤ 100000000000 := by
 have := Ag.bounds h
 intro x hx
 simp only [Ag.six, List.mem_cons, List.not_mem_nil, or_false] at hx
 rcases hx with rfl | rfl | rfl | rfl | rfl | rfl <;> omega
theorem atext_len {a : Ag} (h : a.ok = true) : (atext a).length ≤ 132 := by
 have := itoas_len (N := a.six) (s := [44]) (c := 1) (fun x hx => by have := six_b h x hx; omega) (by decide)
 exact this
theorem aggText_fn (a : Ag) (h : a.ok = true) : VFn Tryz.prog 261 [a.av] (.str (B (atext a))) := by
 have hb := six_b h
 have hl := atext_len h
 refine VFn.introC Tryz.call261 Tryz.func261 rfl rfl ?_
 conv => whnf
 refine CallC.sca _ (joined_of (a.six.map It.n) (n := 6) ⟨rfl, rfl, rfl, rfl, rfl, rfl, trivial⟩ rfl [44] (show 6 ≤ 100000000 by decide) (fun x hx => by obtain ⟨y, hy, rfl⟩ := List.mem_map.1 hx; have := hb y hy; exact ⟨by omega, by omega⟩) (show (atext a).length ≤ _ by omega)) ?_ ?_
 · exact rfl
 exact And.intro trivial (AVle.refl _)
structure Smp where
 t : Int
 v : Int
instance : Inhabited Smp := ⟨⟨0, 0⟩⟩
def Smp.row (s : Smp) : List AV := [.int .i64 s.t, .int .i64 s.v]
abbrev smps (L : List Smp) : AV := .sl 2 L.length fun i => (ix L i).row
structure Bk where
 t : Int
 a : Ag
instance : Inhabited Ag := ⟨⟨0, 0, 0, 0, 0, 0⟩⟩
instance : Inhabited Bk := ⟨⟨0, default⟩⟩
def Bk.row (b : Bk) : List AV := [.int .i64 b.t, .int .i64 b.a.c, .int .i64 b.a.s, .int .i64 b.a.mn, .int .i64 b.a.mx, .int .i64 b.a.f, .int .i64 b.a.l]
abbrev bks (L : List Bk) : AV := .sl 7 L.length fun i => (ix L i).row
theorem isMoment_fn (n : Int) : VFn Tryz.prog 110 [.int .i64 n] (.bool (within n 0 99999)) := by
 refine VFn.introC Tryz.call110 Tryz.func110 rfl rfl ?_
 conv => whnf
 refine CallC.sca _ (within_fn _ _ _) ?_ ?_
 · exact rfl
 exact And.intro trivial (AVle.refl _)
def smpAt (L : List Smp) (i : Nat) : Bool := within (ix L i).t 0 99999 && within (ix L i).v (-1000000) 1000000 && (decide (i = 0) || decide ((ix L (i - 1)).t < (ix L i).t))
def smpsOK (L : List Smp) : Bool := decide (L.length ≤ 4096) && allN L.length (smpAt L)
def bkAt (L : List Bk) (i : Nat) : Bool := within (ix L i).t 0 99999 && (ix L i).a.ok && !decide ((ix L i).a.c = 0) && (decide (i = 0) || decide ((ix L (i - 1)).t < (ix L i).t))
def bksOK (L : List Bk) : Bool := decide (L.length ≤ 8) && allN L.length (bkAt L)
theorem isLongSmp_fn (L : List Smp) : VFn Tryz.prog 109 [smps L] (.bool (decide (4096 < L.length))) := by
 refine VFn.introC Tryz.call109 Tryz.func109 rfl rfl ?_
 exact And.intro trivial (AVle.of_eq (congrArg AV.bool (by simp; omega)))
theorem SamplesOK_fn (L : List Smp) : VFn Tryz.prog 52 [smps L] (.bool (smpsOK L)) := by
 refine VFn.introC Tryz.call52 Tryz.func52 rfl rfl ?_
 conv => whnf
 refine CallC.sca _ (isLongSmp_fn L) ?_ ?_
 · exact rfl
 refine Grd.intro (fun h1 => ?_) (fun h1 => ?_)
 · have := of_decide_eq_true h1
   exact And.intro trivial (AVle.of_eq (congrArg AV.bool (by simp [smpsOK]; omega)))
 have hn : L.length ≤ 4096 := by have := of_decide_eq_false h1; omega
 have no : ∀ i, i < L.length → smpAt L i = false → false = smpsOK L := fun i hi h => by simp [smpsOK, allN_no hi h]
 refine LoopC.mk (fun i : Nat => i ≤ L.length ∧ allN i (smpAt L) = true) (fun i => [(0, smps L), (7, smps L), (8, .int .i64 L.length), (9, .int .i64 i)]) (fun _ => []) 0 (fun i => L.length - i) 0
  ⟨⟨Nat.zero_le _, rfl⟩, [], rfl, rfl, ⟨AVle.refl _, AVle.refl _, AVle.refl _, AVle.refl _, trivial⟩, trivial⟩ ?_
 rintro i ⟨hi, ha⟩
 refine Grd.intro (fun h2 => ?_) (fun h2 => ?_)
 · have hin : i < L.length := by have := of_decide_eq_true h2; omega
   refine And.intro (by omega) ?_
   refine DrawC.mq 25 rfl (by kernel_rfl) ?_
   refine PCallQ.sca _ (isMoment_fn _) rfl ?_
   refine Grd.intro (fun h3 => ?_) (fun h3 => ?_)
   · exact And.intro trivial (AVle.of_eq (congrArg AV.bool (no i hin (by simp at h3; simp [smpAt, h3]))))
   refine PCallQ.sca _ (isValue_fn _) rfl ?_
   refine Grd.intro (fun h4 => ?_) (fun h4 => ?_)
   · exact And.intro trivial (AVle.of_eq (congrArg AV.bool (no i hin (by simp at h4; simp [smpAt, h4]))))
   simp at h3 h4
   refine Grd.intro (fun h5 => ?_) (fun h5 => ?_)
   · have h0 : 0 < i := by have := of_decide_eq_true h5; omega
     refine And.intro (inI64 (by omega) (by omega)) ?_
     refine And.intro (by omega) ?_
     refine Grd.intro (fun h6 => ?_) (fun h6 => ?_)
     · have h6 := of_decide_eq_true h6
       rw [show Int.toNat ((i : Int) - 1) = i - 1 by omega] at h6
       exact And.intro trivial (AVle.of_eq (congrArg AV.bool (no i hin (by
        have : ¬ (ix L (i - 1)).t < (ix L i).t := by simpa using h6
        have h00 : ¬ i = 0 := by omega
        simp only [smpAt, decide_eq_false h00, decide_eq_false this, Bool.or_false, Bool.and_false]))))
     · have h6 := of_decide_eq_false h6
       rw [show Int.toNat ((i : Int) - 1) = i - 1 by omega] at h6
       refine And.intro (inI64 (by omega) (by omega)) ?_
       refine ⟨i + 1, ⟨hin, allN_step ha ?_⟩, by omega, [], rfl, rfl, ⟨AVle.refl _, AVle.refl _, AVle.refl _, AVle.of_eq (congrArg (AV.int .i64) (by simp)), trivial⟩, trivial⟩
       have : (ix L (i - 1)).t < (ix L i).t := by simpa using h6
       simp [smpAt, h3, h4, this]
   · have h0 : i = 0 := by have := of_decide_eq_false h5; omega
     refine And.intro (inI64 (by omega) (by omega)) ?_
     refine ⟨i + 1, ⟨hin, allN_step ha ?_⟩, by omega, [], rfl, rfl, ⟨AVle.refl _, AVle.refl _, AVle.refl _, AVle.of_eq (congrArg (AV.int .i64) (by simp)), trivial⟩, trivial⟩
     subst h0; simp [smpAt, h3, h4]
 · have : i = L.length := by have := of_decide_eq_false h2; omega
   subst this
   exact And.intro trivial (AVle.of_eq (congrArg AV.bool (by simp [smpsOK, ha, hn])))
theorem BucketsOK_fn (L : List Bk) : VFn Tryz.prog 282 [bks L] (.bool (bksOK L)) := by
 refine VFn.introC Tryz.call282 Tryz.func282 rfl rfl ?_
 have no : ∀ i, i < L.length → bkAt L i = false → false = bksOK L := fun i hi h => by simp [bksOK, allN_no hi h]
 refine LoopC.mk (fun i : Nat => i ≤ L.length ∧ i ≤ 8 ∧ allN i (bkAt L) = true) (fun i => [(0, bks L), (5, bks L), (6, .int .i64 L.length), (7, .int .i64 i)]) (fun _ => []) 0 (fun i => L.length - i) 0
  ⟨⟨Nat.zero_le _, by omega, rfl⟩, [], rfl, rfl, ⟨AVle.refl _, AVle.refl _, AVle.refl _, AVle.refl _, trivial⟩, trivial⟩ ?_
 rintro i ⟨hi, hi8, ha⟩
 refine Grd.intro (fun h2 => ?_) (fun h2 => ?_)
 · have hin : i < L.length := by have := of_decide_eq_true h2; omega
   refine And.intro (by omega) ?_
   refine DrawC.mq 35 rfl (by kernel_rfl) ?_
   refine Grd.intro (fun h7 => ?_) (fun h7 => ?_)
   · have : (i : Int) = 8 := of_decide_eq_true h7
     exact And.intro trivial (AVle.of_eq (congrArg AV.bool (by simp [bksOK]; omega)))
   have hne : ¬ (i : Int) = 8 := of_decide_eq_false h7
   refine PCallQ.sca _ (isMoment_fn _) rfl ?_
   refine Grd.intro (fun h3 => ?_) (fun h3 => ?_)
   · exact And.intro trivial (AVle.of_eq (congrArg AV.bool (no i hin (by simp at h3; simp [bkAt, h3]))))
   refine PCallQ.sca _ (AggOK_fn (ix L i).a) rfl ?_
   refine Grd.intro (fun h4 => ?_) (fun h4 => ?_)
   · exact And.intro trivial (AVle.of_eq (congrArg AV.bool (no i hin (by simp at h4; simp [bkAt, h4]))))
   simp at h3 h4
   refine Grd.intro (fun h8 => ?_) (fun h8 => ?_)
   · exact And.intro trivial (AVle.of_eq (congrArg AV.bool (no i hin (by simp at h8; simp [bkAt, h8]))))
   simp at h8
   refine Grd.intro (fun h5 => ?_) (fun h5 => ?_)
   · have h0 : 0 < i := by have := of_decide_eq_true h5; omega
     refine And.intro (inI64 (by omega) (by omega)) ?_
     refine And.intro (by omega) ?_
     refine Grd.intro (fun h6 => ?_) (fun h6 => ?_)
     · have h6 := of_decide_eq_true h6
       rw [show Int.toNat ((i : Int) - 1) = i - 1 by omega] at h6
       exact And.intro trivial (AVle.of_eq (congrArg AV.bool (no i hin (by
        have : ¬ (ix L (i - 1)).t < (ix L i).t := by simpa using h6
        have h00 : ¬ i = 0 := by omega
        simp only [bkAt, decide_eq_false h00, decide_eq_false this, Bool.or_false, Bool.and_false]))))
     · have h6 := of_decide_eq_false h6
       rw [show Int.toNat ((i : Int) - 1) = i - 1 by omega] at h6
       refine And.intro (inI64 (by omega) (by omega)) ?_
       refine ⟨i + 1, ⟨hin, by omega, allN_step ha ?_⟩, by omega, [], rfl, rfl, ⟨AVle.refl _, AVle.refl _, AVle.refl _, AVle.of_eq (congrArg (AV.int .i64) (by simp)), trivial⟩, trivial⟩
       have : (ix L (i - 1)).t < (ix L i).t := by simpa using h6
       simp [bkAt, h3, h4, h8, this]
   · have h0 : i = 0 := by have := of_decide_eq_false h5; omega
     refine And.intro (inI64 (by omega) (by omega)) ?_
     refine ⟨i + 1, ⟨hin, by omega, allN_step ha ?_⟩, by omega, [], rfl, rfl, ⟨AVle.refl _, AVle.refl _, AVle.refl _, AVle.of_eq (congrArg (AV.int .i64) (by simp)), trivial⟩, trivial⟩
     subst h0; simp [bkAt, h3, h4, h8]
 · have : i = L.length := by have := of_decide_eq_false h2; omega
   subst this
   exact And.intro trivial (AVle.of_eq (congrArg AV.bool (by simp [bksOK, ha, hi8])))
def smpText (s : Smp) : List UInt8 := Lib.join [Lib.itoa s.t, Lib.itoa s.v] [61]
def smpsText (L : List Smp) : List UInt8 := Lib.join (L.map smpText) [32]
def bkText (b : Bk) : List UInt8 := Lib.join [Lib.itoa b.t, atext b.a] [58]
def bksText (L : List Bk) : List UInt8 := Lib.join (L.map bkText) [32]
theorem join2 (a b s : List UInt8) : Lib.join [a, b] s = a ++ s ++ b := by
 rw [Lib.join_cons]; simp [Lib.joinTail]
def Smp.num (s : Smp) : Prop := (-1000000000 ≤ s.t ∧ s.t ≤ 1000000000) ∧ (-1000000000 ≤ s.v ∧ s.v ≤ 1000000000)
theorem smpText_len {s : Smp} (h : s.num) : (smpText s).length ≤ 43 := by
 have h1 := itoa_len (n := s.t) (by have := h.1; omega) (by have := h.1; omega)
 have h2 := itoa_len (n := s.v) (by have := h.2; omega) (by have := h.2; omega)
 unfold smpText; rw [join2]; simp; omega
theorem smpsText_len {L : List Smp} (h : ∀ s ∈ L, s.num) : (smpsText L).length ≤ 44 * L.length := by
 have := join_len (m := 43) (c := 1) (L := L.map smpText) (s := [32]) (fun x hx => by obtain ⟨y, hy, rfl⟩ := List.mem_map.1 hx; exact smpText_len (h y hy)) (by decide)
 simpa [smpsText] using this
theorem smpsOK_num {L : List Smp} (h : smpsOK L = true) : ∀ s ∈ L, s.num := by
 simp only [smpsOK, Bool.and_eq_true, allN_iff] at h
 intro s hs
 obtain ⟨i, hi, rfl⟩ := List.mem_iff_getElem.1 hs
 have := h.2 i hi
 rw [smpAt, Bool.and_eq_true, Bool.and_eq_true] at this
 rw [← ix_lt hi]
 have a := win_iff.1 this.1.1
 have b := win_iff.1 this.1.2
 exact ⟨⟨by omega, by omega⟩, ⟨by omega, by omega⟩⟩
theorem samplesText_fn (L : List Smp) (hL : L.length ≤ 4096) (hN : ∀ s ∈ L, s.num) : VFn Tryz.prog 200 [smps L] (.str (B (smpsText L))) := by
 have hlen := smpsText_len hN
 refine VFn.introC Tryz.call200 Tryz.func200 rfl rfl ?_
 refine LoopC.mk (fun i : Nat => i ≤ L.length) (fun i => [(7, smps L), (8, .int .i64 L.length), (3, .osl 0), (9, .int .i64 i)])
  (fun i => [(0, .arr 20 1 ((L.take i).map fun s => It.t (smpText s)).length (itRow ((L.take i).map fun s => It.t (smpText s))))]) 1 (fun i => L.length - i) 0
  ⟨Nat.zero_le _, [(0, 0)], rfl, rfl, ⟨AVle.refl _, AVle.refl _, AVle.refl _, AVle.refl _, trivial⟩, ⟨MOle.arr rfl fun i hi => absurd hi (Nat.not_lt_zero i), trivial⟩⟩ ?_
 intro i hi
 refine Grd.intro (fun h2 => ?_) (fun h2 => ?_)
 · have hin : i < L.length := by have := of_decide_eq_true h2; omega
   have hs := hN _ (getD_mem hin)
   refine And.intro (by omega) ?_
   conv => whnf
   refine CallC.sca _ (joined_of [It.n (ix L i).t, It.n (ix L i).v] (n := 2) ⟨rfl, rfl, trivial⟩ rfl [61] (show 2 ≤ 100000000 by decide) (fun x hx => by simp only [List.mem_cons, List.not_mem_nil, or_false] at hx; obtain ⟨g1, g2⟩ := hs; rcases hx with rfl | rfl; exact ⟨by omega, by omega⟩; exact ⟨by omega, by omega⟩) (show (smpText (ix L i)).length ≤ _ by have := smpText_len hs; omega)) ?_ ?_
   · exact rfl
   refine And.intro ⟨show (((L.take i).map fun s => It.t (smpText s)).length + 1) * 16 ≤ 140737488355328 by simp; omega, all1 rfl⟩ ?_
   refine And.intro (inI64 (by omega) (by omega)) ?_
   refine ⟨i + 1, hin, by omega, [(4, 0)], rfl, rfl, ⟨AVle.refl _, AVle.refl _, AVle.refl _, AVle.of_eq (congrArg (AV.int .i64) (by simp)), trivial⟩, ⟨?_, trivial⟩⟩
   exact arr_next (f := It.row) (map_take_snoc hin) rfl
 · have : i = L.length := by have := of_decide_eq_false h2; omega
   subst this
   have e : L.take L.length = L := List.take_of_length_le (Nat.le_refl _)
   have e2 : (L.map fun s => It.t (smpText s)).map It.txt = L.map smpText := by rw [List.map_map]; rfl
   rw [e]
   conv => whnf
   refine CallC.sca _ (said_fn (L.map fun s => It.t (smpText s)) (by simp; omega) (fun x hx => by obtain ⟨y, _, rfl⟩ := List.mem_map.1 hx; trivial) (by rw [e2]; exact Nat.le_trans hlen (by omega))) ?_ ?_
   · exact rfl
   exact And.intro trivial (AVle.of_eq (congrArg (fun l => AV.str (B l)) (show Lib.join _ [32] = smpsText L by rw [e2]; rfl)))
def Bk.ok (b : Bk) : Prop := (-1000000000 ≤ b.t ∧ b.t ≤ 1000000000) ∧ b.a.ok = true
theorem bkText_len {b : Bk} (h : b.ok) : (bkText b).length ≤ 154 := by
 have h1 := itoa_len (n := b.t) (by have := h.1; omega) (by have := h.1; omega)
 have h2 := atext_len h.2
 unfold bkText; rw [join2]; simp; omega
theorem bksText_len {L : List Bk} (h : ∀ s ∈ L, s.ok) : (bksText L).length ≤ 155 * L.length := by
 have := join_len (m := 154) (c := 1) (L := L.map bkText) (s := [32]) (fun x hx => by obtain ⟨y, hy, rfl⟩ := List.mem_map.1 hx; exact bkText_len (h y hy)) (by decide)
 simpa [bksText] using this
theorem bksOK_ok {L : List Bk} (h : bksOK L = true) : ∀ s ∈ L, s.ok := by
 simp only [bksOK, Bool.and_eq_true, allN_iff] at h
 intro s hs
 obtain ⟨i, hi, rfl⟩ := List.mem_iff_getElem.1 hs
 have := h.2 i hi
 rw [bkAt, Bool.and_eq_true, Bool.and_eq_true, Bool.and_eq_true] at this
 rw [← ix_lt hi]
 have a := win_iff.1 this.1.1.1
 have c := this.1.1.2
 exact ⟨⟨by omega, by omega⟩, c⟩
def Ag.mrg (a b : Ag) : Ag := if a.c = 0 then b else if b.c = 0 then a else ⟨a.c + b.c, a.s + b.s, if b.mn < a.mn then b.mn else a.mn, if a.mx < b.mx then b.mx else a.mx, a.f, b.l⟩
def Ag.cells (a : Ag) : List AV := [.int .i64 a.c, .int .i64 a.s, .int .i64 a.mn, .int .i64 a.mx, .int .i64 a.f, .int .i64 a.l]
def one (v : Int) : Ag := ⟨1, v, v, v, v, v⟩
def aggL (L : List Smp) : Ag := L.foldl (fun a s => a.mrg (one s.v)) default
theorem aggL_snoc {L : List Smp} {i : Nat} (h : i < L.length) : aggL (L.take (i + 1)) = (aggL (L.take i)).mrg (one (ix L i).v) := by
 unfold aggL; rw [take_snoc h, List.foldl_append]; rfl
def Ag.B (a : Ag) (n : Int) : Prop := a.c = n ∧ (-1000000 * n ≤ a.s ∧ a.s ≤ 1000000 * n) ∧ (n = 0 → a = default) ∧ (0 < n → a.some = true)
theorem mrg_B {a : Ag} {n v : Int} (h : a.B n) (hn : 0 ≤ n ∧ n < 100000) (hv : -1000000 ≤ v ∧ v ≤ 1000000) : (a.mrg (one v)).B (n + 1) := by
 obtain ⟨h1, h2, h3, h4⟩ := h
 unfold Ag.mrg
 by_cases h0 : a.c = 0
 · rw [if_pos h0]
   refine ⟨by simp only [one]; omega, by simp only [one]; omega, fun h => by omega, fun _ => ?_⟩
   unfold Ag.some one
   simp [within]; omega
 · rw [if_neg h0, if_neg (show ¬ (one v).c = 0 by simp [one])]
   have h5 := h4 (by omega)
   unfold Ag.some at h5
   simp [within] at h5
   refine ⟨by simp only [one]; omega, by simp only [one]; omega, fun h => by omega, fun _ => ?_⟩
   unfold Ag.some one
   simp only [within]
   have e1 : ∀ m, m ≤ a.mn → m ≤ v → (a.c + 1) * m ≤ a.s + v := fun m q1 q2 => by
    have : a.c * m ≤ a.c * a.mn := Int.mul_le_mul_of_nonneg_left q1 (by omega)
    have : (a.c + 1) * m = a.c * m + m := by rw [Int.add_mul]; omega
    omega
   have e2 : ∀ m, a.mx ≤ m → v ≤ m → a.s + v ≤ (a.c + 1) * m := fun m q1 q2 => by
    have : a.c * a.mx ≤ a.c * m := Int.mul_le_mul_of_nonneg_left q1 (by omega)
    have : (a.c + 1) * m = a.c * m + m := by rw [Int.add_mul]; omega
    omega
   by_cases m1 : v < a.mn <;> by_cases m2 : a.mx < v
   · rw [if_pos m1, if_pos m2]
     have := e1 v (by omega) (by omega)
     have := e2 v (by omega) (by omega)
     simp; omega
   · rw [if_pos m1, if_neg m2]
     have := e1 v (by omega) (by omega)
     have := e2 a.mx (by omega) (by omega)
     simp; omega
   · rw [if_neg m1, if_pos m2]
     have := e1 a.mn (by omega) (by omega)
     have := e2 v (by omega) (by omega)
     simp; omega
   · rw [if_neg m1, if_neg m2]
     have := e1 a.mn (by omega) (by omega)
     have := e2 a.mx (by omega) (by omega)
     simp; omega
theorem aggL_B {L : List Smp} (hL : L.length ≤ 100000) (hv : ∀ e ∈ L, -1000000 ≤ e.v ∧ e.v ≤ 1000000) : ∀ i : Nat, i ≤ L.length → (aggL (L.take i)).B i
 | 0, _ => ⟨rfl, show -1000000 * ((0 : Nat) : Int) ≤ 0 ∧ (0 : Int) ≤ 1000000 * ((0 : Nat) : Int) by omega, fun _ => rfl, fun h => absurd h (by simp)⟩
 | i + 1, h => by
   rw [aggL_snoc h]
   have := mrg_B (aggL_B hL hv i (by omega)) ⟨by omega, by omega⟩ (hv _ (getD_mem (L := L) h))
   simpa using this
theorem B_ok {a : Ag} {n : Int} (h : a.B n) (hn : 0 ≤ n) : a.ok = true := by
 rcases Int.lt_or_le 0 n with h0 | h0
 · unfold Ag.ok; rw [h.2.2.2 h0]; simp
 · have := h.2.2.1 (by omega)
   subst this; rfl
def Ag.eqb (x y : Ag) : Bool := decide (x.c = y.c) && (decide (x.s = y.s) && (decide (x.mn = y.mn) && (decide (x.mx = y.mx) && (decide (x.f = y.f) && (decide (x.l = y.l) && true)))))
theorem smps_bd {L : List Smp} (h : smpsOK L = true) : L.length ≤ 4096 ∧ ∀ e ∈ L, -1000000 ≤ e.v ∧ e.v ≤ 1000000 := by
 unfold smpsOK at h
 rw [Bool.and_eq_true] at h
 refine ⟨of_decide_eq_true h.1, fun e he => ?_⟩
 obtain ⟨i, hi, e0⟩ := List.mem_iff_getElem.1 he
 have e0 : ix L i = e := by rw [ix_lt hi, e0]
 subst e0
 have := allN_iff.1 h.2 i hi
 simp [smpAt, within] at this
 omega
theorem merged_fn (a b : Ag) (h1 : inI .i64 (a.c + b.c)) (h2 : inI .i64 (a.s + b.s)) : VFn Tryz.prog 256 [a.av, b.av] (a.mrg b).av := by
 obtain ⟨R, hR⟩ : ∃ R, R = a.mrg b := ⟨_, rfl⟩
 rw [← hR]
 refine VFn.introC Tryz.call256 Tryz.func256 rfl rfl ?_
 refine Grd.intro (fun g1 => ?_) (fun g1 => ?_)
 · rw [Ag.mrg, if_pos (show a.c = 0 from of_decide_eq_true g1)] at hR
   subst hR
   exact And.intro trivial (AVle.refl _)
 refine Grd.intro (fun g2 => ?_) (fun g2 => ?_)
 · rw [Ag.mrg, if_neg (show ¬ a.c = 0 from of_decide_eq_false g1), if_pos (show b.c = 0 from of_decide_eq_true g2)] at hR
   subst hR
   exact And.intro trivial (AVle.refl _)
 rw [Ag.mrg, if_neg (show ¬ a.c = 0 from of_decide_eq_false g1), if_neg (show ¬ b.c = 0 from of_decide_eq_false g2)] at hR
 refine And.intro h1 ?_
 refine And.intro h2 ?_
 subst hR
 exact And.intro trivial (AVle.refl _)
theorem aggOf_fn (L : List Smp) (hL : L.length ≤ 100000) (hv : ∀ e ∈ L, -1000000 ≤ e.v ∧ e.v ≤ 1000000) : VFn Tryz.prog 252 [smps L] (aggL L).av := by
 have hB := aggL_B hL hv
 refine VFn.introC Tryz.call252 Tryz.func252 rfl rfl ?_
 refine LoopC.mk (fun i : Nat => i ≤ L.length) (fun i => [(2, .bptr 0 0), (3, .bptr 1 0), (7, smps L), (8, .int .i64 L.length), (9, .int .i64 i)])
  (fun i => [(0, .box [.int .i64 0, .int .i64 0, .int .i64 0, .int .i64 0, .int .i64 0, .int .i64 0]), (1, .box (aggL (L.take i)).cells)]) 2 (fun i => L.length - i) 0
  ⟨Nat.zero_le _, [(0, 0), (1, 1)], rfl, rfl, ⟨AVle.refl _, AVle.refl _, AVle.refl _, AVle.refl _, AVle.refl _, trivial⟩, ⟨MOle.refl _, MOle.refl _, trivial⟩⟩ ?_
 intro i hi
 refine Grd.intro (fun g1 => ?_) (fun g1 => ?_)
 · have hin : i < L.length := by have := of_decide_eq_true g1; omega
   have b := hB i hi
   have hvi := hv _ (getD_mem hin)
   refine And.intro (by omega) ?_
   conv => whnf
   refine CallC.sca _ (merged_fn (aggL (L.take i)) (one (ix L i).v) (inI64 (by have := b.1; simp only [one]; omega) (by have := b.1; simp only [one]; omega)) (inI64 (by have := b.2.1; simp only [one]; omega) (by have := b.2.1; simp only [one]; omega))) ?_ ?_
   · exact rfl
   refine And.intro (inI64 (by omega) (by omega)) ?_
   exact ⟨i + 1, hin, by omega, [(0, 0), (1, 1)], rfl, rfl, ⟨AVle.refl _, AVle.refl _, AVle.refl _, AVle.refl _, AVle.of_eq (congrArg (AV.int .i64) (by simp)), trivial⟩, ⟨MOle.refl _, MOle.of_eq (show MO.box ((aggL (L.take i)).mrg (one (ix L i).v)).cells = _ by rw [aggL_snoc hin]), trivial⟩⟩
 · have : i = L.length := by have := of_decide_eq_false g1; omega
   subst this
   exact And.intro trivial (AVle.of_eq (show (aggL (L.take L.length)).av = _ by rw [List.take_of_length_le (Nat.le_refl _)]))
def smpsIn (L : List Smp) (a b : Int) : List Smp := L.filter fun e => within e.t a (b - 1)
theorem smpsIn_yes {L : List Smp} {a b : Int} {i : Nat} (h : i < L.length) (hw : within (ix L i).t a (b - 1) = true) : smpsIn (L.take (i + 1)) a b = smpsIn (L.take i) a b ++ [ix L i] := by
 unfold smpsIn; rw [take_snoc h, List.filter_append]; simp [hw]
theorem smpsIn_no {L : List Smp} {a b : Int} {i : Nat} (h : i < L.length) (hw : within (ix L i).t a (b - 1) = false) : smpsIn (L.take (i + 1)) a b = smpsIn (L.take i) a b := by
 unfold smpsIn; rw [take_snoc h, List.filter_append]; simp [hw]
theorem smpsIn_len (L : List Smp) (a b : Int) : (smpsIn L a b).length ≤ L.length := List.length_filter_le _ _
theorem smpsIn_mem {L : List Smp} {a b : Int} {e : Smp} (h : e ∈ smpsIn L a b) : e ∈ L := (List.mem_filter.1 h).1
theorem samplesIn_fn (L : List Smp) (hL : L.length ≤ 1048576) (a b : Int) (hb : inI .i64 (b - 1)) : VFn Tryz.prog 253 [smps L, .int .i64 a, .int .i64 b] (smps (smpsIn L a b)) := by
 obtain ⟨R, hR⟩ : ∃ R, R = smpsIn L a b := ⟨_, rfl⟩
 rw [← hR]
 have hl := fun i => Nat.le_trans (smpsIn_len (L.take i) a b) (by simp; omega : (L.take i).length ≤ i)
 refine VFn.introC Tryz.call253 Tryz.func253 rfl rfl ?_
 refine LoopC.mk (fun i : Nat => i ≤ L.length) (fun i => [(1, .int .i64 a), (2, .int .i64 b), (7, .osl 0), (11, smps L), (12, .int .i64 L.length), (13, .int .i64 i)])
  (fun i => [(0, .arr 98 2 (smpsIn (L.take i) a b).length fun j => (ix (smpsIn (L.take i) a b) j).row)]) 1 (fun i => L.length - i) 0
  ⟨Nat.zero_le _, [(0, 0)], rfl, rfl, ⟨AVle.refl _, AVle.refl _, AVle.refl _, AVle.refl _, AVle.refl _, AVle.refl _, trivial⟩, ⟨MOle.arr rfl fun i hi => absurd hi (Nat.not_lt_zero i), trivial⟩⟩ ?_
 intro i hi
 refine Grd.intro (fun h2 => ?_) (fun h2 => ?_)
 · have hin : i < L.length := by have := of_decide_eq_true h2; omega
   refine And.intro (by omega) ?_
   refine And.intro hb ?_
   conv => whnf
   refine CallC.sca _ (within_fn _ _ _) ?_ ?_
   · exact rfl
   refine Grd.intro (fun h3 => ?_) (fun h3 => ?_)
   · have hs := smpsIn_yes hin h3
     refine And.intro ⟨show ((smpsIn (L.take i) a b).length + 1) * 16 ≤ 140737488355328 by have := hl i; omega, all1 rfl⟩ ?_
     refine And.intro (inI64 (by omega) (by omega)) ?_
     refine ⟨i + 1, hin, by omega, [(3, 0)], rfl, rfl, ⟨AVle.refl _, AVle.refl _, AVle.refl _, AVle.refl _, AVle.refl _, AVle.of_eq (congrArg (AV.int .i64) (by simp)), trivial⟩, ⟨?_, trivial⟩⟩
     exact arr_next (f := Smp.row) hs rfl
   · have hs := smpsIn_no hin h3
     refine And.intro (inI64 (by omega) (by omega)) ?_
     exact ⟨i + 1, hin, by omega, [(0, 0)], rfl, rfl, ⟨AVle.refl _, AVle.refl _, AVle.refl _, AVle.refl _, AVle.refl _, AVle.of_eq (congrArg (AV.int .i64) (by simp)), trivial⟩, ⟨MOle.of_eq (show MO.arr 98 2 (smpsIn (L.take i) a b).length (fun j => (ix (smpsIn (L.take i) a b) j).row) = _ by rw [hs]), trivial⟩⟩
 · have : i = L.length := by have := of_decide_eq_false h2; omega
   subst this
   have e : smpsIn (L.take L.length) a b = R := by rw [List.take_of_length_le (Nat.le_refl _), hR]
   subst e
   exact And.intro trivial (AVle.sl rfl fun j hj => rfl)
theorem keyOK_bad {k : List UInt8} {i : Nat} (hi : i < k.length) (h : keyC (k.getD i 0) = false) : keyOK k = false := by
 have : k.all keyC = false := by
  rw [← Bool.not_eq_true]; intro h'
  have e : k.getD i 0 = k[i] := by simp [List.getD, hi]
  rw [e, List.all_eq_true.1 h' _ (List.getElem_mem hi)] at h; cases h
 unfold keyOK; rw [this]; rfl
theorem keyOK_all {k : List UInt8} (h : ∀ j, j < k.length → keyC (k.getD j 0) = true) : keyOK k = within k.length 1 30 := by
 have : k.all keyC = true := List.all_eq_true.2 fun x hx => by
  obtain ⟨j, hj, e⟩ := List.getElem_of_mem hx
  have := h j hj
  have e2 : k.getD j 0 = k[j] := by simp [List.getD, hj]
  rw [e2, e] at this; exact this
 unfold keyOK; rw [this]; rfl
theorem KeyOK_fn (k : List UInt8) (hk : k.length ≤ 1000000000) : VFn Tryz.prog 101 [.str (B k)] (.bool (keyOK k)) := by
 obtain ⟨R, hR⟩ : ∃ R, R = keyOK k := ⟨_, rfl⟩
 rw [← hR]
 refine VFn.introC Tryz.call101 Tryz.func101 rfl rfl ?_
 refine LoopC.mk (fun i : Nat => i ≤ k.length ∧ ∀ j, j < i → keyC (k.getD j 0) = true) (fun i => [(0, .str (B k)), (6, .int .i64 k.length), (7, .int .i64 i)]) (fun _ => []) 0 (fun i => k.length - i) 0
  ⟨⟨Nat.zero_le _, fun j hj => absurd hj (Nat.not_lt_zero j)⟩, [], rfl, rfl, ⟨AVle.refl _, AVle.refl _, AVle.refl _, trivial⟩, trivial⟩ ?_
 intro i hi
 refine Grd.intro (fun h2 => ?_) (fun h2 => ?_)
 · have hin : i < k.length := by have := of_decide_eq_true h2; omega
   refine And.intro ⟨by omega, show (i : Int) < ((B k).size : Int) by rw [B_size]; omega⟩ ?_
   have hbad : keyC (k.getD i 0) = false → false = R := fun h => by rw [hR, keyOK_bad hin h]
   have hgood : keyC (k.getD i 0) = true → ∀ j, j < i + 1 → keyC (k.getD j 0) = true := fun h j hj => by
    rcases Nat.lt_or_ge j i with h' | h'
    · exact hi.2 j h'
    · rw [show j = i by omega]; exact h
   have hx : (k.getD i 0).toNat = ((B k).data.toList.getD (i : Int).toNat 0).toNat := rfl
   generalize ((B k).data.toList.getD (i : Int).toNat 0).toNat = c at hx ⊢
   have hC : keyC (k.getD i 0) = ((decide (97 ≤ (c : Int)) && decide ((c : Int) ≤ 122)) || (decide (48 ≤ (c : Int)) && decide ((c : Int) ≤ 57)) || decide ((c : Int) = 47) || decide ((c : Int) = 45)) := by unfold keyC; rw [hx]
   rw [hC] at hbad hgood
   repeat' (first
    | refine Grd.intro (fun h => ?_) (fun h => ?_)
    | ((conv => whnf); refine Grd.intro (fun h => ?_) (fun h => ?_)))
   all_goals first
    | exact And.intro trivial (AVle.of_eq (congrArg AV.bool (hbad (by simp_all; omega))))
    | exact And.intro trivial (AVle.of_eq (congrArg AV.bool (hbad (by simp_all))))
    | (refine And.intro (inI64 (by omega) (by omega)) ?_
       exact ⟨i + 1, ⟨hin, hgood (by simp_all; omega)⟩, by omega, [], rfl, rfl, ⟨AVle.refl _, AVle.refl _, AVle.of_eq (congrArg (AV.int .i64) (by simp)), trivial⟩, trivial⟩)
    | (refine And.intro (inI64 (by omega) (by omega)) ?_
       exact ⟨i + 1, ⟨hin, hgood (by simp_all)⟩, by omega, [], rfl, rfl, ⟨AVle.refl _, AVle.refl _, AVle.of_eq (congrArg (AV.int .i64) (by simp)), trivial⟩, trivial⟩)
 · have : i = k.length := by have := of_decide_eq_false h2; omega
   subst this
   conv => whnf
   refine CallC.sca _ (within_fn _ _ _) ?_ ?_
   · exact rfl
   rw [hR, keyOK_all hi.2]
   exact And.intro trivial (AVle.of_eq (congrArg AV.bool (show within ((B k).size : Nat) 1 30 = _ by rw [B_size])))
theorem StoreOK_fn (s : Sto) (hL : s.os.length ≤ 1000000000) (hk : ∀ o ∈ s.os, o.key.length ≤ 1000000000) : VFn Tryz.prog 45 [s.av] (.bool s.ok) := by
 refine VFn.introC Tryz.call45 Tryz.func45 rfl rfl ?_
 conv => whnf
 refine CallC.sca _ (within_fn s.next 1 1000000000) ?_ ?_
 · exact rfl
 refine Grd.intro (fun h1 => ?_) (fun h1 => ?_)
 · have h1 : within s.next 1 1000000000 = false := wnot h1
   rw [show s.ok = false by unfold Sto.ok; rw [h1]; rfl]
   exact And.intro trivial (AVle.refl _)
 have h1 : within s.next 1 1000000000 = true := wyes h1
 refine Grd.intro (fun h2 => ?_) (fun h2 => ?_)
 · have h2 : ¬ s.os.length ≤ 300 := by
    have := of_decide_eq_true (show decide ((300 : Int) < (s.os.length : Int)) = true from h2); omega
   rw [show s.ok = false by unfold Sto.ok; rw [decide_eq_false h2]; simp]
   exact And.intro trivial (AVle.refl _)
 have h2 : s.os.length ≤ 300 := by
  have := of_decide_eq_false (show decide ((300 : Int) < (s.os.length : Int)) = false from h2); omega
 have hn : 1 ≤ s.next ∧ s.next ≤ 1000000000 := by simpa [within] using h1
 refine LoopC.mk (fun i : Nat => i ≤ s.os.length ∧ ∀ j, j < i → s.eOK j = true) (fun i => [(1, .bptr 0 0), (3, .omap 1), (18, obs s.os), (19, .int .i64 s.os.length), (20, .int .i64 i)]) (fun i => [(0, .box s.row), (1, .imap (s.vers i))]) 2 (fun i => s.os.length - i) 0
  ⟨⟨Nat.zero_le _, fun j hj => absurd hj (Nat.not_lt_zero j)⟩, [(0, 0), (1, 1)], rfl, rfl, ⟨AVle.refl _, AVle.refl _, AVle.refl _, AVle.refl _, AVle.refl _, trivial⟩, ⟨MOle.refl _, MOle.refl _, trivial⟩⟩ ?_
 intro i hi
 obtain ⟨hi, hall⟩ := hi
 refine Grd.intro (fun h3 => ?_) (fun h3 => ?_)
 · have hin : i < s.os.length := by have := of_decide_eq_true h3; omega
   have hbad : s.eOK i = false → s.ok = false := Sto.ok_no hin
   refine And.intro (by omega) ?_
   refine DrawC.mq 41 rfl (by kernel_rfl) ?_
   refine PCallQ.sca _ (KeyOK_fn (ix s.os i).key (hk _ (getD_mem hin))) rfl ?_
   refine Grd.intro (fun g1 => ?_) (fun g1 => ?_)
   · rw [hbad (by unfold Sto.eOK; rw [wnot g1]; rfl)]
     exact And.intro trivial (AVle.refl _)
   refine And.intro (inI64 (by omega) (by omega)) ?_
   refine PCallQ.sca _ (within_fn (ix s.os i).ver 1 (s.next - 1)) rfl ?_
   conv => whnf
   refine Grd.intro (fun g2 => ?_) (fun g2 => ?_)
   · rw [hbad (by unfold Sto.eOK; rw [show within (ix s.os i).ver 1 (s.next - 1) = false from wnot g2]; simp)]
     exact And.intro trivial (AVle.refl _)
   conv => whnf
   refine Grd.intro (fun g3 => ?_) (fun g3 => ?_)
   · have g3 : ¬ (ix s.os i).data.length ≤ 600 := by
      have := of_decide_eq_true (show decide ((600 : Int) < (((B (ix s.os i).data).size : Nat) : Int)) = true from g3)
      rw [B_size] at this; omega
     rw [hbad (by unfold Sto.eOK; rw [decide_eq_false g3]; simp)]
     exact And.intro trivial (AVle.refl _)
   conv => whnf
   refine Grd.intro (fun g4 => ?_) (fun g4 => ?_)
   · have g4 : decide ((ix s.os i).ver ∈ (s.os.take i).map (·.ver)) = true := g4
     rw [hbad (by unfold Sto.eOK; rw [g4]; simp)]
     exact And.intro trivial (AVle.refl _)
   have g4 : decide ((ix s.os i).ver ∈ s.vers i) = false := g4
   have g3 : (ix s.os i).data.length ≤ 600 := by
    have := of_decide_eq_false (show decide ((600 : Int) < (((B (ix s.os i).data).size : Nat) : Int)) = false from g3)
    rw [B_size] at this; omega
   have hpre : (decide (i = 0) || decide ((ix s.os (i - 1)).key < (ix s.os i).key)) = true → s.eOK i = true := fun h => by
    unfold Sto.eOK; rw [wyes g1, show within (ix s.os i).ver 1 (s.next - 1) = true from wyes g2, decide_eq_true g3, show decide ((ix s.os i).ver ∈ (s.os.take i).map (·.ver)) = false from g4, h]; rfl
   have hnext : s.eOK i = true → ∀ j, j < i + 1 → s.eOK j = true := fun h j hj => by
    rcases Nat.lt_or_ge j i with h' | h'
    · exact hall j h'
    · rw [show j = i by omega]; exact h
   conv => whnf
   refine Grd.intro (fun g5 => ?_) (fun g5 => ?_)
   · have h0 : 0 < i := by have := of_decide_eq_true g5; omega
     have e1 : ((i : Int) - 1).toNat = i - 1 := by omega
     refine And.intro (inI64 (by omega) (by omega)) ?_
     refine And.intro ⟨by omega, by omega⟩ ?_
     have hcmp : (!Op.bytesLess (B (ix s.os ((i : Int) - 1).toNat).key).toList (B (ix s.os i).key).toList) = !decide ((ix s.os (i - 1)).key < (ix s.os i).key) := by rw [blt_lt, e1]
     conv => whnf
     refine Grd.intro (fun g6 => ?_) (fun g6 => ?_)
     · have g6 := hcmp.symm.trans g6
       rw [hbad (by unfold Sto.eOK; rw [show decide ((ix s.os (i - 1)).key < (ix s.os i).key) = false from wnot g6, decide_eq_false (show ¬ i = 0 by omega)]; simp)]
       exact And.intro trivial (AVle.refl _)
     · have g6 := hcmp.symm.trans g6
       have he := hpre (by rw [show decide ((ix s.os (i - 1)).key < (ix s.os i).key) = true from wyes g6]; simp)
       refine And.intro (inI64 (by omega) (by omega)) ?_
       refine ⟨i + 1, ⟨hin, hnext he⟩, by omega, [(0, 0), (1, 1)], rfl, rfl, ⟨AVle.refl _, AVle.refl _, AVle.refl _, AVle.refl _, AVle.of_eq (congrArg (AV.int .i64) (by simp)), trivial⟩, ⟨MOle.refl _, MOle.of_eq (show MO.imap (if (ix s.os i).ver ∈ s.vers i then s.vers i else s.vers i ++ [(ix s.os i).ver]) = _ from ?_), trivial⟩⟩
       rw [if_neg (of_decide_eq_false g4), Sto.vers_snoc s hin]
   · have h0 : i = 0 := by have := of_decide_eq_false g5; omega
     have he := hpre (by rw [decide_eq_true h0]; rfl)
     refine And.intro (inI64 (by omega) (by omega)) ?_
     refine ⟨i + 1, ⟨hin, hnext he⟩, by omega, [(0, 0), (1, 1)], rfl, rfl, ⟨AVle.refl _, AVle.refl _, AVle.refl _, AVle.refl _, AVle.of_eq (congrArg (AV.int .i64) (by simp)), trivial⟩, ⟨MOle.refl _, MOle.of_eq (show MO.imap (if (ix s.os i).ver ∈ s.vers i then s.vers i else s.vers i ++ [(ix s.os i).ver]) = _ from ?_), trivial⟩⟩
     rw [if_neg (of_decide_eq_false g4), Sto.vers_snoc s hin]
 · have : i = s.os.length := by have := of_decide_eq_false h3; omega
   subst this
   rw [Sto.ok_yes h1 h2 hall]
   exact And.intro trivial (AVle.refl _)
end Go.Proofs.YtnplgeogieoioaaGreatDoor
