/- Contracts of functions that the claim reaches, and the plain law of what they compute; each theorem bears its own conditions. -/
import Derived.Test.YtnplgeogieoioaaGreatDoorQ1
import Derived.Test.YtnplgeogieoioaaGreatDoorV52
import Derived.Lib.AtoiErrMem
set_option linter.unusedVariables false
set_option linter.constructorNameAsVariable false
set_option linter.unusedSimpArgs false
set_option maxRecDepth 20000
namespace Go.Proofs.YtnplgeogieoioaaGreatDoor
open Go Go.Vw
theorem CloneOb_own (L : List Ob) (hL : L.length ≤ 1000000) : FnM Tryz.prog 153 0 [obs L] [] (.osl 0) [(0, .arr 93 3 L.length fun i => (ix L i).row)] 1 := by
 refine FnM.introN Tryz.call153 Tryz.func153 rfl rfl ?_
 conv => whnf
 refine OpC.isnil rfl rfl rfl rfl rfl (fun h0 => ?_) ?_
 · conv => whnf
   exact ⟨_, .inr ⟨2, 93, 3, fun i => (ix L i).row, rfl, rfl⟩, And.intro trivial ⟨[(0, 0)], rfl, AVle.refl _, ⟨MOle.arr h0.symm fun i hi => rfl, trivial⟩⟩⟩
 · conv => whnf
   refine And.intro ⟨show (0 + L.length) * 40 ≤ 140737488355328 by omega, fun i hi => rfl⟩ ?_
   conv => whnf
   exact ⟨_, .inl rfl, And.intro trivial ⟨[(1, 0)], rfl, AVle.refl _, ⟨MOle.arr (Nat.zero_add _) fun i hi => appRows_ge (Nat.zero_le _), trivial⟩⟩⟩
theorem cmp_lt : ∀ a b : List UInt8, decide (Lib.compareBytes a b < 0) = decide (a < b)
 | [], [] => by simp [Lib.compareBytes]
 | [], _ :: _ => by simp [Lib.compareBytes]
 | _ :: _, [] => by simp [Lib.compareBytes]
 | x :: a, y :: b => by
   have ih := cmp_lt a b
   unfold Lib.compareBytes
   by_cases h1 : x < y
   · simp [h1, List.cons_lt_cons_iff]
   · by_cases h2 : y < x
     · have : ¬ x = y := fun e => by subst e; exact h1 h2
       simp only [List.cons_lt_cons_iff]; simp [h1, h2, this]
     · have : x = y := UInt8.le_antisymm (UInt8.not_lt.1 h2) (UInt8.not_lt.1 h1)
       subst this
       simp only [List.cons_lt_cons_iff]; simp [h1, ih]
theorem cmp_eq : ∀ a b : List UInt8, decide (Lib.compareBytes a b = 0) = decide (a = b)
 | [], [] => by simp [Lib.compareBytes]
 | [], _ :: _ => by simp [Lib.compareBytes]
 | _ :: _, [] => by simp [Lib.compareBytes]
 | x :: a, y :: b => by
   have ih := cmp_eq a b
   unfold Lib.compareBytes
   by_cases h1 : x < y
   · have : ¬ x = y := fun e => by subst e; exact UInt8.lt_irrefl _ h1
     simp [h1, this]
   · by_cases h2 : y < x
     · have : ¬ x = y := fun e => by subst e; exact h1 h2
       simp [h1, h2, this]
     · have : x = y := UInt8.le_antisymm (UInt8.not_lt.1 h2) (UInt8.not_lt.1 h1)
       subst this
       simp [h1]
       simpa using ih
theorem Compare_fn (a b : List UInt8) : VFn Tryz.prog 148 [.str (B a), .str (B b)] (.int .i64 (Lib.compareBytes a b)) := by
 refine VFn.lib Tryz.call148 fun w ok vs hJ hok hv => ?_
 obtain ⟨v, us, rfl, hv, v2, us2, rfl, hv2, hus⟩ := hv
 have e1 : v = .string (B a) := hv
 have e2 : v2 = .string (B b) := hv2
 have e3 : us2 = [] := hus
 subst e1 e2 e3
 refine (Tryz.strings_Compare (B a) (B b) w).mono ?_
 rintro e w' ⟨rfl, rfl⟩
 exact ⟨_, rfl, Go.RowKit.Below.refl _ _, fun _ _ => by rw [B_data, B_data]; rfl⟩
theorem find1_fn (o : Ob) (k : List UInt8) : VFn Tryz.prog 147 [o.av, .str (B k)] (.int .i64 (Lib.compareBytes o.key k)) := by
 refine VFn.introC Tryz.call147 Tryz.func147 rfl rfl ?_
 conv => whnf
 refine CallC.sca _ (Compare_fn o.key k) ?_ ?_
 · exact rfl
 exact And.intro trivial (AVle.refl _)
theorem Search_fn (L : List Ob) (hS : Srt L) (hL : L.length ≤ 1000000) (k : List UInt8) : VFn Tryz.prog 146 [obs L, .str (B k), .fn (.func 147) [] []] (.tup [.int .i64 (lb k L), .bool (hasK k L)]) := by
 have hle := lb_le k L
 refine VFn.introC Tryz.call146 Tryz.func146 rfl rfl ?_
 refine LoopC.mk (fun p : Nat × Nat => p.1 ≤ lb k L ∧ lb k L ≤ p.2 ∧ p.2 ≤ L.length) (fun p => [(0, obs L), (1, .str (B k)), (2, .fn (.func 147) [] []), (6, .int .i64 0), (7, .bool false), (8, .int .i64 L.length), (9, .int .i64 p.1), (10, .int .i64 p.2)]) (fun _ => []) 0 (fun p => p.2 - p.1) (0, L.length)
  ⟨⟨Nat.zero_le _, hle, Nat.le_refl _⟩, [], rfl, rfl, ⟨AVle.refl _, AVle.refl _, AVle.refl _, AVle.refl _, AVle.refl _, AVle.refl _, AVle.refl _, AVle.refl _, trivial⟩, trivial⟩ ?_
 rintro ⟨i, j⟩ hp
 obtain ⟨h1, h2, h3⟩ := hp
 simp only at h1 h2 h3
 refine Grd.intro (fun g1 => ?_) (fun g1 => ?_)
 · have hij : i < j := by have := of_decide_eq_true g1; omega
   have eh : ((i : Int) + (j : Int)) / 2 = (((i + j) / 2 : Nat) : Int) := by omega
   refine And.intro (inI64 (by omega) (by omega)) ?_
   refine And.intro (show inI .u64 ((i : Int) + (j : Int)) from ⟨show (0 : Int) ≤ _ by omega, show _ ≤ (18446744073709551615 : Int) by omega⟩) ?_
   refine And.intro ⟨by omega, by omega, rfl⟩ ?_
   rw [eh]
   obtain ⟨h, hh⟩ : ∃ h, h = (i + j) / 2 := ⟨_, rfl⟩
   rw [← hh]
   have hi : i ≤ h := by omega
   have hj : h < j := by omega
   refine And.intro (inI64 (by omega) (by omega)) ?_
   refine And.intro ⟨by omega, by omega⟩ ?_
   conv => whnf
   refine CallC.sca _ (find1_fn (ix L h) k) ?_ ?_
   · exact rfl
   have hc : decide (Lib.compareBytes (ix L h).key k < 0) = decide (h < lb k L) := by rw [cmp_lt]; exact decide_eq_decide.2 (hS.iff (by omega))
   refine Grd.intro (fun g2 => ?_) (fun g2 => ?_)
   · have g2 : h < lb k L := of_decide_eq_true (hc.symm.trans g2)
     refine And.intro (inI64 (by omega) (by omega)) ?_
     exact ⟨(h + 1, j), ⟨by simp only; omega, by simp only; omega, by simp only; omega⟩, by simp only; omega, [], rfl, rfl, ⟨AVle.refl _, AVle.refl _, AVle.refl _, AVle.refl _, AVle.refl _, AVle.refl _, AVle.of_eq (congrArg (AV.int .i64) (by simp)), AVle.refl _, trivial⟩, trivial⟩
   · have g2 : ¬ h < lb k L := of_decide_eq_false (hc.symm.trans g2)
     exact ⟨(i, h), ⟨by simp only; omega, by simp only; omega, by simp only; omega⟩, by simp only; omega, [], rfl, rfl, ⟨AVle.refl _, AVle.refl _, AVle.refl _, AVle.refl _, AVle.refl _, AVle.refl _, AVle.refl _, AVle.refl _, trivial⟩, trivial⟩
 · have hij : j ≤ i := by have := of_decide_eq_false g1; omega
   have e1 : i = lb k L := by omega
   subst e1
   refine Grd.intro (fun g2 => ?_) (fun g2 => ?_)
   · have g2 : lb k L < L.length := by have := of_decide_eq_true g2; omega
     refine And.intro ⟨by omega, by omega⟩ ?_
     conv => whnf
     refine CallC.sca _ (find1_fn (ix L (lb k L)) k) ?_ ?_
     · exact rfl
     refine And.intro trivial (AVle.of_eq (congrArg (fun b => AV.tup [.int .i64 (lb k L), .bool b]) (show decide (Lib.compareBytes (ix L (lb k L)).key k = 0) = _ from ?_)))
     rw [cmp_eq]; unfold hasK; rw [decide_eq_true g2]; rfl
   · have g2 : ¬ lb k L < L.length := by have := of_decide_eq_false g2; omega
     refine And.intro trivial (AVle.of_eq (congrArg (fun b => AV.tup [.int .i64 (lb k L), .bool b]) (show false = _ from ?_)))
     unfold hasK; rw [decide_eq_false g2]; rfl
theorem find_fn (s : Sto) (hs : s.ok = true) (k : List UInt8) : VFn Tryz.prog 75 [s.av, .str (B k)] (.tup [.int .i64 (s.pos k), .bool (s.has k)]) := by
 have hL := (Sto.ok_at hs).2.1
 refine VFn.introC Tryz.call75 Tryz.func75 rfl rfl ?_
 conv => whnf
 refine CallC.sca _ (Search_fn s.os (Sto.srt hs) (by omega) k) ?_ ?_
 · exact rfl
 exact And.intro trivial (AVle.refl _)
theorem get_fn (s : Sto) (hs : s.ok = true) (k : List UInt8) : VFn Tryz.prog 115 [s.av, .str (B k)] (if s.has k = true then .tup [.str (B (s.get k).data), .bool true] else .tup [.str (B []), .bool false]) := by
 by_cases h : s.has k = true
 · rw [if_pos h]
   have hp := (hasK_at h).1
   have c := find_fn s hs k
   rw [h] at c
   refine VFn.introC Tryz.call115 Tryz.func115 rfl rfl ?_
   conv => whnf
   refine CallC.sca _ (c) ?_ ?_
   · exact rfl
   refine And.intro ⟨by omega, show ((lb k s.os : Nat) : Int) < (s.os.length : Int) by omega⟩ ?_
   exact And.intro trivial (AVle.refl _)
 · rw [if_neg h]
   have c := find_fn s hs k
   rw [show s.has k = false by simpa using h] at c
   refine VFn.introC Tryz.call115 Tryz.func115 rfl rfl ?_
   conv => whnf
   refine CallC.sca _ (c) ?_ ?_
   · exact rfl
   exact And.intro trivial (AVle.refl _)
theorem copied_own (s : Sto) (hL : s.os.length ≤ 1000000) : FnM Tryz.prog 78 0 [s.av] [] s.own [(0, .arr 93 3 s.os.length fun i => (ix s.os i).row)] 1 := by
 refine FnM.introC Tryz.call78 Tryz.func78 rfl rfl ?_
 refine DrawC.mq 6 rfl (by kernel_rfl) ?_
 conv => whnf
 refine PCallQ.own (CloneOb_own s.os hL) rfl (fun i hi => rfl) ?_
 exact And.intro trivial ⟨[(4, 0)], rfl, AVle.refl _, ⟨MOle.refl _, trivial⟩⟩
def insR (i : Nat) (rows r1 : Nat → List AV) (j : Nat) : List AV := if j < i then rows j else if j = i then r1 0 else rows (j - 1)
theorem Insert_own (n i : Nat) (rows r1 : Nat → List AV) (hn : n ≤ 1000000) (hi : i ≤ n) (h1 : ∀ j, j < n → (rows j).all AV.one = true) (h2 : (r1 0).all AV.one = true) :
 FnM Tryz.prog 215 2 [.osl 0, .int .i64 i, .osl 1] [(0, .arr 93 3 n rows), (1, .arr 93 3 1 r1)] (.osl 2) [(2, .arr 93 3 (n + 1) (insR i rows r1))] 3 := by
 refine FnM.introC Tryz.call215 Tryz.func215 rfl rfl ?_
 refine And.intro ⟨by omega, by omega⟩ ?_
 refine Grd.intro (fun g1 => ?_) (fun g1 => ?_)
 · have e : i = n := by have := of_decide_eq_true g1; omega
   subst e
   refine And.intro ⟨show (i + 1) * 40 ≤ 140737488355328 by omega, all1 h2⟩ ?_
   exact And.intro trivial ⟨[(0, 0), (1, 1), (2, 2)], rfl, AVle.refl _, ⟨MOle.arr rfl fun j hj => by
    unfold insR
    by_cases hji : j < i
    · rw [appRows_lt hji, if_pos hji]
    · have : j = i := by omega
      subst this
      rw [appRows_ge (Nat.le_refl _), if_neg hji, if_pos rfl, Nat.sub_self], trivial⟩⟩
 have hin : i < n := by have := of_decide_eq_false g1; omega
 refine And.intro (inI64 (by omega) (by omega)) ?_
 conv => whnf
 refine OpC.cap rfl rfl rfl rfl rfl (fun c hc hcm => ?_)
 refine Grd.intro (fun g2 => ?_) (fun g2 => ?_)
 · have g2 : c < n + 1 := by have := of_decide_eq_true g2; omega
   conv => whnf
   refine OpC.headc rfl rfl rfl rfl rfl rfl rfl ⟨by omega, by omega⟩ ?_
   refine And.intro (inI64 (by omega) (by omega)) ?_
   refine And.intro (inI64 (by omega) (by omega)) ?_
   conv => whnf
   refine OpC.appz (q := n + 1 - i) rfl rfl rfl rfl rfl rfl rfl rfl rfl (by show ((n : Int) + 1 - i) = _; omega) (by omega) (by show c < (i : Int).toNat + (n + 1 - i); omega) (show ((i : Int).toNat + (n + 1 - i)) * 40 ≤ 140737488355328 by omega) ?_
   refine And.intro ⟨by omega, by omega⟩ ?_
   conv => whnf
   refine OpC.copy rfl rfl rfl rfl rfl rfl rfl (by show 1 ≤ (i : Int).toNat + (n + 1 - i) - (i : Int).toNat; omega) (Nat.le_refl _) (fun j hj => ?_) ?_
   · have : j = 0 := by have : Nat.min 1 ((i : Int).toNat + (n + 1 - i) - (i : Int).toNat) ≤ 1 := Nat.min_le_left _ _; omega
     subst this; exact h2
   refine DrawC.mq 8 rfl (by kernel_rfl) ?_
   refine And.intro (inI64 (by omega) (by omega)) ?_
   conv => whnf
   refine And.intro ⟨by omega, by omega⟩ ?_
   conv => whnf
   refine And.intro ⟨by omega, by omega⟩ ?_
   conv => whnf
   refine OpC.copy rfl rfl rfl rfl rfl rfl rfl (by show 1 ≤ (i : Int).toNat + (n + 1 - i) - ((i : Int) + ((1 : Nat) : Int)).toNat; omega) (by show 1 ≤ n - (i : Int).toNat; omega) (fun j hj => ?_) ?_
   · have : Nat.min (n - (i : Int).toNat) ((i : Int).toNat + (n + 1 - i) - ((i : Int) + ((1 : Nat) : Int)).toNat) ≤ n - (i : Int).toNat := Nat.min_le_left _ _
     exact h1 _ (by omega)
   refine And.intro trivial ⟨[(0, 0), (1, 1), (2, 2)], rfl, AVle.refl _, ⟨MOle.arr (by omega) fun j hj => ?_, trivial⟩⟩
   have e1 : Nat.min 1 ((i : Int).toNat + (n + 1 - i) - (i : Int).toNat) = 1 := Nat.min_eq_left (by omega)
   have e2 : Nat.min (n - (i : Int).toNat) ((i : Int).toNat + (n + 1 - i) - ((i : Int) + ((1 : Nat) : Int)).toNat) = n - i := (Nat.min_eq_left (by omega)).trans (by omega)
   have e3 : (i : Int).toNat = i := by omega
   have e4 : ((i : Int) + ((1 : Nat) : Int)).toNat = i + 1 := by omega
   have hj : j < n + 1 := by omega
   simp only [e1, e2]
   simp only [e3, e4]
   unfold insR
   by_cases c1 : j < i
   · rw [blt_t (show j < i + 1 by omega), blt_t c1, if_pos c1]
     simp only [cond_true, blt_t c1]
   · by_cases c2 : j = i
     · subst c2
       rw [blt_t (Nat.lt_succ_self j), blt_f (Nat.le_refl _), if_neg c1, if_pos rfl]
       simp [blt_t (Nat.lt_succ_self j)]
     · rw [blt_f (show i + 1 ≤ j by omega), blt_t (show j < i + 1 + (n - i) by omega), if_neg c1, if_neg c2]
       simp only [cond_true, cond_false]
       congr 1; omega
 · have g2 : n + 1 ≤ c := by have := of_decide_eq_false g2; omega
   refine And.intro (inI64 (by omega) (by omega)) ?_
   conv => whnf
   refine OpC.grow rfl rfl rfl rfl rfl rfl rfl ⟨by omega, by omega⟩ ?_
   refine And.intro (inI64 (by omega) (by omega)) ?_
   refine And.intro ⟨by omega, by omega⟩ ?_
   conv => whnf
   refine CallC.overlaps Tryz.func243 (by kernel_rfl) (by kernel_rfl) (by kernel_rfl) (tS := 23) (tR := 4) (sz := 3) (by kernel_rfl) rfl rfl (by decide) rfl rfl rfl (Nat.le_refl _) (by omega) rfl ?_
   conv => whnf
   refine DrawC.mq 8 rfl (by kernel_rfl) ?_
   refine And.intro (inI64 (by omega) (by omega)) ?_
   conv => whnf
   refine And.intro ⟨by omega, by omega⟩ ?_
   conv => whnf
   refine And.intro ⟨by omega, by omega⟩ ?_
   conv => whnf
   have m1 : Nat.min (((n : Int) + ((1 : Nat) : Int)).toNat - (i : Int).toNat) (((n : Int) + ((1 : Nat) : Int)).toNat - ((i : Int) + ((1 : Nat) : Int)).toNat) = n - i := (Nat.min_eq_right (by omega)).trans (by omega)
   have m2 : Nat.min 1 (((n : Int) + ((1 : Nat) : Int)).toNat - (i : Int).toNat) = 1 := Nat.min_eq_left (by omega)
   refine OpC.copy rfl rfl rfl rfl rfl rfl rfl (by show 1 ≤ ((n : Int) + ((1 : Nat) : Int)).toNat - ((i : Int) + ((1 : Nat) : Int)).toNat; omega) (by show 1 ≤ ((n : Int) + ((1 : Nat) : Int)).toNat - (i : Int).toNat; omega) (fun j hj => ?_) ?_
   · have hj : j < n - i := by rw [← m1]; exact hj
     dsimp only
     rw [blt_t (show (i : Int).toNat + j < n by omega)]
     exact h1 _ (by omega)
   refine And.intro ⟨by omega, by omega⟩ ?_
   conv => whnf
   refine OpC.copy rfl rfl rfl rfl rfl rfl rfl (by show 1 ≤ ((n : Int) + ((1 : Nat) : Int)).toNat - (i : Int).toNat; omega) (Nat.le_refl _) (fun j hj => ?_) ?_
   · have hj : j < 1 := by rw [← m2]; exact hj
     have : j = 0 := by omega
     subst this; exact h2
   refine And.intro trivial ⟨[(0, 0), (1, 1), (2, 2)], rfl, AVle.refl _, ⟨MOle.arr (by omega) fun j hj => ?_, trivial⟩⟩
   have e3 : (i : Int).toNat = i := by omega
   have e4 : ((i : Int) + ((1 : Nat) : Int)).toNat = i + 1 := by omega
   have e5 : ((n : Int) + ((1 : Nat) : Int)).toNat = n + 1 := by omega
   have hj : j < n + 1 := by omega
   simp only [m1, m2]
   simp only [e3, e4, e5]
   unfold insR
   by_cases c1 : j < i
   · rw [if_pos c1]
     simp only [cond_true, blt_t c1, blt_t (show j < i + 1 by omega), blt_t (show j < n by omega)]
   · by_cases c2 : j = i
     · subst c2
       rw [if_neg c1, if_pos rfl]
       simp [blt_f (Nat.le_refl j), blt_t (Nat.lt_succ_self j)]
     · rw [if_neg c1, if_neg c2]
       simp only [cond_true, cond_false, blt_f (show i ≤ j by omega), blt_f (show i + 1 ≤ j by omega), blt_t (show j < i + 1 + (n - i) by omega), blt_t (show i + (j - (i + 1)) < n by omega)]
       congr 1; omega
theorem first_room (s : Sto) (k d : List UInt8) (x : Bool) (hx : ((!s.has k && decide (s.os.length = 300)) || decide (s.next = 1000000000)) = x) {n : Nat} {rows : Nat → List AV} (hr : FirstRows 4 3 rows 0 [(decide ((600 : Int) < (((B d).size : Nat) : Int)), 8), (x, 7)]) (hn : n = 4) :
 VFn Tryz.prog 30 [.sl 1 n rows] (.int .i64 (s.room k d)) := by
 have e : firstC [(decide ((600 : Int) < (((B d).size : Nat) : Int)), 8), (x, 7)] = s.room k d := by
  unfold Sto.room
  rw [hx, B_size]
  unfold firstC firstC firstC
  by_cases h1 : 600 < d.length
  · rw [if_pos h1, decide_eq_true (show (600 : Int) < (d.length : Int) by omega)]; rfl
  · rw [if_neg h1, decide_eq_false (show ¬ (600 : Int) < (d.length : Int) by omega)]
    cases x <;> rfl
 rw [← e]
 exact first_of _ hr hn (show 2 ≤ 1000 by decide)
theorem set_ix (s : Sto) (k d : List UInt8) {j : Nat} (hj : j < (s.set k d).os.length) : ix (s.set k d).os j = if j < s.pos k then ix s.os j else if j = s.pos k then ⟨k, s.next, d⟩ else ix s.os (if s.has k = true then j else j - 1) := by
 have hl : s.pos k ≤ s.os.length := lb_le k s.os
 have ht : (s.os.take (s.pos k)).length = s.pos k := by simp; omega
 rw [Sto.set_len] at hj
 have hlen : (s.os.take (s.pos k)).length + ((⟨k, s.next, d⟩ :: s.os.drop (if s.has k = true then s.pos k + 1 else s.pos k)) : List Ob).length = (s.set k d).os.length := by unfold Sto.set; simp
 rw [Sto.set_len] at hlen
 show ix (s.os.take (s.pos k) ++ (⟨k, s.next, d⟩ :: s.os.drop (if s.has k = true then s.pos k + 1 else s.pos k))) j = _
 by_cases h1 : j < s.pos k
 · rw [if_pos h1, ix_app1 (by omega), ix_take h1]
 · rw [if_neg h1, ix_app2 (by omega) (by rw [hlen]; exact hj), ht]
   by_cases h2 : j = s.pos k
   · rw [if_pos h2, h2, Nat.sub_self]; rfl
   · rw [if_neg h2]
     obtain ⟨m, hm⟩ : ∃ m, j - s.pos k = m + 1 := ⟨j - s.pos k - 1, by omega⟩
     rw [hm]
     show ix (s.os.drop _) m = _
     rw [ix_drop]
     congr 1
     split <;> omega
theorem put_fn (s : Sto) (hs : s.ok = true) (k d : List UInt8) (hd : d.length ≤ 1000000000) : VFn Tryz.prog 186 [s.av, .str (B k), .str (B d)] (if s.room k d = 0 then .tup [(s.set k d).av, .int .i64 s.next, .int .i64 0] else .tup [s.av, .int .i64 0, .int .i64 (s.room k d)]) := by
 have hL := (Sto.ok_at hs).2.1
 have hnx : 1 ≤ s.next ∧ s.next ≤ 1000000000 := by simpa [within] using (Sto.ok_at hs).1
 have hlb : s.pos k ≤ s.os.length := lb_le k s.os
 by_cases hk : s.has k = true
 · have hp := (hasK_at hk).1
   have c := find_fn s hs k
   rw [hk] at c
   refine VFn.introC Tryz.call186 Tryz.func186 rfl rfl ?_
   conv => whnf
   refine CallC.sca _ (c) ?_ ?_
   · exact rfl
   conv => whnf
   refine CallC.sca _ (first_room s k d (decide (s.next = 1000000000)) (by rw [hk]; rfl) ⟨rfl, rfl, rfl, rfl, trivial⟩ rfl) ?_ ?_
   · exact rfl
   refine Grd.intro (fun g => ?_) (fun g => ?_)
   · have g : s.room k d ≠ 0 := by simpa using g
     rw [if_neg g]
     exact And.intro trivial (AVle.refl _)
   · have g : s.room k d = 0 := by simpa using g
     rw [if_pos g]
     refine DrawC.mkQ 11 [(.inr 7, 9), (.inr 8, 10)] rfl (by kernel_rfl) ?_
     refine And.intro rfl ?_
     conv => whnf
     refine PCallQ.own (copied_own s (by omega)) rfl (fun i hi => rfl) ?_
     conv => whnf
     refine And.intro ⟨by omega, show ((lb k s.os : Nat) : Int) < (s.os.length : Int) by omega⟩ ?_
     refine And.intro (inI64 (by omega) (by omega)) ?_
     refine DrawC.mkQ 6 [(.inl 1, 3)] rfl (by kernel_rfl) ?_
     refine And.intro rfl ?_
     refine And.intro trivial (AVle.tup (AVsle.cons (AVle.agg (AVsle.cons (AVle.sl (by rw [Sto.set_len, if_pos hk]) fun i hi => ?_) (AVsle.cons (AVle.refl _) AVsle.nil))) (AVsle.cons (AVle.refl _) (AVsle.cons (AVle.refl _) AVsle.nil))))
     show (bif Nat.beq i (((lb k s.os : Nat) : Int).toNat) then [.str (B k), .int .i64 s.next, .str (B d)] else (ix s.os i).row) = _
     rw [set_ix s k d (by rw [Sto.set_len, if_pos hk]; exact hi), if_pos hk]
     unfold Sto.pos
     by_cases h1 : i = lb k s.os
     · subst h1; rw [if_neg (Nat.lt_irrefl _), if_pos rfl]; simp [Ob.row]
     · rw [beq_f (show ¬ i = ((lb k s.os : Nat) : Int).toNat by omega), if_neg h1, ite_self]; rfl
 · have hk' : s.has k = false := by simpa using hk
   have c := find_fn s hs k
   rw [hk'] at c
   have fin : ∀ x : Bool, ((!s.has k && decide (s.os.length = 300)) || decide (s.next = 1000000000)) = x → x = true → s.room k d ≠ 0 := fun x hx h => by
    unfold Sto.room; rw [hx, h]; split <;> decide
   refine VFn.introC Tryz.call186 Tryz.func186 rfl rfl ?_
   conv => whnf
   refine CallC.sca _ (c) ?_ ?_
   · exact rfl
   refine Grd.intro (fun g0 => ?_) (fun g0 => ?_)
   · have hx : ((!s.has k && decide (s.os.length = 300)) || decide (s.next = 1000000000)) = true := by
      rw [hk', show decide (s.os.length = 300) = true from decide_eq_true (by have := of_decide_eq_true g0; omega)]; rfl
     conv => whnf
     refine CallC.sca _ (first_room s k d true hx ⟨rfl, rfl, rfl, rfl, trivial⟩ rfl) ?_ ?_
     · exact rfl
     have g := fin true hx rfl
     rw [if_neg g]
     refine Grd.intro (fun g => ?_) (fun g => absurd (by simpa using g) ‹s.room k d ≠ 0›)
     exact And.intro trivial (AVle.refl _)
   have hx : ((!s.has k && decide (s.os.length = 300)) || decide (s.next = 1000000000)) = decide (s.next = 1000000000) := by
    rw [show decide (s.os.length = 300) = false from decide_eq_false (by have := of_decide_eq_false g0; omega)]; simp
   conv => whnf
   refine CallC.sca _ (first_room s k d (decide (s.next = 1000000000)) hx ⟨rfl, rfl, rfl, rfl, trivial⟩ rfl) ?_ ?_
   · exact rfl
   refine Grd.intro (fun g => ?_) (fun g => ?_)
   · have g : s.room k d ≠ 0 := by simpa using g
     rw [if_neg g]
     exact And.intro trivial (AVle.refl _)
   · have g : s.room k d = 0 := by simpa using g
     rw [if_pos g]
     refine DrawC.mkQ 11 [(.inr 7, 9), (.inr 8, 10)] rfl (by kernel_rfl) ?_
     refine And.intro rfl ?_
     conv => whnf
     refine PCallQ.own (copied_own s (by omega)) rfl (fun i hi => rfl) ?_
     conv => whnf
     refine CallC.k [(4, 0), (14, 1)] (Insert_own s.os.length (s.pos k) (fun i => (ix s.os i).row) (fun _ => [.str (B k), .int .i64 s.next, .str (B d)]) (by omega) hlb (fun j hj => rfl) rfl) rfl rfl (AVsle.refl _) ?_ rfl ?_
     · refine ⟨MOle.refl _, MOle.arr rfl (fun j hj => ?_), trivial⟩
       have : j = 0 := by omega
       subst this; rfl
     conv => whnf
     refine And.intro (inI64 (by omega) (by omega)) ?_
     refine DrawC.mkQ 6 [(.inl 1, 3)] rfl (by kernel_rfl) ?_
     refine And.intro rfl ?_
     refine And.intro trivial (AVle.tup (AVsle.cons (AVle.agg (AVsle.cons (AVle.sl (by rw [Sto.set_len, if_neg hk]) fun i hi => ?_) (AVsle.cons (AVle.refl _) AVsle.nil))) (AVsle.cons (AVle.refl _) (AVsle.cons (AVle.refl _) AVsle.nil))))
     show insR (lb k s.os) (fun i => (ix s.os i).row) (fun _ => [.str (B k), .int .i64 s.next, .str (B d)]) i = _
     rw [set_ix s k d (by rw [Sto.set_len, if_neg hk]; exact hi), if_neg hk]
     unfold insR Sto.pos
     by_cases h1 : i < lb k s.os
     · rw [if_pos h1, if_pos h1]
     · rw [if_neg h1, if_neg h1]
       by_cases h2 : i = lb k s.os
       · rw [if_pos h2, if_pos h2]; rfl
       · rw [if_neg h2, if_neg h2]
theorem bucketsText_fn (L : List Bk) (hL : L.length ≤ 8) (hN : ∀ s ∈ L, s.ok) : VFn Tryz.prog 231 [bks L] (.str (B (bksText L))) := by
 have hlen := bksText_len hN
 refine VFn.introC Tryz.call231 Tryz.func231 rfl rfl ?_
 refine LoopC.mk (fun i : Nat => i ≤ L.length) (fun i => [(7, bks L), (8, .int .i64 L.length), (3, .osl 0), (9, .int .i64 i)])
  (fun i => [(0, .arr 20 1 ((L.take i).map fun s => It.t (bkText s)).length (itRow ((L.take i).map fun s => It.t (bkText s))))]) 1 (fun i => L.length - i) 0
  ⟨Nat.zero_le _, [(0, 0)], rfl, rfl, ⟨AVle.refl _, AVle.refl _, AVle.refl _, AVle.refl _, trivial⟩, ⟨MOle.arr rfl fun i hi => absurd hi (Nat.not_lt_zero i), trivial⟩⟩ ?_
 intro i hi
 refine Grd.intro (fun h2 => ?_) (fun h2 => ?_)
 · have hin : i < L.length := by have := of_decide_eq_true h2; omega
   have hs := hN _ (getD_mem hin)
   have hl := bkText_len hs
   refine And.intro (by omega) ?_
   refine DrawC.mq 12 rfl (by kernel_rfl) ?_
   refine PCallQ.sca _ (aggText_fn (ix L i).a hs.2) rfl ?_
   have hok : ∀ x ∈ [It.n (ix L i).t, It.t (atext (ix L i).a)], x.ok := fun x hx => by
    simp only [List.mem_cons, List.not_mem_nil, or_false] at hx
    obtain ⟨g1, g2⟩ := hs
    rcases hx with rfl | rfl
    · exact ⟨by omega, by omega⟩
    · exact trivial
   refine PCallQ.sca (.str (B (bkText (ix L i)))) (joined_of [It.n (ix L i).t, It.t (atext (ix L i).a)] (n := 2) ⟨rfl, rfl, trivial⟩ rfl [58] (show 2 ≤ 100000000 by decide) hok (show (bkText (ix L i)).length ≤ _ by omega)) rfl ?_
   refine And.intro ⟨show (((L.take i).map fun s => It.t (bkText s)).length + 1) * 16 ≤ 140737488355328 by simp; omega, all1 rfl⟩ ?_
   refine And.intro (inI64 (by omega) (by omega)) ?_
   refine ⟨i + 1, hin, by omega, [(14, 0)], rfl, rfl, ⟨AVle.refl _, AVle.refl _, AVle.refl _, AVle.of_eq (congrArg (AV.int .i64) (by simp)), trivial⟩, ⟨?_, trivial⟩⟩
   exact arr_next (f := It.row) (map_take_snoc hin) rfl
 · have : i = L.length := by have := of_decide_eq_false h2; omega
   subst this
   have e : L.take L.length = L := List.take_of_length_le (Nat.le_refl _)
   have e2 : (L.map fun s => It.t (bkText s)).map It.txt = L.map bkText := by rw [List.map_map]; rfl
   rw [e]
   conv => whnf
   refine CallC.sca _ (said_fn (L.map fun s => It.t (bkText s)) (by simp; omega) (fun x hx => by obtain ⟨y, _, rfl⟩ := List.mem_map.1 hx; trivial) (by rw [e2]; exact Nat.le_trans hlen (by omega))) ?_ ?_
   · exact rfl
   exact And.intro trivial (AVle.of_eq (congrArg (fun l => AV.str (B l)) (show Lib.join _ [32] = bksText L by rw [e2]; rfl)))
structure Act where
 k : Int
 who : Int
 n : Int
 tier : Int
 f : Int
 t : Int
 b : List Smp
def Act.av (a : Act) : AV := .agg [.int .i64 a.k, .int .i64 a.who, .int .i64 a.n, .int .i64 a.tier, .int .i64 a.f, .int .i64 a.t, smps a.b]
def isRange (f t : Int) : Bool := within f 0 100000 && within t f 100000
def Act.noR (a : Act) : Bool := decide (a.tier = 0) && decide (a.f = 0) && decide (a.t = 0)
def Act.noB (a : Act) : Bool := decide ((a.b.length : Int) = 0)
def Act.ok (a : Act) : Bool :=
 if a.k = 1 ∨ a.k = 2 then within a.who 0 6 && decide (a.n = 0) && a.noR && a.noB
 else if a.k = 3 then decide (a.who = 0) && within a.n 0 1000 && a.noR && a.noB
 else if a.k = 4 then within a.who 0 6 && within a.n (-3) 3 && a.noR && a.noB
 else if a.k = 5 then within a.who 2 3 && decide (a.n = 0) && a.noR && within a.b.length 1 8 && smpsOK a.b
 else if a.k = 6 then within a.who 4 5 && decide (a.n = 0) && within a.tier 0 2 && isRange a.f a.t && a.noB
 else false
theorem isActor_fn (n : Int) : VFn Tryz.prog 83 [.int .i64 n] (.bool (within n 0 6)) := by
 refine VFn.introC Tryz.call83 Tryz.func83 rfl rfl ?_
 conv => whnf
 refine CallC.sca _ (within_fn _ _ _) ?_ ?_
 · exact rfl
 exact And.intro trivial (AVle.refl _)
theorem isSkew_fn (n : Int) : VFn Tryz.prog 48 [.int .i64 n] (.bool (within n (-3) 3)) := by
 refine VFn.introC Tryz.call48 Tryz.func48 rfl rfl ?_
 conv => whnf
 refine CallC.sca _ (within_fn _ _ _) ?_ ?_
 · exact rfl
 exact And.intro trivial (AVle.refl _)
theorem isIngester_fn (n : Int) : VFn Tryz.prog 84 [.int .i64 n] (.bool (within n 2 3)) := by
 refine VFn.introC Tryz.call84 Tryz.func84 rfl rfl ?_
 conv => whnf
 refine CallC.sca _ (within_fn _ _ _) ?_ ?_
 · exact rfl
 exact And.intro trivial (AVle.refl _)
theorem isReader_fn (n : Int) : VFn Tryz.prog 85 [.int .i64 n] (.bool (within n 4 5)) := by
 refine VFn.introC Tryz.call85 Tryz.func85 rfl rfl ?_
 conv => whnf
 refine CallC.sca _ (within_fn _ _ _) ?_ ?_
 · exact rfl
 exact And.intro trivial (AVle.refl _)
theorem isTier_fn (n : Int) : VFn Tryz.prog 86 [.int .i64 n] (.bool (within n 0 2)) := by
 refine VFn.introC Tryz.call86 Tryz.func86 rfl rfl ?_
 conv => whnf
 refine CallC.sca _ (within_fn _ _ _) ?_ ?_
 · exact rfl
 exact And.intro trivial (AVle.refl _)
theorem isRange_fn (f t : Int) : VFn Tryz.prog 87 [.int .i64 f, .int .i64 t] (.bool (isRange f t)) := by
 refine VFn.introC Tryz.call87 Tryz.func87 rfl rfl ?_
 repeat' (first
  | refine Grd.intro (fun h => ?_) (fun h => ?_)
  | refine And.intro trivial (AVle.of_eq (congrArg AV.bool ?_)))
 all_goals (simp_all [isRange, within]; try omega)
set_option maxHeartbeats 4000000 in
theorem ActOK_fn (a : Act) : VFn Tryz.prog 33 [a.av] (.bool a.ok) := by
 refine VFn.introC Tryz.call33 Tryz.func33 rfl rfl ?_
 refine DrawC.mq 19 rfl (by kernel_rfl) ?_
 repeat' (conv => whnf
          first
  | refine Grd.intro (fun h => ?_) (fun h => ?_)
  | (refine CallC.sca _ (isActor_fn _) ?_ ?_; exact rfl)
  | (refine CallC.sca _ (within_fn _ _ _) ?_ ?_; exact rfl)
  | (refine CallC.sca _ (isSkew_fn _) ?_ ?_; exact rfl)
  | (refine CallC.sca _ (isIngester_fn _) ?_ ?_; exact rfl)
  | (refine CallC.sca _ (isReader_fn _) ?_ ?_; exact rfl)
  | (refine CallC.sca _ (isTier_fn _) ?_ ?_; exact rfl)
  | (refine CallC.sca _ (isRange_fn _ _) ?_ ?_; exact rfl)
  | (refine CallC.sca _ (SamplesOK_fn _) ?_ ?_; exact rfl)
  | refine And.intro trivial (AVle.of_eq (congrArg AV.bool ?_)))
 all_goals (simp_all [Act.ok, Act.noR, Act.noB]; done)
theorem smpsOK_nil {L : List Smp} (h : L.length = 0) : smpsOK L = true := by
 have : L = [] := List.eq_nil_of_length_eq_zero h
 subst this; rfl
def mid (n : Int) : Prop := -1000000 ≤ n ∧ n ≤ 1000000
theorem mid_len {n : Int} (h : mid n) : (Lib.itoa n).length ≤ 21 := itoa_len (by have := h.1; omega) (by have := h.2; omega)
theorem CutPrefix_fn (s p : List UInt8) : VFn Tryz.prog 137 [.str (B s), .str (B p)] (.tup [.str (B (Lib.trimPrefix s p)), .bool (Lib.hasPrefix s p)]) := by
 refine VFn.lib Tryz.call137 fun w ok vs hJ hok hv => ?_
 obtain ⟨v, us, rfl, hv, v2, us2, rfl, hv2, hus⟩ := hv
 have e1 : v = .string (B s) := hv
 have e2 : v2 = .string (B p) := hv2
 have e3 : us2 = [] := hus
 subst e1 e2 e3
 refine (Tryz.strings_CutPrefix (B s) (B p) w).mono ?_
 rintro e w' ⟨rfl, rfl⟩
 refine ⟨_, rfl, Go.RowKit.Below.refl _ _, fun _ _ => ⟨[_, _], rfl, _, _, rfl, ?_, _, _, rfl, ?_, rfl⟩⟩
 · show Value.string _ = _
   rw [B_data, B_data]; rfl
 · show Value.bool _ = _
   rw [B_data, B_data]
theorem atoi_end (l : List UInt8) : (atoiOk l = true ∧ Lib.atoiAll l = .ok (atoiV l)) ∨ (atoiOk l = false ∧ Lib.atoiAll l = .syntax ∧ atoiV l = 0) ∨ (atoiOk l = false ∧ Lib.atoiAll l = .range ∧ atoiV l = Lib.atoiSat l) := by
 unfold atoiOk atoiV
 cases h : Lib.atoiAll l
 · exact .inl ⟨rfl, rfl⟩
 · exact .inr (.inl ⟨rfl, rfl, rfl⟩)
 · exact .inr (.inr ⟨rfl, rfl, rfl⟩)
theorem Atoi_ok (l : List UInt8) (hl : l.length ≤ 281474976710656) (h : atoiOk l = true) : VFn Tryz.prog 182 [.str (B l)] (.tup [.int .i64 (atoiV l), .niliface]) := by
 have h' : Lib.atoiAll (B l).data.toList = .ok (atoiV l) := by
  rw [B_data]
  rcases atoi_end l with h1 | h1 | h1
  · exact h1.2
  · rw [h] at h1; cases h1.1
  · rw [h] at h1; cases h1.1
 refine VFn.lib Tryz.call182 fun w ok vs hJ hok hv => ?_
 obtain ⟨v, us, rfl, hv, hus⟩ := hv
 have e1 : v = .string (B l) := hv
 have e3 : us = [] := hus
 subst e1 e3
 refine (Tryz.strconv_Atoi_ok (B l) (by rw [B_size]; omega) (atoiV l) h' w).mono ?_
 rintro e w' ⟨rfl, hw⟩
 refine ⟨_, rfl, ?_, fun _ _ => ⟨[_, _], rfl, _, _, rfl, rfl, _, _, rfl, rfl, rfl⟩⟩
 rcases hw with rfl | ⟨t, rfl⟩
 · exact Go.RowKit.Below.refl _ _
 · exact Go.Lib.bytesWorld_below _ _ _
theorem Atoi_no (l : List UInt8) (hl : l.length ≤ 281474976710656) (h : atoiOk l = false) : VFn Tryz.prog 182 [.str (B l)] (.tup [.int .i64 (atoiV l), .iface 262 .any]) := by
 refine VFn.lib Tryz.call182 fun w ok vs hJ hok hv => ?_
 obtain ⟨v, us, rfl, hv, hus⟩ := hv
 have e1 : v = .string (B l) := hv
 have e3 : us = [] := hus
 subst e1 e3
 rcases atoi_end l with h1 | ⟨_, h1, h2⟩ | ⟨_, h1, h2⟩
 · rw [h] at h1; cases h1.1
 · obtain ⟨tp, p, hv⟩ := tab_syntax hJ
   refine (Tryz.strconv_Atoi_syntax_var (B l) (by rw [B_size]; omega) (by rw [B_data]; exact h1) tp p w hv).mono ?_
   rintro e w' ⟨N, rfl, _, _, bel⟩
   refine ⟨_, rfl, bel, fun _ _ => ⟨[_, _], rfl, _, _, rfl, ?_, _, _, rfl, ⟨_, rfl, trivial⟩, rfl⟩⟩
   rw [h2]; rfl
 · obtain ⟨tp, p, hv⟩ := tab_range hJ
   refine (Tryz.strconv_Atoi_range_var (B l) (by rw [B_size]; omega) (by rw [B_data]; exact h1) tp p w hv).mono ?_
   rintro e w' ⟨N, rfl, _, _, bel⟩
   refine ⟨_, rfl, bel, fun _ _ => ⟨[_, _], rfl, _, _, rfl, ?_, _, _, rfl, ⟨_, rfl, trivial⟩, rfl⟩⟩
   rw [h2, ← B_data l]; rfl
theorem six_fn (n : Int) (h : within n 0 999999 = true) : VFn Tryz.prog 116 [.int .i64 n] (.str (B (six6 n.toNat))) := by
 have hb : 0 ≤ n ∧ n ≤ 999999 := by simpa [within] using h
 have e : 1000000 + n = 1000000 + ((n.toNat : Nat) : Int) := by omega
 have hi := itoa_million (n := n.toNat) (by omega)
 refine VFn.introC Tryz.call116 Tryz.func116 rfl rfl ?_
 refine And.intro (inI64 (by omega) (by omega)) ?_
 conv => whnf
 refine CallC.sca _ (Itoa_fn (1000000 + n) (by omega) (by omega)) ?_ ?_
 · exact rfl
 conv => whnf
 refine And.intro ?_ ?_
 · refine ⟨by omega, ?_⟩
   rw [B_size, e, hi]; simp [six6_len]
 refine And.intro trivial (AVle.of_eq (congrArg AV.str ?_))
 rw [B_extract, B_size, e, hi]; rfl
theorem isSix_fn (n : Int) : VFn Tryz.prog 65 [.int .i64 n] (.bool (within n 0 999999)) := by
 refine VFn.introC Tryz.call65 Tryz.func65 rfl rfl ?_
 conv => whnf
 refine CallC.sca _ (within_fn _ _ _) ?_ ?_
 · exact rfl
 exact And.intro trivial (AVle.refl _)
theorem atoi_yes {l : List UInt8} (hl : l.length = 6) (h : l.all dig = true) : atoiOk l = true ∧ atoiV l = numB 0 l ∧ within (atoiV l) 0 999999 = true ∧ six6 (atoiV l).toNat = l := by
 have h1 := atoi_dig (by intro e; subst e; cases hl) (by omega) h
 have h2 := six6_numB hl h
 have h3 : atoiV l = numB 0 l := by unfold atoiV; rw [h1]
 refine ⟨by unfold atoiOk; rw [h1], h3, ?_, ?_⟩
 · rw [h3]; simp [within]; omega
 · rw [h3]; exact h2.2
theorem readSix_fn (l : List UInt8) (hl : l.length = 6) : VFn Tryz.prog 138 [.str (B l)] (.tup [.int .i64 (atoiV l), .bool (l.all dig)]) := by
 refine VFn.introC Tryz.call138 Tryz.func138 rfl rfl ?_
 by_cases hd : l.all dig = true
 · obtain ⟨h1, h2, h3, h4⟩ := atoi_yes hl hd
   conv => whnf
   refine CallC.sca _ (Atoi_ok l (by omega) h1) ?_ ?_
   · exact rfl
   conv => whnf
   refine CallC.sca _ (isSix_fn _) ?_ ?_
   · exact rfl
   refine Grd.intro (fun h => ?_) (fun h => absurd (h.symm.trans h3) (by simp))
   conv => whnf
   refine CallC.sca _ (six_fn _ h3) ?_ ?_
   · exact rfl
   refine And.intro trivial (AVle.of_eq (show AV.tup [AV.int .i64 (atoiV l), AV.bool ((B (six6 (atoiV l).toNat)).toList == (B l).toList)] = _ from ?_))
   rw [B_eq, hd, h4]; simp
 · have hd' : l.all dig = false := by simpa using hd
   by_cases ho : atoiOk l = true
   · conv => whnf
     refine CallC.sca _ (Atoi_ok l (by omega) ho) ?_ ?_
     · exact rfl
     conv => whnf
     refine CallC.sca _ (isSix_fn _) ?_ ?_
     · exact rfl
     refine Grd.intro (fun h => ?_) (fun h => ?_)
     · conv => whnf
       refine CallC.sca _ (six_fn _ h) ?_ ?_
       · exact rfl
       refine And.intro trivial (AVle.of_eq (show AV.tup [AV.int .i64 (atoiV l), AV.bool ((B (six6 (atoiV l).toNat)).toList == (B l).toList)] = _ from ?_))
       have : ¬ six6 (atoiV l).toNat = l := fun e => hd (by rw [← e]; exact six6_dig _)
       rw [B_eq, hd']; simp [this]
     · rw [hd']
       exact And.intro trivial (AVle.refl _)
   · conv => whnf
     refine CallC.sca _ (Atoi_no l (by omega) (by simpa using ho)) ?_ ?_
     · exact rfl
     rw [hd']
     exact And.intro trivial (AVle.refl _)
theorem dataPrefixes_fn : VFn Tryz.prog 136 [] (txts [pre 0, pre 1, pre 2]) := by
 refine VFn.introC Tryz.call136 Tryz.func136 rfl rfl ?_
 refine And.intro trivial (AVle.sl rfl fun i hi => ?_)
 have : i = 0 ∨ i = 1 ∨ i = 2 := by omega
 rcases this with rfl | rfl | rfl <;> rfl
theorem readSix_at {s : ByteArray} {l : List UInt8} (e : s = B l) (hl : l.length = 6) : VFn Tryz.prog 138 [.str s] (.tup [.int .i64 (atoiV l), .bool (l.all dig)]) := by
 subst e; exact readSix_fn l hl
theorem readDataKey_fn (k : List UInt8) : VFn Tryz.prog 68 [.str (B k)] (.tup [.int .i64 (kT k), .int .i64 (kN k), .int .i64 (kW k), .bool (kOk k)]) := by
 refine VFn.introC Tryz.call68 Tryz.func68 rfl rfl ?_
 conv => whnf
 refine CallC.nl _ (dataPrefixes_fn) ?_ ?_
 · exact rfl
 refine LoopC.mk (fun i : Nat => i ≤ 3 ∧ ∀ j, j < i → tryK j k = none) (fun i => [(0, .str (B k)), (14, txts [pre 0, pre 1, pre 2]), (15, .int .i64 3), (16, .int .i64 i)]) (fun _ => []) 0 (fun i => 3 - i) 0
  ⟨⟨by omega, fun j hj => absurd hj (by omega)⟩, [], rfl, rfl, ⟨AVle.refl _, AVle.refl _, AVle.refl _, AVle.refl _, trivial⟩, trivial⟩ ?_
 intro i hi
 refine Grd.intro (fun h2 => ?_) (fun h2 => ?_)
 · have hin : i < 3 := by have := of_decide_eq_true h2; omega
   have hp : ix [pre 0, pre 1, pre 2] i = pre i := by
    have : i = 0 ∨ i = 1 ∨ i = 2 := by omega
    rcases this with rfl | rfl | rfl <;> rfl
   have hnext : tryK i k = none → ∀ j, j < i + 1 → tryK j k = none := fun h j hj => by
    rcases Nat.lt_or_ge j i with h' | h'
    · exact hi.2 j h'
    · rw [show j = i by omega]; exact h
   conv => whnf
   refine And.intro ⟨by omega, by show (i : Int) < ((3 : Nat) : Int); omega⟩ ?_
   conv => whnf
   refine CallC.sca _ (CutPrefix_fn k (ix [pre 0, pre 1, pre 2] i)) ?_ ?_
   · exact rfl
   have ht : Lib.hasPrefix k (ix [pre 0, pre 1, pre 2] i) = true → Lib.trimPrefix k (ix [pre 0, pre 1, pre 2] i) = k.drop (pre i).length := fun h => by
    unfold Lib.trimPrefix; rw [if_pos h, hp]
   have h0 : Lib.hasPrefix k (ix [pre 0, pre 1, pre 2] i) = false → tryK i k = none := fun h => by
    unfold tryK; rw [← hp, h]; rfl
   have h1 : Lib.hasPrefix k (ix [pre 0, pre 1, pre 2] i) = true → tryK i k = restK i (k.drop (pre i).length) := fun h => by
    rw [hp] at h; unfold tryK; rw [if_pos h]
   generalize Lib.hasPrefix k (ix [pre 0, pre 1, pre 2] i) = hP at h0 h1 ht
   generalize hr : Lib.trimPrefix k (ix [pre 0, pre 1, pre 2] i) = r at ht
   refine Grd.intro (fun h3 => ?_) (fun h3 => ?_)
   · have hr' := ht h3
     have h1' := h1 h3
     rw [← hr'] at h1'
     have hfail : restK i r = none → ∀ j, j < i + 1 → tryK j k = none := fun h => hnext (h1'.trans h)
     refine Grd.intro (fun h4 => ?_) (fun h4 => ?_)
     · have h13 : r.length = 13 := by have := of_decide_eq_true h4; rw [B_size] at this; omega
       refine And.intro ⟨by omega, by rw [B_size]; omega⟩ ?_
       refine Grd.intro (fun h5 => ?_) (fun h5 => ?_)
       · have h6 : ix r 6 = 45 := by
          have h : ((r.getD 6 0).toNat : Int) = 45 := of_decide_eq_true h5
          exact UInt8.toNat_inj.1 (by show (r.getD 6 0).toNat = 45; omega)
         have hA : (B r).extract 0 6 = B (r.take 6) := by rw [B_extract]; rfl
         have hB : (B r).extract 7 (B r).size = B (r.drop 7) := by rw [B_extract, B_size, h13, List.take_of_length_le (by simp; omega)]
         have hlA : (r.take 6).length = 6 := by simp; omega
         have hlB : (r.drop 7).length = 6 := by simp; omega
         conv => whnf
         refine And.intro ⟨by omega, by rw [B_size]; omega⟩ ?_
         conv => whnf
         refine CallC.sca _ (readSix_at hA hlA) ?_ ?_
         · exact rfl
         conv => whnf
         refine And.intro ⟨by omega, by rw [B_size]; omega⟩ ?_
         conv => whnf
         refine CallC.sca _ (readSix_at hB hlB) ?_ ?_
         · exact rfl
         refine Grd.intro (fun h7 => ?_) (fun h7 => ?_)
         · refine Grd.intro (fun h8 => ?_) (fun h8 => ?_)
           · have hs : restK i r = some (i, numB 0 (r.take 6), numB 0 (r.drop 7)) := by
              unfold restK; rw [if_pos ⟨h13, h6, h7, h8⟩]
             have hk := tryK_parse hin (h1'.trans hs)
             refine And.intro trivial (AVle.of_eq (show AV.tup [AV.int .i64 i, AV.int .i64 (atoiV (r.take 6)), AV.int .i64 (atoiV (r.drop 7)), AV.bool true] = _ from ?_))
             unfold kT kN kW kOk
             rw [hk, (atoi_yes hlA h7).2.1, (atoi_yes hlB h8).2.1]; rfl
           · have := hfail (by unfold restK; rw [if_neg (fun h => absurd (h.2.2.2.symm.trans h8) (by simp))])
             refine And.intro (inI64 (by omega) (by omega)) ?_
             exact ⟨i + 1, ⟨by omega, this⟩, by omega, [], rfl, rfl, ⟨AVle.refl _, AVle.refl _, AVle.refl _, AVle.of_eq (congrArg (AV.int .i64) (by simp)), trivial⟩, trivial⟩
         · have := hfail (by unfold restK; rw [if_neg (fun h => absurd (h.2.2.1.symm.trans h7) (by simp))])
           refine And.intro (inI64 (by omega) (by omega)) ?_
           exact ⟨i + 1, ⟨by omega, this⟩, by omega, [], rfl, rfl, ⟨AVle.refl _, AVle.refl _, AVle.refl _, AVle.of_eq (congrArg (AV.int .i64) (by simp)), trivial⟩, trivial⟩
       · have := hfail (by
          unfold restK; rw [if_neg]
          rintro ⟨_, h6, _⟩
          have h : ¬ ((r.getD 6 0).toNat : Int) = 45 := of_decide_eq_false h5
          exact h (by rw [show r.getD 6 0 = 45 from h6]; rfl))
         refine And.intro (inI64 (by omega) (by omega)) ?_
         exact ⟨i + 1, ⟨by omega, this⟩, by omega, [], rfl, rfl, ⟨AVle.refl _, AVle.refl _, AVle.refl _, AVle.of_eq (congrArg (AV.int .i64) (by simp)), trivial⟩, trivial⟩
     · have h13 : ¬ r.length = 13 := by have := of_decide_eq_false h4; rw [B_size] at this; omega
       have := hfail (by unfold restK; rw [if_neg (fun h => h13 h.1)])
       refine And.intro (inI64 (by omega) (by omega)) ?_
       exact ⟨i + 1, ⟨by omega, this⟩, by omega, [], rfl, rfl, ⟨AVle.refl _, AVle.refl _, AVle.refl _, AVle.of_eq (congrArg (AV.int .i64) (by simp)), trivial⟩, trivial⟩
   · have := hnext (h0 (by simpa using h3))
     refine And.intro (inI64 (by omega) (by omega)) ?_
     exact ⟨i + 1, ⟨by omega, this⟩, by omega, [], rfl, rfl, ⟨AVle.refl _, AVle.refl _, AVle.refl _, AVle.of_eq (congrArg (AV.int .i64) (by simp)), trivial⟩, trivial⟩
 · have h3 : i = 3 := by have := of_decide_eq_false h2; omega
   subst h3
   have hk := parse_none hi.2
   refine And.intro trivial (AVle.of_eq (show AV.tup [AV.int .i64 0, AV.int .i64 0, AV.int .i64 0, AV.bool false] = _ from ?_))
   unfold kT kN kW kOk
   rw [hk]; rfl



theorem force_to {x y : AV} {k : AV → Prop} (e : x = y) (h : y.force k) : x.force k := e ▸ h
theorem first2_of (a b : Bool) (x y : Int) {n : Nat} {rows : Nat → List AV} (hr : FirstRows 4 3 rows 0 [(a, x), (b, y)]) (hn : n = 4) {r : Int} (h : (if a = true then x else if b = true then y else 0) = r) : VFn Tryz.prog 30 [.sl 1 n rows] (.int .i64 r) := by
 have e : firstC [(a, x), (b, y)] = r := by
  rw [← h]
  unfold firstC firstC firstC
  cases a <;> cases b <;> rfl
 rw [← e]
 exact first_of _ hr hn (show 2 ≤ 1000 by decide)
theorem alloc_new (w : World) (o : Obj) : (w.alloc o).heap[w.heap.size]? = some o ∧ (w.alloc o).heap.size = w.heap.size + 1 := by
 unfold World.alloc; simp
theorem SplitN_fn (l : List UInt8) (c : UInt8) (m : Nat) (hl : l.length < 4294967281) (hm : m ≤ 1000000) : VFn Tryz.prog 204 [.str (B l), .str (B [c]), .int .i64 ((m + 1 : Nat) : Int)] (txts (Lib.splitN l [c] (m + 1))) := by
 refine ⟨Tryz.call204, fun w ok vs hJ hok hv => ?_⟩
 obtain ⟨v, us, rfl, hv, v2, us2, rfl, hv2, v3, us3, rfl, hv3, hus⟩ := hv
 have e1 : v = .string (B l) := hv
 have e2 : v2 = .string (B [c]) := hv2
 have e3 : v3 = .int .i64 ((m + 1 : Nat) : Int) := hv3
 have e4 : us3 = [] := hus
 subst e1 e2 e3 e4
 obtain ⟨mv, hmv⟩ := tab_maxlen hJ
 have hd := Lib.splitB_data (B [c]) 0 (min (m + 1) ((B l).size + 1) - 1) (B l)
 have hle := Lib.splitB_length_le (B [c]) 0 (min (m + 1) ((B l).size + 1) - 1) (B l)
 refine (Tryz.strings_SplitN (B l) (B [c]) (m + 1) mv w (by rw [B_size]; exact hl) hmv (by rw [B_size]; exact Nat.le_refl 1) (by omega) (by omega)).mono ?_
 rintro e w' ⟨rfl, rfl⟩
 generalize Lib.splitB (B [c]) 0 (min (m + 1) ((B l).size + 1) - 1) (B l) = S at hd hle
 rw [B_data, B_data, B_size] at hd
 have hR : Lib.splitN l [c] (m + 1) = S.map (·.data.toList) := hd.symm
 have hlen : (Lib.splitN l [c] (m + 1)).length = S.length := by rw [hR]; simp
 have bel := (Go.RowKit.Below.refl w.heap.size w).alloc (Nat.le_refl _) (.cells (Lib.cellsOf S (min (m + 1) ((B l).size + 1))) 9)
 obtain ⟨hnew, hsz⟩ := alloc_new w (.cells (Lib.cellsOf S (min (m + 1) ((B l).size + 1))) 9)
 refine ⟨_, rfl, ⟨bel.os, bel.tape, bel.output, bel.size, fun b hb _ => bel.block b hb⟩, ?_⟩
 show RV _ _ G0 (.sl 1 (Lib.splitN l [c] (m + 1)).length fun i => [.str (B (ix (Lib.splitN l [c] (m + 1)) i))]) _
 rw [hlen]
 refine ⟨_, _, rfl, by omega, .inr ⟨w.heap.size, 0, rfl, .inr ⟨Nat.le_refl _, by rw [hsz]; omega⟩, fun i hi => ⟨[.string S[i]], rfl, ⟨_, _, rfl, ?_, rfl⟩, fun j hj => ?_⟩⟩⟩
 · show Value.string _ = Value.string _
   rw [hR, ix_lt (by simpa using hi)]
   simp [B]
 · have : j = 0 := by omega
   subst this
   rw [Nat.zero_add, Nat.mul_one, Nat.add_zero, cell_of_row _ _ _ _ _ _ hnew]
   simp [Lib.cellsOf, List.getElem?_append_left, hi]
theorem atoi_range (t : List UInt8) : -9223372036854775808 ≤ atoiV t ∧ atoiV t ≤ 9223372036854775807 := by
 rcases atoi_end t with ⟨_, h⟩ | ⟨_, h, e⟩ | ⟨_, h, e⟩
 · generalize atoiV t = v at h
   unfold Lib.atoiAll at h
   cases t with
   | nil => cases h
   | cons c r =>
     simp only at h
     split at h
     · cases h
     · cases h
     · split at h
       · cases h
       · split at h
         · cases h
         · injection h with h
           subst h
           split <;> omega
 · rw [e]; decide
 · rw [e]; unfold Lib.atoiSat; split <;> decide
theorem number_fn (t : List UInt8) (hl : t.length ≤ 281474976710656) : VFn Tryz.prog 205 [.str (B t)] (.tup [.int .i64 (atoiV t), .bool (numOk t)]) := by
 refine VFn.introC Tryz.call205 Tryz.func205 rfl rfl ?_
 by_cases ho : atoiOk t = true
 · conv => whnf
   refine CallC.sca _ (Atoi_ok t hl ho) ?_ ?_
   · exact rfl
   have hb := atoi_range t
   conv => whnf
   refine CallC.sca _ (Itoa_fn (atoiV t) hb.1 hb.2) ?_ ?_
   · exact rfl
   refine Grd.intro (fun h => ?_) (fun h => ?_)
   · have h : ((B (Lib.itoa (atoiV t))).toList == (B t).toList) = true := h
     rw [B_eq] at h
     conv => whnf
     refine CallC.sca _ (within_fn _ _ _) ?_ ?_
     · exact rfl
     refine And.intro trivial (AVle.of_eq (show AV.tup [.int .i64 (atoiV t), .bool (within (atoiV t) (-999999999999999999) 999999999999999999)] = _ from ?_))
     unfold numOk; rw [ho, h]; rfl
   · have h : ((B (Lib.itoa (atoiV t))).toList == (B t).toList) = false := h
     rw [B_eq] at h
     refine And.intro trivial (AVle.of_eq (show AV.tup [.int .i64 (atoiV t), .bool false] = _ from ?_))
     unfold numOk; rw [ho, h]; rfl
 · have ho : atoiOk t = false := by simpa using ho
   conv => whnf
   refine CallC.sca _ (Atoi_no t hl ho) ?_ ?_
   · exact rfl
   refine And.intro trivial (AVle.of_eq (show AV.tup [.int .i64 (atoiV t), .bool false] = _ from ?_))
   unfold numOk; rw [ho]; rfl
theorem cutP_piece (c : UInt8) : ∀ (l cur : List UInt8), ∀ x ∈ cutP c cur l, x.length ≤ cur.length + l.length
 | [], cur, x, hx => by simp [cutP] at hx; rw [hx]; simp
 | y :: r, cur, x, hx => by
   unfold cutP at hx
   split at hx
   · rcases List.mem_cons.1 hx with rfl | hx
     · simp
     · have := cutP_piece c r [] x hx; simp at this ⊢; omega
   · have := cutP_piece c r (cur ++ [y]) x hx; simp at this ⊢; omega
theorem numbers_gen (t : List UInt8) (c : UInt8) (m : Nat) (hl : t.length ≤ 1000000000) (hm : m ≤ 1000000) (R : AV) (hy : ∀ N, numsK c m t = some N → R = .tup [ints N, .bool true]) (hn : numsK c m t = none → R = .tup [.nilsl, .bool false]) :
 VFn Tryz.prog 172 [.str (B t), .str (B [c]), .int .i64 (m : Int)] R := by
 have hsl := splitN_len c t m
 refine VFn.introC Tryz.call172 Tryz.func172 rfl rfl ?_
 refine And.intro (inI64 (by omega) (by omega)) ?_
 conv => whnf
 refine CallC.nl _ (SplitN_fn t c m (by omega) hm) ?_ ?_
 · exact rfl
 refine Grd.intro (fun h1 => ?_) (fun h1 => ?_)
 · have h1 : ¬ (Lib.splitN t [c] (m + 1)).length = m := by
    have h : (!decide ((((Lib.splitN t [c] (m + 1)).length : Nat) : Int) = (m : Int))) = true := h1
    simp at h; omega
   rw [hn (by unfold numsK; rw [if_neg (fun h => h1 (hsl.2 h.1))])]
   exact And.intro trivial (AVle.refl _)
 have h1 : (Lib.splitN t [c] (m + 1)).length = m := by
  have h : (!decide ((((Lib.splitN t [c] (m + 1)).length : Nat) : Int) = (m : Int))) = false := h1
  simp at h; omega
 have hcm := hsl.1 h1
 rw [splitN_eq c t m hcm]
 have hcl := cutP_len c t []
 have hpl : ∀ x ∈ cutP c [] t, x.length ≤ t.length := fun x hx => by have := cutP_piece c t [] x hx; simpa using this
 obtain ⟨P, hP⟩ : ∃ P, P = cutP c [] t := ⟨_, rfl⟩
 rw [← hP]
 rw [← hP] at hcm hcl hpl
 have hK : numsK c m t = if P.all numOk = true then some (P.map atoiV) else none := by
  unfold numsK; rw [← hP]
  by_cases h : P.all numOk = true
  · rw [if_pos ⟨hcm, h⟩, if_pos h]
  · rw [if_neg (fun q => h q.2), if_neg h]
 refine LoopC.mk (fun i : Nat => i ≤ P.length ∧ ∀ j, j < i → numOk (ix P j) = true) (fun i => [(9, .osl 0), (24, txts P), (25, .int .i64 P.length), (26, .int .i64 i)])
  (fun i => [(0, .arr 3 1 ((P.take i).map atoiV).length fun j => [.int .i64 (ix ((P.take i).map atoiV) j)])]) 1 (fun i => P.length - i) 0
  ⟨⟨Nat.zero_le _, fun j hj => absurd hj (Nat.not_lt_zero j)⟩, [(0, 0)], rfl, rfl, ⟨AVle.refl _, AVle.refl _, AVle.refl _, AVle.refl _, trivial⟩, ⟨MOle.arr rfl fun i hi => absurd hi (Nat.not_lt_zero i), trivial⟩⟩ ?_
 intro i hi
 obtain ⟨hi, hall⟩ := hi
 refine Grd.intro (fun h2 => ?_) (fun h2 => ?_)
 · have hin : i < P.length := by have := of_decide_eq_true h2; omega
   refine And.intro (by omega) ?_
   conv => whnf
   refine CallC.sca _ (number_fn (ix P i) (by have := hpl _ (getD_mem hin); omega)) ?_ ?_
   · exact rfl
   refine Grd.intro (fun h3 => ?_) (fun h3 => ?_)
   · have h3 : numOk (ix P i) = false := by simpa using (show (!numOk (ix P i)) = true from h3)
     have : ¬ P.all numOk = true := fun h => by rw [List.all_eq_true.1 h _ (getD_mem hin)] at h3; cases h3
     rw [hn (by rw [hK, if_neg this])]
     exact And.intro trivial (AVle.refl _)
   have h3 : numOk (ix P i) = true := by simpa using (show (!numOk (ix P i)) = false from h3)
   refine And.intro ⟨show (((P.take i).map atoiV).length + 1) * 8 ≤ 140737488355328 by simp; omega, all1 rfl⟩ ?_
   refine And.intro (inI64 (by omega) (by omega)) ?_
   refine ⟨i + 1, ⟨hin, fun j hj => ?_⟩, by omega, [(2, 0)], rfl, rfl, ⟨AVle.refl _, AVle.refl _, AVle.refl _, AVle.of_eq (congrArg (AV.int .i64) (by simp)), trivial⟩, ⟨arr_next (f := fun x => [.int .i64 x]) (map_take_snoc hin) rfl, trivial⟩⟩
   rcases Nat.lt_or_ge j i with h' | h'
   · exact hall j h'
   · rw [show j = i by omega]; exact h3
 · have : i = P.length := by have := of_decide_eq_false h2; omega
   subst this
   have e : P.take P.length = P := List.take_of_length_le (Nat.le_refl _)
   have hA : P.all numOk = true := List.all_eq_true.2 fun x hx => by
    obtain ⟨j, hj, q⟩ := List.getElem_of_mem hx
    have := hall j hj
    rw [ix_lt hj, q] at this; exact this
   rw [hy _ (by rw [hK, if_pos hA]), e]
   exact And.intro trivial (AVle.refl _)
theorem numbers_yes (t : List UInt8) (c : UInt8) (m : Nat) (hl : t.length ≤ 1000000000) (hm : m ≤ 1000000) {N : List Int} (h : numsK c m t = some N) : VFn Tryz.prog 172 [.str (B t), .str (B [c]), .int .i64 (m : Int)] (.tup [ints N, .bool true]) :=
 numbers_gen t c m hl hm _ (fun N' h' => by rw [h] at h'; cases h'; rfl) (fun h' => by rw [h] at h'; cases h')
theorem numbers_no (t : List UInt8) (c : UInt8) (m : Nat) (hl : t.length ≤ 1000000000) (hm : m ≤ 1000000) (h : numsK c m t = none) : VFn Tryz.prog 172 [.str (B t), .str (B [c]), .int .i64 (m : Int)] (.tup [.nilsl, .bool false]) :=
 numbers_gen t c m hl hm _ (fun N' h' => by rw [h] at h'; cases h') (fun h' => rfl)
end Go.Proofs.YtnplgeogieoioaaGreatDoor
