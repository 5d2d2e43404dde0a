/- Contracts of functions that the claim reaches, and the plain law of what they compute; each theorem bears its own conditions. -/
import Derived.Test.YtopfpmcakoeloaaGreatDoorQ2
import Derived.Test.YtopfpmcakoeloaaGreatDoorV50
set_option linter.unusedVariables false
set_option linter.constructorNameAsVariable false
set_option linter.unusedSimpArgs false
set_option maxRecDepth 20000
namespace Go.Proofs.YtopfpmcakoeloaaGreatDoor
open Go Go.Vw

theorem CloneOb_own (L : List Ob) (hL : L.length ≤ 1000000) : FnM Tryz.prog 71 0 [obs L] [] (.osl 0) [(0, .arr 72 3 L.length fun i => (ix L i).row)] 1 := by
  refine FnM.introN Tryz.call71 Tryz.func71 rfl rfl ?_
  conv => whnf
  refine OpC.isnil rfl rfl rfl rfl rfl (fun h0 => ?_) ?_
  · conv => whnf
    exact ⟨_, .inr ⟨2, 72, 3, fun i => (ix L i).row, rfl, rfl⟩, And.intro trivial ⟨[(0, 0)], rfl, AVle.refl _, ⟨MOle.arr h0.symm fun i hi => rfl, trivial⟩⟩⟩
  · conv => whnf
    refine And.intro ⟨show (0 + L.length) * 40 ≤ 140737488355328 by omega, fun i hi => rfl⟩ ?_
    conv => whnf
    exact ⟨_, .inl rfl, And.intro trivial ⟨[(1, 0)], rfl, AVle.refl _, ⟨MOle.arr (Nat.zero_add _) fun i hi => appRows_ge (Nat.zero_le _), trivial⟩⟩⟩
theorem cmp_lt : ∀ a b : List UInt8, decide (Lib.compareBytes a b < 0) = decide (a < b)
  | [], [] => by simp [Lib.compareBytes]
  | [], _ :: _ => by simp [Lib.compareBytes]
  | _ :: _, [] => by simp [Lib.compareBytes]
  | x :: a, y :: b => by
    have ih := cmp_lt a b
    unfold Lib.compareBytes
    by_cases h1 : x < y
    · simp [h1, List.cons_lt_cons_iff]
    · by_cases h2 : y < x
      · have : ¬ x = y := fun e => by subst e; exact h1 h2
        simp only [List.cons_lt_cons_iff]; simp [h1, h2, this]
      · have : x = y := UInt8.le_antisymm (UInt8.not_lt.1 h2) (UInt8.not_lt.1 h1)
        subst this
        simp only [List.cons_lt_cons_iff]; simp [h1, ih]
theorem cmp_eq : ∀ a b : List UInt8, decide (Lib.compareBytes a b = 0) = decide (a = b)
  | [], [] => by simp [Lib.compareBytes]
  | [], _ :: _ => by simp [Lib.compareBytes]
  | _ :: _, [] => by simp [Lib.compareBytes]
  | x :: a, y :: b => by
    have ih := cmp_eq a b
    unfold Lib.compareBytes
    by_cases h1 : x < y
    · have : ¬ x = y := fun e => by subst e; exact UInt8.lt_irrefl _ h1
      simp [h1, this]
    · by_cases h2 : y < x
      · have : ¬ x = y := fun e => by subst e; exact h1 h2
        simp [h1, h2, this]
      · have : x = y := UInt8.le_antisymm (UInt8.not_lt.1 h2) (UInt8.not_lt.1 h1)
        subst this
        simp [h1]
        simpa using ih
theorem Compare_fn (a b : List UInt8) : VFn Tryz.prog 121 [.str (B a), .str (B b)] (.int .i64 (Lib.compareBytes a b)) := by
  refine VFn.lib Tryz.call121 fun w ok vs hJ hok hv => ?_
  obtain ⟨v, us, rfl, hv, v2, us2, rfl, hv2, hus⟩ := hv
  have e1 : v = .string (B a) := hv
  have e2 : v2 = .string (B b) := hv2
  have e3 : us2 = [] := hus
  subst e1 e2 e3
  refine (Tryz.strings_Compare (B a) (B b) w).mono ?_
  rintro e w' ⟨rfl, rfl⟩
  exact ⟨_, rfl, Go.RowKit.Below.refl _ _, fun _ _ => by rw [B_data, B_data]; rfl⟩
theorem find1_fn (o : Ob) (k : List UInt8) : VFn Tryz.prog 120 [o.av, .str (B k)] (.int .i64 (Lib.compareBytes o.key k)) := by
  refine VFn.introC Tryz.call120 Tryz.func120 rfl rfl ?_
  conv => whnf
  refine CallC.sca _ (Compare_fn o.key k) ?_ ?_
  · exact rfl
  exact And.intro trivial (AVle.refl _)
theorem Search_fn (L : List Ob) (hS : Srt L) (hL : L.length ≤ 1000000) (k : List UInt8) : VFn Tryz.prog 119 [obs L, .str (B k), .fn (.func 120) [] []] (.tup [.int .i64 (lb k L), .bool (hasK k L)]) := by
  have hle := lb_le k L
  refine VFn.introC Tryz.call119 Tryz.func119 rfl rfl ?_
  refine LoopC.mk (fun p : Nat × Nat => p.1 ≤ lb k L ∧ lb k L ≤ p.2 ∧ p.2 ≤ L.length) (fun p => [(0, obs L), (1, .str (B k)), (2, .fn (.func 120) [] []), (6, .int .i64 0), (7, .bool false), (8, .int .i64 L.length), (9, .int .i64 p.1), (10, .int .i64 p.2)]) (fun _ => []) 0 (fun p => p.2 - p.1) (0, L.length)
    ⟨⟨Nat.zero_le _, hle, Nat.le_refl _⟩, [], rfl, rfl, ⟨AVle.refl _, AVle.refl _, AVle.refl _, AVle.refl _, AVle.refl _, AVle.refl _, AVle.refl _, AVle.refl _, trivial⟩, trivial⟩ ?_
  rintro ⟨i, j⟩ hp
  obtain ⟨h1, h2, h3⟩ := hp
  simp only at h1 h2 h3
  refine Grd.intro (fun g1 => ?_) (fun g1 => ?_)
  · have hij : i < j := by have := of_decide_eq_true g1; omega
    have eh : ((i : Int) + (j : Int)) / 2 = (((i + j) / 2 : Nat) : Int) := by omega
    refine And.intro (inI64 (by omega) (by omega)) ?_
    refine And.intro (show inI .u64 ((i : Int) + (j : Int)) from ⟨show (0 : Int) ≤ _ by omega, show _ ≤ (18446744073709551615 : Int) by omega⟩) ?_
    refine And.intro ⟨by omega, by omega, rfl⟩ ?_
    rw [eh]
    obtain ⟨h, hh⟩ : ∃ h, h = (i + j) / 2 := ⟨_, rfl⟩
    rw [← hh]
    have hi : i ≤ h := by omega
    have hj : h < j := by omega
    refine And.intro (inI64 (by omega) (by omega)) ?_
    refine And.intro ⟨by omega, by omega⟩ ?_
    conv => whnf
    refine CallC.sca _ (find1_fn (ix L h) k) ?_ ?_
    · exact rfl
    have hc : decide (Lib.compareBytes (ix L h).key k < 0) = decide (h < lb k L) := by rw [cmp_lt]; exact decide_eq_decide.2 (hS.iff (by omega))
    refine Grd.intro (fun g2 => ?_) (fun g2 => ?_)
    · have g2 : h < lb k L := of_decide_eq_true (hc.symm.trans g2)
      refine And.intro (inI64 (by omega) (by omega)) ?_
      exact ⟨(h + 1, j), ⟨by simp only; omega, by simp only; omega, by simp only; omega⟩, by simp only; omega, [], rfl, rfl, ⟨AVle.refl _, AVle.refl _, AVle.refl _, AVle.refl _, AVle.refl _, AVle.refl _, AVle.of_eq (congrArg (AV.int .i64) (by simp)), AVle.refl _, trivial⟩, trivial⟩
    · have g2 : ¬ h < lb k L := of_decide_eq_false (hc.symm.trans g2)
      exact ⟨(i, h), ⟨by simp only; omega, by simp only; omega, by simp only; omega⟩, by simp only; omega, [], rfl, rfl, ⟨AVle.refl _, AVle.refl _, AVle.refl _, AVle.refl _, AVle.refl _, AVle.refl _, AVle.refl _, AVle.refl _, trivial⟩, trivial⟩
  · have hij : j ≤ i := by have := of_decide_eq_false g1; omega
    have e1 : i = lb k L := by omega
    subst e1
    refine Grd.intro (fun g2 => ?_) (fun g2 => ?_)
    · have g2 : lb k L < L.length := by have := of_decide_eq_true g2; omega
      refine And.intro ⟨by omega, by omega⟩ ?_
      conv => whnf
      refine CallC.sca _ (find1_fn (ix L (lb k L)) k) ?_ ?_
      · exact rfl
      refine And.intro trivial (AVle.of_eq (congrArg (fun b => AV.tup [.int .i64 (lb k L), .bool b]) (show decide (Lib.compareBytes (ix L (lb k L)).key k = 0) = _ from ?_)))
      rw [cmp_eq]; unfold hasK; rw [decide_eq_true g2]; rfl
    · have g2 : ¬ lb k L < L.length := by have := of_decide_eq_false g2; omega
      refine And.intro trivial (AVle.of_eq (congrArg (fun b => AV.tup [.int .i64 (lb k L), .bool b]) (show false = _ from ?_)))
      unfold hasK; rw [decide_eq_false g2]; rfl
theorem find_fn (s : Sto) (hs : s.ok = true) (k : List UInt8) : VFn Tryz.prog 102 [s.av, .str (B k)] (.tup [.int .i64 (s.pos k), .bool (s.has k)]) := by
  have hL := (Sto.ok_at hs).2.1
  refine VFn.introC Tryz.call102 Tryz.func102 rfl rfl ?_
  conv => whnf
  refine CallC.sca _ (Search_fn s.os (Sto.srt hs) (by omega) k) ?_ ?_
  · exact rfl
  exact And.intro trivial (AVle.refl _)
theorem get_fn (s : Sto) (hs : s.ok = true) (k : List UInt8) : VFn Tryz.prog 116 [s.av, .str (B k)] (if s.has k = true then .tup [.str (B (s.get k).data), .bool true] else .tup [.str (B []), .bool false]) := by
  by_cases h : s.has k = true
  · rw [if_pos h]
    have hp := (hasK_at h).1
    have c := find_fn s hs k
    rw [h] at c
    refine VFn.introC Tryz.call116 Tryz.func116 rfl rfl ?_
    conv => whnf
    refine CallC.sca _ (c) ?_ ?_
    · exact rfl
    refine And.intro ⟨by omega, show ((lb k s.os : Nat) : Int) < (s.os.length : Int) by omega⟩ ?_
    exact And.intro trivial (AVle.refl _)
  · rw [if_neg h]
    have c := find_fn s hs k
    rw [show s.has k = false by simpa using h] at c
    refine VFn.introC Tryz.call116 Tryz.func116 rfl rfl ?_
    conv => whnf
    refine CallC.sca _ (c) ?_ ?_
    · exact rfl
    exact And.intro trivial (AVle.refl _)
theorem copied_own (s : Sto) (hL : s.os.length ≤ 1000000) : FnM Tryz.prog 36 0 [s.av] [] s.own [(0, .arr 72 3 s.os.length fun i => (ix s.os i).row)] 1 := by
  refine FnM.introC Tryz.call36 Tryz.func36 rfl rfl ?_
  refine DrawC.mk 6 rfl (by kernel_rfl) ?_
  conv => whnf
  refine PCallC.own (CloneOb_own s.os hL) rfl (fun i hi => rfl) ?_
  exact And.intro trivial ⟨[(4, 0)], rfl, AVle.refl _, ⟨MOle.refl _, trivial⟩⟩
end Go.Proofs.YtopfpmcakoeloaaGreatDoor
set_option linter.unusedVariables false
set_option linter.constructorNameAsVariable false
set_option linter.unusedSimpArgs false
set_option maxRecDepth 20000
namespace Go.Proofs.YtopfpmcakoeloaaGreatDoor
open Go Go.Vw

def insR (i : Nat) (rows r1 : Nat → List AV) (j : Nat) : List AV := if j < i then rows j else if j = i then r1 0 else rows (j - 1)
theorem Insert_own (n i : Nat) (rows r1 : Nat → List AV) (hn : n ≤ 1000000) (hi : i ≤ n) (h1 : ∀ j, j < n → (rows j).all AV.one = true) (h2 : (r1 0).all AV.one = true) :
    FnM Tryz.prog 103 2 [.osl 0, .int .i64 i, .osl 1] [(0, .arr 72 3 n rows), (1, .arr 72 3 1 r1)] (.osl 2) [(2, .arr 72 3 (n + 1) (insR i rows r1))] 3 := by
  refine FnM.introC Tryz.call103 Tryz.func103 rfl rfl ?_
  refine And.intro ⟨by omega, by omega⟩ ?_
  refine Grd.intro (fun g1 => ?_) (fun g1 => ?_)
  · have e : i = n := by have := of_decide_eq_true g1; omega
    subst e
    refine And.intro ⟨show (i + 1) * 40 ≤ 140737488355328 by omega, all1 h2⟩ ?_
    exact And.intro trivial ⟨[(0, 0), (1, 1), (2, 2)], rfl, AVle.refl _, ⟨MOle.arr rfl fun j hj => by
      unfold insR
      by_cases hji : j < i
      · rw [appRows_lt hji, if_pos hji]
      · have : j = i := by omega
        subst this
        rw [appRows_ge (Nat.le_refl _), if_neg hji, if_pos rfl, Nat.sub_self], trivial⟩⟩
  have hin : i < n := by have := of_decide_eq_false g1; omega
  refine And.intro (inI64 (by omega) (by omega)) ?_
  conv => whnf
  refine OpC.cap rfl rfl rfl rfl rfl (fun c hc hcm => ?_)
  refine Grd.intro (fun g2 => ?_) (fun g2 => ?_)
  · have g2 : c < n + 1 := by have := of_decide_eq_true g2; omega
    conv => whnf
    refine OpC.headc rfl rfl rfl rfl rfl rfl rfl ⟨by omega, by omega⟩ ?_
    refine And.intro (inI64 (by omega) (by omega)) ?_
    refine And.intro (inI64 (by omega) (by omega)) ?_
    conv => whnf
    refine OpC.appz (q := n + 1 - i) rfl rfl rfl rfl rfl rfl rfl rfl rfl (by show ((n : Int) + 1 - i) = _; omega) (by omega) (by show c < (i : Int).toNat + (n + 1 - i); omega) (show ((i : Int).toNat + (n + 1 - i)) * 40 ≤ 140737488355328 by omega) ?_
    refine And.intro ⟨by omega, by omega⟩ ?_
    conv => whnf
    refine OpC.copy rfl rfl rfl rfl rfl rfl rfl (by show 1 ≤ (i : Int).toNat + (n + 1 - i) - (i : Int).toNat; omega) (Nat.le_refl _) (fun j hj => ?_) ?_
    · have : j = 0 := by have : Nat.min 1 ((i : Int).toNat + (n + 1 - i) - (i : Int).toNat) ≤ 1 := Nat.min_le_left _ _; omega
      subst this; exact h2
    refine DrawC.mk 8 rfl (by kernel_rfl) ?_
    refine And.intro (inI64 (by omega) (by omega)) ?_
    conv => whnf
    refine And.intro ⟨by omega, by omega⟩ ?_
    conv => whnf
    refine And.intro ⟨by omega, by omega⟩ ?_
    conv => whnf
    refine OpC.copy rfl rfl rfl rfl rfl rfl rfl (by show 1 ≤ (i : Int).toNat + (n + 1 - i) - ((i : Int) + ((1 : Nat) : Int)).toNat; omega) (by show 1 ≤ n - (i : Int).toNat; omega) (fun j hj => ?_) ?_
    · have : Nat.min (n - (i : Int).toNat) ((i : Int).toNat + (n + 1 - i) - ((i : Int) + ((1 : Nat) : Int)).toNat) ≤ n - (i : Int).toNat := Nat.min_le_left _ _
      exact h1 _ (by omega)
    refine And.intro trivial ⟨[(0, 0), (1, 1), (2, 2)], rfl, AVle.refl _, ⟨MOle.arr (by omega) fun j hj => ?_, trivial⟩⟩
    have e1 : Nat.min 1 ((i : Int).toNat + (n + 1 - i) - (i : Int).toNat) = 1 := Nat.min_eq_left (by omega)
    have e2 : Nat.min (n - (i : Int).toNat) ((i : Int).toNat + (n + 1 - i) - ((i : Int) + ((1 : Nat) : Int)).toNat) = n - i := (Nat.min_eq_left (by omega)).trans (by omega)
    have e3 : (i : Int).toNat = i := by omega
    have e4 : ((i : Int) + ((1 : Nat) : Int)).toNat = i + 1 := by omega
    have hj : j < n + 1 := by omega
    simp only [e1, e2]
    simp only [e3, e4]
    unfold insR
    by_cases c1 : j < i
    · rw [blt_t (show j < i + 1 by omega), blt_t c1, if_pos c1]
      simp only [cond_true, blt_t c1]
    · by_cases c2 : j = i
      · subst c2
        rw [blt_t (Nat.lt_succ_self j), blt_f (Nat.le_refl _), if_neg c1, if_pos rfl]
        simp [blt_t (Nat.lt_succ_self j)]
      · rw [blt_f (show i + 1 ≤ j by omega), blt_t (show j < i + 1 + (n - i) by omega), if_neg c1, if_neg c2]
        simp only [cond_true, cond_false]
        congr 1; omega
  · have g2 : n + 1 ≤ c := by have := of_decide_eq_false g2; omega
    refine And.intro (inI64 (by omega) (by omega)) ?_
    conv => whnf
    refine OpC.grow rfl rfl rfl rfl rfl rfl rfl ⟨by omega, by omega⟩ ?_
    refine And.intro (inI64 (by omega) (by omega)) ?_
    refine And.intro ⟨by omega, by omega⟩ ?_
    conv => whnf
    refine CallC.overlaps Tryz.func122 (by kernel_rfl) (by kernel_rfl) (by kernel_rfl) (tS := 30) (tR := 4) (sz := 3) (by kernel_rfl) rfl rfl (by decide) rfl rfl rfl (Nat.le_refl _) (by omega) rfl ?_
    conv => whnf
    refine DrawC.mk 8 rfl (by kernel_rfl) ?_
    refine And.intro (inI64 (by omega) (by omega)) ?_
    conv => whnf
    refine And.intro ⟨by omega, by omega⟩ ?_
    conv => whnf
    refine And.intro ⟨by omega, by omega⟩ ?_
    conv => whnf
    have m1 : Nat.min (((n : Int) + ((1 : Nat) : Int)).toNat - (i : Int).toNat) (((n : Int) + ((1 : Nat) : Int)).toNat - ((i : Int) + ((1 : Nat) : Int)).toNat) = n - i := (Nat.min_eq_right (by omega)).trans (by omega)
    have m2 : Nat.min 1 (((n : Int) + ((1 : Nat) : Int)).toNat - (i : Int).toNat) = 1 := Nat.min_eq_left (by omega)
    refine OpC.copy rfl rfl rfl rfl rfl rfl rfl (by show 1 ≤ ((n : Int) + ((1 : Nat) : Int)).toNat - ((i : Int) + ((1 : Nat) : Int)).toNat; omega) (by show 1 ≤ ((n : Int) + ((1 : Nat) : Int)).toNat - (i : Int).toNat; omega) (fun j hj => ?_) ?_
    · have hj : j < n - i := by rw [← m1]; exact hj
      dsimp only
      rw [blt_t (show (i : Int).toNat + j < n by omega)]
      exact h1 _ (by omega)
    refine And.intro ⟨by omega, by omega⟩ ?_
    conv => whnf
    refine OpC.copy rfl rfl rfl rfl rfl rfl rfl (by show 1 ≤ ((n : Int) + ((1 : Nat) : Int)).toNat - (i : Int).toNat; omega) (Nat.le_refl _) (fun j hj => ?_) ?_
    · have hj : j < 1 := by rw [← m2]; exact hj
      have : j = 0 := by omega
      subst this; exact h2
    refine And.intro trivial ⟨[(0, 0), (1, 1), (2, 2)], rfl, AVle.refl _, ⟨MOle.arr (by omega) fun j hj => ?_, trivial⟩⟩
    have e3 : (i : Int).toNat = i := by omega
    have e4 : ((i : Int) + ((1 : Nat) : Int)).toNat = i + 1 := by omega
    have e5 : ((n : Int) + ((1 : Nat) : Int)).toNat = n + 1 := by omega
    have hj : j < n + 1 := by omega
    simp only [m1, m2]
    simp only [e3, e4, e5]
    unfold insR
    by_cases c1 : j < i
    · rw [if_pos c1]
      simp only [cond_true, blt_t c1, blt_t (show j < i + 1 by omega), blt_t (show j < n by omega)]
    · by_cases c2 : j = i
      · subst c2
        rw [if_neg c1, if_pos rfl]
        simp [blt_f (Nat.le_refl j), blt_t (Nat.lt_succ_self j)]
      · rw [if_neg c1, if_neg c2]
        simp only [cond_true, cond_false, blt_f (show i ≤ j by omega), blt_f (show i + 1 ≤ j by omega), blt_t (show j < i + 1 + (n - i) by omega), blt_t (show i + (j - (i + 1)) < n by omega)]
        congr 1; omega
end Go.Proofs.YtopfpmcakoeloaaGreatDoor
set_option linter.unusedVariables false
set_option linter.constructorNameAsVariable false
set_option linter.unusedSimpArgs false
set_option maxRecDepth 20000
namespace Go.Proofs.YtopfpmcakoeloaaGreatDoor
open Go Go.Vw

theorem first_room (s : Sto) (k d : List UInt8) (x : Bool) (hx : ((!s.has k && decide (s.os.length = 300)) || decide (s.next = 1000000000)) = x) {n : Nat} {rows : Nat → List AV} (hr : FirstRows 4 3 rows 0 [(decide ((600 : Int) < (((B d).size : Nat) : Int)), 8), (x, 7)]) (hn : n = 4) :
    VFn Tryz.prog 68 [.sl 1 n rows] (.int .i64 (s.room k d)) := by
  have e : firstC [(decide ((600 : Int) < (((B d).size : Nat) : Int)), 8), (x, 7)] = s.room k d := by
    unfold Sto.room
    rw [hx, B_size]
    unfold firstC firstC firstC
    by_cases h1 : 600 < d.length
    · rw [if_pos h1, decide_eq_true (show (600 : Int) < (d.length : Int) by omega)]; rfl
    · rw [if_neg h1, decide_eq_false (show ¬ (600 : Int) < (d.length : Int) by omega)]
      cases x <;> rfl
  rw [← e]
  exact first_of _ hr hn (show 2 ≤ 1000 by decide)
theorem set_ix (s : Sto) (k d : List UInt8) {j : Nat} (hj : j < (s.set k d).os.length) : ix (s.set k d).os j = if j < s.pos k then ix s.os j else if j = s.pos k then ⟨k, s.next, d⟩ else ix s.os (if s.has k = true then j else j - 1) := by
  have hl : s.pos k ≤ s.os.length := lb_le k s.os
  have ht : (s.os.take (s.pos k)).length = s.pos k := by simp; omega
  rw [Sto.set_len] at hj
  have hlen : (s.os.take (s.pos k)).length + ((⟨k, s.next, d⟩ :: s.os.drop (if s.has k = true then s.pos k + 1 else s.pos k)) : List Ob).length = (s.set k d).os.length := by unfold Sto.set; simp
  rw [Sto.set_len] at hlen
  show ix (s.os.take (s.pos k) ++ (⟨k, s.next, d⟩ :: s.os.drop (if s.has k = true then s.pos k + 1 else s.pos k))) j = _
  by_cases h1 : j < s.pos k
  · rw [if_pos h1, ix_app1 (by omega), ix_take h1]
  · rw [if_neg h1, ix_app2 (by omega) (by rw [hlen]; exact hj), ht]
    by_cases h2 : j = s.pos k
    · rw [if_pos h2, h2, Nat.sub_self]; rfl
    · rw [if_neg h2]
      obtain ⟨m, hm⟩ : ∃ m, j - s.pos k = m + 1 := ⟨j - s.pos k - 1, by omega⟩
      rw [hm]
      show ix (s.os.drop _) m = _
      rw [ix_drop]
      congr 1
      split <;> omega
theorem put_fn (s : Sto) (hs : s.ok = true) (k d : List UInt8) (hd : d.length ≤ 1000000000) : VFn Tryz.prog 69 [s.av, .str (B k), .str (B d)] (if s.room k d = 0 then .tup [(s.set k d).av, .int .i64 s.next, .int .i64 0] else .tup [s.av, .int .i64 0, .int .i64 (s.room k d)]) := by
  have hL := (Sto.ok_at hs).2.1
  have hnx : 1 ≤ s.next ∧ s.next ≤ 1000000000 := by simpa [within] using (Sto.ok_at hs).1
  have hlb : s.pos k ≤ s.os.length := lb_le k s.os
  by_cases hk : s.has k = true
  · have hp := (hasK_at hk).1
    have c := find_fn s hs k
    rw [hk] at c
    refine VFn.introC Tryz.call69 Tryz.func69 rfl rfl ?_
    conv => whnf
    refine CallC.sca _ (c) ?_ ?_
    · exact rfl
    conv => whnf
    refine CallC.sca _ (first_room s k d (decide (s.next = 1000000000)) (by rw [hk]; rfl) ⟨rfl, rfl, rfl, rfl, trivial⟩ rfl) ?_ ?_
    · exact rfl
    refine Grd.intro (fun g => ?_) (fun g => ?_)
    · have g : s.room k d ≠ 0 := by simpa using g
      rw [if_neg g]
      exact And.intro trivial (AVle.refl _)
    · have g : s.room k d = 0 := by simpa using g
      rw [if_pos g]
      refine DrawC.mkK 11 [(.inr 7, 9), (.inr 8, 10)] rfl (by kernel_rfl) ?_
      refine And.intro rfl ?_
      conv => whnf
      refine PCallK.own (copied_own s (by omega)) rfl (fun i hi => rfl) ?_
      conv => whnf
      refine And.intro ⟨by omega, show ((lb k s.os : Nat) : Int) < (s.os.length : Int) by omega⟩ ?_
      refine And.intro (inI64 (by omega) (by omega)) ?_
      refine DrawC.mkK 6 [(.inl 1, 3)] rfl (by kernel_rfl) ?_
      refine And.intro rfl ?_
      refine And.intro trivial (AVle.tup (AVsle.cons (AVle.agg (AVsle.cons (AVle.sl (by rw [Sto.set_len, if_pos hk]) fun i hi => ?_) (AVsle.cons (AVle.refl _) AVsle.nil))) (AVsle.cons (AVle.refl _) (AVsle.cons (AVle.refl _) AVsle.nil))))
      show (bif Nat.beq i (((lb k s.os : Nat) : Int).toNat) then [.str (B k), .int .i64 s.next, .str (B d)] else (ix s.os i).row) = _
      rw [set_ix s k d (by rw [Sto.set_len, if_pos hk]; exact hi), if_pos hk]
      unfold Sto.pos
      by_cases h1 : i = lb k s.os
      · subst h1; rw [if_neg (Nat.lt_irrefl _), if_pos rfl]; simp [Ob.row]
      · rw [beq_f (show ¬ i = ((lb k s.os : Nat) : Int).toNat by omega), if_neg h1, ite_self]; rfl
  · have hk' : s.has k = false := by simpa using hk
    have c := find_fn s hs k
    rw [hk'] at c
    have fin : ∀ x : Bool, ((!s.has k && decide (s.os.length = 300)) || decide (s.next = 1000000000)) = x → x = true → s.room k d ≠ 0 := fun x hx h => by
      unfold Sto.room; rw [hx, h]; split <;> decide
    refine VFn.introC Tryz.call69 Tryz.func69 rfl rfl ?_
    conv => whnf
    refine CallC.sca _ (c) ?_ ?_
    · exact rfl
    refine Grd.intro (fun g0 => ?_) (fun g0 => ?_)
    · have hx : ((!s.has k && decide (s.os.length = 300)) || decide (s.next = 1000000000)) = true := by
        rw [hk', show decide (s.os.length = 300) = true from decide_eq_true (by have := of_decide_eq_true g0; omega)]; rfl
      conv => whnf
      refine CallC.sca _ (first_room s k d true hx ⟨rfl, rfl, rfl, rfl, trivial⟩ rfl) ?_ ?_
      · exact rfl
      have g := fin true hx rfl
      rw [if_neg g]
      refine Grd.intro (fun g => ?_) (fun g => absurd (by simpa using g) ‹s.room k d ≠ 0›)
      exact And.intro trivial (AVle.refl _)
    have hx : ((!s.has k && decide (s.os.length = 300)) || decide (s.next = 1000000000)) = decide (s.next = 1000000000) := by
        rw [show decide (s.os.length = 300) = false from decide_eq_false (by have := of_decide_eq_false g0; omega)]; simp
    conv => whnf
    refine CallC.sca _ (first_room s k d (decide (s.next = 1000000000)) hx ⟨rfl, rfl, rfl, rfl, trivial⟩ rfl) ?_ ?_
    · exact rfl
    refine Grd.intro (fun g => ?_) (fun g => ?_)
    · have g : s.room k d ≠ 0 := by simpa using g
      rw [if_neg g]
      exact And.intro trivial (AVle.refl _)
    · have g : s.room k d = 0 := by simpa using g
      rw [if_pos g]
      refine DrawC.mkK 11 [(.inr 7, 9), (.inr 8, 10)] rfl (by kernel_rfl) ?_
      refine And.intro rfl ?_
      conv => whnf
      refine PCallK.own (copied_own s (by omega)) rfl (fun i hi => rfl) ?_
      conv => whnf
      refine CallC.k [(4, 0), (14, 1)] (Insert_own s.os.length (s.pos k) (fun i => (ix s.os i).row) (fun _ => [.str (B k), .int .i64 s.next, .str (B d)]) (by omega) hlb (fun j hj => rfl) rfl) rfl rfl (AVsle.refl _) ?_ rfl ?_
      · refine ⟨MOle.refl _, MOle.arr rfl (fun j hj => ?_), trivial⟩
        have : j = 0 := by omega
        subst this; rfl
      conv => whnf
      refine And.intro (inI64 (by omega) (by omega)) ?_
      refine DrawC.mkK 6 [(.inl 1, 3)] rfl (by kernel_rfl) ?_
      refine And.intro rfl ?_
      refine And.intro trivial (AVle.tup (AVsle.cons (AVle.agg (AVsle.cons (AVle.sl (by rw [Sto.set_len, if_neg hk]) fun i hi => ?_) (AVsle.cons (AVle.refl _) AVsle.nil))) (AVsle.cons (AVle.refl _) (AVsle.cons (AVle.refl _) AVsle.nil))))
      show insR (lb k s.os) (fun i => (ix s.os i).row) (fun _ => [.str (B k), .int .i64 s.next, .str (B d)]) i = _
      rw [set_ix s k d (by rw [Sto.set_len, if_neg hk]; exact hi), if_neg hk]
      unfold insR Sto.pos
      by_cases h1 : i < lb k s.os
      · rw [if_pos h1, if_pos h1]
      · rw [if_neg h1, if_neg h1]
        by_cases h2 : i = lb k s.os
        · rw [if_pos h2, if_pos h2]; rfl
        · rw [if_neg h2, if_neg h2]
end Go.Proofs.YtopfpmcakoeloaaGreatDoor
set_option linter.unusedVariables false
set_option linter.constructorNameAsVariable false
set_option linter.unusedSimpArgs false
set_option maxRecDepth 20000
namespace Go.Proofs.YtopfpmcakoeloaaGreatDoor
open Go Go.Vw

theorem l01Find_fn (s : Sto) (hL : s.os.length ≤ 1000000000) (k : List UInt8) : VFn Tryz.prog 92 [s.av, .str (B k)] (.int .i64 (fi (fun o : Ob => decide (o.key = k)) s.os)) := by
  refine VFn.introC Tryz.call92 Tryz.func92 rfl rfl ?_
  refine LoopC.mk (fun i : Nat => i ≤ s.os.length ∧ ∀ j, j < i → decide ((ix s.os j).key = k) = false) (fun i => [(1, .str (B k)), (2, .bptr 0 0), (5, .int .i64 i)]) (fun i => [(0, .box s.row)]) 1 (fun i => s.os.length - i) 0
    ⟨⟨Nat.zero_le _, fun j hj => absurd hj (Nat.not_lt_zero j)⟩, [(0, 0)], rfl, rfl, ⟨AVle.refl _, AVle.refl _, AVle.refl _, trivial⟩, ⟨MOle.refl _, trivial⟩⟩ ?_
  intro i hi
  refine Grd.intro (fun h2 => ?_) (fun h2 => ?_)
  · have hin : i < s.os.length := by have := of_decide_eq_true h2; omega
    refine And.intro (by omega) ?_
    refine Grd.intro (fun h3 => ?_) (fun h3 => ?_)
    · have h3 : ((B (ix s.os i).key).toList == (B k).toList) = true := h3
      rw [B_eq] at h3
      exact And.intro trivial (AVle.of_eq (congrArg (AV.int .i64) (show (i : Int) = _ from (fi_at hin hi.2 h3).symm)))
    · have h3 : ((B (ix s.os i).key).toList == (B k).toList) = false := h3
      rw [B_eq] at h3
      refine And.intro (inI64 (by omega) (by omega)) ?_
      exact ⟨i + 1, ⟨hin, fun j hj => by
        rcases Nat.lt_or_ge j i with h' | h'
        · exact hi.2 j h'
        · rw [show j = i by omega]; exact h3⟩, by omega, [(0, 0)], rfl, rfl, ⟨AVle.refl _, AVle.refl _, AVle.of_eq (congrArg (AV.int .i64) (by simp)), trivial⟩, ⟨MOle.refl _, trivial⟩⟩
  · have : i = s.os.length := by have := of_decide_eq_false h2; omega
    subst this
    exact And.intro trivial (AVle.of_eq (congrArg (AV.int .i64) (fi_none hi.2).symm))
theorem l01Get_fn (s : Sto) (hs : s.ok = true) (k : List UInt8) : VFn Tryz.prog 60 [s.av, .str (B k)] (if s.has k = true then .tup [.str (B (s.get k).data), .int .i64 (s.get k).ver] else .tup [.str (B []), .int .i64 0]) := by
  have hL := (Sto.ok_at hs).2.1
  have hf := l01Find_fn s (by omega) k
  rw [(Sto.srt hs).fi] at hf
  by_cases h : hasK k s.os = true
  · rw [if_pos h] at hf
    rw [if_pos (show s.has k = true from h)]
    have hp := (hasK_at h).1
    refine VFn.introC Tryz.call60 Tryz.func60 rfl rfl ?_
    conv => whnf
    refine CallC.sca _ (hf) ?_ ?_
    · exact rfl
    refine DrawC.mk 14 rfl (by kernel_rfl) ?_
    refine And.intro (by omega) ?_
    refine And.intro (by omega) ?_
    exact And.intro trivial (AVle.refl _)
  · rw [if_neg h] at hf
    rw [if_neg (show ¬ s.has k = true from h)]
    refine VFn.introC Tryz.call60 Tryz.func60 rfl rfl ?_
    conv => whnf
    refine CallC.sca _ (hf) ?_ ?_
    · exact rfl
    exact And.intro trivial (AVle.refl _)
theorem l01Set_fn (s : Sto) (hL : s.os.length ≤ 1000000) (hn : s.next ≤ 1000000000 ∧ 0 ≤ s.next) (k d : List UInt8) : VFn Tryz.prog 80 [s.av, .str (B k), .str (B d)] (s.set k d).av := by
  refine VFn.introC Tryz.call80 Tryz.func80 rfl rfl ?_
  refine LoopC.mk (fun i : Nat => i ≤ lb k s.os) (fun i => [(1, .str (B k)), (2, .str (B d)), (3, .bptr 0 0), (6, .bptr 1 0), (7, .int .i64 i)]) (fun i => [(0, .box s.row), (1, .box [.nilsl, .int .i64 0])]) 2 (fun i => s.os.length - i) 0
    ⟨Nat.zero_le _, [(0, 0), (1, 1)], rfl, rfl, ⟨AVle.refl _, AVle.refl _, AVle.refl _, AVle.refl _, AVle.refl _, trivial⟩, ⟨MOle.refl _, MOle.refl _, trivial⟩⟩ ?_
  intro i hi
  have hlb := lb_le k s.os
  refine Grd.intro (fun h2 => ?_) (fun h2 => ?_)
  · have hin : i < s.os.length := by have := of_decide_eq_true h2; omega
    refine And.intro (by omega) ?_
    conv => whnf
    refine Grd.intro (fun h3 => ?_) (fun h3 => ?_)
    · have h3 : (ix s.os i).key < k := by
        have h : Op.bytesLess (B (ix s.os i).key).toList (B k).toList = true := h3
        rw [blt_lt] at h; exact of_decide_eq_true h
      have hlt : i < lb k s.os := by
        rcases Nat.lt_or_ge i (lb k s.os) with h | h
        · exact h
        · have e : i = lb k s.os := by omega
          subst e
          exact absurd h3 (lb_ge hin)
      refine And.intro (inI64 (by omega) (by omega)) ?_
      exact ⟨i + 1, hlt, by omega, [(0, 0), (1, 1)], rfl, rfl, ⟨AVle.refl _, AVle.refl _, AVle.refl _, AVle.refl _, AVle.of_eq (congrArg (AV.int .i64) (by simp)), trivial⟩, ⟨MOle.refl _, MOle.refl _, trivial⟩⟩
    · have h3 : ¬ (ix s.os i).key < k := by
        have h : Op.bytesLess (B (ix s.os i).key).toList (B k).toList = false := h3
        rw [blt_lt] at h; exact of_decide_eq_false h
      have hi' : i = lb k s.os := by
        rcases Nat.lt_or_ge i (lb k s.os) with h | h
        · exact absurd (lb_lt h) h3
        · omega
      subst hi'
      refine And.intro (by omega) ?_
      refine Grd.intro (fun _ => ?_) (fun h => absurd (of_decide_eq_false h) (by omega))
      refine And.intro (by omega) ?_
      conv => whnf
      have hcmp : ((B (ix s.os (lb k s.os)).key).toList == (B k).toList) = s.has k := by
        rw [B_eq]
        unfold Sto.has hasK
        rw [decide_eq_true hin]; rfl
      refine Grd.intro (fun h4 => ?_) (fun h4 => ?_)
      · have h4 : s.has k = true := hcmp.symm.trans h4
        refine And.intro (inI64 (by omega) (by omega)) ?_
        refine And.intro (by omega) ?_
        refine DrawC.mkK 16 [(.inr 0, 5), (.inr 5, 12), (.inr 12, 14)] rfl (by kernel_rfl) ?_; refine And.intro rfl ?_
        conv => whnf
        refine And.intro ⟨by omega, by omega⟩ ?_
        conv => whnf
        refine And.intro ⟨show (0 + (lb k s.os : Int).toNat) * 40 ≤ 140737488355328 by omega, fun i hi => rfl⟩ ?_
        conv => whnf
        refine And.intro ⟨show (0 + (lb k s.os : Int).toNat + 1) * 40 ≤ 140737488355328 by omega, all1 rfl⟩ ?_
        conv => whnf
        refine And.intro ⟨show (0 + (lb k s.os : Int).toNat + 1 + (s.os.length - ((lb k s.os : Int) + 1).toNat)) * 40 ≤ 140737488355328 by omega, fun i hi => rfl⟩ ?_
        refine And.intro (inI64 (by omega) (by omega)) ?_
        refine And.intro trivial (AVle.agg (AVsle.cons (AVle.sl (by rw [Sto.set_len, if_pos h4]; omega) fun i hi => s.set_rows k d (by rw [if_pos h4]; show ((lb k s.os : Int) + 1).toNat = lb k s.os + 1; omega) (by omega) (by omega) rfl i (by rw [Sto.set_len, if_pos h4]; omega)) (AVsle.cons (AVle.refl _) AVsle.nil)))
      · have h4 : s.has k = false := hcmp.symm.trans h4
        have h4' : ¬ s.has k = true := by rw [h4]; simp
        refine DrawC.mkK 16 [(.inr 0, 5), (.inr 5, 12), (.inr 12, 14)] rfl (by kernel_rfl) ?_; refine And.intro rfl ?_
        conv => whnf
        refine And.intro ⟨by omega, by omega⟩ ?_
        conv => whnf
        refine And.intro ⟨show (0 + (lb k s.os : Int).toNat) * 40 ≤ 140737488355328 by omega, fun i hi => rfl⟩ ?_
        conv => whnf
        refine And.intro ⟨show (0 + (lb k s.os : Int).toNat + 1) * 40 ≤ 140737488355328 by omega, all1 rfl⟩ ?_
        conv => whnf
        refine And.intro ⟨show (0 + (lb k s.os : Int).toNat + 1 + (s.os.length - (lb k s.os : Int).toNat)) * 40 ≤ 140737488355328 by omega, fun i hi => rfl⟩ ?_
        refine And.intro (inI64 (by omega) (by omega)) ?_
        refine And.intro trivial (AVle.agg (AVsle.cons (AVle.sl (by rw [Sto.set_len, if_neg h4']; omega) fun i hi => s.set_rows k d (by rw [if_neg h4']; show (lb k s.os : Int).toNat = lb k s.os; omega) (by omega) (by omega) rfl i (by rw [Sto.set_len, if_neg h4']; omega)) (AVsle.cons (AVle.refl _) AVsle.nil)))
  · have hi' : i = s.os.length := by have := of_decide_eq_false h2; omega
    have hi2 : i = lb k s.os := by omega
    have h4' : ¬ s.has k = true := fun h => by have := (hasK_at h).1; omega
    subst hi2
    refine And.intro (by omega) ?_
    refine Grd.intro (fun h => absurd (of_decide_eq_true h) (by omega)) (fun _ => ?_)
    refine DrawC.mkK 16 [(.inr 0, 5), (.inr 5, 12), (.inr 12, 14)] rfl (by kernel_rfl) ?_; refine And.intro rfl ?_
    conv => whnf
    refine And.intro ⟨by omega, by omega⟩ ?_
    conv => whnf
    refine And.intro ⟨show (0 + (lb k s.os : Int).toNat) * 40 ≤ 140737488355328 by omega, fun i hi => rfl⟩ ?_
    conv => whnf
    refine And.intro ⟨show (0 + (lb k s.os : Int).toNat + 1) * 40 ≤ 140737488355328 by omega, all1 rfl⟩ ?_
    conv => whnf
    refine And.intro ⟨show (0 + (lb k s.os : Int).toNat + 1 + (s.os.length - (lb k s.os : Int).toNat)) * 40 ≤ 140737488355328 by omega, fun i hi => rfl⟩ ?_
    refine And.intro (inI64 (by omega) (by omega)) ?_
    refine And.intro trivial (AVle.agg (AVsle.cons (AVle.sl (by rw [Sto.set_len, if_neg h4']; omega) fun i hi => s.set_rows k d (by rw [if_neg h4']; show (lb k s.os : Int).toNat = lb k s.os; omega) (by omega) (by omega) rfl i (by rw [Sto.set_len, if_neg h4']; omega)) (AVsle.cons (AVle.refl _) AVsle.nil)))
end Go.Proofs.YtopfpmcakoeloaaGreatDoor
set_option linter.unusedVariables false
set_option linter.constructorNameAsVariable false
set_option linter.unusedSimpArgs false
set_option maxRecDepth 20000
namespace Go.Proofs.YtopfpmcakoeloaaGreatDoor
open Go Go.Vw

theorem specKeyOK_fn (k : List UInt8) (hk : k.length ≤ 1000000000) : VFn Tryz.prog 51 [.str (B k)] (.bool (keyOK k)) := by
  obtain ⟨R, hR⟩ : ∃ R, R = keyOK k := ⟨_, rfl⟩
  rw [← hR]
  refine VFn.introC Tryz.call51 Tryz.func51 rfl rfl ?_
  refine Grd.intro (fun h0 => ?_) (fun h0 => ?_)
  · have h0 : 65536 < k.length := by
      have := of_decide_eq_true (show decide ((65536 : Int) < (((B k).size : Nat) : Int)) = true from h0)
      rw [B_size] at this; omega
    have hw : within k.length 1 30 = false := by unfold within; simp; omega
    rw [hR, show keyOK k = false by unfold keyOK; rw [hw]; simp]
    exact And.intro trivial (AVle.refl _)
  refine LoopC.mk (fun i : Nat => i ≤ k.length ∧ ∀ j, j < i → keyC (k.getD j 0) = true) (fun i => [(0, .str (B k)), (3, .int .i64 i)]) (fun _ => []) 0 (fun i => k.length - i) 0
    ⟨⟨Nat.zero_le _, fun j hj => absurd hj (Nat.not_lt_zero j)⟩, [], rfl, rfl, ⟨AVle.refl _, AVle.refl _, trivial⟩, trivial⟩ ?_
  intro i hi
  have hsz : (((B k).size : Nat) : Int) = k.length := by rw [B_size]
  refine Grd.intro (fun h2 => ?_) (fun h2 => ?_)
  · have hin : i < k.length := by have := of_decide_eq_true h2; omega
    refine And.intro ⟨by omega, by omega⟩ ?_
    have hbad : keyC (k.getD i 0) = false → false = R := fun h => by rw [hR, keyOK_bad hin h]
    have hgood : keyC (k.getD i 0) = true → ∀ j, j < i + 1 → keyC (k.getD j 0) = true := fun h j hj => by
      rcases Nat.lt_or_ge j i with h' | h'
      · exact hi.2 j h'
      · rw [show j = i by omega]; exact h
    have hx : k.getD i 0 = (B k).data.toList.getD (i : Int).toNat 0 := rfl
    generalize (B k).data.toList.getD (i : Int).toNat 0 = c at hx ⊢
    rw [hx] at hbad hgood
    unfold keyC at hbad
    have hgood : ((decide (97 ≤ (c.toNat : Int)) && decide ((c.toNat : Int) ≤ 122)) || (decide (48 ≤ (c.toNat : Int)) && decide ((c.toNat : Int) ≤ 57)) || decide ((c.toNat : Int) = 47) || decide ((c.toNat : Int) = 45)) = true → ∀ j, j < i + 1 → keyC (k.getD j 0) = true := hgood
    conv => whnf
    refine CallC.sca _ (l00Digit_fn c) ?_ ?_
    · exact rfl
    have hd : dig c = (decide (48 ≤ (c.toNat : Int)) && decide ((c.toNat : Int) ≤ 57)) := by unfold dig; rw [Bool.eq_iff_iff]; simp; omega
    rw [hd]
    generalize c.toNat = c at *
    repeat' (first
      | refine Grd.intro (fun h => ?_) (fun h => ?_)
      | ((conv => whnf); refine Grd.intro (fun h => ?_) (fun h => ?_)))
    all_goals first
      | exact And.intro trivial (AVle.of_eq (congrArg AV.bool (hbad (by simp_all; omega))))
      | exact And.intro trivial (AVle.of_eq (congrArg AV.bool (hbad (by simp_all))))
      | (refine And.intro (inI64 (by omega) (by omega)) ?_
         exact ⟨i + 1, ⟨hin, hgood (by simp_all; omega)⟩, by omega, [], rfl, rfl, ⟨AVle.refl _, AVle.of_eq (congrArg (AV.int .i64) (by simp)), trivial⟩, trivial⟩)
      | (refine And.intro (inI64 (by omega) (by omega)) ?_
         exact ⟨i + 1, ⟨hin, hgood (by simp_all)⟩, by omega, [], rfl, rfl, ⟨AVle.refl _, AVle.of_eq (congrArg (AV.int .i64) (by simp)), trivial⟩, trivial⟩)
  · have : i = k.length := by have := of_decide_eq_false h2; omega
    subst this
    conv => whnf
    refine CallC.sca _ (l01In_fn _ _ _) ?_ ?_
    · exact rfl
    rw [hR, keyOK_all hi.2]
    exact And.intro trivial (AVle.of_eq (congrArg AV.bool (show within ((B k).size : Nat) 1 30 = _ by rw [B_size])))
theorem l01In_lo : VFn Tryz.prog 52 [.lo, .int .i64 1, .int .i64 1000000000] (.bool false) := by
  refine VFn.introC Tryz.call52 Tryz.func52 rfl rfl ?_
  exact And.intro trivial (AVle.refl _)
theorem specStoreOK_lo (os : List Ob) (hL : os.length ≤ 1000000000) (hk : ∀ o ∈ os, o.key.length ≤ 1000000000) : VFn Tryz.prog 27 [.agg [obs os, .lo]] (.bool false) := by
  refine VFn.introC Tryz.call27 Tryz.func27 rfl rfl ?_
  refine LoopC.mk (fun i : Nat => i ≤ os.length) (fun i => [(1, .bptr 0 0), (3, .int .i64 i)]) (fun i => [(0, .box [obs os, .lo])]) 1 (fun i => os.length - i) 0
    ⟨Nat.zero_le _, [(0, 0)], rfl, rfl, ⟨AVle.refl _, AVle.refl _, trivial⟩, ⟨MOle.refl _, trivial⟩⟩ ?_
  intro i hi
  refine Grd.intro (fun h3 => ?_) (fun h3 => ?_)
  · have hin : i < os.length := by have := of_decide_eq_true h3; omega
    refine And.intro (by omega) ?_
    refine DrawC.mk 35 rfl (by kernel_rfl) ?_
    refine PCallC.sca _ (specKeyOK_fn (ix os i).key (hk _ (getD_mem hin))) rfl ?_
    refine Grd.intro (fun g1 => ?_) (fun g1 => ?_)
    · exact And.intro trivial (AVle.refl _)
    refine And.intro ⟨by omega, by omega⟩ ?_
    refine PCallC.sca _ (l01In_fn (ix os i).ver 1 (9223372036854775808 - 1)) rfl ?_
    conv => whnf
    refine Grd.intro (fun g2 => ?_) (fun g2 => ?_)
    · exact And.intro trivial (AVle.refl _)
    conv => whnf
    refine Grd.intro (fun g3 => ?_) (fun g3 => ?_)
    · exact And.intro trivial (AVle.refl _)
    conv => whnf
    refine Grd.intro (fun g5 => ?_) (fun g5 => ?_)
    · have h0 : 0 < i := by have := of_decide_eq_true g5; omega
      have e1 : ((i : Int) - 1).toNat = i - 1 := by omega
      refine And.intro (inI64 (by omega) (by omega)) ?_
      refine And.intro ⟨by omega, by omega⟩ ?_
      conv => whnf
      refine Grd.intro (fun g6 => ?_) (fun g6 => ?_)
      · exact And.intro trivial (AVle.refl _)
      refine LoopC.mk (fun j : Nat => j ≤ i) (fun j => [(1, .bptr 0 0), (3, .int .i64 i), (4, .bptr 1 0), (5, .int .i64 j)]) (fun j => [(0, .box [obs os, .lo]), (1, .box (ix os i).row)]) 2 (fun j => i - j) 0
        ⟨Nat.zero_le _, [(0, 0), (1, 1)], rfl, rfl, ⟨AVle.refl _, AVle.refl _, AVle.refl _, AVle.refl _, trivial⟩, ⟨MOle.refl _, MOle.refl _, trivial⟩⟩ ?_
      intro j hj
      refine Grd.intro (fun h6 => ?_) (fun h6 => ?_)
      · have hjn : j < i := by have := of_decide_eq_true h6; omega
        refine DrawC.mk 9 rfl (by kernel_rfl) ?_
        refine And.intro (by omega) ?_
        refine Grd.intro (fun h7 => ?_) (fun h7 => ?_)
        · exact And.intro trivial (AVle.refl _)
        · refine And.intro (inI64 (by omega) (by omega)) ?_
          exact ⟨j + 1, hjn, by omega, [(0, 0), (1, 1)], rfl, rfl, ⟨AVle.refl _, AVle.refl _, AVle.refl _, AVle.of_eq (congrArg (AV.int .i64) (by simp)), trivial⟩, ⟨MOle.refl _, MOle.refl _, trivial⟩⟩
      · refine And.intro (inI64 (by omega) (by omega)) ?_
        exact ⟨i + 1, hin, by omega, [(0, 0)], rfl, rfl, ⟨AVle.refl _, AVle.of_eq (congrArg (AV.int .i64) (by simp)), trivial⟩, ⟨MOle.refl _, trivial⟩⟩
    · have h0 : i = 0 := by have := of_decide_eq_false g5; omega
      refine LoopC.mk (fun j : Nat => j ≤ i) (fun j => [(1, .bptr 0 0), (3, .int .i64 i), (4, .bptr 1 0), (5, .int .i64 j)]) (fun j => [(0, .box [obs os, .lo]), (1, .box (ix os i).row)]) 2 (fun j => i - j) 0
        ⟨Nat.zero_le _, [(0, 0), (1, 1)], rfl, rfl, ⟨AVle.refl _, AVle.refl _, AVle.refl _, AVle.refl _, trivial⟩, ⟨MOle.refl _, MOle.refl _, trivial⟩⟩ ?_
      intro j hj
      refine Grd.intro (fun h6 => ?_) (fun h6 => ?_)
      · have hjn : j < i := by have := of_decide_eq_true h6; omega
        refine DrawC.mk 9 rfl (by kernel_rfl) ?_
        refine And.intro (by omega) ?_
        refine Grd.intro (fun h7 => ?_) (fun h7 => ?_)
        · exact And.intro trivial (AVle.refl _)
        · refine And.intro (inI64 (by omega) (by omega)) ?_
          exact ⟨j + 1, hjn, by omega, [(0, 0), (1, 1)], rfl, rfl, ⟨AVle.refl _, AVle.refl _, AVle.refl _, AVle.of_eq (congrArg (AV.int .i64) (by simp)), trivial⟩, ⟨MOle.refl _, MOle.refl _, trivial⟩⟩
      · refine And.intro (inI64 (by omega) (by omega)) ?_
        exact ⟨i + 1, hin, by omega, [(0, 0)], rfl, rfl, ⟨AVle.refl _, AVle.of_eq (congrArg (AV.int .i64) (by simp)), trivial⟩, ⟨MOle.refl _, trivial⟩⟩
  · refine Grd.intro (fun _ => ?_) (fun _ => ?_)
    · conv => whnf
      refine CallC.sca _ (l01In_lo) ?_ ?_
      · exact rfl
      exact And.intro trivial (AVle.refl _)
    · exact And.intro trivial (AVle.refl _)
theorem specStoreOK_hi (s : Sto) (hL : s.os.length ≤ 1000000000) (hk : ∀ o ∈ s.os, o.key.length ≤ 1000000000) (hn : -9223372036854775807 ≤ s.next ∧ s.next ≤ 9223372036854775807) : VFn Tryz.prog 27 [s.av] (.bool s.ok) := by
  refine VFn.introC Tryz.call27 Tryz.func27 rfl rfl ?_
  refine LoopC.mk (fun i : Nat => i ≤ s.os.length ∧ ∀ j, j < i → s.eOK j = true) (fun i => [(1, .bptr 0 0), (3, .int .i64 i)]) (fun i => [(0, .box s.row)]) 1 (fun i => s.os.length - i) 0
    ⟨⟨Nat.zero_le _, fun j hj => absurd hj (Nat.not_lt_zero j)⟩, [(0, 0)], rfl, rfl, ⟨AVle.refl _, AVle.refl _, trivial⟩, ⟨MOle.refl _, trivial⟩⟩ ?_
  intro i hi
  obtain ⟨hi, hall⟩ := hi
  refine Grd.intro (fun h3 => ?_) (fun h3 => ?_)
  · have hin : i < s.os.length := by have := of_decide_eq_true h3; omega
    have hbad : s.eOK i = false → s.ok = false := Sto.ok_no hin
    refine And.intro (by omega) ?_
    refine DrawC.mk 35 rfl (by kernel_rfl) ?_
    refine PCallC.sca _ (specKeyOK_fn (ix s.os i).key (hk _ (getD_mem hin))) rfl ?_
    refine Grd.intro (fun g1 => ?_) (fun g1 => ?_)
    · rw [hbad (by unfold Sto.eOK; rw [wnot g1]; rfl)]
      exact And.intro trivial (AVle.refl _)
    refine And.intro (inI64 (by omega) (by omega)) ?_
    refine PCallC.sca _ (l01In_fn (ix s.os i).ver 1 (s.next - 1)) rfl ?_
    conv => whnf
    refine Grd.intro (fun g2 => ?_) (fun g2 => ?_)
    · rw [hbad (by unfold Sto.eOK; rw [show within (ix s.os i).ver 1 (s.next - 1) = false from wnot g2]; simp)]
      exact And.intro trivial (AVle.refl _)
    conv => whnf
    refine Grd.intro (fun g3 => ?_) (fun g3 => ?_)
    · have g3 : ¬ (ix s.os i).data.length ≤ 600 := by
        have := of_decide_eq_true (show decide ((600 : Int) < (((B (ix s.os i).data).size : Nat) : Int)) = true from g3)
        rw [B_size] at this; omega
      rw [hbad (by unfold Sto.eOK; rw [decide_eq_false g3]; simp)]
      exact And.intro trivial (AVle.refl _)
    have g3 : (ix s.os i).data.length ≤ 600 := by
      have := of_decide_eq_false (show decide ((600 : Int) < (((B (ix s.os i).data).size : Nat) : Int)) = false from g3)
      rw [B_size] at this; omega
    have hpre : (!decide ((ix s.os i).ver ∈ (s.os.take i).map (·.ver))) = true → (decide (i = 0) || decide ((ix s.os (i - 1)).key < (ix s.os i).key)) = true → s.eOK i = true := fun h h' => by
      unfold Sto.eOK; rw [wyes g1, show within (ix s.os i).ver 1 (s.next - 1) = true from wyes g2, decide_eq_true g3, h, h']; rfl
    have hnext : s.eOK i = true → ∀ j, j < i + 1 → s.eOK j = true := fun h j hj => by
      rcases Nat.lt_or_ge j i with h' | h'
      · exact hall j h'
      · rw [show j = i by omega]; exact h
    conv => whnf
    refine Grd.intro (fun g5 => ?_) (fun g5 => ?_)
    · have h0 : 0 < i := by have := of_decide_eq_true g5; omega
      have e1 : ((i : Int) - 1).toNat = i - 1 := by omega
      refine And.intro (inI64 (by omega) (by omega)) ?_
      refine And.intro ⟨by omega, by omega⟩ ?_
      conv => whnf
      have hcmp : (!Op.bytesLess (B (ix s.os ((i : Int) - 1).toNat).key).toList (B (ix s.os i).key).toList) = !decide ((ix s.os (i - 1)).key < (ix s.os i).key) := by rw [blt_lt, e1]
      refine Grd.intro (fun g6 => ?_) (fun g6 => ?_)
      · have g6 := hcmp.symm.trans g6
        rw [hbad (by unfold Sto.eOK; rw [show decide ((ix s.os (i - 1)).key < (ix s.os i).key) = false from wnot g6, decide_eq_false (show ¬ i = 0 by omega)]; simp)]
        exact And.intro trivial (AVle.refl _)
      have g6 := hcmp.symm.trans g6
      have hkey : (decide (i = 0) || decide ((ix s.os (i - 1)).key < (ix s.os i).key)) = true := by rw [show decide ((ix s.os (i - 1)).key < (ix s.os i).key) = true from wyes g6]; simp
      refine LoopC.mk (fun j : Nat => j ≤ i ∧ ∀ q, q < j → (ix s.os q).ver ≠ (ix s.os i).ver) (fun j => [(1, .bptr 0 0), (3, .int .i64 i), (4, .bptr 1 0), (5, .int .i64 j)]) (fun j => [(0, .box s.row), (1, .box (ix s.os i).row)]) 2 (fun j => i - j) 0
        ⟨⟨Nat.zero_le _, fun q hq => absurd hq (Nat.not_lt_zero q)⟩, [(0, 0), (1, 1)], rfl, rfl, ⟨AVle.refl _, AVle.refl _, AVle.refl _, AVle.refl _, trivial⟩, ⟨MOle.refl _, MOle.refl _, trivial⟩⟩ ?_
      intro j hj
      obtain ⟨hj, hv⟩ := hj
      refine Grd.intro (fun h6 => ?_) (fun h6 => ?_)
      · have hjn : j < i := by have := of_decide_eq_true h6; omega
        refine DrawC.mk 9 rfl (by kernel_rfl) ?_
        refine And.intro (by omega) ?_
        refine Grd.intro (fun h7 => ?_) (fun h7 => ?_)
        · have h7 : (ix s.os j).ver = (ix s.os i).ver := of_decide_eq_true h7
          have hm : (ix s.os i).ver ∈ (s.os.take i).map (·.ver) := List.mem_map.2 ⟨ix s.os j, by rw [← ix_take hjn]; exact getD_mem (by simp; omega), h7⟩
          rw [hbad (by unfold Sto.eOK; rw [decide_eq_true hm]; simp)]
          exact And.intro trivial (AVle.refl _)
        · have h7 : (ix s.os j).ver ≠ (ix s.os i).ver := of_decide_eq_false h7
          refine And.intro (inI64 (by omega) (by omega)) ?_
          refine ⟨j + 1, ⟨hjn, fun q hq => ?_⟩, by omega, [(0, 0), (1, 1)], rfl, rfl, ⟨AVle.refl _, AVle.refl _, AVle.refl _, AVle.of_eq (congrArg (AV.int .i64) (by simp)), trivial⟩, ⟨MOle.refl _, MOle.refl _, trivial⟩⟩
          rcases Nat.lt_or_ge q j with h' | h'
          · exact hv q h'
          · rw [show q = j by omega]; exact h7
      · have : j = i := by have := of_decide_eq_false h6; omega
        subst this
        have hm : (ix s.os j).ver ∉ (s.os.take j).map (·.ver) := fun hm => by
          obtain ⟨o, ho, e⟩ := List.mem_map.1 hm
          obtain ⟨q, hq, e2⟩ := List.getElem_of_mem ho
          have hq' : q < j := by simp at hq; omega
          refine hv q hq' ?_
          rw [← e, ← e2, ix_lt (by omega)]; simp
        have he := hpre (by rw [decide_eq_false hm]; rfl) hkey
        refine And.intro (inI64 (by omega) (by omega)) ?_
        exact ⟨j + 1, ⟨hin, hnext he⟩, by omega, [(0, 0)], rfl, rfl, ⟨AVle.refl _, AVle.of_eq (congrArg (AV.int .i64) (by simp)), trivial⟩, ⟨MOle.refl _, trivial⟩⟩
    · have h0 : i = 0 := by have := of_decide_eq_false g5; omega
      have hkey : (decide (i = 0) || decide ((ix s.os (i - 1)).key < (ix s.os i).key)) = true := by rw [decide_eq_true h0]; rfl
      refine LoopC.mk (fun j : Nat => j ≤ i ∧ ∀ q, q < j → (ix s.os q).ver ≠ (ix s.os i).ver) (fun j => [(1, .bptr 0 0), (3, .int .i64 i), (4, .bptr 1 0), (5, .int .i64 j)]) (fun j => [(0, .box s.row), (1, .box (ix s.os i).row)]) 2 (fun j => i - j) 0
        ⟨⟨Nat.zero_le _, fun q hq => absurd hq (Nat.not_lt_zero q)⟩, [(0, 0), (1, 1)], rfl, rfl, ⟨AVle.refl _, AVle.refl _, AVle.refl _, AVle.refl _, trivial⟩, ⟨MOle.refl _, MOle.refl _, trivial⟩⟩ ?_
      intro j hj
      obtain ⟨hj, hv⟩ := hj
      refine Grd.intro (fun h6 => ?_) (fun h6 => ?_)
      · have hjn : j < i := by have := of_decide_eq_true h6; omega
        refine DrawC.mk 9 rfl (by kernel_rfl) ?_
        refine And.intro (by omega) ?_
        refine Grd.intro (fun h7 => ?_) (fun h7 => ?_)
        · have h7 : (ix s.os j).ver = (ix s.os i).ver := of_decide_eq_true h7
          have hm : (ix s.os i).ver ∈ (s.os.take i).map (·.ver) := List.mem_map.2 ⟨ix s.os j, by rw [← ix_take hjn]; exact getD_mem (by simp; omega), h7⟩
          rw [hbad (by unfold Sto.eOK; rw [decide_eq_true hm]; simp)]
          exact And.intro trivial (AVle.refl _)
        · have h7 : (ix s.os j).ver ≠ (ix s.os i).ver := of_decide_eq_false h7
          refine And.intro (inI64 (by omega) (by omega)) ?_
          refine ⟨j + 1, ⟨hjn, fun q hq => ?_⟩, by omega, [(0, 0), (1, 1)], rfl, rfl, ⟨AVle.refl _, AVle.refl _, AVle.refl _, AVle.of_eq (congrArg (AV.int .i64) (by simp)), trivial⟩, ⟨MOle.refl _, MOle.refl _, trivial⟩⟩
          rcases Nat.lt_or_ge q j with h' | h'
          · exact hv q h'
          · rw [show q = j by omega]; exact h7
      · have : j = i := by have := of_decide_eq_false h6; omega
        subst this
        have hm : (ix s.os j).ver ∉ (s.os.take j).map (·.ver) := fun hm => by
          obtain ⟨o, ho, e⟩ := List.mem_map.1 hm
          obtain ⟨q, hq, e2⟩ := List.getElem_of_mem ho
          have hq' : q < j := by simp at hq; omega
          refine hv q hq' ?_
          rw [← e, ← e2, ix_lt (by omega)]; simp
        have he := hpre (by rw [decide_eq_false hm]; rfl) hkey
        refine And.intro (inI64 (by omega) (by omega)) ?_
        exact ⟨j + 1, ⟨hin, hnext he⟩, by omega, [(0, 0)], rfl, rfl, ⟨AVle.refl _, AVle.of_eq (congrArg (AV.int .i64) (by simp)), trivial⟩, ⟨MOle.refl _, trivial⟩⟩
  · have : i = s.os.length := by have := of_decide_eq_false h3; omega
    subst this
    refine Grd.intro (fun h4 => ?_) (fun h4 => ?_)
    · have h4 : s.os.length ≤ 300 := by have := of_decide_eq_true h4; omega
      conv => whnf
      refine CallC.sca _ (l01In_fn s.next 1 1000000000) ?_ ?_
      · exact rfl
      refine And.intro trivial (AVle.of_eq (congrArg AV.bool (show within s.next 1 1000000000 = _ from ?_)))
      cases hw : within s.next 1 1000000000
      · unfold Sto.ok; rw [hw]; rfl
      · rw [Sto.ok_yes hw h4 hall]
    · have h4 : ¬ s.os.length ≤ 300 := by have := of_decide_eq_false h4; omega
      rw [show s.ok = false by unfold Sto.ok; rw [decide_eq_false h4]; simp]
      exact And.intro trivial (AVle.refl _)
theorem specStoreOK_ok (s : Sto) (hL : s.os.length ≤ 1000000000) (hk : ∀ o ∈ s.os, o.key.length ≤ 1000000000) (hn : -9223372036854775808 ≤ s.next ∧ s.next ≤ 9223372036854775807) : VFn Tryz.prog 27 [s.av] (.bool s.ok) := by
  by_cases h : s.next = -9223372036854775808
  · have h1 : within s.next 1 1000000000 = false := by rw [h]; rfl
    rw [show s.ok = false by unfold Sto.ok; rw [h1]; rfl]
    refine (specStoreOK_lo s.os hL hk).weak (AVsle.cons (AVle.agg (AVsle.cons (AVle.refl _) (AVsle.cons (fun w ok g v hv => ?_) AVsle.nil))) AVsle.nil) (AVle.refl _)
    have hv : v = .int .i64 s.next := hv
    rw [h] at hv
    exact hv
  · exact specStoreOK_hi s hL hk (by omega)
end Go.Proofs.YtopfpmcakoeloaaGreatDoor
set_option linter.unusedVariables false
set_option linter.constructorNameAsVariable false
set_option linter.unusedSimpArgs false
set_option maxRecDepth 20000
namespace Go.Proofs.YtopfpmcakoeloaaGreatDoor
open Go Go.Vw

theorem force_to {x y : AV} {k : AV → Prop} (e : x = y) (h : y.force k) : x.force k := e ▸ h
theorem wyes' {a : Bool} (h : (!a) = true) : a = true → False := fun e => by rw [e] at h; cases h
theorem l01Room_fn (s : Sto) (hs : s.ok = true) (k d : List UInt8) : VFn Tryz.prog 93 [s.av, .str (B k), .str (B d)] (.int .i64 (s.room k d)) := by
  have hL := (Sto.ok_at hs).2.1
  have c := l01Find_fn s (by omega) k
  rw [Srt.fi (Sto.srt hs) k, show hasK k s.os = s.has k from rfl] at c
  have r1 : 600 < d.length → s.room k d = 8 := fun h => by unfold Sto.room; rw [if_pos h]
  have r2 : ¬ 600 < d.length → ((!s.has k && decide (s.os.length = 300)) || decide (s.next = 1000000000)) = true → s.room k d = 7 := fun h h2 => by unfold Sto.room; rw [if_neg h, if_pos h2]
  have r3 : ¬ 600 < d.length → ((!s.has k && decide (s.os.length = 300)) || decide (s.next = 1000000000)) = false → s.room k d = 0 := fun h h2 => by unfold Sto.room; rw [if_neg h, if_neg (by rw [h2]; simp)]
  by_cases hk : s.has k = true
  · rw [if_pos hk] at c
    rw [hk] at r2 r3
    refine VFn.introC Tryz.call93 Tryz.func93 rfl rfl ?_
    refine Grd.intro (fun h1 => ?_) (fun h1 => ?_)
    · rw [r1 (by have h : (600 : Int) < (((B d).size : Nat) : Int) := of_decide_eq_true h1; rw [B_size] at h; omega)]
      exact And.intro trivial (AVle.refl _)
    have h1 : ¬ 600 < d.length := by have h : ¬ (600 : Int) < (((B d).size : Nat) : Int) := of_decide_eq_false h1; rw [B_size] at h; omega
    conv => whnf
    refine CallC.sca _ (c) ?_ ?_
    · exact rfl
    refine Grd.intro (fun h3 => ?_) (fun h3 => ?_)
    · rw [r2 h1 h3]
      exact And.intro trivial (AVle.refl _)
    · rw [r3 h1 h3]
      exact And.intro trivial (AVle.refl _)
  · have hk : s.has k = false := by simpa using hk
    rw [if_neg (by rw [hk]; simp)] at c
    rw [hk] at r2 r3
    refine VFn.introC Tryz.call93 Tryz.func93 rfl rfl ?_
    refine Grd.intro (fun h1 => ?_) (fun h1 => ?_)
    · rw [r1 (by have h : (600 : Int) < (((B d).size : Nat) : Int) := of_decide_eq_true h1; rw [B_size] at h; omega)]
      exact And.intro trivial (AVle.refl _)
    have h1 : ¬ 600 < d.length := by have h : ¬ (600 : Int) < (((B d).size : Nat) : Int) := of_decide_eq_false h1; rw [B_size] at h; omega
    conv => whnf
    refine CallC.sca _ (c) ?_ ?_
    · exact rfl
    refine Grd.intro (fun h2 => ?_) (fun h2 => ?_)
    · have h2 : decide (s.os.length = 300) = true := decide_eq_true (by have h : ((s.os.length : Nat) : Int) = 300 := of_decide_eq_true h2; omega)
      rw [r2 h1 (by rw [h2]; rfl)]
      exact And.intro trivial (AVle.refl _)
    have h2 : decide (s.os.length = 300) = false := decide_eq_false (by have h : ¬ ((s.os.length : Nat) : Int) = 300 := of_decide_eq_false h2; omega)
    rw [h2] at r2 r3
    refine Grd.intro (fun h3 => ?_) (fun h3 => ?_)
    · rw [r2 h1 h3]
      exact And.intro trivial (AVle.refl _)
    · rw [r3 h1 h3]
      exact And.intro trivial (AVle.refl _)
theorem l01Own_fn (s : Sto) (hL : s.os.length ≤ 1000000) : VFn Tryz.prog 30 [s.av] s.av := by
  refine VFn.introC Tryz.call30 Tryz.func30 rfl rfl ?_
  refine And.intro ⟨show (0 + s.os.length) * 40 ≤ 140737488355328 by omega, fun i hi => rfl⟩ ?_
  refine And.intro trivial (AVle.agg (AVsle.cons (AVle.sl (Nat.zero_add _) fun i hi => ?_) (AVsle.cons (AVle.refl _) AVsle.nil)))
  rw [appRows_ge (Nat.zero_le _), Nat.sub_zero]
structure StoRd (s : Sto) : Prop where
  len : s.os.length ≤ 1048576
  key : ∀ o ∈ s.os, o.key.length ≤ 1000000000
  nxt : -9223372036854775808 ≤ s.next ∧ s.next ≤ 9223372036854775807
theorem first2_of (a b : Bool) (x y : Int) {n : Nat} {rows : Nat → List AV} (hr : FirstRows 4 3 rows 0 [(a, x), (b, y)]) (hn : n = 4) {r : Int} (h : (if a = true then x else if b = true then y else 0) = r) : VFn Tryz.prog 68 [.sl 1 n rows] (.int .i64 r) := by
  have e : firstC [(a, x), (b, y)] = r := by
    rw [← h]
    unfold firstC firstC firstC
    cases a <;> cases b <;> rfl
  rw [← e]
  exact first_of _ hr hn (show 2 ≤ 1000 by decide)
theorem set_len_le (s : Sto) (k d : List UInt8) : (s.set k d).os.length ≤ s.os.length + 1 := by rw [Sto.set_len]; split <;> omega
end Go.Proofs.YtopfpmcakoeloaaGreatDoor
set_option linter.unusedVariables false
set_option linter.constructorNameAsVariable false
set_option linter.unusedSimpArgs false
set_option maxRecDepth 20000
namespace Go.Proofs.YtopfpmcakoeloaaGreatDoor
open Go Go.Vw

theorem putAbsent_fn (s : Sto) (hs : s.ok = true) (k d : List UInt8) (hd : d.length ≤ 1000000000) : VFn Tryz.prog 96 [s.av, .str (B k), .str (B d)] (.tup [(s.putA k d).1.av, .int .i64 (if s.has k = true ∨ s.room k d ≠ 0 then 0 else s.next), .int .i64 (s.putA k d).2]) := by
  have c := find_fn s hs k
  have cp := put_fn s hs k d hd
  unfold Sto.putA
  by_cases hk : s.has k = true
  · rw [hk] at c ⊢
    rw [if_pos rfl, if_pos (.inl rfl)]
    refine VFn.introC Tryz.call96 Tryz.func96 rfl rfl ?_
    conv => whnf
    refine CallC.sca _ (c) ?_ ?_
    · exact rfl
    exact And.intro trivial (AVle.refl _)
  · have hk : s.has k = false := by simpa using hk
    rw [hk] at c ⊢
    rw [if_neg (by simp)]
    unfold Sto.put
    by_cases hr : s.room k d = 0
    · rw [if_pos hr] at cp
      rw [if_pos hr, hr, if_neg (by simp)]
      refine VFn.introC Tryz.call96 Tryz.func96 rfl rfl ?_
      conv => whnf
      refine CallC.sca _ (c) ?_ ?_
      · exact rfl
      conv => whnf
      refine CallC.nl _ (cp) ?_ ?_
      · exact rfl
      exact And.intro trivial (AVle.refl _)
    · rw [if_neg hr] at cp
      rw [if_neg hr, if_pos (.inr hr)]
      refine VFn.introC Tryz.call96 Tryz.func96 rfl rfl ?_
      conv => whnf
      refine CallC.sca _ (c) ?_ ?_
      · exact rfl
      conv => whnf
      refine CallC.nl _ (cp) ?_ ?_
      · exact rfl
      exact And.intro trivial (AVle.refl _)
theorem l01Absent_fn (s : Sto) (hs : s.ok = true) (k d : List UInt8) : VFn Tryz.prog 58 [s.av, .str (B k), .str (B d)] (.tup [(s.putA k d).1.av, .int .i64 (s.putA k d).2]) := by
  have hL := (Sto.ok_at hs).2.1
  have hn : 1 ≤ s.next ∧ s.next ≤ 1000000000 := by simpa [within] using (Sto.ok_at hs).1
  have c := l01Find_fn s (by omega) k
  rw [Srt.fi (Sto.srt hs) k, show hasK k s.os = s.has k from rfl] at c
  unfold Sto.putA
  by_cases hk : s.has k = true
  · rw [if_pos hk] at c
    rw [if_pos hk]
    refine VFn.introC Tryz.call58 Tryz.func58 rfl rfl ?_
    conv => whnf
    refine CallC.sca _ (c) ?_ ?_
    · exact rfl
    exact And.intro trivial (AVle.refl _)
  · rw [if_neg hk] at c
    rw [if_neg hk]
    unfold Sto.put
    refine VFn.introC Tryz.call58 Tryz.func58 rfl rfl ?_
    conv => whnf
    refine CallC.sca _ (c) ?_ ?_
    · exact rfl
    conv => whnf
    refine CallC.sca _ (l01Room_fn s hs k d) ?_ ?_
    · exact rfl
    refine Grd.intro (fun h => ?_) (fun h => ?_)
    · have h : s.room k d ≠ 0 := by simpa using h
      rw [if_neg h]
      exact And.intro trivial (AVle.refl _)
    · have h : s.room k d = 0 := by simpa using h
      rw [if_pos h, h]
      conv => whnf
      refine CallC.nl _ (l01Set_fn s (by omega) ⟨by omega, by omega⟩ k d) ?_ ?_
      · exact rfl
      exact And.intro trivial (AVle.refl _)
end Go.Proofs.YtopfpmcakoeloaaGreatDoor
