/- Stores: found, copied, by the program: contracts; the conditions are the theorems' own. -/
import Derived.Test.YtpfmfdioonjccaaGreatDoorKA
import Derived.Test.YtpfmfdioonjccaaGreatDoorV41
set_option linter.unusedVariables false
set_option linter.constructorNameAsVariable false
set_option linter.unusedSimpArgs false
set_option maxRecDepth 20000
namespace Go.Proofs.YtpfmfdioonjccaaGreatDoor
open Go Go.Vw

theorem CloneOb_own (L : List Ob) (hL : L.length ≤ 1000000) : FnM Tryz.prog 169 0 [obs L] [] (.osl 0) [(0, .arr 187 3 L.length fun i => (ix L i).row)] 1 := by
  refine FnM.introN Tryz.call169 Tryz.func169 rfl rfl ?_
  conv => whnf
  refine OpC.isnil rfl rfl rfl rfl rfl (fun h0 => ?_) ?_
  · conv => whnf
    exact ⟨_, .inr ⟨2, 187, 3, fun i => (ix L i).row, rfl, rfl⟩, And.intro trivial ⟨[(0, 0)], rfl, AVle.refl _, ⟨MOle.arr h0.symm fun i hi => rfl, trivial⟩⟩⟩
  · conv => whnf
    refine And.intro ⟨show (0 + L.length) * 40 ≤ 140737488355328 by omega, fun i hi => rfl⟩ ?_
    conv => whnf
    exact ⟨_, .inl rfl, And.intro trivial ⟨[(1, 0)], rfl, AVle.refl _, ⟨MOle.arr (Nat.zero_add _) fun i hi => appRows_ge (Nat.zero_le _), trivial⟩⟩⟩
theorem cmp_lt : ∀ a b : List UInt8, decide (Lib.compareBytes a b < 0) = decide (a < b)
  | [], [] => by simp [Lib.compareBytes]
  | [], _ :: _ => by simp [Lib.compareBytes]
  | _ :: _, [] => by simp [Lib.compareBytes]
  | x :: a, y :: b => by
    have ih := cmp_lt a b
    unfold Lib.compareBytes
    by_cases h1 : x < y
    · simp [h1, List.cons_lt_cons_iff]
    · by_cases h2 : y < x
      · have : ¬ x = y := fun e => by subst e; exact h1 h2
        simp only [List.cons_lt_cons_iff]; simp [h1, h2, this]
      · have : x = y := UInt8.le_antisymm (UInt8.not_lt.1 h2) (UInt8.not_lt.1 h1)
        subst this
        simp only [List.cons_lt_cons_iff]; simp [h1, ih]
theorem cmp_eq : ∀ a b : List UInt8, decide (Lib.compareBytes a b = 0) = decide (a = b)
  | [], [] => by simp [Lib.compareBytes]
  | [], _ :: _ => by simp [Lib.compareBytes]
  | _ :: _, [] => by simp [Lib.compareBytes]
  | x :: a, y :: b => by
    have ih := cmp_eq a b
    unfold Lib.compareBytes
    by_cases h1 : x < y
    · have : ¬ x = y := fun e => by subst e; exact UInt8.lt_irrefl _ h1
      simp [h1, this]
    · by_cases h2 : y < x
      · have : ¬ x = y := fun e => by subst e; exact h1 h2
        simp [h1, h2, this]
      · have : x = y := UInt8.le_antisymm (UInt8.not_lt.1 h2) (UInt8.not_lt.1 h1)
        subst this
        simp [h1]
        simpa using ih
theorem Compare_fn (a b : List UInt8) : VFn Tryz.prog 311 [.str (B a), .str (B b)] (.int .i64 (Lib.compareBytes a b)) := by
  refine VFn.lib Tryz.call311 fun w ok vs hJ hok hv => ?_
  obtain ⟨v, us, rfl, hv, v2, us2, rfl, hv2, hus⟩ := hv
  have e1 : v = .string (B a) := hv
  have e2 : v2 = .string (B b) := hv2
  have e3 : us2 = [] := hus
  subst e1 e2 e3
  refine (Tryz.strings_Compare (B a) (B b) w).mono ?_
  rintro e w' ⟨rfl, rfl⟩
  exact ⟨_, rfl, Go.RowKit.Below.refl _ _, fun _ _ => by rw [B_data, B_data]; rfl⟩
theorem find1_fn (o : Ob) (k : List UInt8) : VFn Tryz.prog 310 [o.av, .str (B k)] (.int .i64 (Lib.compareBytes o.key k)) := by
  refine VFn.introC Tryz.call310 Tryz.func310 rfl rfl ?_
  conv => whnf
  refine CallC.sca _ (Compare_fn o.key k) ?_ ?_
  · exact rfl
  exact And.intro trivial (AVle.refl _)
theorem Search_fn (L : List Ob) (hS : Srt L) (hL : L.length ≤ 1000000) (k : List UInt8) : VFn Tryz.prog 309 [obs L, .str (B k), .fn (.func 310) [] []] (.tup [.int .i64 (lb k L), .bool (hasK k L)]) := by
  have hle := lb_le k L
  refine VFn.introC Tryz.call309 Tryz.func309 rfl rfl ?_
  refine LoopC.mk (fun p : Nat × Nat => p.1 ≤ lb k L ∧ lb k L ≤ p.2 ∧ p.2 ≤ L.length) (fun p => [(0, obs L), (1, .str (B k)), (2, .fn (.func 310) [] []), (6, .int .i64 0), (7, .bool false), (8, .int .i64 L.length), (9, .int .i64 p.1), (10, .int .i64 p.2)]) (fun _ => []) 0 (fun p => p.2 - p.1) (0, L.length)
    ⟨⟨Nat.zero_le _, hle, Nat.le_refl _⟩, [], rfl, rfl, ⟨AVle.refl _, AVle.refl _, AVle.refl _, AVle.refl _, AVle.refl _, AVle.refl _, AVle.refl _, AVle.refl _, trivial⟩, trivial⟩ ?_
  rintro ⟨i, j⟩ hp
  obtain ⟨h1, h2, h3⟩ := hp
  simp only at h1 h2 h3
  refine Grd.intro (fun g1 => ?_) (fun g1 => ?_)
  · have hij : i < j := by have := of_decide_eq_true g1; omega
    have eh : ((i : Int) + (j : Int)) / 2 = (((i + j) / 2 : Nat) : Int) := by omega
    refine And.intro (inI64 (by omega) (by omega)) ?_
    refine And.intro (show inI .u64 ((i : Int) + (j : Int)) from ⟨show (0 : Int) ≤ _ by omega, show _ ≤ (18446744073709551615 : Int) by omega⟩) ?_
    refine And.intro ⟨by omega, by omega, rfl⟩ ?_
    rw [eh]
    obtain ⟨h, hh⟩ : ∃ h, h = (i + j) / 2 := ⟨_, rfl⟩
    rw [← hh]
    have hi : i ≤ h := by omega
    have hj : h < j := by omega
    refine And.intro (inI64 (by omega) (by omega)) ?_
    refine And.intro ⟨by omega, by omega⟩ ?_
    conv => whnf
    refine CallC.sca _ (find1_fn (ix L h) k) ?_ ?_
    · exact rfl
    have hc : decide (Lib.compareBytes (ix L h).key k < 0) = decide (h < lb k L) := by rw [cmp_lt]; exact decide_eq_decide.2 (hS.iff (by omega))
    refine Grd.intro (fun g2 => ?_) (fun g2 => ?_)
    · have g2 : h < lb k L := of_decide_eq_true (hc.symm.trans g2)
      refine And.intro (inI64 (by omega) (by omega)) ?_
      exact ⟨(h + 1, j), ⟨by simp only; omega, by simp only; omega, by simp only; omega⟩, by simp only; omega, [], rfl, rfl, ⟨AVle.refl _, AVle.refl _, AVle.refl _, AVle.refl _, AVle.refl _, AVle.refl _, AVle.of_eq (congrArg (AV.int .i64) (by simp)), AVle.refl _, trivial⟩, trivial⟩
    · have g2 : ¬ h < lb k L := of_decide_eq_false (hc.symm.trans g2)
      exact ⟨(i, h), ⟨by simp only; omega, by simp only; omega, by simp only; omega⟩, by simp only; omega, [], rfl, rfl, ⟨AVle.refl _, AVle.refl _, AVle.refl _, AVle.refl _, AVle.refl _, AVle.refl _, AVle.refl _, AVle.refl _, trivial⟩, trivial⟩
  · have hij : j ≤ i := by have := of_decide_eq_false g1; omega
    have e1 : i = lb k L := by omega
    subst e1
    refine Grd.intro (fun g2 => ?_) (fun g2 => ?_)
    · have g2 : lb k L < L.length := by have := of_decide_eq_true g2; omega
      refine And.intro ⟨by omega, by omega⟩ ?_
      conv => whnf
      refine CallC.sca _ (find1_fn (ix L (lb k L)) k) ?_ ?_
      · exact rfl
      refine And.intro trivial (AVle.of_eq (congrArg (fun b => AV.tup [.int .i64 (lb k L), .bool b]) (show decide (Lib.compareBytes (ix L (lb k L)).key k = 0) = _ from ?_)))
      rw [cmp_eq]; unfold hasK; rw [decide_eq_true g2]; rfl
    · have g2 : ¬ lb k L < L.length := by have := of_decide_eq_false g2; omega
      refine And.intro trivial (AVle.of_eq (congrArg (fun b => AV.tup [.int .i64 (lb k L), .bool b]) (show false = _ from ?_)))
      unfold hasK; rw [decide_eq_false g2]; rfl
theorem find_fn (s : Sto) (hs : s.ok = true) (k : List UInt8) : VFn Tryz.prog 242 [s.av, .str (B k)] (.tup [.int .i64 (s.pos k), .bool (s.has k)]) := by
  have hL := (Sto.ok_at hs).2.1
  refine VFn.introC Tryz.call242 Tryz.func242 rfl rfl ?_
  conv => whnf
  refine CallC.sca _ (Search_fn s.os (Sto.srt hs) (by omega) k) ?_ ?_
  · exact rfl
  exact And.intro trivial (AVle.refl _)
theorem get_fn (s : Sto) (hs : s.ok = true) (k : List UInt8) : VFn Tryz.prog 184 [s.av, .str (B k)] (if s.has k = true then .tup [.str (B (s.get k).data), .bool true] else .tup [.str (B []), .bool false]) := by
  by_cases h : s.has k = true
  · rw [if_pos h]
    have hp := (hasK_at h).1
    have c := find_fn s hs k
    rw [h] at c
    refine VFn.introC Tryz.call184 Tryz.func184 rfl rfl ?_
    conv => whnf
    refine CallC.sca _ (c) ?_ ?_
    · exact rfl
    refine And.intro ⟨by omega, show ((lb k s.os : Nat) : Int) < (s.os.length : Int) by omega⟩ ?_
    exact And.intro trivial (AVle.refl _)
  · rw [if_neg h]
    have c := find_fn s hs k
    rw [show s.has k = false by simpa using h] at c
    refine VFn.introC Tryz.call184 Tryz.func184 rfl rfl ?_
    conv => whnf
    refine CallC.sca _ (c) ?_ ?_
    · exact rfl
    exact And.intro trivial (AVle.refl _)
theorem copied_own (s : Sto) (hL : s.os.length ≤ 1000000) : FnM Tryz.prog 69 0 [s.av] [] s.own [(0, .arr 187 3 s.os.length fun i => (ix s.os i).row)] 1 := by
  refine FnM.introC Tryz.call69 Tryz.func69 rfl rfl ?_
  refine DrawC.mk 6 rfl (by kernel_rfl) ?_
  conv => whnf
  refine PCallC.own (CloneOb_own s.os hL) rfl (fun i hi => rfl) ?_
  exact And.intro trivial ⟨[(4, 0)], rfl, AVle.refl _, ⟨MOle.refl _, trivial⟩⟩
end Go.Proofs.YtpfmfdioonjccaaGreatDoor
