/- Texts: digits, numbers joined, second part: contracts; the conditions are the theorems' own. -/
import Derived.Test.YtiialkiibfmddaaDoorD1
set_option linter.unusedVariables false
set_option linter.unusedSimpArgs false
set_option linter.unusedSectionVars false
namespace Go.Proofs.YtiialkiibfmddaaDoor
open Go Go.Vw

theorem one_digit {n : Int} {k : Nat} (h : n = 48 + k) (hk : k < 10) : strOfNums [n] = B [UInt8.ofNat (48 + k)] := by
  subst h
  have : (48 + (k : Int)).toNat = 48 + k := by omega
  simp [strOfNums, B, this]

theorem digits_nat : ∀ (u : Nat), u ≤ 9223372036854775807 → VFn Tryd.prog 37 [.int .i64 (u : Int)] (.str (B (Lib.decDigits u))) := by
  intro u
  induction u using Nat.strongRecOn with
  | _ u ih =>
    intro hu
    refine VFn.intro Tryd.call37 Tryd.func37 rfl rfl ?_
    refine Grd.intro (fun h1 => ?_) (fun h1 => ?_)
    · have h10 : u < 10 := by simp at h1; omega
      refine And.intro (inI64 (by omega) (by omega)) ?_
      refine And.intro (show inI .u8 (48 + (u : Int)) from ⟨show (0 : Int) ≤ _ by omega, show _ ≤ (255 : Int) by omega⟩) ?_
      refine And.intro (fun i hi => ?_) ?_
      · have : i = 0 := by omega
        subst this; rfl
      exact And.intro trivial (AVle.of_eq (congrArg AV.str (show strOfNums [48 + (u : Int)] = B (Lib.decDigits u) by rw [one_digit rfl h10, Lib.decDigits, dif_pos h10])))
    · have h10 : ¬ u < 10 := by simp at h1; omega
      have hd : (u : Int).tdiv 10 = ((u / 10 : Nat) : Int) := by rw [Int.tdiv_eq_ediv_of_nonneg (by omega)]; simp
      have hm : (u : Int).tmod 10 = ((u % 10 : Nat) : Int) := by rw [Int.tmod_eq_emod_of_nonneg (by omega)]; simp
      refine DrawG.mk 11 rfl (by kernel_rfl) ?_
      refine And.intro ⟨by decide, by rw [hd]; exact inI64 (by omega) (by omega)⟩ ?_
      refine PCallG.sca (.str (B (Lib.decDigits (u / 10)))) (show VFn Tryd.prog 37 [.int .i64 ((u : Int).tdiv 10)] _ from hd ▸ ih (u / 10) (by omega) (by omega)) rfl ?_
      refine And.intro (by decide) ?_
      refine And.intro (inI64 (by omega) (by omega)) ?_
      refine And.intro (show inI .u8 (48 + (u : Int).tmod 10) from ⟨show (0 : Int) ≤ _ by omega, show _ ≤ (255 : Int) by omega⟩) ?_
      refine And.intro (fun i hi => ?_) ?_
      · have : i = 0 := by omega
        subst this; rfl
      have hl := dd_len 19 (u / 10) (by simp; omega)
      refine And.intro (show (((B (Lib.decDigits (u / 10))).size + (strOfNums [48 + (u : Int).tmod 10]).size : Nat) : Int) ≤ 9223372036854775807 by rw [B_size, strOfNums_size]; simp; omega) ?_
      exact And.intro trivial (AVle.of_eq (congrArg AV.str (show B (Lib.decDigits (u / 10)) ++ strOfNums [48 + (u : Int).tmod 10] = B (Lib.decDigits u) by
        rw [one_digit (k := u % 10) (by rw [hm]) (by omega), B_app]; conv => rhs; rw [Lib.decDigits, dif_neg h10])))

theorem digits_fn (n : Int) (h0 : -9223372036854775807 ≤ n) (h1 : n ≤ 9223372036854775807) : VFn Tryd.prog 37 [.int .i64 n] (.str (B (Lib.itoa n))) := by
  by_cases hn : n < 0
  · obtain ⟨u, rfl⟩ : ∃ u : Nat, n = -(u : Int) := ⟨n.natAbs, by omega⟩
    refine VFn.intro Tryd.call37 Tryd.func37 rfl rfl ?_
    refine Grd.intro (fun h => absurd (of_decide_eq_true h) (by omega)) (fun _ => ?_)
    refine Grd.intro (fun _ => ?_) (fun h => absurd (of_decide_eq_false h) (by omega))
    refine And.intro (inI64 (by omega) (by omega)) ?_
    have hneg : - -(u : Int) = u := by omega
    refine CallG.mk _ (callR_sca (r := .str (B (Lib.decDigits u))) (show VFn Tryd.prog 37 [.int .i64 (- -(u : Int))] _ from hneg.symm ▸ digits_nat u (by omega)) rfl rfl) ?_
    have hl := dd_len 19 u (by simp; omega)
    refine And.intro (show (((B [45]).size + (B (Lib.decDigits u)).size : Nat) : Int) ≤ 9223372036854775807 by rw [B_size, B_size]; simp; omega) ?_
    exact And.intro trivial (AVle.of_eq (congrArg AV.str (show B [45] ++ B (Lib.decDigits u) = B (Lib.itoa (-(u : Int))) by rw [B_app, Lib.itoa_neg u (by omega)]; rfl)))
  · obtain ⟨u, rfl⟩ : ∃ u : Nat, n = (u : Int) := ⟨n.toNat, by omega⟩
    rw [Lib.itoa_nonneg]
    exact digits_nat u (by omega)

/-- the texts of some, sep between -/
def jn (xs : Nat → List UInt8) (s : List UInt8) (n : Nat) : List UInt8 := Lib.join ((List.range n).map xs) s
theorem jn_zero {xs : Nat → List UInt8} {s : List UInt8} : jn xs s 0 = [] := rfl
theorem join_snoc (s y : List UInt8) : ∀ l : List (List UInt8), l ≠ [] → Lib.join (l ++ [y]) s = Lib.join l s ++ (s ++ y)
  | [], h => absurd rfl h
  | x :: r, _ => by
    rw [List.cons_append, Lib.join_cons, Lib.join_cons]
    simp [Lib.joinTail]
theorem jn_succ {xs : Nat → List UInt8} {s : List UInt8} {n : Nat} : jn xs s (n + 1) = (if 0 < n then jn xs s n ++ s else jn xs s n) ++ xs n := by
  unfold jn
  rw [List.range_succ, List.map_append, List.map_cons, List.map_nil]
  split
  · rename_i h
    rw [join_snoc _ _ _ (by simp; omega), List.append_assoc]
  · have : n = 0 := by omega
    subst this
    simp [Lib.join_one, Lib.join_nil]
theorem jn_len {xs : Nat → List UInt8} {s : List UInt8} (hs : s.length ≤ 10) : ∀ n, (∀ i, i < n → (xs i).length ≤ 100) → (jn xs s n).length ≤ 110 * n
  | 0, _ => by simp [jn_zero]
  | n + 1, h => by
    have ih := jn_len hs n fun i hi => h i (by omega)
    have hn := h n (by omega)
    rw [jn_succ]
    split <;> simp <;> omega

theorem l00Join_fn (xs : Nat → List UInt8) (s : List UInt8) (n : Nat) (hn : n ≤ 1000) (hs : s.length ≤ 10) (hx : ∀ i, i < n → (xs i).length ≤ 100) :
    VFn Tryd.prog 44 [txts xs n, .str (B s)] (.str (B (jn xs s n))) := by
  refine VFn.intro Tryd.call44 Tryd.func44 rfl rfl ?_
  refine LoopG.mk (fun i : Nat => i ≤ n) (fun i => [(0, txts xs n), (1, .str (B s)), (5, .str (B (jn xs s i))), (6, .int .i64 i)]) (fun _ => []) 0 (fun i => n - i) 0
    ⟨Nat.zero_le _, [], rfl, rfl, ⟨AVle.refl _, AVle.refl _, AVle.refl _, AVle.refl _, trivial⟩, trivial⟩ ?_
  intro i hi
  have hl := jn_len hs i fun j hj => hx j (by omega)
  refine Grd.intro (fun h2 => ?_) (fun h2 => ?_)
  · have hin : i < n := by simp at h2; omega
    have hxi := hx i hin
    refine Grd.intro (fun h3 => ?_) (fun h3 => ?_)
    · have hp : 0 < i := by simp at h3; omega
      refine And.intro (show (((B (jn xs s i)).size + (B s).size : Nat) : Int) ≤ 9223372036854775807 by rw [B_size, B_size]; omega) ?_
      refine And.intro (by omega) ?_
      refine And.intro (show ((((B (jn xs s i)) ++ (B s)).size + (B (xs i)).size : Nat) : Int) ≤ 9223372036854775807 by rw [B_app, B_size, B_size, List.length_append]; omega) ?_
      refine And.intro (inI64 (by omega) (by omega)) ?_
      exact ⟨i + 1, hin, by omega, [], rfl, rfl, ⟨AVle.refl _, AVle.refl _, AVle.of_eq (congrArg AV.str (show B (jn xs s i) ++ B s ++ B (xs i) = B (jn xs s (i + 1)) by rw [B_app, B_app, jn_succ, if_pos hp])), AVle.of_eq (congrArg (AV.int .i64) (by simp)), trivial⟩, trivial⟩
    · have hp : ¬ 0 < i := by simp at h3; omega
      refine And.intro (by omega) ?_
      refine And.intro (show (((B (jn xs s i)).size + (B (xs i)).size : Nat) : Int) ≤ 9223372036854775807 by rw [B_size, B_size]; omega) ?_
      refine And.intro (inI64 (by omega) (by omega)) ?_
      exact ⟨i + 1, hin, by omega, [], rfl, rfl, ⟨AVle.refl _, AVle.refl _, AVle.of_eq (congrArg AV.str (show B (jn xs s i) ++ B (xs i) = B (jn xs s (i + 1)) by rw [B_app, jn_succ, if_neg hp])), AVle.of_eq (congrArg (AV.int .i64) (by simp)), trivial⟩, trivial⟩
  · have : i = n := by simp at h2; omega
    subst this
    exact And.intro trivial (AVle.refl _)

def nums (N : Nat → Int) (n : Nat) : Prop := ∀ i, i < n → -9223372036854775807 ≤ N i ∧ N i ≤ 9223372036854775807
def it (N : Nat → Int) (i : Nat) : List UInt8 := Lib.itoa (N i)
theorem it_len {N : Nat → Int} {n : Nat} (h : nums N n) : ∀ i, i < n → (it N i).length ≤ 100 := fun i hi => by
  have := itoa_len (n := N i) (by have := h i hi; omega) (h i hi).2
  unfold it; omega
theorem txt_rows {xs : Nat → List UInt8} {i : Nat} {r2 : Nat → List AV} (h : r2 0 = [.str (B (xs i))]) {k : Nat} (hk : k < i + 1) : appRows i (fun k => [.str (B (xs k))]) r2 k = [.str (B (xs k))] := by
  unfold appRows
  rcases Nat.lt_or_ge k i with h' | h'
  · rw [blt_t h']; rfl
  · have : k = i := by omega
    subst this
    rw [blt_f (Nat.le_refl _), cond_false, Nat.sub_self, h]

theorem l02Join_fn (N : Nat → Int) (n : Nat) (hn : n ≤ 1000) (hN : nums N n) : VFn Tryd.prog 29 [.sl 1 n fun i => [.int .i64 (N i)]] (.str (B (jn (it N) [44] n))) := by
  refine VFn.intro Tryd.call29 Tryd.func29 rfl rfl ?_
  refine LoopG.mk (fun i : Nat => i ≤ n) (fun i => [(0, .sl 1 n fun i => [.int .i64 (N i)]), (3, .osl 0), (4, .int .i64 i)]) (fun i => [(0, .arr 9 1 i fun k => [.str (B (it N k))])]) 1 (fun i => n - i) 0
    ⟨Nat.zero_le _, [(0, 0)], rfl, rfl, ⟨AVle.refl _, AVle.refl _, AVle.refl _, trivial⟩, ⟨MOle.arr rfl fun i hi => absurd hi (Nat.not_lt_zero i), trivial⟩⟩ ?_
  intro i hi
  refine Grd.intro (fun h2 => ?_) (fun h2 => ?_)
  · have hin : i < n := by simp at h2; omega
    have hNi := hN i hin
    refine And.intro (by omega) ?_
    refine CallG.mk _ (callR_sca (digits_fn (N i) hNi.1 hNi.2) rfl rfl) ?_
    have h16 : (i + 1) * 16 ≤ 140737488355328 := by omega
    refine And.intro ⟨h16, all1 rfl⟩ ?_
    refine And.intro (inI64 (by omega) (by omega)) ?_
    exact ⟨i + 1, hin, by omega, [(2, 0)], rfl, rfl, ⟨AVle.refl _, AVle.refl _, AVle.of_eq (congrArg (AV.int .i64) (by simp)), trivial⟩, ⟨MOle.arr rfl fun k hk => txt_rows rfl hk, trivial⟩⟩
  · have : i = n := by simp at h2; omega
    subst this
    refine CallG.mk _ (callR_sca (l00Join_fn (it N) [44] i hn (by decide) (it_len hN)) rfl rfl) ?_
    exact And.intro trivial (AVle.refl _)

theorem joined_fn (N : Nat → Int) (n : Nat) (hn : n ≤ 1000) (hN : nums N n) (s : List UInt8) (hs : s.length ≤ 10) : VFn Tryd.prog 33 [.str (B s), .sl 1 n fun i => [.iface 3 (.int .i64 (N i))]] (.str (B (jn (it N) s n))) := by
  refine VFn.intro Tryd.call33 Tryd.func33 rfl rfl ?_
  refine LoopG.mk (fun i : Nat => i ≤ n) (fun i => [(0, .str (B s)), (11, .sl 1 n fun i => [.iface 3 (.int .i64 (N i))]), (12, .int .i64 n), (5, .osl 0), (13, .int .i64 i)]) (fun i => [(0, .arr 9 1 i fun k => [.str (B (it N k))])]) 1 (fun i => n - i) 0
    ⟨Nat.zero_le _, [(0, 0)], rfl, rfl, ⟨AVle.refl _, AVle.refl _, AVle.refl _, AVle.refl _, AVle.refl _, trivial⟩, ⟨MOle.arr rfl fun i hi => absurd hi (Nat.not_lt_zero i), trivial⟩⟩ ?_
  intro i hi
  refine Grd.intro (fun h2 => ?_) (fun h2 => ?_)
  · have hin : i < n := by simp at h2; omega
    have hNi := hN i hin
    refine And.intro (by omega) ?_
    refine CallG.mk _ (callR_sca (Itoa_fn (N i) (by omega) hNi.2) rfl rfl) ?_
    have h16 : (i + 1) * 16 ≤ 140737488355328 := by omega
    refine And.intro ⟨h16, all1 rfl⟩ ?_
    refine And.intro (inI64 (by omega) (by omega)) ?_
    exact ⟨i + 1, hin, by omega, [(2, 0)], rfl, rfl, ⟨AVle.refl _, AVle.refl _, AVle.refl _, AVle.refl _, AVle.of_eq (congrArg (AV.int .i64) (by simp)), trivial⟩, ⟨MOle.arr rfl fun k hk => txt_rows rfl hk, trivial⟩⟩
  · have : i = n := by simp at h2; omega
    subst this
    have hl := jn_len hs i (it_len hN)
    refine CallG.mk _ (callR_sca (Join_fn (it N) i s hn (Nat.le_trans hl (by omega))) rfl rfl) ?_
    exact And.intro trivial (AVle.refl _)
end Go.Proofs.YtiialkiibfmddaaDoor
