/- Vw31: a part of a tool for walks: what a piece of a Go program does, by abstract values. It holds of every program; no condition. -/
import Derived.Test.YtopkjoalbinljaaDoorV30
import Derived.Lib.Split
import Derived.Lib.Join
set_option linter.unusedVariables false
set_option linter.unusedSimpArgs false
set_option linter.unusedSectionVars false
namespace Go.Vw
open Go

/-- Numbers' texts read back; texts cut at a sign. -/
theorem numB_snoc' : ∀ (l : List UInt8) (n : Nat) (c : UInt8), numB n (l ++ [c]) = numB n l * 10 + (c.toNat - 48)
  | [], n, c => rfl
  | x :: r, n, c => numB_snoc' r _ c
theorem dd_num : ∀ u : Nat, numB 0 (Lib.decDigits u) = u ∧ (Lib.decDigits u).all dig = true ∧ Lib.decDigits u ≠ [] := by
  intro u
  induction u using Nat.strongRecOn with
  | _ u ih =>
    by_cases h : u < 10
    · rw [dd_base h]
      refine ⟨?_, by simp [d1_dig], by simp⟩
      show 0 * 10 + ((d1 u).toNat - 48) = u
      rw [d1_toNat]; omega
    · rw [dd_step h]
      obtain ⟨h1, h2, h3⟩ := ih (u / 10) (by omega)
      refine ⟨?_, by rw [List.all_append, h2]; simp [d1_dig], by simp⟩
      rw [numB_snoc', h1, d1_toNat]; omega
theorem dd_len18 {u : Nat} (h : u ≤ 999999999999999999) : (Lib.decDigits u).length ≤ 18 := dd_len 17 u (by simp; omega)
theorem decNat_dig {l : List UInt8} (h0 : l ≠ []) (hd : l.all dig = true) : Lib.decNat l = some (numB 0 l) := by
  cases l with
  | nil => exact absurd rfl h0
  | cons b r => exact decFrom_dig _ _ hd
theorem atoiAll_itoa {n : Int} (h0 : -999999999999999999 ≤ n) (h1 : n ≤ 999999999999999999) : Lib.atoiAll (Lib.itoa n) = .ok n := by
  by_cases hn : n < 0
  · obtain ⟨u, rfl⟩ : ∃ u : Nat, n = -(u : Int) := ⟨n.natAbs, by omega⟩
    obtain ⟨e1, e2, e3⟩ := dd_num u
    rw [Lib.itoa_neg u (by omega), Lib.atoiAll_minus, Lib.signed_short (dd_len18 (by omega)), decNat_dig e3 e2, e1]
    rfl
  · obtain ⟨u, rfl⟩ : ∃ u : Nat, n = (u : Int) := ⟨n.toNat, by omega⟩
    obtain ⟨e1, e2, e3⟩ := dd_num u
    rw [Lib.itoa_nonneg, atoi_dig e3 (dd_len18 (by omega)) e2, e1]
theorem itoa_ne {n : Int} {c : UInt8} (h45 : c ≠ 45) (hc : c.toNat < 48 ∨ 57 < c.toNat) : ∀ x ∈ Lib.itoa n, x ≠ c := by
  intro x hx
  by_cases hn : n < 0
  · obtain ⟨u, rfl⟩ : ∃ u : Nat, n = -(u : Int) := ⟨n.natAbs, by omega⟩
    rw [Lib.itoa_neg u (by omega)] at hx
    rcases List.mem_cons.1 hx with rfl | hx
    · exact fun e => h45 e.symm
    · exact dig_ne (List.all_eq_true.1 (dd_num u).2.1 x hx) hc
  · obtain ⟨u, rfl⟩ : ∃ u : Nat, n = (u : Int) := ⟨n.toNat, by omega⟩
    rw [Lib.itoa_nonneg] at hx
    exact dig_ne (List.all_eq_true.1 (dd_num u).2.1 x hx) hc
def bigN : Int := 999999999999999999
def numOk (t : List UInt8) : Bool := atoiOk t && (decide (Lib.itoa (atoiV t) = t) && within (atoiV t) (-999999999999999999) 999999999999999999)
theorem num_back {n : Int} (h0 : -999999999999999999 ≤ n) (h1 : n ≤ 999999999999999999) : numOk (Lib.itoa n) = true ∧ atoiV (Lib.itoa n) = n := by
  have h := atoiAll_itoa h0 h1
  have e : atoiV (Lib.itoa n) = n := by unfold atoiV; rw [h]
  refine ⟨?_, e⟩
  unfold numOk
  rw [e, show atoiOk (Lib.itoa n) = true by unfold atoiOk; rw [h]]
  simp [within, h0, h1]
theorem num_of {t : List UInt8} (h : numOk t = true) : ∃ n, t = Lib.itoa n ∧ atoiV t = n ∧ -999999999999999999 ≤ n ∧ n ≤ 999999999999999999 := by
  unfold numOk at h
  simp [within] at h
  exact ⟨_, h.2.1.symm, rfl, h.2.2.1, h.2.2.2⟩

/-- cut at most so often -/
theorem cutP_len (c : UInt8) : ∀ (l cur : List UInt8), 1 ≤ (cutP c cur l).length ∧ (cutP c cur l).length ≤ l.length + 1
  | [], cur => by simp [cutP]
  | x :: r, cur => by
    unfold cutP
    split
    · have := cutP_len c r []; simp; omega
    · have := cutP_len c r (cur ++ [x]); simp; omega
theorem first_c (c : UInt8) (l : List UInt8) : (∀ x ∈ l, x ≠ c) ∨ ∃ a b, l = a ++ c :: b ∧ ∀ x ∈ a, x ≠ c := by
  induction l with
  | nil => exact .inl (by simp)
  | cons x r ih =>
    by_cases h : x = c
    · exact .inr ⟨[], r, by rw [h]; rfl, by simp⟩
    · rcases ih with ih | ⟨a, b, e, ha⟩
      · exact .inl fun y hy => by rcases List.mem_cons.1 hy with rfl | hy; exact h; exact ih y hy
      · exact .inr ⟨x :: a, b, by rw [e]; rfl, fun y hy => by rcases List.mem_cons.1 hy with rfl | hy; exact h; exact ha y hy⟩
theorem index_none (c : UInt8) : ∀ (l : List UInt8), (∀ x ∈ l, x ≠ c) → Lib.index l [c] = -1
  | [], _ => rfl
  | x :: r, h => by
    have hx : (c == x) = false := by rw [beq_eq_false_iff_ne]; exact fun e => h x (by simp) e.symm
    unfold Lib.index
    rw [index_none c r fun y hy => h y (by simp [hy])]
    simp [List.isPrefixOf, hx]
theorem index_at (c : UInt8) : ∀ (a b : List UInt8), (∀ x ∈ a, x ≠ c) → Lib.index (a ++ c :: b) [c] = a.length
  | [], b, _ => by simp [Lib.index, List.isPrefixOf]
  | x :: r, b, h => by
    have hx : (c == x) = false := by rw [beq_eq_false_iff_ne]; exact fun e => h x (by simp) e.symm
    rw [List.cons_append]
    unfold Lib.index
    rw [index_at c r b fun y hy => h y (by simp [hy])]
    simp only [List.isPrefixOf, hx]
    rw [if_neg (by simp), if_neg (by simp <;> omega)]
    simp
theorem splitK_cut (c : UInt8) : ∀ (k : Nat) (l : List UInt8), ((cutP c [] l).length ≤ k + 1 → Lib.splitK [c] 0 k l = cutP c [] l) ∧ (k + 1 < (cutP c [] l).length → (Lib.splitK [c] 0 k l).length = k + 1)
  | 0, l => by
    rcases first_c c l with h | ⟨a, b, rfl, ha⟩
    · rw [cutP_none c l [] h]; simp [Lib.splitK]
    · rw [cutP_app c a [] b ha]
      have := cutP_len c b []
      exact ⟨fun h => absurd h (by simp only [List.length_cons]; omega), fun _ => rfl⟩
  | k + 1, l => by
    rcases first_c c l with h | ⟨a, b, rfl, ha⟩
    · rw [cutP_none c l [] h]
      unfold Lib.splitK
      rw [index_none c l h]; simp
    · rw [cutP_app c a [] b ha]
      have ih := splitK_cut c k b
      have e : Lib.splitK [c] 0 (k + 1) (a ++ c :: b) = a :: Lib.splitK [c] 0 k b := by
        rw [Lib.splitK, index_at c a b ha, if_neg (by simp <;> omega)]
        simp
      rw [e]
      simp only [List.nil_append, List.length_cons]
      refine ⟨fun h => by rw [ih.1 (by omega)], fun h => by rw [ih.2 (by omega)]⟩
theorem splitN_len (c : UInt8) (l : List UInt8) (m : Nat) : (Lib.splitN l [c] (m + 1)).length = m ↔ (cutP c [] l).length = m := by
  have h1 := cutP_len c l []
  have h := splitK_cut c (min (m + 1) (l.length + 1) - 1) l
  unfold Lib.splitN
  rcases Nat.lt_or_ge (min (m + 1) (l.length + 1) - 1 + 1) (cutP c [] l).length with h2 | h2
  · rw [h.2 h2]; omega
  · rw [h.1 h2]
theorem splitN_eq (c : UInt8) (l : List UInt8) (m : Nat) (hm : (cutP c [] l).length = m) : Lib.splitN l [c] (m + 1) = cutP c [] l := by
  have h1 := cutP_len c l []
  have h := splitK_cut c (min (m + 1) (l.length + 1) - 1) l
  unfold Lib.splitN
  exact h.1 (by omega)
theorem cut_join (c : UInt8) : ∀ (L : List (List UInt8)), L ≠ [] → (∀ x ∈ L, ∀ b ∈ x, b ≠ c) → cutP c [] (Lib.join L [c]) = L
  | [], h, _ => absurd rfl h
  | [a], _, h => by
    rw [Lib.join_one, cutP_none c a [] (h a (by simp))]; simp
  | a :: b :: r, _, h => by
    have ih := cut_join c (b :: r) (by simp) (fun x hx => h x (by simp [hx]))
    have e : Lib.join (a :: b :: r) [c] = a ++ c :: Lib.join (b :: r) [c] := by simp [Lib.join, List.intercalate, List.intersperse]
    rw [e, cutP_app c a [] _ (h a (by simp)), ih]; simp
/-- so many numbers with a sign between -/
def numsK (c : UInt8) (m : Nat) (t : List UInt8) : Option (List Int) := if (cutP c [] t).length = m ∧ (cutP c [] t).all numOk = true then some ((cutP c [] t).map atoiV) else none
theorem nums_back {c : UInt8} (h45 : c ≠ 45) (hc : c.toNat < 48 ∨ 57 < c.toNat) {N : List Int} (h0 : N ≠ []) (hN : ∀ n ∈ N, -999999999999999999 ≤ n ∧ n ≤ 999999999999999999) : numsK c N.length (Lib.join (N.map Lib.itoa) [c]) = some N := by
  have h := cut_join c (N.map Lib.itoa) (by simpa using h0) (fun x hx b hb => by
    obtain ⟨n, _, rfl⟩ := List.mem_map.1 hx
    exact itoa_ne h45 hc b hb)
  unfold numsK
  rw [h, if_pos ⟨by simp, List.all_eq_true.2 fun x hx => by
    obtain ⟨n, hn, rfl⟩ := List.mem_map.1 hx
    exact (num_back (hN n hn).1 (hN n hn).2).1⟩, List.map_map]
  congr 1
  exact (List.map_congr_left fun n hn => (num_back (hN n hn).1 (hN n hn).2).2).trans (List.map_id' N)
end Go.Vw
