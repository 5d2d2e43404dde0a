/- Vw28: a part of a tool for walks: what a piece of a Go program does, by abstract values. It holds of every program; no condition. -/
import Derived.Test.YtopkjoalbinljaaDoorV27
import Derived.Lib.AtoiAll
import Derived.Lib.AtoiTie
import Derived.Lib.Strings
set_option linter.unusedVariables false
set_option linter.unusedSimpArgs false
set_option linter.unusedSectionVars false
namespace Go.Vw
open Go

/-- Digits; keys of data. -/
def dig (b : UInt8) : Bool := decide (48 ≤ b.toNat ∧ b.toNat ≤ 57)
def numB : Nat → List UInt8 → Nat
  | n, [] => n
  | n, c :: r => numB (n * 10 + (c.toNat - 48)) r
def d1 (n : Nat) : UInt8 := UInt8.ofNat (48 + n % 10)
def six6 (n : Nat) : List UInt8 := [d1 (n / 100000), d1 (n / 10000), d1 (n / 1000), d1 (n / 100), d1 (n / 10), d1 n]
theorem six6_len (n : Nat) : (six6 n).length = 6 := rfl
theorem d1_toNat (n : Nat) : (d1 n).toNat = 48 + n % 10 := by
  unfold d1
  have : 48 + n % 10 < 256 := by omega
  simp [Nat.mod_eq_of_lt this]
theorem d1_dig (n : Nat) : dig (d1 n) = true := by unfold dig; rw [d1_toNat]; simp; omega
theorem six6_dig (n : Nat) : (six6 n).all dig = true := by simp [six6, d1_dig]
theorem dig_d1 {c : UInt8} (h : dig c = true) : ∃ k, k < 10 ∧ c.toNat = 48 + k ∧ ∀ n, n % 10 = k → d1 n = c := by
  have h' : 48 ≤ c.toNat ∧ c.toNat ≤ 57 := of_decide_eq_true h
  refine ⟨c.toNat - 48, by omega, by omega, fun n hn => ?_⟩
  apply UInt8.toNat_inj.1
  rw [d1_toNat]; omega
theorem numB_six (a b c d e f : UInt8) : numB 0 [a, b, c, d, e, f] = ((((((0 * 10 + (a.toNat - 48)) * 10 + (b.toNat - 48)) * 10 + (c.toNat - 48)) * 10 + (d.toNat - 48)) * 10 + (e.toNat - 48)) * 10 + (f.toNat - 48)) := rfl
theorem six_of (a b c d e f : Nat) (h : a < 10 ∧ b < 10 ∧ c < 10 ∧ d < 10 ∧ e < 10 ∧ f < 10) (n : Nat) (hn : n = ((((((0 * 10 + a) * 10 + b) * 10 + c) * 10 + d) * 10 + e) * 10 + f)) :
    n ≤ 999999 ∧ (n / 100000) % 10 = a ∧ (n / 10000) % 10 = b ∧ (n / 1000) % 10 = c ∧ (n / 100) % 10 = d ∧ (n / 10) % 10 = e ∧ n % 10 = f := by omega
theorem six6_numB {l : List UInt8} (hl : l.length = 6) (hd : l.all dig = true) : numB 0 l ≤ 999999 ∧ six6 (numB 0 l) = l := by
  match l, hl with
  | [a, b, c, d, e, f], _ =>
    simp only [List.all_cons, List.all_nil, Bool.and_true, Bool.and_eq_true] at hd
    obtain ⟨ha, hb, hc, hd, he, hf⟩ := hd
    obtain ⟨k1, b1, e1, f1⟩ := dig_d1 ha
    obtain ⟨k2, b2, e2, f2⟩ := dig_d1 hb
    obtain ⟨k3, b3, e3, f3⟩ := dig_d1 hc
    obtain ⟨k4, b4, e4, f4⟩ := dig_d1 hd
    obtain ⟨k5, b5, e5, f5⟩ := dig_d1 he
    obtain ⟨k6, b6, e6, f6⟩ := dig_d1 hf
    have t : ∀ {x : UInt8} {k : Nat}, x.toNat = 48 + k → x.toNat - 48 = k := fun h => by omega
    have hn : numB 0 [a, b, c, d, e, f] = ((((((0 * 10 + k1) * 10 + k2) * 10 + k3) * 10 + k4) * 10 + k5) * 10 + k6) := by
      rw [numB_six, t e1, t e2, t e3, t e4, t e5, t e6]
    have hh := six_of k1 k2 k3 k4 k5 k6 ⟨b1, b2, b3, b4, b5, b6⟩ _ hn
    generalize numB 0 [a, b, c, d, e, f] = n at hh
    obtain ⟨g0, g1, g2, g3, g4, g5, g6⟩ := hh
    refine ⟨g0, ?_⟩
    unfold six6
    rw [f1 _ g1, f2 _ g2, f3 _ g3, f4 _ g4, f5 _ g5, f6 _ g6]
theorem six_back (n : Nat) (h : n ≤ 999999) : ((((((0 * 10 + n / 100000 % 10) * 10 + n / 10000 % 10) * 10 + n / 1000 % 10) * 10 + n / 100 % 10) * 10 + n / 10 % 10) * 10 + n % 10) = n := by omega
theorem numB_six6 {n : Nat} (h : n ≤ 999999) : numB 0 (six6 n) = n := by
  have t : ∀ m, (d1 m).toNat - 48 = m % 10 := fun m => by rw [d1_toNat]; omega
  rw [six6, numB_six, t, t, t, t, t, t, six_back n h]
theorem six6_inj {n m : Nat} (hn : n ≤ 999999) (hm : m ≤ 999999) (h : six6 n = six6 m) : n = m := by
  rw [← numB_six6 hn, ← numB_six6 hm, h]

theorem dd_base {u : Nat} (h : u < 10) : Lib.decDigits u = [d1 u] := by
  rw [Lib.decDigits, dif_pos h]; unfold d1; rw [Nat.mod_eq_of_lt h]
theorem dd_step {u : Nat} (h : ¬ u < 10) : Lib.decDigits u = Lib.decDigits (u / 10) ++ [d1 u] := by
  rw [Lib.decDigits, dif_neg h]; rfl
theorem d1_congr {a b : Nat} (h : a % 10 = b % 10) : d1 a = d1 b := by unfold d1; rw [h]
theorem itoa_million {n : Nat} (h : n ≤ 999999) : Lib.itoa (1000000 + (n : Int)) = 49 :: six6 n := by
  have e : (1000000 + (n : Int)) = ((1000000 + n : Nat) : Int) := by omega
  rw [e, Lib.itoa_nonneg, dd_step (by omega), dd_step (by omega), dd_step (by omega), dd_step (by omega), dd_step (by omega), dd_step (by omega), dd_base (by omega)]
  simp only [List.cons_append, List.nil_append, six6]
  congr 1
  · have : (1000000 + n) / 10 / 10 / 10 / 10 / 10 / 10 = 1 := by omega
    rw [this]; rfl
  · rw [d1_congr (show (1000000 + n) / 10 / 10 / 10 / 10 / 10 % 10 = n / 100000 % 10 by omega), d1_congr (show (1000000 + n) / 10 / 10 / 10 / 10 % 10 = n / 10000 % 10 by omega),
      d1_congr (show (1000000 + n) / 10 / 10 / 10 % 10 = n / 1000 % 10 by omega), d1_congr (show (1000000 + n) / 10 / 10 % 10 = n / 100 % 10 by omega), d1_congr (show (1000000 + n) / 10 % 10 = n / 10 % 10 by omega), d1_congr (show (1000000 + n) % 10 = n % 10 by omega)]
def pad6 (l : List UInt8) : List UInt8 := List.replicate (6 - l.length) 48 ++ l
theorem d1_zero {n : Nat} (h : n % 10 = 0) : d1 n = 48 := by unfold d1; rw [h]; rfl
theorem pad6_dd {n : Nat} (h : n ≤ 999999) : pad6 (Lib.decDigits n) = six6 n := by
  unfold pad6 six6
  by_cases h1 : n < 10
  · rw [dd_base h1, d1_zero (n := n / 100000) (by omega), d1_zero (n := n / 10000) (by omega), d1_zero (n := n / 1000) (by omega), d1_zero (n := n / 100) (by omega), d1_zero (n := n / 10) (by omega)]; rfl
  rw [dd_step h1]
  by_cases h2 : n / 10 < 10
  · rw [dd_base h2, d1_zero (n := n / 100000) (by omega), d1_zero (n := n / 10000) (by omega), d1_zero (n := n / 1000) (by omega), d1_zero (n := n / 100) (by omega)]; rfl
  rw [dd_step h2]
  by_cases h3 : n / 10 / 10 < 10
  · rw [dd_base h3, d1_zero (n := n / 100000) (by omega), d1_zero (n := n / 10000) (by omega), d1_zero (n := n / 1000) (by omega), d1_congr (a := n / 10 / 10) (b := n / 100) (by omega)]; rfl
  rw [dd_step h3]
  by_cases h4 : n / 10 / 10 / 10 < 10
  · rw [dd_base h4, d1_zero (n := n / 100000) (by omega), d1_zero (n := n / 10000) (by omega), d1_congr (a := n / 10 / 10 / 10) (b := n / 1000) (by omega), d1_congr (a := n / 10 / 10) (b := n / 100) (by omega)]; rfl
  rw [dd_step h4]
  by_cases h5 : n / 10 / 10 / 10 / 10 < 10
  · rw [dd_base h5, d1_zero (n := n / 100000) (by omega), d1_congr (a := n / 10 / 10 / 10 / 10) (b := n / 10000) (by omega), d1_congr (a := n / 10 / 10 / 10) (b := n / 1000) (by omega), d1_congr (a := n / 10 / 10) (b := n / 100) (by omega)]; rfl
  rw [dd_step h5, dd_base (u := n / 10 / 10 / 10 / 10 / 10) (by omega), d1_congr (a := n / 10 / 10 / 10 / 10 / 10) (b := n / 100000) (by omega), d1_congr (a := n / 10 / 10 / 10 / 10) (b := n / 10000) (by omega), d1_congr (a := n / 10 / 10 / 10) (b := n / 1000) (by omega), d1_congr (a := n / 10 / 10) (b := n / 100) (by omega)]
  rfl

/-- What Atoi tells. -/
def atoiV (l : List UInt8) : Int := match Lib.atoiAll l with | .ok v => v | .syntax => 0 | .range => Lib.atoiSat l
def atoiOk (l : List UInt8) : Bool := match Lib.atoiAll l with | .ok _ => true | _ => false
theorem decFrom_dig : ∀ (l : List UInt8) (n : Nat), l.all dig = true → Lib.decFrom n l = some (numB n l)
  | [], n, _ => rfl
  | c :: r, n, h => by
    simp only [List.all_cons, Bool.and_eq_true] at h
    have h' : 48 ≤ c.toNat ∧ c.toNat ≤ 57 := of_decide_eq_true h.1
    unfold Lib.decFrom
    rw [show Lib.digitVal c = some (c.toNat - 48) by unfold Lib.digitVal; rw [if_pos h']]
    exact decFrom_dig r _ h.2
theorem atoi_dig {l : List UInt8} (h0 : l ≠ []) (hl : l.length ≤ 18) (hd : l.all dig = true) : Lib.atoiAll l = .ok (numB 0 l : Int) := by
  rw [Lib.atoiAll_short l hl]
  match l, h0 with
  | b :: r, _ =>
    have hb : 48 ≤ b.toNat ∧ b.toNat ≤ 57 := by
      simp only [List.all_cons, Bool.and_eq_true] at hd
      exact of_decide_eq_true hd.1
    have h45 : (b == 45) = false := by
      rw [beq_eq_false_iff_ne]; intro e; subst e; exact absurd hb.1 (by decide)
    have h43 : (b == 43) = false := by
      rw [beq_eq_false_iff_ne]; intro e; subst e; exact absurd hb.1 (by decide)
    have e : Lib.atoi (b :: r) = (Lib.decNat (b :: r)).map fun (m : Nat) => (m : Int) := by
      show (if (b == 45) = true then _ else if (b == 43) = true then _ else _) = _
      rw [h45, h43]; rfl
    have e2 : Lib.decNat (b :: r) = some (numB 0 (b :: r)) := decFrom_dig _ _ hd
    rw [e, e2]
    rfl

/-- keys of data -/
def pre : Nat → List UInt8
  | 0 => [114, 97, 119, 47]
  | 1 => [116, 49, 47]
  | _ => [116, 50, 47]
def keyB (t n w : Nat) : List UInt8 := pre t ++ (six6 n ++ 45 :: six6 w)
def restK (t : Nat) (r : List UInt8) : Option (Nat × Nat × Nat) :=
  if r.length = 13 ∧ ix r 6 = 45 ∧ (r.take 6).all dig = true ∧ (r.drop 7).all dig = true then some (t, numB 0 (r.take 6), numB 0 (r.drop 7)) else none
def tryK (j : Nat) (key : List UInt8) : Option (Nat × Nat × Nat) := if Lib.hasPrefix key (pre j) = true then restK j (key.drop (pre j).length) else none
def parseKey (key : List UInt8) : Option (Nat × Nat × Nat) :=
  match tryK 0 key with | some q => some q | none => match tryK 1 key with | some q => some q | none => tryK 2 key
theorem hasPrefix_app {p k : List UInt8} (h : Lib.hasPrefix k p = true) : k = p ++ k.drop p.length := by
  unfold Lib.hasPrefix at h
  have := List.isPrefixOf_iff_prefix.1 h
  obtain ⟨t, rfl⟩ := this
  simp
theorem restK_some {t : Nat} {r : List UInt8} {q : Nat × Nat × Nat} (h : restK t r = some q) : q.1 = t ∧ q.2.1 ≤ 999999 ∧ q.2.2 ≤ 999999 ∧ r = six6 q.2.1 ++ 45 :: six6 q.2.2 := by
  unfold restK at h
  split at h
  · rename_i hc
    obtain ⟨h1, h2, h3, h4⟩ := hc
    cases h
    have a := six6_numB (l := r.take 6) (by simp; omega) h3
    have b := six6_numB (l := r.drop 7) (by simp; omega) h4
    refine ⟨rfl, a.1, b.1, ?_⟩
    simp only
    rw [a.2, b.2]
    have e : r.drop 6 = 45 :: r.drop 7 := by rw [drop_ix (by omega), h2]
    rw [← e, List.take_append_drop]
  · cases h
theorem tryK_some {j : Nat} {k : List UInt8} {q : Nat × Nat × Nat} (h : tryK j k = some q) : q.1 = j ∧ k = keyB j q.2.1 q.2.2 ∧ q.2.1 ≤ 999999 ∧ q.2.2 ≤ 999999 := by
  unfold tryK at h
  split at h
  · rename_i h0
    obtain ⟨e1, e2, e3, e4⟩ := restK_some h
    refine ⟨e1, ?_, e2, e3⟩
    rw [hasPrefix_app h0, e4]; rfl
  · cases h
theorem key_parse {k : List UInt8} {t n w : Nat} (h : parseKey k = some (t, n, w)) : k = keyB t n w ∧ t ≤ 2 ∧ n ≤ 999999 ∧ w ≤ 999999 := by
  unfold parseKey at h
  split at h
  · rename_i h0
    cases h
    obtain ⟨e1, e2, e3, e4⟩ := tryK_some h0
    simp only at e1 e2 e3 e4; subst e1
    exact ⟨e2, by omega, e3, e4⟩
  split at h
  · rename_i h0
    cases h
    obtain ⟨e1, e2, e3, e4⟩ := tryK_some h0
    simp only at e1 e2 e3 e4; subst e1
    exact ⟨e2, by omega, e3, e4⟩
  · obtain ⟨e1, e2, e3, e4⟩ := tryK_some h
    simp only at e1 e2 e3 e4; subst e1
    exact ⟨e2, by omega, e3, e4⟩
theorem restK_six {t n w : Nat} (hn : n ≤ 999999) (hw : w ≤ 999999) : restK t (six6 n ++ 45 :: six6 w) = some (t, n, w) := by
  have h1 : (six6 n ++ 45 :: six6 w).length = 13 := rfl
  have h2 : ix (six6 n ++ 45 :: six6 w) 6 = 45 := rfl
  have h3 : (six6 n ++ 45 :: six6 w).take 6 = six6 n := rfl
  have h4 : (six6 n ++ 45 :: six6 w).drop 7 = six6 w := rfl
  unfold restK
  rw [h3, h4, if_pos ⟨h1, h2, six6_dig n, six6_dig w⟩, numB_six6 hn, numB_six6 hw]
theorem tryK_key {t j n w : Nat} (ht : t ≤ 2) (hj : j ≤ 2) (hn : n ≤ 999999) (hw : w ≤ 999999) : tryK j (keyB t n w) = if t = j then some (t, n, w) else none := by
  have h : t = 0 ∨ t = 1 ∨ t = 2 := by omega
  have h' : j = 0 ∨ j = 1 ∨ j = 2 := by omega
  have e4 : ∀ (a b c d : UInt8) (x : List UInt8), ([a, b, c, d] ++ x).drop 4 = x := fun a b c d x => rfl
  have e3 : ∀ (a b c : UInt8) (x : List UInt8), ([a, b, c] ++ x).drop 3 = x := fun a b c x => rfl
  unfold tryK keyB
  rcases h with rfl | rfl | rfl <;> rcases h' with rfl | rfl | rfl <;>
    first
    | (rw [if_neg (by simp [Lib.hasPrefix, pre])]; rfl)
    | (rw [if_pos (by simp [Lib.hasPrefix, pre]), if_pos rfl, ← restK_six hn hw]; rfl)
theorem parse_key {t n w : Nat} (ht : t ≤ 2) (hn : n ≤ 999999) (hw : w ≤ 999999) : parseKey (keyB t n w) = some (t, n, w) := by
  have h : t = 0 ∨ t = 1 ∨ t = 2 := by omega
  unfold parseKey
  rw [tryK_key ht (by omega) hn hw, tryK_key ht (by omega) hn hw, tryK_key ht (by omega) hn hw]
  rcases h with rfl | rfl | rfl <;> rfl
theorem parse_none {k : List UInt8} (h : ∀ j, j < 3 → tryK j k = none) : parseKey k = none := by
  unfold parseKey; rw [h 0 (by omega), h 1 (by omega), h 2 (by omega)]
theorem tryK_none {j : Nat} {k : List UInt8} (h : parseKey k = none) : j < 3 → tryK j k = none := by
  intro hj
  cases e : tryK j k with
  | none => rfl
  | some q =>
    obtain ⟨e1, e2, e3, e4⟩ := tryK_some e
    rw [e2, parse_key (by omega) e3 e4] at h; cases h
theorem tryK_parse {j : Nat} (hj : j < 3) {k : List UInt8} {q : Nat × Nat × Nat} (h : tryK j k = some q) : parseKey k = some (j, q.2.1, q.2.2) := by
  obtain ⟨e1, e2, e3, e4⟩ := tryK_some h
  rw [e2, parse_key (by omega) e3 e4]
theorem B_toList (a : List UInt8) : (B a).toList = a := by rw [Go.ByteArray.toList_eq, B_data]
theorem B_eq {a b : List UInt8} : ((B a).toList == (B b).toList) = decide (a = b) := by rw [B_toList, B_toList]; by_cases h : a = b <;> simp [h]
theorem B_extract (l : List UInt8) (a b : Nat) : (B l).extract a b = B ((l.drop a).take (b - a)) := by
  apply ByteArray.ext; rw [ByteArray.data_extract]; simp [B]
/-- the fields that a key tells; none: nothing -/
def kT (k : List UInt8) : Int := match parseKey k with | some q => q.1 | none => 0
def kN (k : List UInt8) : Int := match parseKey k with | some q => q.2.1 | none => 0
def kW (k : List UInt8) : Int := match parseKey k with | some q => q.2.2 | none => 0
def kOk (k : List UInt8) : Bool := (parseKey k).isSome
/-- a list cut at a sign -/
def cutP (c : UInt8) : List UInt8 → List UInt8 → List (List UInt8)
  | cur, [] => [cur]
  | cur, x :: r => if x = c then cur :: cutP c [] r else cutP c (cur ++ [x]) r
theorem cutP_ne (c : UInt8) : ∀ (l cur : List UInt8), cutP c cur l ≠ []
  | [], _ => by simp [cutP]
  | x :: r, cur => by
    unfold cutP; split
    · simp
    · exact cutP_ne c r _
theorem cutP_none (c : UInt8) : ∀ (l cur : List UInt8), (∀ x ∈ l, x ≠ c) → cutP c cur l = [cur ++ l]
  | [], cur, _ => by simp [cutP]
  | x :: r, cur, h => by
    unfold cutP; rw [if_neg (h x (by simp)), cutP_none c r _ (fun y hy => h y (by simp [hy]))]; simp
theorem cutP_app (c : UInt8) : ∀ (a cur b : List UInt8), (∀ x ∈ a, x ≠ c) → cutP c cur (a ++ c :: b) = (cur ++ a) :: cutP c [] b
  | [], cur, b, _ => by simp [cutP]
  | x :: r, cur, b, h => by
    have : cutP c cur (x :: (r ++ c :: b)) = if x = c then cur :: cutP c [] (r ++ c :: b) else cutP c (cur ++ [x]) (r ++ c :: b) := rfl
    rw [List.cons_append, this, if_neg (h x (by simp)), cutP_app c r _ b (fun y hy => h y (by simp [hy]))]; simp
theorem dig_ne {x c : UInt8} (h : dig x = true) (hc : c.toNat < 48 ∨ 57 < c.toNat) : x ≠ c := by
  have := of_decide_eq_true h
  intro e; subst e; omega
theorem six6_ne {n : Nat} {c : UInt8} (hc : c.toNat < 48 ∨ 57 < c.toNat) : ∀ x ∈ six6 n, x ≠ c := fun x hx => dig_ne (List.all_eq_true.1 (six6_dig n) x hx) hc
def preW : Nat → List UInt8
  | 0 => [114, 97, 119]
  | 1 => [116, 49]
  | _ => [116, 50]
theorem cut_key {t n w : Nat} (ht : t ≤ 2) : cutP 47 [] (keyB t n w) = [preW t, six6 n ++ 45 :: six6 w] := by
  have h : t = 0 ∨ t = 1 ∨ t = 2 := by omega
  have e : keyB t n w = preW t ++ 47 :: (six6 n ++ 45 :: six6 w) := by
    rcases h with rfl | rfl | rfl <;> rfl
  rw [e, cutP_app _ _ _ _ (by rcases h with rfl | rfl | rfl <;> decide), cutP_none _ _ _ ?_]; · rfl
  intro x hx
  simp only [List.mem_append, List.mem_cons] at hx
  rcases hx with hx | rfl | hx
  · exact six6_ne (by decide) x hx
  · decide
  · exact six6_ne (by decide) x hx
end Go.Vw
