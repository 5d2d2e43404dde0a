/- V33: a part of a tool for walks: what a piece of a Go program does, by abstract values. It holds of every program; no condition. -/
import Derived.Test.YtopkjoalbinljaaGreatDoorV27
import Derived.Lib.AtoiAll
import Derived.Lib.AtoiTie
import Derived.Lib.Strings
import Derived.Lib.Split
import Derived.Lib.Join
set_option linter.unusedVariables false
set_option linter.unusedSimpArgs false
set_option linter.unusedSectionVars false

namespace Go.Vw
open Go

/-- Digits; keys of data. -/
def dig (b : UInt8) : Bool := decide (48 ≤ b.toNat ∧ b.toNat ≤ 57)
def numB : Nat → List UInt8 → Nat
  | n, [] => n
  | n, c :: r => numB (n * 10 + (c.toNat - 48)) r
def d1 (n : Nat) : UInt8 := UInt8.ofNat (48 + n % 10)
def six6 (n : Nat) : List UInt8 := [d1 (n / 100000), d1 (n / 10000), d1 (n / 1000), d1 (n / 100), d1 (n / 10), d1 n]
theorem six6_len (n : Nat) : (six6 n).length = 6 := rfl
theorem d1_toNat (n : Nat) : (d1 n).toNat = 48 + n % 10 := by
  unfold d1
  have : 48 + n % 10 < 256 := by omega
  simp [Nat.mod_eq_of_lt this]
theorem d1_dig (n : Nat) : dig (d1 n) = true := by unfold dig; rw [d1_toNat]; simp; omega
theorem six6_dig (n : Nat) : (six6 n).all dig = true := by simp [six6, d1_dig]
theorem dig_d1 {c : UInt8} (h : dig c = true) : ∃ k, k < 10 ∧ c.toNat = 48 + k ∧ ∀ n, n % 10 = k → d1 n = c := by
  have h' : 48 ≤ c.toNat ∧ c.toNat ≤ 57 := of_decide_eq_true h
  refine ⟨c.toNat - 48, by omega, by omega, fun n hn => ?_⟩
  apply UInt8.toNat_inj.1
  rw [d1_toNat]; omega
theorem numB_six (a b c d e f : UInt8) : numB 0 [a, b, c, d, e, f] = ((((((0 * 10 + (a.toNat - 48)) * 10 + (b.toNat - 48)) * 10 + (c.toNat - 48)) * 10 + (d.toNat - 48)) * 10 + (e.toNat - 48)) * 10 + (f.toNat - 48)) := rfl
theorem six_of (a b c d e f : Nat) (h : a < 10 ∧ b < 10 ∧ c < 10 ∧ d < 10 ∧ e < 10 ∧ f < 10) (n : Nat) (hn : n = ((((((0 * 10 + a) * 10 + b) * 10 + c) * 10 + d) * 10 + e) * 10 + f)) :
    n ≤ 999999 ∧ (n / 100000) % 10 = a ∧ (n / 10000) % 10 = b ∧ (n / 1000) % 10 = c ∧ (n / 100) % 10 = d ∧ (n / 10) % 10 = e ∧ n % 10 = f := by omega
theorem six6_numB {l : List UInt8} (hl : l.length = 6) (hd : l.all dig = true) : numB 0 l ≤ 999999 ∧ six6 (numB 0 l) = l := by
  match l, hl with
  | [a, b, c, d, e, f], _ =>
    simp only [List.all_cons, List.all_nil, Bool.and_true, Bool.and_eq_true] at hd
    obtain ⟨ha, hb, hc, hd, he, hf⟩ := hd
    obtain ⟨k1, b1, e1, f1⟩ := dig_d1 ha
    obtain ⟨k2, b2, e2, f2⟩ := dig_d1 hb
    obtain ⟨k3, b3, e3, f3⟩ := dig_d1 hc
    obtain ⟨k4, b4, e4, f4⟩ := dig_d1 hd
    obtain ⟨k5, b5, e5, f5⟩ := dig_d1 he
    obtain ⟨k6, b6, e6, f6⟩ := dig_d1 hf
    have t : ∀ {x : UInt8} {k : Nat}, x.toNat = 48 + k → x.toNat - 48 = k := fun h => by omega
    have hn : numB 0 [a, b, c, d, e, f] = ((((((0 * 10 + k1) * 10 + k2) * 10 + k3) * 10 + k4) * 10 + k5) * 10 + k6) := by
      rw [numB_six, t e1, t e2, t e3, t e4, t e5, t e6]
    have hh := six_of k1 k2 k3 k4 k5 k6 ⟨b1, b2, b3, b4, b5, b6⟩ _ hn
    generalize numB 0 [a, b, c, d, e, f] = n at hh
    obtain ⟨g0, g1, g2, g3, g4, g5, g6⟩ := hh
    refine ⟨g0, ?_⟩
    unfold six6
    rw [f1 _ g1, f2 _ g2, f3 _ g3, f4 _ g4, f5 _ g5, f6 _ g6]
theorem six_back (n : Nat) (h : n ≤ 999999) : ((((((0 * 10 + n / 100000 % 10) * 10 + n / 10000 % 10) * 10 + n / 1000 % 10) * 10 + n / 100 % 10) * 10 + n / 10 % 10) * 10 + n % 10) = n := by omega
theorem numB_six6 {n : Nat} (h : n ≤ 999999) : numB 0 (six6 n) = n := by
  have t : ∀ m, (d1 m).toNat - 48 = m % 10 := fun m => by rw [d1_toNat]; omega
  rw [six6, numB_six, t, t, t, t, t, t, six_back n h]
theorem six6_inj {n m : Nat} (hn : n ≤ 999999) (hm : m ≤ 999999) (h : six6 n = six6 m) : n = m := by
  rw [← numB_six6 hn, ← numB_six6 hm, h]

theorem dd_base {u : Nat} (h : u < 10) : Lib.decDigits u = [d1 u] := by
  rw [Lib.decDigits, dif_pos h]; unfold d1; rw [Nat.mod_eq_of_lt h]
theorem dd_step {u : Nat} (h : ¬ u < 10) : Lib.decDigits u = Lib.decDigits (u / 10) ++ [d1 u] := by
  rw [Lib.decDigits, dif_neg h]; rfl
theorem d1_congr {a b : Nat} (h : a % 10 = b % 10) : d1 a = d1 b := by unfold d1; rw [h]
theorem itoa_million {n : Nat} (h : n ≤ 999999) : Lib.itoa (1000000 + (n : Int)) = 49 :: six6 n := by
  have e : (1000000 + (n : Int)) = ((1000000 + n : Nat) : Int) := by omega
  rw [e, Lib.itoa_nonneg, dd_step (by omega), dd_step (by omega), dd_step (by omega), dd_step (by omega), dd_step (by omega), dd_step (by omega), dd_base (by omega)]
  simp only [List.cons_append, List.nil_append, six6]
  congr 1
  · have : (1000000 + n) / 10 / 10 / 10 / 10 / 10 / 10 = 1 := by omega
    rw [this]; rfl
  · rw [d1_congr (show (1000000 + n) / 10 / 10 / 10 / 10 / 10 % 10 = n / 100000 % 10 by omega), d1_congr (show (1000000 + n) / 10 / 10 / 10 / 10 % 10 = n / 10000 % 10 by omega),
      d1_congr (show (1000000 + n) / 10 / 10 / 10 % 10 = n / 1000 % 10 by omega), d1_congr (show (1000000 + n) / 10 / 10 % 10 = n / 100 % 10 by omega), d1_congr (show (1000000 + n) / 10 % 10 = n / 10 % 10 by omega), d1_congr (show (1000000 + n) % 10 = n % 10 by omega)]
def pad6 (l : List UInt8) : List UInt8 := List.replicate (6 - l.length) 48 ++ l
theorem d1_zero {n : Nat} (h : n % 10 = 0) : d1 n = 48 := by unfold d1; rw [h]; rfl
theorem pad6_dd {n : Nat} (h : n ≤ 999999) : pad6 (Lib.decDigits n) = six6 n := by
  unfold pad6 six6
  by_cases h1 : n < 10
  · rw [dd_base h1, d1_zero (n := n / 100000) (by omega), d1_zero (n := n / 10000) (by omega), d1_zero (n := n / 1000) (by omega), d1_zero (n := n / 100) (by omega), d1_zero (n := n / 10) (by omega)]; rfl
  rw [dd_step h1]
  by_cases h2 : n / 10 < 10
  · rw [dd_base h2, d1_zero (n := n / 100000) (by omega), d1_zero (n := n / 10000) (by omega), d1_zero (n := n / 1000) (by omega), d1_zero (n := n / 100) (by omega)]; rfl
  rw [dd_step h2]
  by_cases h3 : n / 10 / 10 < 10
  · rw [dd_base h3, d1_zero (n := n / 100000) (by omega), d1_zero (n := n / 10000) (by omega), d1_zero (n := n / 1000) (by omega), d1_congr (a := n / 10 / 10) (b := n / 100) (by omega)]; rfl
  rw [dd_step h3]
  by_cases h4 : n / 10 / 10 / 10 < 10
  · rw [dd_base h4, d1_zero (n := n / 100000) (by omega), d1_zero (n := n / 10000) (by omega), d1_congr (a := n / 10 / 10 / 10) (b := n / 1000) (by omega), d1_congr (a := n / 10 / 10) (b := n / 100) (by omega)]; rfl
  rw [dd_step h4]
  by_cases h5 : n / 10 / 10 / 10 / 10 < 10
  · rw [dd_base h5, d1_zero (n := n / 100000) (by omega), d1_congr (a := n / 10 / 10 / 10 / 10) (b := n / 10000) (by omega), d1_congr (a := n / 10 / 10 / 10) (b := n / 1000) (by omega), d1_congr (a := n / 10 / 10) (b := n / 100) (by omega)]; rfl
  rw [dd_step h5, dd_base (u := n / 10 / 10 / 10 / 10 / 10) (by omega), d1_congr (a := n / 10 / 10 / 10 / 10 / 10) (b := n / 100000) (by omega), d1_congr (a := n / 10 / 10 / 10 / 10) (b := n / 10000) (by omega), d1_congr (a := n / 10 / 10 / 10) (b := n / 1000) (by omega), d1_congr (a := n / 10 / 10) (b := n / 100) (by omega)]
  rfl

/-- What Atoi tells. -/
def atoiV (l : List UInt8) : Int := match Lib.atoiAll l with | .ok v => v | .syntax => 0 | .range => Lib.atoiSat l
def atoiOk (l : List UInt8) : Bool := match Lib.atoiAll l with | .ok _ => true | _ => false
theorem decFrom_dig : ∀ (l : List UInt8) (n : Nat), l.all dig = true → Lib.decFrom n l = some (numB n l)
  | [], n, _ => rfl
  | c :: r, n, h => by
    simp only [List.all_cons, Bool.and_eq_true] at h
    have h' : 48 ≤ c.toNat ∧ c.toNat ≤ 57 := of_decide_eq_true h.1
    unfold Lib.decFrom
    rw [show Lib.digitVal c = some (c.toNat - 48) by unfold Lib.digitVal; rw [if_pos h']]
    exact decFrom_dig r _ h.2
theorem atoi_dig {l : List UInt8} (h0 : l ≠ []) (hl : l.length ≤ 18) (hd : l.all dig = true) : Lib.atoiAll l = .ok (numB 0 l : Int) := by
  rw [Lib.atoiAll_short l hl]
  match l, h0 with
  | b :: r, _ =>
    have hb : 48 ≤ b.toNat ∧ b.toNat ≤ 57 := by
      simp only [List.all_cons, Bool.and_eq_true] at hd
      exact of_decide_eq_true hd.1
    have h45 : (b == 45) = false := by
      rw [beq_eq_false_iff_ne]; intro e; subst e; exact absurd hb.1 (by decide)
    have h43 : (b == 43) = false := by
      rw [beq_eq_false_iff_ne]; intro e; subst e; exact absurd hb.1 (by decide)
    have e : Lib.atoi (b :: r) = (Lib.decNat (b :: r)).map fun (m : Nat) => (m : Int) := by
      show (if (b == 45) = true then _ else if (b == 43) = true then _ else _) = _
      rw [h45, h43]; rfl
    have e2 : Lib.decNat (b :: r) = some (numB 0 (b :: r)) := decFrom_dig _ _ hd
    rw [e, e2]
    rfl

/-- keys of data -/
def pre : Nat → List UInt8
  | 0 => [114, 97, 119, 47]
  | 1 => [116, 49, 47]
  | _ => [116, 50, 47]
def keyB (t n w : Nat) : List UInt8 := pre t ++ (six6 n ++ 45 :: six6 w)
def restK (t : Nat) (r : List UInt8) : Option (Nat × Nat × Nat) :=
  if r.length = 13 ∧ ix r 6 = 45 ∧ (r.take 6).all dig = true ∧ (r.drop 7).all dig = true then some (t, numB 0 (r.take 6), numB 0 (r.drop 7)) else none
def tryK (j : Nat) (key : List UInt8) : Option (Nat × Nat × Nat) := if Lib.hasPrefix key (pre j) = true then restK j (key.drop (pre j).length) else none
def parseKey (key : List UInt8) : Option (Nat × Nat × Nat) :=
  match tryK 0 key with | some q => some q | none => match tryK 1 key with | some q => some q | none => tryK 2 key
theorem hasPrefix_app {p k : List UInt8} (h : Lib.hasPrefix k p = true) : k = p ++ k.drop p.length := by
  unfold Lib.hasPrefix at h
  have := List.isPrefixOf_iff_prefix.1 h
  obtain ⟨t, rfl⟩ := this
  simp
theorem restK_some {t : Nat} {r : List UInt8} {q : Nat × Nat × Nat} (h : restK t r = some q) : q.1 = t ∧ q.2.1 ≤ 999999 ∧ q.2.2 ≤ 999999 ∧ r = six6 q.2.1 ++ 45 :: six6 q.2.2 := by
  unfold restK at h
  split at h
  · rename_i hc
    obtain ⟨h1, h2, h3, h4⟩ := hc
    cases h
    have a := six6_numB (l := r.take 6) (by simp; omega) h3
    have b := six6_numB (l := r.drop 7) (by simp; omega) h4
    refine ⟨rfl, a.1, b.1, ?_⟩
    simp only
    rw [a.2, b.2]
    have e : r.drop 6 = 45 :: r.drop 7 := by rw [drop_ix (by omega), h2]
    rw [← e, List.take_append_drop]
  · cases h
theorem tryK_some {j : Nat} {k : List UInt8} {q : Nat × Nat × Nat} (h : tryK j k = some q) : q.1 = j ∧ k = keyB j q.2.1 q.2.2 ∧ q.2.1 ≤ 999999 ∧ q.2.2 ≤ 999999 := by
  unfold tryK at h
  split at h
  · rename_i h0
    obtain ⟨e1, e2, e3, e4⟩ := restK_some h
    refine ⟨e1, ?_, e2, e3⟩
    rw [hasPrefix_app h0, e4]; rfl
  · cases h
theorem key_parse {k : List UInt8} {t n w : Nat} (h : parseKey k = some (t, n, w)) : k = keyB t n w ∧ t ≤ 2 ∧ n ≤ 999999 ∧ w ≤ 999999 := by
  unfold parseKey at h
  split at h
  · rename_i h0
    cases h
    obtain ⟨e1, e2, e3, e4⟩ := tryK_some h0
    simp only at e1 e2 e3 e4; subst e1
    exact ⟨e2, by omega, e3, e4⟩
  split at h
  · rename_i h0
    cases h
    obtain ⟨e1, e2, e3, e4⟩ := tryK_some h0
    simp only at e1 e2 e3 e4; subst e1
    exact ⟨e2, by omega, e3, e4⟩
  · obtain ⟨e1, e2, e3, e4⟩ := tryK_some h
    simp only at e1 e2 e3 e4; subst e1
    exact ⟨e2, by omega, e3, e4⟩
theorem restK_six {t n w : Nat} (hn : n ≤ 999999) (hw : w ≤ 999999) : restK t (six6 n ++ 45 :: six6 w) = some (t, n, w) := by
  have h1 : (six6 n ++ 45 :: six6 w).length = 13 := rfl
  have h2 : ix (six6 n ++ 45 :: six6 w) 6 = 45 := rfl
  have h3 : (six6 n ++ 45 :: six6 w).take 6 = six6 n := rfl
  have h4 : (six6 n ++ 45 :: six6 w).drop 7 = six6 w := rfl
  unfold restK
  rw [h3, h4, if_pos ⟨h1, h2, six6_dig n, six6_dig w⟩, numB_six6 hn, numB_six6 hw]
theorem tryK_key {t j n w : Nat} (ht : t ≤ 2) (hj : j ≤ 2) (hn : n ≤ 999999) (hw : w ≤ 999999) : tryK j (keyB t n w) = if t = j then some (t, n, w) else none := by
  have h : t = 0 ∨ t = 1 ∨ t = 2 := by omega
  have h' : j = 0 ∨ j = 1 ∨ j = 2 := by omega
  have e4 : ∀ (a b c d : UInt8) (x : List UInt8), ([a, b, c, d] ++ x).drop 4 = x := fun a b c d x => rfl
  have e3 : ∀ (a b c : UInt8) (x : List UInt8), ([a, b, c] ++ x).drop 3 = x := fun a b c x => rfl
  unfold tryK keyB
  rcases h with rfl | rfl | rfl <;> rcases h' with rfl | rfl | rfl <;>
    first
    | (rw [if_neg (by simp [Lib.hasPrefix, pre])]; rfl)
    | (rw [if_pos (by simp [Lib.hasPrefix, pre]), if_pos rfl, ← restK_six hn hw]; rfl)
theorem parse_key {t n w : Nat} (ht : t ≤ 2) (hn : n ≤ 999999) (hw : w ≤ 999999) : parseKey (keyB t n w) = some (t, n, w) := by
  have h : t = 0 ∨ t = 1 ∨ t = 2 := by omega
  unfold parseKey
  rw [tryK_key ht (by omega) hn hw, tryK_key ht (by omega) hn hw, tryK_key ht (by omega) hn hw]
  rcases h with rfl | rfl | rfl <;> rfl
theorem parse_none {k : List UInt8} (h : ∀ j, j < 3 → tryK j k = none) : parseKey k = none := by
  unfold parseKey; rw [h 0 (by omega), h 1 (by omega), h 2 (by omega)]
theorem tryK_none {j : Nat} {k : List UInt8} (h : parseKey k = none) : j < 3 → tryK j k = none := by
  intro hj
  cases e : tryK j k with
  | none => rfl
  | some q =>
    obtain ⟨e1, e2, e3, e4⟩ := tryK_some e
    rw [e2, parse_key (by omega) e3 e4] at h; cases h
theorem tryK_parse {j : Nat} (hj : j < 3) {k : List UInt8} {q : Nat × Nat × Nat} (h : tryK j k = some q) : parseKey k = some (j, q.2.1, q.2.2) := by
  obtain ⟨e1, e2, e3, e4⟩ := tryK_some h
  rw [e2, parse_key (by omega) e3 e4]
theorem B_toList (a : List UInt8) : (B a).toList = a := by rw [Go.ByteArray.toList_eq, B_data]
theorem B_eq {a b : List UInt8} : ((B a).toList == (B b).toList) = decide (a = b) := by rw [B_toList, B_toList]; by_cases h : a = b <;> simp [h]
theorem B_extract (l : List UInt8) (a b : Nat) : (B l).extract a b = B ((l.drop a).take (b - a)) := by
  apply ByteArray.ext; rw [ByteArray.data_extract]; simp [B]
/-- the fields that a key tells; none: nothing -/
def kT (k : List UInt8) : Int := match parseKey k with | some q => q.1 | none => 0
def kN (k : List UInt8) : Int := match parseKey k with | some q => q.2.1 | none => 0
def kW (k : List UInt8) : Int := match parseKey k with | some q => q.2.2 | none => 0
def kOk (k : List UInt8) : Bool := (parseKey k).isSome
/-- a list cut at a sign -/
def cutP (c : UInt8) : List UInt8 → List UInt8 → List (List UInt8)
  | cur, [] => [cur]
  | cur, x :: r => if x = c then cur :: cutP c [] r else cutP c (cur ++ [x]) r
theorem cutP_ne (c : UInt8) : ∀ (l cur : List UInt8), cutP c cur l ≠ []
  | [], _ => by simp [cutP]
  | x :: r, cur => by
    unfold cutP; split
    · simp
    · exact cutP_ne c r _
theorem cutP_none (c : UInt8) : ∀ (l cur : List UInt8), (∀ x ∈ l, x ≠ c) → cutP c cur l = [cur ++ l]
  | [], cur, _ => by simp [cutP]
  | x :: r, cur, h => by
    unfold cutP; rw [if_neg (h x (by simp)), cutP_none c r _ (fun y hy => h y (by simp [hy]))]; simp
theorem cutP_app (c : UInt8) : ∀ (a cur b : List UInt8), (∀ x ∈ a, x ≠ c) → cutP c cur (a ++ c :: b) = (cur ++ a) :: cutP c [] b
  | [], cur, b, _ => by simp [cutP]
  | x :: r, cur, b, h => by
    have : cutP c cur (x :: (r ++ c :: b)) = if x = c then cur :: cutP c [] (r ++ c :: b) else cutP c (cur ++ [x]) (r ++ c :: b) := rfl
    rw [List.cons_append, this, if_neg (h x (by simp)), cutP_app c r _ b (fun y hy => h y (by simp [hy]))]; simp
theorem dig_ne {x c : UInt8} (h : dig x = true) (hc : c.toNat < 48 ∨ 57 < c.toNat) : x ≠ c := by
  have := of_decide_eq_true h
  intro e; subst e; omega
theorem six6_ne {n : Nat} {c : UInt8} (hc : c.toNat < 48 ∨ 57 < c.toNat) : ∀ x ∈ six6 n, x ≠ c := fun x hx => dig_ne (List.all_eq_true.1 (six6_dig n) x hx) hc
def preW : Nat → List UInt8
  | 0 => [114, 97, 119]
  | 1 => [116, 49]
  | _ => [116, 50]
theorem cut_key {t n w : Nat} (ht : t ≤ 2) : cutP 47 [] (keyB t n w) = [preW t, six6 n ++ 45 :: six6 w] := by
  have h : t = 0 ∨ t = 1 ∨ t = 2 := by omega
  have e : keyB t n w = preW t ++ 47 :: (six6 n ++ 45 :: six6 w) := by
    rcases h with rfl | rfl | rfl <;> rfl
  rw [e, cutP_app _ _ _ _ (by rcases h with rfl | rfl | rfl <;> decide), cutP_none _ _ _ ?_]; · rfl
  intro x hx
  simp only [List.mem_append, List.mem_cons] at hx
  rcases hx with hx | rfl | hx
  · exact six6_ne (by decide) x hx
  · decide
  · exact six6_ne (by decide) x hx
end Go.Vw

namespace Go.Vw
open Go

/-- Tables, one beside the other. -/
@[reducible] def Tabs.and {P : Program} (A B : Tabs P) : Tabs P where
  tab := fun b => A.tab b ∨ B.tab b
  J := fun w => A.J w ∧ B.J w
  lt := fun w b h e => e.elim (A.lt w b h.1) (B.lt w b h.2)
  stay := fun w w' h hs => ⟨A.stay w w' h.1 fun b hb => hs b (.inl hb), B.stay w w' h.2 fun b hb => hs b (.inr hb)⟩
/-- A package's variable that holds an error. -/
def HasErr (P : Program) (name : String) (w : World) : Prop := ∃ tp p, w.var? P name = some #[.iface tp p]
@[reducible] def Tabs.err {P : Program} (g : Nat) (name : String) (hg : P.globalNamed name = some g) : Tabs P where
  tab := fun b => b = g
  J := fun w => HasErr P name w
  lt := fun w b h e => by
    subst e
    obtain ⟨tp, p, h⟩ := h
    unfold World.var? at h
    rw [hg] at h
    simp only [Option.bind_some] at h
    rcases Nat.lt_or_ge b w.heap.size with hl | hl
    · exact hl
    · have : w.heap[b]? = none := by simp [hl]
      rw [this] at h; cases h
  stay := fun w w' h hs => by
    obtain ⟨tp, p, h⟩ := h
    refine ⟨tp, p, ?_⟩
    unfold World.var? at *
    rw [hg] at *
    simp only [Option.bind_some] at *
    rw [hs g rfl]; exact h
/-- A package's number. -/
def HasInt (g : Nat) (w : World) : Prop := ∃ m, w.cell? ⟨g, 0, none⟩ = some (.int .i64 m)
@[reducible] def Tabs.num {P : Program} (g : Nat) : Tabs P where
  tab := fun b => b = g
  J := fun w => HasInt g w
  lt := fun w b h e => by
    subst e
    obtain ⟨m, h⟩ := h
    rcases Nat.lt_or_ge b w.heap.size with hl | hl
    · exact hl
    · have : w.heap[b]? = none := by simp [hl]
      unfold World.cell? at h
      rw [this] at h; cases h
  stay := fun w w' h hs => by
    obtain ⟨m, h⟩ := h
    exact ⟨m, (World.cell?_of_block (w := w) (w' := w') (a := ⟨g, 0, none⟩) (hs g rfl)).trans h⟩

theorem ifc_of_trod {H : Type} {enc : TypeId × Value → H} {P : Program} {w : World} {base : Nat} {sp : Nat → Bool} {held : Bool} {fuel : Nat} {t : TypeId} {cs : List Value} {nm : String} {d : DataW H} {p : List MemPlace}
    (ht : (match P.underlying t with | some (.interface _) => true | _ => false) = true)
    (h : DataW.trod enc P w base sp held fuel t cs = some (.iface nm d, p)) : ∃ u v, cs = [.iface u v] := by
  cases fuel with
  | zero => simp [DataW.trod] at h
  | succ fuel =>
    revert ht
    cases hu : P.underlying t with
    | none => intro ht; cases ht
    | some x =>
      cases x with
      | interface _ =>
        intro _
        unfold DataW.trod at h
        rw [hu] at h
        match cs, h with
        | [], h => cases h
        | [.iface u v], h => exact ⟨u, v, rfl⟩
        | [.nilIface], h => cases h
        | [.int _ _], h => cases h
        | _ :: _ :: _, h => simp at h
        | [.bool _], h => cases h
      | _ => intro ht; cases ht
end Go.Vw

namespace Go.Vw
open Go

section
variable {H : Type} {enc : TypeId × Value → H} {P : Program} {w : World}
theorem Rd.listQ {t e : TypeId} {sz : Nat} {α : Type} [Inhabited α] {f : α → List AV} {Q : α → Prop} (ht : P.underlying t = some (.slice e)) (hC : P.cellsOf e = sz) (hsz : 1 ≤ sz) (he : Rd enc P w e fun l => ∃ x, l = f x ∧ Q x) :
    Rd enc P w t (fun l => ∃ L : List α, l = [.sl sz L.length fun i => f (ix L i)] ∧ L.length ≤ maxLen ∧ ∀ x ∈ L, Q x) :=
  (Rd.slice ht hC hsz he).le fun l h => by
    obtain ⟨n, rows, rfl, hn, hr⟩ := h
    let g : Nat → α := fun i => if h : i < n then (hr i h).choose else default
    have hg : ∀ i, i < n → rows i = f (g i) ∧ Q (g i) := fun i h => by simp only [g, h, dif_pos]; exact (hr i h).choose_spec
    have hl : ((List.range n).map g).length = n := by simp
    refine ⟨[.sl sz ((List.range n).map g).length fun i => f (ix ((List.range n).map g) i)], ⟨_, rfl, by rw [hl]; exact hn, fun x hx => ?_⟩, AVsle.cons (AVle.sl hl.symm fun i hi => ?_) AVsle.nil⟩
    · obtain ⟨i, hi, rfl⟩ := List.mem_map.1 hx
      exact (hg i (by simpa using hi)).2
    · rw [(hg i hi).1, ix_lt (by rw [hl]; exact hi)]; simp
theorem Rd.arr3 {t e : TypeId} {k : IntKind} (ht : P.underlying t = some (.array 3 e)) (he : P.underlying e = some (.int k)) (hce : P.cellsOf e = 1) (hct : P.cellsOf t = 3) :
    Rd enc P w t (fun as => ∃ a b c, as = [.int k a, .int k b, .int k c]) := fun fuel cs x hx => by
  cases fuel with
  | zero => simp [DataW.trod] at hx
  | succ fuel =>
    simp only [DataW.trod, ht, hce, hct, Nat.mul_one] at hx
    split at hx
    · rename_i hl
      obtain ⟨xs, hm, hx⟩ := Option.map_eq_some_iff.1 hx
      match cs, hl with
      | [a, b, c], _ =>
        obtain ⟨r0, _, h0⟩ := Go.Lib.mapM_at hm 0 0 rfl
        obtain ⟨r1, _, h1⟩ := Go.Lib.mapM_at hm 1 1 rfl
        obtain ⟨r2, _, h2⟩ := Go.Lib.mapM_at hm 2 2 rfl
        obtain ⟨n0, e0, _, _⟩ := DataW.trod_int he (x := r0) h0
        obtain ⟨n1, e1, _, _⟩ := DataW.trod_int he (x := r1) h1
        obtain ⟨n2, e2, _, _⟩ := DataW.trod_int he (x := r2) h2
        injection e0 with e0
        injection e1 with e1
        injection e2 with e2
        subst e0 e1 e2
        exact ⟨_, ⟨n0, n1, n2, rfl⟩, ⟨_, _, rfl, rfl, _, _, rfl, rfl, _, _, rfl, rfl, rfl⟩⟩
    · cases hx
end

/-- what is left of a measure -/
def szr (k : Nat) (n : Int) : Int := if (k : Int) ≤ n then n - k else -1
theorem szr_no {k : Nat} {n : Int} (h : ¬ (k : Int) ≤ n) : szr k n = -1 := if_neg h
theorem szr_yes {k : Nat} {n : Int} (h : (k : Int) ≤ n) : szr k n = n - k := if_pos h
def sumL {α : Type} (f : α → Nat) (L : List α) : Nat := (L.map f).sum
theorem sum_snoc {α : Type} [Inhabited α] {f : α → Nat} {L : List α} {i : Nat} (h : i < L.length) : sumL f (L.take (i + 1)) = sumL f (L.take i) + f (ix L i) := by
  unfold sumL; rw [map_take_snoc h]; simp
theorem sum_take_le {α : Type} [Inhabited α] {f : α → Nat} {L : List α} : ∀ {k i : Nat}, i + k = L.length → sumL f (L.take i) ≤ sumL f L
  | 0, i, h => by rw [List.take_of_length_le (by omega)]; omega
  | k + 1, i, h => by
    have := sum_take_le (f := f) (L := L) (k := k) (i := i + 1) (by omega)
    rw [sum_snoc (by omega)] at this; omega
theorem sum_mem {α : Type} {f : α → Nat} : ∀ {L : List α} {x : α}, x ∈ L → f x ≤ sumL f L
  | y :: r, x, h => by
    unfold sumL
    rcases List.mem_cons.1 h with rfl | h
    · simp
    · have := sum_mem (f := f) h; unfold sumL at this; simp; omega
end Go.Vw

namespace Go.Vw
open Go

/-- Numbers' texts read back; texts cut at a sign. -/
theorem numB_snoc' : ∀ (l : List UInt8) (n : Nat) (c : UInt8), numB n (l ++ [c]) = numB n l * 10 + (c.toNat - 48)
  | [], n, c => rfl
  | x :: r, n, c => numB_snoc' r _ c
theorem dd_num : ∀ u : Nat, numB 0 (Lib.decDigits u) = u ∧ (Lib.decDigits u).all dig = true ∧ Lib.decDigits u ≠ [] := by
  intro u
  induction u using Nat.strongRecOn with
  | _ u ih =>
    by_cases h : u < 10
    · rw [dd_base h]
      refine ⟨?_, by simp [d1_dig], by simp⟩
      show 0 * 10 + ((d1 u).toNat - 48) = u
      rw [d1_toNat]; omega
    · rw [dd_step h]
      obtain ⟨h1, h2, h3⟩ := ih (u / 10) (by omega)
      refine ⟨?_, by rw [List.all_append, h2]; simp [d1_dig], by simp⟩
      rw [numB_snoc', h1, d1_toNat]; omega
theorem dd_len18 {u : Nat} (h : u ≤ 999999999999999999) : (Lib.decDigits u).length ≤ 18 := dd_len 17 u (by simp; omega)
theorem decNat_dig {l : List UInt8} (h0 : l ≠ []) (hd : l.all dig = true) : Lib.decNat l = some (numB 0 l) := by
  cases l with
  | nil => exact absurd rfl h0
  | cons b r => exact decFrom_dig _ _ hd
theorem atoiAll_itoa {n : Int} (h0 : -999999999999999999 ≤ n) (h1 : n ≤ 999999999999999999) : Lib.atoiAll (Lib.itoa n) = .ok n := by
  by_cases hn : n < 0
  · obtain ⟨u, rfl⟩ : ∃ u : Nat, n = -(u : Int) := ⟨n.natAbs, by omega⟩
    obtain ⟨e1, e2, e3⟩ := dd_num u
    rw [Lib.itoa_neg u (by omega), Lib.atoiAll_minus, Lib.signed_short (dd_len18 (by omega)), decNat_dig e3 e2, e1]
    rfl
  · obtain ⟨u, rfl⟩ : ∃ u : Nat, n = (u : Int) := ⟨n.toNat, by omega⟩
    obtain ⟨e1, e2, e3⟩ := dd_num u
    rw [Lib.itoa_nonneg, atoi_dig e3 (dd_len18 (by omega)) e2, e1]
theorem itoa_ne {n : Int} {c : UInt8} (h45 : c ≠ 45) (hc : c.toNat < 48 ∨ 57 < c.toNat) : ∀ x ∈ Lib.itoa n, x ≠ c := by
  intro x hx
  by_cases hn : n < 0
  · obtain ⟨u, rfl⟩ : ∃ u : Nat, n = -(u : Int) := ⟨n.natAbs, by omega⟩
    rw [Lib.itoa_neg u (by omega)] at hx
    rcases List.mem_cons.1 hx with rfl | hx
    · exact fun e => h45 e.symm
    · exact dig_ne (List.all_eq_true.1 (dd_num u).2.1 x hx) hc
  · obtain ⟨u, rfl⟩ : ∃ u : Nat, n = (u : Int) := ⟨n.toNat, by omega⟩
    rw [Lib.itoa_nonneg] at hx
    exact dig_ne (List.all_eq_true.1 (dd_num u).2.1 x hx) hc
def bigN : Int := 999999999999999999
def numOk (t : List UInt8) : Bool := atoiOk t && (decide (Lib.itoa (atoiV t) = t) && within (atoiV t) (-999999999999999999) 999999999999999999)
theorem num_back {n : Int} (h0 : -999999999999999999 ≤ n) (h1 : n ≤ 999999999999999999) : numOk (Lib.itoa n) = true ∧ atoiV (Lib.itoa n) = n := by
  have h := atoiAll_itoa h0 h1
  have e : atoiV (Lib.itoa n) = n := by unfold atoiV; rw [h]
  refine ⟨?_, e⟩
  unfold numOk
  rw [e, show atoiOk (Lib.itoa n) = true by unfold atoiOk; rw [h]]
  simp [within, h0, h1]
theorem num_of {t : List UInt8} (h : numOk t = true) : ∃ n, t = Lib.itoa n ∧ atoiV t = n ∧ -999999999999999999 ≤ n ∧ n ≤ 999999999999999999 := by
  unfold numOk at h
  simp [within] at h
  exact ⟨_, h.2.1.symm, rfl, h.2.2.1, h.2.2.2⟩

/-- cut at most so often -/
theorem cutP_len (c : UInt8) : ∀ (l cur : List UInt8), 1 ≤ (cutP c cur l).length ∧ (cutP c cur l).length ≤ l.length + 1
  | [], cur => by simp [cutP]
  | x :: r, cur => by
    unfold cutP
    split
    · have := cutP_len c r []; simp; omega
    · have := cutP_len c r (cur ++ [x]); simp; omega
theorem first_c (c : UInt8) (l : List UInt8) : (∀ x ∈ l, x ≠ c) ∨ ∃ a b, l = a ++ c :: b ∧ ∀ x ∈ a, x ≠ c := by
  induction l with
  | nil => exact .inl (by simp)
  | cons x r ih =>
    by_cases h : x = c
    · exact .inr ⟨[], r, by rw [h]; rfl, by simp⟩
    · rcases ih with ih | ⟨a, b, e, ha⟩
      · exact .inl fun y hy => by rcases List.mem_cons.1 hy with rfl | hy; exact h; exact ih y hy
      · exact .inr ⟨x :: a, b, by rw [e]; rfl, fun y hy => by rcases List.mem_cons.1 hy with rfl | hy; exact h; exact ha y hy⟩
theorem index_none (c : UInt8) : ∀ (l : List UInt8), (∀ x ∈ l, x ≠ c) → Lib.index l [c] = -1
  | [], _ => rfl
  | x :: r, h => by
    have hx : (c == x) = false := by rw [beq_eq_false_iff_ne]; exact fun e => h x (by simp) e.symm
    unfold Lib.index
    rw [index_none c r fun y hy => h y (by simp [hy])]
    simp [List.isPrefixOf, hx]
theorem index_at (c : UInt8) : ∀ (a b : List UInt8), (∀ x ∈ a, x ≠ c) → Lib.index (a ++ c :: b) [c] = a.length
  | [], b, _ => by simp [Lib.index, List.isPrefixOf]
  | x :: r, b, h => by
    have hx : (c == x) = false := by rw [beq_eq_false_iff_ne]; exact fun e => h x (by simp) e.symm
    rw [List.cons_append]
    unfold Lib.index
    rw [index_at c r b fun y hy => h y (by simp [hy])]
    simp only [List.isPrefixOf, hx]
    rw [if_neg (by simp), if_neg (by simp <;> omega)]
    simp
theorem splitK_cut (c : UInt8) : ∀ (k : Nat) (l : List UInt8), ((cutP c [] l).length ≤ k + 1 → Lib.splitK [c] 0 k l = cutP c [] l) ∧ (k + 1 < (cutP c [] l).length → (Lib.splitK [c] 0 k l).length = k + 1)
  | 0, l => by
    rcases first_c c l with h | ⟨a, b, rfl, ha⟩
    · rw [cutP_none c l [] h]; simp [Lib.splitK]
    · rw [cutP_app c a [] b ha]
      have := cutP_len c b []
      exact ⟨fun h => absurd h (by simp only [List.length_cons]; omega), fun _ => rfl⟩
  | k + 1, l => by
    rcases first_c c l with h | ⟨a, b, rfl, ha⟩
    · rw [cutP_none c l [] h]
      unfold Lib.splitK
      rw [index_none c l h]; simp
    · rw [cutP_app c a [] b ha]
      have ih := splitK_cut c k b
      have e : Lib.splitK [c] 0 (k + 1) (a ++ c :: b) = a :: Lib.splitK [c] 0 k b := by
        rw [Lib.splitK, index_at c a b ha, if_neg (by simp <;> omega)]
        simp
      rw [e]
      simp only [List.nil_append, List.length_cons]
      refine ⟨fun h => by rw [ih.1 (by omega)], fun h => by rw [ih.2 (by omega)]⟩
theorem splitN_len (c : UInt8) (l : List UInt8) (m : Nat) : (Lib.splitN l [c] (m + 1)).length = m ↔ (cutP c [] l).length = m := by
  have h1 := cutP_len c l []
  have h := splitK_cut c (min (m + 1) (l.length + 1) - 1) l
  unfold Lib.splitN
  rcases Nat.lt_or_ge (min (m + 1) (l.length + 1) - 1 + 1) (cutP c [] l).length with h2 | h2
  · rw [h.2 h2]; omega
  · rw [h.1 h2]
theorem splitN_eq (c : UInt8) (l : List UInt8) (m : Nat) (hm : (cutP c [] l).length = m) : Lib.splitN l [c] (m + 1) = cutP c [] l := by
  have h1 := cutP_len c l []
  have h := splitK_cut c (min (m + 1) (l.length + 1) - 1) l
  unfold Lib.splitN
  exact h.1 (by omega)
theorem cut_join (c : UInt8) : ∀ (L : List (List UInt8)), L ≠ [] → (∀ x ∈ L, ∀ b ∈ x, b ≠ c) → cutP c [] (Lib.join L [c]) = L
  | [], h, _ => absurd rfl h
  | [a], _, h => by
    rw [Lib.join_one, cutP_none c a [] (h a (by simp))]; simp
  | a :: b :: r, _, h => by
    have ih := cut_join c (b :: r) (by simp) (fun x hx => h x (by simp [hx]))
    have e : Lib.join (a :: b :: r) [c] = a ++ c :: Lib.join (b :: r) [c] := by simp [Lib.join, List.intercalate, List.intersperse]
    rw [e, cutP_app c a [] _ (h a (by simp)), ih]; simp
/-- so many numbers with a sign between -/
def numsK (c : UInt8) (m : Nat) (t : List UInt8) : Option (List Int) := if (cutP c [] t).length = m ∧ (cutP c [] t).all numOk = true then some ((cutP c [] t).map atoiV) else none
theorem nums_back {c : UInt8} (h45 : c ≠ 45) (hc : c.toNat < 48 ∨ 57 < c.toNat) {N : List Int} (h0 : N ≠ []) (hN : ∀ n ∈ N, -999999999999999999 ≤ n ∧ n ≤ 999999999999999999) : numsK c N.length (Lib.join (N.map Lib.itoa) [c]) = some N := by
  have h := cut_join c (N.map Lib.itoa) (by simpa using h0) (fun x hx b hb => by
    obtain ⟨n, _, rfl⟩ := List.mem_map.1 hx
    exact itoa_ne h45 hc b hb)
  unfold numsK
  rw [h, if_pos ⟨by simp, List.all_eq_true.2 fun x hx => by
    obtain ⟨n, hn, rfl⟩ := List.mem_map.1 hx
    exact (num_back (hN n hn).1 (hN n hn).2).1⟩, List.map_map]
  congr 1
  exact (List.map_congr_left fun n hn => (num_back (hN n hn).1 (hN n hn).2).2).trans (List.map_id' N)
end Go.Vw

namespace Go.Vw
open Go

section
variable {w : World} {ok ok' : Nat → Prop} {g g' : Nat → Option Gh} {σ : Nat → Nat}
mutual
/-- names turned, more may be read -/
theorem RV.rn (hok : ∀ b, ok b → ok' b) (hg : ∀ m G, g m = some G → g' (σ m) = some G) : ∀ (x : AV) (v : Value), RV w ok g x v → RV w ok' g' (x.ren σ) v
  | .any, _, _ => trivial
  | .int _ _, _, h => h
  | .bool _, _, h => h
  | .str _, _, h => h
  | .agg cs, _, ⟨vs, e, h⟩ => ⟨vs, e, RVs.rn hok hg cs vs h⟩
  | .tup cs, _, ⟨vs, e, h⟩ => ⟨vs, e, RVs.rn hok hg cs vs h⟩
  | .nilsl, _, h => h
  | .sl sz n rows, v, h => RV.mono hok (fun _ _ => rfl) G0 g' (fun _ _ h => by cases h) (.sl sz n rows) v h
  | .osl m, _, ⟨G, hm, e⟩ => ⟨G, hg m G hm, e⟩
  | .eptr row off, v, h => RV.mono hok (fun _ _ => rfl) G0 g' (fun _ _ h => by cases h) (.eptr row off) v h
  | .bptr m off, _, ⟨G, b, hm, hb, e⟩ => ⟨G, b, hg m G hm, hb, e⟩
  | .aptr m sz i off, _, ⟨G, b, hm, hb, e⟩ => ⟨G, b, hg m G hm, hb, e⟩
  | .nilptr, _, h => h
  | .iface _ x, _, ⟨u, e, h⟩ => ⟨u, e, RV.rn hok hg x u h⟩
  | .niliface, _, h => h
  | .fn _ xs ys, _, ⟨us, vs, e, h1, h2⟩ => ⟨us, vs, e, RVs.rn hok hg xs us h1, RVs.rn hok hg ys vs h2⟩
  | .nilfn, _, h => h
  | .omap m, _, ⟨G, b, hm, hb, e⟩ => ⟨G, b, hg m G hm, hb, e⟩
  | .undef, _, h => h
theorem RVs.rn (hok : ∀ b, ok b → ok' b) (hg : ∀ m G, g m = some G → g' (σ m) = some G) : ∀ (xs : List AV) (vs : List Value), RVs w ok g xs vs → RVs w ok' g' (AV.rens σ xs) vs
  | [], _, h => h
  | x :: xs, _, ⟨v, us, e, h1, h2⟩ => ⟨v, us, e, RV.rn hok hg x v h1, RVs.rn hok hg xs us h2⟩
end
theorem MRel.rn {G : Gh} {mo : MO} (hok : ∀ b, ok b → ok' b) (hg : ∀ m G, g m = some G → g' (σ m) = some G) (h : MRel w ok g G mo) : MRel w ok' g' G (mo.ren σ) := by
  cases mo with
  | box cs =>
    obtain ⟨b, vs, ty, h1, h2, h3⟩ := h
    exact ⟨b, vs, ty, h1, h2, RVs.rn hok hg cs vs h3⟩
  | arr e sz n rows =>
    obtain ⟨h0, h⟩ := h
    refine ⟨h0, h.imp id fun ⟨b, cur, h1, h2, h3, h4, h5, h6⟩ => ⟨b, cur, h1, h2, h3, h4, h5, fun i hi => ?_⟩⟩
    obtain ⟨vs, k1, k2, k3⟩ := h6 i hi
    exact ⟨vs, k1, RVs.mono hok (fun _ _ => rfl) G0 G0 (fun _ _ h => h) _ _ k2, k3⟩
  | imap ks => exact h
  | smap ks => exact h
end
/-- the objects that are handed over -/
def keepO (kl : List (Nat × Nat)) : List (Nat × MO) → List (Nat × MO)
  | [] => []
  | (m, o) :: r => match kL kl m with | some _ => (m, o) :: keepO kl r | none => keepO kl r
theorem look_keepO {kl : List (Nat × Nat)} : ∀ {ob : List (Nat × MO)} {m : Nat} {mo : MO}, look (keepO kl ob) m = some mo → kL kl m ≠ none ∧ look ob m = some mo
  | [], m, mo, h => by cases h
  | (k, o) :: r, m, mo, h => by
    unfold keepO at h
    split at h
    · rename_i q hq
      rw [look_cons] at h ⊢
      split at h
      · rename_i e
        cases h
        rw [if_pos e]
        exact ⟨by rw [show m = k from e, hq]; simp, rfl⟩
      · rename_i e
        rw [if_neg e]
        exact look_keepO h
    · rename_i hq
      have := look_keepO h
      refine ⟨this.1, ?_⟩
      rw [look_cons]
      split
      · rename_i e
        exact absurd (by rw [e]; exact hq) this.1
      · exact this.2
def keepS (kl : List (Nat × Nat)) (st : St) : St := { tm := fun _ => .any, ob := keepO kl st.ob, next := st.next, n := st.n }

/-- A call that is handed objects, and whatever it is called with is reached by these alone: what it hands back may hold slices. -/
theorem callK {P : Program} [Tabs P] {F : FuncId} {nb nx : Nat} {args l : List AV} {O O' : List (Nat × MO)} {r : AV} {st : St} {d : Option Tmp} (kl : List (Nat × Nat)) (h : FnM P F nb args O r O' nx) (hkl : klOK nb kl = true) (hcov : covB O nb = true)
    (ha : AVsle (AV.fzs (keepO kl st.ob) (kL kl) l) args) (hO : allO ((keepS kl st).fz (kL kl) nb) O) (hd : dstOK d st.n = true) :
    CallR P F l st d (({ tm := st.tm, ob := renOb (backN kl nb st.next) O' ++ delK kl st.ob, next := st.next + nx, n := st.n } : St).put d (r.ren (backN kl nb st.next))) := by
  refine ⟨h.1, fun gb w0 gr ok0 g ok a w vs hj hrep hargs => ?_⟩
  obtain ⟨k1, k2⟩ := kl_spec hkl
  -- the callee's view; of the base names nothing is asked here
  have hrep0 : Rep (fun _ => none) w0 gr ok0 st g ok a w := ⟨hrep.tm, hrep.obs, hrep.own, hrep.fresh, fun _ _ e => (by cases e), hrep.frm, hrep.df, hrep.n, hrep.okf⟩
  have hrepW := hrep0.weak (st' := keepS kl st) (fun t => AVle.any _) (fun m mo hm => ⟨mo, (look_keepO hm).2, MOle.refl _⟩) (Nat.le_refl _) rfl
  obtain ⟨gc, okc, hr1, hx, hgc, hokc0⟩ := hrepW.fz (kL kl) (iL kl) nb k1 k2 (fun _ _ e => (by cases e))
  have hokc : ∀ b, okc b → ok b := fun b hb => by
    rcases hokc0 b hb with h' | ⟨m, mo, G, e1, e2, _⟩
    · exact h'
    · exact absurd e1 (look_keepO e2).1
  have hr2 := hr1.weak (st' := mkSt [] O nb st.n) (fun t => AVle.any _) (allO_spec hO) (Nat.le_refl _) rfl
  have hargs' : ∀ (l : List AV) (vs : List Value), RVs w ok g l vs → RVs w okc gc (AV.fzs (keepO kl st.ob) (kL kl) l) vs := by
    intro l
    induction l with
    | nil => exact fun vs h => h
    | cons x xs ih => rintro vs ⟨v, us, e, h1, h2⟩; exact ⟨v, us, e, hx x v h1, ih us h2⟩
  have hobs : Obs O gc okc w := hr2.obs
  -- a granted block is that of an object of the caller's that was handed over
  have hgr : ∀ b, grO O gc b → ∃ m mo G, kL kl m ≠ none ∧ look st.ob m = some mo ∧ g m = some G ∧ G.b = some b := by
    rintro b ⟨k, mo, G, hk, hG, hb⟩
    obtain ⟨mo1, hl1, _⟩ := allO_spec hO k mo hk
    obtain ⟨m, p, e1, e2', _⟩ := look_fzOb k1 (keepO kl st.ob) k mo1 hl1
    have e2 := (look_keepO e2').2
    rw [hgc k, (k1 m k).1 e1] at hG
    exact ⟨m, p, G, by rw [e1]; simp, e2, hG, hb⟩
  have hJ : Tabs.J P w ∧ ∀ b, Tabs.tab P b → ¬ grO O gc b := by
    refine ⟨hj.now hrep.frm, fun b hb hg => ?_⟩
    obtain ⟨m, mo, G, _, h2, h3, h4⟩ := hgr b hg
    rcases hrep.own m mo G b h2 h3 h4 with h5 | h5
    · have := Tabs.lt w0 b hj.1 hb; omega
    · exact hj.2 b hb h5
  refine (h.2 w okc gc vs hJ hr2.obs hr2.fresh (ha _ _ _ _ (hargs' l vs hargs))).mono ?_
  rintro e w' ⟨v, g', ok', rfl, hfm, hob, hext, hfr, hv, hown, hokn⟩
  have hngr : ∀ b, ok b → ¬ grO O gc b := fun b hb hg => by
    obtain ⟨m, mo, G, _, h2, h3, h4⟩ := hgr b hg
    exact (hrep.obs.okb b hb).2 m mo G h2 h3 h4
  have hokw : ∀ b, ok b → w'.heap[b]? = w.heap[b]? := fun b hb => hfm.old b (hrep.obs.okb b hb).1 (hngr b hb)
  let ok2 : Nat → Prop := fun b => ok b ∨ ok' b
  have hok' : ∀ b, ok' b → ok b ∨ grO O gc b ∨ w.heap.size ≤ b := fun b hb => (hokn b hb).imp (hokc b) id
  let σ := backN kl nb st.next
  let g2 : Nat → Option Gh := fun m => if m < st.next then g m else g' (m - st.next + nb)
  have hlow : ∀ m G, g m = some G → m < st.next := fun m G hm => Nat.lt_of_not_le fun hle => by rw [hrep.fresh m hle] at hm; cases hm
  have hg2 : ∀ m G, g m = some G → g2 m = some G := fun m G hm => by
    show (if _ then _ else _) = _
    rw [if_pos (hlow m G hm)]; exact hm
  have hσ : ∀ k G, g' k = some G → g2 (σ k) = some G := fun k G hk => by
    show g2 (backN kl nb st.next k) = _
    unfold backN
    rcases Nat.lt_or_ge k nb with hlt | hge
    · obtain ⟨mo, hmo⟩ := covB_spec hcov k hlt
      obtain ⟨K, hK, _⟩ := hobs.rel k mo hmo
      have e1 := hext k K hK
      rw [hk] at e1; cases e1
      rw [hgc k] at hK
      cases hi : iL kl k with
      | none => rw [hi] at hK; cases hK
      | some m => rw [hi] at hK; exact hg2 m G hK
    · cases hi : iL kl k with
      | some m => have := k2 m k ((k1 m k).2 hi); omega
      | none =>
        show (if st.next + (k - nb) < st.next then g (st.next + (k - nb)) else g' (st.next + (k - nb) - st.next + nb)) = _
        rw [if_neg (by omega)]
        rw [show st.next + (k - nb) - st.next + nb = k by omega]; exact hk
  have hnew : ∀ m mo', look (renOb σ O') m = some mo' → ∃ k mo G, σ k = m ∧ look O' k = some mo ∧ g' k = some G ∧ g2 m = some G ∧ MRel w' ok2 g2 G mo' := fun m mo' hm => by
    obtain ⟨k, mo, e1, e2, e3⟩ := look_renOb hm
    obtain ⟨G, hG, hrel⟩ := hob.rel k mo e2
    refine ⟨k, mo, G, e1, e2, hG, by rw [← e1]; exact hσ k G hG, ?_⟩
    rw [e3]; exact hrel.rn (fun _ h => .inr h) hσ
  have hold : ∀ m mo, look (delK kl st.ob) m = some mo → ∃ G, look st.ob m = some mo ∧ kL kl m = none ∧ g m = some G ∧ g2 m = some G ∧ MRel w' ok2 g2 G mo ∧ ∀ b, G.b = some b → b < w.heap.size ∧ ¬ grO O gc b := fun m mo hm => by
    obtain ⟨e1, e2⟩ := look_delK hm
    obtain ⟨G, hG, hrel⟩ := hrep.obs.rel m mo e1
    have hng : ∀ b, G.b = some b → b < w.heap.size ∧ ¬ grO O gc b := fun b hb => by
      refine ⟨hrep.obs.lt m mo G b e1 hG hb, fun hg => ?_⟩
      obtain ⟨m', mo', G', h1, h2, h3, h4⟩ := hgr b hg
      have := hrep.obs.sep m m' mo mo' G G' b e1 h2 hG h3 hb h4
      subst this; exact h1 e2
    exact ⟨G, e1, e2, hG, hg2 m G hG, MRel.mono (fun _ h => .inl h) hokw hg2 (fun b hb => hfm.old b (hng b hb).1 (hng b hb).2) hrel, hng⟩
  have hnewb : ∀ k mo G b, look O' k = some mo → g' k = some G → G.b = some b → w.heap.size ≤ b ∨ grO O gc b := hown
  have core : Rep gb w0 gr ok0 { tm := st.tm, ob := renOb σ O' ++ delK kl st.ob, next := st.next + nx, n := st.n } g2 ok2 a w' := by
    refine ⟨fun t => RV.mono (fun _ h => .inl h) hokw g g2 hg2 _ _ (hrep.tm t), ⟨fun m mo hm => ?_, fun m m' mo mo' G G' b hm hm' hG hG' hb hb' => ?_, fun b hb => ⟨hb.elim (fun hb => Nat.lt_of_lt_of_le (hrep.obs.okb b hb).1 hfm.size) fun hb => (hob.okb b hb).1, fun m mo G hm hG e => ?_⟩, fun m mo G b hm hG hb => ?_⟩,
      fun m mo G b hm hG hb => ?_, fun m hm => ?_, fun m G hm => hg2 m G (hrep.base m G hm), ⟨hfm.os.trans hrep.frm.os, hfm.tape.trans hrep.frm.tape, hfm.output.trans hrep.frm.output, Nat.le_trans hrep.frm.size hfm.size, fun b hb hg => ?_⟩, hrep.df, hrep.n, fun b hb => ?_⟩
    · rcases look_app hm with hm | hm
      · obtain ⟨k, mo1, G, _, _, _, e4, e5⟩ := hnew m mo hm; exact ⟨G, e4, e5⟩
      · obtain ⟨G, _, _, _, e4, e5, _⟩ := hold m mo hm; exact ⟨G, e4, e5⟩
    · rcases look_app hm with hm | hm <;> rcases look_app hm' with hm' | hm'
      · obtain ⟨k, mo1, K, e1, e2, e3, e4, _⟩ := hnew m mo hm
        obtain ⟨k', mo1', K', e1', e2', e3', e4', _⟩ := hnew m' mo' hm'
        rw [hG] at e4; cases e4
        rw [hG'] at e4'; cases e4'
        have := hob.sep k k' mo1 mo1' _ _ b e2 e2' e3 e3' hb hb'
        rw [← e1, ← e1', this]
      · obtain ⟨k, mo1, K, e1, e2, e3, e4, _⟩ := hnew m mo hm
        obtain ⟨K', _, _, _, e4', _, hn'⟩ := hold m' mo' hm'
        rw [hG] at e4; cases e4
        rw [hG'] at e4'; cases e4'
        obtain ⟨n1, n2⟩ := hn' b hb'
        rcases hnewb k mo1 _ b e2 e3 hb with h' | h'
        · omega
        · exact absurd h' n2
      · obtain ⟨k, mo1, K, e1, e2, e3, e4, _⟩ := hnew m' mo' hm'
        obtain ⟨K', _, _, _, e4', _, hn'⟩ := hold m mo hm
        rw [hG'] at e4; cases e4
        rw [hG] at e4'; cases e4'
        obtain ⟨n1, n2⟩ := hn' b hb
        rcases hnewb k mo1 _ b e2 e3 hb' with h' | h'
        · omega
        · exact absurd h' n2
      · obtain ⟨K, a1, _, a3, a4, _, _⟩ := hold m mo hm
        obtain ⟨K', b1, _, b3, b4, _, _⟩ := hold m' mo' hm'
        rw [hG] at a4; cases a4
        rw [hG'] at b4; cases b4
        exact hrep.obs.sep m m' mo mo' _ _ b a1 b1 a3 b3 hb hb'
    · rcases hb with hb | hb
      · rcases look_app hm with hm | hm
        · obtain ⟨k, mo1, K, e1, e2, e3, e4, _⟩ := hnew m mo hm
          rw [hG] at e4; cases e4
          have := (hrep.obs.okb b hb).1
          rcases hnewb k mo1 _ b e2 e3 e with h' | h'
          · omega
          · exact hngr b hb h'
        · obtain ⟨K, a1, _, a3, a4, _, _⟩ := hold m mo hm
          rw [hG] at a4; cases a4
          exact (hrep.obs.okb b hb).2 m mo _ a1 a3 e
      · rcases look_app hm with hm | hm
        · obtain ⟨k, mo1, K, e1, e2, e3, e4, _⟩ := hnew m mo hm
          rw [hG] at e4; cases e4
          exact (hob.okb b hb).2 k mo1 _ e2 e3 e
        · obtain ⟨K, a1, _, a3, a4, _, hn'⟩ := hold m mo hm
          rw [hG] at a4; cases a4
          obtain ⟨n1, n2⟩ := hn' b e
          rcases hok' b hb with h' | h' | h'
          · exact (hrep.obs.okb b h').2 m mo _ a1 a3 e
          · exact n2 h'
          · omega
    · rcases look_app hm with hm | hm
      · obtain ⟨k, mo1, K, e1, e2, e3, e4, _⟩ := hnew m mo hm
        rw [hG] at e4; cases e4
        exact hob.lt k mo1 _ b e2 e3 hb
      · obtain ⟨K, a1, _, a3, a4, _, hn⟩ := hold m mo hm
        rw [hG] at a4; cases a4
        exact Nat.lt_of_lt_of_le (hn b hb).1 hfm.size
    · rcases look_app hm with hm | hm
      · obtain ⟨k, mo1, K, e1, e2, e3, e4, _⟩ := hnew m mo hm
        rw [hG] at e4; cases e4
        rcases hnewb k mo1 _ b e2 e3 hb with h' | h'
        · exact .inl (Nat.le_trans hrep.frm.size h')
        · obtain ⟨m0, mo0, G0', _, h2, h3, h4⟩ := hgr b h'
          exact hrep.own m0 mo0 G0' b h2 h3 h4
      · obtain ⟨K, a1, _, a3, a4, _, _⟩ := hold m mo hm
        rw [hG] at a4; cases a4
        exact hrep.own m mo _ b a1 a3 hb
    · show (if _ then _ else _) = none
      have hm' : st.next + nx ≤ m := hm
      rw [if_neg (by omega)]
      exact hfr _ (by omega)
    · rw [hfm.old b (Nat.lt_of_lt_of_le hb hrep.frm.size) fun h' => ?_, hrep.frm.old b hb hg]
      obtain ⟨m0, mo0, G0', _, h2, h3, h4⟩ := hgr b h'
      rcases hrep.own m0 mo0 G0' b h2 h3 h4 with h5 | h5
      · omega
      · exact hg h5
    · rcases hb with hb | hb
      · exact hrep.okf b hb
      · rcases hok' b hb with h' | h' | h'
        · exact hrep.okf b h'
        · obtain ⟨m0, mo0, G0', _, h2, h3, h4⟩ := hgr b h'
          rcases hrep.own m0 mo0 G0' b h2 h3 h4 with h5 | h5
          · exact .inr (.inr h5)
          · exact .inr (.inl h5)
        · exact .inr (.inr (Nat.le_trans hrep.frm.size h'))
  exact ⟨v, g2, ok2, rfl, core.put hd (RV.rn (fun _ h => .inr h) hσ r v hv)⟩

theorem CallC.k {P : Program} [Tabs P] {F : FuncId} {nb nx : Nat} {args l : List AV} {O O' : List (Nat × MO)} {r : AV} {cs : CSt} {d : Option Tmp} {next : CSt → Prop} (kl : List (Nat × Nat)) (h : FnM P F nb args O r O' nx)
    (hkl : klOK nb kl = true) (hcov : covB O nb = true) (ha : AVsle (AV.fzs (keepO kl cs.ob) (kL kl) l) args) (hO : allO ((keepS kl cs.st).fz (kL kl) nb) O) (hd : dstOK d cs.n = true)
    (hn : cs.obK (renOb (backN kl nb cs.next) O' ++ delK kl cs.ob) (cs.next + nx) fun cs' => (r.ren (backN kl nb cs.next)).force fun r => cs'.putK d r next) : CallC P F l cs d next := by
  unfold CallC
  obtain ⟨cs1, e1, h1⟩ := CSt.obK_st hn
  rw [AV.force_eq] at h1
  obtain ⟨cs2, e2, h2⟩ := CSt.putK_st h1
  exact CallG.mk _ (callK (st := cs.st) kl h hkl hcov ha hO hd) ⟨cs2, by rw [e2, e1]; rfl, h2⟩
end Go.Vw

namespace Go.Vw
open Go

/-- where the first is of which it holds; -1: nowhere -/
def fi {α : Type} (p : α → Bool) : List α → Int
  | [] => -1
  | x :: r => if p x = true then 0 else if fi p r < 0 then -1 else fi p r + 1
theorem fi_at {α : Type} [Inhabited α] {p : α → Bool} : ∀ {L : List α} {i : Nat}, i < L.length → (∀ j, j < i → p (ix L j) = false) → p (ix L i) = true → fi p L = i
  | [], i, h, _, _ => by simp at h
  | x :: r, 0, _, _, h => by simp at h; simp [fi, h]
  | x :: r, i + 1, h, h1, h2 => by
    have h0 : p x = false := h1 0 (by omega)
    have := fi_at (L := r) (i := i) (by simpa using h) (fun j hj => h1 (j + 1) (by omega)) h2
    unfold fi
    rw [if_neg (by simp [h0]), if_neg (by omega), this]; simp
theorem fi_none {α : Type} [Inhabited α] {p : α → Bool} : ∀ {L : List α}, (∀ j, j < L.length → p (ix L j) = false) → fi p L = -1
  | [], _ => rfl
  | x :: r, h => by
    have h0 : p x = false := h 0 (by simp)
    have := fi_none (L := r) (fun j hj => h (j + 1) (by simpa using hj))
    unfold fi
    rw [if_neg (by simp [h0]), this]; rfl
theorem fi_any {α : Type} {p : α → Bool} : ∀ {L : List α}, decide (0 ≤ fi p L) = L.any p
  | [] => rfl
  | x :: r => by
    have := fi_any (p := p) (L := r)
    unfold fi
    by_cases h0 : p x = true
    · rw [if_pos h0]; simp [h0]
    · rw [if_neg h0]
      by_cases h1 : fi p r < 0
      · rw [if_pos h1]; simp [h0, ← this]; omega
      · rw [if_neg h1]; simp [h0, ← this]; omega
end Go.Vw

