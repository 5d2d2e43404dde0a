/- V52: a part of a tool for walks: what a piece of a Go program does, by abstract values. It holds of every program; no condition. -/
import Derived.Test.YtigbaclopbcjnaaGreatDoorV27
import Derived.Lib.AtoiAll
import Derived.Lib.AtoiTie
import Derived.Lib.Strings
import Derived.Lib.Split
import Derived.Lib.Join
import Derived.Lib.AppendZerosOnto
import Derived.Lib.Overlaps
import Derived.Laws.Externs
import Derived.ChangeKeysEq
set_option linter.unusedVariables false
set_option linter.unusedSimpArgs false
set_option linter.unusedSectionVars false
set_option linter.constructorNameAsVariable false

namespace Go.Vw
open Go
def dig (b : UInt8) : Bool := decide (48 ≤ b.toNat ∧ b.toNat ≤ 57)
def numB : Nat → List UInt8 → Nat
 | n, [] => n
 | n, c :: r => numB (n * 10 + (c.toNat - 48)) r
def d1 (n : Nat) : UInt8 := UInt8.ofNat (48 + n % 10)
def six6 (n : Nat) : List UInt8 := [d1 (n / 100000), d1 (n / 10000), d1 (n / 1000), d1 (n / 100), d1 (n / 10), d1 n]
theorem six6_len (n : Nat) : (six6 n).length = 6 := rfl
theorem d1_toNat (n : Nat) : (d1 n).toNat = 48 + n % 10 := by
 unfold d1
 have : 48 + n % 10 < 256 := by omega
 simp [Nat.mod_eq_of_lt this]
theorem d1_dig (n : Nat) : dig (d1 n) = true := by unfold dig; rw [d1_toNat]; simp; omega
theorem six6_dig (n : Nat) : (six6 n).all dig = true := by simp [six6, d1_dig]
theorem dig_d1 {c : UInt8} (h : dig c = true) : ∃ k, k < 10 ∧ c.toNat = 48 + k ∧ ∀ n, n % 10 = k → d1 n = c := by
 have h' : 48 ≤ c.toNat ∧ c.toNat ≤ 57 := of_decide_eq_true h
 refine ⟨c.toNat - 48, by omega, by omega, fun n hn => ?_⟩
 apply UInt8.toNat_inj.1
 rw [d1_toNat]; omega
theorem numB_six (a b c d e f : UInt8) : numB 0 [a, b, c, d, e, f] = ((((((0 * 10 + (a.toNat - 48)) * 10 + (b.toNat - 48)) * 10 + (c.toNat - 48)) * 10 + (d.toNat - 48)) * 10 + (e.toNat - 48)) * 10 + (f.toNat - 48)) := rfl
theorem six_of (a b c d e f : Nat) (h : a < 10 ∧ b < 10 ∧ c < 10 ∧ d < 10 ∧ e < 10 ∧ f < 10) (n : Nat) (hn : n = ((((((0 * 10 + a) * 10 + b) * 10 + c) * 10 + d) * 10 + e) * 10 + f)) :
 n ≤ 999999 ∧ (n / 100000) % 10 = a ∧ (n / 10000) % 10 = b ∧ (n / 1000) % 10 = c ∧ (n / 100) % 10 = d ∧ (n / 10) % 10 = e ∧ n % 10 = f := by omega
theorem six6_numB {l : List UInt8} (hl : l.length = 6) (hd : l.all dig = true) : numB 0 l ≤ 999999 ∧ six6 (numB 0 l) = l := by
 match l, hl with
 | [a, b, c, d, e, f], _ =>
   simp only [List.all_cons, List.all_nil, Bool.and_true, Bool.and_eq_true] at hd
   obtain ⟨ha, hb, hc, hd, he, hf⟩ := hd
   obtain ⟨k1, b1, e1, f1⟩ := dig_d1 ha
   obtain ⟨k2, b2, e2, f2⟩ := dig_d1 hb
   obtain ⟨k3, b3, e3, f3⟩ := dig_d1 hc
   obtain ⟨k4, b4, e4, f4⟩ := dig_d1 hd
   obtain ⟨k5, b5, e5, f5⟩ := dig_d1 he
   obtain ⟨k6, b6, e6, f6⟩ := dig_d1 hf
   have t : ∀ {x : UInt8} {k : Nat}, x.toNat = 48 + k → x.toNat - 48 = k := fun h => by omega
   have hn : numB 0 [a, b, c, d, e, f] = ((((((0 * 10 + k1) * 10 + k2) * 10 + k3) * 10 + k4) * 10 + k5) * 10 + k6) := by
    rw [numB_six, t e1, t e2, t e3, t e4, t e5, t e6]
   have hh := six_of k1 k2 k3 k4 k5 k6 ⟨b1, b2, b3, b4, b5, b6⟩ _ hn
   generalize numB 0 [a, b, c, d, e, f] = n at hh
   obtain ⟨g0, g1, g2, g3, g4, g5, g6⟩ := hh
   refine ⟨g0, ?_⟩
   unfold six6
   rw [f1 _ g1, f2 _ g2, f3 _ g3, f4 _ g4, f5 _ g5, f6 _ g6]
theorem six_back (n : Nat) (h : n ≤ 999999) : ((((((0 * 10 + n / 100000 % 10) * 10 + n / 10000 % 10) * 10 + n / 1000 % 10) * 10 + n / 100 % 10) * 10 + n / 10 % 10) * 10 + n % 10) = n := by omega
theorem numB_six6 {n : Nat} (h : n ≤ 999999) : numB 0 (six6 n) = n := by
 have t : ∀ m, (d1 m).toNat - 48 = m % 10 := fun m => by rw [d1_toNat]; omega
 rw [six6, numB_six, t, t, t, t, t, t, six_back n h]
theorem six6_inj {n m : Nat} (hn : n ≤ 999999) (hm : m ≤ 999999) (h : six6 n = six6 m) : n = m := by
 rw [← numB_six6 hn, ← numB_six6 hm, h]
theorem dd_base {u : Nat} (h : u < 10) : Lib.decDigits u = [d1 u] := by
 rw [Lib.decDigits, dif_pos h]; unfold d1; rw [Nat.mod_eq_of_lt h]
theorem dd_step {u : Nat} (h : ¬ u < 10) : Lib.decDigits u = Lib.decDigits (u / 10) ++ [d1 u] := by
 rw [Lib.decDigits, dif_neg h]; rfl
theorem d1_congr {a b : Nat} (h : a % 10 = b % 10) : d1 a = d1 b := by unfold d1; rw [h]
theorem itoa_million {n : Nat} (h : n ≤ 999999) : Lib.itoa (1000000 + (n : Int)) = 49 :: six6 n := by
 have e : (1000000 + (n : Int)) = ((1000000 + n : Nat) : Int) := by omega
 rw [e, Lib.itoa_nonneg, dd_step (by omega), dd_step (by omega), dd_step (by omega), dd_step (by omega), dd_step (by omega), dd_step (by omega), dd_base (by omega)]
 simp only [List.cons_append, List.nil_append, six6]
 congr 1
 · have : (1000000 + n) / 10 / 10 / 10 / 10 / 10 / 10 = 1 := by omega
   rw [this]; rfl
 · rw [d1_congr (show (1000000 + n) / 10 / 10 / 10 / 10 / 10 % 10 = n / 100000 % 10 by omega), d1_congr (show (1000000 + n) / 10 / 10 / 10 / 10 % 10 = n / 10000 % 10 by omega),
    d1_congr (show (1000000 + n) / 10 / 10 / 10 % 10 = n / 1000 % 10 by omega), d1_congr (show (1000000 + n) / 10 / 10 % 10 = n / 100 % 10 by omega), d1_congr (show (1000000 + n) / 10 % 10 = n / 10 % 10 by omega), d1_congr (show (1000000 + n) % 10 = n % 10 by omega)]
def pad6 (l : List UInt8) : List UInt8 := List.replicate (6 - l.length) 48 ++ l
theorem d1_zero {n : Nat} (h : n % 10 = 0) : d1 n = 48 := by unfold d1; rw [h]; rfl
theorem pad6_dd {n : Nat} (h : n ≤ 999999) : pad6 (Lib.decDigits n) = six6 n := by
 unfold pad6 six6
 by_cases h1 : n < 10
 · rw [dd_base h1, d1_zero (n := n / 100000) (by omega), d1_zero (n := n / 10000) (by omega), d1_zero (n := n / 1000) (by omega), d1_zero (n := n / 100) (by omega), d1_zero (n := n / 10) (by omega)]; rfl
 rw [dd_step h1]
 by_cases h2 : n / 10 < 10
 · rw [dd_base h2, d1_zero (n := n / 100000) (by omega), d1_zero (n := n / 10000) (by omega), d1_zero (n := n / 1000) (by omega), d1_zero (n := n / 100) (by omega)]; rfl
 rw [dd_step h2]
 by_cases h3 : n / 10 / 10 < 10
 · rw [dd_base h3, d1_zero (n := n / 100000) (by omega), d1_zero (n := n / 10000) (by omega), d1_zero (n := n / 1000) (by omega), d1_congr (a := n / 10 / 10) (b := n / 100) (by omega)]; rfl
 rw [dd_step h3]
 by_cases h4 : n / 10 / 10 / 10 < 10
 · rw [dd_base h4, d1_zero (n := n / 100000) (by omega), d1_zero (n := n / 10000) (by omega), d1_congr (a := n / 10 / 10 / 10) (b := n / 1000) (by omega), d1_congr (a := n / 10 / 10) (b := n / 100) (by omega)]; rfl
 rw [dd_step h4]
 by_cases h5 : n / 10 / 10 / 10 / 10 < 10
 · rw [dd_base h5, d1_zero (n := n / 100000) (by omega), d1_congr (a := n / 10 / 10 / 10 / 10) (b := n / 10000) (by omega), d1_congr (a := n / 10 / 10 / 10) (b := n / 1000) (by omega), d1_congr (a := n / 10 / 10) (b := n / 100) (by omega)]; rfl
 rw [dd_step h5, dd_base (u := n / 10 / 10 / 10 / 10 / 10) (by omega), d1_congr (a := n / 10 / 10 / 10 / 10 / 10) (b := n / 100000) (by omega), d1_congr (a := n / 10 / 10 / 10 / 10) (b := n / 10000) (by omega), d1_congr (a := n / 10 / 10 / 10) (b := n / 1000) (by omega), d1_congr (a := n / 10 / 10) (b := n / 100) (by omega)]
 rfl
def atoiV (l : List UInt8) : Int := match Lib.atoiAll l with | .ok v => v | .syntax => 0 | .range => Lib.atoiSat l
def atoiOk (l : List UInt8) : Bool := match Lib.atoiAll l with | .ok _ => true | _ => false
theorem decFrom_dig : ∀ (l : List UInt8) (n : Nat), l.all dig = true → Lib.decFrom n l = some (numB n l)
 | [], n, _ => rfl
 | c :: r, n, h => by
   simp only [List.all_cons, Bool.and_eq_true] at h
   have h' : 48 ≤ c.toNat ∧ c.toNat ≤ 57 := of_decide_eq_true h.1
   unfold Lib.decFrom
   rw [show Lib.digitVal c = some (c.toNat - 48) by unfold Lib.digitVal; rw [if_pos h']]
   exact decFrom_dig r _ h.2
theorem atoi_dig {l : List UInt8} (h0 : l ≠ []) (hl : l.length ≤ 18) (hd : l.all dig = true) : Lib.atoiAll l = .ok (numB 0 l : Int) := by
 rw [Lib.atoiAll_short l hl]
 match l, h0 with
 | b :: r, _ =>
   have hb : 48 ≤ b.toNat ∧ b.toNat ≤ 57 := by
    simp only [List.all_cons, Bool.and_eq_true] at hd
    exact of_decide_eq_true hd.1
   have h45 : (b == 45) = false := by
    rw [beq_eq_false_iff_ne]; intro e; subst e; exact absurd hb.1 (by decide)
   have h43 : (b == 43) = false := by
    rw [beq_eq_false_iff_ne]; intro e; subst e; exact absurd hb.1 (by decide)
   have e : Lib.atoi (b :: r) = (Lib.decNat (b :: r)).map fun (m : Nat) => (m : Int) := by
    show (if (b == 45) = true then _ else if (b == 43) = true then _ else _) = _
    rw [h45, h43]; rfl
   have e2 : Lib.decNat (b :: r) = some (numB 0 (b :: r)) := decFrom_dig _ _ hd
   rw [e, e2]
   rfl
def pre : Nat → List UInt8
 | 0 => [114, 97, 119, 47]
 | 1 => [116, 49, 47]
 | _ => [116, 50, 47]
def keyB (t n w : Nat) : List UInt8 := pre t ++ (six6 n ++ 45 :: six6 w)
def restK (t : Nat) (r : List UInt8) : Option (Nat × Nat × Nat) :=
 if r.length = 13 ∧ ix r 6 = 45 ∧ (r.take 6).all dig = true ∧ (r.drop 7).all dig = true then some (t, numB 0 (r.take 6), numB 0 (r.drop 7)) else none
def tryK (j : Nat) (key : List UInt8) : Option (Nat × Nat × Nat) := if Lib.hasPrefix key (pre j) = true then restK j (key.drop (pre j).length) else none
def parseKey (key : List UInt8) : Option (Nat × Nat × Nat) :=
 match tryK 0 key with | some q => some q | none => match tryK 1 key with | some q => some q | none => tryK 2 key
theorem hasPrefix_app {p k : List UInt8} (h : Lib.hasPrefix k p = true) : k = p ++ k.drop p.length := by
 unfold Lib.hasPrefix at h
 have := List.isPrefixOf_iff_prefix.1 h
 obtain ⟨t, rfl⟩ := this
 simp
theorem restK_some {t : Nat} {r : List UInt8} {q : Nat × Nat × Nat} (h : restK t r = some q) : q.1 = t ∧ q.2.1 ≤ 999999 ∧ q.2.2 ≤ 999999 ∧ r = six6 q.2.1 ++ 45 :: six6 q.2.2 := by
 unfold restK at h
 split at h
 · rename_i hc
   obtain ⟨h1, h2, h3, h4⟩ := hc
   cases h
   have a := six6_numB (l := r.take 6) (by simp; omega) h3
   have b := six6_numB (l := r.drop 7) (by simp; omega) h4
   refine ⟨rfl, a.1, b.1, ?_⟩
   simp only
   rw [a.2, b.2]
   have e : r.drop 6 = 45 :: r.drop 7 := by rw [drop_ix (by omega), h2]
   rw [← e, List.take_append_drop]
 · cases h
theorem tryK_some {j : Nat} {k : List UInt8} {q : Nat × Nat × Nat} (h : tryK j k = some q) : q.1 = j ∧ k = keyB j q.2.1 q.2.2 ∧ q.2.1 ≤ 999999 ∧ q.2.2 ≤ 999999 := by
 unfold tryK at h
 split at h
 · rename_i h0
   obtain ⟨e1, e2, e3, e4⟩ := restK_some h
   refine ⟨e1, ?_, e2, e3⟩
   rw [hasPrefix_app h0, e4]; rfl
 · cases h
theorem key_parse {k : List UInt8} {t n w : Nat} (h : parseKey k = some (t, n, w)) : k = keyB t n w ∧ t ≤ 2 ∧ n ≤ 999999 ∧ w ≤ 999999 := by
 unfold parseKey at h
 split at h
 · rename_i h0
   cases h
   obtain ⟨e1, e2, e3, e4⟩ := tryK_some h0
   simp only at e1 e2 e3 e4; subst e1
   exact ⟨e2, by omega, e3, e4⟩
 split at h
 · rename_i h0
   cases h
   obtain ⟨e1, e2, e3, e4⟩ := tryK_some h0
   simp only at e1 e2 e3 e4; subst e1
   exact ⟨e2, by omega, e3, e4⟩
 · obtain ⟨e1, e2, e3, e4⟩ := tryK_some h
   simp only at e1 e2 e3 e4; subst e1
   exact ⟨e2, by omega, e3, e4⟩
theorem restK_six {t n w : Nat} (hn : n ≤ 999999) (hw : w ≤ 999999) : restK t (six6 n ++ 45 :: six6 w) = some (t, n, w) := by
 have h1 : (six6 n ++ 45 :: six6 w).length = 13 := rfl
 have h2 : ix (six6 n ++ 45 :: six6 w) 6 = 45 := rfl
 have h3 : (six6 n ++ 45 :: six6 w).take 6 = six6 n := rfl
 have h4 : (six6 n ++ 45 :: six6 w).drop 7 = six6 w := rfl
 unfold restK
 rw [h3, h4, if_pos ⟨h1, h2, six6_dig n, six6_dig w⟩, numB_six6 hn, numB_six6 hw]
theorem tryK_key {t j n w : Nat} (ht : t ≤ 2) (hj : j ≤ 2) (hn : n ≤ 999999) (hw : w ≤ 999999) : tryK j (keyB t n w) = if t = j then some (t, n, w) else none := by
 have h : t = 0 ∨ t = 1 ∨ t = 2 := by omega
 have h' : j = 0 ∨ j = 1 ∨ j = 2 := by omega
 have e4 : ∀ (a b c d : UInt8) (x : List UInt8), ([a, b, c, d] ++ x).drop 4 = x := fun a b c d x => rfl
 have e3 : ∀ (a b c : UInt8) (x : List UInt8), ([a, b, c] ++ x).drop 3 = x := fun a b c x => rfl
 unfold tryK keyB
 rcases h with rfl | rfl | rfl <;> rcases h' with rfl | rfl | rfl <;>
  first
  | (rw [if_neg (by simp [Lib.hasPrefix, pre])]; rfl)
  | (rw [if_pos (by simp [Lib.hasPrefix, pre]), if_pos rfl, ← restK_six hn hw]; rfl)
theorem parse_key {t n w : Nat} (ht : t ≤ 2) (hn : n ≤ 999999) (hw : w ≤ 999999) : parseKey (keyB t n w) = some (t, n, w) := by
 have h : t = 0 ∨ t = 1 ∨ t = 2 := by omega
 unfold parseKey
 rw [tryK_key ht (by omega) hn hw, tryK_key ht (by omega) hn hw, tryK_key ht (by omega) hn hw]
 rcases h with rfl | rfl | rfl <;> rfl
theorem parse_none {k : List UInt8} (h : ∀ j, j < 3 → tryK j k = none) : parseKey k = none := by
 unfold parseKey; rw [h 0 (by omega), h 1 (by omega), h 2 (by omega)]
theorem tryK_parse {j : Nat} (hj : j < 3) {k : List UInt8} {q : Nat × Nat × Nat} (h : tryK j k = some q) : parseKey k = some (j, q.2.1, q.2.2) := by
 obtain ⟨e1, e2, e3, e4⟩ := tryK_some h
 rw [e2, parse_key (by omega) e3 e4]
theorem B_toList (a : List UInt8) : (B a).toList = a := by rw [Go.ByteArray.toList_eq, B_data]
theorem B_eq {a b : List UInt8} : ((B a).toList == (B b).toList) = decide (a = b) := by rw [B_toList, B_toList]; by_cases h : a = b <;> simp [h]
theorem B_extract (l : List UInt8) (a b : Nat) : (B l).extract a b = B ((l.drop a).take (b - a)) := by
 apply ByteArray.ext; rw [ByteArray.data_extract]; simp [B]
def kT (k : List UInt8) : Int := match parseKey k with | some q => q.1 | none => 0
def kN (k : List UInt8) : Int := match parseKey k with | some q => q.2.1 | none => 0
def kW (k : List UInt8) : Int := match parseKey k with | some q => q.2.2 | none => 0
def kOk (k : List UInt8) : Bool := (parseKey k).isSome
def cutP (c : UInt8) : List UInt8 → List UInt8 → List (List UInt8)
 | cur, [] => [cur]
 | cur, x :: r => if x = c then cur :: cutP c [] r else cutP c (cur ++ [x]) r
theorem cutP_none (c : UInt8) : ∀ (l cur : List UInt8), (∀ x ∈ l, x ≠ c) → cutP c cur l = [cur ++ l]
 | [], cur, _ => by simp [cutP]
 | x :: r, cur, h => by
   unfold cutP; rw [if_neg (h x (by simp)), cutP_none c r _ (fun y hy => h y (by simp [hy]))]; simp
theorem cutP_app (c : UInt8) : ∀ (a cur b : List UInt8), (∀ x ∈ a, x ≠ c) → cutP c cur (a ++ c :: b) = (cur ++ a) :: cutP c [] b
 | [], cur, b, _ => by simp [cutP]
 | x :: r, cur, b, h => by
   have : cutP c cur (x :: (r ++ c :: b)) = if x = c then cur :: cutP c [] (r ++ c :: b) else cutP c (cur ++ [x]) (r ++ c :: b) := rfl
   rw [List.cons_append, this, if_neg (h x (by simp)), cutP_app c r _ b (fun y hy => h y (by simp [hy]))]; simp
theorem dig_ne {x c : UInt8} (h : dig x = true) (hc : c.toNat < 48 ∨ 57 < c.toNat) : x ≠ c := by
 have := of_decide_eq_true h
 intro e; subst e; omega
theorem six6_ne {n : Nat} {c : UInt8} (hc : c.toNat < 48 ∨ 57 < c.toNat) : ∀ x ∈ six6 n, x ≠ c := fun x hx => dig_ne (List.all_eq_true.1 (six6_dig n) x hx) hc
def preW : Nat → List UInt8
 | 0 => [114, 97, 119]
 | 1 => [116, 49]
 | _ => [116, 50]
theorem cut_key {t n w : Nat} (ht : t ≤ 2) : cutP 47 [] (keyB t n w) = [preW t, six6 n ++ 45 :: six6 w] := by
 have h : t = 0 ∨ t = 1 ∨ t = 2 := by omega
 have e : keyB t n w = preW t ++ 47 :: (six6 n ++ 45 :: six6 w) := by
  rcases h with rfl | rfl | rfl <;> rfl
 rw [e, cutP_app _ _ _ _ (by rcases h with rfl | rfl | rfl <;> decide), cutP_none _ _ _ ?_]; · rfl
 intro x hx
 simp only [List.mem_append, List.mem_cons] at hx
 rcases hx with hx | rfl | hx
 · exact six6_ne (by decide) x hx
 · decide
 · exact six6_ne (by decide) x hx
end Go.Vw

namespace Go.Vw
open Go
@[reducible] def Tabs.and {P : Program} (A B : Tabs P) : Tabs P where
  tab := fun b => A.tab b ∨ B.tab b
  J := fun w => A.J w ∧ B.J w
  lt := fun w b h e => e.elim (A.lt w b h.1) (B.lt w b h.2)
  stay := fun w w' h hs => ⟨A.stay w w' h.1 fun b hb => hs b (.inl hb), B.stay w w' h.2 fun b hb => hs b (.inr hb)⟩
def HasErr (P : Program) (name : String) (w : World) : Prop := ∃ tp p, w.var? P name = some #[.iface tp p]
@[reducible] def Tabs.err {P : Program} (g : Nat) (name : String) (hg : P.globalNamed name = some g) : Tabs P where
  tab := fun b => b = g
  J := fun w => HasErr P name w
  lt := fun w b h e => by
   subst e
   obtain ⟨tp, p, h⟩ := h
   unfold World.var? at h
   rw [hg] at h
   simp only [Option.bind_some] at h
   rcases Nat.lt_or_ge b w.heap.size with hl | hl
   · exact hl
   · have : w.heap[b]? = none := by simp [hl]
     rw [this] at h; cases h
  stay := fun w w' h hs => by
   obtain ⟨tp, p, h⟩ := h
   refine ⟨tp, p, ?_⟩
   unfold World.var? at *
   rw [hg] at *
   simp only [Option.bind_some] at *
   rw [hs g rfl]; exact h
def HasInt (g : Nat) (w : World) : Prop := ∃ m, w.cell? ⟨g, 0, none⟩ = some (.int .i64 m)
@[reducible] def Tabs.num {P : Program} (g : Nat) : Tabs P where
  tab := fun b => b = g
  J := fun w => HasInt g w
  lt := fun w b h e => by
   subst e
   obtain ⟨m, h⟩ := h
   rcases Nat.lt_or_ge b w.heap.size with hl | hl
   · exact hl
   · have : w.heap[b]? = none := by simp [hl]
     unfold World.cell? at h
     rw [this] at h; cases h
  stay := fun w w' h hs => by
   obtain ⟨m, h⟩ := h
   exact ⟨m, (World.cell?_of_block (w := w) (w' := w') (a := ⟨g, 0, none⟩) (hs g rfl)).trans h⟩
theorem ifc_of_trod {H : Type} {enc : TypeId × Value → H} {P : Program} {w : World} {base : Nat} {sp : Nat → Bool} {held : Bool} {fuel : Nat} {t : TypeId} {cs : List Value} {nm : String} {d : DataW H} {p : List MemPlace}
 (ht : (match P.underlying t with | some (.interface _) => true | _ => false) = true)
 (h : DataW.trod enc P w base sp held fuel t cs = some (.iface nm d, p)) : ∃ u v, cs = [.iface u v] := by
 cases fuel with
 | zero => simp [DataW.trod] at h
 | succ fuel =>
   revert ht
   cases hu : P.underlying t with
   | none => intro ht; cases ht
   | some x =>
     cases x with
     | interface _ =>
       intro _
       unfold DataW.trod at h
       rw [hu] at h
       match cs, h with
       | [], h => cases h
       | [.iface u v], h => exact ⟨u, v, rfl⟩
       | [.nilIface], h => cases h
       | [.int _ _], h => cases h
       | _ :: _ :: _, h => simp at h
       | [.bool _], h => cases h
     | _ => intro ht; cases ht
end Go.Vw

namespace Go.Vw
open Go
section
variable {H : Type} {enc : TypeId × Value → H} {P : Program} {w : World}
end
def sumL {α : Type} (f : α → Nat) (L : List α) : Nat := (L.map f).sum
end Go.Vw

namespace Go.Vw
open Go
theorem numB_snoc' : ∀ (l : List UInt8) (n : Nat) (c : UInt8), numB n (l ++ [c]) = numB n l * 10 + (c.toNat - 48)
 | [], n, c => rfl
 | x :: r, n, c => numB_snoc' r _ c
theorem dd_num : ∀ u : Nat, numB 0 (Lib.decDigits u) = u ∧ (Lib.decDigits u).all dig = true ∧ Lib.decDigits u ≠ [] := by
 intro u
 induction u using Nat.strongRecOn with
 | _ u ih =>
   by_cases h : u < 10
   · rw [dd_base h]
     refine ⟨?_, by simp [d1_dig], by simp⟩
     show 0 * 10 + ((d1 u).toNat - 48) = u
     rw [d1_toNat]; omega
   · rw [dd_step h]
     obtain ⟨h1, h2, h3⟩ := ih (u / 10) (by omega)
     refine ⟨?_, by rw [List.all_append, h2]; simp [d1_dig], by simp⟩
     rw [numB_snoc', h1, d1_toNat]; omega
theorem dd_len18 {u : Nat} (h : u ≤ 999999999999999999) : (Lib.decDigits u).length ≤ 18 := dd_len 17 u (by simp; omega)
theorem decNat_dig {l : List UInt8} (h0 : l ≠ []) (hd : l.all dig = true) : Lib.decNat l = some (numB 0 l) := by
 cases l with
 | nil => exact absurd rfl h0
 | cons b r => exact decFrom_dig _ _ hd
theorem atoiAll_itoa {n : Int} (h0 : -999999999999999999 ≤ n) (h1 : n ≤ 999999999999999999) : Lib.atoiAll (Lib.itoa n) = .ok n := by
 by_cases hn : n < 0
 · obtain ⟨u, rfl⟩ : ∃ u : Nat, n = -(u : Int) := ⟨n.natAbs, by omega⟩
   obtain ⟨e1, e2, e3⟩ := dd_num u
   rw [Lib.itoa_neg u (by omega), Lib.atoiAll_minus, Lib.signed_short (dd_len18 (by omega)), decNat_dig e3 e2, e1]
   rfl
 · obtain ⟨u, rfl⟩ : ∃ u : Nat, n = (u : Int) := ⟨n.toNat, by omega⟩
   obtain ⟨e1, e2, e3⟩ := dd_num u
   rw [Lib.itoa_nonneg, atoi_dig e3 (dd_len18 (by omega)) e2, e1]
theorem itoa_ne {n : Int} {c : UInt8} (h45 : c ≠ 45) (hc : c.toNat < 48 ∨ 57 < c.toNat) : ∀ x ∈ Lib.itoa n, x ≠ c := by
 intro x hx
 by_cases hn : n < 0
 · obtain ⟨u, rfl⟩ : ∃ u : Nat, n = -(u : Int) := ⟨n.natAbs, by omega⟩
   rw [Lib.itoa_neg u (by omega)] at hx
   rcases List.mem_cons.1 hx with rfl | hx
   · exact fun e => h45 e.symm
   · exact dig_ne (List.all_eq_true.1 (dd_num u).2.1 x hx) hc
 · obtain ⟨u, rfl⟩ : ∃ u : Nat, n = (u : Int) := ⟨n.toNat, by omega⟩
   rw [Lib.itoa_nonneg] at hx
   exact dig_ne (List.all_eq_true.1 (dd_num u).2.1 x hx) hc
def numOk (t : List UInt8) : Bool := atoiOk t && (decide (Lib.itoa (atoiV t) = t) && within (atoiV t) (-999999999999999999) 999999999999999999)
theorem num_back {n : Int} (h0 : -999999999999999999 ≤ n) (h1 : n ≤ 999999999999999999) : numOk (Lib.itoa n) = true ∧ atoiV (Lib.itoa n) = n := by
 have h := atoiAll_itoa h0 h1
 have e : atoiV (Lib.itoa n) = n := by unfold atoiV; rw [h]
 refine ⟨?_, e⟩
 unfold numOk
 rw [e, show atoiOk (Lib.itoa n) = true by unfold atoiOk; rw [h]]
 simp [within, h0, h1]
theorem num_of {t : List UInt8} (h : numOk t = true) : ∃ n, t = Lib.itoa n ∧ atoiV t = n ∧ -999999999999999999 ≤ n ∧ n ≤ 999999999999999999 := by
 unfold numOk at h
 simp [within] at h
 exact ⟨_, h.2.1.symm, rfl, h.2.2.1, h.2.2.2⟩
theorem cutP_len (c : UInt8) : ∀ (l cur : List UInt8), 1 ≤ (cutP c cur l).length ∧ (cutP c cur l).length ≤ l.length + 1
 | [], cur => by simp [cutP]
 | x :: r, cur => by
   unfold cutP
   split
   · have := cutP_len c r []; simp; omega
   · have := cutP_len c r (cur ++ [x]); simp; omega
theorem first_c (c : UInt8) (l : List UInt8) : (∀ x ∈ l, x ≠ c) ∨ ∃ a b, l = a ++ c :: b ∧ ∀ x ∈ a, x ≠ c := by
 induction l with
 | nil => exact .inl (by simp)
 | cons x r ih =>
   by_cases h : x = c
   · exact .inr ⟨[], r, by rw [h]; rfl, by simp⟩
   · rcases ih with ih | ⟨a, b, e, ha⟩
     · exact .inl fun y hy => by rcases List.mem_cons.1 hy with rfl | hy; exact h; exact ih y hy
     · exact .inr ⟨x :: a, b, by rw [e]; rfl, fun y hy => by rcases List.mem_cons.1 hy with rfl | hy; exact h; exact ha y hy⟩
theorem index_none (c : UInt8) : ∀ (l : List UInt8), (∀ x ∈ l, x ≠ c) → Lib.index l [c] = -1
 | [], _ => rfl
 | x :: r, h => by
   have hx : (c == x) = false := by rw [beq_eq_false_iff_ne]; exact fun e => h x (by simp) e.symm
   unfold Lib.index
   rw [index_none c r fun y hy => h y (by simp [hy])]
   simp [List.isPrefixOf, hx]
theorem index_at (c : UInt8) : ∀ (a b : List UInt8), (∀ x ∈ a, x ≠ c) → Lib.index (a ++ c :: b) [c] = a.length
 | [], b, _ => by simp [Lib.index, List.isPrefixOf]
 | x :: r, b, h => by
   have hx : (c == x) = false := by rw [beq_eq_false_iff_ne]; exact fun e => h x (by simp) e.symm
   rw [List.cons_append]
   unfold Lib.index
   rw [index_at c r b fun y hy => h y (by simp [hy])]
   simp only [List.isPrefixOf, hx]
   rw [if_neg (by simp), if_neg (by simp <;> omega)]
   simp
theorem splitK_cut (c : UInt8) : ∀ (k : Nat) (l : List UInt8), ((cutP c [] l).length ≤ k + 1 → Lib.splitK [c] 0 k l = cutP c [] l) ∧ (k + 1 < (cutP c [] l).length → (Lib.splitK [c] 0 k l).length = k + 1)
 | 0, l => by
   rcases first_c c l with h | ⟨a, b, rfl, ha⟩
   · rw [cutP_none c l [] h]; simp [Lib.splitK]
   · rw [cutP_app c a [] b ha]
     have := cutP_len c b []
     exact ⟨fun h => absurd h (by simp only [List.length_cons]; omega), fun _ => rfl⟩
 | k + 1, l => by
   rcases first_c c l with h | ⟨a, b, rfl, ha⟩
   · rw [cutP_none c l [] h]
     unfold Lib.splitK
     rw [index_none c l h]; simp
   · rw [cutP_app c a [] b ha]
     have ih := splitK_cut c k b
     have e : Lib.splitK [c] 0 (k + 1) (a ++ c :: b) = a :: Lib.splitK [c] 0 k b := by
      rw [Lib.splitK, index_at c a b ha, if_neg (by simp <;> omega)]
      simp
     rw [e]
     simp only [List.nil_append, List.length_cons]
     refine ⟨fun h => by rw [ih.1 (by omega)], fun h => by rw [ih.2 (by omega)]⟩
theorem splitN_len (c : UInt8) (l : List UInt8) (m : Nat) : (Lib.splitN l [c] (m + 1)).length = m ↔ (cutP c [] l).length = m := by
 have h1 := cutP_len c l []
 have h := splitK_cut c (min (m + 1) (l.length + 1) - 1) l
 unfold Lib.splitN
 rcases Nat.lt_or_ge (min (m + 1) (l.length + 1) - 1 + 1) (cutP c [] l).length with h2 | h2
 · rw [h.2 h2]; omega
 · rw [h.1 h2]
theorem splitN_eq (c : UInt8) (l : List UInt8) (m : Nat) (hm : (cutP c [] l).length = m) : Lib.splitN l [c] (m + 1) = cutP c [] l := by
 have h1 := cutP_len c l []
 have h := splitK_cut c (min (m + 1) (l.length + 1) - 1) l
 unfold Lib.splitN
 exact h.1 (by omega)
theorem cut_join (c : UInt8) : ∀ (L : List (List UInt8)), L ≠ [] → (∀ x ∈ L, ∀ b ∈ x, b ≠ c) → cutP c [] (Lib.join L [c]) = L
 | [], h, _ => absurd rfl h
 | [a], _, h => by
   rw [Lib.join_one, cutP_none c a [] (h a (by simp))]; simp
 | a :: b :: r, _, h => by
   have ih := cut_join c (b :: r) (by simp) (fun x hx => h x (by simp [hx]))
   have e : Lib.join (a :: b :: r) [c] = a ++ c :: Lib.join (b :: r) [c] := by simp [Lib.join, List.intercalate, List.intersperse]
   rw [e, cutP_app c a [] _ (h a (by simp)), ih]; simp
def numsK (c : UInt8) (m : Nat) (t : List UInt8) : Option (List Int) := if (cutP c [] t).length = m ∧ (cutP c [] t).all numOk = true then some ((cutP c [] t).map atoiV) else none
theorem nums_back {c : UInt8} (h45 : c ≠ 45) (hc : c.toNat < 48 ∨ 57 < c.toNat) {N : List Int} (h0 : N ≠ []) (hN : ∀ n ∈ N, -999999999999999999 ≤ n ∧ n ≤ 999999999999999999) : numsK c N.length (Lib.join (N.map Lib.itoa) [c]) = some N := by
 have h := cut_join c (N.map Lib.itoa) (by simpa using h0) (fun x hx b hb => by
  obtain ⟨n, _, rfl⟩ := List.mem_map.1 hx
  exact itoa_ne h45 hc b hb)
 unfold numsK
 rw [h, if_pos ⟨by simp, List.all_eq_true.2 fun x hx => by
  obtain ⟨n, hn, rfl⟩ := List.mem_map.1 hx
  exact (num_back (hN n hn).1 (hN n hn).2).1⟩, List.map_map]
 congr 1
 exact (List.map_congr_left fun n hn => (num_back (hN n hn).1 (hN n hn).2).2).trans (List.map_id' N)
end Go.Vw

namespace Go.Vw
open Go
section
variable {w : World} {ok ok' : Nat → Prop} {g g' : Nat → Option Gh} {σ : Nat → Nat}
mutual
theorem RV.rn (hok : ∀ b, ok b → ok' b) (hg : ∀ m G, g m = some G → g' (σ m) = some G) : ∀ (x : AV) (v : Value), RV w ok g x v → RV w ok' g' (x.ren σ) v
 | .any, _, _ => trivial
 | .int _ _, _, h => h
 | .bool _, _, h => h
 | .str _, _, h => h
 | .agg cs, _, ⟨vs, e, h⟩ => ⟨vs, e, RVs.rn hok hg cs vs h⟩
 | .tup cs, _, ⟨vs, e, h⟩ => ⟨vs, e, RVs.rn hok hg cs vs h⟩
 | .nilsl, _, h => h
 | .sl sz n rows, v, h => RV.mono hok (fun _ _ => rfl) G0 g' (fun _ _ h => by cases h) (.sl sz n rows) v h
 | .osl m, _, ⟨G, hm, e⟩ => ⟨G, hg m G hm, e⟩
 | .eptr row off, v, h => RV.mono hok (fun _ _ => rfl) G0 g' (fun _ _ h => by cases h) (.eptr row off) v h
 | .bptr m off, _, ⟨G, b, hm, hb, e⟩ => ⟨G, b, hg m G hm, hb, e⟩
 | .aptr m sz i off, _, ⟨G, b, hm, hb, e⟩ => ⟨G, b, hg m G hm, hb, e⟩
 | .vw m sz i n, _, ⟨G, hm, hb, e⟩ => ⟨G, hg m G hm, hb, e⟩
 | .nilptr, _, h => h
 | .iface _ x, _, ⟨u, e, h⟩ => ⟨u, e, RV.rn hok hg x u h⟩
 | .niliface, _, h => h
 | .fn _ xs ys, _, ⟨us, vs, e, h1, h2⟩ => ⟨us, vs, e, RVs.rn hok hg xs us h1, RVs.rn hok hg ys vs h2⟩
 | .nilfn, _, h => h
 | .omap m, _, ⟨G, b, hm, hb, e⟩ => ⟨G, b, hg m G hm, hb, e⟩
 | .undef, _, h => h
 | .lo, _, h => h
theorem RVs.rn (hok : ∀ b, ok b → ok' b) (hg : ∀ m G, g m = some G → g' (σ m) = some G) : ∀ (xs : List AV) (vs : List Value), RVs w ok g xs vs → RVs w ok' g' (AV.rens σ xs) vs
 | [], _, h => h
 | x :: xs, _, ⟨v, us, e, h1, h2⟩ => ⟨v, us, e, RV.rn hok hg x v h1, RVs.rn hok hg xs us h2⟩
end
theorem MRel.rn {G : Gh} {mo : MO} (hok : ∀ b, ok b → ok' b) (hg : ∀ m G, g m = some G → g' (σ m) = some G) (h : MRel w ok g G mo) : MRel w ok' g' G (mo.ren σ) := by
 cases mo with
 | box cs =>
   obtain ⟨b, vs, ty, h1, h2, h3⟩ := h
   exact ⟨b, vs, ty, h1, h2, RVs.rn hok hg cs vs h3⟩
 | arr e sz n rows =>
   obtain ⟨h0, h⟩ := h
   refine ⟨h0, h.imp id fun ⟨b, cur, h1, h2, h3, h4, h5, h6⟩ => ⟨b, cur, h1, h2, h3, h4, h5, fun i hi => ?_⟩⟩
   obtain ⟨vs, k1, k2, k3⟩ := h6 i hi
   exact ⟨vs, k1, RVs.mono hok (fun _ _ => rfl) G0 G0 (fun _ _ h => h) _ _ k2, k3⟩
 | arrc e sz n c rows =>
   obtain ⟨hc0, h0, h⟩ := h
   refine ⟨hc0, h0, h.imp id fun ⟨b, cur, h1, h2, h3, h4, h5, h6⟩ => ⟨b, cur, h1, h2, h3, h4, h5, fun i hi => ?_⟩⟩
   obtain ⟨vs, k1, k2, k3⟩ := h6 i hi
   exact ⟨vs, k1, RVs.mono hok (fun _ _ => rfl) G0 G0 (fun _ _ h => h) _ _ k2, k3⟩
 | imap ks => exact h
 | smap ks => exact h
end
def keepO (kl : List (Nat × Nat)) : List (Nat × MO) → List (Nat × MO)
 | [] => []
 | (m, o) :: r => match kL kl m with | some _ => (m, o) :: keepO kl r | none => keepO kl r
theorem look_keepO {kl : List (Nat × Nat)} : ∀ {ob : List (Nat × MO)} {m : Nat} {mo : MO}, look (keepO kl ob) m = some mo → kL kl m ≠ none ∧ look ob m = some mo
 | [], m, mo, h => by cases h
 | (k, o) :: r, m, mo, h => by
   unfold keepO at h
   split at h
   · rename_i q hq
     rw [look_cons] at h ⊢
     split at h
     · rename_i e
       cases h
       rw [if_pos e]
       exact ⟨by rw [show m = k from e, hq]; simp, rfl⟩
     · rename_i e
       rw [if_neg e]
       exact look_keepO h
   · rename_i hq
     have := look_keepO h
     refine ⟨this.1, ?_⟩
     rw [look_cons]
     split
     · rename_i e
       exact absurd (by rw [e]; exact hq) this.1
     · exact this.2
def keepS (kl : List (Nat × Nat)) (st : St) : St := { tm := fun _ => .any, ob := keepO kl st.ob, next := st.next, n := st.n }
theorem callK {P : Program} [Tabs P] {F : FuncId} {nb nx : Nat} {args l : List AV} {O O' : List (Nat × MO)} {r : AV} {st : St} {d : Option Tmp} (kl : List (Nat × Nat)) (h : FnM P F nb args O r O' nx) (hkl : klOK nb kl = true) (hcov : covB O nb = true)
 (ha : AVsle (AV.fzs (keepO kl st.ob) (kL kl) l) args) (hO : allO ((keepS kl st).fz (kL kl) nb) O) (hd : dstOK d st.n = true) :
 CallR P F l st d (({ tm := st.tm, ob := renOb (backN kl nb st.next) O' ++ delK kl st.ob, next := st.next + nx, n := st.n } : St).put d (r.ren (backN kl nb st.next))) := by
 refine ⟨h.1, fun gb w0 gr ok0 g ok a w vs hj hrep hargs => ?_⟩
 obtain ⟨k1, k2⟩ := kl_spec hkl
 -- the callee's view; of the base names nothing is asked here
 have hrep0 : Rep (fun _ => none) w0 gr ok0 st g ok a w := ⟨hrep.tm, hrep.obs, hrep.own, hrep.fresh, fun _ _ e => (by cases e), hrep.frm, hrep.df, hrep.n, hrep.okf⟩
 have hrepW := hrep0.weak (st' := keepS kl st) (fun t => AVle.any _) (fun m mo hm => ⟨mo, (look_keepO hm).2, MOle.refl _⟩) (Nat.le_refl _) rfl
 obtain ⟨gc, okc, hr1, hx, hgc, hokc0⟩ := hrepW.fz (kL kl) (iL kl) nb k1 k2 (fun _ _ e => (by cases e))
 have hokc : ∀ b, okc b → ok b := fun b hb => by
  rcases hokc0 b hb with h' | ⟨m, mo, G, e1, e2, _⟩
  · exact h'
  · exact absurd e1 (look_keepO e2).1
 have hr2 := hr1.weak (st' := mkSt [] O nb st.n) (fun t => AVle.any _) (allO_spec hO) (Nat.le_refl _) rfl
 have hargs' : ∀ (l : List AV) (vs : List Value), RVs w ok g l vs → RVs w okc gc (AV.fzs (keepO kl st.ob) (kL kl) l) vs := by
  intro l
  induction l with
  | nil => exact fun vs h => h
  | cons x xs ih => rintro vs ⟨v, us, e, h1, h2⟩; exact ⟨v, us, e, hx x v h1, ih us h2⟩
 have hobs : Obs O gc okc w := hr2.obs
 -- a granted block is that of an object of the caller's that was handed over
 have hgr : ∀ b, grO O gc b → ∃ m mo G, kL kl m ≠ none ∧ look st.ob m = some mo ∧ g m = some G ∧ G.b = some b := by
  rintro b ⟨k, mo, G, hk, hG, hb⟩
  obtain ⟨mo1, hl1, _⟩ := allO_spec hO k mo hk
  obtain ⟨m, p, e1, e2', _⟩ := look_fzOb k1 (keepO kl st.ob) k mo1 hl1
  have e2 := (look_keepO e2').2
  rw [hgc k, (k1 m k).1 e1] at hG
  exact ⟨m, p, G, by rw [e1]; simp, e2, hG, hb⟩
 have hJ : Tabs.J P w ∧ ∀ b, Tabs.tab P b → ¬ grO O gc b := by
  refine ⟨hj.now hrep.frm, fun b hb hg => ?_⟩
  obtain ⟨m, mo, G, _, h2, h3, h4⟩ := hgr b hg
  rcases hrep.own m mo G b h2 h3 h4 with h5 | h5
  · have := Tabs.lt w0 b hj.1 hb; omega
  · exact hj.2 b hb h5
 refine (h.2 w okc gc vs hJ hr2.obs hr2.fresh (ha _ _ _ _ (hargs' l vs hargs))).mono ?_
 rintro e w' ⟨v, g', ok', rfl, hfm, hob, hext, hfr, hv, hown, hokn⟩
 have hngr : ∀ b, ok b → ¬ grO O gc b := fun b hb hg => by
  obtain ⟨m, mo, G, _, h2, h3, h4⟩ := hgr b hg
  exact (hrep.obs.okb b hb).2 m mo G h2 h3 h4
 have hokw : ∀ b, ok b → w'.heap[b]? = w.heap[b]? := fun b hb => hfm.old b (hrep.obs.okb b hb).1 (hngr b hb)
 let ok2 : Nat → Prop := fun b => ok b ∨ ok' b
 have hok' : ∀ b, ok' b → ok b ∨ grO O gc b ∨ w.heap.size ≤ b := fun b hb => (hokn b hb).imp (hokc b) id
 let σ := backN kl nb st.next
 let g2 : Nat → Option Gh := fun m => if m < st.next then g m else g' (m - st.next + nb)
 have hlow : ∀ m G, g m = some G → m < st.next := fun m G hm => Nat.lt_of_not_le fun hle => by rw [hrep.fresh m hle] at hm; cases hm
 have hg2 : ∀ m G, g m = some G → g2 m = some G := fun m G hm => by
  show (if _ then _ else _) = _
  rw [if_pos (hlow m G hm)]; exact hm
 have hσ : ∀ k G, g' k = some G → g2 (σ k) = some G := fun k G hk => by
  show g2 (backN kl nb st.next k) = _
  unfold backN
  rcases Nat.lt_or_ge k nb with hlt | hge
  · obtain ⟨mo, hmo⟩ := covB_spec hcov k hlt
    obtain ⟨K, hK, _⟩ := hobs.rel k mo hmo
    have e1 := hext k K hK
    rw [hk] at e1; cases e1
    rw [hgc k] at hK
    cases hi : iL kl k with
    | none => rw [hi] at hK; cases hK
    | some m => rw [hi] at hK; exact hg2 m G hK
  · cases hi : iL kl k with
    | some m => have := k2 m k ((k1 m k).2 hi); omega
    | none =>
      show (if st.next + (k - nb) < st.next then g (st.next + (k - nb)) else g' (st.next + (k - nb) - st.next + nb)) = _
      rw [if_neg (by omega)]
      rw [show st.next + (k - nb) - st.next + nb = k by omega]; exact hk
 have hnew : ∀ m mo', look (renOb σ O') m = some mo' → ∃ k mo G, σ k = m ∧ look O' k = some mo ∧ g' k = some G ∧ g2 m = some G ∧ MRel w' ok2 g2 G mo' := fun m mo' hm => by
  obtain ⟨k, mo, e1, e2, e3⟩ := look_renOb hm
  obtain ⟨G, hG, hrel⟩ := hob.rel k mo e2
  refine ⟨k, mo, G, e1, e2, hG, by rw [← e1]; exact hσ k G hG, ?_⟩
  rw [e3]; exact hrel.rn (fun _ h => .inr h) hσ
 have hold : ∀ m mo, look (delK kl st.ob) m = some mo → ∃ G, look st.ob m = some mo ∧ kL kl m = none ∧ g m = some G ∧ g2 m = some G ∧ MRel w' ok2 g2 G mo ∧ ∀ b, G.b = some b → b < w.heap.size ∧ ¬ grO O gc b := fun m mo hm => by
  obtain ⟨e1, e2⟩ := look_delK hm
  obtain ⟨G, hG, hrel⟩ := hrep.obs.rel m mo e1
  have hng : ∀ b, G.b = some b → b < w.heap.size ∧ ¬ grO O gc b := fun b hb => by
   refine ⟨hrep.obs.lt m mo G b e1 hG hb, fun hg => ?_⟩
   obtain ⟨m', mo', G', h1, h2, h3, h4⟩ := hgr b hg
   have := hrep.obs.sep m m' mo mo' G G' b e1 h2 hG h3 hb h4
   subst this; exact h1 e2
  exact ⟨G, e1, e2, hG, hg2 m G hG, MRel.mono (fun _ h => .inl h) hokw hg2 (fun b hb => hfm.old b (hng b hb).1 (hng b hb).2) hrel, hng⟩
 have hnewb : ∀ k mo G b, look O' k = some mo → g' k = some G → G.b = some b → w.heap.size ≤ b ∨ grO O gc b := hown
 have core : Rep gb w0 gr ok0 { tm := st.tm, ob := renOb σ O' ++ delK kl st.ob, next := st.next + nx, n := st.n } g2 ok2 a w' := by
  refine ⟨fun t => RV.mono (fun _ h => .inl h) hokw g g2 hg2 _ _ (hrep.tm t), ⟨fun m mo hm => ?_, fun m m' mo mo' G G' b hm hm' hG hG' hb hb' => ?_, fun b hb => ⟨hb.elim (fun hb => Nat.lt_of_lt_of_le (hrep.obs.okb b hb).1 hfm.size) fun hb => (hob.okb b hb).1, fun m mo G hm hG e => ?_⟩, fun m mo G b hm hG hb => ?_⟩,
   fun m mo G b hm hG hb => ?_, fun m hm => ?_, fun m G hm => hg2 m G (hrep.base m G hm), ⟨hfm.os.trans hrep.frm.os, hfm.tape.trans hrep.frm.tape, hfm.output.trans hrep.frm.output, Nat.le_trans hrep.frm.size hfm.size, fun b hb hg => ?_⟩, hrep.df, hrep.n, fun b hb => ?_⟩
  · rcases look_app hm with hm | hm
    · obtain ⟨k, mo1, G, _, _, _, e4, e5⟩ := hnew m mo hm; exact ⟨G, e4, e5⟩
    · obtain ⟨G, _, _, _, e4, e5, _⟩ := hold m mo hm; exact ⟨G, e4, e5⟩
  · rcases look_app hm with hm | hm <;> rcases look_app hm' with hm' | hm'
    · obtain ⟨k, mo1, K, e1, e2, e3, e4, _⟩ := hnew m mo hm
      obtain ⟨k', mo1', K', e1', e2', e3', e4', _⟩ := hnew m' mo' hm'
      rw [hG] at e4; cases e4
      rw [hG'] at e4'; cases e4'
      have := hob.sep k k' mo1 mo1' _ _ b e2 e2' e3 e3' hb hb'
      rw [← e1, ← e1', this]
    · obtain ⟨k, mo1, K, e1, e2, e3, e4, _⟩ := hnew m mo hm
      obtain ⟨K', _, _, _, e4', _, hn'⟩ := hold m' mo' hm'
      rw [hG] at e4; cases e4
      rw [hG'] at e4'; cases e4'
      obtain ⟨n1, n2⟩ := hn' b hb'
      rcases hnewb k mo1 _ b e2 e3 hb with h' | h'
      · omega
      · exact absurd h' n2
    · obtain ⟨k, mo1, K, e1, e2, e3, e4, _⟩ := hnew m' mo' hm'
      obtain ⟨K', _, _, _, e4', _, hn'⟩ := hold m mo hm
      rw [hG'] at e4; cases e4
      rw [hG] at e4'; cases e4'
      obtain ⟨n1, n2⟩ := hn' b hb
      rcases hnewb k mo1 _ b e2 e3 hb' with h' | h'
      · omega
      · exact absurd h' n2
    · obtain ⟨K, a1, _, a3, a4, _, _⟩ := hold m mo hm
      obtain ⟨K', b1, _, b3, b4, _, _⟩ := hold m' mo' hm'
      rw [hG] at a4; cases a4
      rw [hG'] at b4; cases b4
      exact hrep.obs.sep m m' mo mo' _ _ b a1 b1 a3 b3 hb hb'
  · rcases hb with hb | hb
    · rcases look_app hm with hm | hm
      · obtain ⟨k, mo1, K, e1, e2, e3, e4, _⟩ := hnew m mo hm
        rw [hG] at e4; cases e4
        have := (hrep.obs.okb b hb).1
        rcases hnewb k mo1 _ b e2 e3 e with h' | h'
        · omega
        · exact hngr b hb h'
      · obtain ⟨K, a1, _, a3, a4, _, _⟩ := hold m mo hm
        rw [hG] at a4; cases a4
        exact (hrep.obs.okb b hb).2 m mo _ a1 a3 e
    · rcases look_app hm with hm | hm
      · obtain ⟨k, mo1, K, e1, e2, e3, e4, _⟩ := hnew m mo hm
        rw [hG] at e4; cases e4
        exact (hob.okb b hb).2 k mo1 _ e2 e3 e
      · obtain ⟨K, a1, _, a3, a4, _, hn'⟩ := hold m mo hm
        rw [hG] at a4; cases a4
        obtain ⟨n1, n2⟩ := hn' b e
        rcases hok' b hb with h' | h' | h'
        · exact (hrep.obs.okb b h').2 m mo _ a1 a3 e
        · exact n2 h'
        · omega
  · rcases look_app hm with hm | hm
    · obtain ⟨k, mo1, K, e1, e2, e3, e4, _⟩ := hnew m mo hm
      rw [hG] at e4; cases e4
      exact hob.lt k mo1 _ b e2 e3 hb
    · obtain ⟨K, a1, _, a3, a4, _, hn⟩ := hold m mo hm
      rw [hG] at a4; cases a4
      exact Nat.lt_of_lt_of_le (hn b hb).1 hfm.size
  · rcases look_app hm with hm | hm
    · obtain ⟨k, mo1, K, e1, e2, e3, e4, _⟩ := hnew m mo hm
      rw [hG] at e4; cases e4
      rcases hnewb k mo1 _ b e2 e3 hb with h' | h'
      · exact .inl (Nat.le_trans hrep.frm.size h')
      · obtain ⟨m0, mo0, G0', _, h2, h3, h4⟩ := hgr b h'
        exact hrep.own m0 mo0 G0' b h2 h3 h4
    · obtain ⟨K, a1, _, a3, a4, _, _⟩ := hold m mo hm
      rw [hG] at a4; cases a4
      exact hrep.own m mo _ b a1 a3 hb
  · show (if _ then _ else _) = none
    have hm' : st.next + nx ≤ m := hm
    rw [if_neg (by omega)]
    exact hfr _ (by omega)
  · rw [hfm.old b (Nat.lt_of_lt_of_le hb hrep.frm.size) fun h' => ?_, hrep.frm.old b hb hg]
    obtain ⟨m0, mo0, G0', _, h2, h3, h4⟩ := hgr b h'
    rcases hrep.own m0 mo0 G0' b h2 h3 h4 with h5 | h5
    · omega
    · exact hg h5
  · rcases hb with hb | hb
    · exact hrep.okf b hb
    · rcases hok' b hb with h' | h' | h'
      · exact hrep.okf b h'
      · obtain ⟨m0, mo0, G0', _, h2, h3, h4⟩ := hgr b h'
        rcases hrep.own m0 mo0 G0' b h2 h3 h4 with h5 | h5
        · exact .inr (.inr h5)
        · exact .inr (.inl h5)
      · exact .inr (.inr (Nat.le_trans hrep.frm.size h'))
 exact ⟨v, g2, ok2, rfl, core.put hd (RV.rn (fun _ h => .inr h) hσ r v hv)⟩
theorem CallC.k {P : Program} [Tabs P] {F : FuncId} {nb nx : Nat} {args l : List AV} {O O' : List (Nat × MO)} {r : AV} {cs : CSt} {d : Option Tmp} {next : CSt → Prop} (kl : List (Nat × Nat)) (h : FnM P F nb args O r O' nx)
 (hkl : klOK nb kl = true) (hcov : covB O nb = true) (ha : AVsle (AV.fzs (keepO kl cs.ob) (kL kl) l) args) (hO : allO ((keepS kl cs.st).fz (kL kl) nb) O) (hd : dstOK d cs.n = true)
 (hn : cs.obK (renOb (backN kl nb cs.next) O' ++ delK kl cs.ob) (cs.next + nx) fun cs' => (r.ren (backN kl nb cs.next)).force fun r => cs'.putK d r next) : CallC P F l cs d next := by
 unfold CallC
 obtain ⟨cs1, e1, h1⟩ := CSt.obK_st hn
 rw [AV.force_eq] at h1
 obtain ⟨cs2, e2, h2⟩ := CSt.putK_st h1
 exact CallG.mk _ (callK (st := cs.st) kl h hkl hcov ha hO hd) ⟨cs2, by rw [e2, e1]; rfl, h2⟩
end Go.Vw

namespace Go.Vw
open Go
def fi {α : Type} (p : α → Bool) : List α → Int
 | [] => -1
 | x :: r => if p x = true then 0 else if fi p r < 0 then -1 else fi p r + 1
theorem fi_at {α : Type} [Inhabited α] {p : α → Bool} : ∀ {L : List α} {i : Nat}, i < L.length → (∀ j, j < i → p (ix L j) = false) → p (ix L i) = true → fi p L = i
 | [], i, h, _, _ => by simp at h
 | x :: r, 0, _, _, h => by simp at h; simp [fi, h]
 | x :: r, i + 1, h, h1, h2 => by
   have h0 : p x = false := h1 0 (by omega)
   have := fi_at (L := r) (i := i) (by simpa using h) (fun j hj => h1 (j + 1) (by omega)) h2
   unfold fi
   rw [if_neg (by simp [h0]), if_neg (by omega), this]; simp
theorem fi_none {α : Type} [Inhabited α] {p : α → Bool} : ∀ {L : List α}, (∀ j, j < L.length → p (ix L j) = false) → fi p L = -1
 | [], _ => rfl
 | x :: r, h => by
   have h0 : p x = false := h 0 (by simp)
   have := fi_none (L := r) (fun j hj => h (j + 1) (by simpa using hj))
   unfold fi
   rw [if_neg (by simp [h0]), this]; rfl
theorem fi_any {α : Type} {p : α → Bool} : ∀ {L : List α}, decide (0 ≤ fi p L) = L.any p
 | [] => rfl
 | x :: r => by
   have := fi_any (p := p) (L := r)
   unfold fi
   by_cases h0 : p x = true
   · rw [if_pos h0]; simp [h0]
   · rw [if_neg h0]
     by_cases h1 : fi p r < 0
     · rw [if_pos h1]; simp [h0, ← this]; omega
     · rw [if_neg h1]; simp [h0, ← this]; omega
end Go.Vw

namespace Go.Vw
open Go
theorem OpC.val {P : Program} [Tabs P] {o : Oper} {cs : CSt} {next : CSt → Prop} (ob' : List (Nat × MO)) (nx : Nat) (x : AV) (hd : dstOK o.dst cs.n = true)
 (h : ∀ gb w0 gr ok0 g ok a w, Rep gb w0 gr ok0 cs.st g ok a w → ∃ v w' g', (execOp a.eval o).run P w = .ok (.value v) w' ∧ Rep gb w0 gr ok0 { cs.st with ob := ob', next := nx } g' ok a w' ∧ RV w' ok g' x v)
 (hn : cs.obK ob' nx fun cs' => x.force fun x => cs'.putK o.dst x next) : OpC P o cs next := by
 unfold OpC OpG
 intro gb w0 gr ok0 g ok a w hj hr Q
 obtain ⟨cs1, e1, h1⟩ := CSt.obK_st hn
 rw [AV.force_eq] at h1
 obtain ⟨cs2, e2, h2⟩ := CSt.putK_st h1
 obtain ⟨v, w', g', hrun, hr', hv⟩ := h gb w0 gr ok0 g ok a w hr
 unfold Oper.wp
 rw [hrun, Oper.upon_value]
 refine ⟨_, g', ok, hr'.put (d := o.dst) (x := x) hd hv, cs2, ?_, h2⟩
 rw [e2, e1]
section
variable {P : Program} [Tabs P] {o : Oper} {cs : CSt} {next : CSt → Prop} {t e : TypeId} {x lo hi : Operand} {m sz n : Nat} {rows : Nat → List AV} {l k : Int}
theorem own_slice {gb : Nat → Option Gh} {w0 : World} {gr ok0 : Nat → Prop} {g : Nat → Option Gh} {ok : Nat → Prop} {a : Act} {w : World} {st : St} (hr : Rep gb w0 gr ok0 st g ok a w) (hx : st.ev x = .osl m) (ho : look st.ob m = some (.arr e sz n rows)) :
 ∃ G, g m = some G ∧ a.eval x = .slice (G.b.map fun b => (⟨b, 0, none⟩ : Addr)) n G.c ∧ n ≤ G.c ∧ G.n = n := by
 have hv := hr.ev x
 rw [hx] at hv
 obtain ⟨G, hg, hv⟩ := hv
 obtain ⟨K, hK, hn, hc⟩ := hr.obs.rel m _ ho
 rw [hg] at hK; cases hK
 refine ⟨G, hg, by rw [hv, hn], ?_, hn⟩
 rcases hc with ⟨_, h0, _⟩ | ⟨_, _, _, _, h1, _⟩
 · omega
 · exact h1
theorem OpC.head (hop : o.op = .slice t x none (some hi) none) (ht : P.underlying t = some (.slice e)) (hx : cs.st.ev x = .osl m) (ho : look cs.st.ob m = some (.arr e sz n rows)) (hk : cs.st.ev hi = .int .i64 k)
 (hc : (Nat.beq (P.cellsOf e) sz && Nat.ble 1 sz) = true) (hd : dstOK o.dst cs.n = true) (hpre : 0 ≤ k ∧ k ≤ n) (hn : cs.obK ((cs.next, .arr e sz k.toNat rows) :: delAll cs.ob m) (cs.next + 1) fun cs' => fN cs.next fun nm => cs'.putK o.dst (.osl nm) next) : OpC P o cs next := by
 refine OpC.val ((cs.next, .arr e sz k.toNat rows) :: delAll cs.ob m) (cs.next + 1) (.osl cs.next) hd (fun gb w0 gr ok0 g ok a w hr => ?_) (by simpa only [AV.force, fN_eq] using hn)
 obtain ⟨G, hg, hv, hnc, hGn⟩ := own_slice hr hx ho
 have hhi : a.eval hi = .int .i64 k := by have := hr.ev hi; rw [hk] at this; exact this
 rw [Bool.and_eq_true, Nat.ble_eq] at hc
 have hs := run_sizeOf_cellsOf (w := w) (Nat.eq_of_beq_eq_true hc.1) hc.2
 have hu' := run_underlying (w := w) ht
 have hb := run_sliceBounds_s (P := P) (w := w) (n := n) (c := G.c) (lo := none) (hi := some k) (l := 0) (h := k.toNat) rfl (by simp; omega) (by omega) (by omega)
 have hrun : (execOp a.eval o).run P w = .ok (.value (.slice (G.b.map (fun b => (⟨b, 0, none⟩ : Addr))) k.toNat G.c)) w := by
  have hb' : (Instr.sliceBounds true n G.c none (some (Value.int .i64 k)) none).run P w = .ok (0, k.toNat, G.c) w := hb
  simp [execOp, hop, hv, hhi, Instr.sliceAt, hu', Instr.slice, hb', hs]
  cases G.b <;> simp [add_off]
 obtain ⟨K, hK, _, hcase⟩ := hr.obs.rel m _ ho
 rw [hg] at hK; cases hK
 have hrep := hr.swap (m := some m) (mo' := .arr e sz k.toNat rows) (G' := ⟨G.b, k.toNat, G.c⟩) (w' := w)
  (fun b hb => .inr ⟨m, _, G, rfl, ho, hg, hb⟩) (Nat.le_refl _) (fun _ _ _ => rfl) rfl rfl rfl ?_
 · exact ⟨_, w, _, hrun, hrep, ⟨_, gset_same, rfl⟩⟩
 · rcases hcase with ⟨h1, h2, h3⟩ | ⟨b, cur, h1, h2, h3, h4, h5, h6⟩
   · exact ⟨rfl, .inl ⟨h1, by omega, h3⟩⟩
   · exact ⟨rfl, .inr ⟨b, cur, h1, h2, by show k.toNat ≤ G.c; omega, h4, h5, fun i hi => h6 i (by omega)⟩⟩
theorem OpC.isnil {y : Operand} {u : TypeId} (hop : o.op = .binOp .eql t x y u) (ht : P.underlying t = some (.slice e)) (hx : cs.st.ev x = .sl sz n rows) (hy : cs.st.ev y = .nilsl) (hd : dstOK o.dst cs.n = true)
 (h0 : n = 0 → cs.putK o.dst (.bool true) next) (h1 : cs.putK o.dst (.bool false) next) : OpC P o cs next := by
 unfold OpC OpG
 intro gb w0 gr ok0 g ok a w hj hr Q
 have hxv := hr.ev x
 have hyv : a.eval y = .slice none 0 0 := by have := hr.ev y; rw [hy] at this; exact this
 rw [hx] at hxv
 obtain ⟨A, c, hv, hnc, hA⟩ := hxv
 have hrun : (execOp a.eval o).run P w = .ok (.value (.bool A.isNone)) w := run_bin hop hv hyv (by simp [eqGuard]) (run_eql_slice_nil t e _ _ _ ht)
 unfold Oper.wp
 rw [hrun, Oper.upon_value]
 cases A with
 | none =>
   have hn0 : n = 0 := hA.resolve_right (by rintro ⟨b, o', e1, _⟩; cases e1)
   obtain ⟨cs1, e1, h1⟩ := CSt.putK_st (h0 hn0)
   exact ⟨_, g, ok, hr.put (d := o.dst) (x := .bool true) hd rfl, cs1, e1, h1⟩
 | some ad =>
   obtain ⟨cs1, e1, h1⟩ := CSt.putK_st h1
   exact ⟨_, g, ok, hr.put (d := o.dst) (x := .bool false) hd rfl, cs1, e1, h1⟩
theorem zero_cells_get {z : Array Value} {k p q : Nat} (hp : p < k) (hq : q < z.size) : (Builtin.zeroCells z k)[p * z.size + q]? = z[q]? := by
 have hlt : p * z.size + q < k * z.size := by
  calc p * z.size + q < p * z.size + z.size := by omega
   _ = (p + 1) * z.size := by rw [Nat.add_mul, Nat.one_mul]
   _ ≤ k * z.size := Nat.mul_le_mul_right _ hp
 simp only [Builtin.zeroCells]
 rw [Array.getElem?_map, Array.getElem?_range]
 simp [hlt]
 rw [Nat.mod_eq_of_lt hq, getElem!_pos z q hq, Array.getElem?_eq_getElem hq]
theorem OpC.clear {i k : Nat} {z : List AV} (hop : o.op = .call { callee := .builtin .clear, args := #[x], argTypes := #[t] }) (ht : P.underlying t = some (.slice e)) (hx : cs.st.ev x = .vw m sz i k) (ho : look cs.st.ob m = some (.arr e sz n rows))
 (hz : zeroAV P e = some z) (hzl : (Nat.beq z.length sz && z.all AV.nameless && z.all AV.one) = true) (hd : dstOK o.dst cs.n = true) (hk : 1 ≤ k)
 (hn : cs.obK (upd cs.ob m (.arr e sz n fun j => bif Nat.blt j i then rows j else bif Nat.blt j (i + k) then z else rows j)) cs.next fun cs' => cs'.putK o.dst (.tup []) next) : OpC P o cs next := by
 refine OpC.val (upd cs.ob m (.arr e sz n fun j => bif Nat.blt j i then rows j else bif Nat.blt j (i + k) then z else rows j)) cs.next (.tup []) hd (fun gb w0 gr ok0 g ok a w hr => ?_) hn
 rw [Bool.and_eq_true, Bool.and_eq_true] at hzl
 obtain ⟨⟨hzl, hzn⟩, hz1⟩ := hzl
 have hzl := Nat.eq_of_beq_eq_true hzl
 have hxv := hr.ev x
 rw [hx] at hxv
 obtain ⟨G, hg, hik, A, hv, hA⟩ := hxv
 obtain ⟨K, hK, hGn, hcase⟩ := hr.obs.rel m _ ho
 rw [hg] at hK; cases hK
 rcases hcase with ⟨h1, h2, h3⟩ | ⟨b, cur, h1, h2, h3, h4, h5, h6⟩
 · omega
 have hA' := hA hk
 rw [h1] at hA'
 subst hA'
 obtain ⟨ti, zv, hi, hzv, rfl⟩ := zeroAV_spec hz
 obtain ⟨zs, hzs, hzr⟩ := ofVal_cells (w := w) (ok := ok) (g := g) zv
 have hzsl : zv.cells.size = sz := by rw [← Array.length_toList, hzs]; have := hzr.length; omega
 have hone : ∀ v ∈ (Builtin.zeroCells zv.cells k).toList, v.oneCell' = true := fun v hv => by
  have h1v := one_cells hz1 hzr
  simp only [Builtin.zeroCells, Array.toList_map, List.mem_map] at hv
  obtain ⟨j, hj, rfl⟩ := hv
  have hj' : j < k * zv.cells.size := by simpa using hj
  have hs0 : 0 < zv.cells.size := by
   rcases Nat.eq_zero_or_pos zv.cells.size with h | h
   · rw [h] at hj'; omega
   · exact h
  have hm := Nat.mod_lt j hs0
  refine h1v _ ?_
  rw [← hzs, getElem!_pos zv.cells _ hm]
  exact Array.getElem_mem_toList hm
 have hlen : (Builtin.zeroCells zv.cells k).toList.length = k * sz := by rw [Array.length_toList, size_zeroCells, hzsl]
 have hfit : i * sz + 0 + (Builtin.zeroCells zv.cells k).toList.length ≤ cur.size := by
  rw [hlen, h5, Nat.add_zero, ← Nat.add_mul]
  exact Nat.mul_le_mul_right _ (by omega)
 have hst := run_storeCells_at (P := P) b (i * sz) e (Builtin.zeroCells zv.cells k).toList 0 cur w h2 hfit hone
 simp only [Nat.add_zero, hlen] at hst
 generalize hnew : (cur.toList.take (i * sz) ++ (Builtin.zeroCells zv.cells k).toList ++ cur.toList.drop (i * sz + k * sz)) = new at hst
 have hnl : new.length = cur.size := by
  rw [← hnew]
  simp only [List.length_append, List.length_take, List.length_drop, Array.length_toList, hlen]
  rw [hlen] at hfit; omega
 have hrun : (execOp a.eval o).run P w = .ok (.value (.tuple #[])) (w.setRow b new.toArray) := by
  obtain ⟨k', rfl⟩ : ∃ k', k = k' + 1 := ⟨k - 1, by omega⟩
  have hcl : (Builtin.clear_ #[t] o.type #[.slice (some ⟨b, i * sz, none⟩) (k' + 1) (G.c - i)]).run P w = .ok (.tuple #[]) (w.setRow b new.toArray) := by
   simp [Builtin.clear_, run_underlying ht, zeroValue, typeInfo, hi, hzv, hst]
  simp [execOp, hop, resolve, invoke, builtin, hv, hcl]
 have hset := setRow_heap w b cur new.toArray e (0, 0) h2
 have hother := fun q (hq : q ≠ b) => setRow_other w b q new.toArray hq
 have e1 : (w.setRow b new.toArray).heap.size = w.heap.size := by simp
 have e2 : (w.setRow b new.toArray).os = w.os := rfl
 have e3 : (w.setRow b new.toArray).tape = w.tape := rfl
 have e4 : (w.setRow b new.toArray).output = w.output := rfl
 generalize w.setRow b new.toArray = W at *
 have hokc : ∀ c, ok c → W.heap[c]? = w.heap[c]? := fun c hc => hother c fun e => by subst e; exact (hr.obs.okb c hc).2 m _ G ho hg h1
 refine ⟨_, W, g, hrun, hr.write ho hg h1 e1 hother e2 e3 e4 ⟨hGn, .inr ⟨b, _, h1, hset, h3, h4, by simp [hnl, h5], fun j hj => ?_⟩⟩, ⟨[], rfl, rfl⟩⟩
 obtain ⟨vs, k1, k2, k3⟩ := h6 j hj
 have hmul : ∀ p q : Nat, p < q → p * sz + sz ≤ q * sz := fun p q hpq => by
  have := Nat.mul_le_mul_right sz (show p + 1 ≤ q from hpq)
  rw [Nat.add_mul, Nat.one_mul] at this; exact this
 have htl : (cur.toList.take (i * sz)).length = i * sz := by
  rw [List.length_take, Array.length_toList]; rw [hlen] at hfit; omega
 by_cases c1 : j < i
 · have hb1 : Nat.blt j i = true := Nat.ble_eq_true_of_le c1
   refine ⟨vs, k1, by dsimp only; rw [hb1]; exact RVs.mono (fun _ h => h) hokc G0 G0 (fun _ _ h => h) _ _ k2, fun q hq => ?_⟩
   have := hmul j i c1
   rw [← k3 q hq, List.getElem?_toArray, ← hnew, List.append_assoc, List.getElem?_append_left (by omega), List.getElem?_take, if_pos (by omega)]
   simp
 have hb1 : Nat.blt j i = false := by
  cases hb : Nat.blt j i
  · rfl
  · exact absurd (Nat.le_of_ble_eq_true hb) c1
 by_cases c2 : j < i + k
 · have hb2 : Nat.blt j (i + k) = true := Nat.ble_eq_true_of_le c2
   obtain ⟨zs', hzs', hzr'⟩ := ofVal_cells (w := W) (ok := ok) (g := G0) zv
   refine ⟨zs', by have := hzr'.length; omega, by dsimp only; rw [hb1, hb2]; exact hzr', fun q hq => ?_⟩
   have e5 : j * sz + q = i * sz + ((j - i) * sz + q) := by
    have : j = i + (j - i) := by omega
    calc j * sz + q = (i + (j - i)) * sz + q := by rw [← this]
     _ = _ := by rw [Nat.add_mul]; omega
   have hlt : (j - i) * sz + q < k * sz := by
    have := hmul (j - i) k (by omega); omega
   rw [e5, List.getElem?_toArray, ← hnew, List.append_assoc, List.getElem?_append_right (by omega), htl, Nat.add_sub_cancel_left, List.getElem?_append_left (by rw [hlen]; exact hlt)]
   have := zero_cells_get (z := zv.cells) (k := k) (p := j - i) (q := q) (by omega) (by omega)
   rw [hzsl] at this
   rw [Array.getElem?_toList, this, ← hzs', Array.getElem?_toList]
 · have hb2 : Nat.blt j (i + k) = false := by
    cases hb : Nat.blt j (i + k)
    · rfl
    · exact absurd (Nat.le_of_ble_eq_true hb) c2
   refine ⟨vs, k1, by dsimp only; rw [hb1, hb2]; exact RVs.mono (fun _ h => h) hokc G0 G0 (fun _ _ h => h) _ _ k2, fun q hq => ?_⟩
   have h7 : i * sz + k * sz ≤ j * sz := by rw [← Nat.add_mul]; exact Nat.mul_le_mul_right _ (by omega)
   rw [← k3 q hq, List.getElem?_toArray, ← hnew, List.getElem?_append_right (by rw [List.length_append, htl, hlen]; omega), List.length_append, htl, hlen, List.getElem?_drop, Array.getElem?_toList]
   congr 1; omega
end
end Go.Vw

namespace Go.Vw
open Go
theorem bless_lt : ∀ a b : List UInt8, Op.bytesLess a b = decide (a < b) := by
 intro a
 induction a with
 | nil => intro b; cases b <;> simp [Op.bytesLess]
 | cons x r ih =>
   intro b
   cases b with
   | nil => simp [Op.bytesLess]
   | cons y t =>
     rw [Op.bytesLess, ih t]
     simp only [List.cons_lt_cons_iff]
     by_cases h1 : x < y
     · simp [h1]
     · by_cases h2 : x = y <;> simp [h1, h2]
theorem blt_lt (a b : List UInt8) : Op.bytesLess (B a).toList (B b).toList = decide (a < b) := by
 rw [B_toList, B_toList, bless_lt]
theorem lt_tri {a b : List UInt8} (h1 : ¬ a < b) (h2 : a ≠ b) : b < a := by
 by_cases h : b < a
 · exact h
 · exact absurd (List.le_antisymm (List.not_lt.1 h) (List.not_lt.1 h1)) h2
structure Ob where
 key : List UInt8
 ver : Int
 data : List UInt8
 deriving Inhabited, DecidableEq
def Ob.row (o : Ob) : List AV := [.str (B o.key), .int .i64 o.ver, .str (B o.data)]
def Ob.av (o : Ob) : AV := .agg o.row
abbrev obs (L : List Ob) : AV := .sl 3 L.length fun i => (ix L i).row
structure Sto where
 os : List Ob
 next : Int
 deriving Inhabited, DecidableEq
def Sto.row (s : Sto) : List AV := [obs s.os, .int .i64 s.next]
def Sto.av (s : Sto) : AV := .agg s.row
def Sto.own (s : Sto) : AV := .agg [.osl 0, .int .i64 s.next]
def keyC (c : UInt8) : Bool := (decide (97 ≤ (c.toNat : Int)) && decide ((c.toNat : Int) ≤ 122)) || (decide (48 ≤ (c.toNat : Int)) && decide ((c.toNat : Int) ≤ 57)) || decide ((c.toNat : Int) = 47) || decide ((c.toNat : Int) = 45)
def keyOK (k : List UInt8) : Bool := k.all keyC && within k.length 1 30
def lb (k : List UInt8) : List Ob → Nat
 | [] => 0
 | o :: r => if o.key < k then lb k r + 1 else 0
theorem lb_le (k : List UInt8) : ∀ L : List Ob, lb k L ≤ L.length
 | [] => Nat.le_refl _
 | o :: r => by
   have := lb_le k r
   unfold lb; split <;> simp <;> omega
theorem lb_lt {k : List UInt8} : ∀ {L : List Ob} {j : Nat}, j < lb k L → (ix L j).key < k
 | [], j, h => by simp [lb] at h
 | o :: r, 0, h => by
   unfold lb at h
   split at h
   · assumption
   · omega
 | o :: r, j + 1, h => by
   unfold lb at h
   split at h
   · exact lb_lt (L := r) (j := j) (by omega)
   · omega
theorem lb_ge {k : List UInt8} : ∀ {L : List Ob}, lb k L < L.length → ¬ (ix L (lb k L)).key < k
 | [], h => by simp at h
 | o :: r, h => by
   unfold lb at h ⊢
   split
   · rename_i h1
     rw [if_pos h1] at h
     exact lb_ge (L := r) (by simpa using h)
   · assumption
def Srt (L : List Ob) : Prop := ∀ i, i + 1 < L.length → (ix L i).key < (ix L (i + 1)).key
theorem Srt.lt {L : List Ob} (h : Srt L) {i : Nat} : ∀ {j : Nat}, i < j → j < L.length → (ix L i).key < (ix L j).key
 | 0, h1, _ => by omega
 | j + 1, h1, h2 => by
   rcases Nat.lt_or_ge i j with h3 | h3
   · exact List.lt_trans (h.lt h3 (by omega)) (h j h2)
   · have : i = j := by omega
     subst this; exact h i h2
theorem Srt.ge {L : List Ob} (h : Srt L) {k : List UInt8} {j : Nat} (h1 : lb k L ≤ j) (h2 : j < L.length) : ¬ (ix L j).key < k := fun h3 => by
 rcases Nat.lt_or_ge (lb k L) j with h4 | h4
 · exact lb_ge (by omega) (List.lt_trans (h.lt h4 h2) h3)
 · have : lb k L = j := by omega
   rw [← this] at h3 h2
   exact lb_ge h2 h3
theorem Srt.iff {L : List Ob} (h : Srt L) {k : List UInt8} {j : Nat} (h2 : j < L.length) : (ix L j).key < k ↔ j < lb k L :=
 ⟨fun h3 => Nat.lt_of_not_le fun h4 => h.ge h4 h2 h3, lb_lt⟩
def hasK (k : List UInt8) (L : List Ob) : Bool := decide (lb k L < L.length) && decide ((ix L (lb k L)).key = k)
theorem hasK_at {k : List UInt8} {L : List Ob} (h : hasK k L = true) : lb k L < L.length ∧ (ix L (lb k L)).key = k := by
 simpa [hasK] using h
theorem Srt.fi {L : List Ob} (h : Srt L) (k : List UInt8) : fi (fun o : Ob => decide (o.key = k)) L = if hasK k L = true then ((lb k L : Nat) : Int) else -1 := by
 split
 · rename_i h1
   obtain ⟨h2, h3⟩ := hasK_at h1
   exact fi_at h2 (fun j hj => decide_eq_false fun e => by have := lb_lt hj; rw [e] at this; exact List.lt_irrefl _ this) (decide_eq_true h3)
 · rename_i h1
   refine fi_none fun j hj => decide_eq_false fun e => h1 ?_
   have h2 : ¬ j < lb k L := fun h2 => by have := lb_lt h2; rw [e] at this; exact List.lt_irrefl _ this
   have h4 : lb k L = j := by
    rcases Nat.lt_or_ge (lb k L) j with h5 | h5
    · have h6 := h.lt h5 hj
      rw [e] at h6
      exact absurd h6 (lb_ge (by omega))
    · omega
   simp [hasK, h4, hj, e]
def Sto.eOK (s : Sto) (i : Nat) : Bool := keyOK (ix s.os i).key && (within (ix s.os i).ver 1 (s.next - 1) && (decide ((ix s.os i).data.length ≤ 600) && (!decide ((ix s.os i).ver ∈ (s.os.take i).map (·.ver)) && (decide (i = 0) || decide ((ix s.os (i - 1)).key < (ix s.os i).key)))))
def Sto.ok (s : Sto) : Bool := within s.next 1 1000000000 && (decide (s.os.length ≤ 300) && allN s.os.length s.eOK)
theorem Sto.ok_at {s : Sto} (h : s.ok = true) : within s.next 1 1000000000 = true ∧ s.os.length ≤ 300 ∧ ∀ i, i < s.os.length → s.eOK i = true := by
 simp only [Sto.ok, Bool.and_eq_true, decide_eq_true_eq] at h
 exact ⟨h.1, h.2.1, fun i hi => List.all_eq_true.1 h.2.2 i (by simpa using hi)⟩
theorem Sto.srt {s : Sto} (h : s.ok = true) : Srt s.os := fun i hi => by
 have := (Sto.ok_at h).2.2 (i + 1) hi
 simp [Sto.eOK] at this
 exact this.2.2.2.2
theorem wnot {a : Bool} (h : (!a) = true) : a = false := by simpa using h
theorem wyes {a : Bool} (h : (!a) = false) : a = true := by simpa using h
def Sto.vers (s : Sto) (i : Nat) : List Int := (s.os.take i).map (·.ver)
theorem Sto.vers_snoc (s : Sto) {i : Nat} (h : i < s.os.length) : s.vers (i + 1) = s.vers i ++ [(ix s.os i).ver] := by
 unfold Sto.vers; rw [map_take_snoc h]
theorem Sto.ok_no {s : Sto} {i : Nat} (hi : i < s.os.length) (h : s.eOK i = false) : s.ok = false := by
 have : allN s.os.length s.eOK = false := by
  rw [← Bool.not_eq_true]; intro h'
  rw [List.all_eq_true.1 h' i (by simpa using hi)] at h; cases h
 unfold Sto.ok; rw [this]; simp
theorem Sto.ok_yes {s : Sto} (h1 : within s.next 1 1000000000 = true) (h2 : s.os.length ≤ 300) (h : ∀ j, j < s.os.length → s.eOK j = true) : s.ok = true := by
 have : allN s.os.length s.eOK = true := List.all_eq_true.2 fun x hx => h x (by simpa using hx)
 unfold Sto.ok; rw [this, h1, decide_eq_true h2]; rfl
def Sto.has (s : Sto) (k : List UInt8) : Bool := hasK k s.os
def Sto.pos (s : Sto) (k : List UInt8) : Nat := lb k s.os
def Sto.get (s : Sto) (k : List UInt8) : Ob := ix s.os (s.pos k)
def Sto.room (s : Sto) (k d : List UInt8) : Int := if 600 < d.length then 8 else if (!s.has k && decide (s.os.length = 300)) || decide (s.next = 1000000000) then 7 else 0
def Sto.set (s : Sto) (k d : List UInt8) : Sto := ⟨s.os.take (s.pos k) ++ (⟨k, s.next, d⟩ :: s.os.drop (if s.has k = true then s.pos k + 1 else s.pos k)), s.next + 1⟩
def Sto.put (s : Sto) (k d : List UInt8) : Sto := if s.room k d = 0 then s.set k d else s
def Sto.putA (s : Sto) (k d : List UInt8) : Sto × Int := if s.has k = true then (s, 9) else (s.put k d, s.room k d)
theorem ix_app1 {α : Type} [Inhabited α] {L M : List α} {i : Nat} (h : i < L.length) : ix (L ++ M) i = ix L i := by
 rw [ix_lt (by rw [List.length_append]; omega), ix_lt h, List.getElem_append_left h]
theorem ix_app2 {α : Type} [Inhabited α] {L M : List α} {i : Nat} (h : L.length ≤ i) (h2 : i < L.length + M.length) : ix (L ++ M) i = ix M (i - L.length) := by
 rw [ix_lt (by rw [List.length_append]; omega), ix_lt (by omega), List.getElem_append_right h]
theorem appRows_lt {n i : Nat} {r1 r2 : Nat → List AV} (h : i < n) : appRows n r1 r2 i = r1 i := by unfold appRows; rw [blt_t h]; rfl
theorem appRows_ge {n i : Nat} {r1 r2 : Nat → List AV} (h : n ≤ i) : appRows n r1 r2 i = r2 (i - n) := by unfold appRows; rw [blt_f h]; rfl
theorem app_rows {α : Type} [Inhabited α] {f : α → List AV} {L M : List α} {n : Nat} {r1 r2 : Nat → List AV} (hn : n = L.length) (h1 : ∀ i, i < L.length → r1 i = f (ix L i)) (h2 : ∀ i, i < M.length → r2 i = f (ix M i)) :
 ∀ i, i < (L ++ M).length → appRows n r1 r2 i = f (ix (L ++ M) i) := by
 intro i hi
 rw [List.length_append] at hi
 subst hn
 rcases Nat.lt_or_ge i L.length with h | h
 · rw [appRows_lt h, h1 i h, ix_app_l h]
 · rw [appRows_ge h, h2 _ (by omega), ix_app_r h]
theorem Sto.set_rows (s : Sto) (k d : List UInt8) {r0 r2 : Nat → List AV} {n1 n2 q : Nat} (hq : q = if s.has k = true then s.pos k + 1 else s.pos k) (h1 : n1 = lb k s.os) (h2 : n2 = lb k s.os + 1) (hr : r2 0 = (Ob.mk k s.next d).row) :
 ∀ i, i < (s.set k d).os.length → appRows n2 (appRows n1 (appRows 0 r0 fun i => (ix s.os i).row) r2) (fun i => (ix s.os (q + i)).row) i = (ix (s.set k d).os i).row := by
 have hl := lb_le k s.os
 have e : (s.set k d).os = (([] ++ s.os.take (lb k s.os)) ++ [⟨k, s.next, d⟩]) ++ s.os.drop q := by rw [hq]; unfold Sto.set Sto.pos; simp
 rw [e]
 refine app_rows (f := Ob.row) (by simp; omega) (app_rows (f := Ob.row) (by simp; omega) (app_rows (f := Ob.row) rfl (fun i hi => absurd hi (Nat.not_lt_zero i)) fun i hi => ?_) fun i hi => ?_) fun i hi => ?_
 · rw [ix_take (by simp at hi; omega)]
 · have : i = 0 := by simp at hi; omega
   subst this; exact hr
 · rw [ix_drop]
theorem Sto.set_len (s : Sto) (k d : List UInt8) : (s.set k d).os.length = if s.has k = true then s.os.length else s.os.length + 1 := by
 have := lb_le k s.os
 unfold Sto.set Sto.pos
 split
 · rename_i h
   have h := (hasK_at h).1
   simp; omega
 · simp; omega
end Go.Vw

namespace Go.Vw
open Go
theorem FnM.vfn {P : Program} [Tabs P] {F : FuncId} {nx : Nat} {args : List AV} {O' : List (Nat × MO)} {r : AV} (h : FnM P F 0 args [] r O' nx) : VFn P F args (r.fz O' fun _ => none) := by
 refine ⟨h.1, fun w ok vs hJ hok hargs => ?_⟩
 have ng : ∀ b, ¬ grO [] G0 b := fun b ⟨m, mo, G, e, _⟩ => by cases e
 have hobs : Obs [] G0 ok w := ⟨fun _ _ e => (by cases e), fun _ _ _ _ _ _ _ e => (by cases e), fun b hb => ⟨hok b hb, fun _ _ _ e => (by cases e)⟩, fun _ _ _ _ e => (by cases e)⟩
 refine (h.2 w ok G0 vs ⟨hJ, fun b _ hg => ng b hg⟩ hobs (fun _ _ => rfl) hargs).mono ?_
 rintro e w' ⟨v, g', ok', rfl, hf, hob, _, _, hv, hown, hokn⟩
 refine ⟨v, rfl, ⟨hf.os, hf.tape, hf.output, hf.size, fun b hb _ => hf.old b hb (ng b)⟩, ?_⟩
 refine RV.fz (ok := ok') (g := g') (ob := O') (keep := fun _ => none) (fun b hb => ?_) (fun _ _ _ e => (by cases e)) (fun m mo G hm hg => ?_) (fun m mo G b _ hm hg hb => ?_) r v hv
 · rcases hokn b hb with h1 | h1 | h1
   · exact .inl h1
   · exact absurd h1 (ng b)
   · exact .inr ⟨h1, (hob.okb b hb).1⟩
 · obtain ⟨K, hK, hr⟩ := hob.rel m mo hm
   rw [hg] at hK; cases hK; exact hr
 · rcases hown m mo G b hm hg hb with h1 | h1
   · exact .inr ⟨h1, hob.lt m mo G b hm hg hb⟩
   · exact absurd h1 (ng b)
end Go.Vw

namespace Go.Vw
open Go
abbrev Kn := List (Sum Nat Nat × Nat)
def nmK (base : Nat) : Sum Nat Nat → Nat
 | .inl m => m
 | .inr j => base + j
def hidB (ks : Kn) (base m : Nat) : Bool := ks.any fun p => Nat.beq m (nmK base p.1)
def tchB (ks : Kn) (base i m : Nat) : Bool := ks.any fun p => Nat.beq i p.2 && Nat.beq m (nmK base p.1)
def ksB (base : Nat) : Kn → Bool
 | [] => true
 | p :: r => ((match p.1 with | .inl m => Nat.blt m base | .inr j => Nat.blt j p.2) && r.all fun q => !Nat.beq (nmK base p.1) (nmK base q.1)) && ksB base r
theorem tch_hid {ks : Kn} {base i m : Nat} (h : tchB ks base i m = true) : hidB ks base m = true := by
 unfold tchB at h
 unfold hidB
 rw [List.any_eq_true] at *
 obtain ⟨p, h1, h2⟩ := h
 rw [Bool.and_eq_true] at h2
 exact ⟨p, h1, h2.2⟩
def visO (ks : Kn) (base : Nat) : List (Nat × MO) → List (Nat × MO)
 | [] => []
 | (m, o) :: r => bif hidB ks base m then visO ks base r else (m, o) :: visO ks base r
theorem look_visO {ks : Kn} {base m : Nat} {mo : MO} : ∀ {ob : List (Nat × MO)}, look (visO ks base ob) m = some mo → look ob m = some mo ∧ hidB ks base m = false
 | [], h => by cases h
 | (k, o) :: r, h => by
   unfold visO at h
   cases hb : hidB ks base k with
   | true =>
     rw [hb] at h
     obtain ⟨h1, h2⟩ := look_visO (ob := r) h
     refine ⟨?_, h2⟩
     rw [look_cons]
     split
     · rename_i e; rw [e, hb] at h2; cases h2
     · exact h1
   | false =>
     rw [hb] at h
     simp only [cond_false] at h
     rw [look_cons] at h ⊢
     split at h
     · rename_i e; rw [if_pos e]; exact ⟨h, by rw [e]; exact hb⟩
     · rename_i e; rw [if_neg e]; exact look_visO h
def okDst (ks : Kn) (base i : Nat) : AV → Bool
 | .osl m => tchB ks base i m
 | .nilsl => true
 | _ => false
def okSrc (ks : Kn) (base : Nat) : AV → Bool
 | .osl m => !hidB ks base m
 | .vw _ _ _ _ => false
 | _ => true
def okBox (ks : Kn) (base i : Nat) : AV → Bool
 | .bptr m _ => tchB ks base i m
 | _ => false
inductive PActK (P : Program) [Tabs P] (ks : Kn) (base i nm : Nat) (o : Oper) (st : St) : St → Prop
 | pas (p : PO) (h : pas P st.ev (look (visO ks base st.ob)) nm o.op = some p) (hpre : ∀ q, p.pre = some q → q) :
  PActK P ks base i nm o st (match p.mo with | none => st.put o.dst p.r | some mo => ({ st with ob := (nm, mo) :: st.ob } : St).put o.dst p.r)
 | app (x y : Operand) (t tx : TypeId) (out : AppOut) (hop : o.op = .call ⟨.builtin .append, #[x, y], #[t, tx]⟩) (hx : okDst ks base i (st.ev x) = true) (hy : okSrc ks base (st.ev y) = true)
  (h : appAVn P nm (nm + 1) st t tx (st.ev x) (st.ev y) = some out) (hpre : out.pre) : PActK P ks base i nm o st (({ st with ob := out.st.ob } : St).put o.dst (.osl nm))
 | store (t : TypeId) (x y : Operand) (st1 : St) (hop : o.op = .store t x y) (hx : okBox ks base i (st.ev x) = true) (h : stAV P st t (st.ev x) (st.ev y) = some st1) :
  PActK P ks base i nm o st (({ st with ob := st1.ob } : St).put o.dst .any)
 | call (f : Operand) (args : Array Operand) (tys : Array TypeId) (F : FuncId) (xs ys : List AV) (r : AV) (hop : o.op = .call ⟨.value f, args, tys⟩) (hf : st.ev f = .fn (.func F) xs ys)
  (h : PureCall P F (xs ++ (args.toList.map st.ev ++ ys)) (visO ks base st.ob) r) : PActK P ks base i nm o st (st.put o.dst r)
 | ownc (f : Operand) (args : Array Operand) (tys : Array TypeId) (F : FuncId) (xs ys : List AV) (r : AV) (mo : MO) (hop : o.op = .call ⟨.value f, args, tys⟩) (hf : st.ev f = .fn (.func F) xs ys)
  (h : OwnCall P F (xs ++ (args.toList.map st.ev ++ ys)) (visO ks base st.ob) nm r mo) : PActK P ks base i nm o st (({ st with ob := (nm, mo) :: st.ob } : St).put o.dst r)
def PStepK (P : Program) [Tabs P] (all : Array Oper) (ks : Kn) (base i nm : Nat) (o : Oper) (st st' : St) : Prop :=
 dstOK o.dst st.n = true ∧ ((wantedS all st o = some false ∧ st' = st.put o.dst .undef) ∨ (wantedS all st o = some true ∧ PActK P ks base i nm o st st'))
theorem appAVn_at {P : Program} {nm nx1 nx2 : Nat} {st1 st2 : St} {t tx : TypeId} {x y : AV} {out : AppOut} (h : appAVn P nm nx1 st1 t tx x y = some out) (hd : ∀ e, dstAV P st2 e x = dstAV P st1 e x) (hs : srcAV P st2 tx y = srcAV P st1 tx y) :
 ∃ mo mm, out.st.ob = (nm, mo) :: delO st1.ob mm ∧ (∃ out2, appAVn P nm nx2 st2 t tx x y = some out2 ∧ (out.pre → out2.pre) ∧ out2.st = { st2 with ob := (nm, mo) :: delO st2.ob mm, next := nx2 }) ∧
   ((∃ m, x = .osl m ∧ mm = some m ∧ look st1.ob m ≠ none) ∨ (x = .nilsl ∧ mm = none)) := by
 unfold appAVn at h ⊢
 simp only [fN_eq] at h ⊢
 split at h
 · rename_i e hel
   rw [hd e, hs]
   split at h
   · rename_i z m sz n r1 sz2 k r2 hz hdst hsrc
     cases hc : (Nat.beq sz (P.cellsOf e) && Nat.beq z.length sz) && (Nat.ble 1 sz && Nat.ble 1 (P.bytesOf e)) && (Nat.beq sz2 sz || Nat.beq k 0) <;> simp only [hc, cond_true, cond_false, reduceCtorEq, Option.some.injEq] at h
     subst h
     refine ⟨_, m, rfl, ⟨_, rfl, fun h => h, rfl⟩, ?_⟩
     unfold dstAV at hdst
     split at hdst
     · rename_i mm
       split at hdst
       · rename_i e' sz' n' rows' hl
         cases hb : Nat.beq e' e <;> simp [hb] at hdst
         exact .inl ⟨mm, rfl, hdst.1.symm, by rw [hl]; simp⟩
       · cases hdst
     · cases hdst; exact .inr ⟨rfl, rfl⟩
     · cases hdst
   · cases h
 · cases h
section
variable {P : Program} [Tabs P] {all : Array Oper} {n base : Nat} {ks : Kn} {s : Nat → St}
def effK (nm : Nat) (cr : Option MO) (tc : Option (Nat × Option MO)) (ob ob' : List (Nat × MO)) : Prop :=
 ∀ k, look ob' k = if k = nm ∧ cr ≠ none then cr else match tc with | some (m, v) => if k = m then v else look ob k | none => look ob k
theorem effK.same {nm : Nat} {ob : List (Nat × MO)} : effK nm none none ob ob := fun k => by rw [if_neg (fun h => h.2 rfl)]
theorem effK.add {nm : Nat} {mo : MO} {ob : List (Nat × MO)} : effK nm (some mo) none ob ((nm, mo) :: ob) := fun k => by
 rw [look_cons]
 by_cases h : k = nm
 · rw [if_pos h, if_pos ⟨h, by simp⟩]
 · rw [if_neg h]; rw [if_neg (show ¬ (k = nm ∧ some mo ≠ none) from fun e => h e.1)]
theorem effK.del {nm m : Nat} {mo : MO} {ob : List (Nat × MO)} : effK nm (some mo) (some (m, none)) ob ((nm, mo) :: delAll ob m) := fun k => by
 rw [look_set_del]
 by_cases h : k = nm
 · rw [if_pos h, if_pos ⟨h, by simp⟩]
 · rw [if_neg h]; rw [if_neg (show ¬ (k = nm ∧ some mo ≠ none) from fun e => h e.1)]
theorem effK.upd {nm m : Nat} {mo mo' : MO} {ob : List (Nat × MO)} (h : look ob m = some mo) : effK nm none (some (m, some mo')) ob (upd ob m mo') := fun k => by
 rw [if_neg (fun e => e.2 rfl), look_upd]
 by_cases e : k = m
 · rw [if_pos e]; simp only; rw [if_pos e, h]; rfl
 · rw [if_neg e]; simp only; rw [if_neg e]
def ShapeK (ks : Kn) (base i nm : Nat) (st st' : St) : Prop := ∃ cr tc, effK nm cr tc st.ob st'.ob ∧ ∀ m v, tc = some (m, v) → look st.ob m ≠ none ∧ tchB ks base i m = true
theorem stAV_box {P : Program} {st st1 : St} {t : TypeId} {m off : Nat} {y : AV} (h : stAV P st t (.bptr m off) y = some st1) :
 ∃ cs l, look st.ob m = some (.box cs) ∧ st1.ob = upd st.ob m (.box l) ∧ ∀ st2 : St, look st2.ob m = some (.box cs) → stAV P st2 t (.bptr m off) y = some { st2 with ob := upd st2.ob m (.box l) } := by
 unfold stAV at h ⊢
 simp only [fL_eq, fN_eq] at h ⊢
 split at h
 · rename_i ag n m' off' ht hx
   cases hx
   split at h
   · rename_i cs hl
     cases hc : (y.isVal && y.cells.all AV.one) && (Nat.beq y.cells.length n && Nat.ble (off + n) cs.length) <;> simp only [hc, cond_true, cond_false, reduceCtorEq, Option.some.injEq] at h
     subst h
     exact ⟨cs, _, hl, rfl, fun st2 h2 => by simp only [h2, hc, cond_true]⟩
   · cases h
 · rename_i ag n m' sz i off' ht hx
   cases hx
 · cases h
structure RoadK (P : Program) [Tabs P] (all : Array Oper) (n base : Nat) (ks : Kn) (s : Nat → St) : Prop where
 step : ∀ k, k < n → ∃ o, all[k]? = some o ∧ PStepK P all ks base k (base + k) o (s k) (s (k + 1))
 temps : tempsB all n = true
 back : backB all n = true
 bas : (s 0).next = base
 noob : ∀ m, base ≤ m → look (s 0).ob m = none
 kok : ksB base ks = true
variable (hR : RoadK P all n base ks s)
include hR
omit hR in
def valK (base : Nat) (s : Nat → St) (m : Nat) : Option MO := if m < base then look (s 0).ob m else look (s (m - base + 1)).ob m
omit hR in
def CrdK (n base : Nat) (listed : Array Bool) (m : Nat) : Prop := m < base ∨ ∃ j, j < n ∧ listed.getD j false = true ∧ m = base + j
variable {gb : Nat → Option Gh} {w0 : World} {gr ok0 : Nat → Prop}
omit hR in
theorem CrdK.set {listed : Array Bool} {i m : Nat} (his : i < listed.size) (h : CrdK n base listed m) : CrdK n base (listed.setIfInBounds i true) m :=
 h.imp id fun ⟨j, h1, h2, h3⟩ => ⟨j, h1, (getD_set his).2 (.inr h2), h3⟩
omit hR in
theorem CrdK.of_set {listed : Array Bool} {i m : Nat} (his : i < listed.size) (hne : m ≠ base + i) (h : CrdK n base (listed.setIfInBounds i true) m) : CrdK n base listed m :=
 h.imp id fun ⟨j, h1, h2, h3⟩ => ⟨j, h1, ((getD_set his).1 h2).resolve_left (fun e => by subst e; exact hne h3), h3⟩
omit hR in
def pickK (tc : Option (Nat × Option MO)) (m : Nat) (d : Option MO) : Option MO := match tc with | some (m', v) => if m = m' then v else d | none => d
end
end Go.Vw

namespace Go.Vw
open Go
def NilStep (st st' : St) : Prop := st' = st ∨ ∃ t e sz rows, st.tm t = .nilsl ∧ st' = { st with tm := fun s => bif Nat.beq s t then .osl st.next else st.tm s, ob := (st.next, .arr e sz 0 rows) :: st.ob, next := st.next + 1 }
theorem NilStep.rep {gb : Nat → Option Gh} {w0 : World} {gr ok0 : Nat → Prop} {st st' : St} {g : Nat → Option Gh} {ok : Nat → Prop} {a : Act} {w : World} (hs : NilStep st st') (h : Rep gb w0 gr ok0 st g ok a w) : ∃ g', Rep gb w0 gr ok0 st' g' ok a w := by
 rcases hs with rfl | ⟨t, e, sz, rows, ht, rfl⟩
 · exact ⟨g, h⟩
 · have hadd := h.addNew (nm := st.next) (nx := st.next + 1) (w' := w) (G := ⟨none, 0, 0⟩) (mo := .arr e sz 0 rows) (h.fresh _ (Nat.le_refl _)) (Nat.lt_succ_self _) (Nat.le_succ _) ⟨rfl, rfl, rfl, Nat.le_refl _, fun _ _ _ => rfl⟩ (fun b hb => by cases hb) ⟨rfl, .inl ⟨rfl, rfl, rfl⟩⟩
   refine ⟨_, ⟨fun s => ?_, hadd.obs, hadd.own, hadd.fresh, hadd.base, hadd.frm, hadd.df, hadd.n, hadd.okf⟩⟩
   show RV w ok _ (bif Nat.beq s t then AV.osl st.next else st.tm s) _
   cases hb : Nat.beq s t
   · exact hadd.tm s
   · have := Nat.eq_of_beq_eq_true hb
     subst this
     have hv := h.tm s
     rw [ht] at hv
     exact ⟨_, gset_same, hv⟩
theorem FnM.introN {P : Program} [Tabs P] {F : FuncId} {fn : Func} {c : Code} {nb nx : Nat} {args : List AV} {O O' : List (Nat × MO)} {r : AV} (hen : Enters P F) (hf : P.funcs[F]? = some fn) (hb : fn.body = some c) (hn : Nat.ble args.length fn.ntmps = true)
 (h : entryK args O nb fn.ntmps fun cs => wpC P nb c cs fun e cs => ∃ st', NilStep cs.st st' ∧ DoneM P fn.results.toList nb r O' nx e st') : FnM P F nb args O r O' nx := by
 obtain ⟨cs, e, h1⟩ := entryK_st h
 refine FnM.introSW hen hf hb hn ?_
 have h2 := wpC_SW c cs _ h1
 rw [e] at h2
 intro gb w0 gr ok0 g ok a w hgb hr
 refine wp_mono (h2 gb w0 gr ok0 g ok a w hgb hr) ?_
 rintro e a' w' ⟨st', g', ok', hr', cs', ecs, st2, hs, hd⟩
 subst ecs
 obtain ⟨g2, hr2⟩ := hs.rep hr'
 exact ⟨st2, g2, ok', hr2, hd⟩
end Go.Vw

namespace Go.Vw
open Go
section
variable {P : Program} {gb : Nat → Option Gh} {w0 : World} {gr ok0 : Nat → Prop} {st : St} {g : Nat → Option Gh} {ok : Nat → Prop} {a : Act} {w : World}
theorem Rep.tell (h : Rep gb w0 gr ok0 st g ok a w) {m : Nat} {mo mo' : MO} (hm : look st.ob m = some mo) (hr : ∀ G, g m = some G → MRel w ok g G mo') : Rep gb w0 gr ok0 { st with ob := upd st.ob m mo' } g ok a w := by
 have hex : ∀ k p, look (upd st.ob m mo') k = some p → ∃ q, look st.ob k = some q := fun k p hk => by
  rw [look_upd] at hk
  split at hk
  · rename_i e; exact ⟨mo, by rw [e]; exact hm⟩
  · exact ⟨p, hk⟩
 refine ⟨h.tm, ⟨fun k p hk => ?_, fun k k' p p' K K' c hk hk' => ?_, fun c hc => ⟨(h.obs.okb c hc).1, fun k p K hk hK => ?_⟩, fun k p K c hk => ?_⟩, fun k p K c hk => ?_, h.fresh, h.base, h.frm, h.df, h.n, h.okf⟩
 · rw [look_upd] at hk
   split at hk
   · rename_i e
     rw [hm] at hk; cases hk
     subst e
     obtain ⟨G, hG, _⟩ := h.obs.rel k mo hm
     exact ⟨G, hG, hr G hG⟩
   · exact h.obs.rel k p hk
 · obtain ⟨q, hq⟩ := hex k p hk
   obtain ⟨q', hq'⟩ := hex k' p' hk'
   exact h.obs.sep k k' q q' K K' c hq hq'
 · obtain ⟨q, hq⟩ := hex k p hk
   exact (h.obs.okb c hc).2 k q K hq hK
 · obtain ⟨q, hq⟩ := hex k p hk
   exact h.obs.lt k q K c hq
 · obtain ⟨q, hq⟩ := hex k p hk
   exact h.own k q K c hq
end
section
variable {P : Program} [Tabs P] {o : Oper} {cs : CSt} {next : CSt → Prop} {t e : TypeId} {x y lo hi : Operand} {m sz n c : Nat} {rows : Nat → List AV} {l k : Int}
theorem OpC.cap (hop : o.op = .call { callee := .builtin .cap, args := #[x], argTypes := #[t] }) (ht : P.underlying t = some (.slice e)) (hx : cs.st.ev x = .osl m) (ho : look cs.st.ob m = some (.arr e sz n rows)) (hd : dstOK o.dst cs.n = true)
 (hn : ∀ c : Nat, n ≤ c → c ≤ maxLen → cs.obK (upd cs.ob m (.arrc e sz n c rows)) cs.next fun cs' => cs'.putK o.dst (.int .i64 c) next) : OpC P o cs next := by
 unfold OpC OpG
 intro gb w0 gr ok0 g ok a w hj hr Q
 have hv := hr.ev x
 rw [hx] at hv
 obtain ⟨G, hg, hv⟩ := hv
 obtain ⟨K, hK, hGn, hcase⟩ := hr.obs.rel m _ ho
 rw [hg] at hK; cases hK
 have hnc : n ≤ G.c ∧ G.c ≤ maxLen := by
  rcases hcase with ⟨_, h0, h1⟩ | ⟨_, _, _, _, h1, h2, _⟩
  · exact ⟨by omega, by rw [h1]; unfold maxLen; omega⟩
  · exact ⟨h1, h2⟩
 obtain ⟨cs1, e1, h1⟩ := CSt.obK_st (hn G.c hnc.1 hnc.2)
 obtain ⟨cs2, e2, h2⟩ := CSt.putK_st h1
 have hrun : (execOp a.eval o).run P w = .ok (.value (.int .i64 G.c)) w := by
  have hc : (Builtin.cap_ #[t] o.type #[.slice (G.b.map fun b => (⟨b, 0, none⟩ : Addr)) G.n G.c]).run P w = .ok (.int .i64 G.c) w := by
   simp [Builtin.cap_, run_underlying ht, goInt]
  simp [execOp, hop, resolve, invoke, builtin, hv, hc]
 unfold Oper.wp
 rw [hrun, Oper.upon_value]
 have ht' := hr.tell ho (mo' := .arrc e sz n G.c rows) fun K hK => by
  rw [hg] at hK; cases hK
  exact ⟨rfl, hGn, hcase⟩
 exact ⟨_, g, ok, ht'.put (d := o.dst) (x := .int .i64 G.c) hd rfl, cs2, by rw [e2, e1]; rfl, h2⟩
theorem own_slicec {gb : Nat → Option Gh} {w0 : World} {gr ok0 : Nat → Prop} {g : Nat → Option Gh} {ok : Nat → Prop} {a : Act} {w : World} {st : St} (hr : Rep gb w0 gr ok0 st g ok a w) (hx : st.ev x = .osl m) (ho : look st.ob m = some (.arrc e sz n c rows)) :
 ∃ G, g m = some G ∧ a.eval x = .slice (G.b.map fun b => (⟨b, 0, none⟩ : Addr)) n c ∧ n ≤ c ∧ G.n = n ∧ G.c = c := by
 have hv := hr.ev x
 rw [hx] at hv
 obtain ⟨G, hg, hv⟩ := hv
 obtain ⟨K, hK, hc0, hn, hc⟩ := hr.obs.rel m _ ho
 rw [hg] at hK; cases hK
 refine ⟨G, hg, by rw [hv, hn, hc0], ?_, hn, hc0⟩
 rcases hc with ⟨_, h0, _⟩ | ⟨_, _, _, _, h1, _⟩
 · omega
 · omega
theorem OpC.headc (hop : o.op = .slice t x none (some hi) none) (ht : P.underlying t = some (.slice e)) (hx : cs.st.ev x = .osl m) (ho : look cs.st.ob m = some (.arrc e sz n c rows)) (hk : cs.st.ev hi = .int .i64 k)
 (hc : (Nat.beq (P.cellsOf e) sz && Nat.ble 1 sz) = true) (hd : dstOK o.dst cs.n = true) (hpre : 0 ≤ k ∧ k ≤ n) (hn : cs.putK o.dst (.vw m sz 0 k.toNat) next) : OpC P o cs next := by
 refine OpC.val cs.ob cs.next (.vw m sz 0 k.toNat) hd (fun gb w0 gr ok0 g ok a w hr => ?_) ?_
 · obtain ⟨G, hg, hv, hnc, hGn, hGc⟩ := own_slicec hr hx ho
   have hhi : a.eval hi = .int .i64 k := by have := hr.ev hi; rw [hk] at this; exact this
   rw [Bool.and_eq_true, Nat.ble_eq] at hc
   have hs := run_sizeOf_cellsOf (w := w) (Nat.eq_of_beq_eq_true hc.1) hc.2
   have hu' := run_underlying (w := w) ht
   have hb := run_sliceBounds_s (P := P) (w := w) (n := n) (c := c) (lo := none) (hi := some k) (l := 0) (h := k.toNat) rfl (by simp; omega) (by omega) (by omega)
   have hrun : (execOp a.eval o).run P w = .ok (.value (.slice (G.b.map (fun b => (⟨b, 0, none⟩ : Addr))) k.toNat c)) w := by
    have hb' : (Instr.sliceBounds true n c none (some (Value.int .i64 k)) none).run P w = .ok (0, k.toNat, c) w := hb
    simp [execOp, hop, hv, hhi, Instr.sliceAt, hu', Instr.slice, hb', hs]
    cases G.b <;> simp [add_off]
   exact ⟨_, w, g, hrun, hr, G, hg, by omega, _, by rw [hGc]; rfl, fun _ => by simp⟩
 · show cs.obK cs.ob cs.next fun cs' => cs'.putK o.dst (.vw m sz 0 k.toNat) next
   obtain ⟨tr, df, ob, nx, q⟩ := cs
   simp only [CSt.obK, fOb_eq, fN_eq]
   exact hn
theorem OpC.grow (hop : o.op = .slice t x none (some hi) none) (ht : P.underlying t = some (.slice e)) (hx : cs.st.ev x = .osl m) (ho : look cs.st.ob m = some (.arrc e sz n c rows)) (hk : cs.st.ev hi = .int .i64 k)
 (hc : (Nat.beq (P.cellsOf e) sz && Nat.ble 1 sz) = true) (hd : dstOK o.dst cs.n = true) (hpre : n ≤ k ∧ k ≤ c)
 (hn : cs.obK ((cs.next, .arr e sz k.toNat fun j => bif Nat.blt j n then rows j else List.replicate sz .any) :: delAll cs.ob m) (cs.next + 1) fun cs' => fN cs.next fun nm => cs'.putK o.dst (.osl nm) next) : OpC P o cs next := by
 refine OpC.val ((cs.next, .arr e sz k.toNat fun j => bif Nat.blt j n then rows j else List.replicate sz .any) :: delAll cs.ob m) (cs.next + 1) (.osl cs.next) hd (fun gb w0 gr ok0 g ok a w hr => ?_) (by simpa only [AV.force, fN_eq] using hn)
 obtain ⟨G, hg, hv, hnc, hGn, hGc⟩ := own_slicec hr hx ho
 have hhi : a.eval hi = .int .i64 k := by have := hr.ev hi; rw [hk] at this; exact this
 rw [Bool.and_eq_true, Nat.ble_eq] at hc
 have hs := run_sizeOf_cellsOf (w := w) (Nat.eq_of_beq_eq_true hc.1) hc.2
 have hu' := run_underlying (w := w) ht
 have hb := run_sliceBounds_s (P := P) (w := w) (n := n) (c := c) (lo := none) (hi := some k) (l := 0) (h := k.toNat) rfl (by simp; omega) (by omega) (by omega)
 have hrun : (execOp a.eval o).run P w = .ok (.value (.slice (G.b.map (fun b => (⟨b, 0, none⟩ : Addr))) k.toNat c)) w := by
  have hb' : (Instr.sliceBounds true n c none (some (Value.int .i64 k)) none).run P w = .ok (0, k.toNat, c) w := hb
  simp [execOp, hop, hv, hhi, Instr.sliceAt, hu', Instr.slice, hb', hs]
  cases G.b <;> simp [add_off]
 obtain ⟨K, hK, _, _, hcase⟩ := hr.obs.rel m _ ho
 rw [hg] at hK; cases hK
 have hrep := hr.swap (m := some m) (mo' := .arr e sz k.toNat fun j => bif Nat.blt j n then rows j else List.replicate sz .any) (G' := ⟨G.b, k.toNat, G.c⟩) (w' := w)
  (fun b hb => .inr ⟨m, _, G, rfl, ho, hg, hb⟩) (Nat.le_refl _) (fun _ _ _ => rfl) rfl rfl rfl ?_
 · exact ⟨_, w, _, hrun, hrep, ⟨_, gset_same, by rw [hGc]⟩⟩
 · rcases hcase with ⟨h1, h2, h3⟩ | ⟨b, cur, h1, h2, h3, h4, h5, h6⟩
   · exact ⟨rfl, .inl ⟨h1, by omega, h3⟩⟩
   · refine ⟨rfl, .inr ⟨b, cur, h1, h2, by show k.toNat ≤ G.c; omega, h4, h5, fun i hi => ?_⟩⟩
     dsimp only
     by_cases hin : i < n
     · rw [blt_t hin]; exact h6 i hin
     · rw [blt_f (by omega)]
       have hi' : i < k.toNat := hi
       have hm : i * sz + sz ≤ G.c * sz := by
        have := Nat.mul_le_mul_right sz (show i + 1 ≤ G.c by omega)
        rw [Nat.add_mul, Nat.one_mul] at this; exact this
       have any : ∀ (q : Nat) (us : List Value), us.length = q → RVs w ok G0 (List.replicate q .any) us := by
        intro q
        induction q with
        | zero => intro us hu; rw [List.eq_nil_of_length_eq_zero hu]; rfl
        | succ q ih =>
          intro us hu
          match us, hu with
          | u :: us, hu => exact ⟨u, us, rfl, trivial, ih us (by simpa using hu)⟩
       refine ⟨(cur.toList.drop (i * sz)).take sz, by simp; omega, any sz _ (by simp; omega), fun j hj => ?_⟩
       rw [List.getElem?_take, if_pos hj, List.getElem?_drop]; simp
theorem OpC.appz {tn : TypeId} {kn : IntKind} {i q : Nat} {z : List AV} (hop : o.op = .call { callee := .builtin .append, args := #[x, y], argTypes := #[t, tn] }) (ht : P.underlying t = some (.slice e)) (htn : P.underlying tn = some (.int kn)) (hx : cs.st.ev x = .vw m sz 0 i)
 (ho : look cs.st.ob m = some (.arrc e sz n c rows)) (hy : cs.st.ev y = .int .i64 k) (hz : zeroAV P e = some z) (hcc : (Nat.beq (P.cellsOf e) sz && Nat.beq z.length sz && Nat.ble 1 sz && Nat.ble 1 (P.bytesOf e) && z.all AV.nameless && z.all AV.one) = true) (hd : dstOK o.dst cs.n = true)
 (hk : k = (q : Int)) (hq : 0 < q) (hroom : c < i + q) (hbig : (i + q) * P.bytesOf e ≤ 140737488355328)
 (hn : cs.obK ((cs.next, .arr e sz (i + q) fun j => bif Nat.blt j i then rows j else z) :: cs.ob) (cs.next + 1) fun cs' => fN cs.next fun nm => cs'.putK o.dst (.osl nm) next) : OpC P o cs next := by
 refine OpC.val ((cs.next, .arr e sz (i + q) fun j => bif Nat.blt j i then rows j else z) :: cs.ob) (cs.next + 1) (.osl cs.next) hd (fun gb w0 gr ok0 g ok a w hr => ?_) (by simpa only [AV.force, fN_eq] using hn)
 simp only [Bool.and_eq_true, Nat.ble_eq] at hcc
 obtain ⟨⟨⟨⟨⟨c1, c2⟩, c3⟩, c4⟩, c5⟩, c6⟩ := hcc
 have c1 := Nat.eq_of_beq_eq_true c1
 have c2 := Nat.eq_of_beq_eq_true c2
 have hxv := hr.ev x
 rw [hx] at hxv
 obtain ⟨G, hg, hik, A, hv, hA⟩ := hxv
 have hyv : a.eval y = .int .i64 k := by have := hr.ev y; rw [hy] at this; exact this
 obtain ⟨K, hK, hGc, hGn, hcase⟩ := hr.obs.rel m _ ho
 rw [hg] at hK; cases hK
 obtain ⟨ti, zv, hi, hzv, rfl⟩ := zeroAV_spec hz
 obtain ⟨zs, hzs, hzr⟩ := ofVal_cells (w := w) (ok := ok) (g := g) zv
 have hzsl : zv.cells.size = sz := by rw [← Array.length_toList, hzs]; have := hzr.length; omega
 have hsz : ti.size = sz := by rw [← c1]; simp [Program.cellsOf, hi]
 have hby : ti.bytes = P.bytesOf e := by simp [Program.bytesOf, hi]
 have hb1 : q * P.bytesOf e ≤ 140737488355328 := Nat.le_trans (Nat.mul_le_mul_right _ (by omega)) hbig
 have hiq : i + q ≤ 140737488355328 := Nat.le_trans (Nat.le_mul_of_pos_right _ c4) hbig
 have hold : ∃ olds : List Value, olds.length = i * sz ∧ (Builtin.firstCells ti.size i (.slice A i (G.c - 0))).run P w.drew = .ok olds.toArray w.drew ∧ ∀ j, j < i → ∃ vs : List Value, vs.length = sz ∧ RVs w ok G0 (rows j) vs ∧ ∀ p, p < sz → olds[j * sz + p]? = vs[p]? := by
  rcases hcase with ⟨h1, h2, h3⟩ | ⟨b, cur, h1, h2, h3, h4, h5, h6⟩
  · have hi0 : i = 0 := by omega
    subst hi0
    refine ⟨[], by simp, ?_, fun j hj => by omega⟩
    cases A with
    | none => exact run_firstCells_none w.drew ti.size 0 0 _
    | some ad => exact run_firstCells_some w.drew ti.size 0 ad 0 _ [] (by simp) (fun j v hj => by simp at hj)
  · have hlen : (cur.toList.take (i * sz)).length = i * sz := by
     rw [List.length_take, Array.length_toList, h5]
     have := Nat.mul_le_mul_right sz (show i ≤ G.c by omega)
     omega
    refine ⟨cur.toList.take (i * sz), hlen, ?_, fun j hj => ?_⟩
    · rcases Nat.eq_zero_or_pos i with hi0 | hi0
      · subst hi0
        cases A with
        | none => simp; exact run_firstCells_none w.drew ti.size 0 0 _
        | some ad => simp; exact run_firstCells_some w.drew ti.size 0 ad 0 _ [] (by simp) (fun j v hj => by simp at hj)
      · have := hA hi0
        rw [h1] at this
        subst this
        refine run_firstCells_some w.drew ti.size i ⟨b, 0 * sz, none⟩ i _ (cur.toList.take (i * sz)) (by rw [hsz]; exact hlen) (fun j u hu => ?_)
        have hj : j < i * sz := by
         rcases Nat.lt_or_ge j (i * sz) with h | h
         · exact h
         · rw [List.getElem?_eq_none (by omega)] at hu; cases hu
        rw [add_off, Nat.zero_mul, Nat.zero_add]
        rw [List.getElem?_take, if_pos hj] at hu
        show w.drew.cell? _ = _
        rw [cell_of_row w.drew b j cur e (0, 0) h2]
        simpa using hu
    · obtain ⟨vs, k1, k2, k3⟩ := h6 j (by omega)
      refine ⟨vs, k1, k2, fun p hp => ?_⟩
      have hlt : j * sz + p < i * sz := by
       calc j * sz + p < j * sz + sz := by omega
        _ = (j + 1) * sz := by rw [Nat.add_mul, Nat.one_mul]
        _ ≤ i * sz := Nat.mul_le_mul_right _ hj
      rw [List.getElem?_take, if_pos hlt, ← k3 p hp]; simp
 obtain ⟨olds, hol, hfc, hor⟩ := hold
 rw [Nat.sub_zero, hGc] at hfc
 have hrun0 := Lib.run_append_grow_zeros (P := P) w t tn o.type e ti zv .i64 kn ht htn hi hzv A i c olds hfc q hq (by omega) hroom (by omega) (by rw [hby]; omega) (by rw [hby]; exact growslice_fits hroom hbig)
 have hrun : (execOp a.eval o).run P w = .ok (.value (.slice (some ⟨w.heap.size, 0, none⟩) (i + q) (grownCap w (i + q) c e))) (w.drew.alloc (.cells (olds.toArray ++ Builtin.zeroCells zv.cells q ++ Builtin.zeroCells zv.cells (grownCap w (i + q) c e - (i + q))) e)) := by
  rw [Nat.sub_zero, hGc] at hv
  rw [hk] at hyv
  simp [execOp, hop, resolve, invoke, builtin, hv, hyv, hrun0]
 have hge := grownCap_ge w (i + q) c e
 have hcm : grownCap w (i + q) c e ≤ maxLen := grownCap_le_maxLen w (i + q) c e (by unfold maxLen; omega)
 generalize hcap : grownCap w (i + q) c e = cp at *
 generalize hrow : (olds.toArray ++ Builtin.zeroCells zv.cells q ++ Builtin.zeroCells zv.cells (cp - (i + q))) = row at *
 have hadd := hr.addNew (nm := cs.next) (nx := cs.next + 1) (w' := w.drew.alloc (.cells row e)) (G := ⟨some w.heap.size, i + q, cp⟩) (mo := .arr e sz (i + q) fun j => bif Nat.blt j i then rows j else (ofVal zv).cells) (hr.fresh _ (Nat.le_refl _)) (Nat.lt_succ_self _) (Nat.le_succ _)
  ⟨rfl, rfl, rfl, by simp, fun b hb _ => RowKit.Below.heap_alloc w.drew _ b hb⟩ (fun b hb => by cases hb; exact ⟨Nat.le_refl _, by simp⟩) ?_
 · exact ⟨_, _, _, hrun, hadd, ⟨_, gset_same, rfl⟩⟩
 · refine ⟨rfl, .inr ⟨w.heap.size, _, rfl, heap_alloc_new w.drew _, hge, hcm, ?_, ?_⟩⟩
   · rw [← hrow]
     simp only [Array.size_append, List.size_toArray, hol, size_zeroCells, hzsl]
     rw [← Nat.add_mul, ← Nat.add_mul]
     congr 1; omega
   · intro j hj
     have hmono : ∀ (as : List AV) (vs : List Value), RVs w ok G0 as vs → RVs (w.drew.alloc (.cells row e)) ok G0 as vs := fun as vs hh => RVs.mono (w := w) (fun _ h => h) (fun b hb => RowKit.Below.heap_alloc w.drew _ b (hr.obs.okb b hb).1) G0 G0 (fun _ _ h => h) as vs hh
     have hj' : j < i + q := hj
     by_cases hji : j < i
     · obtain ⟨vs, k1, k2, k3⟩ := hor j hji
       refine ⟨vs, k1, by dsimp only; rw [blt_t hji]; exact hmono _ _ k2, fun p hp => ?_⟩
       have hlt : j * sz + p < i * sz := by
        calc j * sz + p < j * sz + sz := by omega
         _ = (j + 1) * sz := by rw [Nat.add_mul, Nat.one_mul]
         _ ≤ i * sz := Nat.mul_le_mul_right _ hji
       rw [← k3 p hp, ← hrow, Array.append_assoc, Array.getElem?_append_left (by simp; omega)]
       simp
     · obtain ⟨zs', hzs', hzr'⟩ := ofVal_cells (w := w.drew.alloc (.cells row e)) (ok := ok) (g := G0) zv
       refine ⟨zs', by have := hzr'.length; omega, by dsimp only; rw [blt_f (by omega)]; exact hzr', fun p hp => ?_⟩
       have e5 : j * sz + p = i * sz + ((j - i) * sz + p) := by
        have : j = i + (j - i) := by omega
        calc j * sz + p = (i + (j - i)) * sz + p := by rw [← this]
         _ = _ := by rw [Nat.add_mul]; omega
       have hlt : (j - i) * sz + p < q * sz := by
        calc (j - i) * sz + p < (j - i) * sz + sz := by omega
         _ = (j - i + 1) * sz := by rw [Nat.add_mul, Nat.one_mul]
         _ ≤ q * sz := Nat.mul_le_mul_right _ (by omega)
       have := zero_cells_get (z := zv.cells) (k := q) (p := j - i) (q := p) (by omega) (by omega)
       rw [hzsl] at this
       rw [e5, ← hrow, Array.append_assoc, Array.getElem?_append_right (by simp; omega), List.size_toArray, hol, Nat.add_sub_cancel_left, Array.getElem?_append_left (by rw [size_zeroCells, hzsl]; exact hlt), this, ← hzs', Array.getElem?_toList]
theorem patchRows {w w' : World} {ok : Nat → Prop} {cur : Array Value} {c n sz l k : Nat} {rows r2 : Nat → List AV} {vs : List Value} (hcs : cur.size = c * sz) (hnc : n ≤ c) (hlk : l + k ≤ c)
 (hrow : ∀ i, i < n → ∃ us : List Value, us.length = sz ∧ RVs w ok G0 (rows i) us ∧ ∀ j, j < sz → cur[i * sz + j]? = us[j]?) (hvl : vs.length = k * sz)
 (hsrc : ∀ i, i < k → ∃ us : List Value, us.length = sz ∧ RVs w ok G0 (r2 i) us ∧ ∀ j, j < sz → vs[i * sz + j]? = us[j]?) (hok : ∀ b, ok b → w'.heap[b]? = w.heap[b]?) :
 (cur.toList.take (l * sz) ++ vs ++ cur.toList.drop (l * sz + k * sz)).length = cur.size ∧ ∀ i, i < n → ∃ us : List Value, us.length = sz ∧ RVs w' ok G0 (bif Nat.blt i l then rows i else bif Nat.blt i (l + k) then r2 (i - l) else rows i) us ∧
  ∀ j, j < sz → (cur.toList.take (l * sz) ++ vs ++ cur.toList.drop (l * sz + k * sz)).toArray[i * sz + j]? = us[j]? := by
 have hfit : l * sz + k * sz ≤ cur.size := by rw [hcs, ← Nat.add_mul]; exact Nat.mul_le_mul_right _ hlk
 have htl : (cur.toList.take (l * sz)).length = l * sz := by rw [List.length_take, Array.length_toList]; omega
 have hmul : ∀ p q : Nat, p < q → p * sz + sz ≤ q * sz := fun p q hpq => by
  have := Nat.mul_le_mul_right sz (show p + 1 ≤ q from hpq)
  rw [Nat.add_mul, Nat.one_mul] at this; exact this
 have hmono : ∀ (as : List AV) (us : List Value), RVs w ok G0 as us → RVs w' ok G0 as us := fun as us hh => RVs.mono (fun _ h => h) hok G0 G0 (fun _ _ h => h) as us hh
 refine ⟨by rw [List.length_append, List.length_append, htl, hvl, List.length_drop, Array.length_toList]; omega, fun i hi => ?_⟩
 by_cases c1 : i < l
 · obtain ⟨us, k1, k2, k3⟩ := hrow i hi
   refine ⟨us, k1, by rw [blt_t c1]; exact hmono _ _ k2, fun j hj => ?_⟩
   have := hmul i l c1
   rw [← k3 j hj, List.getElem?_toArray, List.append_assoc, List.getElem?_append_left (by omega), List.getElem?_take, if_pos (by omega)]
   simp
 by_cases c2 : i < l + k
 · obtain ⟨us, k1, k2, k3⟩ := hsrc (i - l) (by omega)
   refine ⟨us, k1, by rw [blt_f (by omega), blt_t c2]; exact hmono _ _ k2, fun j hj => ?_⟩
   have e5 : i * sz + j = l * sz + ((i - l) * sz + j) := by
    have : i = l + (i - l) := by omega
    calc i * sz + j = (l + (i - l)) * sz + j := by rw [← this]
     _ = _ := by rw [Nat.add_mul]; omega
   have hlt : (i - l) * sz + j < k * sz := by have := hmul (i - l) k (by omega); omega
   rw [e5, List.getElem?_toArray, List.append_assoc, List.getElem?_append_right (by omega), htl, Nat.add_sub_cancel_left, List.getElem?_append_left (by omega), k3 j hj]
 · obtain ⟨us, k1, k2, k3⟩ := hrow i hi
   refine ⟨us, k1, by rw [blt_f (by omega), blt_f (by omega)]; exact hmono _ _ k2, fun j hj => ?_⟩
   have h7 : l * sz + k * sz ≤ i * sz := by rw [← Nat.add_mul]; exact Nat.mul_le_mul_right _ (by omega)
   rw [← k3 j hj, List.getElem?_toArray, List.getElem?_append_right (by rw [List.length_append, htl, hvl]; omega), List.length_append, htl, hvl, List.getElem?_drop, Array.getElem?_toList]
   congr 1; omega
theorem OpC.copy {t' : TypeId} {i k1 k2 : Nat} {r2 : Nat → List AV} (hop : o.op = .call { callee := .builtin .copy, args := #[x, y], argTypes := #[t, t'] }) (ht : P.underlying t = some (.slice e)) (hx : cs.st.ev x = .vw m sz i k1)
 (ho : look cs.st.ob m = some (.arr e sz n rows)) (hy : rowsOf (look cs.st.ob) (cs.st.ev y) = some (sz, k2, r2)) (hc : (Nat.beq (P.cellsOf e) sz && Nat.ble 1 sz) = true) (hd : dstOK o.dst cs.n = true) (hk1 : 1 ≤ k1) (hk2 : 1 ≤ k2) (h1 : ∀ j, j < Nat.min k2 k1 → (r2 j).all AV.one = true)
 (hn : cs.obK (upd cs.ob m (.arr e sz n fun j => bif Nat.blt j i then rows j else bif Nat.blt j (i + Nat.min k2 k1) then r2 (j - i) else rows j)) cs.next fun cs' => cs'.putK o.dst (.int .i64 (Nat.min k2 k1 : Nat)) next) : OpC P o cs next := by
 refine OpC.val (upd cs.ob m (.arr e sz n fun j => bif Nat.blt j i then rows j else bif Nat.blt j (i + Nat.min k2 k1) then r2 (j - i) else rows j)) cs.next (.int .i64 (Nat.min k2 k1 : Nat)) hd (fun gb w0 gr ok0 g ok a w hr => ?_) hn
 simp only [Bool.and_eq_true, Nat.ble_eq] at hc
 obtain ⟨c1, c2⟩ := hc
 have c1 := Nat.eq_of_beq_eq_true c1
 obtain ⟨kk, hkk⟩ : ∃ kk, kk = Nat.min k2 k1 := ⟨_, rfl⟩
 rw [← hkk]
 have hkk' : kk ≤ k1 ∧ kk ≤ k2 ∧ 1 ≤ kk := by rw [hkk]; simp only [Nat.min_def]; split <;> omega
 have hxv := hr.ev x
 rw [hx] at hxv
 obtain ⟨G, hg, hik, A, hv, hA⟩ := hxv
 obtain ⟨K, hK, hGn, hcase⟩ := hr.obs.rel m _ ho
 rw [hg] at hK; cases hK
 rcases hcase with ⟨e1, e2, e3⟩ | ⟨b, cur, e1, e2, e3, e4, e5, e6⟩
 · omega
 have hA' := hA hk1
 rw [e1] at hA'
 subst hA'
 obtain ⟨A2, cp2, hv2, hn2, hr2⟩ := rowsOf_spec hy (hr.ev y) hr.obr
 obtain ⟨b2, o2, rfl, hr3⟩ := hr2.resolve_left (by omega)
 have : ∃ c : Nat → List Value, ∀ q, q < kk → (c q).length = sz ∧ RVs w ok G0 (r2 q) (c q) ∧ ∀ j, j < sz → w.cell? ⟨b2, o2 + (q * sz + j), none⟩ = (c q)[j]? :=
  ⟨fun q => if h : q < kk then (hr3 q (by omega)).choose else [], fun q hq => by simp only [hq, dif_pos]; exact (hr3 q (by omega)).choose_spec⟩
 obtain ⟨cc, hcc⟩ := this
 obtain ⟨f1, f2⟩ := flat_get sz cc kk fun q hq => (hcc q hq).1
 have hs0 : 0 < sz := by omega
 have hcell : ∀ j v, (flat kk cc)[j]? = some v → w.cell? ((⟨b2, o2, none⟩ : Addr).add j) = some v := fun j v hj => by
  have hlt : j < kk * sz := by
   rcases Nat.lt_or_ge j (kk * sz) with h | h
   · exact h
   · rw [List.getElem?_eq_none (by omega)] at hj; cases hj
  have q1 : j / sz < kk := (Nat.div_lt_iff_lt_mul hs0).2 hlt
  have q2 : j % sz < sz := Nat.mod_lt _ hs0
  have q3 : j / sz * sz + j % sz = j := by rw [Nat.mul_comm]; exact Nat.div_add_mod j sz
  rw [add_off, ← q3, (hcc _ q1).2.2 _ q2, ← f2 _ _ q1 q2, q3, hj]
 have hone : ∀ v ∈ flat kk cc, v.oneCell' = true := fun v hv => by
  obtain ⟨q, hq, hu⟩ := List.mem_flatMap.1 hv
  have hq' := List.mem_range.1 hq
  exact one_cells (h1 q (by rw [← hkk]; exact hq')) (hcc q hq').2.1 v hu
 have hik' : i + kk ≤ G.c := by omega
 have hpatch := fun (W : World) (hW : ∀ b, ok b → W.heap[b]? = w.heap[b]?) => patchRows (w := w) (w' := W) (ok := ok) (cur := cur) (c := G.c) (n := n) (sz := sz) (l := i) (k := kk) (rows := rows) (r2 := r2) (vs := flat kk cc) e5 e3 hik' e6 f1
  (fun q hq => ⟨cc q, (hcc q hq).1, (hcc q hq).2.1, fun j hj => f2 q j hq hj⟩) hW
 have hfit : i * sz + 0 + (flat kk cc).length ≤ cur.size := by
  rw [f1, e5, Nat.add_zero, ← Nat.add_mul]
  exact Nat.mul_le_mul_right _ hik'
 have hst := run_storeCells_at (P := P) b (i * sz) e (flat kk cc) 0 cur w e2 hfit hone
 simp only [Nat.add_zero, f1] at hst
 generalize hnew : (cur.toList.take (i * sz) ++ flat kk cc ++ cur.toList.drop (i * sz + kk * sz)) = new at hst hpatch
 have hfc := run_firstCells_some (P := P) w sz kk ⟨b2, o2, none⟩ k2 cp2 (flat kk cc) f1 hcell
 have hsz := run_sizeOf_cellsOf (P := P) (w := w) c1 c2
 have hrun : (execOp a.eval o).run P w = .ok (.value (.int .i64 (kk : Nat))) (w.setRow b new.toArray) := by
  have hcl : (Builtin.copy_ #[t, t'] o.type #[.slice (some ⟨b, i * sz, none⟩) k1 (G.c - i), .slice (some ⟨b2, o2, none⟩) k2 cp2]).run P w = .ok (.int .i64 (kk : Nat)) (w.setRow b new.toArray) := by
   simp [Builtin.copy_, run_underlying ht, Builtin.lenOf, ← hkk, hsz, hfc, hst, goInt]
  simp [execOp, hop, resolve, invoke, builtin, hv, hv2, hcl]
 have hset := setRow_heap w b cur new.toArray e (0, 0) e2
 have hother := fun q (hq : q ≠ b) => setRow_other w b q new.toArray hq
 have s1 : (w.setRow b new.toArray).heap.size = w.heap.size := by simp
 have s2 : (w.setRow b new.toArray).os = w.os := rfl
 have s3 : (w.setRow b new.toArray).tape = w.tape := rfl
 have s4 : (w.setRow b new.toArray).output = w.output := rfl
 generalize w.setRow b new.toArray = W at *
 have hokc : ∀ c, ok c → W.heap[c]? = w.heap[c]? := fun c hc => hother c fun e => by subst e; exact (hr.obs.okb c hc).2 m _ G ho hg e1
 obtain ⟨p1, p2⟩ := hpatch W hokc
 exact ⟨_, W, g, hrun, hr.write ho hg e1 s1 hother s2 s3 s4 ⟨hGn, .inr ⟨b, _, e1, hset, e3, e4, by simp [p1, e5], p2⟩⟩, rfl⟩
end
end Go.Vw

namespace Go.Vw
open Go
theorem CallC.overlaps {P : Program} [Tabs P] {F : FuncId} {fn : Func} {tS tR e e1 e2 : TypeId} {mv m sz sz' sz1 sz2 n1 n2 i k : Nat} {r1 r2 : Nat → List AV} {cs : CSt} {d : Option Tmp} {next : CSt → Prop} (hf : P.funcs[F]? = some fn) (hname : (fn.name == "runtime.NumGoroutine") = false)
 (hb : fn.body.isNone = true) (hnx : Extern.findNext fn = none) (he : Extern.find fn = some (Extern.SlicesOverlaps.overlaps #[tS, tS] #[tR])) (ht : P.underlying tS = some (.slice e)) (hsz : (Nat.beq (P.cellsOf e) sz && Nat.ble 1 sz) = true) (hne : mv ≠ m)
 (ho1 : look cs.st.ob mv = some (.arr e1 sz1 n1 r1)) (ho2 : look cs.st.ob m = some (.arr e2 sz2 n2 r2)) (hz2 : Nat.ble 1 sz2 = true) (h1 : 1 ≤ n1) (hk : 1 ≤ k) (hd : dstOK d cs.n = true) (hn : cs.putK d (.bool false) next) : CallC P F [.osl mv, .vw m sz' i k] cs d next := by
 unfold CallC
 refine CallG.ext (.bool false) (fun gb w0 gr ok0 g ok a w vs hr hargs => ?_) hd (CSt.putK_st hn)
 obtain ⟨v1, us, rfl, ⟨G, hG, hv1⟩, v2, us2, rfl, ⟨K, hK, hik, A, hv2, hA⟩, hus⟩ := hargs
 have hus : us2 = [] := hus
 subst hus
 rw [Bool.and_eq_true, Nat.ble_eq] at hsz
 have hs : ∀ w, (sizeOf e).run P w = .ok sz w := fun w => run_sizeOf_cellsOf (Nat.eq_of_beq_eq_true hsz.1) hsz.2
 obtain ⟨G', hG', hGn, hc1⟩ := hr.obs.rel mv _ ho1
 rw [hG] at hG'; cases hG'
 obtain ⟨K', hK', hKn, hc2⟩ := hr.obs.rel m _ ho2
 rw [hK] at hK'; cases hK'
 rcases hc1 with ⟨_, h0, _⟩ | ⟨b1, cur1, x1, x2, x3, x4, x5, _⟩
 · omega
 rcases hc2 with ⟨_, h0, _⟩ | ⟨b2, cur2, y1, y2, y3, y4, y5, _⟩
 · omega
 have hA' := hA hk
 rw [y1] at hA'
 subst hA'
 rw [x1] at hv1
 have hne' : b1 ≠ b2 := fun e => by subst e; exact hne (hr.obs.sep mv m _ _ G K b1 ho1 ho2 hG hK x1 y1)
 subst hv1 hv2
 refine ⟨.bool false, ?_, rfl⟩
 rw [run_callFunc_extern hf hname hb hnx he]
 have := Lib.run_overlaps_apart (P := P) w tS tR e ht sz hs ⟨b1, 0, none⟩ ⟨b2, i * sz', none⟩ G.n G.c k (K.c - i) hne' e1 e2 cur1.size cur2.size (by simp [World.shape?, x2]) (by simp [World.shape?, y2])
  (by
   rw [y5]
   have h1 : 1 ≤ sz2 := Nat.le_of_ble_eq_true hz2
   have h2 : 1 ≤ K.c := by omega
   have := Nat.mul_le_mul h2 h1
   omega) (by simp [World.frozen?, x2]) (by simp [World.frozen?, x2])
 have e5 : (#[Value.slice (Option.map (fun b => (⟨b, 0, none⟩ : Addr)) (some b1)) G.n G.c, Value.slice (Option.map (fun b => (⟨b, i * sz', none⟩ : Addr)) (some b2)) k (K.c - i)] : Array Value) = #[.slice (some ⟨b1, 0, none⟩) G.n G.c, .slice (some ⟨b2, i * sz', none⟩) k (K.c - i)] := rfl
 show ((Extern.SlicesOverlaps.overlaps #[tS, tS] #[tR] #[.slice (some ⟨b1, 0, none⟩) G.n G.c, .slice (some ⟨b2, i * sz', none⟩) k (K.c - i)]).run P w).andThen _ = _
 rw [this]
 rfl
end Go.Vw

namespace Go.Vw
open Go
def nbOk (neg : Bool) (b : List UInt8) : Bool := (decide (b ≠ []) && decide (b.length ≤ 18)) && (!(decide (b.headD 0 = 48) && (decide (1 < b.length) || neg)) && b.all dig)
theorem nbOk_iff {neg : Bool} {b : List UInt8} : nbOk neg b = true ↔ b ≠ [] ∧ b.length ≤ 18 ∧ (b.headD 0 = 48 → ¬ 1 < b.length ∧ neg = false) ∧ b.all dig = true := by
 unfold nbOk
 cases neg <;> by_cases h1 : b = [] <;> by_cases h2 : b.headD 0 = 48 <;> by_cases h3 : 1 < b.length <;> simp [h1, h2, h3] <;> simp_all
theorem numB_ge : ∀ (l : List UInt8) (n : Nat), n ≤ numB n l
 | [], n => Nat.le_refl _
 | c :: r, n => by
   have := numB_ge r (n * 10 + (c.toNat - 48))
   show n ≤ numB (n * 10 + (c.toNat - 48)) r
   omega
theorem numB_pos {b : List UInt8} (h0 : b ≠ []) (hd : b.all dig = true) (h : b.headD 0 ≠ 48) : 1 ≤ numB 0 b := by
 cases b with
 | nil => exact absurd rfl h0
 | cons c r =>
   have h1 : c ≠ 48 := h
   simp only [List.all_cons, Bool.and_eq_true] at hd
   have h2 := of_decide_eq_true hd.1
   have h3 : c.toNat ≠ 48 := fun e => h1 (UInt8.toNat_inj.1 e)
   have := numB_ge r (0 * 10 + (c.toNat - 48))
   show 1 ≤ numB (0 * 10 + (c.toNat - 48)) r
   omega
theorem numB_lt (l : List UInt8) : ∀ (n : Nat), l.all dig = true → numB n l < (n + 1) * 10 ^ l.length := by
 induction l with
 | nil => intro n _; exact (show n < (n + 1) * 1 by omega)
 | cons c r ih =>
   intro n h
   simp only [List.all_cons, Bool.and_eq_true] at h
   have h2 := of_decide_eq_true h.1
   have h3 := ih (n * 10 + (c.toNat - 48)) h.2
   have e : (n * 10 + (c.toNat - 48) + 1) * 10 ^ r.length ≤ (n + 1) * 10 * 10 ^ r.length := Nat.mul_le_mul_right _ (by omega)
   rw [List.length_cons, Nat.pow_succ, Nat.mul_comm (10 ^ r.length) 10, ← Nat.mul_assoc]
   generalize hz : 10 ^ r.length = z at h3 e ⊢
   show numB (n * 10 + (c.toNat - 48)) r < _
   exact Nat.lt_of_lt_of_le h3 e
theorem numB_18 {b : List UInt8} (h : b.all dig = true) (hl : b.length ≤ 18) : numB 0 b ≤ 999999999999999999 := by
 have h1 := numB_lt b 0 h
 have h2 : 10 ^ b.length ≤ 10 ^ 18 := Nat.pow_le_pow_right (by decide) hl
 simp only [Nat.zero_add, Nat.one_mul] at h1
 have h3 := Nat.lt_of_lt_of_le h1 h2
 exact Nat.le_of_lt_succ h3
theorem dd_head : ∀ u : Nat, 1 ≤ u → (Lib.decDigits u).headD 0 ≠ 48 := by
 intro u
 induction u using Nat.strongRecOn with
 | _ u ih =>
   intro hu
   by_cases h : u < 10
   · rw [dd_base h]
     show d1 u ≠ 48
     intro e
     have := congrArg UInt8.toNat e
     rw [d1_toNat] at this
     have : 48 + u % 10 = 48 := this
     omega
   · rw [dd_step h]
     have := ih (u / 10) (by omega) (by omega)
     obtain ⟨_, _, h3⟩ := dd_num (u / 10)
     cases hl : Lib.decDigits (u / 10) with
     | nil => exact absurd hl h3
     | cons c r => rw [hl] at this; exact this
theorem dd_back : ∀ (n : Nat) (b : List UInt8), b.length = n → b ≠ [] → b.all dig = true → (b.headD 0 = 48 → ¬ 1 < b.length) → Lib.decDigits (numB 0 b) = b
 | 0, b, hn, h0, _, _ => absurd (List.length_eq_zero_iff.1 hn) h0
 | n + 1, b, hn, h0, hd, hh => by
   rcases List.eq_nil_or_concat b with e | ⟨l, c, e⟩
   · exact absurd e h0
   rw [List.concat_eq_append] at e
   subst e
   rw [List.all_append, Bool.and_eq_true] at hd
   obtain ⟨k, hk, hc, hall⟩ := dig_d1 (show dig c = true by simpa using hd.2)
   have hs := numB_snoc' l 0 c
   rw [hs]
   cases l with
   | nil =>
     show Lib.decDigits (0 * 10 + (c.toNat - 48)) = [c]
     rw [dd_base (by omega), hall _ (by omega)]
   | cons x r =>
     have hh' : (x :: r).headD 0 ≠ 48 := fun e => hh e (by simp)
     have hp := numB_pos (by simp) hd.1 hh'
     rw [dd_step (by omega), show (numB 0 (x :: r) * 10 + (c.toNat - 48)) / 10 = numB 0 (x :: r) by omega, dd_back n (x :: r) (by simp at hn ⊢; omega) (by simp) hd.1 (fun e => absurd e hh'), hall _ (by omega)]
theorem numOk_pos {t : List UInt8} (h : t.headD 0 ≠ 45) : numOk t = nbOk false t ∧ (numOk t = true → atoiV t = numB 0 t) := by
 have back : nbOk false t = true → numOk t = true ∧ atoiV t = numB 0 t := fun hb => by
  obtain ⟨h1, h2, h3, h4⟩ := nbOk_iff.1 hb
  have e := dd_back _ t rfl h1 h4 fun e => (h3 e).1
  have hN := numB_18 h4 h2
  have := num_back (n := (numB 0 t : Int)) (by omega) (by omega)
  rw [Lib.itoa_nonneg, e] at this
  exact this
 have fwd : numOk t = true → nbOk false t = true := fun hn => by
  obtain ⟨n, e, _, h0, h1⟩ := num_of hn
  by_cases hneg : n < 0
  · obtain ⟨u, rfl⟩ : ∃ u : Nat, n = -(u : Int) := ⟨n.natAbs, by omega⟩
    rw [Lib.itoa_neg u (by omega)] at e
    rw [e] at h; exact absurd rfl h
  · obtain ⟨u, rfl⟩ : ∃ u : Nat, n = (u : Int) := ⟨n.toNat, by omega⟩
    rw [Lib.itoa_nonneg] at e
    obtain ⟨_, e2, e3⟩ := dd_num u
    rw [e]
    refine nbOk_iff.2 ⟨e3, dd_len18 (by omega), fun e48 => ⟨fun hl => ?_, rfl⟩, e2⟩
    rcases Nat.eq_zero_or_pos u with h0 | h0
    · subst h0; rw [dd_base (by decide)] at hl; simp at hl
    · exact dd_head u h0 e48
 refine ⟨Bool.eq_iff_iff.2 ⟨fwd, fun h => (back h).1⟩, fun h => (back (fwd h)).2⟩
theorem numOk_neg (t : List UInt8) : numOk (45 :: t) = nbOk true t ∧ (numOk (45 :: t) = true → atoiV (45 :: t) = -(numB 0 t : Int)) := by
 have back : nbOk true t = true → numOk (45 :: t) = true ∧ atoiV (45 :: t) = -(numB 0 t : Int) := fun hb => by
  obtain ⟨h1, h2, h3, h4⟩ := nbOk_iff.1 hb
  have hne : t.headD 0 ≠ 48 := fun e => by have := (h3 e).2; cases this
  have e := dd_back _ t rfl h1 h4 fun e => absurd e hne
  have hN := numB_18 h4 h2
  have hp := numB_pos h1 h4 hne
  have := num_back (n := -(numB 0 t : Int)) (by omega) (by omega)
  rw [Lib.itoa_neg _ hp, e] at this
  exact this
 have fwd : numOk (45 :: t) = true → nbOk true t = true := fun hn => by
  obtain ⟨n, e, _, h0, h1⟩ := num_of hn
  by_cases hneg : n < 0
  · obtain ⟨u, rfl⟩ : ∃ u : Nat, n = -(u : Int) := ⟨n.natAbs, by omega⟩
    rw [Lib.itoa_neg u (by omega)] at e
    have e : t = Lib.decDigits u := by simpa using e
    obtain ⟨_, e2, e3⟩ := dd_num u
    rw [e]
    exact nbOk_iff.2 ⟨e3, dd_len18 (by omega), fun e48 => absurd e48 (dd_head u (by omega)), e2⟩
  · obtain ⟨u, rfl⟩ : ∃ u : Nat, n = (u : Int) := ⟨n.toNat, by omega⟩
    rw [Lib.itoa_nonneg] at e
    obtain ⟨_, e2, _⟩ := dd_num u
    rw [← e] at e2
    simp [dig] at e2
 refine ⟨Bool.eq_iff_iff.2 ⟨fwd, fun h => (back h).1⟩, fun h => (back (fwd h)).2⟩
structure Lea where
 tok : Int
 who : Int
 til : Int
instance : Inhabited Lea := ⟨⟨0, 0, 0⟩⟩
def Lea.row (l : Lea) : List AV := [.int .i64 l.tok, .int .i64 l.who, .int .i64 l.til]
def Lea.av (l : Lea) : AV := .agg l.row
def Lea.ok (l : Lea) : Bool := within l.tok 1 999999 && (within l.who 0 9 && within l.til 0 200000)
def Lea.text (l : Lea) : List UInt8 := Lib.join ([l.tok, l.who, l.til].map Lib.itoa) [44]
def leaK : List UInt8 := [108, 101, 97, 115, 101]
def lea3 : List Int → Option Lea
 | [a, b, c] => if Lea.ok ⟨a, b, c⟩ = true then some ⟨a, b, c⟩ else none
 | _ => none
def readL (t : List UInt8) : Option Lea := (numsK 44 3 t).bind lea3
theorem nums3 {c : UInt8} {t : List UInt8} {N : List Int} (h : numsK c 3 t = some N) : ∃ a b d, N = [a, b, d] := by
 unfold numsK at h
 split at h
 · rename_i hc
   cases h
   match hl : cutP c [] t, hc.1 with
   | [x, y, z], _ => exact ⟨_, _, _, rfl⟩
 · cases h
theorem readL_ok {t : List UInt8} {l : Lea} (h : readL t = some l) : l.ok = true := by
 unfold readL at h
 cases hn : numsK 44 3 t with
 | none => rw [hn] at h; cases h
 | some N =>
   rw [hn] at h
   obtain ⟨a, b, c, rfl⟩ := nums3 hn
   have h : (if Lea.ok ⟨a, b, c⟩ = true then some (⟨a, b, c⟩ : Lea) else none) = some l := h
   split at h
   · cases h; assumption
   · cases h
def Sto.lea (s : Sto) : Lea × Int := if s.has leaK = true then (match readL (s.get leaK).data with | some l => (l, 0) | none => (default, 17)) else (default, 5)
def Sto.leaV (s : Sto) : Int := if s.lea.2 = 0 then (s.get leaK).ver else 0
def Sto.chgC (s : Sto) (who tok : Int) : Int := if s.lea.2 = 17 then 17 else if s.lea.2 ≠ 0 ∨ s.lea.1.who ≠ who ∨ s.lea.1.tok ≠ tok ∨ s.lea.1.til = 0 then 13 else 0
def Sto.chgL (s : Sto) (til : Int) : Lea := ⟨s.lea.1.tok, s.lea.1.who, til⟩
def Sto.chg (s : Sto) (who tok til : Int) : Sto × Int := if s.chgC who tok = 0 then (s.put leaK (s.chgL til).text, s.room leaK (s.chgL til).text) else (s, s.chgC who tok)
theorem Sto.lea_cases (s : Sto) : (s.lea = (default, 5) ∧ s.has leaK = false) ∨ (s.lea = (default, 17) ∧ s.has leaK = true ∧ readL (s.get leaK).data = none) ∨ ∃ l, s.lea = (l, 0) ∧ s.has leaK = true ∧ readL (s.get leaK).data = some l ∧ l.ok = true := by
 unfold Sto.lea
 by_cases h : s.has leaK = true
 · rw [if_pos h]
   cases hr : readL (s.get leaK).data with
   | none => exact .inr (.inl ⟨rfl, h, rfl⟩)
   | some l => exact .inr (.inr ⟨l, rfl, h, rfl, readL_ok hr⟩)
 · rw [if_neg h]; exact .inl ⟨rfl, by simpa using h⟩
end Go.Vw

namespace Go.Vw
open Go
theorem Rep.nilBox {gb : Nat → Option Gh} {w0 : World} {gr ok0 : Nat → Prop} {st : St} {g : Nat → Option Gh} {ok : Nat → Prop} {a : Act} {w : World} {m i : Nat} {cs : List AV} {e sz : Nat} {rows : Nat → List AV} (hb : look st.ob m = some (.box cs)) (hi : cs[i]? = some .nilsl)
 (h : Rep gb w0 gr ok0 st g ok a w) : ∃ g', Rep gb w0 gr ok0 { st with ob := upd ((st.next, .arr e sz 0 rows) :: st.ob) m (.box (cs.set i (.osl st.next))), next := st.next + 1 } g' ok a w := by
 have hadd := h.addNew (nm := st.next) (nx := st.next + 1) (w' := w) (G := ⟨none, 0, 0⟩) (mo := .arr e sz 0 rows) (h.fresh _ (Nat.le_refl _)) (Nat.lt_succ_self _) (Nat.le_succ _) ⟨rfl, rfl, rfl, Nat.le_refl _, fun _ _ _ => rfl⟩ (fun b hb => by cases hb) ⟨rfl, .inl ⟨rfl, rfl, rfl⟩⟩
 obtain ⟨G, hG, hrel⟩ := h.obs.rel m _ hb
 have hm : m ≠ st.next := fun e => by rw [e, h.fresh _ (Nat.le_refl _)] at hG; cases hG
 have hlk : look ((st.next, .arr e sz 0 rows) :: st.ob) m = some (.box cs) := by
  rw [look_cons, if_neg hm]; exact hb
 have hg2 : gset g st.next ⟨none, 0, 0⟩ m = some G := by unfold gset; rw [if_neg hm]; exact hG
 obtain ⟨b, vs, ty, h1, h2, h3⟩ := hrel
 have h3' : RVs w ok (gset g st.next ⟨none, 0, 0⟩) cs vs := RVs.mono (fun _ h => h) (fun _ _ => rfl) g _ (gset_le (h.fresh _ (Nat.le_refl _))) _ _ h3
 obtain ⟨v, hv, hrv⟩ := RVs.get h3' i _ hi
 have hrv' : RV w ok (gset g st.next ⟨none, 0, 0⟩) (.osl st.next) v := ⟨_, gset_same, hrv⟩
 have hset := RVs.set (a := .osl st.next) (v := v) i h3' hrv'
 have hvs : vs.set i v = vs := by
  refine List.ext_getElem? fun j => ?_
  rw [List.getElem?_set]
  split
  · rename_i e; subst e
    obtain ⟨hlt, he⟩ := List.getElem?_eq_some_iff.1 hv
    rw [if_pos hlt]; exact hv.symm
  · rfl
 rw [hvs] at hset
 exact ⟨_, hadd.write (w' := w) hlk hg2 h1 rfl (fun _ _ => rfl) rfl rfl rfl ⟨b, vs, ty, h1, h2, hset⟩⟩
theorem LoopC.nilb {P : Program} [Tabs P] {nb : Nat} {b : Code} {cs : CSt} {Q : Exit → CSt → Prop} (m i e sz : Nat) (rows : Nat → List AV) {c : List AV} (hb : look cs.ob m = some (.box c)) (hi : c[i]? = some .nilsl)
 (h : cs.obK (upd ((cs.next, .arr e sz 0 rows) :: cs.ob) m (.box (c.set i (.osl cs.next)))) (cs.next + 1) fun cs' => LoopC P nb b cs' Q) : LoopC P nb b cs Q := by
 obtain ⟨cs1, e1, h1⟩ := CSt.obK_st h
 unfold LoopC LoopG at h1 ⊢
 intro gb w0 gr ok0 g ok a w hgb hr
 obtain ⟨g', hr'⟩ := Rep.nilBox (e := e) (sz := sz) (rows := rows) (st := cs.st) hb hi hr
 refine h1 gb w0 gr ok0 g' ok a w hgb ?_
 rw [e1]; exact hr'
end Go.Vw

namespace Go.Vw
open Go
theorem OpC.bneq {P : Program} [Tabs P] {o : Oper} {cs : CSt} {next : CSt → Prop} {t u : TypeId} {x y : Operand} {p q : Bool} (hop : o.op = .binOp .neq t x y u) (ht : P.underlying t = some .bool) (hx : cs.st.ev x = .bool p) (hy : cs.st.ev y = .bool q) (hd : dstOK o.dst cs.n = true)
 (h : cs.putK o.dst (.bool (!(p == q))) next) : OpC P o cs next := by
 unfold OpC OpG
 intro gb w0 gr ok0 g ok a w hj hr Q
 have hxv : a.eval x = .bool p := by have := hr.ev x; rw [hx] at this; exact this
 have hyv : a.eval y = .bool q := by have := hr.ev y; rw [hy] at this; exact this
 have hrun : (execOp a.eval o).run P w = .ok (.value (.bool (!(p == q)))) w := run_bin hop hxv hyv (by simp [eqGuard]) (run_neq_bool w t p q ht)
 unfold Oper.wp
 rw [hrun, Oper.upon_value]
 obtain ⟨cs1, e1, h1⟩ := CSt.putK_st h
 exact ⟨_, g, ok, hr.put (d := o.dst) (x := .bool (!(p == q))) hd rfl, cs1, e1, h1⟩
theorem OpC.beql {P : Program} [Tabs P] {o : Oper} {cs : CSt} {next : CSt → Prop} {t u : TypeId} {x y : Operand} {p q : Bool} (hop : o.op = .binOp .eql t x y u) (ht : P.underlying t = some .bool) (hx : cs.st.ev x = .bool p) (hy : cs.st.ev y = .bool q) (hd : dstOK o.dst cs.n = true)
 (h : cs.putK o.dst (.bool (p == q)) next) : OpC P o cs next := by
 unfold OpC OpG
 intro gb w0 gr ok0 g ok a w hj hr Q
 have hxv : a.eval x = .bool p := by have := hr.ev x; rw [hx] at this; exact this
 have hyv : a.eval y = .bool q := by have := hr.ev y; rw [hy] at this; exact this
 have hrun : (execOp a.eval o).run P w = .ok (.value (.bool (p == q))) w := run_bin hop hxv hyv (by simp [eqGuard]) (run_eql_bool w t p q ht)
 unfold Oper.wp
 rw [hrun, Oper.upon_value]
 obtain ⟨cs1, e1, h1⟩ := CSt.putK_st h
 exact ⟨_, g, ok, hr.put (d := o.dst) (x := .bool (p == q)) hd rfl, cs1, e1, h1⟩
end Go.Vw

namespace Go.Vw
open Go
def StepCall (P : Program) [Tabs P] (F : FuncId) (rest : List AV) (mo mo' : MO) (r : AV) : Prop :=
 FnM P F 1 (.bptr 0 0 :: rest) [(0, mo)] r [(0, mo')] 1 ∧ AV.nls rest = true ∧ r.nl = true ∧ ∃ cs cs', mo = .box cs ∧ mo' = .box cs' ∧ AV.nls cs = true ∧ AV.nls cs' = true
theorem call1 {P : Program} [Tabs P] {F : FuncId} {rest : List AV} {mo mo' : MO} {r : AV} (h : StepCall P F rest mo mo' r) {gb : Nat → Option Gh} {w0 : World} {gr ok0 : Nat → Prop} {st : St} {g : Nat → Option Gh} {ok : Nat → Prop} {a : Act} {w : World} {m : Nat}
 (hj : JJ P w0 gr) (hrep : Rep gb w0 gr ok0 st g ok a w) (hm : look st.ob m = some mo) {vs : List Value} (hargs : RVs w ok g (.bptr m 0 :: rest) vs) :
 Calls P F vs.toArray w fun e w' => ∃ v ok', e = .returned v ∧ Rep gb w0 gr ok0 { st with ob := upd st.ob m mo' } g ok' a w' ∧ RV w' ok' g r v := by
 obtain ⟨hF, hrest, hr, cs, cs', rfl, rfl, hcs, hcs'⟩ := h
 obtain ⟨G, hG, hrel⟩ := hrep.obs.rel m _ hm
 have hgc0 : ∀ k K, (if k = 0 then some G else none) = some K → k = 0 ∧ K = G := fun k K h => by
  split at h
  · cases h; exact ⟨by assumption, rfl⟩
  · cases h
 have hl0 : ∀ k mo1, look [(0, MO.box cs)] k = some mo1 → k = 0 ∧ mo1 = .box cs := fun k mo1 h => by
  rw [look_cons] at h
  split at h
  · cases h; exact ⟨by assumption, rfl⟩
  · cases h
 have hl1 : ∀ k mo1, look [(0, MO.box cs')] k = some mo1 → k = 0 ∧ mo1 = .box cs' := fun k mo1 h => by
  rw [look_cons] at h
  split at h
  · cases h; exact ⟨by assumption, rfl⟩
  · cases h
 have hgr : ∀ b, grO [(0, MO.box cs)] (fun k => if k = 0 then some G else none) b → G.b = some b := by
  rintro b ⟨k, mo1, K, h1, h2, h3⟩
  obtain ⟨_, rfl⟩ := hgc0 k K h2
  exact h3
 obtain ⟨b0, vs0, ty0, hb0, hc0, hv0⟩ := hrel
 have hobs : Obs [(0, MO.box cs)] (fun k => if k = 0 then some G else none) ok w := by
  refine ⟨fun k mo1 h => ?_, fun k k' mo1 mo2 G1 G2 b h h' _ _ _ _ => ?_, fun b hb => ⟨(hrep.obs.okb b hb).1, fun k mo1 K h h2 => ?_⟩, fun k mo1 K b h h2 h3 => ?_⟩
  · obtain ⟨rfl, rfl⟩ := hl0 k mo1 h
    exact ⟨G, if_pos rfl, b0, vs0, ty0, hb0, hc0, RVs.nl _ _ hcs hv0⟩
  · rw [(hl0 k mo1 h).1, (hl0 k' mo2 h').1]
  · obtain ⟨_, rfl⟩ := hgc0 k K h2
    exact (hrep.obs.okb b hb).2 m _ _ hm hG
  · obtain ⟨_, rfl⟩ := hgc0 k K h2
    exact hrep.obs.lt m _ _ b hm hG h3
 have hJ : Tabs.J P w ∧ ∀ b, Tabs.tab P b → ¬ grO [(0, MO.box cs)] (fun k => if k = 0 then some G else none) b := by
  refine ⟨hj.now hrep.frm, fun b hb hg => ?_⟩
  rcases hrep.own m _ _ b hm hG (hgr b hg) with h5 | h5
  · have := Tabs.lt w0 b hj.1 hb; omega
  · exact hj.2 b hb h5
 obtain ⟨v0, us, rfl, hv1, hv2⟩ := hargs
 obtain ⟨K, b1, hK, hKb, rfl⟩ := hv1
 rw [hG] at hK; cases hK
 have hargs' : RVs w ok (fun k => if k = 0 then some G else none) (.bptr 0 0 :: rest) (.pointer (some ⟨b1, 0, none⟩) :: us) := ⟨_, us, rfl, ⟨G, b1, if_pos rfl, hKb, rfl⟩, RVs.nl _ _ hrest hv2⟩
 refine (hF.2 w ok _ _ hJ hobs (fun k hk => if_neg (by omega)) hargs').mono ?_
 rintro e w' ⟨v, g', ok', rfl, hfm, hob, hext, hfr, hv, hown, hokn⟩
 have hg0 : g' 0 = some G := hext 0 G (if_pos rfl)
 obtain ⟨K, hK, hrel'⟩ := hob.rel 0 _ (show look [(0, MO.box cs')] 0 = _ from rfl)
 rw [hg0] at hK; cases hK
 obtain ⟨b2, vs2, ty2, hb2, hc2, hv3⟩ := hrel'
 have hb01 : b0 = b1 := by rw [hb0] at hKb; exact Option.some.inj hKb
 have hngr : ∀ b, ok b → ¬ grO [(0, MO.box cs)] (fun k => if k = 0 then some G else none) b := fun b hb hg => (hrep.obs.okb b hb).2 m _ G hm hG (hgr b hg)
 have hokw : ∀ b, ok b → w'.heap[b]? = w.heap[b]? := fun b hb => hfm.old b (hrep.obs.okb b hb).1 (hngr b hb)
 have hG' : ∀ b, G.b = some b → b = b0 := fun b h => by rw [hb0] at h; exact (Option.some.inj h).symm
 have hlt0 := hrep.obs.lt m _ G b0 hm hG hb0
 -- another object lies in another block
 have hoth : ∀ k mo1 K b, k ≠ m → look st.ob k = some mo1 → g k = some K → K.b = some b → b < w.heap.size ∧ ¬ grO [(0, MO.box cs)] (fun k => if k = 0 then some G else none) b := fun k mo1 K b hk h1 h2 h3 =>
  ⟨hrep.obs.lt k _ K b h1 h2 h3, fun hg => hk (hrep.obs.sep k m _ _ K G b h1 hm h2 hG h3 (hgr b hg))⟩
 have hok2 : ∀ b, ok' b → ok b ∨ (w.heap.size ≤ b) := fun b hb => by
  rcases hokn b hb with h | h | h
  · exact .inl h
  · have := hG' b (hgr b h)
    subst this
    exact absurd hg0 (fun _ => (hob.okb b hb).2 0 _ G (show look [(0, MO.box cs')] 0 = _ from rfl) hg0 hb0)
  · exact .inr h
 have hlk : ∀ k p, look (upd st.ob m (.box cs')) k = some p → (k = m ∧ p = .box cs') ∨ (k ≠ m ∧ look st.ob k = some p) := fun k p hk => by
  rw [look_upd] at hk
  split at hk
  · rename_i e; rw [hm] at hk; cases hk; exact .inl ⟨e, rfl⟩
  · rename_i e; exact .inr ⟨e, hk⟩
 refine ⟨v, fun b => ok b ∨ ok' b, rfl, ⟨fun t => RV.mono (fun _ h => .inl h) hokw g g (fun _ _ h => h) _ _ (hrep.tm t), ⟨fun k p hk => ?_, fun k k' p p' K K' b hk hk' h1 h2 h3 h4 => ?_, fun b hb => ⟨?_, fun k p K hk h1 h2 => ?_⟩, fun k p K b hk h1 h2 => ?_⟩,
  fun k p K b hk h1 h2 => ?_, hrep.fresh, hrep.base, ⟨hfm.os.trans hrep.frm.os, hfm.tape.trans hrep.frm.tape, hfm.output.trans hrep.frm.output, Nat.le_trans hrep.frm.size hfm.size, fun b hb hg => ?_⟩, hrep.df, hrep.n, fun b hb => ?_⟩, RV.mono (fun _ h => .inr h) (fun _ _ => rfl) g g (fun _ _ h => h) _ _ (RV.nl r v hr hv)⟩
 · rcases hlk k p hk with ⟨rfl, rfl⟩ | ⟨hne, hk'⟩
   · exact ⟨G, hG, b2, vs2, ty2, hb2, hc2, RVs.mono (fun _ h => .inr h) (fun _ _ => rfl) g g (fun _ _ h => h) _ _ (RVs.nl _ _ hcs' hv3)⟩
   · obtain ⟨K, hK, hrk⟩ := hrep.obs.rel k p hk'
     exact ⟨K, hK, MRel.mono (fun _ h => .inl h) hokw (fun _ _ h => h) (fun b hb => by obtain ⟨q1, q2⟩ := hoth k p K b hne hk' hK hb; exact hfm.old b q1 q2) hrk⟩
 · have ex : ∀ k p, look (upd st.ob m (.box cs')) k = some p → ∃ q, look st.ob k = some q := fun k p hk => by
    rcases hlk k p hk with ⟨rfl, _⟩ | ⟨_, h⟩
    · exact ⟨_, hm⟩
    · exact ⟨_, h⟩
   obtain ⟨q, hq⟩ := ex k p hk
   obtain ⟨q', hq'⟩ := ex k' p' hk'
   exact hrep.obs.sep k k' q q' K K' b hq hq' h1 h2 h3 h4
 · rcases hb with hb | hb
   · exact Nat.lt_of_lt_of_le (hrep.obs.okb b hb).1 hfm.size
   · exact (hob.okb b hb).1
 · rcases hlk k p hk with ⟨rfl, rfl⟩ | ⟨hne, hk'⟩
   · rw [hG] at h1; cases h1
     rcases hb with hb | hb
     · exact (hrep.obs.okb b hb).2 k _ _ hm hG h2
     · exact (hob.okb b hb).2 0 _ _ (show look [(0, MO.box cs')] 0 = _ from rfl) hg0 h2
   · rcases hb with hb | hb
     · exact (hrep.obs.okb b hb).2 k _ _ hk' h1 h2
     · rcases hok2 b hb with h | h
       · exact (hrep.obs.okb b h).2 k _ _ hk' h1 h2
       · have := (hoth k p K b hne hk' h1 h2).1; omega
 · rcases hlk k p hk with ⟨rfl, rfl⟩ | ⟨hne, hk'⟩
   · exact Nat.lt_of_lt_of_le (hrep.obs.lt k _ K b hm h1 h2) hfm.size
   · exact Nat.lt_of_lt_of_le (hrep.obs.lt k _ K b hk' h1 h2) hfm.size
 · rcases hlk k p hk with ⟨rfl, rfl⟩ | ⟨hne, hk'⟩
   · exact hrep.own k _ K b hm h1 h2
   · exact hrep.own k _ K b hk' h1 h2
 · rw [hfm.old b (Nat.lt_of_lt_of_le hb hrep.frm.size) fun h' => ?_, hrep.frm.old b hb hg]
   rcases hrep.own m _ G b hm hG (hgr b h') with h5 | h5
   · omega
   · exact hg h5
 · rcases hb with hb | hb
   · exact hrep.okf b hb
   · rcases hok2 b hb with h | h
     · exact hrep.okf b h
     · exact .inr (.inr (Nat.le_trans hrep.frm.size h))
end Go.Vw

namespace Go.Vw
open Go
def rchB (ops : Array Oper) : Nat → Nat → Nat → Bool
 | 0, b, a => Region.waitsFor .any ops b a
 | f + 1, b, a => Region.waitsFor .any ops b a || (List.range ops.size).any fun c => Region.waitsFor .any ops b c && rchB ops f c a
def ksQ (ops : Array Oper) (base : Nat) : Kn → Bool
 | [] => true
 | p :: r => (match p.1 with
   | .inl m => Nat.blt m base && r.all fun q => !Nat.beq m (nmK base q.1) || (Nat.blt p.2 q.2 && rchB ops 3 q.2 p.2)
   | .inr j => Nat.blt j p.2 && r.all fun q => !Nat.beq (nmK base p.1) (nmK base q.1)) && ksQ ops base r
theorem tch_cons {p : Sum Nat Nat × Nat} {r : Kn} {base i m : Nat} (h : tchB (p :: r) base i m = true) : (i = p.2 ∧ m = nmK base p.1) ∨ tchB r base i m = true := by
 unfold tchB at h
 rw [List.any_cons, Bool.or_eq_true, Bool.and_eq_true] at h
 exact h.imp (fun h => ⟨Nat.eq_of_beq_eq_true h.1, Nat.eq_of_beq_eq_true h.2⟩) id
theorem tch_mem {ks : Kn} {base i m : Nat} (h : tchB ks base i m = true) : ∃ q ∈ ks, q.2 = i ∧ nmK base q.1 = m := by
 unfold tchB at h
 rw [List.any_eq_true] at h
 obtain ⟨q, h1, h2⟩ := h
 rw [Bool.and_eq_true] at h2
 exact ⟨q, h1, (Nat.eq_of_beq_eq_true h2.1).symm, (Nat.eq_of_beq_eq_true h2.2).symm⟩
theorem ksq_lt {ops : Array Oper} {base : Nat} : ∀ {ks : Kn}, ksQ ops base ks = true → ∀ {i j : Nat}, tchB ks base i (base + j) = true → j < i
 | [], _, _, _, h => by simp [tchB] at h
 | p :: r, hk, i, j, h => by
   unfold ksQ at hk
   rw [Bool.and_eq_true] at hk
   rcases tch_cons h with ⟨e1, e2⟩ | h
   · obtain ⟨x, q⟩ := p
     cases x with
     | inl m =>
       have h0 := hk.1
       simp only [Bool.and_eq_true] at h0
       have := Nat.le_of_ble_eq_true h0.1
       have e2 : base + j = m := e2
       omega
     | inr j' =>
       have h0 := hk.1
       simp only [Bool.and_eq_true] at h0
       have := Nat.le_of_ble_eq_true h0.1
       have e2 : base + j = base + j' := e2
       have e1 : i = q := e1
       omega
   · exact ksq_lt hk.2 h
theorem ksq_ch {ops : Array Oper} {base : Nat} : ∀ {ks : Kn}, ksQ ops base ks = true → ∀ {i i' m : Nat}, m < base → tchB ks base i m = true → tchB ks base i' m = true → i < i' → rchB ops 3 i' i = true
 | [], _, _, _, _, _, h, _, _ => by simp [tchB] at h
 | p :: r, hk, i, i', m, hm, h, h', hlt => by
   unfold ksQ at hk
   rw [Bool.and_eq_true] at hk
   have hp : m = nmK base p.1 → ∀ k, tchB r base k m = true → p.2 < k ∧ rchB ops 3 k p.2 = true := fun e k hk' => by
    obtain ⟨x, q⟩ := p
    obtain ⟨y, hy1, rfl, hy3⟩ := tch_mem hk'
    cases x with
    | inl m' =>
      have h0 := hk.1
      simp only [Bool.and_eq_true] at h0
      have h1 := List.all_eq_true.1 h0.2 y hy1
      have e : m = m' := e
      rw [← e, hy3] at h1
      simp only [beq_t, Bool.not_true, Bool.false_or, Bool.and_eq_true] at h1
      exact ⟨Nat.le_of_ble_eq_true h1.1, h1.2⟩
    | inr j =>
      have e : m = base + j := e
      omega
   rcases tch_cons h with ⟨e1, e2⟩ | h1 <;> rcases tch_cons h' with ⟨e3, e4⟩ | h2
   · omega
   · have := hp e2 i' h2
     rw [e1]; exact this.2
   · have := hp e4 i h1
     omega
   · exact ksq_ch hk.2 hm h1 h2 hlt
theorem ksq_one {ops : Array Oper} {base : Nat} : ∀ {ks : Kn}, ksQ ops base ks = true → ∀ {i i' m : Nat}, base ≤ m → tchB ks base i m = true → tchB ks base i' m = true → i = i'
 | [], _, _, _, _, _, h, _ => by simp [tchB] at h
 | p :: r, hk, i, i', m, hm, h, h' => by
   unfold ksQ at hk
   rw [Bool.and_eq_true] at hk
   have hp : m = nmK base p.1 → ∀ k, tchB r base k m = true → False := fun e k hk' => by
    obtain ⟨x, q⟩ := p
    obtain ⟨y, hy1, rfl, hy3⟩ := tch_mem hk'
    cases x with
    | inl m' =>
      have h0 := hk.1
      simp only [Bool.and_eq_true] at h0
      have := Nat.le_of_ble_eq_true h0.1
      have e : m = m' := e
      omega
    | inr j =>
      have h0 := hk.1
      simp only [Bool.and_eq_true] at h0
      have h1 := List.all_eq_true.1 h0.2 y hy1
      have e : m = nmK base (.inr j) := e
      rw [← e, hy3, beq_t] at h1
      cases h1
   rcases tch_cons h with ⟨e1, e2⟩ | h1 <;> rcases tch_cons h' with ⟨e3, e4⟩ | h2
   · rw [e1, e3]
   · exact (hp e2 i' h2).elim
   · exact (hp e4 i h1).elim
   · exact ksq_one hk.2 hm h1 h2
theorem rch_spec {ops : Array Oper} {listed : Array Bool} (hcl : ∀ j oj, ops[j]? = some oj → listed.getD j false = true → ∀ e ∈ oj.after, Region.binds .any e = true → listed.getD e.on false = true) : ∀ (f b a : Nat), rchB ops f b a = true → listed.getD b false = true → listed.getD a false = true
 | 0, b, a, h, hb => by
   obtain ⟨oj, hoj, e, he, hbd, hon⟩ := Region.waitsFor_spec h
   rw [← hon]; exact hcl b oj hoj hb e he hbd
 | f + 1, b, a, h, hb => by
   unfold rchB at h
   rw [Bool.or_eq_true] at h
   rcases h with h | h
   · obtain ⟨oj, hoj, e, he, hbd, hon⟩ := Region.waitsFor_spec h
     rw [← hon]; exact hcl b oj hoj hb e he hbd
   · obtain ⟨c, _, hc⟩ := List.any_eq_true.1 h
     rw [Bool.and_eq_true] at hc
     obtain ⟨oj, hoj, e, he, hbd, hon⟩ := Region.waitsFor_spec hc.1
     exact rch_spec hcl f c a hc.2 (by rw [← hon]; exact hcl b oj hoj hb e he hbd)
theorem rch_ready {ops : Array Oper} {listed : Array Bool} (hcl : ∀ j oj, ops[j]? = some oj → listed.getD j false = true → ∀ e ∈ oj.after, Region.binds .any e = true → listed.getD e.on false = true) {i : Nat} {o : Oper} (ho : ops[i]? = some o)
 (hrd : ∀ e ∈ o.after, Region.binds .any e = true → listed.getD e.on false = true) : ∀ (f a : Nat), rchB ops f i a = true → listed.getD a false = true
 | 0, a, h => by
   obtain ⟨oj, hoj, e, he, hbd, hon⟩ := Region.waitsFor_spec h
   rw [ho] at hoj; cases hoj
   rw [← hon]; exact hrd e he hbd
 | f + 1, a, h => by
   unfold rchB at h
   rw [Bool.or_eq_true] at h
   rcases h with h | h
   · obtain ⟨oj, hoj, e, he, hbd, hon⟩ := Region.waitsFor_spec h
     rw [ho] at hoj; cases hoj
     rw [← hon]; exact hrd e he hbd
   · obtain ⟨c, _, hc⟩ := List.any_eq_true.1 h
     rw [Bool.and_eq_true] at hc
     obtain ⟨oj, hoj, e, he, hbd, hon⟩ := Region.waitsFor_spec hc.1
     rw [ho] at hoj; cases hoj
     exact rch_spec hcl f c a hc.2 (by rw [← hon]; exact hrd e he hbd)
def NewCall (P : Program) [Tabs P] (F : FuncId) (l cs : List AV) : Prop := FnM P F 0 l [] (.bptr 0 0) [(0, .box cs)] 1 ∧ AV.nls l = true ∧ AV.nls cs = true
theorem Rep.addNew2 {gb : Nat → Option Gh} {w0 : World} {gr ok0 : Nat → Prop} {st : St} {g : Nat → Option Gh} {ok : Nat → Prop} {a : Act} {w : World} (h : Rep gb w0 gr ok0 st g ok a w) {nm nx : Nat} (hnm : g nm = none) (hlt : nm < nx) (hnx : st.next ≤ nx) {w' : World} (hfr : Frm w (fun _ => False) w') {G : Gh} {mo : MO} (hG : ∀ b, G.b = some b → w.heap.size ≤ b ∧ b < w'.heap.size)
 {ok2 : Nat → Prop} (hok2 : ∀ b, ok2 b → (ok b ∨ w.heap.size ≤ b) ∧ b < w'.heap.size ∧ G.b ≠ some b) (hr : MRel w' (fun b => ok b ∨ ok2 b) (gset g nm G) G mo) :
 Rep gb w0 gr ok0 { st with ob := (nm, mo) :: st.ob, next := nx } (gset g nm G) (fun b => ok b ∨ ok2 b) a w' := by
 have hle := gset_le (G := G) hnm
 have hg := hfr.grow h
 have hother : ∀ m K, m ≠ nm → (gset g nm G m = some K ↔ g m = some K) := fun m K hm => by unfold gset; rw [if_neg hm]
 have hsame : ∀ K, gset g nm G nm = some K → K = G := fun K hk => by rw [gset_same] at hk; cases hk; rfl
 have hlk : ∀ m mo', look ((nm, mo) :: st.ob) m = some mo' → (m = nm ∧ mo' = mo) ∨ (m ≠ nm ∧ look st.ob m = some mo') := fun m mo' hm => by
  rw [look_cons] at hm
  split at hm
  · rename_i e; cases hm; exact .inl ⟨e, rfl⟩
  · rename_i e; exact .inr ⟨e, hm⟩
 refine ⟨fun t => RV.mono (fun _ h => .inl h) (fun _ _ => rfl) g _ hle _ _ (hg.tm t), ⟨fun m mo' hm => ?_, fun m m' mo1 mo2 G1 G2 b hm hm' k1 k2 hb hb' => ?_, fun b hb => ⟨?_, fun m mo' K hm hk => ?_⟩, fun m mo' K b hm hk hb => ?_⟩,
  fun m mo' K b hm hk hb => ?_, fun m hm => ?_, fun m K hk => hle m K (h.base m K hk), hg.frm, h.df, h.n, fun b hb => ?_⟩
 · rcases hlk m mo' hm with ⟨rfl, rfl⟩ | ⟨hne, hm⟩
   · exact ⟨G, gset_same, hr⟩
   · obtain ⟨K, hk, hr'⟩ := hg.obs.rel m mo' hm
     exact ⟨K, hle m K hk, MRel.mono (fun _ h => .inl h) (fun _ _ => rfl) hle (fun _ _ => rfl) hr'⟩
 · have hnew : ∀ m mo' K b, m ≠ nm → look st.ob m = some mo' → g m = some K → K.b = some b → b < w.heap.size := fun m mo' K b _ hm hk hb => h.obs.lt m mo' K b hm hk hb
   rcases hlk m mo1 hm with ⟨e1, e2⟩ | ⟨hne, hm1⟩ <;> rcases hlk m' mo2 hm' with ⟨e3, e4⟩ | ⟨hne', hm2⟩
   · rw [e1, e3]
   · subst e1; cases hsame _ k1
     have := hnew m' mo2 G2 _ hne' hm2 ((hother _ _ hne').1 k2) hb'
     have := (hG b hb).1
     omega
   · subst e3; cases hsame _ k2
     have := hnew m mo1 G1 _ hne hm1 ((hother _ _ hne).1 k1) hb
     have := (hG b hb').1
     omega
   · exact h.obs.sep m m' mo1 mo2 G1 G2 b hm1 hm2 ((hother _ _ hne).1 k1) ((hother _ _ hne').1 k2) hb hb'
 · rcases hb with hb | hb
   · exact (hg.obs.okb b hb).1
   · exact (hok2 b hb).2.1
 · rcases hlk m mo' hm with ⟨rfl, rfl⟩ | ⟨hne, hm⟩
   · cases hsame _ hk
     rcases hb with hb | hb
     · intro e; have := (h.obs.okb _ hb).1; have := (hG b e).1; omega
     · exact (hok2 b hb).2.2
   · have hgm := (hother _ _ hne).1 hk
     rcases hb with hb | hb
     · exact (h.obs.okb b hb).2 m mo' K hm hgm
     · rcases (hok2 b hb).1 with h1 | h1
       · exact (h.obs.okb b h1).2 m mo' K hm hgm
       · intro e; have := h.obs.lt m mo' K b hm hgm e; omega
 · rcases hlk m mo' hm with ⟨rfl, rfl⟩ | ⟨hne, hm⟩
   · cases hsame _ hk; exact (hG b hb).2
   · exact hg.obs.lt m mo' K b hm ((hother _ _ hne).1 hk) hb
 · rcases hlk m mo' hm with ⟨rfl, rfl⟩ | ⟨hne, hm⟩
   · cases hsame _ hk; exact .inl (Nat.le_trans h.frm.size (hG b hb).1)
   · exact h.own m mo' K b hm ((hother _ _ hne).1 hk) hb
 · have hm' : nx ≤ m := hm
   unfold gset
   rw [if_neg (by omega)]
   exact h.fresh m (by omega)
 · rcases hb with hb | hb
   · exact h.okf b hb
   · rcases (hok2 b hb).1 with h1 | h1
     · exact h.okf b h1
     · exact .inr (.inr (Nat.le_trans h.frm.size h1))
theorem callN {P : Program} [Tabs P] {F : FuncId} {l cs : List AV} (h : NewCall P F l cs) {gb : Nat → Option Gh} {w0 : World} {gr ok0 : Nat → Prop} {st : St} {g : Nat → Option Gh} {ok : Nat → Prop} {a : Act} {w : World} {nm nx : Nat} (hnm : g nm = none) (hlt : nm < nx) (hnx : st.next ≤ nx)
 (hj : JJ P w0 gr) (hrep : Rep gb w0 gr ok0 st g ok a w) {vs : List Value} (hargs : RVs w ok g l vs) :
 Calls P F vs.toArray w fun e w' => ∃ v ok' G, e = .returned v ∧ Rep gb w0 gr ok0 { st with ob := (nm, .box cs) :: st.ob, next := nx } (gset g nm G) ok' a w' ∧ RV w' ok' (gset g nm G) (.bptr nm 0) v := by
 obtain ⟨hF, hl, hcs⟩ := h
 have ng : ∀ b, ¬ grO [] G0 b := fun b ⟨m, mo, G, e, _⟩ => by cases e
 have hobs : Obs [] G0 ok w := ⟨fun _ _ e => (by cases e), fun _ _ _ _ _ _ _ e => (by cases e), fun b hb => ⟨(hrep.obs.okb b hb).1, fun _ _ _ e => (by cases e)⟩, fun _ _ _ _ e => (by cases e)⟩
 refine (hF.2 w ok G0 vs ⟨hj.now hrep.frm, fun b _ hg => ng b hg⟩ hobs (fun _ _ => rfl) (RVs.nl _ _ hl hargs)).mono ?_
 rintro e w' ⟨v, g', ok', rfl, hf, hob, _, hfr, hv, hown, hokn⟩
 obtain ⟨G, hG, b2, vs2, ty2, hb2, hc2, hv3⟩ := hob.rel 0 _ (show look [(0, MO.box cs)] 0 = _ from rfl)
 have hGb : ∀ b, G.b = some b → w.heap.size ≤ b ∧ b < w'.heap.size := fun b hb => by
  rcases hown 0 _ G b (show look [(0, MO.box cs)] 0 = _ from rfl) hG hb with h1 | h1
  · exact ⟨h1, hob.lt 0 _ G b (show look [(0, MO.box cs)] 0 = _ from rfl) hG hb⟩
  · exact absurd h1 (ng b)
 have hfm : Frm w (fun _ => False) w' := ⟨hf.os, hf.tape, hf.output, hf.size, fun b hb _ => hf.old b hb (ng b)⟩
 have hv' : RV w' (fun b => ok b ∨ ok' b) (gset g nm G) (.bptr nm 0) v := by
  obtain ⟨K, b, hK, hb, hv⟩ := hv
  rw [hG] at hK; cases hK
  exact ⟨G, b, gset_same, hb, hv⟩
 refine ⟨v, fun b => ok b ∨ ok' b, G, rfl, hrep.addNew2 hnm hlt hnx hfm hGb (fun b hb => ⟨?_, (hob.okb b hb).1, (hob.okb b hb).2 0 _ G (show look [(0, MO.box cs)] 0 = _ from rfl) hG⟩) ⟨b2, vs2, ty2, hb2, hc2, RVs.mono (fun _ h => .inr h) (fun _ _ => rfl) _ _ (fun _ _ h => h) _ _ (RVs.nl _ _ hcs hv3)⟩, hv'⟩
 rcases hokn b hb with h | h | h
 · exact .inl h
 · exact absurd h (ng b)
 · exact .inr h
abbrev Rn := List (Nat × Nat)
def rdM (rd : Rn) (i m : Nat) : Bool := rd.any fun p => Nat.beq p.1 m && Nat.beq p.2 i
def rdQ (ops : Array Oper) (base : Nat) (ks : Kn) : Rn → Bool
 | [] => true
 | p :: r => (Nat.blt p.1 base && ks.all fun q => !Nat.beq p.1 (nmK base q.1) || ((Nat.blt q.2 p.2 && rchB ops 3 p.2 q.2) || (Nat.blt p.2 q.2 && rchB ops 3 q.2 p.2))) && rdQ ops base ks r
theorem rdq_spec {ops : Array Oper} {base : Nat} {ks : Kn} : ∀ {rd : Rn}, rdQ ops base ks rd = true → ∀ {i m : Nat}, rdM rd i m = true → m < base ∧ ∀ i', tchB ks base i' m = true → (i' < i ∧ rchB ops 3 i i' = true) ∨ (i < i' ∧ rchB ops 3 i' i = true)
 | [], _, _, _, h => by simp [rdM] at h
 | p :: r, hq, i, m, h => by
   unfold rdQ at hq
   rw [Bool.and_eq_true] at hq
   unfold rdM at h
   rw [List.any_cons, Bool.or_eq_true] at h
   rcases h with h | h
   · rw [Bool.and_eq_true] at h hq
     have e1 := Nat.eq_of_beq_eq_true h.1
     have e2 := Nat.eq_of_beq_eq_true h.2
     have hb := hq.1
     refine ⟨by have := Nat.le_of_ble_eq_true hb.1; omega, fun i' ht => ?_⟩
     obtain ⟨q, h1, h2, h3⟩ := tch_mem ht
     have h4 := List.all_eq_true.1 hb.2 q h1
     rw [h3, e1, h2, e2] at h4
     simp only [beq_t, Bool.not_true, Bool.false_or, Bool.or_eq_true, Bool.and_eq_true] at h4
     exact h4.imp (fun h => ⟨Nat.le_of_ble_eq_true h.1, h.2⟩) (fun h => ⟨Nat.le_of_ble_eq_true h.1, h.2⟩)
   · exact rdq_spec hq.2 h
def visI (rd : Rn) (ks : Kn) (base i : Nat) : List (Nat × MO) → List (Nat × MO)
 | [] => []
 | (m, o) :: r => bif hidB ks base m && !(tchB ks base i m || rdM rd i m) then visI rd ks base i r else (m, o) :: visI rd ks base i r
theorem look_visI {rd : Rn} {ks : Kn} {base i m : Nat} {mo : MO} : ∀ {ob : List (Nat × MO)}, look (visI rd ks base i ob) m = some mo → look ob m = some mo ∧ (hidB ks base m = false ∨ tchB ks base i m = true ∨ rdM rd i m = true)
 | [], h => by cases h
 | (k, o) :: r, h => by
   unfold visI at h
   cases hc : hidB ks base k && !(tchB ks base i k || rdM rd i k) with
   | true =>
     rw [hc] at h
     obtain ⟨h1, h2⟩ := look_visI (ob := r) h
     refine ⟨?_, h2⟩
     rw [look_cons]
     split
     · rename_i e
       rw [Bool.and_eq_true, Bool.not_eq_true', Bool.or_eq_false_iff] at hc
       rcases h2 with h2 | h2 | h2
       · rw [e, hc.1] at h2; cases h2
       · rw [e, hc.2.1] at h2; cases h2
       · rw [e, hc.2.2] at h2; cases h2
     · exact h1
   | false =>
     rw [hc] at h
     simp only [cond_false] at h
     rw [look_cons] at h ⊢
     split at h
     · rename_i e
       rw [if_pos e]
       refine ⟨h, ?_⟩
       rw [e]
       cases h1 : hidB ks base k with
       | false => exact .inl rfl
       | true =>
         rw [h1, Bool.true_and, Bool.not_eq_false', Bool.or_eq_true] at hc
         exact .inr hc
     · rename_i e; rw [if_neg e]; exact look_visI h
def okBoxQ (ks : Kn) (base i : Nat) : AV → Bool
 | .bptr m _ => tchB ks base i m
 | .aptr m _ _ _ => tchB ks base i m
 | _ => false
theorem stAV_arr {P : Program} {st st1 : St} {t : TypeId} {m sz k off : Nat} {y : AV} (h : stAV P st t (.aptr m sz k off) y = some st1) :
 ∃ mo mo', look st.ob m = some mo ∧ st1.ob = upd st.ob m mo' ∧ ∀ st2 : St, look st2.ob m = some mo → stAV P st2 t (.aptr m sz k off) y = some { st2 with ob := upd st2.ob m mo' } := by
 unfold stAV at h ⊢
 simp only [fL_eq, fN_eq] at h ⊢
 split at h
 · rename_i ag n m' off' ht hx
   cases hx
 · rename_i ag n m' sz' i' off' ht hx
   cases hx
   split at h
   · rename_i e sz2 k2 rows hl
     cases hc : (y.isVal && (y.cells.all AV.one && y.cells.all AV.nameless)) && (Nat.beq y.cells.length n && (Nat.beq sz sz2 && Nat.ble (off + n) sz)) <;> simp only [hc, cond_true, cond_false, reduceCtorEq, Option.some.injEq] at h
     subst h
     exact ⟨_, _, hl, rfl, fun st2 h2 => by simp only [h2, hc, cond_true]⟩
   · cases h
 · cases h
inductive PActQ (P : Program) [Tabs P] (rd : Rn) (ks : Kn) (base i nm : Nat) (o : Oper) (st : St) : St → Prop
 | pas (p : PO) (h : pas P st.ev (look (visI rd ks base i st.ob)) nm o.op = some p) (hpre : ∀ q, p.pre = some q → q) :
  PActQ P rd ks base i nm o st (match p.mo with | none => st.put o.dst p.r | some mo => ({ st with ob := (nm, mo) :: st.ob } : St).put o.dst p.r)
 | app (x y : Operand) (t tx : TypeId) (out : AppOut) (hop : o.op = .call ⟨.builtin .append, #[x, y], #[t, tx]⟩) (hx : okDst ks base i (st.ev x) = true) (hy : okSrc ks base (st.ev y) = true)
  (h : appAVn P nm (nm + 1) st t tx (st.ev x) (st.ev y) = some out) (hpre : out.pre) : PActQ P rd ks base i nm o st (({ st with ob := out.st.ob } : St).put o.dst (.osl nm))
 | store (t : TypeId) (x y : Operand) (st1 : St) (hop : o.op = .store t x y) (hx : okBoxQ ks base i (st.ev x) = true) (h : stAV P st t (st.ev x) (st.ev y) = some st1) :
  PActQ P rd ks base i nm o st (({ st with ob := st1.ob } : St).put o.dst .any)
 | call (f : Operand) (args : Array Operand) (tys : Array TypeId) (F : FuncId) (xs ys : List AV) (r : AV) (hop : o.op = .call ⟨.value f, args, tys⟩) (hf : st.ev f = .fn (.func F) xs ys)
  (h : PureCall P F (xs ++ (args.toList.map st.ev ++ ys)) (visO ks base st.ob) r) : PActQ P rd ks base i nm o st (st.put o.dst r)
 | ownc (f : Operand) (args : Array Operand) (tys : Array TypeId) (F : FuncId) (xs ys : List AV) (r : AV) (mo : MO) (hop : o.op = .call ⟨.value f, args, tys⟩) (hf : st.ev f = .fn (.func F) xs ys)
  (h : OwnCall P F (xs ++ (args.toList.map st.ev ++ ys)) (visO ks base st.ob) nm r mo) : PActQ P rd ks base i nm o st (({ st with ob := (nm, mo) :: st.ob } : St).put o.dst r)
 | newc (f : Operand) (args : Array Operand) (tys : Array TypeId) (F : FuncId) (xs ys : List AV) (cs : List AV) (hop : o.op = .call ⟨.value f, args, tys⟩) (hf : st.ev f = .fn (.func F) xs ys)
  (h : NewCall P F (xs ++ (args.toList.map st.ev ++ ys)) cs) : PActQ P rd ks base i nm o st (({ st with ob := (nm, .box cs) :: st.ob } : St).put o.dst (.bptr nm 0))
 | callm (f : Operand) (args : Array Operand) (tys : Array TypeId) (F : FuncId) (xs ys : List AV) (m : Nat) (rest : List AV) (mo mo' : MO) (r : AV) (hop : o.op = .call ⟨.value f, args, tys⟩) (hf : st.ev f = .fn (.func F) xs ys)
  (hl : xs ++ (args.toList.map st.ev ++ ys) = .bptr m 0 :: rest) (h : StepCall P F rest mo mo' r) (hm : look st.ob m = some mo) (ht : tchB ks base i m = true) : PActQ P rd ks base i nm o st (({ st with ob := upd st.ob m mo' } : St).put o.dst r)
def PStepQ (P : Program) [Tabs P] (all : Array Oper) (rd : Rn) (ks : Kn) (base i nm : Nat) (o : Oper) (st st' : St) : Prop :=
 dstOK o.dst st.n = true ∧ ((wantedS all st o = some false ∧ st' = st.put o.dst .undef) ∨ (wantedS all st o = some true ∧ PActQ P rd ks base i nm o st st'))
def PStepsQ (P : Program) [Tabs P] (all : Array Oper) (rd : Rn) (ks : Kn) (base : Nat) : Nat → List Oper → St → St → Prop
 | _, [], st, st' => st' = st
 | i, o :: r, st, st' => ∃ st1, PStepQ P all rd ks base i (base + i) o st st1 ∧ PStepsQ P all rd ks base (i + 1) r st1 st'
@[irreducible] def PCallQ (P : Program) [Tabs P] (ks : Kn) (base i : Nat) (F : FuncId) (l : List AV) (nm : Nat) (cs : CSt) (d : Option Tmp) (next : CSt → Prop) : Prop :=
  (∃ r, PureCall P F l (visO ks base cs.ob) r ∧ ∃ cs' : CSt, cs'.st = cs.st.put d r ∧ next cs') ∨ (∃ r mo, OwnCall P F l (visO ks base cs.ob) nm r mo ∧ ∃ cs' : CSt, cs'.st = ({ cs.st with ob := (nm, mo) :: cs.st.ob } : St).put d r ∧ next cs') ∨ (∃ c, NewCall P F l c ∧ ∃ cs' : CSt, cs'.st = ({ cs.st with ob := (nm, .box c) :: cs.st.ob } : St).put d (.bptr nm 0) ∧ next cs') ∨
   ∃ m rest mo mo' r, l = .bptr m 0 :: rest ∧ StepCall P F rest mo mo' r ∧ look cs.st.ob m = some mo ∧ tchB ks base i m = true ∧ ∃ cs' : CSt, cs'.st = ({ cs.st with ob := upd cs.st.ob m mo' } : St).put d r ∧ next cs'
theorem PCallQ.sca {P : Program} [Tabs P] {ks : Kn} {base i : Nat} {F : FuncId} {l : List AV} {nm : Nat} {cs : CSt} {d : Option Tmp} {next : CSt → Prop} (r : AV) (h : VFn P F (AV.fzs (visO ks base cs.ob) (fun _ => none) l) r) (hr : r.sca = true) (hn : r.force fun r => cs.putK d r next) : PCallQ P ks base i F l nm cs d next := by
 unfold PCallQ
 rw [AV.force_eq] at hn
 obtain ⟨cs1, e1, h1⟩ := CSt.putK_st hn
 exact .inl ⟨r, .inl ⟨h, hr⟩, cs1, e1, h1⟩
theorem PCallQ.nl {P : Program} [Tabs P] {ks : Kn} {base i : Nat} {F : FuncId} {l : List AV} {nm : Nat} {cs : CSt} {d : Option Tmp} {next : CSt → Prop} (r : AV) (h : VFn P F l r) (hl : AV.nls l = true) (hn : r.force fun r => cs.putK d r next) : PCallQ P ks base i F l nm cs d next := by
 unfold PCallQ
 rw [AV.force_eq] at hn
 obtain ⟨cs1, e1, h1⟩ := CSt.putK_st hn
 exact .inl ⟨r, .inr ⟨h, hl⟩, cs1, e1, h1⟩
theorem PCallQ.own {P : Program} [Tabs P] {ks : Kn} {base i : Nat} {F : FuncId} {l : List AV} {nm : Nat} {cs : CSt} {d : Option Tmp} {next : CSt → Prop} {r : AV} {mo : MO} (h : FnM P F 0 (AV.fzs (visO ks base cs.ob) (fun _ => none) l) [] r [(0, mo)] 1) (hr : r.scn = true) (hm : mo.scP)
 (hn : cs.obK ((nm, mo.ren fun _ => nm) :: cs.ob) cs.next fun cs' => (r.ren fun _ => nm).force fun r => cs'.putK d r next) : PCallQ P ks base i F l nm cs d next := by
 unfold PCallQ
 obtain ⟨cs1, e1, h1⟩ := CSt.obK_st hn
 rw [AV.force_eq] at h1
 obtain ⟨cs2, e2, h2⟩ := CSt.putK_st h1
 exact .inr (.inl ⟨_, _, OwnCall.ofM h hr hm, cs2, by rw [e2, e1]; rfl, h2⟩)
theorem PCallQ.m {P : Program} [Tabs P] {ks : Kn} {base i : Nat} {F : FuncId} {l : List AV} {nm : Nat} {cs : CSt} {d : Option Tmp} {next : CSt → Prop} (m : Nat) {rest c c' : List AV} {r : AV} (h : FnM P F 1 (.bptr 0 0 :: rest) [(0, .box c)] r [(0, .box c')] 1) (hl : l = .bptr m 0 :: rest)
 (hk : (AV.nls rest && (r.nl && (AV.nls c && AV.nls c'))) = true) (hm : look cs.ob m = some (.box c)) (ht : tchB ks base i m = true) (hn : cs.obK (upd cs.ob m (.box c')) cs.next fun cs' => r.force fun r => cs'.putK d r next) : PCallQ P ks base i F l nm cs d next := by
 unfold PCallQ
 simp only [Bool.and_eq_true] at hk
 obtain ⟨cs1, e1, h1⟩ := CSt.obK_st hn
 rw [AV.force_eq] at h1
 obtain ⟨cs2, e2, h2⟩ := CSt.putK_st h1
 exact .inr (.inr (.inr ⟨m, rest, .box c, .box c', r, hl, ⟨h, hk.1, hk.2.1, c, c', rfl, rfl, hk.2.2.1, hk.2.2.2⟩, hm, ht, cs2, by rw [e2, e1]; rfl, h2⟩))
def exPOpCQ (P : Program) [Tabs P] (rd : Rn) (ks : Kn) (base i : Nat) (o : Oper) (nm : Nat) (cs : CSt) (next : CSt → Prop) : Prop :=
 match dstOK o.dst cs.n with
 | false => False
 | true => match o.op with
   | .store t x y => (match okBoxQ ks base i (cs.st.ev x) with
     | true => (match stAV P cs.st t (cs.st.ev x) (cs.st.ev y) with | some st' => cs.obK st'.ob cs.next fun cs' => cs'.putK o.dst .any next | none => False)
     | false => False)
   | .call ⟨.builtin .append, args, tys⟩ => (match args.toList, tys.toList with
     | [x, y], [t, tx] => (match okDst ks base i (cs.st.ev x), okSrc ks base (cs.st.ev y) with
       | true, true => (match appAVn P nm (nm + 1) cs.st t tx (cs.st.ev x) (cs.st.ev y) with
         | some out => out.pre ∧ cs.obK out.st.ob cs.next fun cs' => fN nm fun nm' => cs'.putK o.dst (.osl nm') next
         | none => False)
       | _, _ => False)
     | _, _ => False)
   | .call ⟨.value f, args, _⟩ => (match cs.st.ev f with | .fn (.func F) xs ys => forceL (xs ++ (args.toList.map cs.st.ev ++ ys)) (fun l => PCallQ P ks base i F l nm cs o.dst next) | _ => False)
   | op => match pas P cs.st.ev (look (visI rd ks base i cs.ob)) nm op with
     | some p => (match p.mo with
       | none => andO p.pre (p.r.force fun r => cs.putK o.dst r next)
       | some mo => andO p.pre (p.r.force fun r => cs.obK ((nm, mo) :: cs.ob) cs.next fun cs' => cs'.putK o.dst r next))
     | none => False
theorem exPOpCQ_act {P : Program} [Tabs P] {rd : Rn} {ks : Kn} {base i : Nat} {o : Oper} {nm : Nat} {cs : CSt} {next : CSt → Prop} (h : exPOpCQ P rd ks base i o nm cs next) :
 dstOK o.dst cs.st.n = true ∧ ∃ cs', PActQ P rd ks base i nm o cs.st cs'.st ∧ next cs' := by
 unfold exPOpCQ at h
 split at h
 · cases h
 rename_i hd
 refine ⟨hd, ?_⟩
 split at h
 · rename_i t x y hop
   split at h
   · rename_i hx
     split at h
     · rename_i st1 hst
       obtain ⟨cs1, e1, h1⟩ := CSt.obK_st h
       obtain ⟨cs2, e2, h2⟩ := CSt.putK_st h1
       refine ⟨cs2, ?_, h2⟩
       have e : cs2.st = (({ cs.st with ob := st1.ob } : St).put o.dst .any) := by rw [e2, e1]; rfl
       rw [e]
       exact .store t x y st1 hop hx hst
     · cases h
   · cases h
 · rename_i args tys hop
   split at h
   · rename_i x y t tx ha ht
     split at h
     · rename_i hx hy
       split at h
       · rename_i out hout
         obtain ⟨hp, h⟩ := h
         obtain ⟨cs1, e1, h1⟩ := CSt.obK_st h
         rw [fN_eq] at h1
         obtain ⟨cs2, e2, h2⟩ := CSt.putK_st h1
         have hargs : args = #[x, y] := by apply Array.ext'; simpa using ha
         have htys : tys = #[t, tx] := by apply Array.ext'; simpa using ht
         subst hargs htys
         refine ⟨cs2, ?_, h2⟩
         have e : cs2.st = (({ cs.st with ob := out.st.ob } : St).put o.dst (.osl nm)) := by rw [e2, e1]; rfl
         rw [e]
         exact .app x y t tx out hop hx hy hout hp
       · cases h
     · cases h
   · cases h
 · rename_i f args tys hop
   split at h
   · rename_i F xs ys hf
     rw [forceL_eq] at h
     unfold PCallQ at h
     rcases h with ⟨r, hc, cs2, e2, hn⟩ | ⟨r, mo, hc, cs2, e2, hn⟩ | ⟨c, hc, cs2, e2, hn⟩ | ⟨m, rest, mo, mo', r, hl, hc, hm, ht, cs2, e2, hn⟩
     · exact ⟨cs2, e2 ▸ .call f args tys F xs ys r hop hf hc, hn⟩
     · exact ⟨cs2, e2 ▸ .ownc f args tys F xs ys r mo hop hf hc, hn⟩
     · exact ⟨cs2, e2 ▸ .newc f args tys F xs ys c hop hf hc, hn⟩
     · exact ⟨cs2, e2 ▸ .callm f args tys F xs ys m rest mo mo' r hop hf hl hc hm ht, hn⟩
   · cases h
 · split at h
   · rename_i p hp
     split at h
     · rename_i hm
       obtain ⟨h1, h2⟩ := andO_right h
       rw [AV.force_eq] at h2
       obtain ⟨cs2, e2, h3⟩ := CSt.putK_st h2
       refine ⟨cs2, ?_, h3⟩
       have := PActQ.pas (P := P) (i := i) (st := cs.st) p hp h1
       rw [hm] at this
       rw [e2]; exact this
     · rename_i mo hm
       obtain ⟨h1, h2⟩ := andO_right h
       rw [AV.force_eq] at h2
       obtain ⟨cs1, e1, h3⟩ := CSt.obK_st h2
       obtain ⟨cs2, e2, h4⟩ := CSt.putK_st h3
       refine ⟨cs2, ?_, h4⟩
       have := PActQ.pas (P := P) (i := i) (st := cs.st) p hp h1
       rw [hm] at this
       rw [e2, e1]; exact this
   · cases h
def exDCQ (P : Program) [Tabs P] (all : Array Oper) (rd : Rn) (ks : Kn) (base : Nat) : Nat → List Oper → CSt → (CSt → Prop) → Prop
 | _, [], cs, next => next cs
 | i, o :: r, cs, next => match o.guard with
   | none => fN i fun i => fN (base + i) fun nm => exPOpCQ P rd ks base i o nm cs fun cs' => exDCQ P all rd ks base (i + 1) r cs' next
   | some (j, want) => match (all[j]?).bind (·.dst) with
     | some t => (match Nat.blt t cs.n, dstOK o.dst cs.n with
       | true, true => (match cs.st.tm t with
         | .bool c => Grd c (cs.putK (some t) (.bool true) fun cs => match want with
          | true => (fN i fun i => fN (base + i) fun nm => exPOpCQ P rd ks base i o nm cs fun cs' => exDCQ P all rd ks base (i + 1) r cs' next)
          | false => (cs.putK o.dst .undef fun cs => exDCQ P all rd ks base (i + 1) r cs next))
           (cs.putK (some t) (.bool false) fun cs => match want with
            | true => (cs.putK o.dst .undef fun cs => exDCQ P all rd ks base (i + 1) r cs next)
            | false => (fN i fun i => fN (base + i) fun nm => exPOpCQ P rd ks base i o nm cs fun cs' => exDCQ P all rd ks base (i + 1) r cs' next))
         | .undef => cs.putK o.dst .undef fun cs => exDCQ P all rd ks base (i + 1) r cs next
         | _ => False)
       | _, _ => False)
     | none => False
theorem put_same {st : St} {t : Tmp} {x : AV} (h : st.tm t = x) : st.put (some t) x = st := by
 cases st with
 | mk tm ob nx n =>
   simp only [St.put]
   congr 1
   funext k
   cases hb : Nat.beq k t
   · rfl
   · have := Nat.eq_of_beq_eq_true hb
     subst this
     exact h.symm
theorem exDCQ_steps {P : Program} [Tabs P] {all : Array Oper} {rd : Rn} {ks : Kn} {base : Nat} : ∀ (i : Nat) (l : List Oper) {cs : CSt} {next : CSt → Prop}, exDCQ P all rd ks base i l cs next → ∃ cs', PStepsQ P all rd ks base i l cs.st cs'.st ∧ next cs'
 | _, [], cs, next, h => ⟨cs, rfl, h⟩
 | i, o :: r, cs, next, h => by
   have act : ∀ cs : CSt, wantedS all cs.st o = some true → (fN i fun i => fN (base + i) fun nm => exPOpCQ P rd ks base i o nm cs fun cs' => exDCQ P all rd ks base (i + 1) r cs' next) → ∃ cs', PStepsQ P all rd ks base i (o :: r) cs.st cs'.st ∧ next cs' := fun cs hw h1 => by
    rw [fN_eq, fN_eq] at h1
    obtain ⟨hd, cs1, h2, h3⟩ := exPOpCQ_act h1
    obtain ⟨cs2, h4, h5⟩ := exDCQ_steps (i + 1) r h3
    exact ⟨cs2, ⟨cs1.st, ⟨hd, .inr ⟨hw, h2⟩⟩, h4⟩, h5⟩
   have skip : ∀ cs : CSt, dstOK o.dst cs.st.n = true → wantedS all cs.st o = some false → (cs.putK o.dst .undef fun cs => exDCQ P all rd ks base (i + 1) r cs next) → ∃ cs', PStepsQ P all rd ks base i (o :: r) cs.st cs'.st ∧ next cs' := fun cs hd hw h1 => by
    obtain ⟨cs1, e1, h2⟩ := CSt.putK_st h1
    obtain ⟨cs2, h4, h5⟩ := exDCQ_steps (i + 1) r h2
    exact ⟨cs2, ⟨cs1.st, ⟨hd, .inl ⟨hw, e1⟩⟩, h4⟩, h5⟩
   unfold exDCQ at h
   split at h
   · rename_i hg; exact act cs (by simp [wantedS, hg]) h
   · rename_i j want hg
     split at h
     · rename_i t hj
       split at h
       · rename_i ht hd
         have ht' : Nat.blt t cs.st.n = true := ht
         have hd' : dstOK o.dst cs.st.n = true := hd
         split at h
         · rename_i c hc
           have hw : wantedS all cs.st o = some (c == want) := by simp [wantedS, hg, hj, ht', hc]
           cases c <;> simp only [Grd] at h <;> obtain ⟨cs1, e1, h⟩ := CSt.putK_st h <;> rw [put_same hc] at e1 <;> rw [← e1] at hw hd' ⊢ <;> cases want <;> dsimp only at h
           · exact act cs1 hw h
           · exact skip cs1 hd' hw h
           · exact skip cs1 hd' hw h
           · exact act cs1 hw h
         · rename_i hc
           exact skip cs hd' (by simp [wantedS, hg, hj, ht', hc]) h
         · cases h
       · cases h
     · cases h
theorem PStepsQ.seq {P : Program} [Tabs P] {all : Array Oper} {rd : Rn} {ks : Kn} {base : Nat} : ∀ (l : List Oper) (i : Nat) (st st' : St), PStepsQ P all rd ks base i l st st' →
 ∃ s : Nat → St, s i = st ∧ s (i + l.length) = st' ∧ ∀ k o, l[k]? = some o → PStepQ P all rd ks base (i + k) (base + (i + k)) o (s (i + k)) (s (i + k + 1))
 | [], i, st, st', h => ⟨fun _ => st, rfl, by simp [PStepsQ] at h; exact h.symm, fun k o hk => by simp at hk⟩
 | o :: r, i, st, st', ⟨st1, h1, h2⟩ => by
   obtain ⟨s, e1, e2, e3⟩ := PStepsQ.seq r (i + 1) st1 st' h2
   refine ⟨fun k => if k = i then st else s k, by simp, by simp only [List.length_cons]; rw [if_neg (by omega)]; rw [← e2]; congr 1; omega, fun k q hk => ?_⟩
   cases k with
   | zero =>
     simp at hk; subst hk
     dsimp only
     rw [Nat.add_zero, if_pos rfl, if_neg (by omega), e1]; exact h1
   | succ k =>
     simp at hk
     have := e3 k q hk
     dsimp only
     rw [if_neg (by omega), if_neg (by omega)]
     have e4 : i + 1 + k = i + (k + 1) := by omega
     rw [e4] at this
     exact this
section
variable {P : Program} [Tabs P] {all : Array Oper} {n base : Nat} {rd : Rn} {ks : Kn} {s : Nat → St}
theorem PStepQ.shape {i nm : Nat} {o : Oper} {st st' : St} (h : PStepQ P all rd ks base i nm o st st') : st'.n = st.n ∧ st'.next = st.next ∧ (∀ t, o.dst ≠ some t → st'.tm t = st.tm t) ∧ ShapeK ks base i nm st st' := by
 have hput : ∀ (x : St) (r : AV), (x.put o.dst r).n = x.n ∧ (x.put o.dst r).next = x.next ∧ (∀ t, o.dst ≠ some t → (x.put o.dst r).tm t = x.tm t) ∧ (x.put o.dst r).ob = x.ob := fun x r => by
  cases hd : o.dst with
  | none => exact ⟨rfl, rfl, fun _ _ => rfl, rfl⟩
  | some d =>
    refine ⟨rfl, rfl, fun t ht => ?_, rfl⟩
    show (bif Nat.beq t d then r else x.tm t) = _
    cases hb : Nat.beq t d
    · rfl
    · exact absurd (by rw [Nat.eq_of_beq_eq_true hb]) ht
 rcases h.2 with ⟨_, e⟩ | ⟨_, h⟩
 · subst e
   obtain ⟨h1, h2, h3, h4⟩ := hput st .undef
   exact ⟨h1, h2, h3, none, none, h4 ▸ effK.same, fun _ _ e => by cases e⟩
 · cases h with
   | pas p h hpre =>
     cases hm : p.mo with
     | none => obtain ⟨h1, h2, h3, h4⟩ := hput st p.r; exact ⟨h1, h2, h3, none, none, h4 ▸ effK.same, fun _ _ e => by cases e⟩
     | some mo =>
       obtain ⟨h1, h2, h3, h4⟩ := hput { st with ob := (nm, mo) :: st.ob } p.r
       refine ⟨h1, h2, h3, some mo, none, ?_, fun _ _ e => by cases e⟩
       have h4' : (({ st with ob := (nm, mo) :: st.ob } : St).put o.dst p.r).ob = (nm, mo) :: st.ob := h4
       show effK nm (some mo) none st.ob (({ st with ob := (nm, mo) :: st.ob } : St).put o.dst p.r).ob
       rw [h4']; exact effK.add
   | call f args tys F xs ys r hop hf h =>
     obtain ⟨h1, h2, h3, h4⟩ := hput st r; exact ⟨h1, h2, h3, none, none, h4 ▸ effK.same, fun _ _ e => by cases e⟩
   | ownc f args tys F xs ys r mo hop hf h =>
     obtain ⟨h1, h2, h3, h4⟩ := hput { st with ob := (nm, mo) :: st.ob } r
     refine ⟨h1, h2, h3, some mo, none, ?_, fun _ _ e => by cases e⟩
     have h4' : (({ st with ob := (nm, mo) :: st.ob } : St).put o.dst r).ob = (nm, mo) :: st.ob := h4
     show effK nm (some mo) none st.ob (({ st with ob := (nm, mo) :: st.ob } : St).put o.dst r).ob
     rw [h4']; exact effK.add
   | newc f args tys F xs ys c hop hf h =>
     obtain ⟨h1, h2, h3, h4⟩ := hput { st with ob := (nm, .box c) :: st.ob } (.bptr nm 0)
     refine ⟨h1, h2, h3, some (.box c), none, ?_, fun _ _ e => by cases e⟩
     have h4' : (({ st with ob := (nm, .box c) :: st.ob } : St).put o.dst (.bptr nm 0)).ob = (nm, .box c) :: st.ob := h4
     show effK nm (some (.box c)) none st.ob (({ st with ob := (nm, .box c) :: st.ob } : St).put o.dst (.bptr nm 0)).ob
     rw [h4']; exact effK.add
   | callm f args tys F xs ys m rest mo mo' r hop hf hl hc hm ht =>
     obtain ⟨h1, h2, h3, h4⟩ := hput { st with ob := upd st.ob m mo' } r
     have h4' : (({ st with ob := upd st.ob m mo' } : St).put o.dst r).ob = upd st.ob m mo' := h4
     refine ⟨h1, h2, h3, none, some (m, some mo'), ?_, fun _ _ e => by cases e; exact ⟨by rw [hm]; simp, ht⟩⟩
     rw [h4']; exact effK.upd hm
   | app x y t tx out hop hx hy hap hpre =>
     obtain ⟨h1, h2, h3, h4⟩ := hput { st with ob := out.st.ob } (.osl nm)
     have h4' : (({ st with ob := out.st.ob } : St).put o.dst (.osl nm)).ob = out.st.ob := h4
     refine ⟨h1, h2, h3, ?_⟩
     obtain ⟨mo, mm, e1, _, e3⟩ := appAVn_at (nx2 := 0) (st2 := st) hap (fun _ => rfl) rfl
     rcases e3 with ⟨m, ex, rfl, hl⟩ | ⟨ex, rfl⟩
     · rw [ex] at hx
       refine ⟨some mo, some (m, none), ?_, fun _ _ e => by cases e; exact ⟨hl, hx⟩⟩
       rw [h4', e1]; exact effK.del
     · refine ⟨some mo, none, ?_, fun _ _ e => by cases e⟩
       rw [h4', e1]; exact effK.add
   | store t x y st1 hop hx hst =>
     obtain ⟨h1, h2, h3, h4⟩ := hput { st with ob := st1.ob } .any
     have h4' : (({ st with ob := st1.ob } : St).put o.dst .any).ob = st1.ob := h4
     refine ⟨h1, h2, h3, ?_⟩
     cases hxx : st.ev x with
     | bptr m off =>
       rw [hxx] at hx hst
       obtain ⟨cs, l, hl, e1, _⟩ := stAV_box hst
       refine ⟨none, some (m, some (.box l)), ?_, fun _ _ e => by cases e; exact ⟨by rw [hl]; simp, hx⟩⟩
       rw [h4', e1]; exact effK.upd hl
     | aptr m sz k off =>
       rw [hxx] at hx hst
       obtain ⟨mo, mo', hl, e1, _⟩ := stAV_arr hst
       refine ⟨none, some (m, some mo'), ?_, fun _ _ e => by cases e; exact ⟨by rw [hl]; simp, hx⟩⟩
       rw [h4', e1]; exact effK.upd hl
     | _ => rw [hxx] at hx; cases hx
structure RoadQ (P : Program) [Tabs P] (all : Array Oper) (n base : Nat) (rd : Rn) (ks : Kn) (s : Nat → St) : Prop where
 step : ∀ k, k < n → ∃ o, all[k]? = some o ∧ PStepQ P all rd ks base k (base + k) o (s k) (s (k + 1))
 temps : tempsB all n = true
 back : backB all n = true
 bas : (s 0).next = base
 noob : ∀ m, base ≤ m → look (s 0).ob m = none
 kok : ksQ all base ks = true
 rok : rdQ all base ks rd = true
variable (hR : RoadQ P all n base rd ks s)
include hR
theorem RoadQ.nn : ∀ k, k ≤ n → (s k).n = (s 0).n ∧ (s k).next = base
 | 0, _ => ⟨rfl, hR.bas⟩
 | k + 1, h => by
   obtain ⟨o, _, hp⟩ := hR.step k (by omega)
   obtain ⟨h1, h2, _⟩ := hp.shape
   obtain ⟨i1, i2⟩ := RoadQ.nn k (by omega)
   exact ⟨h1.trans i1, h2.trans i2⟩
theorem RoadQ.stay : ∀ k, k ≤ n → ∀ t, (∀ j, j < k → dstAt all j ≠ some t) → (s k).tm t = (s 0).tm t
 | 0, _, _, _ => rfl
 | k + 1, h, t, ht => by
   obtain ⟨o, ho, hp⟩ := hR.step k (by omega)
   obtain ⟨_, _, h3, _⟩ := hp.shape
   rw [h3 t (fun e => ht k (by omega) (by simp [dstAt, ho, e])), RoadQ.stay k (by omega) t fun j hj => ht j (by omega)]
theorem RoadQ.keep {j t : Nat} (hj : dstAt all j = some t) : ∀ k, j < k → k ≤ n → (s k).tm t = (s (j + 1)).tm t
 | 0, h, _ => by omega
 | k + 1, h, hk => by
   by_cases e : k = j
   · subst e; rfl
   · obtain ⟨o, ho, hp⟩ := hR.step k (by omega)
     obtain ⟨_, _, h3, _⟩ := hp.shape
     have := (tempsB_spec hR.temps (i := k) (j := j) (by omega) (by omega) e hj).1
     rw [h3 t (fun e' => this (by simp [dstAt, ho, e'])), RoadQ.keep hj k (by omega) (by omega)]
theorem RoadQ.step1 {k m : Nat} (hk : k < n) (hne : m ≠ base + k) (ht : tchB ks base k m = false) : look (s (k + 1)).ob m = look (s k).ob m := by
 obtain ⟨o, _, hp⟩ := hR.step k hk
 obtain ⟨_, _, _, cr, tc, he, htc⟩ := hp.shape
 rw [he m, if_neg (fun e => hne e.1)]
 cases tc with
 | none => rfl
 | some q =>
   obtain ⟨m', v⟩ := q
   simp only
   split
   · rename_i e
     have := (htc m' v rfl).2
     rw [← e, ht] at this; cases this
   · rfl
theorem RoadQ.up : ∀ k, k ≤ n → ∀ j, k ≤ j → look (s k).ob (base + j) = none
 | 0, _, j, _ => hR.noob _ (by omega)
 | k + 1, h, j, hj => by
   have ih := RoadQ.up k (by omega) j (by omega)
   rw [hR.step1 (by omega) (by omega) ?_, ih]
   cases ht : tchB ks base k (base + j)
   · rfl
   · have := ksq_lt hR.kok ht; omega
theorem RoadQ.valLow {m : Nat} (hm : m < base) : ∀ k, k ≤ n → (∀ i, i < k → tchB ks base i m = false) → look (s k).ob m = valK base s m
 | 0, _, _ => by unfold valK; rw [if_pos hm]
 | k + 1, h, ht => by rw [hR.step1 (by omega) (by omega) (ht k (Nat.lt_succ_self _)), RoadQ.valLow hm k (by omega) fun i hi => ht i (by omega)]
theorem RoadQ.valNew {j : Nat} : ∀ k, j < k → k ≤ n → (∀ i, i < k → tchB ks base i (base + j) = false) → look (s k).ob (base + j) = valK base s (base + j)
 | 0, h, _, _ => by omega
 | k + 1, h, hk, ht => by
   by_cases e : k = j
   · subst e; unfold valK; rw [if_neg (by omega), show base + k - base + 1 = k + 1 by omega]
   · rw [hR.step1 (by omega) (by omega) (ht k (Nat.lt_succ_self _)), RoadQ.valNew k (by omega) (by omega) fun i hi => ht i (by omega)]
theorem RoadQ.after {i m : Nat} (hi : tchB ks base i m = true) : ∀ k, i < k → k ≤ n → (∀ k', i < k' → k' < k → tchB ks base k' m = false) → look (s k).ob m = look (s (i + 1)).ob m
 | 0, h, _, _ => by omega
 | k + 1, h, hk, hno => by
   by_cases e : k = i
   · subst e; rfl
   · have hne : m ≠ base + k := fun e' => by
      subst e'
      have := ksq_lt hR.kok hi; omega
     rw [hR.step1 (by omega) hne (hno k (by omega) (by omega)), RoadQ.after hi k (by omega) (by omega) fun k' h1 h2 => hno k' h1 (by omega)]
omit hR in
def LiveQ (n base : Nat) (ks : Kn) (s : Nat → St) (listed : Array Bool) (m : Nat) (mo : MO) : Prop :=
 CrdK n base listed m ∧ ((∃ i, i < n ∧ tchB ks base i m = true ∧ listed.getD i false = true ∧ (∀ i', i < i' → i' < n → tchB ks base i' m = true → listed.getD i' false = false) ∧ look (s (i + 1)).ob m = some mo) ∨ ((∀ i, i < n → tchB ks base i m = true → listed.getD i false = false) ∧ valK base s m = some mo))
omit hR in
def ChQ (n base : Nat) (ks : Kn) (listed : Array Bool) (i : Nat) : Prop := ∀ m, tchB ks base i m = true → ∀ i', i' < n → tchB ks base i' m = true → (i' < i → listed.getD i' false = true) ∧ (i < i' → listed.getD i' false = false)
omit hR in
def InvDQ (P : Program) [Tabs P] (all : Array Oper) (n base : Nat) (ks : Kn) (s : Nat → St) (gb : Nat → Option Gh) (w0 : World) (gr ok0 : Nat → Prop) (listed : Array Bool) (a : Act) (w : World) : Prop :=
 ∃ g ok obD, Rep gb w0 gr ok0 ⟨tmD all n s listed, obD, base + n, (s 0).n⟩ g ok a w ∧ (∀ m mo, look obD m = some mo ↔ LiveQ n base ks s listed m mo) ∧ (∀ j, j < n → listed.getD j false = false → g (base + j) = none) ∧
   ∀ i m, i < n → listed.getD i false = true → m ≠ base + i → look (s (i + 1)).ob m ≠ look (s i).ob m → CrdK n base listed m
variable {gb : Nat → Option Gh} {w0 : World} {gr ok0 : Nat → Prop}
theorem RoadQ.atVal {i m : Nat} (hi : i < n) (hc : m < base ∨ ∃ j, j < i ∧ m = base + j) (ht : ∀ k, k < i → tchB ks base k m = false) : look (s i).ob m = valK base s m := by
 rcases hc with h | ⟨j, hj, rfl⟩
 · exact hR.valLow h i (by omega) ht
 · exact hR.valNew i hj (by omega) ht
theorem RoadQ.nowR {listed : Array Bool} {i m : Nat} (hi : i < n) (hun : listed.getD i false = false) (hcm : ∀ i', i' < n → tchB ks base i' m = true → (i' < i → listed.getD i' false = true) ∧ (i < i' → listed.getD i' false = false)) (hval : m < base ∨ ∃ j, j < i ∧ m = base + j) {obD : List (Nat × MO)} (hob : ∀ m mo, look obD m = some mo ↔ LiveQ n base ks s listed m mo) (mo : MO) :
 look obD m = some mo ↔ CrdK n base listed m ∧ look (s i).ob m = some mo := by
 rw [hob]
 unfold LiveQ
 refine and_congr Iff.rfl ⟨?_, ?_⟩
 · rintro (⟨i', h1, h2, h3, h5, h4⟩ | ⟨h1, h2⟩)
   · have hlt : i' < i := by
      rcases Nat.lt_trichotomy i' i with q | q | q
      · exact q
      · subst q; rw [hun] at h3; cases h3
      · have := (hcm i' h1 h2).2 q
        rw [h3] at this; cases this
     rw [hR.after h2 i hlt (by omega) fun k q1 q2 => ?_]
     · exact h4
     · cases hk : tchB ks base k m
       · rfl
       · have q3 := (hcm k (by omega) hk).1 q2
         rw [h5 k q1 (by omega) hk] at q3; cases q3
   · rw [hR.atVal hi hval fun k hk => ?_]
     · exact h2
     · cases hk2 : tchB ks base k m
       · rfl
       · have q3 := (hcm k (by omega) hk2).1 hk
         rw [h1 k (by omega) hk2] at q3; cases q3
 · intro h
   by_cases hex : ∃ i', i' < i ∧ tchB ks base i' m = true
   · -- the last one ahead
     have hmax : ∃ i', (i' < i ∧ tchB ks base i' m = true) ∧ ∀ k, i' < k → k < i → tchB ks base k m = false := by
      obtain ⟨i', h1, h2⟩ := hex
      have : ∀ d i', d = i - i' → i' < i → tchB ks base i' m = true → ∃ i', (i' < i ∧ tchB ks base i' m = true) ∧ ∀ k, i' < k → k < i → tchB ks base k m = false := by
       intro d
       induction d using Nat.strongRecOn with
       | _ d ih =>
         intro i' hd q1 q2
         by_cases h' : ∃ k, i' < k ∧ k < i ∧ tchB ks base k m = true
         · obtain ⟨k, k1, k2, k3⟩ := h'
           exact ih (i - k) (by omega) k rfl k2 k3
         · exact ⟨i', ⟨q1, q2⟩, fun k k1 k2 => by
            cases hk : tchB ks base k m
            · rfl
            · exact absurd ⟨k, k1, k2, hk⟩ h'⟩
      exact this _ i' rfl h1 h2
     obtain ⟨i', ⟨h1, h2⟩, h3⟩ := hmax
     refine .inl ⟨i', by omega, h2, (hcm i' (by omega) h2).1 h1, fun k q1 q2 q3 => ?_, ?_⟩
     · rcases Nat.lt_trichotomy k i with q | q | q
       · rw [h3 k q1 q] at q3; cases q3
       · subst q; exact hun
       · exact (hcm k q2 q3).2 q
     · rw [← hR.after h2 i h1 (by omega) h3]; exact h
   · have hnt : ∀ k, k < i → tchB ks base k m = false := fun k hk => by
      cases hk2 : tchB ks base k m
      · rfl
      · exact absurd ⟨k, hk, hk2⟩ hex
     refine .inr ⟨fun k h1 h2 => ?_, by rw [← hR.atVal hi hval hnt]; exact h⟩
     rcases Nat.lt_trichotomy k i with q | q | q
     · rw [hnt k q] at h2; cases h2
     · subst q; exact hun
     · exact (hcm k h1 h2).2 q
theorem RoadQ.now {listed : Array Bool} {i m : Nat} (hi : i < n) (hun : listed.getD i false = false) (hch : ChQ n base ks listed i) {obD : List (Nat × MO)} (hob : ∀ m mo, look obD m = some mo ↔ LiveQ n base ks s listed m mo) (ht : tchB ks base i m = true) (mo : MO) :
 look obD m = some mo ↔ CrdK n base listed m ∧ look (s i).ob m = some mo := by
 refine hR.nowR hi hun (hch m ht) ?_ hob mo
 by_cases hb : m < base
 · exact .inl hb
 · obtain ⟨j, rfl⟩ : ∃ j, m = base + j := ⟨m - base, by omega⟩
   exact .inr ⟨j, ksq_lt hR.kok ht, rfl⟩
theorem RoadQ.live_step {listed : Array Bool} {i : Nat} (hi : i < n) (his : i < listed.size) (hun : listed.getD i false = false) {obD obD' : List (Nat × MO)} (hob : ∀ m mo, look obD m = some mo ↔ LiveQ n base ks s listed m mo)
 (hkl : ∀ i m, i < n → listed.getD i false = true → m ≠ base + i → look (s (i + 1)).ob m ≠ look (s i).ob m → CrdK n base listed m) {cr : Option MO} {tc : Option (Nat × Option MO)} (he : effK (base + i) cr tc (s i).ob (s (i + 1)).ob) (hD : effK (base + i) cr tc obD obD')
 (hch : ChQ n base ks listed i) (htc : ∀ m v, tc = some (m, v) → look (s i).ob m ≠ none ∧ tchB ks base i m = true ∧ CrdK n base listed m) (m : Nat) (mo : MO) : look obD' m = some mo ↔ LiveQ n base ks s (listed.setIfInBounds i true) m mo := by
 have hL : ∀ k, (listed.setIfInBounds i true).getD k false = true ↔ k = i ∨ listed.getD k false = true := fun k => getD_set his
 by_cases hm : m = base + i
 · subst hm
   have hup := hR.up i (by omega) i (Nat.le_refl _)
   have hno : look obD (base + i) = none := by
    cases hq : look obD (base + i) with
    | none => rfl
    | some q =>
      obtain ⟨hc, _⟩ := (hob _ q).1 hq
      rcases hc with hc | ⟨j, h1, h2, h3⟩
      · omega
      · have : j = i := by omega
        subst this; rw [hun] at h2; cases h2
   have hti : ∀ v, tc ≠ some (base + i, v) := fun v e => (htc _ _ e).1 hup
   have hval : valK base s (base + i) = look (s (i + 1)).ob (base + i) := by unfold valK; rw [if_neg (by omega), show base + i - base + 1 = i + 1 by omega]
   have hroad : look (s (i + 1)).ob (base + i) = cr := by
    rw [he (base + i)]
    by_cases hcr : cr = none
    · rw [if_neg (fun e => e.2 hcr), hcr]
      cases tc with
      | none => exact hup
      | some q =>
        obtain ⟨m', v⟩ := q
        simp only
        split
        · rename_i e; exact absurd (by rw [e]) (hti v)
        · exact hup
    · rw [if_pos ⟨rfl, hcr⟩]
   have hrun : look obD' (base + i) = cr := by
    rw [hD (base + i)]
    by_cases hcr : cr = none
    · rw [if_neg (fun e => e.2 hcr), hcr]
      cases tc with
      | none => exact hno
      | some q =>
        obtain ⟨m', v⟩ := q
        simp only
        split
        · rename_i e; exact absurd (by rw [e]) (hti v)
        · exact hno
    · rw [if_pos ⟨rfl, hcr⟩]
   -- what touches it, if that has come, has left it as it is
   have htch : ∀ i', i' < n → tchB ks base i' (base + i) = true → (listed.setIfInBounds i true).getD i' false = true → look (s (i' + 1)).ob (base + i) = cr := fun i' hi' ht hl => by
    have hlt := ksq_lt hR.kok ht
    have hl' : listed.getD i' false = true := ((hL i').1 hl).resolve_left (by omega)
    by_cases hq : look (s (i' + 1)).ob (base + i) = look (s i').ob (base + i)
    · rw [hq, hR.valNew i' hlt (by omega) fun k hk => by
       cases hk2 : tchB ks base k (base + i)
       · rfl
       · have := ksq_one hR.kok (by omega) hk2 ht; omega]
      rw [hval, hroad]
    · rcases hkl i' _ hi' hl' (by omega) hq with hc | ⟨j, h1, h2, h3⟩
      · omega
      · have : j = i := by omega
        subst this; rw [hun] at h2; cases h2
   rw [hrun]
   constructor
   · intro hcr
     refine ⟨.inr ⟨i, hi, (hL i).2 (.inl rfl), rfl⟩, ?_⟩
     by_cases hex : ∃ i', i' < n ∧ tchB ks base i' (base + i) = true ∧ (listed.setIfInBounds i true).getD i' false = true
     · obtain ⟨i', h1, h2, h3⟩ := hex
       exact .inl ⟨i', h1, h2, h3, fun i2 h4 _ h5 => absurd (ksq_one hR.kok (by omega) h5 h2) (by omega), by rw [htch i' h1 h2 h3]; exact hcr⟩
     · refine .inr ⟨fun i' h1 h2 => ?_, by rw [hval, hroad]; exact hcr⟩
       cases hl : (listed.setIfInBounds i true).getD i' false
       · rfl
       · exact absurd ⟨i', h1, h2, hl⟩ hex
   · rintro ⟨_, ⟨i', h1, h2, h3, _, h4⟩ | ⟨_, h4⟩⟩
     · rw [htch i' h1 h2 h3] at h4; exact h4
     · rw [hval, hroad] at h4; exact h4
 · have hcrd : CrdK n base (listed.setIfInBounds i true) m ↔ CrdK n base listed m := ⟨CrdK.of_set his hm, CrdK.set his⟩
   have hD' : look obD' m = pickK tc m (look obD m) := by rw [hD m, if_neg (fun e => hm e.1)]; cases tc with | none => rfl | some q => (obtain ⟨a, b⟩ := q; rfl)
   have he' : look (s (i + 1)).ob m = pickK tc m (look (s i).ob m) := by rw [he m, if_neg (fun e => hm e.1)]; cases tc with | none => rfl | some q => (obtain ⟨a, b⟩ := q; rfl)
   cases ht : tchB ks base i m with
   | false =>
     have hntc : look obD' m = look obD m := by
      rw [hD']
      cases tc with
      | none => rfl
      | some q =>
        obtain ⟨m', v⟩ := q
        simp only [pickK]
        split
        · rename_i e
          have := (htc m' v rfl).2.1
          rw [← e, ht] at this; cases this
        · rfl
     rw [hntc, hob]
     have hLi : ∀ i', tchB ks base i' m = true → ((listed.setIfInBounds i true).getD i' false = true ↔ listed.getD i' false = true) := fun i' h => by
      rw [hL]
      refine ⟨fun h' => h'.resolve_left fun e => ?_, .inr⟩
      subst e; rw [ht] at h; cases h
     have hLf : ∀ i', tchB ks base i' m = true → ((listed.setIfInBounds i true).getD i' false = false ↔ listed.getD i' false = false) := fun i' h => by
      have := hLi i' h
      revert this
      generalize (listed.setIfInBounds i true).getD i' false = p
      generalize listed.getD i' false = q
      intro this
      cases p <;> cases q
      · exact Iff.rfl
      · exact absurd (this.2 rfl) (by decide)
      · exact absurd (this.1 rfl) (by decide)
      · exact Iff.rfl
     unfold LiveQ
     rw [hcrd]
     refine and_congr Iff.rfl (or_congr ⟨?_, ?_⟩ ⟨?_, ?_⟩)
     · rintro ⟨i', h1, h2, h3, h5, h4⟩; exact ⟨i', h1, h2, (hLi i' h2).2 h3, fun i2 q1 q2 q3 => (hLf i2 q3).2 (h5 i2 q1 q2 q3), h4⟩
     · rintro ⟨i', h1, h2, h3, h5, h4⟩; exact ⟨i', h1, h2, (hLi i' h2).1 h3, fun i2 q1 q2 q3 => (hLf i2 q3).1 (h5 i2 q1 q2 q3), h4⟩
     · rintro ⟨h1, h2⟩; exact ⟨fun i' h3 h4 => (hLf i' h4).2 (h1 i' h3 h4), h2⟩
     · rintro ⟨h1, h2⟩; exact ⟨fun i' h3 h4 => (hLf i' h4).1 (h1 i' h3 h4), h2⟩
   | true =>
     have hcm := hch m ht
     have hlive : ∀ mo, LiveQ n base ks s (listed.setIfInBounds i true) m mo ↔ CrdK n base listed m ∧ look (s (i + 1)).ob m = some mo := fun mo => by
      unfold LiveQ
      rw [hcrd]
      refine and_congr Iff.rfl ⟨?_, ?_⟩
      · rintro (⟨i', h1, h2, h3, h5, h4⟩ | ⟨h1, _⟩)
        · rcases Nat.lt_trichotomy i' i with q | q | q
          · have := h5 i q hi ht
            rw [(hL i).2 (.inl rfl)] at this; cases this
          · subst q; exact h4
          · have := (hcm i' h1 h2).2 q
            rw [((hL i').1 h3).resolve_left (by omega)] at this; cases this
        · have := h1 i hi ht
          rw [(hL i).2 (.inl rfl)] at this; cases this
      · intro h
        refine .inl ⟨i, hi, ht, (hL i).2 (.inl rfl), fun i' q1 q2 q3 => ?_, h⟩
        have := (hcm i' q2 q3).2 q1
        cases hq : (listed.setIfInBounds i true).getD i' false
        · rfl
        · rw [((hL i').1 hq).resolve_left (by omega)] at this; cases this
     have hnow := hR.now hi hun hch hob ht
     rw [hlive, he', hD']
     cases tc with
     | none => simp only [pickK]; rw [hnow]
     | some q =>
       obtain ⟨m', v⟩ := q
       simp only [pickK]
       by_cases e : m = m'
       · rw [if_pos e, if_pos e]
         have hc := (htc m' v rfl).2.2
         rw [← e] at hc
         exact ⟨fun h => ⟨hc, h⟩, fun h => h.2⟩
       · rw [if_neg e, if_neg e, hnow]
theorem RoadQ.agree {listed : Array Bool} {i : Nat} {o : Oper} (hi : i < n) (ho : all[i]? = some o) (hun : listed.getD i false = false)
 (hcl : ∀ j oj, all[j]? = some oj → listed.getD j false = true → ∀ e ∈ oj.after, Region.binds .any e = true → listed.getD e.on false = true)
 (hrd : ∀ e ∈ o.after, Region.binds .any e = true → listed.getD e.on false = true) {t : Nat} (ht : t ∈ readsOf all o) : tmD all n s listed t = (s i).tm t := by
 unfold tmD
 by_cases hex : ∃ j, j < n ∧ dstAt all j = some t
 · obtain ⟨j, hj, hd⟩ := hex
   by_cases hij : i = j
   · subst hij
     have q1 : ¬ ∃ j, j < n ∧ listed.getD j false = true ∧ dstAt all j = some t := fun ⟨k, hk, hl, hdk⟩ => by
      by_cases e : k = i
      · subst e; rw [hun] at hl; cases hl
      · exact (tempsB_spec hR.temps hi hk (fun e' => e e'.symm) hdk).1 hd
     have q2 : ∀ j, j < i → dstAt all j ≠ some t := fun k hk hdk => (tempsB_spec hR.temps hi (show k < n by omega) (by omega) hdk).1 hd
     rw [if_neg q1, hR.stay i (by omega) t q2]
   · obtain ⟨h1, h2⟩ := (tempsB_spec hR.temps hi hj hij hd).2 o ho ht
     rcases Nat.lt_or_gt_of_ne hij with hlt | hgt
     · -- j later: not yet
       have hw := h2 hlt
       obtain ⟨oj, hoj, e, he, hb, hon⟩ := Region.waitsFor_spec hw
       have q1 : ¬ ∃ j, j < n ∧ listed.getD j false = true ∧ dstAt all j = some t := fun ⟨k, hk, hl, hdk⟩ => by
        have hkj : k = j := by
         rcases Nat.decEq k j with hne | he'
         · exact absurd hd (tempsB_spec hR.temps hj hk (fun e => hne e.symm) hdk).1
         · exact he'
        subst hkj
        have := hcl k oj hoj hl e he hb
        rw [hon, hun] at this; cases this
       have q2 : ∀ j, j < i → dstAt all j ≠ some t := fun k hk hdk => absurd hd (tempsB_spec hR.temps hj (show k < n by omega) (by omega) hdk).1
       rw [if_neg q1, hR.stay i (by omega) t q2]
     · have hw := h1 hgt
       obtain ⟨oi, hoi, e, he, hb, hon⟩ := Region.waitsFor_spec hw
       rw [ho] at hoi; cases hoi
       have hl := hrd e he hb
       rw [hon] at hl
       rw [if_pos ⟨j, hj, hl, hd⟩, hR.keep hd n hj (Nat.le_refl _), ← hR.keep hd i hgt (by omega)]
 · have q1 : ¬ ∃ j, j < n ∧ listed.getD j false = true ∧ dstAt all j = some t := fun ⟨k, hk, _, hdk⟩ => hex ⟨k, hk, hdk⟩
   have q2 : ∀ j, j < i → dstAt all j ≠ some t := fun k hk hdk => hex ⟨k, by omega, hdk⟩
   rw [if_neg q1, hR.stay i (by omega) t q2]
theorem RoadQ.tmD_set {listed : Array Bool} {i : Nat} {o : Oper} (hi : i < n) (his : i < listed.size) (ho : all[i]? = some o) (hun : listed.getD i false = false) :
 tmD all n s (listed.setIfInBounds i true) = fun t => if o.dst = some t then (s n).tm t else tmD all n s listed t := by
 funext t
 have hdi : dstAt all i = o.dst := by simp [dstAt, ho]
 unfold tmD
 by_cases hd : o.dst = some t
 · rw [if_pos hd, if_pos ⟨i, hi, (getD_set his).2 (.inl rfl), by rw [hdi, hd]⟩]
 · rw [if_neg hd]
   by_cases h1 : ∃ j, j < n ∧ listed.getD j false = true ∧ dstAt all j = some t
   · obtain ⟨j, h2, h3, h4⟩ := h1
     rw [if_pos ⟨j, h2, (getD_set his).2 (.inr h3), h4⟩, if_pos ⟨j, h2, h3, h4⟩]
   · rw [if_neg h1, if_neg]
     rintro ⟨j, h2, h3, h4⟩
     rcases (getD_set his).1 h3 with e | e
     · subst e; rw [hdi] at h4; exact hd h4
     · exact h1 ⟨j, h2, e, h4⟩
theorem RoadQ.one (hj : JJ P w0 gr) {Q : Exit → Act → World → Prop} {listed : Array Bool} {a : Act} {w : World} (hsz : listed.size = all.size)
 (hcl : ∀ j oj, all[j]? = some oj → listed.getD j false = true → ∀ e ∈ oj.after, Region.binds .any e = true → listed.getD e.on false = true)
 (hI : InvDQ P all n base ks s gb w0 gr ok0 listed a w) {i : Nat} (hi : i < n) (hr : i ∈ Region.ready .any all listed) :
 wpOp P all Q i (InvDQ P all n base ks s gb w0 gr ok0 (listed.setIfInBounds i true)) a w := by
 obtain ⟨hunT, o, ho, hrd⟩ := mem_ready.1 hr
 have hun := getD_both hunT
 have his : i < listed.size := by rw [hsz]; exact (Array.getElem?_eq_some_iff.1 ho).1
 obtain ⟨o', ho', hd, hact⟩ := hR.step i hi
 rw [ho] at ho'; cases ho'
 obtain ⟨g, ok, obD, hrep, hob, hgn, hkl⟩ := hI
 have hnn := hR.nn i (by omega)
 rw [hnn.1] at hd
 have hag : ∀ t, t ∈ readsOf all o → tmD all n s listed t = (s i).tm t := fun t ht => hR.agree hi ho hun hcl hrd ht
 have hdi : dstAt all i = o.dst := by simp [dstAt, ho]
 -- the value that the road leaves in the slot is the last one
 have hlast : ∀ t, o.dst = some t → (s n).tm t = (s (i + 1)).tm t := fun t ht => hR.keep (j := i) (by rw [hdi, ht]) n hi (Nat.le_refl _)
 have hev : ∀ x ∈ o.op.operands, (s i).ev x = St.ev ⟨tmD all n s listed, obD, base + n, (s 0).n⟩ x := fun x hx => by
  cases x with
  | tmp t =>
    refine (hag t ?_).symm
    unfold readsOf
    refine List.mem_append.2 (.inl ?_)
    refine List.mem_filterMap.2 ⟨.tmp t, by simpa using hx, rfl⟩
  | const v => rfl
  | func f => rfl
  | global _ => rfl
 have hnone : g (base + i) = none := hgn i hi hun
 have hlst : ∀ j G, j < n → g (base + j) = some G → listed.getD j false = true := fun j G hj hg => by
  cases hl : listed.getD j false
  · rw [hgn j hj hl] at hg; cases hg
  · rfl
 have hch : ChQ n base ks listed i := fun m ht i' hi' ht' => by
  by_cases hmb : base ≤ m
  · have := ksq_one hR.kok hmb ht ht'
    exact ⟨fun h => by omega, fun h => by omega⟩
  · refine ⟨fun h => rch_ready hcl ho hrd 3 i' (ksq_ch hR.kok (by omega) ht' ht h), fun h => ?_⟩
    cases hl : listed.getD i' false
    · rfl
    · have := rch_spec hcl 3 i' i (ksq_ch hR.kok (by omega) ht ht' h) hl
      rw [hun] at this; cases this
 -- an object that lies there on the road lies there now, if nothing touches it but this
 have hlkI : ∀ m mo G, look (s i).ob m = some mo → g m = some G → (tchB ks base i m = true ∨ ∀ i', tchB ks base i' m = false) → CrdK n base listed m ∧ look obD m = some mo := fun m mo G hm hg hk => by
  have hc : CrdK n base listed m ∧ (m < base ∨ ∃ j, j < i ∧ m = base + j) := by
   by_cases hb : m < base
   · exact ⟨.inl hb, .inl hb⟩
   · obtain ⟨j, rfl⟩ : ∃ j, m = base + j := ⟨m - base, by omega⟩
     have hji : j < i := by
      rcases Nat.lt_or_ge j i with h | h
      · exact h
      · rw [hR.up i (by omega) j h] at hm; cases hm
     exact ⟨.inr ⟨j, by omega, hlst j G (by omega) hg, rfl⟩, .inr ⟨j, hji, rfl⟩⟩
  rcases hk with ht | hk
  · exact ⟨hc.1, (hR.now hi hun hch hob ht mo).2 ⟨hc.1, hm⟩⟩
  · have hat := hR.atVal hi hc.2 fun k hk' => hk k
    exact ⟨hc.1, (hob m mo).2 ⟨hc.1, .inr ⟨fun i' _ h => (by rw [hk i'] at h; cases h), by rw [← hat]; exact hm⟩⟩⟩
 have hvis : ∀ m mo G, look (visO ks base (s i).ob) m = some mo → g m = some G → look obD m = some mo := fun m mo G hm hg => by
  obtain ⟨h1, h2⟩ := look_visO hm
  exact (hlkI m mo G h1 hg (.inr fun i' => by
   cases h : tchB ks base i' m
   · rfl
   · rw [tch_hid h] at h2; cases h2)).2
 have hobr : ∀ m mo G, look (visO ks base (s i).ob) m = some mo → g m = some G → MRel w ok g G mo := fun m mo G hm hg => hrep.obr m mo G (hvis m mo G hm hg) hg
 have hobrI : ∀ m mo G, look (visI rd ks base i (s i).ob) m = some mo → g m = some G → MRel w ok g G mo := fun m mo G hm hg => by
  obtain ⟨h1, h2⟩ := look_visI hm
  rcases h2 with h2 | h2 | h2
  · exact hrep.obr m mo G (hlkI m mo G h1 hg (.inr fun i' => by
     cases h : tchB ks base i' m
     · rfl
     · rw [tch_hid h] at h2; cases h2)).2 hg
  · exact hrep.obr m mo G (hlkI m mo G h1 hg (.inl h2)).2 hg
  · obtain ⟨hb, hq⟩ := rdq_spec hR.rok h2
    have hcm : ∀ i', i' < n → tchB ks base i' m = true → (i' < i → listed.getD i' false = true) ∧ (i < i' → listed.getD i' false = false) := fun i' hi' ht' => by
     rcases hq i' ht' with ⟨q1, q2⟩ | ⟨q1, q2⟩
     · exact ⟨fun _ => rch_ready hcl ho hrd 3 i' q2, fun h => by omega⟩
     · refine ⟨fun h => by omega, fun _ => ?_⟩
       cases hl : listed.getD i' false
       · rfl
       · have := rch_spec hcl 3 i' i q2 hl
         rw [hun] at this; cases this
    exact hrep.obr m mo G ((hR.nowR hi hun hcm (.inl hb) hob mo).2 ⟨.inl hb, h1⟩) hg
 have fin : ∀ (r : AV) (v : Value) (w' : World) (ok : Nat → Prop) (g' : Nat → Option Gh) (obD' : List (Nat × MO)) (cr : Option MO) (tc : Option (Nat × Option MO)), (∀ t, o.dst = some t → (s (i + 1)).tm t = r) → effK (base + i) cr tc (s i).ob (s (i + 1)).ob → effK (base + i) cr tc obD obD' →
  (∀ m v, tc = some (m, v) → look (s i).ob m ≠ none ∧ tchB ks base i m = true ∧ CrdK n base listed m) → (∀ k, k ≠ base + i → g' k = g k) →
  Rep gb w0 gr ok0 ⟨tmD all n s listed, obD', base + n, (s 0).n⟩ g' ok a w' → RV w' ok g' r v → InvDQ P all n base ks s gb w0 gr ok0 (listed.setIfInBounds i true) (a.put o.dst v) w' := by
  intro r v w' ok g' obD' cr tc hr1 he hD htc hg' hadd hv
  have hput := hadd.put (d := o.dst) hd hv
  have e : (St.put ⟨tmD all n s listed, obD', base + n, (s 0).n⟩ o.dst r) = ⟨tmD all n s (listed.setIfInBounds i true), obD', base + n, (s 0).n⟩ := by
   rw [hR.tmD_set hi his ho hun]
   cases hdd : o.dst with
   | none => simp [St.put]
   | some d =>
     simp only [St.put]
     congr 1
     funext t
     cases hb : Nat.beq t d
     · have : ¬ d = t := fun e => by subst e; simp at hb
       simp [this]
     · have := Nat.eq_of_beq_eq_true hb
       subst this
       simp only [cond_true, if_true]
       rw [hlast t hdd, hr1 t hdd]
  rw [e] at hput
  refine ⟨g', ok, _, hput, hR.live_step hi his hun hob hkl he hD hch htc, fun j hj hl => ?_, fun i' m hi' hl hm hne => ?_⟩
  · have hji : j ≠ i := fun e' => by
     subst e'
     rw [(getD_set his).2 (.inl rfl)] at hl; cases hl
    rw [hg' _ (by omega)]
    refine hgn j hj ?_
    cases h' : listed.getD j false
    · rfl
    · rw [(getD_set his).2 (.inr h')] at hl; cases hl
  · rcases (getD_set his).1 hl with e' | e'
    · subst e'
      refine CrdK.set his ?_
      rw [he m, if_neg (fun e => hm e.1)] at hne
      cases tc with
      | none => exact absurd rfl hne
      | some q =>
        obtain ⟨m', v⟩ := q
        simp only at hne
        by_cases e : m = m'
        · subst e; exact (htc m v rfl).2.2
        · rw [if_neg e] at hne; exact absurd rfl hne
    · exact CrdK.set his (hkl i' m hi' e' hm hne)
 have hwant : ∀ b, wantedS all (s i) o = some b → Region.wanted o (yielded all a.tmps) = b := by
  intro b hb
  unfold wantedS at hb
  split at hb
  · rename_i hg0; cases hb; simp [Region.wanted, hg0]
  · rename_i j want hg0
    split at hb
    · rename_i t hj
      split at hb
      · rename_i ht
        rw [hnn.1] at ht
        have htn : t < a.tmps.size := by rw [hrep.n]; exact Nat.le_of_ble_eq_true ht
        have hy := yielded_of (a := a) hj htn
        have hmem : t ∈ readsOf all o := by
         unfold readsOf
         refine List.mem_append.2 (.inr ?_)
         simp [hg0, hj]
        have hv := hrep.tm t
        have : tmD all n s listed t = (s i).tm t := hag t hmem
        simp only [this] at hv
        split at hb
        · rename_i c hc
          rw [hc] at hv
          simp only [RV] at hv
          rw [hv] at hy
          cases hb
          simp [Region.wanted, hg0, hy]
        · rename_i hc
          rw [hc] at hv
          simp only [RV] at hv
          rw [hv] at hy
          cases hb
          simp [Region.wanted, hg0, hy, Go.undef]
        · cases hb
      · cases hb
    · cases hb
 have hputob : ∀ (x : St) (r : AV), (x.put o.dst r).ob = x.ob := fun x r => by cases o.dst <;> rfl
 have hputtm : ∀ (x : St) (r : AV) t, o.dst = some t → (x.put o.dst r).tm t = r := fun x r t ht => by rw [ht]; show (bif Nat.beq t t then r else _) = _; simp
 unfold wpOp
 rw [ho]
 rcases hact with ⟨hw, he⟩ | ⟨hw, hp⟩
 · simp only [hwant _ hw, Bool.false_eq_true, if_false]
   exact fin .undef Go.undef w ok g obD none none (fun t ht => by rw [he]; exact hputtm _ _ t ht) (by rw [he, hputob]; exact effK.same) effK.same (fun _ _ e => by cases e) (fun _ _ => rfl) hrep rfl
 · simp only [hwant _ hw, if_true]
   left
   generalize hsi : s (i + 1) = si1 at hp
   cases hp with
   | pas p hpas hpre =>
     rw [pas_congr hev] at hpas
     have hdoes := pas_does (o := o) (a := a) (nm := base + i) (fun b hb => (hrep.obs.okb b hb).1) hnone hrep.ev hobrI hpas hpre
     unfold Does at hdoes
     unfold Oper.wp
     cases hmo : p.mo with
     | none =>
       rw [hmo] at hsi
       simp only [hmo] at hdoes
       obtain ⟨v, hrun, hv⟩ := hdoes
       rw [hrun, Oper.upon_value]
       exact fin p.r v w ok g obD none none (fun t ht => by rw [hsi]; exact hputtm _ _ t ht) (by rw [hsi]; simp only; rw [hputob]; exact effK.same) effK.same (fun _ _ e => by cases e) (fun _ _ => rfl) hrep hv
     | some mo =>
       rw [hmo] at hsi
       simp only [hmo] at hdoes
       obtain ⟨v, obj, G, hrun, hG, hm, hv⟩ := hdoes
       rw [hrun, Oper.upon_value]
       have hadd := hrep.addAt (nm := base + i) (nx := base + n) hnone (by omega) (Nat.le_refl _) hG hm
       exact fin p.r v _ ok _ ((base + i, mo) :: obD) (some mo) none (fun t ht => by rw [hsi]; exact hputtm _ _ t ht) (by rw [hsi]; simp only; rw [hputob]; exact effK.add) effK.add (fun _ _ e => by cases e) (fun k hk => gset_other hk) hadd hv
   | app x y t tx out hop hx hy hap hpre =>
     have hex : (s i).ev x = St.ev ⟨tmD all n s listed, obD, base + n, (s 0).n⟩ x := hev x (by rw [hop]; simp [Op.operands, Call.operands])
     have hey : (s i).ev y = St.ev ⟨tmD all n s listed, obD, base + n, (s 0).n⟩ y := hev y (by rw [hop]; simp [Op.operands, Call.operands])
     have hxv := hrep.ev x
     have hyv := hrep.ev y
     rw [← hex] at hxv
     rw [← hey] at hyv
     obtain ⟨mo0, mm0, _, _, e0⟩ := appAVn_at (nx2 := 0) (st2 := s i) hap (fun _ => rfl) rfl
     -- what is given up is this operation's to give up
     have hown : ∀ m, (s i).ev x = .osl m → look (s i).ob m ≠ none → tchB ks base i m = true ∧ CrdK n base listed m ∧ look obD m = look (s i).ob m := fun m em hl => by
      rw [em] at hx hxv
      obtain ⟨G, hG, _⟩ := hxv
      have ht : tchB ks base i m = true := hx
      cases hlk : look (s i).ob m with
      | none => exact absurd hlk hl
      | some mo =>
        obtain ⟨h1, h2⟩ := hlkI m mo G hlk hG (.inl ht)
        exact ⟨ht, h1, h2⟩
     have hdst : ∀ e, dstAV P ⟨tmD all n s listed, obD, base + n, (s 0).n⟩ e ((s i).ev x) = dstAV P (s i) e ((s i).ev x) := fun e => by
      rcases e0 with ⟨m, em, _, hl⟩ | ⟨em, _⟩
      · obtain ⟨_, _, h4⟩ := hown m em hl
        rw [em]; simp only [dstAV, h4]
      · rw [em]; rfl
     have hsrc : srcAV P ⟨tmD all n s listed, obD, base + n, (s 0).n⟩ tx ((s i).ev y) = srcAV P (s i) tx ((s i).ev y) := by
      cases hyy : (s i).ev y with
      | osl m =>
        rw [hyy] at hy hyv
        obtain ⟨G, hG, _⟩ := hyv
        have hnh : hidB ks base m = false := by simpa using (show (!hidB ks base m) = true from hy)
        have hlk : ∀ mo, look (s i).ob m = some mo → look obD m = some mo := fun mo hm => (hlkI m mo G hm hG (.inr fun i' => by
         cases h : tchB ks base i' m
         · rfl
         · rw [tch_hid h] at hnh; cases hnh)).2
        cases hm : look (s i).ob m with
        | some mo => unfold srcAV; simp only [rowsOf, hlk mo hm, hm]
        | none =>
          exfalso
          unfold appAVn at hap
          simp only [fN_eq] at hap
          split at hap
          · split at hap
            · rename_i h1 h2 h3
              rw [hyy] at h3
              unfold srcAV at h3
              simp only [rowsOf, hm] at h3
              split at h3 <;> cases h3
            · cases hap
          · cases hap
      | vw a1 a2 a3 a4 => rw [hyy] at hy; cases hy
      | _ => rfl
     obtain ⟨mo, mm, e1, ⟨out2, e2, e3, e4⟩, e5⟩ := appAVn_at (nx2 := base + n) (st2 := ⟨tmD all n s listed, obD, base + n, (s 0).n⟩) hap hdst hsrc
     rw [hex, hey] at e2
     obtain ⟨v, w', g', hrun, hrep', hv, hg'⟩ := append_repN hrep hnone (show base + i < base + n by omega) (Nat.le_refl _) hop e2 (e3 hpre)
     rw [e4] at hrep'
     unfold Oper.wp
     rw [hrun, Oper.upon_value]
     rcases e5 with ⟨m', em', e6, hl⟩ | ⟨_, e6⟩
     · subst e6
       obtain ⟨h1, h2, _⟩ := hown m' em' hl
       exact fin (.osl (base + i)) v w' ok g' _ (some mo) (some (m', none)) (fun t ht => by rw [hsi]; exact hputtm _ _ t ht) (by rw [hsi, hputob]; simp only; rw [e1]; exact effK.del) effK.del (fun m v e => by cases e; exact ⟨hl, h1, h2⟩) hg' hrep' hv
     · subst e6
       exact fin (.osl (base + i)) v w' ok g' _ (some mo) none (fun t ht => by rw [hsi]; exact hputtm _ _ t ht) (by rw [hsi, hputob]; simp only; rw [e1]; exact effK.add) effK.add (fun _ _ e => by cases e) hg' hrep' hv
   | call f args tys F xs ys r hop hf hcall =>
     have hfev : St.ev ⟨tmD all n s listed, obD, base + n, (s 0).n⟩ f = .fn (.func F) xs ys := by
      rw [← hev f (by rw [hop]; simp [Op.operands, Call.operands])]; exact hf
     have hargs : ∀ x ∈ args.toList, (s i).ev x = St.ev ⟨tmD all n s listed, obD, base + n, (s 0).n⟩ x := fun x hx => hev x (by rw [hop]; simp [Op.operands, Call.operands]; exact .inr (by simpa using hx))
     have hmap : args.toList.map (s i).ev = args.toList.map (St.ev ⟨tmD all n s listed, obD, base + n, (s 0).n⟩) := List.map_congr_left hargs
     rw [hmap] at hcall
     have hfv := hrep.ev f
     rw [hfev] at hfv
     obtain ⟨us, vs, hv, h1, h2⟩ := hfv
     have hargsR := h1.append ((RVs_map hrep.ev args.toList).append h2)
     have eargs : (us.toArray ++ args.map a.eval ++ vs.toArray) = (us ++ (args.toList.map a.eval ++ vs)).toArray := by
      apply Array.ext'; simp
     have hen : Enters P F := by rcases hcall with ⟨h, _⟩ | ⟨h, _⟩ <;> exact h.1
     have hrun : (execOp a.eval o).run P w = .ok (.enter F (us ++ (args.toList.map a.eval ++ vs)).toArray) w := by
      rw [← eargs]
      simp [execOp, hop, resolve, hv, Deferred.ofValue, invoke, hen _ w]
     unfold Oper.wp
     rw [hrun, Oper.upon_enter]
     have fin0 : ∀ (v : Value) (w' : World) (ok' : Nat → Prop), Rep gb w0 gr ok0 ⟨tmD all n s listed, obD, base + n, (s 0).n⟩ g ok' a w' → RV w' ok' g r v → InvDQ P all n base ks s gb w0 gr ok0 (listed.setIfInBounds i true) (a.put o.dst v) w' := fun v w' ok' hr' hv' =>
      fin r v w' ok' g obD none none (fun t ht => by rw [hsi]; exact hputtm _ _ t ht) (by rw [hsi, hputob]; exact effK.same) effK.same (fun _ _ e => by cases e) (fun _ _ => rfl) hr' hv'
     rcases hcall with ⟨hV, hsc⟩ | ⟨hV, hnl⟩
     · have hx := RVs.fz (ok' := fun b => b < w.heap.size) (g' := G0) (keep := fun _ => none) (fun b hb => (hrep.obs.okb b hb).1) (fun _ _ _ e => by cases e) hobr (fun m mo G b _ hm hg hb => hrep.obs.lt m mo G b (hvis m mo G hm hg) hg hb) _ _ hargsR
       refine (hV.2 w _ _ (hj.now hrep.frm) (fun b hb => hb) hx).mono ?_
       rintro e w' ⟨v, rfl, hfm, hv⟩
       exact fin0 v w' ok (hfm.grow hrep) (RV.sca r v hsc hv)
     · refine (hV.2 w ok _ (hj.now hrep.frm) (fun b hb => (hrep.obs.okb b hb).1) (RVs.nl _ _ hnl hargsR)).mono ?_
       rintro e w' ⟨v, rfl, hfm, hv⟩
       have h1 := hfm.grow hrep
       have h2 := h1.okmore (ok' := fun b => ok b ∨ (w.heap.size ≤ b ∧ b < w'.heap.size)) (fun _ h => .inl h) (fun b hb => by
        rcases hb with hb | hb
        · exact h1.obs.okb b hb
        · exact ⟨hb.2, fun m mo G hm hg e => by have := hrep.obs.lt m mo G b hm hg e; omega⟩) (fun b hb => by
        rcases hb with hb | hb
        · exact hrep.okf b hb
        · exact .inr (.inr (Nat.le_trans hrep.frm.size hb.1)))
       exact fin0 v w' _ h2 (RV.mono (fun _ h => h) (fun _ _ => rfl) G0 g (fun _ _ e => by cases e) r v hv)
   | ownc f args tys F xs ys r mo hop hf hcall =>
     have hfev : St.ev ⟨tmD all n s listed, obD, base + n, (s 0).n⟩ f = .fn (.func F) xs ys := by
      rw [← hev f (by rw [hop]; simp [Op.operands, Call.operands])]; exact hf
     have hargs : ∀ x ∈ args.toList, (s i).ev x = St.ev ⟨tmD all n s listed, obD, base + n, (s 0).n⟩ x := fun x hx => hev x (by rw [hop]; simp [Op.operands, Call.operands]; exact .inr (by simpa using hx))
     have hmap : args.toList.map (s i).ev = args.toList.map (St.ev ⟨tmD all n s listed, obD, base + n, (s 0).n⟩) := List.map_congr_left hargs
     rw [hmap] at hcall
     have hfv := hrep.ev f
     rw [hfev] at hfv
     obtain ⟨us, vs, hv, h1, h2⟩ := hfv
     have hargsR := h1.append ((RVs_map hrep.ev args.toList).append h2)
     have eargs : (us.toArray ++ args.map a.eval ++ vs.toArray) = (us ++ (args.toList.map a.eval ++ vs)).toArray := by
      apply Array.ext'; simp
     obtain ⟨hen, hcall⟩ := hcall
     have hrun : (execOp a.eval o).run P w = .ok (.enter F (us ++ (args.toList.map a.eval ++ vs)).toArray) w := by
      rw [← eargs]
      simp [execOp, hop, resolve, hv, Deferred.ofValue, invoke, hen _ w]
     unfold Oper.wp
     rw [hrun, Oper.upon_enter]
     have hx := RVs.fz (ok' := fun b => b < w.heap.size) (g' := G0) (keep := fun _ => none) (fun b hb => (hrep.obs.okb b hb).1) (fun _ _ _ e => by cases e) hobr (fun m mo G b _ hm hg hb => hrep.obs.lt m mo G b (hvis m mo G hm hg) hg hb) _ _ hargsR
     refine (hcall w _ _ (hj.now hrep.frm) (fun b hb => hb) hx).mono ?_
     rintro e w' ⟨v, G, rfl, hfm, hGb, hrel⟩
     obtain ⟨hm, hv⟩ := hrel ok g
     exact fin r v w' ok _ ((base + i, mo) :: obD) (some mo) none (fun t ht => by rw [hsi]; exact hputtm _ _ t ht) (by rw [hsi]; rw [hputob]; exact effK.add) effK.add (fun _ _ e => by cases e) (fun k hk => gset_other hk) (hrep.addNew (nm := base + i) (nx := base + n) hnone (by omega) (Nat.le_refl _) hfm hGb hm) hv
   | newc f args tys F xs ys c hop hf hc =>
     have hfev : St.ev ⟨tmD all n s listed, obD, base + n, (s 0).n⟩ f = .fn (.func F) xs ys := by
      rw [← hev f (by rw [hop]; simp [Op.operands, Call.operands])]; exact hf
     have hargs : ∀ x ∈ args.toList, (s i).ev x = St.ev ⟨tmD all n s listed, obD, base + n, (s 0).n⟩ x := fun x hx => hev x (by rw [hop]; simp [Op.operands, Call.operands]; exact .inr (by simpa using hx))
     have hmap : args.toList.map (s i).ev = args.toList.map (St.ev ⟨tmD all n s listed, obD, base + n, (s 0).n⟩) := List.map_congr_left hargs
     rw [hmap] at hc
     have hfv := hrep.ev f
     rw [hfev] at hfv
     obtain ⟨us, vs, hv, h1, h2⟩ := hfv
     have hargsR := h1.append ((RVs_map hrep.ev args.toList).append h2)
     have eargs : (us.toArray ++ args.map a.eval ++ vs.toArray) = (us ++ (args.toList.map a.eval ++ vs)).toArray := by
      apply Array.ext'; simp
     have hen : Enters P F := hc.1.1
     have hrun : (execOp a.eval o).run P w = .ok (.enter F (us ++ (args.toList.map a.eval ++ vs)).toArray) w := by
      rw [← eargs]
      simp [execOp, hop, resolve, hv, Deferred.ofValue, invoke, hen _ w]
     unfold Oper.wp
     rw [hrun, Oper.upon_enter]
     refine (callN (nm := base + i) (nx := base + n) hc hnone (by omega) (Nat.le_refl _) hj hrep hargsR).mono ?_
     rintro e w' ⟨v, ok', G, rfl, hrep', hv'⟩
     exact fin (.bptr (base + i) 0) v w' ok' _ ((base + i, .box c) :: obD) (some (.box c)) none (fun t ht => by rw [hsi]; exact hputtm _ _ t ht) (by rw [hsi]; rw [hputob]; exact effK.add) effK.add (fun _ _ e => by cases e) (fun k hk => gset_other hk) hrep' hv'
   | callm f args tys F xs ys m rest mo mo' r hop hf hl hc hm ht =>
     have hfev : St.ev ⟨tmD all n s listed, obD, base + n, (s 0).n⟩ f = .fn (.func F) xs ys := by
      rw [← hev f (by rw [hop]; simp [Op.operands, Call.operands])]; exact hf
     have hargs : ∀ x ∈ args.toList, (s i).ev x = St.ev ⟨tmD all n s listed, obD, base + n, (s 0).n⟩ x := fun x hx => hev x (by rw [hop]; simp [Op.operands, Call.operands]; exact .inr (by simpa using hx))
     have hmap : args.toList.map (s i).ev = args.toList.map (St.ev ⟨tmD all n s listed, obD, base + n, (s 0).n⟩) := List.map_congr_left hargs
     rw [hmap] at hl
     have hfv := hrep.ev f
     rw [hfev] at hfv
     obtain ⟨us, vs, hv, h1, h2⟩ := hfv
     have hargsR := h1.append ((RVs_map hrep.ev args.toList).append h2)
     rw [hl] at hargsR
     have eargs : (us.toArray ++ args.map a.eval ++ vs.toArray) = (us ++ (args.toList.map a.eval ++ vs)).toArray := by
      apply Array.ext'; simp
     have hen : Enters P F := hc.1.1
     have hrun : (execOp a.eval o).run P w = .ok (.enter F (us ++ (args.toList.map a.eval ++ vs)).toArray) w := by
      rw [← eargs]
      simp [execOp, hop, resolve, hv, Deferred.ofValue, invoke, hen _ w]
     unfold Oper.wp
     rw [hrun, Oper.upon_enter]
     have hgm : ∃ G, g m = some G := by
      obtain ⟨_, _, _, ⟨G, _, hG, _, _⟩, _⟩ := hargsR
      exact ⟨G, hG⟩
     obtain ⟨G, hG⟩ := hgm
     obtain ⟨q1, q2⟩ := hlkI m mo G hm hG (.inl ht)
     refine (call1 hc hj hrep q2 hargsR).mono ?_
     rintro e w' ⟨v, ok', rfl, hrep', hv'⟩
     exact fin r v w' ok' g _ none (some (m, some mo')) (fun t ht => by rw [hsi]; exact hputtm _ _ t ht) (by rw [hsi, hputob]; exact effK.upd hm) (effK.upd q2) (fun m v e => by cases e; exact ⟨by rw [hm]; simp, ht, q1⟩) (fun _ _ => rfl) hrep' hv'
   | store t x y st1 hop hx hst =>
     have hex : (s i).ev x = St.ev ⟨tmD all n s listed, obD, base + n, (s 0).n⟩ x := hev x (by rw [hop]; simp [Op.operands])
     have hey : (s i).ev y = St.ev ⟨tmD all n s listed, obD, base + n, (s 0).n⟩ y := hev y (by rw [hop]; simp [Op.operands])
     have hxv := hrep.ev x
     rw [← hex] at hxv
     cases hxx : (s i).ev x with
     | bptr m off =>
       rw [hxx] at hx hst hxv
       have ht : tchB ks base i m = true := hx
       obtain ⟨G, _, hG, _, _⟩ := hxv
       obtain ⟨cs, l, hl, e1, hall⟩ := stAV_box hst
       obtain ⟨h1, h2⟩ := hlkI m _ G hl hG (.inl ht)
       have hst2 := hall ⟨tmD all n s listed, obD, base + n, (s 0).n⟩ h2
       rw [← hxx, hex, hey] at hst2
       obtain ⟨w', hrun, hrep'⟩ := store_rep hrep hop hst2
       unfold Oper.wp
       rw [hrun, Oper.upon_skip]
       exact fin .any _ w' ok g _ none (some (m, some (.box l))) (fun t ht => by rw [hsi]; exact hputtm _ _ t ht) (by rw [hsi, hputob]; simp only; rw [e1]; exact effK.upd hl) (effK.upd h2) (fun m v e => by cases e; exact ⟨by rw [hl]; simp, ht, h1⟩) (fun _ _ => rfl) hrep' trivial
     | aptr m sz k off =>
       rw [hxx] at hx hst hxv
       have ht : tchB ks base i m = true := hx
       obtain ⟨G, _, hG, _, _⟩ := hxv
       obtain ⟨mo, mo', hl, e1, hall⟩ := stAV_arr hst
       obtain ⟨h1, h2⟩ := hlkI m _ G hl hG (.inl ht)
       have hst2 := hall ⟨tmD all n s listed, obD, base + n, (s 0).n⟩ h2
       rw [← hxx, hex, hey] at hst2
       obtain ⟨w', hrun, hrep'⟩ := store_rep hrep hop hst2
       unfold Oper.wp
       rw [hrun, Oper.upon_skip]
       exact fin .any _ w' ok g _ none (some (m, some mo')) (fun t ht => by rw [hsi]; exact hputtm _ _ t ht) (by rw [hsi, hputob]; simp only; rw [e1]; exact effK.upd hl) (effK.upd h2) (fun m v e => by cases e; exact ⟨by rw [hl]; simp, ht, h1⟩) (fun _ _ => rfl) hrep' trivial
     | _ => rw [hxx] at hx; cases hx
omit hR in
theorem head_goQ (hj : JJ P w0 gr) {Q : Exit → Act → World → Prop} (hR : RoadQ P all n base rd ks s) (hn : n ≤ all.size) (hend : n = all.size ∨ (Region.sinkB .any all n = true ∧ Region.chainB .any all n = true)) {g : Nat}
 (hdone : ∀ listed a w, HeadInv .any all n listed → (∀ i, i < n → listed.getD i true = true) → InvDQ P all n base ks s gb w0 gr ok0 listed a w → wpAny P .any all Q g listed a w) :
 ∀ (f : Nat) (listed : Array Bool) (a : Act) (w : World), HeadInv .any all n listed → (List.range n).countP (fun i => !listed.getD i true) = f → InvDQ P all n base ks s gb w0 gr ok0 listed a w →
   wpAny P .any all Q (f + g) listed a w
 | 0, listed, a, w, hh, hc, hI => by
   rw [Nat.zero_add]
   refine hdone listed a w hh (fun i hi => ?_) hI
   have := (List.countP_eq_zero.1 hc) i (List.mem_range.2 hi)
   simpa using this
 | f + 1, listed, a, w, hh, hc, hI => by
   rw [show f + 1 + g = (f + g) + 1 by omega]
   have hex : ∃ i, i < n ∧ listed.getD i true = false := by
    have : 0 < (List.range n).countP (fun i => !listed.getD i true) := by omega
    obtain ⟨i, hi, hp⟩ := List.countP_pos_iff.1 this
    exact ⟨i, List.mem_range.1 hi, by simpa using hp⟩
   have hlt : ∀ j, j ∈ Region.ready .any all listed → j < n := fun j hj => by
    rcases Nat.lt_or_ge j n with h | h
    · exact h
    · obtain ⟨i, hi, hun⟩ := hex
      rcases hend with e | ⟨h1, h2⟩
      · obtain ⟨_, o, ho, _⟩ := mem_ready.1 hj
        have := (Array.getElem?_eq_some_iff.1 ho).1
        omega
      · rcases Nat.lt_or_ge n all.size with h3 | h3
        · exact absurd hj (tail_waits h1 h2 h3 hh _ i rfl hi hun j h)
        · obtain ⟨_, o, ho, _⟩ := mem_ready.1 hj
          have := (Array.getElem?_eq_some_iff.1 ho).1
          omega
   have hne : Region.ready .any all listed ≠ [] := by
    have : ∀ d i, i = d → i < n → listed.getD i true = false → ∃ j, j ∈ Region.ready .any all listed := by
     intro d
     induction d using Nat.strongRecOn with
     | _ d ih =>
       intro i hd hi hun
       have hb := List.all_eq_true.1 hR.back i (List.mem_range.2 hi)
       cases ho : all[i]? with
       | none => rw [ho] at hb; cases hb
       | some o =>
         rw [ho] at hb
         by_cases hall : ∀ e ∈ o.after, Region.binds .any e = true → listed.getD e.on false = true
         · exact ⟨i, mem_ready.2 ⟨hun, o, ho, hall⟩⟩
         · have : ∃ e, e ∈ o.after ∧ Region.binds .any e = true ∧ listed.getD e.on false = false := by
            refine Classical.byContradiction fun hno => hall fun e he hbd => ?_
            cases hl : listed.getD e.on false
            · exact absurd ⟨e, he, hbd, hl⟩ hno
            · rfl
           obtain ⟨e, he, hbd, hl⟩ := this
           have h4 : e.on < i := by
            have h5 := Array.all_eq_true_iff_forall_mem.1 hb e he
            simp [hbd] at h5
            exact h5
           exact ih e.on (by omega) e.on rfl (by omega) (getD_in (by rw [hh.size]; omega) hl)
    obtain ⟨i, hi, hun⟩ := hex
    obtain ⟨j, hj⟩ := this i i rfl hi hun
    exact List.ne_nil_of_mem hj
   refine ⟨fun h0 => absurd h0 hne, fun i hi => ?_⟩
   have hin := hlt i hi
   refine wpOp_mono (fun a' w' hI' => head_goQ hj hR hn hend hdone f _ a' w' (hh.set hi hin) ?_ hI') (hR.one hj hh.size hh.closed hI hin hi)
   have hun := (mem_ready.1 hi).1
   have his : i < listed.size := by
    obtain ⟨_, o, ho, _⟩ := mem_ready.1 hi
    rw [hh.size]; exact (Array.getElem?_eq_some_iff.1 ho).1
   have := countP_less (p := fun i => !listed.getD i true) (q := fun j => !(listed.setIfInBounds i true).getD j true) (List.range n) i List.nodup_range (List.mem_range.2 hin) (by simp only [hun]; rfl)
    (by simp [his]) (fun j _ hj => by rw [getD_true_set (fun e => hj e.symm)])
   omega
end
theorem DrawG.mkR {P : Program} [Tabs P] {nb : Nat} {ops : Array Oper} {st : St} {next : St → Prop} (n : Nat) (ks : Kn) (rd : Rn) (hm : P.follows .mixedOrders = true) (hc : drawOK ops n = true)
 (hks : ksQ ops st.next ks = true) (hrd : rdQ ops st.next ks rd = true) (h : ∃ st', PStepsQ P ops rd ks st.next 0 (ops.toList.take n) st st' ∧ exOps P ops (ops.toList.drop n) { st' with next := st.next + n } next) : DrawG P nb ops st next := by
 unfold DrawG
 intro id gb w0 gr ok0 g ok a w hgb hrep
 obtain ⟨st', hsteps, hnext⟩ := h
 obtain ⟨s, e1, e2, e3⟩ := PStepsQ.seq _ _ _ _ hsteps
 simp only [drawOK, Bool.and_eq_true, Bool.or_eq_true] at hc
 obtain ⟨⟨hle, htm⟩, hbk, hend, hseq⟩ := hc
 have hle' : n ≤ ops.size := Nat.le_of_ble_eq_true hle
 have hlen : (ops.toList.take n).length = n := by simp; omega
 rw [Nat.zero_add] at e2
 rw [hlen] at e2
 have hR : RoadQ P ops n st.next rd ks s := by
  refine ⟨fun k hk => ?_, htm, hbk, by rw [e1], fun m hm => ?_, hks, hrd⟩
  · have hks : k < ops.size := by omega
    have ho : (ops.toList.take n)[k]? = some ops[k] := by
     rw [List.getElem?_take, if_pos hk]; simp [hks]
    have := e3 k _ ho
    rw [Nat.zero_add] at this
    exact ⟨_, Array.getElem?_eq_getElem hks, this⟩
  · rw [e1]
    cases hl : look st.ob m with
    | none => rfl
    | some mo =>
      obtain ⟨G, hG, _⟩ := hrep.obs.rel m mo hl
      rw [hrep.fresh m hm] at hG; cases hG
 have hI0 : InvDQ P ops n st.next ks s gb w0 gr ok0 (Array.replicate ops.size false) a { w with drawn := w.drawn + 1 } := by
  have hr1 := hrep.drawn
  have htmD : tmD ops n s (Array.replicate ops.size false) = st.tm := by
   funext t
   unfold tmD
   rw [if_neg, e1]
   rintro ⟨j, _, hj, _⟩
   rw [getD_replicate_false] at hj; cases hj
  have hno : ∀ j, (Array.replicate ops.size false).getD j false = true → False := fun j h => by rw [getD_replicate_false] at h; cases h
  refine ⟨g, ok, st.ob, ?_, fun m mo => ?_, fun j hj _ => hrep.fresh _ (by omega), fun i m _ hl => (hno i hl).elim⟩
  · refine hr1.weak (fun t => ?_) (fun m mo hm => ⟨mo, hm, MOle.refl mo⟩) (by show st.next ≤ st.next + n; omega) (by show (s 0).n = st.n; rw [e1])
    show AVle (st.tm t) (tmD ops n s _ t)
    rw [htmD]; exact AVle.refl _
  · constructor
    · intro hm
      have hmb : m < st.next := by
       rcases Nat.lt_or_ge m st.next with h | h
       · exact h
       · have := hR.noob m h
         rw [e1, hm] at this; cases this
      refine ⟨.inl hmb, .inr ⟨fun i _ _ => getD_replicate_false _ _, ?_⟩⟩
      unfold valK; rw [if_pos hmb, e1]; exact hm
    · rintro ⟨hc, ⟨i, _, _, hl, _⟩ | ⟨_, h2⟩⟩
      · exact (hno i hl).elim
      · rcases hc with hc | ⟨j, _, hj, _⟩
        · unfold valK at h2; rw [if_pos hc, e1] at h2; exact h2
        · exact (hno j hj).elim
 refine wp_region_any hm ?_
 have hcount : (List.range n).countP (fun i => !(Array.replicate ops.size false).getD i true) = n := by
  rw [List.countP_eq_length.2]
  · simp
  · intro i hi
    have : i < ops.size := by have := List.mem_range.1 hi; omega
    simp [this]
 have hgo := head_goQ hgb.2 (g := ops.size - n) (Q := fun e a' w' => ∃ st' g' ok', Rep gb w0 gr ok0 st' g' ok' a' w' ∧ match e with | .normal => next st' | _ => False) hR hle'
  (by rcases hend with h | h
      · exact .inl (Nat.eq_of_beq_eq_true h)
      · exact .inr h) (fun listed a' w' hh hall hI => ?_) n (Array.replicate ops.size false) a { w with drawn := w.drawn + 1 }
  ⟨by simp, fun j oj _ hl => (by rw [getD_replicate_false] at hl; cases hl), fun t _ ht => (by simp [ht])⟩ hcount hI0
 · rw [show n + (ops.size - n) = ops.size by omega] at hgo
   exact hgo
 · have hlst := firstN_eq hh.size hall hh.tail hle'
   have hl2 : (ops.toList.drop n).length = ops.size - n := by simp
   have key := wpAny_of_seq (P := P) (md := .any) (ops := ops) (Q' := fun e a' w' => ∃ st' g' ok', Rep gb w0 gr ok0 st' g' ok' a' w' ∧ match e with | .normal => next st' | _ => False) (ops.toList.drop n) n listed a' w'
    (fun j => by simp [List.getElem?_drop]) (by rw [hl2, hlst]; exact hseq)
   rw [hl2] at key
   refine key ?_
   obtain ⟨g', ok', obD, hrep', h1, _⟩ := hI
   have hall' : ∀ j, j < n → listed.getD j false = true := fun j hj => by
    cases hl : listed.getD j false
    · have hjs : j < listed.size := by rw [hh.size]; omega
      have := hall j hj
      rw [getD_in hjs hl] at this; cases this
    · rfl
   have hrep2 : Rep gb w0 gr ok0 { s n with next := st.next + n } g' ok' a' w' := by
    refine hrep'.weak (fun t => ?_) (fun m mo hm => ?_) (Nat.le_refl _) (by have := (hR.nn n (Nat.le_refl _)).1; exact this)
    · show AVle (tmD ops n s listed t) ((s n).tm t)
      unfold tmD
      split
      · exact AVle.refl _
      · rename_i hne
        rw [hR.stay n (Nat.le_refl _) t fun j hj hd => hne ⟨j, hj, hall' j hj, hd⟩]; exact AVle.refl _
    · have hm' : look (s n).ob m = some mo := hm
      refine ⟨mo, (h1 m mo).2 ?_, MOle.refl mo⟩
      have hc : CrdK n st.next listed m ∧ (m < st.next ∨ ∃ j, j < n ∧ m = st.next + j) := by
       by_cases hb : m < st.next
       · exact ⟨.inl hb, .inl hb⟩
       · obtain ⟨j, rfl⟩ : ∃ j, m = st.next + j := ⟨m - st.next, by omega⟩
         have hjn : j < n := by
          rcases Nat.lt_or_ge j n with h | h
          · exact h
          · rw [hR.up n (Nat.le_refl _) j h] at hm'; cases hm'
         exact ⟨.inr ⟨j, hjn, hall' j hjn, rfl⟩, .inr ⟨j, hjn, rfl⟩⟩
      refine ⟨hc.1, ?_⟩
      by_cases hex : ∃ i, i < n ∧ tchB ks st.next i m = true
      · have hmax : ∃ i, (i < n ∧ tchB ks st.next i m = true) ∧ ∀ k, i < k → k < n → tchB ks st.next k m = false := by
         obtain ⟨i', h1, h2⟩ := hex
         have : ∀ d i', d = n - i' → i' < n → tchB ks st.next i' m = true → ∃ i, (i < n ∧ tchB ks st.next i m = true) ∧ ∀ k, i < k → k < n → tchB ks st.next k m = false := by
          intro d
          induction d using Nat.strongRecOn with
          | _ d ih =>
            intro i' hd q1 q2
            by_cases h' : ∃ k, i' < k ∧ k < n ∧ tchB ks st.next k m = true
            · obtain ⟨k, k1, k2, k3⟩ := h'
              exact ih (n - k) (by omega) k rfl k2 k3
            · exact ⟨i', ⟨q1, q2⟩, fun k k1 k2 => by
               cases hk : tchB ks st.next k m
               · rfl
               · exact absurd ⟨k, k1, k2, hk⟩ h'⟩
         exact this _ i' rfl h1 h2
        obtain ⟨i, ⟨hi, ht⟩, hlast⟩ := hmax
        exact .inl ⟨i, hi, ht, hall' i hi, fun k q1 q2 q3 => (by rw [hlast k q1 q2] at q3; cases q3), by rw [← hR.after ht n hi (Nat.le_refl _) hlast]; exact hm'⟩
      · have hnt : ∀ i, i < n → tchB ks st.next i m = false := fun i hi => by
         cases ht : tchB ks st.next i m
         · rfl
         · exact absurd ⟨i, hi, ht⟩ hex
        refine .inr ⟨fun i hi ht => absurd ⟨i, hi, ht⟩ hex, ?_⟩
        rcases hc.2 with hb | ⟨j, hj, rfl⟩
        · rw [← hR.valLow hb n (Nat.le_refl _) hnt]; exact hm'
        · rw [← hR.valNew n hj (Nat.le_refl _) hnt]; exact hm'
   rw [e2] at hrep2
   exact exOps_wp hgb.2 (ops.toList.drop n) hnext hrep2 fun st' g' ok' a' w' hr' hn => ⟨st', g', ok', hr', hn⟩
theorem DrawC.mkR {P : Program} [Tabs P] {nb : Nat} {ops : Array Oper} {cs : CSt} {next : CSt → Prop} (n : Nat) (ks : Kn) (rd : Rn) (hm : P.follows .mixedOrders = true) (hc : drawOK ops n = true)
 (h : fN cs.next fun base => (ksQ ops base ks = true ∧ rdQ ops base ks rd = true) ∧ exDCQ P ops rd ks base 0 (ops.toList.take n) cs fun cs' => cs'.obK cs'.ob (base + n) fun cs' => exOpsC P ops (ops.toList.drop n) cs' next) : DrawC P nb ops cs next := by
 unfold DrawC
 rw [fN_eq] at h
 obtain ⟨⟨hks, hrd⟩, h⟩ := h
 obtain ⟨cs', hst, hq⟩ := exDCQ_steps 0 _ h
 refine DrawG.mkR n ks rd hm hc hks hrd ⟨cs'.st, hst, ?_⟩
 obtain ⟨cs2, e2, h2⟩ := CSt.obK_st hq
 have := exOpsC_st (next' := fun st => ∃ cs', cs'.st = st ∧ next cs') _ h2 fun cs' h => ⟨cs', rfl, h⟩
 rw [e2] at this
 exact this
theorem DrawC.mkQ {P : Program} [Tabs P] {nb : Nat} {ops : Array Oper} {cs : CSt} {next : CSt → Prop} (n : Nat) (ks : Kn) (hm : P.follows .mixedOrders = true) (hc : drawOK ops n = true)
 (h : fN cs.next fun base => ksQ ops base ks = true ∧ exDCQ P ops [] ks base 0 (ops.toList.take n) cs fun cs' => cs'.obK cs'.ob (base + n) fun cs' => exOpsC P ops (ops.toList.drop n) cs' next) : DrawC P nb ops cs next := by
 refine DrawC.mkR n ks [] hm hc ?_
 rw [fN_eq] at h ⊢
 exact ⟨⟨h.1, rfl⟩, h.2⟩
end Go.Vw

namespace Go.Vw
open Go
end Go.Vw

namespace Go.Vw
open Go
end Go.Vw

namespace Go.Vw
open Go
end Go.Vw

namespace Go.Vw
open Go
end Go.Vw

namespace Go.Vw
open Go
end Go.Vw

namespace Go.Vw
open Go
end Go.Vw

namespace Go.Vw
open Go
theorem DrawC.mq {P : Program} [Tabs P] {nb : Nat} {ops : Array Oper} {cs : CSt} {next : CSt → Prop} (n : Nat) (hm : P.follows .mixedOrders = true) (hc : drawOK ops n = true)
 (h : fN cs.next fun base => exDCQ P ops [] [] base 0 (ops.toList.take n) cs fun cs' => cs'.obK cs'.ob (base + n) fun cs' => exOpsC P ops (ops.toList.drop n) cs' next) : DrawC P nb ops cs next := by
 refine DrawC.mkQ n [] hm hc ?_
 rw [fN_eq] at h ⊢
 exact ⟨rfl, h⟩
end Go.Vw

