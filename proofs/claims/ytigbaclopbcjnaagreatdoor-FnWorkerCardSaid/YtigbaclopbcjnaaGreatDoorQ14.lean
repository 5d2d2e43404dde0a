/- Contracts of functions that the claim reaches, and the plain law of what they compute; each theorem bears its own conditions. -/
import Derived.Test.YtigbaclopbcjnaaGreatDoorQ12
import Derived.Test.YtigbaclopbcjnaaGreatDoorQ13
import Derived.Test.YtigbaclopbcjnaaGreatDoorQ7
import Derived.Test.YtigbaclopbcjnaaGreatDoorQ11
import Derived.Test.YtigbaclopbcjnaaGreatDoorQ5
import Derived.Test.YtigbaclopbcjnaaGreatDoorQ2
import Derived.Test.YtigbaclopbcjnaaGreatDoorQ4
import Derived.Test.YtigbaclopbcjnaaGreatDoorQ8
import Derived.Test.YtigbaclopbcjnaaGreatDoorV52
set_option linter.unusedVariables false
set_option linter.constructorNameAsVariable false
set_option linter.unusedSimpArgs false
set_option maxRecDepth 20000
namespace Go.Proofs.YtigbaclopbcjnaaGreatDoor
open Go Go.Vw
theorem mrgA {a b c : Ag} (ha : 0 ≤ a.c) (hb : 0 ≤ b.c) (hc : 0 ≤ c.c) : (a.mrg b).mrg c = a.mrg (b.mrg c) := by
 obtain ⟨ac, as', amn, amx, af, al⟩ := a
 obtain ⟨bc, bs, bmn, bmx, bf, bl⟩ := b
 obtain ⟨cc, cs, cmn, cmx, cf, cl⟩ := c
 simp only at ha hb hc
 unfold Ag.mrg
 by_cases h1 : ac = 0
 · simp [h1]
 by_cases h2 : bc = 0
 · simp [h1, h2]
 by_cases h3 : cc = 0
 · have : ¬ ac + bc = 0 := by omega
   simp [h1, h2, h3, this]
 have h4 : ¬ ac + bc = 0 := by omega
 have h5 : ¬ bc + cc = 0 := by omega
 simp only [h1, h2, h3, h4, h5, if_false]
 congr 1
 · omega
 · omega
 · split <;> split <;> (try split) <;> omega
 · split <;> split <;> (try split) <;> omega
theorem aggLc {L : List Smp} : ∀ i : Nat, i ≤ L.length → (aggL (L.take i)).c = i
 | 0, _ => rfl
 | i + 1, h => by
   have ih := aggLc (L := L) i (by omega)
   rw [aggL_snoc h]
   unfold Ag.mrg
   split
   · rename_i h0
     rw [ih] at h0
     simp only [one]; omega
   · rw [if_neg (show ¬ (one (ix L i).v).c = 0 by simp [one])]
     simp only [one]; omega
theorem aggL_n (L : List Smp) : (aggL L).c = L.length := by
 have := aggLc (L := L) L.length (Nat.le_refl _)
 rwa [List.take_of_length_le (Nat.le_refl _)] at this
theorem aggL_nil {L : List Smp} (h : (aggL L).c = 0) : aggL L = default := by
 rw [aggL_n] at h
 rw [List.length_eq_zero_iff.1 (show L.length = 0 by omega)]; rfl
theorem aggL_add (X : List Smp) (s : Smp) : aggL (X ++ [s]) = (aggL X).mrg (one s.v) := by
 unfold aggL; rw [List.foldl_append]; rfl
theorem aggL_both (X Y : List Smp) : aggL (X ++ Y) = (aggL X).mrg (aggL Y) := by
 have key : ∀ i : Nat, i ≤ Y.length → aggL (X ++ Y.take i) = (aggL X).mrg (aggL (Y.take i)) := by
  intro i
  induction i with
  | zero => intro _; rw [List.take_zero, List.append_nil]; exact (mrg_def _ aggL_nil).symm
  | succ i ih =>
    intro h
    rw [take_snoc h, ← List.append_assoc, aggL_add, ih (by omega), aggL_add]
    refine mrgA ?_ ?_ ?_
    · rw [aggL_n]; omega
    · rw [aggL_n]; omega
    · simp [one]
 have := key Y.length (Nat.le_refl _)
 rwa [List.take_of_length_le (Nat.le_refl _)] at this
theorem in_split {a b c : Int} (hab : a ≤ b) (hbc : b ≤ c) : ∀ {L : List Smp}, L.Pairwise (fun x y => x.t < y.t) → smpsIn L a b ++ smpsIn L b c = smpsIn L a c
 | [], _ => rfl
 | x :: r, h => by
   obtain ⟨h1, h2⟩ := List.pairwise_cons.1 h
   have ih := in_split hab hbc h2
   have e : ∀ p q, smpsIn (x :: r) p q = if within x.t p (q - 1) = true then x :: smpsIn r p q else smpsIn r p q := fun p q => by unfold smpsIn; rw [List.filter_cons]
   rw [e, e, e]
   by_cases q1 : within x.t a (b - 1) = true
   · have q2 : ¬ within x.t b (c - 1) = true := by simp [within] at q1 ⊢; omega
     have q3 : within x.t a (c - 1) = true := by simp [within] at q1 ⊢; omega
     rw [if_pos q1, if_neg q2, if_pos q3, List.cons_append, ih]
   · by_cases q2 : within x.t b (c - 1) = true
     · have q3 : within x.t a (c - 1) = true := by simp [within] at q2 ⊢; omega
       have q4 : smpsIn r a b = [] := by
        unfold smpsIn
        refine List.filter_eq_nil_iff.2 fun y hy => ?_
        have := h1 y hy
        simp [within] at q2 ⊢; omega
       rw [if_neg q1, if_pos q2, if_pos q3, ← ih, q4]; rfl
     · have q3 : ¬ within x.t a (c - 1) = true := by simp [within] at q1 q2 ⊢; omega
       rw [if_neg q1, if_neg q2, if_neg q3, ih]
theorem smps_pw {L : List Smp} (h : smpsOK L = true) : L.Pairwise (fun x y => x.t < y.t) := by
 have hh : ∀ i, i < L.length → smpAt L i = true := by
  unfold smpsOK at h
  rw [Bool.and_eq_true] at h
  exact allN_iff.1 h.2
 have key : ∀ j, j < L.length → ∀ i, i < j → (ix L i).t < (ix L j).t := by
  intro j
  induction j with
  | zero => intro _ i hi; omega
  | succ j ih =>
    intro hj i hi
    have b := hh (j + 1) hj
    simp [smpAt] at b
    rcases Nat.lt_or_ge i j with h1 | h1
    · have := ih (by omega) i h1; omega
    · have : i = j := by omega
      subst this; omega
 refine List.pairwise_iff_getElem.2 fun i j hi hj hij => ?_
 have := key j hj i hij
 rwa [ix_lt hi, ix_lt hj] at this
abbrev agI (ac : List Smp) (a b : Int) : Ag := aggL (smpsIn ac a b)
theorem agI_c (ac : List Smp) (a b : Int) : 0 ≤ (agI ac a b).c ∧ (agI ac a b).c ≤ ac.length := by
 rw [aggL_n]
 have := smpsIn_len ac a b
 omega
theorem agI_ok {ac : List Smp} (h : smpsOK ac = true) (a b : Int) : (agI ac a b).ok = true := by
 obtain ⟨h1, h2⟩ := smps_bd h
 exact (aggL_ok' (by have := smpsIn_len ac a b; omega) (fun x hx => h2 x (smpsIn_mem hx))).1
theorem agI_split {ac : List Smp} (h : smpsOK ac = true) {a b c : Int} (hab : a ≤ b) (hbc : b ≤ c) : (agI ac a b).mrg (agI ac b c) = agI ac a c := by
 unfold agI
 rw [← aggL_both, in_split hab hbc (smps_pw h)]
theorem agI_none (ac : List Smp) {a b : Int} (h : b ≤ a) : agI ac a b = default := by
 unfold agI
 have : smpsIn ac a b = [] := by
  unfold smpsIn
  refine List.filter_eq_nil_iff.2 fun y hy => ?_
  simp [within]; omega
 rw [this]; rfl
def valE (ac : List Smp) (a b : Int) (e : En) : Ag := agI ac (if a > e.f then a else e.f) (if b < e.t then b else e.t)
def gfold (ac : List Smp) (a b : Int) (g : Ag) (L : List En) : Ag := L.foldl (fun g e => g.mrg (valE ac a b e)) g
theorem gfold_c {ac : List Smp} {a b : Int} : ∀ (L : List En) (g : Ag), 0 ≤ g.c → g.c ≤ (gfold ac a b g L).c
 | [], g, _ => Int.le_refl _
 | e :: r, g, h => by
   have h1 := (agI_c ac (if a > e.f then a else e.f) (if b < e.t then b else e.t)).1
   have h1 : 0 ≤ (valE ac a b e).c := h1
   have h2 : g.c ≤ (g.mrg (valE ac a b e)).c := by
    unfold Ag.mrg
    split
    · omega
    · split
      · omega
      · simp only; omega
   have := gfold_c (ac := ac) (a := a) (b := b) r (g.mrg (valE ac a b e)) (by omega)
   exact Int.le_trans h2 this
theorem valE_no {ac : List Smp} {a b : Int} {e : En} (h : tch a b e = false) : valE ac a b e = default := by
 unfold valE
 refine agI_none ac ?_
 unfold tch at h
 have := of_decide_eq_false h
 omega
theorem gfold_tch {ac : List Smp} {a b : Int} : ∀ (L : List En) (g : Ag), (g.c = 0 → g = default) → 0 ≤ g.c → gfold ac a b g (L.filter (tch a b)) = gfold ac a b g L
 | [], _, _, _ => rfl
 | e :: r, g, hg, hc => by
   cases ht : tch a b e with
   | true =>
     rw [List.filter_cons_of_pos ht]
     have hv := (agI_c ac (if a > e.f then a else e.f) (if b < e.t then b else e.t)).1
     have hv : 0 ≤ (valE ac a b e).c := hv
     refine gfold_tch r (g.mrg (valE ac a b e)) (fun h => ?_) ?_
     · unfold Ag.mrg at h ⊢
       split at h
       · rename_i h0
         rw [if_pos h0]
         exact aggL_nil h
       · split at h
         · rename_i h0 _; exact absurd h h0
         · simp only at h; omega
     · unfold Ag.mrg
       split
       · exact hv
       · split
         · exact hc
         · simp only; omega
   | false =>
     rw [List.filter_cons_of_neg (by rw [ht]; simp)]
     show _ = gfold ac a b (g.mrg (valE ac a b e)) r
     rw [valE_no ht, mrg_def g hg]
     exact gfold_tch r g hg hc
theorem gfold_runs {ac : List Smp} (hk : smpsOK ac = true) {a b : Int} (hab : a ≤ b) : ∀ (L : List En) (p q : Int) (g : Ag), runs L p = some q → (∀ e ∈ L, e.f ≤ e.t) → g = agI ac a (if p < a then a else if b < p then b else p) → gfold ac a b g L = agI ac a (if q < a then a else if b < q then b else q)
 | [], p, q, g, hr, _, hg => by
   have : p = q := by simpa [runs] using hr
   subst this
   exact hg
 | e :: r, p, q, g, hr, hL, hg => by
   have he := hL e (by simp)
   unfold runs at hr
   split at hr
   · rename_i hf
     refine gfold_runs hk hab r e.t q _ hr (fun y hy => hL y (by simp [hy])) ?_
     rw [hg]
     show Ag.mrg _ (valE ac a b e) = _
     unfold valE
     rw [hf]
     rw [hf] at he
     by_cases h1 : p < a
     · rw [if_pos h1]
       rw [agI_none ac (Int.le_refl a), def_mrg, if_pos (show a > p by omega)]
       by_cases h2 : e.t < a
       · rw [if_pos h2, agI_none ac (show (if b < e.t then b else e.t) ≤ a by split <;> omega), agI_none ac (Int.le_refl a)]
       · rw [if_neg h2]
     · rw [if_neg h1, if_neg (show ¬ a > p by omega)]
       by_cases h2 : b < p
       · rw [if_pos h2, agI_none ac (show (if b < e.t then b else e.t) ≤ p by split <;> omega), if_neg (show ¬ e.t < a by omega), if_pos (show b < e.t by omega)]
         exact mrg_def _ aggL_nil
       · rw [if_neg h2, if_neg (show ¬ e.t < a by omega)]
         refine agI_split hk (by omega) ?_
         split <;> omega
   · cases hr
theorem gfold_cover {ac : List Smp} (hk : smpsOK ac = true) {a b p q : Int} (hab : a ≤ b) {L : List En} (hr : runs L p = some q) (hL : ∀ e ∈ L, e.f ≤ e.t) (hp : p ≤ a) (hq : b ≤ q) : gfold ac a b default (L.filter (tch a b)) = agI ac a b := by
 rw [gfold_tch L default (fun _ => rfl) (Int.le_refl _)]
 have h1 : (default : Ag) = agI ac a (if p < a then a else if b < p then b else p) := by
  rw [agI_none]
  split
  · exact Int.le_refl _
  · split <;> omega
 have := gfold_runs hk hab L p q default hr hL h1
 rw [this]
 congr 2
 split
 · omega
 · split <;> omega
theorem in_later {ac b : List Smp} {h0 : Int} (hb : ∀ s ∈ b, h0 ≤ s.t) {f t : Int} (ht : t ≤ h0) : smpsIn (ac ++ b) f t = smpsIn ac f t := by
 unfold smpsIn
 rw [List.filter_append]
 have : b.filter (fun e => within e.t f (t - 1)) = [] := List.filter_eq_nil_iff.2 fun y hy => by
  have := hb y hy
  simp [within]; omega
 rw [this, List.append_nil]
theorem LogX.le {x : Sto} {n : Nat} {s : Sta} (h : LogX x n s) : n ≤ x.os.length ∧ n ≤ 300 := by
 have hl := ((stoOK_iff x).1 h.ok).len
 have key : ∀ k : Nat, k ≤ n → k ≤ 999998 → k ≤ x.os.length := fun k h1 h2 => log_len (x := x) h2 fun j hj => by rw [h.has _ (by omega) (by omega)]; exact decide_eq_true (by omega)
 rcases Nat.lt_or_ge n 999998 with h1 | h1
 · have := key n (Nat.le_refl _) (by omega)
   omega
 · have := key 301 (by omega) (by omega)
   omega
theorem LogX.seq {x : Sto} {n : Nat} {s : Sta} (h : LogX x n s) : s.seq = (n : Int) := by
 have := (log_b x).1
 rw [h.log, h.fin] at this
 exact this
theorem LogX.sok {x : Sto} {n : Nat} {s : Sta} (h : LogX x n s) : s.ok = true := by rw [← h.log]; exact logS_ok x
theorem LogX.sameG {x y : Sto} {n : Nat} {s : Sta} (h : LogX x n s) (hy : y.ok = true) (a1 : ∀ i : Int, y.has (manK i) = x.has (manK i) ∧ (x.has (manK i) = true → y.get (manK i) = x.get (manK i))) : LogX y n s := by
 have hn := h.le
 have g1 : ∀ q : Nat, 1 ≤ q → q ≤ 999999 → y.has (manK (q : Int)) = decide (q ≤ n) := fun q h1 h2 => (a1 _).1.trans (h.has q h1 h2)
 have gd : ∀ j, j < n → y.has (manK ((j + 1 : Nat) : Int)) = true ∧ (y.get (manK ((j + 1 : Nat) : Int))).data = (x.get (manK ((j + 1 : Nat) : Int))).data := fun j hj => by
  have hh : x.has (manK ((j + 1 : Nat) : Int)) = true := by rw [h.has _ (by omega) (by omega)]; exact decide_eq_true (by omega)
  obtain ⟨c1, c2⟩ := a1 ((j + 1 : Nat) : Int)
  exact ⟨c1.trans hh, by rw [c2 hh]⟩
 have e1 : n = logEnd y := log_end hy (by omega) (fun j hj => (gd j hj).1) (by rw [g1 _ (by omega) (by omega)]; exact decide_eq_false (by omega))
 refine ⟨hy, g1, e1.symm, ?_⟩
 rw [← h.log]
 unfold logS
 rw [← e1, h.fin]
 exact logN_congr n fun j hj => (gd j hj).2
def Same (x y : Sto) (k : List UInt8) : Prop := ∀ q, q ≠ k → y.has q = x.has q ∧ (x.has q = true → y.get q = x.get q)
theorem LogX.layG {x : Sto} {n : Nat} {s : Sta} (h : LogX x n s) {r : Rc} (hr : r.ok = true) :
 (∃ c : Int, c ≠ 0 ∧ c ≠ 9 ∧ appS x ((n + 1 : Nat) : Int) r = (x, c)) ∨
 ∃ y, appS x ((n + 1 : Nat) : Int) r = (y, 0) ∧ LogX y (n + 1) (s.app r) ∧ Same x y (manK ((n + 1 : Nat) : Int)) ∧ y.os.length = x.os.length + 1 := by
 have hn := h.le
 have hno : x.has (manK ((n + 1 : Nat) : Int)) = false := by rw [h.has _ (by omega) (by omega)]; exact decide_eq_false (by omega)
 have hlen := Rc.txt_len hr
 have hok := (stoOK_iff x).1 h.ok
 by_cases hroom : x.room (manK ((n + 1 : Nat) : Int)) r.text = 0
 · right
   have hl : x.os.length < 300 := by
    unfold Sto.room at hroom
    rw [if_neg (by omega), hno] at hroom
    split at hroom
    · cases hroom
    · rename_i hq
      have := hok.len
      rcases Nat.lt_or_ge x.os.length 300 with g | g
      · exact g
      · have : x.os.length = 300 := by omega
        exact absurd (by simp [this]) hq
   have p3 : (x.set (manK ((n + 1 : Nat) : Int)) r.text).ok = true := set_ok h.ok (manK_keyOK _) hroom
   have ha : appS x ((n + 1 : Nat) : Int) r = (x.set (manK ((n + 1 : Nat) : Int)) r.text, 0) := by
    unfold appS Sto.putA Sto.put
    rw [if_neg (by rw [hno]; simp), if_pos hroom, hroom]
   have a4 := set_at x (manK ((n + 1 : Nat) : Int)) r.text
   have a2 : ∀ k, k ≠ manK ((n + 1 : Nat) : Int) → (x.set (manK ((n + 1 : Nat) : Int)) r.text).has k = x.has k ∧ (x.has k = true → (x.set (manK ((n + 1 : Nat) : Int)) r.text).get k = x.get k) := fun k hk => set_ne h.ok p3 hk
   have hol : (x.set (manK ((n + 1 : Nat) : Int)) r.text).os.length = x.os.length + 1 := by
    unfold Sto.set
    have hp := lb_le (manK ((n + 1 : Nat) : Int)) x.os
    have hp : x.pos (manK ((n + 1 : Nat) : Int)) ≤ x.os.length := hp
    simp only [hno, Bool.false_eq_true, if_false, List.length_append, List.length_cons, List.length_take, List.length_drop]
    omega
   refine ⟨x.set (manK ((n + 1 : Nat) : Int)) r.text, ha, ?_, a2, hol⟩
   generalize x.set (manK ((n + 1 : Nat) : Int)) r.text = z at *
   have a6 : ∀ k : Nat, 1 ≤ k → k ≤ 999999 → z.has (manK (k : Int)) = decide (k ≤ n + 1) := fun k h1 h2 => by
    by_cases e : k = n + 1
    · subst e
      rw [a4.1, decide_eq_true (by omega)]
    · rw [(a2 _ fun e' => e (manK_inj h2 (by omega) e')).1, h.has k h1 h2]
      by_cases h3 : k ≤ n
      · rw [decide_eq_true h3, decide_eq_true (by omega)]
      · rw [decide_eq_false h3, decide_eq_false (by omega)]
   have gd : ∀ j, j < n → x.has (manK ((j + 1 : Nat) : Int)) = true := fun j hj => by rw [h.has _ (by omega) (by omega)]; exact decide_eq_true (by omega)
   obtain ⟨q1, q2⟩ := log_grow (x := x) (y := z) p3 (n := n) (by omega) gd h.fin
    (fun j hj => by
     obtain ⟨c1, c2⟩ := a2 (manK ((j + 1 : Nat) : Int)) (fun e' => by have := manK_inj (by omega) (by omega) e'; omega)
     exact ⟨c1.trans (gd j hj), by rw [c2 (gd j hj)]⟩)
    a4.1 (by rw [a6 _ (by omega) (by omega)]; exact decide_eq_false (by omega))
   refine ⟨p3, a6, q1, ?_⟩
   rw [q2, a4.2, h.log]
   unfold Sta.lay
   simp only
   rw [text_back hr]
 · left
   refine ⟨x.room (manK ((n + 1 : Nat) : Int)) r.text, hroom, ?_, ?_⟩
   · unfold Sto.room
     split
     · decide
     · split <;> decide
   · unfold appS Sto.putA Sto.put
     rw [if_neg (by rw [hno]; simp), if_neg hroom]
def ingR (id : Int) : Ig := ⟨id, 0, 0, 0, [], false⟩

def eqS {α : Type} [Inhabited α] (q : α → α → Bool) (L M : List α) : Bool := decide ((L.length : Int) = M.length) && allN L.length fun i => q (ix L i) (ix M i)
theorem eqS_len {α : Type} [Inhabited α] {q : α → α → Bool} {L M : List α} (h : ¬ (L.length : Int) = M.length) : eqS q L M = false := by
 unfold eqS; rw [decide_eq_false h]; rfl
theorem eqS_no {α : Type} [Inhabited α] {q : α → α → Bool} {L M : List α} {i : Nat} (hi : i < L.length) (h : q (ix L i) (ix M i) = false) : eqS q L M = false := by
 unfold eqS; rw [allN_no (q := fun i => q (ix L i) (ix M i)) hi h]; simp
theorem eqS_yes {α : Type} [Inhabited α] {q : α → α → Bool} {L M : List α} (hl : (L.length : Int) = M.length) (h : ∀ j, j < L.length → q (ix L j) (ix M j) = true) : eqS q L M = true := by
 unfold eqS; rw [decide_eq_true hl, allN_iff.2 h]; rfl
def En.eqb (x y : En) : Bool := decide (x.tier = y.tier) && (decide (x.f = y.f) && (decide (x.t = y.t) && (((B x.key).toList == (B y.key).toList) && true)))
def Rc.eqb (x y : Rc) : Bool := decide (x.k = y.k) && (decide (x.tok = y.tok) && (decide (x.tier = y.tier) && (decide (x.f = y.f) && (decide (x.t = y.t) && (((B x.key).toList == (B y.key).toList) && true)))))
theorem EqualEn2_fn (L M : List En) (hL : L.length ≤ 1048576) (hM : M.length ≤ 1048576) : VFn Tryz.prog 26 [ents L, ents M] (.bool (eqS En.eqb L M)) := by
 by_cases hl : (L.length : Int) = M.length
 · refine VFn.introC Tryz.call26 Tryz.func26 rfl rfl ?_
   refine Grd.intro (fun g => ?_) (fun _ => ?_)
   · exfalso; simp [hl] at g
   refine LoopC.mk (fun i : Nat => i ≤ L.length ∧ ∀ j, j < i → En.eqb (ix L j) (ix M j) = true) (fun i => [(0, ents L), (1, ents M), (12, .int .i64 L.length), (13, .int .i64 i)]) (fun i => []) 0 (fun i => L.length - i) 0
    ⟨⟨Nat.zero_le _, fun j hj => absurd hj (Nat.not_lt_zero j)⟩, [], rfl, rfl, ⟨AVle.refl _, AVle.refl _, AVle.refl _, AVle.refl _, trivial⟩, trivial⟩ ?_
   intro i hi
   obtain ⟨hi, h0⟩ := hi
   refine Grd.intro (fun h2 => ?_) (fun h2 => ?_)
   · have hin : i < L.length := by have := of_decide_eq_true h2; omega
     refine DrawC.mq 8 rfl (by kernel_rfl) ?_
     refine And.intro (by omega) ?_
     refine And.intro (by omega) ?_
     refine And.intro (by kernel_rfl) ?_
     refine Grd.intro (fun g => ?_) (fun g => ?_)
     · have g : (!En.eqb (ix L i) (ix M i)) = true := g
       rw [eqS_no hin (by simpa using g)]
       exact And.intro trivial (AVle.refl _)
     · have g : (!En.eqb (ix L i) (ix M i)) = false := g
       have g : En.eqb (ix L i) (ix M i) = true := by simpa using g
       refine And.intro (inI64 (by omega) (by omega)) ?_
       exact ⟨i + 1, ⟨hin, fun j hj => by
        rcases Nat.lt_or_ge j i with h' | h'
        · exact h0 j h'
        · rw [show j = i by omega]; exact g⟩, by omega, [], rfl, rfl, ⟨AVle.refl _, AVle.refl _, AVle.refl _, AVle.of_eq (congrArg (AV.int .i64) (by simp)), trivial⟩, trivial⟩
   · have : i = L.length := by have := of_decide_eq_false h2; omega
     subst this
     rw [eqS_yes hl h0]
     exact And.intro trivial (AVle.refl _)
 · rw [eqS_len hl]
   refine VFn.introC Tryz.call26 Tryz.func26 rfl rfl ?_
   refine Grd.intro (fun g => ?_) (fun g => ?_)
   · exact And.intro trivial (AVle.refl _)
   · exfalso; simp [hl] at g
def bkt (f : Int) (a : Ag) : List Bk := if a.c = 0 then [] else [⟨f, a⟩]
theorem bucketOf_fn (f : Int) (a : Ag) : VFn Tryz.prog 83 [.int .i64 f, a.av] (bks (bkt f a)) := by
 obtain ⟨R, hR⟩ : ∃ R, R = bkt f a := ⟨_, rfl⟩
 rw [← hR]
 refine VFn.introC Tryz.call83 Tryz.func83 rfl rfl ?_
 refine Grd.intro (fun g => ?_) (fun g => ?_)
 · rw [bkt, if_pos (show a.c = 0 from of_decide_eq_true g)] at hR
   subst hR
   exact And.intro trivial (AVle.nilsl _ _ rfl)
 · rw [bkt, if_neg (show ¬ a.c = 0 from of_decide_eq_false g)] at hR
   subst hR
   exact And.intro trivial (AVle.sl1 rfl)
structure KnS (s : Sta) (ac : List Smp) (e : En) : Prop where
 ok : e.ok = true
 th : e.t ≤ s.hi e.tier
 t0 : e.tier = 0 → (1 ≤ kN e.key ∧ kN e.key ≤ s.seq) ∧ (smpsIn ac e.f e.t).length ≤ 8
 t1 : e.tier ≠ 0 → e.f = kN e.key ∧ e.t = e.f + wd e.tier ∧ e.f % wd e.tier = 0
structure KnE (x : Sto) (s : Sta) (ac : List Smp) (e : En) : Prop where
 st : KnS s ac e
 dt : e.tier = 0 → x.has e.key = true → (x.get e.key).data = smpsText (smpsIn ac e.f e.t)
def datK (ac : List Smp) (k : List UInt8) : List UInt8 := bksText (bkt (kN k) (agI ac (kN k) (kN k + wd (kT k))))
structure LogI (s : Sta) : Prop where
 h10 : s.h1 ≤ s.h0
 h21 : s.h2 ≤ s.h1
 l01 : s.l0 ≤ s.h1
 l12 : s.l1 ≤ s.h2
 a1 : s.h1 % 5 = 0
 a2 : s.h2 % 20 = 0
 nn : 0 ≤ s.h2 ∧ s.h0 ≤ 100000
 ts : ∀ t ∈ s.ts, (kT t.key = 0 → kN t.key ≤ s.seq) ∧ (kT t.key ≠ 0 → kN t.key < s.hi (kT t.key))
structure StI (x : Sto) (n : Nat) (s : Sta) (ac : List Smp) : Prop where
 lg : LogX x n s
 li : LogI s
 es : ∀ e ∈ s.es, KnE x s ac e ∧ x.has e.key = true
 dat : ∀ k, x.has k = true → kOk k = true → kT k ≠ 0 → (x.get k).data = datK ac k ∧ kN k + wd (kT k) ≤ s.h0
 acok : smpsOK ac = true
 ach : ∀ a ∈ ac, a.t < s.h0
structure JobI (s : Sta) (tok : Int) (j : Rc) : Prop where
 tier : j.tier = 1 ∨ j.tier = 2
 f0 : 0 ≤ j.f
 t : j.t = j.f + wd j.tier
 th : j.t ≤ s.h0
 fh : j.f ≤ s.hi j.tier
 key : kOk j.key = true ∧ kT j.key = j.tier ∧ kN j.key = j.f ∧ kW j.key = tok
structure InI (x : Sto) (s : Sta) (ac : List Smp) (a b : Int) (e : En) : Prop where
 kn : KnE x s ac e
 al : e.tier ≠ 0 → a ≤ e.f ∧ e.t ≤ b
structure WkI (x : Sto) (s : Sta) (ac : List Smp) (w : Wk) : Prop where
 ok : w.ok = true
 tok : 3 ≤ w.ph → w.tok ≤ s.fence
 job : (w.ph = 4 ∨ w.ph = 5 ∨ w.ph = 6) → w.job.k = 3 → JobI s w.tok w.job
 p4 : w.ph = 4 → gfold ac w.job.f w.job.t w.got w.ins = agI ac w.job.f w.job.t ∧ ∀ e ∈ w.ins, InI x s ac w.job.f w.job.t e
 p5 : w.ph = 5 → w.got = agI ac w.job.f w.job.t
 p6 : w.ph = 6 → w.job.k = 3 → s.fence = w.tok → w.job.f = s.hi w.job.tier → x.has w.job.key = true
structure IgI (x : Sto) (s : Sta) (g : Ig) : Prop where
 ok : g.ok = true
 sq : g.put = true → g.seq ≤ s.seq + 1
 at_ : g.put = true → g.seq = s.seq + 1 → g.f = s.h0 ∧ x.has (keyB 0 g.seq.toNat g.id.toNat) = true ∧ (x.get (keyB 0 g.seq.toNat g.id.toNat)).data = smpsText g.b
structure RdI (x : Sto) (s : Sta) (ac : List Smp) (C : Int) (r : Rr) : Prop where
 ok : r.ok = true
 pin : (r.ph = 2 ∨ r.ph = 3) → x.has (pinK r.id) = true ∧ (x.get (pinK r.id)).data = Lib.itoa r.til
 p0 : (r.ph = 1 ∨ r.ph = 2) → r.got = default
 p3 : r.ph = 3 → r.t ≤ s.h0 ∧ gfold ac r.f r.t r.got r.left = agI ac r.f r.t ∧ ∀ e ∈ r.left, InI x s ac r.f r.t e
 lv : r.ph = 3 → C ≤ r.til + 3 → ∀ e ∈ r.left, x.has e.key = true ∧ e.key ∈ s.keys
 p4 : r.ph = 4 → (r.code ≠ 5 ∧ r.code ≠ 17) ∧ (r.code = 0 → r.t ≤ s.h0 ∧ r.got = agI ac r.f r.t)
structure AnI (s : Sta) (ac : List Smp) (a : An) : Prop where
 ok : a.ok = true
 c : a.code ≠ 5 ∧ a.code ≠ 17
 z : a.code = 0 → a.t ≤ s.h0 ∧ a.a = agI ac a.f a.t
 nz : a.code ≠ 0 → a.a = default
structure Gr (me : Int) (x : Sto) (s : Sta) (ac : List Smp) (y : Sto) (s' : Sta) (ac' : List Smp) : Prop where
 seq : s.seq ≤ s'.seq
 fen : s.fence ≤ s'.fence
 hi : ∀ k, s.hi k ≤ s'.hi k
 ac : ∃ b, ac' = ac ++ b ∧ ∀ a ∈ b, s.h0 ≤ a.t
 d0 : ∀ k, kOk k = true → kT k = 0 → kN k ≤ s.seq → y.has k = true → x.has k = true ∧ (y.get k).data = (x.get k).data
 d1 : ∀ k, kOk k = true → kT k ≠ 0 → kW k = s'.fence → s.fence = s'.fence → kN k = s'.hi (kT k) → x.has k = true → y.has k = true
 d2 : s'.seq = s.seq → s'.h0 = s.h0 ∧ ∀ i : Nat, (i : Int) ≠ me → i ≤ 9 → x.has (keyB 0 (s.seq + 1).toNat i) = true → y.has (keyB 0 (s.seq + 1).toNat i) = true ∧ (y.get (keyB 0 (s.seq + 1).toNat i)).data = (x.get (keyB 0 (s.seq + 1).toNat i)).data
 d3 : ∀ i : Int, (0 ≤ i ∧ i ≤ 9) → i ≠ me → x.has (pinK i) = true → y.has (pinK i) = true ∧ (y.get (pinK i)).data = (x.get (pinK i)).data
def Kept (C : Int) (x : Sto) (s : Sta) (y : Sto) (s' : Sta) : Prop := ∀ i til : Int, (0 ≤ i ∧ i ≤ 9) → (0 ≤ til ∧ til ≤ 200000) → x.has (pinK i) = true → (x.get (pinK i)).data = Lib.itoa til → C ≤ til + 3 → ∀ k ∈ s.keys, kOk k = true → x.has k = true → y.has k = true ∧ k ∈ s'.keys
theorem hi_le {s : Sta} (h : LogI s) (k : Int) : s.hi k ≤ s.h0 := by
 have h1 := h.h10
 have h2 := h.h21
 unfold Sta.hi
 split
 · omega
 · split <;> omega
section grow
variable {me : Int} {x y : Sto} {s s' : Sta} {ac ac' : List Smp}
theorem Gr.agI (G : Gr me x s ac y s' ac') {f t : Int} (ht : t ≤ s.h0) : Go.Proofs.YtigbaclopbcjnaaGreatDoor.agI ac' f t = Go.Proofs.YtigbaclopbcjnaaGreatDoor.agI ac f t := by
 obtain ⟨b, rfl, hb⟩ := G.ac
 unfold Go.Proofs.YtigbaclopbcjnaaGreatDoor.agI
 rw [in_later hb ht]
theorem Gr.h0 (G : Gr me x s ac y s' ac') : s.h0 ≤ s'.h0 := G.hi 0
theorem Gr.ins (G : Gr me x s ac y s' ac') {f t : Int} (ht : t ≤ s.h0) : smpsIn ac' f t = smpsIn ac f t := by
 obtain ⟨b, rfl, hb⟩ := G.ac
 exact in_later hb ht
theorem KnS.grow (G : Gr me x s ac y s' ac') (hl : LogI s) {e : En} (h : KnS s ac e) : KnS s' ac' e := by
 have hh := hi_le hl e.tier
 have ht := h.th
 refine ⟨h.ok, Int.le_trans h.th (G.hi _), fun h0 => ?_, h.t1⟩
 obtain ⟨⟨a1, a2⟩, a3⟩ := h.t0 h0
 have := G.seq
 rw [G.ins (by omega)]
 exact ⟨⟨a1, by omega⟩, a3⟩
theorem en_key {e : En} (h : e.ok = true) : kOk e.key = true ∧ kT e.key = e.tier ∧ (0 ≤ e.f ∧ e.f < e.t ∧ e.t ≤ 100000) := by
 unfold En.ok at h
 simp only [Bool.and_eq_true, decide_eq_true_eq, isRange, within] at h
 exact ⟨h.1, h.2.1, by omega⟩
theorem KnE.grow (G : Gr me x s ac y s' ac') (hl : LogI s) {e : En} (h : KnE x s ac e) : KnE y s' ac' e := by
 have hh := hi_le hl e.tier
 have ht := h.st.th
 refine ⟨h.st.grow G hl, fun h0 hy => ?_⟩
 obtain ⟨k1, k2, _⟩ := en_key h.st.ok
 obtain ⟨a1, a2⟩ := G.d0 e.key k1 (by omega) (h.st.t0 h0).1.2 hy
 rw [a2, G.ins (by omega)]
 exact h.dt h0 a1
end grow
theorem Gr.refl (me : Int) (x : Sto) (s : Sta) (ac : List Smp) : Gr me x s ac x s ac :=
 ⟨Int.le_refl _, Int.le_refl _, fun _ => Int.le_refl _, ⟨[], by simp, by simp⟩, fun _ _ _ _ h => ⟨h, rfl⟩, fun _ _ _ _ _ _ h => h, fun _ => ⟨rfl, fun _ _ _ h => ⟨h, rfl⟩⟩, fun _ _ _ h => ⟨h, rfl⟩⟩
theorem Kept.refl (C : Int) (x : Sto) (s : Sta) : Kept C x s x s := fun _ _ _ _ _ _ _ _ hk _ hx => ⟨hx, hk⟩
theorem key_of {k : List UInt8} (h : kOk k = true) : ∃ t n w : Nat, t ≤ 2 ∧ n ≤ 999999 ∧ w ≤ 999999 ∧ k = keyB t n w ∧ kT k = t ∧ kN k = n ∧ kW k = w := by
 unfold kOk at h
 cases hp : parseKey k with
 | none => rw [hp] at h; cases h
 | some q =>
   obtain ⟨t, n, w⟩ := q
   obtain ⟨e, a, b, c⟩ := key_parse hp
   refine ⟨t, n, w, a, b, c, e, ?_, ?_, ?_⟩
   · unfold kT; rw [hp]
   · unfold kN; rw [hp]
   · unfold kW; rw [hp]
theorem kOk_man (i : Int) : kOk (manK i) = false := by
 cases h : kOk (manK i) with
 | false => rfl
 | true =>
   obtain ⟨t, n, w, _, _, _, e, _⟩ := key_of h
   exact absurd e (man_ne_key i)
theorem pinK_pre (i : Int) : Lib.hasPrefix (pinK i) pinP = true := by
 unfold Lib.hasPrefix pinK pinP
 simp [List.isPrefixOf]
theorem kOk_pin (i : Int) : kOk (pinK i) = false := by
 cases h : kOk (pinK i) with
 | false => rfl
 | true =>
   obtain ⟨t, n, w, a, _, _, e, _⟩ := key_of h
   exact absurd e (pin_ne_key (pinK_pre i) a)
theorem kOk_lea : kOk leaK = false := by decide
theorem man_ne_pin (i j : Int) : manK i ≠ pinK j := fun e => pin_ne_man (pinK_pre j) i e.symm
theorem man_ne_lea (i : Int) : manK i ≠ leaK := fun e => by
 have h1 : (manK i).length = 10 := by simp [manK, six6]
 rw [e] at h1
 simp [leaK] at h1
theorem pin_ne_lea (i : Int) : pinK i ≠ leaK := fun e => by
 have := congrArg List.head? e
 simp [pinK, leaK] at this
theorem ne_of_kOk {k q : List UInt8} (h : kOk k = true) (h' : kOk q = false) : k ≠ q := fun e => by rw [e, h'] at h; cases h
section chg
variable {x y : Sto} {n : Nat} {s : Sta} {ac : List Smp}
theorem StI.named (I : StI x n s ac) {k : List UInt8} (h : k ∈ s.keys) : (kT k = 0 → kN k ≤ s.seq) ∧ (kT k ≠ 0 → kN k < s.hi (kT k)) := by
 unfold Sta.keys at h
 rcases List.mem_append.1 h with h | h
 · obtain ⟨e, he, rfl⟩ := List.mem_map.1 h
   obtain ⟨kn, _⟩ := I.es e he
   obtain ⟨k1, k2, k3⟩ := en_key kn.st.ok
   refine ⟨fun h0 => (kn.st.t0 (by omega)).1.2, fun h0 => ?_⟩
   have := kn.st.t1 (by omega)
   have ht := kn.st.th
   rw [k2]
   omega
 · obtain ⟨t, ht, rfl⟩ := List.mem_map.1 h
   exact I.li.ts t ht
theorem StI.seqN (I : StI x n s ac) : s.seq = (n : Int) := I.lg.seq
theorem StI.seqB (I : StI x n s ac) : 0 ≤ s.seq ∧ s.seq ≤ 300 := by
 have := I.lg.seq
 have := I.lg.le
 omega
theorem StI.other (I : StI x n s ac) {k : List UInt8} (S : Same x y k) (hy : y.ok = true) (hk : kOk k = false) (hm : ∀ i : Int, manK i ≠ k) : StI y n s ac := by
 have D : ∀ q, kOk q = true → y.has q = x.has q ∧ (x.has q = true → y.get q = x.get q) := fun q hq => S q (ne_of_kOk hq hk)
 refine ⟨I.lg.sameG hy fun i => S _ (hm i), I.li, fun e he => ?_, fun q hq h1 h2 => ?_, I.acok, I.ach⟩
 · obtain ⟨a, b⟩ := I.es e he
   obtain ⟨d1, d2⟩ := D e.key (en_key a.st.ok).1
   exact ⟨⟨a.st, fun h0 hh => by rw [d2 b]; exact a.dt h0 b⟩, d1.trans b⟩
 · obtain ⟨d1, d2⟩ := D q h1
   rw [d1] at hq
   rw [d2 hq]
   exact I.dat q hq h1 h2
theorem Gr.other (me : Int) (I : StI x n s ac) {k : List UInt8} (S : Same x y k) (hk : kOk k = false) (hp : ∀ i : Int, (0 ≤ i ∧ i ≤ 9) → i ≠ me → pinK i ≠ k) : Gr me x s ac y s ac := by
 have D : ∀ q, kOk q = true → y.has q = x.has q ∧ (x.has q = true → y.get q = x.get q) := fun q hq => S q (ne_of_kOk hq hk)
 have hb := I.seqB
 refine ⟨Int.le_refl _, Int.le_refl _, fun _ => Int.le_refl _, ⟨[], by simp, by simp⟩, fun q h1 h2 h3 h4 => ?_, fun q h1 h2 h3 h4 h5 h6 => (D q h1).1.trans h6, fun _ => ⟨rfl, fun i h1 h2 h3 => ?_⟩, fun i h1 h2 h3 => ?_⟩
 · obtain ⟨d1, d2⟩ := D q h1
   have := d1.symm.trans h4
   exact ⟨this, by rw [d2 this]⟩
 · obtain ⟨d1, d2⟩ := D _ (key_fields (t := 0) (n := (s.seq + 1).toNat) (w := i) (by omega) (by omega) (by omega)).1
   exact ⟨d1.trans h3, by rw [d2 h3]⟩
 · obtain ⟨d1, d2⟩ := S _ (hp i h1 h2)
   exact ⟨d1.trans h3, by rw [d2 h3]⟩
theorem Kept.other (C : Int) {k : List UInt8} (S : Same x y k) (hk : kOk k = false) : Kept C x s y s := fun i til h1 h2 h3 h4 h5 q h6 h7 h8 => ⟨(S q (ne_of_kOk h7 hk)).1.trans h8, h6⟩
theorem StI.raw (I : StI x n s ac) {id : Nat} (hid : id ≤ 9) {d : List UInt8} (hy : (x.set (keyB 0 (s.seq + 1).toNat id) d).ok = true) : StI (x.set (keyB 0 (s.seq + 1).toNat id) d) n s ac := by
 have hb := I.seqB
 obtain ⟨k1, k2, k3, k4⟩ := key_fields (t := 0) (n := (s.seq + 1).toNat) (w := id) (by omega) (by omega) (by omega)
 have S : Same x (x.set (keyB 0 (s.seq + 1).toNat id) d) (keyB 0 (s.seq + 1).toNat id) := fun q hq => set_ne I.lg.ok hy hq
 generalize x.set (keyB 0 (s.seq + 1).toNat id) d = y at *
 generalize keyB 0 (s.seq + 1).toNat id = K at *
 refine ⟨I.lg.sameG hy fun i => S _ (fun e => by rw [← e, kOk_man] at k1; cases k1), I.li, fun e he => ?_, fun q hq h1 h2 => ?_, I.acok, I.ach⟩
 · obtain ⟨a, b⟩ := I.es e he
   have hne : e.key ≠ K := fun h => by
    obtain ⟨e1, e2, _⟩ := en_key a.st.ok
    rw [h, k2] at e2
    have := (a.st.t0 e2.symm).1
    rw [h, k3] at this
    omega
   obtain ⟨d1, d2⟩ := S _ hne
   exact ⟨⟨a.st, fun h0 hh => by rw [d2 b]; exact a.dt h0 b⟩, d1.trans b⟩
 · obtain ⟨d1, d2⟩ := S q fun h => by rw [h, k2] at h2; exact h2 rfl
   rw [d1] at hq
   rw [d2 hq]
   exact I.dat q hq h1 h2
theorem StI.roll (I : StI x n s ac) {K : List UInt8} (hk : kOk K = true) (ht : kT K ≠ 0) (hno : x.has K = false) (hh : kN K + wd (kT K) ≤ s.h0) (hy : (x.set K (datK ac K)).ok = true) : StI (x.set K (datK ac K)) n s ac := by
 have S : Same x (x.set K (datK ac K)) K := fun q hq => set_ne I.lg.ok hy hq
 have c := set_at x K (datK ac K)
 generalize x.set K (datK ac K) = y at *
 refine ⟨I.lg.sameG hy fun i => S _ (fun e => by rw [← e, kOk_man] at hk; cases hk), I.li, fun e he => ?_, fun q hq h1 h2 => ?_, I.acok, I.ach⟩
 · obtain ⟨a, b⟩ := I.es e he
   obtain ⟨d1, d2⟩ := S e.key fun h => by rw [h, hno] at b; cases b
   exact ⟨⟨a.st, fun h0 hh => by rw [d2 b]; exact a.dt h0 b⟩, d1.trans b⟩
 · by_cases e : q = K
   · subst e
     rw [c.2]
     exact ⟨rfl, hh⟩
   · obtain ⟨d1, d2⟩ := S q e
     rw [d1] at hq
     rw [d2 hq]
     exact I.dat q hq h1 h2
theorem Gr.roll (me : Int) (I : StI x n s ac) {K d : List UInt8} (hk : kOk K = true) (ht : kT K ≠ 0) (hno : x.has K = false) (hy : (x.set K d).ok = true) : Gr me x s ac (x.set K d) s ac := by
 have hb := I.seqB
 have S : Same x (x.set K d) K := fun q hq => set_ne I.lg.ok hy hq
 generalize x.set K d = y at *
 refine ⟨Int.le_refl _, Int.le_refl _, fun _ => Int.le_refl _, ⟨[], by simp, by simp⟩, fun q h1 h2 h3 h4 => ?_, fun q h1 h2 h3 h4 h5 h6 => ?_, fun _ => ⟨rfl, fun i h1 h2 h3 => ?_⟩, fun i h1 h2 h3 => ?_⟩
 · obtain ⟨d1, d2⟩ := S q fun h => by rw [h] at h2; exact ht h2
   have := d1.symm.trans h4
   exact ⟨this, by rw [d2 this]⟩
 · exact (S q fun h => by rw [h, hno] at h6; cases h6).1.trans h6
 · obtain ⟨d1, d2⟩ := S (keyB 0 (s.seq + 1).toNat i) fun h => by rw [h, hno] at h3; cases h3
   exact ⟨d1.trans h3, by rw [d2 h3]⟩
 · obtain ⟨d1, d2⟩ := S _ (ne_of_kOk hk (kOk_pin i)).symm
   exact ⟨d1.trans h3, by rw [d2 h3]⟩
theorem Kept.roll (C : Int) (I : StI x n s ac) {K d : List UInt8} (hno : x.has K = false) (hy : (x.set K d).ok = true) : Kept C x s (x.set K d) s := fun i til h1 h2 h3 h4 h5 q h6 h7 h8 =>
 ⟨(set_ne I.lg.ok hy fun h => by rw [h, hno] at h8; cases h8).1.trans h8, h6⟩
end chg
end Go.Proofs.YtigbaclopbcjnaaGreatDoor
