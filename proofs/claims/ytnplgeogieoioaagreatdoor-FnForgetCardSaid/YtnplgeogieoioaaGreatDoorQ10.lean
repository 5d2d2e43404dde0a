/- Contracts of functions that the claim reaches, and the plain law of what they compute; each theorem bears its own conditions. -/
import Derived.Test.YtnplgeogieoioaaGreatDoorQ9
import Derived.Test.YtnplgeogieoioaaGreatDoorQ4
import Derived.Test.YtnplgeogieoioaaGreatDoorQ8
import Derived.Test.YtnplgeogieoioaaGreatDoorQ7
import Derived.Test.YtnplgeogieoioaaGreatDoorQ3
import Derived.Test.YtnplgeogieoioaaGreatDoorQ2
import Derived.Test.YtnplgeogieoioaaGreatDoorQ5
import Derived.Test.YtnplgeogieoioaaGreatDoorV52
import Derived.Test.YtnplgeogieoioaaGreatDoorQ1
set_option linter.unusedVariables false
set_option linter.constructorNameAsVariable false
set_option linter.unusedSimpArgs false
set_option maxRecDepth 20000
namespace Go.Proofs.YtnplgeogieoioaaGreatDoor
open Go Go.Vw
theorem mrgA {a b c : Ag} (ha : 0 ≤ a.c) (hb : 0 ≤ b.c) (hc : 0 ≤ c.c) : (a.mrg b).mrg c = a.mrg (b.mrg c) := by
 obtain ⟨ac, as', amn, amx, af, al⟩ := a
 obtain ⟨bc, bs, bmn, bmx, bf, bl⟩ := b
 obtain ⟨cc, cs, cmn, cmx, cf, cl⟩ := c
 simp only at ha hb hc
 unfold Ag.mrg
 by_cases h1 : ac = 0
 · simp [h1]
 by_cases h2 : bc = 0
 · simp [h1, h2]
 by_cases h3 : cc = 0
 · have : ¬ ac + bc = 0 := by omega
   simp [h1, h2, h3, this]
 have h4 : ¬ ac + bc = 0 := by omega
 have h5 : ¬ bc + cc = 0 := by omega
 simp only [h1, h2, h3, h4, h5, if_false]
 congr 1
 · omega
 · omega
 · split <;> split <;> (try split) <;> omega
 · split <;> split <;> (try split) <;> omega
theorem aggLc {L : List Smp} : ∀ i : Nat, i ≤ L.length → (aggL (L.take i)).c = i
 | 0, _ => rfl
 | i + 1, h => by
   have ih := aggLc (L := L) i (by omega)
   rw [aggL_snoc h]
   unfold Ag.mrg
   split
   · rename_i h0
     rw [ih] at h0
     simp only [one]; omega
   · rw [if_neg (show ¬ (one (ix L i).v).c = 0 by simp [one])]
     simp only [one]; omega
theorem aggL_n (L : List Smp) : (aggL L).c = L.length := by
 have := aggLc (L := L) L.length (Nat.le_refl _)
 rwa [List.take_of_length_le (Nat.le_refl _)] at this
theorem aggL_nil {L : List Smp} (h : (aggL L).c = 0) : aggL L = default := by
 rw [aggL_n] at h
 rw [List.length_eq_zero_iff.1 (show L.length = 0 by omega)]; rfl
theorem aggL_add (X : List Smp) (s : Smp) : aggL (X ++ [s]) = (aggL X).mrg (one s.v) := by
 unfold aggL; rw [List.foldl_append]; rfl
theorem aggL_both (X Y : List Smp) : aggL (X ++ Y) = (aggL X).mrg (aggL Y) := by
 have key : ∀ i : Nat, i ≤ Y.length → aggL (X ++ Y.take i) = (aggL X).mrg (aggL (Y.take i)) := by
  intro i
  induction i with
  | zero => intro _; rw [List.take_zero, List.append_nil]; exact (mrg_def _ aggL_nil).symm
  | succ i ih =>
    intro h
    rw [take_snoc h, ← List.append_assoc, aggL_add, ih (by omega), aggL_add]
    refine mrgA ?_ ?_ ?_
    · rw [aggL_n]; omega
    · rw [aggL_n]; omega
    · simp [one]
 have := key Y.length (Nat.le_refl _)
 rwa [List.take_of_length_le (Nat.le_refl _)] at this
theorem in_split {a b c : Int} (hab : a ≤ b) (hbc : b ≤ c) : ∀ {L : List Smp}, L.Pairwise (fun x y => x.t < y.t) → smpsIn L a b ++ smpsIn L b c = smpsIn L a c
 | [], _ => rfl
 | x :: r, h => by
   obtain ⟨h1, h2⟩ := List.pairwise_cons.1 h
   have ih := in_split hab hbc h2
   have e : ∀ p q, smpsIn (x :: r) p q = if within x.t p (q - 1) = true then x :: smpsIn r p q else smpsIn r p q := fun p q => by unfold smpsIn; rw [List.filter_cons]
   rw [e, e, e]
   by_cases q1 : within x.t a (b - 1) = true
   · have q2 : ¬ within x.t b (c - 1) = true := by simp [within] at q1 ⊢; omega
     have q3 : within x.t a (c - 1) = true := by simp [within] at q1 ⊢; omega
     rw [if_pos q1, if_neg q2, if_pos q3, List.cons_append, ih]
   · by_cases q2 : within x.t b (c - 1) = true
     · have q3 : within x.t a (c - 1) = true := by simp [within] at q2 ⊢; omega
       have q4 : smpsIn r a b = [] := by
        unfold smpsIn
        refine List.filter_eq_nil_iff.2 fun y hy => ?_
        have := h1 y hy
        simp [within] at q2 ⊢; omega
       rw [if_neg q1, if_pos q2, if_pos q3, ← ih, q4]; rfl
     · have q3 : ¬ within x.t a (c - 1) = true := by simp [within] at q1 q2 ⊢; omega
       rw [if_neg q1, if_neg q2, if_neg q3, ih]
theorem smps_pw {L : List Smp} (h : smpsOK L = true) : L.Pairwise (fun x y => x.t < y.t) := by
 have hh : ∀ i, i < L.length → smpAt L i = true := by
  unfold smpsOK at h
  rw [Bool.and_eq_true] at h
  exact allN_iff.1 h.2
 have key : ∀ j, j < L.length → ∀ i, i < j → (ix L i).t < (ix L j).t := by
  intro j
  induction j with
  | zero => intro _ i hi; omega
  | succ j ih =>
    intro hj i hi
    have b := hh (j + 1) hj
    simp [smpAt] at b
    rcases Nat.lt_or_ge i j with h1 | h1
    · have := ih (by omega) i h1; omega
    · have : i = j := by omega
      subst this; omega
 refine List.pairwise_iff_getElem.2 fun i j hi hj hij => ?_
 have := key j hj i hij
 rwa [ix_lt hi, ix_lt hj] at this
abbrev agI (ac : List Smp) (a b : Int) : Ag := aggL (smpsIn ac a b)
theorem agI_c (ac : List Smp) (a b : Int) : 0 ≤ (agI ac a b).c ∧ (agI ac a b).c ≤ ac.length := by
 rw [aggL_n]
 have := smpsIn_len ac a b
 omega
theorem agI_ok {ac : List Smp} (h : smpsOK ac = true) (a b : Int) : (agI ac a b).ok = true := by
 obtain ⟨h1, h2⟩ := smps_bd h
 exact (aggL_ok' (by have := smpsIn_len ac a b; omega) (fun x hx => h2 x (smpsIn_mem hx))).1
theorem agI_split {ac : List Smp} (h : smpsOK ac = true) {a b c : Int} (hab : a ≤ b) (hbc : b ≤ c) : (agI ac a b).mrg (agI ac b c) = agI ac a c := by
 unfold agI
 rw [← aggL_both, in_split hab hbc (smps_pw h)]
theorem agI_none (ac : List Smp) {a b : Int} (h : b ≤ a) : agI ac a b = default := by
 unfold agI
 have : smpsIn ac a b = [] := by
  unfold smpsIn
  refine List.filter_eq_nil_iff.2 fun y hy => ?_
  simp [within]; omega
 rw [this]; rfl
def valE (ac : List Smp) (a b : Int) (e : En) : Ag := agI ac (if a > e.f then a else e.f) (if b < e.t then b else e.t)
def gfold (ac : List Smp) (a b : Int) (g : Ag) (L : List En) : Ag := L.foldl (fun g e => g.mrg (valE ac a b e)) g
theorem gfold_c {ac : List Smp} {a b : Int} : ∀ (L : List En) (g : Ag), 0 ≤ g.c → g.c ≤ (gfold ac a b g L).c
 | [], g, _ => Int.le_refl _
 | e :: r, g, h => by
   have h1 := (agI_c ac (if a > e.f then a else e.f) (if b < e.t then b else e.t)).1
   have h1 : 0 ≤ (valE ac a b e).c := h1
   have h2 : g.c ≤ (g.mrg (valE ac a b e)).c := by
    unfold Ag.mrg
    split
    · omega
    · split
      · omega
      · simp only; omega
   have := gfold_c (ac := ac) (a := a) (b := b) r (g.mrg (valE ac a b e)) (by omega)
   exact Int.le_trans h2 this
theorem valE_no {ac : List Smp} {a b : Int} {e : En} (h : tch a b e = false) : valE ac a b e = default := by
 unfold valE
 refine agI_none ac ?_
 unfold tch at h
 have := of_decide_eq_false h
 omega
theorem gfold_tch {ac : List Smp} {a b : Int} : ∀ (L : List En) (g : Ag), (g.c = 0 → g = default) → 0 ≤ g.c → gfold ac a b g (L.filter (tch a b)) = gfold ac a b g L
 | [], _, _, _ => rfl
 | e :: r, g, hg, hc => by
   cases ht : tch a b e with
   | true =>
     rw [List.filter_cons_of_pos ht]
     have hv := (agI_c ac (if a > e.f then a else e.f) (if b < e.t then b else e.t)).1
     have hv : 0 ≤ (valE ac a b e).c := hv
     refine gfold_tch r (g.mrg (valE ac a b e)) (fun h => ?_) ?_
     · unfold Ag.mrg at h ⊢
       split at h
       · rename_i h0
         rw [if_pos h0]
         exact aggL_nil h
       · split at h
         · rename_i h0 _; exact absurd h h0
         · simp only at h; omega
     · unfold Ag.mrg
       split
       · exact hv
       · split
         · exact hc
         · simp only; omega
   | false =>
     rw [List.filter_cons_of_neg (by rw [ht]; simp)]
     show _ = gfold ac a b (g.mrg (valE ac a b e)) r
     rw [valE_no ht, mrg_def g hg]
     exact gfold_tch r g hg hc
theorem gfold_runs {ac : List Smp} (hk : smpsOK ac = true) {a b : Int} (hab : a ≤ b) : ∀ (L : List En) (p q : Int) (g : Ag), runs L p = some q → (∀ e ∈ L, e.f ≤ e.t) → g = agI ac a (if p < a then a else if b < p then b else p) → gfold ac a b g L = agI ac a (if q < a then a else if b < q then b else q)
 | [], p, q, g, hr, _, hg => by
   have : p = q := by simpa [runs] using hr
   subst this
   exact hg
 | e :: r, p, q, g, hr, hL, hg => by
   have he := hL e (by simp)
   unfold runs at hr
   split at hr
   · rename_i hf
     refine gfold_runs hk hab r e.t q _ hr (fun y hy => hL y (by simp [hy])) ?_
     rw [hg]
     show Ag.mrg _ (valE ac a b e) = _
     unfold valE
     rw [hf]
     rw [hf] at he
     by_cases h1 : p < a
     · rw [if_pos h1]
       rw [agI_none ac (Int.le_refl a), def_mrg, if_pos (show a > p by omega)]
       by_cases h2 : e.t < a
       · rw [if_pos h2, agI_none ac (show (if b < e.t then b else e.t) ≤ a by split <;> omega), agI_none ac (Int.le_refl a)]
       · rw [if_neg h2]
     · rw [if_neg h1, if_neg (show ¬ a > p by omega)]
       by_cases h2 : b < p
       · rw [if_pos h2, agI_none ac (show (if b < e.t then b else e.t) ≤ p by split <;> omega), if_neg (show ¬ e.t < a by omega), if_pos (show b < e.t by omega)]
         exact mrg_def _ aggL_nil
       · rw [if_neg h2, if_neg (show ¬ e.t < a by omega)]
         refine agI_split hk (by omega) ?_
         split <;> omega
   · cases hr
theorem gfold_cover {ac : List Smp} (hk : smpsOK ac = true) {a b p q : Int} (hab : a ≤ b) {L : List En} (hr : runs L p = some q) (hL : ∀ e ∈ L, e.f ≤ e.t) (hp : p ≤ a) (hq : b ≤ q) : gfold ac a b default (L.filter (tch a b)) = agI ac a b := by
 rw [gfold_tch L default (fun _ => rfl) (Int.le_refl _)]
 have h1 : (default : Ag) = agI ac a (if p < a then a else if b < p then b else p) := by
  rw [agI_none]
  split
  · exact Int.le_refl _
  · split <;> omega
 have := gfold_runs hk hab L p q default hr hL h1
 rw [this]
 congr 2
 split
 · omega
 · split <;> omega
theorem in_later {ac b : List Smp} {h0 : Int} (hb : ∀ s ∈ b, h0 ≤ s.t) {f t : Int} (ht : t ≤ h0) : smpsIn (ac ++ b) f t = smpsIn ac f t := by
 unfold smpsIn
 rw [List.filter_append]
 have : b.filter (fun e => within e.t f (t - 1)) = [] := List.filter_eq_nil_iff.2 fun y hy => by
  have := hb y hy
  simp [within]; omega
 rw [this, List.append_nil]
theorem LogX.le {x : Sto} {n : Nat} {s : Sta} (h : LogX x n s) : n ≤ x.os.length ∧ n ≤ 300 := by
 have hl := ((stoOK_iff x).1 h.ok).len
 have key : ∀ k : Nat, k ≤ n → k ≤ 999998 → k ≤ x.os.length := fun k h1 h2 => log_len (x := x) h2 fun j hj => by rw [h.has _ (by omega) (by omega)]; exact decide_eq_true (by omega)
 rcases Nat.lt_or_ge n 999998 with h1 | h1
 · have := key n (Nat.le_refl _) (by omega)
   omega
 · have := key 301 (by omega) (by omega)
   omega
theorem LogX.seq {x : Sto} {n : Nat} {s : Sta} (h : LogX x n s) : s.seq = (n : Int) := by
 have := (log_b x).1
 rw [h.log, h.fin] at this
 exact this
theorem LogX.sok {x : Sto} {n : Nat} {s : Sta} (h : LogX x n s) : s.ok = true := by rw [← h.log]; exact logS_ok x
theorem LogX.sameG {x y : Sto} {n : Nat} {s : Sta} (h : LogX x n s) (hy : y.ok = true) (a1 : ∀ i : Int, y.has (manK i) = x.has (manK i) ∧ (x.has (manK i) = true → y.get (manK i) = x.get (manK i))) : LogX y n s := by
 have hn := h.le
 have g1 : ∀ q : Nat, 1 ≤ q → q ≤ 999999 → y.has (manK (q : Int)) = decide (q ≤ n) := fun q h1 h2 => (a1 _).1.trans (h.has q h1 h2)
 have gd : ∀ j, j < n → y.has (manK ((j + 1 : Nat) : Int)) = true ∧ (y.get (manK ((j + 1 : Nat) : Int))).data = (x.get (manK ((j + 1 : Nat) : Int))).data := fun j hj => by
  have hh : x.has (manK ((j + 1 : Nat) : Int)) = true := by rw [h.has _ (by omega) (by omega)]; exact decide_eq_true (by omega)
  obtain ⟨c1, c2⟩ := a1 ((j + 1 : Nat) : Int)
  exact ⟨c1.trans hh, by rw [c2 hh]⟩
 have e1 : n = logEnd y := log_end hy (by omega) (fun j hj => (gd j hj).1) (by rw [g1 _ (by omega) (by omega)]; exact decide_eq_false (by omega))
 refine ⟨hy, g1, e1.symm, ?_⟩
 rw [← h.log]
 unfold logS
 rw [← e1, h.fin]
 exact logN_congr n fun j hj => (gd j hj).2
def Same (x y : Sto) (k : List UInt8) : Prop := ∀ q, q ≠ k → y.has q = x.has q ∧ (x.has q = true → y.get q = x.get q)
theorem LogX.layG {x : Sto} {n : Nat} {s : Sta} (h : LogX x n s) {r : Rc} (hr : r.ok = true) :
 (∃ c : Int, c ≠ 0 ∧ c ≠ 9 ∧ appS x ((n + 1 : Nat) : Int) r = (x, c)) ∨
 ∃ y, appS x ((n + 1 : Nat) : Int) r = (y, 0) ∧ LogX y (n + 1) (s.app r) ∧ Same x y (manK ((n + 1 : Nat) : Int)) ∧ y.os.length = x.os.length + 1 := by
 have hn := h.le
 have hno : x.has (manK ((n + 1 : Nat) : Int)) = false := by rw [h.has _ (by omega) (by omega)]; exact decide_eq_false (by omega)
 have hlen := Rc.txt_len hr
 have hok := (stoOK_iff x).1 h.ok
 by_cases hroom : x.room (manK ((n + 1 : Nat) : Int)) r.text = 0
 · right
   have hl : x.os.length < 300 := by
    unfold Sto.room at hroom
    rw [if_neg (by omega), hno] at hroom
    split at hroom
    · cases hroom
    · rename_i hq
      have := hok.len
      rcases Nat.lt_or_ge x.os.length 300 with g | g
      · exact g
      · have : x.os.length = 300 := by omega
        exact absurd (by simp [this]) hq
   have p3 : (x.set (manK ((n + 1 : Nat) : Int)) r.text).ok = true := set_ok h.ok (manK_keyOK _) hroom
   have ha : appS x ((n + 1 : Nat) : Int) r = (x.set (manK ((n + 1 : Nat) : Int)) r.text, 0) := by
    unfold appS Sto.putA Sto.put
    rw [if_neg (by rw [hno]; simp), if_pos hroom, hroom]
   have a4 := set_at x (manK ((n + 1 : Nat) : Int)) r.text
   have a2 : ∀ k, k ≠ manK ((n + 1 : Nat) : Int) → (x.set (manK ((n + 1 : Nat) : Int)) r.text).has k = x.has k ∧ (x.has k = true → (x.set (manK ((n + 1 : Nat) : Int)) r.text).get k = x.get k) := fun k hk => set_ne h.ok p3 hk
   have hol : (x.set (manK ((n + 1 : Nat) : Int)) r.text).os.length = x.os.length + 1 := by
    unfold Sto.set
    have hp := lb_le (manK ((n + 1 : Nat) : Int)) x.os
    have hp : x.pos (manK ((n + 1 : Nat) : Int)) ≤ x.os.length := hp
    simp only [hno, Bool.false_eq_true, if_false, List.length_append, List.length_cons, List.length_take, List.length_drop]
    omega
   refine ⟨x.set (manK ((n + 1 : Nat) : Int)) r.text, ha, ?_, a2, hol⟩
   generalize x.set (manK ((n + 1 : Nat) : Int)) r.text = z at *
   have a6 : ∀ k : Nat, 1 ≤ k → k ≤ 999999 → z.has (manK (k : Int)) = decide (k ≤ n + 1) := fun k h1 h2 => by
    by_cases e : k = n + 1
    · subst e
      rw [a4.1, decide_eq_true (by omega)]
    · rw [(a2 _ fun e' => e (manK_inj h2 (by omega) e')).1, h.has k h1 h2]
      by_cases h3 : k ≤ n
      · rw [decide_eq_true h3, decide_eq_true (by omega)]
      · rw [decide_eq_false h3, decide_eq_false (by omega)]
   have gd : ∀ j, j < n → x.has (manK ((j + 1 : Nat) : Int)) = true := fun j hj => by rw [h.has _ (by omega) (by omega)]; exact decide_eq_true (by omega)
   obtain ⟨q1, q2⟩ := log_grow (x := x) (y := z) p3 (n := n) (by omega) gd h.fin
    (fun j hj => by
     obtain ⟨c1, c2⟩ := a2 (manK ((j + 1 : Nat) : Int)) (fun e' => by have := manK_inj (by omega) (by omega) e'; omega)
     exact ⟨c1.trans (gd j hj), by rw [c2 (gd j hj)]⟩)
    a4.1 (by rw [a6 _ (by omega) (by omega)]; exact decide_eq_false (by omega))
   refine ⟨p3, a6, q1, ?_⟩
   rw [q2, a4.2, h.log]
   unfold Sta.lay
   simp only
   rw [text_back hr]
 · left
   refine ⟨x.room (manK ((n + 1 : Nat) : Int)) r.text, hroom, ?_, ?_⟩
   · unfold Sto.room
     split
     · decide
     · split <;> decide
   · unfold appS Sto.putA Sto.put
     rw [if_neg (by rw [hno]; simp), if_neg hroom]
def ingR (id : Int) : Ig := ⟨id, 0, 0, 0, [], false⟩
def ingRec (g : Ig) : Rc := ⟨1, 0, 0, g.f, g.t, keyB 0 g.seq.toNat g.id.toNat⟩
def ingK (x : Sto) (g : Ig) : List UInt8 := keyB 0 ((logS x).seq + 1).toNat g.id.toNat
def ingPut (x : Sto) (g : Ig) : Ig := ⟨g.id, (logS x).seq + 1, (logS x).h0, (ix g.b (g.b.length - 1)).t + 1, g.b, true⟩
def stI (x : Sto) (g : Ig) : Sto × Ig × Bool × Int :=
 if g.b.length = 0 then (x, g, false, 18)
 else if g.put = true then
  if (appS x g.seq (ingRec g)).2 = 0 then ((appS x g.seq (ingRec g)).1, ingR g.id, true, 0)
  else if (appS x g.seq (ingRec g)).2 = 9 then (x, ⟨g.id, 0, 0, 0, g.b, false⟩, false, 0)
  else (x, ingR g.id, false, (appS x g.seq (ingRec g)).2)
 else if (ix g.b 0).t < (logS x).h0 then (x, ingR g.id, false, 14)
 else if (logS x).seq = 999999 then (x, ingR g.id, false, 7)
 else if x.room (ingK x g) (smpsText g.b) = 0 then (x.set (ingK x g) (smpsText g.b), ingPut x g, false, 0)
 else (x, ingR g.id, false, x.room (ingK x g) (smpsText g.b))
structure IgF (g : Ig) : Prop where
 id : 0 ≤ g.id ∧ g.id ≤ 9
 sm : smpsOK g.b = true
 len : g.b.length ≤ 8
 put : g.put = true → 0 < g.b.length ∧ (1 ≤ g.seq ∧ g.seq ≤ 999999) ∧ (0 ≤ g.f ∧ g.f ≤ (ix g.b 0).t) ∧ g.t = (ix g.b (g.b.length - 1)).t + 1
theorem Ig.facts {g : Ig} (h : g.ok = true) : IgF g := by
 obtain ⟨id, seq, f, t, b, put⟩ := g
 unfold Ig.ok igOK at h
 simp only [Bool.and_eq_true, Bool.not_eq_true', decide_eq_false_iff_not] at h
 obtain ⟨h1, h2, h3, h4⟩ := h
 refine ⟨by simpa [within] using h1, h2, by simp only; omega, fun hp => ?_⟩
 have hp : put = true := hp
 subst hp
 simp only [if_true, Bool.and_eq_true, decide_eq_true_eq, within] at h4
 obtain ⟨a1, ⟨a2, a3⟩, ⟨a4, a5⟩, a6⟩ := h4
 have e : ((b.length : Int) - 1).toNat = b.length - 1 := by omega
 rw [e] at a6
 have a5 : f ≤ (ix b 0).t := a5
 show 0 < b.length ∧ (1 ≤ seq ∧ seq ≤ 999999) ∧ (0 ≤ f ∧ f ≤ (ix b 0).t) ∧ t = (ix b (b.length - 1)).t + 1
 exact ⟨by omega, ⟨a2, a3⟩, ⟨a4, a5⟩, a6⟩
theorem smps_srt {L : List Smp} (h : smpsOK L = true) : ∀ i j, i ≤ j → j < L.length → (ix L i).t ≤ (ix L j).t := by
 have hh : ∀ i, i < L.length → smpAt L i = true := by
  unfold smpsOK at h
  rw [Bool.and_eq_true] at h
  exact allN_iff.1 h.2
 intro i j hij
 induction j with
 | zero => intro _; rw [show i = 0 by omega]; exact Int.le_refl _
 | succ j ih =>
   intro hj
   rcases Nat.lt_or_ge i (j + 1) with h1 | h1
   · have a := ih (by omega) (by omega)
     have b := hh (j + 1) hj
     simp [smpAt] at b
     omega
   · rw [show i = j + 1 by omega]; exact Int.le_refl _
theorem ingRec_ok {g : Ig} (h : IgF g) (hp : g.put = true) : (ingRec g).ok = true := by
 obtain ⟨p1, p2, p3, p4⟩ := h.put hp
 have b0 := smps_b h.sm (i := 0) (by omega)
 have b1 := smps_b h.sm (i := g.b.length - 1) (by omega)
 have hs : (ix g.b 0).t ≤ (ix g.b (g.b.length - 1)).t := by
  exact smps_srt h.sm 0 (g.b.length - 1) (by omega) (by omega)
 have hid := h.id
 obtain ⟨k1, k2, k3, k4⟩ := key_fields (t := 0) (n := g.seq.toNat) (w := g.id.toNat) (by omega) (by omega) (by omega)
 unfold Rc.ok ingRec Rc.en En.ok
 simp only [if_true, k1, k2, isRange, within]
 simp
 omega
theorem step_idle (x : Sto) (g : Ig) (h0 : g.b.length = 0) : VFn Tryz.prog 164 [g.av, x.av] (.tup [x.av, g.av, .bool false, .int .i64 18]) := by
 have e0 : decide ((g.b.length : Int) = 0) = true := decide_eq_true (by omega)
 refine VFn.introC Tryz.call164 Tryz.func164 rfl rfl ?_
 repeat' (conv => whnf
          first
           | (refine Grd.intro (fun h => ?_) (fun h => ?_); rotate_left; focus (exfalso; simp_all; done))
           | (refine Grd.intro (fun h => ?_) (fun h => ?_); focus (exfalso; simp_all; done))
           | (refine Grd.intro (fun h => ?_) (fun h => ?_); focus (exact absurd (h.symm.trans e1) (by decide)))
           | refine And.intro (inI64 (by omega) (by omega)) ?_
           | refine And.intro (by omega) ?_
           | (refine And.intro trivial (AVle.refl _); done)
           | fail)
 refine DrawC.mkQ 6 [(.inl 2, 2), (.inl 3, 3)] rfl (by kernel_rfl) ?_
 refine And.intro rfl ?_
 repeat' (conv => whnf
          first
           | (refine Grd.intro (fun h => ?_) (fun h => ?_); rotate_left; focus (exfalso; simp_all; done))
           | (refine Grd.intro (fun h => ?_) (fun h => ?_); focus (exfalso; simp_all; done))
           | (refine Grd.intro (fun h => ?_) (fun h => ?_); focus (exact absurd (h.symm.trans e1) (by decide)))
           | refine And.intro (inI64 (by omega) (by omega)) ?_
           | refine And.intro (by omega) ?_
           | (refine And.intro trivial (AVle.refl _); done)
           | fail)
theorem step_put (x : Sto) (hs : x.ok = true) (g : Ig) (h0 : 0 < g.b.length) (hp : g.put = true) (hid : 0 ≤ g.id ∧ g.id ≤ 9) (hsq : 1 ≤ g.seq ∧ g.seq ≤ 999999) (hr : (ingRec g).ok = true) (y : Sto) (c : Int) (hc : appS x g.seq (ingRec g) = (y, c)) :
 VFn Tryz.prog 164 [g.av, x.av] (.tup [(if c = 0 then y else x).av, (if c = 9 then ⟨g.id, 0, 0, 0, g.b, false⟩ else ingR g.id : Ig).av, .bool (decide (c = 0)), .int .i64 (if c = 9 then 0 else c)]) := by
 have e0 : decide ((g.b.length : Int) = 0) = false := decide_eq_false (by omega)
 have dk : VFn Tryz.prog 199 [.int .i64 0, .int .i64 g.seq, .int .i64 g.id] (.str (B (keyB 0 g.seq.toNat g.id.toNat))) := dataKey_fn 0 g.seq g.id (by omega) (by simp [within]; omega) (by simp [within]; omega)
 have cl := lay_fn x hs g.seq (by simp [within]; omega) (ingRec g) hr
 rw [hc] at cl
 simp only at cl
 unfold ingRec at cl
 by_cases h1 : c = 0
 · subst h1
   refine VFn.introC Tryz.call164 Tryz.func164 rfl rfl ?_
   repeat' (conv => whnf
            first
             | (refine Grd.intro (fun h => ?_) (fun h => ?_); rotate_left; focus (exfalso; simp_all; done))
             | (refine Grd.intro (fun h => ?_) (fun h => ?_); focus (exfalso; simp_all; done))
             | (refine Grd.intro (fun h => ?_) (fun h => ?_); focus (exact absurd (h.symm.trans e1) (by decide)))
             | refine And.intro (inI64 (by omega) (by omega)) ?_
             | refine And.intro (by omega) ?_
             | refine PCallQ.sca _ (dk) rfl ?_
             | refine PCallQ.nl _ (cl) rfl ?_
             | (refine And.intro trivial (AVle.tup (AVsle.cons (AVle.refl _) (AVsle.cons (AVle.agg (AVsle.cons (AVle.refl _) (AVsle.cons (AVle.refl _) (AVsle.cons (AVle.refl _) (AVsle.cons (AVle.refl _) (AVsle.cons (AVle.nilsl _ _ rfl) (AVsle.refl _))))))) (AVsle.refl _)))); done)
             | (refine And.intro trivial (AVle.refl _); done)
             | fail)
   refine DrawC.mkQ 20 [(.inr 17, 18)] rfl (by kernel_rfl) ?_
   refine And.intro rfl ?_
   repeat' (conv => whnf
            first
             | (refine Grd.intro (fun h => ?_) (fun h => ?_); rotate_left; focus (exfalso; simp_all; done))
             | (refine Grd.intro (fun h => ?_) (fun h => ?_); focus (exfalso; simp_all; done))
             | (refine Grd.intro (fun h => ?_) (fun h => ?_); focus (exact absurd (h.symm.trans e1) (by decide)))
             | refine And.intro (inI64 (by omega) (by omega)) ?_
             | refine And.intro (by omega) ?_
             | refine PCallQ.sca _ (dk) rfl ?_
             | refine PCallQ.nl _ (cl) rfl ?_
             | (refine And.intro trivial (AVle.tup (AVsle.cons (AVle.refl _) (AVsle.cons (AVle.agg (AVsle.cons (AVle.refl _) (AVsle.cons (AVle.refl _) (AVsle.cons (AVle.refl _) (AVsle.cons (AVle.refl _) (AVsle.cons (AVle.nilsl _ _ rfl) (AVsle.refl _))))))) (AVsle.refl _)))); done)
             | (refine And.intro trivial (AVle.refl _); done)
             | fail)
   refine DrawC.mkQ 8 [(.inl 2, 4), (.inl 3, 5)] rfl (by kernel_rfl) ?_
   refine And.intro rfl ?_
   repeat' (conv => whnf
            first
             | (refine Grd.intro (fun h => ?_) (fun h => ?_); rotate_left; focus (exfalso; simp_all; done))
             | (refine Grd.intro (fun h => ?_) (fun h => ?_); focus (exfalso; simp_all; done))
             | (refine Grd.intro (fun h => ?_) (fun h => ?_); focus (exact absurd (h.symm.trans e1) (by decide)))
             | refine And.intro (inI64 (by omega) (by omega)) ?_
             | refine And.intro (by omega) ?_
             | refine PCallQ.sca _ (dk) rfl ?_
             | refine PCallQ.nl _ (cl) rfl ?_
             | (refine And.intro trivial (AVle.tup (AVsle.cons (AVle.refl _) (AVsle.cons (AVle.agg (AVsle.cons (AVle.refl _) (AVsle.cons (AVle.refl _) (AVsle.cons (AVle.refl _) (AVsle.cons (AVle.refl _) (AVsle.cons (AVle.nilsl _ _ rfl) (AVsle.refl _))))))) (AVsle.refl _)))); done)
             | (refine And.intro trivial (AVle.refl _); done)
             | fail)
 · by_cases h9 : c = 9
   · subst h9
     refine VFn.introC Tryz.call164 Tryz.func164 rfl rfl ?_
     repeat' (conv => whnf
              first
               | (refine Grd.intro (fun h => ?_) (fun h => ?_); rotate_left; focus (exfalso; simp_all; done))
               | (refine Grd.intro (fun h => ?_) (fun h => ?_); focus (exfalso; simp_all; done))
               | (refine Grd.intro (fun h => ?_) (fun h => ?_); focus (exact absurd (h.symm.trans e1) (by decide)))
               | refine And.intro (inI64 (by omega) (by omega)) ?_
               | refine And.intro (by omega) ?_
               | refine PCallQ.sca _ (dk) rfl ?_
               | refine PCallQ.nl _ (cl) rfl ?_
               | (refine And.intro trivial (AVle.tup (AVsle.cons (AVle.refl _) (AVsle.cons (AVle.agg (AVsle.cons (AVle.refl _) (AVsle.cons (AVle.refl _) (AVsle.cons (AVle.refl _) (AVsle.cons (AVle.refl _) (AVsle.cons (AVle.nilsl _ _ rfl) (AVsle.refl _))))))) (AVsle.refl _)))); done)
               | (refine And.intro trivial (AVle.refl _); done)
               | fail)
     refine DrawC.mkQ 20 [(.inr 17, 18)] rfl (by kernel_rfl) ?_
     refine And.intro rfl ?_
     repeat' (conv => whnf
              first
               | (refine Grd.intro (fun h => ?_) (fun h => ?_); rotate_left; focus (exfalso; simp_all; done))
               | (refine Grd.intro (fun h => ?_) (fun h => ?_); focus (exfalso; simp_all; done))
               | (refine Grd.intro (fun h => ?_) (fun h => ?_); focus (exact absurd (h.symm.trans e1) (by decide)))
               | refine And.intro (inI64 (by omega) (by omega)) ?_
               | refine And.intro (by omega) ?_
               | refine PCallQ.sca _ (dk) rfl ?_
               | refine PCallQ.nl _ (cl) rfl ?_
               | (refine And.intro trivial (AVle.tup (AVsle.cons (AVle.refl _) (AVsle.cons (AVle.agg (AVsle.cons (AVle.refl _) (AVsle.cons (AVle.refl _) (AVsle.cons (AVle.refl _) (AVsle.cons (AVle.refl _) (AVsle.cons (AVle.nilsl _ _ rfl) (AVsle.refl _))))))) (AVsle.refl _)))); done)
               | (refine And.intro trivial (AVle.refl _); done)
               | fail)
     refine DrawC.mkQ 10 [(.inl 2, 6), (.inl 3, 7)] rfl (by kernel_rfl) ?_
     refine And.intro rfl ?_
     repeat' (conv => whnf
              first
               | (refine Grd.intro (fun h => ?_) (fun h => ?_); rotate_left; focus (exfalso; simp_all; done))
               | (refine Grd.intro (fun h => ?_) (fun h => ?_); focus (exfalso; simp_all; done))
               | (refine Grd.intro (fun h => ?_) (fun h => ?_); focus (exact absurd (h.symm.trans e1) (by decide)))
               | refine And.intro (inI64 (by omega) (by omega)) ?_
               | refine And.intro (by omega) ?_
               | refine PCallQ.sca _ (dk) rfl ?_
               | refine PCallQ.nl _ (cl) rfl ?_
               | (refine And.intro trivial (AVle.tup (AVsle.cons (AVle.refl _) (AVsle.cons (AVle.agg (AVsle.cons (AVle.refl _) (AVsle.cons (AVle.refl _) (AVsle.cons (AVle.refl _) (AVsle.cons (AVle.refl _) (AVsle.cons (AVle.nilsl _ _ rfl) (AVsle.refl _))))))) (AVsle.refl _)))); done)
               | (refine And.intro trivial (AVle.refl _); done)
               | fail)
   · have e1 : decide (c = 0) = false := decide_eq_false h1
     have e9 : decide (c = 9) = false := decide_eq_false h9
     rw [if_neg h1, if_neg h9, if_neg h9, e1]
     refine VFn.introC Tryz.call164 Tryz.func164 rfl rfl ?_
     repeat' (conv => whnf
              first
               | (refine Grd.intro (fun h => ?_) (fun h => ?_); rotate_left; focus (exfalso; simp_all; done))
               | (refine Grd.intro (fun h => ?_) (fun h => ?_); focus (exfalso; simp_all; done))
               | (refine Grd.intro (fun h => ?_) (fun h => ?_); focus (exact absurd (h.symm.trans e1) (by decide)))
               | refine And.intro (inI64 (by omega) (by omega)) ?_
               | refine And.intro (by omega) ?_
               | refine PCallQ.sca _ (dk) rfl ?_
               | refine PCallQ.nl _ (cl) rfl ?_
               | (refine And.intro trivial (AVle.tup (AVsle.cons (AVle.refl _) (AVsle.cons (AVle.agg (AVsle.cons (AVle.refl _) (AVsle.cons (AVle.refl _) (AVsle.cons (AVle.refl _) (AVsle.cons (AVle.refl _) (AVsle.cons (AVle.nilsl _ _ rfl) (AVsle.refl _))))))) (AVsle.refl _)))); done)
               | (refine And.intro trivial (AVle.refl _); done)
               | fail)
     refine DrawC.mkQ 20 [(.inr 17, 18)] rfl (by kernel_rfl) ?_
     refine And.intro rfl ?_
     repeat' (conv => whnf
              first
               | (refine Grd.intro (fun h => ?_) (fun h => ?_); rotate_left; focus (exfalso; simp_all; done))
               | (refine Grd.intro (fun h => ?_) (fun h => ?_); focus (exfalso; simp_all; done))
               | (refine Grd.intro (fun h => ?_) (fun h => ?_); focus (exact absurd (h.symm.trans e1) (by decide)))
               | refine And.intro (inI64 (by omega) (by omega)) ?_
               | refine And.intro (by omega) ?_
               | refine PCallQ.sca _ (dk) rfl ?_
               | refine PCallQ.nl _ (cl) rfl ?_
               | (refine And.intro trivial (AVle.tup (AVsle.cons (AVle.refl _) (AVsle.cons (AVle.agg (AVsle.cons (AVle.refl _) (AVsle.cons (AVle.refl _) (AVsle.cons (AVle.refl _) (AVsle.cons (AVle.refl _) (AVsle.cons (AVle.nilsl _ _ rfl) (AVsle.refl _))))))) (AVsle.refl _)))); done)
               | (refine And.intro trivial (AVle.refl _); done)
               | fail)
     refine DrawC.mkQ 9 [(.inl 2, 5), (.inl 3, 6)] rfl (by kernel_rfl) ?_
     refine And.intro rfl ?_
     repeat' (conv => whnf
              first
               | (refine Grd.intro (fun h => ?_) (fun h => ?_); rotate_left; focus (exfalso; simp_all; done))
               | (refine Grd.intro (fun h => ?_) (fun h => ?_); focus (exfalso; simp_all; done))
               | (refine Grd.intro (fun h => ?_) (fun h => ?_); focus (exact absurd (h.symm.trans e1) (by decide)))
               | refine And.intro (inI64 (by omega) (by omega)) ?_
               | refine And.intro (by omega) ?_
               | refine PCallQ.sca _ (dk) rfl ?_
               | refine PCallQ.nl _ (cl) rfl ?_
               | (refine And.intro trivial (AVle.tup (AVsle.cons (AVle.refl _) (AVsle.cons (AVle.agg (AVsle.cons (AVle.refl _) (AVsle.cons (AVle.refl _) (AVsle.cons (AVle.refl _) (AVsle.cons (AVle.refl _) (AVsle.cons (AVle.nilsl _ _ rfl) (AVsle.refl _))))))) (AVsle.refl _)))); done)
               | (refine And.intro trivial (AVle.refl _); done)
               | fail)
theorem step_late (x : Sto) (hs : x.ok = true) (g : Ig) (h0 : 0 < g.b.length) (hp : g.put = false) (hid : 0 ≤ g.id ∧ g.id ≤ 9) (hv : smpsOK g.b = true) (k : Int) (hk : (if (ix g.b 0).t < (logS x).h0 then (14 : Int) else if (logS x).seq = 999999 then 7 else 0) = k) (hk0 : k ≠ 0) :
 VFn Tryz.prog 164 [g.av, x.av] (.tup [x.av, (ingR g.id).av, .bool false, .int .i64 k]) := by
 have e0 : decide ((g.b.length : Int) = 0) = false := decide_eq_false (by omega)
 have ek : decide (k = 0) = false := decide_eq_false hk0
 have c2 := log_fn x hs
 have c3 : ∀ (n : Nat) (rows : Nat → List AV), FirstRows 4 3 rows 0 [(decide ((ix g.b 0).t < (logS x).h0), 14), (decide ((logS x).seq = 999999), 7)] → n = 4 → VFn Tryz.prog 30 [.sl 1 n rows] (.int .i64 k) := fun n rows hr hn => first2_of _ _ _ _ hr hn (by simpa using hk)
 refine VFn.introC Tryz.call164 Tryz.func164 rfl rfl ?_
 repeat' (conv => whnf
          first
           | (refine Grd.intro (fun h => ?_) (fun h => ?_); rotate_left; focus (exfalso; simp_all; done))
           | (refine Grd.intro (fun h => ?_) (fun h => ?_); focus (exfalso; simp_all; done))
           | (refine Grd.intro (fun h => ?_) (fun h => ?_); focus (exact absurd (h.symm.trans e1) (by decide)))
           | refine And.intro (inI64 (by omega) (by omega)) ?_
           | refine And.intro (by omega) ?_
           | (refine CallC.nl _ (c2) ?_ ?_; focus (exact rfl))
           | refine PCallQ.sca _ (c3 _ _ ⟨rfl, rfl, rfl, rfl, trivial⟩ rfl) rfl ?_
           | (refine And.intro trivial (AVle.tup (AVsle.cons (AVle.refl _) (AVsle.cons (AVle.agg (AVsle.cons (AVle.refl _) (AVsle.cons (AVle.refl _) (AVsle.cons (AVle.refl _) (AVsle.cons (AVle.refl _) (AVsle.cons (AVle.nilsl _ _ rfl) (AVsle.refl _))))))) (AVsle.refl _)))); done)
           | (refine And.intro trivial (AVle.refl _); done)
           | fail)
 refine DrawC.mq 19 rfl (by kernel_rfl) ?_
 repeat' (conv => whnf
          first
           | (refine Grd.intro (fun h => ?_) (fun h => ?_); rotate_left; focus (exfalso; simp_all; done))
           | (refine Grd.intro (fun h => ?_) (fun h => ?_); focus (exfalso; simp_all; done))
           | (refine Grd.intro (fun h => ?_) (fun h => ?_); focus (exact absurd (h.symm.trans e1) (by decide)))
           | refine And.intro (inI64 (by omega) (by omega)) ?_
           | refine And.intro (by omega) ?_
           | (refine CallC.nl _ (c2) ?_ ?_; focus (exact rfl))
           | refine PCallQ.sca _ (c3 _ _ ⟨rfl, rfl, rfl, rfl, trivial⟩ rfl) rfl ?_
           | (refine And.intro trivial (AVle.tup (AVsle.cons (AVle.refl _) (AVsle.cons (AVle.agg (AVsle.cons (AVle.refl _) (AVsle.cons (AVle.refl _) (AVsle.cons (AVle.refl _) (AVsle.cons (AVle.refl _) (AVsle.cons (AVle.nilsl _ _ rfl) (AVsle.refl _))))))) (AVsle.refl _)))); done)
           | (refine And.intro trivial (AVle.refl _); done)
           | fail)
 refine DrawC.mkQ 9 [(.inl 2, 5), (.inl 3, 6)] rfl (by kernel_rfl) ?_
 refine And.intro rfl ?_
 repeat' (conv => whnf
          first
           | (refine Grd.intro (fun h => ?_) (fun h => ?_); rotate_left; focus (exfalso; simp_all; done))
           | (refine Grd.intro (fun h => ?_) (fun h => ?_); focus (exfalso; simp_all; done))
           | (refine Grd.intro (fun h => ?_) (fun h => ?_); focus (exact absurd (h.symm.trans e1) (by decide)))
           | refine And.intro (inI64 (by omega) (by omega)) ?_
           | refine And.intro (by omega) ?_
           | (refine CallC.nl _ (c2) ?_ ?_; focus (exact rfl))
           | refine PCallQ.sca _ (c3 _ _ ⟨rfl, rfl, rfl, rfl, trivial⟩ rfl) rfl ?_
           | (refine And.intro trivial (AVle.tup (AVsle.cons (AVle.refl _) (AVsle.cons (AVle.agg (AVsle.cons (AVle.refl _) (AVsle.cons (AVle.refl _) (AVsle.cons (AVle.refl _) (AVsle.cons (AVle.refl _) (AVsle.cons (AVle.nilsl _ _ rfl) (AVsle.refl _))))))) (AVsle.refl _)))); done)
           | (refine And.intro trivial (AVle.refl _); done)
           | fail)
theorem step_new (x : Sto) (hs : x.ok = true) (g : Ig) (h0 : 0 < g.b.length) (h8 : g.b.length ≤ 8) (hp : g.put = false) (hid : 0 ≤ g.id ∧ g.id ≤ 9) (hv : smpsOK g.b = true) (hl1 : ¬ (ix g.b 0).t < (logS x).h0) (hl2 : ¬ (logS x).seq = 999999) (hl3 : 0 ≤ (logS x).seq ∧ (logS x).seq ≤ 999999) (y : Sto) (n c : Int) (hy : (if x.room (ingK x g) (smpsText g.b) = 0 then AV.tup [(x.set (ingK x g) (smpsText g.b)).av, .int .i64 x.next, .int .i64 0] else .tup [x.av, .int .i64 0, .int .i64 (x.room (ingK x g) (smpsText g.b))]) = .tup [y.av, .int .i64 n, .int .i64 c]) :
 VFn Tryz.prog 164 [g.av, x.av] (.tup [(if c = 0 then y else x).av, (if c = 0 then ingPut x g else ingR g.id : Ig).av, .bool false, .int .i64 c]) := by
 have e0 : decide ((g.b.length : Int) = 0) = false := decide_eq_false (by omega)
 have hnum := smpsOK_num hv
 have hlen := smpsText_len hnum
 have b1 := smps_b hv (i := ((g.b.length : Int) - 1).toNat) (by omega)
 have et : ((g.b.length : Int) - 1).toNat = g.b.length - 1 := by omega
 have c2 := log_fn x hs
 have c3 : ∀ (n : Nat) (rows : Nat → List AV), FirstRows 4 3 rows 0 [(decide ((ix g.b 0).t < (logS x).h0), 14), (decide ((logS x).seq = 999999), 7)] → n = 4 → VFn Tryz.prog 30 [.sl 1 n rows] (.int .i64 0) := fun n rows hr hn => first2_of _ _ _ _ hr hn (by simp [hl1, hl2])
 have dk : VFn Tryz.prog 199 [.int .i64 0, .int .i64 ((logS x).seq + 1), .int .i64 g.id] (.str (B (ingK x g))) := dataKey_fn 0 ((logS x).seq + 1) g.id (by omega) (by simp [within]; omega) (by simp [within]; omega)
 have ct := samplesText_fn g.b (by omega) hnum
 have cp := put_fn x hs (ingK x g) (smpsText g.b) (by omega)
 rw [hy] at cp
 clear hy
 unfold ingPut
 rw [← et]
 clear et
 generalize ingK x g = K at dk cp
 generalize smpsText g.b = T at ct cp
 by_cases h1 : c = 0
 · subst h1
   rw [if_pos rfl, if_pos rfl]
   refine VFn.introC Tryz.call164 Tryz.func164 rfl rfl ?_
   repeat' (conv => whnf
            first
             | (refine Grd.intro (fun h => ?_) (fun h => ?_); rotate_left; focus (exfalso; simp_all; done))
             | (refine Grd.intro (fun h => ?_) (fun h => ?_); focus (exfalso; simp_all; done))
             | (refine Grd.intro (fun h => ?_) (fun h => ?_); focus (exact absurd (h.symm.trans e1) (by decide)))
             | refine And.intro (inI64 (by omega) (by omega)) ?_
             | refine And.intro (by omega) ?_
             | (refine CallC.nl _ (c2) ?_ ?_; focus (exact rfl))
             | refine PCallQ.sca _ (dk) rfl ?_
             | refine PCallQ.sca _ (ct) rfl ?_
             | refine PCallQ.nl _ (cp) rfl ?_
             | refine PCallQ.sca _ (c3 _ _ ⟨rfl, rfl, rfl, rfl, trivial⟩ rfl) rfl ?_
             | (refine And.intro trivial (AVle.tup (AVsle.cons (AVle.refl _) (AVsle.cons (AVle.agg (AVsle.cons (AVle.refl _) (AVsle.cons (AVle.refl _) (AVsle.cons (AVle.refl _) (AVsle.cons (AVle.refl _) (AVsle.cons (AVle.nilsl _ _ rfl) (AVsle.refl _))))))) (AVsle.refl _)))); done)
             | (refine And.intro trivial (AVle.refl _); done)
             | fail)
   refine DrawC.mq 19 rfl (by kernel_rfl) ?_
   repeat' (conv => whnf
            first
             | (refine Grd.intro (fun h => ?_) (fun h => ?_); rotate_left; focus (exfalso; simp_all; done))
             | (refine Grd.intro (fun h => ?_) (fun h => ?_); focus (exfalso; simp_all; done))
             | (refine Grd.intro (fun h => ?_) (fun h => ?_); focus (exact absurd (h.symm.trans e1) (by decide)))
             | refine And.intro (inI64 (by omega) (by omega)) ?_
             | refine And.intro (by omega) ?_
             | (refine CallC.nl _ (c2) ?_ ?_; focus (exact rfl))
             | refine PCallQ.sca _ (dk) rfl ?_
             | refine PCallQ.sca _ (ct) rfl ?_
             | refine PCallQ.nl _ (cp) rfl ?_
             | refine PCallQ.sca _ (c3 _ _ ⟨rfl, rfl, rfl, rfl, trivial⟩ rfl) rfl ?_
             | (refine And.intro trivial (AVle.tup (AVsle.cons (AVle.refl _) (AVsle.cons (AVle.agg (AVsle.cons (AVle.refl _) (AVsle.cons (AVle.refl _) (AVsle.cons (AVle.refl _) (AVsle.cons (AVle.refl _) (AVsle.cons (AVle.nilsl _ _ rfl) (AVsle.refl _))))))) (AVsle.refl _)))); done)
             | (refine And.intro trivial (AVle.refl _); done)
             | fail)
   refine DrawC.mkQ 17 [(.inl 24, 15)] rfl (by kernel_rfl) ?_
   refine And.intro rfl ?_
   repeat' (conv => whnf
            first
             | (refine Grd.intro (fun h => ?_) (fun h => ?_); rotate_left; focus (exfalso; simp_all; done))
             | (refine Grd.intro (fun h => ?_) (fun h => ?_); focus (exfalso; simp_all; done))
             | (refine Grd.intro (fun h => ?_) (fun h => ?_); focus (exact absurd (h.symm.trans e1) (by decide)))
             | refine And.intro (inI64 (by omega) (by omega)) ?_
             | refine And.intro (by omega) ?_
             | (refine CallC.nl _ (c2) ?_ ?_; focus (exact rfl))
             | refine PCallQ.sca _ (dk) rfl ?_
             | refine PCallQ.sca _ (ct) rfl ?_
             | refine PCallQ.nl _ (cp) rfl ?_
             | refine PCallQ.sca _ (c3 _ _ ⟨rfl, rfl, rfl, rfl, trivial⟩ rfl) rfl ?_
             | (refine And.intro trivial (AVle.tup (AVsle.cons (AVle.refl _) (AVsle.cons (AVle.agg (AVsle.cons (AVle.refl _) (AVsle.cons (AVle.refl _) (AVsle.cons (AVle.refl _) (AVsle.cons (AVle.refl _) (AVsle.cons (AVle.nilsl _ _ rfl) (AVsle.refl _))))))) (AVsle.refl _)))); done)
             | (refine And.intro trivial (AVle.refl _); done)
             | fail)
   refine DrawC.mkQ 26 [(.inl 2, 22), (.inl 3, 23)] rfl (by kernel_rfl) ?_
   refine And.intro rfl ?_
   repeat' (conv => whnf
            first
             | (refine Grd.intro (fun h => ?_) (fun h => ?_); rotate_left; focus (exfalso; simp_all; done))
             | (refine Grd.intro (fun h => ?_) (fun h => ?_); focus (exfalso; simp_all; done))
             | (refine Grd.intro (fun h => ?_) (fun h => ?_); focus (exact absurd (h.symm.trans e1) (by decide)))
             | refine And.intro (inI64 (by omega) (by omega)) ?_
             | refine And.intro (by omega) ?_
             | (refine CallC.nl _ (c2) ?_ ?_; focus (exact rfl))
             | refine PCallQ.sca _ (dk) rfl ?_
             | refine PCallQ.sca _ (ct) rfl ?_
             | refine PCallQ.nl _ (cp) rfl ?_
             | refine PCallQ.sca _ (c3 _ _ ⟨rfl, rfl, rfl, rfl, trivial⟩ rfl) rfl ?_
             | (refine And.intro trivial (AVle.tup (AVsle.cons (AVle.refl _) (AVsle.cons (AVle.agg (AVsle.cons (AVle.refl _) (AVsle.cons (AVle.refl _) (AVsle.cons (AVle.refl _) (AVsle.cons (AVle.refl _) (AVsle.cons (AVle.nilsl _ _ rfl) (AVsle.refl _))))))) (AVsle.refl _)))); done)
             | (refine And.intro trivial (AVle.refl _); done)
             | fail)
 · have ek : decide (c = 0) = false := decide_eq_false h1
   rw [if_neg h1, if_neg h1]
   refine VFn.introC Tryz.call164 Tryz.func164 rfl rfl ?_
   repeat' (conv => whnf
            first
             | (refine Grd.intro (fun h => ?_) (fun h => ?_); rotate_left; focus (exfalso; simp_all; done))
             | (refine Grd.intro (fun h => ?_) (fun h => ?_); focus (exfalso; simp_all; done))
             | (refine Grd.intro (fun h => ?_) (fun h => ?_); focus (exact absurd (h.symm.trans e1) (by decide)))
             | refine And.intro (inI64 (by omega) (by omega)) ?_
             | refine And.intro (by omega) ?_
             | (refine CallC.nl _ (c2) ?_ ?_; focus (exact rfl))
             | refine PCallQ.sca _ (dk) rfl ?_
             | refine PCallQ.sca _ (ct) rfl ?_
             | refine PCallQ.nl _ (cp) rfl ?_
             | refine PCallQ.sca _ (c3 _ _ ⟨rfl, rfl, rfl, rfl, trivial⟩ rfl) rfl ?_
             | (refine And.intro trivial (AVle.tup (AVsle.cons (AVle.refl _) (AVsle.cons (AVle.agg (AVsle.cons (AVle.refl _) (AVsle.cons (AVle.refl _) (AVsle.cons (AVle.refl _) (AVsle.cons (AVle.refl _) (AVsle.cons (AVle.nilsl _ _ rfl) (AVsle.refl _))))))) (AVsle.refl _)))); done)
             | (refine And.intro trivial (AVle.refl _); done)
             | fail)
   refine DrawC.mq 19 rfl (by kernel_rfl) ?_
   repeat' (conv => whnf
            first
             | (refine Grd.intro (fun h => ?_) (fun h => ?_); rotate_left; focus (exfalso; simp_all; done))
             | (refine Grd.intro (fun h => ?_) (fun h => ?_); focus (exfalso; simp_all; done))
             | (refine Grd.intro (fun h => ?_) (fun h => ?_); focus (exact absurd (h.symm.trans e1) (by decide)))
             | refine And.intro (inI64 (by omega) (by omega)) ?_
             | refine And.intro (by omega) ?_
             | (refine CallC.nl _ (c2) ?_ ?_; focus (exact rfl))
             | refine PCallQ.sca _ (dk) rfl ?_
             | refine PCallQ.sca _ (ct) rfl ?_
             | refine PCallQ.nl _ (cp) rfl ?_
             | refine PCallQ.sca _ (c3 _ _ ⟨rfl, rfl, rfl, rfl, trivial⟩ rfl) rfl ?_
             | (refine And.intro trivial (AVle.tup (AVsle.cons (AVle.refl _) (AVsle.cons (AVle.agg (AVsle.cons (AVle.refl _) (AVsle.cons (AVle.refl _) (AVsle.cons (AVle.refl _) (AVsle.cons (AVle.refl _) (AVsle.cons (AVle.nilsl _ _ rfl) (AVsle.refl _))))))) (AVsle.refl _)))); done)
             | (refine And.intro trivial (AVle.refl _); done)
             | fail)
   refine DrawC.mkQ 17 [(.inl 24, 15)] rfl (by kernel_rfl) ?_
   refine And.intro rfl ?_
   repeat' (conv => whnf
            first
             | (refine Grd.intro (fun h => ?_) (fun h => ?_); rotate_left; focus (exfalso; simp_all; done))
             | (refine Grd.intro (fun h => ?_) (fun h => ?_); focus (exfalso; simp_all; done))
             | (refine Grd.intro (fun h => ?_) (fun h => ?_); focus (exact absurd (h.symm.trans e1) (by decide)))
             | refine And.intro (inI64 (by omega) (by omega)) ?_
             | refine And.intro (by omega) ?_
             | (refine CallC.nl _ (c2) ?_ ?_; focus (exact rfl))
             | refine PCallQ.sca _ (dk) rfl ?_
             | refine PCallQ.sca _ (ct) rfl ?_
             | refine PCallQ.nl _ (cp) rfl ?_
             | refine PCallQ.sca _ (c3 _ _ ⟨rfl, rfl, rfl, rfl, trivial⟩ rfl) rfl ?_
             | (refine And.intro trivial (AVle.tup (AVsle.cons (AVle.refl _) (AVsle.cons (AVle.agg (AVsle.cons (AVle.refl _) (AVsle.cons (AVle.refl _) (AVsle.cons (AVle.refl _) (AVsle.cons (AVle.refl _) (AVsle.cons (AVle.nilsl _ _ rfl) (AVsle.refl _))))))) (AVsle.refl _)))); done)
             | (refine And.intro trivial (AVle.refl _); done)
             | fail)
   refine DrawC.mkQ 9 [(.inl 2, 5), (.inl 3, 6)] rfl (by kernel_rfl) ?_
   refine And.intro rfl ?_
   repeat' (conv => whnf
            first
             | (refine Grd.intro (fun h => ?_) (fun h => ?_); rotate_left; focus (exfalso; simp_all; done))
             | (refine Grd.intro (fun h => ?_) (fun h => ?_); focus (exfalso; simp_all; done))
             | (refine Grd.intro (fun h => ?_) (fun h => ?_); focus (exact absurd (h.symm.trans e1) (by decide)))
             | refine And.intro (inI64 (by omega) (by omega)) ?_
             | refine And.intro (by omega) ?_
             | (refine CallC.nl _ (c2) ?_ ?_; focus (exact rfl))
             | refine PCallQ.sca _ (dk) rfl ?_
             | refine PCallQ.sca _ (ct) rfl ?_
             | refine PCallQ.nl _ (cp) rfl ?_
             | refine PCallQ.sca _ (c3 _ _ ⟨rfl, rfl, rfl, rfl, trivial⟩ rfl) rfl ?_
             | (refine And.intro trivial (AVle.tup (AVsle.cons (AVle.refl _) (AVsle.cons (AVle.agg (AVsle.cons (AVle.refl _) (AVsle.cons (AVle.refl _) (AVsle.cons (AVle.refl _) (AVsle.cons (AVle.refl _) (AVsle.cons (AVle.nilsl _ _ rfl) (AVsle.refl _))))))) (AVsle.refl _)))); done)
             | (refine And.intro trivial (AVle.refl _); done)
             | fail)
def Fl.lens (s : Fl) : Bool := decide ((s.ws.length : Int) = 2) && (decide ((s.gs.length : Int) = 2) && decide ((s.rs.length : Int) = 2))
def Fl.skOK (s : Fl) : Bool := [s.k0, s.k1, s.k2, s.k3, s.k4, s.k5, s.k6].all fun e => within e (-3) 3
def Fl.rnd (s : Fl) (i : Nat) : Bool := decide ((ix s.ws i).id = i) && (decide ((ix s.gs i).id = 2 + i) && (decide ((ix s.rs i).id = 4 + i) && ((ix s.ws i).ok && ((ix s.gs i).ok && (ix s.rs i).ok))))
def Fl.fin (s : Fl) : Bool := smpsOK s.ac && (!decide (4096 < s.an.length) && s.an.all An.ok)
def Fl.ok (s : Fl) : Bool := s.st.ok && (within s.clk 3 100000 && (s.skOK && (s.lens && (s.rnd 0 && (s.rnd 1 && s.fin)))))
theorem FleetOK_sk (s : Fl) : VFn Tryz.prog 47 [.sl 1 7 fun i => [s.row.getD (3 + i) .any], .fn (.func 48) [] []] (.bool s.skOK) := by
 refine (allIn_fn [s.k0, s.k1, s.k2, s.k3, s.k4, s.k5, s.k6] (by simp) 48 (fun e => within e (-3) 3) (fun e _ => isSkew_fn e)).weak (AVsle.cons (AVle.sl rfl fun i hi => ?_) (AVsle.cons (AVle.refl _) AVsle.nil)) (AVle.refl _)
 match i, hi with
 | 0, _ => rfl
 | 1, _ => rfl
 | 2, _ => rfl
 | 3, _ => rfl
 | 4, _ => rfl
 | 5, _ => rfl
 | 6, _ => rfl
theorem FleetOK_fn (s : Fl) (hS : s.small) : VFn Tryz.prog 14 [s.av] (.bool s.ok) := by
 by_cases hl : s.ws.length = 2 ∧ s.gs.length = 2 ∧ s.rs.length = 2
 · obtain ⟨l1, l2, l3⟩ := hl
   have hl : s.lens = true := by unfold Fl.lens; simp [l1, l2, l3]
   have e1 : decide ((s.ws.length : Int) = 2) = true := decide_eq_true (by omega)
   have e2 : decide ((s.gs.length : Int) = 2) = true := decide_eq_true (by omega)
   have e3 : decide ((s.rs.length : Int) = 2) = true := decide_eq_true (by omega)
   have w0 := WorkerOK_fn (ix s.ws 0) (hS.wr _ (getD_mem (by omega)))
   have w1 := WorkerOK_fn (ix s.ws 1) (hS.wr _ (getD_mem (by omega)))
   have g0 := IngesterOK_fn (ix s.gs 0) (hS.gr _ (getD_mem (by omega)))
   have g1 := IngesterOK_fn (ix s.gs 1) (hS.gr _ (getD_mem (by omega)))
   have r0 := ReaderOK_fn (ix s.rs 0) (hS.rr _ (getD_mem (by omega)))
   have r1 := ReaderOK_fn (ix s.rs 1) (hS.rr _ (getD_mem (by omega)))
   refine VFn.introC Tryz.call14 Tryz.func14 rfl rfl ?_
   repeat' (conv => whnf
            first
             | (refine Grd.intro (fun h => ?_) (fun h => ?_); rotate_left; focus (exfalso; simp_all; done))
             | (refine Grd.intro (fun h => ?_) (fun h => ?_); focus (exfalso; simp_all; done))
             | refine Grd.intro (fun h => ?_) (fun h => ?_)
             | (refine CallC.sca _ (StoreOK_fn s.st (by have := hS.st; omega) (fun o ho => by have := hS.sk o ho; omega)) ?_ ?_; focus (exact rfl))
             | (refine CallC.sca _ (within_fn s.clk 3 100000) ?_ ?_; focus (exact rfl))
             | (refine CallC.sca _ (FleetOK_sk s) ?_ ?_; focus (exact rfl))
             | (refine CallC.sca _ (SamplesOK_fn s.ac) ?_ ?_; focus (exact rfl))
             | (refine CallC.sca _ (isLongAn_fn s.an) ?_ ?_; focus (exact rfl))
             | (refine CallC.sca _ (allAn_fn s.an (by have := hS.an; omega) 55 An.ok (fun e _ => answerOK_fn e)) ?_ ?_; focus (exact rfl))
             | (refine CallC.sca _ (w0) ?_ ?_; focus (exact rfl))
             | (refine CallC.sca _ (w1) ?_ ?_; focus (exact rfl))
             | (refine CallC.sca _ (g0) ?_ ?_; focus (exact rfl))
             | (refine CallC.sca _ (g1) ?_ ?_; focus (exact rfl))
             | (refine CallC.sca _ (r0) ?_ ?_; focus (exact rfl))
             | (refine CallC.sca _ (r1) ?_ ?_; focus (exact rfl))
             | (refine And.intro trivial (AVle.of_eq (congrArg AV.bool ?_)); focus (simp_all [Fl.ok, Fl.rnd, Fl.fin, -List.all_eq_true, -List.all_eq_false]; done))
             | (refine And.intro trivial (AVle.of_eq (congrArg AV.bool ?_)); focus (simp only [Fl.ok, *, cond_true, cond_false, Bool.true_and, Bool.and_true, Bool.false_and, Bool.and_false, Bool.not_true, Bool.not_false, Bool.true_or, Bool.or_true, Bool.false_or, Bool.or_false, if_true, ite_true, reduceIte]; done))
             | (refine And.intro trivial (AVle.of_eq (congrArg AV.bool ?_)); focus (simp_all [Fl.ok, Fl.rnd, Fl.fin, -List.all_eq_true, -List.all_eq_false]; intros; omega))
             | (refine And.intro trivial (AVle.of_eq (congrArg AV.bool ?_)); focus (simp only [cond_true, cond_false, Bool.not_eq_true', Bool.not_eq_false'] at *; simp only [Fl.ok, *, cond_true, cond_false, Bool.true_and, Bool.and_true, Bool.false_and, Bool.and_false, Bool.not_true, Bool.not_false, Bool.true_or, Bool.or_true, Bool.false_or, Bool.or_false, if_true, ite_true, reduceIte]; done))
             | refine OpC.asl rfl rfl ⟨_, rfl⟩ rfl rfl rfl rfl rfl ?_
             | refine LoopC.rounds 3 ?_
             | (refine DrawC.mkQ 21 [(.inr 15, 18), (.inr 16, 19), (.inr 17, 20)] rfl (by kernel_rfl) ?_; refine And.intro (by kernel_rfl) ?_)
             | refine And.intro (by omega) ?_
             | refine And.intro (inI64 (by omega) (by omega)) ?_
             | fail)
 · have hl' : s.lens = false := by unfold Fl.lens; rw [Bool.eq_false_iff]; intro h; apply hl; simp at h; omega
   have hl : ¬ ((s.ws.length : Int) = 2 ∧ (s.gs.length : Int) = 2 ∧ (s.rs.length : Int) = 2) := by omega
   rw [show s.ok = (s.st.ok && (within s.clk 3 100000 && (s.skOK && false))) by unfold Fl.ok; rw [hl']; rfl]
   refine VFn.introC Tryz.call14 Tryz.func14 rfl rfl ?_
   repeat' (conv => whnf
            first
             | (refine Grd.intro (fun h => ?_) (fun h => ?_); rotate_left; focus (exfalso; simp_all; done))
             | (refine Grd.intro (fun h => ?_) (fun h => ?_); focus (exfalso; simp_all; done))
             | refine Grd.intro (fun h => ?_) (fun h => ?_)
             | (refine CallC.sca _ (StoreOK_fn s.st (by have := hS.st; omega) (fun o ho => by have := hS.sk o ho; omega)) ?_ ?_; focus (exact rfl))
             | (refine CallC.sca _ (within_fn s.clk 3 100000) ?_ ?_; focus (exact rfl))
             | (refine CallC.sca _ (FleetOK_sk s) ?_ ?_; focus (exact rfl))
             | (refine CallC.sca _ (SamplesOK_fn s.ac) ?_ ?_; focus (exact rfl))
             | (refine CallC.sca _ (isLongAn_fn s.an) ?_ ?_; focus (exact rfl))
             | (refine CallC.sca _ (allAn_fn s.an (by have := hS.an; omega) 55 An.ok (fun e _ => answerOK_fn e)) ?_ ?_; focus (exact rfl))
             | (refine And.intro trivial (AVle.of_eq (congrArg AV.bool ?_)); focus (simp_all [Fl.ok, Fl.rnd, Fl.fin, -List.all_eq_true, -List.all_eq_false]; done))
             | (refine And.intro trivial (AVle.of_eq (congrArg AV.bool ?_)); focus (simp only [Fl.ok, *, cond_true, cond_false, Bool.true_and, Bool.and_true, Bool.false_and, Bool.and_false, Bool.not_true, Bool.not_false, Bool.true_or, Bool.or_true, Bool.false_or, Bool.or_false, if_true, ite_true, reduceIte]; done))
             | (refine And.intro trivial (AVle.of_eq (congrArg AV.bool ?_)); focus (simp_all [Fl.ok, Fl.rnd, Fl.fin, -List.all_eq_true, -List.all_eq_false]; intros; omega))
             | (refine And.intro trivial (AVle.of_eq (congrArg AV.bool ?_)); focus (simp only [cond_true, cond_false, Bool.not_eq_true', Bool.not_eq_false'] at *; simp only [Fl.ok, *, cond_true, cond_false, Bool.true_and, Bool.and_true, Bool.false_and, Bool.and_false, Bool.not_true, Bool.not_false, Bool.true_or, Bool.or_true, Bool.false_or, Bool.or_false, if_true, ite_true, reduceIte]; done))
             | refine OpC.asl rfl rfl ⟨_, rfl⟩ rfl rfl rfl rfl rfl ?_
             | refine LoopC.rounds 3 ?_
             | (refine DrawC.mkQ 21 [(.inr 15, 18), (.inr 16, 19), (.inr 17, 20)] rfl (by kernel_rfl) ?_; refine And.intro (by kernel_rfl) ?_)
             | refine And.intro (by omega) ?_
             | refine And.intro (inI64 (by omega) (by omega)) ?_
             | fail)
end Go.Proofs.YtnplgeogieoioaaGreatDoor
