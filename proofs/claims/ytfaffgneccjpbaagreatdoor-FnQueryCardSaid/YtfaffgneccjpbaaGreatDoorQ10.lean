/- Contracts of functions that the claim reaches, and the plain law of what they compute; each theorem bears its own conditions. -/
import Derived.Test.YtfaffgneccjpbaaGreatDoorQ8
import Derived.Test.YtfaffgneccjpbaaGreatDoorQ9
import Derived.Test.YtfaffgneccjpbaaGreatDoorQ5
import Derived.Test.YtfaffgneccjpbaaGreatDoorQ7
set_option linter.unusedVariables false
set_option linter.constructorNameAsVariable false
set_option linter.unusedSimpArgs false
set_option maxRecDepth 20000
namespace Go.Proofs.YtfaffgneccjpbaaGreatDoor
open Go Go.Vw

/-- what an entry has of a range -/
structure EntW (x : Sto) (a b : Int) (e : En) : Prop where
  ok : e.ok = true
  t0 : e.tier = 0
  has : x.has e.key = true
  len : (x.get e.key).data.length ≤ 600
  rd : rdOk (x.get e.key).data = true
  w : (winV e (x.get e.key).data a b).ok = true ∧ (winV e (x.get e.key).data a b).c ≤ 6
  no : tch a b e = false → winV e (x.get e.key).data a b = default
  key : ∃ n w : Nat, n ≤ 999999 ∧ w ≤ 1 ∧ e.key = keyB 0 n w
theorem FF.entW {s : Src} {m : Nat} {E : List En} (F : FF s m E) (a b : Int) : ∀ e ∈ E, EntW s.filled.x a b e := fun e he => by
  have h1 := F.es.tm e he
  have hm := F.rng
  have hA := F.at_
  obtain ⟨L, l1, l2, l3, l4, l5⟩ := F.es.data e he
  obtain ⟨j, hj, e1⟩ := List.getElem_of_mem he
  obtain ⟨w, q1, q2⟩ := F.es.key j hj
  rw [ix_lt hj, e1] at q2
  have hel := F.el
  obtain ⟨k1, k2, k3, k4⟩ := keyF_fields (t := 0) (n := j + 1) (w := w) (by omega) (by omega) (by omega)
  have hnum := smpsOK_num l1
  have hw : winV e (s.filled.x.get e.key).data a b = aggL (smpsIn L a b) := by
    unfold winV
    rw [if_pos h1.1, l5, rdV_text hnum]
  have hil := smpsIn_len L a b
  obtain ⟨w1, w2⟩ := smps_bd l1
  have hag := aggL_ok' (L := smpsIn L a b) (by omega) (fun x hx => w2 x (smpsIn_mem hx))
  refine ⟨?_, h1.1, l4, ?_, ?_, ?_, fun hn => ?_, j + 1, w, by omega, q1, q2⟩
  · unfold En.ok
    rw [q2, k1, k2, h1.1]
    simp [isRange, within]
    omega
  · rw [l5]; have := smpsText_len hnum; omega
  · rw [l5]; exact rdOk_text hnum l1 (by omega)
  · rw [hw]; exact ⟨hag.1, by rw [hag.2]; omega⟩
  · rw [hw]
    have : smpsIn L a b = [] := by
      unfold smpsIn
      refine List.filter_eq_nil_iff.2 fun y hy => ?_
      have h3 := l3 y hy
      unfold tch at hn
      have hn := of_decide_eq_false hn
      simp only [within, Bool.and_eq_true, decide_eq_true_eq]
      intro h
      apply hn
      split <;> split <;> omega
    rw [this]; rfl
/-- all that entries have, one behind the other -/
def gsum (x : Sto) (a b : Int) (L : List En) : Ag := L.foldl (fun g e => g.mrg (winV e (x.get e.key).data a b)) default
theorem gsum_snoc (x : Sto) (a b : Int) {L : List En} {i : Nat} (h : i < L.length) : gsum x a b (L.take (i + 1)) = (gsum x a b (L.take i)).mrg (winV (ix L i) (x.get (ix L i).key).data a b) := by
  unfold gsum; rw [take_snoc h, List.foldl_append]; rfl
theorem gsum_b {x : Sto} {a b : Int} {L : List En} (hL : ∀ e ∈ L, EntW x a b e) (hl : L.length ≤ 20) : ∀ i : Nat, i ≤ L.length → (gsum x a b (L.take i)).ok = true ∧ (gsum x a b (L.take i)).c ≤ 6 * i
  | 0, _ => ⟨rfl, Int.le_refl _⟩
  | i + 1, h => by
    have ih := gsum_b hL hl i (by omega)
    have he := hL _ (getD_mem (L := L) h)
    have he : EntW x a b (ix L i) := he
    rw [gsum_snoc x a b h]
    have c1 := (ag_c ih.1).1
    have c2 := (ag_c he.w.1).1
    have := mrg_ok ih.1 he.w.1 (by have := he.w.2; omega)
    refine ⟨this.1, ?_⟩
    rw [this.2]
    have := he.w.2
    omega
theorem fold_tch {x : Sto} {a b : Int} : ∀ (L : List En) (g : Ag), (∀ e ∈ L, EntW x a b e) → g.ok = true → g.c + 6 * L.length ≤ 1000 →
    (L.filter (tch a b)).foldl (fun g e => g.mrg (winV e (x.get e.key).data a b)) g = L.foldl (fun g e => g.mrg (winV e (x.get e.key).data a b)) g
  | [], _, _, _, _ => rfl
  | e :: r, g, hL, hg, hc => by
    have he := hL e (by simp)
    have hl : (e :: r).length = r.length + 1 := rfl
    rw [hl] at hc
    have hw := he.w
    have gc := ag_c hg
    have := mrg_ok hg hw.1 (by omega)
    cases ht : tch a b e with
    | true =>
      rw [List.filter_cons_of_pos ht]
      exact fold_tch r _ (fun y hy => hL y (by simp [hy])) this.1 (by rw [this.2]; omega)
    | false =>
      rw [List.filter_cons_of_neg (by rw [ht]; simp)]
      show _ = r.foldl _ (g.mrg (winV e (x.get e.key).data a b))
      rw [he.no ht, mrg_def g gc.2.2]
      exact fold_tch r g (fun y hy => hL y (by simp [hy])) hg (by omega)
theorem gsum_tch {x : Sto} {a b : Int} {L : List En} (hL : ∀ e ∈ L, EntW x a b e) (hl : L.length ≤ 20) : gsum x a b (L.filter (tch a b)) = gsum x a b L :=
  fold_tch L default hL rfl (by show (0 : Int) + _ ≤ _; omega)
def pinK3 : List UInt8 := [112, 105, 110, 47, 51]
def pinT : List UInt8 := [56, 48]
theorem pinK_3 : pinK 3 = pinK3 := by
  unfold pinK
  rw [show (3 : Int) = ((3 : Nat) : Int) from rfl, Lib.itoa_nonneg, Lib.decDigits, dif_pos (by decide)]
  rfl
theorem itoa_80 : Lib.itoa (50 + 30) = pinT := by
  rw [show (50 + 30 : Int) = ((80 : Nat) : Int) from rfl, Lib.itoa_nonneg, Lib.decDigits, dif_neg (by decide), Lib.decDigits, dif_pos (by decide)]
  rfl
def qs (x : Sto) (T : List En) (a b : Int) : Nat → Sto × Rr
  | 0 => (x, rdAsk 3 0 a b)
  | 1 => (x.set pinK3 pinT, ⟨3, 2, 0, a, b, 80, 0, [], default⟩)
  | k + 2 => if k ≤ T.length then (x.set pinK3 pinT, ⟨3, 3, 0, a, b, 80, 0, T.drop k, gsum x a b (T.take k)⟩)
    else if k = T.length + 1 then (x.set pinK3 pinT, ⟨3, 4, 0, a, b, 80, 0, [], gsum x a b T⟩) else (wo (x.set pinK3 pinT) pinK3, ⟨3, 0, 0, a, b, 80, 0, [], gsum x a b T⟩)
theorem qs_at (x : Sto) (T : List En) (a b : Int) (k : Nat) : qs x T a b (k + 2) = if k ≤ T.length then (x.set pinK3 pinT, ⟨3, 3, 0, a, b, 80, 0, T.drop k, gsum x a b (T.take k)⟩)
    else if k = T.length + 1 then (x.set pinK3 pinT, ⟨3, 4, 0, a, b, 80, 0, [], gsum x a b T⟩) else (wo (x.set pinK3 pinT) pinK3, ⟨3, 0, 0, a, b, 80, 0, [], gsum x a b T⟩) := rfl
structure QsOK (x : Sto) (T : List En) (a b : Int) (k : Nat) : Prop where
  sok : (qs x T a b k).1.ok = true
  rok : (qs x T a b k).2.ok = true
  ll : (qs x T a b k).2.left.length ≤ 20
  win : (qs x T a b k).2.ph = 3 → ∀ e l, (qs x T a b k).2.left = e :: l → ¬ (qs x T a b k).2.til - 3 < 50 → (qs x T a b k).1.has e.key = true → WinOK (qs x T a b k).1 e (qs x T a b k).2.f (qs x T a b k).2.t (qs x T a b k).2.got
/-- one that a query begins with -/
structure QIn (x : Sto) (m : Nat) (E : List En) (A a b : Int) : Prop where
  lg : LogX x m ⟨(m : Int), 0, E, [], 0, 0, 0, A, 0, 0⟩
  m5 : m ≤ 5
  len : x.os.length ≤ 10
  nxt : x.next ≤ 11
  el : E.length = m
  ew : ∀ e ∈ E, EntW x a b e
  rg : 0 ≤ a ∧ a ≤ b ∧ b ≤ A ∧ A ≤ 500
  nop : noPin x
theorem rr_ok {ph til : Int} {L : List En} {g : Ag} {a b : Int} (h1 : 0 ≤ ph ∧ ph ≤ 4) (h2 : 0 ≤ til ∧ til ≤ 200000) (hL : L.length ≤ 20) (he : ∀ e ∈ L, e.ok = true ∧ e.tier = 0) (hg : g.ok = true ∧ g.c ≤ 1000) (hab : 0 ≤ a ∧ a ≤ b ∧ b ≤ 500) : (Rr.mk 3 ph 0 a b til 0 L g).ok = true := by
  unfold Rr.ok gotOK
  simp only [hg.1, decide_eq_true hg.2]
  have : L.all (atTier 0) = true := List.all_eq_true.2 fun e hx => by
    unfold atTier
    rw [(he e hx).1, (he e hx).2]; rfl
  rw [this]
  simp [within, isRange]
  omega
theorem qs_ok {x : Sto} {m : Nat} {E : List En} {A a b : Int} (Q : QIn x m E A a b) (k : Nat) (hk : k ≤ (E.filter (tch a b)).length + 3) : QsOK x (E.filter (tch a b)) a b k := by
  have hlen := Q.len
  have hnx := Q.nxt
  have hrg := Q.rg
  have hm5 := Q.m5
  have hel := Q.el
  have hfl : (E.filter (tch a b)).length ≤ E.length := List.length_filter_le _ _
  obtain ⟨p1, p2, p3, p4, p5⟩ := put_ok (k := pinK3) (d := pinT) Q.lg.ok (by decide) (by decide) (by omega) (by omega)
  rw [p2] at p3 p4 p5
  have hT : ∀ e ∈ E.filter (tch a b), EntW x a b e := fun e he => Q.ew e ((List.mem_filter.1 he).1)
  have hpk : Lib.hasPrefix pinK3 pinP = true := by decide
  have hg := gsum_b hT (by omega)
  generalize E.filter (tch a b) = T at *
  rcases k with _ | _ | k
  · exact ⟨Q.lg.ok, rr_ok (by omega) (by omega) (by simp) (by simp) ⟨rfl, by decide⟩ (by omega), by simp [qs, rdAsk], fun h => absurd (show (1 : Int) = 3 from h) (by decide)⟩
  · exact ⟨p3, rr_ok (by omega) (by omega) (by simp) (by simp) ⟨rfl, by decide⟩ (by omega), by simp [qs], fun h => absurd (show (2 : Int) = 3 from h) (by decide)⟩
  · by_cases h1 : k ≤ T.length
    · have e : qs x T a b (k + 2) = (x.set pinK3 pinT, ⟨3, 3, 0, a, b, 80, 0, T.drop k, gsum x a b (T.take k)⟩) := by
        show (if k ≤ T.length then _ else _) = _
        rw [if_pos h1]
      have hgk := hg k h1
      refine ⟨by rw [e]; exact p3, by rw [e]; exact rr_ok (by omega) (by omega) (by rw [List.length_drop]; omega) (fun y hy => ⟨(hT y (List.mem_of_mem_drop hy)).ok, (hT y (List.mem_of_mem_drop hy)).t0⟩) ⟨hgk.1, by omega⟩ (by omega), by rw [e]; show (T.drop k).length ≤ 20; rw [List.length_drop]; omega, ?_⟩
      rw [e]
      intro _ e' l hl _ _
      have hl : T.drop k = e' :: l := hl
      have he' : e' ∈ T := List.mem_of_mem_drop (by rw [hl]; simp)
      have W := hT e' he'
      obtain ⟨n, w, n1, n2, n3⟩ := W.key
      have hne : e'.key ≠ pinK3 := fun h => pin_ne_key hpk (t := 0) (n := n) (w := w) (by omega) (by rw [← n3]; exact h.symm)
      have hget := (set_ne Q.lg.ok p3 hne).2 W.has
      show WinOK (x.set pinK3 pinT) e' a b (gsum x a b (T.take k))
      have hwc := W.w
      refine ⟨?_, hgk.1, by rw [hget]; exact hwc.1, by rw [hget]; omega⟩
      rw [hget]
      unfold goodD
      rw [if_pos W.t0]
      exact W.rd
    · have e : qs x T a b (k + 2) = (x.set pinK3 pinT, ⟨3, 4, 0, a, b, 80, 0, [], gsum x a b T⟩) := by
        show (if k ≤ T.length then _ else _) = _
        rw [if_neg h1, if_pos (by omega)]
      have hgk := hg T.length (Nat.le_refl _)
      rw [List.take_of_length_le (Nat.le_refl _)] at hgk
      refine ⟨by rw [e]; exact p3, by rw [e]; exact rr_ok (by omega) (by omega) (by simp) (by simp) ⟨hgk.1, by omega⟩ (by omega), by rw [e]; simp, ?_⟩
      rw [e]
      intro h
      exact absurd (show (4 : Int) = 3 from h) (by decide)
theorem qs_step {x : Sto} {m : Nat} {E : List En} {A a b : Int} (Q : QIn x m E A a b) (k : Nat) (hk : k ≤ (E.filter (tch a b)).length + 3) :
    stepR (qs x (E.filter (tch a b)) a b k).1 (qs x (E.filter (tch a b)) a b k).2 50 = ((qs x (E.filter (tch a b)) a b (k + 1)).1, (qs x (E.filter (tch a b)) a b (k + 1)).2, decide (k = (E.filter (tch a b)).length + 3), 0) := by
  have hlen := Q.len
  have hnx := Q.nxt
  have hrg := Q.rg
  have hm5 := Q.m5
  have hel := Q.el
  have hfl : (E.filter (tch a b)).length ≤ E.length := List.length_filter_le _ _
  obtain ⟨p1, p2, p3, p4, p5⟩ := put_ok (k := pinK3) (d := pinT) Q.lg.ok (by decide) (by decide) (by omega) (by omega)
  rw [p2] at p3 p4 p5
  have hpk : Lib.hasPrefix pinK3 pinP = true := by decide
  have L1 := Q.lg.set (by omega) (fun i h => pin_ne_man hpk i h.symm) p3
  have hof : ofT E 0 = E := List.filter_eq_self.2 fun e he => decide_eq_true (Q.ew e he).t0
  have hcl : covL ⟨(m : Int), 0, E, [], 0, 0, 0, A, 0, 0⟩ 0 a b = E.filter (tch a b) := by
    unfold covL
    rw [hof]
  have hcc : covC ⟨(m : Int), 0, E, [], 0, 0, 0, A, 0, 0⟩ 0 a b = 0 := by
    unfold covC
    have w1 : wd 0 = 1 := rfl
    have lo0 : (⟨(m : Int), 0, E, [], 0, 0, 0, A, 0, 0⟩ : Sta).lo 0 = 0 := rfl
    have hi0 : (⟨(m : Int), 0, E, [], 0, 0, 0, A, 0, 0⟩ : Sta).hi 0 = A := rfl
    rw [w1, if_pos ⟨by decide, by simp [isRange, within]; omega, Int.tmod_one a, Int.tmod_one b⟩, lo0, hi0, if_neg (by omega), if_neg (by omega)]
  have hT : ∀ e ∈ E.filter (tch a b), EntW x a b e := fun e he => Q.ew e ((List.mem_filter.1 he).1)
  generalize E.filter (tch a b) = T at *
  rcases k with _ | _ | k
  · rw [decide_eq_false (by omega)]
    show stepR x (rdAsk 3 0 a b) 50 = _
    unfold stepR rdAsk
    simp only [pinK_3, itoa_80]
    rw [if_neg (by decide), if_pos (by decide), if_pos p1]
    rfl
  · rw [decide_eq_false (by omega)]
    show stepR (x.set pinK3 pinT) ⟨3, 2, 0, a, b, 80, 0, [], default⟩ 50 = _
    unfold stepR
    simp only
    rw [if_neg (by decide), if_neg (by decide), if_pos (by decide), L1.log, hcc, hcl, if_pos rfl]
    have e2 : qs x T a b (0 + 1 + 1) = (x.set pinK3 pinT, ⟨3, 3, 0, a, b, 80, 0, T, default⟩) := by
      rw [show 0 + 1 + 1 = 0 + 2 from rfl, qs_at, if_pos (Nat.zero_le _)]
      rfl
    rw [e2]
  · by_cases h1 : k ≤ T.length
    · have e : qs x T a b (k + 2) = (x.set pinK3 pinT, ⟨3, 3, 0, a, b, 80, 0, T.drop k, gsum x a b (T.take k)⟩) := by
        show (if k ≤ T.length then _ else _) = _
        rw [if_pos h1]
      rw [e, decide_eq_false (by omega)]
      unfold stepR
      simp only
      rw [if_neg (by decide), if_neg (by decide), if_neg (by decide), if_pos (by decide)]
      by_cases h2 : k = T.length
      · have e2 : qs x T a b (k + 2 + 1) = (x.set pinK3 pinT, ⟨3, 4, 0, a, b, 80, 0, [], gsum x a b T⟩) := by
          show (if k + 1 ≤ T.length then _ else _) = _
          rw [if_neg (by omega), if_pos (by omega)]
        rw [e2, h2, List.drop_length, List.take_of_length_le (Nat.le_refl _)]
        rfl
      · have e2 : qs x T a b (k + 2 + 1) = (x.set pinK3 pinT, ⟨3, 3, 0, a, b, 80, 0, T.drop (k + 1), gsum x a b (T.take (k + 1))⟩) := by
          show (if k + 1 ≤ T.length then _ else _) = _
          rw [if_pos (by omega)]
        have hkl : k < T.length := by omega
        have hd : T.drop k = ix T k :: T.drop (k + 1) := by rw [List.drop_eq_getElem_cons hkl, ix_lt hkl]
        have W := hT _ (getD_mem (L := T) hkl)
        have W : EntW x a b (ix T k) := W
        obtain ⟨n, w, n1, n2, n3⟩ := W.key
        have hne : (ix T k).key ≠ pinK3 := fun h => pin_ne_key hpk (t := 0) (n := n) (w := w) (by omega) (by rw [← n3]; exact h.symm)
        have hs := set_ne Q.lg.ok p3 hne
        have hget := hs.2 W.has
        have hhas := hs.1.trans W.has
        rw [e2, hd]
        simp only
        have hwr : winR (x.set pinK3 pinT) (ix T k) a b (gsum x a b (T.take k)) = (gsum x a b (T.take (k + 1)), 0) := by
          unfold winR
          rw [if_pos hhas, hget, gsum_snoc x a b hkl]
        rw [hwr, if_neg (by decide), if_pos rfl]
    · have e : qs x T a b (k + 2) = (x.set pinK3 pinT, ⟨3, 4, 0, a, b, 80, 0, [], gsum x a b T⟩) := by
        show (if k ≤ T.length then _ else _) = _
        rw [if_neg h1, if_pos (by omega)]
      have e2 : qs x T a b (k + 2 + 1) = (wo (x.set pinK3 pinT) pinK3, ⟨3, 0, 0, a, b, 80, 0, [], gsum x a b T⟩) := by
        show (if k + 1 ≤ T.length then _ else _) = _
        rw [if_neg (by omega), if_neg (by omega)]
      rw [e, e2, decide_eq_true (by omega)]
      unfold stepR
      simp only [pinK_3]
      rw [if_neg (by decide), if_neg (by decide), if_neg (by decide), if_neg (by decide)]
/-- behind the last step -/
theorem qs_end {x : Sto} {m : Nat} {E : List En} {A a b : Int} (Q : QIn x m E A a b) : ∃ y, qs x (E.filter (tch a b)) a b ((E.filter (tch a b)).length + 4) = (y, ⟨3, 0, 0, a, b, 80, 0, [], gsum x a b E⟩) ∧ y.ok = true ∧ pinL y 50 = [] := by
  have hlen := Q.len
  have hnx := Q.nxt
  have hm5 := Q.m5
  have hel := Q.el
  have hg := gsum_tch Q.ew (by omega)
  obtain ⟨p1, p2, p3, p4, p5⟩ := put_ok (k := pinK3) (d := pinT) Q.lg.ok (by decide) (by decide) (by omega) (by omega)
  rw [p2] at p3 p4 p5
  rw [← hg]
  generalize E.filter (tch a b) = T at *
  refine ⟨wo (x.set pinK3 pinT) pinK3, ?_, wo_ok p3 _, ?_⟩
  · show (if T.length + 2 ≤ T.length then _ else _) = _
    rw [if_neg (by omega), if_neg (by omega)]
  · refine noPin.pinL (wo_ok p3 _) (fun k hk => ?_) 50
    by_cases e : k = pinK3
    · rw [e]; exact wo_has _ _
    · rw [(wo_ne p3 e).1, (set_ne Q.lg.ok p3 e).1]
      exact Q.nop k hk
end Go.Proofs.YtfaffgneccjpbaaGreatDoor
set_option linter.unusedVariables false
set_option linter.constructorNameAsVariable false
set_option linter.unusedSimpArgs false
set_option maxRecDepth 20000
namespace Go.Proofs.YtfaffgneccjpbaaGreatDoor
open Go Go.Vw

theorem StoRdP {x : Sto} (h : x.ok = true) : StoRd x := by
  obtain ⟨a1, a2, a3, _, _⟩ := (stoOK_iff x).1 h
  refine ⟨by omega, fun o ho => ?_, by omega⟩
  have := (a3 o ho).1
  unfold keyOK at this
  simp only [Bool.and_eq_true, within, decide_eq_true_eq] at this
  omega
theorem FilledStoreP_fn (code : List UInt8) (h : code.length ≤ 1048576) : VFn Tryz.prog 6 [byts code] (srcOf code).filled.x.av := by
  have hs := wk (src_ok code h) (show (0 : Int) ≤ 100000 by decide)
  have c := filled_fn (srcOf code) hs
  refine VFn.introC Tryz.call6 Tryz.func6 rfl rfl ?_
  conv => whnf
  refine CallC.k [] (l00Source_fn code h) rfl rfl (AVsle.refl _) trivial rfl ?_
  conv => whnf
  refine CallC.k [(1, 0)] (filled_fn (srcOf code) hs) rfl rfl (AVsle.refl _) ⟨MOle.refl _, trivial⟩ rfl ?_
  exact And.intro trivial (AVle.refl _)
theorem log_v {x : Sto} (hx : x.ok = true) {s : Sta} (h : logS x = s) : VFn Tryz.prog 7 [x.av] (.tup [s.av, .int .i64 0]) := by
  have c := (ReplayLog_own x (StoRdP hx) hx).vfn
  rw [h] at c
  exact c
end Go.Proofs.YtfaffgneccjpbaaGreatDoor
set_option linter.unusedVariables false
set_option linter.constructorNameAsVariable false
set_option linter.unusedSimpArgs false
set_option maxRecDepth 20000
namespace Go.Proofs.YtfaffgneccjpbaaGreatDoor
open Go Go.Vw

theorem at_any (L : List UInt8) (i n : Int) (hm : L.length ≤ 1048576) (hi : 0 ≤ i ∧ i ≤ 1000) (hn : 1 ≤ n ∧ n ≤ 1000) : ∃ v, (0 ≤ v ∧ v < n) ∧ VFn Tryz.prog 11 [byts L, .int .i64 i, .int .i64 n] (.int .i64 v) := by
  rcases Int.lt_or_le 1 n with h | h
  · exact at_fn5 L i n hm hi ⟨h, hn.2⟩
  · refine ⟨0, by omega, ?_⟩
    refine VFn.introC Tryz.call11 Tryz.func11 rfl rfl ?_
    refine Grd.intro (fun _ => ?_) (fun g => absurd (of_decide_eq_false g) (by omega))
    exact And.intro trivial (AVle.refl _)
theorem lawQuery (code more : List UInt8) (h1 : code.length ≤ 9223372036854775807) (h2 : more.length ≤ 9223372036854775807) : VFn Tryz.prog 4 [byts code, byts more] (.bool true) := by
  by_cases hL1 : 1048576 < code.length
  · refine VFn.introC Tryz.call4 Tryz.func4 rfl rfl ?_
    refine Grd.intro (fun _ => ?_) (fun h => absurd (of_decide_eq_false h) (by omega))
    exact And.intro trivial (AVle.refl _)
  by_cases hL2 : 1048576 < more.length
  · refine VFn.introC Tryz.call4 Tryz.func4 rfl rfl ?_
    refine Grd.intro (fun h => absurd (of_decide_eq_true h) (by omega)) (fun _ => ?_)
    refine Grd.intro (fun _ => ?_) (fun h => absurd (of_decide_eq_false h) (by omega))
    exact And.intro trivial (AVle.refl _)
  have hs := wk (src_ok code (by omega)) (show (0 : Int) ≤ 100000 by decide)
  obtain ⟨m, E, F⟩ := filled_facts hs
  have cF := FilledStoreP_fn code (by omega)
  have hm := F.rng
  have hA := F.at_
  have hel := F.el
  have r1 := log_v F.ok F.log
  have hnp := (filled_noP hs).pin
  have hflen := F.len
  have hfnx := F.nxt
  have hlg := F.lg
  obtain ⟨a, ha, ca⟩ := at_any more 0 (srcOf code).filled.at_ (by omega) (by omega) (by omega)
  obtain ⟨d, hd, cd⟩ := at_any more 1 ((srcOf code).filled.at_ - a + 1) (by omega) (by omega) (by omega)
  have hew := F.entW a (a + d)
  have Q : QIn (srcOf code).filled.x m E (srcOf code).filled.at_ a (a + d) := ⟨hlg, by omega, hflen, hfnx, hel, hew, by omega, hnp⟩
  have hok := F.ok
  clear F hs hlg hnp
  generalize (srcOf code).filled.at_ = A at *
  generalize (srcOf code).filled.x = x at *
  obtain ⟨T, hT⟩ : ∃ T, T = E.filter (tch a (a + d)) := ⟨_, rfl⟩
  have hTl : T.length ≤ 5 := by rw [hT]; have : (E.filter (tch a (a + d))).length ≤ E.length := List.length_filter_le _ _; omega
  have qok := fun k (hk : k ≤ T.length + 3) => qs_ok Q k (by rw [← hT]; exact hk)
  have qst := fun k (hk : k ≤ T.length + 3) => qs_step Q k (by rw [← hT]; exact hk)
  have qen := qs_end Q
  rw [← hT] at qok qst qen
  have gb := gsum_b hew (by omega)
  have hr : isRange a (a + d) = true := by simp [isRange, within]; omega
  refine VFn.introC Tryz.call4 Tryz.func4 rfl rfl ?_
  refine Grd.intro (fun h => absurd (of_decide_eq_true h) (by omega)) (fun _ => ?_)
  refine Grd.intro (fun h => absurd (of_decide_eq_true h) (by omega)) (fun _ => ?_)
  conv => whnf
  refine CallC.nl _ (cF) ?_ ?_
  · exact rfl
  conv => whnf
  refine CallC.nl _ (r1) ?_ ?_
  · exact rfl
  conv => whnf
  refine And.intro (show (0 : Int) ≤ 0 ∧ (0 : Int) < ((3 : Nat) : Int) by omega) ?_
  refine Grd.intro (fun h => absurd (show A < 1 from of_decide_eq_true h) (by omega)) (fun _ => ?_)
  refine And.intro (show (0 : Int) ≤ 0 ∧ (0 : Int) < ((3 : Nat) : Int) by omega) ?_
  conv => whnf
  refine CallC.sca _ (ca) ?_ ?_
  · exact rfl
  refine And.intro (show (0 : Int) ≤ 0 ∧ (0 : Int) < ((3 : Nat) : Int) by omega) ?_
  refine And.intro (show inI .i64 (A - a) from inI64 (by omega) (by omega)) ?_
  refine And.intro (show inI .i64 (A - a + 1) from inI64 (by omega) (by omega)) ?_
  conv => whnf
  refine CallC.sca _ (cd) ?_ ?_
  · exact rfl
  refine And.intro (show inI .i64 (a + d) from inI64 (by omega) (by omega)) ?_
  conv => whnf
  refine LoopC.mk (fun i : Nat => i ≤ E.length) (fun i => [(5, .bptr 0 0), (6, .bptr 1 0), (8, .int .i64 a), (9, .int .i64 (a + d)), (10, .bptr 2 0), (11, .int .i64 (i : Int))])
    (fun i => [(0, .box x.row), (1, .box (⟨(m : Int), 0, E, [], 0, 0, 0, A, 0, 0⟩ : Sta).row), (2, .box (gsum x a (a + d) (E.take i)).cells)]) 3 (fun i => E.length - i) 0
    ⟨Nat.zero_le _, [(0, 0), (1, 1), (2, 2)], rfl, rfl, ⟨AVle.refl _, AVle.refl _, AVle.refl _, AVle.refl _, AVle.refl _, AVle.refl _, trivial⟩, ⟨MOle.refl _, MOle.refl _, MOle.refl _, trivial⟩⟩ ?_
  intro i hi
  by_cases hi2 : i < E.length
  · have W : EntW x a (a + d) (ix E i) := hew _ (getD_mem hi2)
    obtain ⟨n, w, n1, n2, n3⟩ := W.key
    have cg := GetObject_yes x (StoRdP hok) hok (ix E i).key (by rw [n3]; exact keyF_ok (by omega)) W.has
    have cw0 := windowOf_yes (ix E i) W.t0 (x.get (ix E i).key).data (by have := W.len; omega) a (a + d) (inI64 (by omega) (by omega)) W.rd
    have cw := WindowOf_fn (ix E i) W.ok (x.get (ix E i).key).data (by have := W.len; omega) a (a + d) hr _ 0 cw0
    have ewv : aggL (smpsIn (rdV (x.get (ix E i).key).data) a (a + d)) = winV (ix E i) (x.get (ix E i).key).data a (a + d) := by unfold winV; rw [if_pos W.t0]
    rw [ewv] at cw
    have gi := gb i (by omega)
    have cm := MergeAgg_fn (gsum x a (a + d) (E.take i)) _ gi.1 W.w.1 (by have := W.w.2; omega)
    have gs := gsum_snoc x a (a + d) hi2
    generalize winV (ix E i) (x.get (ix E i).key).data a (a + d) = V at *
    refine Grd.intro (fun _ => ?_) (fun h => absurd (show ¬ (i : Int) < (E.length : Int) from of_decide_eq_false h) (by omega))
    refine DrawC.mk 15 rfl (by kernel_rfl) ?_
    refine And.intro (show (0 : Int) ≤ (i : Int) ∧ (i : Int) < (E.length : Int) by omega) ?_
    refine PCallC.sca _ (cg) rfl ?_
    conv => whnf
    refine And.intro (show (0 : Int) ≤ (i : Int) ∧ (i : Int) < (E.length : Int) by omega) ?_
    conv => whnf
    refine CallC.sca _ (cw) ?_ ?_
    · exact rfl
    conv => whnf
    refine CallC.sca _ (cm) ?_ ?_
    · exact rfl
    refine And.intro (show inI .i64 ((i : Int) + 1) from inI64 (by omega) (by omega)) ?_
    exact ⟨i + 1, hi2, by omega, [(0, 0), (1, 1), (2, 2)], rfl, rfl, ⟨AVle.refl _, AVle.refl _, AVle.refl _, AVle.refl _, AVle.refl _, AVle.refl _, trivial⟩, ⟨MOle.refl _, MOle.refl _, MOle.of_eq (show MO.box ((gsum x a (a + d) (E.take i)).mrg V).cells = _ by rw [gs]), trivial⟩⟩
  have hiE : i = E.length := by omega
  subst hiE
  rw [List.take_of_length_le (Nat.le_refl _)]
  have cN := NewReader_fn 3 (by omega)
  have r0ok : (rd0 3).ok = true := by decide
  have cA := AskReader_fn (rd0 3) r0ok rfl 0 a (a + d) (by decide) hr
  obtain ⟨Z, hZ, zok, zpin⟩ := qen
  have zl : Z.os.length ≤ 1000000 := by have := ((stoOK_iff Z).1 zok).len; omega
  have cP := PinsAt_fn Z zok 50 (by omega)
  rw [zpin] at cP
  refine Grd.intro (fun h => absurd (show (E.length : Int) < (E.length : Int) from of_decide_eq_true h) (by omega)) (fun _ => ?_)
  conv => whnf
  refine CallC.nl _ (cN) ?_ ?_
  · exact rfl
  conv => whnf
  refine CallC.nl _ (cA) ?_ ?_
  · exact rfl
  conv => whnf
  refine LoopC.mk (fun k : Nat => k ≤ T.length + 3) (fun k => [(5, .bptr 0 0), (6, .bptr 1 0), (10, .bptr 2 0), (21, .bptr 3 0), (23, .int .i64 (k : Int))])
    (fun k => [(0, .box (qs x T a (a + d) k).1.row), (1, .box (⟨(m : Int), 0, E, [], 0, 0, 0, A, 0, 0⟩ : Sta).row), (2, .box (gsum x a (a + d) E).cells), (3, .box (qs x T a (a + d) k).2.row)]) 4 (fun k => T.length + 4 - k) 0
    ⟨Nat.zero_le _, [(0, 0), (1, 1), (2, 2), (4, 3)], rfl, rfl, ⟨AVle.refl _, AVle.refl _, AVle.refl _, AVle.refl _, AVle.refl _, trivial⟩, ⟨MOle.refl _, MOle.refl _, MOle.refl _, MOle.refl _, trivial⟩⟩ ?_
  intro k hk
  have O := qok k hk
  have st := qst k hk
  have hle : T.length + 3 < E.length + 9 := by rw [hT]; have : (E.filter (tch a (a + d))).length ≤ E.length := List.length_filter_le _ _; omega
  refine And.intro (show inI .i64 ((E.length : Int) + 9) from inI64 (by omega) (by omega)) ?_
  refine Grd.intro (fun _ => ?_) (fun h => absurd (show ¬ (k : Int) < (E.length : Int) + 9 from of_decide_eq_false h) (by omega))
  by_cases hk3 : k = T.length + 3
  · subst hk3
    rw [decide_eq_true rfl, show T.length + 3 + 1 = T.length + 4 from rfl, hZ] at st
    have cS := StepReader_fn _ O.sok _ O.rok 50 (by omega) O.win _ _ _ _ st zl (by simp)
    conv => whnf
    refine CallC.nl _ (cS) ?_ ?_
    · exact rfl
    conv => whnf
    refine CallC.nl _ (cP) ?_ ?_
    · exact rfl
    generalize gsum x a (a + d) E = G at *
    refine And.intro (by kernel_rfl) ?_
    refine Grd.intro (fun _ => ?_) (fun h => ?_)
    rotate_left
    · exfalso; simp at h
    refine And.intro trivial (AVle.of_eq (congrArg AV.bool ?_))
    simp
  · have O2 := qok (k + 1) (by omega)
    rw [decide_eq_false hk3] at st
    have cS := StepReader_fn _ O.sok _ O.rok 50 (by omega) O.win _ _ _ _ st (by have := ((stoOK_iff _).1 O2.sok).len; omega) (by have := O2.ll; omega)
    conv => whnf
    refine CallC.nl _ (cS) ?_ ?_
    · exact rfl
    conv => whnf
    refine And.intro (show inI .i64 ((k : Int) + 1) from inI64 (by omega) (by omega)) ?_
    exact ⟨k + 1, by show k + 1 ≤ T.length + 3; omega, by show T.length + 4 - (k + 1) < T.length + 4 - k; omega, [(0, 0), (1, 1), (2, 2), (3, 3)], rfl, rfl, ⟨AVle.refl _, AVle.refl _, AVle.refl _, AVle.refl _, AVle.refl _, trivial⟩, ⟨MOle.refl _, MOle.refl _, MOle.refl _, MOle.refl _, trivial⟩⟩
theorem law_Query (code : List UInt8) (hc : code.length ≤ 9223372036854775807) (more : List UInt8) (hm : more.length ≤ 9223372036854775807) : VFn Tryz.prog 4 [byts code, byts more] (.bool true) := lawQuery code more hc hm
end Go.Proofs.YtfaffgneccjpbaaGreatDoor
