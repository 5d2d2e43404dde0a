/- Contracts of functions that the claim reaches, and the plain law of what they compute; each theorem bears its own conditions. -/
import Derived.Test.YtfaffgneccjpbaaGreatDoorQ4
import Derived.Test.YtfaffgneccjpbaaGreatDoorQ3
import Derived.Test.YtfaffgneccjpbaaGreatDoorQ5
set_option linter.unusedVariables false
set_option linter.constructorNameAsVariable false
set_option linter.unusedSimpArgs false
set_option maxRecDepth 20000
namespace Go.Proofs.YtfaffgneccjpbaaGreatDoor
open Go Go.Vw

theorem mem_has {s : Sto} (h : Srt s.os) {o : Ob} (ho : o ∈ s.os) : s.has o.key = true ∧ s.get o.key = o := by
  obtain ⟨j, hj, e⟩ := List.getElem_of_mem ho
  have ej : ix s.os j = o := by rw [ix_lt hj]; exact e
  have hl := lb_le o.key s.os
  have h1 : lb o.key s.os ≤ j := by
    rcases Nat.lt_or_ge j (lb o.key s.os) with h1 | h1
    · have := lb_lt h1
      rw [ej] at this
      exact absurd this (List.lt_irrefl _)
    · exact h1
  have h2 : lb o.key s.os = j := by
    rcases Nat.lt_or_ge (lb o.key s.os) j with h2 | h2
    · have h3 := h.lt h2 hj
      rw [ej] at h3
      exact absurd h3 (lb_ge (by omega))
    · omega
  have h3 : ix s.os (lb o.key s.os) = o := by rw [h2]; exact ej
  refine ⟨?_, h3⟩
  unfold Sto.has hasK
  rw [h3, decide_eq_true (by omega : lb o.key s.os < s.os.length)]
  simp
theorem has_get {s : Sto} {k : List UInt8} (h : s.has k = true) : s.get k ∈ s.os ∧ (s.get k).key = k := by
  obtain ⟨h1, h2⟩ := hasK_at h
  exact ⟨getD_mem h1, h2⟩
theorem set_mem {s : Sto} (h : Srt s.os) (k d : List UInt8) (o : Ob) : o ∈ (s.set k d).os ↔ o = ⟨k, s.next, d⟩ ∨ (o ∈ s.os ∧ o.key ≠ k) := by
  have e : (s.set k d).os = s.os.take (lb k s.os) ++ (⟨k, s.next, d⟩ :: s.os.drop (if hasK k s.os = true then lb k s.os + 1 else lb k s.os)) := rfl
  have ht := lb_take (k := k) (L := s.os)
  have hd := lb_drop (k := k) h
  rw [e, List.mem_append, List.mem_cons]
  constructor
  · rintro (h1 | h1 | h1)
    · refine .inr ⟨List.mem_of_mem_take h1, fun e => ?_⟩
      have := ht o h1
      rw [e] at this
      exact List.lt_irrefl _ this
    · exact .inl h1
    · refine .inr ⟨List.mem_of_mem_drop h1, fun e => ?_⟩
      have := hd o h1
      rw [e] at this
      exact List.lt_irrefl _ this
  · rintro (h1 | ⟨h1, h2⟩)
    · exact .inr (.inl h1)
    · obtain ⟨j, hj, e1⟩ := List.getElem_of_mem h1
      rcases Nat.lt_or_ge j (lb k s.os) with h3 | h3
      · left
        exact List.mem_take_iff_getElem.2 ⟨j, by omega, e1⟩
      · right; right
        have hq : (if hasK k s.os = true then lb k s.os + 1 else lb k s.os) ≤ j := by
          split
          · rename_i hk
            obtain ⟨k1, k2⟩ := hasK_at hk
            rcases Nat.lt_or_ge (lb k s.os) j with h4 | h4
            · exact h4
            · have : j = lb k s.os := by omega
              subst this
              rw [ix_lt hj, e1] at k2
              exact absurd k2 h2
          · exact h3
        refine List.mem_iff_getElem.2 ⟨j - (if hasK k s.os = true then lb k s.os + 1 else lb k s.os), by rw [List.length_drop]; omega, ?_⟩
        rw [List.getElem_drop]
        simp only [show (if hasK k s.os = true then lb k s.os + 1 else lb k s.os) + (j - (if hasK k s.os = true then lb k s.os + 1 else lb k s.os)) = j by omega]
        exact e1
/-- what is put elsewhere changes nothing here -/
theorem set_ne {s : Sto} (hs : s.ok = true) {k d : List UInt8} (hy : (s.set k d).ok = true) {k' : List UInt8} (hk : k' ≠ k) : (s.set k d).has k' = s.has k' ∧ (s.has k' = true → (s.set k d).get k' = s.get k') := by
  have h1 := Sto.srt hs
  have h2 := Sto.srt hy
  have fw : (s.set k d).has k' = true → s.has k' = true := fun h => by
    obtain ⟨a1, a2⟩ := has_get h
    rcases (set_mem h1 k d _).1 a1 with e | ⟨e, _⟩
    · rw [e] at a2; exact absurd a2.symm hk
    · have := (mem_has h1 e).1
      rwa [a2] at this
  have bw : s.has k' = true → (s.set k d).has k' = true ∧ (s.set k d).get k' = s.get k' := fun h => by
    obtain ⟨a1, a2⟩ := has_get h
    have := mem_has h2 ((set_mem h1 k d _).2 (.inr ⟨a1, by rw [a2]; exact hk⟩))
    rw [a2] at this
    exact this
  refine ⟨?_, fun h => (bw h).2⟩
  cases h : s.has k' with
  | true => exact (bw h).1
  | false =>
    cases h' : (s.set k d).has k' with
    | false => rfl
    | true => rw [fw h'] at h; cases h
theorem logN_congr {x y : Sto} : ∀ n : Nat, (∀ j, j < n → (y.get (manK ((j + 1 : Nat) : Int))).data = (x.get (manK ((j + 1 : Nat) : Int))).data) → logN y n = logN x n
  | 0, _ => rfl
  | n + 1, h => by
    show stepL y (logN y n) = stepL x (logN x n)
    rw [logN_congr n fun j hj => h j (by omega)]
    unfold stepL recAt
    rw [logN_seq x n, show ((n : Nat) : Int) + 1 = ((n + 1 : Nat) : Int) by omega, h n (by omega)]
def Sta.lay (s : Sta) (t : List UInt8) : Sta := match readR t with | none => s.tick | some r => s.app r
/-- the log of a store in which the next record was laid -/
theorem log_grow {x y : Sto} (hy : y.ok = true) {n : Nat} (hn : n ≤ 299) (hh : ∀ j, j < n → x.has (manK ((j + 1 : Nat) : Int)) = true) (he : logEnd x = n)
    (h1 : ∀ j, j < n → y.has (manK ((j + 1 : Nat) : Int)) = true ∧ (y.get (manK ((j + 1 : Nat) : Int))).data = (x.get (manK ((j + 1 : Nat) : Int))).data)
    (h2 : y.has (manK ((n + 1 : Nat) : Int)) = true) (h3 : y.has (manK ((n + 2 : Nat) : Int)) = false) : logEnd y = n + 1 ∧ logS y = (logS x).lay (y.get (manK ((n + 1 : Nat) : Int))).data := by
  have e : n + 1 = logEnd y := log_end hy (by omega) (fun j hj => by
    rcases Nat.lt_or_ge j n with h | h
    · exact (h1 j h).1
    · have : j = n := by omega
      subst this; exact h2) h3
  refine ⟨e.symm, ?_⟩
  unfold logS
  rw [← e, he]
  show stepL y (logN y n) = _
  rw [logN_congr n fun j hj => (h1 j hj).2]
  unfold stepL recAt Sta.lay
  rw [logN_seq x n, show ((n : Nat) : Int) + 1 = ((n + 1 : Nat) : Int) by omega]
  generalize readR _ = o
  cases o <;> rfl
end Go.Proofs.YtfaffgneccjpbaaGreatDoor
set_option linter.unusedVariables false
set_option linter.constructorNameAsVariable false
set_option linter.unusedSimpArgs false
set_option maxRecDepth 20000
namespace Go.Proofs.YtfaffgneccjpbaaGreatDoor
open Go Go.Vw

theorem join_no32 : ∀ L : List Int, ∀ x ∈ Lib.join (L.map Lib.itoa) [44], x ≠ (32 : UInt8)
  | [], x, hx => by simp [Lib.join] at hx
  | [a], x, hx => itoa_ne (by decide) (by decide) x (by simpa [Lib.join] using hx)
  | a :: b :: r, x, hx => by
    have e : Lib.join ((a :: b :: r).map Lib.itoa) [44] = Lib.itoa a ++ [44] ++ Lib.join ((b :: r).map Lib.itoa) [44] := by simp [Lib.join, List.intercalate, List.intersperse]
    rw [e] at hx
    rcases List.mem_append.1 hx with hx | hx
    · rcases List.mem_append.1 hx with hx | hx
      · exact itoa_ne (by decide) (by decide) x hx
      · simp at hx; rw [hx]; decide
    · exact join_no32 (b :: r) x hx
theorem text_nums {r : Rc} (h : r.ok = true) : numsK 44 5 (Lib.join (r.nums.map Lib.itoa) [44]) = some [r.k, r.tok, r.tier, r.f, r.t] :=
  nums_back (c := 44) (by decide) (by decide) (N := r.nums) (by simp [Rc.nums]) (fun n hn => by have := (Rc.okN h).1 n hn; unfold mid at this; omega)
theorem text_back {r : Rc} (h : r.ok = true) : readR r.text = some r := by
  have := (readR_at (b := r.key) (join_no32 r.nums)).1 _ _ _ _ _ (text_nums h)
  show readR (Lib.join (r.nums.map Lib.itoa) [44] ++ 32 :: r.key) = _
  rw [this, if_pos h]
end Go.Proofs.YtfaffgneccjpbaaGreatDoor
set_option linter.unusedVariables false
set_option linter.constructorNameAsVariable false
set_option linter.unusedSimpArgs false
set_option maxRecDepth 20000
namespace Go.Proofs.YtfaffgneccjpbaaGreatDoor
open Go Go.Vw

theorem smpsF_srt {L : List Smp} (h : smpsOK L = true) : ∀ i j, i ≤ j → j < L.length → (ix L i).t ≤ (ix L j).t := by
  have hh : ∀ i, i < L.length → smpAt L i = true := by
    unfold smpsOK at h
    rw [Bool.and_eq_true] at h
    exact allN_iff.1 h.2
  intro i j hij
  induction j with
  | zero => intro _; rw [show i = 0 by omega]; exact Int.le_refl _
  | succ j ih =>
    intro hj
    rcases Nat.lt_or_ge i (j + 1) with h1 | h1
    · have a := ih (by omega) (by omega)
      have b := hh (j + 1) hj
      simp [smpAt] at b
      omega
    · rw [show i = j + 1 by omega]; exact Int.le_refl _
structure FE (x : Sto) (E : List En) (at_ : Int) : Prop where
  tm : ∀ e ∈ E, e.tier = 0 ∧ 0 ≤ e.f ∧ e.f < e.t ∧ e.t ≤ at_ ∧ e.t ≤ e.f + 60
  key : ∀ j, j < E.length → ∃ w : Nat, w ≤ 1 ∧ (ix E j).key = keyB 0 (j + 1) w
  hd : ∀ e r, E = e :: r → e.f = 0
  last : at_ = match E.getLast? with | none => 0 | some e => e.t
  data : ∀ e ∈ E, ∃ L : List Smp, smpsOK L = true ∧ L.length ≤ 6 ∧ (∀ s ∈ L, e.f ≤ s.t ∧ s.t < e.t) ∧ x.has e.key = true ∧ (x.get e.key).data = smpsText L
structure FL (i : Nat) (q : FS) : Prop where
  has : ∀ n : Nat, 1 ≤ n → n ≤ 999999 → q.x.has (manK (n : Int)) = decide (n < i)
  fin : logEnd q.x = i - 1
  st : ∃ E : List En, logS q.x = ⟨((i - 1 : Nat) : Int), 0, E, [], 0, 0, 0, q.at_, 0, 0⟩ ∧ E.length = i - 1 ∧ FE q.x E q.at_
theorem FL.zero {s : Src} : FL 1 ⟨stoN0, 0, s⟩ :=
  ⟨fun n h1 h2 => by rw [decide_eq_false (by omega)]; rfl, rfl, [], rfl, rfl, ⟨by simp, fun j hj => absurd hj (Nat.not_lt_zero j), fun e r h => (by cases h), rfl, by simp⟩⟩
theorem man_ne_key (n : Int) {t m w : Nat} : manK n ≠ keyB t m w := fun h => by
  have h1 : (manK n).length = 10 := by simp [manK, six6]
  have h2 : 13 ≤ (keyB t m w).length := by
    unfold keyB pre
    split <;> simp [six6]
  rw [h] at h1
  omega
theorem FL.step {i : Nat} {q : FS} (h : FI i q) (hf : FL i q) (hs : q.draw.s.ok (100003 + 200 * i)) (hi : 1 ≤ i ∧ i ≤ 6) : FL (i + 1) (q.draw.step i) := by
  have b := h.facts hs hi
  have hst := h.step hs hi
  have hok : q.draw.x.ok = true := h.ok
  obtain ⟨f1, f2, E, f3, f4, f5⟩ := hf
  have hat : 0 ≤ q.draw.at_ ∧ q.draw.at_ ≤ 100 * ((i : Int) - 1) := h.at_
  have f1 : ∀ n : Nat, 1 ≤ n → n ≤ 999999 → q.draw.x.has (manK (n : Int)) = decide (n < i) := f1
  have f2 : logEnd q.draw.x = i - 1 := f2
  have f3 : logS q.draw.x = ⟨((i - 1 : Nat) : Int), 0, E, [], 0, 0, 0, q.draw.at_, 0, 0⟩ := f3
  have f5 : FE q.draw.x E q.draw.at_ := f5
  have hok2 : (q.draw.step i).x.ok = true := hst.ok
  generalize q.draw = q at *
  obtain ⟨w, hw⟩ : ∃ w : Nat, q.W.1 = w := ⟨q.W.1.toNat, by have := b.w; omega⟩
  have hw1 : w ≤ 1 := by have := b.w; omega
  have hkey : q.key i = keyB 0 i w := by unfold FS.key; rw [hw]; rfl
  have hne : ∀ n : Int, manK n ≠ q.key i := fun n => by rw [hkey]; exact man_ne_key n
  -- the first change
  have a1 : ∀ k, k ≠ q.key i → (q.x1 i).has k = q.x.has k ∧ (q.x.has k = true → (q.x1 i).get k = q.x.get k) := fun k hk => set_ne hok b.ok1 hk
  have a2 : ∀ k, k ≠ manK (i : Int) → (q.step i).x.has k = (q.x1 i).has k ∧ ((q.x1 i).has k = true → (q.step i).x.get k = (q.x1 i).get k) := fun k hk => set_ne b.ok1 hok2 hk
  have a3 : ∀ k, k ≠ q.key i → k ≠ manK (i : Int) → (q.step i).x.has k = q.x.has k ∧ (q.x.has k = true → (q.step i).x.get k = q.x.get k) := fun k h1 h2 => by
    obtain ⟨c1, c2⟩ := a1 k h1
    obtain ⟨d1, d2⟩ := a2 k h2
    exact ⟨d1.trans c1, fun h => (d2 (c1.trans h)).trans (c2 h)⟩
  have a4 : (q.step i).x.has (manK (i : Int)) = true ∧ (q.step i).x.get (manK (i : Int)) = ⟨manK (i : Int), (q.x1 i).next, (q.rc i).text⟩ := set_at _ _ _
  have a5 : (q.step i).x.has (q.key i) = true ∧ ((q.step i).x.get (q.key i)).data = smpsText q.L.1 := by
    obtain ⟨d1, d2⟩ := a2 (q.key i) (fun e => hne i e.symm)
    have c := set_at q.x (q.key i) (smpsText q.L.1)
    have c1 : (q.x1 i).has (q.key i) = true := c.1
    have c2 : (q.x1 i).get (q.key i) = ⟨q.key i, q.x.next, smpsText q.L.1⟩ := c.2
    exact ⟨d1.trans c1, by rw [d2 c1, c2]⟩
  have a6 : ∀ n : Nat, 1 ≤ n → n ≤ 999999 → (q.step i).x.has (manK (n : Int)) = decide (n < i + 1) := fun n h1 h2 => by
    by_cases e : n = i
    · subst e
      rw [a4.1, decide_eq_true (by omega)]
    · rw [(a3 _ (hne n) fun e' => e (manK_inj h2 (by omega) e')).1, f1 n h1 h2]
      by_cases h3 : n < i
      · rw [decide_eq_true h3, decide_eq_true (by omega)]
      · rw [decide_eq_false h3, decide_eq_false (by omega)]
  have hi1 : i - 1 + 1 = i := by omega
  obtain ⟨g1, g2⟩ := log_grow (x := q.x) (y := (q.step i).x) hok2 (n := i - 1) (by omega) (fun j hj => by rw [f1 _ (by omega) (by omega)]; exact decide_eq_true (by omega)) f2
    (fun j hj => by
      have hh : q.x.has (manK ((j + 1 : Nat) : Int)) = true := by rw [f1 _ (by omega) (by omega)]; exact decide_eq_true (by omega)
      obtain ⟨c1, c2⟩ := a3 (manK ((j + 1 : Nat) : Int)) (hne _) (fun e' => by have := manK_inj (by omega) (by omega) e'; omega)
      exact ⟨c1.trans hh, by rw [c2 hh]⟩)
    (by rw [hi1]; exact a4.1) (by rw [a6 _ (by omega) (by omega)]; exact decide_eq_false (by omega))
  rw [hi1, a4.2] at g2
  have hE : ∀ e ∈ E, ∃ (m w' : Nat), m < i ∧ 1 ≤ m ∧ w' ≤ 1 ∧ e.key = keyB 0 m w' := fun e he => by
    obtain ⟨j, hj, e1⟩ := List.getElem_of_mem he
    obtain ⟨w', h1, h2⟩ := f5.key j hj
    rw [ix_lt hj, e1] at h2
    exact ⟨j + 1, w', by omega, by omega, h1, h2⟩
  have hEk : ∀ e ∈ E, e.key ≠ q.key i := fun e he h' => by
    obtain ⟨m, w', h1, h2, h3, h4⟩ := hE e he
    rw [h4, hkey] at h'
    have k1 := (keyF_fields (t := 0) (n := m) (w := w') (by omega) (by omega) (by omega)).2.2.1
    have k2 := (keyF_fields (t := 0) (n := i) (w := w) (by omega) (by omega) (by omega)).2.2.1
    rw [h', k2] at k1
    omega
  have hlay : logS (q.step i).x = ⟨((i : Nat) : Int), 0, E ++ [⟨0, q.at_, q.to, q.key i⟩], [], 0, 0, 0, q.to, 0, 0⟩ := by
    rw [g2, f3]
    unfold Sta.lay
    simp only
    rw [text_back b.rc]
    have hk2 := (keyF_fields (t := 0) (n := i) (w := w) (by omega) (by omega) (by omega)).2.2.1
    have htk : (⟨((i - 1 : Nat) : Int), 0, E, [], 0, 0, 0, q.at_, 0, 0⟩ : Sta).takes (q.rc i) = true := by
      unfold Sta.takes FS.rc
      simp only [if_true, hkey, hk2]
      have hn : (⟨((i - 1 : Nat) : Int), 0, E, [], 0, 0, 0, q.at_, 0, 0⟩ : Sta).has (keyB 0 i w) = false := by
        cases hh : (⟨((i - 1 : Nat) : Int), 0, E, [], 0, 0, 0, q.at_, 0, 0⟩ : Sta).has (keyB 0 i w) with
        | false => rfl
        | true =>
          have := (has_iff _ _).1 hh
          simp [Sta.keys] at this
          obtain ⟨e, he, h'⟩ := this
          exact absurd (h'.trans hkey.symm) (hEk e he)
      rw [hn, decide_eq_true (by omega : ((i : Nat) : Int) = ((i - 1 : Nat) : Int) + 1)]
      simp
    show (Sta.app _ (q.rc i)) = _
    unfold Sta.app
    rw [if_pos htk]
    unfold FS.rc
    simp [Sta.lift, Sta.tick, Rc.en]
    omega
  refine ⟨a6, by rw [g1]; omega, E ++ [⟨0, q.at_, q.to, q.key i⟩], by rw [hlay]; rfl, by rw [List.length_append, f4]; simp; omega, ?_⟩
  have hto := b.tb
  refine ⟨fun e he => ?_, fun j hj => ?_, fun e r he => ?_, ?_, fun e he => ?_⟩
  · rcases List.mem_append.1 he with he | he
    · have := f5.tm e he
      exact ⟨this.1, this.2.1, this.2.2.1, by show e.t ≤ q.to; omega, this.2.2.2.2⟩
    · simp at he
      subst he
      exact ⟨rfl, hat.1, hto.1, Int.le_refl _, hto.2⟩
  · rw [List.length_append] at hj
    rcases Nat.lt_or_ge j E.length with h1 | h1
    · rw [ix_app_l h1]; exact f5.key j h1
    · have : j = E.length := by simp at hj; omega
      subst this
      rw [ix_app_r (Nat.le_refl _), Nat.sub_self]
      exact ⟨w, hw1, by show q.key i = _; rw [hkey, f4, hi1]⟩
  · cases E with
    | nil =>
      simp at he
      rw [← he.1]
      have := f5.last
      exact this
    | cons a l =>
      simp at he
      rw [← he.1]
      exact f5.hd a l rfl
  · simp
    rfl
  · rcases List.mem_append.1 he with he | he
    · obtain ⟨L, l1, l2, l3, l4, l5⟩ := f5.data e he
      obtain ⟨m, w', h1, h2, h3, h4⟩ := hE e he
      obtain ⟨c1, c2⟩ := a3 e.key (hEk e he) (fun e' => by rw [h4] at e'; exact man_ne_key _ e'.symm)
      exact ⟨L, l1, l2, l3, c1.trans l4, by rw [c2 l4]; exact l5⟩
    · simp at he
      subst he
      refine ⟨q.L.1, b.m.ok, b.m.len, fun s hs => ?_, a5.1, a5.2⟩
      have := b.m.tm s hs
      refine ⟨this.1, ?_⟩
      obtain ⟨j, hj, e1⟩ := List.getElem_of_mem hs
      have e2 := smpsF_srt b.m.ok j (q.L.1.length - 1) (by omega) (by omega)
      rw [ix_lt hj, e1] at e2
      show s.t < q.to
      unfold FS.to
      rw [if_neg (by omega)]
      omega
theorem fill_log {i : Nat} {q : FS} (h : FI i q) (hf : FL i q) (hi : 1 ≤ i ∧ i ≤ 6) : ∃ j, i ≤ j ∧ j ≤ 6 ∧ ∃ q', FI j q' ∧ FL j q' ∧ q'.draw.s.ok (100003 + 200 * j) ∧ fiIt (7 - i) i q = q'.draw := by
  have hd := h.draw hi
  rw [fiIt_eq hi.2]
  split
  · rename_i g
    have hi5 : i ≤ 5 := by have := hd.1.2; omega
    obtain ⟨j, j1, j2, r⟩ := fill_log (h.step hd.2 hi) (FL.step h hf hd.2 hi) ⟨by omega, by omega⟩
    exact ⟨j, by omega, j2, r⟩
  · exact ⟨i, Nat.le_refl _, hi.2, q, h, hf, hd.2, rfl⟩
termination_by 7 - i
structure FF (s : Src) (m : Nat) (E : List En) : Prop where
  rng : 1 ≤ m ∧ m ≤ 5
  ok : s.filled.x.ok = true
  len : s.filled.x.os.length ≤ 10
  nxt : s.filled.x.next ≤ 11
  src : s.filled.s.ok 101300
  at_ : 0 < s.filled.at_ ∧ s.filled.at_ ≤ 500
  has : ∀ n : Nat, 1 ≤ n → n ≤ 999999 → s.filled.x.has (manK (n : Int)) = decide (n ≤ m)
  fin : logEnd s.filled.x = m
  log : logS s.filled.x = ⟨(m : Int), 0, E, [], 0, 0, 0, s.filled.at_, 0, 0⟩
  el : E.length = m
  es : FE s.filled.x E s.filled.at_
theorem filled_facts {s : Src} (h : s.ok 100000) : ∃ m E, FF s m E := by
  have h0 := FI.zero h
  have hd := h0.draw (by decide)
  have e0 : s.filled = fiIt (7 - 1) 1 ⟨stoN0, 0, s⟩ := rfl
  rw [fiIt_eq (by decide), if_pos (by have := hd.1.1; omega)] at e0
  obtain ⟨j, j1, j2, q, hq, hl, hs, e⟩ := fill_log (h0.step hd.2 (by decide)) (FL.step h0 FL.zero hd.2 (by decide)) ⟨by decide, by decide⟩
  have e : s.filled = q.draw := e0.trans e
  obtain ⟨f1, f2, E, f3, f4, f5⟩ := hl
  have l1 := hq.len
  have l2 := hq.nxt
  have l3 := hq.at_
  have hat : 0 < q.at_ := by
    have := f5.last
    cases hE : E.getLast? with
    | none =>
      rw [List.getLast?_eq_none_iff] at hE
      rw [hE] at f4
      simp at f4
      omega
    | some a =>
      rw [hE] at this
      have h1 := f5.tm a (List.mem_of_getLast? hE)
      simp only at this
      omega
  have hj : (j - 1 : Nat) + 1 = j := by omega
  refine ⟨j - 1, E, ?_⟩
  constructor
  · omega
  all_goals try rw [e]
  · exact hq.ok
  · show q.x.os.length ≤ _; omega
  · show q.x.next ≤ _; omega
  · exact wk hs (by omega)
  · exact ⟨hat, by show q.at_ ≤ _; omega⟩
  · intro n h1 h2
    show q.x.has _ = _
    rw [f1 n h1 h2]
    by_cases h3 : n < j
    · rw [decide_eq_true h3, decide_eq_true (by omega)]
    · rw [decide_eq_false h3, decide_eq_false (by omega)]
  · exact f2
  · exact f3
  · exact f4
  · exact f5
end Go.Proofs.YtfaffgneccjpbaaGreatDoor
set_option linter.unusedVariables false
set_option linter.constructorNameAsVariable false
set_option linter.unusedSimpArgs false
set_option maxRecDepth 20000
namespace Go.Proofs.YtfaffgneccjpbaaGreatDoor
open Go Go.Vw

structure LogX (x : Sto) (n : Nat) (s : Sta) : Prop where
  ok : x.ok = true
  has : ∀ k : Nat, 1 ≤ k → k ≤ 999999 → x.has (manK (k : Int)) = decide (k ≤ n)
  fin : logEnd x = n
  log : logS x = s
/-- what is set elsewhere leaves the log -/
theorem LogX.set {x : Sto} {n : Nat} {s : Sta} (h : LogX x n s) (hn : n ≤ 290) {k d : List UInt8} (hk : ∀ i : Int, manK i ≠ k) (hy : (x.set k d).ok = true) : LogX (x.set k d) n s := by
  have a1 : ∀ q, q ≠ k → (x.set k d).has q = x.has q ∧ (x.has q = true → (x.set k d).get q = x.get q) := fun q hq => set_ne h.ok hy hq
  have g1 : ∀ q : Nat, 1 ≤ q → q ≤ 999999 → (x.set k d).has (manK (q : Int)) = decide (q ≤ n) := fun q h1 h2 => (a1 _ (hk _)).1.trans (h.has q h1 h2)
  have gd : ∀ j, j < n → (x.set k d).has (manK ((j + 1 : Nat) : Int)) = true ∧ ((x.set k d).get (manK ((j + 1 : Nat) : Int))).data = (x.get (manK ((j + 1 : Nat) : Int))).data := fun j hj => by
    have hh : x.has (manK ((j + 1 : Nat) : Int)) = true := by rw [h.has _ (by omega) (by omega)]; exact decide_eq_true (by omega)
    obtain ⟨c1, c2⟩ := a1 (manK ((j + 1 : Nat) : Int)) (hk _)
    exact ⟨c1.trans hh, by rw [c2 hh]⟩
  have e1 : n = logEnd (x.set k d) := log_end hy (by omega) (fun j hj => (gd j hj).1) (by rw [g1 _ (by omega) (by omega)]; exact decide_eq_false (by omega))
  refine ⟨hy, g1, e1.symm, ?_⟩
  rw [← h.log]
  unfold logS
  rw [← e1, h.fin]
  exact logN_congr n fun j hj => (gd j hj).2
structure Laid (x : Sto) (n : Nat) (s : Sta) (r : Rc) (x' : Sto) : Prop where
  app : appS x ((n + 1 : Nat) : Int) r = (x', 0)
  lg : LogX x' (n + 1) (s.app r)
  len : x'.os.length ≤ x.os.length + 1
  nxt : x'.next = x.next + 1
  ot : ∀ k, k ≠ manK ((n + 1 : Nat) : Int) → x'.has k = x.has k ∧ (x.has k = true → x'.get k = x.get k)
/-- the next record laid down -/
theorem LogX.lay {x : Sto} {n : Nat} {s : Sta} (h : LogX x n s) (hn : n ≤ 290) (hl : x.os.length < 300) (hx : x.next < 1000000000) {r : Rc} (hr : r.ok = true) : ∃ x', Laid x n s r x' := by
  obtain ⟨p1, p2, p3, p4, p5⟩ := put_ok h.ok (manK_keyOK ((n + 1 : Nat) : Int)) (d := r.text) (by have := Rc.txt_len hr; omega) hl hx
  have hno : x.has (manK ((n + 1 : Nat) : Int)) = false := by rw [h.has _ (by omega) (by omega)]; exact decide_eq_false (by omega)
  have ha : appS x ((n + 1 : Nat) : Int) r = (x.set (manK ((n + 1 : Nat) : Int)) r.text, 0) := by
    unfold appS Sto.putA
    rw [if_neg (by rw [hno]; simp), p2, p1]
  rw [p2] at p3 p4 p5
  have a4 := set_at x (manK ((n + 1 : Nat) : Int)) r.text
  have a2 : ∀ k, k ≠ manK ((n + 1 : Nat) : Int) → (x.set (manK ((n + 1 : Nat) : Int)) r.text).has k = x.has k ∧ (x.has k = true → (x.set (manK ((n + 1 : Nat) : Int)) r.text).get k = x.get k) := fun k hk => set_ne h.ok p3 hk
  refine ⟨x.set (manK ((n + 1 : Nat) : Int)) r.text, ha, ?_, p5, p4, a2⟩
  generalize x.set (manK ((n + 1 : Nat) : Int)) r.text = z at *
  have a6 : ∀ k : Nat, 1 ≤ k → k ≤ 999999 → z.has (manK (k : Int)) = decide (k ≤ n + 1) := fun k h1 h2 => by
    by_cases e : k = n + 1
    · subst e
      rw [a4.1, decide_eq_true (by omega)]
    · rw [(a2 _ fun e' => e (manK_inj h2 (by omega) e')).1, h.has k h1 h2]
      by_cases h3 : k ≤ n
      · rw [decide_eq_true h3, decide_eq_true (by omega)]
      · rw [decide_eq_false h3, decide_eq_false (by omega)]
  have gd : ∀ j, j < n → x.has (manK ((j + 1 : Nat) : Int)) = true := fun j hj => by rw [h.has _ (by omega) (by omega)]; exact decide_eq_true (by omega)
  obtain ⟨q1, q2⟩ := log_grow (x := x) (y := z) p3 (n := n) (by omega) gd h.fin
    (fun j hj => by
      obtain ⟨c1, c2⟩ := a2 (manK ((j + 1 : Nat) : Int)) (fun e' => by have := manK_inj (by omega) (by omega) e'; omega)
      exact ⟨c1.trans (gd j hj), by rw [c2 (gd j hj)]⟩)
    a4.1 (by rw [a6 _ (by omega) (by omega)]; exact decide_eq_false (by omega))
  refine ⟨p3, a6, q1, ?_⟩
  rw [q2, a4.2, h.log]
  unfold Sta.lay
  simp only
  rw [text_back hr]
end Go.Proofs.YtfaffgneccjpbaaGreatDoor
set_option linter.unusedVariables false
set_option linter.constructorNameAsVariable false
set_option linter.unusedSimpArgs false
set_option maxRecDepth 20000
namespace Go.Proofs.YtfaffgneccjpbaaGreatDoor
open Go Go.Vw

def Sta.own (s : Sta) : AV := .agg [.int .i64 s.seq, .int .i64 s.fence, .osl 0, .osl 1, .int .i64 s.l0, .int .i64 s.l1, .int .i64 s.l2, .int .i64 s.h0, .int .i64 s.h1, .int .i64 s.h2]
end Go.Proofs.YtfaffgneccjpbaaGreatDoor
set_option linter.unusedVariables false
set_option linter.constructorNameAsVariable false
set_option linter.unusedSimpArgs false
set_option maxRecDepth 20000
namespace Go.Proofs.YtfaffgneccjpbaaGreatDoor
open Go Go.Vw

end Go.Proofs.YtfaffgneccjpbaaGreatDoor
set_option linter.unusedVariables false
set_option linter.constructorNameAsVariable false
set_option linter.unusedSimpArgs false
set_option maxRecDepth 20000
namespace Go.Proofs.YtfaffgneccjpbaaGreatDoor
open Go Go.Vw

theorem CloneEn_own (L : List En) (hL : L.length ≤ 1000000) : FnM Tryz.prog 103 0 [ents L] [] (.osl 0) [(0, .arr 35 4 L.length fun i => (ix L i).row)] 1 := by
  refine FnM.introN Tryz.call103 Tryz.func103 rfl rfl ?_
  conv => whnf
  refine OpC.isnil rfl rfl rfl rfl rfl (fun h0 => ?_) ?_
  · conv => whnf
    exact ⟨_, .inr ⟨2, 35, 4, fun i => (ix L i).row, rfl, rfl⟩, And.intro trivial ⟨[(0, 0)], rfl, AVle.refl _, ⟨MOle.arr h0.symm fun i hi => rfl, trivial⟩⟩⟩
  · conv => whnf
    refine And.intro ⟨show (0 + L.length) * 40 ≤ 140737488355328 by omega, fun i hi => rfl⟩ ?_
    conv => whnf
    exact ⟨_, .inl rfl, And.intro trivial ⟨[(1, 0)], rfl, AVle.refl _, ⟨MOle.arr (Nat.zero_add _) fun i hi => appRows_ge (Nat.zero_le _), trivial⟩⟩⟩
theorem CloneTb_own (L : List Tb) (hL : L.length ≤ 1000000) : FnM Tryz.prog 170 0 [tbs L] [] (.osl 0) [(0, .arr 136 2 L.length fun i => (ix L i).row)] 1 := by
  refine FnM.introN Tryz.call170 Tryz.func170 rfl rfl ?_
  conv => whnf
  refine OpC.isnil rfl rfl rfl rfl rfl (fun h0 => ?_) ?_
  · conv => whnf
    exact ⟨_, .inr ⟨2, 136, 2, fun i => (ix L i).row, rfl, rfl⟩, And.intro trivial ⟨[(0, 0)], rfl, AVle.refl _, ⟨MOle.arr h0.symm fun i hi => rfl, trivial⟩⟩⟩
  · conv => whnf
    refine And.intro ⟨show (0 + L.length) * 24 ≤ 140737488355328 by omega, fun i hi => rfl⟩ ?_
    conv => whnf
    exact ⟨_, .inl rfl, And.intro trivial ⟨[(1, 0)], rfl, AVle.refl _, ⟨MOle.arr (Nat.zero_add _) fun i hi => appRows_ge (Nat.zero_le _), trivial⟩⟩⟩
abbrev Sta.objs (s : Sta) : List (Nat × MO) := [(0, .arr 35 4 s.es.length fun i => (ix s.es i).row), (1, .arr 136 2 s.ts.length fun i => (ix s.ts i).row)]
theorem copiedS_own (s : Sta) (hL : s.es.length ≤ 1000000) (hT : s.ts.length ≤ 1000000) : FnM Tryz.prog 149 0 [s.av] [] s.own s.objs 2 := by
  refine FnM.introC Tryz.call149 Tryz.func149 rfl rfl ?_
  refine DrawC.mk 7 rfl (by kernel_rfl) ?_
  conv => whnf
  refine PCallC.own (CloneEn_own s.es hL) rfl (fun i hi => rfl) ?_
  conv => whnf
  refine PCallC.own (CloneTb_own s.ts hT) rfl (fun i hi => rfl) ?_
  exact And.intro trivial ⟨[(4, 0), (7, 1)], rfl, AVle.refl _, ⟨MOle.refl _, MOle.refl _, trivial⟩⟩
end Go.Proofs.YtfaffgneccjpbaaGreatDoor
set_option linter.unusedVariables false
set_option linter.constructorNameAsVariable false
set_option linter.unusedSimpArgs false
set_option maxRecDepth 20000
namespace Go.Proofs.YtfaffgneccjpbaaGreatDoor
open Go Go.Vw

theorem headIs_cells (x : En) (r : List En) (k f t : Int) (key : List UInt8) : headIs (x :: r) ⟨k, f, t, key⟩ = (decide (x.tier = k) && (decide (x.f = f) && (decide (x.t = t) && (((B x.key).toList == (B key).toList) && true)))) := by
  rw [B_eq, Bool.and_true]
  show decide (x = ⟨k, f, t, key⟩) = _
  obtain ⟨a, b, c, d⟩ := x
  rw [Bool.eq_iff_iff]
  simp
set_option maxHeartbeats 1000000 in
theorem takes4_0 (s : Sta) (hL : s.es.length ≤ 1000000000) (tok f t : Int) (key : List UInt8) : VFn Tryz.prog 148 [s.av, (Rc.mk 4 tok 0 f t key).av] (.bool (s.takes ⟨4, tok, 0, f, t, key⟩)) := by
  obtain ⟨R, hR⟩ : ∃ R, R = ofT s.es 0 := ⟨_, rfl⟩
  have e : s.takes ⟨4, tok, 0, f, t, key⟩ = (decide (tok = s.fence) && (headIs R ⟨0, f, t, key⟩ && decide (t ≤ s.h1))) := by rw [hR]; exact rfl
  rw [e]
  have c := ofS_fn s hL 0
  rw [← hR] at c
  have ce := entry_fn ⟨4, tok, 0, f, t, key⟩
  refine VFn.introC Tryz.call148 Tryz.func148 rfl rfl ?_
  conv => whnf
  refine CallC.nl _ (c) ?_ ?_
  · exact rfl
  cases R with
  | nil =>
    refine DrawC.mk 36 rfl (by kernel_rfl) ?_
    repeat' (first
      | refine Grd.intro (fun h => ?_) (fun h => ?_)
      | ((conv => whnf); refine Grd.intro (fun h => ?_) (fun h => ?_))
      | refine And.intro (inI64 (by (try simp only); omega) (by (try simp only); omega)) ?_
      | refine And.intro trivial (AVle.of_eq (congrArg AV.bool ?_)))
    all_goals (show false = (_ && (false&& _)); simp)
  | cons x r =>
    have hH : headIs (x :: r) ⟨0, f, t, key⟩ = (decide ((ix (x :: r) (Int.toNat 0)).tier = 0) && (decide ((ix (x :: r) (Int.toNat 0)).f = f) && (decide ((ix (x :: r) (Int.toNat 0)).t = t) && (((B (ix (x :: r) (Int.toNat 0)).key).toList == (B key).toList) && true)))) := headIs_cells x r 0 f t key
    refine DrawC.mk 36 rfl (by kernel_rfl) ?_
    repeat' (first
      | refine Grd.intro (fun h => ?_) (fun h => ?_)
      | ((conv => whnf); refine Grd.intro (fun h => ?_) (fun h => ?_))
      | refine PCallC.sca _ ce rfl ?_
      | refine And.intro ⟨Int.le_refl 0, show (0 : Int) < (((x :: r).length : Nat) : Int) by rw [List.length_cons]; omega⟩ ?_
      | refine And.intro (show eqGB _ _ = true from by kernel_rfl) ?_
      | refine And.intro (inI64 (by (try simp only); omega) (by (try simp only); omega)) ?_
      | refine And.intro ⟨show (0 : Int) ≤ 1 by omega, show (1 : Int) < ((3 : Nat) : Int) by omega⟩ ?_
      | refine And.intro ⟨show (0 : Int) ≤ 2 by omega, show (2 : Int) < ((3 : Nat) : Int) by omega⟩ ?_
      | refine And.intro trivial (AVle.of_eq (congrArg AV.bool ?_)))
    all_goals (clear hR e c ce; rw [hH]; simp_all)
set_option maxHeartbeats 1000000 in
theorem takes4_1 (s : Sta) (hL : s.es.length ≤ 1000000000) (tok f t : Int) (key : List UInt8) : VFn Tryz.prog 148 [s.av, (Rc.mk 4 tok 1 f t key).av] (.bool (s.takes ⟨4, tok, 1, f, t, key⟩)) := by
  obtain ⟨R, hR⟩ : ∃ R, R = ofT s.es 1 := ⟨_, rfl⟩
  have e : s.takes ⟨4, tok, 1, f, t, key⟩ = (decide (tok = s.fence) && (headIs R ⟨1, f, t, key⟩ && decide (t ≤ s.h2))) := by rw [hR]; exact rfl
  rw [e]
  have c := ofS_fn s hL 1
  rw [← hR] at c
  have ce := entry_fn ⟨4, tok, 1, f, t, key⟩
  refine VFn.introC Tryz.call148 Tryz.func148 rfl rfl ?_
  conv => whnf
  refine CallC.nl _ (c) ?_ ?_
  · exact rfl
  cases R with
  | nil =>
    refine DrawC.mk 36 rfl (by kernel_rfl) ?_
    repeat' (first
      | refine Grd.intro (fun h => ?_) (fun h => ?_)
      | ((conv => whnf); refine Grd.intro (fun h => ?_) (fun h => ?_))
      | refine And.intro (inI64 (by (try simp only); omega) (by (try simp only); omega)) ?_
      | refine And.intro trivial (AVle.of_eq (congrArg AV.bool ?_)))
    all_goals (show false = (_ && (false&& _)); simp)
  | cons x r =>
    have hH : headIs (x :: r) ⟨1, f, t, key⟩ = (decide ((ix (x :: r) (Int.toNat 0)).tier = 1) && (decide ((ix (x :: r) (Int.toNat 0)).f = f) && (decide ((ix (x :: r) (Int.toNat 0)).t = t) && (((B (ix (x :: r) (Int.toNat 0)).key).toList == (B key).toList) && true)))) := headIs_cells x r 1 f t key
    refine DrawC.mk 36 rfl (by kernel_rfl) ?_
    repeat' (first
      | refine Grd.intro (fun h => ?_) (fun h => ?_)
      | ((conv => whnf); refine Grd.intro (fun h => ?_) (fun h => ?_))
      | refine PCallC.sca _ ce rfl ?_
      | refine And.intro ⟨Int.le_refl 0, show (0 : Int) < (((x :: r).length : Nat) : Int) by rw [List.length_cons]; omega⟩ ?_
      | refine And.intro (show eqGB _ _ = true from by kernel_rfl) ?_
      | refine And.intro (inI64 (by (try simp only); omega) (by (try simp only); omega)) ?_
      | refine And.intro ⟨show (0 : Int) ≤ 1 by omega, show (1 : Int) < ((3 : Nat) : Int) by omega⟩ ?_
      | refine And.intro ⟨show (0 : Int) ≤ 2 by omega, show (2 : Int) < ((3 : Nat) : Int) by omega⟩ ?_
      | refine And.intro trivial (AVle.of_eq (congrArg AV.bool ?_)))
    all_goals (clear hR e c ce; rw [hH]; simp_all)
set_option maxHeartbeats 1000000 in
theorem takes4_2 (s : Sta) (hL : s.es.length ≤ 1000000000) (tok f t : Int) (key : List UInt8) : VFn Tryz.prog 148 [s.av, (Rc.mk 4 tok 2 f t key).av] (.bool (s.takes ⟨4, tok, 2, f, t, key⟩)) := by
  obtain ⟨R, hR⟩ : ∃ R, R = ofT s.es 2 := ⟨_, rfl⟩
  have e : s.takes ⟨4, tok, 2, f, t, key⟩ = (decide (tok = s.fence) && (headIs R ⟨2, f, t, key⟩)) := by rw [hR]; exact (show (decide (tok = s.fence) && (headIs (ofT s.es 2) ⟨2, f, t, key⟩ && true)) = _ by rw [Bool.and_true])
  rw [e]
  have c := ofS_fn s hL 2
  rw [← hR] at c
  have ce := entry_fn ⟨4, tok, 2, f, t, key⟩
  refine VFn.introC Tryz.call148 Tryz.func148 rfl rfl ?_
  conv => whnf
  refine CallC.nl _ (c) ?_ ?_
  · exact rfl
  cases R with
  | nil =>
    refine DrawC.mk 36 rfl (by kernel_rfl) ?_
    repeat' (first
      | refine Grd.intro (fun h => ?_) (fun h => ?_)
      | ((conv => whnf); refine Grd.intro (fun h => ?_) (fun h => ?_))
      | refine And.intro (inI64 (by (try simp only); omega) (by (try simp only); omega)) ?_
      | refine And.intro trivial (AVle.of_eq (congrArg AV.bool ?_)))
    all_goals (show false = (_ && (false)); simp)
  | cons x r =>
    have hH : headIs (x :: r) ⟨2, f, t, key⟩ = (decide ((ix (x :: r) (Int.toNat 0)).tier = 2) && (decide ((ix (x :: r) (Int.toNat 0)).f = f) && (decide ((ix (x :: r) (Int.toNat 0)).t = t) && (((B (ix (x :: r) (Int.toNat 0)).key).toList == (B key).toList) && true)))) := headIs_cells x r 2 f t key
    refine DrawC.mk 36 rfl (by kernel_rfl) ?_
    repeat' (first
      | refine Grd.intro (fun h => ?_) (fun h => ?_)
      | ((conv => whnf); refine Grd.intro (fun h => ?_) (fun h => ?_))
      | refine PCallC.sca _ ce rfl ?_
      | refine And.intro ⟨Int.le_refl 0, show (0 : Int) < (((x :: r).length : Nat) : Int) by rw [List.length_cons]; omega⟩ ?_
      | refine And.intro (show eqGB _ _ = true from by kernel_rfl) ?_
      | refine And.intro (inI64 (by (try simp only); omega) (by (try simp only); omega)) ?_
      | refine And.intro ⟨show (0 : Int) ≤ 1 by omega, show (1 : Int) < ((3 : Nat) : Int) by omega⟩ ?_
      | refine And.intro ⟨show (0 : Int) ≤ 2 by omega, show (2 : Int) < ((3 : Nat) : Int) by omega⟩ ?_
      | refine And.intro trivial (AVle.of_eq (congrArg AV.bool ?_)))
    all_goals (clear hR e c ce; rw [hH]; simp_all)
end Go.Proofs.YtfaffgneccjpbaaGreatDoor
set_option linter.unusedVariables false
set_option linter.constructorNameAsVariable false
set_option linter.unusedSimpArgs false
set_option maxRecDepth 20000
namespace Go.Proofs.YtfaffgneccjpbaaGreatDoor
open Go Go.Vw

theorem noE_any {s : Sta} {r : Rc} (h : headIs (ofT s.es r.tier) r.en = true) : s.es.any (fun e => decide (e.key = r.key)) = true := List.any_eq_true.2 ⟨r.en, headIs_mem h, decide_eq_true rfl⟩
theorem applyE_fn (e : En) (row : Rc) : VFn Tryz.prog 151 [e.av, .eptr row.row 0] (.bool (decide (e.key = row.key))) := by
  refine VFn.introC Tryz.call151 Tryz.func151 rfl rfl ?_
  exact And.intro trivial (AVle.of_eq (congrArg AV.bool (show ((B e.key).toList == (B row.key).toList) = _ from B_eq)))
theorem applyT_fn (e : Tb) (row : Rc) : VFn Tryz.prog 153 [e.av, .eptr row.row 0] (.bool (decide (e.key = row.key))) := by
  refine VFn.introC Tryz.call153 Tryz.func153 rfl rfl ?_
  exact And.intro trivial (AVle.of_eq (congrArg AV.bool (show ((B e.key).toList == (B row.key).toList) = _ from B_eq)))
theorem apply1 (s : Sta) (hL : s.es.length + s.ts.length < 4096) (hq : 0 ≤ s.seq ∧ s.seq < 999999) (tok f t : Int) (key : List UInt8) :
    FnM Tryz.prog 124 0 [s.av, (Rc.mk 1 tok 0 f t key).av] [] (.tup [(s.app ⟨1, tok, 0, f, t, key⟩).own, .bool (s.takes ⟨1, tok, 0, f, t, key⟩), .int .i64 0]) (s.app ⟨1, tok, 0, f, t, key⟩).objs 2 := by
  have c := takes1 s (by omega) (by omega) (by omega) tok 0 f t key
  have hc := copiedS_own s (by omega) (by omega)
  by_cases ht : s.takes ⟨1, tok, 0, f, t, key⟩ = true
  · have ea : s.app ⟨1, tok, 0, f, t, key⟩ = ({ s.tick with es := s.es ++ [⟨0, f, t, key⟩] } : Sta).lift 0 t := by unfold Sta.app; rw [if_pos ht, if_pos (.inl rfl)]
    rw [ht] at c ⊢
    rw [ea]
    refine FnM.introC Tryz.call124 Tryz.func124 rfl rfl ?_
    conv => whnf
    refine CallC.sca _ (c) ?_ ?_
    · exact rfl
    refine Grd.intro (fun h => absurd (of_decide_eq_true (p := s.seq = 999999) h) (by omega)) (fun _ => ?_)
    refine And.intro (inI64 (by omega) (by omega)) ?_
    refine Grd.intro (fun h => absurd (of_decide_eq_true h) (by omega)) (fun _ => ?_)
    conv => whnf
    refine CallC.k [] hc rfl rfl (AVsle.refl _) trivial rfl ?_
    refine And.intro (inI64 (by omega) (by omega)) ?_
    refine DrawC.mk 5 rfl (by kernel_rfl) ?_
    conv => whnf
    refine PCallC.sca _ (entry_fn ⟨1, tok, 0, f, t, key⟩) rfl ?_
    refine And.intro ⟨show (s.es.length + 1) * 40 ≤ 140737488355328 by omega, all1 rfl⟩ ?_
    refine And.intro ⟨show (0 : Int) ≤ 0 by omega, show (0 : Int) < ((3 : Nat) : Int) by omega⟩ ?_
    exact And.intro trivial ⟨[(11, 0), (4, 1)], rfl, AVle.refl _, ⟨arr_next (f := En.row) rfl rfl, MOle.refl _, trivial⟩⟩
  · have ht : s.takes ⟨1, tok, 0, f, t, key⟩ = false := by simpa using ht
    have ea : s.app ⟨1, tok, 0, f, t, key⟩ = s.tick := by unfold Sta.app; rw [if_neg (by rw [ht]; simp)]
    rw [ht] at c ⊢
    rw [ea]
    refine FnM.introC Tryz.call124 Tryz.func124 rfl rfl ?_
    conv => whnf
    refine CallC.sca _ (c) ?_ ?_
    · exact rfl
    refine Grd.intro (fun h => absurd (of_decide_eq_true (p := s.seq = 999999) h) (by omega)) (fun _ => ?_)
    conv => whnf
    refine CallC.k [] hc rfl rfl (AVsle.refl _) trivial rfl ?_
    refine And.intro (inI64 (by omega) (by omega)) ?_
    exact And.intro trivial ⟨[(3, 0), (4, 1)], rfl, AVle.refl _, ⟨MOle.refl _, MOle.refl _, trivial⟩⟩
theorem apply3_1 (s : Sta) (hL : s.es.length + s.ts.length < 4096) (hq : 0 ≤ s.seq ∧ s.seq < 999999) (tok f t : Int) (hf : 0 ≤ f ∧ f ≤ 1000000) (key : List UInt8) :
    FnM Tryz.prog 124 0 [s.av, (Rc.mk 3 tok 1 f t key).av] [] (.tup [(s.app ⟨3, tok, 1, f, t, key⟩).own, .bool (s.takes ⟨3, tok, 1, f, t, key⟩), .int .i64 0]) (s.app ⟨3, tok, 1, f, t, key⟩).objs 2 := by
  have c := takes3_1 s (by omega) (by omega) tok f t hf key
  have hc := copiedS_own s (by omega) (by omega)
  by_cases ht : s.takes ⟨3, tok, 1, f, t, key⟩ = true
  · have ea : s.app ⟨3, tok, 1, f, t, key⟩ = ({ s.tick with es := s.es ++ [⟨1, f, t, key⟩] } : Sta).lift 1 t := by unfold Sta.app; rw [if_pos ht, if_pos (.inr rfl)]
    rw [ht] at c ⊢
    rw [ea]
    refine FnM.introC Tryz.call124 Tryz.func124 rfl rfl ?_
    conv => whnf
    refine CallC.sca _ (c) ?_ ?_
    · exact rfl
    refine Grd.intro (fun h => absurd (of_decide_eq_true (p := s.seq = 999999) h) (by omega)) (fun _ => ?_)
    refine And.intro (inI64 (by omega) (by omega)) ?_
    refine Grd.intro (fun h => absurd (of_decide_eq_true h) (by omega)) (fun _ => ?_)
    conv => whnf
    refine CallC.k [] hc rfl rfl (AVsle.refl _) trivial rfl ?_
    refine And.intro (inI64 (by omega) (by omega)) ?_
    refine DrawC.mk 5 rfl (by kernel_rfl) ?_
    conv => whnf
    refine PCallC.sca _ (entry_fn ⟨3, tok, 1, f, t, key⟩) rfl ?_
    refine And.intro ⟨show (s.es.length + 1) * 40 ≤ 140737488355328 by omega, all1 rfl⟩ ?_
    refine And.intro ⟨show (0 : Int) ≤ 1 by omega, show (1 : Int) < ((3 : Nat) : Int) by omega⟩ ?_
    exact And.intro trivial ⟨[(11, 0), (4, 1)], rfl, AVle.refl _, ⟨arr_next (f := En.row) rfl rfl, MOle.refl _, trivial⟩⟩
  · have ht : s.takes ⟨3, tok, 1, f, t, key⟩ = false := by simpa using ht
    have ea : s.app ⟨3, tok, 1, f, t, key⟩ = s.tick := by unfold Sta.app; rw [if_neg (by rw [ht]; simp)]
    rw [ht] at c ⊢
    rw [ea]
    refine FnM.introC Tryz.call124 Tryz.func124 rfl rfl ?_
    conv => whnf
    refine CallC.sca _ (c) ?_ ?_
    · exact rfl
    refine Grd.intro (fun h => absurd (of_decide_eq_true (p := s.seq = 999999) h) (by omega)) (fun _ => ?_)
    conv => whnf
    refine CallC.k [] hc rfl rfl (AVsle.refl _) trivial rfl ?_
    refine And.intro (inI64 (by omega) (by omega)) ?_
    exact And.intro trivial ⟨[(3, 0), (4, 1)], rfl, AVle.refl _, ⟨MOle.refl _, MOle.refl _, trivial⟩⟩
theorem apply3_2 (s : Sta) (hL : s.es.length + s.ts.length < 4096) (hq : 0 ≤ s.seq ∧ s.seq < 999999) (tok f t : Int) (hf : 0 ≤ f ∧ f ≤ 1000000) (key : List UInt8) :
    FnM Tryz.prog 124 0 [s.av, (Rc.mk 3 tok 2 f t key).av] [] (.tup [(s.app ⟨3, tok, 2, f, t, key⟩).own, .bool (s.takes ⟨3, tok, 2, f, t, key⟩), .int .i64 0]) (s.app ⟨3, tok, 2, f, t, key⟩).objs 2 := by
  have c := takes3_2 s (by omega) (by omega) tok f t hf key
  have hc := copiedS_own s (by omega) (by omega)
  by_cases ht : s.takes ⟨3, tok, 2, f, t, key⟩ = true
  · have ea : s.app ⟨3, tok, 2, f, t, key⟩ = ({ s.tick with es := s.es ++ [⟨2, f, t, key⟩] } : Sta).lift 2 t := by unfold Sta.app; rw [if_pos ht, if_pos (.inr rfl)]
    rw [ht] at c ⊢
    rw [ea]
    refine FnM.introC Tryz.call124 Tryz.func124 rfl rfl ?_
    conv => whnf
    refine CallC.sca _ (c) ?_ ?_
    · exact rfl
    refine Grd.intro (fun h => absurd (of_decide_eq_true (p := s.seq = 999999) h) (by omega)) (fun _ => ?_)
    refine And.intro (inI64 (by omega) (by omega)) ?_
    refine Grd.intro (fun h => absurd (of_decide_eq_true h) (by omega)) (fun _ => ?_)
    conv => whnf
    refine CallC.k [] hc rfl rfl (AVsle.refl _) trivial rfl ?_
    refine And.intro (inI64 (by omega) (by omega)) ?_
    refine DrawC.mk 5 rfl (by kernel_rfl) ?_
    conv => whnf
    refine PCallC.sca _ (entry_fn ⟨3, tok, 2, f, t, key⟩) rfl ?_
    refine And.intro ⟨show (s.es.length + 1) * 40 ≤ 140737488355328 by omega, all1 rfl⟩ ?_
    refine And.intro ⟨show (0 : Int) ≤ 2 by omega, show (2 : Int) < ((3 : Nat) : Int) by omega⟩ ?_
    exact And.intro trivial ⟨[(11, 0), (4, 1)], rfl, AVle.refl _, ⟨arr_next (f := En.row) rfl rfl, MOle.refl _, trivial⟩⟩
  · have ht : s.takes ⟨3, tok, 2, f, t, key⟩ = false := by simpa using ht
    have ea : s.app ⟨3, tok, 2, f, t, key⟩ = s.tick := by unfold Sta.app; rw [if_neg (by rw [ht]; simp)]
    rw [ht] at c ⊢
    rw [ea]
    refine FnM.introC Tryz.call124 Tryz.func124 rfl rfl ?_
    conv => whnf
    refine CallC.sca _ (c) ?_ ?_
    · exact rfl
    refine Grd.intro (fun h => absurd (of_decide_eq_true (p := s.seq = 999999) h) (by omega)) (fun _ => ?_)
    conv => whnf
    refine CallC.k [] hc rfl rfl (AVsle.refl _) trivial rfl ?_
    refine And.intro (inI64 (by omega) (by omega)) ?_
    exact And.intro trivial ⟨[(3, 0), (4, 1)], rfl, AVle.refl _, ⟨MOle.refl _, MOle.refl _, trivial⟩⟩
theorem apply2 (s : Sta) (hL : s.es.length + s.ts.length < 4096) (hq : 0 ≤ s.seq ∧ s.seq < 999999) (tok tier f t : Int) (key : List UInt8) :
    FnM Tryz.prog 124 0 [s.av, (Rc.mk 2 tok tier f t key).av] [] (.tup [(s.app ⟨2, tok, tier, f, t, key⟩).own, .bool (s.takes ⟨2, tok, tier, f, t, key⟩), .int .i64 0]) (s.app ⟨2, tok, tier, f, t, key⟩).objs 2 := by
  have c := takes2 s tok tier f t key
  have hc := copiedS_own s (by omega) (by omega)
  by_cases ht : s.takes ⟨2, tok, tier, f, t, key⟩ = true
  · have ea : s.app ⟨2, tok, tier, f, t, key⟩ = { s.tick with fence := tok } := by unfold Sta.app; rw [if_pos ht, if_neg (show ¬ ((2 : Int) = 1 ∨ (2 : Int) = 3) by decide), if_pos rfl]
    rw [ht] at c ⊢
    rw [ea]
    refine FnM.introC Tryz.call124 Tryz.func124 rfl rfl ?_
    conv => whnf
    refine CallC.sca _ (c) ?_ ?_
    · exact rfl
    refine Grd.intro (fun h => absurd (of_decide_eq_true (p := s.seq = 999999) h) (by omega)) (fun _ => ?_)
    conv => whnf
    refine CallC.k [] hc rfl rfl (AVsle.refl _) trivial rfl ?_
    refine And.intro (inI64 (by omega) (by omega)) ?_
    exact And.intro trivial ⟨[(3, 0), (4, 1)], rfl, AVle.refl _, ⟨MOle.refl _, MOle.refl _, trivial⟩⟩
  · have ht : s.takes ⟨2, tok, tier, f, t, key⟩ = false := by simpa using ht
    have ea : s.app ⟨2, tok, tier, f, t, key⟩ = s.tick := by unfold Sta.app; rw [if_neg (by rw [ht]; simp)]
    rw [ht] at c ⊢
    rw [ea]
    refine FnM.introC Tryz.call124 Tryz.func124 rfl rfl ?_
    conv => whnf
    refine CallC.sca _ (c) ?_ ?_
    · exact rfl
    refine Grd.intro (fun h => absurd (of_decide_eq_true (p := s.seq = 999999) h) (by omega)) (fun _ => ?_)
    conv => whnf
    refine CallC.k [] hc rfl rfl (AVsle.refl _) trivial rfl ?_
    refine And.intro (inI64 (by omega) (by omega)) ?_
    exact And.intro trivial ⟨[(3, 0), (4, 1)], rfl, AVle.refl _, ⟨MOle.refl _, MOle.refl _, trivial⟩⟩
theorem apply4_0 (s : Sta) (hL : s.es.length + s.ts.length < 4096) (hq : 0 ≤ s.seq ∧ s.seq < 999999) (tok f t : Int) (key : List UInt8) :
    FnM Tryz.prog 124 0 [s.av, (Rc.mk 4 tok 0 f t key).av] [] (.tup [(s.app ⟨4, tok, 0, f, t, key⟩).own, .bool (s.takes ⟨4, tok, 0, f, t, key⟩), .int .i64 0]) (s.app ⟨4, tok, 0, f, t, key⟩).objs 2 := by
  have c := takes4_0 s (by omega) tok f t key
  have hc := copiedS_own s (by omega) (by omega)
  by_cases ht : s.takes ⟨4, tok, 0, f, t, key⟩ = true
  · have ea : s.app ⟨4, tok, 0, f, t, key⟩ = ({ s.tick with es := noE key s.es, ts := s.ts ++ [⟨s.seq + 1, key⟩] } : Sta).lower 0 t := by unfold Sta.app; rw [if_pos ht, if_neg (show ¬ ((4 : Int) = 1 ∨ (4 : Int) = 3) by decide), if_neg (show ¬ (4 : Int) = 2 by decide), if_pos rfl]
    have hany : s.es.any (fun e => decide (e.key = key)) = true := noE_any (r := ⟨4, tok, 0, f, t, key⟩) (takes_4 ht rfl)
    have hd := DelEn_some s.es (by omega) 151 (Rc.mk 4 tok 0 f t key).row (fun e => decide (e.key = key)) (fun e _ => applyE_fn e ⟨4, tok, 0, f, t, key⟩) hany
    rw [ht] at c ⊢
    rw [ea]
    refine FnM.introC Tryz.call124 Tryz.func124 rfl rfl ?_
    conv => whnf
    refine CallC.sca _ (c) ?_ ?_
    · exact rfl
    refine Grd.intro (fun h => absurd (of_decide_eq_true (p := s.seq = 999999) h) (by omega)) (fun _ => ?_)
    conv => whnf
    refine CallC.k [] hc rfl rfl (AVsle.refl _) trivial rfl ?_
    refine And.intro (inI64 (by omega) (by omega)) ?_
    conv => whnf
    refine CallC.m [(3, 0)] hd rfl rfl (AVsle.refl _) ⟨MOle.refl _, trivial⟩ rfl ⟨fun i hi => rfl, trivial⟩ rfl ?_
    refine And.intro ⟨show (s.ts.length + 1) * 24 ≤ 140737488355328 by omega, all1 rfl⟩ ?_
    refine And.intro ⟨show (0 : Int) ≤ 0 by omega, show (0 : Int) < ((3 : Nat) : Int) by omega⟩ ?_
    exact And.intro trivial ⟨[(6, 0), (9, 1)], rfl, AVle.refl _, ⟨MOle.refl _, arr_next (f := Tb.row) rfl rfl, trivial⟩⟩
  · have ht : s.takes ⟨4, tok, 0, f, t, key⟩ = false := by simpa using ht
    have ea : s.app ⟨4, tok, 0, f, t, key⟩ = s.tick := by unfold Sta.app; rw [if_neg (by rw [ht]; simp)]
    rw [ht] at c ⊢
    rw [ea]
    refine FnM.introC Tryz.call124 Tryz.func124 rfl rfl ?_
    conv => whnf
    refine CallC.sca _ (c) ?_ ?_
    · exact rfl
    refine Grd.intro (fun h => absurd (of_decide_eq_true (p := s.seq = 999999) h) (by omega)) (fun _ => ?_)
    conv => whnf
    refine CallC.k [] hc rfl rfl (AVsle.refl _) trivial rfl ?_
    refine And.intro (inI64 (by omega) (by omega)) ?_
    exact And.intro trivial ⟨[(3, 0), (4, 1)], rfl, AVle.refl _, ⟨MOle.refl _, MOle.refl _, trivial⟩⟩
theorem apply4_1 (s : Sta) (hL : s.es.length + s.ts.length < 4096) (hq : 0 ≤ s.seq ∧ s.seq < 999999) (tok f t : Int) (key : List UInt8) :
    FnM Tryz.prog 124 0 [s.av, (Rc.mk 4 tok 1 f t key).av] [] (.tup [(s.app ⟨4, tok, 1, f, t, key⟩).own, .bool (s.takes ⟨4, tok, 1, f, t, key⟩), .int .i64 0]) (s.app ⟨4, tok, 1, f, t, key⟩).objs 2 := by
  have c := takes4_1 s (by omega) tok f t key
  have hc := copiedS_own s (by omega) (by omega)
  by_cases ht : s.takes ⟨4, tok, 1, f, t, key⟩ = true
  · have ea : s.app ⟨4, tok, 1, f, t, key⟩ = ({ s.tick with es := noE key s.es, ts := s.ts ++ [⟨s.seq + 1, key⟩] } : Sta).lower 1 t := by unfold Sta.app; rw [if_pos ht, if_neg (show ¬ ((4 : Int) = 1 ∨ (4 : Int) = 3) by decide), if_neg (show ¬ (4 : Int) = 2 by decide), if_pos rfl]
    have hany : s.es.any (fun e => decide (e.key = key)) = true := noE_any (r := ⟨4, tok, 1, f, t, key⟩) (takes_4 ht rfl)
    have hd := DelEn_some s.es (by omega) 151 (Rc.mk 4 tok 1 f t key).row (fun e => decide (e.key = key)) (fun e _ => applyE_fn e ⟨4, tok, 1, f, t, key⟩) hany
    rw [ht] at c ⊢
    rw [ea]
    refine FnM.introC Tryz.call124 Tryz.func124 rfl rfl ?_
    conv => whnf
    refine CallC.sca _ (c) ?_ ?_
    · exact rfl
    refine Grd.intro (fun h => absurd (of_decide_eq_true (p := s.seq = 999999) h) (by omega)) (fun _ => ?_)
    conv => whnf
    refine CallC.k [] hc rfl rfl (AVsle.refl _) trivial rfl ?_
    refine And.intro (inI64 (by omega) (by omega)) ?_
    conv => whnf
    refine CallC.m [(3, 0)] hd rfl rfl (AVsle.refl _) ⟨MOle.refl _, trivial⟩ rfl ⟨fun i hi => rfl, trivial⟩ rfl ?_
    refine And.intro ⟨show (s.ts.length + 1) * 24 ≤ 140737488355328 by omega, all1 rfl⟩ ?_
    refine And.intro ⟨show (0 : Int) ≤ 1 by omega, show (1 : Int) < ((3 : Nat) : Int) by omega⟩ ?_
    exact And.intro trivial ⟨[(6, 0), (9, 1)], rfl, AVle.refl _, ⟨MOle.refl _, arr_next (f := Tb.row) rfl rfl, trivial⟩⟩
  · have ht : s.takes ⟨4, tok, 1, f, t, key⟩ = false := by simpa using ht
    have ea : s.app ⟨4, tok, 1, f, t, key⟩ = s.tick := by unfold Sta.app; rw [if_neg (by rw [ht]; simp)]
    rw [ht] at c ⊢
    rw [ea]
    refine FnM.introC Tryz.call124 Tryz.func124 rfl rfl ?_
    conv => whnf
    refine CallC.sca _ (c) ?_ ?_
    · exact rfl
    refine Grd.intro (fun h => absurd (of_decide_eq_true (p := s.seq = 999999) h) (by omega)) (fun _ => ?_)
    conv => whnf
    refine CallC.k [] hc rfl rfl (AVsle.refl _) trivial rfl ?_
    refine And.intro (inI64 (by omega) (by omega)) ?_
    exact And.intro trivial ⟨[(3, 0), (4, 1)], rfl, AVle.refl _, ⟨MOle.refl _, MOle.refl _, trivial⟩⟩
theorem apply4_2 (s : Sta) (hL : s.es.length + s.ts.length < 4096) (hq : 0 ≤ s.seq ∧ s.seq < 999999) (tok f t : Int) (key : List UInt8) :
    FnM Tryz.prog 124 0 [s.av, (Rc.mk 4 tok 2 f t key).av] [] (.tup [(s.app ⟨4, tok, 2, f, t, key⟩).own, .bool (s.takes ⟨4, tok, 2, f, t, key⟩), .int .i64 0]) (s.app ⟨4, tok, 2, f, t, key⟩).objs 2 := by
  have c := takes4_2 s (by omega) tok f t key
  have hc := copiedS_own s (by omega) (by omega)
  by_cases ht : s.takes ⟨4, tok, 2, f, t, key⟩ = true
  · have ea : s.app ⟨4, tok, 2, f, t, key⟩ = ({ s.tick with es := noE key s.es, ts := s.ts ++ [⟨s.seq + 1, key⟩] } : Sta).lower 2 t := by unfold Sta.app; rw [if_pos ht, if_neg (show ¬ ((4 : Int) = 1 ∨ (4 : Int) = 3) by decide), if_neg (show ¬ (4 : Int) = 2 by decide), if_pos rfl]
    have hany : s.es.any (fun e => decide (e.key = key)) = true := noE_any (r := ⟨4, tok, 2, f, t, key⟩) (takes_4 ht rfl)
    have hd := DelEn_some s.es (by omega) 151 (Rc.mk 4 tok 2 f t key).row (fun e => decide (e.key = key)) (fun e _ => applyE_fn e ⟨4, tok, 2, f, t, key⟩) hany
    rw [ht] at c ⊢
    rw [ea]
    refine FnM.introC Tryz.call124 Tryz.func124 rfl rfl ?_
    conv => whnf
    refine CallC.sca _ (c) ?_ ?_
    · exact rfl
    refine Grd.intro (fun h => absurd (of_decide_eq_true (p := s.seq = 999999) h) (by omega)) (fun _ => ?_)
    conv => whnf
    refine CallC.k [] hc rfl rfl (AVsle.refl _) trivial rfl ?_
    refine And.intro (inI64 (by omega) (by omega)) ?_
    conv => whnf
    refine CallC.m [(3, 0)] hd rfl rfl (AVsle.refl _) ⟨MOle.refl _, trivial⟩ rfl ⟨fun i hi => rfl, trivial⟩ rfl ?_
    refine And.intro ⟨show (s.ts.length + 1) * 24 ≤ 140737488355328 by omega, all1 rfl⟩ ?_
    refine And.intro ⟨show (0 : Int) ≤ 2 by omega, show (2 : Int) < ((3 : Nat) : Int) by omega⟩ ?_
    exact And.intro trivial ⟨[(6, 0), (9, 1)], rfl, AVle.refl _, ⟨MOle.refl _, arr_next (f := Tb.row) rfl rfl, trivial⟩⟩
  · have ht : s.takes ⟨4, tok, 2, f, t, key⟩ = false := by simpa using ht
    have ea : s.app ⟨4, tok, 2, f, t, key⟩ = s.tick := by unfold Sta.app; rw [if_neg (by rw [ht]; simp)]
    rw [ht] at c ⊢
    rw [ea]
    refine FnM.introC Tryz.call124 Tryz.func124 rfl rfl ?_
    conv => whnf
    refine CallC.sca _ (c) ?_ ?_
    · exact rfl
    refine Grd.intro (fun h => absurd (of_decide_eq_true (p := s.seq = 999999) h) (by omega)) (fun _ => ?_)
    conv => whnf
    refine CallC.k [] hc rfl rfl (AVsle.refl _) trivial rfl ?_
    refine And.intro (inI64 (by omega) (by omega)) ?_
    exact And.intro trivial ⟨[(3, 0), (4, 1)], rfl, AVle.refl _, ⟨MOle.refl _, MOle.refl _, trivial⟩⟩
theorem apply5 (s : Sta) (hL : s.es.length + s.ts.length < 4096) (hq : 0 ≤ s.seq ∧ s.seq < 999999) (tok tier f t : Int) (key : List UInt8) :
    FnM Tryz.prog 124 0 [s.av, (Rc.mk 5 tok tier f t key).av] [] (.tup [(s.app ⟨5, tok, tier, f, t, key⟩).own, .bool (s.takes ⟨5, tok, tier, f, t, key⟩), .int .i64 0]) (s.app ⟨5, tok, tier, f, t, key⟩).objs 2 := by
  have c := takes5 s (by omega) tok tier f t key
  have hc := copiedS_own s (by omega) (by omega)
  by_cases ht : s.takes ⟨5, tok, tier, f, t, key⟩ = true
  · have ea : s.app ⟨5, tok, tier, f, t, key⟩ = { s.tick with ts := noT key s.ts } := by unfold Sta.app; rw [if_pos ht, if_neg (show ¬ ((5 : Int) = 1 ∨ (5 : Int) = 3) by decide), if_neg (show ¬ (5 : Int) = 2 by decide), if_neg (show ¬ (5 : Int) = 4 by decide)]
    have hany : s.ts.any (fun e => decide (e.key = key)) = true := (fi_any).symm.trans (show s.takes ⟨5, tok, tier, f, t, key⟩ = true from ht)
    have hd := DelTb_some s.ts (by omega) 153 (Rc.mk 5 tok tier f t key).row (fun e => decide (e.key = key)) (fun e _ => applyT_fn e ⟨5, tok, tier, f, t, key⟩) hany
    rw [ht] at c ⊢
    rw [ea]
    refine FnM.introC Tryz.call124 Tryz.func124 rfl rfl ?_
    conv => whnf
    refine CallC.sca _ (c) ?_ ?_
    · exact rfl
    refine Grd.intro (fun h => absurd (of_decide_eq_true (p := s.seq = 999999) h) (by omega)) (fun _ => ?_)
    conv => whnf
    refine CallC.k [] hc rfl rfl (AVsle.refl _) trivial rfl ?_
    refine And.intro (inI64 (by omega) (by omega)) ?_
    conv => whnf
    refine CallC.m [(4, 0)] hd rfl rfl (AVsle.refl _) ⟨MOle.refl _, trivial⟩ rfl ⟨fun i hi => rfl, trivial⟩ rfl ?_
    exact And.intro trivial ⟨[(3, 0), (6, 1)], rfl, AVle.refl _, ⟨MOle.refl _, MOle.refl _, trivial⟩⟩
  · have ht : s.takes ⟨5, tok, tier, f, t, key⟩ = false := by simpa using ht
    have ea : s.app ⟨5, tok, tier, f, t, key⟩ = s.tick := by unfold Sta.app; rw [if_neg (by rw [ht]; simp)]
    rw [ht] at c ⊢
    rw [ea]
    refine FnM.introC Tryz.call124 Tryz.func124 rfl rfl ?_
    conv => whnf
    refine CallC.sca _ (c) ?_ ?_
    · exact rfl
    refine Grd.intro (fun h => absurd (of_decide_eq_true (p := s.seq = 999999) h) (by omega)) (fun _ => ?_)
    conv => whnf
    refine CallC.k [] hc rfl rfl (AVsle.refl _) trivial rfl ?_
    refine And.intro (inI64 (by omega) (by omega)) ?_
    exact And.intro trivial ⟨[(3, 0), (4, 1)], rfl, AVle.refl _, ⟨MOle.refl _, MOle.refl _, trivial⟩⟩
theorem apply_fn (s : Sta) (hL : s.es.length + s.ts.length < 4096) (hq : 0 ≤ s.seq ∧ s.seq < 999999) (r : Rc) (hr : r.ok = true) :
    FnM Tryz.prog 124 0 [s.av, r.av] [] (.tup [(s.app r).own, .bool (s.takes r), .int .i64 0]) (s.app r).objs 2 := by
  obtain ⟨k, tok, tier, f, t, key⟩ := r
  rcases kinds hr with ⟨rfl, rfl⟩ | rfl | ⟨rfl, h, hf⟩ | ⟨rfl, h⟩ | rfl
  · exact apply1 s hL hq tok f t key
  · exact apply2 s hL hq tok tier f t key
  · rcases h with rfl | rfl
    · exact apply3_1 s hL hq tok f t hf key
    · exact apply3_2 s hL hq tok f t hf key
  · rcases h with rfl | rfl | rfl
    · exact apply4_0 s hL hq tok f t key
    · exact apply4_1 s hL hq tok f t key
    · exact apply4_2 s hL hq tok f t key
  · exact apply5 s hL hq tok tier f t key
end Go.Proofs.YtfaffgneccjpbaaGreatDoor
set_option linter.unusedVariables false
set_option linter.constructorNameAsVariable false
set_option linter.unusedSimpArgs false
set_option maxRecDepth 20000
namespace Go.Proofs.YtfaffgneccjpbaaGreatDoor
open Go Go.Vw

end Go.Proofs.YtfaffgneccjpbaaGreatDoor
set_option linter.unusedVariables false
set_option linter.constructorNameAsVariable false
set_option linter.unusedSimpArgs false
set_option maxRecDepth 20000
namespace Go.Proofs.YtfaffgneccjpbaaGreatDoor
open Go Go.Vw

def Sta.nrow (s : Sta) : List AV := [.int .i64 s.seq, .int .i64 s.fence, .nilsl, .nilsl, .int .i64 s.l0, .int .i64 s.l1, .int .i64 s.l2, .int .i64 s.h0, .int .i64 s.h1, .int .i64 s.h2]
end Go.Proofs.YtfaffgneccjpbaaGreatDoor
