/- Vw16: a part of a tool for walks: what a piece of a Go program does, by abstract values. It holds of every program; no condition. -/
import Derived.Test.YtopkjoalbinljaaDoorV15
set_option linter.unusedVariables false
set_option linter.unusedSimpArgs false
set_option linter.unusedSectionVars false
namespace Go.Vw
open Go

def MO.fz (ob : List (Nat × MO)) (keep : Nat → Option Nat) : MO → MO
  | .box cs => .box (AV.fzs ob keep cs)
  | o => o
def fzOb (all : List (Nat × MO)) (keep : Nat → Option Nat) : List (Nat × MO) → List (Nat × MO)
  | [] => []
  | (m, o) :: r => match keep m with | some k => (k, o.fz all keep) :: fzOb all keep r | none => fzOb all keep r
def St.fz (st : St) (keep : Nat → Option Nat) (nx : Nat) : St := { tm := fun t => (st.tm t).fz st.ob keep, ob := fzOb st.ob keep st.ob, next := nx, n := st.n }

theorem look_fzOb {all : List (Nat × MO)} {keep inv : Nat → Option Nat} (hki : ∀ m k, keep m = some k ↔ inv k = some m) : ∀ (l : List (Nat × MO)) (k : Nat) (o : MO),
    look (fzOb all keep l) k = some o → ∃ m p, keep m = some k ∧ look l m = some p ∧ o = p.fz all keep
  | [], k, o, h => by cases h
  | (m, p) :: r, k, o, h => by
    unfold fzOb at h
    split at h
    · rename_i k' hk
      rw [look_cons] at h
      split at h
      · rename_i e; subst e; cases h
        exact ⟨m, p, hk, by rw [look_cons, if_pos rfl], rfl⟩
      · rename_i hne
        obtain ⟨m', p', h1, h2, h3⟩ := look_fzOb hki r k o h
        refine ⟨m', p', h1, ?_, h3⟩
        rw [look_cons, if_neg (fun e => ?_), h2]
        subst e; rw [hk] at h1; cases h1; exact hne rfl
    · rename_i hk
      obtain ⟨m', p', h1, h2, h3⟩ := look_fzOb hki r k o h
      refine ⟨m', p', h1, ?_, h3⟩
      rw [look_cons, if_neg (fun e => ?_), h2]
      subst e; rw [hk] at h1; cases h1

section
variable {P : Program} {gb : Nat → Option Gh} {w0 : World} {gr ok0 : Nat → Prop} {st : St} {g : Nat → Option Gh} {ok : Nat → Prop} {a : Act} {w : World}

/-- Names given up, names turned. -/
theorem Rep.fz (h : Rep gb w0 gr ok0 st g ok a w) (keep inv : Nat → Option Nat) (nx : Nat) (hki : ∀ m k, keep m = some k ↔ inv k = some m) (hnx : ∀ m k, keep m = some k → k < nx)
    (hgb : ∀ m G, gb m = some G → keep m = some m) : ∃ g' ok', Rep gb w0 gr ok0 (st.fz keep nx) g' ok' a w ∧ (∀ x v, RV w ok g x v → RV w ok' g' (x.fz st.ob keep) v) ∧ (∀ k, g' k = (inv k).bind g) ∧
      (∀ b, ok' b → ok b ∨ ∃ m mo G, keep m = none ∧ look st.ob m = some mo ∧ g m = some G ∧ G.b = some b) := by
  let g' : Nat → Option Gh := fun k => (inv k).bind g
  let ok' : Nat → Prop := fun b => ok b ∨ ∃ m mo G, keep m = none ∧ look st.ob m = some mo ∧ g m = some G ∧ G.b = some b
  have hk : ∀ m k G, keep m = some k → g m = some G → g' k = some G := fun m k G h1 h2 => by show (inv k).bind g = _; rw [(hki m k).1 h1]; exact h2
  have hfz : ∀ m mo G b, keep m = none → look st.ob m = some mo → g m = some G → G.b = some b → ok' b := fun m mo G b h1 h2 h3 h4 => .inr ⟨m, mo, G, h1, h2, h3, h4⟩
  have hlk : ∀ k o, look (fzOb st.ob keep st.ob) k = some o → ∃ m p, keep m = some k ∧ look st.ob m = some p ∧ o = p.fz st.ob keep := fun k o hh => look_fzOb hki st.ob k o hh
  have hgk : ∀ m k K, keep m = some k → g' k = some K → g m = some K := fun m k K h1 h2 => by
    have : (inv k).bind g = some K := h2
    rw [(hki m k).1 h1] at this; exact this
  refine ⟨g', ok', ⟨fun t => RV.fz (fun _ h => .inl h) hk h.obr hfz _ _ (h.tm t), ⟨fun k o ho => ?_, fun k k' o o' K K' b ho ho' hK hK' hb hb' => ?_, fun b hb => ?_, fun k o K b ho hK hb => ?_⟩,
    fun k o K b ho hK hb => ?_, fun k hkx => ?_, fun m G hm => hk m m G (hgb m G hm) (h.base m G hm), h.frm, h.df, h.n, fun b hb => ?_⟩, fun x v hv => RV.fz (fun _ h => .inl h) hk h.obr hfz _ _ hv, fun _ => rfl, fun _ h => h⟩
  · obtain ⟨m, p, h1, h2, rfl⟩ := hlk k o ho
    obtain ⟨G, hG, hr⟩ := h.obs.rel m p h2
    refine ⟨G, hk m k G h1 hG, ?_⟩
    cases p with
    | box cs =>
      obtain ⟨b, vs, ty, e1, e2, e3⟩ := hr
      exact ⟨b, vs, ty, e1, e2, RVs.fz (fun _ h => .inl h) hk h.obr hfz _ _ e3⟩
    | arr e sz n rows => exact MRel.mono (fun _ h => Or.inl h) (fun _ _ => rfl) (fun m G h => h) (fun _ _ => rfl) (mo := .arr e sz n rows) (g := g) (g' := g) hr
    | imap ks => exact hr
    | smap ks => exact hr
  · obtain ⟨m, p, h1, h2, _⟩ := hlk k o ho
    obtain ⟨m', p', h1', h2', _⟩ := hlk k' o' ho'
    have := h.obs.sep m m' p p' K K' b h2 h2' (hgk m k K h1 hK) (hgk m' k' K' h1' hK') hb hb'
    subst this
    rw [h1] at h1'; cases h1'; rfl
  · refine ⟨?_, fun k o K ho hK e => ?_⟩
    · rcases hb with hb | ⟨m, mo, G, _, h2, h3, h4⟩
      · exact (h.obs.okb b hb).1
      · exact h.obs.lt m mo G b h2 h3 h4
    · obtain ⟨m, p, h1, h2, _⟩ := hlk k o ho
      have hg := hgk m k K h1 hK
      rcases hb with hb | ⟨m', mo, G, h0, h2', h3, h4⟩
      · exact (h.obs.okb b hb).2 m p K h2 hg e
      · have := h.obs.sep m m' p mo K G b h2 h2' hg h3 e h4
        subst this
        rw [h0] at h1; cases h1
  · obtain ⟨m, p, h1, h2, _⟩ := hlk k o ho
    exact h.obs.lt m p K b h2 (hgk m k K h1 hK) hb
  · obtain ⟨m, p, h1, h2, _⟩ := hlk k o ho
    exact h.own m p K b h2 (hgk m k K h1 hK) hb
  · show (inv k).bind g = none
    cases hi : inv k with
    | none => rfl
    | some m => have := hnx m k ((hki m k).2 hi); have hkx' : nx ≤ k := hkx; omega
  · rcases hb with hb | ⟨m, mo, G, _, h2, h3, h4⟩
    · exact h.okf b hb
    · exact .inr ((h.own m mo G b h2 h3 h4).symm)

def MOle (a b : MO) : Prop := ∀ w ok g G, MRel w ok g G a → MRel w ok g G b
theorem MOle.refl (a : MO) : MOle a a := fun _ _ _ _ h => h
theorem MOle.of_eq {a b : MO} (h : a = b) : MOle a b := h ▸ MOle.refl a
theorem MOle.box {as bs : List AV} (h : AVsle as bs) : MOle (.box as) (.box bs) := fun w ok g G ⟨b, vs, ty, h1, h2, h3⟩ => ⟨b, vs, ty, h1, h2, h w ok g vs h3⟩
theorem MOle.arr {e sz n m : Nat} {r1 r2 : Nat → List AV} (hn : n = m) (h : ∀ i, i < n → r1 i = r2 i) : MOle (.arr e sz n r1) (.arr e sz m r2) := by
  subst hn
  rintro w ok g G ⟨h0, hr⟩
  refine ⟨h0, hr.imp id fun ⟨b, cur, h1, h2, h3, h4, h5, h6⟩ => ⟨b, cur, h1, h2, h3, h4, h5, fun i hi => ?_⟩⟩
  rw [← h i hi]; exact h6 i hi

/-- Less is said. -/
theorem Rep.weak (h : Rep gb w0 gr ok0 st g ok a w) {st' : St} (htm : ∀ t, AVle (st.tm t) (st'.tm t)) (hob : ∀ m mo', look st'.ob m = some mo' → ∃ mo, look st.ob m = some mo ∧ MOle mo mo')
    (hx : st.next ≤ st'.next) (hn : st'.n = st.n) : Rep gb w0 gr ok0 st' g ok a w := by
  have hex : ∀ m mo', look st'.ob m = some mo' → ∃ mo, look st.ob m = some mo := fun m mo' h' => let ⟨mo, h1, _⟩ := hob m mo' h'; ⟨mo, h1⟩
  refine ⟨fun t => htm t w ok g _ (h.tm t), ⟨fun m mo' hm => ?_, fun m m' mo mo' G G' b hm hm' => ?_, fun b hb => ⟨(h.obs.okb b hb).1, fun m mo G hm => ?_⟩, fun m mo G b hm => ?_⟩,
    fun m mo G b hm => ?_, fun m hm => h.fresh m (Nat.le_trans hx hm), h.base, h.frm, h.df, by rw [h.n, hn], h.okf⟩
  · obtain ⟨mo, h1, h2⟩ := hob m mo' hm
    obtain ⟨G, hG, hr⟩ := h.obs.rel m mo h1
    exact ⟨G, hG, h2 w ok g G hr⟩
  · obtain ⟨q, hq⟩ := hex m mo hm
    obtain ⟨q', hq'⟩ := hex m' mo' hm'
    exact h.obs.sep m m' q q' G G' b hq hq'
  · obtain ⟨q, hq⟩ := hex m mo hm
    exact (h.obs.okb b hb).2 m q G hq
  · obtain ⟨q, hq⟩ := hex m mo hm
    exact h.obs.lt m q G b hq
  · obtain ⟨q, hq⟩ := hex m mo hm
    exact h.own m q G b hq
end

def lookT : List (Nat × AV) → Nat → AV
  | [], _ => .any
  | (k, x) :: r, t => bif Nat.beq k t then x else lookT r t
/-- A state written out: slots (the others may hold anything), objects. -/
def mkSt (S : List (Nat × AV)) (O : List (Nat × MO)) (nx n : Nat) : St := { tm := lookT S, ob := O, next := nx, n }

def kL : List (Nat × Nat) → Nat → Option Nat
  | [], _ => none
  | (a, b) :: r, m => bif Nat.beq a m then some b else kL r m
def iL : List (Nat × Nat) → Nat → Option Nat
  | [], _ => none
  | (a, b) :: r, k => bif Nat.beq b k then some a else iL r k
def noA (m : Nat) : List (Nat × Nat) → Bool
  | [] => true
  | (a, _) :: r => bif Nat.beq a m then false else noA m r
def noB (m : Nat) : List (Nat × Nat) → Bool
  | [] => true
  | (_, b) :: r => bif Nat.beq b m then false else noB m r
def klOK (nx : Nat) : List (Nat × Nat) → Bool
  | [] => true
  | (a, b) :: r => (noA a r && noB b r) && (Nat.blt b nx && klOK nx r)
def klBase (kl : List (Nat × Nat)) : Nat → Bool
  | 0 => true
  | m + 1 => (match kL kl m with | some k => Nat.beq k m | none => false) && klBase kl m

theorem noA_spec {m : Nat} : ∀ {kl : List (Nat × Nat)}, noA m kl = true → kL kl m = none
  | [], _ => rfl
  | (a, b) :: r, h => by
    unfold noA at h
    unfold kL
    cases hb : Nat.beq a m <;> simp [hb] at h ⊢
    exact noA_spec h
theorem noB_spec {m : Nat} : ∀ {kl : List (Nat × Nat)}, noB m kl = true → iL kl m = none
  | [], _ => rfl
  | (a, b) :: r, h => by
    unfold noB at h
    unfold iL
    cases hb : Nat.beq b m <;> simp [hb] at h ⊢
    exact noB_spec h
theorem kl_spec {nx : Nat} : ∀ {kl : List (Nat × Nat)}, klOK nx kl = true → (∀ m k, kL kl m = some k ↔ iL kl k = some m) ∧ ∀ m k, kL kl m = some k → k < nx
  | [], _ => ⟨fun m k => by simp [kL, iL], fun m k h => by cases h⟩
  | (a, b) :: r, h => by
    simp only [klOK, Bool.and_eq_true] at h
    obtain ⟨⟨h1, h2⟩, h3, h4⟩ := h
    obtain ⟨i1, i2⟩ := kl_spec h4
    have na := noA_spec h1
    have nb := noB_spec h2
    refine ⟨fun m k => ?_, fun m k hk => ?_⟩
    · unfold kL iL
      cases hb : Nat.beq a m <;> cases hc : Nat.beq b k <;> simp only [cond_true, cond_false]
      · exact i1 m k
      · have e := Nat.eq_of_beq_eq_true hc
        subst e
        constructor
        · intro h'; rw [(i1 m b).1 h'] at nb; cases nb
        · intro h'; cases h'; simp at hb
      · have e := Nat.eq_of_beq_eq_true hb
        subst e
        constructor
        · intro h'; cases h'; simp at hc
        · intro h'; rw [(i1 a k).2 h'] at na; cases na
      · have e := Nat.eq_of_beq_eq_true hb
        have e' := Nat.eq_of_beq_eq_true hc
        subst e e'; simp
    · unfold kL at hk
      cases hb : Nat.beq a m <;> simp [hb] at hk
      · exact i2 m k hk
      · subst hk; exact Nat.le_of_ble_eq_true h3
theorem klBase_spec {kl : List (Nat × Nat)} : ∀ {nb : Nat}, klBase kl nb = true → ∀ m, m < nb → kL kl m = some m
  | nb + 1, h, m, hm => by
    simp only [klBase, Bool.and_eq_true] at h
    by_cases e : m = nb
    · subst e
      obtain ⟨h1, _⟩ := h
      split at h1
      · rename_i k hk; rw [hk, Nat.eq_of_beq_eq_true h1]
      · cases h1
    · exact klBase_spec h.2 m (by omega)

def allS (st : St) : List (Nat × AV) → Prop
  | [] => True
  | (t, x) :: r => AVle (st.tm t) x ∧ allS st r
def allO (st : St) : List (Nat × MO) → Prop
  | [] => True
  | (m, o) :: r => (match look st.ob m with | some p => MOle p o | none => False) ∧ allO st r

theorem allS_spec {st : St} : ∀ {S : List (Nat × AV)}, allS st S → ∀ t, AVle (st.tm t) (lookT S t)
  | [], _, t => AVle.any _
  | (k, x) :: r, h, t => by
    unfold lookT
    cases hb : Nat.beq k t
    · exact allS_spec h.2 t
    · have e := Nat.eq_of_beq_eq_true hb; subst e; exact h.1
theorem allO_spec {st : St} : ∀ {O : List (Nat × MO)}, allO st O → ∀ m mo', look O m = some mo' → ∃ mo, look st.ob m = some mo ∧ MOle mo mo'
  | [], _, m, mo', h => by cases h
  | (k, o) :: r, h, m, mo', hm => by
    rw [look_cons] at hm
    split at hm
    · rename_i e; subst e; cases hm
      have := h.1
      split at this
      · rename_i p hp; exact ⟨p, hp, this⟩
      · exact this.elim
    · exact allO_spec h.2 m mo' hm

/-- From a state to one that is written out: 'kl': what becomes of the names that are kept. -/
def Ent (nb : Nat) (st : St) (kl : List (Nat × Nat)) (S : List (Nat × AV)) (O : List (Nat × MO)) (nx n : Nat) : Prop :=
  (klOK nx kl && klBase kl nb) = true ∧ n = st.n ∧ allS (st.fz (kL kl) nx) S ∧ allO (st.fz (kL kl) nx) O

theorem Ent.rep {nb : Nat} {st : St} {kl : List (Nat × Nat)} {S : List (Nat × AV)} {O : List (Nat × MO)} {nx n : Nat} (he : Ent nb st kl S O nx n)
    {gb : Nat → Option Gh} {w0 : World} {gr ok0 : Nat → Prop} {g : Nat → Option Gh} {ok : Nat → Prop} {a : Act} {w : World} (hgb : ∀ m, nb ≤ m → gb m = none)
    (h : Rep gb w0 gr ok0 st g ok a w) : ∃ g' ok', Rep gb w0 gr ok0 (mkSt S O nx n) g' ok' a w := by
  obtain ⟨h1, h2, h3, h4⟩ := he
  rw [Bool.and_eq_true] at h1
  obtain ⟨k1, k2⟩ := kl_spec h1.1
  obtain ⟨g', ok', hr, _⟩ := h.fz (kL kl) (iL kl) nx k1 k2 (fun m G hm => klBase_spec h1.2 m (Nat.lt_of_not_le fun hle => by rw [hgb m hle] at hm; cases hm))
  exact ⟨g', ok', hr.weak (allS_spec h3) (allO_spec h4) (Nat.le_refl _) h2⟩
end Go.Vw
