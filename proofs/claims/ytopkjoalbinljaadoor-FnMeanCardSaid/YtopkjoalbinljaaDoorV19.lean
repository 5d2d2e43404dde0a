/- Vw19: a part of a tool for walks: what a piece of a Go program does, by abstract values. It holds of every program; no condition. -/
import Derived.Test.YtopkjoalbinljaaDoorV18
set_option linter.unusedVariables false
set_option linter.unusedSimpArgs false
set_option linter.unusedSectionVars false
namespace Go.Vw
open Go

section
variable {P : Program} [Tabs P] {all : Array Oper} {n base : Nat} {s : Nat → St}

theorem PAct.shape {nm : Nat} {o : Oper} {st st' : St} (h : PAct P nm o st st') : st'.n = st.n ∧ st'.next = st.next ∧ (∀ t, o.dst ≠ some t → st'.tm t = st.tm t) ∧ (st'.ob = st.ob ∨ ∃ mo, st'.ob = (nm, mo) :: st.ob) := by
  have hput : ∀ (x : St) (r : AV), (x.put o.dst r).n = x.n ∧ (x.put o.dst r).next = x.next ∧ (∀ t, o.dst ≠ some t → (x.put o.dst r).tm t = x.tm t) ∧ (x.put o.dst r).ob = x.ob := fun x r => by
    cases hd : o.dst with
    | none => exact ⟨rfl, rfl, fun _ _ => rfl, rfl⟩
    | some d =>
      refine ⟨rfl, rfl, fun t ht => ?_, rfl⟩
      show (bif Nat.beq t d then r else x.tm t) = _
      cases hb : Nat.beq t d
      · rfl
      · exact absurd (by rw [Nat.eq_of_beq_eq_true hb]) ht
  cases h with
  | pas p h hpre =>
    cases hm : p.mo with
    | none => obtain ⟨h1, h2, h3, h4⟩ := hput st p.r; exact ⟨h1, h2, h3, .inl h4⟩
    | some mo =>
      obtain ⟨h1, h2, h3, h4⟩ := hput { st with ob := (nm, mo) :: st.ob } p.r
      exact ⟨h1, h2, h3, .inr ⟨mo, h4⟩⟩
  | call f args tys F xs ys r hop hf h => obtain ⟨h1, h2, h3, h4⟩ := hput st r; exact ⟨h1, h2, h3, .inl h4⟩

theorem PStep.shape {nm : Nat} {o : Oper} {st st' : St} (h : PStep P all nm o st st') : st'.n = st.n ∧ st'.next = st.next ∧ (∀ t, o.dst ≠ some t → st'.tm t = st.tm t) ∧ (st'.ob = st.ob ∨ ∃ mo, st'.ob = (nm, mo) :: st.ob) := by
  rcases h.2 with ⟨_, e⟩ | ⟨_, h⟩
  · subst e
    cases hd : o.dst with
    | none => exact ⟨rfl, rfl, fun _ _ => rfl, .inl rfl⟩
    | some d =>
      refine ⟨rfl, rfl, fun t ht => ?_, .inl rfl⟩
      show (bif Nat.beq t d then AV.undef else st.tm t) = _
      cases hb : Nat.beq t d
      · rfl
      · exact absurd (by rw [Nat.eq_of_beq_eq_true hb]) ht
  · exact h.shape

/-- The road of the text's order. -/
structure Road (P : Program) [Tabs P] (all : Array Oper) (n base : Nat) (s : Nat → St) : Prop where
  step : ∀ k, k < n → ∃ o, all[k]? = some o ∧ PStep P all (base + k) o (s k) (s (k + 1))
  temps : tempsB all n = true
  back : backB all n = true
  bas : (s 0).next = base
  noob : ∀ m, base ≤ m → look (s 0).ob m = none

variable (hR : Road P all n base s)
include hR

theorem Road.nn : ∀ k, k ≤ n → (s k).n = (s 0).n ∧ (s k).next = base
  | 0, _ => ⟨rfl, hR.bas⟩
  | k + 1, h => by
    obtain ⟨o, _, hp⟩ := hR.step k (by omega)
    obtain ⟨h1, h2, _⟩ := hp.shape
    obtain ⟨i1, i2⟩ := Road.nn k (by omega)
    exact ⟨h1.trans i1, h2.trans i2⟩

theorem Road.stay : ∀ k, k ≤ n → ∀ t, (∀ j, j < k → dstAt all j ≠ some t) → (s k).tm t = (s 0).tm t
  | 0, _, _, _ => rfl
  | k + 1, h, t, ht => by
    obtain ⟨o, ho, hp⟩ := hR.step k (by omega)
    obtain ⟨_, _, h3, _⟩ := hp.shape
    rw [h3 t (fun e => ht k (by omega) (by simp [dstAt, ho, e])), Road.stay k (by omega) t fun j hj => ht j (by omega)]

theorem Road.keep {j t : Nat} (hj : dstAt all j = some t) : ∀ k, j < k → k ≤ n → (s k).tm t = (s (j + 1)).tm t
  | 0, h, _ => by omega
  | k + 1, h, hk => by
    by_cases e : k = j
    · subst e; rfl
    · obtain ⟨o, ho, hp⟩ := hR.step k (by omega)
      obtain ⟨_, _, h3, _⟩ := hp.shape
      have := (tempsB_spec hR.temps (i := k) (j := j) (by omega) (by omega) e hj).1
      rw [h3 t (fun e' => this (by simp [dstAt, ho, e'])), Road.keep hj k (by omega) (by omega)]

theorem Road.obLow : ∀ k, k ≤ n → ∀ m, (∀ j, j < k → m ≠ base + j) → look (s k).ob m = look (s 0).ob m
  | 0, _, _, _ => rfl
  | k + 1, h, m, hm => by
    obtain ⟨o, _, hp⟩ := hR.step k (by omega)
    obtain ⟨_, _, _, h4⟩ := hp.shape
    have ih := Road.obLow k (by omega) m fun j hj => hm j (by omega)
    rcases h4 with h4 | ⟨mo, h4⟩
    · rw [h4, ih]
    · rw [h4, look_cons, if_neg (hm k (by omega)), ih]

theorem Road.obKeep {j : Nat} : ∀ k, j < k → k ≤ n → look (s k).ob (base + j) = look (s (j + 1)).ob (base + j)
  | 0, h, _ => by omega
  | k + 1, h, hk => by
    by_cases e : k = j
    · subst e; rfl
    · obtain ⟨o, _, hp⟩ := hR.step k (by omega)
      obtain ⟨_, _, _, h4⟩ := hp.shape
      have ih := Road.obKeep (j := j) k (by omega) (by omega)
      rcases h4 with h4 | ⟨mo, h4⟩
      · rw [h4, ih]
      · rw [h4, look_cons, if_neg (by omega), ih]

omit hR in
open Classical in
/-- The slots once some operations have been carried out. -/
noncomputable def tmD (all : Array Oper) (n : Nat) (s : Nat → St) (listed : Array Bool) (t : Nat) : AV :=
  if ∃ j, j < n ∧ listed.getD j false = true ∧ dstAt all j = some t then (s n).tm t else (s 0).tm t

omit hR in
def InvD (P : Program) [Tabs P] (all : Array Oper) (n base : Nat) (s : Nat → St) (gb : Nat → Option Gh) (w0 : World) (gr ok0 : Nat → Prop) (listed : Array Bool) (a : Act) (w : World) : Prop :=
  ∃ g ok obD, Rep gb w0 gr ok0 ⟨tmD all n s listed, obD, base + n, (s 0).n⟩ g ok a w ∧
    (∀ m mo, look obD m = some mo → look (s n).ob m = some mo ∧ (m < base ∨ ∃ j, j < n ∧ listed.getD j false = true ∧ m = base + j)) ∧
    (∀ m mo, look (s n).ob m = some mo → (m < base ∨ ∃ j, j < n ∧ listed.getD j false = true ∧ m = base + j) → look obD m = some mo) ∧
    ∀ j, j < n → listed.getD j false = false → g (base + j) = none

variable {gb : Nat → Option Gh} {w0 : World} {gr ok0 : Nat → Prop}

theorem Road.fin_low {m : Nat} (hm : m < base) : look (s n).ob m = look (s 0).ob m := hR.obLow n (Nat.le_refl _) m fun j _ => by omega

theorem Road.agree {listed : Array Bool} {i : Nat} {o : Oper} (hi : i < n) (ho : all[i]? = some o) (hun : listed.getD i false = false)
    (hcl : ∀ j oj, all[j]? = some oj → listed.getD j false = true → ∀ e ∈ oj.after, Region.binds .any e = true → listed.getD e.on false = true)
    (hrd : ∀ e ∈ o.after, Region.binds .any e = true → listed.getD e.on false = true) {t : Nat} (ht : t ∈ readsOf all o) : tmD all n s listed t = (s i).tm t := by
  unfold tmD
  by_cases hex : ∃ j, j < n ∧ dstAt all j = some t
  · obtain ⟨j, hj, hd⟩ := hex
    by_cases hij : i = j
    · subst hij
      have q1 : ¬ ∃ j, j < n ∧ listed.getD j false = true ∧ dstAt all j = some t := fun ⟨k, hk, hl, hdk⟩ => by
        by_cases e : k = i
        · subst e; rw [hun] at hl; cases hl
        · exact (tempsB_spec hR.temps hi hk (fun e' => e e'.symm) hdk).1 hd
      have q2 : ∀ j, j < i → dstAt all j ≠ some t := fun k hk hdk => (tempsB_spec hR.temps hi (show k < n by omega) (by omega) hdk).1 hd
      rw [if_neg q1, hR.stay i (by omega) t q2]
    · obtain ⟨h1, h2⟩ := (tempsB_spec hR.temps hi hj hij hd).2 o ho ht
      rcases Nat.lt_or_gt_of_ne hij with hlt | hgt
      · -- j later: not yet
        have hw := h2 hlt
        obtain ⟨oj, hoj, e, he, hb, hon⟩ := Region.waitsFor_spec hw
        have q1 : ¬ ∃ j, j < n ∧ listed.getD j false = true ∧ dstAt all j = some t := fun ⟨k, hk, hl, hdk⟩ => by
          have hkj : k = j := by
            rcases Nat.decEq k j with hne | he'
            · exact absurd hd (tempsB_spec hR.temps hj hk (fun e => hne e.symm) hdk).1
            · exact he'
          subst hkj
          have := hcl k oj hoj hl e he hb
          rw [hon, hun] at this; cases this
        have q2 : ∀ j, j < i → dstAt all j ≠ some t := fun k hk hdk => absurd hd (tempsB_spec hR.temps hj (show k < n by omega) (by omega) hdk).1
        rw [if_neg q1, hR.stay i (by omega) t q2]
      · have hw := h1 hgt
        obtain ⟨oi, hoi, e, he, hb, hon⟩ := Region.waitsFor_spec hw
        rw [ho] at hoi; cases hoi
        have hl := hrd e he hb
        rw [hon] at hl
        rw [if_pos ⟨j, hj, hl, hd⟩, hR.keep hd n hj (Nat.le_refl _), ← hR.keep hd i hgt (by omega)]
  · have q1 : ¬ ∃ j, j < n ∧ listed.getD j false = true ∧ dstAt all j = some t := fun ⟨k, hk, _, hdk⟩ => hex ⟨k, hk, hdk⟩
    have q2 : ∀ j, j < i → dstAt all j ≠ some t := fun k hk hdk => hex ⟨k, by omega, hdk⟩
    rw [if_neg q1, hR.stay i (by omega) t q2]

omit hR in
theorem getD_set {listed : Array Bool} {i j : Nat} (hi : i < listed.size) : (listed.setIfInBounds i true).getD j false = true ↔ j = i ∨ listed.getD j false = true := by
  by_cases h : i = j
  · subst h; simp [hi]
  · rw [getD_set_ne false h]
    constructor
    · exact .inr
    · rintro (h' | h')
      · exact absurd h'.symm h
      · exact h'

theorem Road.tmD_set {listed : Array Bool} {i : Nat} {o : Oper} (hi : i < n) (his : i < listed.size) (ho : all[i]? = some o) (hun : listed.getD i false = false) :
    tmD all n s (listed.setIfInBounds i true) = fun t => if o.dst = some t then (s n).tm t else tmD all n s listed t := by
  funext t
  have hdi : dstAt all i = o.dst := by simp [dstAt, ho]
  unfold tmD
  by_cases hd : o.dst = some t
  · rw [if_pos hd, if_pos ⟨i, hi, (getD_set his).2 (.inl rfl), by rw [hdi, hd]⟩]
  · rw [if_neg hd]
    by_cases h1 : ∃ j, j < n ∧ listed.getD j false = true ∧ dstAt all j = some t
    · obtain ⟨j, h2, h3, h4⟩ := h1
      rw [if_pos ⟨j, h2, (getD_set his).2 (.inr h3), h4⟩, if_pos ⟨j, h2, h3, h4⟩]
    · rw [if_neg h1, if_neg]
      rintro ⟨j, h2, h3, h4⟩
      rcases (getD_set his).1 h3 with e | e
      · subst e; rw [hdi] at h4; exact hd h4
      · exact h1 ⟨j, h2, e, h4⟩

/-- One operation, whenever it comes. -/
theorem Road.one (hj : JJ P w0 gr) {Q : Exit → Act → World → Prop} {listed : Array Bool} {a : Act} {w : World} (hsz : listed.size = all.size)
    (hcl : ∀ j oj, all[j]? = some oj → listed.getD j false = true → ∀ e ∈ oj.after, Region.binds .any e = true → listed.getD e.on false = true)
    (hI : InvD P all n base s gb w0 gr ok0 listed a w) {i : Nat} (hi : i < n) (hr : i ∈ Region.ready .any all listed) :
    wpOp P all Q i (InvD P all n base s gb w0 gr ok0 (listed.setIfInBounds i true)) a w := by
  obtain ⟨hunT, o, ho, hrd⟩ := mem_ready.1 hr
  have hun := getD_both hunT
  have his : i < listed.size := by rw [hsz]; exact (Array.getElem?_eq_some_iff.1 ho).1
  obtain ⟨o', ho', hd, hact⟩ := hR.step i hi
  rw [ho] at ho'; cases ho'
  obtain ⟨g, ok, obD, hrep, hob1, hob2, hgn⟩ := hI
  have hnn := hR.nn i (by omega)
  rw [hnn.1] at hd
  have hag : ∀ t, t ∈ readsOf all o → tmD all n s listed t = (s i).tm t := fun t ht => hR.agree hi ho hun hcl hrd ht
  have hdi : dstAt all i = o.dst := by simp [dstAt, ho]
  -- the value that the road leaves in the slot is the last one
  have hlast : ∀ t, o.dst = some t → (s n).tm t = (s (i + 1)).tm t := fun t ht => hR.keep (j := i) (by rw [hdi, ht]) n hi (Nat.le_refl _)
  have hev : ∀ x ∈ o.op.operands, (s i).ev x = St.ev ⟨tmD all n s listed, obD, base + n, (s 0).n⟩ x := fun x hx => by
    cases x with
    | tmp t =>
      refine (hag t ?_).symm
      unfold readsOf
      refine List.mem_append.2 (.inl ?_)
      refine List.mem_filterMap.2 ⟨.tmp t, by simpa using hx, rfl⟩
    | const v => rfl
    | func f => rfl
    | global _ => rfl
  -- what is known of objects
  have hlkI : ∀ m mo G, look (s i).ob m = some mo → g m = some G → look obD m = some mo := fun m mo G hm hg => by
    by_cases hb : m < base
    · refine hob2 m mo ?_ (.inl hb)
      rw [hR.fin_low hb, ← hR.obLow i (by omega) m (fun j _ => by omega), hm]
    · by_cases hex : ∃ j, j < i ∧ m = base + j
      · obtain ⟨j, hj, rfl⟩ := hex
        cases hl : listed.getD j false with
        | false => rw [hgn j (by omega) hl] at hg; cases hg
        | true =>
          refine hob2 _ mo ?_ (.inr ⟨j, by omega, hl, rfl⟩)
          rw [hR.obKeep n (show j < n by omega) (Nat.le_refl _), ← hR.obKeep i hj (by omega), hm]
      · rw [hR.obLow i (by omega) m (fun j hj e => hex ⟨j, hj, e⟩), hR.noob m (by omega)] at hm; cases hm
  have hobr : ∀ m mo G, look (s i).ob m = some mo → g m = some G → MRel w ok g G mo := fun m mo G hm hg => hrep.obr m mo G (hlkI m mo G hm hg) hg
  -- the next invariant, no new object
  have fin0 : ∀ (r : AV) (v : Value) (w' : World) (ok' : Nat → Prop), (∀ t, o.dst = some t → (s (i + 1)).tm t = r) → (s (i + 1)).ob = (s i).ob → Rep gb w0 gr ok0 ⟨tmD all n s listed, obD, base + n, (s 0).n⟩ g ok' a w' → RV w' ok' g r v →
      InvD P all n base s gb w0 gr ok0 (listed.setIfInBounds i true) (a.put o.dst v) w' := by
    intro r v w' ok' hr1 hob hrep' hv
    have hput := hrep'.put (d := o.dst) hd hv
    have e : (St.put ⟨tmD all n s listed, obD, base + n, (s 0).n⟩ o.dst r) = ⟨tmD all n s (listed.setIfInBounds i true), obD, base + n, (s 0).n⟩ := by
      rw [hR.tmD_set hi his ho hun]
      cases hdd : o.dst with
      | none => simp [St.put]
      | some d =>
        simp only [St.put]
        congr 1
        funext t
        cases hb : Nat.beq t d
        · have : ¬ d = t := fun e => by subst e; simp at hb
          simp [this]
        · have := Nat.eq_of_beq_eq_true hb
          subst this
          simp only [cond_true, if_true]
          rw [hlast t hdd, hr1 t hdd]
    rw [e] at hput
    have hni : look (s n).ob (base + i) = none := by
      rw [hR.obKeep n hi (Nat.le_refl _), hob, hR.obLow i (by omega) (base + i) (fun j hj => by omega), hR.noob _ (by omega)]
    refine ⟨g, ok', obD, hput, fun m mo hm => ?_, fun m mo hm hc => ?_, fun j hj hl => ?_⟩
    · obtain ⟨h1, h2⟩ := hob1 m mo hm
      exact ⟨h1, h2.imp id fun ⟨j, k1, k2, k3⟩ => ⟨j, k1, (getD_set his).2 (.inr k2), k3⟩⟩
    · rcases hc with hc | ⟨j, k1, k2, k3⟩
      · exact hob2 m mo hm (.inl hc)
      · rcases (getD_set his).1 k2 with e | e
        · subst e; rw [k3, hni] at hm; cases hm
        · exact hob2 m mo hm (.inr ⟨j, k1, e, k3⟩)
    · refine hgn j hj ?_
      cases h' : listed.getD j false
      · rfl
      · rw [(getD_set his).2 (.inr h')] at hl; cases hl
  have hwant : ∀ b, wantedS all (s i) o = some b → Region.wanted o (yielded all a.tmps) = b := by
    intro b hb
    unfold wantedS at hb
    split at hb
    · rename_i hg0; cases hb; simp [Region.wanted, hg0]
    · rename_i j want hg0
      split at hb
      · rename_i t hj
        split at hb
        · rename_i ht
          rw [hnn.1] at ht
          have htn : t < a.tmps.size := by rw [hrep.n]; exact Nat.le_of_ble_eq_true ht
          have hy := yielded_of (a := a) hj htn
          have hmem : t ∈ readsOf all o := by
            unfold readsOf
            refine List.mem_append.2 (.inr ?_)
            simp [hg0, hj]
          have hv := hrep.tm t
          have : tmD all n s listed t = (s i).tm t := hag t hmem
          simp only [this] at hv
          split at hb
          · rename_i c hc
            rw [hc] at hv
            simp only [RV] at hv
            rw [hv] at hy
            cases hb
            simp [Region.wanted, hg0, hy]
          · rename_i hc
            rw [hc] at hv
            simp only [RV] at hv
            rw [hv] at hy
            cases hb
            simp [Region.wanted, hg0, hy, Go.undef]
          · cases hb
        · cases hb
      · cases hb
  unfold wpOp
  rw [ho]
  rcases hact with ⟨hw, he⟩ | ⟨hw, hp⟩
  · simp only [hwant _ hw, Bool.false_eq_true, if_false]
    have hsh : ∀ t, o.dst = some t → (s (i + 1)).tm t = .undef := fun t ht => by
      rw [he, ht]; show (bif Nat.beq t t then AV.undef else _) = _; simp
    exact fin0 .undef Go.undef w ok hsh (by rw [he]; cases o.dst <;> rfl) hrep rfl
  · simp only [hwant _ hw, if_true]
    left
    generalize hsi : s (i + 1) = si1 at hp
    cases hp with
    | pas p hpas hpre =>
      rw [pas_congr hev] at hpas
      have hnone : g (base + i) = none := hgn i hi hun
      have hdoes := pas_does (o := o) (a := a) (nm := base + i) (fun b hb => (hrep.obs.okb b hb).1) hnone hrep.ev hobr hpas hpre
      unfold Does at hdoes
      unfold Oper.wp
      cases hmo : p.mo with
      | none =>
        rw [hmo] at hsi
        simp only [hmo] at hdoes
        obtain ⟨v, hrun, hv⟩ := hdoes
        rw [hrun, Oper.upon_value]
        refine fin0 p.r v w ok (fun t ht => ?_) (by rw [hsi]; cases o.dst <;> rfl) hrep hv
        rw [hsi, ht]; show (bif Nat.beq t t then p.r else _) = _; simp
      | some mo =>
        rw [hmo] at hsi
        simp only [hmo] at hdoes
        obtain ⟨v, obj, G, hrun, hG, hm, hv⟩ := hdoes
        rw [hrun, Oper.upon_value]
        have hadd := hrep.addAt (nm := base + i) (nx := base + n) hnone (by omega) (Nat.le_refl _) hG hm
        have hput := hadd.put (d := o.dst) hd hv
        have e : (St.put ⟨tmD all n s listed, (base + i, mo) :: obD, base + n, (s 0).n⟩ o.dst p.r) = ⟨tmD all n s (listed.setIfInBounds i true), (base + i, mo) :: obD, base + n, (s 0).n⟩ := by
          rw [hR.tmD_set hi his ho hun]
          cases hdd : o.dst with
          | none => simp [St.put]
          | some d =>
            simp only [St.put]
            congr 1
            funext t
            cases hb : Nat.beq t d
            · have : ¬ d = t := fun e => by subst e; simp at hb
              simp [this]
            · have := Nat.eq_of_beq_eq_true hb
              subst this
              simp only [cond_true, if_true]
              rw [hlast t hdd, hsi, hdd]; show _ = (bif Nat.beq t t then p.r else _); simp
        rw [e] at hput
        have hobi : look (s n).ob (base + i) = some mo := by
          rw [hR.obKeep n hi (Nat.le_refl _), hsi]
          have : (St.put { s i with ob := (base + i, mo) :: (s i).ob } o.dst p.r).ob = (base + i, mo) :: (s i).ob := by cases o.dst <;> rfl
          rw [this, look_cons, if_pos rfl]
        refine ⟨_, ok, _, hput, fun m mo' hm' => ?_, fun m mo' hm' hc => ?_, fun j hj hl => ?_⟩
        · rw [look_cons] at hm'
          split at hm'
          · rename_i e'; cases hm'; subst e'; exact ⟨hobi, .inr ⟨i, hi, (getD_set his).2 (.inl rfl), rfl⟩⟩
          · obtain ⟨h1, h2⟩ := hob1 m mo' hm'
            exact ⟨h1, h2.imp id fun ⟨j, k1, k2, k3⟩ => ⟨j, k1, (getD_set his).2 (.inr k2), k3⟩⟩
        · rw [look_cons]
          split
          · rename_i e'; subst e'; rw [hobi] at hm'; cases hm'; rfl
          · rename_i hne
            rcases hc with hc | ⟨j, k1, k2, k3⟩
            · exact hob2 m mo' hm' (.inl hc)
            · rcases (getD_set his).1 k2 with e' | e'
              · subst e'; exact absurd k3 hne
              · exact hob2 m mo' hm' (.inr ⟨j, k1, e', k3⟩)
        · have hji : j ≠ i := fun e' => by
            subst e'
            rw [(getD_set his).2 (.inl rfl)] at hl; cases hl
          unfold gset
          rw [if_neg (by omega)]
          refine hgn j hj ?_
          cases h' : listed.getD j false
          · rfl
          · rw [(getD_set his).2 (.inr h')] at hl; cases hl
    | call f args tys F xs ys r hop hf hcall =>
      have hfev : St.ev ⟨tmD all n s listed, obD, base + n, (s 0).n⟩ f = .fn (.func F) xs ys := by
        rw [← hev f (by rw [hop]; simp [Op.operands, Call.operands])]; exact hf
      have hargs : ∀ x ∈ args.toList, (s i).ev x = St.ev ⟨tmD all n s listed, obD, base + n, (s 0).n⟩ x := fun x hx => hev x (by rw [hop]; simp [Op.operands, Call.operands]; exact .inr (by simpa using hx))
      have hmap : args.toList.map (s i).ev = args.toList.map (St.ev ⟨tmD all n s listed, obD, base + n, (s 0).n⟩) := List.map_congr_left hargs
      rw [hmap] at hcall
      have hfv := hrep.ev f
      rw [hfev] at hfv
      obtain ⟨us, vs, hv, h1, h2⟩ := hfv
      have hargsR := h1.append ((RVs_map hrep.ev args.toList).append h2)
      have eargs : (us.toArray ++ args.map a.eval ++ vs.toArray) = (us ++ (args.toList.map a.eval ++ vs)).toArray := by
        apply Array.ext'; simp
      have hsh : ∀ t, o.dst = some t → (s (i + 1)).tm t = r := fun t ht => by rw [hsi, ht]; show (bif Nat.beq t t then r else _) = _; simp
      have hobs : (s (i + 1)).ob = (s i).ob := by rw [hsi]; cases o.dst <;> rfl
      have hen : Enters P F := by rcases hcall with ⟨h, _⟩ | ⟨h, _⟩ <;> exact h.1
      have hrun : (execOp a.eval o).run P w = .ok (.enter F (us ++ (args.toList.map a.eval ++ vs)).toArray) w := by
        rw [← eargs]
        simp [execOp, hop, resolve, hv, Deferred.ofValue, invoke, hen _ w]
      unfold Oper.wp
      rw [hrun, Oper.upon_enter]
      rcases hcall with ⟨hV, hsc⟩ | ⟨hV, hnl⟩
      · have hx := RVs.fz (ok' := fun b => b < w.heap.size) (g' := G0) (keep := fun _ => none) (fun b hb => (hrep.obs.okb b hb).1) (fun _ _ _ e => by cases e) hobr (fun m mo G b _ hm hg hb => hrep.obs.lt m mo G b (hlkI m mo G hm hg) hg hb) _ _ hargsR
        refine (hV.2 w _ _ (hj.now hrep.frm) (fun b hb => hb) hx).mono ?_
        rintro e w' ⟨v, rfl, hfm, hv⟩
        exact fin0 r v w' ok hsh hobs (hfm.grow hrep) (RV.sca r v hsc hv)
      · refine (hV.2 w ok _ (hj.now hrep.frm) (fun b hb => (hrep.obs.okb b hb).1) (RVs.nl _ _ hnl hargsR)).mono ?_
        rintro e w' ⟨v, rfl, hfm, hv⟩
        have h1 := hfm.grow hrep
        have h2 := h1.okmore (ok' := fun b => ok b ∨ (w.heap.size ≤ b ∧ b < w'.heap.size)) (fun _ h => .inl h) (fun b hb => by
          rcases hb with hb | hb
          · exact h1.obs.okb b hb
          · exact ⟨hb.2, fun m mo G hm hg e => by have := hrep.obs.lt m mo G b hm hg e; omega⟩) (fun b hb => by
          rcases hb with hb | hb
          · exact hrep.okf b hb
          · exact .inr (.inr (Nat.le_trans hrep.frm.size hb.1)))
        exact fin0 r v w' _ hsh hobs h2 (RV.mono (fun _ h => h) (fun _ _ => rfl) G0 g (fun _ _ e => by cases e) r v hv)
end
end Go.Vw
