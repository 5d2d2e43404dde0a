/- Vw23: a part of a tool for walks: what a piece of a Go program does, by abstract values. It holds of every program; no condition. -/
import Derived.Test.YtopkjoalbinljaaDoorV22
set_option linter.unusedVariables false
set_option linter.unusedSimpArgs false
set_option linter.unusedSectionVars false
namespace Go.Vw
open Go

mutual
def AV.ren (σ : Nat → Nat) : AV → AV
  | .osl m => .osl (σ m)
  | .bptr m off => .bptr (σ m) off
  | .aptr m sz i off => .aptr (σ m) sz i off
  | .omap m => .omap (σ m)
  | .agg cs => .agg (AV.rens σ cs)
  | .tup cs => .tup (AV.rens σ cs)
  | .iface t x => .iface t (AV.ren σ x)
  | .fn f xs ys => .fn f (AV.rens σ xs) (AV.rens σ ys)
  | .any => .any
  | .int k n => .int k n
  | .bool b => .bool b
  | .str s => .str s
  | .nilsl => .nilsl
  | .sl sz n rows => .sl sz n rows
  | .eptr row off => .eptr row off
  | .nilptr => .nilptr
  | .niliface => .niliface
  | .nilfn => .nilfn
  | .undef => .undef
def AV.rens (σ : Nat → Nat) : List AV → List AV
  | [] => []
  | c :: cs => AV.ren σ c :: AV.rens σ cs
end
mutual
/-- names, numbers, texts -/
def AV.scn : AV → Bool
  | .sl _ _ _ | .eptr _ _ => false
  | .agg cs => AV.scns cs
  | .tup cs => AV.scns cs
  | .iface _ x => AV.scn x
  | .fn _ xs ys => AV.scns xs && AV.scns ys
  | .osl _ | .bptr _ _ | .aptr _ _ _ _ | .omap _ | .any | .int _ _ | .bool _ | .str _ | .nilsl | .nilptr | .niliface | .nilfn | .undef => true
def AV.scns : List AV → Bool
  | [] => true
  | c :: cs => AV.scn c && AV.scns cs
end
section
variable {w w' : World} {ok ok' : Nat → Prop} {g g' : Nat → Option Gh} {σ : Nat → Nat}
mutual
theorem RV.scn (hg : ∀ m G, g m = some G → g' (σ m) = some G) : ∀ (x : AV) (v : Value), x.scn = true → RV w ok g x v → RV w' ok' g' (x.ren σ) v
  | .any, _, _, _ => trivial
  | .int _ _, _, _, h => h
  | .bool _, _, _, h => h
  | .str _, _, _, h => h
  | .agg cs, _, hn, ⟨vs, e, h⟩ => ⟨vs, e, RVs.scn hg cs vs hn h⟩
  | .tup cs, _, hn, ⟨vs, e, h⟩ => ⟨vs, e, RVs.scn hg cs vs hn h⟩
  | .nilsl, _, _, h => h
  | .sl _ _ _, _, hn, _ => by cases hn
  | .osl m, _, _, ⟨G, hm, e⟩ => ⟨G, hg m G hm, e⟩
  | .eptr _ _, _, hn, _ => by cases hn
  | .bptr m off, _, _, ⟨G, b, hm, hb, e⟩ => ⟨G, b, hg m G hm, hb, e⟩
  | .aptr m sz i off, _, _, ⟨G, b, hm, hb, e⟩ => ⟨G, b, hg m G hm, hb, e⟩
  | .nilptr, _, _, h => h
  | .iface _ x, _, hn, ⟨u, e, h⟩ => ⟨u, e, RV.scn hg x u hn h⟩
  | .niliface, _, _, h => h
  | .fn _ xs ys, _, hn, ⟨us, vs, e, h1, h2⟩ => by
    have hn' : (AV.scns xs && AV.scns ys) = true := hn
    rw [Bool.and_eq_true] at hn'
    exact ⟨us, vs, e, RVs.scn hg xs us hn'.1 h1, RVs.scn hg ys vs hn'.2 h2⟩
  | .nilfn, _, _, h => h
  | .omap m, _, _, ⟨G, b, hm, hb, e⟩ => ⟨G, b, hg m G hm, hb, e⟩
  | .undef, _, _, h => h
theorem RVs.scn (hg : ∀ m G, g m = some G → g' (σ m) = some G) : ∀ (xs : List AV) (vs : List Value), AV.scns xs = true → RVs w ok g xs vs → RVs w' ok' g' (AV.rens σ xs) vs
  | [], _, _, h => h
  | x :: xs, _, hn, ⟨v, us, e, h1, h2⟩ => by
    have hn' : (AV.scn x && AV.scns xs) = true := hn
    rw [Bool.and_eq_true] at hn'
    exact ⟨v, us, e, RV.scn hg x v hn'.1 h1, RVs.scn hg xs us hn'.2 h2⟩
end
end

def MO.ren (σ : Nat → Nat) : MO → MO
  | .box cs => .box (AV.rens σ cs)
  | o => o
def MO.scP : MO → Prop
  | .box cs => AV.scns cs = true
  | .arr _ _ n rows => ∀ i, i < n → AV.scas (rows i) = true
  | _ => True
def obP : List (Nat × MO) → Prop
  | [] => True
  | (_, o) :: r => o.scP ∧ obP r
theorem obP_look : ∀ {O : List (Nat × MO)} {k : Nat} {mo : MO}, obP O → look O k = some mo → mo.scP
  | (j, o) :: r, k, mo, h, hl => by
    rw [look_cons] at hl
    split at hl
    · cases hl; exact h.1
    · exact obP_look h.2 hl
theorem MRel.scP {w : World} {ok ok' : Nat → Prop} {g g' : Nat → Option Gh} {σ : Nat → Nat} {G : Gh} {mo : MO} (hg : ∀ m G, g m = some G → g' (σ m) = some G) (hs : mo.scP) (h : MRel w ok g G mo) : MRel w ok' g' G (mo.ren σ) := by
  cases mo with
  | box cs =>
    obtain ⟨b, vs, ty, h1, h2, h3⟩ := h
    exact ⟨b, vs, ty, h1, h2, RVs.scn hg cs vs hs h3⟩
  | arr e sz n rows =>
    obtain ⟨h0, h⟩ := h
    refine ⟨h0, h.imp id fun ⟨b, cur, h1, h2, h3, h4, h5, h6⟩ => ⟨b, cur, h1, h2, h3, h4, h5, fun i hi => ?_⟩⟩
    obtain ⟨vs, k1, k2, k3⟩ := h6 i hi
    exact ⟨vs, k1, RVs.sca _ _ (hs i hi) k2, k3⟩
  | imap ks => exact h
  | smap ks => exact h

def renOb (σ : Nat → Nat) : List (Nat × MO) → List (Nat × MO)
  | [] => []
  | (k, o) :: r => (σ k, o.ren σ) :: renOb σ r
def delK (kl : List (Nat × Nat)) : List (Nat × MO) → List (Nat × MO)
  | [] => []
  | (m, o) :: r => match kL kl m with | some _ => delK kl r | none => (m, o) :: delK kl r
theorem look_renOb {σ : Nat → Nat} : ∀ {O : List (Nat × MO)} {m : Nat} {mo' : MO}, look (renOb σ O) m = some mo' → ∃ k mo, σ k = m ∧ look O k = some mo ∧ mo' = mo.ren σ
  | (k, o) :: r, m, mo', h => by
    unfold renOb at h
    rw [look_cons] at h
    split at h
    · rename_i e; cases h; exact ⟨k, o, e.symm, by rw [look_cons, if_pos rfl], rfl⟩
    · rename_i hne
      obtain ⟨j, mo, h1, h2, h3⟩ := look_renOb h
      refine ⟨j, mo, h1, ?_, h3⟩
      rw [look_cons, if_neg (fun e => by subst e; exact hne h1.symm), h2]
theorem look_delK {kl : List (Nat × Nat)} : ∀ {O : List (Nat × MO)} {m : Nat} {mo : MO}, look (delK kl O) m = some mo → look O m = some mo ∧ kL kl m = none
  | (k, o) :: r, m, mo, h => by
    unfold delK at h
    split at h
    · rename_i x hx
      obtain ⟨h1, h2⟩ := look_delK h
      refine ⟨?_, h2⟩
      rw [look_cons, if_neg (fun e => by subst e; rw [hx] at h2; cases h2), h1]
    · rename_i hx
      rw [look_cons] at h ⊢
      split at h
      · rename_i e; subst e; cases h; exact ⟨by rw [if_pos rfl], hx⟩
      · rename_i hne
        obtain ⟨h1, h2⟩ := look_delK h
        rw [if_neg hne]; exact ⟨h1, h2⟩
theorem look_app {a b : List (Nat × MO)} {m : Nat} {mo : MO} (h : look (a ++ b) m = some mo) : look a m = some mo ∨ look b m = some mo := by
  induction a with
  | nil => exact .inr h
  | cons p r ih =>
    obtain ⟨k, o⟩ := p
    rw [List.cons_append, look_cons] at h
    rw [look_cons]
    by_cases e : m = k
    · rw [if_pos e] at h ⊢; exact .inl h
    · rw [if_neg e] at h ⊢; exact ih h

/-- The blocks of some objects. -/
def grO (O : List (Nat × MO)) (g : Nat → Option Gh) (b : Nat) : Prop := ∃ m mo G, look O m = some mo ∧ g m = some G ∧ G.b = some b

/-- A function that is handed objects (under the names below nb), and hands back objects (under names below nx): those that it was handed keep their names. -/
structure FnM (P : Program) [Tabs P] (F : FuncId) (nb : Nat) (args : List AV) (O : List (Nat × MO)) (r : AV) (O' : List (Nat × MO)) (nx : Nat) : Prop where
  enters : Enters P F
  calls : ∀ w ok g vs, (Tabs.J P w ∧ ∀ b, Tabs.tab P b → ¬ grO O g b) → Obs O g ok w → (∀ m, nb ≤ m → g m = none) → RVs w ok g args vs →
    Calls P F vs.toArray w fun e w' => ∃ v g' ok', e = .returned v ∧ Frm w (grO O g) w' ∧ Obs O' g' ok' w' ∧ (∀ m G, g m = some G → g' m = some G) ∧ (∀ m, nx ≤ m → g' m = none) ∧ RV w' ok' g' r v ∧
      (∀ m mo G b, look O' m = some mo → g' m = some G → G.b = some b → w.heap.size ≤ b ∨ grO O g b) ∧ ∀ b, ok' b → ok b ∨ grO O g b ∨ w.heap.size ≤ b

def DoneM (P : Program) [Tabs P] (rs : List ResultVar) (nb : Nat) (r : AV) (O' : List (Nat × MO)) (nx : Nat) (e : Exit) (st : St) : Prop :=
  (match e with | .normal => True | .ret => True | _ => False) ∧ match resAV P st rs with
    | some l => forceL l fun l => ∃ kl, (klOK nx kl && klBase kl nb) = true ∧ AVle ((oneOf l).fz st.ob (kL kl)) r ∧ allO (st.fz (kL kl) nx) O'
    | none => False

theorem FnM.introSW {P : Program} [Tabs P] {F : FuncId} {fn : Func} {c : Code} {nb nx : Nat} {args : List AV} {O O' : List (Nat × MO)} {r : AV} (hen : Enters P F) (hf : P.funcs[F]? = some fn) (hb : fn.body = some c) (hn : Nat.ble args.length fn.ntmps = true)
    (h : SW P nb c (entry args O nb fn.ntmps) (DoneM P fn.results.toList nb r O' nx)) : FnM P F nb args O r O' nx := by
  refine ⟨hen, fun w ok g vs hJ hobs hfr hargs => calls_of_wp hf hb ?_⟩
  have hl := hargs.length
  have hn' := Nat.le_of_ble_eq_true hn
  have hrep : Rep g w (grO O g) ok (entry args O nb fn.ntmps) g ok { tmps := vs.toArray ++ Array.replicate (fn.ntmps - vs.toArray.size) Go.undef, defers := [] } w := by
    refine ⟨fun t => ?_, hobs, fun m mo G b hm hg hb => .inr ⟨m, mo, G, hm, hg, hb⟩, hfr, fun m G h => h,
      ⟨rfl, rfl, rfl, Nat.le_refl _, fun _ _ _ => rfl⟩, rfl, by simp [entry]; omega, fun b hb => .inl hb⟩
    show RV w ok g (args.getD t .undef) _
    by_cases ht : t < args.length
    · obtain ⟨v, h1, h2⟩ := hargs.get t args[t] (List.getElem?_eq_getElem ht)
      have : args.getD t .undef = args[t] := by simp [List.getD, ht]
      rw [this]
      have e : (vs.toArray ++ Array.replicate (fn.ntmps - vs.toArray.size) Go.undef).getD t Go.undef = v := by
        have : t < vs.length := by omega
        simp [Array.getD, this] at h1 ⊢
        rw [if_pos (by omega)]; exact h1
      rw [e]; exact h2
    · have : args.getD t .undef = .undef := by simp [List.getD, List.getElem?_eq_none (Nat.le_of_not_lt ht)]
      rw [this]
      show _ = Go.undef
      simp only [Array.getD_eq_getD_getElem?]
      rw [Array.getElem?_append_right (by simp; omega)]
      rw [Array.getElem?_replicate]
      split <;> rfl
  refine wp_mono (h g w (grO O g) ok g ok _ w ⟨hfr, hJ⟩ hrep) ?_
  rintro e a' w' ⟨st', g1, ok1, hr', he, hres⟩
  have fin : a'.defers = [] ∧ ∃ v, (results fn a'.tmps).run P w' = .ok v w' ∧ ∃ u g' ok', Ending.returned v = .returned u ∧ Frm w (grO O g) w' ∧ Obs O' g' ok' w' ∧ (∀ m G, g m = some G → g' m = some G) ∧ (∀ m, nx ≤ m → g' m = none) ∧ RV w' ok' g' r u ∧
      (∀ m mo G b, look O' m = some mo → g' m = some G → G.b = some b → w.heap.size ≤ b ∨ grO O g b) ∧ ∀ b, ok' b → ok b ∨ grO O g b ∨ w.heap.size ≤ b := by
    refine ⟨hr'.df, ?_⟩
    split at hres
    · rename_i l hl
      rw [forceL_eq] at hres
      obtain ⟨kl, hk, hle, hO⟩ := hres
      rw [Bool.and_eq_true] at hk
      obtain ⟨k1, k2⟩ := kl_spec hk.1
      obtain ⟨us, h1, h2⟩ := resAV_run (P := P) hr' _ l hl
      have hv := oneOf_RV h1
      obtain ⟨g', ok', hr2, hx, _, _⟩ := hr'.fz (kL kl) (iL kl) nx k1 k2 (fun m G hm => klBase_spec hk.2 m (Nat.lt_of_not_le fun hle => by rw [hfr m hle] at hm; cases hm))
      have hr3 := hr2.weak (st' := mkSt [] O' nx st'.n) (fun t => AVle.any _) (allO_spec hO) (Nat.le_refl _) rfl
      refine ⟨_, ?_, _, g', ok', rfl, hr'.frm, hr3.obs, hr3.base, hr3.fresh, hle _ _ _ _ (hx _ _ hv), hr3.own, hr3.okf⟩
      rw [results_eq, Array.mapM_eq_mapM_toList]
      simp [h2]
    · exact hres.elim
  cases e <;> first | exact fin | exact he.elim

theorem FnM.intro {P : Program} [Tabs P] {F : FuncId} {fn : Func} {c : Code} {nb nx : Nat} {args : List AV} {O O' : List (Nat × MO)} {r : AV} (hen : Enters P F) (hf : P.funcs[F]? = some fn) (hb : fn.body = some c) (hn : Nat.ble args.length fn.ntmps = true)
    (h : wpS P nb c (entry args O nb fn.ntmps) (DoneM P fn.results.toList nb r O' nx)) : FnM P F nb args O r O' nx :=
  FnM.introSW hen hf hb hn (wpS_SW c _ _ h)

/-- the caller's names of what comes back -/
def backN (kl : List (Nat × Nat)) (nb next k : Nat) : Nat := match iL kl k with | some m => m | none => next + (k - nb)
def covB (O : List (Nat × MO)) : Nat → Bool
  | 0 => true
  | k + 1 => (look O k).isSome && covB O k
theorem covB_spec {O : List (Nat × MO)} : ∀ {nb : Nat}, covB O nb = true → ∀ k, k < nb → ∃ mo, look O k = some mo
  | nb + 1, h, k, hk => by
    simp only [covB, Bool.and_eq_true] at h
    by_cases e : k = nb
    · subst e; exact Option.isSome_iff_exists.1 h.1
    · exact covB_spec h.2 k (by omega)

/-- A call that is handed objects: those of 'kl' (the caller's name, the callee's); the others are read at most. -/
theorem callM {P : Program} [Tabs P] {F : FuncId} {nb nx : Nat} {args l : List AV} {O O' : List (Nat × MO)} {r : AV} {st : St} {d : Option Tmp} (kl : List (Nat × Nat)) (h : FnM P F nb args O r O' nx) (hkl : klOK nb kl = true) (hcov : covB O nb = true)
    (ha : AVsle (AV.fzs st.ob (kL kl) l) args) (hO : allO (st.fz (kL kl) nb) O) (hr : r.scn = true) (hO' : obP O') (hd : dstOK d st.n = true) :
    CallR P F l st d (({ tm := st.tm, ob := renOb (backN kl nb st.next) O' ++ delK kl st.ob, next := st.next + nx, n := st.n } : St).put d (r.ren (backN kl nb st.next))) := by
  refine ⟨h.1, fun gb w0 gr ok0 g ok a w vs hj hrep hargs => ?_⟩
  obtain ⟨k1, k2⟩ := kl_spec hkl
  -- the callee's view; of the base names nothing is asked here
  have hrep0 : Rep (fun _ => none) w0 gr ok0 st g ok a w := ⟨hrep.tm, hrep.obs, hrep.own, hrep.fresh, fun _ _ e => (by cases e), hrep.frm, hrep.df, hrep.n, hrep.okf⟩
  obtain ⟨gc, okc, hr1, hx, hgc, hokc⟩ := hrep0.fz (kL kl) (iL kl) nb k1 k2 (fun _ _ e => (by cases e))
  have hr2 := hr1.weak (st' := mkSt [] O nb st.n) (fun t => AVle.any _) (allO_spec hO) (Nat.le_refl _) rfl
  have hargs' : ∀ (l : List AV) (vs : List Value), RVs w ok g l vs → RVs w okc gc (AV.fzs st.ob (kL kl) l) vs := by
    intro l
    induction l with
    | nil => exact fun vs h => h
    | cons x xs ih => rintro vs ⟨v, us, e, h1, h2⟩; exact ⟨v, us, e, hx x v h1, ih us h2⟩
  have hobs : Obs O gc okc w := hr2.obs
  -- a granted block is that of an object of the caller's that was handed over
  have hgr : ∀ b, grO O gc b → ∃ m mo G, kL kl m ≠ none ∧ look st.ob m = some mo ∧ g m = some G ∧ G.b = some b := by
    rintro b ⟨k, mo, G, hk, hG, hb⟩
    obtain ⟨mo1, hl1, _⟩ := allO_spec hO k mo hk
    obtain ⟨m, p, e1, e2, _⟩ := look_fzOb k1 st.ob k mo1 hl1
    rw [hgc k, (k1 m k).1 e1] at hG
    exact ⟨m, p, G, by rw [e1]; simp, e2, hG, hb⟩
  have hJ : Tabs.J P w ∧ ∀ b, Tabs.tab P b → ¬ grO O gc b := by
    refine ⟨hj.now hrep.frm, fun b hb hg => ?_⟩
    obtain ⟨m, mo, G, _, h2, h3, h4⟩ := hgr b hg
    rcases hrep.own m mo G b h2 h3 h4 with h5 | h5
    · have := Tabs.lt w0 b hj.1 hb; omega
    · exact hj.2 b hb h5
  refine (h.2 w okc gc vs hJ hr2.obs hr2.fresh (ha _ _ _ _ (hargs' l vs hargs))).mono ?_
  rintro e w' ⟨v, g', ok', rfl, hfm, hob, hext, hfr, hv, hown, _⟩
  have hngr : ∀ b, ok b → ¬ grO O gc b := fun b hb hg => by
    obtain ⟨m, mo, G, _, h2, h3, h4⟩ := hgr b hg
    exact (hrep.obs.okb b hb).2 m mo G h2 h3 h4
  have hokw : ∀ b, ok b → w'.heap[b]? = w.heap[b]? := fun b hb => hfm.old b (hrep.obs.okb b hb).1 (hngr b hb)
  let σ := backN kl nb st.next
  let g2 : Nat → Option Gh := fun m => if m < st.next then g m else g' (m - st.next + nb)
  have hlow : ∀ m G, g m = some G → m < st.next := fun m G hm => Nat.lt_of_not_le fun hle => by rw [hrep.fresh m hle] at hm; cases hm
  have hg2 : ∀ m G, g m = some G → g2 m = some G := fun m G hm => by
    show (if _ then _ else _) = _
    rw [if_pos (hlow m G hm)]; exact hm
  have hσ : ∀ k G, g' k = some G → g2 (σ k) = some G := fun k G hk => by
    show g2 (backN kl nb st.next k) = _
    unfold backN
    rcases Nat.lt_or_ge k nb with hlt | hge
    · obtain ⟨mo, hmo⟩ := covB_spec hcov k hlt
      obtain ⟨K, hK, _⟩ := hobs.rel k mo hmo
      have e1 := hext k K hK
      rw [hk] at e1; cases e1
      rw [hgc k] at hK
      cases hi : iL kl k with
      | none => rw [hi] at hK; cases hK
      | some m => rw [hi] at hK; exact hg2 m G hK
    · cases hi : iL kl k with
      | some m => have := k2 m k ((k1 m k).2 hi); omega
      | none =>
        show (if st.next + (k - nb) < st.next then g (st.next + (k - nb)) else g' (st.next + (k - nb) - st.next + nb)) = _
        rw [if_neg (by omega)]
        rw [show st.next + (k - nb) - st.next + nb = k by omega]; exact hk
  have hnew : ∀ m mo', look (renOb σ O') m = some mo' → ∃ k mo G, σ k = m ∧ look O' k = some mo ∧ g' k = some G ∧ g2 m = some G ∧ MRel w' ok g2 G mo' := fun m mo' hm => by
    obtain ⟨k, mo, e1, e2, e3⟩ := look_renOb hm
    obtain ⟨G, hG, hrel⟩ := hob.rel k mo e2
    refine ⟨k, mo, G, e1, e2, hG, by rw [← e1]; exact hσ k G hG, ?_⟩
    rw [e3]; exact hrel.scP hσ (obP_look hO' e2)
  have hold : ∀ m mo, look (delK kl st.ob) m = some mo → ∃ G, look st.ob m = some mo ∧ kL kl m = none ∧ g m = some G ∧ g2 m = some G ∧ MRel w' ok g2 G mo ∧ ∀ b, G.b = some b → b < w.heap.size ∧ ¬ grO O gc b := fun m mo hm => by
    obtain ⟨e1, e2⟩ := look_delK hm
    obtain ⟨G, hG, hrel⟩ := hrep.obs.rel m mo e1
    have hng : ∀ b, G.b = some b → b < w.heap.size ∧ ¬ grO O gc b := fun b hb => by
      refine ⟨hrep.obs.lt m mo G b e1 hG hb, fun hg => ?_⟩
      obtain ⟨m', mo', G', h1, h2, h3, h4⟩ := hgr b hg
      have := hrep.obs.sep m m' mo mo' G G' b e1 h2 hG h3 hb h4
      subst this; exact h1 e2
    exact ⟨G, e1, e2, hG, hg2 m G hG, MRel.mono (fun _ h => h) hokw hg2 (fun b hb => hfm.old b (hng b hb).1 (hng b hb).2) hrel, hng⟩
  have hnewb : ∀ k mo G b, look O' k = some mo → g' k = some G → G.b = some b → w.heap.size ≤ b ∨ grO O gc b := hown
  have core : Rep gb w0 gr ok0 { tm := st.tm, ob := renOb σ O' ++ delK kl st.ob, next := st.next + nx, n := st.n } g2 ok a w' := by
    refine ⟨fun t => RV.mono (fun _ h => h) hokw g g2 hg2 _ _ (hrep.tm t), ⟨fun m mo hm => ?_, fun m m' mo mo' G G' b hm hm' hG hG' hb hb' => ?_, fun b hb => ⟨Nat.lt_of_lt_of_le (hrep.obs.okb b hb).1 hfm.size, fun m mo G hm hG e => ?_⟩, fun m mo G b hm hG hb => ?_⟩,
      fun m mo G b hm hG hb => ?_, fun m hm => ?_, fun m G hm => hg2 m G (hrep.base m G hm), ⟨hfm.os.trans hrep.frm.os, hfm.tape.trans hrep.frm.tape, hfm.output.trans hrep.frm.output, Nat.le_trans hrep.frm.size hfm.size, fun b hb hg => ?_⟩, hrep.df, hrep.n, hrep.okf⟩
    · rcases look_app hm with hm | hm
      · obtain ⟨k, mo1, G, _, _, _, e4, e5⟩ := hnew m mo hm; exact ⟨G, e4, e5⟩
      · obtain ⟨G, _, _, _, e4, e5, _⟩ := hold m mo hm; exact ⟨G, e4, e5⟩
    · rcases look_app hm with hm | hm <;> rcases look_app hm' with hm' | hm'
      · obtain ⟨k, mo1, K, e1, e2, e3, e4, _⟩ := hnew m mo hm
        obtain ⟨k', mo1', K', e1', e2', e3', e4', _⟩ := hnew m' mo' hm'
        rw [hG] at e4; cases e4
        rw [hG'] at e4'; cases e4'
        have := hob.sep k k' mo1 mo1' _ _ b e2 e2' e3 e3' hb hb'
        rw [← e1, ← e1', this]
      · obtain ⟨k, mo1, K, e1, e2, e3, e4, _⟩ := hnew m mo hm
        obtain ⟨K', _, _, _, e4', _, hn'⟩ := hold m' mo' hm'
        rw [hG] at e4; cases e4
        rw [hG'] at e4'; cases e4'
        obtain ⟨n1, n2⟩ := hn' b hb'
        rcases hnewb k mo1 _ b e2 e3 hb with h' | h'
        · omega
        · exact absurd h' n2
      · obtain ⟨k, mo1, K, e1, e2, e3, e4, _⟩ := hnew m' mo' hm'
        obtain ⟨K', _, _, _, e4', _, hn'⟩ := hold m mo hm
        rw [hG'] at e4; cases e4
        rw [hG] at e4'; cases e4'
        obtain ⟨n1, n2⟩ := hn' b hb
        rcases hnewb k mo1 _ b e2 e3 hb' with h' | h'
        · omega
        · exact absurd h' n2
      · obtain ⟨K, a1, _, a3, a4, _, _⟩ := hold m mo hm
        obtain ⟨K', b1, _, b3, b4, _, _⟩ := hold m' mo' hm'
        rw [hG] at a4; cases a4
        rw [hG'] at b4; cases b4
        exact hrep.obs.sep m m' mo mo' _ _ b a1 b1 a3 b3 hb hb'
    · rcases look_app hm with hm | hm
      · obtain ⟨k, mo1, K, e1, e2, e3, e4, _⟩ := hnew m mo hm
        rw [hG] at e4; cases e4
        have := (hrep.obs.okb b hb).1
        rcases hnewb k mo1 _ b e2 e3 e with h' | h'
        · omega
        · exact hngr b hb h'
      · obtain ⟨K, a1, _, a3, a4, _, _⟩ := hold m mo hm
        rw [hG] at a4; cases a4
        exact (hrep.obs.okb b hb).2 m mo _ a1 a3 e
    · rcases look_app hm with hm | hm
      · obtain ⟨k, mo1, K, e1, e2, e3, e4, _⟩ := hnew m mo hm
        rw [hG] at e4; cases e4
        exact hob.lt k mo1 _ b e2 e3 hb
      · obtain ⟨K, a1, _, a3, a4, _, hn⟩ := hold m mo hm
        rw [hG] at a4; cases a4
        exact Nat.lt_of_lt_of_le (hn b hb).1 hfm.size
    · rcases look_app hm with hm | hm
      · obtain ⟨k, mo1, K, e1, e2, e3, e4, _⟩ := hnew m mo hm
        rw [hG] at e4; cases e4
        rcases hnewb k mo1 _ b e2 e3 hb with h' | h'
        · exact .inl (Nat.le_trans hrep.frm.size h')
        · obtain ⟨m0, mo0, G0', _, h2, h3, h4⟩ := hgr b h'
          exact hrep.own m0 mo0 G0' b h2 h3 h4
      · obtain ⟨K, a1, _, a3, a4, _, _⟩ := hold m mo hm
        rw [hG] at a4; cases a4
        exact hrep.own m mo _ b a1 a3 hb
    · show (if _ then _ else _) = none
      have hm' : st.next + nx ≤ m := hm
      rw [if_neg (by omega)]
      exact hfr _ (by omega)
    · rw [hfm.old b (Nat.lt_of_lt_of_le hb hrep.frm.size) fun h' => ?_, hrep.frm.old b hb hg]
      obtain ⟨m0, mo0, G0', _, h2, h3, h4⟩ := hgr b h'
      rcases hrep.own m0 mo0 G0' b h2 h3 h4 with h5 | h5
      · omega
      · exact hg h5
  exact ⟨v, g2, ok, rfl, core.put hd (RV.scn hσ r v hr hv)⟩
end Go.Vw
