/- Vw17: a part of a tool for walks: what a piece of a Go program does, by abstract values. It holds of every program; no condition. -/
import Derived.Test.YtopkjoalbinljaaDoorV16
import Derived.Deep.LoopGhost
set_option linter.unusedVariables false
set_option linter.unusedSimpArgs false
set_option linter.unusedSectionVars false
namespace Go.Vw
open Go

/-- What a piece of code does, from any state in memory that fits. -/
def SW (P : Program) [Tabs P] (nb : Nat) (c : Code) (st : St) (Q : Exit → St → Prop) : Prop :=
  ∀ gb w0 gr ok0 g ok a w, ((∀ m, nb ≤ m → gb m = none) ∧ JJ P w0 gr) → Rep gb w0 gr ok0 st g ok a w →
    c.wp P (fun e a' w' => ∃ st' g' ok', Rep gb w0 gr ok0 st' g' ok' a' w' ∧ Q e st') a w

@[irreducible] def LoopG (P : Program) [Tabs P] (nb : Nat) (b : Code) (st : St) (Q : Exit → St → Prop) : Prop := SW P nb (.loop b) st Q
@[irreducible] def DrawG (P : Program) [Tabs P] (nb : Nat) (ops : Array Oper) (st : St) (next : St → Prop) : Prop := ∀ id, SW P nb (.region id ops true) st fun e st' => match e with | .normal => next st' | _ => False
@[irreducible] def ScopeG (P : Program) [Tabs P] (nb : Nat) (b : Code) (st : St) (Q : Exit → St → Prop) : Prop := SW P nb (.scope b) st Q

def wpS (P : Program) [Tabs P] (nb : Nat) : Code → St → (Exit → St → Prop) → Prop
  | .skip, st, Q => Q .normal st
  | .region _ ops draw, st, Q => (match draw with | true => DrawG P nb ops st (Q .normal) | false => exOps P ops ops.toList st (Q .normal))
  | .seq x y, st, Q => wpS P nb x st fun e st' => match e with | .normal => wpS P nb y st' Q | e => Q e st'
  | .cond c x y, st, Q => (match st.ev c with
    | .bool t => Grd t (wpS P nb x st Q) (wpS P nb y st Q)
    | _ => False)
  | .block id b, st, Q => wpS P nb b st fun e st' => match e with | .exit k => (bif Nat.beq k id then Q .normal st' else Q (.exit k) st') | e => Q e st'
  | .loop b, st, Q => LoopG P nb b st Q
  | .exit id, st, Q => Q (.exit id) st
  | .scope b, st, Q => ScopeG P nb b st Q
  | .ret, st, Q => Q .ret st
  | .label _, st, Q => Q .normal st
  | .goto l, st, Q => Q (.goto l) st
  | _, _, _ => False

theorem wpS_SW {P : Program} [Tabs P] {nb : Nat} : ∀ (c : Code) (st : St) (Q : Exit → St → Prop), wpS P nb c st Q → SW P nb c st Q
  | .skip, st, Q, h => fun gb w0 gr ok0 g ok a w _ hr => wp_skip ⟨st, g, ok, hr, h⟩
  | .region id ops draw, st, Q, h => by
    cases draw with
    | true =>
      have h' : DrawG P nb ops st (Q .normal) := h
      unfold DrawG at h'
      intro gb w0 gr ok0 g ok a w hgb hr
      refine wp_mono (h' id gb w0 gr ok0 g ok a w hgb hr) fun e a' w' ⟨st', g', ok', hr', hq⟩ => ⟨st', g', ok', hr', ?_⟩
      cases e <;> first | exact hq | exact hq.elim
    | false =>
      intro gb w0 gr ok0 g ok a w hgb hr
      have h' : exOps P ops ops.toList st (Q .normal) := h
      exact wp_region_list (exOps_wp hgb.2 ops.toList h' hr fun st' g' ok' a' w' hr' hn => ⟨st', g', ok', hr', hn⟩)
  | .seq x y, st, Q, h => by
    intro gb w0 gr ok0 g ok a w hgb hr
    have h1 := wpS_SW x st _ h gb w0 gr ok0 g ok a w hgb hr
    refine wp_seq (wp_mono h1 fun e a' w' ⟨st', g', ok', hr', hq⟩ => ?_)
    cases e
    case normal => exact wpS_SW y st' Q hq gb w0 gr ok0 g' ok' a' w' hgb hr'
    all_goals exact ⟨st', g', ok', hr', hq⟩
  | .cond c x y, st, Q, h => by
    intro gb w0 gr ok0 g ok a w hgb hr
    unfold wpS at h
    split at h
    · rename_i t ht
      have hv := hr.ev c
      rw [ht] at hv
      simp only [RV] at hv
      refine wp_cond hv ?_
      cases t <;> simp only [Grd] at h
      · exact wpS_SW y st Q h gb w0 gr ok0 g ok a w hgb hr
      · exact wpS_SW x st Q h gb w0 gr ok0 g ok a w hgb hr
    · cases h
  | .block id b, st, Q, h => by
    intro gb w0 gr ok0 g ok a w hgb hr
    have h1 := wpS_SW b st _ h gb w0 gr ok0 g ok a w hgb hr
    refine wp_block (wp_mono h1 fun e a' w' ⟨st', g', ok', hr', hq⟩ => ?_)
    cases e with
    | exit j =>
      simp only [Exit.inBlock]
      cases hb : Nat.beq j id <;> simp only [hb, cond_true, cond_false] at hq
      · rw [if_neg (fun e => by subst e; simp at hb)]; exact ⟨st', g', ok', hr', hq⟩
      · rw [if_pos (Nat.eq_of_beq_eq_true hb)]; exact ⟨st', g', ok', hr', hq⟩
    | normal => exact ⟨st', g', ok', hr', hq⟩
    | goto l => exact ⟨st', g', ok', hr', hq⟩
    | ret => exact ⟨st', g', ok', hr', hq⟩
    | panic ch => exact ⟨st', g', ok', hr', hq⟩
    | outgrown => exact ⟨st', g', ok', hr', hq⟩
  | .loop b, st, Q, h => by
    have h' : LoopG P nb b st Q := h
    unfold LoopG at h'; exact h'
  | .exit id, st, Q, h => fun gb w0 gr ok0 g ok a w _ hr => wp_exit ⟨st, g, ok, hr, h⟩
  | .scope b, st, Q, h => by
    have h' : ScopeG P nb b st Q := h
    unfold ScopeG at h'; exact h'
  | .ret, st, Q, h => fun gb w0 gr ok0 g ok a w _ hr => wp_ret ⟨st, g, ok, hr, h⟩
  | .label _, st, Q, h => fun gb w0 gr ok0 g ok a w _ hr => wp_label ⟨st, g, ok, hr, h⟩
  | .goto l, st, Q, h => fun gb w0 gr ok0 g ok a w _ hr => wp_goto ⟨st, g, ok, hr, h⟩
  | .rangeFunc _ _ _ _, _, _, h => by cases h
  | .refuse _, _, _, h => by cases h

theorem SW.mono {P : Program} [Tabs P] {nb : Nat} {c : Code} {st : St} {Q Q' : Exit → St → Prop} (h : SW P nb c st Q) (hq : ∀ e st', Q e st' → Q' e st') : SW P nb c st Q' :=
  fun gb w0 gr ok0 g ok a w hgb hr => wp_mono (h gb w0 gr ok0 g ok a w hgb hr) fun e a' w' ⟨st', g', ok', hr', k⟩ => ⟨st', g', ok', hr', hq e st' k⟩

/-- A loop: states by a number or a list 'i', each written out; 'm' goes down. -/
theorem LoopG.mkSW {P : Program} [Tabs P] {nb : Nat} {b : Code} {st : St} {Q : Exit → St → Prop} {ι : Type} (R : ι → Prop) (S : ι → List (Nat × AV)) (O : ι → List (Nat × MO)) (nx : Nat) (m : ι → Nat) (i0 : ι)
    (h0 : R i0 ∧ ∃ kl, Ent nb st kl (S i0) (O i0) nx st.n)
    (hr : ∀ i, R i → SW P nb b (mkSt (S i) (O i) nx st.n) fun e st' => match e with | .normal => ∃ i', R i' ∧ m i' < m i ∧ ∃ kl, Ent nb st' kl (S i') (O i') nx st.n | e => Q e st') :
    LoopG P nb b st Q := by
  unfold LoopG
  intro gb w0 gr ok0 g ok a w hgb hrep
  refine wp_loop_ghost (fun k a w => ∃ i g ok, m i = k ∧ R i ∧ Rep gb w0 gr ok0 (mkSt (S i) (O i) nx st.n) g ok a w) (m i0) ?_ ?_
  · obtain ⟨hR, kl, he⟩ := h0
    obtain ⟨g', ok', h'⟩ := he.rep hgb.1 hrep
    exact ⟨i0, g', ok', rfl, hR, h'⟩
  · rintro k a w ⟨i, g, ok, rfl, hR, hrep⟩
    have h1 := hr i hR gb w0 gr ok0 g ok a w hgb hrep
    refine wp_mono h1 fun e a' w' ⟨st', g', ok', hr', hq⟩ => ?_
    cases e with
    | normal =>
      obtain ⟨i', hR', hlt, kl, he⟩ := hq
      obtain ⟨g2, ok2, h2⟩ := he.rep hgb.1 hr'
      exact ⟨m i', hlt, i', g2, ok2, rfl, hR', h2⟩
    | exit j => exact ⟨st', g', ok', hr', hq⟩
    | goto l => exact ⟨st', g', ok', hr', hq⟩
    | ret => exact ⟨st', g', ok', hr', hq⟩
    | panic ch => exact ⟨st', g', ok', hr', hq⟩
    | outgrown => exact ⟨st', g', ok', hr', hq⟩

/-- A loop: states by a number or a list 'i', each written out; 'm' goes down. -/
theorem LoopG.mk {P : Program} [Tabs P] {nb : Nat} {b : Code} {st : St} {Q : Exit → St → Prop} {ι : Type} (R : ι → Prop) (S : ι → List (Nat × AV)) (O : ι → List (Nat × MO)) (nx : Nat) (m : ι → Nat) (i0 : ι)
    (h0 : R i0 ∧ ∃ kl, Ent nb st kl (S i0) (O i0) nx st.n)
    (hr : ∀ i, R i → wpS P nb b (mkSt (S i) (O i) nx st.n) fun e st' => match e with | .normal => ∃ i', R i' ∧ m i' < m i ∧ ∃ kl, Ent nb st' kl (S i') (O i') nx st.n | e => Q e st') :
    LoopG P nb b st Q :=
  LoopG.mkSW R S O nx m i0 h0 fun i hi => wpS_SW b _ _ (hr i hi)

theorem ScopeG.mkSW {P : Program} [Tabs P] {nb : Nat} {b : Code} {st : St} {Q : Exit → St → Prop} (h : SW P nb b st fun e st' => match e with | .goto _ => False | e => Q e st') : ScopeG P nb b st Q := by
  unfold ScopeG
  intro gb w0 gr ok0 g ok a w hgb hr
  refine wp_scope_straight (wp_mono (h gb w0 gr ok0 g ok a w hgb hr) fun e a' w' ⟨st', g', ok', hr', hq⟩ => ?_)
  cases e with
  | goto l => exact hq.elim
  | normal => exact ⟨st', g', ok', hr', hq⟩
  | exit j => exact ⟨st', g', ok', hr', hq⟩
  | ret => exact ⟨st', g', ok', hr', hq⟩
  | panic ch => exact ⟨st', g', ok', hr', hq⟩
  | outgrown => exact ⟨st', g', ok', hr', hq⟩

theorem ScopeG.mk {P : Program} [Tabs P] {nb : Nat} {b : Code} {st : St} {Q : Exit → St → Prop} (h : wpS P nb b st fun e st' => match e with | .goto _ => False | e => Q e st') : ScopeG P nb b st Q := ScopeG.mkSW (wpS_SW b st _ h)

/-- The ways through a piece of code meet again: in a state written out. -/
theorem wpS_cut {P : Program} [Tabs P] {nb : Nat} {x y : Code} {st : St} {Q : Exit → St → Prop} {ι : Type} (R : ι → Prop) (S : ι → List (Nat × AV)) (O : ι → List (Nat × MO)) (nx : Nat)
    (h1 : wpS P nb x st fun e st' => match e with | .normal => ∃ i kl, R i ∧ Ent nb st' kl (S i) (O i) nx st.n | e => Q e st')
    (h2 : ∀ i, R i → wpS P nb y (mkSt (S i) (O i) nx st.n) Q) : SW P nb (.seq x y) st Q := by
  intro gb w0 gr ok0 g ok a w hgb hr
  refine wp_seq (wp_mono (wpS_SW x st _ h1 gb w0 gr ok0 g ok a w hgb hr) fun e a' w' ⟨st', g', ok', hr', hq⟩ => ?_)
  cases e with
  | normal =>
    obtain ⟨i, kl, hR, he⟩ := hq
    obtain ⟨g2, ok2, h3⟩ := he.rep hgb.1 hr'
    exact wpS_SW y _ _ (h2 i hR) gb w0 gr ok0 g2 ok2 a' w' hgb h3
  | exit j => exact ⟨st', g', ok', hr', hq⟩
  | goto l => exact ⟨st', g', ok', hr', hq⟩
  | ret => exact ⟨st', g', ok', hr', hq⟩
  | panic ch => exact ⟨st', g', ok', hr', hq⟩
  | outgrown => exact ⟨st', g', ok', hr', hq⟩

/-- The results, as they stand at the end. -/
def resAV (P : Program) [Tabs P] (st : St) : List ResultVar → Option (List AV)
  | [] => some []
  | .tmp t :: r => match resAV P st r with | some l => some (st.tm t :: l) | none => none
  | .cell t ty :: r => match tyI P ty, st.tm t, resAV P st r with
    | some (ag, n), .bptr m off, some l => (match look st.ob m with
      | some (.box cs) => bif Nat.ble (off + n) cs.length && Nat.ble 1 n then some (cellsAV ag ((cs.drop off).take n) :: l) else none
      | _ => none)
    | _, _, _ => none
def oneOf : List AV → AV
  | [x] => x
  | l => .tup l

theorem oneOf_RV {w : World} {ok : Nat → Prop} {g : Nat → Option Gh} {l : List AV} {vs : List Value} (h : RVs w ok g l vs) : RV w ok g (oneOf l) (if h : vs.toArray.size = 1 then vs.toArray[0] else .tuple vs.toArray) := by
  have hl := h.length
  match l, vs, h with
  | [], [], _ => exact ⟨[], rfl, rfl⟩
  | [x], [v], ⟨_, _, e, h1, _⟩ => cases e; exact h1
  | x :: y :: r, [], h => simp at hl
  | x :: y :: r, [v], h => simp at hl
  | x :: y :: r, v :: u :: us, h => simp only [oneOf]; rw [dif_neg (by simp)]; exact ⟨_, rfl, h⟩
  | [], _ :: _, h => simp at hl
  | [x], [], h => simp at hl
  | [x], _ :: _ :: _, h => simp at hl

def resF (tmps : Array Value) : ResultVar → Sem Value
  | .tmp t => pure (tmps.getD t Go.undef)
  | .cell c t => do loadVar t (← asAddr (tmps.getD c Go.undef))
theorem results_eq (fn : Func) (tmps : Array Value) : results fn tmps = (do let vs ← fn.results.mapM (resF tmps); pure (if h : vs.size = 1 then vs[0] else .tuple vs)) := by
  unfold results
  congr 1

theorem resAV_run {P : Program} [Tabs P] {gb : Nat → Option Gh} {w0 : World} {gr ok0 : Nat → Prop} {st : St} {g : Nat → Option Gh} {ok : Nat → Prop} {a : Act} {w : World} (hr : Rep gb w0 gr ok0 st g ok a w) :
    ∀ (rs : List ResultVar) (l : List AV), resAV P st rs = some l → ∃ vs : List Value, RVs w ok g l vs ∧
      (rs.mapM (resF a.tmps)).run P w = Result.ok vs w
  | [], l, h => by cases h; exact ⟨[], rfl, by simp⟩
  | .tmp t :: r, l, h => by
    simp only [resAV] at h
    split at h <;> cases h
    rename_i l' hl'
    obtain ⟨vs, h1, h2⟩ := resAV_run hr r l' hl'
    exact ⟨_ :: vs, ⟨_, _, rfl, hr.tm t, h1⟩, by simp [List.mapM_cons, resF, h2]⟩
  | .cell t ty :: r, l, h => by
    simp only [resAV] at h
    split at h
    · rename_i ag n m off l' ht hx hl'
      split at h
      · rename_i cs hlk
        cases hz : (Nat.ble (off + n) cs.length && Nat.ble 1 n) <;> simp [hz] at h
        subst h
        simp only [Bool.and_eq_true, Nat.ble_eq] at hz
        obtain ⟨vs, h1, h2⟩ := resAV_run hr r l' hl'
        have hv := hr.tm t
        rw [hx] at hv
        obtain ⟨G, b, hm, hb, hv⟩ := hv
        obtain ⟨b', us, uty, hb', hh, hus⟩ := hr.obr m _ G hlk hm
        rw [hb] at hb'; cases hb'
        have hvl := hus.length
        have hl1 : ((us.drop off).take n).length = n := by simp; omega
        have hld := run_loadVar_cells (P := P) (w := w) (b := b) (off := off) ht hl1 hz.2 (fun j hj => by
          rw [cell_of_row w b _ _ _ _ hh, List.getElem?_take, if_pos hj, List.getElem?_drop]; simp)
        exact ⟨_ :: vs, ⟨_, _, rfl, RV_cells (ag := ag) (hus.drop off |>.take n) (by simp; omega), h1⟩, by simp [List.mapM_cons, resF, hv, asAddr, hld, h2]⟩
      · cases h
    · cases h

/-- The state at a function's entry. -/
def entry (args : List AV) (ob : List (Nat × MO)) (nb n : Nat) : St := { tm := fun t => (args.getD t .undef), ob, next := nb, n }

def Done (P : Program) [Tabs P] (rs : List ResultVar) (r : AV) (e : Exit) (st : St) : Prop :=
  (match e with | .normal => True | .ret => True | _ => False) ∧ match resAV P st rs with | some l => forceL l fun l => AVle ((oneOf l).fz st.ob fun _ => none) r | none => False

theorem VFn.introSW {P : Program} [Tabs P] {F : FuncId} {fn : Func} {c : Code} {args : List AV} {r : AV} (hen : Enters P F) (hf : P.funcs[F]? = some fn) (hb : fn.body = some c) (hn : Nat.ble args.length fn.ntmps = true)
    (h : SW P 0 c (entry args [] 0 fn.ntmps) (Done P fn.results.toList r)) : VFn P F args r := by
  refine ⟨hen, fun w ok vs hJ hok hargs => calls_of_wp hf hb ?_⟩
  have hl := hargs.length
  have hn' := Nat.le_of_ble_eq_true hn
  have hrep : Rep G0 w (fun _ => False) ok (entry args [] 0 fn.ntmps) G0 ok { tmps := vs.toArray ++ Array.replicate (fn.ntmps - vs.toArray.size) Go.undef, defers := [] } w := by
    refine ⟨fun t => ?_, ⟨fun m mo hm => (by cases hm), fun m m' mo mo' G G' b hm => (by cases hm), fun b hb => ⟨hok b hb, fun m mo G hm => (by cases hm)⟩, fun m mo G b hm => (by cases hm)⟩, fun m mo G b hm => (by cases hm), fun _ _ => rfl, fun m G h => h,
      ⟨rfl, rfl, rfl, Nat.le_refl _, fun _ _ _ => rfl⟩, rfl, by simp [entry]; omega, fun b hb => .inl hb⟩
    show RV w ok G0 (args.getD t .undef) _
    by_cases ht : t < args.length
    · obtain ⟨v, h1, h2⟩ := hargs.get t args[t] (List.getElem?_eq_getElem ht)
      have : args.getD t .undef = args[t] := by simp [List.getD, ht]
      rw [this]
      have e : (vs.toArray ++ Array.replicate (fn.ntmps - vs.toArray.size) Go.undef).getD t Go.undef = v := by
        have : t < vs.length := by omega
        simp [Array.getD, this] at h1 ⊢
        rw [if_pos (by omega)]; exact h1
      rw [e]; exact h2
    · have : args.getD t .undef = .undef := by simp [List.getD, List.getElem?_eq_none (Nat.le_of_not_lt ht)]
      rw [this]
      show _ = Go.undef
      simp only [Array.getD_eq_getD_getElem?]
      rw [Array.getElem?_append_right (by simp; omega)]
      rw [Array.getElem?_replicate]
      split <;> rfl
  refine wp_mono (h G0 w (fun _ => False) ok G0 ok _ w ⟨fun _ _ => rfl, hJ, fun _ _ h => h⟩ hrep) ?_
  rintro e a' w' ⟨st', g', ok', hr', he, hres⟩
  have fin : a'.defers = [] ∧ ∃ v, (results fn a'.tmps).run P w' = .ok v w' ∧ ∃ u, Ending.returned v = .returned u ∧ Frm w (fun _ => False) w' ∧ RV w' (fun b => ok b ∨ (w.heap.size ≤ b ∧ b < w'.heap.size)) G0 r u := by
    refine ⟨hr'.df, ?_⟩
    split at hres
    · rename_i l hl
      rw [forceL_eq] at hres
      obtain ⟨us, h1, h2⟩ := resAV_run (P := P) hr' _ l hl
      have hv := oneOf_RV h1
      refine ⟨_, ?_, _, rfl, hr'.frm, hres w' _ G0 _ (RV.fz (g' := G0) (fun b hb => ?_) (fun _ _ _ e => by cases e) hr'.obr (fun m mo G b _ hm hg hb => ?_) _ _ hv)⟩
      · rw [results_eq, Array.mapM_eq_mapM_toList]
        simp [h2]
      · rcases hr'.okf b hb with h' | h' | h'
        · exact .inl h'
        · exact h'.elim
        · exact .inr ⟨h', (hr'.obs.okb b hb).1⟩
      · rcases hr'.own m mo G b hm hg hb with h' | h'
        · exact .inr ⟨h', hr'.obs.lt m mo G b hm hg hb⟩
        · exact h'.elim
    · exact hres.elim
  cases e <;> first | exact fin | exact he.elim
theorem VFn.intro {P : Program} [Tabs P] {F : FuncId} {fn : Func} {c : Code} {args : List AV} {r : AV} (hen : Enters P F) (hf : P.funcs[F]? = some fn) (hb : fn.body = some c) (hn : Nat.ble args.length fn.ntmps = true)
    (h : wpS P 0 c (entry args [] 0 fn.ntmps) (Done P fn.results.toList r)) : VFn P F args r :=
  VFn.introSW hen hf hb hn (wpS_SW c _ _ h)
end Go.Vw
