/- V23: a part of a tool for walks: what a piece of a Go program does, by abstract values. It holds of every program; no condition. -/
import Derived.Test.YtigbaclopbcjnaaGreatDoorV16
import Derived.Deep.LoopGhost
import Derived.StillTail
import Derived.LoopN
import Derived.Deep.Slices
import Derived.ChangeArms
import Derived.ChangeOld
import Derived.OpenShut
set_option linter.unusedVariables false
set_option linter.unusedSimpArgs false
set_option linter.unusedSectionVars false
set_option linter.constructorNameAsVariable false

namespace Go.Vw
open Go
def SW (P : Program) [Tabs P] (nb : Nat) (c : Code) (st : St) (Q : Exit → St → Prop) : Prop :=
 ∀ gb w0 gr ok0 g ok a w, ((∀ m, nb ≤ m → gb m = none) ∧ JJ P w0 gr) → Rep gb w0 gr ok0 st g ok a w →
   c.wp P (fun e a' w' => ∃ st' g' ok', Rep gb w0 gr ok0 st' g' ok' a' w' ∧ Q e st') a w
@[irreducible] def LoopG (P : Program) [Tabs P] (nb : Nat) (b : Code) (st : St) (Q : Exit → St → Prop) : Prop := SW P nb (.loop b) st Q
@[irreducible] def DrawG (P : Program) [Tabs P] (nb : Nat) (ops : Array Oper) (st : St) (next : St → Prop) : Prop := ∀ id, SW P nb (.region id ops true) st fun e st' => match e with | .normal => next st' | _ => False
@[irreducible] def ScopeG (P : Program) [Tabs P] (nb : Nat) (b : Code) (st : St) (Q : Exit → St → Prop) : Prop := SW P nb (.scope b) st Q
def wpS (P : Program) [Tabs P] (nb : Nat) : Code → St → (Exit → St → Prop) → Prop
 | .skip, st, Q => Q .normal st
 | .region _ ops draw, st, Q => (match draw with | true => DrawG P nb ops st (Q .normal) | false => exOps P ops ops.toList st (Q .normal))
 | .seq x y, st, Q => wpS P nb x st fun e st' => match e with | .normal => wpS P nb y st' Q | e => Q e st'
 | .cond c x y, st, Q => (match st.ev c with
   | .bool t => Grd t (wpS P nb x st Q) (wpS P nb y st Q)
   | _ => False)
 | .block id b, st, Q => wpS P nb b st fun e st' => match e with | .exit k => (bif Nat.beq k id then Q .normal st' else Q (.exit k) st') | e => Q e st'
 | .loop b, st, Q => LoopG P nb b st Q
 | .exit id, st, Q => Q (.exit id) st
 | .scope b, st, Q => ScopeG P nb b st Q
 | .ret, st, Q => Q .ret st
 | .label _, st, Q => Q .normal st
 | .goto l, st, Q => Q (.goto l) st
 | _, _, _ => False
theorem wpS_SW {P : Program} [Tabs P] {nb : Nat} : ∀ (c : Code) (st : St) (Q : Exit → St → Prop), wpS P nb c st Q → SW P nb c st Q
 | .skip, st, Q, h => fun gb w0 gr ok0 g ok a w _ hr => wp_skip ⟨st, g, ok, hr, h⟩
 | .region id ops draw, st, Q, h => by
   cases draw with
   | true =>
     have h' : DrawG P nb ops st (Q .normal) := h
     unfold DrawG at h'
     intro gb w0 gr ok0 g ok a w hgb hr
     refine wp_mono (h' id gb w0 gr ok0 g ok a w hgb hr) fun e a' w' ⟨st', g', ok', hr', hq⟩ => ⟨st', g', ok', hr', ?_⟩
     cases e <;> first | exact hq | exact hq.elim
   | false =>
     intro gb w0 gr ok0 g ok a w hgb hr
     have h' : exOps P ops ops.toList st (Q .normal) := h
     exact wp_region_list (exOps_wp hgb.2 ops.toList h' hr fun st' g' ok' a' w' hr' hn => ⟨st', g', ok', hr', hn⟩)
 | .seq x y, st, Q, h => by
   intro gb w0 gr ok0 g ok a w hgb hr
   have h1 := wpS_SW x st _ h gb w0 gr ok0 g ok a w hgb hr
   refine wp_seq (wp_mono h1 fun e a' w' ⟨st', g', ok', hr', hq⟩ => ?_)
   cases e
   case normal => exact wpS_SW y st' Q hq gb w0 gr ok0 g' ok' a' w' hgb hr'
   all_goals exact ⟨st', g', ok', hr', hq⟩
 | .cond c x y, st, Q, h => by
   intro gb w0 gr ok0 g ok a w hgb hr
   unfold wpS at h
   split at h
   · rename_i t ht
     have hv := hr.ev c
     rw [ht] at hv
     simp only [RV] at hv
     refine wp_cond hv ?_
     cases t <;> simp only [Grd] at h
     · exact wpS_SW y st Q h gb w0 gr ok0 g ok a w hgb hr
     · exact wpS_SW x st Q h gb w0 gr ok0 g ok a w hgb hr
   · cases h
 | .block id b, st, Q, h => by
   intro gb w0 gr ok0 g ok a w hgb hr
   have h1 := wpS_SW b st _ h gb w0 gr ok0 g ok a w hgb hr
   refine wp_block (wp_mono h1 fun e a' w' ⟨st', g', ok', hr', hq⟩ => ?_)
   cases e with
   | exit j =>
     simp only [Exit.inBlock]
     cases hb : Nat.beq j id <;> simp only [hb, cond_true, cond_false] at hq
     · rw [if_neg (fun e => by subst e; simp at hb)]; exact ⟨st', g', ok', hr', hq⟩
     · rw [if_pos (Nat.eq_of_beq_eq_true hb)]; exact ⟨st', g', ok', hr', hq⟩
   | normal => exact ⟨st', g', ok', hr', hq⟩
   | goto l => exact ⟨st', g', ok', hr', hq⟩
   | ret => exact ⟨st', g', ok', hr', hq⟩
   | panic ch => exact ⟨st', g', ok', hr', hq⟩
   | outgrown => exact ⟨st', g', ok', hr', hq⟩
 | .loop b, st, Q, h => by
   have h' : LoopG P nb b st Q := h
   unfold LoopG at h'; exact h'
 | .exit id, st, Q, h => fun gb w0 gr ok0 g ok a w _ hr => wp_exit ⟨st, g, ok, hr, h⟩
 | .scope b, st, Q, h => by
   have h' : ScopeG P nb b st Q := h
   unfold ScopeG at h'; exact h'
 | .ret, st, Q, h => fun gb w0 gr ok0 g ok a w _ hr => wp_ret ⟨st, g, ok, hr, h⟩
 | .label _, st, Q, h => fun gb w0 gr ok0 g ok a w _ hr => wp_label ⟨st, g, ok, hr, h⟩
 | .goto l, st, Q, h => fun gb w0 gr ok0 g ok a w _ hr => wp_goto ⟨st, g, ok, hr, h⟩
 | .rangeFunc _ _ _ _, _, _, h => by cases h
 | .refuse _, _, _, h => by cases h
theorem SW.mono {P : Program} [Tabs P] {nb : Nat} {c : Code} {st : St} {Q Q' : Exit → St → Prop} (h : SW P nb c st Q) (hq : ∀ e st', Q e st' → Q' e st') : SW P nb c st Q' :=
 fun gb w0 gr ok0 g ok a w hgb hr => wp_mono (h gb w0 gr ok0 g ok a w hgb hr) fun e a' w' ⟨st', g', ok', hr', k⟩ => ⟨st', g', ok', hr', hq e st' k⟩
theorem LoopG.mkSW {P : Program} [Tabs P] {nb : Nat} {b : Code} {st : St} {Q : Exit → St → Prop} {ι : Type} (R : ι → Prop) (S : ι → List (Nat × AV)) (O : ι → List (Nat × MO)) (nx : Nat) (m : ι → Nat) (i0 : ι)
 (h0 : R i0 ∧ ∃ kl, Ent nb st kl (S i0) (O i0) nx st.n)
 (hr : ∀ i, R i → SW P nb b (mkSt (S i) (O i) nx st.n) fun e st' => match e with | .normal => ∃ i', R i' ∧ m i' < m i ∧ ∃ kl, Ent nb st' kl (S i') (O i') nx st.n | e => Q e st') :
 LoopG P nb b st Q := by
 unfold LoopG
 intro gb w0 gr ok0 g ok a w hgb hrep
 refine wp_loop_ghost (fun k a w => ∃ i g ok, m i = k ∧ R i ∧ Rep gb w0 gr ok0 (mkSt (S i) (O i) nx st.n) g ok a w) (m i0) ?_ ?_
 · obtain ⟨hR, kl, he⟩ := h0
   obtain ⟨g', ok', h'⟩ := he.rep hgb.1 hrep
   exact ⟨i0, g', ok', rfl, hR, h'⟩
 · rintro k a w ⟨i, g, ok, rfl, hR, hrep⟩
   have h1 := hr i hR gb w0 gr ok0 g ok a w hgb hrep
   refine wp_mono h1 fun e a' w' ⟨st', g', ok', hr', hq⟩ => ?_
   cases e with
   | normal =>
     obtain ⟨i', hR', hlt, kl, he⟩ := hq
     obtain ⟨g2, ok2, h2⟩ := he.rep hgb.1 hr'
     exact ⟨m i', hlt, i', g2, ok2, rfl, hR', h2⟩
   | exit j => exact ⟨st', g', ok', hr', hq⟩
   | goto l => exact ⟨st', g', ok', hr', hq⟩
   | ret => exact ⟨st', g', ok', hr', hq⟩
   | panic ch => exact ⟨st', g', ok', hr', hq⟩
   | outgrown => exact ⟨st', g', ok', hr', hq⟩
def resAV (P : Program) [Tabs P] (st : St) : List ResultVar → Option (List AV)
 | [] => some []
 | .tmp t :: r => match resAV P st r with | some l => some (st.tm t :: l) | none => none
 | .cell t ty :: r => match tyI P ty, st.tm t, resAV P st r with
   | some (ag, n), .bptr m off, some l => (match look st.ob m with
     | some (.box cs) => bif Nat.ble (off + n) cs.length && Nat.ble 1 n then some (cellsAV ag ((cs.drop off).take n) :: l) else none
     | _ => none)
   | _, _, _ => none
def oneOf : List AV → AV
 | [x] => x
 | l => .tup l
theorem oneOf_RV {w : World} {ok : Nat → Prop} {g : Nat → Option Gh} {l : List AV} {vs : List Value} (h : RVs w ok g l vs) : RV w ok g (oneOf l) (if h : vs.toArray.size = 1 then vs.toArray[0] else .tuple vs.toArray) := by
 have hl := h.length
 match l, vs, h with
 | [], [], _ => exact ⟨[], rfl, rfl⟩
 | [x], [v], ⟨_, _, e, h1, _⟩ => cases e; exact h1
 | x :: y :: r, [], h => simp at hl
 | x :: y :: r, [v], h => simp at hl
 | x :: y :: r, v :: u :: us, h => simp only [oneOf]; rw [dif_neg (by simp)]; exact ⟨_, rfl, h⟩
 | [], _ :: _, h => simp at hl
 | [x], [], h => simp at hl
 | [x], _ :: _ :: _, h => simp at hl
def resF (tmps : Array Value) : ResultVar → Sem Value
 | .tmp t => pure (tmps.getD t Go.undef)
 | .cell c t => do loadVar t (← asAddr (tmps.getD c Go.undef))
theorem results_eq (fn : Func) (tmps : Array Value) : results fn tmps = (do let vs ← fn.results.mapM (resF tmps); pure (if h : vs.size = 1 then vs[0] else .tuple vs)) := by
 unfold results
 congr 1
theorem resAV_run {P : Program} [Tabs P] {gb : Nat → Option Gh} {w0 : World} {gr ok0 : Nat → Prop} {st : St} {g : Nat → Option Gh} {ok : Nat → Prop} {a : Act} {w : World} (hr : Rep gb w0 gr ok0 st g ok a w) :
 ∀ (rs : List ResultVar) (l : List AV), resAV P st rs = some l → ∃ vs : List Value, RVs w ok g l vs ∧
   (rs.mapM (resF a.tmps)).run P w = Result.ok vs w
 | [], l, h => by cases h; exact ⟨[], rfl, by simp⟩
 | .tmp t :: r, l, h => by
   simp only [resAV] at h
   split at h <;> cases h
   rename_i l' hl'
   obtain ⟨vs, h1, h2⟩ := resAV_run hr r l' hl'
   exact ⟨_ :: vs, ⟨_, _, rfl, hr.tm t, h1⟩, by simp [List.mapM_cons, resF, h2]⟩
 | .cell t ty :: r, l, h => by
   simp only [resAV] at h
   split at h
   · rename_i ag n m off l' ht hx hl'
     split at h
     · rename_i cs hlk
       cases hz : (Nat.ble (off + n) cs.length && Nat.ble 1 n) <;> simp [hz] at h
       subst h
       simp only [Bool.and_eq_true, Nat.ble_eq] at hz
       obtain ⟨vs, h1, h2⟩ := resAV_run hr r l' hl'
       have hv := hr.tm t
       rw [hx] at hv
       obtain ⟨G, b, hm, hb, hv⟩ := hv
       obtain ⟨b', us, uty, hb', hh, hus⟩ := hr.obr m _ G hlk hm
       rw [hb] at hb'; cases hb'
       have hvl := hus.length
       have hl1 : ((us.drop off).take n).length = n := by simp; omega
       have hld := run_loadVar_cells (P := P) (w := w) (b := b) (off := off) ht hl1 hz.2 (fun j hj => by
        rw [cell_of_row w b _ _ _ _ hh, List.getElem?_take, if_pos hj, List.getElem?_drop]; simp)
       exact ⟨_ :: vs, ⟨_, _, rfl, RV_cells (ag := ag) (hus.drop off |>.take n) (by simp; omega), h1⟩, by simp [List.mapM_cons, resF, hv, asAddr, hld, h2]⟩
     · cases h
   · cases h
def entry (args : List AV) (ob : List (Nat × MO)) (nb n : Nat) : St := { tm := fun t => (args.getD t .undef), ob, next := nb, n }
def Done (P : Program) [Tabs P] (rs : List ResultVar) (r : AV) (e : Exit) (st : St) : Prop :=
 (match e with | .normal => True | .ret => True | _ => False) ∧ match resAV P st rs with | some l => forceL l fun l => AVle ((oneOf l).fz st.ob fun _ => none) r | none => False
theorem VFn.introSW {P : Program} [Tabs P] {F : FuncId} {fn : Func} {c : Code} {args : List AV} {r : AV} (hen : Enters P F) (hf : P.funcs[F]? = some fn) (hb : fn.body = some c) (hn : Nat.ble args.length fn.ntmps = true)
 (h : SW P 0 c (entry args [] 0 fn.ntmps) (Done P fn.results.toList r)) : VFn P F args r := by
 refine ⟨hen, fun w ok vs hJ hok hargs => calls_of_wp hf hb ?_⟩
 have hl := hargs.length
 have hn' := Nat.le_of_ble_eq_true hn
 have hrep : Rep G0 w (fun _ => False) ok (entry args [] 0 fn.ntmps) G0 ok { tmps := vs.toArray ++ Array.replicate (fn.ntmps - vs.toArray.size) Go.undef, defers := [] } w := by
  refine ⟨fun t => ?_, ⟨fun m mo hm => (by cases hm), fun m m' mo mo' G G' b hm => (by cases hm), fun b hb => ⟨hok b hb, fun m mo G hm => (by cases hm)⟩, fun m mo G b hm => (by cases hm)⟩, fun m mo G b hm => (by cases hm), fun _ _ => rfl, fun m G h => h,
   ⟨rfl, rfl, rfl, Nat.le_refl _, fun _ _ _ => rfl⟩, rfl, by simp [entry]; omega, fun b hb => .inl hb⟩
  show RV w ok G0 (args.getD t .undef) _
  by_cases ht : t < args.length
  · obtain ⟨v, h1, h2⟩ := hargs.get t args[t] (List.getElem?_eq_getElem ht)
    have : args.getD t .undef = args[t] := by simp [List.getD, ht]
    rw [this]
    have e : (vs.toArray ++ Array.replicate (fn.ntmps - vs.toArray.size) Go.undef).getD t Go.undef = v := by
     have : t < vs.length := by omega
     simp [Array.getD, this] at h1 ⊢
     rw [if_pos (by omega)]; exact h1
    rw [e]; exact h2
  · have : args.getD t .undef = .undef := by simp [List.getD, List.getElem?_eq_none (Nat.le_of_not_lt ht)]
    rw [this]
    show _ = Go.undef
    simp only [Array.getD_eq_getD_getElem?]
    rw [Array.getElem?_append_right (by simp; omega)]
    rw [Array.getElem?_replicate]
    split <;> rfl
 refine wp_mono (h G0 w (fun _ => False) ok G0 ok _ w ⟨fun _ _ => rfl, hJ, fun _ _ h => h⟩ hrep) ?_
 rintro e a' w' ⟨st', g', ok', hr', he, hres⟩
 have fin : a'.defers = [] ∧ ∃ v, (results fn a'.tmps).run P w' = .ok v w' ∧ ∃ u, Ending.returned v = .returned u ∧ Frm w (fun _ => False) w' ∧ RV w' (fun b => ok b ∨ (w.heap.size ≤ b ∧ b < w'.heap.size)) G0 r u := by
  refine ⟨hr'.df, ?_⟩
  split at hres
  · rename_i l hl
    rw [forceL_eq] at hres
    obtain ⟨us, h1, h2⟩ := resAV_run (P := P) hr' _ l hl
    have hv := oneOf_RV h1
    refine ⟨_, ?_, _, rfl, hr'.frm, hres w' _ G0 _ (RV.fz (g' := G0) (fun b hb => ?_) (fun _ _ _ e => by cases e) hr'.obr (fun m mo G b _ hm hg hb => ?_) _ _ hv)⟩
    · rw [results_eq, Array.mapM_eq_mapM_toList]
      simp [h2]
    · rcases hr'.okf b hb with h' | h' | h'
      · exact .inl h'
      · exact h'.elim
      · exact .inr ⟨h', (hr'.obs.okb b hb).1⟩
    · rcases hr'.own m mo G b hm hg hb with h' | h'
      · exact .inr ⟨h', hr'.obs.lt m mo G b hm hg hb⟩
      · exact h'.elim
  · exact hres.elim
 cases e <;> first | exact fin | exact he.elim
end Go.Vw

namespace Go.Vw
open Go
def PureCall (P : Program) [Tabs P] (F : FuncId) (l : List AV) (ob : List (Nat × MO)) (r : AV) : Prop :=
 (VFn P F (AV.fzs ob (fun _ => none) l) r ∧ r.sca = true) ∨ (VFn P F l r ∧ AV.nls l = true)
def OwnCall (P : Program) [Tabs P] (F : FuncId) (l : List AV) (ob : List (Nat × MO)) (nm : Nat) (r : AV) (mo : MO) : Prop :=
 Enters P F ∧ ∀ w ok vs, Tabs.J P w → (∀ b, ok b → b < w.heap.size) → RVs w ok G0 (AV.fzs ob (fun _ => none) l) vs → Calls P F vs.toArray w fun e w' => ∃ v G, e = .returned v ∧ Frm w (fun _ => False) w' ∧
  (∀ b, G.b = some b → w.heap.size ≤ b ∧ b < w'.heap.size) ∧ ∀ ok' g, MRel w' ok' (gset g nm G) G mo ∧ RV w' ok' (gset g nm G) r v
def wantedS (all : Array Oper) (st : St) (o : Oper) : Option Bool :=
 match o.guard with
 | none => some true
 | some (j, want) => match (all[j]?).bind (·.dst) with
   | some t => (match Nat.blt t st.n with | true => (match st.tm t with | .bool c => some (c == want) | .undef => some false | _ => none) | false => none)
   | none => none
inductive PAct (P : Program) [Tabs P] (nm : Nat) (o : Oper) (st : St) : St → Prop
 | pas (p : PO) (h : pas P st.ev (look st.ob) nm o.op = some p) (hpre : ∀ q, p.pre = some q → q) :
  PAct P nm o st (match p.mo with | none => st.put o.dst p.r | some mo => ({ st with ob := (nm, mo) :: st.ob } : St).put o.dst p.r)
 | call (f : Operand) (args : Array Operand) (tys : Array TypeId) (F : FuncId) (xs ys : List AV) (r : AV) (hop : o.op = .call ⟨.value f, args, tys⟩) (hf : st.ev f = .fn (.func F) xs ys)
  (h : PureCall P F (xs ++ (args.toList.map st.ev ++ ys)) st.ob r) : PAct P nm o st (st.put o.dst r)
 | ownc (f : Operand) (args : Array Operand) (tys : Array TypeId) (F : FuncId) (xs ys : List AV) (r : AV) (mo : MO) (hop : o.op = .call ⟨.value f, args, tys⟩) (hf : st.ev f = .fn (.func F) xs ys)
  (h : OwnCall P F (xs ++ (args.toList.map st.ev ++ ys)) st.ob nm r mo) : PAct P nm o st (({ st with ob := (nm, mo) :: st.ob } : St).put o.dst r)
def PStep (P : Program) [Tabs P] (all : Array Oper) (nm : Nat) (o : Oper) (st st' : St) : Prop :=
 dstOK o.dst st.n = true ∧ ((wantedS all st o = some false ∧ st' = st.put o.dst .undef) ∨ (wantedS all st o = some true ∧ PAct P nm o st st'))
def readsOf (all : Array Oper) (o : Oper) : List Tmp :=
 (o.op.operands.toList.filterMap fun | .tmp t => some t | _ => none) ++ (match o.guard with | some (j, _) => ((all[j]?).bind (·.dst)).toList | none => [])
def dstAt (all : Array Oper) (i : Nat) : Option Tmp := (all[i]?).bind (·.dst)
def tempsB (all : Array Oper) (n : Nat) : Bool :=
 (List.range n).all fun i => (List.range n).all fun j => Nat.beq i j || (match dstAt all j with
  | none => true
  | some t => !(dstAt all i == some t) && (!(((all[i]?).map (readsOf all)).getD []).contains t || (if j < i then Region.waitsFor .any all i j else Region.waitsFor .any all j i)))
def backB (all : Array Oper) (n : Nat) : Bool :=
 (List.range n).all fun i => match all[i]? with | some o => o.after.all fun e => !Region.binds .any e || Nat.blt e.on i | none => false
def firstN (n m : Nat) : Array Bool := ((List.range m).map fun i => Nat.blt i n).toArray
def drawOK (all : Array Oper) (n : Nat) : Bool :=
 (Nat.ble n all.size && tempsB all n) && (backB all n && ((Nat.beq n all.size || (Region.sinkB .any all n && Region.chainB .any all n)) && Region.seqB .any all (all.size - n) n (firstN n all.size)))
theorem tempsB_spec {all : Array Oper} {n : Nat} (h : tempsB all n = true) {i j t : Nat} (hi : i < n) (hj : j < n) (hne : i ≠ j) (hd : dstAt all j = some t) :
 dstAt all i ≠ some t ∧ ∀ o, all[i]? = some o → t ∈ readsOf all o → (j < i → Region.waitsFor .any all i j = true) ∧ (i < j → Region.waitsFor .any all j i = true) := by
 have h1 := List.all_eq_true.1 (List.all_eq_true.1 h i (List.mem_range.2 hi)) j (List.mem_range.2 hj)
 have hb : Nat.beq i j = false := by
  cases hb : Nat.beq i j
  · rfl
  · exact absurd (Nat.eq_of_beq_eq_true hb) hne
 simp only [hb, Bool.false_or, hd, Bool.and_eq_true, Bool.not_eq_true', Bool.or_eq_true] at h1
 refine ⟨fun e => by simp [e] at h1, fun o ho ht => ?_⟩
 have h2 : Region.waitsFor .any all i j = true ∧ j < i ∨ Region.waitsFor .any all j i = true ∧ ¬ j < i := by
  rcases h1.2 with h2 | h2
  · simp [ho, ht] at h2
  · split at h2
    · exact .inl ⟨h2, ‹_›⟩
    · exact .inr ⟨h2, ‹_›⟩
 rcases h2 with ⟨h2, h3⟩ | ⟨h2, h3⟩
 · exact ⟨fun _ => h2, fun h => by omega⟩
 · exact ⟨fun h => absurd h h3, fun _ => h2⟩
theorem pas_congr {P : Program} [Tabs P] {ev ev' : Operand → AV} {lk : Nat → Option MO} {nm : Nat} {op : Op} (h : ∀ x ∈ op.operands, ev x = ev' x) : pas P ev lk nm op = pas P ev' lk nm op := by
 cases op with
 | call c =>
   obtain ⟨callee, args, tys⟩ := c
   have hargs : ∀ x ∈ args.toList, ev x = ev' x := fun x hx => h x (by simp [Op.operands, Call.operands]; exact .inr (by simpa using hx))
   cases callee with
   | builtin b =>
     cases b <;> simp only [pas]
     all_goals
      split <;> first | rfl | skip
      all_goals
       rename_i hl
       rw [hl] at hargs
       simp only [List.mem_cons, List.not_mem_nil, or_false, forall_eq_or_imp, forall_eq] at hargs
       simp [hargs]
   | value f => rfl
   | invoke r m => rfl
 | slice t x lo hi mx =>
   simp only [Op.operands] at h
   cases mx <;> simp only [pas]
   rw [h x (by simp)]
   have e1 : lo.map ev = lo.map ev' := by cases lo <;> simp [h]
   have e2 : hi.map ev = hi.map ev' := by cases hi <;> simp [h]
   split
   · cases lo with
     | none => rfl
     | some lo => simp only; rw [e2, h lo (by simp)]
   · rw [e1, e2]
 | build t ps =>
   have : (ps.toList.map fun p => (p.1, ev p.2)) = ps.toList.map fun p => (p.1, ev' p.2) := List.map_congr_left fun p hp => by
    rw [h p.2 (by simp [Op.operands]; exact ⟨p.1, by simpa using hp⟩)]
   simp only [pas, this]
 | buildSlice t n ps =>
   have : (ps.toList.map fun p => (p.1, ev p.2)) = ps.toList.map fun p => (p.1, ev' p.2) := List.map_congr_left fun p hp => by
    rw [h p.2 (by simp [Op.operands]; exact ⟨p.1, by simpa using hp⟩)]
   simp only [pas, this]
 | makeFunc f xs ys =>
   have h1 : xs.toList.map ev = xs.toList.map ev' := List.map_congr_left fun x hx => h x (by simp [Op.operands]; exact .inl (by simpa using hx))
   have h2 : ys.toList.map ev = ys.toList.map ev' := List.map_congr_left fun x hx => h x (by simp [Op.operands]; exact .inr (by simpa using hx))
   simp only [pas, h1, h2]
 | unOp op t x => cases op <;> simp only [pas, h x (by simp [Op.operands])]
 | lookup t x i c => cases c <;> simp only [pas, h x (by simp [Op.operands]), h i (by simp [Op.operands])]
 | makeMap t r => cases r <;> rfl
 | _ => first | rfl | (simp only [Op.operands] at h; simp [pas, h])
end Go.Vw

namespace Go.Vw
open Go
section
variable {P : Program} [Tabs P] {all : Array Oper} {n base : Nat} {s : Nat → St}
structure Road (P : Program) [Tabs P] (all : Array Oper) (n base : Nat) (s : Nat → St) : Prop where
 step : ∀ k, k < n → ∃ o, all[k]? = some o ∧ PStep P all (base + k) o (s k) (s (k + 1))
 temps : tempsB all n = true
 back : backB all n = true
 bas : (s 0).next = base
 noob : ∀ m, base ≤ m → look (s 0).ob m = none
variable (hR : Road P all n base s)
include hR
omit hR in
open Classical in
noncomputable def tmD (all : Array Oper) (n : Nat) (s : Nat → St) (listed : Array Bool) (t : Nat) : AV :=
 if ∃ j, j < n ∧ listed.getD j false = true ∧ dstAt all j = some t then (s n).tm t else (s 0).tm t
variable {gb : Nat → Option Gh} {w0 : World} {gr ok0 : Nat → Prop}
omit hR in
theorem getD_set {listed : Array Bool} {i j : Nat} (hi : i < listed.size) : (listed.setIfInBounds i true).getD j false = true ↔ j = i ∨ listed.getD j false = true := by
 by_cases h : i = j
 · subst h; simp [hi]
 · rw [getD_set_ne false h]
   constructor
   · exact .inr
   · rintro (h' | h')
     · exact absurd h'.symm h
     · exact h'
end
end Go.Vw

namespace Go.Vw
open Go
theorem getD_true_set {listed : Array Bool} {i j : Nat} (h : i ≠ j) : (listed.setIfInBounds i true).getD j true = listed.getD j true := getD_set_ne true h
theorem countP_less {p q : Nat → Bool} : ∀ (l : List Nat) (i : Nat), l.Nodup → i ∈ l → p i = true → q i = false → (∀ j, j ∈ l → j ≠ i → q j = p j) → l.countP p = l.countP q + 1
 | x :: r, i, hnd, hi, hp, hq, h => by
   rw [List.nodup_cons] at hnd
   rw [List.countP_cons, List.countP_cons]
   by_cases e : x = i
   · subst e
     have : r.countP p = r.countP q := List.countP_congr fun j hj => by rw [h j (.tail _ hj) (fun e => by subst e; exact hnd.1 hj)]
     simp [hp, hq, this]
   · have hi' : i ∈ r := by rcases List.mem_cons.1 hi with h' | h'; exact absurd h'.symm e; exact h'
     rw [countP_less r i hnd.2 hi' hp hq fun j hj => h j (.tail _ hj), h x (List.mem_cons_self ..) e]
     omega
section
variable {P : Program} [Tabs P] {all : Array Oper} {n base : Nat} {s : Nat → St} {gb : Nat → Option Gh} {w0 : World} {gr ok0 : Nat → Prop}
theorem Rep.drawn {st : St} {g : Nat → Option Gh} {ok : Nat → Prop} {a : Act} {w : World} (h : Rep gb w0 gr ok0 st g ok a w) : Rep gb w0 gr ok0 st g ok a { w with drawn := w.drawn + 1 } := h.drew
theorem firstN_eq {listed : Array Bool} {m : Nat} (hs : listed.size = m) (h1 : ∀ i, i < n → listed.getD i true = true) (h2 : ∀ t, n ≤ t → t < m → listed.getD t true = false) (hn : n ≤ m) : listed = firstN n m := by
 unfold firstN
 apply Array.ext
 · simp [hs]
 · intro i hi hi2
   have hg : listed[i] = listed.getD i true := by simp [Array.getD, hi]
   simp only [List.getElem_toArray, List.getElem_map, List.getElem_range]
   rw [hg]
   rcases Nat.lt_or_ge i n with h | h
   · rw [h1 i h]; exact (Nat.ble_eq_true_of_le h).symm
   · rw [h2 i h (by omega)]
     cases hb : Nat.blt i n
     · rfl
     · have := Nat.le_of_ble_eq_true hb; omega
end
end Go.Vw

namespace Go.Vw
open Go
end Go.Vw
namespace Go.Vw
open Go
theorem inI64 {n : Int} (h1 : -9223372036854775808 ≤ n) (h2 : n ≤ 9223372036854775807) : inI .i64 n := ⟨h1, h2⟩
theorem VFn.weak {P : Program} [Tabs P] {F : FuncId} {as bs : List AV} {r q : AV} (h : VFn P F bs r) (ha : AVsle as bs) (hr : AVle r q) : VFn P F as q := by
 refine ⟨h.1, fun w ok vs hJ hok hv => ?_⟩
 refine (h.2 w ok vs hJ hok (ha w ok G0 vs hv)).mono ?_
 rintro e w' ⟨v, e1, e2, e3⟩
 exact ⟨v, e1, e2, hr w' _ G0 v e3⟩
theorem AVle.sl1 {sz : Nat} {r1 r2 : Nat → List AV} (h : r1 0 = r2 0) : AVle (.sl sz 1 r1) (.sl sz 1 r2) := AVle.sl rfl fun i hi => by
 have : i = 0 := by omega
 subst this; exact h
theorem all1 {r : Nat → List AV} (h : (r 0).all AV.one = true) : ∀ i, i < 1 → (r i).all AV.one = true := fun i hi => by
 have : i = 0 := by omega
 subst this; exact h
theorem blt_t {k i : Nat} (h : k < i) : Nat.blt k i = true := Nat.ble_eq_true_of_le h
theorem blt_f {k i : Nat} (h : i ≤ k) : Nat.blt k i = false := by
 cases hc : Nat.blt k i
 · rfl
 · have := Nat.le_of_ble_eq_true hc; omega
theorem beq_t (k : Nat) : Nat.beq k k = true := by simp
theorem beq_f {k i : Nat} (h : k ≠ i) : Nat.beq k i = false := by
 cases hc : Nat.beq k i
 · rfl
 · exact absurd (Nat.eq_of_beq_eq_true hc) h
end Go.Vw

namespace Go.Vw
open Go
section
variable {H : Type} {enc : TypeId × Value → H} {P : Program} {w : World}
def Rd (enc : TypeId × Value → H) (P : Program) (w : World) (t : TypeId) (F : List AV → Prop) : Prop :=
 ∀ fuel cs x, DataW.trod enc P w 0 (fun _ => true) true fuel t cs = some x → ∃ as, F as ∧ RVs w (fun b => b < w.heap.size) G0 as cs
theorem Rd.weak {t : TypeId} {F F' : List AV → Prop} (h : Rd enc P w t F) (hF : ∀ as, F as → F' as) : Rd enc P w t F' := fun fuel cs x hx =>
 let ⟨as, h1, h2⟩ := h fuel cs x hx
 ⟨as, hF as h1, h2⟩
theorem Rd.le {t : TypeId} {F F' : List AV → Prop} (h : Rd enc P w t F) (hF : ∀ xs, F xs → ∃ ys, F' ys ∧ AVsle xs ys) : Rd enc P w t F' := fun fuel cs x hx =>
 let ⟨xs, h1, h2⟩ := h fuel cs x hx
 let ⟨ys, h3, h4⟩ := hF xs h1
 ⟨ys, h3, h4 _ _ _ _ h2⟩
theorem Rd.int {t : TypeId} {k : IntKind} (ht : P.underlying t = some (.int k)) : Rd enc P w t (fun as => ∃ n, as = [.int k n] ∧ k.min ≤ n ∧ n ≤ k.max) := fun fuel cs x hx => by
 obtain ⟨n, rfl, _, hw⟩ := DataW.trod_int ht hx
 refine ⟨[.int k n], ⟨n, rfl, ?_⟩, ⟨_, _, rfl, rfl, rfl⟩⟩
 simpa [Lit.wf] using hw
theorem Rd.bool {t : TypeId} (ht : P.underlying t = some .bool) : Rd enc P w t (fun as => ∃ b, as = [.bool b]) := fun fuel cs x hx => by
 obtain ⟨b, rfl, _⟩ := DataW.trod_bool ht hx
 exact ⟨[.bool b], ⟨b, rfl⟩, ⟨_, _, rfl, rfl, rfl⟩⟩
theorem Rd.slice {t e : TypeId} {sz : Nat} {F : List AV → Prop} (ht : P.underlying t = some (.slice e)) (hC : P.cellsOf e = sz) (hsz : 1 ≤ sz) (he : Rd enc P w e F) :
 Rd enc P w t (fun as => ∃ n rows, as = [.sl sz n rows] ∧ n ≤ maxLen ∧ ∀ i, i < n → F (rows i)) := fun fuel cs x hx => by
 rcases Go.Deep.open_slice ht hx with ⟨rfl, _⟩ | ⟨a, len, cap, m, k, D, Pl, rfl, _, hl, hm, hmm, _, hi⟩
 · exact ⟨[.sl sz 0 fun _ => []], ⟨0, _, rfl, Nat.zero_le _, fun i hi => by omega⟩, ⟨_, _, rfl, ⟨none, 0, rfl, Nat.le_refl _, .inl rfl⟩, rfl⟩⟩
 · simp only [if_true] at hmm
   subst hmm
   have hex : ∀ i, i < len → ∃ as cs', F as ∧ w.cells? 0 (a.add (i * sz)) sz = some cs' ∧ RVs w (fun b => b < w.heap.size) G0 as cs' := fun i hil => by
    obtain ⟨cs', h1, h2⟩ := hi i (by omega)
    rw [hC] at h1
    obtain ⟨as, h3, h4⟩ := he _ _ _ h2
    exact ⟨as, cs', h3, h1, h4⟩
   let rows : Nat → List AV := fun i => if h : i < len then (hex i h).choose else []
   have hrows : ∀ i, i < len → ∃ cs', F (rows i) ∧ w.cells? 0 (a.add (i * sz)) sz = some cs' ∧ RVs w (fun b => b < w.heap.size) G0 (rows i) cs' := fun i h => by
    simp only [rows, h, dif_pos]; exact (hex i h).choose_spec
   refine ⟨[.sl sz len rows], ⟨len, rows, rfl, Nat.le_trans hl hm, fun i h => (hrows i h).choose_spec.1⟩, ⟨_, _, rfl, ⟨some a, m, rfl, hl, ?_⟩, rfl⟩⟩
   rcases Nat.eq_zero_or_pos len with h0 | hpos
   · exact .inl h0
   · right
     obtain ⟨cs0, _, hc0, _⟩ := hrows 0 hpos
     obtain ⟨_, hl0, hat0⟩ := World.cells?_some hc0
     have hcell0 : w.cell? ((a.add (0 * sz)).add 0) = cs0[0]? := hat0 0 (by omega)
     obtain ⟨b, o, spot⟩ := a
     have hs0 : cs0[0]? = some (cs0[0]'(by omega)) := List.getElem?_eq_getElem (by omega)
     rw [hs0] at hcell0
     have hspot : spot = none := by simpa [Addr.add] using World.cell?_spot hcell0
     subst hspot
     have hblt : b < w.heap.size := by
      rcases Nat.lt_or_ge b w.heap.size with h | h
      · exact h
      · have hb : w.heap[b]? = none := by simp [h]
        simp [World.cell?, Addr.add, hb] at hcell0
     refine ⟨b, o, rfl, hblt, fun i h => ?_⟩
     obtain ⟨cs', _, hc, hr⟩ := hrows i h
     obtain ⟨_, hl', hat⟩ := World.cells?_some hc
     refine ⟨cs', hl', hr, fun j hj => ?_⟩
     have := hat j hj
     rw [add_off, add_off] at this
     rw [← this, Nat.add_assoc]
def FF : List (List AV → Prop) → List AV → Prop
 | [], as => as = []
 | F :: Fs, as => ∃ a b, as = a ++ b ∧ F a ∧ FF Fs b
theorem Rd.arg1 {t : TypeId} {F : List AV → Prop} {v : Value} {d : DataW H} {p : List MemPlace} (h : Rd enc P w t F) (hd : DataW.Trod enc P w 0 (fun _ => true) true t v d p) :
 ∃ as, F as ∧ RVs w (fun b => b < w.heap.size) G0 as v.cells.toList := by
 obtain ⟨fuel, hf⟩ := hd
 exact h fuel _ _ hf
theorem arg_one {a : AV} {v : Value} (hv : ∀ cs, v ≠ .agg cs) {ok : Nat → Prop} (h : RVs w ok G0 [a] v.cells.toList) : RV w ok G0 a v := by
 obtain ⟨x, us, e, h1, h2⟩ := h
 have : v.cells = #[v] := by cases v <;> first | rfl | exact absurd rfl (hv _)
 rw [this] at e
 simp at e
 rw [e.1]; exact h1
theorem Frm.below {w' : World} (h : Frm w (fun _ => False) w') : Go.RowKit.Below w.heap.size w w' := ⟨h.os, h.tape, h.output, h.size, fun k hk => h.old k hk (fun h => h)⟩
end
end Go.Vw

namespace Go.Vw
open Go
mutual
def AV.ren (σ : Nat → Nat) : AV → AV
 | .osl m => .osl (σ m)
 | .bptr m off => .bptr (σ m) off
 | .aptr m sz i off => .aptr (σ m) sz i off
 | .vw m sz i n => .vw (σ m) sz i n
 | .omap m => .omap (σ m)
 | .agg cs => .agg (AV.rens σ cs)
 | .tup cs => .tup (AV.rens σ cs)
 | .iface t x => .iface t (AV.ren σ x)
 | .fn f xs ys => .fn f (AV.rens σ xs) (AV.rens σ ys)
 | .any => .any
 | .int k n => .int k n
 | .bool b => .bool b
 | .str s => .str s
 | .nilsl => .nilsl
 | .sl sz n rows => .sl sz n rows
 | .eptr row off => .eptr row off
 | .nilptr => .nilptr
 | .niliface => .niliface
 | .nilfn => .nilfn
 | .undef => .undef
 | .lo => .lo
def AV.rens (σ : Nat → Nat) : List AV → List AV
 | [] => []
 | c :: cs => AV.ren σ c :: AV.rens σ cs
end
mutual
def AV.scn : AV → Bool
 | .sl _ _ _ | .eptr _ _ => false
 | .agg cs => AV.scns cs
 | .tup cs => AV.scns cs
 | .iface _ x => AV.scn x
 | .fn _ xs ys => AV.scns xs && AV.scns ys
 | .osl _ | .bptr _ _ | .aptr _ _ _ _ | .vw _ _ _ _ | .omap _ | .any | .int _ _ | .bool _ | .str _ | .nilsl | .nilptr | .niliface | .nilfn | .undef | .lo => true
def AV.scns : List AV → Bool
 | [] => true
 | c :: cs => AV.scn c && AV.scns cs
end
section
variable {w w' : World} {ok ok' : Nat → Prop} {g g' : Nat → Option Gh} {σ : Nat → Nat}
mutual
theorem RV.scn (hg : ∀ m G, g m = some G → g' (σ m) = some G) : ∀ (x : AV) (v : Value), x.scn = true → RV w ok g x v → RV w' ok' g' (x.ren σ) v
 | .any, _, _, _ => trivial
 | .int _ _, _, _, h => h
 | .bool _, _, _, h => h
 | .str _, _, _, h => h
 | .agg cs, _, hn, ⟨vs, e, h⟩ => ⟨vs, e, RVs.scn hg cs vs hn h⟩
 | .tup cs, _, hn, ⟨vs, e, h⟩ => ⟨vs, e, RVs.scn hg cs vs hn h⟩
 | .nilsl, _, _, h => h
 | .sl _ _ _, _, hn, _ => by cases hn
 | .osl m, _, _, ⟨G, hm, e⟩ => ⟨G, hg m G hm, e⟩
 | .eptr _ _, _, hn, _ => by cases hn
 | .bptr m off, _, _, ⟨G, b, hm, hb, e⟩ => ⟨G, b, hg m G hm, hb, e⟩
 | .aptr m sz i off, _, _, ⟨G, b, hm, hb, e⟩ => ⟨G, b, hg m G hm, hb, e⟩
 | .vw m sz i n, _, _, ⟨G, hm, hb, e⟩ => ⟨G, hg m G hm, hb, e⟩
 | .nilptr, _, _, h => h
 | .iface _ x, _, hn, ⟨u, e, h⟩ => ⟨u, e, RV.scn hg x u hn h⟩
 | .niliface, _, _, h => h
 | .fn _ xs ys, _, hn, ⟨us, vs, e, h1, h2⟩ => by
   have hn' : (AV.scns xs && AV.scns ys) = true := hn
   rw [Bool.and_eq_true] at hn'
   exact ⟨us, vs, e, RVs.scn hg xs us hn'.1 h1, RVs.scn hg ys vs hn'.2 h2⟩
 | .nilfn, _, _, h => h
 | .omap m, _, _, ⟨G, b, hm, hb, e⟩ => ⟨G, b, hg m G hm, hb, e⟩
 | .undef, _, _, h => h
 | .lo, _, _, h => h
theorem RVs.scn (hg : ∀ m G, g m = some G → g' (σ m) = some G) : ∀ (xs : List AV) (vs : List Value), AV.scns xs = true → RVs w ok g xs vs → RVs w' ok' g' (AV.rens σ xs) vs
 | [], _, _, h => h
 | x :: xs, _, hn, ⟨v, us, e, h1, h2⟩ => by
   have hn' : (AV.scn x && AV.scns xs) = true := hn
   rw [Bool.and_eq_true] at hn'
   exact ⟨v, us, e, RV.scn hg x v hn'.1 h1, RVs.scn hg xs us hn'.2 h2⟩
end
end
def MO.ren (σ : Nat → Nat) : MO → MO
 | .box cs => .box (AV.rens σ cs)
 | o => o
def MO.scP : MO → Prop
 | .box cs => AV.scns cs = true
 | .arr _ _ n rows => ∀ i, i < n → AV.scas (rows i) = true
 | .arrc _ _ _ _ _ => False
 | _ => True
def obP : List (Nat × MO) → Prop
 | [] => True
 | (_, o) :: r => o.scP ∧ obP r
theorem obP_look : ∀ {O : List (Nat × MO)} {k : Nat} {mo : MO}, obP O → look O k = some mo → mo.scP
 | (j, o) :: r, k, mo, h, hl => by
   rw [look_cons] at hl
   split at hl
   · cases hl; exact h.1
   · exact obP_look h.2 hl
theorem MRel.scP {w : World} {ok ok' : Nat → Prop} {g g' : Nat → Option Gh} {σ : Nat → Nat} {G : Gh} {mo : MO} (hg : ∀ m G, g m = some G → g' (σ m) = some G) (hs : mo.scP) (h : MRel w ok g G mo) : MRel w ok' g' G (mo.ren σ) := by
 cases mo with
 | box cs =>
   obtain ⟨b, vs, ty, h1, h2, h3⟩ := h
   exact ⟨b, vs, ty, h1, h2, RVs.scn hg cs vs hs h3⟩
 | arr e sz n rows =>
   obtain ⟨h0, h⟩ := h
   refine ⟨h0, h.imp id fun ⟨b, cur, h1, h2, h3, h4, h5, h6⟩ => ⟨b, cur, h1, h2, h3, h4, h5, fun i hi => ?_⟩⟩
   obtain ⟨vs, k1, k2, k3⟩ := h6 i hi
   exact ⟨vs, k1, RVs.sca _ _ (hs i hi) k2, k3⟩
 | arrc e sz n c rows => exact hs.elim
 | imap ks => exact h
 | smap ks => exact h
def renOb (σ : Nat → Nat) : List (Nat × MO) → List (Nat × MO)
 | [] => []
 | (k, o) :: r => (σ k, o.ren σ) :: renOb σ r
def delK (kl : List (Nat × Nat)) : List (Nat × MO) → List (Nat × MO)
 | [] => []
 | (m, o) :: r => match kL kl m with | some _ => delK kl r | none => (m, o) :: delK kl r
theorem look_renOb {σ : Nat → Nat} : ∀ {O : List (Nat × MO)} {m : Nat} {mo' : MO}, look (renOb σ O) m = some mo' → ∃ k mo, σ k = m ∧ look O k = some mo ∧ mo' = mo.ren σ
 | (k, o) :: r, m, mo', h => by
   unfold renOb at h
   rw [look_cons] at h
   split at h
   · rename_i e; cases h; exact ⟨k, o, e.symm, by rw [look_cons, if_pos rfl], rfl⟩
   · rename_i hne
     obtain ⟨j, mo, h1, h2, h3⟩ := look_renOb h
     refine ⟨j, mo, h1, ?_, h3⟩
     rw [look_cons, if_neg (fun e => by subst e; exact hne h1.symm), h2]
theorem look_delK {kl : List (Nat × Nat)} : ∀ {O : List (Nat × MO)} {m : Nat} {mo : MO}, look (delK kl O) m = some mo → look O m = some mo ∧ kL kl m = none
 | (k, o) :: r, m, mo, h => by
   unfold delK at h
   split at h
   · rename_i x hx
     obtain ⟨h1, h2⟩ := look_delK h
     refine ⟨?_, h2⟩
     rw [look_cons, if_neg (fun e => by subst e; rw [hx] at h2; cases h2), h1]
   · rename_i hx
     rw [look_cons] at h ⊢
     split at h
     · rename_i e; subst e; cases h; exact ⟨by rw [if_pos rfl], hx⟩
     · rename_i hne
       obtain ⟨h1, h2⟩ := look_delK h
       rw [if_neg hne]; exact ⟨h1, h2⟩
theorem look_app {a b : List (Nat × MO)} {m : Nat} {mo : MO} (h : look (a ++ b) m = some mo) : look a m = some mo ∨ look b m = some mo := by
 induction a with
 | nil => exact .inr h
 | cons p r ih =>
   obtain ⟨k, o⟩ := p
   rw [List.cons_append, look_cons] at h
   rw [look_cons]
   by_cases e : m = k
   · rw [if_pos e] at h ⊢; exact .inl h
   · rw [if_neg e] at h ⊢; exact ih h
def grO (O : List (Nat × MO)) (g : Nat → Option Gh) (b : Nat) : Prop := ∃ m mo G, look O m = some mo ∧ g m = some G ∧ G.b = some b
structure FnM (P : Program) [Tabs P] (F : FuncId) (nb : Nat) (args : List AV) (O : List (Nat × MO)) (r : AV) (O' : List (Nat × MO)) (nx : Nat) : Prop where
 enters : Enters P F
 calls : ∀ w ok g vs, (Tabs.J P w ∧ ∀ b, Tabs.tab P b → ¬ grO O g b) → Obs O g ok w → (∀ m, nb ≤ m → g m = none) → RVs w ok g args vs →
  Calls P F vs.toArray w fun e w' => ∃ v g' ok', e = .returned v ∧ Frm w (grO O g) w' ∧ Obs O' g' ok' w' ∧ (∀ m G, g m = some G → g' m = some G) ∧ (∀ m, nx ≤ m → g' m = none) ∧ RV w' ok' g' r v ∧
   (∀ m mo G b, look O' m = some mo → g' m = some G → G.b = some b → w.heap.size ≤ b ∨ grO O g b) ∧ ∀ b, ok' b → ok b ∨ grO O g b ∨ w.heap.size ≤ b
def DoneM (P : Program) [Tabs P] (rs : List ResultVar) (nb : Nat) (r : AV) (O' : List (Nat × MO)) (nx : Nat) (e : Exit) (st : St) : Prop :=
 (match e with | .normal => True | .ret => True | _ => False) ∧ match resAV P st rs with
  | some l => forceL l fun l => ∃ kl, (klOK nx kl && klBase kl nb) = true ∧ AVle ((oneOf l).fz st.ob (kL kl)) r ∧ allO (st.fz (kL kl) nx) O'
  | none => False
theorem FnM.introSW {P : Program} [Tabs P] {F : FuncId} {fn : Func} {c : Code} {nb nx : Nat} {args : List AV} {O O' : List (Nat × MO)} {r : AV} (hen : Enters P F) (hf : P.funcs[F]? = some fn) (hb : fn.body = some c) (hn : Nat.ble args.length fn.ntmps = true)
 (h : SW P nb c (entry args O nb fn.ntmps) (DoneM P fn.results.toList nb r O' nx)) : FnM P F nb args O r O' nx := by
 refine ⟨hen, fun w ok g vs hJ hobs hfr hargs => calls_of_wp hf hb ?_⟩
 have hl := hargs.length
 have hn' := Nat.le_of_ble_eq_true hn
 have hrep : Rep g w (grO O g) ok (entry args O nb fn.ntmps) g ok { tmps := vs.toArray ++ Array.replicate (fn.ntmps - vs.toArray.size) Go.undef, defers := [] } w := by
  refine ⟨fun t => ?_, hobs, fun m mo G b hm hg hb => .inr ⟨m, mo, G, hm, hg, hb⟩, hfr, fun m G h => h,
   ⟨rfl, rfl, rfl, Nat.le_refl _, fun _ _ _ => rfl⟩, rfl, by simp [entry]; omega, fun b hb => .inl hb⟩
  show RV w ok g (args.getD t .undef) _
  by_cases ht : t < args.length
  · obtain ⟨v, h1, h2⟩ := hargs.get t args[t] (List.getElem?_eq_getElem ht)
    have : args.getD t .undef = args[t] := by simp [List.getD, ht]
    rw [this]
    have e : (vs.toArray ++ Array.replicate (fn.ntmps - vs.toArray.size) Go.undef).getD t Go.undef = v := by
     have : t < vs.length := by omega
     simp [Array.getD, this] at h1 ⊢
     rw [if_pos (by omega)]; exact h1
    rw [e]; exact h2
  · have : args.getD t .undef = .undef := by simp [List.getD, List.getElem?_eq_none (Nat.le_of_not_lt ht)]
    rw [this]
    show _ = Go.undef
    simp only [Array.getD_eq_getD_getElem?]
    rw [Array.getElem?_append_right (by simp; omega)]
    rw [Array.getElem?_replicate]
    split <;> rfl
 refine wp_mono (h g w (grO O g) ok g ok _ w ⟨hfr, hJ⟩ hrep) ?_
 rintro e a' w' ⟨st', g1, ok1, hr', he, hres⟩
 have fin : a'.defers = [] ∧ ∃ v, (results fn a'.tmps).run P w' = .ok v w' ∧ ∃ u g' ok', Ending.returned v = .returned u ∧ Frm w (grO O g) w' ∧ Obs O' g' ok' w' ∧ (∀ m G, g m = some G → g' m = some G) ∧ (∀ m, nx ≤ m → g' m = none) ∧ RV w' ok' g' r u ∧
  (∀ m mo G b, look O' m = some mo → g' m = some G → G.b = some b → w.heap.size ≤ b ∨ grO O g b) ∧ ∀ b, ok' b → ok b ∨ grO O g b ∨ w.heap.size ≤ b := by
  refine ⟨hr'.df, ?_⟩
  split at hres
  · rename_i l hl
    rw [forceL_eq] at hres
    obtain ⟨kl, hk, hle, hO⟩ := hres
    rw [Bool.and_eq_true] at hk
    obtain ⟨k1, k2⟩ := kl_spec hk.1
    obtain ⟨us, h1, h2⟩ := resAV_run (P := P) hr' _ l hl
    have hv := oneOf_RV h1
    obtain ⟨g', ok', hr2, hx, _, _⟩ := hr'.fz (kL kl) (iL kl) nx k1 k2 (fun m G hm => klBase_spec hk.2 m (Nat.lt_of_not_le fun hle => by rw [hfr m hle] at hm; cases hm))
    have hr3 := hr2.weak (st' := mkSt [] O' nx st'.n) (fun t => AVle.any _) (allO_spec hO) (Nat.le_refl _) rfl
    refine ⟨_, ?_, _, g', ok', rfl, hr'.frm, hr3.obs, hr3.base, hr3.fresh, hle _ _ _ _ (hx _ _ hv), hr3.own, hr3.okf⟩
    rw [results_eq, Array.mapM_eq_mapM_toList]
    simp [h2]
  · exact hres.elim
 cases e <;> first | exact fin | exact he.elim
theorem FnM.intro {P : Program} [Tabs P] {F : FuncId} {fn : Func} {c : Code} {nb nx : Nat} {args : List AV} {O O' : List (Nat × MO)} {r : AV} (hen : Enters P F) (hf : P.funcs[F]? = some fn) (hb : fn.body = some c) (hn : Nat.ble args.length fn.ntmps = true)
 (h : wpS P nb c (entry args O nb fn.ntmps) (DoneM P fn.results.toList nb r O' nx)) : FnM P F nb args O r O' nx :=
 FnM.introSW hen hf hb hn (wpS_SW c _ _ h)
def backN (kl : List (Nat × Nat)) (nb next k : Nat) : Nat := match iL kl k with | some m => m | none => next + (k - nb)
def covB (O : List (Nat × MO)) : Nat → Bool
 | 0 => true
 | k + 1 => (look O k).isSome && covB O k
theorem covB_spec {O : List (Nat × MO)} : ∀ {nb : Nat}, covB O nb = true → ∀ k, k < nb → ∃ mo, look O k = some mo
 | nb + 1, h, k, hk => by
   simp only [covB, Bool.and_eq_true] at h
   by_cases e : k = nb
   · subst e; exact Option.isSome_iff_exists.1 h.1
   · exact covB_spec h.2 k (by omega)
theorem callM {P : Program} [Tabs P] {F : FuncId} {nb nx : Nat} {args l : List AV} {O O' : List (Nat × MO)} {r : AV} {st : St} {d : Option Tmp} (kl : List (Nat × Nat)) (h : FnM P F nb args O r O' nx) (hkl : klOK nb kl = true) (hcov : covB O nb = true)
 (ha : AVsle (AV.fzs st.ob (kL kl) l) args) (hO : allO (st.fz (kL kl) nb) O) (hr : r.scn = true) (hO' : obP O') (hd : dstOK d st.n = true) :
 CallR P F l st d (({ tm := st.tm, ob := renOb (backN kl nb st.next) O' ++ delK kl st.ob, next := st.next + nx, n := st.n } : St).put d (r.ren (backN kl nb st.next))) := by
 refine ⟨h.1, fun gb w0 gr ok0 g ok a w vs hj hrep hargs => ?_⟩
 obtain ⟨k1, k2⟩ := kl_spec hkl
 -- the callee's view; of the base names nothing is asked here
 have hrep0 : Rep (fun _ => none) w0 gr ok0 st g ok a w := ⟨hrep.tm, hrep.obs, hrep.own, hrep.fresh, fun _ _ e => (by cases e), hrep.frm, hrep.df, hrep.n, hrep.okf⟩
 obtain ⟨gc, okc, hr1, hx, hgc, hokc⟩ := hrep0.fz (kL kl) (iL kl) nb k1 k2 (fun _ _ e => (by cases e))
 have hr2 := hr1.weak (st' := mkSt [] O nb st.n) (fun t => AVle.any _) (allO_spec hO) (Nat.le_refl _) rfl
 have hargs' : ∀ (l : List AV) (vs : List Value), RVs w ok g l vs → RVs w okc gc (AV.fzs st.ob (kL kl) l) vs := by
  intro l
  induction l with
  | nil => exact fun vs h => h
  | cons x xs ih => rintro vs ⟨v, us, e, h1, h2⟩; exact ⟨v, us, e, hx x v h1, ih us h2⟩
 have hobs : Obs O gc okc w := hr2.obs
 -- a granted block is that of an object of the caller's that was handed over
 have hgr : ∀ b, grO O gc b → ∃ m mo G, kL kl m ≠ none ∧ look st.ob m = some mo ∧ g m = some G ∧ G.b = some b := by
  rintro b ⟨k, mo, G, hk, hG, hb⟩
  obtain ⟨mo1, hl1, _⟩ := allO_spec hO k mo hk
  obtain ⟨m, p, e1, e2, _⟩ := look_fzOb k1 st.ob k mo1 hl1
  rw [hgc k, (k1 m k).1 e1] at hG
  exact ⟨m, p, G, by rw [e1]; simp, e2, hG, hb⟩
 have hJ : Tabs.J P w ∧ ∀ b, Tabs.tab P b → ¬ grO O gc b := by
  refine ⟨hj.now hrep.frm, fun b hb hg => ?_⟩
  obtain ⟨m, mo, G, _, h2, h3, h4⟩ := hgr b hg
  rcases hrep.own m mo G b h2 h3 h4 with h5 | h5
  · have := Tabs.lt w0 b hj.1 hb; omega
  · exact hj.2 b hb h5
 refine (h.2 w okc gc vs hJ hr2.obs hr2.fresh (ha _ _ _ _ (hargs' l vs hargs))).mono ?_
 rintro e w' ⟨v, g', ok', rfl, hfm, hob, hext, hfr, hv, hown, _⟩
 have hngr : ∀ b, ok b → ¬ grO O gc b := fun b hb hg => by
  obtain ⟨m, mo, G, _, h2, h3, h4⟩ := hgr b hg
  exact (hrep.obs.okb b hb).2 m mo G h2 h3 h4
 have hokw : ∀ b, ok b → w'.heap[b]? = w.heap[b]? := fun b hb => hfm.old b (hrep.obs.okb b hb).1 (hngr b hb)
 let σ := backN kl nb st.next
 let g2 : Nat → Option Gh := fun m => if m < st.next then g m else g' (m - st.next + nb)
 have hlow : ∀ m G, g m = some G → m < st.next := fun m G hm => Nat.lt_of_not_le fun hle => by rw [hrep.fresh m hle] at hm; cases hm
 have hg2 : ∀ m G, g m = some G → g2 m = some G := fun m G hm => by
  show (if _ then _ else _) = _
  rw [if_pos (hlow m G hm)]; exact hm
 have hσ : ∀ k G, g' k = some G → g2 (σ k) = some G := fun k G hk => by
  show g2 (backN kl nb st.next k) = _
  unfold backN
  rcases Nat.lt_or_ge k nb with hlt | hge
  · obtain ⟨mo, hmo⟩ := covB_spec hcov k hlt
    obtain ⟨K, hK, _⟩ := hobs.rel k mo hmo
    have e1 := hext k K hK
    rw [hk] at e1; cases e1
    rw [hgc k] at hK
    cases hi : iL kl k with
    | none => rw [hi] at hK; cases hK
    | some m => rw [hi] at hK; exact hg2 m G hK
  · cases hi : iL kl k with
    | some m => have := k2 m k ((k1 m k).2 hi); omega
    | none =>
      show (if st.next + (k - nb) < st.next then g (st.next + (k - nb)) else g' (st.next + (k - nb) - st.next + nb)) = _
      rw [if_neg (by omega)]
      rw [show st.next + (k - nb) - st.next + nb = k by omega]; exact hk
 have hnew : ∀ m mo', look (renOb σ O') m = some mo' → ∃ k mo G, σ k = m ∧ look O' k = some mo ∧ g' k = some G ∧ g2 m = some G ∧ MRel w' ok g2 G mo' := fun m mo' hm => by
  obtain ⟨k, mo, e1, e2, e3⟩ := look_renOb hm
  obtain ⟨G, hG, hrel⟩ := hob.rel k mo e2
  refine ⟨k, mo, G, e1, e2, hG, by rw [← e1]; exact hσ k G hG, ?_⟩
  rw [e3]; exact hrel.scP hσ (obP_look hO' e2)
 have hold : ∀ m mo, look (delK kl st.ob) m = some mo → ∃ G, look st.ob m = some mo ∧ kL kl m = none ∧ g m = some G ∧ g2 m = some G ∧ MRel w' ok g2 G mo ∧ ∀ b, G.b = some b → b < w.heap.size ∧ ¬ grO O gc b := fun m mo hm => by
  obtain ⟨e1, e2⟩ := look_delK hm
  obtain ⟨G, hG, hrel⟩ := hrep.obs.rel m mo e1
  have hng : ∀ b, G.b = some b → b < w.heap.size ∧ ¬ grO O gc b := fun b hb => by
   refine ⟨hrep.obs.lt m mo G b e1 hG hb, fun hg => ?_⟩
   obtain ⟨m', mo', G', h1, h2, h3, h4⟩ := hgr b hg
   have := hrep.obs.sep m m' mo mo' G G' b e1 h2 hG h3 hb h4
   subst this; exact h1 e2
  exact ⟨G, e1, e2, hG, hg2 m G hG, MRel.mono (fun _ h => h) hokw hg2 (fun b hb => hfm.old b (hng b hb).1 (hng b hb).2) hrel, hng⟩
 have hnewb : ∀ k mo G b, look O' k = some mo → g' k = some G → G.b = some b → w.heap.size ≤ b ∨ grO O gc b := hown
 have core : Rep gb w0 gr ok0 { tm := st.tm, ob := renOb σ O' ++ delK kl st.ob, next := st.next + nx, n := st.n } g2 ok a w' := by
  refine ⟨fun t => RV.mono (fun _ h => h) hokw g g2 hg2 _ _ (hrep.tm t), ⟨fun m mo hm => ?_, fun m m' mo mo' G G' b hm hm' hG hG' hb hb' => ?_, fun b hb => ⟨Nat.lt_of_lt_of_le (hrep.obs.okb b hb).1 hfm.size, fun m mo G hm hG e => ?_⟩, fun m mo G b hm hG hb => ?_⟩,
   fun m mo G b hm hG hb => ?_, fun m hm => ?_, fun m G hm => hg2 m G (hrep.base m G hm), ⟨hfm.os.trans hrep.frm.os, hfm.tape.trans hrep.frm.tape, hfm.output.trans hrep.frm.output, Nat.le_trans hrep.frm.size hfm.size, fun b hb hg => ?_⟩, hrep.df, hrep.n, hrep.okf⟩
  · rcases look_app hm with hm | hm
    · obtain ⟨k, mo1, G, _, _, _, e4, e5⟩ := hnew m mo hm; exact ⟨G, e4, e5⟩
    · obtain ⟨G, _, _, _, e4, e5, _⟩ := hold m mo hm; exact ⟨G, e4, e5⟩
  · rcases look_app hm with hm | hm <;> rcases look_app hm' with hm' | hm'
    · obtain ⟨k, mo1, K, e1, e2, e3, e4, _⟩ := hnew m mo hm
      obtain ⟨k', mo1', K', e1', e2', e3', e4', _⟩ := hnew m' mo' hm'
      rw [hG] at e4; cases e4
      rw [hG'] at e4'; cases e4'
      have := hob.sep k k' mo1 mo1' _ _ b e2 e2' e3 e3' hb hb'
      rw [← e1, ← e1', this]
    · obtain ⟨k, mo1, K, e1, e2, e3, e4, _⟩ := hnew m mo hm
      obtain ⟨K', _, _, _, e4', _, hn'⟩ := hold m' mo' hm'
      rw [hG] at e4; cases e4
      rw [hG'] at e4'; cases e4'
      obtain ⟨n1, n2⟩ := hn' b hb'
      rcases hnewb k mo1 _ b e2 e3 hb with h' | h'
      · omega
      · exact absurd h' n2
    · obtain ⟨k, mo1, K, e1, e2, e3, e4, _⟩ := hnew m' mo' hm'
      obtain ⟨K', _, _, _, e4', _, hn'⟩ := hold m mo hm
      rw [hG'] at e4; cases e4
      rw [hG] at e4'; cases e4'
      obtain ⟨n1, n2⟩ := hn' b hb
      rcases hnewb k mo1 _ b e2 e3 hb' with h' | h'
      · omega
      · exact absurd h' n2
    · obtain ⟨K, a1, _, a3, a4, _, _⟩ := hold m mo hm
      obtain ⟨K', b1, _, b3, b4, _, _⟩ := hold m' mo' hm'
      rw [hG] at a4; cases a4
      rw [hG'] at b4; cases b4
      exact hrep.obs.sep m m' mo mo' _ _ b a1 b1 a3 b3 hb hb'
  · rcases look_app hm with hm | hm
    · obtain ⟨k, mo1, K, e1, e2, e3, e4, _⟩ := hnew m mo hm
      rw [hG] at e4; cases e4
      have := (hrep.obs.okb b hb).1
      rcases hnewb k mo1 _ b e2 e3 e with h' | h'
      · omega
      · exact hngr b hb h'
    · obtain ⟨K, a1, _, a3, a4, _, _⟩ := hold m mo hm
      rw [hG] at a4; cases a4
      exact (hrep.obs.okb b hb).2 m mo _ a1 a3 e
  · rcases look_app hm with hm | hm
    · obtain ⟨k, mo1, K, e1, e2, e3, e4, _⟩ := hnew m mo hm
      rw [hG] at e4; cases e4
      exact hob.lt k mo1 _ b e2 e3 hb
    · obtain ⟨K, a1, _, a3, a4, _, hn⟩ := hold m mo hm
      rw [hG] at a4; cases a4
      exact Nat.lt_of_lt_of_le (hn b hb).1 hfm.size
  · rcases look_app hm with hm | hm
    · obtain ⟨k, mo1, K, e1, e2, e3, e4, _⟩ := hnew m mo hm
      rw [hG] at e4; cases e4
      rcases hnewb k mo1 _ b e2 e3 hb with h' | h'
      · exact .inl (Nat.le_trans hrep.frm.size h')
      · obtain ⟨m0, mo0, G0', _, h2, h3, h4⟩ := hgr b h'
        exact hrep.own m0 mo0 G0' b h2 h3 h4
    · obtain ⟨K, a1, _, a3, a4, _, _⟩ := hold m mo hm
      rw [hG] at a4; cases a4
      exact hrep.own m mo _ b a1 a3 hb
  · show (if _ then _ else _) = none
    have hm' : st.next + nx ≤ m := hm
    rw [if_neg (by omega)]
    exact hfr _ (by omega)
  · rw [hfm.old b (Nat.lt_of_lt_of_le hb hrep.frm.size) fun h' => ?_, hrep.frm.old b hb hg]
    obtain ⟨m0, mo0, G0', _, h2, h3, h4⟩ := hgr b h'
    rcases hrep.own m0 mo0 G0' b h2 h3 h4 with h5 | h5
    · omega
    · exact hg h5
 exact ⟨v, g2, ok, rfl, core.put hd (RV.scn hσ r v hr hv)⟩
end Go.Vw

