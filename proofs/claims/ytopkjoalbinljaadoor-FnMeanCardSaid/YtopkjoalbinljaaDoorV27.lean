/- Vw27: a part of a tool for walks: what a piece of a Go program does, by abstract values. It holds of every program; no condition. -/
import Derived.Test.YtopkjoalbinljaaDoorV26
set_option linter.unusedVariables false
set_option linter.unusedSimpArgs false
set_option linter.unusedSectionVars false
namespace Go.Vw
open Go

def exOpsC (P : Program) [Tabs P] (all : Array Oper) : List Oper → CSt → (CSt → Prop) → Prop
  | [], cs, next => next cs
  | o :: r, cs, next => match o.guard with
    | none => exOpC P o cs fun cs' => exOpsC P all r cs' next
    | some (j, want) => match (all[j]?).bind (·.dst) with
      | some t => (match Nat.blt t cs.n, dstOK o.dst cs.n with
        | true, true => (match cs.st.tm t with
          | .bool c => (match want with
            | true => Grd c (cs.putK (some t) (.bool true) fun cs => exOpC P o cs fun cs' => exOpsC P all r cs' next) (cs.putK (some t) (.bool false) fun cs => cs.putK o.dst .undef fun cs => exOpsC P all r cs next)
            | false => Grd c (cs.putK (some t) (.bool true) fun cs => cs.putK o.dst .undef fun cs => exOpsC P all r cs next) (cs.putK (some t) (.bool false) fun cs => exOpC P o cs fun cs' => exOpsC P all r cs' next))
          | .undef => cs.putK o.dst .undef fun cs => exOpsC P all r cs next
          | _ => False)
        | _, _ => False)
      | none => False

theorem Grd.map {c : Bool} {A B A' B' : Prop} (h : Grd c A B) (ha : A → A') (hb : B → B') : Grd c A' B' := by
  cases c
  · exact hb h
  · exact ha h

theorem exOpsC_st {P : Program} [Tabs P] {all : Array Oper} : ∀ (l : List Oper) {cs : CSt} {next : CSt → Prop} {next' : St → Prop}, exOpsC P all l cs next → (∀ cs', next cs' → next' cs'.st) → exOps P all l cs.st next'
  | [], cs, next, next', h, hn => hn cs h
  | o :: r, cs, next, next', h, hn => by
    have step : ∀ cs1 : CSt, (exOpC P o cs1 fun cs' => exOpsC P all r cs' next) → exOp P o cs1.st fun st' => exOps P all r st' next' := fun cs1 h1 =>
      exOpC_st h1 fun cs' h2 => exOpsC_st r h2 hn
    have skip : ∀ (cs1 : CSt), (cs1.putK o.dst .undef fun cs => exOpsC P all r cs next) → exOps P all r (cs1.st.put o.dst .undef) next' := fun cs1 h1 => by
      obtain ⟨cs2, e, h2⟩ := CSt.putK_st h1
      rw [← e]; exact exOpsC_st r h2 hn
    unfold exOpsC at h
    unfold exOps
    cases hg : o.guard with
    | none => simp only [hg] at h ⊢; exact step cs h
    | some jw =>
      obtain ⟨j, want⟩ := jw
      simp only [hg] at h ⊢
      cases hj : (all[j]?).bind (·.dst) with
      | none => simp only [hj] at h
      | some t =>
        simp only [hj] at h ⊢
        rw [show cs.st.n = cs.n from rfl]
        cases hb : Nat.blt t cs.n <;> cases hd : dstOK o.dst cs.n <;> simp only [hb, hd] at h ⊢
        cases hc : cs.st.tm t <;> simp only [hc] at h ⊢
        · rename_i c
          cases want
          · exact h.map (fun h => by obtain ⟨cs2, e, h2⟩ := CSt.putK_st h; rw [← e]; exact skip cs2 h2) (fun h => by obtain ⟨cs2, e, h2⟩ := CSt.putK_st h; rw [← e]; exact step cs2 h2)
          · exact h.map (fun h => by obtain ⟨cs2, e, h2⟩ := CSt.putK_st h; rw [← e]; exact step cs2 h2) (fun h => by obtain ⟨cs2, e, h2⟩ := CSt.putK_st h; rw [← e]; exact skip cs2 h2)
        · exact skip cs h

@[irreducible] def PCallC (P : Program) [Tabs P] (F : FuncId) (l : List AV) (cs : CSt) (d : Option Tmp) (next : CSt → Prop) : Prop := PCallG P F l cs.st d fun st => ∃ cs', cs'.st = st ∧ next cs'
theorem PCallC.g {P : Program} [Tabs P] {F : FuncId} {l : List AV} {cs : CSt} {d : Option Tmp} {next : CSt → Prop} (h : PCallC P F l cs d next) : PCallG P F l cs.st d fun st => ∃ cs', cs'.st = st ∧ next cs' := by
  unfold PCallC at h; exact h
theorem PCallC.sca {P : Program} [Tabs P] {F : FuncId} {l : List AV} {cs : CSt} {d : Option Tmp} {next : CSt → Prop} (r : AV) (h : VFn P F (AV.fzs cs.ob (fun _ => none) l) r) (hr : r.sca = true) (hn : r.force fun r => cs.putK d r next) : PCallC P F l cs d next := by
  unfold PCallC
  rw [AV.force_eq] at hn
  exact PCallG.sca (st := cs.st) r h hr (CSt.putK_st hn)
theorem PCallC.nl {P : Program} [Tabs P] {F : FuncId} {l : List AV} {cs : CSt} {d : Option Tmp} {next : CSt → Prop} (r : AV) (h : VFn P F l r) (hl : AV.nls l = true) (hn : r.force fun r => cs.putK d r next) : PCallC P F l cs d next := by
  unfold PCallC
  rw [AV.force_eq] at hn
  exact PCallG.nl (st := cs.st) r h hl (CSt.putK_st hn)

def exPOpC (P : Program) [Tabs P] (o : Oper) (nm : Nat) (cs : CSt) (next : CSt → Prop) : Prop :=
  match dstOK o.dst cs.n with
  | false => False
  | true => match o.op with
    | .call ⟨.value f, args, _⟩ => (match cs.st.ev f with | .fn (.func F) xs ys => forceL (xs ++ (args.toList.map cs.st.ev ++ ys)) (fun l => PCallC P F l cs o.dst next) | _ => False)
    | op => match pas P cs.st.ev (look cs.ob) nm op with
      | some p => (match p.mo with
        | none => andO p.pre (p.r.force fun r => cs.putK o.dst r next)
        | some mo => andO p.pre (p.r.force fun r => cs.obK ((nm, mo) :: cs.ob) cs.next fun cs' => cs'.putK o.dst r next))
      | none => False

def exDC (P : Program) [Tabs P] (all : Array Oper) (base : Nat) : Nat → List Oper → CSt → (CSt → Prop) → Prop
  | _, [], cs, next => next cs
  | i, o :: r, cs, next => match o.guard with
    | none => fN (base + i) fun nm => exPOpC P o nm cs fun cs' => exDC P all base (i + 1) r cs' next
    | some (j, want) => match (all[j]?).bind (·.dst) with
      | some t => (match Nat.blt t cs.n, dstOK o.dst cs.n with
        | true, true => (match cs.st.tm t with
          | .bool c => (match want with
            | true => Grd c (cs.putK (some t) (.bool true) fun cs => fN (base + i) fun nm => exPOpC P o nm cs fun cs' => exDC P all base (i + 1) r cs' next) (cs.putK (some t) (.bool false) fun cs => cs.putK o.dst .undef fun cs => exDC P all base (i + 1) r cs next)
            | false => Grd c (cs.putK (some t) (.bool true) fun cs => cs.putK o.dst .undef fun cs => exDC P all base (i + 1) r cs next) (cs.putK (some t) (.bool false) fun cs => fN (base + i) fun nm => exPOpC P o nm cs fun cs' => exDC P all base (i + 1) r cs' next))
          | .undef => cs.putK o.dst .undef fun cs => exDC P all base (i + 1) r cs next
          | _ => False)
        | _, _ => False)
      | none => False

theorem exPOpC_st {P : Program} [Tabs P] {o : Oper} {nm : Nat} {cs : CSt} {next : CSt → Prop} {next' : St → Prop} (h : exPOpC P o nm cs next) (hn : ∀ cs', next cs' → next' cs'.st) : exPOp P o nm cs.st next' := by
  unfold exPOpC at h
  unfold exPOp
  split at h
  · cases h
  rename_i hd
  rw [show dstOK o.dst cs.st.n = true from hd]
  split at h
  · rename_i f args tys hop
    split at h
    · rename_i F xs ys hf
      simp only [hop, hf]
      rw [forceL_eq] at h ⊢
      have := h.g
      unfold PCallG at this ⊢
      obtain ⟨r, q1, cs', q2, q3⟩ := this
      exact ⟨r, q1, q2 ▸ hn cs' q3⟩
    · cases h
  · rename_i op n3
    split at h
    · rename_i p hp
      have hp' : pas P cs.st.ev (look cs.st.ob) nm o.op = some p := hp
      have key : (match p.mo with
          | none => andO p.pre (p.r.force fun r => next' (cs.st.put o.dst r))
          | some mo => andO p.pre (p.r.force fun r => next' (({ cs.st with ob := (nm, mo) :: cs.st.ob } : St).put o.dst r))) := by
        split at h
        · rename_i hm
          refine andO_map h fun h => ?_
          rw [AV.force_eq] at h ⊢
          obtain ⟨cs2, e2, h2⟩ := CSt.putK_st h
          exact e2 ▸ hn cs2 h2
        · rename_i mo hm
          refine andO_map h fun h => ?_
          rw [AV.force_eq] at h ⊢
          obtain ⟨cs1, e1, h1⟩ := CSt.obK_st h
          obtain ⟨cs2, e2, h2⟩ := CSt.putK_st h1
          have e : cs2.st = ({ cs.st with ob := (nm, mo) :: cs.st.ob } : St).put o.dst p.r := by rw [e2, e1]; rfl
          exact e ▸ hn cs2 h2
      split
      · rename_i e; cases e
      · split
        · rename_i f args tys hop; exact absurd hop (n3 _ _ _)
        · rw [hp']; exact key
    · cases h

theorem exDC_st {P : Program} [Tabs P] {all : Array Oper} {base : Nat} : ∀ (i : Nat) (l : List Oper) {cs : CSt} {next : CSt → Prop} {next' : St → Prop}, exDC P all base i l cs next → (∀ cs', next cs' → next' cs'.st) → exD P all base i l cs.st next'
  | _, [], cs, next, next', h, hn => hn cs h
  | i, o :: r, cs, next, next', h, hn => by
    have step : ∀ cs1 : CSt, (fN (base + i) fun nm => exPOpC P o nm cs1 fun cs' => exDC P all base (i + 1) r cs' next) → exPOp P o (base + i) cs1.st fun st' => exD P all base (i + 1) r st' next' := fun cs1 h1 => by
      rw [fN_eq] at h1
      exact exPOpC_st h1 fun cs' h2 => exDC_st (i + 1) r h2 hn
    have skip : ∀ (cs1 : CSt), (cs1.putK o.dst .undef fun cs => exDC P all base (i + 1) r cs next) → exD P all base (i + 1) r (cs1.st.put o.dst .undef) next' := fun cs1 h1 => by
      obtain ⟨cs2, e, h2⟩ := CSt.putK_st h1
      rw [← e]; exact exDC_st (i + 1) r h2 hn
    unfold exDC at h
    unfold exD
    cases hg : o.guard with
    | none => simp only [hg] at h ⊢; exact step cs h
    | some jw =>
      obtain ⟨j, want⟩ := jw
      simp only [hg] at h ⊢
      cases hj : (all[j]?).bind (·.dst) with
      | none => simp only [hj] at h
      | some t =>
        simp only [hj] at h ⊢
        rw [show cs.st.n = cs.n from rfl]
        cases hb : Nat.blt t cs.n <;> cases hd : dstOK o.dst cs.n <;> simp only [hb, hd] at h ⊢
        cases hc : cs.st.tm t <;> simp only [hc] at h ⊢
        · rename_i c
          cases want
          · exact h.map (fun h => by obtain ⟨cs2, e, h2⟩ := CSt.putK_st h; rw [← e]; exact skip cs2 h2) (fun h => by obtain ⟨cs2, e, h2⟩ := CSt.putK_st h; rw [← e]; exact step cs2 h2)
          · exact h.map (fun h => by obtain ⟨cs2, e, h2⟩ := CSt.putK_st h; rw [← e]; exact step cs2 h2) (fun h => by obtain ⟨cs2, e, h2⟩ := CSt.putK_st h; rw [← e]; exact skip cs2 h2)
        · exact skip cs h

@[irreducible] def LoopC (P : Program) [Tabs P] (nb : Nat) (b : Code) (cs : CSt) (Q : Exit → CSt → Prop) : Prop := LoopG P nb b cs.st fun e st => ∃ cs', cs'.st = st ∧ Q e cs'
@[irreducible] def DrawC (P : Program) [Tabs P] (nb : Nat) (ops : Array Oper) (cs : CSt) (next : CSt → Prop) : Prop := DrawG P nb ops cs.st fun st => ∃ cs', cs'.st = st ∧ next cs'
@[irreducible] def ScopeC (P : Program) [Tabs P] (nb : Nat) (b : Code) (cs : CSt) (Q : Exit → CSt → Prop) : Prop := ScopeG P nb b cs.st fun e st => ∃ cs', cs'.st = st ∧ Q e cs'

def wpC (P : Program) [Tabs P] (nb : Nat) : Code → CSt → (Exit → CSt → Prop) → Prop
  | .skip, cs, Q => Q .normal cs
  | .region _ ops draw, cs, Q => (match draw with | true => DrawC P nb ops cs (Q .normal) | false => exOpsC P ops ops.toList cs (Q .normal))
  | .seq x y, cs, Q => wpC P nb x cs fun e cs' => match e with | .normal => wpC P nb y cs' Q | e => Q e cs'
  | .cond c x y, cs, Q => (match cs.st.ev c with
    | .bool t => Grd t (wpC P nb x cs Q) (wpC P nb y cs Q)
    | _ => False)
  | .block id b, cs, Q => wpC P nb b cs fun e cs' => match e with | .exit k => (bif Nat.beq k id then Q .normal cs' else Q (.exit k) cs') | e => Q e cs'
  | .loop b, cs, Q => LoopC P nb b cs Q
  | .exit id, cs, Q => Q (.exit id) cs
  | .scope b, cs, Q => ScopeC P nb b cs Q
  | .ret, cs, Q => Q .ret cs
  | .label _, cs, Q => Q .normal cs
  | .goto l, cs, Q => Q (.goto l) cs
  | _, _, _ => False

theorem wpC_SW {P : Program} [Tabs P] {nb : Nat} : ∀ (c : Code) (cs : CSt) (Q : Exit → CSt → Prop), wpC P nb c cs Q → SW P nb c cs.st fun e st => ∃ cs', cs'.st = st ∧ Q e cs'
  | .skip, cs, Q, h => fun gb w0 gr ok0 g ok a w _ hr => wp_skip ⟨cs.st, g, ok, hr, cs, rfl, h⟩
  | .region id ops draw, cs, Q, h => by
    cases draw with
    | true =>
      have h' : DrawC P nb ops cs (Q .normal) := h
      unfold DrawC at h'
      exact wpS_SW (nb := nb) (.region id ops true) cs.st (fun e st => ∃ cs' : CSt, cs'.st = st ∧ Q e cs') h'
    | false =>
      have h' : exOpsC P ops ops.toList cs (Q .normal) := h
      exact wpS_SW (nb := nb) (.region id ops false) cs.st (fun e st => ∃ cs' : CSt, cs'.st = st ∧ Q e cs') (exOpsC_st _ h' fun cs' h => ⟨cs', rfl, h⟩)
  | .seq x y, cs, Q, h => by
    intro gb w0 gr ok0 g ok a w hgb hr
    have h1 := wpC_SW x cs _ h gb w0 gr ok0 g ok a w hgb hr
    refine wp_seq (wp_mono h1 fun e a' w' ⟨st', g', ok', hr', cs', ecs, hq⟩ => ?_)
    subst ecs
    cases e
    case normal => exact wpC_SW y cs' Q hq gb w0 gr ok0 g' ok' a' w' hgb hr'
    all_goals exact ⟨_, g', ok', hr', cs', rfl, hq⟩
  | .cond c x y, cs, Q, h => by
    intro gb w0 gr ok0 g ok a w hgb hr
    unfold wpC at h
    split at h
    · rename_i t ht
      have hv := hr.ev c
      rw [ht] at hv
      simp only [RV] at hv
      refine wp_cond hv ?_
      cases t <;> simp only [Grd] at h
      · exact wpC_SW y cs Q h gb w0 gr ok0 g ok a w hgb hr
      · exact wpC_SW x cs Q h gb w0 gr ok0 g ok a w hgb hr
    · cases h
  | .block id b, cs, Q, h => by
    intro gb w0 gr ok0 g ok a w hgb hr
    have h1 := wpC_SW b cs _ h gb w0 gr ok0 g ok a w hgb hr
    refine wp_block (wp_mono h1 fun e a' w' ⟨st', g', ok', hr', cs', ecs, hq⟩ => ?_)
    subst ecs
    cases e with
    | exit j =>
      simp only [Exit.inBlock]
      cases hb : Nat.beq j id <;> simp only [hb, cond_true, cond_false] at hq
      · rw [if_neg (fun e => by subst e; simp at hb)]; exact ⟨_, g', ok', hr', cs', rfl, hq⟩
      · rw [if_pos (Nat.eq_of_beq_eq_true hb)]; exact ⟨_, g', ok', hr', cs', rfl, hq⟩
    | normal => exact ⟨_, g', ok', hr', cs', rfl, hq⟩
    | goto l => exact ⟨_, g', ok', hr', cs', rfl, hq⟩
    | ret => exact ⟨_, g', ok', hr', cs', rfl, hq⟩
    | panic ch => exact ⟨_, g', ok', hr', cs', rfl, hq⟩
    | outgrown => exact ⟨_, g', ok', hr', cs', rfl, hq⟩
  | .loop b, cs, Q, h => by
    have h' : LoopC P nb b cs Q := h
    unfold LoopC at h'
    exact wpS_SW (.loop b) cs.st _ h'
  | .exit id, cs, Q, h => fun gb w0 gr ok0 g ok a w _ hr => wp_exit ⟨cs.st, g, ok, hr, cs, rfl, h⟩
  | .scope b, cs, Q, h => by
    have h' : ScopeC P nb b cs Q := h
    unfold ScopeC at h'
    exact wpS_SW (.scope b) cs.st _ h'
  | .ret, cs, Q, h => fun gb w0 gr ok0 g ok a w _ hr => wp_ret ⟨cs.st, g, ok, hr, cs, rfl, h⟩
  | .label _, cs, Q, h => fun gb w0 gr ok0 g ok a w _ hr => wp_label ⟨cs.st, g, ok, hr, cs, rfl, h⟩
  | .goto l, cs, Q, h => fun gb w0 gr ok0 g ok a w _ hr => wp_goto ⟨cs.st, g, ok, hr, cs, rfl, h⟩
  | .rangeFunc _ _ _ _, _, _, h => by cases h
  | .refuse _, _, _, h => by cases h

/-- A state out of slots written out. -/
def slotsK : List (Nat × AV) → CSt → (CSt → Prop) → Prop
  | [], cs, k => k cs
  | (t, x) :: r, cs, k => slotsK r cs fun cs => x.force fun x => cs.putK (some t) x k
theorem slotsK_st : ∀ {S : List (Nat × AV)} {cs : CSt} {k : CSt → Prop}, slotsK S cs k → (∀ t, cs.st.tm t = .any) → ∃ cs', cs'.st = { cs.st with tm := lookT S } ∧ k cs'
  | [], cs, k, h, hc => ⟨cs, St.ext' (fun t => hc t) rfl rfl rfl, h⟩
  | (t, x) :: r, cs, k, h, hc => by
    have h' : slotsK r cs (fun cs => x.force fun x => cs.putK (some t) x k) := h
    obtain ⟨cs1, e1, h1⟩ := slotsK_st h' hc
    rw [AV.force_eq] at h1
    obtain ⟨cs2, e2, h2⟩ := CSt.putK_st h1
    refine ⟨cs2, ?_, h2⟩
    rw [e2, e1]
    refine St.ext' (fun s => ?_) rfl rfl rfl
    show (bif Nat.beq s t then x else lookT r s) = bif Nat.beq t s then x else lookT r s
    by_cases e : s = t
    · subst e; simp
    · rw [beq_f e, beq_f (fun h => e h.symm)]
def mkK (S : List (Nat × AV)) (O : List (Nat × MO)) (nx n : Nat) (k : CSt → Prop) : Prop := fOb O fun O => slotsK S ⟨.e, .any, O, nx, n⟩ k
theorem mkK_st {S : List (Nat × AV)} {O : List (Nat × MO)} {nx n : Nat} {k : CSt → Prop} (h : mkK S O nx n k) : ∃ cs, cs.st = mkSt S O nx n ∧ k cs := by
  unfold mkK at h
  rw [fOb_eq] at h
  exact slotsK_st h fun t => rfl

theorem LoopC.mk {P : Program} [Tabs P] {nb : Nat} {b : Code} {cs : CSt} {Q : Exit → CSt → Prop} {ι : Type} (R : ι → Prop) (S : ι → List (Nat × AV)) (O : ι → List (Nat × MO)) (nx : Nat) (m : ι → Nat) (i0 : ι)
    (h0 : R i0 ∧ ∃ kl, Ent nb cs.st kl (S i0) (O i0) nx cs.n)
    (hr : ∀ i, R i → mkK (S i) (O i) nx cs.n fun cs1 => wpC P nb b cs1 fun e cs' => match e with | .normal => ∃ i', R i' ∧ m i' < m i ∧ ∃ kl, Ent nb cs'.st kl (S i') (O i') nx cs.n | e => Q e cs') :
    LoopC P nb b cs Q := by
  unfold LoopC
  refine LoopG.mkSW R S O nx m i0 h0 fun i hi => ?_
  obtain ⟨cs1, e1, h1⟩ := mkK_st (hr i hi)
  have h2 := wpC_SW b cs1 _ h1
  rw [e1] at h2
  refine h2.mono fun e st' ⟨cs', ecs, hq⟩ => ?_
  subst ecs
  cases e
  case normal => exact hq
  all_goals exact ⟨cs', rfl, hq⟩

def roundsC (P : Program) [Tabs P] (nb : Nat) (b : Code) (Q : Exit → CSt → Prop) : Nat → CSt → Prop
  | 0, _ => False
  | n + 1, cs => wpC P nb b cs fun e cs' => match e with | .normal => roundsC P nb b Q n cs' | e => Q e cs'
theorem roundsC_wp {P : Program} [Tabs P] {nb : Nat} {b : Code} {Q : Exit → CSt → Prop} {gb : Nat → Option Gh} {w0 : World} {gr ok0 : Nat → Prop} (hgb : (∀ m, nb ≤ m → gb m = none) ∧ JJ P w0 gr) :
    ∀ (n : Nat) (cs : CSt) (g : Nat → Option Gh) (ok : Nat → Prop) (a : Act) (w : World), roundsC P nb b Q n cs → Rep gb w0 gr ok0 cs.st g ok a w →
      Code.rounds P b (fun e a' w' => ∃ st' g' ok', Rep gb w0 gr ok0 st' g' ok' a' w' ∧ ∃ cs', cs'.st = st' ∧ Q e cs') n a w
  | 0, _, _, _, _, _, h, _ => h
  | n + 1, cs, g, ok, a, w, h, hr => by
    rw [rounds_succ]
    have h1 := wpC_SW b cs _ h gb w0 gr ok0 g ok a w hgb hr
    refine Code.wp_mono (fun e a' w' ⟨st', g', ok', hr', cs', ecs, hq⟩ => ?_) h1
    subst ecs
    cases e with
    | normal => exact roundsC_wp hgb n cs' g' ok' a' w' hq hr'
    | exit j => exact ⟨_, g', ok', hr', cs', rfl, hq⟩
    | goto l => exact ⟨_, g', ok', hr', cs', rfl, hq⟩
    | ret => exact ⟨_, g', ok', hr', cs', rfl, hq⟩
    | panic ch => exact ⟨_, g', ok', hr', cs', rfl, hq⟩
    | outgrown => exact ⟨_, g', ok', hr', cs', rfl, hq⟩
theorem LoopC.rounds {P : Program} [Tabs P] {nb : Nat} {b : Code} {cs : CSt} {Q : Exit → CSt → Prop} (n : Nat) (h : roundsC P nb b Q n cs) : LoopC P nb b cs Q := by
  unfold LoopC LoopG
  exact fun gb w0 gr ok0 g ok a w hgb hr => wp_loop_rounds n (roundsC_wp hgb n cs g ok a w h hr)

theorem DrawC.mk {P : Program} [Tabs P] {nb : Nat} {ops : Array Oper} {cs : CSt} {next : CSt → Prop} (n : Nat) (hm : P.follows .mixedOrders = true) (hc : drawOK ops n = true)
    (h : fN cs.next fun base => exDC P ops base 0 (ops.toList.take n) cs fun cs' => cs'.obK cs'.ob (base + n) fun cs' => exOpsC P ops (ops.toList.drop n) cs' next) : DrawC P nb ops cs next := by
  unfold DrawC
  rw [fN_eq] at h
  refine DrawG.mk n hm hc (exDC_st 0 _ h fun cs' hq => ?_)
  obtain ⟨cs2, e2, h2⟩ := CSt.obK_st hq
  have := exOpsC_st (next' := fun st => ∃ cs', cs'.st = st ∧ next cs') _ h2 fun cs' h => ⟨cs', rfl, h⟩
  rw [e2] at this
  exact this
theorem ScopeC.mk {P : Program} [Tabs P] {nb : Nat} {b : Code} {cs : CSt} {Q : Exit → CSt → Prop} (h : wpC P nb b cs fun e cs' => match e with | .goto _ => False | e => Q e cs') : ScopeC P nb b cs Q := by
  unfold ScopeC
  refine ScopeG.mkSW ((wpC_SW b cs _ h).mono fun e st' ⟨cs', ecs, hq⟩ => ?_)
  subst ecs
  cases e
  case goto => exact hq
  all_goals exact ⟨cs', rfl, hq⟩

/-- The state at a function's entry. -/
def argsK : Nat → List AV → CSt → (CSt → Prop) → Prop
  | _, [], cs, k => k cs
  | i, x :: r, cs, k => x.force fun x => cs.putK (some i) x fun cs => argsK (i + 1) r cs k
theorem argsK_st : ∀ {l : List AV} {i : Nat} {cs : CSt} {k : CSt → Prop}, argsK i l cs k → (∀ t, i ≤ t → cs.st.tm t = .undef) → ∃ cs', cs'.st = { cs.st with tm := fun t => if t < i then cs.st.tm t else l.getD (t - i) .undef } ∧ k cs'
  | [], i, cs, k, h, hc => ⟨cs, St.ext' (fun t => by
      show cs.st.tm t = if t < i then cs.st.tm t else _
      split
      · rfl
      · rw [hc t (by omega)]; rfl) rfl rfl rfl, h⟩
  | x :: r, i, cs, k, h, hc => by
    unfold argsK at h
    rw [AV.force_eq] at h
    obtain ⟨cs1, e1, h1⟩ := CSt.putK_st h
    have hput : ∀ t, cs1.st.tm t = if t = i then x else cs.st.tm t := fun t => by
      rw [e1]
      show (bif Nat.beq t i then x else cs.st.tm t) = _
      rw [bf]; simp
    obtain ⟨cs2, e2, h2⟩ := argsK_st h1 fun t ht => by rw [hput, if_neg (by omega), hc t (by omega)]
    refine ⟨cs2, ?_, h2⟩
    rw [e2]
    refine St.ext' (fun t => ?_) (by rw [e1]; rfl) (by rw [e1]; rfl) (by rw [e1]; rfl)
    show (if t < i + 1 then cs1.st.tm t else r.getD (t - (i + 1)) .undef) = if t < i then cs.st.tm t else (x :: r).getD (t - i) .undef
    rw [hput]
    by_cases h1 : t < i
    · rw [if_pos (by omega), if_pos h1, if_neg (by omega)]
    · rw [if_neg h1]
      by_cases h2 : t = i
      · subst h2; rw [if_pos (by omega), if_pos rfl]; simp
      · rw [if_neg (by omega), show t - i = (t - (i + 1)) + 1 by omega]; simp
def entryK (args : List AV) (ob : List (Nat × MO)) (nb n : Nat) (k : CSt → Prop) : Prop := fOb ob fun ob => fN n fun n => argsK 0 args ⟨.e, .undef, ob, nb, n⟩ k
theorem entryK_st {args : List AV} {ob : List (Nat × MO)} {nb n : Nat} {k : CSt → Prop} (h : entryK args ob nb n k) : ∃ cs, cs.st = entry args ob nb n ∧ k cs := by
  unfold entryK at h
  rw [fOb_eq, fN_eq] at h
  obtain ⟨cs, e, hk⟩ := argsK_st h fun t _ => rfl
  exact ⟨cs, by rw [e]; exact St.ext' (fun t => show (if t < 0 then AV.undef else args.getD (t - 0) .undef) = args.getD t .undef by rw [if_neg (Nat.not_lt_zero t)]; rfl) rfl rfl rfl, hk⟩

theorem VFn.introC {P : Program} [Tabs P] {F : FuncId} {fn : Func} {c : Code} {args : List AV} {r : AV} (hen : Enters P F) (hf : P.funcs[F]? = some fn) (hb : fn.body = some c) (hn : Nat.ble args.length fn.ntmps = true)
    (h : entryK args [] 0 fn.ntmps fun cs => wpC P 0 c cs fun e cs => Done P fn.results.toList r e cs.st) : VFn P F args r := by
  obtain ⟨cs, e, h1⟩ := entryK_st h
  refine VFn.introSW hen hf hb hn ?_
  have h2 := wpC_SW c cs _ h1
  rw [e] at h2
  exact h2.mono fun e st' ⟨cs', ecs, hq⟩ => by subst ecs; exact hq
theorem FnM.introC {P : Program} [Tabs P] {F : FuncId} {fn : Func} {c : Code} {nb nx : Nat} {args : List AV} {O O' : List (Nat × MO)} {r : AV} (hen : Enters P F) (hf : P.funcs[F]? = some fn) (hb : fn.body = some c) (hn : Nat.ble args.length fn.ntmps = true)
    (h : entryK args O nb fn.ntmps fun cs => wpC P nb c cs fun e cs => DoneM P fn.results.toList nb r O' nx e cs.st) : FnM P F nb args O r O' nx := by
  obtain ⟨cs, e, h1⟩ := entryK_st h
  refine FnM.introSW hen hf hb hn ?_
  have h2 := wpC_SW c cs _ h1
  rw [e] at h2
  exact h2.mono fun e st' ⟨cs', ecs, hq⟩ => by subst ecs; exact hq
end Go.Vw
