/- Vw14: a part of a tool for walks: what a piece of a Go program does, by abstract values. It holds of every program; no condition. -/
import Derived.Test.YtopkjoalbinljaaDoorV13
set_option linter.unusedVariables false
set_option linter.unusedSimpArgs false
set_option linter.unusedSectionVars false
namespace Go.Vw
open Go

/-- What the world bears throughout (a package's tables), and the blocks on which that hangs. -/
class Tabs (P : Program) where
  tab : Nat → Prop
  J : World → Prop
  lt : ∀ w b, J w → tab b → b < w.heap.size
  stay : ∀ w w' : World, J w → (∀ b, tab b → w'.heap[b]? = w.heap[b]?) → J w'
@[reducible] def Tabs.nothing (P : Program) : Tabs P := ⟨fun _ => False, fun _ => True, fun _ _ _ h => h.elim, fun _ _ _ _ => trivial⟩
def JJ (P : Program) [Tabs P] (w0 : World) (gr : Nat → Prop) : Prop := Tabs.J P w0 ∧ ∀ b, Tabs.tab P b → ¬ gr b
theorem JJ.now {P : Program} [Tabs P] {w0 w : World} {gr : Nat → Prop} (h : JJ P w0 gr) (f : Frm w0 gr w) : Tabs.J P w :=
  Tabs.stay w0 w h.1 fun b hb => f.old b (Tabs.lt w0 b h.1 hb) (h.2 b hb)

/-- The function is entered where it is called. -/
def Enters (P : Program) (F : FuncId) : Prop := ∀ (args : Array Value) (w : World), (callFunc F args).run P w = .ok (.enter F args) w

def CallR (P : Program) [Tabs P] (F : FuncId) (args : List AV) (st : St) (d : Option Tmp) (st2 : St) : Prop :=
  Enters P F ∧ ∀ gb w0 gr ok0 g ok a w vs, JJ P w0 gr → Rep gb w0 gr ok0 st g ok a w → RVs w ok g args vs →
    Calls P F vs.toArray w fun e w' => ∃ v g' ok', e = .returned v ∧ Rep gb w0 gr ok0 st2 g' ok' (a.put d v) w'

/-- A call: left to the function's contract. -/
@[irreducible] def CallG (P : Program) [Tabs P] (F : FuncId) (args : List AV) (st : St) (d : Option Tmp) (next : St → Prop) : Prop := ∃ st2, CallR P F args st d st2 ∧ next st2

theorem CallG.mk {P : Program} [Tabs P] {F : FuncId} {args : List AV} {st : St} {d : Option Tmp} {next : St → Prop} (st2 : St) (h : CallR P F args st d st2) (hn : next st2) : CallG P F args st d next := by
  unfold CallG; exact ⟨st2, h, hn⟩

/-- 'k x', x being brought to its first sign. -/
def AV.force (x : AV) (k : AV → Prop) : Prop :=
  match x with
  | .any => k .any | .int a b => k (.int a b) | .bool b => k (.bool b) | .str s => k (.str s) | .agg c => k (.agg c) | .tup c => k (.tup c) | .nilsl => k .nilsl
  | .sl a b c => k (.sl a b c) | .osl m => k (.osl m) | .eptr a b => k (.eptr a b) | .bptr a b => k (.bptr a b) | .aptr a b c d => k (.aptr a b c d) | .nilptr => k .nilptr | .iface a b => k (.iface a b)
  | .niliface => k .niliface | .fn a b c => k (.fn a b c) | .nilfn => k .nilfn | .omap m => k (.omap m) | .undef => k .undef
theorem AV.force_eq (x : AV) (k : AV → Prop) : x.force k = k x := by cases x <;> rfl
def forceL : List AV → (List AV → Prop) → Prop
  | [], k => k []
  | x :: r, k => x.force fun y => forceL r fun s => k (y :: s)
theorem forceL_eq : ∀ (l : List AV) (k : List AV → Prop), forceL l k = k l
  | [], _ => rfl
  | x :: r, k => by simp only [forceL, AV.force_eq, forceL_eq r]

def andO (p : Option Prop) (q : Prop) : Prop := match p with | some r => r ∧ q | none => q

def exOp (P : Program) [Tabs P] (o : Oper) (st : St) (next : St → Prop) : Prop :=
  match dstOK o.dst st.n with
  | false => False
  | true => match o.op with
    | .store t x y => (match stAV P st t (st.ev x) (st.ev y) with | some st' => next (st'.put o.dst .any) | none => False)
    | .mapUpdate t x k y => (match mupAV P st t (st.ev x) (st.ev k) (st.ev y) with | some st' => next (st'.put o.dst .any) | none => False)
    | .call ⟨.value f, args, _⟩ => (match st.ev f with | .fn (.func F) xs ys => forceL (xs ++ (args.toList.map st.ev ++ ys)) (fun l => CallG P F l st o.dst next) | _ => False)
    | .call ⟨.builtin .append, args, tys⟩ => (match args.toList, tys.toList with
      | [x, y], [t, tx] => (match appAV P st t tx (st.ev x) (st.ev y) with | some out => out.pre ∧ next (out.st.put o.dst (.osl st.next)) | none => False)
      | _, _ => False)
    | op => match pas P st.ev (look st.ob) st.next op with
      | some p => (match p.mo with
        | none => andO p.pre (p.r.force fun r => next (st.put o.dst r))
        | some mo => andO p.pre (p.r.force fun r => next ((st.add mo).put o.dst r)))
      | none => False

def Grd (c : Bool) (A B : Prop) : Prop := match c with | true => A | false => B
theorem Grd.intro {c : Bool} {A B : Prop} (h1 : c = true → A) (h2 : c = false → B) : Grd c A B := by cases c <;> simp_all [Grd]

def exOps (P : Program) [Tabs P] (all : Array Oper) : List Oper → St → (St → Prop) → Prop
  | [], st, next => next st
  | o :: r, st, next => match o.guard with
    | none => exOp P o st fun st' => exOps P all r st' next
    | some (j, want) => match (all[j]?).bind (·.dst) with
      | some t => (match Nat.blt t st.n, dstOK o.dst st.n with
        | true, true => (match st.tm t with
          | .bool c => (match want with
            | true => Grd c (exOp P o (st.put (some t) (.bool true)) fun st' => exOps P all r st' next) (exOps P all r ((st.put (some t) (.bool false)).put o.dst .undef) next)
            | false => Grd c (exOps P all r ((st.put (some t) (.bool true)).put o.dst .undef) next) (exOp P o (st.put (some t) (.bool false)) fun st' => exOps P all r st' next))
          | .undef => exOps P all r (st.put o.dst .undef) next
          | _ => False)
        | _, _ => False)
      | none => False

section
variable {P : Program} [Tabs P] {gb : Nat → Option Gh} {w0 : World} {gr ok0 : Nat → Prop} {st : St} {g : Nat → Option Gh} {ok : Nat → Prop} {a : Act} {w : World} {o : Oper} {Q : Exit → Act → World → Prop}

theorem Rep.obr (h : Rep gb w0 gr ok0 st g ok a w) : ∀ m mo G, look st.ob m = some mo → g m = some G → MRel w ok g G mo := fun m mo G hm hg => by
  obtain ⟨K, hK, hr⟩ := h.obs.rel m mo hm
  rw [hg] at hK; cases hK; exact hr

theorem put_n (st : St) (d : Option Tmp) (x : AV) : (st.put d x).n = st.n := by cases d <;> rfl

theorem andO_right {p : Option Prop} {q : Prop} (h : andO p q) : (∀ r, p = some r → r) ∧ q := by
  cases p with
  | none => exact ⟨fun _ e => (nomatch e), h⟩
  | some r => exact ⟨fun _ e => (by cases e; exact h.1), h.2⟩

theorem exOp_wp {next : St → Prop} (hj : JJ P w0 gr) (h : exOp P o st next) (hr : Rep gb w0 gr ok0 st g ok a w) :
    o.wp P a w (fun a' w' => ∃ st' g' ok', Rep gb w0 gr ok0 st' g' ok' a' w' ∧ next st') Q := by
  unfold exOp at h
  split at h
  · cases h
  rename_i hd
  have pasCase : ∀ p, pas P st.ev (look st.ob) st.next o.op = some p → (match p.mo with
        | none => andO p.pre (p.r.force fun r => next (st.put o.dst r))
        | some mo => andO p.pre (p.r.force fun r => next ((st.add mo).put o.dst r))) → o.wp P a w (fun a' w' => ∃ st' g' ok', Rep gb w0 gr ok0 st' g' ok' a' w' ∧ next st') Q := by
    intro p hp hn
    simp only [AV.force_eq] at hn
    have hpre : ∀ q, p.pre = some q → q := by
      intro q hq
      split at hn <;> exact (andO_right hn).1 q hq
    have := pas_does (o := o) (a := a) (nm := st.next) (fun b hb => (hr.obs.okb b hb).1) (hr.fresh _ (Nat.le_refl _)) hr.ev hr.obr hp hpre
    unfold Does at this
    unfold Oper.wp
    cases hmo : p.mo with
    | none =>
      simp only [hmo] at this hn
      obtain ⟨v, hrun, hv⟩ := this
      rw [hrun, Oper.upon_value]
      exact ⟨_, g, ok, hr.put hd hv, (andO_right hn).2⟩
    | some mo =>
      simp only [hmo] at this hn
      obtain ⟨v, obj, G, hrun, hG, hm, hv⟩ := this
      rw [hrun, Oper.upon_value]
      exact ⟨_, _, ok, (hr.add hG hm).put hd hv, (andO_right hn).2⟩
  split at h
  · rename_i t x y hop
    split at h
    · rename_i st' hst
      obtain ⟨w', hrun, hr'⟩ := store_rep hr hop hst
      have hn : st'.n = st.n := by rw [← hr'.n, hr.n]
      unfold Oper.wp
      rw [hrun, Oper.upon_skip]
      exact ⟨_, g, ok, hr'.put (x := .any) (by rw [hn]; exact hd) trivial, h⟩
    · cases h
  · rename_i t x k y hop
    split at h
    · rename_i st' hst
      obtain ⟨w', hrun, hr'⟩ := mapUpd_rep hr (.inl hop) hst
      have hn : st'.n = st.n := by rw [← hr'.n, hr.n]
      unfold Oper.wp
      rw [hrun, Oper.upon_skip]
      exact ⟨_, g, ok, hr'.put (x := .any) (by rw [hn]; exact hd) trivial, h⟩
    · cases h
  · rename_i f args tys hop
    split at h
    · rename_i F xs ys hf
      rw [forceL_eq] at h
      unfold CallG at h
      obtain ⟨st2, ⟨hen, hc⟩, hn⟩ := h
      have hfv := hr.ev f
      rw [hf] at hfv
      obtain ⟨us, vs, hv, h1, h2⟩ := hfv
      have hargs := h1.append ((RVs_map hr.ev args.toList).append h2)
      have := hc gb w0 gr ok0 g ok a w _ hj hr hargs
      have e : (us.toArray ++ args.map a.eval ++ vs.toArray) = (us ++ (args.toList.map a.eval ++ vs)).toArray := by
        apply Array.ext'; simp
      have hrun : (execOp a.eval o).run P w = .ok (.enter F (us ++ (args.toList.map a.eval ++ vs)).toArray) w := by
        rw [← e]
        simp [execOp, hop, resolve, hv, Deferred.ofValue, invoke, hen _ w]
      unfold Oper.wp
      rw [hrun, Oper.upon_enter]
      refine this.mono ?_
      rintro e w' ⟨v, g', ok', rfl, hr'⟩
      exact ⟨st2, g', ok', hr', hn⟩
    · cases h
  · rename_i args tys hop
    split at h
    · rename_i x y t tx ha ht
      split at h
      · rename_i out hout
        obtain ⟨hpre, hn⟩ := h
        have hargs : args = #[x, y] := by apply Array.ext'; simpa using ha
        have htys : tys = #[t, tx] := by apply Array.ext'; simpa using ht
        subst hargs htys
        obtain ⟨v, w', g', hrun, hr', hv⟩ := append_rep hr hop hout hpre
        have hn' : out.st.n = st.n := by rw [← hr'.n, hr.n]
        unfold Oper.wp
        rw [hrun, Oper.upon_value]
        exact ⟨_, g', ok, hr'.put (by rw [hn']; exact hd) hv, hn⟩
      · cases h
    · cases h
  · split at h
    · rename_i p hp
      exact pasCase p hp h
    · cases h

theorem yielded_of {ops : Array Oper} {j t : Nat} (hj : (ops[j]?).bind (·.dst) = some t) (ht : t < a.tmps.size) : yielded ops a.tmps j = match a.tmps.getD t Go.undef with | .bool b => some b | _ => none := by
  unfold yielded
  rw [hj]
  have : a.tmps[t]? = some (a.tmps.getD t Go.undef) := by simp [Array.getD, ht]
  simp only [Option.bind_some, this]
  generalize a.tmps.getD t Go.undef = v
  cases v <;> rfl

theorem Rep.lit (h : Rep gb w0 gr ok0 st g ok a w) {t : Nat} {c : Bool} (hc : st.tm t = .bool c) : Rep gb w0 gr ok0 (st.put (some t) (.bool c)) g ok a w := by
  refine ⟨fun s => ?_, h.obs, h.own, h.fresh, h.base, h.frm, h.df, h.n, h.okf⟩
  show RV w ok g (bif Nat.beq s t then AV.bool c else st.tm s) _
  cases hb : Nat.beq s t
  · exact h.tm s
  · have e := Nat.eq_of_beq_eq_true hb
    subst e
    have := h.tm s
    rw [hc] at this
    exact this

theorem exOps_wp {all : Array Oper} (hj0 : JJ P w0 gr) : ∀ (l : List Oper) {next : St → Prop} {st : St} {g : Nat → Option Gh} {ok : Nat → Prop} {a : Act} {w : World}, exOps P all l st next → Rep gb w0 gr ok0 st g ok a w →
    (∀ st' g' ok' a' w', Rep gb w0 gr ok0 st' g' ok' a' w' → next st' → Q .normal a' w') → wpList P all Q l a w
  | [], next, st, g, ok, a, w, h, hr, hQ => hQ st g ok a w hr h
  | o :: r, next, st, g, ok, a, w, h, hr, hQ => by
    have hmono : ∀ (K : Act → World → Prop), o.wp P a w K Q → (∀ a w, K a w → wpList P all Q r a w) → o.wp P a w (wpList P all Q r) Q := by
      intro K hK hKQ
      unfold Oper.wp Oper.upon at *
      split at hK <;> first | exact hKQ _ _ hK | exact hK | skip
      all_goals (first | (refine Calls.mono hK ?_; intro e w' he; cases e <;> first | exact hKQ _ _ he | exact he) | (exact Rows.mono hK fun v w' hv => hKQ _ _ hv))
    unfold exOps at h
    split at h
    · rename_i hgd
      have hw : Region.wanted o (yielded all a.tmps) = true := by simp [Region.wanted, hgd]
      unfold wpList
      rw [if_pos hw]
      left
      exact hmono _ (exOp_wp hj0 h hr) fun a' w' ⟨st', g', ok', hr', hn⟩ => exOps_wp hj0 r hn hr' hQ
    · rename_i j want hgd
      split at h
      · rename_i t hj
        split at h
        · rename_i ht hd
          have htn : t < a.tmps.size := by rw [hr.n]; exact Nat.le_of_ble_eq_true ht
          have hy := yielded_of (a := a) hj htn
          have hskip : ∀ st1, Rep gb w0 gr ok0 st1 g ok a w → st1.n = st.n → Region.wanted o (yielded all a.tmps) = false → exOps P all r (st1.put o.dst .undef) next → wpList P all Q (o :: r) a w := by
            intro st1 hr1 hn1 hw hx
            unfold wpList
            rw [if_neg (by rw [hw]; decide)]
            exact exOps_wp hj0 r hx (hr1.put (by rw [hn1]; exact hd) rfl) hQ
          have hdo : ∀ st1, Rep gb w0 gr ok0 st1 g ok a w → Region.wanted o (yielded all a.tmps) = true → (exOp P o st1 fun st' => exOps P all r st' next) → wpList P all Q (o :: r) a w := by
            intro st1 hr1 hw hx
            unfold wpList
            rw [if_pos hw]
            left
            exact hmono _ (exOp_wp hj0 hx hr1) fun a' w' ⟨st', g', ok', hr', hn⟩ => exOps_wp hj0 r hn hr' hQ
          split at h
          · rename_i c hc
            have hv := hr.tm t
            rw [hc] at hv
            simp only [RV] at hv
            rw [hv] at hy
            have hw : Region.wanted o (yielded all a.tmps) = (c == want) := by simp [Region.wanted, hgd, hy]
            cases c <;> split at h <;> simp only [Grd] at h
            · exact hskip _ (hr.lit hc) rfl hw h
            · exact hdo _ (hr.lit hc) hw h
            · exact hdo _ (hr.lit hc) hw h
            · exact hskip _ (hr.lit hc) rfl hw h
          · rename_i hc
            have hv := hr.tm t
            rw [hc] at hv
            simp only [RV] at hv
            rw [hv] at hy
            have hw : Region.wanted o (yielded all a.tmps) = false := by simp [Region.wanted, hgd, hy, Go.undef]
            exact hskip st hr rfl hw h
          · cases h
        · cases h
      · cases h
end
end Go.Vw
