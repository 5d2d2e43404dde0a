/- Vw18: a part of a tool for walks: what a piece of a Go program does, by abstract values. It holds of every program; no condition. -/
import Derived.Test.YtopkjoalbinljaaDoorV17
import Derived.StillTail
set_option linter.unusedVariables false
set_option linter.unusedSimpArgs false
set_option linter.unusedSectionVars false
namespace Go.Vw
open Go

/-- A call that writes nothing: to a function of values; its result is scalar, or its arguments are nobody's own. -/
def PureCall (P : Program) [Tabs P] (F : FuncId) (l : List AV) (ob : List (Nat × MO)) (r : AV) : Prop :=
  (VFn P F (AV.fzs ob (fun _ => none) l) r ∧ r.sca = true) ∨ (VFn P F l r ∧ AV.nls l = true)
@[irreducible] def PCallG (P : Program) [Tabs P] (F : FuncId) (l : List AV) (st : St) (d : Option Tmp) (next : St → Prop) : Prop := ∃ r, PureCall P F l st.ob r ∧ next (st.put d r)
theorem PCallG.sca {P : Program} [Tabs P] {F : FuncId} {l : List AV} {st : St} {d : Option Tmp} {next : St → Prop} (r : AV) (h : VFn P F (AV.fzs st.ob (fun _ => none) l) r) (hr : r.sca = true) (hn : next (st.put d r)) : PCallG P F l st d next := by
  unfold PCallG; exact ⟨r, .inl ⟨h, hr⟩, hn⟩
theorem PCallG.nl {P : Program} [Tabs P] {F : FuncId} {l : List AV} {st : St} {d : Option Tmp} {next : St → Prop} (r : AV) (h : VFn P F l r) (hl : AV.nls l = true) (hn : next (st.put d r)) : PCallG P F l st d next := by
  unfold PCallG; exact ⟨r, .inr ⟨h, hl⟩, hn⟩

def exPOp (P : Program) [Tabs P] (o : Oper) (nm : Nat) (st : St) (next : St → Prop) : Prop :=
  match dstOK o.dst st.n with
  | false => False
  | true => match o.op with
    | .call ⟨.value f, args, _⟩ => (match st.ev f with | .fn (.func F) xs ys => forceL (xs ++ (args.toList.map st.ev ++ ys)) (fun l => PCallG P F l st o.dst next) | _ => False)
    | op => match pas P st.ev (look st.ob) nm op with
      | some p => (match p.mo with
        | none => andO p.pre (p.r.force fun r => next (st.put o.dst r))
        | some mo => andO p.pre (p.r.force fun r => next (({ st with ob := (nm, mo) :: st.ob } : St).put o.dst r)))
      | none => False

/-- The operations in the text's order, none of them writing what was there. -/
def exD (P : Program) [Tabs P] (all : Array Oper) (base : Nat) : Nat → List Oper → St → (St → Prop) → Prop
  | _, [], st, next => next st
  | i, o :: r, st, next => match o.guard with
    | none => exPOp P o (base + i) st fun st' => exD P all base (i + 1) r st' next
    | some (j, want) => match (all[j]?).bind (·.dst) with
      | some t => (match Nat.blt t st.n, dstOK o.dst st.n with
        | true, true => (match st.tm t with
          | .bool c => (match want with
            | true => Grd c (exPOp P o (base + i) (st.put (some t) (.bool true)) fun st' => exD P all base (i + 1) r st' next) (exD P all base (i + 1) r ((st.put (some t) (.bool false)).put o.dst .undef) next)
            | false => Grd c (exD P all base (i + 1) r ((st.put (some t) (.bool true)).put o.dst .undef) next) (exPOp P o (base + i) (st.put (some t) (.bool false)) fun st' => exD P all base (i + 1) r st' next))
          | .undef => exD P all base (i + 1) r (st.put o.dst .undef) next
          | _ => False)
        | _, _ => False)
      | none => False

def wantedS (all : Array Oper) (st : St) (o : Oper) : Option Bool :=
  match o.guard with
  | none => some true
  | some (j, want) => match (all[j]?).bind (·.dst) with
    | some t => (match Nat.blt t st.n with | true => (match st.tm t with | .bool c => some (c == want) | .undef => some false | _ => none) | false => none)
    | none => none

inductive PAct (P : Program) [Tabs P] (nm : Nat) (o : Oper) (st : St) : St → Prop
  | pas (p : PO) (h : pas P st.ev (look st.ob) nm o.op = some p) (hpre : ∀ q, p.pre = some q → q) :
      PAct P nm o st (match p.mo with | none => st.put o.dst p.r | some mo => ({ st with ob := (nm, mo) :: st.ob } : St).put o.dst p.r)
  | call (f : Operand) (args : Array Operand) (tys : Array TypeId) (F : FuncId) (xs ys : List AV) (r : AV) (hop : o.op = .call ⟨.value f, args, tys⟩) (hf : st.ev f = .fn (.func F) xs ys)
      (h : PureCall P F (xs ++ (args.toList.map st.ev ++ ys)) st.ob r) : PAct P nm o st (st.put o.dst r)

def PStep (P : Program) [Tabs P] (all : Array Oper) (nm : Nat) (o : Oper) (st st' : St) : Prop :=
  dstOK o.dst st.n = true ∧ ((wantedS all st o = some false ∧ st' = st.put o.dst .undef) ∨ (wantedS all st o = some true ∧ PAct P nm o st st'))

def PSteps (P : Program) [Tabs P] (all : Array Oper) (base : Nat) : Nat → List Oper → St → St → Prop
  | _, [], st, st' => st' = st
  | i, o :: r, st, st' => ∃ st1, PStep P all (base + i) o st st1 ∧ PSteps P all base (i + 1) r st1 st'

theorem put_lit {st : St} {t : Nat} {c : Bool} (h : st.tm t = .bool c) : st.put (some t) (.bool c) = st := by
  cases st
  simp only [St.put] at *
  congr 1
  funext s
  cases hb : Nat.beq s t
  · rfl
  · have e := Nat.eq_of_beq_eq_true hb; subst e; rw [h]; rfl

theorem exPOp_act {P : Program} [Tabs P] {o : Oper} {nm : Nat} {st : St} {next : St → Prop} (h : exPOp P o nm st next) : dstOK o.dst st.n = true ∧ ∃ st', PAct P nm o st st' ∧ next st' := by
  unfold exPOp at h
  split at h
  · cases h
  rename_i hd
  refine ⟨hd, ?_⟩
  split at h
  · rename_i f args tys hop
    split at h
    · rename_i F xs ys hf
      rw [forceL_eq] at h
      unfold PCallG at h
      obtain ⟨r, hc, hn⟩ := h
      exact ⟨_, .call f args tys F xs ys r hop hf hc, hn⟩
    · cases h
  · split at h
    · rename_i p hp
      have key : (∀ q, p.pre = some q → q) ∧ next (match p.mo with | none => st.put o.dst p.r | some mo => ({ st with ob := (nm, mo) :: st.ob } : St).put o.dst p.r) := by
        split at h
        · rename_i hm; obtain ⟨h1, h2⟩ := andO_right h; rw [AV.force_eq] at h2; exact ⟨h1, h2⟩
        · rename_i mo hm; obtain ⟨h1, h2⟩ := andO_right h; rw [AV.force_eq] at h2; exact ⟨h1, h2⟩
      exact ⟨_, .pas p hp key.1, key.2⟩
    · cases h

theorem exD_steps {P : Program} [Tabs P] {all : Array Oper} {base : Nat} : ∀ (l : List Oper) (i : Nat) (st : St) (next : St → Prop), exD P all base i l st next → ∃ st', PSteps P all base i l st st' ∧ next st'
  | [], _, st, next, h => ⟨st, rfl, h⟩
  | o :: r, i, st, next, h => by
    have go : ∀ st1, PStep P all (base + i) o st st1 → exD P all base (i + 1) r st1 next → ∃ st', PSteps P all base i (o :: r) st st' ∧ next st' := fun st1 h1 h2 => by
      obtain ⟨st', h3, h4⟩ := exD_steps r (i + 1) st1 next h2
      exact ⟨st', ⟨st1, h1, h3⟩, h4⟩
    unfold exD at h
    split at h
    · rename_i hg
      obtain ⟨hd, st1, h1, h2⟩ := exPOp_act h
      exact go st1 ⟨hd, .inr ⟨by simp [wantedS, hg], h1⟩⟩ h2
    · rename_i j want hg
      split at h
      · rename_i t hj
        split at h
        · rename_i ht hd
          split at h
          · rename_i c hc
            have hw : wantedS all st o = some (c == want) := by simp [wantedS, hg, hj, ht, hc]
            cases c <;> split at h <;> simp only [Grd] at h <;> rw [put_lit hc] at h
            · exact go _ ⟨hd, .inl ⟨hw, rfl⟩⟩ h
            · obtain ⟨_, st1, h1, h2⟩ := exPOp_act h
              exact go st1 ⟨hd, .inr ⟨hw, h1⟩⟩ h2
            · obtain ⟨_, st1, h1, h2⟩ := exPOp_act h
              exact go st1 ⟨hd, .inr ⟨hw, h1⟩⟩ h2
            · exact go _ ⟨hd, .inl ⟨hw, rfl⟩⟩ h
          · rename_i hc
            exact go _ ⟨hd, .inl ⟨by simp [wantedS, hg, hj, ht, hc], rfl⟩⟩ h
          · cases h
        · cases h
      · cases h

theorem PSteps.seq {P : Program} [Tabs P] {all : Array Oper} {base : Nat} : ∀ (l : List Oper) (i : Nat) (st st' : St), PSteps P all base i l st st' →
    ∃ s : Nat → St, s i = st ∧ s (i + l.length) = st' ∧ ∀ k o, l[k]? = some o → PStep P all (base + (i + k)) o (s (i + k)) (s (i + k + 1))
  | [], i, st, st', h => ⟨fun _ => st, rfl, by simp [PSteps] at h; exact h.symm, fun k o hk => by simp at hk⟩
  | o :: r, i, st, st', ⟨st1, h1, h2⟩ => by
    obtain ⟨s, e1, e2, e3⟩ := PSteps.seq r (i + 1) st1 st' h2
    refine ⟨fun k => if k = i then st else s k, by simp, by simp only [List.length_cons]; rw [if_neg (by omega)]; rw [← e2]; congr 1; omega, fun k q hk => ?_⟩
    cases k with
    | zero =>
      simp at hk; subst hk
      dsimp only
      rw [Nat.add_zero, if_pos rfl, if_neg (by omega), e1]; exact h1
    | succ k =>
      simp at hk
      have := e3 k q hk
      dsimp only
      rw [if_neg (by omega), if_neg (by omega)]
      have e4 : i + 1 + k = i + (k + 1) := by omega
      rw [e4] at this
      exact this

/-- An operation's operands and its guard's slot. -/
def readsOf (all : Array Oper) (o : Oper) : List Tmp :=
  (o.op.operands.toList.filterMap fun | .tmp t => some t | _ => none) ++ (match o.guard with | some (j, _) => ((all[j]?).bind (·.dst)).toList | none => [])
def dstAt (all : Array Oper) (i : Nat) : Option Tmp := (all[i]?).bind (·.dst)
/-- Each slot is written once; what reads it waits, or is waited for. -/
def tempsB (all : Array Oper) (n : Nat) : Bool :=
  (List.range n).all fun i => (List.range n).all fun j => Nat.beq i j || (match dstAt all j with
    | none => true
    | some t => !(dstAt all i == some t) && (!(((all[i]?).map (readsOf all)).getD []).contains t || (if j < i then Region.waitsFor .any all i j else Region.waitsFor .any all j i)))
/-- Edges lead back; no operation is a select. -/
def backB (all : Array Oper) (n : Nat) : Bool :=
  (List.range n).all fun i => match all[i]? with | some o => o.after.all fun e => !Region.binds .any e || Nat.blt e.on i | none => false
def firstN (n m : Nat) : Array Bool := ((List.range m).map fun i => Nat.blt i n).toArray
def drawOK (all : Array Oper) (n : Nat) : Bool :=
  (Nat.ble n all.size && tempsB all n) && (backB all n && ((Nat.beq n all.size || (Region.sinkB .any all n && Region.chainB .any all n)) && Region.seqB .any all (all.size - n) n (firstN n all.size)))

theorem tempsB_spec {all : Array Oper} {n : Nat} (h : tempsB all n = true) {i j t : Nat} (hi : i < n) (hj : j < n) (hne : i ≠ j) (hd : dstAt all j = some t) :
    dstAt all i ≠ some t ∧ ∀ o, all[i]? = some o → t ∈ readsOf all o → (j < i → Region.waitsFor .any all i j = true) ∧ (i < j → Region.waitsFor .any all j i = true) := by
  have h1 := List.all_eq_true.1 (List.all_eq_true.1 h i (List.mem_range.2 hi)) j (List.mem_range.2 hj)
  have hb : Nat.beq i j = false := by
    cases hb : Nat.beq i j
    · rfl
    · exact absurd (Nat.eq_of_beq_eq_true hb) hne
  simp only [hb, Bool.false_or, hd, Bool.and_eq_true, Bool.not_eq_true', Bool.or_eq_true] at h1
  refine ⟨fun e => by simp [e] at h1, fun o ho ht => ?_⟩
  have h2 : Region.waitsFor .any all i j = true ∧ j < i ∨ Region.waitsFor .any all j i = true ∧ ¬ j < i := by
    rcases h1.2 with h2 | h2
    · simp [ho, ht] at h2
    · split at h2
      · exact .inl ⟨h2, ‹_›⟩
      · exact .inr ⟨h2, ‹_›⟩
  rcases h2 with ⟨h2, h3⟩ | ⟨h2, h3⟩
  · exact ⟨fun _ => h2, fun h => by omega⟩
  · exact ⟨fun h => absurd h h3, fun _ => h2⟩

theorem pas_congr {P : Program} [Tabs P] {ev ev' : Operand → AV} {lk : Nat → Option MO} {nm : Nat} {op : Op} (h : ∀ x ∈ op.operands, ev x = ev' x) : pas P ev lk nm op = pas P ev' lk nm op := by
  cases op with
  | call c =>
    obtain ⟨callee, args, tys⟩ := c
    have hargs : ∀ x ∈ args.toList, ev x = ev' x := fun x hx => h x (by simp [Op.operands, Call.operands]; exact .inr (by simpa using hx))
    cases callee with
    | builtin b =>
      cases b <;> simp only [pas]
      all_goals
        split <;> first | rfl | skip
        all_goals
          rename_i hl
          rw [hl] at hargs
          simp only [List.mem_cons, List.not_mem_nil, or_false, forall_eq_or_imp, forall_eq] at hargs
          simp [hargs]
    | value f => rfl
    | invoke r m => rfl
  | slice t x lo hi mx =>
    simp only [Op.operands] at h
    cases mx <;> simp only [pas]
    rw [h x (by simp)]
    cases lo <;> cases hi <;> simp [h]
    all_goals
      congr 1
      first
      | exact congrArg some (h _ (by simp))
      | skip
  | build t ps =>
    have : (ps.toList.map fun p => (p.1, ev p.2)) = ps.toList.map fun p => (p.1, ev' p.2) := List.map_congr_left fun p hp => by
      rw [h p.2 (by simp [Op.operands]; exact ⟨p.1, by simpa using hp⟩)]
    simp only [pas, this]
  | buildSlice t n ps =>
    have : (ps.toList.map fun p => (p.1, ev p.2)) = ps.toList.map fun p => (p.1, ev' p.2) := List.map_congr_left fun p hp => by
      rw [h p.2 (by simp [Op.operands]; exact ⟨p.1, by simpa using hp⟩)]
    simp only [pas, this]
  | makeFunc f xs ys =>
    have h1 : xs.toList.map ev = xs.toList.map ev' := List.map_congr_left fun x hx => h x (by simp [Op.operands]; exact .inl (by simpa using hx))
    have h2 : ys.toList.map ev = ys.toList.map ev' := List.map_congr_left fun x hx => h x (by simp [Op.operands]; exact .inr (by simpa using hx))
    simp only [pas, h1, h2]
  | unOp op t x => cases op <;> simp only [pas, h x (by simp [Op.operands])]
  | lookup t x i c => cases c <;> simp only [pas, h x (by simp [Op.operands]), h i (by simp [Op.operands])]
  | makeMap t r => cases r <;> rfl
  | _ => first | rfl | (simp only [Op.operands] at h; simp [pas, h])
end Go.Vw
