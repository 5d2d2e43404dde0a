/- Vw26: a part of a tool for walks: what a piece of a Go program does, by abstract values. It holds of every program; no condition. -/
import Derived.Test.YtopkjoalbinljaaDoorV25
set_option linter.unusedVariables false
set_option linter.unusedSimpArgs false
set_option linter.unusedSectionVars false
namespace Go.Vw
open Go

/-- Slots in a tree: the place k (from 1 on) is the root, or lies in the half of its last bit. -/
inductive Tr where
  | e
  | n (v : AV) (l r : Tr)
def Tr.get (d : AV) : Tr → Nat → AV
  | .e, _ => d
  | .n v l r, k => bif Nat.ble k 1 then v else bif Nat.beq (Nat.mod k 2) 0 then l.get d (Nat.div k 2) else r.get d (Nat.div k 2)
/-- a road to a place, and what lies there -/
def roadK (d x : AV) : Nat → Nat → (Tr → Prop) → Prop
  | 0, _, _ => False
  | f + 1, k, c => bif Nat.ble k 1 then c (.n x .e .e) else bif Nat.beq (Nat.mod k 2) 0 then roadK d x f (Nat.div k 2) fun t => c (.n d t .e) else roadK d x f (Nat.div k 2) fun t => c (.n d .e t)
def Tr.putK (d x : AV) : Tr → Nat → (Tr → Prop) → Prop
  | .e, k, c => roadK d x 14 k c
  | .n v l r, k, c => bif Nat.ble k 1 then c (.n x l r) else bif Nat.beq (Nat.mod k 2) 0 then l.putK d x (Nat.div k 2) fun t => c (.n v t r) else r.putK d x (Nat.div k 2) fun t => c (.n v l t)

theorem bf {b : Bool} {α : Sort _} {x y : α} : (bif b then x else y) = if b = true then x else y := by cases b <;> rfl
theorem half_ne {k j : Nat} (hk : 1 < k) (hj : 1 < j) (h2 : j % 2 = k % 2) : (j / 2 = k / 2 ↔ j = k) := by omega
theorem nb1 {k : Nat} (h : Nat.beq (Nat.mod k 2) 0 = true) : k % 2 = 0 := Nat.eq_of_beq_eq_true h
theorem nb0 {k : Nat} (h : k % 2 = 0) : Nat.beq (Nat.mod k 2) 0 = true := by
  show Nat.beq (k % 2) 0 = true
  rw [h]; rfl
theorem nbn {k : Nat} (h : ¬ k % 2 = 0) : ¬ Nat.beq (Nat.mod k 2) 0 = true := fun e => h (nb1 e)
theorem road_spec {d x : AV} : ∀ (f k : Nat) (c : Tr → Prop), roadK d x f k c → 1 ≤ k → ∃ t, c t ∧ ∀ j, 1 ≤ j → t.get d j = if j = k then x else d
  | 0, _, _, h, _ => h.elim
  | f + 1, k, c, h, h1 => by
    simp only [roadK, bf, Nat.ble_eq] at h
    split at h
    · have : k = 1 := by omega
      subst this
      refine ⟨_, h, fun j hj => ?_⟩
      simp only [Tr.get, bf, Nat.ble_eq]
      by_cases e : j ≤ 1
      · have : j = 1 := by omega
        subst this; simp
      · rw [if_neg e, if_neg (show ¬ j = 1 by omega)]; split <;> rfl
    · rename_i hk
      split at h
      · rename_i h2
        have h2' : k % 2 = 0 := nb1 h2
        obtain ⟨t, ht, hg⟩ := road_spec f (Nat.div k 2) _ h (show 1 ≤ k / 2 by omega)
        refine ⟨_, ht, fun j hj => ?_⟩
        simp only [Tr.get, bf, Nat.ble_eq]
        by_cases e : j ≤ 1
        · rw [if_pos e, if_neg (show ¬ j = k by omega)]
        · rw [if_neg e]
          by_cases p : j % 2 = 0
          · rw [if_pos (nb0 p), hg (Nat.div j 2) (show 1 ≤ j / 2 by omega)]
            simp only [show Nat.div j 2 = Nat.div k 2 ↔ j = k from half_ne (by omega) (by omega) (by omega)]
          · rw [if_neg (nbn p), if_neg (show ¬ j = k by omega)]
      · rename_i h2
        have h2' : ¬ k % 2 = 0 := fun e => h2 (nb0 e)
        obtain ⟨t, ht, hg⟩ := road_spec f (Nat.div k 2) _ h (show 1 ≤ k / 2 by omega)
        refine ⟨_, ht, fun j hj => ?_⟩
        simp only [Tr.get, bf, Nat.ble_eq]
        by_cases e : j ≤ 1
        · rw [if_pos e, if_neg (show ¬ j = k by omega)]
        · rw [if_neg e]
          by_cases p : j % 2 = 0
          · rw [if_pos (nb0 p), if_neg (show ¬ j = k by omega)]
          · rw [if_neg (nbn p), hg (Nat.div j 2) (show 1 ≤ j / 2 by omega)]
            simp only [show Nat.div j 2 = Nat.div k 2 ↔ j = k from half_ne (by omega) (by omega) (by omega)]
theorem put_spec {d x : AV} : ∀ (t : Tr) (k : Nat) (c : Tr → Prop), t.putK d x k c → 1 ≤ k → ∃ t', c t' ∧ ∀ j, 1 ≤ j → t'.get d j = if j = k then x else t.get d j
  | .e, k, c, h, h1 => by
    obtain ⟨t, ht, hg⟩ := road_spec 14 k c h h1
    exact ⟨t, ht, fun j hj => hg j hj⟩
  | .n v l r, k, c, h, h1 => by
    simp only [Tr.putK, bf, Nat.ble_eq] at h
    split at h
    · have : k = 1 := by omega
      subst this
      refine ⟨_, h, fun j hj => ?_⟩
      simp only [Tr.get, bf, Nat.ble_eq]
      by_cases e : j ≤ 1
      · have : j = 1 := by omega
        subst this; simp
      · rw [if_neg e, if_neg e, if_neg (show ¬ j = 1 by omega)]
    · rename_i hk
      split at h
      · rename_i h2
        have h2' : k % 2 = 0 := nb1 h2
        obtain ⟨t, ht, hg⟩ := put_spec l (Nat.div k 2) _ h (show 1 ≤ k / 2 by omega)
        refine ⟨_, ht, fun j hj => ?_⟩
        simp only [Tr.get, bf, Nat.ble_eq]
        by_cases e : j ≤ 1
        · rw [if_pos e, if_pos e, if_neg (show ¬ j = k by omega)]
        · rw [if_neg e, if_neg e]
          by_cases p : j % 2 = 0
          · rw [if_pos (nb0 p), if_pos (nb0 p), hg (Nat.div j 2) (show 1 ≤ j / 2 by omega)]
            simp only [show Nat.div j 2 = Nat.div k 2 ↔ j = k from half_ne (by omega) (by omega) (by omega)]
          · rw [if_neg (nbn p), if_neg (nbn p), if_neg (show ¬ j = k by omega)]
      · rename_i h2
        have h2' : ¬ k % 2 = 0 := fun e => h2 (nb0 e)
        obtain ⟨t, ht, hg⟩ := put_spec r (Nat.div k 2) _ h (show 1 ≤ k / 2 by omega)
        refine ⟨_, ht, fun j hj => ?_⟩
        simp only [Tr.get, bf, Nat.ble_eq]
        by_cases e : j ≤ 1
        · rw [if_pos e, if_pos e, if_neg (show ¬ j = k by omega)]
        · rw [if_neg e, if_neg e]
          by_cases p : j % 2 = 0
          · rw [if_pos (nb0 p), if_pos (nb0 p), if_neg (show ¬ j = k by omega)]
          · rw [if_neg (nbn p), if_neg (nbn p), hg (Nat.div j 2) (show 1 ≤ j / 2 by omega)]
            simp only [show Nat.div j 2 = Nat.div k 2 ↔ j = k from half_ne (by omega) (by omega) (by omega)]

/-- A state, kept small. -/
structure CSt where
  tr : Tr
  df : AV
  ob : List (Nat × MO)
  next : Nat
  n : Nat
def CSt.st (cs : CSt) : St := { tm := fun t => cs.tr.get cs.df (t + 1), ob := cs.ob, next := cs.next, n := cs.n }

def fM (x : MO) (k : MO → Prop) : Prop :=
  match x with
  | .box c => fL c fun c => k (.box c)
  | .arr a b c d => k (.arr a b c d)
  | .imap a => k (.imap a)
  | .smap a => k (.smap a)
theorem fM_eq (x : MO) (k : MO → Prop) : fM x k = k x := by cases x <;> simp [fM, fL_eq]
def fOb : List (Nat × MO) → (List (Nat × MO) → Prop) → Prop
  | [], k => k []
  | (m, o) :: r, k => fN m fun m => fM o fun o => fOb r fun s => k ((m, o) :: s)
theorem fOb_eq : ∀ (l : List (Nat × MO)) (k : List (Nat × MO) → Prop), fOb l k = k l
  | [], _ => rfl
  | (m, o) :: r, _ => by simp only [fOb, fN_eq, fM_eq, fOb_eq r]

def CSt.putK (cs : CSt) (d : Option Tmp) (x : AV) (c : CSt → Prop) : Prop :=
  match cs with
  | ⟨tr, df, ob, next, n⟩ => match d with
    | none => c ⟨tr, df, ob, next, n⟩
    | some t => fN (t + 1) fun k => tr.putK df x k fun tr => c ⟨tr, df, ob, next, n⟩
def CSt.obK (cs : CSt) (ob' : List (Nat × MO)) (next' : Nat) (c : CSt → Prop) : Prop :=
  match cs with
  | ⟨tr, df, ob, next, n⟩ => fOb ob' fun ob' => fN next' fun next' => c ⟨tr, df, ob', next', n⟩

theorem St.ext' {a b : St} (h1 : ∀ t, a.tm t = b.tm t) (h2 : a.ob = b.ob) (h3 : a.next = b.next) (h4 : a.n = b.n) : a = b := by
  cases a; cases b; simp only at h1 h2 h3 h4; subst h2 h3 h4; congr 1; funext t; exact h1 t
theorem CSt.putK_st {cs : CSt} {d : Option Tmp} {x : AV} {c : CSt → Prop} (h : cs.putK d x c) : ∃ cs', cs'.st = cs.st.put d x ∧ c cs' := by
  obtain ⟨tr, df, ob, next, n⟩ := cs
  cases d with
  | none => exact ⟨_, rfl, h⟩
  | some t =>
    simp only [CSt.putK, fN_eq] at h
    obtain ⟨t', hc, hg⟩ := put_spec tr (t + 1) _ h (by omega)
    refine ⟨_, St.ext' (fun s => ?_) rfl rfl rfl, hc⟩
    show t'.get df (s + 1) = bif Nat.beq s t then x else tr.get df (s + 1)
    rw [hg (s + 1) (by omega), bf]
    by_cases e : s = t
    · subst e; simp
    · rw [if_neg (by omega), if_neg (by simpa using e)]
theorem CSt.obK_st {cs : CSt} {ob' : List (Nat × MO)} {nx : Nat} {c : CSt → Prop} (h : cs.obK ob' nx c) : ∃ cs', cs'.st = { cs.st with ob := ob', next := nx } ∧ c cs' := by
  obtain ⟨tr, df, ob, next, n⟩ := cs
  simp only [CSt.obK, fN_eq, fOb_eq] at h
  exact ⟨_, rfl, h⟩

@[irreducible] def CallC (P : Program) [Tabs P] (F : FuncId) (l : List AV) (cs : CSt) (d : Option Tmp) (next : CSt → Prop) : Prop := CallG P F l cs.st d fun st => ∃ cs', cs'.st = st ∧ next cs'
theorem CallC.g {P : Program} [Tabs P] {F : FuncId} {l : List AV} {cs : CSt} {d : Option Tmp} {next : CSt → Prop} (h : CallC P F l cs d next) : CallG P F l cs.st d fun st => ∃ cs', cs'.st = st ∧ next cs' := by
  unfold CallC at h; exact h
/-- a call with a scalar result -/
theorem CallC.sca {P : Program} [Tabs P] {F : FuncId} {l : List AV} {cs : CSt} {d : Option Tmp} {next : CSt → Prop} (r : AV) (h : VFn P F (AV.fzs cs.ob (fun _ => none) l) r) (hr : (r.sca && dstOK d cs.n) = true)
    (hn : r.force fun r => cs.putK d r next) : CallC P F l cs d next := by
  unfold CallC
  rw [AV.force_eq] at hn
  rw [Bool.and_eq_true] at hr
  exact CallG.mk _ (callR_sca (st := cs.st) h hr.1 hr.2) (CSt.putK_st hn)
/-- a call whose arguments are nobody's own -/
theorem CallC.nl {P : Program} [Tabs P] {F : FuncId} {l : List AV} {cs : CSt} {d : Option Tmp} {next : CSt → Prop} (r : AV) (h : VFn P F l r) (hr : (AV.nls l && dstOK d cs.n) = true)
    (hn : r.force fun r => cs.putK d r next) : CallC P F l cs d next := by
  unfold CallC
  rw [AV.force_eq] at hn
  rw [Bool.and_eq_true] at hr
  exact CallG.mk _ (callR_nl (st := cs.st) h hr.1 hr.2) (CSt.putK_st hn)
/-- a call that is handed objects, and hands back objects -/
theorem CallC.m {P : Program} [Tabs P] {F : FuncId} {nb nx : Nat} {args l : List AV} {O O' : List (Nat × MO)} {r : AV} {cs : CSt} {d : Option Tmp} {next : CSt → Prop} (kl : List (Nat × Nat)) (h : FnM P F nb args O r O' nx)
    (hkl : klOK nb kl = true) (hcov : covB O nb = true) (ha : AVsle (AV.fzs cs.ob (kL kl) l) args) (hO : allO (cs.st.fz (kL kl) nb) O) (hr : r.scn = true) (hO' : obP O') (hd : dstOK d cs.n = true)
    (hn : cs.obK (renOb (backN kl nb cs.next) O' ++ delK kl cs.ob) (cs.next + nx) fun cs' => (r.ren (backN kl nb cs.next)).force fun r => cs'.putK d r next) : CallC P F l cs d next := by
  unfold CallC
  obtain ⟨cs1, e1, h1⟩ := CSt.obK_st hn
  rw [AV.force_eq] at h1
  obtain ⟨cs2, e2, h2⟩ := CSt.putK_st h1
  exact CallG.mk _ (callM (st := cs.st) kl h hkl hcov ha hO hr hO' hd) ⟨cs2, by rw [e2, e1]; rfl, h2⟩

def exOpC (P : Program) [Tabs P] (o : Oper) (cs : CSt) (next : CSt → Prop) : Prop :=
  match dstOK o.dst cs.n with
  | false => False
  | true => match o.op with
    | .store t x y => (match stAV P cs.st t (cs.st.ev x) (cs.st.ev y) with | some st' => cs.obK st'.ob cs.next fun cs' => cs'.putK o.dst .any next | none => False)
    | .mapUpdate t x k y => (match mupAV P cs.st t (cs.st.ev x) (cs.st.ev k) (cs.st.ev y) with | some st' => cs.obK st'.ob cs.next fun cs' => cs'.putK o.dst .any next | none => False)
    | .call ⟨.value f, args, _⟩ => (match cs.st.ev f with | .fn (.func F) xs ys => forceL (xs ++ (args.toList.map cs.st.ev ++ ys)) (fun l => CallC P F l cs o.dst next) | _ => False)
    | .call ⟨.builtin .append, args, tys⟩ => (match args.toList, tys.toList with
      | [x, y], [t, tx] => (match appAV P cs.st t tx (cs.st.ev x) (cs.st.ev y) with | some out => out.pre ∧ cs.obK out.st.ob out.st.next fun cs' => fN cs.next fun nm => cs'.putK o.dst (.osl nm) next | none => False)
      | _, _ => False)
    | op => fN cs.next fun nm => match pas P cs.st.ev (look cs.ob) nm op with
      | some p => (match p.mo with
        | none => andO p.pre (p.r.force fun r => cs.putK o.dst r next)
        | some mo => andO p.pre (p.r.force fun r => cs.obK ((nm, mo) :: cs.ob) (nm + 1) fun cs' => cs'.putK o.dst r next))
      | none => False

theorem stAV_st {P : Program} {st st' : St} {t : TypeId} {x y : AV} (h : stAV P st t x y = some st') : st' = { st with ob := st'.ob } := by
  unfold stAV at h
  simp only [fL_eq, fN_eq] at h
  split at h
  · split at h
    · simp only [cond_eq_ite] at h; split at h <;> cases h; rfl
    · cases h
  · split at h
    · simp only [cond_eq_ite] at h; split at h <;> cases h; rfl
    · cases h
  · cases h
theorem mupAV_st {P : Program} {st st' : St} {t : TypeId} {x k y : AV} (h : mupAV P st t x k y = some st') : st' = { st with ob := st'.ob } := by
  unfold mupAV at h
  split at h
  · split at h <;> cases h <;> rfl
  · cases h
theorem appAV_st {P : Program} {st : St} {out : AppOut} {t tx : TypeId} {x y : AV} (h : appAV P st t tx x y = some out) : out.st = { st with ob := out.st.ob, next := out.st.next } := by
  unfold appAV at h
  simp only [fN_eq] at h
  split at h
  · split at h
    · simp only [cond_eq_ite] at h; split at h <;> cases h; rfl
    · cases h
  · cases h

theorem andO_map {p : Option Prop} {q q' : Prop} (h : andO p q) (hq : q → q') : andO p q' := by
  cases p with
  | none => exact hq h
  | some r => exact ⟨h.1, hq h.2⟩

theorem exOpC_st {P : Program} [Tabs P] {o : Oper} {cs : CSt} {next : CSt → Prop} {next' : St → Prop} (h : exOpC P o cs next) (hn : ∀ cs', next cs' → next' cs'.st) : exOp P o cs.st next' := by
  unfold exOpC at h
  unfold exOp
  split at h
  · cases h
  rename_i hd
  rw [show dstOK o.dst cs.st.n = true from hd]
  split at h
  · rename_i t x y hop
    split at h
    · rename_i st' hst
      obtain ⟨cs1, e1, h1⟩ := CSt.obK_st h
      obtain ⟨cs2, e2, h2⟩ := CSt.putK_st h1
      simp only [hop, hst]
      have e : cs2.st = st'.put o.dst .any := by rw [e2, e1]; rw [stAV_st hst]; rfl
      exact e ▸ hn cs2 h2
    · cases h
  · rename_i t x k y hop
    split at h
    · rename_i st' hst
      obtain ⟨cs1, e1, h1⟩ := CSt.obK_st h
      obtain ⟨cs2, e2, h2⟩ := CSt.putK_st h1
      simp only [hop, hst]
      have e : cs2.st = st'.put o.dst .any := by rw [e2, e1]; rw [mupAV_st hst]; rfl
      exact e ▸ hn cs2 h2
    · cases h
  · rename_i f args tys hop
    split at h
    · rename_i F xs ys hf
      simp only [hop, hf]
      rw [forceL_eq] at h ⊢
      have := h.g
      unfold CallG at this ⊢
      obtain ⟨st2, q1, cs', q2, q3⟩ := this
      exact ⟨st2, q1, q2 ▸ hn cs' q3⟩
    · cases h
  · rename_i args tys hop
    split at h
    · rename_i x y t tx ha ht
      split at h
      · rename_i out hout
        obtain ⟨hp, h⟩ := h
        obtain ⟨cs1, e1, h1⟩ := CSt.obK_st h
        rw [fN_eq] at h1
        obtain ⟨cs2, e2, h2⟩ := CSt.putK_st h1
        simp only [hop, ha, ht, hout]
        have e : cs2.st = out.st.put o.dst (.osl cs.st.next) := by rw [e2, e1]; rw [appAV_st hout]; rfl
        exact ⟨hp, e ▸ hn cs2 h2⟩
      · cases h
    · cases h
  · rename_i op n1 n2 n3 n4
    rw [fN_eq] at h
    split at h
    · rename_i p hp
      have hp' : pas P cs.st.ev (look cs.st.ob) cs.st.next o.op = some p := hp
      have key : (match p.mo with
          | none => andO p.pre (p.r.force fun r => next' (cs.st.put o.dst r))
          | some mo => andO p.pre (p.r.force fun r => next' ((cs.st.add mo).put o.dst r))) := by
        split at h
        · rename_i hm
          refine andO_map h fun h => ?_
          rw [AV.force_eq] at h ⊢
          obtain ⟨cs2, e2, h2⟩ := CSt.putK_st h
          exact e2 ▸ hn cs2 h2
        · rename_i mo hm
          refine andO_map h fun h => ?_
          rw [AV.force_eq] at h ⊢
          obtain ⟨cs1, e1, h1⟩ := CSt.obK_st h
          obtain ⟨cs2, e2, h2⟩ := CSt.putK_st h1
          have e : cs2.st = (cs.st.add mo).put o.dst p.r := by rw [e2, e1]; rfl
          exact e ▸ hn cs2 h2
      split
      · rename_i e; cases e
      · split
        · rename_i t x y hop; exact absurd hop (n1 _ _ _)
        · rename_i t x k y hop; exact absurd hop (n2 _ _ _ _)
        · rename_i f args tys hop; exact absurd hop (n3 _ _ _)
        · rename_i args tys hop; exact absurd hop (n4 _ _)
        · rw [hp']; exact key
    · cases h
end Go.Vw
