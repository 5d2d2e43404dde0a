/- Vw11: a part of a tool for walks: what a piece of a Go program does, by abstract values. It holds of every program; no condition. -/
import Derived.Test.YtopkjoalbinljaaDoorV10
set_option linter.unusedVariables false
set_option linter.unusedSimpArgs false
set_option linter.unusedSectionVars false
namespace Go.Vw
open Go

/-- Nothing below w0's end has turned but what was granted. -/
structure Frm (w0 : World) (gr : Nat → Prop) (w : World) : Prop where
  os : w.os = w0.os
  tape : w.tape = w0.tape
  output : w.output = w0.output
  size : w0.heap.size ≤ w.heap.size
  old : ∀ b, b < w0.heap.size → ¬ gr b → w.heap[b]? = w0.heap[b]?

/-- What may be written, as it lies in memory. -/
structure Obs (ob : List (Nat × MO)) (g : Nat → Option Gh) (ok : Nat → Prop) (w : World) : Prop where
  rel : ∀ m mo, look ob m = some mo → ∃ G, g m = some G ∧ MRel w ok g G mo
  sep : ∀ m m' mo mo' G G' b, look ob m = some mo → look ob m' = some mo' → g m = some G → g m' = some G' → G.b = some b → G'.b = some b → m = m'
  okb : ∀ b, ok b → b < w.heap.size ∧ ∀ m mo G, look ob m = some mo → g m = some G → G.b ≠ some b
  lt : ∀ m mo G b, look ob m = some mo → g m = some G → G.b = some b → b < w.heap.size

structure Rep (gb : Nat → Option Gh) (w0 : World) (gr ok0 : Nat → Prop) (st : St) (g : Nat → Option Gh) (ok : Nat → Prop) (a : Act) (w : World) : Prop where
  tm : ∀ t, RV w ok g (st.tm t) (a.tmps.getD t undef)
  obs : Obs st.ob g ok w
  own : ∀ m mo G b, look st.ob m = some mo → g m = some G → G.b = some b → w0.heap.size ≤ b ∨ gr b
  fresh : ∀ m, st.next ≤ m → g m = none
  base : ∀ m G, gb m = some G → g m = some G
  frm : Frm w0 gr w
  df : a.defers = []
  n : a.tmps.size = st.n
  okf : ∀ b, ok b → ok0 b ∨ gr b ∨ w0.heap.size ≤ b

section
variable {P : Program} {gb : Nat → Option Gh} {w0 : World} {gr ok0 : Nat → Prop} {st : St} {g : Nat → Option Gh} {ok : Nat → Prop} {a : Act} {w : World}

theorem Rep.ev (h : Rep gb w0 gr ok0 st g ok a w) (x : Operand) : RV w ok g (st.ev x) (a.eval x) := by
  cases x with
  | tmp t => exact h.tm t
  | const v => exact RV_ofVal w ok g v
  | func f => exact ⟨[], [], rfl, rfl, rfl⟩
  | global _ => trivial

def dstOK (d : Option Tmp) (n : Nat) : Bool := match d with | some t => Nat.blt t n | none => true

theorem Rep.put (h : Rep gb w0 gr ok0 st g ok a w) {d : Option Tmp} {x : AV} {v : Value} (hd : dstOK d st.n = true) (hx : RV w ok g x v) : Rep gb w0 gr ok0 (st.put d x) g ok (a.put d v) w := by
  cases d with
  | none => exact h
  | some t =>
    have ht : t < a.tmps.size := by
      have : Nat.blt t st.n = true := hd
      rw [h.n]; exact Nat.le_of_ble_eq_true this
    refine ⟨fun s => ?_, h.obs, h.own, h.fresh, h.base, h.frm, h.df, ?_, h.okf⟩
    · have e : ((a.put (some t) v).tmps.getD s undef) = if s = t then v else a.tmps.getD s undef := by
        simp only [Act.put, Array.getD_eq_getD_getElem?, Array.getElem?_setIfInBounds]
        by_cases hs : t = s
        · subst hs; simp [ht]
        · rw [if_neg hs, if_neg (fun h => hs h.symm)]
      rw [e]
      show RV w ok g (bif Nat.beq s t then x else st.tm s) _
      cases hb : Nat.beq s t
      · rw [if_neg (fun e => by subst e; simp at hb)]; exact h.tm s
      · rw [if_pos (Nat.eq_of_beq_eq_true hb)]; exact hx
    · simp [Act.put, St.put, h.n]

def St.add (st : St) (mo : MO) : St := { st with ob := (st.next, mo) :: st.ob, next := st.next + 1 }

theorem look_cons {k m : Nat} {o : MO} {r : List (Nat × MO)} : look ((k, o) :: r) m = if m = k then some o else look r m := by
  show (bif Nat.beq k m then some o else look r m) = _
  cases hb : Nat.beq k m
  · rw [if_neg (fun e => by subst e; simp at hb)]; rfl
  · rw [if_pos (Nat.eq_of_beq_eq_true hb).symm]; rfl

theorem MRel.mono {w' : World} {ok' : Nat → Prop} {g' : Nat → Option Gh} {G : Gh} {mo : MO} (hok : ∀ b, ok b → ok' b) (hc : ∀ b, ok b → w'.heap[b]? = w.heap[b]?)
    (hg : ∀ m G, g m = some G → g' m = some G) (hG : ∀ b, G.b = some b → w'.heap[b]? = w.heap[b]?) (h : MRel w ok g G mo) : MRel w' ok' g' G mo := by
  cases mo with
  | box cs =>
    obtain ⟨b, vs, ty, h1, h2, h3⟩ := h
    exact ⟨b, vs, ty, h1, (hG b h1).trans h2, RVs.mono hok hc g g' hg cs vs h3⟩
  | arr e sz n rows =>
    obtain ⟨h0, h⟩ := h
    refine ⟨h0, h.imp id fun ⟨b, cur, h1, h2, h3, h4, h5, h6⟩ => ⟨b, cur, h1, (hG b h1).trans h2, h3, h4, h5, fun i hi => ?_⟩⟩
    obtain ⟨vs, k1, k2, k3⟩ := h6 i hi
    exact ⟨vs, k1, RVs.mono hok hc G0 G0 (fun _ _ h => h) _ _ k2, k3⟩
  | imap ks =>
    obtain ⟨b, es, cl, h1, h2, r⟩ := h
    exact ⟨b, es, cl, h1, (hG b h1).trans h2, r⟩
  | smap ks =>
    obtain ⟨b, es, cl, h1, h2, r⟩ := h
    exact ⟨b, es, cl, h1, (hG b h1).trans h2, r⟩

/-- The world goes on, what was there being as it was: all that is known stays. -/
theorem Rep.grow (h : Rep gb w0 gr ok0 st g ok a w) {w' : World} (hs : w.heap.size ≤ w'.heap.size) (hold : ∀ b, b < w.heap.size → w'.heap[b]? = w.heap[b]?) (h1 : w'.os = w.os) (h2 : w'.tape = w.tape) (h3 : w'.output = w.output) :
    Rep gb w0 gr ok0 st g ok a w' := by
  have hok : ∀ b, ok b → w'.heap[b]? = w.heap[b]? := fun b hb => hold b (h.obs.okb b hb).1
  refine ⟨fun t => RV.mono (fun _ h => h) hok g g (fun _ _ h => h) _ _ (h.tm t), ⟨fun m mo hm => ?_, h.obs.sep, fun b hb => ⟨Nat.lt_of_lt_of_le (h.obs.okb b hb).1 hs, (h.obs.okb b hb).2⟩,
    fun m mo G b x y z => Nat.lt_of_lt_of_le (h.obs.lt m mo G b x y z) hs⟩, h.own, h.fresh, h.base, ⟨h1.trans h.frm.os, h2.trans h.frm.tape, h3.trans h.frm.output, Nat.le_trans h.frm.size hs, fun b hb hg => ?_⟩, h.df, h.n, h.okf⟩
  · obtain ⟨G, hg, hr⟩ := h.obs.rel m mo hm
    exact ⟨G, hg, MRel.mono (fun _ h => h) hok (fun _ _ h => h) (fun b hb => hold b (h.obs.lt m mo G b hm hg hb)) hr⟩
  · rw [hold b (Nat.lt_of_lt_of_le hb h.frm.size)]; exact h.frm.old b hb hg

theorem Rep.drew (h : Rep gb w0 gr ok0 st g ok a w) : Rep gb w0 gr ok0 st g ok a w.drew := h.grow (Nat.le_refl _) (fun _ _ => rfl) rfl rfl rfl

theorem Rep.addAt (h : Rep gb w0 gr ok0 st g ok a w) {nm nx : Nat} (hnm : g nm = none) (hlt : nm < nx) (hnx : st.next ≤ nx) {obj : Obj} {G : Gh} {mo : MO} (hG : G.b = some w.heap.size) (hr : MRel (w.alloc obj) ok (gset g nm G) G mo) :
    Rep gb w0 gr ok0 { st with ob := (nm, mo) :: st.ob, next := nx } (gset g nm G) ok a (w.alloc obj) := by
  have hle := gset_le (G := G) hnm
  have hg := h.grow (w' := w.alloc obj) (by simp) (fun b hb => RowKit.Below.heap_alloc _ _ _ hb) rfl rfl rfl
  have hother : ∀ m K, m ≠ nm → (gset g nm G m = some K ↔ g m = some K) := fun m K hm => by unfold gset; rw [if_neg hm]
  have hsame : ∀ K, gset g nm G nm = some K → K = G := fun K hk => by rw [gset_same] at hk; cases hk; rfl
  have hlk : ∀ m mo', look ((nm, mo) :: st.ob) m = some mo' → (m = nm ∧ mo' = mo) ∨ (m ≠ nm ∧ look st.ob m = some mo') := fun m mo' hm => by
    rw [look_cons] at hm
    split at hm
    · rename_i e; cases hm; exact .inl ⟨e, rfl⟩
    · rename_i e; exact .inr ⟨e, hm⟩
  refine ⟨fun t => RV.mono (fun _ h => h) (fun _ _ => rfl) g _ hle _ _ (hg.tm t), ⟨fun m mo' hm => ?_, fun m m' mo1 mo2 G1 G2 b hm hm' k1 k2 hb hb' => ?_, fun b hb => ⟨(hg.obs.okb b hb).1, fun m mo' K hm hk => ?_⟩, fun m mo' K b hm hk hb => ?_⟩,
    fun m mo' K b hm hk hb => ?_, fun m hm => ?_, fun m K hk => hle m K (h.base m K hk), hg.frm, h.df, h.n, h.okf⟩
  · rcases hlk m mo' hm with ⟨rfl, rfl⟩ | ⟨hne, hm⟩
    · exact ⟨G, gset_same, hr⟩
    · obtain ⟨K, hk, hr'⟩ := hg.obs.rel m mo' hm
      exact ⟨K, hle m K hk, MRel.mono (fun _ h => h) (fun _ _ => rfl) hle (fun _ _ => rfl) hr'⟩
  · have hnew : ∀ m mo' K b, m ≠ nm → look st.ob m = some mo' → g m = some K → K.b = some b → b ≠ w.heap.size := fun m mo' K b _ hm hk hb e => by
      have := h.obs.lt m mo' K b hm hk hb; omega
    rcases hlk m mo1 hm with ⟨e1, e2⟩ | ⟨hne, hm1⟩ <;> rcases hlk m' mo2 hm' with ⟨e3, e4⟩ | ⟨hne', hm2⟩
    · rw [e1, e3]
    · subst e1; cases hsame _ k1; rw [hG] at hb; cases hb
      exact absurd rfl (hnew m' mo2 G2 _ hne' hm2 ((hother _ _ hne').1 k2) hb')
    · subst e3; cases hsame _ k2; rw [hG] at hb'; cases hb'
      exact absurd rfl (hnew m mo1 G1 _ hne hm1 ((hother _ _ hne).1 k1) hb)
    · exact h.obs.sep m m' mo1 mo2 G1 G2 b hm1 hm2 ((hother _ _ hne).1 k1) ((hother _ _ hne').1 k2) hb hb'
  · rcases hlk m mo' hm with ⟨rfl, rfl⟩ | ⟨hne, hm⟩
    · cases hsame _ hk; rw [hG]; intro e; cases e; have := (h.obs.okb _ hb).1; omega
    · exact (h.obs.okb b hb).2 m mo' K hm ((hother _ _ hne).1 hk)
  · rcases hlk m mo' hm with ⟨rfl, rfl⟩ | ⟨hne, hm⟩
    · cases hsame _ hk; rw [hG] at hb; cases hb; simp
    · exact hg.obs.lt m mo' K b hm ((hother _ _ hne).1 hk) hb
  · rcases hlk m mo' hm with ⟨rfl, rfl⟩ | ⟨hne, hm⟩
    · cases hsame _ hk; rw [hG] at hb; cases hb; exact .inl h.frm.size
    · exact h.own m mo' K b hm ((hother _ _ hne).1 hk) hb
  · have hm' : nx ≤ m := hm
    unfold gset
    rw [if_neg (by omega)]
    exact h.fresh m (by omega)

theorem Rep.add (h : Rep gb w0 gr ok0 st g ok a w) {obj : Obj} {G : Gh} {mo : MO} (hG : G.b = some w.heap.size) (hr : MRel (w.alloc obj) ok (gset g st.next G) G mo) :
    Rep gb w0 gr ok0 (st.add mo) (gset g st.next G) ok a (w.alloc obj) :=
  h.addAt (h.fresh _ (Nat.le_refl _)) (Nat.lt_succ_self _) (Nat.le_succ _) hG hr
end
end Go.Vw
