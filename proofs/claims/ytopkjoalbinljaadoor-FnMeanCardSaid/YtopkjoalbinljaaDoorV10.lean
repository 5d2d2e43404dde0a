/- Vw10: a part of a tool for walks: what a piece of a Go program does, by abstract values. It holds of every program; no condition. -/
import Derived.Test.YtopkjoalbinljaaDoorV9
set_option linter.unusedVariables false
set_option linter.unusedSimpArgs false
set_option linter.unusedSectionVars false
namespace Go.Vw
open Go
section
variable {P : Program} {o : Oper} {a : Act} {w : World} {ok : Nat → Prop} {g : Nat → Option Gh} {nm : Nat} {ev : Operand → AV} {lk : Nat → Option MO}
/-- What 'pas' says of an operation is what it does. -/
theorem pas_does {p : PO} (hok : ∀ b, ok b → b < w.heap.size) (hnm : g nm = none) (hev : ∀ x, RV w ok g (ev x) (a.eval x))
    (hob : ∀ m mo G, lk m = some mo → g m = some G → MRel w ok g G mo) (hp : pas P ev lk nm o.op = some p) (hpre : ∀ q, p.pre = some q → q) : Does P o a w ok g nm p := by
  cases hop : o.op with
  | move x => have := hp; rw [hop] at this; simp only [pas] at this; cases this; exact move_does (.inl hop) (hev x)
  | assign x => have := hp; rw [hop] at this; simp only [pas] at this; cases this; exact move_does (.inr hop) (hev x)
  | pick c x y => exact pick_does hop (hev c) (hev x) (hev y) hp
  | binOp op t x y u => exact binOp_does hop (hev x) (hev y) hp hpre
  | unOp op t x => exact unop_does hop (hev x) hp hpre
  | fieldAddr t x f => exact fieldAddr_does hop (hev x) hp
  | indexAddr t x i => exact indexAddr_does hop (hev x) (hev i) hp hob hpre
  | load t x => exact load_does hop (hev x) hob hp
  | alloc t => exact alloc_does hok hnm hop hp
  | box t x => exact box_does hok hnm hop (hev x) hp
  | field t x f => exact field_does hop (hev x) hp
  | index t x i => exact index_does hop (hev x) (hev i) hp hpre
  | build t ps => exact build_does hop hev hp
  | buildSlice t n ps => exact buildSlice_does hok hnm hop hev hp
  | makeSlice t l c => exact makeSlice_does hok hop hev hp hpre
  | makeMap t r => exact makeMap_does hok hnm hop hp
  | lookup t x i c => exact lookup_does hop (hev x) (hev i) hob hp
  | makeInterface t x => exact makeInterface_does hop (hev x) hp
  | typeAssert x t u c => exact typeAssert_does hop (hev x) hp
  | extract x i => exact extract_does hop (hev x) hp
  | slice t x lo hi mx => cases mx with
    | none => exact slice_does hop hev hp hpre
    | some m => rw [hop] at hp; simp [pas] at hp
  | convert s d x => exact convert_does hop (hev x) hob hp hpre
  | nilCheck x => exact nilCheck_does hop (hev x) hp
  | makeFunc f xs ys => exact makeFunc_does hop hev hp
  | call c =>
    obtain ⟨callee, args, tys⟩ := c
    cases callee with
    | builtin b => cases b with
      | len => exact len_does hop hev hob hp
      | min => exact min_does hop hev hp
      | max => exact max_does hop hev hp
      | _ => rw [hop] at hp; simp [pas] at hp
    | _ => rw [hop] at hp; simp [pas] at hp
  | _ => rw [hop] at hp; simp [pas] at hp
end
end Go.Vw
