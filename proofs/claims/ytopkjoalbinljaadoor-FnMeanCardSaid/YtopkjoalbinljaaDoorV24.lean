/- Vw24: a part of a tool for walks: what a piece of a Go program does, by abstract values. It holds of every program; no condition. -/
import Derived.Test.YtopkjoalbinljaaDoorV23
import Derived.Lib.LaidTab
set_option linter.unusedVariables false
set_option linter.unusedSimpArgs false
set_option linter.unusedSectionVars false
namespace Go.Vw
open Go

/-- A program whose calls lean on one table. -/
@[reducible] def Tabs.one {P : Program} (g : Nat) (name : String) (k : IntKind) (zs : List Int) (hg : P.globalNamed name = some g) : Tabs P where
  tab := fun b => b = g
  J := fun w => Lib.TabIs P w name k zs
  lt := fun w b h e => by
    subst e
    unfold Lib.TabIs World.var? at h
    rw [hg] at h
    simp only [Option.bind_some] at h
    rcases Nat.lt_or_ge b w.heap.size with hl | hl
    · exact hl
    · have : w.heap[b]? = none := by simp [hl]
      rw [this] at h; cases h
  stay := fun w w' h hs => by
    unfold Lib.TabIs World.var? at *
    rw [hg] at *
    simp only [Option.bind_some] at *
    rw [hs g rfl]; exact h

/-- A function of the library, by a contract of the shelf's. -/
theorem VFn.lib {P : Program} [Tabs P] {F : FuncId} {args : List AV} {r : AV} (hen : Enters P F)
    (h : ∀ (w : World) (ok : Nat → Prop) (vs : List Value), Tabs.J P w → (∀ b, ok b → b < w.heap.size) → RVs w ok G0 args vs →
      Calls P F vs.toArray w fun e w' => ∃ v, e = .returned v ∧ Go.RowKit.Below w.heap.size w w' ∧ ∀ (w2 : World) (ok2 : Nat → Prop), RV w2 ok2 G0 r v) : VFn P F args r := by
  refine ⟨hen, fun w ok vs hJ hok hargs => (h w ok vs hJ hok hargs).mono ?_⟩
  rintro e w' ⟨v, e1, bel, hv⟩
  exact ⟨v, e1, ⟨bel.os, bel.tape, bel.output, bel.size, fun b hb _ => bel.block b hb⟩, hv _ _⟩
end Go.Vw
