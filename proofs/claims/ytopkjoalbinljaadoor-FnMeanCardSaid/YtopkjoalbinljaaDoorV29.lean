/- Vw29: a part of a tool for walks: what a piece of a Go program does, by abstract values. It holds of every program; no condition. -/
import Derived.Test.YtopkjoalbinljaaDoorV28
import Derived.Test.YtopkjoalbinljaaDoorV24
set_option linter.unusedVariables false
set_option linter.unusedSimpArgs false
set_option linter.unusedSectionVars false
namespace Go.Vw
open Go

/-- Tables, one beside the other. -/
@[reducible] def Tabs.and {P : Program} (A B : Tabs P) : Tabs P where
  tab := fun b => A.tab b ∨ B.tab b
  J := fun w => A.J w ∧ B.J w
  lt := fun w b h e => e.elim (A.lt w b h.1) (B.lt w b h.2)
  stay := fun w w' h hs => ⟨A.stay w w' h.1 fun b hb => hs b (.inl hb), B.stay w w' h.2 fun b hb => hs b (.inr hb)⟩
/-- A package's variable that holds an error. -/
def HasErr (P : Program) (name : String) (w : World) : Prop := ∃ tp p, w.var? P name = some #[.iface tp p]
@[reducible] def Tabs.err {P : Program} (g : Nat) (name : String) (hg : P.globalNamed name = some g) : Tabs P where
  tab := fun b => b = g
  J := fun w => HasErr P name w
  lt := fun w b h e => by
    subst e
    obtain ⟨tp, p, h⟩ := h
    unfold World.var? at h
    rw [hg] at h
    simp only [Option.bind_some] at h
    rcases Nat.lt_or_ge b w.heap.size with hl | hl
    · exact hl
    · have : w.heap[b]? = none := by simp [hl]
      rw [this] at h; cases h
  stay := fun w w' h hs => by
    obtain ⟨tp, p, h⟩ := h
    refine ⟨tp, p, ?_⟩
    unfold World.var? at *
    rw [hg] at *
    simp only [Option.bind_some] at *
    rw [hs g rfl]; exact h
/-- A package's number. -/
def HasInt (g : Nat) (w : World) : Prop := ∃ m, w.cell? ⟨g, 0, none⟩ = some (.int .i64 m)
@[reducible] def Tabs.num {P : Program} (g : Nat) : Tabs P where
  tab := fun b => b = g
  J := fun w => HasInt g w
  lt := fun w b h e => by
    subst e
    obtain ⟨m, h⟩ := h
    rcases Nat.lt_or_ge b w.heap.size with hl | hl
    · exact hl
    · have : w.heap[b]? = none := by simp [hl]
      unfold World.cell? at h
      rw [this] at h; cases h
  stay := fun w w' h hs => by
    obtain ⟨m, h⟩ := h
    exact ⟨m, (World.cell?_of_block (w := w) (w' := w') (a := ⟨g, 0, none⟩) (hs g rfl)).trans h⟩

theorem ifc_of_trod {H : Type} {enc : TypeId × Value → H} {P : Program} {w : World} {base : Nat} {sp : Nat → Bool} {held : Bool} {fuel : Nat} {t : TypeId} {cs : List Value} {nm : String} {d : DataW H} {p : List MemPlace}
    (ht : (match P.underlying t with | some (.interface _) => true | _ => false) = true)
    (h : DataW.trod enc P w base sp held fuel t cs = some (.iface nm d, p)) : ∃ u v, cs = [.iface u v] := by
  cases fuel with
  | zero => simp [DataW.trod] at h
  | succ fuel =>
    revert ht
    cases hu : P.underlying t with
    | none => intro ht; cases ht
    | some x =>
      cases x with
      | interface _ =>
        intro _
        unfold DataW.trod at h
        rw [hu] at h
        match cs, h with
        | [], h => cases h
        | [.iface u v], h => exact ⟨u, v, rfl⟩
        | [.nilIface], h => cases h
        | [.int _ _], h => cases h
        | _ :: _ :: _, h => simp at h
        | [.bool _], h => cases h
      | _ => intro ht; cases ht
end Go.Vw
