/- Vw33: a part of a tool for walks: what a piece of a Go program does, by abstract values. It holds of every program; no condition. -/
import Derived.Test.YtopkjoalbinljaaDoorV32
set_option linter.unusedVariables false
set_option linter.unusedSimpArgs false
set_option linter.unusedSectionVars false
namespace Go.Vw
open Go

/-- where the first is of which it holds; -1: nowhere -/
def fi {α : Type} (p : α → Bool) : List α → Int
  | [] => -1
  | x :: r => if p x = true then 0 else if fi p r < 0 then -1 else fi p r + 1
theorem fi_at {α : Type} [Inhabited α] {p : α → Bool} : ∀ {L : List α} {i : Nat}, i < L.length → (∀ j, j < i → p (ix L j) = false) → p (ix L i) = true → fi p L = i
  | [], i, h, _, _ => by simp at h
  | x :: r, 0, _, _, h => by simp at h; simp [fi, h]
  | x :: r, i + 1, h, h1, h2 => by
    have h0 : p x = false := h1 0 (by omega)
    have := fi_at (L := r) (i := i) (by simpa using h) (fun j hj => h1 (j + 1) (by omega)) h2
    unfold fi
    rw [if_neg (by simp [h0]), if_neg (by omega), this]; simp
theorem fi_none {α : Type} [Inhabited α] {p : α → Bool} : ∀ {L : List α}, (∀ j, j < L.length → p (ix L j) = false) → fi p L = -1
  | [], _ => rfl
  | x :: r, h => by
    have h0 : p x = false := h 0 (by simp)
    have := fi_none (L := r) (fun j hj => h (j + 1) (by simpa using hj))
    unfold fi
    rw [if_neg (by simp [h0]), this]; rfl
theorem fi_any {α : Type} {p : α → Bool} : ∀ {L : List α}, decide (0 ≤ fi p L) = L.any p
  | [] => rfl
  | x :: r => by
    have := fi_any (p := p) (L := r)
    unfold fi
    by_cases h0 : p x = true
    · rw [if_pos h0]; simp [h0]
    · rw [if_neg h0]
      by_cases h1 : fi p r < 0
      · rw [if_pos h1]; simp [h0, ← this]; omega
      · rw [if_neg h1]; simp [h0, ← this]; omega
end Go.Vw
