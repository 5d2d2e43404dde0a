/- Vw30: a part of a tool for walks: what a piece of a Go program does, by abstract values. It holds of every program; no condition. -/
import Derived.Test.YtopkjoalbinljaaDoorV29
set_option linter.unusedVariables false
set_option linter.unusedSimpArgs false
set_option linter.unusedSectionVars false
namespace Go.Vw
open Go

section
variable {H : Type} {enc : TypeId × Value → H} {P : Program} {w : World}
theorem Rd.listQ {t e : TypeId} {sz : Nat} {α : Type} [Inhabited α] {f : α → List AV} {Q : α → Prop} (ht : P.underlying t = some (.slice e)) (hC : P.cellsOf e = sz) (hsz : 1 ≤ sz) (he : Rd enc P w e fun l => ∃ x, l = f x ∧ Q x) :
    Rd enc P w t (fun l => ∃ L : List α, l = [.sl sz L.length fun i => f (ix L i)] ∧ L.length ≤ maxLen ∧ ∀ x ∈ L, Q x) :=
  (Rd.slice ht hC hsz he).le fun l h => by
    obtain ⟨n, rows, rfl, hn, hr⟩ := h
    let g : Nat → α := fun i => if h : i < n then (hr i h).choose else default
    have hg : ∀ i, i < n → rows i = f (g i) ∧ Q (g i) := fun i h => by simp only [g, h, dif_pos]; exact (hr i h).choose_spec
    have hl : ((List.range n).map g).length = n := by simp
    refine ⟨[.sl sz ((List.range n).map g).length fun i => f (ix ((List.range n).map g) i)], ⟨_, rfl, by rw [hl]; exact hn, fun x hx => ?_⟩, AVsle.cons (AVle.sl hl.symm fun i hi => ?_) AVsle.nil⟩
    · obtain ⟨i, hi, rfl⟩ := List.mem_map.1 hx
      exact (hg i (by simpa using hi)).2
    · rw [(hg i hi).1, ix_lt (by rw [hl]; exact hi)]; simp
theorem Rd.arr3 {t e : TypeId} {k : IntKind} (ht : P.underlying t = some (.array 3 e)) (he : P.underlying e = some (.int k)) (hce : P.cellsOf e = 1) (hct : P.cellsOf t = 3) :
    Rd enc P w t (fun as => ∃ a b c, as = [.int k a, .int k b, .int k c]) := fun fuel cs x hx => by
  cases fuel with
  | zero => simp [DataW.trod] at hx
  | succ fuel =>
    simp only [DataW.trod, ht, hce, hct, Nat.mul_one] at hx
    split at hx
    · rename_i hl
      obtain ⟨xs, hm, hx⟩ := Option.map_eq_some_iff.1 hx
      match cs, hl with
      | [a, b, c], _ =>
        obtain ⟨r0, _, h0⟩ := Go.Lib.mapM_at hm 0 0 rfl
        obtain ⟨r1, _, h1⟩ := Go.Lib.mapM_at hm 1 1 rfl
        obtain ⟨r2, _, h2⟩ := Go.Lib.mapM_at hm 2 2 rfl
        obtain ⟨n0, e0, _, _⟩ := DataW.trod_int he (x := r0) h0
        obtain ⟨n1, e1, _, _⟩ := DataW.trod_int he (x := r1) h1
        obtain ⟨n2, e2, _, _⟩ := DataW.trod_int he (x := r2) h2
        injection e0 with e0
        injection e1 with e1
        injection e2 with e2
        subst e0 e1 e2
        exact ⟨_, ⟨n0, n1, n2, rfl⟩, ⟨_, _, rfl, rfl, _, _, rfl, rfl, _, _, rfl, rfl, rfl⟩⟩
    · cases hx
end

/-- what is left of a measure -/
def szr (k : Nat) (n : Int) : Int := if (k : Int) ≤ n then n - k else -1
theorem szr_no {k : Nat} {n : Int} (h : ¬ (k : Int) ≤ n) : szr k n = -1 := if_neg h
theorem szr_yes {k : Nat} {n : Int} (h : (k : Int) ≤ n) : szr k n = n - k := if_pos h
def sumL {α : Type} (f : α → Nat) (L : List α) : Nat := (L.map f).sum
theorem sum_snoc {α : Type} [Inhabited α] {f : α → Nat} {L : List α} {i : Nat} (h : i < L.length) : sumL f (L.take (i + 1)) = sumL f (L.take i) + f (ix L i) := by
  unfold sumL; rw [map_take_snoc h]; simp
theorem sum_take_le {α : Type} [Inhabited α] {f : α → Nat} {L : List α} : ∀ {k i : Nat}, i + k = L.length → sumL f (L.take i) ≤ sumL f L
  | 0, i, h => by rw [List.take_of_length_le (by omega)]; omega
  | k + 1, i, h => by
    have := sum_take_le (f := f) (L := L) (k := k) (i := i + 1) (by omega)
    rw [sum_snoc (by omega)] at this; omega
theorem sum_mem {α : Type} {f : α → Nat} : ∀ {L : List α} {x : α}, x ∈ L → f x ≤ sumL f L
  | y :: r, x, h => by
    unfold sumL
    rcases List.mem_cons.1 h with rfl | h
    · simp
    · have := sum_mem (f := f) h; unfold sumL at this; simp; omega
end Go.Vw
