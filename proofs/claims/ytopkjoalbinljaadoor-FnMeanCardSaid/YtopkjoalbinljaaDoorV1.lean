/- Vw1: a part of a tool for walks: what a piece of a Go program does, by abstract values. It holds of every program; no condition. -/
import Derived.Calls
import Derived.Below
import Derived.RowKit
import Derived.KernelRfl
import Derived.Laws.AppendOwn
set_option linter.unusedVariables false
set_option linter.unusedSimpArgs false
set_option linter.unusedSectionVars false
namespace Go.Vw
open Go

/-- Values without addresses: numbers, texts, structs, slices as lists of rows of cells; names (Nat) for what may still be written. -/
inductive AV where
  | any
  | int (k : IntKind) (n : Int)
  | bool (b : Bool)
  | str (s : ByteArray)
  | agg (cs : List AV)
  | tup (vs : List AV)
  | nilsl
  | sl (sz n : Nat) (rows : Nat → List AV)
  | osl (m : Nat)
  | eptr (row : List AV) (off : Nat)
  | bptr (m off : Nat)
  | aptr (m sz i off : Nat)
  | nilptr
  | iface (t : TypeId) (v : AV)
  | niliface
  | fn (f : Fn) (first captured : List AV)
  | nilfn
  | omap (m : Nat)
  | undef
  deriving Inhabited

/-- What may be written: a variable in memory, an array that one slice owns, a map. -/
inductive MO where
  | box (cs : List AV)
  | arr (e : TypeId) (sz n : Nat) (rows : Nat → List AV)
  | imap (ks : List Int)
  | smap (ks : List (List UInt8))
  deriving Inhabited

structure Gh where
  b : Option Nat
  n : Nat
  c : Nat

abbrev G0 : Nat → Option Gh := fun _ => none

mutual
def RV (w : World) (ok : Nat → Prop) (g : Nat → Option Gh) : AV → Value → Prop
  | .any, _ => True
  | .int k n, v => v = .int k n
  | .bool b, v => v = .bool b
  | .str s, v => v = .string s
  | .agg cs, v => ∃ vs : List Value, v = .agg vs.toArray ∧ RVs w ok g cs vs
  | .tup cs, v => ∃ vs : List Value, v = .tuple vs.toArray ∧ RVs w ok g cs vs
  | .nilsl, v => v = .slice none 0 0
  | .sl sz n rows, v => ∃ A c, v = .slice A n c ∧ n ≤ c ∧ (n = 0 ∨ ∃ b o, A = some ⟨b, o, none⟩ ∧ ok b ∧
      ∀ i, i < n → ∃ vs : List Value, vs.length = sz ∧ RVs w ok G0 (rows i) vs ∧ ∀ j, j < sz → w.cell? ⟨b, o + (i * sz + j), none⟩ = vs[j]?)
  | .osl m, v => ∃ G, g m = some G ∧ v = .slice (G.b.map fun b => ⟨b, 0, none⟩) G.n G.c
  | .eptr row off, v => ∃ b o, v = .pointer (some ⟨b, o + off, none⟩) ∧ ok b ∧
      ∃ vs : List Value, RVs w ok G0 row vs ∧ ∀ j, j < vs.length → w.cell? ⟨b, o + j, none⟩ = vs[j]?
  | .bptr m off, v => ∃ G b, g m = some G ∧ G.b = some b ∧ v = .pointer (some ⟨b, off, none⟩)
  | .aptr m sz i off, v => ∃ G b, g m = some G ∧ (G.b = some b ∧ i < G.n) ∧ v = .pointer (some ⟨b, i * sz + off, none⟩)
  | .nilptr, v => v = .pointer none
  | .iface t x, v => ∃ u, v = .iface t u ∧ RV w ok g x u
  | .niliface, v => v = .nilIface
  | .fn f xs ys, v => ∃ us vs : List Value, v = .func f us.toArray vs.toArray ∧ RVs w ok g xs us ∧ RVs w ok g ys vs
  | .nilfn, v => v = .nilFunc
  | .omap m, v => ∃ G b, g m = some G ∧ G.b = some b ∧ v = .map (some b)
  | .undef, v => v = Go.undef
def RVs (w : World) (ok : Nat → Prop) (g : Nat → Option Gh) : List AV → List Value → Prop
  | [], vs => vs = []
  | a :: as, vs => ∃ v us, vs = v :: us ∧ RV w ok g a v ∧ RVs w ok g as us
end

section mono
variable {w w' : World} {ok ok' : Nat → Prop}
theorem cell_same {b : Nat} (h : w'.heap[b]? = w.heap[b]?) (o : Nat) : w'.cell? ⟨b, o, none⟩ = w.cell? ⟨b, o, none⟩ :=
  World.cell?_of_block (w := w) (w' := w') (a := ⟨b, o, none⟩) h

mutual
theorem RV.mono (hok : ∀ b, ok b → ok' b) (hc : ∀ b, ok b → w'.heap[b]? = w.heap[b]?) :
    ∀ (g g' : Nat → Option Gh), (∀ m G, g m = some G → g' m = some G) → ∀ (a : AV) (v : Value), RV w ok g a v → RV w' ok' g' a v
  | _, _, _, .any, _, _ => trivial
  | _, _, _, .int _ _, _, h => h
  | _, _, _, .bool _, _, h => h
  | _, _, _, .str _, _, h => h
  | g, g', hg, .agg cs, _, ⟨vs, e, h⟩ => ⟨vs, e, RVs.mono hok hc g g' hg cs vs h⟩
  | g, g', hg, .tup cs, _, ⟨vs, e, h⟩ => ⟨vs, e, RVs.mono hok hc g g' hg cs vs h⟩
  | _, _, _, .nilsl, _, h => h
  | _, _, _, .sl sz n rows, _, ⟨A, c, e, hn, h⟩ => ⟨A, c, e, hn, h.imp id fun ⟨b, o, eA, hb, hr⟩ => ⟨b, o, eA, hok b hb, fun i hi =>
      let ⟨vs, hl, hv, hcell⟩ := hr i hi
      ⟨vs, hl, RVs.mono hok hc G0 G0 (fun _ _ h => h) (rows i) vs hv, fun j hj => (cell_same (hc b hb) _).trans (hcell j hj)⟩⟩⟩
  | _, _, hg, .osl m, _, ⟨G, hm, e⟩ => ⟨G, hg m G hm, e⟩
  | _, _, _, .eptr row _, _, ⟨b, o, e, hb, vs, hv, hcell⟩ => ⟨b, o, e, hok b hb, vs, RVs.mono hok hc G0 G0 (fun _ _ h => h) row vs hv,
      fun j hj => (cell_same (hc b hb) _).trans (hcell j hj)⟩
  | _, _, hg, .bptr m _, _, ⟨G, b, hm, hb, e⟩ => ⟨G, b, hg m G hm, hb, e⟩
  | _, _, hg, .aptr m _ _ _, _, ⟨G, b, hm, hb, e⟩ => ⟨G, b, hg m G hm, hb, e⟩
  | _, _, _, .nilptr, _, h => h
  | g, g', hg, .iface _ x, _, ⟨u, e, h⟩ => ⟨u, e, RV.mono hok hc g g' hg x u h⟩
  | _, _, _, .niliface, _, h => h
  | g, g', hg, .fn _ xs ys, _, ⟨us, vs, e, h1, h2⟩ => ⟨us, vs, e, RVs.mono hok hc g g' hg xs us h1, RVs.mono hok hc g g' hg ys vs h2⟩
  | _, _, _, .nilfn, _, h => h
  | _, _, hg, .omap m, _, ⟨G, b, hm, hb, e⟩ => ⟨G, b, hg m G hm, hb, e⟩
  | _, _, _, .undef, _, h => h
theorem RVs.mono (hok : ∀ b, ok b → ok' b) (hc : ∀ b, ok b → w'.heap[b]? = w.heap[b]?) :
    ∀ (g g' : Nat → Option Gh), (∀ m G, g m = some G → g' m = some G) → ∀ (as : List AV) (vs : List Value), RVs w ok g as vs → RVs w' ok' g' as vs
  | _, _, _, [], _, h => h
  | g, g', hg, a :: as, _, ⟨v, us, e, h1, h2⟩ => ⟨v, us, e, RV.mono hok hc g g' hg a v h1, RVs.mono hok hc g g' hg as us h2⟩
end
end mono

theorem RVs.length {w : World} {ok : Nat → Prop} {g : Nat → Option Gh} : ∀ {as : List AV} {vs : List Value}, RVs w ok g as vs → vs.length = as.length
  | [], _, h => by simp only [RVs] at h; subst h; rfl
  | _ :: _, _, ⟨_, _, e, _, h⟩ => by subst e; simp [RVs.length h]

/-- the i-th of what is related -/
theorem RVs.get {w : World} {ok : Nat → Prop} {g : Nat → Option Gh} : ∀ {as : List AV} {vs : List Value}, RVs w ok g as vs → ∀ (i : Nat) (a : AV), as[i]? = some a → ∃ v, vs[i]? = some v ∧ RV w ok g a v
  | [], _, _, _, _, h => by simp at h
  | a :: as, _, ⟨v, us, e, h1, h2⟩, 0, x, hx => by simp at hx; subst hx e; exact ⟨v, rfl, h1⟩
  | a :: as, _, ⟨v, us, e, h1, h2⟩, i + 1, x, hx => by simp at hx; subst e; simpa using RVs.get h2 i x hx

theorem RVs.drop {w : World} {ok : Nat → Prop} {g : Nat → Option Gh} : ∀ (k : Nat) {as : List AV} {vs : List Value}, RVs w ok g as vs → RVs w ok g (as.drop k) (vs.drop k)
  | 0, _, _, h => by simpa using h
  | _ + 1, [], _, h => by simp only [RVs] at h; subst h; simp [RVs]
  | k + 1, _ :: _, _, ⟨_, _, e, _, h⟩ => by subst e; simpa using RVs.drop k h

theorem RVs.take {w : World} {ok : Nat → Prop} {g : Nat → Option Gh} : ∀ (k : Nat) {as : List AV} {vs : List Value}, RVs w ok g as vs → RVs w ok g (as.take k) (vs.take k)
  | 0, _, _, h => by simp [RVs]
  | _ + 1, [], _, h => by simp only [RVs] at h; subst h; simp [RVs]
  | k + 1, _ :: _, _, ⟨v, us, e, h1, h⟩ => by subst e; simp only [List.take_succ_cons, RVs]; exact ⟨_, _, rfl, h1, RVs.take k h⟩

theorem RVs.append {w : World} {ok : Nat → Prop} {g : Nat → Option Gh} : ∀ {as : List AV} {vs : List Value} {bs us}, RVs w ok g as vs → RVs w ok g bs us → RVs w ok g (as ++ bs) (vs ++ us)
  | [], _, _, _, h, k => by simp only [RVs] at h; subst h; simpa using k
  | _ :: _, _, _, _, ⟨v, us, e, h1, h⟩, k => by subst e; simp only [List.cons_append, RVs]; exact ⟨_, _, rfl, h1, RVs.append h k⟩

theorem RVs.set {w : World} {ok : Nat → Prop} {g : Nat → Option Gh} : ∀ {as : List AV} {vs : List Value} (i : Nat) {a v}, RVs w ok g as vs → RV w ok g a v → RVs w ok g (as.set i a) (vs.set i v)
  | [], _, _, _, _, h, _ => by simp only [RVs] at h; subst h; simp [RVs]
  | _ :: _, _, 0, _, _, ⟨x, us, e, h1, h⟩, k => by subst e; simp only [List.set_cons_zero, RVs]; exact ⟨_, _, rfl, k, h⟩
  | _ :: _, _, i + 1, _, _, ⟨x, us, e, h1, h⟩, k => by subst e; simp only [List.set_cons_succ, RVs]; exact ⟨_, _, rfl, h1, RVs.set i h k⟩

end Go.Vw
