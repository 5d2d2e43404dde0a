/- Vw22: a part of a tool for walks: what a piece of a Go program does, by abstract values. It holds of every program; no condition. -/
import Derived.Test.YtopkjoalbinljaaDoorV21
import Derived.Deep.Slices
import Derived.ChangeArms
import Derived.ChangeOld
import Derived.OpenShut
set_option linter.unusedVariables false
set_option linter.unusedSimpArgs false
set_option linter.unusedSectionVars false
namespace Go.Vw
open Go

section
variable {H : Type} {enc : TypeId × Value → H} {P : Program} {w : World}

/-- Whatever reads as a datum of the type, is of the form F. -/
def Rd (enc : TypeId × Value → H) (P : Program) (w : World) (t : TypeId) (F : List AV → Prop) : Prop :=
  ∀ fuel cs x, DataW.trod enc P w 0 (fun _ => true) true fuel t cs = some x → ∃ as, F as ∧ RVs w (fun b => b < w.heap.size) G0 as cs

theorem Rd.weak {t : TypeId} {F F' : List AV → Prop} (h : Rd enc P w t F) (hF : ∀ as, F as → F' as) : Rd enc P w t F' := fun fuel cs x hx =>
  let ⟨as, h1, h2⟩ := h fuel cs x hx
  ⟨as, hF as h1, h2⟩

theorem Rd.le {t : TypeId} {F F' : List AV → Prop} (h : Rd enc P w t F) (hF : ∀ xs, F xs → ∃ ys, F' ys ∧ AVsle xs ys) : Rd enc P w t F' := fun fuel cs x hx =>
  let ⟨xs, h1, h2⟩ := h fuel cs x hx
  let ⟨ys, h3, h4⟩ := hF xs h1
  ⟨ys, h3, h4 _ _ _ _ h2⟩

theorem Rd.int {t : TypeId} {k : IntKind} (ht : P.underlying t = some (.int k)) : Rd enc P w t (fun as => ∃ n, as = [.int k n] ∧ k.min ≤ n ∧ n ≤ k.max) := fun fuel cs x hx => by
  obtain ⟨n, rfl, _, hw⟩ := DataW.trod_int ht hx
  refine ⟨[.int k n], ⟨n, rfl, ?_⟩, ⟨_, _, rfl, rfl, rfl⟩⟩
  simpa [Lit.wf] using hw
theorem Rd.bool {t : TypeId} (ht : P.underlying t = some .bool) : Rd enc P w t (fun as => ∃ b, as = [.bool b]) := fun fuel cs x hx => by
  obtain ⟨b, rfl, _⟩ := DataW.trod_bool ht hx
  exact ⟨[.bool b], ⟨b, rfl⟩, ⟨_, _, rfl, rfl, rfl⟩⟩
theorem Rd.str {t : TypeId} (ht : P.underlying t = some .string) : Rd enc P w t (fun as => ∃ s : ByteArray, as = [.str s] ∧ s.size ≤ maxLen) := fun fuel cs x hx => by
  obtain ⟨s, rfl, _, hs⟩ := DataW.trod_string ht hx
  exact ⟨[.str s], ⟨s, rfl, hs⟩, ⟨_, _, rfl, rfl, rfl⟩⟩

theorem Rd.slice {t e : TypeId} {sz : Nat} {F : List AV → Prop} (ht : P.underlying t = some (.slice e)) (hC : P.cellsOf e = sz) (hsz : 1 ≤ sz) (he : Rd enc P w e F) :
    Rd enc P w t (fun as => ∃ n rows, as = [.sl sz n rows] ∧ n ≤ maxLen ∧ ∀ i, i < n → F (rows i)) := fun fuel cs x hx => by
  rcases Go.Deep.open_slice ht hx with ⟨rfl, _⟩ | ⟨a, len, cap, m, k, D, Pl, rfl, _, hl, hm, hmm, _, hi⟩
  · exact ⟨[.sl sz 0 fun _ => []], ⟨0, _, rfl, Nat.zero_le _, fun i hi => by omega⟩, ⟨_, _, rfl, ⟨none, 0, rfl, Nat.le_refl _, .inl rfl⟩, rfl⟩⟩
  · simp only [if_true] at hmm
    subst hmm
    have hex : ∀ i, i < len → ∃ as cs', F as ∧ w.cells? 0 (a.add (i * sz)) sz = some cs' ∧ RVs w (fun b => b < w.heap.size) G0 as cs' := fun i hil => by
      obtain ⟨cs', h1, h2⟩ := hi i (by omega)
      rw [hC] at h1
      obtain ⟨as, h3, h4⟩ := he _ _ _ h2
      exact ⟨as, cs', h3, h1, h4⟩
    let rows : Nat → List AV := fun i => if h : i < len then (hex i h).choose else []
    have hrows : ∀ i, i < len → ∃ cs', F (rows i) ∧ w.cells? 0 (a.add (i * sz)) sz = some cs' ∧ RVs w (fun b => b < w.heap.size) G0 (rows i) cs' := fun i h => by
      simp only [rows, h, dif_pos]; exact (hex i h).choose_spec
    refine ⟨[.sl sz len rows], ⟨len, rows, rfl, Nat.le_trans hl hm, fun i h => (hrows i h).choose_spec.1⟩, ⟨_, _, rfl, ⟨some a, m, rfl, hl, ?_⟩, rfl⟩⟩
    rcases Nat.eq_zero_or_pos len with h0 | hpos
    · exact .inl h0
    · right
      obtain ⟨cs0, _, hc0, _⟩ := hrows 0 hpos
      obtain ⟨_, hl0, hat0⟩ := World.cells?_some hc0
      have hcell0 : w.cell? ((a.add (0 * sz)).add 0) = cs0[0]? := hat0 0 (by omega)
      obtain ⟨b, o, spot⟩ := a
      have hs0 : cs0[0]? = some (cs0[0]'(by omega)) := List.getElem?_eq_getElem (by omega)
      rw [hs0] at hcell0
      have hspot : spot = none := by simpa [Addr.add] using World.cell?_spot hcell0
      subst hspot
      have hblt : b < w.heap.size := by
        rcases Nat.lt_or_ge b w.heap.size with h | h
        · exact h
        · have hb : w.heap[b]? = none := by simp [h]
          simp [World.cell?, Addr.add, hb] at hcell0
      refine ⟨b, o, rfl, hblt, fun i h => ?_⟩
      obtain ⟨cs', _, hc, hr⟩ := hrows i h
      obtain ⟨_, hl', hat⟩ := World.cells?_some hc
      refine ⟨cs', hl', hr, fun j hj => ?_⟩
      have := hat j hj
      rw [add_off, add_off] at this
      rw [← this, Nat.add_assoc]

/-- the forms of a struct's fields, one after the other -/
def FF : List (List AV → Prop) → List AV → Prop
  | [], as => as = []
  | F :: Fs, as => ∃ a b, as = a ++ b ∧ F a ∧ FF Fs b
def contigB (P : Program) (tot : Nat) : Nat → List Field → Bool
  | o, [] => Nat.beq o tot
  | o, f :: fs => Nat.beq f.offset o && contigB P tot (o + P.cellsOf f.type) fs
def RdAll (enc : TypeId × Value → H) (P : Program) (w : World) : List Field → List (List AV → Prop) → Prop
  | [], [] => True
  | f :: fs, F :: Fs => Rd enc P w f.type F ∧ RdAll enc P w fs Fs
  | _, _ => False

theorem RdAll.nil : RdAll enc P w [] [] := trivial
theorem RdAll.cons {f : Field} {fs : List Field} {F : List AV → Prop} {Fs : List (List AV → Prop)} (h : Rd enc P w f.type F) (hs : RdAll enc P w fs Fs) : RdAll enc P w (f :: fs) (F :: Fs) := ⟨h, hs⟩

theorem contig_read {n : Nat} {cs : List Value} {tot : Nat} (hl : cs.length = tot) : ∀ (fs : List Field) (Fs : List (List AV → Prop)) (o : Nat) , contigB P tot o fs = true → RdAll enc P w fs Fs →
    (∀ f ∈ fs, ∃ x, DataW.trod enc P w 0 (fun _ => true) true n f.type ((cs.drop f.offset).take (P.cellsOf f.type)) = some x) → ∃ as, FF Fs as ∧ RVs w (fun b => b < w.heap.size) G0 as (cs.drop o)
  | [], [], o, hc, _, _ => by
    have := Nat.eq_of_beq_eq_true hc
    refine ⟨[], rfl, ?_⟩
    show cs.drop o = []
    rw [List.drop_eq_nil_iff]; omega
  | f :: fs, F :: Fs, o, hc, hr, hx => by
    simp only [contigB, Bool.and_eq_true] at hc
    have e := Nat.eq_of_beq_eq_true hc.1
    obtain ⟨x, h1⟩ := hx f (List.mem_cons_self ..)
    obtain ⟨a, ha, hra⟩ := hr.1 _ _ _ h1
    obtain ⟨b, hb, hrb⟩ := contig_read hl fs Fs _ hc.2 hr.2 fun g hg => hx g (List.mem_cons_of_mem _ hg)
    refine ⟨a ++ b, ⟨a, b, rfl, ha, hb⟩, ?_⟩
    rw [e] at hra
    have := hra.append hrb
    rwa [← List.drop_drop, List.take_append_drop] at this
  | [], _ :: _, _, _, h, _ => h.elim
  | _ :: _, [], _, _, h, _ => h.elim

theorem Rd.struct {t : TypeId} {fs : Array Field} {Fs : List (List AV → Prop)} (ht : P.underlying t = some (.struct fs)) (hc : contigB P (P.cellsOf t) 0 fs.toList = true) (hr : RdAll enc P w fs.toList Fs) : Rd enc P w t (FF Fs) := fun fuel cs x hx => by
  obtain ⟨xs, n, _, _, hl, hxl, hf⟩ := DataW.trod_struct ht hx
  have := contig_read (n := n) hl fs.toList Fs 0 hc hr fun f hm => by
    obtain ⟨i, hi⟩ := List.getElem?_of_mem hm
    have hi' : fs[i]? = some f := by simpa using hi
    have h1 := hf i f hi'
    have hlt : i < xs.length := by rw [hxl]; exact (Array.getElem?_eq_some_iff.1 hi').1
    rw [List.getElem?_eq_getElem hlt] at h1
    exact ⟨_, h1⟩
  simpa using this

theorem Rd.arg1 {t : TypeId} {F : List AV → Prop} {v : Value} {d : DataW H} {p : List MemPlace} (h : Rd enc P w t F) (hd : DataW.Trod enc P w 0 (fun _ => true) true t v d p) :
    ∃ as, F as ∧ RVs w (fun b => b < w.heap.size) G0 as v.cells.toList := by
  obtain ⟨fuel, hf⟩ := hd
  exact h fuel _ _ hf
/-- an argument of one cell -/
theorem arg_one {a : AV} {v : Value} (hv : ∀ cs, v ≠ .agg cs) {ok : Nat → Prop} (h : RVs w ok G0 [a] v.cells.toList) : RV w ok G0 a v := by
  obtain ⟨x, us, e, h1, h2⟩ := h
  have : v.cells = #[v] := by cases v <;> first | rfl | exact absurd rfl (hv _)
  rw [this] at e
  simp at e
  rw [e.1]; exact h1
theorem arg_agg {as : List AV} {cs : Array Value} {ok : Nat → Prop} (h : RVs w ok G0 as (Value.agg cs).cells.toList) : RV w ok G0 (.agg as) (.agg cs) := ⟨cs.toList, by simp, h⟩
theorem Frm.below {w' : World} (h : Frm w (fun _ => False) w') : Go.RowKit.Below w.heap.size w w' := ⟨h.os, h.tape, h.output, h.size, fun k hk => h.old k hk (fun h => h)⟩
end
end Go.Vw
