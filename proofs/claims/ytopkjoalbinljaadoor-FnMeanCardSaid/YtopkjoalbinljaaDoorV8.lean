/- Vw8: a part of a tool for walks: what a piece of a Go program does, by abstract values. It holds of every program; no condition. -/
import Derived.Test.YtopkjoalbinljaaDoorV7
set_option linter.unusedVariables false
set_option linter.unusedSimpArgs false
set_option linter.unusedSectionVars false
namespace Go.Vw
open Go
section
variable {P : Program} {o : Oper} {a : Act} {w : World} {ok : Nat → Prop} {g : Nat → Option Gh} {nm : Nat} {ev : Operand → AV} {lk : Nat → Option MO}

theorem run_sliceBounds_s {n c : Nat} {lo hi : Option Int} {l h : Nat} (hl : (match lo with | some x => x = (l : Int) | none => l = 0)) (hh : (match hi with | some x => x = (h : Int) | none => h = n)) (h1 : l ≤ h) (h2 : h ≤ c) :
    (Instr.sliceBounds true n c (lo.map (Value.int .i64)) (hi.map (Value.int .i64)) none).run P w = .ok (l, h, c) w := by
  cases lo <;> cases hi <;> simp only at hl hh <;> subst hl hh
  · simp [Instr.sliceBounds]
  · simp [Instr.sliceBounds, Instr.sliceBound, asIntOf, h2]
  · simp [Instr.sliceBounds, Instr.sliceBound, asIntOf, h1]
  · simp [Instr.sliceBounds, Instr.sliceBound, asIntOf, h1, h2]
theorem run_sliceBounds_t {n : Nat} {lo hi : Option Int} {l h : Nat} (hl : (match lo with | some x => x = (l : Int) | none => l = 0)) (hh : (match hi with | some x => x = (h : Int) | none => h = n)) (h1 : l ≤ h) (h2 : h ≤ n) :
    (Instr.sliceBounds false n n (lo.map (Value.int .i64)) (hi.map (Value.int .i64)) none).run P w = .ok (l, h, n) w := by
  cases lo <;> cases hi <;> simp only at hl hh <;> subst hl hh
  · simp [Instr.sliceBounds]
  · simp [Instr.sliceBounds, Instr.sliceBound, asIntOf, h2]
  · simp [Instr.sliceBounds, Instr.sliceBound, asIntOf, h1]
  · simp [Instr.sliceBounds, Instr.sliceBound, asIntOf, h1, h2]

theorem sub_sl {sz n : Nat} {rows : Nat → List AV} {A : Option Addr} {c l h : Nat} {m : Nat} (hn : n ≤ c) (hr : n = 0 ∨ ∃ b o', A = some ⟨b, o', none⟩ ∧ ok b ∧
      ∀ i, i < n → ∃ vs : List Value, vs.length = sz ∧ RVs w ok G0 (rows i) vs ∧ ∀ j, j < sz → w.cell? ⟨b, o' + (i * sz + j), none⟩ = vs[j]?) (h1 : l ≤ h) (h2 : h ≤ n) :
    RV w ok g (.sl sz (h - l) (fun i => rows (l + i))) (.slice (if c = l then A else A.map (·.add (l * sz))) (h - l) (c - l)) := by
  refine ⟨_, _, rfl, by omega, ?_⟩
  by_cases e : h - l = 0
  · exact .inl e
  refine .inr ?_
  rcases hr with hr | ⟨b, o', hA, hb, hr⟩
  · omega
  refine ⟨b, o' + l * sz, ?_, hb, fun i hi => ?_⟩
  · rw [if_neg (by omega), hA]; simp [add_off]
  · obtain ⟨vs, hl, hv, hc⟩ := hr (l + i) (by omega)
    refine ⟨vs, hl, hv, fun j hj => ?_⟩
    rw [← hc j hj, Nat.add_mul]
    congr 2; omega

def optI : Option AV → Option (Option Int)
  | none => some none
  | some (.int .i64 n) => some (some n)
  | _ => none

theorem slice_does {t : TypeId} {x : Operand} {lo hi : Option Operand} {p : PO} (hop : o.op = .slice t x lo hi none) (hev : ∀ x, RV w ok g (ev x) (a.eval x)) (hp : pas P ev lk nm o.op = some p)
    (hpre : ∀ q, p.pre = some q → q) : Does P o a w ok g nm p := by
  rw [hop] at hp
  simp only [pas, fN_eq, fL_eq, fPl_eq] at hp
  have hx := hev x
  have hlo : ∀ y n, lo = some y → ev y = .int .i64 n → a.eval y = .int .i64 n := fun y n _ h => by have := hev y; rw [h] at this; exact this
  have hhi : ∀ y n, hi = some y → ev y = .int .i64 n → a.eval y = .int .i64 n := fun y n _ h => by have := hev y; rw [h] at this; exact this
  unfold sliceAV at hp
  cases hu : P.underlying t with
  | none => simp [hu] at hp
  | some d =>
  have hu' := run_underlying (w := w) hu
  rw [hu] at hp
  cases d <;> simp only at hp <;> first | (cases hp; done) | skip
  case string =>
    split at hp
    · rename_i s he
      rw [he] at hx
      simp only [RV] at hx
      have key : ∀ (lo' hi' : Option Int) (l h : Nat), lo.map a.eval = lo'.map (Value.int .i64) → hi.map a.eval = hi'.map (Value.int .i64) →
          (match lo' with | some x => x = (l : Int) | none => l = 0) → (match hi' with | some x => x = (h : Int) | none => h = s.size) → l ≤ h → h ≤ s.size →
          (execOp a.eval o).run P w = .ok (.value (.string (s.extract l h))) w := by
        intro lo' hi' l h e1 e2 hl hh h1 h2
        have := run_sliceBounds_t (P := P) (w := w) hl hh h1 h2
        simp [execOp, hop, hx, Instr.sliceAt, hu', Instr.slice, e1, e2, this]
      split at hp <;> first | (cases hp; done) | skip
      · rename_i y1 y2 l h e1 e2
        cases lo <;> cases hi <;> simp at e1 e2
        cases hp
        obtain ⟨q1, q2, q3⟩ := hpre _ rfl
        exact Does.val (key (some l) (some h) l.toNat h.toNat (by simp [hlo _ _ rfl e1]) (by simp [hhi _ _ rfl e2]) (by simp; omega) (by simp; omega) (by omega) (by omega)) rfl
      · rename_i y1 y2 l e1 e2
        cases lo <;> cases hi <;> simp at e1 e2
        cases hp
        obtain ⟨q1, q2⟩ := hpre _ rfl
        exact Does.val (key (some l) none l.toNat s.size (by simp [hlo _ _ rfl e1]) rfl (by simp; omega) rfl (by omega) (by omega)) rfl
      · rename_i y1 y2 h e1 e2
        cases lo <;> cases hi <;> simp at e1 e2
        cases hp
        obtain ⟨q1, q2⟩ := hpre _ rfl
        exact Does.val (key none (some h) 0 h.toNat rfl (by simp [hhi _ _ rfl e2]) rfl (by simp; omega) (by omega) (by omega)) rfl
    · cases hp
  case slice e =>
    split at hp
    · rename_i sz n rows he
      rw [he] at hx
      obtain ⟨A, c, hv, hn, hr⟩ := hx
      cases hz : (Nat.beq (P.cellsOf e) sz && Nat.ble 1 sz) <;> simp [hz] at hp
      simp only [Bool.and_eq_true, Nat.ble_eq] at hz
      have hs := run_sizeOf_cellsOf (w := w) (Nat.eq_of_beq_eq_true hz.1) hz.2
      have key : ∀ (lo' hi' : Option Int) (l h : Nat), lo.map a.eval = lo'.map (Value.int .i64) → hi.map a.eval = hi'.map (Value.int .i64) →
          (match lo' with | some x => x = (l : Int) | none => l = 0) → (match hi' with | some x => x = (h : Int) | none => h = n) → l ≤ h → h ≤ n →
          (execOp a.eval o).run P w = .ok (.value (.slice (if c = l then A else A.map (·.add (l * sz))) (h - l) (c - l))) w := by
        intro lo' hi' l h e1 e2 hl hh h1 h2
        have := run_sliceBounds_s (P := P) (w := w) (c := c) hl hh h1 (by omega)
        simp [execOp, hop, hv, Instr.sliceAt, hu', Instr.slice, e1, e2, this, hs]
      split at hp <;> first | (cases hp; done) | skip
      · rename_i y1 y2 l h e1 e2
        cases lo <;> cases hi <;> simp at e1 e2
        cases hp
        obtain ⟨q1, q2, q3⟩ := hpre _ rfl
        exact Does.val (key (some l) (some h) l.toNat h.toNat (by simp [hlo _ _ rfl e1]) (by simp [hhi _ _ rfl e2]) (by simp; omega) (by simp; omega) (by omega) (by omega)) (sub_sl (m := 0) hn hr (by omega) (by omega))
      · rename_i y1 y2 l e1 e2
        cases lo <;> cases hi <;> simp at e1 e2
        cases hp
        obtain ⟨q1, q2⟩ := hpre _ rfl
        exact Does.val (key (some l) none l.toNat n (by simp [hlo _ _ rfl e1]) rfl (by simp; omega) rfl (by omega) (by omega)) (sub_sl (m := 0) hn hr (by omega) (by omega))
      · rename_i y1 y2 h e1 e2
        cases lo <;> cases hi <;> simp at e1 e2
        cases hp
        obtain ⟨q1, q2⟩ := hpre _ rfl
        exact Does.val (key none (some h) 0 h.toNat rfl (by simp [hhi _ _ rfl e2]) rfl (by simp; omega) (by omega) (by omega)) (by simpa using sub_sl (g := g) (m := 0) (l := 0) (h := h.toNat) hn hr (by omega) (by omega))
      · rename_i y1 y2 e1 e2
        cases lo <;> cases hi <;> simp at e1 e2
        cases hp
        exact Does.val (key none none 0 n rfl rfl rfl rfl (by omega) (by omega)) (by simpa using sub_sl (g := g) (m := 0) (l := 0) (h := n) hn hr (by omega) (by omega))
    · cases hp
end
end Go.Vw
