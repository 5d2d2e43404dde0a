/- Vw6: a part of a tool for walks: what a piece of a Go program does, by abstract values. It holds of every program; no condition. -/
import Derived.Test.YtiialkiibfmddaaDoorV5
import Derived.Great.BuildSlice
set_option linter.unusedVariables false
set_option linter.unusedSimpArgs false
set_option linter.unusedSectionVars false
namespace Go.Vw
open Go
section
variable {P : Program} {o : Oper} {a : Act} {w : World} {ok : Nat → Prop} {g : Nat → Option Gh} {nm : Nat} {ev : Operand → AV} {lk : Nat → Option MO}

/-- A new block: nothing that was there has turned. -/
theorem RV_alloc {obj : Obj} (hok : ∀ b, ok b → b < w.heap.size) {G : Gh} (hnm : g nm = none) {x : AV} {v : Value} (h : RV w ok g x v) : RV (w.alloc obj) ok (gset g nm G) x v :=
  RV.mono (fun _ h => h) (fun b hb => RowKit.Below.heap_alloc _ _ _ (hok b hb)) g _ (gset_le hnm) x v h
theorem RVs_alloc {obj : Obj} (hok : ∀ b, ok b → b < w.heap.size) {G : Gh} (hnm : g nm = none) {x : List AV} {v : List Value} (h : RVs w ok g x v) : RVs (w.alloc obj) ok (gset g nm G) x v :=
  RVs.mono (fun _ h => h) (fun b hb => RowKit.Below.heap_alloc _ _ _ (hok b hb)) g _ (gset_le hnm) x v h

theorem cells_RVs {x : AV} {v : Value} (h : RV w ok g x v) (hx : x ≠ .any) (ht : ∀ l, x ≠ .tup l) (hu : x ≠ .undef) : RVs w ok g x.cells v.cells.toList := by
  cases x <;> simp only [AV.cells] <;> first | (exact absurd rfl hx) | (exact absurd rfl (ht _)) | (exact absurd rfl hu) | skip
  all_goals first
    | (obtain ⟨vs, e, h'⟩ := h; subst e; exact h')
    | skip
  all_goals
    refine ⟨v, [], ?_, h, rfl⟩
    simp only [RV] at h
    first
    | (subst h; rfl)
    | (obtain ⟨_, e⟩ := h; subst e; rfl)
    | (obtain ⟨_, _, e⟩ := h; subst e; rfl)
    | (obtain ⟨_, e, _⟩ := h; subst e; rfl)
    | (obtain ⟨_, _, e, _⟩ := h; subst e; rfl)
    | (obtain ⟨_, _, _, _, e⟩ := h; subst e; rfl)
    | (obtain ⟨_, _, _, e⟩ := h; subst e; rfl)

theorem zeroAV_spec {t : TypeId} {z : List AV} (h : zeroAV P t = some z) : ∃ i v, P.info? t = some i ∧ i.zero = some v ∧ z = (ofVal v).cells := by
  unfold zeroAV at h
  split at h
  · rename_i i hi
    split at h
    · rename_i v hv; cases h; exact ⟨i, v, hi, hv, rfl⟩
    · cases h
  · cases h

theorem ofVal_cells (v : Value) : ∃ vs, v.cells.toList = vs ∧ RVs w ok g (ofVal v).cells vs := by
  refine ⟨_, rfl, ?_⟩
  cases v with
  | agg cs =>
    cases cs with
    | mk l => exact RVs_ofVals w ok g l
  | slice x n c => cases x with
    | none => cases n <;> cases c <;> exact ⟨_, _, rfl, RV_ofVal w ok g _, rfl⟩
    | some _ => exact ⟨_, _, rfl, RV_ofVal w ok g _, rfl⟩
  | pointer x => cases x <;> exact ⟨_, _, rfl, RV_ofVal w ok g _, rfl⟩
  | _ => exact ⟨_, _, rfl, RV_ofVal w ok g _, rfl⟩

theorem box_new (hok : ∀ b, ok b → b < w.heap.size) (hnm : g nm = none) {t : TypeId} {cs : List AV} {vs : List Value} (h : RVs w ok g cs vs)
    (hrun : (execOp a.eval o).run P w = .ok (.value (.pointer (some ⟨w.heap.size, 0, none⟩))) (w.alloc (.cells vs.toArray t))) : Does P o a w ok g nm ⟨none, .bptr nm 0, some (.box cs)⟩ :=
  ⟨_, _, ⟨some w.heap.size, 0, 0⟩, hrun, rfl, ⟨w.heap.size, vs, t, rfl, heap_alloc_new w _, RVs_alloc hok hnm h⟩, ⟨_, _, gset_same, rfl, rfl⟩⟩

theorem alloc_does {t : TypeId} {p : PO} (hok : ∀ b, ok b → b < w.heap.size) (hnm : g nm = none) (hop : o.op = .alloc t) (hp : pas P ev lk nm o.op = some p) : Does P o a w ok g nm p := by
  rw [hop] at hp
  simp only [pas, fN_eq, fL_eq, fPl_eq] at hp
  split at hp <;> cases hp
  rename_i z hz
  obtain ⟨i, v, hi, hv, rfl⟩ := zeroAV_spec hz
  obtain ⟨vs, hvs, h⟩ := ofVal_cells (w := w) (ok := ok) (g := g) v
  have e : vs.toArray = v.cells := by rw [← hvs]
  refine box_new (t := t) hok hnm h ?_
  rw [e]
  simp [execOp, hop, Instr.alloc, zeroValue, typeInfo, hi, hv, newVar, newRow]

theorem box_does {t : TypeId} {x : Operand} {p : PO} (hok : ∀ b, ok b → b < w.heap.size) (hnm : g nm = none) (hop : o.op = .box t x) (hx : RV w ok g (ev x) (a.eval x)) (hp : pas P ev lk nm o.op = some p) : Does P o a w ok g nm p := by
  rw [hop] at hp
  simp only [pas, fN_eq, fL_eq, fPl_eq] at hp
  split at hp <;> cases hp
  rename_i h
  have hcs := cells_RVs hx (fun e => by rw [e] at h; cases h) (fun l e => by rw [e] at h; cases h) (fun e => by rw [e] at h; cases h)
  refine box_new (t := t) hok hnm hcs ?_
  simp [execOp, hop, Instr.box, newVar, newRow]

theorem field_does {t : TypeId} {x : Operand} {f : Nat} {p : PO} (hop : o.op = .field t x f) (hx : RV w ok g (ev x) (a.eval x)) (hp : pas P ev lk nm o.op = some p) : Does P o a w ok g nm p := by
  rw [hop] at hp
  simp only [pas, fN_eq, fL_eq, fPl_eq] at hp
  split at hp
  · rename_i fd cs hfd he
    rw [he] at hx
    obtain ⟨vs, hv, hvs⟩ := hx
    obtain ⟨fs, hu, hf⟩ := fieldOf_spec hfd
    have hu' := run_underlying (w := w) hu
    split at hp
    · rename_i ag n ht
      cases hz : (Nat.ble (fd.offset + n) cs.length && Nat.ble 1 n) <;> simp [hz] at hp
      subst hp
      simp only [Bool.and_eq_true, Nat.ble_eq] at hz
      have hvl := hvs.length
      obtain ⟨hs, ha⟩ := tyI_spec (w := w) ht
      refine Does.val ?_ (RV_cells (ag := ag) (hvs.drop fd.offset |>.take n) (by simp; omega))
      have hpart : (part fd.type vs.toArray fd.offset).run P w = .ok (cellsV ag ((vs.drop fd.offset).take n)) w := by
        cases ag
        · have h1 : fd.offset < vs.length := by omega
          simp [part, ha, h1, cellsV]
          cases n with
          | zero => omega
          | succ n => rw [List.drop_eq_getElem_cons h1]; rfl
        · simp [part, ha, hs, cellsV]
      simp [execOp, hop, hv, Instr.field, hu', hf, asAgg, hpart]
    · cases hp
  · cases hp

theorem makeInterface_does {t : TypeId} {x : Operand} {p : PO} (hop : o.op = .makeInterface t x) (hx : RV w ok g (ev x) (a.eval x)) (hp : pas P ev lk nm o.op = some p) : Does P o a w ok g nm p := by
  rw [hop] at hp
  simp only [pas, fN_eq, fL_eq, fPl_eq] at hp
  cases hc : P.concrete t <;> simp [hc] at hp
  subst hp
  refine Does.val (v := .iface t (a.eval x)) ?_ ⟨_, rfl, hx⟩
  simp [execOp, hop, run_makeInterface (P := P) w t (a.eval x) hc]

theorem extract_does {x : Operand} {i : Nat} {p : PO} (hop : o.op = .extract x i) (hx : RV w ok g (ev x) (a.eval x)) (hp : pas P ev lk nm o.op = some p) : Does P o a w ok g nm p := by
  rw [hop] at hp
  simp only [pas, fN_eq, fL_eq, fPl_eq] at hp
  split at hp
  · rename_i vs he
    rw [he] at hx
    obtain ⟨us, hv, h⟩ := hx
    split at hp <;> cases hp
    rename_i v hvi
    obtain ⟨u, hu, hr⟩ := h.get i v hvi
    refine Does.val ?_ hr
    simp [execOp, hop, hv, Instr.extract, hu]
  · cases hp

theorem nilCheck_does {x : Operand} {p : PO} (hop : o.op = .nilCheck x) (hx : RV w ok g (ev x) (a.eval x)) (hp : pas P ev lk nm o.op = some p) : Does P o a w ok g nm p := by
  rw [hop] at hp
  simp only [pas, fN_eq, fL_eq, fPl_eq] at hp
  split at hp <;> cases hp
  · rename_i m off he
    rw [he] at hx
    obtain ⟨G, b, h1, h2, hv⟩ := hx
    refine Does.val (v := .pointer (some ⟨b, off, none⟩)) ?_ ⟨G, b, h1, h2, rfl⟩
    simp [execOp, hop, hv]
  · rename_i row off he
    rw [he] at hx
    obtain ⟨b, o', hv, r⟩ := hx
    refine Does.val (v := .pointer (some ⟨b, o' + off, none⟩)) ?_ ⟨b, o', rfl, r⟩
    simp [execOp, hop, hv]
  · rename_i m sz i off he
    rw [he] at hx
    obtain ⟨G, b, h1, h2, hv⟩ := hx
    refine Does.val (v := .pointer (some ⟨b, i * sz + off, none⟩)) ?_ ⟨G, b, h1, h2, rfl⟩
    simp [execOp, hop, hv]

theorem RVs_map (hev : ∀ x, RV w ok g (ev x) (a.eval x)) : ∀ l : List Operand, RVs w ok g (l.map ev) (l.map a.eval)
  | [] => rfl
  | x :: l => ⟨_, _, rfl, hev x, RVs_map hev l⟩

theorem makeFunc_does {f : Fn} {xs ys : Array Operand} {p : PO} (hop : o.op = .makeFunc f xs ys) (hev : ∀ x, RV w ok g (ev x) (a.eval x)) (hp : pas P ev lk nm o.op = some p) : Does P o a w ok g nm p := by
  rw [hop] at hp
  simp only [pas, fN_eq, fL_eq, fPl_eq] at hp
  cases hp
  refine Does.val (v := .func f (xs.map a.eval) (ys.map a.eval)) ?_ ⟨xs.toList.map a.eval, ys.toList.map a.eval, ?_, RVs_map hev _, RVs_map hev _⟩
  · simp [execOp, hop, Instr.makeFunc]
  · congr 1 <;> (apply Array.ext'; simp)

theorem minAV_spec {x y r : AV} {v u : Value} (h : minAV x y = some r) (hx : RV w ok g x v) (hy : RV w ok g y u) : (Builtin.min2 v u).run P w = .ok r.sv w ∧ RV w ok g r r.sv := by
  unfold minAV at h
  split at h <;> cases h
  simp only [RV] at hx hy
  subst hx hy
  exact ⟨by simp [Builtin.min2, AV.sv], rfl⟩
theorem maxAV_spec {x y r : AV} {v u : Value} (h : maxAV x y = some r) (hx : RV w ok g x v) (hy : RV w ok g y u) : (Builtin.max2 v u).run P w = .ok r.sv w ∧ RV w ok g r r.sv := by
  unfold maxAV at h
  split at h <;> cases h
  simp only [RV] at hx hy
  subst hx hy
  exact ⟨by simp [Builtin.max2, AV.sv], rfl⟩

theorem min_does {args : Array Operand} {tys : Array TypeId} {p : PO} (hop : o.op = .call ⟨.builtin .min, args, tys⟩) (hev : ∀ x, RV w ok g (ev x) (a.eval x)) (hp : pas P ev lk nm o.op = some p) : Does P o a w ok g nm p := by
  rw [hop] at hp
  simp only [pas, fN_eq, fL_eq, fPl_eq] at hp
  split at hp
  · rename_i x y hl
    split at hp <;> cases hp
    rename_i r hr
    have hargs : args = #[x, y] := by apply Array.ext'; simpa using hl
    obtain ⟨h1, h2⟩ := minAV_spec (P := P) hr (hev x) (hev y)
    refine Does.val ?_ h2
    simp [execOp, hop, hargs, resolve, invoke, builtin, Builtin.min_, h1]
  · cases hp
theorem max_does {args : Array Operand} {tys : Array TypeId} {p : PO} (hop : o.op = .call ⟨.builtin .max, args, tys⟩) (hev : ∀ x, RV w ok g (ev x) (a.eval x)) (hp : pas P ev lk nm o.op = some p) : Does P o a w ok g nm p := by
  rw [hop] at hp
  simp only [pas, fN_eq, fL_eq, fPl_eq] at hp
  split at hp
  · rename_i x y hl
    split at hp <;> cases hp
    rename_i r hr
    have hargs : args = #[x, y] := by apply Array.ext'; simpa using hl
    obtain ⟨h1, h2⟩ := maxAV_spec (P := P) hr (hev x) (hev y)
    refine Does.val ?_ h2
    simp [execOp, hop, hargs, resolve, invoke, builtin, Builtin.max_, h1]
  · cases hp
end
end Go.Vw
