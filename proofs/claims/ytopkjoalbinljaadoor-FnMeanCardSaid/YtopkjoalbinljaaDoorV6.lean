/- Vw6: a part of a tool for walks: what a piece of a Go program does, by abstract values. It holds of every program; no condition. -/
import Derived.Test.YtopkjoalbinljaaDoorV5
import Derived.Laws.StructEq
import Derived.Great.BuildSlice
import Derived.WideLaws
set_option linter.unusedVariables false
set_option linter.unusedSimpArgs false
set_option linter.unusedSectionVars false
namespace Go.Vw
open Go
section
variable {P : Program} {o : Oper} {a : Act} {w : World} {ok : Nat → Prop} {g : Nat → Option Gh} {nm : Nat} {ev : Operand → AV} {lk : Nat → Option MO}

/-- A new block: nothing that was there has turned. -/
theorem RV_alloc {obj : Obj} (hok : ∀ b, ok b → b < w.heap.size) {G : Gh} (hnm : g nm = none) {x : AV} {v : Value} (h : RV w ok g x v) : RV (w.alloc obj) ok (gset g nm G) x v :=
  RV.mono (fun _ h => h) (fun b hb => RowKit.Below.heap_alloc _ _ _ (hok b hb)) g _ (gset_le hnm) x v h
theorem RVs_alloc {obj : Obj} (hok : ∀ b, ok b → b < w.heap.size) {G : Gh} (hnm : g nm = none) {x : List AV} {v : List Value} (h : RVs w ok g x v) : RVs (w.alloc obj) ok (gset g nm G) x v :=
  RVs.mono (fun _ h => h) (fun b hb => RowKit.Below.heap_alloc _ _ _ (hok b hb)) g _ (gset_le hnm) x v h

theorem cells_RVs {x : AV} {v : Value} (h : RV w ok g x v) (hx : x ≠ .any) (ht : ∀ l, x ≠ .tup l) (hu : x ≠ .undef) : RVs w ok g x.cells v.cells.toList := by
  cases x <;> simp only [AV.cells] <;> first | (exact absurd rfl hx) | (exact absurd rfl (ht _)) | (exact absurd rfl hu) | skip
  all_goals first
    | (obtain ⟨vs, e, h'⟩ := h; subst e; exact h')
    | skip
  all_goals
    refine ⟨v, [], ?_, h, rfl⟩
    simp only [RV] at h
    first
    | (subst h; rfl)
    | (obtain ⟨_, e⟩ := h; subst e; rfl)
    | (obtain ⟨_, _, e⟩ := h; subst e; rfl)
    | (obtain ⟨_, e, _⟩ := h; subst e; rfl)
    | (obtain ⟨_, _, e, _⟩ := h; subst e; rfl)
    | (obtain ⟨_, _, _, _, e⟩ := h; subst e; rfl)
    | (obtain ⟨_, _, _, e⟩ := h; subst e; rfl)

theorem zeroAV_spec {t : TypeId} {z : List AV} (h : zeroAV P t = some z) : ∃ i v, P.info? t = some i ∧ i.zero = some v ∧ z = (ofVal v).cells := by
  unfold zeroAV at h
  split at h
  · rename_i i hi
    split at h
    · rename_i v hv; cases h; exact ⟨i, v, hi, hv, rfl⟩
    · cases h
  · cases h

theorem ofVal_cells (v : Value) : ∃ vs, v.cells.toList = vs ∧ RVs w ok g (ofVal v).cells vs := by
  refine ⟨_, rfl, ?_⟩
  cases v with
  | agg cs =>
    cases cs with
    | mk l => exact RVs_ofVals w ok g l
  | slice x n c => cases x with
    | none => cases n <;> cases c <;> exact ⟨_, _, rfl, RV_ofVal w ok g _, rfl⟩
    | some _ => exact ⟨_, _, rfl, RV_ofVal w ok g _, rfl⟩
  | pointer x => cases x <;> exact ⟨_, _, rfl, RV_ofVal w ok g _, rfl⟩
  | _ => exact ⟨_, _, rfl, RV_ofVal w ok g _, rfl⟩

theorem box_new (hok : ∀ b, ok b → b < w.heap.size) (hnm : g nm = none) {t : TypeId} {cs : List AV} {vs : List Value} (h : RVs w ok g cs vs)
    (hrun : (execOp a.eval o).run P w = .ok (.value (.pointer (some ⟨w.heap.size, 0, none⟩))) (w.alloc (.cells vs.toArray t))) : Does P o a w ok g nm ⟨none, .bptr nm 0, some (.box cs)⟩ :=
  ⟨_, _, ⟨some w.heap.size, 0, 0⟩, hrun, rfl, ⟨w.heap.size, vs, t, rfl, heap_alloc_new w _, RVs_alloc hok hnm h⟩, ⟨_, _, gset_same, rfl, rfl⟩⟩

theorem alloc_does {t : TypeId} {p : PO} (hok : ∀ b, ok b → b < w.heap.size) (hnm : g nm = none) (hop : o.op = .alloc t) (hp : pas P ev lk nm o.op = some p) : Does P o a w ok g nm p := by
  rw [hop] at hp
  simp only [pas, fN_eq, fL_eq, fPl_eq] at hp
  split at hp <;> cases hp
  rename_i z hz
  obtain ⟨i, v, hi, hv, rfl⟩ := zeroAV_spec hz
  obtain ⟨vs, hvs, h⟩ := ofVal_cells (w := w) (ok := ok) (g := g) v
  have e : vs.toArray = v.cells := by rw [← hvs]
  refine box_new (t := t) hok hnm h ?_
  rw [e]
  simp [execOp, hop, Instr.alloc, zeroValue, typeInfo, hi, hv, newVar, newRow]

theorem box_does {t : TypeId} {x : Operand} {p : PO} (hok : ∀ b, ok b → b < w.heap.size) (hnm : g nm = none) (hop : o.op = .box t x) (hx : RV w ok g (ev x) (a.eval x)) (hp : pas P ev lk nm o.op = some p) : Does P o a w ok g nm p := by
  rw [hop] at hp
  simp only [pas, fN_eq, fL_eq, fPl_eq] at hp
  split at hp <;> cases hp
  rename_i h
  have hcs := cells_RVs hx (fun e => by rw [e] at h; cases h) (fun l e => by rw [e] at h; cases h) (fun e => by rw [e] at h; cases h)
  refine box_new (t := t) hok hnm hcs ?_
  simp [execOp, hop, Instr.box, newVar, newRow]

theorem field_does {t : TypeId} {x : Operand} {f : Nat} {p : PO} (hop : o.op = .field t x f) (hx : RV w ok g (ev x) (a.eval x)) (hp : pas P ev lk nm o.op = some p) : Does P o a w ok g nm p := by
  rw [hop] at hp
  simp only [pas, fN_eq, fL_eq, fPl_eq] at hp
  split at hp
  · rename_i fd cs hfd he
    rw [he] at hx
    obtain ⟨vs, hv, hvs⟩ := hx
    obtain ⟨fs, hu, hf⟩ := fieldOf_spec hfd
    have hu' := run_underlying (w := w) hu
    split at hp
    · rename_i ag n ht
      cases hz : (Nat.ble (fd.offset + n) cs.length && Nat.ble 1 n) <;> simp [hz] at hp
      subst hp
      simp only [Bool.and_eq_true, Nat.ble_eq] at hz
      have hvl := hvs.length
      obtain ⟨hs, ha⟩ := tyI_spec (w := w) ht
      refine Does.val ?_ (RV_cells (ag := ag) (hvs.drop fd.offset |>.take n) (by simp; omega))
      have hpart : (part fd.type vs.toArray fd.offset).run P w = .ok (cellsV ag ((vs.drop fd.offset).take n)) w := by
        cases ag
        · have h1 : fd.offset < vs.length := by omega
          simp [part, ha, h1, cellsV]
          cases n with
          | zero => omega
          | succ n => rw [List.drop_eq_getElem_cons h1]; rfl
        · simp [part, ha, hs, cellsV]
      simp [execOp, hop, hv, Instr.field, hu', hf, asAgg, hpart]
    · cases hp
  · cases hp

theorem run_part_one {t : TypeId} {n off : Nat} {us : List Value} {v : Value} (ht : tyI P t = some (false, n)) (h : us[off]? = some v) : (part t us.toArray off).run P w = .ok v w := by
  obtain ⟨_, ha⟩ := tyI_spec (w := w) ht
  have h1 : off < us.length := by
    rcases Nat.lt_or_ge off us.length with h' | h'
    · exact h'
    · rw [List.getElem?_eq_none h'] at h; cases h
  rw [List.getElem?_eq_getElem h1] at h
  cases h
  simp [part, ha, h1]
theorem run_part_agg {t : TypeId} {n off : Nat} {us : List Value} (ht : tyI P t = some (true, n)) : (part t us.toArray off).run P w = .ok (.agg ((us.drop off).take n).toArray) w := by
  obtain ⟨hs, ha⟩ := tyI_spec (w := w) ht
  simp [part, ha, hs]

theorem eqCell_spec {t : TypeId} {x y : AV} {u v : Value} {b : Bool} (D : Nat) (h : eqCell P t x y = some b) (hx : RV w ok g x u) (hy : RV w ok g y v) : (Op.equalIn (D + 1) t u v).run P w = .ok b w := by
  unfold eqCell at h
  split at h <;> cases h
  all_goals
    rename_i hu
    simp only [RV] at hx hy
    subst hx hy
  · rw [run_equalIn_int w D t _ _ _ _ hu]; rfl
  · rw [run_equalIn_string w D t _ _ hu]
  · rw [run_equalIn_bool' w D t _ _ hu]

theorem eqL_spec {sub : TypeId → List AV → List AV → Option Bool} {D : Nat} {xs ys : List AV} {us vs : List Value} (hx : RVs w ok g xs us) (hy : RVs w ok g ys vs) {okT : TypeId → Bool}
    (hsub : ∀ t as bs cs ds b, sub t as bs = some b → okT t = true → RVs w ok g as cs → RVs w ok g bs ds → (Op.equalIn (D + 1) t (.agg cs.toArray) (.agg ds.toArray)).run P w = .ok b w) :
    ∀ (fs : List Field) (b : Bool), eqL P sub xs ys fs = some b → fs.all (fldOK P okT) = true →
      (∀ t as bs b, sub t as bs = some b → ∃ q, P.underlying t = some (.struct q)) → (Op.eqFields (D + 1) us.toArray vs.toArray fs).run P w = .ok b w
  | [], b, h, _, _ => by simp [eqL] at h; subst h; simp [Op.eqFields]
  | f :: fs, b, h, hok, hst => by
    simp only [List.all_cons, fldOK, Bool.and_eq_true] at hok
    obtain ⟨⟨hname, hty⟩, hrest⟩ := hok
    have hnm : f.name ≠ "_" := fun e => by simp [e] at hname
    unfold eqL at h
    split at h
    · cases h
    rename_i r hr
    have ih := eqL_spec hx hy hsub fs r hr hrest hst
    have fin : ∀ (a c : Value) (e : Bool), (part f.type us.toArray f.offset).run P w = .ok a w → (part f.type vs.toArray f.offset).run P w = .ok c w → (Op.equalIn (D + 1) f.type a c).run P w = .ok e w →
        (Op.eqFields (D + 1) us.toArray vs.toArray (f :: fs)).run P w = .ok (e && r) w := by
      intro a c e h1 h2 h3
      cases e <;> simp [Op.eqFields, hnm, h1, h2, h3, ih]
    split at h
    · rename_i n ht
      split at h
      · rename_i x y hxe hye
        split at h <;> cases h
        rename_i e he
        obtain ⟨u, hu, hru⟩ := hx.get _ _ hxe
        obtain ⟨v, hv, hrv⟩ := hy.get _ _ hye
        exact fin u v e (run_part_one ht hu) (run_part_one ht hv) (eqCell_spec D he hru hrv)
      · cases h
    · rename_i n ht
      cases hz : (Nat.ble (f.offset + n) xs.length && Nat.ble (f.offset + n) ys.length) <;> simp [hz] at h
      split at h <;> cases h
      rename_i e he
      obtain ⟨q, hq⟩ := hst _ _ _ _ he
      rw [hq] at hty
      exact fin _ _ e (run_part_agg ht) (run_part_agg ht) (hsub _ _ _ _ _ e he hty ((hx.drop _).take _) ((hy.drop _).take _))
    · cases h

theorem eqT_struct {d : Nat} {t : TypeId} {xs ys : List AV} {b : Bool} (h : eqT P d t xs ys = some b) : ∃ q, P.underlying t = some (.struct q) := by
  cases d with
  | zero => cases h
  | succ d =>
    unfold eqT at h
    split at h
    · rename_i fs hu; exact ⟨fs, hu⟩
    · cases h
theorem eqT_spec : ∀ (d e : Nat) (t : TypeId) (xs ys : List AV) (us vs : List Value) (b : Bool), eqT P d t xs ys = some b → eqOKB P d t = true → RVs w ok g xs us → RVs w ok g ys vs →
    (Op.equalIn (d + e + 1) t (.agg us.toArray) (.agg vs.toArray)).run P w = .ok b w
  | 0, _, _, _, _, _, _, _, h, _, _, _ => by cases h
  | d + 1, e, t, xs, ys, us, vs, b, h, hok, hx, hy => by
    unfold eqT at h
    split at h
    · rename_i fs hu
      unfold eqOKB at hok
      rw [hu] at hok
      simp only [Bool.and_eq_true, Bool.not_eq_true'] at hok
      have hfs : P.fieldsOf t = fs := by unfold Program.fieldsOf; rw [hu]
      have := eqL_spec (D := d + e) hx hy (okT := eqOKB P d) (fun t as bs cs ds b h1 h2 h3 h4 => eqT_spec d e t as bs cs ds b h1 h2 h3 h4) fs.toList b h hok.2 fun t as bs b h => eqT_struct h
      rw [show d + 1 + e + 1 = (d + e + 1) + 1 by omega, run_equalIn_struct w (d + e + 1) t _ _ (by rw [hfs]; exact hu) hok.1, hfs]
      exact this
    · cases h

theorem binOp_does {op : BinOp} {t u : TypeId} {x y : Operand} {p : PO} (hop : o.op = .binOp op t x y u) (hx : RV w ok g (ev x) (a.eval x)) (hy : RV w ok g (ev y) (a.eval y))
    (hp : pas P ev lk nm o.op = some p) (hpre : ∀ q, p.pre = some q → q) : Does P o a w ok g nm p := by
  rw [hop] at hp
  simp only [pas] at hp
  split at hp
  · rename_i xs ys hex hey
    rw [hex] at hx
    rw [hey] at hy
    obtain ⟨us, hu, hxs⟩ := hx
    obtain ⟨vs, hv, hys⟩ := hy
    have key : ∀ b, eqT P 8 t xs ys = some b → eqGB P t = true → (∀ op, (eqGuard op t x y (a.eval x) (a.eval y)).run P w = .ok () w) ∧ (Op.equalIn 10000 t (.agg us.toArray) (.agg vs.toArray)).run P w = .ok b w := by
      intro b hb hgb
      simp only [eqGB, Bool.and_eq_true, Bool.not_eq_true'] at hgb
      refine ⟨fun op => by rw [hu, hv]; exact run_eqGuard_agg w op t x y _ _ hgb.2, ?_⟩
      exact eqT_spec 8 9991 t xs ys us vs b hb hgb.1 hxs hys
    split at hp
    · split at hp <;> cases hp
      rename_i b hb
      obtain ⟨k1, k2⟩ := key b hb (hpre _ rfl)
      refine Does.val (v := .bool b) (run_bin hop rfl rfl (k1 _) ?_) rfl
      rw [hu, hv, run_eql_struct, k2]; rfl
    · split at hp <;> cases hp
      rename_i b hb
      obtain ⟨k1, k2⟩ := key b hb (hpre _ rfl)
      refine Does.val (v := .bool !b) (run_bin hop rfl rfl (k1 _) ?_) rfl
      rw [hu, hv, run_neq_struct, k2]; rfl
    · cases hp
  · rename_i hex hey
    rw [hex] at hx
    rw [hey] at hy
    have hx' : a.eval x = .nilIface := hx
    have hy' : a.eval y = .nilIface := hy
    split at hp <;> cases hp
    · rename_i hu
      have hm : P.underlying t = some (.interface (P.methodsAt t)) := by simp [Program.methodsAt, hu]
      exact Does.val (v := .bool true) (run_bin hop hx' hy' (by simp [eqGuard]) (run_eql_nil_nil w t hm)) rfl
    · rename_i hu
      have hm : P.underlying t = some (.interface (P.methodsAt t)) := by simp [Program.methodsAt, hu]
      exact Does.val (v := .bool false) (run_bin hop hx' hy' (by simp [eqGuard]) (run_neq_nil_nil w t hm)) rfl
  · rename_i tt xx hex hey
    rw [hex] at hx
    rw [hey] at hy
    obtain ⟨xv, hx', _⟩ := hx
    have hy' : a.eval y = .nilIface := hy
    split at hp <;> cases hp
    · rename_i hu
      have hm : P.underlying t = some (.interface (P.methodsAt t)) := by simp [Program.methodsAt, hu]
      exact Does.val (v := .bool false) (run_bin hop hx' hy' (by simp [eqGuard]) (run_eql_held_nil w t tt xv hm)) rfl
    · rename_i hu
      have hm : P.underlying t = some (.interface (P.methodsAt t)) := by simp [Program.methodsAt, hu]
      exact Does.val (v := .bool true) (run_bin hop hx' hy' (by simp [eqGuard]) (run_neq_held_nil w t tt xv hm)) rfl
  · exact binAV_does hop hx hy hp hpre

theorem makeInterface_does {t : TypeId} {x : Operand} {p : PO} (hop : o.op = .makeInterface t x) (hx : RV w ok g (ev x) (a.eval x)) (hp : pas P ev lk nm o.op = some p) : Does P o a w ok g nm p := by
  rw [hop] at hp
  simp only [pas, fN_eq, fL_eq, fPl_eq] at hp
  cases hc : P.concrete t <;> simp [hc] at hp
  subst hp
  refine Does.val (v := .iface t (a.eval x)) ?_ ⟨_, rfl, hx⟩
  simp [execOp, hop, run_makeInterface (P := P) w t (a.eval x) hc]

theorem extract_does {x : Operand} {i : Nat} {p : PO} (hop : o.op = .extract x i) (hx : RV w ok g (ev x) (a.eval x)) (hp : pas P ev lk nm o.op = some p) : Does P o a w ok g nm p := by
  rw [hop] at hp
  simp only [pas, fN_eq, fL_eq, fPl_eq] at hp
  split at hp
  · rename_i vs he
    rw [he] at hx
    obtain ⟨us, hv, h⟩ := hx
    split at hp <;> cases hp
    rename_i v hvi
    obtain ⟨u, hu, hr⟩ := h.get i v hvi
    refine Does.val ?_ hr
    simp [execOp, hop, hv, Instr.extract, hu]
  · cases hp

theorem nilCheck_does {x : Operand} {p : PO} (hop : o.op = .nilCheck x) (hx : RV w ok g (ev x) (a.eval x)) (hp : pas P ev lk nm o.op = some p) : Does P o a w ok g nm p := by
  rw [hop] at hp
  simp only [pas, fN_eq, fL_eq, fPl_eq] at hp
  split at hp <;> cases hp
  · rename_i m off he
    rw [he] at hx
    obtain ⟨G, b, h1, h2, hv⟩ := hx
    refine Does.val (v := .pointer (some ⟨b, off, none⟩)) ?_ ⟨G, b, h1, h2, rfl⟩
    simp [execOp, hop, hv]
  · rename_i row off he
    rw [he] at hx
    obtain ⟨b, o', hv, r⟩ := hx
    refine Does.val (v := .pointer (some ⟨b, o' + off, none⟩)) ?_ ⟨b, o', rfl, r⟩
    simp [execOp, hop, hv]
  · rename_i m sz i off he
    rw [he] at hx
    obtain ⟨G, b, h1, h2, hv⟩ := hx
    refine Does.val (v := .pointer (some ⟨b, i * sz + off, none⟩)) ?_ ⟨G, b, h1, h2, rfl⟩
    simp [execOp, hop, hv]

theorem RVs_map (hev : ∀ x, RV w ok g (ev x) (a.eval x)) : ∀ l : List Operand, RVs w ok g (l.map ev) (l.map a.eval)
  | [] => rfl
  | x :: l => ⟨_, _, rfl, hev x, RVs_map hev l⟩

theorem makeFunc_does {f : Fn} {xs ys : Array Operand} {p : PO} (hop : o.op = .makeFunc f xs ys) (hev : ∀ x, RV w ok g (ev x) (a.eval x)) (hp : pas P ev lk nm o.op = some p) : Does P o a w ok g nm p := by
  rw [hop] at hp
  simp only [pas, fN_eq, fL_eq, fPl_eq] at hp
  cases hp
  refine Does.val (v := .func f (xs.map a.eval) (ys.map a.eval)) ?_ ⟨xs.toList.map a.eval, ys.toList.map a.eval, ?_, RVs_map hev _, RVs_map hev _⟩
  · simp [execOp, hop, Instr.makeFunc]
  · congr 1 <;> (apply Array.ext'; simp)

theorem minAV_spec {x y r : AV} {v u : Value} (h : minAV x y = some r) (hx : RV w ok g x v) (hy : RV w ok g y u) : (Builtin.min2 v u).run P w = .ok r.sv w ∧ RV w ok g r r.sv := by
  unfold minAV at h
  split at h <;> cases h
  simp only [RV] at hx hy
  subst hx hy
  exact ⟨by simp [Builtin.min2, AV.sv], rfl⟩
theorem maxAV_spec {x y r : AV} {v u : Value} (h : maxAV x y = some r) (hx : RV w ok g x v) (hy : RV w ok g y u) : (Builtin.max2 v u).run P w = .ok r.sv w ∧ RV w ok g r r.sv := by
  unfold maxAV at h
  split at h <;> cases h
  simp only [RV] at hx hy
  subst hx hy
  exact ⟨by simp [Builtin.max2, AV.sv], rfl⟩

theorem min_does {args : Array Operand} {tys : Array TypeId} {p : PO} (hop : o.op = .call ⟨.builtin .min, args, tys⟩) (hev : ∀ x, RV w ok g (ev x) (a.eval x)) (hp : pas P ev lk nm o.op = some p) : Does P o a w ok g nm p := by
  rw [hop] at hp
  simp only [pas, fN_eq, fL_eq, fPl_eq] at hp
  split at hp
  · rename_i x y hl
    split at hp <;> cases hp
    rename_i r hr
    have hargs : args = #[x, y] := by apply Array.ext'; simpa using hl
    obtain ⟨h1, h2⟩ := minAV_spec (P := P) hr (hev x) (hev y)
    refine Does.val ?_ h2
    simp [execOp, hop, hargs, resolve, invoke, builtin, Builtin.min_, h1]
  · cases hp
theorem max_does {args : Array Operand} {tys : Array TypeId} {p : PO} (hop : o.op = .call ⟨.builtin .max, args, tys⟩) (hev : ∀ x, RV w ok g (ev x) (a.eval x)) (hp : pas P ev lk nm o.op = some p) : Does P o a w ok g nm p := by
  rw [hop] at hp
  simp only [pas, fN_eq, fL_eq, fPl_eq] at hp
  split at hp
  · rename_i x y hl
    split at hp <;> cases hp
    rename_i r hr
    have hargs : args = #[x, y] := by apply Array.ext'; simpa using hl
    obtain ⟨h1, h2⟩ := maxAV_spec (P := P) hr (hev x) (hev y)
    refine Does.val ?_ h2
    simp [execOp, hop, hargs, resolve, invoke, builtin, Builtin.max_, h1]
  · cases hp
end
end Go.Vw
