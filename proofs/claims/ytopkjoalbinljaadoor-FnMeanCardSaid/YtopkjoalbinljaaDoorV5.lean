/- Vw5: a part of a tool for walks: what a piece of a Go program does, by abstract values. It holds of every program; no condition. -/
import Derived.Test.YtopkjoalbinljaaDoorV4
set_option linter.unusedVariables false
set_option linter.unusedSimpArgs false
set_option linter.unusedSectionVars false
namespace Go.Vw
open Go
section
variable {P : Program} {o : Oper} {a : Act} {w : World} {ok : Nat → Prop} {g : Nat → Option Gh} {nm : Nat} {ev : Operand → AV} {lk : Nat → Option MO}

theorem add_off {b o n : Nat} : (⟨b, o, none⟩ : Addr).add n = ⟨b, o + n, none⟩ := by
  unfold Addr.add; split <;> simp_all

theorem move_does {x : Operand} (hop : o.op = .move x ∨ o.op = .assign x) (hx : RV w ok g (ev x) (a.eval x)) : Does P o a w ok g nm ⟨none, ev x, none⟩ :=
  Does.val (by rcases hop with h | h <;> simp [execOp, h]) hx

theorem pick_does {c x y : Operand} {p : PO} (hop : o.op = .pick c x y) (hc : RV w ok g (ev c) (a.eval c)) (hx : RV w ok g (ev x) (a.eval x)) (hy : RV w ok g (ev y) (a.eval y))
    (hp : pas P ev lk nm o.op = some p) : Does P o a w ok g nm p := by
  rw [hop] at hp
  simp only [pas, fN_eq, fL_eq, fPl_eq] at hp
  have hrun : ∀ t, a.eval c = .bool t → (execOp a.eval o).run P w = .ok (.value (if t then a.eval x else a.eval y)) w := by
    intro t ht; simp [execOp, hop, ht, asBool]
  split at hp
  · rename_i t hct
    rw [hct] at hc
    simp only [RV] at hc
    split at hp
    · rename_i bx byy h1 h2
      cases hp
      rw [h1] at hx; rw [h2] at hy
      simp only [RV] at hx hy
      refine Does.val (hrun t hc) ?_
      rw [hx, hy]
      cases t <;> rfl
    · split at hp <;> cases hp
      · exact Does.val (hrun true hc) (by simpa using hx)
      · exact Does.val (hrun false hc) (by simpa using hy)
  · cases hp

theorem unop_does {op : UnOp} {t : TypeId} {x : Operand} {p : PO} (hop : o.op = .unOp op t x) (hx : RV w ok g (ev x) (a.eval x)) (hp : pas P ev lk nm o.op = some p)
    (hpre : ∀ q, p.pre = some q → q) : Does P o a w ok g nm p := by
  rw [hop] at hp
  cases op <;> simp only [pas, fN_eq, fL_eq, fPl_eq] at hp <;> first | (cases hp; done) | skip
  all_goals
    split at hp <;> cases hp
    rename_i h
    rw [h] at hx
    simp only [RV] at hx
    try (have hq := hpre _ rfl)
    refine Does.val (v := AV.sv _) ?_ (RV_sv rfl)
    first
    | (simp [execOp, hop, hx, Op.unary, AV.sv]; done)
    | (simp [execOp, hop, hx, Op.unary, Op.intArith, AV.sv]; exact inI_wrap hq)

theorem fieldOf_spec {t : TypeId} {f : Nat} {fd : Field} (h : fieldOf P t f = some fd) : ∃ fs, P.underlying t = some (.struct fs) ∧ fs[f]? = some fd := by
  unfold fieldOf at h
  split at h
  · exact ⟨_, ‹_›, h⟩
  · cases h

theorem run_fieldPlace {ad : Addr} {fd : Field} (h : ¬ P.cellsOf fd.type = 0) : (fieldPlace ad fd).run P w = .ok (ad.add fd.offset) w := by
  unfold Program.cellsOf at h
  cases hi : P.info? fd.type with
  | none => simp [hi] at h
  | some i => simp [hi] at h; simp [fieldPlace, sizeOf, typeInfo, hi, h]

theorem fieldAddr_does {t : TypeId} {x : Operand} {f : Nat} {p : PO} (hop : o.op = .fieldAddr t x f) (hx : RV w ok g (ev x) (a.eval x)) (hp : pas P ev lk nm o.op = some p) : Does P o a w ok g nm p := by
  rw [hop] at hp
  simp only [pas, fN_eq, fL_eq, fPl_eq] at hp
  split at hp
  · rename_i fd hfd
    obtain ⟨fs, hu, hf⟩ := fieldOf_spec hfd
    have key : ∀ b off, a.eval x = .pointer (some ⟨b, off, none⟩) → ¬ P.cellsOf fd.type = 0 → (execOp a.eval o).run P w = .ok (.value (.pointer (some ⟨b, off + fd.offset, none⟩))) w := by
      intro b off hv hz
      have hu' := run_underlying (w := w) hu
      simp [execOp, hop, hv, Instr.fieldAt, Instr.sureAddr, hu', hf, run_fieldPlace hz, add_off]
    split at hp
    · rename_i row off he
      rw [he] at hx
      obtain ⟨b, o', hv, hb, vs, hvs, hc⟩ := hx
      cases hz : Nat.beq (P.cellsOf fd.type) 0 <;> simp [hz] at hp
      subst hp
      have hz' : ¬ P.cellsOf fd.type = 0 := fun e => by rw [e] at hz; cases hz
      exact Does.val (key _ _ hv hz') ⟨b, o', by rw [Nat.add_assoc], hb, vs, hvs, hc⟩
    · rename_i m off he
      rw [he] at hx
      obtain ⟨G, b, hm, hb, hv⟩ := hx
      cases hz : Nat.beq (P.cellsOf fd.type) 0 <;> simp [hz] at hp
      subst hp
      have hz' : ¬ P.cellsOf fd.type = 0 := fun e => by rw [e] at hz; cases hz
      exact Does.val (key _ _ hv hz') ⟨G, b, hm, hb, rfl⟩
    · rename_i m sz i off he
      rw [he] at hx
      obtain ⟨G, b, hm, hb, hv⟩ := hx
      cases hz : Nat.beq (P.cellsOf fd.type) 0 <;> simp [hz] at hp
      subst hp
      have hz' : ¬ P.cellsOf fd.type = 0 := fun e => by rw [e] at hz; cases hz
      exact Does.val (key _ _ hv hz') ⟨G, b, hm, hb, by rw [Nat.add_assoc]⟩
    · cases hp
  · cases hp

theorem run_sizeOf_cellsOf {t : TypeId} {n : Nat} (h : P.cellsOf t = n) (hn : 1 ≤ n) : (sizeOf t).run P w = .ok n w := by
  unfold Program.cellsOf at h
  cases hi : P.info? t with
  | none => simp [hi] at h; omega
  | some i => simp [hi] at h; simp [sizeOf, typeInfo, hi, h]

theorem tyI_spec {t : TypeId} {ag : Bool} {n : Nat} (h : tyI P t = some (ag, n)) : (sizeOf t).run P w = .ok n w ∧ (isAgg t).run P w = .ok ag w := by
  unfold tyI at h
  split at h <;> cases h
  all_goals
    rename_i i hu hi
    refine ⟨by simp [sizeOf, typeInfo, hi], ?_⟩
    simp only [isAgg, Sem.run_bind, run_underlying hu w, Result.andThen_ok]
    first | rfl | (split <;> first | rfl | (rename_i h; exact absurd hu (by simp_all)))

/-- What is read of so many cells. -/
def cellsV (agg : Bool) (vs : List Value) : Value := if agg then .agg vs.toArray else vs.headD undef

theorem RV_cells {ag : Bool} {cs : List AV} {vs : List Value} (h : RVs w ok g cs vs) (hn : 1 ≤ cs.length) : RV w ok g (cellsAV ag cs) (cellsV ag vs) := by
  cases ag
  · cases cs with
    | nil => simp at hn
    | cons c r => obtain ⟨v, us, e, h1, _⟩ := h; subst e; exact h1
  · exact ⟨vs, rfl, h⟩

theorem run_loadVar_cells {t : TypeId} {ag : Bool} {n : Nat} {b off : Nat} {vs : List Value} (h : tyI P t = some (ag, n)) (hl : vs.length = n) (hn : 1 ≤ n)
    (hc : ∀ j, j < n → w.cell? ⟨b, off + j, none⟩ = vs[j]?) : (loadVar t ⟨b, off, none⟩).run P w = .ok (cellsV ag vs) w := by
  obtain ⟨hs, ha⟩ := tyI_spec (w := w) h
  subst hl
  cases ag
  · cases vs with
    | nil => simp at hn
    | cons v us =>
      have h0 := hc 0 (by simp)
      simp only [Nat.add_zero, List.getElem?_cons_zero] at h0
      simp [loadVar, Sem.run_bind, ha, h0, cellsV]
  · have := run_loadCells_list (P := P) w ⟨b, off, none⟩ vs (fun j v hv => by
      have hj : j < vs.length := by
        rcases Nat.lt_or_ge j vs.length with h | h
        · exact h
        · rw [List.getElem?_eq_none h] at hv; cases hv
      rw [add_off, hc j hj, hv])
    simp [loadVar, Sem.run_bind, ha, hs, this, cellsV]

theorem load_does {t : TypeId} {x : Operand} {p : PO} (hop : o.op = .load t x) (hx : RV w ok g (ev x) (a.eval x)) (hob : ∀ m mo G, lk m = some mo → g m = some G → MRel w ok g G mo)
    (hp : pas P ev lk nm o.op = some p) : Does P o a w ok g nm p := by
  rw [hop] at hp
  simp only [pas, fN_eq, fL_eq, fPl_eq] at hp
  split at hp
  · rename_i ag n row off ht he
    rw [he] at hx
    obtain ⟨b, o', hv, hb, vs, hvs, hc⟩ := hx
    cases hz : (Nat.ble (off + n) row.length && Nat.ble 1 n) <;> simp [hz] at hp
    subst hp
    simp only [Bool.and_eq_true, Nat.ble_eq] at hz
    have hvl := hvs.length
    have h1 := (hvs.drop off).take n
    have hl1 : ((vs.drop off).take n).length = n := by simp; omega
    refine Does.val ?_ (RV_cells (ag := ag) (hvs.drop off |>.take n |> fun h => RVs.mono (fun _ h => h) (fun _ _ => rfl) G0 g (fun _ _ h => by cases h) _ _ h) (by simp; omega))
    have := run_loadVar_cells (P := P) (w := w) (b := b) (off := o' + off) ht hl1 hz.2 (fun j hj => by
      rw [Nat.add_assoc, hc (off + j) (by omega), List.getElem?_take, if_pos hj, List.getElem?_drop])
    simp [execOp, hop, hv, Instr.loadAt, Instr.sureAddr, this]
  · rename_i ag n m off ht he
    split at hp
    · rename_i cs hlk
      rw [he] at hx
      obtain ⟨G, b, hm, hb, hv⟩ := hx
      obtain ⟨b', vs, ty, hb', hh, hvs⟩ := hob m _ G hlk hm
      rw [hb] at hb'
      cases hb'
      cases hz : (Nat.ble (off + n) cs.length && Nat.ble 1 n) <;> simp [hz] at hp
      subst hp
      simp only [Bool.and_eq_true, Nat.ble_eq] at hz
      have hvl := hvs.length
      have hl1 : ((vs.drop off).take n).length = n := by simp; omega
      refine Does.val ?_ (RV_cells (ag := ag) (hvs.drop off |>.take n) (by simp; omega))
      have := run_loadVar_cells (P := P) (w := w) (b := b) (off := off) ht hl1 hz.2 (fun j hj => by
        rw [cell_of_row w b _ _ _ _ hh, List.getElem?_take, if_pos hj, List.getElem?_drop]; simp)
      simp [execOp, hop, hv, Instr.loadAt, Instr.sureAddr, this]
    · cases hp
  · rename_i ag n m sz i off ht he
    split at hp
    · rename_i ee sz' n' rows hlk
      rw [he] at hx
      obtain ⟨G, b, hm, ⟨hb, hin⟩, hv⟩ := hx
      obtain ⟨hGn, hr⟩ := hob m _ G hlk hm
      rcases hr with ⟨hb', _, _⟩ | ⟨b', cur, hb', hh, _, _, hsz, hrow⟩
      · rw [hb] at hb'; cases hb'
      rw [hb] at hb'
      cases hb'
      cases hz : (Nat.beq sz sz' && (Nat.ble (off + n) sz && (Nat.ble (off + n) (rows i).length && Nat.ble 1 n))) <;> simp [hz] at hp
      subst hp
      simp only [Bool.and_eq_true, Nat.ble_eq] at hz
      obtain ⟨hz0, hz1, hz2, hz3⟩ := hz
      have e0 := Nat.eq_of_beq_eq_true hz0
      subst e0
      obtain ⟨vs, hvl, hvs, hc⟩ := hrow i (by omega)
      have hl1 : ((vs.drop off).take n).length = n := by simp; omega
      refine Does.val ?_ (RV_cells (ag := ag) (hvs.drop off |>.take n |> fun h => RVs.mono (fun _ h => h) (fun _ _ => rfl) G0 g (fun _ _ h => by cases h) _ _ h) (by simp; omega))
      have := run_loadVar_cells (P := P) (w := w) (b := b) (off := i * sz + off) ht hl1 hz3 (fun j hj => by
        rw [cell_of_row w b _ _ _ _ hh, Nat.add_assoc, hc (off + j) (by omega), List.getElem?_take, if_pos hj, List.getElem?_drop])
      simp [execOp, hop, hv, Instr.loadAt, Instr.sureAddr, this]
    · cases hp
  · cases hp

theorem indexAddr_does {t : TypeId} {x i : Operand} {p : PO} (hop : o.op = .indexAddr t x i) (hx : RV w ok g (ev x) (a.eval x)) (hi : RV w ok g (ev i) (a.eval i)) (hp : pas P ev lk nm o.op = some p)
    (hob : ∀ m mo G, lk m = some mo → g m = some G → MRel w ok g G mo) (hpre : ∀ q, p.pre = some q → q) : Does P o a w ok g nm p := by
  rw [hop] at hp
  simp only [pas, fN_eq, fL_eq, fPl_eq] at hp
  split at hp
  · rename_i e sz n rows k hu hex hei
    rw [hex] at hx; rw [hei] at hi
    simp only [RV] at hi
    obtain ⟨A, c, hv, hn, h⟩ := hx
    cases hz : (Nat.beq (P.cellsOf e) sz && Nat.ble 1 sz) <;> simp [hz] at hp
    subst hp
    obtain ⟨h0, h1⟩ := hpre _ rfl
    rcases h with h | ⟨b, o', hA, hb, hr⟩
    · omega
    obtain ⟨vs, hl, hvs, hc⟩ := hr k.toNat (by omega)
    simp only [Bool.and_eq_true, Nat.ble_eq] at hz
    have hsz := Nat.eq_of_beq_eq_true hz.1
    have hu' := run_underlying (w := w) hu
    have hs := run_sizeOf_cellsOf (w := w) hsz hz.2
    refine Does.val (v := .pointer (some ⟨b, o' + k.toNat * sz, none⟩)) ?_ ⟨b, o' + k.toNat * sz, rfl, hb, vs, hvs, fun j hj => ?_⟩
    · have hk : k < (n : Int) := h1
      simp [execOp, hop, hv, hi, Instr.indexAt, asIntOf, hu', hA, h0, hk, hs, add_off]
    · rw [Nat.add_assoc]; exact hc j (by omega)
  · rename_i n e m off k hu hex hei
    rw [hex] at hx; rw [hei] at hi
    simp only [RV] at hi
    obtain ⟨G, b, hm, hb, hv⟩ := hx
    cases hz : (Nat.ble n 1 || Nat.beq (P.cellsOf e) 0) <;> simp [hz] at hp
    subst hp
    obtain ⟨h0, h1⟩ := hpre _ rfl
    simp only [Bool.or_eq_false_iff] at hz
    have hn : ¬ n ≤ 1 := fun h => by have := Nat.ble_eq_true_of_le h; rw [hz.1] at this; cases this
    have he : ¬ P.cellsOf e = 0 := fun h => by rw [h] at hz; cases hz.2
    have hu' := run_underlying (w := w) hu
    have hs := run_sizeOf_cellsOf (w := w) (P := P) (t := e) rfl (by omega)
    refine Does.val (v := .pointer (some ⟨b, off + k.toNat * P.cellsOf e, none⟩)) ?_ ⟨G, b, hm, hb, rfl⟩
    have hk : k < (n : Int) := h1
    simp [execOp, hop, hv, hi, Instr.indexAt, asIntOf, hu', h0, hk, hs, add_off, Instr.sureAddr]
  · rename_i e m k hu hex hei
    rw [hex] at hx; rw [hei] at hi
    simp only [RV] at hi
    obtain ⟨G, hm, hv⟩ := hx
    split at hp
    · rename_i ee sz n rows hlk
      cases hz : (Nat.beq (P.cellsOf e) sz && Nat.ble 1 sz) <;> simp [hz] at hp
      subst hp
      obtain ⟨h0, h1⟩ := hpre _ rfl
      obtain ⟨hGn, hr⟩ := hob m _ G hlk hm
      rcases hr with ⟨_, hn0, _⟩ | ⟨b, cur, hb, hh, hnc, _, hsz', hrow⟩
      · omega
      simp only [Bool.and_eq_true, Nat.ble_eq] at hz
      have hsz := Nat.eq_of_beq_eq_true hz.1
      have hu' := run_underlying (w := w) hu
      have hs := run_sizeOf_cellsOf (w := w) hsz hz.2
      refine Does.val (v := .pointer (some ⟨b, 0 + k.toNat * sz, none⟩)) ?_ ⟨G, b, hm, ⟨hb, by omega⟩, by rw [Nat.zero_add, Nat.add_zero]⟩
      have hk : k < (G.n : Int) := by omega
      simp [execOp, hop, hv, hi, Instr.indexAt, asIntOf, hu', hb, h0, hk, hs, add_off]
    · cases hp
  · cases hp
end
end Go.Vw
