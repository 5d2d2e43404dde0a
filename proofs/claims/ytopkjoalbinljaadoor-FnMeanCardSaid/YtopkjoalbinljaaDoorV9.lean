/- Vw9: a part of a tool for walks: what a piece of a Go program does, by abstract values. It holds of every program; no condition. -/
import Derived.Test.YtopkjoalbinljaaDoorV8
import Derived.MapKept
set_option linter.unusedVariables false
set_option linter.unusedSimpArgs false
set_option linter.unusedSectionVars false
namespace Go.Vw
open Go
section
variable {P : Program} {o : Oper} {a : Act} {w : World} {ok : Nat → Prop} {g : Nat → Option Gh} {nm : Nat} {ev : Operand → AV} {lk : Nat → Option MO}

theorem cells_isVal {x : AV} {v : Value} (hi : x.isVal = true) (h : RV w ok g x v) : RVs w ok g x.cells v.cells.toList :=
  cells_RVs h (fun e => by rw [e] at hi; cases hi) (fun l e => by rw [e] at hi; cases hi) (fun e => by rw [e] at hi; cases hi)

theorem fill_spec {pl : Nat → Option (Nat × Nat)} : ∀ (parts : List (Nat × Operand)) (cells : List AV) (cs : List AV) (vs : List Value), (∀ x, RV w ok g (ev x) (a.eval x)) →
    fillAV pl cells (parts.map fun p => (p.1, ev p.2)) = some cs → RVs w ok g cells vs →
    ∃ us, Instr.fill pl vs.toArray (parts.map fun p => (p.1, a.eval p.2)) = some (List.toArray us) ∧ RVs w ok g cs us ∧ cs.length = cells.length
  | [], cells, cs, vs, _, h, hr => by simp [fillAV] at h; subst h; exact ⟨vs, rfl, hr, rfl⟩
  | (i, x) :: rest, cells, cs, vs, hev, h, hr => by
    simp only [List.map_cons, fillAV, fN_eq, fA_eq, fL_eq] at h
    split at h
    · cases h
    rename_i off size hp
    cases hz : (((ev x).isVal && Nat.beq (ev x).cells.length size) && Nat.ble (off + size) cells.length) <;> simp [hz] at h
    simp only [Bool.and_eq_true, Nat.ble_eq] at hz
    have hc := cells_isVal hz.1.1 (hev x)
    have hl := hc.length
    have hsz := Nat.eq_of_beq_eq_true hz.1.2
    have hvl := hr.length
    have hcs : (a.eval x).cells.size = size := by rw [← Array.length_toList]; omega
    obtain ⟨f1, f2⟩ := Great.foldl_set off (a.eval x).cells.toList 0 vs.toArray
    have e : ((a.eval x).cells.zipIdx.foldl (fun cs (y : Value × Nat) => cs.setIfInBounds (off + y.2) y.1) vs.toArray) = (vs.take off ++ (a.eval x).cells.toList ++ vs.drop (off + size)).toArray := by
      rw [← Array.foldl_toList, Array.toList_zipIdx]
      apply Array.ext_getElem?
      intro k
      rw [f2 k]
      simp only [Nat.add_zero, Array.length_toList, hcs, List.size_toArray, List.getElem?_toArray]
      rw [List.append_assoc, List.getElem?_append, List.getElem?_append]
      simp only [List.length_take, Array.length_toList, hcs]
      by_cases h1 : k < off
      · rw [if_neg (by omega), if_pos (by omega), List.getElem?_take, if_pos h1]
      · rw [if_neg (show ¬ k < min off vs.length by omega)]
        have hmin : min off vs.length = off := by omega
        rw [hmin]
        by_cases h2 : k < off + size
        · rw [if_pos ⟨by omega, h2, by omega⟩, if_pos (by omega)]
        · rw [if_neg (by omega), if_neg (by omega), List.getElem?_drop]
          congr 1; omega
    have hr' : RVs w ok g (cells.take off ++ (ev x).cells ++ cells.drop (off + size)) (vs.take off ++ (a.eval x).cells.toList ++ vs.drop (off + size)) :=
      ((hr.take off).append hc).append (hr.drop (off + size))
    rw [List.append_assoc] at hr'
    obtain ⟨us, h1, h2, h3⟩ := fill_spec rest _ cs _ hev h hr'
    refine ⟨us, ?_, h2, by rw [h3]; simp; omega⟩
    simp only [List.map_cons, Instr.fill, hp]
    rw [if_neg (by simp [hcs]; omega), e]
    rw [List.append_assoc] at h1 ⊢
    exact h1

theorem placesOf_spec : ∀ {fs : List Field} {pl : List (Nat × Nat)}, placesOf P fs = some pl → fs.mapM (fun f => (P.info? f.type).map fun i => (f.offset, i.size)) = some pl
  | [], pl, h => by simp [placesOf] at h; subst h; rfl
  | f :: fs, pl, h => by
    simp only [placesOf] at h
    split at h <;> cases h
    rename_i i r h1 h2
    simp [List.mapM_cons, h1, placesOf_spec h2]

theorem parts_toList (parts : Array (Nat × Operand)) : (parts.map fun (i, x) => (i, a.eval x)).toList = parts.toList.map fun p => (p.1, a.eval p.2) := by
  simp

theorem build_does {t : TypeId} {parts : Array (Nat × Operand)} {p : PO} (hop : o.op = .build t parts) (hev : ∀ x, RV w ok g (ev x) (a.eval x)) (hp : pas P ev lk nm o.op = some p) : Does P o a w ok g nm p := by
  rw [hop] at hp
  simp only [pas, fN_eq, fL_eq, fPl_eq] at hp
  split at hp
  · rename_i z fs hz hu
    obtain ⟨i, v, hi, hv, rfl⟩ := zeroAV_spec hz
    obtain ⟨vs, hvs, hr⟩ := ofVal_cells (w := w) (ok := ok) (g := g) v
    split at hp
    · rename_i pl hpl
      split at hp <;> cases hp
      rename_i cs hf
      obtain ⟨us, h1, h2, _⟩ := fill_spec (a := a) parts.toList _ cs vs hev hf hr
      have hb : P.built t (parts.map fun (i, x) => (i, a.eval x)).toList = some us.toArray := by
        unfold Program.built
        simp only [hi, hu, hv, placesOf_spec hpl]
        rw [parts_toList, ← h1, ← hvs]
        congr 1
        funext i; simp
      refine Does.val (v := .agg us.toArray) ?_ ⟨us, rfl, h2⟩
      simp [execOp, hop, run_build w t _ _ hb]
    · cases hp
  · rename_i z n e hz hu
    obtain ⟨i, v, hi, hv, rfl⟩ := zeroAV_spec hz
    obtain ⟨vs, hvs, hr⟩ := ofVal_cells (w := w) (ok := ok) (g := g) v
    cases hc : Nat.beq (P.cellsOf e) 0 <;> simp [hc] at hp
    split at hp <;> cases hp
    rename_i cs hf
    obtain ⟨us, h1, h2, _⟩ := fill_spec (a := a) parts.toList _ cs vs hev hf hr
    have hie : ∃ ie, P.info? e = some ie ∧ ie.size = P.cellsOf e := by
      unfold Program.cellsOf
      cases hie : P.info? e with
      | none => simp [Program.cellsOf, hie] at hc
      | some ie => exact ⟨ie, rfl, by simp⟩
    obtain ⟨ie, hie, hsz⟩ := hie
    have hb : P.built t (parts.map fun (i, x) => (i, a.eval x)).toList = some us.toArray := by
      unfold Program.built
      simp only [hi, hu, hv, hie]
      rw [parts_toList, ← h1, ← hvs, hsz]
    refine Does.val (v := .agg us.toArray) ?_ ⟨us, rfl, h2⟩
    simp [execOp, hop, run_build w t _ _ hb]
  · cases hp

theorem RVs_replicate {z : List AV} {vs : List Value} (h : RVs w ok g z vs) : ∀ n, RVs w ok g (List.replicate n z).flatten (List.replicate n vs).flatten
  | 0 => rfl
  | n + 1 => by rw [List.replicate_succ, List.replicate_succ, List.flatten_cons, List.flatten_cons]; exact h.append (RVs_replicate h n)

theorem get_replicate (vs : List Value) (hs : 0 < vs.length) : ∀ (n k : Nat), k < n * vs.length → (List.replicate n vs).flatten[k]? = vs[k % vs.length]?
  | 0, k, h => by omega
  | n + 1, k, h => by
    rw [List.replicate_succ, List.flatten_cons, List.getElem?_append]
    split
    · rw [Nat.mod_eq_of_lt ‹_›]
    · rename_i h1
      rw [Nat.add_mul, Nat.one_mul] at h
      rw [get_replicate vs hs n _ (by omega), ← Nat.mod_eq_sub_mod (by omega)]

theorem madeCells_flat (z : Array Value) (n : Nat) (hs : 0 < z.size) : madeCells z (n * z.size) = ((List.replicate n z.toList).flatten).toArray := by
  apply Array.ext'
  apply List.ext_getElem?
  intro k
  show _ = (List.replicate n z.toList).flatten[k]?
  by_cases hk : k < n * z.size
  · rw [get_replicate z.toList (by simpa using hs) n k (by simpa using hk)]
    have hm : k % z.size < z.size := Nat.mod_lt _ hs
    simp [madeCells, hk, hm]
  · rw [List.getElem?_eq_none (by rw [Array.length_toList, size_madeCells]; omega), List.getElem?_eq_none]
    simp; omega

theorem RVs_nameless {cs : List AV} {vs : List Value} (hcs : cs.all AV.nameless = true) (h : RVs w ok g cs vs) : RVs w ok G0 cs vs := by
  induction cs generalizing vs with
  | nil => exact h
  | cons c r ih =>
    obtain ⟨v, us, e, h1, h2⟩ := h
    simp only [List.all_cons, Bool.and_eq_true] at hcs
    refine ⟨v, us, e, ?_, ih hcs.2 h2⟩
    cases c <;> first | exact h1 | (cases hcs.1; done) | skip
    rename_i t x
    obtain ⟨y, e, h⟩ := h1
    cases x <;> first | exact ⟨y, e, h⟩ | (cases hcs.1)

theorem buildSlice_does {t : TypeId} {len : Nat} {parts : Array (Nat × Operand)} {p : PO} (hok : ∀ b, ok b → b < w.heap.size) (hnm : g nm = none) (hop : o.op = .buildSlice t len parts) (hev : ∀ x, RV w ok g (ev x) (a.eval x))
    (hp : pas P ev lk nm o.op = some p) : Does P o a w ok g nm p := by
  rw [hop] at hp
  simp only [pas, fN_eq, fL_eq, fPl_eq] at hp
  split at hp
  · rename_i e hel
    have hu : P.underlying t = some (.slice e) := by
      unfold elemOf? at hel; split at hel <;> cases hel; assumption
    split at hp
    · rename_i z hz
      obtain ⟨i, v, hi, hv, rfl⟩ := zeroAV_spec hz
      obtain ⟨vs, hvs, hr⟩ := ofVal_cells (w := w) (ok := ok) (g := g) v
      cases hc : (Nat.beq (P.cellsOf e) 0 || !Nat.beq (ofVal v).cells.length (P.cellsOf e) || Nat.ble 1000 len || Nat.ble 1000 (P.cellsOf e)) <;> simp [hc] at hp
      simp only [Bool.or_eq_false_iff, Bool.not_eq_false'] at hc
      have c1 : ¬ P.cellsOf e = 0 := fun h => by rw [h] at hc; cases hc.1.1.1
      have c2 := Nat.eq_of_beq_eq_true hc.1.1.2
      have c3 : len < 1000 := Nat.lt_of_not_le fun h => by have := Nat.ble_eq_true_of_le h; rw [hc.1.2] at this; cases this
      have c4 : P.cellsOf e < 1000 := Nat.lt_of_not_le fun h => by have := Nat.ble_eq_true_of_le h; rw [hc.2] at this; cases this
      split at hp
      · rename_i cs hf
        cases hnl : cs.all AV.nameless <;> simp [hnl] at hp
        subst hp
        have hsz : i.size = P.cellsOf e := by simp [Program.cellsOf, hi]
        have hl := hr.length
        have hvl : v.cells.size = P.cellsOf e := by rw [← Array.length_toList, hvs]; omega
        obtain ⟨us, h1, h2, h3⟩ := fill_spec (a := a) parts.toList _ cs _ hev hf (RVs_replicate hr len)
        have hul := h2.length
        have hfl : ((List.replicate len (ofVal v).cells).flatten).length = len * P.cellsOf e := by simp [c2]
        have hfill : Instr.fill (fun i => some (i * P.cellsOf e, P.cellsOf e)) (madeCells v.cells (len * P.cellsOf e)) (parts.map fun (i, x) => (i, a.eval x)).toList = some us.toArray := by
          rw [parts_toList, ← h1, ← hvl, madeCells_flat _ _ (by omega), hvs]
        have hsm : len * P.cellsOf e ≤ 2 ^ 24 := Nat.le_trans (Nat.mul_le_mul (Nat.le_of_lt c3) (Nat.le_of_lt c4)) (by decide)
        have hrun : (execOp a.eval o).run P w = .ok (.value (.slice (some ⟨w.heap.size, 0, none⟩) len len)) (w.alloc (.cells us.toArray e)) := by
          by_cases hlen : len = 0
          · subst hlen
            have e0 : ∀ f : Nat → Value, (Array.range 0).map f = #[] := fun f => by simp [Array.range_zero']
            simp only [madeCells, Nat.zero_mul, e0] at hfill
            simp [execOp, hop, Instr.buildSlice, run_underlying hu, sizeOf, typeInfo, hi, newRow, hsz]
            simp only [Array.toList_map] at hfill
            simp [e0, hfill]
          · have hne : ¬ len * i.size = 0 := by rw [hsz]; exact Nat.mul_ne_zero hlen c1
            have := run_buildSlice (P := P) w t e len (parts.map fun (i, x) => (i, a.eval x)) us.toArray i v hu hi hv (by rw [hsz]; omega) hne (by rw [hsz]; exact hfill)
            simp [execOp, hop, this]
        have hul' : us.length = len * P.cellsOf e := by omega
        refine ⟨_, _, ⟨some w.heap.size, len, len⟩, hrun, rfl, ⟨rfl, .inr ⟨w.heap.size, us.toArray, rfl, heap_alloc_new w _, Nat.le_refl _, by simp [maxLen]; omega, by simp [hul'], fun k hk => ?_⟩⟩, ⟨_, gset_same, rfl⟩⟩
        have hb : k * P.cellsOf e + P.cellsOf e ≤ us.length := by rw [hul']; calc k * P.cellsOf e + P.cellsOf e = (k + 1) * P.cellsOf e := by rw [Nat.add_mul, Nat.one_mul]
            _ ≤ len * P.cellsOf e := Nat.mul_le_mul_right _ hk
        refine ⟨(us.drop (k * P.cellsOf e)).take (P.cellsOf e), by simp; omega, ?_, fun j hj => ?_⟩
        · have h2' := RVs_nameless hnl h2
          exact RVs.mono (fun _ h => h) (fun b hb => RowKit.Below.heap_alloc _ _ _ (hok b hb)) G0 G0 (fun _ _ h => h) _ _ ((h2'.drop (k * P.cellsOf e)).take (P.cellsOf e))
        · rw [List.getElem?_take, if_pos hj, List.getElem?_drop]; simp
      · cases hp
    · cases hp
  · cases hp

theorem makeSlice_does {t : TypeId} {l c : Operand} {p : PO} (hok : ∀ b, ok b → b < w.heap.size) (hop : o.op = .makeSlice t l c) (hev : ∀ x, RV w ok g (ev x) (a.eval x))
    (hp : pas P ev lk nm o.op = some p) (hpre : ∀ q, p.pre = some q → q) : Does P o a w ok g nm p := by
  rw [hop] at hp
  simp only [pas, fN_eq, fL_eq, fPl_eq] at hp
  split at hp
  · rename_i e n k hel hn hk
    have hu : P.underlying t = some (.slice e) := by
      unfold elemOf? at hel; split at hel <;> cases hel; assumption
    split at hp
    · rename_i z hz
      obtain ⟨i, v, hi, hv, rfl⟩ := zeroAV_spec hz
      cases hc : (Nat.beq (P.cellsOf e) 0 || !Nat.beq (ofVal v).cells.length (P.cellsOf e)) <;> simp [hc] at hp
      subst hp
      obtain ⟨q1, rfl, q2, q3⟩ := hpre _ rfl
      simp only [Bool.or_eq_false_iff, Bool.not_eq_false'] at hc
      have c1 : ¬ P.cellsOf e = 0 := fun h => by rw [h] at hc; cases hc.1
      have c2 := Nat.eq_of_beq_eq_true hc.2
      obtain ⟨vs, hvs, hr⟩ := ofVal_cells (w := w.alloc (.cells (madeCells v.cells (k.toNat * P.cellsOf e)) e)) (ok := ok) (g := G0) v
      have hvl : v.cells.size = P.cellsOf e := by rw [← Array.length_toList, hvs]; have := hr.length; omega
      have hsz : i.size = P.cellsOf e := by simp [Program.cellsOf, hi]
      have hby : i.bytes = P.bytesOf e := by simp [Program.bytesOf, hi]
      have e1 := hev l; have e2 := hev c
      rw [hn] at e1; rw [hk] at e2
      simp only [RV] at e1 e2
      have := run_make (P := P) w t e i v hu hi hv .i64 .i64 k k q1 (Int.le_refl _) (by rw [hby]; omega) q3
      rw [hsz] at this
      refine ⟨_, _, ⟨some w.heap.size, k.toNat, k.toNat⟩, by simp [execOp, hop, e1, e2, this]; rfl, rfl, ⟨rfl, .inr ⟨w.heap.size, _, rfl, heap_alloc_new w _, Nat.le_refl _, by simp [maxLen]; omega, by rw [size_madeCells], fun x hx => ?_⟩⟩, ⟨_, gset_same, rfl⟩⟩
      refine ⟨vs, by have := hr.length; omega, hr, fun j hj => ?_⟩
      have hlt : x * P.cellsOf e + j < k.toNat * P.cellsOf e := by
        calc x * P.cellsOf e + j < x * P.cellsOf e + P.cellsOf e := by omega
          _ = (x + 1) * P.cellsOf e := by rw [Nat.add_mul, Nat.one_mul]
          _ ≤ k.toNat * P.cellsOf e := Nat.mul_le_mul_right _ hx
      have hm : (x * P.cellsOf e + j) % v.cells.size = j := by rw [hvl, Nat.mul_comm, Nat.mul_add_mod, Nat.mod_eq_of_lt hj]
      have hj' : j < v.cells.size := by omega
      rw [← hvs]
      simp [madeCells, hlt, hm, hj']
    · cases hp
  · cases hp

/-- A slice's rows as they lie in memory. -/
theorem rowsOf_spec {x : AV} {v : Value} {sz n : Nat} {rows : Nat → List AV} (h : rowsOf lk x = some (sz, n, rows)) (hx : RV w ok g x v) (hob : ∀ m mo G, lk m = some mo → g m = some G → MRel w ok g G mo) :
    ∃ A c, v = .slice A n c ∧ n ≤ c ∧ (n = 0 ∨ ∃ b o, A = some ⟨b, o, none⟩ ∧ ∀ i, i < n → ∃ vs : List Value, vs.length = sz ∧ RVs w ok G0 (rows i) vs ∧ ∀ j, j < sz → w.cell? ⟨b, o + (i * sz + j), none⟩ = vs[j]?) := by
  unfold rowsOf at h
  split at h
  · cases h
    obtain ⟨A, c, e, hn, hr⟩ := hx
    exact ⟨A, c, e, hn, hr.imp id fun ⟨b, o, hA, _, r⟩ => ⟨b, o, hA, r⟩⟩
  · cases h; exact ⟨_, _, hx, Nat.le_refl _, .inl rfl⟩
  · rename_i m
    obtain ⟨G, hm, e⟩ := hx
    split at h <;> cases h
    rename_i hlk
    obtain ⟨hn, hr⟩ := hob m _ G hlk hm
    rcases hr with ⟨hb, h0, hc⟩ | ⟨b, cur, hb, hh, hnc, _, hcs, r⟩
    · exact ⟨_, _, by rw [e, hn], by omega, .inl h0⟩
    · refine ⟨_, _, by rw [e, hn], hnc, .inr ⟨b, 0, by rw [hb]; rfl, fun i hi => ?_⟩⟩
      obtain ⟨vs, hl, hv, hcell⟩ := r i hi
      exact ⟨vs, hl, hv, fun j hj => by rw [Nat.zero_add, cell_of_row w b _ _ _ _ hh]; exact hcell j hj⟩
  · cases h

theorem convert_does {s d : TypeId} {x : Operand} {p : PO} (hop : o.op = .convert s d x) (hx : RV w ok g (ev x) (a.eval x)) (hob : ∀ m mo G, lk m = some mo → g m = some G → MRel w ok g G mo)
    (hp : pas P ev lk nm o.op = some p) (hpre : ∀ q, p.pre = some q → q) : Does P o a w ok g nm p := by
  rw [hop] at hp
  simp only [pas, fN_eq, fL_eq, fPl_eq] at hp
  split at hp
  · rename_i k1 k hs hd
    split at hp <;> cases hp
    rename_i k2 n he
    rw [he] at hx; simp only [RV] at hx
    have hq := hpre _ rfl
    refine Does.val (v := .int k n) ?_ rfl
    simp [execOp, hop, hx, convert, run_underlying hs, run_underlying hd, Conv.intToInt, inI_wrap hq]
  · rename_i hs hd
    split at hp <;> cases hp
    rename_i n he
    rw [he] at hx; simp only [RV] at hx
    refine Does.val (v := .string n) ?_ rfl
    simp [execOp, hop, hx, convert, run_underlying hs, run_underlying hd]
  · rename_i e hs hd
    split at hp <;> cases hp
    rename_i n rows hu he
    have hq := hpre _ rfl
    obtain ⟨A, c, hv, hn, hr⟩ := rowsOf_spec he hx hob
    refine Does.val (v := .string (bytesOf n rows)) ?_ rfl
    have key : (convert s d (.slice A n c)).run P w = .ok (.string (bytesOf n rows)) w := by
      rcases hr with h0 | ⟨b, o', hA, hr⟩
      · subst h0
        cases A with
        | none => exact run_convert_bytes_nil w s e hs hu 0 c d hd
        | some ad =>
          have hl : (loadCells ad 0).run P w = .ok (([] : List Int).map (Value.int .u8)).toArray w := run_loadCells_list (P := P) w ad [] (by simp)
          rw [run_convert_bytes_string w s d e (some ad) 0 c hs hu hd, run_bytesToString w ad 0 c [] hl]
          rfl
      · subst hA
        refine run_convert_bytes_arg w s e hs hu b o' n c _ (by simp) (fun i hi => ?_) d hd
        obtain ⟨vs, hl, hvs, hc⟩ := hr i hi
        rw [hq i hi] at hvs
        obtain ⟨v, us, e1, e2, e3⟩ := hvs
        simp only [RV] at e2
        have := hc 0 (by omega)
        simp only [Nat.mul_one, Nat.add_zero] at this
        rw [this, e1, e2]
        simp [List.getD, hi]
    simp [execOp, hop, hv, key]
  · cases hp

theorem zeroFalse_spec {t : TypeId} (h : zeroFalse P t = true) : (zeroValue t).run P w = .ok (.bool false) w := by
  unfold zeroFalse at h
  split at h
  · rename_i hz
    cases hi : P.info? t with
    | none => simp [hi] at hz
    | some i => simp [hi] at hz; simp [zeroValue, typeInfo, hi, hz]
  · cases h
theorem makeMap_does {t : TypeId} {r : Option Operand} {p : PO} (hok : ∀ b, ok b → b < w.heap.size) (hnm : g nm = none) (hop : o.op = .makeMap t r) (hp : pas P ev lk nm o.op = some p) : Does P o a w ok g nm p := by
  rw [hop] at hp
  cases r with
  | some x => simp [pas] at hp
  | none =>
    simp only [pas, fN_eq, fL_eq, fPl_eq] at hp
    have hrun : (execOp a.eval o).run P w = .ok (.value (.map (some w.heap.size))) (w.alloc (.map #[] 0)) := by
      simp [execOp, hop, Instr.makeMap]
    have hb := heap_alloc_new w (.map #[] 0)
    split at hp
    · split at hp <;> cases hp
      · exact ⟨_, _, ⟨some w.heap.size, 0, 0⟩, hrun, rfl, ⟨_, _, _, rfl, hb, rfl, List.nodup_nil, fun e he => by simp at he⟩, ⟨_, _, gset_same, rfl, rfl⟩⟩
      · exact ⟨_, _, ⟨some w.heap.size, 0, 0⟩, hrun, rfl, ⟨_, _, _, rfl, hb, rfl, List.nodup_nil, fun e he => by simp at he⟩, ⟨_, _, gset_same, rfl, rfl⟩⟩
    · cases hp

theorem lookup_run {t k e : TypeId} {x i : Operand} {b cl : Nat} {es : Array MapEntry} {d : TypeDesc} {kv : Value} {q : Prop} [Decidable q] (hop : o.op = .lookup t x i false) (hu : P.underlying t = some (.map k e)) (hz : zeroFalse P e = true)
    (hd : P.underlying k = some d) (hv : a.eval x = .map (some b)) (hi : a.eval i = kv) (hh : w.heap[b]? = some (.map es cl)) (hk : MapKept.IsKey d kv) (hks : ∀ x ∈ es.toList, MapKept.IsKey d x.key)
    (hval : ∀ x ∈ es.toList, x.val = .bool true) (hq : q ↔ kv ∈ es.toList.map (·.key)) : (execOp a.eval o).run P w = .ok (.value (.bool (decide q))) w := by
  have hu' := run_underlying (w := w) hu
  have hg := MapKept.run_getObj_map (P := P) hh
  rcases MapKept.findNow_spec hk es.toList 0 hks with ⟨h1, h2⟩ | ⟨j, y, h1, h2, h3⟩
  · have hne : ¬ q := fun hh => by
      obtain ⟨y, hy, e⟩ := List.mem_map.1 (hq.1 hh)
      exact h2 y hy e
    simp [execOp, hop, hv, hi, Instr.lookup, hu', hg, MapKept.run_checkKey hd hk, MapKept.run_findKey hd h1, zeroFalse_spec hz, hne]
  · have hy : y ∈ es.toList := List.mem_of_getElem? h2
    have hqq : q := hq.2 (List.mem_map.2 ⟨y, hy, h3⟩)
    simp [execOp, hop, hv, hi, Instr.lookup, hu', hg, MapKept.run_checkKey hd hk, MapKept.run_findKey hd h1, hval y hy, hqq]

theorem lookup_does {t : TypeId} {x i : Operand} {c : Bool} {p : PO} (hop : o.op = .lookup t x i c) (hx : RV w ok g (ev x) (a.eval x)) (hi : RV w ok g (ev i) (a.eval i))
    (hob : ∀ m mo G, lk m = some mo → g m = some G → MRel w ok g G mo) (hp : pas P ev lk nm o.op = some p) : Does P o a w ok g nm p := by
  rw [hop] at hp
  cases c with
  | true => simp [pas] at hp
  | false =>
    simp only [pas, fN_eq, fL_eq, fPl_eq] at hp
    split at hp
    · rename_i k e m hu he
      rw [he] at hx
      obtain ⟨G, b, hm, hb, hv⟩ := hx
      split at hp <;> cases hp
      · rename_i ks n hz hd hlk hn
        rw [hn] at hi
        obtain ⟨b', es, cl, hb', hh, hk, hnd, hval⟩ := hob m _ G hlk hm
        rw [hb] at hb'; cases hb'
        refine Does.val (v := .bool (decide (n ∈ ks))) (lookup_run (kv := .int .i64 n) hop hu hz hd hv hi hh (by simp [MapKept.IsKey]) (fun x hx => ?_) hval ?_) rfl
        · have : x.key ∈ es.toList.map (·.key) := List.mem_map.2 ⟨x, hx, rfl⟩
          rw [hk] at this
          obtain ⟨y, _, e⟩ := List.mem_map.1 this
          rw [← e]; simp [MapKept.IsKey]
        · rw [hk]; simp
      · rename_i ks s hz hd hlk hn
        rw [hn] at hi
        obtain ⟨b', es, cl, hb', hh, hk, hnd, hval⟩ := hob m _ G hlk hm
        rw [hb] at hb'; cases hb'
        refine Does.val (v := .bool (decide (s.data.toList ∈ ks))) (lookup_run (kv := .string s) hop hu hz hd hv hi hh (by simp [MapKept.IsKey]) (fun x hx => ?_) hval ?_) rfl
        · have : x.key ∈ es.toList.map (·.key) := List.mem_map.2 ⟨x, hx, rfl⟩
          rw [hk] at this
          obtain ⟨y, _, e⟩ := List.mem_map.1 this
          rw [← e]; simp [MapKept.IsKey]
        · rw [hk]
          constructor
          · intro h; exact List.mem_map.2 ⟨_, h, by simp⟩
          · intro h
            obtain ⟨l, hl, e⟩ := List.mem_map.1 h
            cases e; simpa using hl
    · cases hp
end
end Go.Vw
