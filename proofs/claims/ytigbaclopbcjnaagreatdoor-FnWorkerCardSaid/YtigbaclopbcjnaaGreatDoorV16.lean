/- V16: a part of a tool for walks: what a piece of a Go program does, by abstract values. It holds of every program; no condition. -/
import Derived.Test.YtigbaclopbcjnaaGreatDoorV8
import Derived.MapKept
import Derived.Deep.AppendSrc
import Derived.Scope
set_option linter.unusedVariables false
set_option linter.unusedSimpArgs false
set_option linter.unusedSectionVars false
set_option linter.constructorNameAsVariable false

namespace Go.Vw
open Go
section
variable {P : Program} {o : Oper} {a : Act} {w : World} {ok : Nat → Prop} {g : Nat → Option Gh} {nm : Nat} {ev : Operand → AV} {lk : Nat → Option MO}
theorem cells_isVal {x : AV} {v : Value} (hi : x.isVal = true) (h : RV w ok g x v) : RVs w ok g x.cells v.cells.toList :=
 cells_RVs h (fun e => by rw [e] at hi; cases hi) (fun l e => by rw [e] at hi; cases hi) (fun e => by rw [e] at hi; cases hi)
theorem fill_spec {pl : Nat → Option (Nat × Nat)} : ∀ (parts : List (Nat × Operand)) (cells : List AV) (cs : List AV) (vs : List Value), (∀ x, RV w ok g (ev x) (a.eval x)) →
 fillAV pl cells (parts.map fun p => (p.1, ev p.2)) = some cs → RVs w ok g cells vs →
 ∃ us, Instr.fill pl vs.toArray (parts.map fun p => (p.1, a.eval p.2)) = some (List.toArray us) ∧ RVs w ok g cs us ∧ cs.length = cells.length
 | [], cells, cs, vs, _, h, hr => by simp [fillAV] at h; subst h; exact ⟨vs, rfl, hr, rfl⟩
 | (i, x) :: rest, cells, cs, vs, hev, h, hr => by
   simp only [List.map_cons, fillAV, fN_eq, fA_eq, fL_eq] at h
   split at h
   · cases h
   rename_i off size hp
   cases hz : (((ev x).isVal && Nat.beq (ev x).cells.length size) && Nat.ble (off + size) cells.length) <;> simp [hz] at h
   simp only [Bool.and_eq_true, Nat.ble_eq] at hz
   have hc := cells_isVal hz.1.1 (hev x)
   have hl := hc.length
   have hsz := Nat.eq_of_beq_eq_true hz.1.2
   have hvl := hr.length
   have hcs : (a.eval x).cells.size = size := by rw [← Array.length_toList]; omega
   obtain ⟨f1, f2⟩ := Great.foldl_set off (a.eval x).cells.toList 0 vs.toArray
   have e : ((a.eval x).cells.zipIdx.foldl (fun cs (y : Value × Nat) => cs.setIfInBounds (off + y.2) y.1) vs.toArray) = (vs.take off ++ (a.eval x).cells.toList ++ vs.drop (off + size)).toArray := by
    rw [← Array.foldl_toList, Array.toList_zipIdx]
    apply Array.ext_getElem?
    intro k
    rw [f2 k]
    simp only [Nat.add_zero, Array.length_toList, hcs, List.size_toArray, List.getElem?_toArray]
    rw [List.append_assoc, List.getElem?_append, List.getElem?_append]
    simp only [List.length_take, Array.length_toList, hcs]
    by_cases h1 : k < off
    · rw [if_neg (by omega), if_pos (by omega), List.getElem?_take, if_pos h1]
    · rw [if_neg (show ¬ k < min off vs.length by omega)]
      have hmin : min off vs.length = off := by omega
      rw [hmin]
      by_cases h2 : k < off + size
      · rw [if_pos ⟨by omega, h2, by omega⟩, if_pos (by omega)]
      · rw [if_neg (by omega), if_neg (by omega), List.getElem?_drop]
        congr 1; omega
   have hr' : RVs w ok g (cells.take off ++ (ev x).cells ++ cells.drop (off + size)) (vs.take off ++ (a.eval x).cells.toList ++ vs.drop (off + size)) :=
    ((hr.take off).append hc).append (hr.drop (off + size))
   rw [List.append_assoc] at hr'
   obtain ⟨us, h1, h2, h3⟩ := fill_spec rest _ cs _ hev h hr'
   refine ⟨us, ?_, h2, by rw [h3]; simp; omega⟩
   simp only [List.map_cons, Instr.fill, hp]
   rw [if_neg (by simp [hcs]; omega), e]
   rw [List.append_assoc] at h1 ⊢
   exact h1
theorem placesOf_spec : ∀ {fs : List Field} {pl : List (Nat × Nat)}, placesOf P fs = some pl → fs.mapM (fun f => (P.info? f.type).map fun i => (f.offset, i.size)) = some pl
 | [], pl, h => by simp [placesOf] at h; subst h; rfl
 | f :: fs, pl, h => by
   simp only [placesOf] at h
   split at h <;> cases h
   rename_i i r h1 h2
   simp [List.mapM_cons, h1, placesOf_spec h2]
theorem parts_toList (parts : Array (Nat × Operand)) : (parts.map fun (i, x) => (i, a.eval x)).toList = parts.toList.map fun p => (p.1, a.eval p.2) := by
 simp
theorem build_does {t : TypeId} {parts : Array (Nat × Operand)} {p : PO} (hop : o.op = .build t parts) (hev : ∀ x, RV w ok g (ev x) (a.eval x)) (hp : pas P ev lk nm o.op = some p) : Does P o a w ok g nm p := by
 rw [hop] at hp
 simp only [pas, fN_eq, fL_eq, fPl_eq] at hp
 split at hp
 · rename_i z fs hz hu
   obtain ⟨i, v, hi, hv, rfl⟩ := zeroAV_spec hz
   obtain ⟨vs, hvs, hr⟩ := ofVal_cells (w := w) (ok := ok) (g := g) v
   split at hp
   · rename_i pl hpl
     split at hp <;> cases hp
     rename_i cs hf
     obtain ⟨us, h1, h2, _⟩ := fill_spec (a := a) parts.toList _ cs vs hev hf hr
     have hb : P.built t (parts.map fun (i, x) => (i, a.eval x)).toList = some us.toArray := by
      unfold Program.built
      simp only [hi, hu, hv, placesOf_spec hpl]
      rw [parts_toList, ← h1, ← hvs]
      congr 1
      funext i; simp
     refine Does.val (v := .agg us.toArray) ?_ ⟨us, rfl, h2⟩
     simp [execOp, hop, run_build w t _ _ hb]
   · cases hp
 · rename_i z n e hz hu
   obtain ⟨i, v, hi, hv, rfl⟩ := zeroAV_spec hz
   obtain ⟨vs, hvs, hr⟩ := ofVal_cells (w := w) (ok := ok) (g := g) v
   cases hc : Nat.beq (P.cellsOf e) 0 <;> simp [hc] at hp
   split at hp <;> cases hp
   rename_i cs hf
   obtain ⟨us, h1, h2, _⟩ := fill_spec (a := a) parts.toList _ cs vs hev hf hr
   have hie : ∃ ie, P.info? e = some ie ∧ ie.size = P.cellsOf e := by
    unfold Program.cellsOf
    cases hie : P.info? e with
    | none => simp [Program.cellsOf, hie] at hc
    | some ie => exact ⟨ie, rfl, by simp⟩
   obtain ⟨ie, hie, hsz⟩ := hie
   have hb : P.built t (parts.map fun (i, x) => (i, a.eval x)).toList = some us.toArray := by
    unfold Program.built
    simp only [hi, hu, hv, hie]
    rw [parts_toList, ← h1, ← hvs, hsz]
   refine Does.val (v := .agg us.toArray) ?_ ⟨us, rfl, h2⟩
   simp [execOp, hop, run_build w t _ _ hb]
 · cases hp
theorem RVs_replicate {z : List AV} {vs : List Value} (h : RVs w ok g z vs) : ∀ n, RVs w ok g (List.replicate n z).flatten (List.replicate n vs).flatten
 | 0 => rfl
 | n + 1 => by rw [List.replicate_succ, List.replicate_succ, List.flatten_cons, List.flatten_cons]; exact h.append (RVs_replicate h n)
theorem get_replicate (vs : List Value) (hs : 0 < vs.length) : ∀ (n k : Nat), k < n * vs.length → (List.replicate n vs).flatten[k]? = vs[k % vs.length]?
 | 0, k, h => by omega
 | n + 1, k, h => by
   rw [List.replicate_succ, List.flatten_cons, List.getElem?_append]
   split
   · rw [Nat.mod_eq_of_lt ‹_›]
   · rename_i h1
     rw [Nat.add_mul, Nat.one_mul] at h
     rw [get_replicate vs hs n _ (by omega), ← Nat.mod_eq_sub_mod (by omega)]
theorem madeCells_flat (z : Array Value) (n : Nat) (hs : 0 < z.size) : madeCells z (n * z.size) = ((List.replicate n z.toList).flatten).toArray := by
 apply Array.ext'
 apply List.ext_getElem?
 intro k
 show _ = (List.replicate n z.toList).flatten[k]?
 by_cases hk : k < n * z.size
 · rw [get_replicate z.toList (by simpa using hs) n k (by simpa using hk)]
   have hm : k % z.size < z.size := Nat.mod_lt _ hs
   simp [madeCells, hk, hm]
 · rw [List.getElem?_eq_none (by rw [Array.length_toList, size_madeCells]; omega), List.getElem?_eq_none]
   simp; omega
theorem RVs_nameless {cs : List AV} {vs : List Value} (hcs : cs.all AV.nameless = true) (h : RVs w ok g cs vs) : RVs w ok G0 cs vs := by
 induction cs generalizing vs with
 | nil => exact h
 | cons c r ih =>
   obtain ⟨v, us, e, h1, h2⟩ := h
   simp only [List.all_cons, Bool.and_eq_true] at hcs
   refine ⟨v, us, e, ?_, ih hcs.2 h2⟩
   cases c <;> first | exact h1 | (cases hcs.1; done) | skip
   rename_i t x
   obtain ⟨y, e, h⟩ := h1
   cases x <;> first | exact ⟨y, e, h⟩ | (cases hcs.1)
theorem buildSlice_does {t : TypeId} {len : Nat} {parts : Array (Nat × Operand)} {p : PO} (hok : ∀ b, ok b → b < w.heap.size) (hnm : g nm = none) (hop : o.op = .buildSlice t len parts) (hev : ∀ x, RV w ok g (ev x) (a.eval x))
 (hp : pas P ev lk nm o.op = some p) : Does P o a w ok g nm p := by
 rw [hop] at hp
 simp only [pas, fN_eq, fL_eq, fPl_eq] at hp
 split at hp
 · rename_i e hel
   have hu : P.underlying t = some (.slice e) := by
    unfold elemOf? at hel; split at hel <;> cases hel; assumption
   split at hp
   · rename_i z hz
     obtain ⟨i, v, hi, hv, rfl⟩ := zeroAV_spec hz
     obtain ⟨vs, hvs, hr⟩ := ofVal_cells (w := w) (ok := ok) (g := g) v
     cases hc : (Nat.beq (P.cellsOf e) 0 || !Nat.beq (ofVal v).cells.length (P.cellsOf e) || Nat.ble 1000 len || Nat.ble 1000 (P.cellsOf e)) <;> simp [hc] at hp
     simp only [Bool.or_eq_false_iff, Bool.not_eq_false'] at hc
     have c1 : ¬ P.cellsOf e = 0 := fun h => by rw [h] at hc; cases hc.1.1.1
     have c2 := Nat.eq_of_beq_eq_true hc.1.1.2
     have c3 : len < 1000 := Nat.lt_of_not_le fun h => by have := Nat.ble_eq_true_of_le h; rw [hc.1.2] at this; cases this
     have c4 : P.cellsOf e < 1000 := Nat.lt_of_not_le fun h => by have := Nat.ble_eq_true_of_le h; rw [hc.2] at this; cases this
     split at hp
     · rename_i cs hf
       cases hnl : cs.all AV.nameless <;> simp [hnl] at hp
       subst hp
       have hsz : i.size = P.cellsOf e := by simp [Program.cellsOf, hi]
       have hl := hr.length
       have hvl : v.cells.size = P.cellsOf e := by rw [← Array.length_toList, hvs]; omega
       obtain ⟨us, h1, h2, h3⟩ := fill_spec (a := a) parts.toList _ cs _ hev hf (RVs_replicate hr len)
       have hul := h2.length
       have hfl : ((List.replicate len (ofVal v).cells).flatten).length = len * P.cellsOf e := by simp [c2]
       have hfill : Instr.fill (fun i => some (i * P.cellsOf e, P.cellsOf e)) (madeCells v.cells (len * P.cellsOf e)) (parts.map fun (i, x) => (i, a.eval x)).toList = some us.toArray := by
        rw [parts_toList, ← h1, ← hvl, madeCells_flat _ _ (by omega), hvs]
       have hsm : len * P.cellsOf e ≤ 2 ^ 24 := Nat.le_trans (Nat.mul_le_mul (Nat.le_of_lt c3) (Nat.le_of_lt c4)) (by decide)
       have hrun : (execOp a.eval o).run P w = .ok (.value (.slice (some ⟨w.heap.size, 0, none⟩) len len)) (w.alloc (.cells us.toArray e)) := by
        by_cases hlen : len = 0
        · subst hlen
          have e0 : ∀ f : Nat → Value, (Array.range 0).map f = #[] := fun f => by simp [Array.range_zero']
          simp only [madeCells, Nat.zero_mul, e0] at hfill
          simp [execOp, hop, Instr.buildSlice, run_underlying hu, sizeOf, typeInfo, hi, newRow, hsz]
          simp only [Array.toList_map] at hfill
          simp [e0, hfill]
        · have hne : ¬ len * i.size = 0 := by rw [hsz]; exact Nat.mul_ne_zero hlen c1
          have := run_buildSlice (P := P) w t e len (parts.map fun (i, x) => (i, a.eval x)) us.toArray i v hu hi hv (by rw [hsz]; omega) hne (by rw [hsz]; exact hfill)
          simp [execOp, hop, this]
       have hul' : us.length = len * P.cellsOf e := by omega
       refine ⟨_, _, ⟨some w.heap.size, len, len⟩, hrun, rfl, ⟨rfl, .inr ⟨w.heap.size, us.toArray, rfl, heap_alloc_new w _, Nat.le_refl _, by simp [maxLen]; omega, by simp [hul'], fun k hk => ?_⟩⟩, ⟨_, gset_same, rfl⟩⟩
       have hb : k * P.cellsOf e + P.cellsOf e ≤ us.length := by rw [hul']; calc k * P.cellsOf e + P.cellsOf e = (k + 1) * P.cellsOf e := by rw [Nat.add_mul, Nat.one_mul]
        _ ≤ len * P.cellsOf e := Nat.mul_le_mul_right _ hk
       refine ⟨(us.drop (k * P.cellsOf e)).take (P.cellsOf e), by simp; omega, ?_, fun j hj => ?_⟩
       · have h2' := RVs_nameless hnl h2
         exact RVs.mono (fun _ h => h) (fun b hb => RowKit.Below.heap_alloc _ _ _ (hok b hb)) G0 G0 (fun _ _ h => h) _ _ ((h2'.drop (k * P.cellsOf e)).take (P.cellsOf e))
       · rw [List.getElem?_take, if_pos hj, List.getElem?_drop]; simp
     · cases hp
   · cases hp
 · cases hp
theorem makeSlice_does {t : TypeId} {l c : Operand} {p : PO} (hok : ∀ b, ok b → b < w.heap.size) (hop : o.op = .makeSlice t l c) (hev : ∀ x, RV w ok g (ev x) (a.eval x))
 (hp : pas P ev lk nm o.op = some p) (hpre : ∀ q, p.pre = some q → q) : Does P o a w ok g nm p := by
 rw [hop] at hp
 simp only [pas, fN_eq, fL_eq, fPl_eq] at hp
 split at hp
 · rename_i e n k hel hn hk
   have hu : P.underlying t = some (.slice e) := by
    unfold elemOf? at hel; split at hel <;> cases hel; assumption
   split at hp
   · rename_i z hz
     obtain ⟨i, v, hi, hv, rfl⟩ := zeroAV_spec hz
     cases hc : (Nat.beq (P.cellsOf e) 0 || !Nat.beq (ofVal v).cells.length (P.cellsOf e)) <;> simp [hc] at hp
     subst hp
     obtain ⟨q1, rfl, q2, q3⟩ := hpre _ rfl
     simp only [Bool.or_eq_false_iff, Bool.not_eq_false'] at hc
     have c1 : ¬ P.cellsOf e = 0 := fun h => by rw [h] at hc; cases hc.1
     have c2 := Nat.eq_of_beq_eq_true hc.2
     obtain ⟨vs, hvs, hr⟩ := ofVal_cells (w := w.alloc (.cells (madeCells v.cells (k.toNat * P.cellsOf e)) e)) (ok := ok) (g := G0) v
     have hvl : v.cells.size = P.cellsOf e := by rw [← Array.length_toList, hvs]; have := hr.length; omega
     have hsz : i.size = P.cellsOf e := by simp [Program.cellsOf, hi]
     have hby : i.bytes = P.bytesOf e := by simp [Program.bytesOf, hi]
     have e1 := hev l; have e2 := hev c
     rw [hn] at e1; rw [hk] at e2
     simp only [RV] at e1 e2
     have := run_make (P := P) w t e i v hu hi hv .i64 .i64 k k q1 (Int.le_refl _) (by rw [hby]; omega) q3
     rw [hsz] at this
     refine ⟨_, _, ⟨some w.heap.size, k.toNat, k.toNat⟩, by simp [execOp, hop, e1, e2, this]; rfl, rfl, ⟨rfl, .inr ⟨w.heap.size, _, rfl, heap_alloc_new w _, Nat.le_refl _, by simp [maxLen]; omega, by rw [size_madeCells], fun x hx => ?_⟩⟩, ⟨_, gset_same, rfl⟩⟩
     refine ⟨vs, by have := hr.length; omega, hr, fun j hj => ?_⟩
     have hlt : x * P.cellsOf e + j < k.toNat * P.cellsOf e := by
      calc x * P.cellsOf e + j < x * P.cellsOf e + P.cellsOf e := by omega
       _ = (x + 1) * P.cellsOf e := by rw [Nat.add_mul, Nat.one_mul]
       _ ≤ k.toNat * P.cellsOf e := Nat.mul_le_mul_right _ hx
     have hm : (x * P.cellsOf e + j) % v.cells.size = j := by rw [hvl, Nat.mul_comm, Nat.mul_add_mod, Nat.mod_eq_of_lt hj]
     have hj' : j < v.cells.size := by omega
     rw [← hvs]
     simp [madeCells, hlt, hm, hj']
   · cases hp
 · cases hp
theorem rowsOf_spec {x : AV} {v : Value} {sz n : Nat} {rows : Nat → List AV} (h : rowsOf lk x = some (sz, n, rows)) (hx : RV w ok g x v) (hob : ∀ m mo G, lk m = some mo → g m = some G → MRel w ok g G mo) :
 ∃ A c, v = .slice A n c ∧ n ≤ c ∧ (n = 0 ∨ ∃ b o, A = some ⟨b, o, none⟩ ∧ ∀ i, i < n → ∃ vs : List Value, vs.length = sz ∧ RVs w ok G0 (rows i) vs ∧ ∀ j, j < sz → w.cell? ⟨b, o + (i * sz + j), none⟩ = vs[j]?) := by
 unfold rowsOf at h
 split at h
 · cases h
   obtain ⟨A, c, e, hn, hr⟩ := hx
   exact ⟨A, c, e, hn, hr.imp id fun ⟨b, o, hA, _, r⟩ => ⟨b, o, hA, r⟩⟩
 · cases h; exact ⟨_, _, hx, Nat.le_refl _, .inl rfl⟩
 · rename_i m
   obtain ⟨G, hm, e⟩ := hx
   split at h <;> cases h
   rename_i hlk
   obtain ⟨hn, hr⟩ := hob m _ G hlk hm
   rcases hr with ⟨hb, h0, hc⟩ | ⟨b, cur, hb, hh, hnc, _, hcs, r⟩
   · exact ⟨_, _, by rw [e, hn], by omega, .inl h0⟩
   · refine ⟨_, _, by rw [e, hn], hnc, .inr ⟨b, 0, by rw [hb]; rfl, fun i hi => ?_⟩⟩
     obtain ⟨vs, hl, hv, hcell⟩ := r i hi
     exact ⟨vs, hl, hv, fun j hj => by rw [Nat.zero_add, cell_of_row w b _ _ _ _ hh]; exact hcell j hj⟩
 · rename_i m sz' l k
   obtain ⟨G, hm, hlk', A, e, hA⟩ := hx
   have key : ∀ (sz0 n0 : Nat) (rows0 : Nat → List AV) (el : TypeId), (G.n = n0 ∧ ((G.b = none ∧ n0 = 0 ∧ G.c = 0) ∨ ∃ b cur, G.b = some b ∧ w.heap[b]? = some (.cells cur el (0, 0)) ∧ n0 ≤ G.c ∧ G.c ≤ maxLen ∧
    cur.size = G.c * sz0 ∧ ∀ i, i < n0 → ∃ vs : List Value, vs.length = sz0 ∧ RVs w ok G0 (rows0 i) vs ∧ ∀ j, j < sz0 → cur[i * sz0 + j]? = vs[j]?)) → Nat.beq sz' sz0 = true → some (sz0, k, fun i => rows0 (l + i)) = some (sz, n, rows) →
    ∃ A c, v = .slice A n c ∧ n ≤ c ∧ (n = 0 ∨ ∃ b o, A = some ⟨b, o, none⟩ ∧ ∀ i, i < n → ∃ vs : List Value, vs.length = sz ∧ RVs w ok G0 (rows i) vs ∧ ∀ j, j < sz → w.cell? ⟨b, o + (i * sz + j), none⟩ = vs[j]?) := by
    intro sz0 n0 rows0 el hr hb h
    cases h
    have e0 := Nat.eq_of_beq_eq_true hb
    subst e0
    obtain ⟨hn, hr⟩ := hr
    rcases hr with ⟨hb, h0, hc⟩ | ⟨b, cur, hb, hh, hnc, _, hcs, r⟩
    · exact ⟨_, _, e, by omega, .inl (by omega)⟩
    · rcases Nat.eq_zero_or_pos n with hk | hk
      · exact ⟨_, _, e, by omega, .inl hk⟩
      · refine ⟨_, _, e, by omega, .inr ⟨b, l * sz', by rw [hA hk, hb]; rfl, fun i hi => ?_⟩⟩
        obtain ⟨vs, hl, hv, hcell⟩ := r (l + i) (by omega)
        refine ⟨vs, hl, hv, fun j hj => ?_⟩
        rw [cell_of_row w b _ _ _ _ hh, ← hcell j hj]
        congr 1
        rw [Nat.add_mul]; omega
   split at h
   · rename_i el sz0 n0 rows0 hlk
     cases hb : Nat.beq sz' sz0 <;> simp only [hb, cond_true, cond_false] at h
     · cases h
     · exact key _ _ _ el (hob m _ G hlk hm) hb h
   · rename_i el sz0 n0 c0 rows0 hlk
     cases hb : Nat.beq sz' sz0 <;> simp only [hb, cond_true, cond_false] at h
     · cases h
     · exact key _ _ _ el (hob m _ G hlk hm).2 hb h
   · cases h
 · cases h
theorem convert_does {s d : TypeId} {x : Operand} {p : PO} (hop : o.op = .convert s d x) (hx : RV w ok g (ev x) (a.eval x)) (hob : ∀ m mo G, lk m = some mo → g m = some G → MRel w ok g G mo)
 (hp : pas P ev lk nm o.op = some p) (hpre : ∀ q, p.pre = some q → q) : Does P o a w ok g nm p := by
 rw [hop] at hp
 simp only [pas, fN_eq, fL_eq, fPl_eq] at hp
 split at hp
 · rename_i k1 k hs hd
   split at hp <;> cases hp
   rename_i k2 n he
   rw [he] at hx; simp only [RV] at hx
   have hq := hpre _ rfl
   refine Does.val (v := .int k n) ?_ rfl
   simp [execOp, hop, hx, convert, run_underlying hs, run_underlying hd, Conv.intToInt, inI_wrap hq]
 · rename_i hs hd
   split at hp <;> cases hp
   rename_i n he
   rw [he] at hx; simp only [RV] at hx
   refine Does.val (v := .string n) ?_ rfl
   simp [execOp, hop, hx, convert, run_underlying hs, run_underlying hd]
 · rename_i e hs hd
   split at hp <;> cases hp
   rename_i n rows hu he
   have hq := hpre _ rfl
   obtain ⟨A, c, hv, hn, hr⟩ := rowsOf_spec he hx hob
   refine Does.val (v := .string (bytesOf n rows)) ?_ rfl
   have key : (convert s d (.slice A n c)).run P w = .ok (.string (bytesOf n rows)) w := by
    rcases hr with h0 | ⟨b, o', hA, hr⟩
    · subst h0
      cases A with
      | none => exact run_convert_bytes_nil w s e hs hu 0 c d hd
      | some ad =>
        have hl : (loadCells ad 0).run P w = .ok (([] : List Int).map (Value.int .u8)).toArray w := run_loadCells_list (P := P) w ad [] (by simp)
        rw [run_convert_bytes_string w s d e (some ad) 0 c hs hu hd, run_bytesToString w ad 0 c [] hl]
        rfl
    · subst hA
      refine run_convert_bytes_arg w s e hs hu b o' n c _ (by simp) (fun i hi => ?_) d hd
      obtain ⟨vs, hl, hvs, hc⟩ := hr i hi
      rw [hq i hi] at hvs
      obtain ⟨v, us, e1, e2, e3⟩ := hvs
      simp only [RV] at e2
      have := hc 0 (by omega)
      simp only [Nat.mul_one, Nat.add_zero] at this
      rw [this, e1, e2]
      simp [List.getD, hi]
   simp [execOp, hop, hv, key]
 · cases hp
theorem zeroFalse_spec {t : TypeId} (h : zeroFalse P t = true) : (zeroValue t).run P w = .ok (.bool false) w := by
 unfold zeroFalse at h
 split at h
 · rename_i hz
   cases hi : P.info? t with
   | none => simp [hi] at hz
   | some i => simp [hi] at hz; simp [zeroValue, typeInfo, hi, hz]
 · cases h
theorem makeMap_does {t : TypeId} {r : Option Operand} {p : PO} (hok : ∀ b, ok b → b < w.heap.size) (hnm : g nm = none) (hop : o.op = .makeMap t r) (hp : pas P ev lk nm o.op = some p) : Does P o a w ok g nm p := by
 rw [hop] at hp
 cases r with
 | some x => simp [pas] at hp
 | none =>
   simp only [pas, fN_eq, fL_eq, fPl_eq] at hp
   have hrun : (execOp a.eval o).run P w = .ok (.value (.map (some w.heap.size))) (w.alloc (.map #[] 0)) := by
    simp [execOp, hop, Instr.makeMap]
   have hb := heap_alloc_new w (.map #[] 0)
   split at hp
   · split at hp <;> cases hp
     · exact ⟨_, _, ⟨some w.heap.size, 0, 0⟩, hrun, rfl, ⟨_, _, _, rfl, hb, rfl, List.nodup_nil, fun e he => by simp at he⟩, ⟨_, _, gset_same, rfl, rfl⟩⟩
     · exact ⟨_, _, ⟨some w.heap.size, 0, 0⟩, hrun, rfl, ⟨_, _, _, rfl, hb, rfl, List.nodup_nil, fun e he => by simp at he⟩, ⟨_, _, gset_same, rfl, rfl⟩⟩
   · cases hp
theorem lookup_run {t k e : TypeId} {x i : Operand} {b cl : Nat} {es : Array MapEntry} {d : TypeDesc} {kv : Value} {q : Prop} [Decidable q] (hop : o.op = .lookup t x i false) (hu : P.underlying t = some (.map k e)) (hz : zeroFalse P e = true)
 (hd : P.underlying k = some d) (hv : a.eval x = .map (some b)) (hi : a.eval i = kv) (hh : w.heap[b]? = some (.map es cl)) (hk : MapKept.IsKey d kv) (hks : ∀ x ∈ es.toList, MapKept.IsKey d x.key)
 (hval : ∀ x ∈ es.toList, x.val = .bool true) (hq : q ↔ kv ∈ es.toList.map (·.key)) : (execOp a.eval o).run P w = .ok (.value (.bool (decide q))) w := by
 have hu' := run_underlying (w := w) hu
 have hg := MapKept.run_getObj_map (P := P) hh
 rcases MapKept.findNow_spec hk es.toList 0 hks with ⟨h1, h2⟩ | ⟨j, y, h1, h2, h3⟩
 · have hne : ¬ q := fun hh => by
    obtain ⟨y, hy, e⟩ := List.mem_map.1 (hq.1 hh)
    exact h2 y hy e
   simp [execOp, hop, hv, hi, Instr.lookup, hu', hg, MapKept.run_checkKey hd hk, MapKept.run_findKey hd h1, zeroFalse_spec hz, hne]
 · have hy : y ∈ es.toList := List.mem_of_getElem? h2
   have hqq : q := hq.2 (List.mem_map.2 ⟨y, hy, h3⟩)
   simp [execOp, hop, hv, hi, Instr.lookup, hu', hg, MapKept.run_checkKey hd hk, MapKept.run_findKey hd h1, hval y hy, hqq]
theorem lookup_does {t : TypeId} {x i : Operand} {c : Bool} {p : PO} (hop : o.op = .lookup t x i c) (hx : RV w ok g (ev x) (a.eval x)) (hi : RV w ok g (ev i) (a.eval i))
 (hob : ∀ m mo G, lk m = some mo → g m = some G → MRel w ok g G mo) (hp : pas P ev lk nm o.op = some p) : Does P o a w ok g nm p := by
 rw [hop] at hp
 cases c with
 | true => simp [pas] at hp
 | false =>
   simp only [pas, fN_eq, fL_eq, fPl_eq] at hp
   split at hp
   · rename_i k e m hu he
     rw [he] at hx
     obtain ⟨G, b, hm, hb, hv⟩ := hx
     split at hp <;> cases hp
     · rename_i ks n hz hd hlk hn
       rw [hn] at hi
       obtain ⟨b', es, cl, hb', hh, hk, hnd, hval⟩ := hob m _ G hlk hm
       rw [hb] at hb'; cases hb'
       refine Does.val (v := .bool (decide (n ∈ ks))) (lookup_run (kv := .int .i64 n) hop hu hz hd hv hi hh (by simp [MapKept.IsKey]) (fun x hx => ?_) hval ?_) rfl
       · have : x.key ∈ es.toList.map (·.key) := List.mem_map.2 ⟨x, hx, rfl⟩
         rw [hk] at this
         obtain ⟨y, _, e⟩ := List.mem_map.1 this
         rw [← e]; simp [MapKept.IsKey]
       · rw [hk]; simp
     · rename_i ks s hz hd hlk hn
       rw [hn] at hi
       obtain ⟨b', es, cl, hb', hh, hk, hnd, hval⟩ := hob m _ G hlk hm
       rw [hb] at hb'; cases hb'
       refine Does.val (v := .bool (decide (s.data.toList ∈ ks))) (lookup_run (kv := .string s) hop hu hz hd hv hi hh (by simp [MapKept.IsKey]) (fun x hx => ?_) hval ?_) rfl
       · have : x.key ∈ es.toList.map (·.key) := List.mem_map.2 ⟨x, hx, rfl⟩
         rw [hk] at this
         obtain ⟨y, _, e⟩ := List.mem_map.1 this
         rw [← e]; simp [MapKept.IsKey]
       · rw [hk]
         constructor
         · intro h; exact List.mem_map.2 ⟨_, h, by simp⟩
         · intro h
           obtain ⟨l, hl, e⟩ := List.mem_map.1 h
           cases e; simpa using hl
   · cases hp
end
end Go.Vw

namespace Go.Vw
open Go
section
variable {P : Program} {o : Oper} {a : Act} {w : World} {ok : Nat → Prop} {g : Nat → Option Gh} {nm : Nat} {ev : Operand → AV} {lk : Nat → Option MO}
theorem pas_does {p : PO} (hok : ∀ b, ok b → b < w.heap.size) (hnm : g nm = none) (hev : ∀ x, RV w ok g (ev x) (a.eval x))
 (hob : ∀ m mo G, lk m = some mo → g m = some G → MRel w ok g G mo) (hp : pas P ev lk nm o.op = some p) (hpre : ∀ q, p.pre = some q → q) : Does P o a w ok g nm p := by
 cases hop : o.op with
 | move x => have := hp; rw [hop] at this; simp only [pas] at this; cases this; exact move_does (.inl hop) (hev x)
 | assign x => have := hp; rw [hop] at this; simp only [pas] at this; cases this; exact move_does (.inr hop) (hev x)
 | pick c x y => exact pick_does hop (hev c) (hev x) (hev y) hp
 | binOp op t x y u => exact binOp_does hop (hev x) (hev y) hp hpre
 | unOp op t x => exact unop_does hop (hev x) hp hpre
 | fieldAddr t x f => exact fieldAddr_does hop (hev x) hp
 | indexAddr t x i => exact indexAddr_does hop (hev x) (hev i) hp hob hpre
 | load t x => exact load_does hop (hev x) hob hp
 | alloc t => exact alloc_does hok hnm hop hp
 | box t x => exact box_does hok hnm hop (hev x) hp
 | field t x f => exact field_does hop (hev x) hp
 | index t x i => exact index_does hop (hev x) (hev i) hp hpre
 | build t ps => exact build_does hop hev hp
 | buildSlice t n ps => exact buildSlice_does hok hnm hop hev hp
 | makeSlice t l c => exact makeSlice_does hok hop hev hp hpre
 | makeMap t r => exact makeMap_does hok hnm hop hp
 | lookup t x i c => exact lookup_does hop (hev x) (hev i) hob hp
 | makeInterface t x => exact makeInterface_does hop (hev x) hp
 | typeAssert x t u c => exact typeAssert_does hop (hev x) hp
 | extract x i => exact extract_does hop (hev x) hp
 | slice t x lo hi mx => cases mx with
   | none => exact slice_does hop hev hob hp hpre
   | some m => rw [hop] at hp; simp [pas] at hp
 | convert s d x => exact convert_does hop (hev x) hob hp hpre
 | nilCheck x => exact nilCheck_does hop (hev x) hp
 | makeFunc f xs ys => exact makeFunc_does hop hev hp
 | call c =>
   obtain ⟨callee, args, tys⟩ := c
   cases callee with
   | builtin b => cases b with
     | len => exact len_does hop hev hob hp
     | min => exact min_does hop hev hp
     | max => exact max_does hop hev hp
     | _ => rw [hop] at hp; simp [pas] at hp
   | _ => rw [hop] at hp; simp [pas] at hp
 | _ => rw [hop] at hp; simp [pas] at hp
end
end Go.Vw

namespace Go.Vw
open Go
structure Frm (w0 : World) (gr : Nat → Prop) (w : World) : Prop where
 os : w.os = w0.os
 tape : w.tape = w0.tape
 output : w.output = w0.output
 size : w0.heap.size ≤ w.heap.size
 old : ∀ b, b < w0.heap.size → ¬ gr b → w.heap[b]? = w0.heap[b]?
structure Obs (ob : List (Nat × MO)) (g : Nat → Option Gh) (ok : Nat → Prop) (w : World) : Prop where
 rel : ∀ m mo, look ob m = some mo → ∃ G, g m = some G ∧ MRel w ok g G mo
 sep : ∀ m m' mo mo' G G' b, look ob m = some mo → look ob m' = some mo' → g m = some G → g m' = some G' → G.b = some b → G'.b = some b → m = m'
 okb : ∀ b, ok b → b < w.heap.size ∧ ∀ m mo G, look ob m = some mo → g m = some G → G.b ≠ some b
 lt : ∀ m mo G b, look ob m = some mo → g m = some G → G.b = some b → b < w.heap.size
structure Rep (gb : Nat → Option Gh) (w0 : World) (gr ok0 : Nat → Prop) (st : St) (g : Nat → Option Gh) (ok : Nat → Prop) (a : Act) (w : World) : Prop where
 tm : ∀ t, RV w ok g (st.tm t) (a.tmps.getD t undef)
 obs : Obs st.ob g ok w
 own : ∀ m mo G b, look st.ob m = some mo → g m = some G → G.b = some b → w0.heap.size ≤ b ∨ gr b
 fresh : ∀ m, st.next ≤ m → g m = none
 base : ∀ m G, gb m = some G → g m = some G
 frm : Frm w0 gr w
 df : a.defers = []
 n : a.tmps.size = st.n
 okf : ∀ b, ok b → ok0 b ∨ gr b ∨ w0.heap.size ≤ b
section
variable {P : Program} {gb : Nat → Option Gh} {w0 : World} {gr ok0 : Nat → Prop} {st : St} {g : Nat → Option Gh} {ok : Nat → Prop} {a : Act} {w : World}
theorem Rep.ev (h : Rep gb w0 gr ok0 st g ok a w) (x : Operand) : RV w ok g (st.ev x) (a.eval x) := by
 cases x with
 | tmp t => exact h.tm t
 | const v => exact RV_ofVal w ok g v
 | func f => exact ⟨[], [], rfl, rfl, rfl⟩
 | global _ => trivial
def dstOK (d : Option Tmp) (n : Nat) : Bool := match d with | some t => Nat.blt t n | none => true
theorem Rep.put (h : Rep gb w0 gr ok0 st g ok a w) {d : Option Tmp} {x : AV} {v : Value} (hd : dstOK d st.n = true) (hx : RV w ok g x v) : Rep gb w0 gr ok0 (st.put d x) g ok (a.put d v) w := by
 cases d with
 | none => exact h
 | some t =>
   have ht : t < a.tmps.size := by
    have : Nat.blt t st.n = true := hd
    rw [h.n]; exact Nat.le_of_ble_eq_true this
   refine ⟨fun s => ?_, h.obs, h.own, h.fresh, h.base, h.frm, h.df, ?_, h.okf⟩
   · have e : ((a.put (some t) v).tmps.getD s undef) = if s = t then v else a.tmps.getD s undef := by
      simp only [Act.put, Array.getD_eq_getD_getElem?, Array.getElem?_setIfInBounds]
      by_cases hs : t = s
      · subst hs; simp [ht]
      · rw [if_neg hs, if_neg (fun h => hs h.symm)]
     rw [e]
     show RV w ok g (bif Nat.beq s t then x else st.tm s) _
     cases hb : Nat.beq s t
     · rw [if_neg (fun e => by subst e; simp at hb)]; exact h.tm s
     · rw [if_pos (Nat.eq_of_beq_eq_true hb)]; exact hx
   · simp [Act.put, St.put, h.n]
def St.add (st : St) (mo : MO) : St := { st with ob := (st.next, mo) :: st.ob, next := st.next + 1 }
theorem look_cons {k m : Nat} {o : MO} {r : List (Nat × MO)} : look ((k, o) :: r) m = if m = k then some o else look r m := by
 show (bif Nat.beq k m then some o else look r m) = _
 cases hb : Nat.beq k m
 · rw [if_neg (fun e => by subst e; simp at hb)]; rfl
 · rw [if_pos (Nat.eq_of_beq_eq_true hb).symm]; rfl
theorem MRel.mono {w' : World} {ok' : Nat → Prop} {g' : Nat → Option Gh} {G : Gh} {mo : MO} (hok : ∀ b, ok b → ok' b) (hc : ∀ b, ok b → w'.heap[b]? = w.heap[b]?)
 (hg : ∀ m G, g m = some G → g' m = some G) (hG : ∀ b, G.b = some b → w'.heap[b]? = w.heap[b]?) (h : MRel w ok g G mo) : MRel w' ok' g' G mo := by
 cases mo with
 | box cs =>
   obtain ⟨b, vs, ty, h1, h2, h3⟩ := h
   exact ⟨b, vs, ty, h1, (hG b h1).trans h2, RVs.mono hok hc g g' hg cs vs h3⟩
 | arr e sz n rows =>
   obtain ⟨h0, h⟩ := h
   refine ⟨h0, h.imp id fun ⟨b, cur, h1, h2, h3, h4, h5, h6⟩ => ⟨b, cur, h1, (hG b h1).trans h2, h3, h4, h5, fun i hi => ?_⟩⟩
   obtain ⟨vs, k1, k2, k3⟩ := h6 i hi
   exact ⟨vs, k1, RVs.mono hok hc G0 G0 (fun _ _ h => h) _ _ k2, k3⟩
 | arrc e sz n c rows =>
   obtain ⟨hc0, h0, h⟩ := h
   refine ⟨hc0, h0, h.imp id fun ⟨b, cur, h1, h2, h3, h4, h5, h6⟩ => ⟨b, cur, h1, (hG b h1).trans h2, h3, h4, h5, fun i hi => ?_⟩⟩
   obtain ⟨vs, k1, k2, k3⟩ := h6 i hi
   exact ⟨vs, k1, RVs.mono hok hc G0 G0 (fun _ _ h => h) _ _ k2, k3⟩
 | imap ks =>
   obtain ⟨b, es, cl, h1, h2, r⟩ := h
   exact ⟨b, es, cl, h1, (hG b h1).trans h2, r⟩
 | smap ks =>
   obtain ⟨b, es, cl, h1, h2, r⟩ := h
   exact ⟨b, es, cl, h1, (hG b h1).trans h2, r⟩
theorem Rep.grow (h : Rep gb w0 gr ok0 st g ok a w) {w' : World} (hs : w.heap.size ≤ w'.heap.size) (hold : ∀ b, b < w.heap.size → w'.heap[b]? = w.heap[b]?) (h1 : w'.os = w.os) (h2 : w'.tape = w.tape) (h3 : w'.output = w.output) :
 Rep gb w0 gr ok0 st g ok a w' := by
 have hok : ∀ b, ok b → w'.heap[b]? = w.heap[b]? := fun b hb => hold b (h.obs.okb b hb).1
 refine ⟨fun t => RV.mono (fun _ h => h) hok g g (fun _ _ h => h) _ _ (h.tm t), ⟨fun m mo hm => ?_, h.obs.sep, fun b hb => ⟨Nat.lt_of_lt_of_le (h.obs.okb b hb).1 hs, (h.obs.okb b hb).2⟩,
  fun m mo G b x y z => Nat.lt_of_lt_of_le (h.obs.lt m mo G b x y z) hs⟩, h.own, h.fresh, h.base, ⟨h1.trans h.frm.os, h2.trans h.frm.tape, h3.trans h.frm.output, Nat.le_trans h.frm.size hs, fun b hb hg => ?_⟩, h.df, h.n, h.okf⟩
 · obtain ⟨G, hg, hr⟩ := h.obs.rel m mo hm
   exact ⟨G, hg, MRel.mono (fun _ h => h) hok (fun _ _ h => h) (fun b hb => hold b (h.obs.lt m mo G b hm hg hb)) hr⟩
 · rw [hold b (Nat.lt_of_lt_of_le hb h.frm.size)]; exact h.frm.old b hb hg
theorem Rep.drew (h : Rep gb w0 gr ok0 st g ok a w) : Rep gb w0 gr ok0 st g ok a w.drew := h.grow (Nat.le_refl _) (fun _ _ => rfl) rfl rfl rfl
theorem Rep.addAt (h : Rep gb w0 gr ok0 st g ok a w) {nm nx : Nat} (hnm : g nm = none) (hlt : nm < nx) (hnx : st.next ≤ nx) {obj : Obj} {G : Gh} {mo : MO} (hG : G.b = some w.heap.size) (hr : MRel (w.alloc obj) ok (gset g nm G) G mo) :
 Rep gb w0 gr ok0 { st with ob := (nm, mo) :: st.ob, next := nx } (gset g nm G) ok a (w.alloc obj) := by
 have hle := gset_le (G := G) hnm
 have hg := h.grow (w' := w.alloc obj) (by simp) (fun b hb => RowKit.Below.heap_alloc _ _ _ hb) rfl rfl rfl
 have hother : ∀ m K, m ≠ nm → (gset g nm G m = some K ↔ g m = some K) := fun m K hm => by unfold gset; rw [if_neg hm]
 have hsame : ∀ K, gset g nm G nm = some K → K = G := fun K hk => by rw [gset_same] at hk; cases hk; rfl
 have hlk : ∀ m mo', look ((nm, mo) :: st.ob) m = some mo' → (m = nm ∧ mo' = mo) ∨ (m ≠ nm ∧ look st.ob m = some mo') := fun m mo' hm => by
  rw [look_cons] at hm
  split at hm
  · rename_i e; cases hm; exact .inl ⟨e, rfl⟩
  · rename_i e; exact .inr ⟨e, hm⟩
 refine ⟨fun t => RV.mono (fun _ h => h) (fun _ _ => rfl) g _ hle _ _ (hg.tm t), ⟨fun m mo' hm => ?_, fun m m' mo1 mo2 G1 G2 b hm hm' k1 k2 hb hb' => ?_, fun b hb => ⟨(hg.obs.okb b hb).1, fun m mo' K hm hk => ?_⟩, fun m mo' K b hm hk hb => ?_⟩,
  fun m mo' K b hm hk hb => ?_, fun m hm => ?_, fun m K hk => hle m K (h.base m K hk), hg.frm, h.df, h.n, h.okf⟩
 · rcases hlk m mo' hm with ⟨rfl, rfl⟩ | ⟨hne, hm⟩
   · exact ⟨G, gset_same, hr⟩
   · obtain ⟨K, hk, hr'⟩ := hg.obs.rel m mo' hm
     exact ⟨K, hle m K hk, MRel.mono (fun _ h => h) (fun _ _ => rfl) hle (fun _ _ => rfl) hr'⟩
 · have hnew : ∀ m mo' K b, m ≠ nm → look st.ob m = some mo' → g m = some K → K.b = some b → b ≠ w.heap.size := fun m mo' K b _ hm hk hb e => by
    have := h.obs.lt m mo' K b hm hk hb; omega
   rcases hlk m mo1 hm with ⟨e1, e2⟩ | ⟨hne, hm1⟩ <;> rcases hlk m' mo2 hm' with ⟨e3, e4⟩ | ⟨hne', hm2⟩
   · rw [e1, e3]
   · subst e1; cases hsame _ k1; rw [hG] at hb; cases hb
     exact absurd rfl (hnew m' mo2 G2 _ hne' hm2 ((hother _ _ hne').1 k2) hb')
   · subst e3; cases hsame _ k2; rw [hG] at hb'; cases hb'
     exact absurd rfl (hnew m mo1 G1 _ hne hm1 ((hother _ _ hne).1 k1) hb)
   · exact h.obs.sep m m' mo1 mo2 G1 G2 b hm1 hm2 ((hother _ _ hne).1 k1) ((hother _ _ hne').1 k2) hb hb'
 · rcases hlk m mo' hm with ⟨rfl, rfl⟩ | ⟨hne, hm⟩
   · cases hsame _ hk; rw [hG]; intro e; cases e; have := (h.obs.okb _ hb).1; omega
   · exact (h.obs.okb b hb).2 m mo' K hm ((hother _ _ hne).1 hk)
 · rcases hlk m mo' hm with ⟨rfl, rfl⟩ | ⟨hne, hm⟩
   · cases hsame _ hk; rw [hG] at hb; cases hb; simp
   · exact hg.obs.lt m mo' K b hm ((hother _ _ hne).1 hk) hb
 · rcases hlk m mo' hm with ⟨rfl, rfl⟩ | ⟨hne, hm⟩
   · cases hsame _ hk; rw [hG] at hb; cases hb; exact .inl h.frm.size
   · exact h.own m mo' K b hm ((hother _ _ hne).1 hk) hb
 · have hm' : nx ≤ m := hm
   unfold gset
   rw [if_neg (by omega)]
   exact h.fresh m (by omega)
theorem Rep.add (h : Rep gb w0 gr ok0 st g ok a w) {obj : Obj} {G : Gh} {mo : MO} (hG : G.b = some w.heap.size) (hr : MRel (w.alloc obj) ok (gset g st.next G) G mo) :
 Rep gb w0 gr ok0 (st.add mo) (gset g st.next G) ok a (w.alloc obj) :=
 h.addAt (h.fresh _ (Nat.le_refl _)) (Nat.lt_succ_self _) (Nat.le_succ _) hG hr
end
end Go.Vw

namespace Go.Vw
open Go
theorem look_upd {ob : List (Nat × MO)} {m : Nat} {o : MO} : ∀ k, look (upd ob m o) k = if k = m then (look ob m).map (fun _ => o) else look ob k := by
 intro k
 induction ob with
 | nil => simp [upd, look]
 | cons p r ih =>
   obtain ⟨j, q⟩ := p
   unfold upd
   cases hb : Nat.beq j m
   · simp only [cond_false, look_cons]
     rw [ih]
     by_cases h1 : k = m
     · subst h1
       have : ¬ k = j := fun e => by subst e; simp at hb
       simp [this, look, hb]
     · rw [if_neg h1]
       simp [h1]
   · have e := Nat.eq_of_beq_eq_true hb
     subst e
     simp only [cond_true, look_cons]
     by_cases h1 : k = j
     · subst h1; simp
     · simp [h1]
def delAll : List (Nat × MO) → Nat → List (Nat × MO)
 | [], _ => []
 | (k, p) :: r, m => bif Nat.beq k m then delAll r m else (k, p) :: delAll r m
theorem look_delAll {ob : List (Nat × MO)} {m : Nat} (k : Nat) : look (delAll ob m) k = if k = m then none else look ob k := by
 induction ob with
 | nil => simp [delAll, look]
 | cons p r ih =>
   obtain ⟨j, q⟩ := p
   unfold delAll
   cases hb : Nat.beq j m
   · simp only [cond_false, look_cons, ih]
     by_cases h1 : k = j
     · subst h1
       have : ¬ k = m := fun e => by subst e; simp at hb
       simp [this]
     · simp [h1]
   · have e := Nat.eq_of_beq_eq_true hb
     subst e
     simp only [cond_true, ih, look_cons]
     by_cases h1 : k = j <;> simp [h1]
theorem one_cell {w : World} {ok : Nat → Prop} {g : Nat → Option Gh} {x : AV} {v : Value} (hx : x.one = true) (h : RV w ok g x v) : v.oneCell' = true := by
 cases x <;> simp only [RV] at h <;> first | (cases hx; done) | skip
 all_goals first
  | (subst h; rfl)
  | (obtain ⟨_, e⟩ := h; subst e; rfl)
  | (obtain ⟨_, _, e⟩ := h; subst e; rfl)
  | (obtain ⟨_, e, _⟩ := h; subst e; rfl)
  | (obtain ⟨_, _, e, _⟩ := h; subst e; rfl)
  | (obtain ⟨_, _, _, _, e⟩ := h; subst e; rfl)
  | (obtain ⟨_, _, _, e⟩ := h; subst e; rfl)
  | (obtain ⟨_, _, _, _, e, _⟩ := h; subst e; rfl)
theorem one_cells {w : World} {ok : Nat → Prop} {g : Nat → Option Gh} : ∀ {cs : List AV} {vs : List Value}, cs.all AV.one = true → RVs w ok g cs vs → ∀ v ∈ vs, v.oneCell' = true
 | [], _, _, h, v, hv => by simp only [RVs] at h; subst h; cases hv
 | c :: cs, _, hc, ⟨x, us, e, h1, h2⟩, v, hv => by
   subst e
   simp only [List.all_cons, Bool.and_eq_true] at hc
   rcases List.mem_cons.1 hv with rfl | hv
   · exact one_cell hc.1 h1
   · exact one_cells hc.2 h2 v hv
section
variable {P : Program} {gb : Nat → Option Gh} {w0 : World} {gr ok0 : Nat → Prop} {st : St} {g : Nat → Option Gh} {ok : Nat → Prop} {a : Act} {w : World} {o : Oper}
theorem Rep.write (h : Rep gb w0 gr ok0 st g ok a w) {m : Nat} {mo mo' : MO} {G : Gh} {b : Nat} {w' : World} (hm : look st.ob m = some mo) (hg : g m = some G) (hb : G.b = some b)
 (hs : w'.heap.size = w.heap.size) (hold : ∀ k, k ≠ b → w'.heap[k]? = w.heap[k]?) (h1 : w'.os = w.os) (h2 : w'.tape = w.tape) (h3 : w'.output = w.output) (hr : MRel w' ok g G mo') :
 Rep gb w0 gr ok0 { st with ob := upd st.ob m mo' } g ok a w' := by
 have hok : ∀ k, ok k → w'.heap[k]? = w.heap[k]? := fun k hk => hold k fun e => by subst e; exact (h.obs.okb k hk).2 m mo G hm hg hb
 have hlk : ∀ k p, look (upd st.ob m mo') k = some p → (k = m ∧ p = mo') ∨ (k ≠ m ∧ look st.ob k = some p) := fun k p hk => by
  rw [look_upd] at hk
  split at hk
  · rename_i e; rw [hm] at hk; cases hk; exact .inl ⟨e, rfl⟩
  · rename_i e; exact .inr ⟨e, hk⟩
 have hex : ∀ k p, look (upd st.ob m mo') k = some p → ∃ q, look st.ob k = some q := fun k p hk => by
  rcases hlk k p hk with ⟨rfl, _⟩ | ⟨_, hk⟩
  · exact ⟨_, hm⟩
  · exact ⟨_, hk⟩
 refine ⟨fun t => RV.mono (fun _ h => h) hok g g (fun _ _ h => h) _ _ (h.tm t), ⟨fun k p hk => ?_, fun k k' p p' K K' c hk hk' => ?_, fun c hc => ⟨by rw [hs]; exact (h.obs.okb c hc).1, fun k p K hk hK => ?_⟩, fun k p K c hk => ?_⟩,
  fun k p K c hk => ?_, h.fresh, h.base, ⟨h1.trans h.frm.os, h2.trans h.frm.tape, h3.trans h.frm.output, by rw [hs]; exact h.frm.size, fun k hk hgr => ?_⟩, h.df, h.n, h.okf⟩
 · rcases hlk k p hk with ⟨rfl, rfl⟩ | ⟨hne, hk⟩
   · exact ⟨G, hg, hr⟩
   · obtain ⟨K, hK, hr'⟩ := h.obs.rel k p hk
     exact ⟨K, hK, MRel.mono (fun _ h => h) hok (fun _ _ h => h) (fun c hc => hold c fun e => by subst e; exact hne (h.obs.sep k m p mo K G c hk hm hK hg hc hb)) hr'⟩
 · obtain ⟨q, hq⟩ := hex k p hk
   obtain ⟨q', hq'⟩ := hex k' p' hk'
   exact h.obs.sep k k' q q' K K' c hq hq'
 · obtain ⟨q, hq⟩ := hex k p hk
   exact (h.obs.okb c hc).2 k q K hq hK
 · obtain ⟨q, hq⟩ := hex k p hk
   rw [hs]; exact h.obs.lt k q K c hq
 · obtain ⟨q, hq⟩ := hex k p hk
   exact h.own k q K c hq
 · have hkb : k ≠ b := fun e => by
    subst e
    rcases h.own m mo G k hm hg hb with h' | h'
    · omega
    · exact hgr h'
   rw [hold k hkb]; exact h.frm.old k hk hgr
def stAV (P : Program) (st : St) (t : TypeId) (x y : AV) : Option St :=
 match tyI P t, x with
 | some (_, n), .bptr m off => match look st.ob m with
   | some (.box cs) => fN n fun n => bif (y.isVal && y.cells.all AV.one) && (Nat.beq y.cells.length n && Nat.ble (off + n) cs.length) then
    fL (cs.take off ++ y.cells ++ cs.drop (off + n)) fun l => some { st with ob := upd st.ob m (.box l) } else none
   | _ => none
 | some (_, n), .aptr m sz i off => match look st.ob m with
   | some (.arr e sz' k rows) => fN n fun n => fN (off + n) fun o2 => bif (y.isVal && (y.cells.all AV.one && y.cells.all AV.nameless)) && (Nat.beq y.cells.length n && (Nat.beq sz sz' && Nat.ble o2 sz)) then
    fL y.cells fun ys => some { st with ob := upd st.ob m (.arr e sz' k fun j => bif Nat.beq j i then (rows j).take off ++ ys ++ (rows j).drop o2 else rows j) } else none
   | _ => none
 | _, _ => none
theorem run_storeVar_cells {t : TypeId} {ag : Bool} {b off : Nat} {v : Value} {cur : Array Value} {ty : TypeId} (ht : tyI P t = some (ag, v.cells.size)) (hh : w.heap[b]? = some (.cells cur ty (0, 0)))
 (hle : off + v.cells.size ≤ cur.size) (h1 : ∀ u ∈ v.cells.toList, u.oneCell' = true) :
 (storeVar t ⟨b, off, none⟩ v).run P w = .ok () (w.setRow b (cur.toList.take off ++ v.cells.toList ++ cur.toList.drop (off + v.cells.size)).toArray) := by
 have hs := (tyI_spec (w := w) ht).1
 have := run_storeCells_at (P := P) b off ty v.cells.toList 0 cur w hh (by simpa using hle) h1
 simp only [Nat.add_zero, Array.length_toList] at this
 simp [storeVar, hs, this]
theorem store_rep (h : Rep gb w0 gr ok0 st g ok a w) {t : TypeId} {x y : Operand} {st' : St} (hop : o.op = .store t x y) (hp : stAV P st t (st.ev x) (st.ev y) = some st') :
 ∃ w', (execOp a.eval o).run P w = .ok .skip w' ∧ Rep gb w0 gr ok0 st' g ok a w' := by
 unfold stAV at hp
 simp only [fL_eq, fN_eq] at hp
 split at hp
 · rename_i ag n m off ht hx
   split at hp
   · rename_i cs hlk
     cases hc : ((st.ev y).isVal && (st.ev y).cells.all AV.one) && (Nat.beq (st.ev y).cells.length n && Nat.ble (off + n) cs.length) <;> simp [hc] at hp
     subst hp
     simp only [Bool.and_eq_true, Nat.ble_eq] at hc
     obtain ⟨⟨hc1, hc2⟩, hc3, hc4⟩ := hc
     have hex := h.ev x
     have hey := h.ev y
     rw [hx] at hex
     obtain ⟨G, b, hg, hb, hv⟩ := hex
     obtain ⟨G', hg', b', vs, ty, hb', hh, hvs⟩ := h.obs.rel m _ hlk
     rw [hg] at hg'; cases hg'
     rw [hb] at hb'; cases hb'
     have hy := cells_isVal hc1 hey
     have hyl := hy.length
     have hn := Nat.eq_of_beq_eq_true hc3
     have hsz : (a.eval y).cells.size = n := by rw [← Array.length_toList]; omega
     have hvl := hvs.length
     have hrun := run_storeVar_cells (P := P) (w := w) (off := off) (v := a.eval y) (by rw [hsz]; exact ht) hh (by rw [hsz]; simp; omega) (one_cells hc2 hy)
     rw [hsz] at hrun
     have hrun' : (storeVar t ⟨b, off, none⟩ (a.eval y)).run P w = .ok () (w.setRow b (vs.take off ++ (a.eval y).cells.toList ++ vs.drop (off + n)).toArray) := hrun
     have hnew := setRow_heap w b vs.toArray (vs.take off ++ (a.eval y).cells.toList ++ vs.drop (off + n)).toArray ty (0, 0) hh
     have hother := fun k (hk : k ≠ b) => setRow_other w b k (vs.take off ++ (a.eval y).cells.toList ++ vs.drop (off + n)).toArray hk
     have e1 : (w.setRow b (vs.take off ++ (a.eval y).cells.toList ++ vs.drop (off + n)).toArray).heap.size = w.heap.size := by simp
     have e2 : (w.setRow b (vs.take off ++ (a.eval y).cells.toList ++ vs.drop (off + n)).toArray).os = w.os := rfl
     have e3 : (w.setRow b (vs.take off ++ (a.eval y).cells.toList ++ vs.drop (off + n)).toArray).tape = w.tape := rfl
     have e4 : (w.setRow b (vs.take off ++ (a.eval y).cells.toList ++ vs.drop (off + n)).toArray).output = w.output := rfl
     generalize w.setRow b (vs.take off ++ (a.eval y).cells.toList ++ vs.drop (off + n)).toArray = W at *
     refine ⟨W, by simp [execOp, hop, hv, Instr.storeAt, Instr.sureAddr, hrun'], h.write hlk hg hb e1 hother e2 e3 e4 ?_⟩
     have hokc : ∀ c, ok c → W.heap[c]? = w.heap[c]? := fun c hc => hother c fun e => by subst e; exact (h.obs.okb c hc).2 m _ G hlk hg hb
     exact ⟨b, _, ty, hb, hnew, RVs.mono (fun _ h => h) hokc g g (fun _ _ h => h) _ _ (by rw [← List.append_assoc]; exact ((hvs.take off).append hy).append (hvs.drop (off + n)))⟩
   · cases hp
 · rename_i ag n m sz i off ht hx
   split at hp
   · rename_i e sz' k rows hlk
     cases hc : ((st.ev y).isVal && ((st.ev y).cells.all AV.one && (st.ev y).cells.all AV.nameless)) && (Nat.beq (st.ev y).cells.length n && (Nat.beq sz sz' && Nat.ble (off + n) sz)) <;> simp [hc] at hp
     subst hp
     simp only [Bool.and_eq_true, Nat.ble_eq] at hc
     obtain ⟨⟨hc1, hc2, hcn⟩, hc3, hc0, hc4⟩ := hc
     have e0 := Nat.eq_of_beq_eq_true hc0
     subst e0
     have hex := h.ev x
     have hey := h.ev y
     rw [hx] at hex
     obtain ⟨G, b, hg, ⟨hb, hin⟩, hv⟩ := hex
     obtain ⟨G', hg', hGn, hr⟩ := h.obs.rel m _ hlk
     rw [hg] at hg'; cases hg'
     rcases hr with ⟨hb', _, _⟩ | ⟨b', cur, hb', hh, hkc, hmax, hsz, hrow⟩
     · rw [hb] at hb'; cases hb'
     rw [hb] at hb'; cases hb'
     have hy := cells_isVal hc1 hey
     have hyl := hy.length
     have hn := Nat.eq_of_beq_eq_true hc3
     have hszn : (a.eval y).cells.size = n := by rw [← Array.length_toList]; omega
     have hmul : ∀ p q : Nat, p < q → p * sz + sz ≤ q * sz := fun p q hpq => by
      have := Nat.mul_le_mul_right sz (show p + 1 ≤ q from hpq)
      rw [Nat.add_mul, Nat.one_mul] at this; exact this
     have hmi := hmul i G.c (by omega)
     have hrun := run_storeVar_cells (P := P) (w := w) (off := i * sz + off) (v := a.eval y) (by rw [hszn]; exact ht) hh (by rw [hszn]; omega) (one_cells hc2 hy)
     rw [hszn] at hrun
     generalize hrowdef : (cur.toList.take (i * sz + off) ++ (a.eval y).cells.toList ++ cur.toList.drop (i * sz + off + n)) = new at hrun
     have hnewlen : new.length = cur.size := by
      rw [← hrowdef]
      simp only [List.length_append, List.length_take, List.length_drop, Array.length_toList]
      omega
     have hnew := setRow_heap w b cur new.toArray e (0, 0) hh
     have hother := fun k (hk : k ≠ b) => setRow_other w b k new.toArray hk
     have e1 : (w.setRow b new.toArray).heap.size = w.heap.size := by simp
     have e2 : (w.setRow b new.toArray).os = w.os := rfl
     have e3 : (w.setRow b new.toArray).tape = w.tape := rfl
     have e4 : (w.setRow b new.toArray).output = w.output := rfl
     generalize w.setRow b new.toArray = W at *
     refine ⟨W, by simp [execOp, hop, hv, Instr.storeAt, Instr.sureAddr, hrun], h.write hlk hg hb e1 hother e2 e3 e4 ?_⟩
     have hokc : ∀ c, ok c → W.heap[c]? = w.heap[c]? := fun c hc => hother c fun e => by subst e; exact (h.obs.okb c hc).2 m _ G hlk hg hb
     refine ⟨hGn, .inr ⟨b, _, hb, hnew, hkc, hmax, by simp [hnewlen, hsz], fun j hj => ?_⟩⟩
     obtain ⟨vs, k1, k2, k3⟩ := hrow j hj
     have hget : ∀ p, new[p]? = if p < i * sz + off then cur[p]? else if p < i * sz + off + n then (a.eval y).cells[p - (i * sz + off)]? else cur[p]? := fun p => by
      have hl1 : (cur.toList.take (i * sz + off)).length = i * sz + off := by simp; omega
      rw [← hrowdef, List.append_assoc]
      split
      · rename_i h1
        rw [List.getElem?_append_left (by omega), List.getElem?_take, if_pos h1]; simp
      · rename_i h1
        rw [List.getElem?_append_right (by omega), hl1]
        split
        · rename_i h2
          rw [List.getElem?_append_left (by simp; omega)]; simp
        · rename_i h2
          rw [List.getElem?_append_right (by simp; omega), List.getElem?_drop]
          simp only [Array.length_toList, hszn, Array.getElem?_toList]
          congr 1; omega
     cases hji : Nat.beq j i
     · have hne : j ≠ i := fun e => by subst e; simp at hji
       refine ⟨vs, k1, (by have h' := RVs.mono (fun _ h => h) hokc G0 G0 (fun _ _ h => h) _ _ k2; dsimp only; rw [hji]; exact h'), fun q hq => ?_⟩
       rw [← k3 q hq]
       simp only [List.getElem?_toArray]
       rw [hget]
       rcases Nat.lt_or_gt_of_ne hne with hlt | hgt
       · have := hmul j i hlt
         rw [if_pos (by omega)]
       · have := hmul i j hgt
         rw [if_neg (by omega), if_neg (by omega)]
     · have e := Nat.eq_of_beq_eq_true hji
       subst e
       have hy0 := RVs_nameless hcn hy
       refine ⟨vs.take off ++ (a.eval y).cells.toList ++ vs.drop (off + n), by simp; omega, (by have h' := RVs.mono (fun _ h => h) hokc G0 G0 (fun _ _ h => h) _ _ (((k2.take off).append hy0).append (k2.drop (off + n))); dsimp only; rw [hji, cond_true, ← List.append_assoc]; exact h'), fun q hq => ?_⟩
       simp only [List.getElem?_toArray]
       rw [hget, List.append_assoc]
       have hl1 : (vs.take off).length = off := by simp; omega
       split
       · rename_i h1
         rw [List.getElem?_append_left (by omega), List.getElem?_take, if_pos (by omega), k3 q hq]
       · rename_i h1
         rw [List.getElem?_append_right (by omega), hl1]
         split
         · rename_i h2
           rw [List.getElem?_append_left (by simp; omega)]
           simp only [Array.getElem?_toList]
           congr 1; omega
         · rename_i h2
           rw [List.getElem?_append_right (by simp; omega), List.getElem?_drop, k3 q hq]
           simp only [Array.length_toList, hszn]
           congr 1; omega
   · cases hp
 · cases hp
def mupAV (P : Program) (st : St) (t : TypeId) (x k v : AV) : Option St :=
 match P.underlying t, x, v with
 | some (.map kt _), .omap m, .bool true => (match P.underlying kt, look st.ob m, k with
   | some (.int .i64), some (.imap ks), .int .i64 n => some { st with ob := upd st.ob m (.imap (if n ∈ ks then ks else ks ++ [n])) }
   | some .string, some (.smap ks), .str s => some { st with ob := upd st.ob m (.smap (if s.data.toList ∈ ks then ks else ks ++ [s.data.toList])) }
   | _, _, _ => none)
 | _, _, _ => none
theorem mapUpdate_run {t k e : TypeId} {x i y : Operand} {b cl : Nat} {es : Array MapEntry} {d : TypeDesc} {kv : Value} (hop : o.op = .mapUpdate t x i y ∨ o.op = .insert t x i y) (hu : P.underlying t = some (.map k e))
 (hd : P.underlying k = some d) (hv : a.eval x = .map (some b)) (hi : a.eval i = kv) (hy : a.eval y = .bool true) (hh : w.heap[b]? = some (.map es cl)) (hk : MapKept.IsKey d kv) (hks : ∀ x ∈ es.toList, MapKept.IsKey d x.key)
 (hval : ∀ x ∈ es.toList, x.val = .bool true) : ∃ es' cl' w', (execOp a.eval o).run P w = .ok .skip w' ∧ w'.heap[b]? = some (.map es' cl') ∧ w'.heap.size = w.heap.size ∧ (∀ k, k ≠ b → w'.heap[k]? = w.heap[k]?) ∧
  w'.os = w.os ∧ w'.tape = w.tape ∧ w'.output = w.output ∧ (∀ x ∈ es'.toList, x.val = .bool true) ∧ ((kv ∈ es.toList.map (·.key) ∧ es'.toList.map (·.key) = es.toList.map (·.key)) ∨ (¬ kv ∈ es.toList.map (·.key) ∧ es'.toList.map (·.key) = es.toList.map (·.key) ++ [kv])) := by
 have hu' := run_underlying (w := w) hu
 have hg := MapKept.run_getObj_map (P := P) hh
 rcases MapKept.findNow_spec hk es.toList 0 hks with ⟨h1, h2⟩ | ⟨j, z, h1, h2, h3⟩
 · have hno : ¬ kv ∈ es.toList.map (·.key) := fun hh => by
    obtain ⟨y, hy, e⟩ := List.mem_map.1 hh
    exact h2 y hy e
   refine ⟨es.push { key := kv, val := .bool true, born := cl }, cl + 1, { w with heap := w.heap.setIfInBounds b (.map (es.push { key := kv, val := .bool true, born := cl }) (cl + 1)) }, ?_, (MapKept.heap_set hh).1, by simp, (MapKept.heap_set hh).2, rfl, rfl, rfl, ?_, ?_⟩
   · rcases hop with hop | hop <;> simp [execOp, hop, hv, hi, hy, Instr.mapUpdate, hu', hg, MapKept.run_checkKey hd hk, MapKept.run_findKey hd h1, MapKept.run_setObj_map _ hh]
   · intro x hx
     simp only [Array.toList_push, List.mem_append, List.mem_singleton] at hx
     rcases hx with hx | rfl
     · exact hval x hx
     · rfl
   · exact .inr ⟨hno, by simp⟩
 · have hj : es[j]? = some z := by simpa using h2
   have hyes : kv ∈ es.toList.map (·.key) := List.mem_map.2 ⟨z, List.mem_of_getElem? h2, h3⟩
   refine ⟨es.modify j (fun e => { e with key := kv, val := .bool true }), cl, { w with heap := w.heap.setIfInBounds b (.map (es.modify j (fun e => { e with key := kv, val := .bool true })) cl) }, ?_, (MapKept.heap_set hh).1, by simp, (MapKept.heap_set hh).2, rfl, rfl, rfl, ?_, ?_⟩
   · rcases hop with hop | hop <;> simp [execOp, hop, hv, hi, hy, Instr.mapUpdate, hu', hg, MapKept.run_checkKey hd hk, MapKept.run_findKey hd h1, hj, h3, MapKept.run_keyThatStays hk, MapKept.run_setObj_map _ hh]
   · intro x hx
     have hx' := Array.mem_toList_iff.1 hx
     obtain ⟨q, hq⟩ := Array.mem_iff_getElem?.1 hx'
     rw [Array.getElem?_modify] at hq
     split at hq
     · cases he : es[q]? with
       | none => simp [he] at hq
       | some e => simp [he] at hq; rw [← hq]
     · exact hval x (by simpa using Array.mem_of_getElem? hq)
   · refine .inl ⟨hyes, MapKept.modify_keys _ _ fun e he => ?_⟩
     rw [hj] at he; cases he; exact h3.symm
theorem mapUpd_rep (h : Rep gb w0 gr ok0 st g ok a w) {t : TypeId} {x k y : Operand} {st' : St} (hop : o.op = .mapUpdate t x k y ∨ o.op = .insert t x k y) (hp : mupAV P st t (st.ev x) (st.ev k) (st.ev y) = some st') :
 ∃ w', (execOp a.eval o).run P w = .ok .skip w' ∧ Rep gb w0 gr ok0 st' g ok a w' := by
 unfold mupAV at hp
 have hex := h.ev x
 have hek := h.ev k
 have hey := h.ev y
 split at hp
 · rename_i kt et m hu he1 he2
   rw [he1] at hex; rw [he2] at hey
   obtain ⟨G, b, hg, hb, hv⟩ := hex
   have hy : a.eval y = .bool true := hey
   split at hp <;> cases hp
   · rename_i ks n hd hlk hk
     rw [hk] at hek
     have hkv : a.eval k = .int .i64 n := hek
     obtain ⟨G', hg', b', es, cl, hb', hh, hks, hnd, hval⟩ := h.obs.rel m _ hlk
     rw [hg] at hg'; cases hg'
     rw [hb] at hb'; cases hb'
     obtain ⟨es', cl', w', r1, r2, r3, r4, r5, r6, r7, r8, r9⟩ := mapUpdate_run (P := P) (kv := .int .i64 n) hop hu hd hv hkv hy hh (by simp [MapKept.IsKey]) (fun x hx => by
      have : x.key ∈ es.toList.map (·.key) := List.mem_map.2 ⟨x, hx, rfl⟩
      rw [hks] at this
      obtain ⟨y, _, e⟩ := List.mem_map.1 this
      rw [← e]; simp [MapKept.IsKey]) hval
     refine ⟨w', r1, h.write hlk hg hb r3 r4 r5 r6 r7 ⟨b, es', cl', hb, r2, ?_, ?_, r8⟩⟩
     · rw [hks] at r9
       rcases r9 with ⟨q1, q2⟩ | ⟨q1, q2⟩
       · have hn : n ∈ ks := by obtain ⟨z, hz, e⟩ := List.mem_map.1 q1; cases e; exact hz
         rw [if_pos hn]; exact q2
       · have hn : ¬ n ∈ ks := fun h => q1 (List.mem_map.2 ⟨n, h, rfl⟩)
         rw [if_neg hn, q2]; simp
     · split
       · exact hnd
       · rename_i hn
         exact List.nodup_append.2 ⟨hnd, by simp, fun p hp q hq => by simp at hq; subst hq; exact fun e => hn (e ▸ hp)⟩
   · rename_i ks n hd hlk hk
     rw [hk] at hek
     have hkv : a.eval k = .string n := hek
     obtain ⟨G', hg', b', es, cl, hb', hh, hks, hnd, hval⟩ := h.obs.rel m _ hlk
     rw [hg] at hg'; cases hg'
     rw [hb] at hb'; cases hb'
     obtain ⟨es', cl', w', r1, r2, r3, r4, r5, r6, r7, r8, r9⟩ := mapUpdate_run (P := P) (kv := .string n) hop hu hd hv hkv hy hh (by simp [MapKept.IsKey]) (fun x hx => by
      have : x.key ∈ es.toList.map (·.key) := List.mem_map.2 ⟨x, hx, rfl⟩
      rw [hks] at this
      obtain ⟨y, _, e⟩ := List.mem_map.1 this
      rw [← e]; simp [MapKept.IsKey]) hval
     refine ⟨w', r1, h.write hlk hg hb r3 r4 r5 r6 r7 ⟨b, es', cl', hb, r2, ?_, ?_, r8⟩⟩
     · rw [hks] at r9
       rcases r9 with ⟨q1, q2⟩ | ⟨q1, q2⟩
       · have hn : n.data.toList ∈ ks := by obtain ⟨z, hz, e⟩ := List.mem_map.1 q1; cases e; simpa using hz
         rw [if_pos hn]; exact q2
       · have hn : ¬ n.data.toList ∈ ks := fun h => q1 (List.mem_map.2 ⟨_, h, by simp⟩)
         rw [if_neg hn, q2]; simp
     · split
       · exact hnd
       · rename_i hn
         exact List.nodup_append.2 ⟨hnd, by simp, fun p hp q hq => by simp at hq; subst hq; exact fun e => hn (e ▸ hp)⟩
 · cases hp
end
end Go.Vw

namespace Go.Vw
open Go
def delO (ob : List (Nat × MO)) (m : Option Nat) : List (Nat × MO) := match m with | some k => delAll ob k | none => ob
theorem look_set_del {ob : List (Nat × MO)} {m nm : Nat} {mo : MO} (k : Nat) : look ((nm, mo) :: delAll ob m) k = if k = nm then some mo else if k = m then none else look ob k := by
 rw [look_cons, look_delAll]
def flat (n : Nat) (c : Nat → List Value) : List Value := (List.range n).flatMap c
theorem flat_get (sz : Nat) (c : Nat → List Value) : ∀ (n : Nat), (∀ i, i < n → (c i).length = sz) → (flat n c).length = n * sz ∧ ∀ i j, i < n → j < sz → (flat n c)[i * sz + j]? = (c i)[j]?
 | 0, _ => ⟨by simp [flat], fun i j h => by omega⟩
 | n + 1, h => by
   obtain ⟨h1, h2⟩ := flat_get sz c n fun i hi => h i (by omega)
   have e : flat (n + 1) c = flat n c ++ c n := by simp [flat, List.range_succ]
   have hn := h n (by omega)
   refine ⟨by rw [e, List.length_append, h1, hn, Nat.add_mul, Nat.one_mul], fun i j hi hj => ?_⟩
   rw [e, List.getElem?_append, h1]
   by_cases hin : i < n
   · rw [if_pos (by calc i * sz + j < i * sz + sz := by omega
      _ = (i + 1) * sz := by rw [Nat.add_mul, Nat.one_mul]
      _ ≤ n * sz := Nat.mul_le_mul_right _ hin)]
     exact h2 i j hin hj
   · have : i = n := by omega
     subst this
     rw [if_neg (by omega)]
     congr 1; omega
section
variable {P : Program} {gb : Nat → Option Gh} {w0 : World} {gr ok0 : Nat → Prop} {st : St} {g : Nat → Option Gh} {ok : Nat → Prop} {a : Act} {w : World} {o : Oper}
theorem Rep.swapN (h : Rep gb w0 gr ok0 st g ok a w) {nm nx : Nat} (hnm : g nm = none) (hlt : nm < nx) (hnx : st.next ≤ nx) {m : Option Nat} {mo' : MO} {G' : Gh} {w' : World}
 (hblk : ∀ b, G'.b = some b → (w.heap.size ≤ b ∧ b < w'.heap.size) ∨ ∃ k mo G, m = some k ∧ look st.ob k = some mo ∧ g k = some G ∧ G.b = some b)
 (hs : w.heap.size ≤ w'.heap.size) (hold : ∀ k, k < w.heap.size → (∀ x mo G, m = some x → look st.ob x = some mo → g x = some G → G.b ≠ some k) → w'.heap[k]? = w.heap[k]?)
 (h1 : w'.os = w.os) (h2 : w'.tape = w.tape) (h3 : w'.output = w.output) (hr : MRel w' ok (gset g nm G') G' mo') :
 Rep gb w0 gr ok0 { st with ob := (nm, mo') :: delO st.ob m, next := nx } (gset g nm G') ok a w' := by
 have hle := gset_le (G := G') hnm
 have hlk : ∀ k p, look ((nm, mo') :: delO st.ob m) k = some p → (k = nm ∧ p = mo') ∨ (k ≠ nm ∧ m ≠ some k ∧ look st.ob k = some p) := fun k p hk => by
  cases m with
  | none =>
    simp only [delO] at hk
    rw [look_cons] at hk
    split at hk
    · rename_i e; cases hk; exact .inl ⟨e, rfl⟩
    · rename_i e; exact .inr ⟨e, by simp, hk⟩
  | some x =>
    simp only [delO] at hk
    rw [look_set_del] at hk
    split at hk
    · rename_i e; cases hk; exact .inl ⟨e, rfl⟩
    · rename_i e
      split at hk
      · cases hk
      · rename_i e'; exact .inr ⟨e, fun e => by cases e; exact e' rfl, hk⟩
 have hother : ∀ k K, k ≠ nm → (gset g nm G' k = some K ↔ g k = some K) := fun k K hk => by unfold gset; rw [if_neg hk]
 have hsame : ∀ K, gset g nm G' nm = some K → K = G' := fun K hk => by rw [gset_same] at hk; cases hk; rfl
 -- blocks of what stays are as they were
 have hokk : ∀ b, ok b → w'.heap[b]? = w.heap[b]? := fun b hb => hold b (h.obs.okb b hb).1 fun x mo G _ hx hg => (h.obs.okb b hb).2 x mo G hx hg
 have hkeep : ∀ k p K b, m ≠ some k → look st.ob k = some p → g k = some K → K.b = some b → w'.heap[b]? = w.heap[b]? := fun k p K b hne hk hK hb =>
  hold b (h.obs.lt k p K b hk hK hb) fun x mo G hx hlx hg hgb => hne (by rw [hx, h.obs.sep x k mo p G K b hlx hk hg hK hgb hb])
 have hnewb : ∀ k p K b, k ≠ nm → m ≠ some k → look st.ob k = some p → g k = some K → K.b = some b → G'.b ≠ some b := fun k p K b _ hne hk hK hb e => by
  rcases hblk b e with ⟨h', _⟩ | ⟨x, mo, G, hx, hlx, hg, hgb⟩
  · have := h.obs.lt k p K b hk hK hb; omega
  · exact hne (by rw [hx, h.obs.sep x k mo p G K b hlx hk hg hK hgb hb])
 refine ⟨fun t => RV.mono (fun _ h => h) hokk g _ hle _ _ (h.tm t), ⟨fun k p hk => ?_, fun k k' p p' K K' c hk hk' q1 q2 q3 q4 => ?_, fun c hc => ⟨Nat.lt_of_lt_of_le (h.obs.okb c hc).1 hs, fun k p K hk hK => ?_⟩, fun k p K c hk hK hc => ?_⟩,
  fun k p K c hk hK hc => ?_, fun k hk => ?_, fun k K hK => hle k K (h.base k K hK), ⟨h1.trans h.frm.os, h2.trans h.frm.tape, h3.trans h.frm.output, Nat.le_trans h.frm.size hs, fun k hk hgr => ?_⟩, h.df, h.n, h.okf⟩
 · rcases hlk k p hk with ⟨rfl, rfl⟩ | ⟨hne, hnm', hk⟩
   · exact ⟨G', gset_same, hr⟩
   · obtain ⟨K, hK, hr'⟩ := h.obs.rel k p hk
     exact ⟨K, hle k K hK, MRel.mono (fun _ h => h) hokk hle (fun b hb => hkeep k p K b hnm' hk hK hb) hr'⟩
 · rcases hlk k p hk with ⟨e1, e2⟩ | ⟨hne, hn1, hk1⟩ <;> rcases hlk k' p' hk' with ⟨e3, e4⟩ | ⟨hne', hn2, hk2⟩
   · rw [e1, e3]
   · subst e1; cases hsame _ q1
     exact absurd q3 (hnewb k' p' K' c hne' hn2 hk2 ((hother _ _ hne').1 q2) q4)
   · subst e3; cases hsame _ q2
     exact absurd q4 (hnewb k p K c hne hn1 hk1 ((hother _ _ hne).1 q1) q3)
   · exact h.obs.sep k k' p p' K K' c hk1 hk2 ((hother _ _ hne).1 q1) ((hother _ _ hne').1 q2) q3 q4
 · rcases hlk k p hk with ⟨rfl, rfl⟩ | ⟨hne, hnm', hk⟩
   · cases hsame _ hK
     intro e
     rcases hblk c e with ⟨h', _⟩ | ⟨x, mo, G, hx, hlx, hg, hgb⟩
     · have := (h.obs.okb c hc).1; omega
     · exact (h.obs.okb c hc).2 x mo G hlx hg hgb
   · exact (h.obs.okb c hc).2 k p K hk ((hother _ _ hne).1 hK)
 · rcases hlk k p hk with ⟨rfl, rfl⟩ | ⟨hne, hnm', hk⟩
   · cases hsame _ hK
     rcases hblk c hc with ⟨_, h'⟩ | ⟨x, mo, G, hx, hlx, hg, hgb⟩
     · exact h'
     · exact Nat.lt_of_lt_of_le (h.obs.lt x mo G c hlx hg hgb) hs
   · exact Nat.lt_of_lt_of_le (h.obs.lt k p K c hk ((hother _ _ hne).1 hK) hc) hs
 · rcases hlk k p hk with ⟨rfl, rfl⟩ | ⟨hne, hnm', hk⟩
   · cases hsame _ hK
     rcases hblk c hc with ⟨h', _⟩ | ⟨x, mo, G, hx, hlx, hg, hgb⟩
     · exact .inl (Nat.le_trans h.frm.size h')
     · exact h.own x mo G c hlx hg hgb
   · exact h.own k p K c hk ((hother _ _ hne).1 hK) hc
 · have hm' : nx ≤ k := hk
   unfold gset
   rw [if_neg (by omega)]
   exact h.fresh k (by omega)
 · rw [hold k (Nat.lt_of_lt_of_le hk h.frm.size) fun x mo G hx hlx hg hgb => ?_]
   · exact h.frm.old k hk hgr
   · rcases h.own x mo G k hlx hg hgb with h' | h'
     · omega
     · exact hgr h'
theorem Rep.swap (h : Rep gb w0 gr ok0 st g ok a w) {m : Option Nat} {mo' : MO} {G' : Gh} {w' : World}
 (hblk : ∀ b, G'.b = some b → (w.heap.size ≤ b ∧ b < w'.heap.size) ∨ ∃ k mo G, m = some k ∧ look st.ob k = some mo ∧ g k = some G ∧ G.b = some b)
 (hs : w.heap.size ≤ w'.heap.size) (hold : ∀ k, k < w.heap.size → (∀ x mo G, m = some x → look st.ob x = some mo → g x = some G → G.b ≠ some k) → w'.heap[k]? = w.heap[k]?)
 (h1 : w'.os = w.os) (h2 : w'.tape = w.tape) (h3 : w'.output = w.output) (hr : MRel w' ok (gset g st.next G') G' mo') :
 Rep gb w0 gr ok0 { st with ob := (st.next, mo') :: delO st.ob m, next := st.next + 1 } (gset g st.next G') ok a w' :=
 h.swapN (h.fresh _ (Nat.le_refl _)) (Nat.lt_succ_self _) (Nat.le_succ _) hblk hs hold h1 h2 h3 hr
def dstAV (P : Program) (st : St) (e : TypeId) (x : AV) : Option (Option Nat × Nat × Nat × (Nat → List AV)) :=
 match x with
 | .osl m => match look st.ob m with | some (.arr e' sz n rows) => bif Nat.beq e' e then some (some m, sz, n, rows) else none | _ => none
 | .nilsl => some (none, P.cellsOf e, 0, fun _ => [])
 | _ => none
def srcAV (P : Program) (st : St) (t : TypeId) (y : AV) : Option (Nat × Nat × (Nat → List AV)) :=
 match P.underlying t with
 | some (.slice _) => rowsOf (look st.ob) y
 | some .string => match y with | .str s => some (1, s.size, fun i => [.int .u8 (s.data.toList.getD i 0).toNat]) | _ => none
 | _ => none
def appRows (n : Nat) (r1 r2 : Nat → List AV) : Nat → List AV := fun i => bif Nat.blt i n then r1 i else r2 (i - n)
structure AppOut where
 pre : Prop
 st : St
def appAVn (P : Program) (nm nx : Nat) (st : St) (t tx : TypeId) (x y : AV) : Option AppOut :=
 match elemOf? P t with
 | some e => match zeroAV P e, dstAV P st e x, srcAV P st tx y with
   | some z, some (m, sz, n, r1), some (sz2, k, r2) =>
     fN (P.bytesOf e) fun bo => bif (Nat.beq sz (P.cellsOf e) && Nat.beq z.length sz) && (Nat.ble 1 sz && Nat.ble 1 bo) && (Nat.beq sz2 sz || Nat.beq k 0) then
      some ⟨(n + k) * bo ≤ 140737488355328 ∧ ∀ i, i < k → (r2 i).all AV.one = true, { st with ob := (nm, .arr e sz (n + k) (appRows n r1 r2)) :: delO st.ob m, next := nx }⟩
     else none
   | _, _, _ => none
 | none => none
def appAV (P : Program) (st : St) (t tx : TypeId) (x y : AV) : Option AppOut := appAVn P st.next (st.next + 1) st t tx x y
theorem srcAV_spec (h : Rep gb w0 gr ok0 st g ok a w) {t : TypeId} {y : Operand} {sz2 k sz : Nat} {r2 : Nat → List AV} (hs : srcAV P st t (st.ev y) = some (sz2, k, r2)) (hz : k = 0 ∨ sz2 = sz) (h1 : ∀ i, i < k → (r2 i).all AV.one = true) :
 ∃ c : Nat → List Value, (∀ i, i < k → (c i).length = sz ∧ RVs w ok G0 (r2 i) (c i)) ∧ Src P sz t (a.eval y) k (flat k c) w := by
 have hy := h.ev y
 have hob : ∀ m mo G, look st.ob m = some mo → g m = some G → MRel w ok g G mo := fun m mo G hm hg => by
  obtain ⟨K, hK, hr⟩ := h.obs.rel m mo hm
  rw [hg] at hK; cases hK; exact hr
 unfold srcAV at hs
 split at hs
 · rename_i e hu
   obtain ⟨A, cp, hv, hn, hr⟩ := rowsOf_spec hs hy hob
   rcases Nat.eq_zero_or_pos k with h0 | hpos
   · subst h0
     refine ⟨fun _ => [], fun i hi => by omega, ?_⟩
     cases A with
     | none => rw [hv]; exact Src.ofNil w hu cp
     | some ad => rw [hv]; exact Src.ofSlice w hu ad 0 cp [] (by simp) (by simp) (by simp)
   · rcases hr with hr | ⟨b, o', hA, hr⟩
     · omega
     have hsz : sz2 = sz := hz.resolve_left (by omega)
     subst hsz
     have : ∃ c : Nat → List Value, ∀ i, i < k → (c i).length = sz2 ∧ RVs w ok G0 (r2 i) (c i) ∧ ∀ j, j < sz2 → w.cell? ⟨b, o' + (i * sz2 + j), none⟩ = (c i)[j]? :=
      ⟨fun i => if h : i < k then (hr i h).choose else [], fun i hi => by simp only [hi, dif_pos]; exact (hr i hi).choose_spec⟩
     obtain ⟨c, hc⟩ := this
     obtain ⟨f1, f2⟩ := flat_get sz2 c k fun i hi => (hc i hi).1
     refine ⟨c, fun i hi => ⟨(hc i hi).1, (hc i hi).2.1⟩, ?_⟩
     rw [hv, hA]
     refine Src.ofSlice w hu _ k cp _ f1 (fun j u hu => ?_) (fun u hu => ?_)
     · have hj : j < k * sz2 := by
        rcases Nat.lt_or_ge j (k * sz2) with h | h
        · exact h
        · rw [List.getElem?_eq_none (by omega)] at hu; cases hu
       have hs0 : 0 < sz2 := by rcases Nat.eq_zero_or_pos sz2 with e | e; (subst e; simp at hj); exact e
       have e1 : j / sz2 < k := (Nat.div_lt_iff_lt_mul hs0).2 hj
       have e2 : j % sz2 < sz2 := Nat.mod_lt _ hs0
       have e3 : j / sz2 * sz2 + j % sz2 = j := by rw [Nat.mul_comm]; exact Nat.div_add_mod j sz2
       rw [add_off, ← e3, (hc _ e1).2.2 _ e2, ← f2 _ _ e1 e2, e3, hu]
     · obtain ⟨i, hi, hu'⟩ := List.mem_flatMap.1 hu
       have hi' := List.mem_range.1 hi
       exact one_cells (h1 i hi') (hc i hi').2.1 u hu'
 · rename_i hu
   split at hs <;> cases hs
   rename_i s he
   rw [he] at hy
   simp only [RV] at hy
   rw [hy]
   refine ⟨fun i => [.int .u8 (s.data.toList.getD i 0).toNat], fun i hi => ?_, ?_⟩
   · rcases hz with h0 | hz
     · omega
     · subst hz; exact ⟨rfl, _, _, rfl, rfl, rfl⟩
   · have e : flat s.size (fun i => [Value.int .u8 (s.data.toList.getD i 0).toNat]) = byteCells s := by
      apply List.ext_getElem?
      intro j
      obtain ⟨f1, f2⟩ := flat_get 1 (fun i => [Value.int .u8 (s.data.toList.getD i 0).toNat]) s.size (fun _ _ => rfl)
      by_cases hj : j < s.size
      · have := f2 j 0 hj (by omega)
        simp only [Nat.mul_one, Nat.add_zero, List.getElem?_cons_zero] at this
        rw [this]
        have hj' : j < s.data.toList.length := by simpa using hj
        simp [byteCells, List.getD, List.getElem?_eq_getElem hj']
      · rw [List.getElem?_eq_none (by omega), List.getElem?_eq_none (by rw [byteCells_length]; omega)]
     rw [e]
     rcases hz with h0 | hz
     · have : s.size = 0 := h0
       have hb : byteCells s = [] := List.eq_nil_of_length_eq_zero (by rw [byteCells_length]; exact this)
       have := Src.ofString (P := P) w hu s
       refine ⟨this.kind, this.len, ?_, ?_, by rw [hb, h0]; simp, this.one⟩
       · simp [Builtin.firstCells, h0, hb]
       · simp [Builtin.firstCells, h0, hb]
     · subst hz; exact Src.ofString w hu s
 · cases hs
theorem gset_other {g : Nat → Option Gh} {m k : Nat} {G : Gh} (h : k ≠ m) : gset g m G k = g k := by unfold gset; rw [if_neg h]
theorem append_repN (h : Rep gb w0 gr ok0 st g ok a w) {nm nx : Nat} (hnm : g nm = none) (hnl : nm < nx) (hnx : st.next ≤ nx) {t tx : TypeId} {x y : Operand} {out : AppOut} (hop : o.op = .call ⟨.builtin .append, #[x, y], #[t, tx]⟩)
 (hp : appAVn P nm nx st t tx (st.ev x) (st.ev y) = some out) (hpre : out.pre) :
 ∃ v w' g', (execOp a.eval o).run P w = .ok (.value v) w' ∧ Rep gb w0 gr ok0 out.st g' ok a w' ∧ RV w' ok g' (.osl nm) v ∧ ∀ k, k ≠ nm → g' k = g k := by
 unfold appAVn at hp
 simp only [fN_eq] at hp
 split at hp
 · rename_i e hel
   have hu : P.underlying t = some (.slice e) := by
    unfold elemOf? at hel; split at hel <;> cases hel; assumption
   split at hp
   · rename_i z m sz n r1 sz2 k r2 hz hd hsrc
     obtain ⟨i, zv, hi, hzv, rfl⟩ := zeroAV_spec hz
     cases hc : (Nat.beq sz (P.cellsOf e) && Nat.beq (ofVal zv).cells.length sz) && (Nat.ble 1 sz && Nat.ble 1 (P.bytesOf e)) && (Nat.beq sz2 sz || Nat.beq k 0) <;> simp only [hc, cond_true, cond_false, reduceCtorEq, Option.some.injEq] at hp
     subst hp
     simp only [Bool.and_eq_true, Bool.or_eq_true, Nat.ble_eq] at hc
     obtain ⟨⟨⟨c1, c2⟩, c3, c4⟩, c5⟩ := hc
     have c1 := Nat.eq_of_beq_eq_true c1
     have c2 := Nat.eq_of_beq_eq_true c2
     obtain ⟨q1, q2⟩ := hpre
     have hsz : i.size = sz := by rw [c1]; simp [Program.cellsOf, hi]
     have hby : i.bytes = P.bytesOf e := by simp [Program.bytesOf, hi]
     have hnk : n + k ≤ 140737488355328 := Nat.le_trans (Nat.le_mul_of_pos_right _ c4) q1
     obtain ⟨c, hc, hsr⟩ := srcAV_spec (P := P) (sz := sz) h hsrc (c5.symm.imp Nat.eq_of_beq_eq_true Nat.eq_of_beq_eq_true) q2
     obtain ⟨f1, f2⟩ := flat_get sz c k fun i hi => (hc i hi).1
     obtain ⟨zs, hzs, hzr⟩ := ofVal_cells (w := w) (ok := ok) (g := G0) zv
     have hzl : zv.cells.size = sz := by rw [← Array.length_toList, hzs]; have := hzr.length; omega
     have hex := h.ev x
     -- the slice that is there
     have hold : ∃ b0 cp cur, a.eval x = .slice (b0.map fun b => (⟨b, 0, none⟩ : Addr)) n cp ∧ ((b0 = none ∧ n = 0 ∧ cp = 0 ∧ cur = #[]) ∨ ∃ b, b0 = some b ∧ w.heap[b]? = some (.cells cur e (0, 0)) ∧ n ≤ cp ∧ cp ≤ maxLen ∧ cur.size = cp * sz ∧
      (∃ mm mo G, m = some mm ∧ look st.ob mm = some mo ∧ g mm = some G ∧ G.b = some b) ∧ ∀ i, i < n → ∃ vs : List Value, vs.length = sz ∧ RVs w ok G0 (r1 i) vs ∧ ∀ j, j < sz → cur[i * sz + j]? = vs[j]?) ∧
      (∀ xx mo G bb, m = some xx → look st.ob xx = some mo → g xx = some G → G.b = some bb → b0 = some bb) := by
      unfold dstAV at hd
      split at hd
      · rename_i mm hx
        rw [hx] at hex
        obtain ⟨G, hg, hv⟩ := hex
        split at hd
        · rename_i e' sz' n' rows' hlk
          cases hb : Nat.beq e' e <;> simp [hb] at hd
          obtain ⟨rfl, rfl, rfl, rfl⟩ := hd
          have he := Nat.eq_of_beq_eq_true hb
          subst he
          obtain ⟨K, hK, hn, hr⟩ := h.obs.rel mm _ hlk
          rw [hg] at hK; cases hK
          have hlast : ∀ xx mo K bb, some mm = some xx → look st.ob xx = some mo → g xx = some K → K.b = some bb → G.b = some bb := fun xx mo K bb e1 e2 e3 e4 => by
           cases e1; rw [hg] at e3; cases e3; exact e4
          rcases hr with ⟨hbn, h0, hc0⟩ | ⟨b, cur, hbb, hh, k1, k2, k3, k4⟩
          · exact ⟨none, 0, #[], by rw [hv, hbn, hn, hc0], .inl ⟨rfl, h0, rfl, rfl⟩, fun xx mo K bb e1 e2 e3 e4 => by rw [← hlast xx mo K bb e1 e2 e3 e4, hbn]⟩
          · exact ⟨some b, G.c, cur, by rw [hv, hbb, hn], .inr ⟨b, rfl, hh, k1, k2, k3, ⟨mm, _, G, rfl, hlk, hg, hbb⟩, k4⟩, fun xx mo K bb e1 e2 e3 e4 => by rw [← hlast xx mo K bb e1 e2 e3 e4, hbb]⟩
        · cases hd
      · rename_i hx
        cases hd
        rw [hx] at hex
        exact ⟨none, 0, #[], hex, .inl ⟨rfl, rfl, rfl, rfl⟩, fun _ _ _ _ e => by cases e⟩
      · cases hd
     obtain ⟨b0, cp, cur, hv, hcase, hlast⟩ := hold
     have hrun0 : ∀ v w', (Builtin.append_ #[t, tx] o.type #[a.eval x, a.eval y]).run P w = .ok v w' → (execOp a.eval o).run P w = .ok (.value v) w' := fun v w' hr => by
      simp [execOp, hop, resolve, invoke, builtin, hr]
     -- the rows of a new block
     have hrows : ∀ (W : World) (olds : List Value) (tail : List Value) (q : Nat), (∀ b, ok b → W.heap[b]? = w.heap[b]?) → olds.length = n * sz →
      (∀ i, i < n → ∃ vs : List Value, vs.length = sz ∧ RVs w ok G0 (r1 i) vs ∧ ∀ j, j < sz → olds[i * sz + j]? = vs[j]?) →
      ∀ i, i < n + k → ∃ vs : List Value, vs.length = sz ∧ RVs W ok G0 (appRows n r1 r2 i) vs ∧ ∀ j, j < sz → (olds ++ flat k c ++ tail).toArray[i * sz + j]? = vs[j]? := by
      intro W olds tail q hW hol hor i hi
      have hmono : ∀ (as : List AV) (vs : List Value), RVs w ok G0 as vs → RVs W ok G0 as vs := fun as vs hh => RVs.mono (fun _ h => h) hW G0 G0 (fun _ _ h => h) as vs hh
      by_cases hin : i < n
      · obtain ⟨vs, e1, e2, e3⟩ := hor i hin
        refine ⟨vs, e1, ?_, fun j hj => ?_⟩
        · have : Nat.blt i n = true := Nat.ble_eq_true_of_le hin
          simp only [appRows, this, cond_true]
          exact hmono _ _ e2
        · have hlt : i * sz + j < n * sz := by
           calc i * sz + j < i * sz + sz := by omega
            _ = (i + 1) * sz := by rw [Nat.add_mul, Nat.one_mul]
            _ ≤ n * sz := Nat.mul_le_mul_right _ hin
          rw [← e3 j hj, List.getElem?_toArray, List.append_assoc, List.getElem?_append, hol, if_pos hlt]
      · obtain ⟨e1, e2⟩ := hc (i - n) (by omega)
        refine ⟨c (i - n), e1, ?_, fun j hj => ?_⟩
        · have : Nat.blt i n = false := by
           cases hb : Nat.blt i n
           · rfl
           · exact absurd (Nat.le_of_ble_eq_true hb) hin
          simp only [appRows, this, cond_false]
          exact hmono _ _ e2
        · have e4 : i * sz + j = n * sz + ((i - n) * sz + j) := by
           have : i = n + (i - n) := by omega
           calc i * sz + j = (n + (i - n)) * sz + j := by rw [← this]
            _ = _ := by rw [Nat.add_mul]; omega
          have hlt : (i - n) * sz + j < k * sz := by
           calc (i - n) * sz + j < (i - n) * sz + sz := by omega
            _ = (i - n + 1) * sz := by rw [Nat.add_mul, Nat.one_mul]
            _ ≤ k * sz := Nat.mul_le_mul_right _ (by omega)
          rw [e4, List.getElem?_toArray, List.append_assoc, List.getElem?_append, hol, if_neg (by omega), Nat.add_sub_cancel_left, List.getElem?_append, f1, if_pos hlt]
          exact f2 _ j (by omega) hj
     -- a new block is made
     have hgrow : cp < n + k → ∀ olds : List Value, olds.length = n * sz → (Builtin.firstCells i.size n (.slice (b0.map fun b => (⟨b, 0, none⟩ : Addr)) n cp)).run P w.drew = .ok olds.toArray w.drew →
      (∀ i, i < n → ∃ vs : List Value, vs.length = sz ∧ RVs w ok G0 (r1 i) vs ∧ ∀ j, j < sz → olds[i * sz + j]? = vs[j]?) →
      ∃ v w' g', (execOp a.eval o).run P w = .ok (.value v) w' ∧ Rep gb w0 gr ok0 { st with ob := (nm, .arr e sz (n + k) (appRows n r1 r2)) :: delO st.ob m, next := nx } g' ok a w' ∧ RV w' ok g' (.osl nm) v ∧ ∀ k, k ≠ nm → g' k = g k := by
      intro hlt olds hol hfc hor
      have hr := run_append_grow_src (P := P) w t tx o.type e i zv hu hi hzv (b0.map fun b => (⟨b, 0, none⟩ : Addr)) n cp olds hfc (a.eval y) k (flat k c) (by rw [hsz]; exact hsr) hlt (by omega) (growslice_fits hlt (by rw [hby]; exact q1))
      have hge := grownCap_ge w (n + k) cp e
      have hcm : grownCap w (n + k) cp e ≤ maxLen := grownCap_le_maxLen w (n + k) cp e (by unfold maxLen; omega)
      have hrep := h.swapN hnm hnl hnx (m := m) (mo' := .arr e sz (n + k) (appRows n r1 r2)) (G' := ⟨some w.heap.size, n + k, grownCap w (n + k) cp e⟩)
       (w' := w.drew.alloc (.cells ((olds ++ flat k c).toArray ++ Builtin.zeroCells zv.cells (grownCap w (n + k) cp e - (n + k))) e))
       (fun b hb => by cases hb; exact .inl ⟨Nat.le_refl _, by simp⟩) (by simp) (fun q hq _ => RowKit.Below.heap_alloc w.drew _ q hq) rfl rfl rfl ?_
      · refine ⟨_, _, _, hrun0 _ _ (by rw [hv]; exact hr), hrep, ⟨_, gset_same, rfl⟩, fun k hk => gset_other hk⟩
      · refine ⟨rfl, .inr ⟨w.heap.size, _, rfl, heap_alloc_new w.drew _, hge, hcm, ?_, ?_⟩⟩
        · simp only [Array.size_append, List.size_toArray, List.length_append, hol, f1, size_zeroCells, hzl]
          rw [← Nat.add_mul, ← Nat.add_mul]
          congr 1; omega
        · intro q hq
          have := hrows (w.drew.alloc (.cells ((olds ++ flat k c).toArray ++ Builtin.zeroCells zv.cells (grownCap w (n + k) cp e - (n + k))) e)) olds (Builtin.zeroCells zv.cells (grownCap w (n + k) cp e - (n + k))).toList 0
           (fun b hb => RowKit.Below.heap_alloc w.drew _ b (h.obs.okb b hb).1) hol hor q hq
          obtain ⟨vs, e1, e2, e3⟩ := this
          refine ⟨vs, e1, e2, fun j hj => ?_⟩
          rw [← e3 j hj]
          congr 1
          apply Array.ext'
          simp
     rcases hcase with ⟨rfl, rfl, rfl, rfl⟩ | ⟨b, rfl, hh, hncp, hcpm, hcs, ⟨mm, mo, G, rfl, hlk, hg, hGb⟩, hr1⟩
     · rcases Nat.eq_zero_or_pos k with hk0 | hkp
       · -- nothing, onto nil
         subst hk0
         have hfl : flat 0 c = [] := rfl
         rw [hfl] at hsr
         refine ⟨.slice none 0 0, w, _, hrun0 _ _ ?_, h.swapN hnm hnl hnx (m := m) (mo' := .arr e sz (0 + 0) (appRows 0 r1 r2)) (G' := ⟨none, 0, 0⟩) (fun b hb => by cases hb) (Nat.le_refl _) (fun _ _ _ => rfl) rfl rfl rfl ⟨rfl, .inl ⟨rfl, rfl, rfl⟩⟩, ⟨_, gset_same, rfl⟩, fun k hk => gset_other hk⟩
         rw [hv]
         have hcl := hsr.cells
         rw [← hsz] at hcl
         rcases hsr.kind with ⟨e', hk⟩ | hk <;> simp [Builtin.append_, run_underlying hu, run_underlying hk, sizeOf, typeInfo, hi, hsr.len, hcl]
       · refine hgrow (by omega) [] (by simp) ?_ (fun i hi => by omega)
         exact run_firstCells_none w.drew i.size 0 0 0
     · by_cases hroom : n + k ≤ cp
       · -- in place
         have hfit : n * sz + (flat k c).length ≤ cur.size := by rw [f1, hcs, ← Nat.add_mul]; exact Nat.mul_le_mul_right _ hroom
         have hst := run_storeCells_at (P := P) b (n * sz) e (flat k c) 0 cur w hh (by simpa using hfit) hsr.one
         simp only [Nat.add_zero] at hst
         have hnew := setRow_heap w b cur (cur.toList.take (n * sz) ++ flat k c ++ cur.toList.drop (n * sz + (flat k c).length)).toArray e (0, 0) hh
         have hother := fun q (hq : q ≠ b) => setRow_other w b q (cur.toList.take (n * sz) ++ flat k c ++ cur.toList.drop (n * sz + (flat k c).length)).toArray hq
         have e1 : (w.setRow b (cur.toList.take (n * sz) ++ flat k c ++ cur.toList.drop (n * sz + (flat k c).length)).toArray).heap.size = w.heap.size := by simp
         have e2 : (w.setRow b (cur.toList.take (n * sz) ++ flat k c ++ cur.toList.drop (n * sz + (flat k c).length)).toArray).os = w.os := rfl
         have e3 : (w.setRow b (cur.toList.take (n * sz) ++ flat k c ++ cur.toList.drop (n * sz + (flat k c).length)).toArray).tape = w.tape := rfl
         have e4 : (w.setRow b (cur.toList.take (n * sz) ++ flat k c ++ cur.toList.drop (n * sz + (flat k c).length)).toArray).output = w.output := rfl
         generalize w.setRow b (cur.toList.take (n * sz) ++ flat k c ++ cur.toList.drop (n * sz + (flat k c).length)).toArray = W at *
         have hcl := hsr.cells
         have hrun : (Builtin.append_ #[t, tx] o.type #[.slice (some ⟨b, 0, none⟩) n cp, a.eval y]).run P w = .ok (.slice (some ⟨b, 0, none⟩) (n + k) cp) W := by
          rw [← hsz] at hcl hst
          rcases hsr.kind with ⟨e', hk⟩ | hk <;> simp [Builtin.append_, run_underlying hu, run_underlying hk, sizeOf, typeInfo, hi, hsr.len, hroom, hcl, add_off, hst]
         have hokb : ∀ q, ok q → W.heap[q]? = w.heap[q]? := fun q hq => hother q fun e => by subst e; exact (h.obs.okb q hq).2 mm mo G hlk hg hGb
         refine ⟨_, W, _, hrun0 _ _ (by rw [hv]; exact hrun), h.swapN hnm hnl hnx (m := some mm) (mo' := .arr e sz (n + k) (appRows n r1 r2)) (G' := ⟨some b, n + k, cp⟩) (fun q hq => by cases hq; exact .inr ⟨mm, mo, G, rfl, hlk, hg, hGb⟩)
          (by rw [e1]; exact Nat.le_refl _) (fun q hq hne => hother q fun e => by subst e; exact hne mm mo G rfl hlk hg hGb) e2 e3 e4 ⟨rfl, .inr ⟨b, _, rfl, hnew, hroom, hcpm, ?_, ?_⟩⟩, ⟨_, gset_same, rfl⟩, fun k hk => gset_other hk⟩
         · simp; rw [f1, hcs] at *; omega
         · exact hrows W (cur.toList.take (n * sz)) _ 0 hokb (by rw [List.length_take, Array.length_toList, hcs]; have := Nat.mul_le_mul_right sz hncp; omega) (fun i hi => by
            obtain ⟨vs, g1, g2, g3⟩ := hr1 i hi
            refine ⟨vs, g1, g2, fun j hj => ?_⟩
            have hlt : i * sz + j < n * sz := by
             calc i * sz + j < i * sz + sz := by omega
              _ = (i + 1) * sz := by rw [Nat.add_mul, Nat.one_mul]
              _ ≤ n * sz := Nat.mul_le_mul_right _ hi
            rw [List.getElem?_take, if_pos hlt, ← g3 j hj]; simp)
       · refine hgrow (by omega) (cur.toList.take (n * sz)) (by rw [List.length_take, Array.length_toList, hcs]; have := Nat.mul_le_mul_right sz hncp; omega) ?_ (fun i hi => by
          obtain ⟨vs, g1, g2, g3⟩ := hr1 i hi
          refine ⟨vs, g1, g2, fun j hj => ?_⟩
          have hlt : i * sz + j < n * sz := by
           calc i * sz + j < i * sz + sz := by omega
            _ = (i + 1) * sz := by rw [Nat.add_mul, Nat.one_mul]
            _ ≤ n * sz := Nat.mul_le_mul_right _ hi
          rw [List.getElem?_take, if_pos hlt, ← g3 j hj]; simp)
         have hl : (cur.toList.take (n * sz)).length = n * sz := by rw [List.length_take, Array.length_toList, hcs]; have := Nat.mul_le_mul_right sz hncp; omega
         refine run_firstCells_some w.drew i.size n ⟨b, 0, none⟩ n cp (cur.toList.take (n * sz)) (by rw [hsz]; exact hl) (fun j u hu => ?_)
         have hj : j < n * sz := by
          rcases Nat.lt_or_ge j (n * sz) with h | h
          · exact h
          · rw [List.getElem?_eq_none (by omega)] at hu; cases hu
         rw [add_off, Nat.zero_add]
         rw [List.getElem?_take, if_pos hj] at hu
         show w.drew.cell? _ = _
         rw [cell_of_row w.drew b j cur e (0, 0) hh]
         simpa using hu
   · cases hp
 · cases hp
theorem append_rep (h : Rep gb w0 gr ok0 st g ok a w) {t tx : TypeId} {x y : Operand} {out : AppOut} (hop : o.op = .call ⟨.builtin .append, #[x, y], #[t, tx]⟩)
 (hp : appAV P st t tx (st.ev x) (st.ev y) = some out) (hpre : out.pre) :
 ∃ v w' g', (execOp a.eval o).run P w = .ok (.value v) w' ∧ Rep gb w0 gr ok0 out.st g' ok a w' ∧ RV w' ok g' (.osl st.next) v := by
 obtain ⟨v, w', g', h1, h2, h3, _⟩ := append_repN h (h.fresh _ (Nat.le_refl _)) (Nat.lt_succ_self _) (Nat.le_succ _) hop hp hpre
 exact ⟨v, w', g', h1, h2, h3⟩
end
end Go.Vw

namespace Go.Vw
open Go
class Tabs (P : Program) where
 tab : Nat → Prop
 J : World → Prop
 lt : ∀ w b, J w → tab b → b < w.heap.size
 stay : ∀ w w' : World, J w → (∀ b, tab b → w'.heap[b]? = w.heap[b]?) → J w'
def JJ (P : Program) [Tabs P] (w0 : World) (gr : Nat → Prop) : Prop := Tabs.J P w0 ∧ ∀ b, Tabs.tab P b → ¬ gr b
theorem JJ.now {P : Program} [Tabs P] {w0 w : World} {gr : Nat → Prop} (h : JJ P w0 gr) (f : Frm w0 gr w) : Tabs.J P w :=
 Tabs.stay w0 w h.1 fun b hb => f.old b (Tabs.lt w0 b h.1 hb) (h.2 b hb)
def Enters (P : Program) (F : FuncId) : Prop := ∀ (args : Array Value) (w : World), (callFunc F args).run P w = .ok (.enter F args) w
def CallR (P : Program) [Tabs P] (F : FuncId) (args : List AV) (st : St) (d : Option Tmp) (st2 : St) : Prop :=
 Enters P F ∧ ∀ gb w0 gr ok0 g ok a w vs, JJ P w0 gr → Rep gb w0 gr ok0 st g ok a w → RVs w ok g args vs →
  Calls P F vs.toArray w fun e w' => ∃ v g' ok', e = .returned v ∧ Rep gb w0 gr ok0 st2 g' ok' (a.put d v) w'
def ExtR (P : Program) (F : FuncId) (args : List AV) (st : St) (r : AV) : Prop :=
 ∀ gb w0 gr ok0 g ok a w vs, Rep gb w0 gr ok0 st g ok a w → RVs w ok g args vs → ∃ v, (callFunc F vs.toArray).run P w = .ok (.value v) w ∧ RV w ok g r v
@[irreducible] def CallG (P : Program) [Tabs P] (F : FuncId) (args : List AV) (st : St) (d : Option Tmp) (next : St → Prop) : Prop := (∃ st2, CallR P F args st d st2 ∧ next st2) ∨ ∃ r, ExtR P F args st r ∧ dstOK d st.n = true ∧ next (st.put d r)
theorem CallG.ext {P : Program} [Tabs P] {F : FuncId} {args : List AV} {st : St} {d : Option Tmp} {next : St → Prop} (r : AV) (h : ExtR P F args st r) (hd : dstOK d st.n = true) (hn : next (st.put d r)) : CallG P F args st d next := by
 unfold CallG; exact .inr ⟨r, h, hd, hn⟩
theorem CallG.mk {P : Program} [Tabs P] {F : FuncId} {args : List AV} {st : St} {d : Option Tmp} {next : St → Prop} (st2 : St) (h : CallR P F args st d st2) (hn : next st2) : CallG P F args st d next := by
 unfold CallG; exact .inl ⟨st2, h, hn⟩
def AV.force (x : AV) (k : AV → Prop) : Prop :=
 match x with
 | .any => k .any | .int a b => k (.int a b) | .bool b => k (.bool b) | .str s => k (.str s) | .agg c => k (.agg c) | .tup c => k (.tup c) | .nilsl => k .nilsl
 | .sl a b c => k (.sl a b c) | .osl m => k (.osl m) | .eptr a b => k (.eptr a b) | .bptr a b => k (.bptr a b) | .aptr a b c d => k (.aptr a b c d) | .vw a b c d => k (.vw a b c d) | .nilptr => k .nilptr | .iface a b => k (.iface a b)
 | .niliface => k .niliface | .fn a b c => k (.fn a b c) | .nilfn => k .nilfn | .omap m => k (.omap m) | .undef => k .undef | .lo => k .lo
theorem AV.force_eq (x : AV) (k : AV → Prop) : x.force k = k x := by cases x <;> rfl
def forceL : List AV → (List AV → Prop) → Prop
 | [], k => k []
 | x :: r, k => x.force fun y => forceL r fun s => k (y :: s)
theorem forceL_eq : ∀ (l : List AV) (k : List AV → Prop), forceL l k = k l
 | [], _ => rfl
 | x :: r, k => by simp only [forceL, AV.force_eq, forceL_eq r]
def andO (p : Option Prop) (q : Prop) : Prop := match p with | some r => r ∧ q | none => q
@[irreducible] def OpG (P : Program) [Tabs P] (o : Oper) (st : St) (next : St → Prop) : Prop :=
  ∀ gb w0 gr ok0 g ok a w, JJ P w0 gr → Rep gb w0 gr ok0 st g ok a w → ∀ Q : Exit → Act → World → Prop, o.wp P a w (fun a' w' => ∃ st' g' ok', Rep gb w0 gr ok0 st' g' ok' a' w' ∧ next st') Q
def exOp (P : Program) [Tabs P] (o : Oper) (st : St) (next : St → Prop) : Prop :=
 match dstOK o.dst st.n with
 | false => False
 | true => match o.op with
   | .store t x y => (match stAV P st t (st.ev x) (st.ev y) with | some st' => next (st'.put o.dst .any) | none => False)
   | .mapUpdate t x k y => (match mupAV P st t (st.ev x) (st.ev k) (st.ev y) with | some st' => next (st'.put o.dst .any) | none => False)
   | .call ⟨.value f, args, _⟩ => (match st.ev f with | .fn (.func F) xs ys => forceL (xs ++ (args.toList.map st.ev ++ ys)) (fun l => CallG P F l st o.dst next) | _ => False)
   | .call ⟨.builtin .append, args, tys⟩ => (match args.toList, tys.toList with
     | [x, y], [t, tx] => (match appAV P st t tx (st.ev x) (st.ev y) with | some out => out.pre ∧ next (out.st.put o.dst (.osl st.next)) | none => OpG P o st next)
     | _, _ => False)
   | op => match pas P st.ev (look st.ob) st.next op with
     | some p => (match p.mo with
       | none => andO p.pre (p.r.force fun r => next (st.put o.dst r))
       | some mo => andO p.pre (p.r.force fun r => next ((st.add mo).put o.dst r)))
     | none => OpG P o st next
def Grd (c : Bool) (A B : Prop) : Prop := match c with | true => A | false => B
theorem Grd.intro {c : Bool} {A B : Prop} (h1 : c = true → A) (h2 : c = false → B) : Grd c A B := by cases c <;> simp_all [Grd]
def exOps (P : Program) [Tabs P] (all : Array Oper) : List Oper → St → (St → Prop) → Prop
 | [], st, next => next st
 | o :: r, st, next => match o.guard with
   | none => exOp P o st fun st' => exOps P all r st' next
   | some (j, want) => match (all[j]?).bind (·.dst) with
     | some t => (match Nat.blt t st.n, dstOK o.dst st.n with
       | true, true => (match st.tm t with
         | .bool c => (match want with
           | true => Grd c (exOp P o (st.put (some t) (.bool true)) fun st' => exOps P all r st' next) (exOps P all r ((st.put (some t) (.bool false)).put o.dst .undef) next)
           | false => Grd c (exOps P all r ((st.put (some t) (.bool true)).put o.dst .undef) next) (exOp P o (st.put (some t) (.bool false)) fun st' => exOps P all r st' next))
         | .undef => exOps P all r (st.put o.dst .undef) next
         | _ => False)
       | _, _ => False)
     | none => False
section
variable {P : Program} [Tabs P] {gb : Nat → Option Gh} {w0 : World} {gr ok0 : Nat → Prop} {st : St} {g : Nat → Option Gh} {ok : Nat → Prop} {a : Act} {w : World} {o : Oper} {Q : Exit → Act → World → Prop}
theorem Rep.obr (h : Rep gb w0 gr ok0 st g ok a w) : ∀ m mo G, look st.ob m = some mo → g m = some G → MRel w ok g G mo := fun m mo G hm hg => by
 obtain ⟨K, hK, hr⟩ := h.obs.rel m mo hm
 rw [hg] at hK; cases hK; exact hr
theorem andO_right {p : Option Prop} {q : Prop} (h : andO p q) : (∀ r, p = some r → r) ∧ q := by
 cases p with
 | none => exact ⟨fun _ e => (nomatch e), h⟩
 | some r => exact ⟨fun _ e => (by cases e; exact h.1), h.2⟩
theorem exOp_wp {next : St → Prop} (hj : JJ P w0 gr) (h : exOp P o st next) (hr : Rep gb w0 gr ok0 st g ok a w) :
 o.wp P a w (fun a' w' => ∃ st' g' ok', Rep gb w0 gr ok0 st' g' ok' a' w' ∧ next st') Q := by
 unfold exOp at h
 split at h
 · cases h
 rename_i hd
 have pasCase : ∀ p, pas P st.ev (look st.ob) st.next o.op = some p → (match p.mo with
  | none => andO p.pre (p.r.force fun r => next (st.put o.dst r))
  | some mo => andO p.pre (p.r.force fun r => next ((st.add mo).put o.dst r))) → o.wp P a w (fun a' w' => ∃ st' g' ok', Rep gb w0 gr ok0 st' g' ok' a' w' ∧ next st') Q := by
  intro p hp hn
  simp only [AV.force_eq] at hn
  have hpre : ∀ q, p.pre = some q → q := by
   intro q hq
   split at hn <;> exact (andO_right hn).1 q hq
  have := pas_does (o := o) (a := a) (nm := st.next) (fun b hb => (hr.obs.okb b hb).1) (hr.fresh _ (Nat.le_refl _)) hr.ev hr.obr hp hpre
  unfold Does at this
  unfold Oper.wp
  cases hmo : p.mo with
  | none =>
    simp only [hmo] at this hn
    obtain ⟨v, hrun, hv⟩ := this
    rw [hrun, Oper.upon_value]
    exact ⟨_, g, ok, hr.put hd hv, (andO_right hn).2⟩
  | some mo =>
    simp only [hmo] at this hn
    obtain ⟨v, obj, G, hrun, hG, hm, hv⟩ := this
    rw [hrun, Oper.upon_value]
    exact ⟨_, _, ok, (hr.add hG hm).put hd hv, (andO_right hn).2⟩
 split at h
 · rename_i t x y hop
   split at h
   · rename_i st' hst
     obtain ⟨w', hrun, hr'⟩ := store_rep hr hop hst
     have hn : st'.n = st.n := by rw [← hr'.n, hr.n]
     unfold Oper.wp
     rw [hrun, Oper.upon_skip]
     exact ⟨_, g, ok, hr'.put (x := .any) (by rw [hn]; exact hd) trivial, h⟩
   · cases h
 · rename_i t x k y hop
   split at h
   · rename_i st' hst
     obtain ⟨w', hrun, hr'⟩ := mapUpd_rep hr (.inl hop) hst
     have hn : st'.n = st.n := by rw [← hr'.n, hr.n]
     unfold Oper.wp
     rw [hrun, Oper.upon_skip]
     exact ⟨_, g, ok, hr'.put (x := .any) (by rw [hn]; exact hd) trivial, h⟩
   · cases h
 · rename_i f args tys hop
   split at h
   · rename_i F xs ys hf
     rw [forceL_eq] at h
     unfold CallG at h
     have hfv := hr.ev f
     rw [hf] at hfv
     obtain ⟨us, vs, hv, h1, h2⟩ := hfv
     have hargs := h1.append ((RVs_map hr.ev args.toList).append h2)
     have e : (us.toArray ++ args.map a.eval ++ vs.toArray) = (us ++ (args.toList.map a.eval ++ vs)).toArray := by
      apply Array.ext'; simp
     rcases h with ⟨st2, ⟨hen, hc⟩, hn⟩ | ⟨r, hx, hd', hn⟩
     · have := hc gb w0 gr ok0 g ok a w _ hj hr hargs
       have hrun : (execOp a.eval o).run P w = .ok (.enter F (us ++ (args.toList.map a.eval ++ vs)).toArray) w := by
        rw [← e]
        simp [execOp, hop, resolve, hv, Deferred.ofValue, invoke, hen _ w]
       unfold Oper.wp
       rw [hrun, Oper.upon_enter]
       refine this.mono ?_
       rintro e w' ⟨v, g', ok', rfl, hr'⟩
       exact ⟨st2, g', ok', hr', hn⟩
     · obtain ⟨v, hcall, hrv⟩ := hx gb w0 gr ok0 g ok a w _ hr hargs
       have hrun : (execOp a.eval o).run P w = .ok (.value v) w := by
        rw [← e, Array.append_assoc] at hcall
        simp [execOp, hop, resolve, hv, Deferred.ofValue, invoke, hcall]
       unfold Oper.wp
       rw [hrun, Oper.upon_value]
       exact ⟨_, g, ok, hr.put hd' hrv, hn⟩
   · cases h
 · rename_i args tys hop
   split at h
   · rename_i x y t tx ha ht
     split at h
     · rename_i out hout
       obtain ⟨hpre, hn⟩ := h
       have hargs : args = #[x, y] := by apply Array.ext'; simpa using ha
       have htys : tys = #[t, tx] := by apply Array.ext'; simpa using ht
       subst hargs htys
       obtain ⟨v, w', g', hrun, hr', hv⟩ := append_rep hr hop hout hpre
       have hn' : out.st.n = st.n := by rw [← hr'.n, hr.n]
       unfold Oper.wp
       rw [hrun, Oper.upon_value]
       exact ⟨_, g', ok, hr'.put (by rw [hn']; exact hd) hv, hn⟩
     · unfold OpG at h
       exact h gb w0 gr ok0 g ok a w hj hr Q
   · cases h
 · split at h
   · rename_i p hp
     exact pasCase p hp h
   · unfold OpG at h
     exact h gb w0 gr ok0 g ok a w hj hr Q
theorem yielded_of {ops : Array Oper} {j t : Nat} (hj : (ops[j]?).bind (·.dst) = some t) (ht : t < a.tmps.size) : yielded ops a.tmps j = match a.tmps.getD t Go.undef with | .bool b => some b | _ => none := by
 unfold yielded
 rw [hj]
 have : a.tmps[t]? = some (a.tmps.getD t Go.undef) := by simp [Array.getD, ht]
 simp only [Option.bind_some, this]
 generalize a.tmps.getD t Go.undef = v
 cases v <;> rfl
theorem Rep.lit (h : Rep gb w0 gr ok0 st g ok a w) {t : Nat} {c : Bool} (hc : st.tm t = .bool c) : Rep gb w0 gr ok0 (st.put (some t) (.bool c)) g ok a w := by
 refine ⟨fun s => ?_, h.obs, h.own, h.fresh, h.base, h.frm, h.df, h.n, h.okf⟩
 show RV w ok g (bif Nat.beq s t then AV.bool c else st.tm s) _
 cases hb : Nat.beq s t
 · exact h.tm s
 · have e := Nat.eq_of_beq_eq_true hb
   subst e
   have := h.tm s
   rw [hc] at this
   exact this
theorem exOps_wp {all : Array Oper} (hj0 : JJ P w0 gr) : ∀ (l : List Oper) {next : St → Prop} {st : St} {g : Nat → Option Gh} {ok : Nat → Prop} {a : Act} {w : World}, exOps P all l st next → Rep gb w0 gr ok0 st g ok a w →
 (∀ st' g' ok' a' w', Rep gb w0 gr ok0 st' g' ok' a' w' → next st' → Q .normal a' w') → wpList P all Q l a w
 | [], next, st, g, ok, a, w, h, hr, hQ => hQ st g ok a w hr h
 | o :: r, next, st, g, ok, a, w, h, hr, hQ => by
   have hmono : ∀ (K : Act → World → Prop), o.wp P a w K Q → (∀ a w, K a w → wpList P all Q r a w) → o.wp P a w (wpList P all Q r) Q := by
    intro K hK hKQ
    unfold Oper.wp Oper.upon at *
    split at hK <;> first | exact hKQ _ _ hK | exact hK | skip
    all_goals (first | (refine Calls.mono hK ?_; intro e w' he; cases e <;> first | exact hKQ _ _ he | exact he) | (exact Rows.mono hK fun v w' hv => hKQ _ _ hv))
   unfold exOps at h
   split at h
   · rename_i hgd
     have hw : Region.wanted o (yielded all a.tmps) = true := by simp [Region.wanted, hgd]
     unfold wpList
     rw [if_pos hw]
     left
     exact hmono _ (exOp_wp hj0 h hr) fun a' w' ⟨st', g', ok', hr', hn⟩ => exOps_wp hj0 r hn hr' hQ
   · rename_i j want hgd
     split at h
     · rename_i t hj
       split at h
       · rename_i ht hd
         have htn : t < a.tmps.size := by rw [hr.n]; exact Nat.le_of_ble_eq_true ht
         have hy := yielded_of (a := a) hj htn
         have hskip : ∀ st1, Rep gb w0 gr ok0 st1 g ok a w → st1.n = st.n → Region.wanted o (yielded all a.tmps) = false → exOps P all r (st1.put o.dst .undef) next → wpList P all Q (o :: r) a w := by
          intro st1 hr1 hn1 hw hx
          unfold wpList
          rw [if_neg (by rw [hw]; decide)]
          exact exOps_wp hj0 r hx (hr1.put (by rw [hn1]; exact hd) rfl) hQ
         have hdo : ∀ st1, Rep gb w0 gr ok0 st1 g ok a w → Region.wanted o (yielded all a.tmps) = true → (exOp P o st1 fun st' => exOps P all r st' next) → wpList P all Q (o :: r) a w := by
          intro st1 hr1 hw hx
          unfold wpList
          rw [if_pos hw]
          left
          exact hmono _ (exOp_wp hj0 hx hr1) fun a' w' ⟨st', g', ok', hr', hn⟩ => exOps_wp hj0 r hn hr' hQ
         split at h
         · rename_i c hc
           have hv := hr.tm t
           rw [hc] at hv
           simp only [RV] at hv
           rw [hv] at hy
           have hw : Region.wanted o (yielded all a.tmps) = (c == want) := by simp [Region.wanted, hgd, hy]
           cases c <;> split at h <;> simp only [Grd] at h
           · exact hskip _ (hr.lit hc) rfl hw h
           · exact hdo _ (hr.lit hc) hw h
           · exact hdo _ (hr.lit hc) hw h
           · exact hskip _ (hr.lit hc) rfl hw h
         · rename_i hc
           have hv := hr.tm t
           rw [hc] at hv
           simp only [RV] at hv
           rw [hv] at hy
           have hw : Region.wanted o (yielded all a.tmps) = false := by simp [Region.wanted, hgd, hy, Go.undef]
           exact hskip st hr rfl hw h
         · cases h
       · cases h
     · cases h
end
end Go.Vw

namespace Go.Vw
open Go
def AVle (a b : AV) : Prop := ∀ w ok g v, RV w ok g a v → RV w ok g b v
def AVsle (as bs : List AV) : Prop := ∀ w ok g vs, RVs w ok g as vs → RVs w ok g bs vs
theorem AVle.refl (a : AV) : AVle a a := fun _ _ _ _ h => h
theorem AVle.of_eq {a b : AV} (h : a = b) : AVle a b := h ▸ AVle.refl a
theorem AVle.any (a : AV) : AVle a .any := fun _ _ _ _ _ => trivial
theorem AVsle.refl (a : List AV) : AVsle a a := fun _ _ _ _ h => h
theorem AVsle.nil : AVsle [] [] := AVsle.refl []
theorem AVsle.cons {a b : AV} {as bs : List AV} (h1 : AVle a b) (h2 : AVsle as bs) : AVsle (a :: as) (b :: bs) :=
 fun w ok g _ ⟨v, us, e, k1, k2⟩ => ⟨v, us, e, h1 w ok g v k1, h2 w ok g us k2⟩
theorem AVle.agg {as bs : List AV} (h : AVsle as bs) : AVle (.agg as) (.agg bs) := fun w ok g _ ⟨vs, e, k⟩ => ⟨vs, e, h w ok g vs k⟩
theorem AVle.tup {as bs : List AV} (h : AVsle as bs) : AVle (.tup as) (.tup bs) := fun w ok g _ ⟨vs, e, k⟩ => ⟨vs, e, h w ok g vs k⟩
theorem AVle.sl {sz n m : Nat} {r1 r2 : Nat → List AV} (hn : n = m) (h : ∀ i, i < n → r1 i = r2 i) : AVle (.sl sz n r1) (.sl sz m r2) := by
 subst hn
 rintro w ok g v ⟨A, c, e, hc, hr⟩
 refine ⟨A, c, e, hc, hr.imp id fun ⟨b, o, hA, hb, k⟩ => ⟨b, o, hA, hb, fun i hi => ?_⟩⟩
 rw [← h i hi]; exact k i hi
theorem AVle.nilsl (sz : Nat) (r : Nat → List AV) {n : Nat} (hn : n = 0) : AVle .nilsl (.sl sz n r) := by
 subst hn
 exact fun w ok g v h => ⟨none, 0, h, Nat.le_refl _, .inl rfl⟩
-- names given up: what was one's own array is a slice for good; kept names get their new ones
mutual
def AV.nl : AV → Bool
 | .osl _ | .bptr _ _ | .aptr _ _ _ _ | .vw _ _ _ _ | .omap _ => false
 | .agg cs => AV.nls cs
 | .tup cs => AV.nls cs
 | .iface _ x => AV.nl x
 | .fn _ xs ys => AV.nls xs && AV.nls ys
 | .any | .int _ _ | .bool _ | .str _ | .nilsl | .sl _ _ _ | .eptr _ _ | .nilptr | .niliface | .nilfn | .undef | .lo => true
def AV.nls : List AV → Bool
 | [] => true
 | c :: cs => AV.nl c && AV.nls cs
end
mutual
def AV.fz (ob : List (Nat × MO)) (keep : Nat → Option Nat) : AV → AV
 | .osl m => match keep m with
   | some k => .osl k
   | none => match look ob m with | some (.arr _ sz n rows) => .sl sz n rows | _ => .any
 | .bptr m off => match keep m with
   | some k => .bptr k off
   | none => match look ob m with | some (.box cs) => (bif AV.nls cs then .eptr cs off else .any) | _ => .any
 | .aptr m sz i off => match keep m with | some k => .aptr k sz i off | none => .any
 | .vw m sz i n => match keep m with | some k => .vw k sz i n | none => .any
 | .omap m => match keep m with | some k => .omap k | none => .any
 | .agg cs => .agg (AV.fzs ob keep cs)
 | .tup cs => .tup (AV.fzs ob keep cs)
 | .iface t x => .iface t (AV.fz ob keep x)
 | .fn f xs ys => .fn f (AV.fzs ob keep xs) (AV.fzs ob keep ys)
 | .any => .any
 | .int k n => .int k n
 | .bool b => .bool b
 | .str s => .str s
 | .nilsl => .nilsl
 | .sl sz n rows => .sl sz n rows
 | .eptr row off => .eptr row off
 | .nilptr => .nilptr
 | .niliface => .niliface
 | .nilfn => .nilfn
 | .undef => .undef
 | .lo => .lo
def AV.fzs (ob : List (Nat × MO)) (keep : Nat → Option Nat) : List AV → List AV
 | [] => []
 | c :: cs => AV.fz ob keep c :: AV.fzs ob keep cs
end
section
variable {w w' : World} {ok ok' : Nat → Prop} {g g' : Nat → Option Gh}
mutual
theorem RV.nl : ∀ (x : AV) (v : Value), x.nl = true → RV w ok g x v → RV w ok g' x v
 | .any, _, _, _ => trivial
 | .int _ _, _, _, h => h
 | .bool _, _, _, h => h
 | .str _, _, _, h => h
 | .agg cs, _, hn, ⟨vs, e, h⟩ => ⟨vs, e, RVs.nl cs vs hn h⟩
 | .tup cs, _, hn, ⟨vs, e, h⟩ => ⟨vs, e, RVs.nl cs vs hn h⟩
 | .nilsl, _, _, h => h
 | .sl _ _ _, _, _, h => h
 | .osl _, _, hn, _ => by cases hn
 | .eptr _ _, _, _, h => h
 | .bptr _ _, _, hn, _ => by cases hn
 | .aptr _ _ _ _, _, hn, _ => by cases hn
 | .vw _ _ _ _, _, hn, _ => by cases hn
 | .nilptr, _, _, h => h
 | .iface _ x, _, hn, ⟨u, e, h⟩ => ⟨u, e, RV.nl x u hn h⟩
 | .niliface, _, _, h => h
 | .fn _ xs ys, _, hn, ⟨us, vs, e, h1, h2⟩ => by
   have hn' : (AV.nls xs && AV.nls ys) = true := hn
   rw [Bool.and_eq_true] at hn'
   exact ⟨us, vs, e, RVs.nl xs us hn'.1 h1, RVs.nl ys vs hn'.2 h2⟩
 | .nilfn, _, _, h => h
 | .omap _, _, hn, _ => by cases hn
 | .undef, _, _, h => h
 | .lo, _, _, h => h
theorem RVs.nl : ∀ (xs : List AV) (vs : List Value), AV.nls xs = true → RVs w ok g xs vs → RVs w ok g' xs vs
 | [], _, _, h => h
 | x :: xs, _, hn, ⟨v, us, e, h1, h2⟩ => by
   have hn' : (AV.nl x && AV.nls xs) = true := hn
   rw [Bool.and_eq_true] at hn'
   exact ⟨v, us, e, RV.nl x v hn'.1 h1, RVs.nl xs us hn'.2 h2⟩
end
end
section
variable {w : World} {ok ok' : Nat → Prop} {g g' : Nat → Option Gh} {ob : List (Nat × MO)} {keep : Nat → Option Nat}
theorem arr_sl {m : Nat} {G : Gh} {e sz n : Nat} {rows : Nat → List AV} {v : Value} (hr : MRel w ok g G (.arr e sz n rows)) (hv : v = .slice (G.b.map fun b => (⟨b, 0, none⟩ : Addr)) G.n G.c)
 (hok : ∀ b, ok b → ok' b) (hb : ∀ b, G.b = some b → ok' b) : RV w ok' g' (.sl sz n rows) v := by
 obtain ⟨hn, hr⟩ := hr
 rcases hr with ⟨h1, h2, h3⟩ | ⟨b, cur, h1, h2, h3, h4, h5, h6⟩
 · exact ⟨none, G.c, by rw [hv, h1, hn]; rfl, by omega, .inl h2⟩
 · refine ⟨some ⟨b, 0, none⟩, G.c, by rw [hv, h1, hn]; rfl, h3, .inr ⟨b, 0, rfl, hb b h1, fun i hi => ?_⟩⟩
   obtain ⟨vs, k1, k2, k3⟩ := h6 i hi
   exact ⟨vs, k1, RVs.mono hok (fun _ _ => rfl) G0 G0 (fun _ _ h => h) _ _ k2, fun j hj => by rw [Nat.zero_add, cell_of_row w b _ _ _ _ h2]; exact k3 j hj⟩
mutual
theorem RV.fz (hok : ∀ b, ok b → ok' b) (hkeep : ∀ m k G, keep m = some k → g m = some G → g' k = some G)
 (hob : ∀ m mo G, look ob m = some mo → g m = some G → MRel w ok g G mo) (hfz : ∀ m mo G b, keep m = none → look ob m = some mo → g m = some G → G.b = some b → ok' b) :
 ∀ (x : AV) (v : Value), RV w ok g x v → RV w ok' g' (x.fz ob keep) v
 | .any, _, _ => trivial
 | .int _ _, _, h => h
 | .bool _, _, h => h
 | .str _, _, h => h
 | .agg cs, _, ⟨vs, e, h⟩ => by simp only [AV.fz]; exact ⟨vs, e, RVs.fz hok hkeep hob hfz cs vs h⟩
 | .tup cs, _, ⟨vs, e, h⟩ => by simp only [AV.fz]; exact ⟨vs, e, RVs.fz hok hkeep hob hfz cs vs h⟩
 | .nilsl, _, h => h
 | .sl sz n rows, v, h => RV.mono hok (fun _ _ => rfl) G0 g' (fun _ _ h => by cases h) (.sl sz n rows) v h
 | .osl m, v, ⟨G, hm, e⟩ => by
   simp only [AV.fz]
   split
   · rename_i k hk; exact ⟨G, hkeep m k G hk hm, e⟩
   · rename_i hk
     split
     · rename_i ee sz n rows hl; exact arr_sl (m := m) (hob m _ G hl hm) e hok fun b hb => hfz m _ G b hk hl hm hb
     · trivial
 | .eptr row off, v, h => RV.mono hok (fun _ _ => rfl) G0 g' (fun _ _ h => by cases h) (.eptr row off) v h
 | .bptr m off, v, ⟨G, b, hm, hb, e⟩ => by
   simp only [AV.fz]
   split
   · rename_i k hk; exact ⟨G, b, hkeep m k G hk hm, hb, e⟩
   · rename_i hk
     split
     · rename_i cs hl
       cases hn : AV.nls cs with
       | false => trivial
       | true =>
         obtain ⟨b', vs, ty, e1, e2, e3⟩ := hob m _ G hl hm
         have : b' = b := by rw [hb] at e1; cases e1; rfl
         subst this
         exact ⟨b', 0, by rw [Nat.zero_add]; exact e, hfz m _ G b' hk hl hm hb, vs, RVs.mono hok (fun _ _ => rfl) G0 G0 (fun _ _ h => h) cs vs (RVs.nl cs vs hn e3), fun j hj => by
          rw [Nat.zero_add, cell_of_row w b' _ _ _ _ e2]; simp⟩
     · trivial
 | .aptr m sz i off, v, ⟨G, b, hm, hb, e⟩ => by
   simp only [AV.fz]
   split
   · rename_i k hk; exact ⟨G, b, hkeep m k G hk hm, hb, e⟩
   · trivial
 | .vw m sz i n, v, ⟨G, hm, hb, e⟩ => by
   simp only [AV.fz]
   split
   · rename_i k hk; exact ⟨G, hkeep m k G hk hm, hb, e⟩
   · trivial
 | .nilptr, _, h => h
 | .iface t x, _, ⟨u, e, h⟩ => by simp only [AV.fz]; exact ⟨u, e, RV.fz hok hkeep hob hfz x u h⟩
 | .niliface, _, h => h
 | .fn f xs ys, _, ⟨us, vs, e, h1, h2⟩ => by simp only [AV.fz]; exact ⟨us, vs, e, RVs.fz hok hkeep hob hfz xs us h1, RVs.fz hok hkeep hob hfz ys vs h2⟩
 | .nilfn, _, h => h
 | .omap m, v, ⟨G, b, hm, hb, e⟩ => by
   simp only [AV.fz]
   split
   · rename_i k hk; exact ⟨G, b, hkeep m k G hk hm, hb, e⟩
   · trivial
 | .undef, _, h => h
 | .lo, _, h => h
theorem RVs.fz (hok : ∀ b, ok b → ok' b) (hkeep : ∀ m k G, keep m = some k → g m = some G → g' k = some G)
 (hob : ∀ m mo G, look ob m = some mo → g m = some G → MRel w ok g G mo) (hfz : ∀ m mo G b, keep m = none → look ob m = some mo → g m = some G → G.b = some b → ok' b) :
 ∀ (xs : List AV) (vs : List Value), RVs w ok g xs vs → RVs w ok' g' (AV.fzs ob keep xs) vs
 | [], _, h => h
 | x :: xs, _, ⟨v, us, e, h1, h2⟩ => ⟨v, us, e, RV.fz hok hkeep hob hfz x v h1, RVs.fz hok hkeep hob hfz xs us h2⟩
end
end
structure VFn (P : Program) [Tabs P] (F : FuncId) (args : List AV) (r : AV) : Prop where
 enters : Enters P F
 calls : ∀ w ok vs, Tabs.J P w → (∀ b, ok b → b < w.heap.size) → RVs w ok G0 args vs →
  Calls P F vs.toArray w fun e w' => ∃ v, e = .returned v ∧ Frm w (fun _ => False) w' ∧ RV w' (fun b => ok b ∨ (w.heap.size ≤ b ∧ b < w'.heap.size)) G0 r v
mutual
def AV.sca : AV → Bool
 | .osl _ | .bptr _ _ | .aptr _ _ _ _ | .vw _ _ _ _ | .omap _ | .sl _ _ _ | .eptr _ _ => false
 | .agg cs => AV.scas cs
 | .tup cs => AV.scas cs
 | .iface _ x => AV.sca x
 | .fn _ xs ys => AV.scas xs && AV.scas ys
 | .any | .int _ _ | .bool _ | .str _ | .nilsl | .nilptr | .niliface | .nilfn | .undef | .lo => true
def AV.scas : List AV → Bool
 | [] => true
 | c :: cs => AV.sca c && AV.scas cs
end
section
variable {w w' : World} {ok ok' : Nat → Prop} {g g' : Nat → Option Gh}
mutual
theorem RV.sca : ∀ (x : AV) (v : Value), x.sca = true → RV w ok g x v → RV w' ok' g' x v
 | .any, _, _, _ => trivial
 | .int _ _, _, _, h => h
 | .bool _, _, _, h => h
 | .str _, _, _, h => h
 | .agg cs, _, hn, ⟨vs, e, h⟩ => ⟨vs, e, RVs.sca cs vs hn h⟩
 | .tup cs, _, hn, ⟨vs, e, h⟩ => ⟨vs, e, RVs.sca cs vs hn h⟩
 | .nilsl, _, _, h => h
 | .sl _ _ _, _, hn, _ => by cases hn
 | .osl _, _, hn, _ => by cases hn
 | .eptr _ _, _, hn, _ => by cases hn
 | .bptr _ _, _, hn, _ => by cases hn
 | .aptr _ _ _ _, _, hn, _ => by cases hn
 | .vw _ _ _ _, _, hn, _ => by cases hn
 | .nilptr, _, _, h => h
 | .iface _ x, _, hn, ⟨u, e, h⟩ => ⟨u, e, RV.sca x u hn h⟩
 | .niliface, _, _, h => h
 | .fn _ xs ys, _, hn, ⟨us, vs, e, h1, h2⟩ => by
   have hn' : (AV.scas xs && AV.scas ys) = true := hn
   rw [Bool.and_eq_true] at hn'
   exact ⟨us, vs, e, RVs.sca xs us hn'.1 h1, RVs.sca ys vs hn'.2 h2⟩
 | .nilfn, _, _, h => h
 | .omap _, _, hn, _ => by cases hn
 | .undef, _, _, h => h
 | .lo, _, _, h => h
theorem RVs.sca : ∀ (xs : List AV) (vs : List Value), AV.scas xs = true → RVs w ok g xs vs → RVs w' ok' g' xs vs
 | [], _, _, h => h
 | x :: xs, _, hn, ⟨v, us, e, h1, h2⟩ => by
   have hn' : (AV.sca x && AV.scas xs) = true := hn
   rw [Bool.and_eq_true] at hn'
   exact ⟨v, us, e, RV.sca x v hn'.1 h1, RVs.sca xs us hn'.2 h2⟩
end
end
section
variable {P : Program} [Tabs P] {gb : Nat → Option Gh} {w0 : World} {gr ok0 : Nat → Prop} {st : St} {g : Nat → Option Gh} {ok : Nat → Prop} {a : Act} {w : World}
theorem Rep.okmore (h : Rep gb w0 gr ok0 st g ok a w) {ok' : Nat → Prop} (hle : ∀ b, ok b → ok' b) (hb : ∀ b, ok' b → b < w.heap.size ∧ ∀ m mo G, look st.ob m = some mo → g m = some G → G.b ≠ some b)
 (hf : ∀ b, ok' b → ok0 b ∨ gr b ∨ w0.heap.size ≤ b) : Rep gb w0 gr ok0 st g ok' a w := by
 refine ⟨fun t => RV.mono hle (fun _ _ => rfl) g g (fun _ _ h => h) _ _ (h.tm t), ⟨fun m mo hm => ?_, h.obs.sep, hb, h.obs.lt⟩, h.own, h.fresh, h.base, h.frm, h.df, h.n, hf⟩
 obtain ⟨G, hg, hr⟩ := h.obs.rel m mo hm
 exact ⟨G, hg, MRel.mono hle (fun _ _ => rfl) (fun _ _ h => h) (fun _ _ => rfl) hr⟩
theorem Frm.grow {w' : World} (h : Frm w (fun _ => False) w') (hr : Rep gb w0 gr ok0 st g ok a w) : Rep gb w0 gr ok0 st g ok a w' :=
 hr.grow h.size (fun b hb => h.old b hb (fun h => h)) h.os h.tape h.output
theorem callR_sca {F : FuncId} {args : List AV} {r : AV} {d : Option Tmp} (h : VFn P F (AV.fzs st.ob (fun _ => none) args) r) (hr : r.sca = true) (hd : dstOK d st.n = true) :
 CallR P F args st d (st.put d r) := by
 refine ⟨h.1, fun gb w0 gr ok0 g ok a w vs hj hrep hargs => ?_⟩
 have h1 := RVs.fz (ok' := fun b => b < w.heap.size) (g' := G0) (keep := fun _ => none) (fun b hb => (hrep.obs.okb b hb).1) (fun _ _ _ e => by cases e) hrep.obr (fun m mo G b _ hm hg hb => hrep.obs.lt m mo G b hm hg hb) args vs hargs
 refine (h.2 w _ vs (hj.now hrep.frm) (fun b hb => hb) h1).mono ?_
 rintro e w' ⟨v, rfl, hf, hv⟩
 exact ⟨v, g, ok, rfl, (hf.grow hrep).put hd (RV.sca r v hr hv)⟩
theorem callR_nl {F : FuncId} {args : List AV} {r : AV} {d : Option Tmp} (h : VFn P F args r) (ha : AV.nls args = true) (hd : dstOK d st.n = true) :
 CallR P F args st d (st.put d r) := by
 refine ⟨h.1, fun gb w0 gr ok0 g ok a w vs hj hrep hargs => ?_⟩
 refine (h.2 w ok vs (hj.now hrep.frm) (fun b hb => (hrep.obs.okb b hb).1) (RVs.nl args vs ha hargs)).mono ?_
 rintro e w' ⟨v, rfl, hf, hv⟩
 have h1 := hf.grow hrep
 have h2 := h1.okmore (ok' := fun b => ok b ∨ (w.heap.size ≤ b ∧ b < w'.heap.size)) (fun _ h => .inl h) (fun b hb => by
  rcases hb with hb | hb
  · exact h1.obs.okb b hb
  · exact ⟨hb.2, fun m mo G hm hg e => by have := hrep.obs.lt m mo G b hm hg e; omega⟩) (fun b hb => by
  rcases hb with hb | hb
  · exact hrep.okf b hb
  · exact .inr (.inr (Nat.le_trans hrep.frm.size hb.1)))
 exact ⟨v, g, _, rfl, h2.put hd (RV.mono (fun _ h => h) (fun _ _ => rfl) G0 g (fun _ _ e => by cases e) r v hv)⟩
theorem Rep.addNew (h : Rep gb w0 gr ok0 st g ok a w) {nm nx : Nat} (hnm : g nm = none) (hlt : nm < nx) (hnx : st.next ≤ nx) {w' : World} (hfr : Frm w (fun _ => False) w') {G : Gh} {mo : MO} (hG : ∀ b, G.b = some b → w.heap.size ≤ b ∧ b < w'.heap.size) (hr : MRel w' ok (gset g nm G) G mo) :
 Rep gb w0 gr ok0 { st with ob := (nm, mo) :: st.ob, next := nx } (gset g nm G) ok a w' := by
 have hle := gset_le (G := G) hnm
 have hg := hfr.grow h
 have hother : ∀ m K, m ≠ nm → (gset g nm G m = some K ↔ g m = some K) := fun m K hm => by unfold gset; rw [if_neg hm]
 have hsame : ∀ K, gset g nm G nm = some K → K = G := fun K hk => by rw [gset_same] at hk; cases hk; rfl
 have hlk : ∀ m mo', look ((nm, mo) :: st.ob) m = some mo' → (m = nm ∧ mo' = mo) ∨ (m ≠ nm ∧ look st.ob m = some mo') := fun m mo' hm => by
  rw [look_cons] at hm
  split at hm
  · rename_i e; cases hm; exact .inl ⟨e, rfl⟩
  · rename_i e; exact .inr ⟨e, hm⟩
 refine ⟨fun t => RV.mono (fun _ h => h) (fun _ _ => rfl) g _ hle _ _ (hg.tm t), ⟨fun m mo' hm => ?_, fun m m' mo1 mo2 G1 G2 b hm hm' k1 k2 hb hb' => ?_, fun b hb => ⟨(hg.obs.okb b hb).1, fun m mo' K hm hk => ?_⟩, fun m mo' K b hm hk hb => ?_⟩,
  fun m mo' K b hm hk hb => ?_, fun m hm => ?_, fun m K hk => hle m K (h.base m K hk), hg.frm, h.df, h.n, h.okf⟩
 · rcases hlk m mo' hm with ⟨rfl, rfl⟩ | ⟨hne, hm⟩
   · exact ⟨G, gset_same, hr⟩
   · obtain ⟨K, hk, hr'⟩ := hg.obs.rel m mo' hm
     exact ⟨K, hle m K hk, MRel.mono (fun _ h => h) (fun _ _ => rfl) hle (fun _ _ => rfl) hr'⟩
 · have hnew : ∀ m mo' K b, m ≠ nm → look st.ob m = some mo' → g m = some K → K.b = some b → b < w.heap.size := fun m mo' K b _ hm hk hb => h.obs.lt m mo' K b hm hk hb
   rcases hlk m mo1 hm with ⟨e1, e2⟩ | ⟨hne, hm1⟩ <;> rcases hlk m' mo2 hm' with ⟨e3, e4⟩ | ⟨hne', hm2⟩
   · rw [e1, e3]
   · subst e1; cases hsame _ k1
     have := hnew m' mo2 G2 _ hne' hm2 ((hother _ _ hne').1 k2) hb'
     have := (hG b hb).1
     omega
   · subst e3; cases hsame _ k2
     have := hnew m mo1 G1 _ hne hm1 ((hother _ _ hne).1 k1) hb
     have := (hG b hb').1
     omega
   · exact h.obs.sep m m' mo1 mo2 G1 G2 b hm1 hm2 ((hother _ _ hne).1 k1) ((hother _ _ hne').1 k2) hb hb'
 · rcases hlk m mo' hm with ⟨rfl, rfl⟩ | ⟨hne, hm⟩
   · cases hsame _ hk; intro e; have := (h.obs.okb _ hb).1; have := (hG b e).1; omega
   · exact (h.obs.okb b hb).2 m mo' K hm ((hother _ _ hne).1 hk)
 · rcases hlk m mo' hm with ⟨rfl, rfl⟩ | ⟨hne, hm⟩
   · cases hsame _ hk; exact (hG b hb).2
   · exact hg.obs.lt m mo' K b hm ((hother _ _ hne).1 hk) hb
 · rcases hlk m mo' hm with ⟨rfl, rfl⟩ | ⟨hne, hm⟩
   · cases hsame _ hk; exact .inl (Nat.le_trans h.frm.size (hG b hb).1)
   · exact h.own m mo' K b hm ((hother _ _ hne).1 hk) hb
 · have hm' : nx ≤ m := hm
   unfold gset
   rw [if_neg (by omega)]
   exact h.fresh m (by omega)
end
end Go.Vw

namespace Go.Vw
open Go
def MO.fz (ob : List (Nat × MO)) (keep : Nat → Option Nat) : MO → MO
 | .box cs => .box (AV.fzs ob keep cs)
 | o => o
def fzOb (all : List (Nat × MO)) (keep : Nat → Option Nat) : List (Nat × MO) → List (Nat × MO)
 | [] => []
 | (m, o) :: r => match keep m with | some k => (k, o.fz all keep) :: fzOb all keep r | none => fzOb all keep r
def St.fz (st : St) (keep : Nat → Option Nat) (nx : Nat) : St := { tm := fun t => (st.tm t).fz st.ob keep, ob := fzOb st.ob keep st.ob, next := nx, n := st.n }
theorem look_fzOb {all : List (Nat × MO)} {keep inv : Nat → Option Nat} (hki : ∀ m k, keep m = some k ↔ inv k = some m) : ∀ (l : List (Nat × MO)) (k : Nat) (o : MO),
 look (fzOb all keep l) k = some o → ∃ m p, keep m = some k ∧ look l m = some p ∧ o = p.fz all keep
 | [], k, o, h => by cases h
 | (m, p) :: r, k, o, h => by
   unfold fzOb at h
   split at h
   · rename_i k' hk
     rw [look_cons] at h
     split at h
     · rename_i e; subst e; cases h
       exact ⟨m, p, hk, by rw [look_cons, if_pos rfl], rfl⟩
     · rename_i hne
       obtain ⟨m', p', h1, h2, h3⟩ := look_fzOb hki r k o h
       refine ⟨m', p', h1, ?_, h3⟩
       rw [look_cons, if_neg (fun e => ?_), h2]
       subst e; rw [hk] at h1; cases h1; exact hne rfl
   · rename_i hk
     obtain ⟨m', p', h1, h2, h3⟩ := look_fzOb hki r k o h
     refine ⟨m', p', h1, ?_, h3⟩
     rw [look_cons, if_neg (fun e => ?_), h2]
     subst e; rw [hk] at h1; cases h1
section
variable {P : Program} {gb : Nat → Option Gh} {w0 : World} {gr ok0 : Nat → Prop} {st : St} {g : Nat → Option Gh} {ok : Nat → Prop} {a : Act} {w : World}
theorem Rep.fz (h : Rep gb w0 gr ok0 st g ok a w) (keep inv : Nat → Option Nat) (nx : Nat) (hki : ∀ m k, keep m = some k ↔ inv k = some m) (hnx : ∀ m k, keep m = some k → k < nx)
 (hgb : ∀ m G, gb m = some G → keep m = some m) : ∃ g' ok', Rep gb w0 gr ok0 (st.fz keep nx) g' ok' a w ∧ (∀ x v, RV w ok g x v → RV w ok' g' (x.fz st.ob keep) v) ∧ (∀ k, g' k = (inv k).bind g) ∧
  (∀ b, ok' b → ok b ∨ ∃ m mo G, keep m = none ∧ look st.ob m = some mo ∧ g m = some G ∧ G.b = some b) := by
 let g' : Nat → Option Gh := fun k => (inv k).bind g
 let ok' : Nat → Prop := fun b => ok b ∨ ∃ m mo G, keep m = none ∧ look st.ob m = some mo ∧ g m = some G ∧ G.b = some b
 have hk : ∀ m k G, keep m = some k → g m = some G → g' k = some G := fun m k G h1 h2 => by show (inv k).bind g = _; rw [(hki m k).1 h1]; exact h2
 have hfz : ∀ m mo G b, keep m = none → look st.ob m = some mo → g m = some G → G.b = some b → ok' b := fun m mo G b h1 h2 h3 h4 => .inr ⟨m, mo, G, h1, h2, h3, h4⟩
 have hlk : ∀ k o, look (fzOb st.ob keep st.ob) k = some o → ∃ m p, keep m = some k ∧ look st.ob m = some p ∧ o = p.fz st.ob keep := fun k o hh => look_fzOb hki st.ob k o hh
 have hgk : ∀ m k K, keep m = some k → g' k = some K → g m = some K := fun m k K h1 h2 => by
  have : (inv k).bind g = some K := h2
  rw [(hki m k).1 h1] at this; exact this
 refine ⟨g', ok', ⟨fun t => RV.fz (fun _ h => .inl h) hk h.obr hfz _ _ (h.tm t), ⟨fun k o ho => ?_, fun k k' o o' K K' b ho ho' hK hK' hb hb' => ?_, fun b hb => ?_, fun k o K b ho hK hb => ?_⟩,
  fun k o K b ho hK hb => ?_, fun k hkx => ?_, fun m G hm => hk m m G (hgb m G hm) (h.base m G hm), h.frm, h.df, h.n, fun b hb => ?_⟩, fun x v hv => RV.fz (fun _ h => .inl h) hk h.obr hfz _ _ hv, fun _ => rfl, fun _ h => h⟩
 · obtain ⟨m, p, h1, h2, rfl⟩ := hlk k o ho
   obtain ⟨G, hG, hr⟩ := h.obs.rel m p h2
   refine ⟨G, hk m k G h1 hG, ?_⟩
   cases p with
   | box cs =>
     obtain ⟨b, vs, ty, e1, e2, e3⟩ := hr
     exact ⟨b, vs, ty, e1, e2, RVs.fz (fun _ h => .inl h) hk h.obr hfz _ _ e3⟩
   | arr e sz n rows => exact MRel.mono (fun _ h => Or.inl h) (fun _ _ => rfl) (fun m G h => h) (fun _ _ => rfl) (mo := .arr e sz n rows) (g := g) (g' := g) hr
   | arrc e sz n c rows => exact MRel.mono (fun _ h => Or.inl h) (fun _ _ => rfl) (fun m G h => h) (fun _ _ => rfl) (mo := .arrc e sz n c rows) (g := g) (g' := g) hr
   | imap ks => exact hr
   | smap ks => exact hr
 · obtain ⟨m, p, h1, h2, _⟩ := hlk k o ho
   obtain ⟨m', p', h1', h2', _⟩ := hlk k' o' ho'
   have := h.obs.sep m m' p p' K K' b h2 h2' (hgk m k K h1 hK) (hgk m' k' K' h1' hK') hb hb'
   subst this
   rw [h1] at h1'; cases h1'; rfl
 · refine ⟨?_, fun k o K ho hK e => ?_⟩
   · rcases hb with hb | ⟨m, mo, G, _, h2, h3, h4⟩
     · exact (h.obs.okb b hb).1
     · exact h.obs.lt m mo G b h2 h3 h4
   · obtain ⟨m, p, h1, h2, _⟩ := hlk k o ho
     have hg := hgk m k K h1 hK
     rcases hb with hb | ⟨m', mo, G, h0, h2', h3, h4⟩
     · exact (h.obs.okb b hb).2 m p K h2 hg e
     · have := h.obs.sep m m' p mo K G b h2 h2' hg h3 e h4
       subst this
       rw [h0] at h1; cases h1
 · obtain ⟨m, p, h1, h2, _⟩ := hlk k o ho
   exact h.obs.lt m p K b h2 (hgk m k K h1 hK) hb
 · obtain ⟨m, p, h1, h2, _⟩ := hlk k o ho
   exact h.own m p K b h2 (hgk m k K h1 hK) hb
 · show (inv k).bind g = none
   cases hi : inv k with
   | none => rfl
   | some m => have := hnx m k ((hki m k).2 hi); have hkx' : nx ≤ k := hkx; omega
 · rcases hb with hb | ⟨m, mo, G, _, h2, h3, h4⟩
   · exact h.okf b hb
   · exact .inr ((h.own m mo G b h2 h3 h4).symm)
def MOle (a b : MO) : Prop := ∀ w ok g G, MRel w ok g G a → MRel w ok g G b
theorem MOle.refl (a : MO) : MOle a a := fun _ _ _ _ h => h
theorem MOle.of_eq {a b : MO} (h : a = b) : MOle a b := h ▸ MOle.refl a
theorem MOle.box {as bs : List AV} (h : AVsle as bs) : MOle (.box as) (.box bs) := fun w ok g G ⟨b, vs, ty, h1, h2, h3⟩ => ⟨b, vs, ty, h1, h2, h w ok g vs h3⟩
theorem MOle.arr {e sz n m : Nat} {r1 r2 : Nat → List AV} (hn : n = m) (h : ∀ i, i < n → r1 i = r2 i) : MOle (.arr e sz n r1) (.arr e sz m r2) := by
 subst hn
 rintro w ok g G ⟨h0, hr⟩
 refine ⟨h0, hr.imp id fun ⟨b, cur, h1, h2, h3, h4, h5, h6⟩ => ⟨b, cur, h1, h2, h3, h4, h5, fun i hi => ?_⟩⟩
 rw [← h i hi]; exact h6 i hi
theorem Rep.weak (h : Rep gb w0 gr ok0 st g ok a w) {st' : St} (htm : ∀ t, AVle (st.tm t) (st'.tm t)) (hob : ∀ m mo', look st'.ob m = some mo' → ∃ mo, look st.ob m = some mo ∧ MOle mo mo')
 (hx : st.next ≤ st'.next) (hn : st'.n = st.n) : Rep gb w0 gr ok0 st' g ok a w := by
 have hex : ∀ m mo', look st'.ob m = some mo' → ∃ mo, look st.ob m = some mo := fun m mo' h' => let ⟨mo, h1, _⟩ := hob m mo' h'; ⟨mo, h1⟩
 refine ⟨fun t => htm t w ok g _ (h.tm t), ⟨fun m mo' hm => ?_, fun m m' mo mo' G G' b hm hm' => ?_, fun b hb => ⟨(h.obs.okb b hb).1, fun m mo G hm => ?_⟩, fun m mo G b hm => ?_⟩,
  fun m mo G b hm => ?_, fun m hm => h.fresh m (Nat.le_trans hx hm), h.base, h.frm, h.df, by rw [h.n, hn], h.okf⟩
 · obtain ⟨mo, h1, h2⟩ := hob m mo' hm
   obtain ⟨G, hG, hr⟩ := h.obs.rel m mo h1
   exact ⟨G, hG, h2 w ok g G hr⟩
 · obtain ⟨q, hq⟩ := hex m mo hm
   obtain ⟨q', hq'⟩ := hex m' mo' hm'
   exact h.obs.sep m m' q q' G G' b hq hq'
 · obtain ⟨q, hq⟩ := hex m mo hm
   exact (h.obs.okb b hb).2 m q G hq
 · obtain ⟨q, hq⟩ := hex m mo hm
   exact h.obs.lt m q G b hq
 · obtain ⟨q, hq⟩ := hex m mo hm
   exact h.own m q G b hq
end
def lookT : List (Nat × AV) → Nat → AV
 | [], _ => .any
 | (k, x) :: r, t => bif Nat.beq k t then x else lookT r t
def mkSt (S : List (Nat × AV)) (O : List (Nat × MO)) (nx n : Nat) : St := { tm := lookT S, ob := O, next := nx, n }
def kL : List (Nat × Nat) → Nat → Option Nat
 | [], _ => none
 | (a, b) :: r, m => bif Nat.beq a m then some b else kL r m
def iL : List (Nat × Nat) → Nat → Option Nat
 | [], _ => none
 | (a, b) :: r, k => bif Nat.beq b k then some a else iL r k
def noA (m : Nat) : List (Nat × Nat) → Bool
 | [] => true
 | (a, _) :: r => bif Nat.beq a m then false else noA m r
def noB (m : Nat) : List (Nat × Nat) → Bool
 | [] => true
 | (_, b) :: r => bif Nat.beq b m then false else noB m r
def klOK (nx : Nat) : List (Nat × Nat) → Bool
 | [] => true
 | (a, b) :: r => (noA a r && noB b r) && (Nat.blt b nx && klOK nx r)
def klBase (kl : List (Nat × Nat)) : Nat → Bool
 | 0 => true
 | m + 1 => (match kL kl m with | some k => Nat.beq k m | none => false) && klBase kl m
theorem noA_spec {m : Nat} : ∀ {kl : List (Nat × Nat)}, noA m kl = true → kL kl m = none
 | [], _ => rfl
 | (a, b) :: r, h => by
   unfold noA at h
   unfold kL
   cases hb : Nat.beq a m <;> simp [hb] at h ⊢
   exact noA_spec h
theorem noB_spec {m : Nat} : ∀ {kl : List (Nat × Nat)}, noB m kl = true → iL kl m = none
 | [], _ => rfl
 | (a, b) :: r, h => by
   unfold noB at h
   unfold iL
   cases hb : Nat.beq b m <;> simp [hb] at h ⊢
   exact noB_spec h
theorem kl_spec {nx : Nat} : ∀ {kl : List (Nat × Nat)}, klOK nx kl = true → (∀ m k, kL kl m = some k ↔ iL kl k = some m) ∧ ∀ m k, kL kl m = some k → k < nx
 | [], _ => ⟨fun m k => by simp [kL, iL], fun m k h => by cases h⟩
 | (a, b) :: r, h => by
   simp only [klOK, Bool.and_eq_true] at h
   obtain ⟨⟨h1, h2⟩, h3, h4⟩ := h
   obtain ⟨i1, i2⟩ := kl_spec h4
   have na := noA_spec h1
   have nb := noB_spec h2
   refine ⟨fun m k => ?_, fun m k hk => ?_⟩
   · unfold kL iL
     cases hb : Nat.beq a m <;> cases hc : Nat.beq b k <;> simp only [cond_true, cond_false]
     · exact i1 m k
     · have e := Nat.eq_of_beq_eq_true hc
       subst e
       constructor
       · intro h'; rw [(i1 m b).1 h'] at nb; cases nb
       · intro h'; cases h'; simp at hb
     · have e := Nat.eq_of_beq_eq_true hb
       subst e
       constructor
       · intro h'; cases h'; simp at hc
       · intro h'; rw [(i1 a k).2 h'] at na; cases na
     · have e := Nat.eq_of_beq_eq_true hb
       have e' := Nat.eq_of_beq_eq_true hc
       subst e e'; simp
   · unfold kL at hk
     cases hb : Nat.beq a m <;> simp [hb] at hk
     · exact i2 m k hk
     · subst hk; exact Nat.le_of_ble_eq_true h3
theorem klBase_spec {kl : List (Nat × Nat)} : ∀ {nb : Nat}, klBase kl nb = true → ∀ m, m < nb → kL kl m = some m
 | nb + 1, h, m, hm => by
   simp only [klBase, Bool.and_eq_true] at h
   by_cases e : m = nb
   · subst e
     obtain ⟨h1, _⟩ := h
     split at h1
     · rename_i k hk; rw [hk, Nat.eq_of_beq_eq_true h1]
     · cases h1
   · exact klBase_spec h.2 m (by omega)
def allS (st : St) : List (Nat × AV) → Prop
 | [] => True
 | (t, x) :: r => AVle (st.tm t) x ∧ allS st r
def allO (st : St) : List (Nat × MO) → Prop
 | [] => True
 | (m, o) :: r => (match look st.ob m with | some p => MOle p o | none => False) ∧ allO st r
theorem allS_spec {st : St} : ∀ {S : List (Nat × AV)}, allS st S → ∀ t, AVle (st.tm t) (lookT S t)
 | [], _, t => AVle.any _
 | (k, x) :: r, h, t => by
   unfold lookT
   cases hb : Nat.beq k t
   · exact allS_spec h.2 t
   · have e := Nat.eq_of_beq_eq_true hb; subst e; exact h.1
theorem allO_spec {st : St} : ∀ {O : List (Nat × MO)}, allO st O → ∀ m mo', look O m = some mo' → ∃ mo, look st.ob m = some mo ∧ MOle mo mo'
 | [], _, m, mo', h => by cases h
 | (k, o) :: r, h, m, mo', hm => by
   rw [look_cons] at hm
   split at hm
   · rename_i e; subst e; cases hm
     have := h.1
     split at this
     · rename_i p hp; exact ⟨p, hp, this⟩
     · exact this.elim
   · exact allO_spec h.2 m mo' hm
def Ent (nb : Nat) (st : St) (kl : List (Nat × Nat)) (S : List (Nat × AV)) (O : List (Nat × MO)) (nx n : Nat) : Prop :=
 (klOK nx kl && klBase kl nb) = true ∧ n = st.n ∧ allS (st.fz (kL kl) nx) S ∧ allO (st.fz (kL kl) nx) O
theorem Ent.rep {nb : Nat} {st : St} {kl : List (Nat × Nat)} {S : List (Nat × AV)} {O : List (Nat × MO)} {nx n : Nat} (he : Ent nb st kl S O nx n)
 {gb : Nat → Option Gh} {w0 : World} {gr ok0 : Nat → Prop} {g : Nat → Option Gh} {ok : Nat → Prop} {a : Act} {w : World} (hgb : ∀ m, nb ≤ m → gb m = none)
 (h : Rep gb w0 gr ok0 st g ok a w) : ∃ g' ok', Rep gb w0 gr ok0 (mkSt S O nx n) g' ok' a w := by
 obtain ⟨h1, h2, h3, h4⟩ := he
 rw [Bool.and_eq_true] at h1
 obtain ⟨k1, k2⟩ := kl_spec h1.1
 obtain ⟨g', ok', hr, _⟩ := h.fz (kL kl) (iL kl) nx k1 k2 (fun m G hm => klBase_spec h1.2 m (Nat.lt_of_not_le fun hle => by rw [hgb m hle] at hm; cases hm))
 exact ⟨g', ok', hr.weak (allS_spec h3) (allO_spec h4) (Nat.le_refl _) h2⟩
end Go.Vw

