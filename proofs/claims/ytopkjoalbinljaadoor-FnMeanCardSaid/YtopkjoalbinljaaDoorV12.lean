/- Vw12: a part of a tool for walks: what a piece of a Go program does, by abstract values. It holds of every program; no condition. -/
import Derived.Test.YtopkjoalbinljaaDoorV11
import Derived.Deep.AppendSrc
set_option linter.unusedVariables false
set_option linter.unusedSimpArgs false
set_option linter.unusedSectionVars false
namespace Go.Vw
open Go

theorem look_upd {ob : List (Nat × MO)} {m : Nat} {o : MO} : ∀ k, look (upd ob m o) k = if k = m then (look ob m).map (fun _ => o) else look ob k := by
  intro k
  induction ob with
  | nil => simp [upd, look]
  | cons p r ih =>
    obtain ⟨j, q⟩ := p
    unfold upd
    cases hb : Nat.beq j m
    · simp only [cond_false, look_cons]
      rw [ih]
      by_cases h1 : k = m
      · subst h1
        have : ¬ k = j := fun e => by subst e; simp at hb
        simp [this, look, hb]
      · rw [if_neg h1]
        simp [h1]
    · have e := Nat.eq_of_beq_eq_true hb
      subst e
      simp only [cond_true, look_cons]
      by_cases h1 : k = j
      · subst h1; simp
      · simp [h1]

theorem look_del_ne {ob : List (Nat × MO)} {m : Nat} (k : Nat) (h : k ≠ m) : look (del ob m) k = look ob k := by
  induction ob with
  | nil => rfl
  | cons p r ih =>
    obtain ⟨j, q⟩ := p
    unfold del
    cases hb : Nat.beq j m
    · simp only [cond_false, look_cons, ih]
    · have e := Nat.eq_of_beq_eq_true hb
      subst e
      simp [look_cons, h]

/-- taken out for good: every entry of the name -/
def delAll : List (Nat × MO) → Nat → List (Nat × MO)
  | [], _ => []
  | (k, p) :: r, m => bif Nat.beq k m then delAll r m else (k, p) :: delAll r m
theorem look_delAll {ob : List (Nat × MO)} {m : Nat} (k : Nat) : look (delAll ob m) k = if k = m then none else look ob k := by
  induction ob with
  | nil => simp [delAll, look]
  | cons p r ih =>
    obtain ⟨j, q⟩ := p
    unfold delAll
    cases hb : Nat.beq j m
    · simp only [cond_false, look_cons, ih]
      by_cases h1 : k = j
      · subst h1
        have : ¬ k = m := fun e => by subst e; simp at hb
        simp [this]
      · simp [h1]
    · have e := Nat.eq_of_beq_eq_true hb
      subst e
      simp only [cond_true, ih, look_cons]
      by_cases h1 : k = j <;> simp [h1]

theorem one_cell {w : World} {ok : Nat → Prop} {g : Nat → Option Gh} {x : AV} {v : Value} (hx : x.one = true) (h : RV w ok g x v) : v.oneCell' = true := by
  cases x <;> simp only [RV] at h <;> first | (cases hx; done) | skip
  all_goals first
    | (subst h; rfl)
    | (obtain ⟨_, e⟩ := h; subst e; rfl)
    | (obtain ⟨_, _, e⟩ := h; subst e; rfl)
    | (obtain ⟨_, e, _⟩ := h; subst e; rfl)
    | (obtain ⟨_, _, e, _⟩ := h; subst e; rfl)
    | (obtain ⟨_, _, _, _, e⟩ := h; subst e; rfl)
    | (obtain ⟨_, _, _, e⟩ := h; subst e; rfl)

theorem one_cells {w : World} {ok : Nat → Prop} {g : Nat → Option Gh} : ∀ {cs : List AV} {vs : List Value}, cs.all AV.one = true → RVs w ok g cs vs → ∀ v ∈ vs, v.oneCell' = true
  | [], _, _, h, v, hv => by simp only [RVs] at h; subst h; cases hv
  | c :: cs, _, hc, ⟨x, us, e, h1, h2⟩, v, hv => by
    subst e
    simp only [List.all_cons, Bool.and_eq_true] at hc
    rcases List.mem_cons.1 hv with rfl | hv
    · exact one_cell hc.1 h1
    · exact one_cells hc.2 h2 v hv

section
variable {P : Program} {gb : Nat → Option Gh} {w0 : World} {gr ok0 : Nat → Prop} {st : St} {g : Nat → Option Gh} {ok : Nat → Prop} {a : Act} {w : World} {o : Oper}

/-- One object gets another content, in its own block. -/
theorem Rep.write (h : Rep gb w0 gr ok0 st g ok a w) {m : Nat} {mo mo' : MO} {G : Gh} {b : Nat} {w' : World} (hm : look st.ob m = some mo) (hg : g m = some G) (hb : G.b = some b)
    (hs : w'.heap.size = w.heap.size) (hold : ∀ k, k ≠ b → w'.heap[k]? = w.heap[k]?) (h1 : w'.os = w.os) (h2 : w'.tape = w.tape) (h3 : w'.output = w.output) (hr : MRel w' ok g G mo') :
    Rep gb w0 gr ok0 { st with ob := upd st.ob m mo' } g ok a w' := by
  have hok : ∀ k, ok k → w'.heap[k]? = w.heap[k]? := fun k hk => hold k fun e => by subst e; exact (h.obs.okb k hk).2 m mo G hm hg hb
  have hlk : ∀ k p, look (upd st.ob m mo') k = some p → (k = m ∧ p = mo') ∨ (k ≠ m ∧ look st.ob k = some p) := fun k p hk => by
    rw [look_upd] at hk
    split at hk
    · rename_i e; rw [hm] at hk; cases hk; exact .inl ⟨e, rfl⟩
    · rename_i e; exact .inr ⟨e, hk⟩
  have hex : ∀ k p, look (upd st.ob m mo') k = some p → ∃ q, look st.ob k = some q := fun k p hk => by
    rcases hlk k p hk with ⟨rfl, _⟩ | ⟨_, hk⟩
    · exact ⟨_, hm⟩
    · exact ⟨_, hk⟩
  refine ⟨fun t => RV.mono (fun _ h => h) hok g g (fun _ _ h => h) _ _ (h.tm t), ⟨fun k p hk => ?_, fun k k' p p' K K' c hk hk' => ?_, fun c hc => ⟨by rw [hs]; exact (h.obs.okb c hc).1, fun k p K hk hK => ?_⟩, fun k p K c hk => ?_⟩,
    fun k p K c hk => ?_, h.fresh, h.base, ⟨h1.trans h.frm.os, h2.trans h.frm.tape, h3.trans h.frm.output, by rw [hs]; exact h.frm.size, fun k hk hgr => ?_⟩, h.df, h.n, h.okf⟩
  · rcases hlk k p hk with ⟨rfl, rfl⟩ | ⟨hne, hk⟩
    · exact ⟨G, hg, hr⟩
    · obtain ⟨K, hK, hr'⟩ := h.obs.rel k p hk
      exact ⟨K, hK, MRel.mono (fun _ h => h) hok (fun _ _ h => h) (fun c hc => hold c fun e => by subst e; exact hne (h.obs.sep k m p mo K G c hk hm hK hg hc hb)) hr'⟩
  · obtain ⟨q, hq⟩ := hex k p hk
    obtain ⟨q', hq'⟩ := hex k' p' hk'
    exact h.obs.sep k k' q q' K K' c hq hq'
  · obtain ⟨q, hq⟩ := hex k p hk
    exact (h.obs.okb c hc).2 k q K hq hK
  · obtain ⟨q, hq⟩ := hex k p hk
    rw [hs]; exact h.obs.lt k q K c hq
  · obtain ⟨q, hq⟩ := hex k p hk
    exact h.own k q K c hq
  · have hkb : k ≠ b := fun e => by
      subst e
      rcases h.own m mo G k hm hg hb with h' | h'
      · omega
      · exact hgr h'
    rw [hold k hkb]; exact h.frm.old k hk hgr

/-- What a store does: to a variable in memory. -/
def stAV (P : Program) (st : St) (t : TypeId) (x y : AV) : Option St :=
  match tyI P t, x with
  | some (_, n), .bptr m off => match look st.ob m with
    | some (.box cs) => fN n fun n => bif (y.isVal && y.cells.all AV.one) && (Nat.beq y.cells.length n && Nat.ble (off + n) cs.length) then
        fL (cs.take off ++ y.cells ++ cs.drop (off + n)) fun l => some { st with ob := upd st.ob m (.box l) } else none
    | _ => none
  | some (_, n), .aptr m sz i off => match look st.ob m with
    | some (.arr e sz' k rows) => fN n fun n => fN (off + n) fun o2 => bif (y.isVal && (y.cells.all AV.one && y.cells.all AV.nameless)) && (Nat.beq y.cells.length n && (Nat.beq sz sz' && Nat.ble o2 sz)) then
        fL y.cells fun ys => some { st with ob := upd st.ob m (.arr e sz' k fun j => bif Nat.beq j i then (rows j).take off ++ ys ++ (rows j).drop o2 else rows j) } else none
    | _ => none
  | _, _ => none

theorem run_storeVar_cells {t : TypeId} {ag : Bool} {b off : Nat} {v : Value} {cur : Array Value} {ty : TypeId} (ht : tyI P t = some (ag, v.cells.size)) (hh : w.heap[b]? = some (.cells cur ty (0, 0)))
    (hle : off + v.cells.size ≤ cur.size) (h1 : ∀ u ∈ v.cells.toList, u.oneCell' = true) :
    (storeVar t ⟨b, off, none⟩ v).run P w = .ok () (w.setRow b (cur.toList.take off ++ v.cells.toList ++ cur.toList.drop (off + v.cells.size)).toArray) := by
  have hs := (tyI_spec (w := w) ht).1
  have := run_storeCells_at (P := P) b off ty v.cells.toList 0 cur w hh (by simpa using hle) h1
  simp only [Nat.add_zero, Array.length_toList] at this
  simp [storeVar, hs, this]

theorem store_rep (h : Rep gb w0 gr ok0 st g ok a w) {t : TypeId} {x y : Operand} {st' : St} (hop : o.op = .store t x y) (hp : stAV P st t (st.ev x) (st.ev y) = some st') :
    ∃ w', (execOp a.eval o).run P w = .ok .skip w' ∧ Rep gb w0 gr ok0 st' g ok a w' := by
  unfold stAV at hp
  simp only [fL_eq, fN_eq] at hp
  split at hp
  · rename_i ag n m off ht hx
    split at hp
    · rename_i cs hlk
      cases hc : ((st.ev y).isVal && (st.ev y).cells.all AV.one) && (Nat.beq (st.ev y).cells.length n && Nat.ble (off + n) cs.length) <;> simp [hc] at hp
      subst hp
      simp only [Bool.and_eq_true, Nat.ble_eq] at hc
      obtain ⟨⟨hc1, hc2⟩, hc3, hc4⟩ := hc
      have hex := h.ev x
      have hey := h.ev y
      rw [hx] at hex
      obtain ⟨G, b, hg, hb, hv⟩ := hex
      obtain ⟨G', hg', b', vs, ty, hb', hh, hvs⟩ := h.obs.rel m _ hlk
      rw [hg] at hg'; cases hg'
      rw [hb] at hb'; cases hb'
      have hy := cells_isVal hc1 hey
      have hyl := hy.length
      have hn := Nat.eq_of_beq_eq_true hc3
      have hsz : (a.eval y).cells.size = n := by rw [← Array.length_toList]; omega
      have hvl := hvs.length
      have hrun := run_storeVar_cells (P := P) (w := w) (off := off) (v := a.eval y) (by rw [hsz]; exact ht) hh (by rw [hsz]; simp; omega) (one_cells hc2 hy)
      rw [hsz] at hrun
      have hrun' : (storeVar t ⟨b, off, none⟩ (a.eval y)).run P w = .ok () (w.setRow b (vs.take off ++ (a.eval y).cells.toList ++ vs.drop (off + n)).toArray) := hrun
      have hnew := setRow_heap w b vs.toArray (vs.take off ++ (a.eval y).cells.toList ++ vs.drop (off + n)).toArray ty (0, 0) hh
      have hother := fun k (hk : k ≠ b) => setRow_other w b k (vs.take off ++ (a.eval y).cells.toList ++ vs.drop (off + n)).toArray hk
      have e1 : (w.setRow b (vs.take off ++ (a.eval y).cells.toList ++ vs.drop (off + n)).toArray).heap.size = w.heap.size := by simp
      have e2 : (w.setRow b (vs.take off ++ (a.eval y).cells.toList ++ vs.drop (off + n)).toArray).os = w.os := rfl
      have e3 : (w.setRow b (vs.take off ++ (a.eval y).cells.toList ++ vs.drop (off + n)).toArray).tape = w.tape := rfl
      have e4 : (w.setRow b (vs.take off ++ (a.eval y).cells.toList ++ vs.drop (off + n)).toArray).output = w.output := rfl
      generalize w.setRow b (vs.take off ++ (a.eval y).cells.toList ++ vs.drop (off + n)).toArray = W at *
      refine ⟨W, by simp [execOp, hop, hv, Instr.storeAt, Instr.sureAddr, hrun'], h.write hlk hg hb e1 hother e2 e3 e4 ?_⟩
      have hokc : ∀ c, ok c → W.heap[c]? = w.heap[c]? := fun c hc => hother c fun e => by subst e; exact (h.obs.okb c hc).2 m _ G hlk hg hb
      exact ⟨b, _, ty, hb, hnew, RVs.mono (fun _ h => h) hokc g g (fun _ _ h => h) _ _ (by rw [← List.append_assoc]; exact ((hvs.take off).append hy).append (hvs.drop (off + n)))⟩
    · cases hp
  · rename_i ag n m sz i off ht hx
    split at hp
    · rename_i e sz' k rows hlk
      cases hc : ((st.ev y).isVal && ((st.ev y).cells.all AV.one && (st.ev y).cells.all AV.nameless)) && (Nat.beq (st.ev y).cells.length n && (Nat.beq sz sz' && Nat.ble (off + n) sz)) <;> simp [hc] at hp
      subst hp
      simp only [Bool.and_eq_true, Nat.ble_eq] at hc
      obtain ⟨⟨hc1, hc2, hcn⟩, hc3, hc0, hc4⟩ := hc
      have e0 := Nat.eq_of_beq_eq_true hc0
      subst e0
      have hex := h.ev x
      have hey := h.ev y
      rw [hx] at hex
      obtain ⟨G, b, hg, ⟨hb, hin⟩, hv⟩ := hex
      obtain ⟨G', hg', hGn, hr⟩ := h.obs.rel m _ hlk
      rw [hg] at hg'; cases hg'
      rcases hr with ⟨hb', _, _⟩ | ⟨b', cur, hb', hh, hkc, hmax, hsz, hrow⟩
      · rw [hb] at hb'; cases hb'
      rw [hb] at hb'; cases hb'
      have hy := cells_isVal hc1 hey
      have hyl := hy.length
      have hn := Nat.eq_of_beq_eq_true hc3
      have hszn : (a.eval y).cells.size = n := by rw [← Array.length_toList]; omega
      have hmul : ∀ p q : Nat, p < q → p * sz + sz ≤ q * sz := fun p q hpq => by
        have := Nat.mul_le_mul_right sz (show p + 1 ≤ q from hpq)
        rw [Nat.add_mul, Nat.one_mul] at this; exact this
      have hmi := hmul i G.c (by omega)
      have hrun := run_storeVar_cells (P := P) (w := w) (off := i * sz + off) (v := a.eval y) (by rw [hszn]; exact ht) hh (by rw [hszn]; omega) (one_cells hc2 hy)
      rw [hszn] at hrun
      generalize hrowdef : (cur.toList.take (i * sz + off) ++ (a.eval y).cells.toList ++ cur.toList.drop (i * sz + off + n)) = new at hrun
      have hnewlen : new.length = cur.size := by
        rw [← hrowdef]
        simp only [List.length_append, List.length_take, List.length_drop, Array.length_toList]
        omega
      have hnew := setRow_heap w b cur new.toArray e (0, 0) hh
      have hother := fun k (hk : k ≠ b) => setRow_other w b k new.toArray hk
      have e1 : (w.setRow b new.toArray).heap.size = w.heap.size := by simp
      have e2 : (w.setRow b new.toArray).os = w.os := rfl
      have e3 : (w.setRow b new.toArray).tape = w.tape := rfl
      have e4 : (w.setRow b new.toArray).output = w.output := rfl
      generalize w.setRow b new.toArray = W at *
      refine ⟨W, by simp [execOp, hop, hv, Instr.storeAt, Instr.sureAddr, hrun], h.write hlk hg hb e1 hother e2 e3 e4 ?_⟩
      have hokc : ∀ c, ok c → W.heap[c]? = w.heap[c]? := fun c hc => hother c fun e => by subst e; exact (h.obs.okb c hc).2 m _ G hlk hg hb
      refine ⟨hGn, .inr ⟨b, _, hb, hnew, hkc, hmax, by simp [hnewlen, hsz], fun j hj => ?_⟩⟩
      obtain ⟨vs, k1, k2, k3⟩ := hrow j hj
      have hget : ∀ p, new[p]? = if p < i * sz + off then cur[p]? else if p < i * sz + off + n then (a.eval y).cells[p - (i * sz + off)]? else cur[p]? := fun p => by
        have hl1 : (cur.toList.take (i * sz + off)).length = i * sz + off := by simp; omega
        rw [← hrowdef, List.append_assoc]
        split
        · rename_i h1
          rw [List.getElem?_append_left (by omega), List.getElem?_take, if_pos h1]; simp
        · rename_i h1
          rw [List.getElem?_append_right (by omega), hl1]
          split
          · rename_i h2
            rw [List.getElem?_append_left (by simp; omega)]; simp
          · rename_i h2
            rw [List.getElem?_append_right (by simp; omega), List.getElem?_drop]
            simp only [Array.length_toList, hszn, Array.getElem?_toList]
            congr 1; omega
      cases hji : Nat.beq j i
      · have hne : j ≠ i := fun e => by subst e; simp at hji
        refine ⟨vs, k1, (by have h' := RVs.mono (fun _ h => h) hokc G0 G0 (fun _ _ h => h) _ _ k2; dsimp only; rw [hji]; exact h'), fun q hq => ?_⟩
        rw [← k3 q hq]
        simp only [List.getElem?_toArray]
        rw [hget]
        rcases Nat.lt_or_gt_of_ne hne with hlt | hgt
        · have := hmul j i hlt
          rw [if_pos (by omega)]
        · have := hmul i j hgt
          rw [if_neg (by omega), if_neg (by omega)]
      · have e := Nat.eq_of_beq_eq_true hji
        subst e
        have hy0 := RVs_nameless hcn hy
        refine ⟨vs.take off ++ (a.eval y).cells.toList ++ vs.drop (off + n), by simp; omega, (by have h' := RVs.mono (fun _ h => h) hokc G0 G0 (fun _ _ h => h) _ _ (((k2.take off).append hy0).append (k2.drop (off + n))); dsimp only; rw [hji, cond_true, ← List.append_assoc]; exact h'), fun q hq => ?_⟩
        simp only [List.getElem?_toArray]
        rw [hget, List.append_assoc]
        have hl1 : (vs.take off).length = off := by simp; omega
        split
        · rename_i h1
          rw [List.getElem?_append_left (by omega), List.getElem?_take, if_pos (by omega), k3 q hq]
        · rename_i h1
          rw [List.getElem?_append_right (by omega), hl1]
          split
          · rename_i h2
            rw [List.getElem?_append_left (by simp; omega)]
            simp only [Array.getElem?_toList]
            congr 1; omega
          · rename_i h2
            rw [List.getElem?_append_right (by simp; omega), List.getElem?_drop, k3 q hq]
            simp only [Array.length_toList, hszn]
            congr 1; omega
    · cases hp
  · cases hp

/-- What a map's update does, its values being true. -/
def mupAV (P : Program) (st : St) (t : TypeId) (x k v : AV) : Option St :=
  match P.underlying t, x, v with
  | some (.map kt _), .omap m, .bool true => (match P.underlying kt, look st.ob m, k with
    | some (.int .i64), some (.imap ks), .int .i64 n => some { st with ob := upd st.ob m (.imap (if n ∈ ks then ks else ks ++ [n])) }
    | some .string, some (.smap ks), .str s => some { st with ob := upd st.ob m (.smap (if s.data.toList ∈ ks then ks else ks ++ [s.data.toList])) }
    | _, _, _ => none)
  | _, _, _ => none

theorem mapUpdate_run {t k e : TypeId} {x i y : Operand} {b cl : Nat} {es : Array MapEntry} {d : TypeDesc} {kv : Value} (hop : o.op = .mapUpdate t x i y ∨ o.op = .insert t x i y) (hu : P.underlying t = some (.map k e))
    (hd : P.underlying k = some d) (hv : a.eval x = .map (some b)) (hi : a.eval i = kv) (hy : a.eval y = .bool true) (hh : w.heap[b]? = some (.map es cl)) (hk : MapKept.IsKey d kv) (hks : ∀ x ∈ es.toList, MapKept.IsKey d x.key)
    (hval : ∀ x ∈ es.toList, x.val = .bool true) : ∃ es' cl' w', (execOp a.eval o).run P w = .ok .skip w' ∧ w'.heap[b]? = some (.map es' cl') ∧ w'.heap.size = w.heap.size ∧ (∀ k, k ≠ b → w'.heap[k]? = w.heap[k]?) ∧
      w'.os = w.os ∧ w'.tape = w.tape ∧ w'.output = w.output ∧ (∀ x ∈ es'.toList, x.val = .bool true) ∧ ((kv ∈ es.toList.map (·.key) ∧ es'.toList.map (·.key) = es.toList.map (·.key)) ∨ (¬ kv ∈ es.toList.map (·.key) ∧ es'.toList.map (·.key) = es.toList.map (·.key) ++ [kv])) := by
  have hu' := run_underlying (w := w) hu
  have hg := MapKept.run_getObj_map (P := P) hh
  rcases MapKept.findNow_spec hk es.toList 0 hks with ⟨h1, h2⟩ | ⟨j, z, h1, h2, h3⟩
  · have hno : ¬ kv ∈ es.toList.map (·.key) := fun hh => by
      obtain ⟨y, hy, e⟩ := List.mem_map.1 hh
      exact h2 y hy e
    refine ⟨es.push { key := kv, val := .bool true, born := cl }, cl + 1, { w with heap := w.heap.setIfInBounds b (.map (es.push { key := kv, val := .bool true, born := cl }) (cl + 1)) }, ?_, (MapKept.heap_set hh).1, by simp, (MapKept.heap_set hh).2, rfl, rfl, rfl, ?_, ?_⟩
    · rcases hop with hop | hop <;> simp [execOp, hop, hv, hi, hy, Instr.mapUpdate, hu', hg, MapKept.run_checkKey hd hk, MapKept.run_findKey hd h1, MapKept.run_setObj_map _ hh]
    · intro x hx
      simp only [Array.toList_push, List.mem_append, List.mem_singleton] at hx
      rcases hx with hx | rfl
      · exact hval x hx
      · rfl
    · exact .inr ⟨hno, by simp⟩
  · have hj : es[j]? = some z := by simpa using h2
    have hyes : kv ∈ es.toList.map (·.key) := List.mem_map.2 ⟨z, List.mem_of_getElem? h2, h3⟩
    refine ⟨es.modify j (fun e => { e with key := kv, val := .bool true }), cl, { w with heap := w.heap.setIfInBounds b (.map (es.modify j (fun e => { e with key := kv, val := .bool true })) cl) }, ?_, (MapKept.heap_set hh).1, by simp, (MapKept.heap_set hh).2, rfl, rfl, rfl, ?_, ?_⟩
    · rcases hop with hop | hop <;> simp [execOp, hop, hv, hi, hy, Instr.mapUpdate, hu', hg, MapKept.run_checkKey hd hk, MapKept.run_findKey hd h1, hj, h3, MapKept.run_keyThatStays hk, MapKept.run_setObj_map _ hh]
    · intro x hx
      have hx' := Array.mem_toList_iff.1 hx
      obtain ⟨q, hq⟩ := Array.mem_iff_getElem?.1 hx'
      rw [Array.getElem?_modify] at hq
      split at hq
      · cases he : es[q]? with
        | none => simp [he] at hq
        | some e => simp [he] at hq; rw [← hq]
      · exact hval x (by simpa using Array.mem_of_getElem? hq)
    · refine .inl ⟨hyes, MapKept.modify_keys _ _ fun e he => ?_⟩
      rw [hj] at he; cases he; exact h3.symm

theorem mapUpd_rep (h : Rep gb w0 gr ok0 st g ok a w) {t : TypeId} {x k y : Operand} {st' : St} (hop : o.op = .mapUpdate t x k y ∨ o.op = .insert t x k y) (hp : mupAV P st t (st.ev x) (st.ev k) (st.ev y) = some st') :
    ∃ w', (execOp a.eval o).run P w = .ok .skip w' ∧ Rep gb w0 gr ok0 st' g ok a w' := by
  unfold mupAV at hp
  have hex := h.ev x
  have hek := h.ev k
  have hey := h.ev y
  split at hp
  · rename_i kt et m hu he1 he2
    rw [he1] at hex; rw [he2] at hey
    obtain ⟨G, b, hg, hb, hv⟩ := hex
    have hy : a.eval y = .bool true := hey
    split at hp <;> cases hp
    · rename_i ks n hd hlk hk
      rw [hk] at hek
      have hkv : a.eval k = .int .i64 n := hek
      obtain ⟨G', hg', b', es, cl, hb', hh, hks, hnd, hval⟩ := h.obs.rel m _ hlk
      rw [hg] at hg'; cases hg'
      rw [hb] at hb'; cases hb'
      obtain ⟨es', cl', w', r1, r2, r3, r4, r5, r6, r7, r8, r9⟩ := mapUpdate_run (P := P) (kv := .int .i64 n) hop hu hd hv hkv hy hh (by simp [MapKept.IsKey]) (fun x hx => by
        have : x.key ∈ es.toList.map (·.key) := List.mem_map.2 ⟨x, hx, rfl⟩
        rw [hks] at this
        obtain ⟨y, _, e⟩ := List.mem_map.1 this
        rw [← e]; simp [MapKept.IsKey]) hval
      refine ⟨w', r1, h.write hlk hg hb r3 r4 r5 r6 r7 ⟨b, es', cl', hb, r2, ?_, ?_, r8⟩⟩
      · rw [hks] at r9
        rcases r9 with ⟨q1, q2⟩ | ⟨q1, q2⟩
        · have hn : n ∈ ks := by obtain ⟨z, hz, e⟩ := List.mem_map.1 q1; cases e; exact hz
          rw [if_pos hn]; exact q2
        · have hn : ¬ n ∈ ks := fun h => q1 (List.mem_map.2 ⟨n, h, rfl⟩)
          rw [if_neg hn, q2]; simp
      · split
        · exact hnd
        · rename_i hn
          exact List.nodup_append.2 ⟨hnd, by simp, fun p hp q hq => by simp at hq; subst hq; exact fun e => hn (e ▸ hp)⟩
    · rename_i ks n hd hlk hk
      rw [hk] at hek
      have hkv : a.eval k = .string n := hek
      obtain ⟨G', hg', b', es, cl, hb', hh, hks, hnd, hval⟩ := h.obs.rel m _ hlk
      rw [hg] at hg'; cases hg'
      rw [hb] at hb'; cases hb'
      obtain ⟨es', cl', w', r1, r2, r3, r4, r5, r6, r7, r8, r9⟩ := mapUpdate_run (P := P) (kv := .string n) hop hu hd hv hkv hy hh (by simp [MapKept.IsKey]) (fun x hx => by
        have : x.key ∈ es.toList.map (·.key) := List.mem_map.2 ⟨x, hx, rfl⟩
        rw [hks] at this
        obtain ⟨y, _, e⟩ := List.mem_map.1 this
        rw [← e]; simp [MapKept.IsKey]) hval
      refine ⟨w', r1, h.write hlk hg hb r3 r4 r5 r6 r7 ⟨b, es', cl', hb, r2, ?_, ?_, r8⟩⟩
      · rw [hks] at r9
        rcases r9 with ⟨q1, q2⟩ | ⟨q1, q2⟩
        · have hn : n.data.toList ∈ ks := by obtain ⟨z, hz, e⟩ := List.mem_map.1 q1; cases e; simpa using hz
          rw [if_pos hn]; exact q2
        · have hn : ¬ n.data.toList ∈ ks := fun h => q1 (List.mem_map.2 ⟨_, h, by simp⟩)
          rw [if_neg hn, q2]; simp
      · split
        · exact hnd
        · rename_i hn
          exact List.nodup_append.2 ⟨hnd, by simp, fun p hp q hq => by simp at hq; subst hq; exact fun e => hn (e ▸ hp)⟩
  · cases hp
end
end Go.Vw
