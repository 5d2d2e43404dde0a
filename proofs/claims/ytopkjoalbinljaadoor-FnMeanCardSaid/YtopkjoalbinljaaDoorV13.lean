/- Vw13: a part of a tool for walks: what a piece of a Go program does, by abstract values. It holds of every program; no condition. -/
import Derived.Test.YtopkjoalbinljaaDoorV12
set_option linter.unusedVariables false
set_option linter.unusedSimpArgs false
set_option linter.unusedSectionVars false
namespace Go.Vw
open Go

def delO (ob : List (Nat × MO)) (m : Option Nat) : List (Nat × MO) := match m with | some k => delAll ob k | none => ob
theorem look_set_del {ob : List (Nat × MO)} {m nm : Nat} {mo : MO} (k : Nat) : look ((nm, mo) :: delAll ob m) k = if k = nm then some mo else if k = m then none else look ob k := by
  rw [look_cons, look_delAll]

/-- rows as one list of cells -/
def flat (n : Nat) (c : Nat → List Value) : List Value := (List.range n).flatMap c

theorem flat_get (sz : Nat) (c : Nat → List Value) : ∀ (n : Nat), (∀ i, i < n → (c i).length = sz) → (flat n c).length = n * sz ∧ ∀ i j, i < n → j < sz → (flat n c)[i * sz + j]? = (c i)[j]?
  | 0, _ => ⟨by simp [flat], fun i j h => by omega⟩
  | n + 1, h => by
    obtain ⟨h1, h2⟩ := flat_get sz c n fun i hi => h i (by omega)
    have e : flat (n + 1) c = flat n c ++ c n := by simp [flat, List.range_succ]
    have hn := h n (by omega)
    refine ⟨by rw [e, List.length_append, h1, hn, Nat.add_mul, Nat.one_mul], fun i j hi hj => ?_⟩
    rw [e, List.getElem?_append, h1]
    by_cases hin : i < n
    · rw [if_pos (by calc i * sz + j < i * sz + sz := by omega
        _ = (i + 1) * sz := by rw [Nat.add_mul, Nat.one_mul]
        _ ≤ n * sz := Nat.mul_le_mul_right _ hin)]
      exact h2 i j hin hj
    · have : i = n := by omega
      subst this
      rw [if_neg (by omega)]
      congr 1; omega

section
variable {P : Program} {gb : Nat → Option Gh} {w0 : World} {gr ok0 : Nat → Prop} {st : St} {g : Nat → Option Gh} {ok : Nat → Prop} {a : Act} {w : World} {o : Oper}

/-- One object goes (or none), another comes, in its block or a new one (or none at all). -/
theorem Rep.swap (h : Rep gb w0 gr ok0 st g ok a w) {m : Option Nat} {mo' : MO} {G' : Gh} {w' : World}
    (hblk : ∀ b, G'.b = some b → (w.heap.size ≤ b ∧ b < w'.heap.size) ∨ ∃ k mo G, m = some k ∧ look st.ob k = some mo ∧ g k = some G ∧ G.b = some b)
    (hs : w.heap.size ≤ w'.heap.size) (hold : ∀ k, k < w.heap.size → (∀ x mo G, m = some x → look st.ob x = some mo → g x = some G → G.b ≠ some k) → w'.heap[k]? = w.heap[k]?)
    (h1 : w'.os = w.os) (h2 : w'.tape = w.tape) (h3 : w'.output = w.output) (hr : MRel w' ok (gset g st.next G') G' mo') :
    Rep gb w0 gr ok0 { st with ob := (st.next, mo') :: delO st.ob m, next := st.next + 1 } (gset g st.next G') ok a w' := by
  have hnm : g st.next = none := h.fresh _ (Nat.le_refl _)
  have hle := gset_le (G := G') hnm
  have hlk : ∀ k p, look ((st.next, mo') :: delO st.ob m) k = some p → (k = st.next ∧ p = mo') ∨ (k ≠ st.next ∧ m ≠ some k ∧ look st.ob k = some p) := fun k p hk => by
    cases m with
    | none =>
      simp only [delO] at hk
      rw [look_cons] at hk
      split at hk
      · rename_i e; cases hk; exact .inl ⟨e, rfl⟩
      · rename_i e; exact .inr ⟨e, by simp, hk⟩
    | some x =>
      simp only [delO] at hk
      rw [look_set_del] at hk
      split at hk
      · rename_i e; cases hk; exact .inl ⟨e, rfl⟩
      · rename_i e
        split at hk
        · cases hk
        · rename_i e'; exact .inr ⟨e, fun e => by cases e; exact e' rfl, hk⟩
  have hother : ∀ k K, k ≠ st.next → (gset g st.next G' k = some K ↔ g k = some K) := fun k K hk => by unfold gset; rw [if_neg hk]
  have hsame : ∀ K, gset g st.next G' st.next = some K → K = G' := fun K hk => by rw [gset_same] at hk; cases hk; rfl
  -- blocks of what stays are as they were
  have hokk : ∀ b, ok b → w'.heap[b]? = w.heap[b]? := fun b hb => hold b (h.obs.okb b hb).1 fun x mo G _ hx hg => (h.obs.okb b hb).2 x mo G hx hg
  have hkeep : ∀ k p K b, m ≠ some k → look st.ob k = some p → g k = some K → K.b = some b → w'.heap[b]? = w.heap[b]? := fun k p K b hne hk hK hb =>
    hold b (h.obs.lt k p K b hk hK hb) fun x mo G hx hlx hg hgb => hne (by rw [hx, h.obs.sep x k mo p G K b hlx hk hg hK hgb hb])
  have hnewb : ∀ k p K b, k ≠ st.next → m ≠ some k → look st.ob k = some p → g k = some K → K.b = some b → G'.b ≠ some b := fun k p K b _ hne hk hK hb e => by
    rcases hblk b e with ⟨h', _⟩ | ⟨x, mo, G, hx, hlx, hg, hgb⟩
    · have := h.obs.lt k p K b hk hK hb; omega
    · exact hne (by rw [hx, h.obs.sep x k mo p G K b hlx hk hg hK hgb hb])
  refine ⟨fun t => RV.mono (fun _ h => h) hokk g _ hle _ _ (h.tm t), ⟨fun k p hk => ?_, fun k k' p p' K K' c hk hk' q1 q2 q3 q4 => ?_, fun c hc => ⟨Nat.lt_of_lt_of_le (h.obs.okb c hc).1 hs, fun k p K hk hK => ?_⟩, fun k p K c hk hK hc => ?_⟩,
    fun k p K c hk hK hc => ?_, fun k hk => ?_, fun k K hK => hle k K (h.base k K hK), ⟨h1.trans h.frm.os, h2.trans h.frm.tape, h3.trans h.frm.output, Nat.le_trans h.frm.size hs, fun k hk hgr => ?_⟩, h.df, h.n, h.okf⟩
  · rcases hlk k p hk with ⟨rfl, rfl⟩ | ⟨hne, hnm', hk⟩
    · exact ⟨G', gset_same, hr⟩
    · obtain ⟨K, hK, hr'⟩ := h.obs.rel k p hk
      exact ⟨K, hle k K hK, MRel.mono (fun _ h => h) hokk hle (fun b hb => hkeep k p K b hnm' hk hK hb) hr'⟩
  · rcases hlk k p hk with ⟨e1, e2⟩ | ⟨hne, hn1, hk1⟩ <;> rcases hlk k' p' hk' with ⟨e3, e4⟩ | ⟨hne', hn2, hk2⟩
    · rw [e1, e3]
    · subst e1; cases hsame _ q1
      exact absurd q3 (hnewb k' p' K' c hne' hn2 hk2 ((hother _ _ hne').1 q2) q4)
    · subst e3; cases hsame _ q2
      exact absurd q4 (hnewb k p K c hne hn1 hk1 ((hother _ _ hne).1 q1) q3)
    · exact h.obs.sep k k' p p' K K' c hk1 hk2 ((hother _ _ hne).1 q1) ((hother _ _ hne').1 q2) q3 q4
  · rcases hlk k p hk with ⟨rfl, rfl⟩ | ⟨hne, hnm', hk⟩
    · cases hsame _ hK
      intro e
      rcases hblk c e with ⟨h', _⟩ | ⟨x, mo, G, hx, hlx, hg, hgb⟩
      · have := (h.obs.okb c hc).1; omega
      · exact (h.obs.okb c hc).2 x mo G hlx hg hgb
    · exact (h.obs.okb c hc).2 k p K hk ((hother _ _ hne).1 hK)
  · rcases hlk k p hk with ⟨rfl, rfl⟩ | ⟨hne, hnm', hk⟩
    · cases hsame _ hK
      rcases hblk c hc with ⟨_, h'⟩ | ⟨x, mo, G, hx, hlx, hg, hgb⟩
      · exact h'
      · exact Nat.lt_of_lt_of_le (h.obs.lt x mo G c hlx hg hgb) hs
    · exact Nat.lt_of_lt_of_le (h.obs.lt k p K c hk ((hother _ _ hne).1 hK) hc) hs
  · rcases hlk k p hk with ⟨rfl, rfl⟩ | ⟨hne, hnm', hk⟩
    · cases hsame _ hK
      rcases hblk c hc with ⟨h', _⟩ | ⟨x, mo, G, hx, hlx, hg, hgb⟩
      · exact .inl (Nat.le_trans h.frm.size h')
      · exact h.own x mo G c hlx hg hgb
    · exact h.own k p K c hk ((hother _ _ hne).1 hK) hc
  · have hm' : st.next + 1 ≤ k := hk
    unfold gset
    rw [if_neg (by omega)]
    exact h.fresh k (by omega)
  · rw [hold k (Nat.lt_of_lt_of_le hk h.frm.size) fun x mo G hx hlx hg hgb => ?_]
    · exact h.frm.old k hk hgr
    · rcases h.own x mo G k hlx hg hgb with h' | h'
      · omega
      · exact hgr h'

/-- the first argument of an append: name (none: nil), cells of an element, length, rows -/
def dstAV (P : Program) (st : St) (e : TypeId) (x : AV) : Option (Option Nat × Nat × Nat × (Nat → List AV)) :=
  match x with
  | .osl m => match look st.ob m with | some (.arr e' sz n rows) => bif Nat.beq e' e then some (some m, sz, n, rows) else none | _ => none
  | .nilsl => some (none, P.cellsOf e, 0, fun _ => [])
  | _ => none
/-- what is appended -/
def srcAV (P : Program) (st : St) (t : TypeId) (y : AV) : Option (Nat × Nat × (Nat → List AV)) :=
  match P.underlying t with
  | some (.slice _) => rowsOf (look st.ob) y
  | some .string => match y with | .str s => some (1, s.size, fun i => [.int .u8 (s.data.toList.getD i 0).toNat]) | _ => none
  | _ => none
def appRows (n : Nat) (r1 r2 : Nat → List AV) : Nat → List AV := fun i => bif Nat.blt i n then r1 i else r2 (i - n)

structure AppOut where
  pre : Prop
  st : St

def appAV (P : Program) (st : St) (t tx : TypeId) (x y : AV) : Option AppOut :=
  match elemOf? P t with
  | some e => match zeroAV P e, dstAV P st e x, srcAV P st tx y with
    | some z, some (m, sz, n, r1), some (sz2, k, r2) =>
      fN (P.bytesOf e) fun bo => bif (Nat.beq sz (P.cellsOf e) && Nat.beq z.length sz) && (Nat.ble 1 sz && Nat.ble 1 bo) && (Nat.beq k 0 || Nat.beq sz2 sz) then
        some ⟨(n + k) * bo ≤ 140737488355328 ∧ ∀ i, i < k → (r2 i).all AV.one = true, { st with ob := (st.next, .arr e sz (n + k) (appRows n r1 r2)) :: delO st.ob m, next := st.next + 1 }⟩
      else none
    | _, _, _ => none
  | none => none

theorem srcAV_spec (h : Rep gb w0 gr ok0 st g ok a w) {t : TypeId} {y : Operand} {sz2 k sz : Nat} {r2 : Nat → List AV} (hs : srcAV P st t (st.ev y) = some (sz2, k, r2)) (hz : k = 0 ∨ sz2 = sz) (h1 : ∀ i, i < k → (r2 i).all AV.one = true) :
    ∃ c : Nat → List Value, (∀ i, i < k → (c i).length = sz ∧ RVs w ok G0 (r2 i) (c i)) ∧ Src P sz t (a.eval y) k (flat k c) w := by
  have hy := h.ev y
  have hob : ∀ m mo G, look st.ob m = some mo → g m = some G → MRel w ok g G mo := fun m mo G hm hg => by
    obtain ⟨K, hK, hr⟩ := h.obs.rel m mo hm
    rw [hg] at hK; cases hK; exact hr
  unfold srcAV at hs
  split at hs
  · rename_i e hu
    obtain ⟨A, cp, hv, hn, hr⟩ := rowsOf_spec hs hy hob
    rcases Nat.eq_zero_or_pos k with h0 | hpos
    · subst h0
      refine ⟨fun _ => [], fun i hi => by omega, ?_⟩
      cases A with
      | none => rw [hv]; exact Src.ofNil w hu cp
      | some ad => rw [hv]; exact Src.ofSlice w hu ad 0 cp [] (by simp) (by simp) (by simp)
    · rcases hr with hr | ⟨b, o', hA, hr⟩
      · omega
      have hsz : sz2 = sz := hz.resolve_left (by omega)
      subst hsz
      have : ∃ c : Nat → List Value, ∀ i, i < k → (c i).length = sz2 ∧ RVs w ok G0 (r2 i) (c i) ∧ ∀ j, j < sz2 → w.cell? ⟨b, o' + (i * sz2 + j), none⟩ = (c i)[j]? :=
        ⟨fun i => if h : i < k then (hr i h).choose else [], fun i hi => by simp only [hi, dif_pos]; exact (hr i hi).choose_spec⟩
      obtain ⟨c, hc⟩ := this
      obtain ⟨f1, f2⟩ := flat_get sz2 c k fun i hi => (hc i hi).1
      refine ⟨c, fun i hi => ⟨(hc i hi).1, (hc i hi).2.1⟩, ?_⟩
      rw [hv, hA]
      refine Src.ofSlice w hu _ k cp _ f1 (fun j u hu => ?_) (fun u hu => ?_)
      · have hj : j < k * sz2 := by
          rcases Nat.lt_or_ge j (k * sz2) with h | h
          · exact h
          · rw [List.getElem?_eq_none (by omega)] at hu; cases hu
        have hs0 : 0 < sz2 := by rcases Nat.eq_zero_or_pos sz2 with e | e; (subst e; simp at hj); exact e
        have e1 : j / sz2 < k := (Nat.div_lt_iff_lt_mul hs0).2 hj
        have e2 : j % sz2 < sz2 := Nat.mod_lt _ hs0
        have e3 : j / sz2 * sz2 + j % sz2 = j := by rw [Nat.mul_comm]; exact Nat.div_add_mod j sz2
        rw [add_off, ← e3, (hc _ e1).2.2 _ e2, ← f2 _ _ e1 e2, e3, hu]
      · obtain ⟨i, hi, hu'⟩ := List.mem_flatMap.1 hu
        have hi' := List.mem_range.1 hi
        exact one_cells (h1 i hi') (hc i hi').2.1 u hu'
  · rename_i hu
    split at hs <;> cases hs
    rename_i s he
    rw [he] at hy
    simp only [RV] at hy
    rw [hy]
    refine ⟨fun i => [.int .u8 (s.data.toList.getD i 0).toNat], fun i hi => ?_, ?_⟩
    · rcases hz with h0 | hz
      · omega
      · subst hz; exact ⟨rfl, _, _, rfl, rfl, rfl⟩
    · have e : flat s.size (fun i => [Value.int .u8 (s.data.toList.getD i 0).toNat]) = byteCells s := by
        apply List.ext_getElem?
        intro j
        obtain ⟨f1, f2⟩ := flat_get 1 (fun i => [Value.int .u8 (s.data.toList.getD i 0).toNat]) s.size (fun _ _ => rfl)
        by_cases hj : j < s.size
        · have := f2 j 0 hj (by omega)
          simp only [Nat.mul_one, Nat.add_zero, List.getElem?_cons_zero] at this
          rw [this]
          have hj' : j < s.data.toList.length := by simpa using hj
          simp [byteCells, List.getD, List.getElem?_eq_getElem hj']
        · rw [List.getElem?_eq_none (by omega), List.getElem?_eq_none (by rw [byteCells_length]; omega)]
      rw [e]
      rcases hz with h0 | hz
      · have : s.size = 0 := h0
        have hb : byteCells s = [] := List.eq_nil_of_length_eq_zero (by rw [byteCells_length]; exact this)
        have := Src.ofString (P := P) w hu s
        refine ⟨this.kind, this.len, ?_, ?_, by rw [hb, h0]; simp, this.one⟩
        · simp [Builtin.firstCells, h0, hb]
        · simp [Builtin.firstCells, h0, hb]
      · subst hz; exact Src.ofString w hu s
  · cases hs

theorem RVs_flat {n : Nat} {sz : Nat} {r : Nat → List AV} {c : Nat → List Value} {cur : Array Value} (h : ∀ i, i < n → ∃ vs : List Value, vs.length = sz ∧ RVs w ok G0 (r i) vs ∧ ∀ j, j < sz → cur[i * sz + j]? = vs[j]?) : True := trivial

theorem append_rep (h : Rep gb w0 gr ok0 st g ok a w) {t tx : TypeId} {x y : Operand} {out : AppOut} (hop : o.op = .call ⟨.builtin .append, #[x, y], #[t, tx]⟩)
    (hp : appAV P st t tx (st.ev x) (st.ev y) = some out) (hpre : out.pre) :
    ∃ v w' g', (execOp a.eval o).run P w = .ok (.value v) w' ∧ Rep gb w0 gr ok0 out.st g' ok a w' ∧ RV w' ok g' (.osl st.next) v := by
  unfold appAV at hp
  simp only [fN_eq] at hp
  split at hp
  · rename_i e hel
    have hu : P.underlying t = some (.slice e) := by
      unfold elemOf? at hel; split at hel <;> cases hel; assumption
    split at hp
    · rename_i z m sz n r1 sz2 k r2 hz hd hsrc
      obtain ⟨i, zv, hi, hzv, rfl⟩ := zeroAV_spec hz
      cases hc : (Nat.beq sz (P.cellsOf e) && Nat.beq (ofVal zv).cells.length sz) && (Nat.ble 1 sz && Nat.ble 1 (P.bytesOf e)) && (Nat.beq k 0 || Nat.beq sz2 sz) <;> simp only [hc, cond_true, cond_false, reduceCtorEq, Option.some.injEq] at hp
      subst hp
      simp only [Bool.and_eq_true, Bool.or_eq_true, Nat.ble_eq] at hc
      obtain ⟨⟨⟨c1, c2⟩, c3, c4⟩, c5⟩ := hc
      have c1 := Nat.eq_of_beq_eq_true c1
      have c2 := Nat.eq_of_beq_eq_true c2
      obtain ⟨q1, q2⟩ := hpre
      have hsz : i.size = sz := by rw [c1]; simp [Program.cellsOf, hi]
      have hby : i.bytes = P.bytesOf e := by simp [Program.bytesOf, hi]
      have hnk : n + k ≤ 140737488355328 := Nat.le_trans (Nat.le_mul_of_pos_right _ c4) q1
      obtain ⟨c, hc, hsr⟩ := srcAV_spec (P := P) (sz := sz) h hsrc (c5.imp Nat.eq_of_beq_eq_true Nat.eq_of_beq_eq_true) q2
      obtain ⟨f1, f2⟩ := flat_get sz c k fun i hi => (hc i hi).1
      obtain ⟨zs, hzs, hzr⟩ := ofVal_cells (w := w) (ok := ok) (g := G0) zv
      have hzl : zv.cells.size = sz := by rw [← Array.length_toList, hzs]; have := hzr.length; omega
      have hex := h.ev x
      -- the slice that is there
      have hold : ∃ b0 cp cur, a.eval x = .slice (b0.map fun b => (⟨b, 0, none⟩ : Addr)) n cp ∧ ((b0 = none ∧ n = 0 ∧ cp = 0 ∧ cur = #[]) ∨ ∃ b, b0 = some b ∧ w.heap[b]? = some (.cells cur e (0, 0)) ∧ n ≤ cp ∧ cp ≤ maxLen ∧ cur.size = cp * sz ∧
            (∃ mm mo G, m = some mm ∧ look st.ob mm = some mo ∧ g mm = some G ∧ G.b = some b) ∧ ∀ i, i < n → ∃ vs : List Value, vs.length = sz ∧ RVs w ok G0 (r1 i) vs ∧ ∀ j, j < sz → cur[i * sz + j]? = vs[j]?) ∧
          (∀ xx mo G bb, m = some xx → look st.ob xx = some mo → g xx = some G → G.b = some bb → b0 = some bb) := by
        unfold dstAV at hd
        split at hd
        · rename_i mm hx
          rw [hx] at hex
          obtain ⟨G, hg, hv⟩ := hex
          split at hd
          · rename_i e' sz' n' rows' hlk
            cases hb : Nat.beq e' e <;> simp [hb] at hd
            obtain ⟨rfl, rfl, rfl, rfl⟩ := hd
            have he := Nat.eq_of_beq_eq_true hb
            subst he
            obtain ⟨K, hK, hn, hr⟩ := h.obs.rel mm _ hlk
            rw [hg] at hK; cases hK
            have hlast : ∀ xx mo K bb, some mm = some xx → look st.ob xx = some mo → g xx = some K → K.b = some bb → G.b = some bb := fun xx mo K bb e1 e2 e3 e4 => by
              cases e1; rw [hg] at e3; cases e3; exact e4
            rcases hr with ⟨hbn, h0, hc0⟩ | ⟨b, cur, hbb, hh, k1, k2, k3, k4⟩
            · exact ⟨none, 0, #[], by rw [hv, hbn, hn, hc0], .inl ⟨rfl, h0, rfl, rfl⟩, fun xx mo K bb e1 e2 e3 e4 => by rw [← hlast xx mo K bb e1 e2 e3 e4, hbn]⟩
            · exact ⟨some b, G.c, cur, by rw [hv, hbb, hn], .inr ⟨b, rfl, hh, k1, k2, k3, ⟨mm, _, G, rfl, hlk, hg, hbb⟩, k4⟩, fun xx mo K bb e1 e2 e3 e4 => by rw [← hlast xx mo K bb e1 e2 e3 e4, hbb]⟩
          · cases hd
        · rename_i hx
          cases hd
          rw [hx] at hex
          exact ⟨none, 0, #[], hex, .inl ⟨rfl, rfl, rfl, rfl⟩, fun _ _ _ _ e => by cases e⟩
        · cases hd
      obtain ⟨b0, cp, cur, hv, hcase, hlast⟩ := hold
      have hnm : g st.next = none := h.fresh _ (Nat.le_refl _)
      have hrun0 : ∀ v w', (Builtin.append_ #[t, tx] o.type #[a.eval x, a.eval y]).run P w = .ok v w' → (execOp a.eval o).run P w = .ok (.value v) w' := fun v w' hr => by
        simp [execOp, hop, resolve, invoke, builtin, hr]
      -- the rows of a new block
      have hrows : ∀ (W : World) (olds : List Value) (tail : List Value) (q : Nat), (∀ b, ok b → W.heap[b]? = w.heap[b]?) → olds.length = n * sz →
          (∀ i, i < n → ∃ vs : List Value, vs.length = sz ∧ RVs w ok G0 (r1 i) vs ∧ ∀ j, j < sz → olds[i * sz + j]? = vs[j]?) →
          ∀ i, i < n + k → ∃ vs : List Value, vs.length = sz ∧ RVs W ok G0 (appRows n r1 r2 i) vs ∧ ∀ j, j < sz → (olds ++ flat k c ++ tail).toArray[i * sz + j]? = vs[j]? := by
        intro W olds tail q hW hol hor i hi
        have hmono : ∀ (as : List AV) (vs : List Value), RVs w ok G0 as vs → RVs W ok G0 as vs := fun as vs hh => RVs.mono (fun _ h => h) hW G0 G0 (fun _ _ h => h) as vs hh
        by_cases hin : i < n
        · obtain ⟨vs, e1, e2, e3⟩ := hor i hin
          refine ⟨vs, e1, ?_, fun j hj => ?_⟩
          · have : Nat.blt i n = true := Nat.ble_eq_true_of_le hin
            simp only [appRows, this, cond_true]
            exact hmono _ _ e2
          · have hlt : i * sz + j < n * sz := by
              calc i * sz + j < i * sz + sz := by omega
                _ = (i + 1) * sz := by rw [Nat.add_mul, Nat.one_mul]
                _ ≤ n * sz := Nat.mul_le_mul_right _ hin
            rw [← e3 j hj, List.getElem?_toArray, List.append_assoc, List.getElem?_append, hol, if_pos hlt]
        · obtain ⟨e1, e2⟩ := hc (i - n) (by omega)
          refine ⟨c (i - n), e1, ?_, fun j hj => ?_⟩
          · have : Nat.blt i n = false := by
              cases hb : Nat.blt i n
              · rfl
              · exact absurd (Nat.le_of_ble_eq_true hb) hin
            simp only [appRows, this, cond_false]
            exact hmono _ _ e2
          · have e4 : i * sz + j = n * sz + ((i - n) * sz + j) := by
              have : i = n + (i - n) := by omega
              calc i * sz + j = (n + (i - n)) * sz + j := by rw [← this]
                _ = _ := by rw [Nat.add_mul]; omega
            have hlt : (i - n) * sz + j < k * sz := by
              calc (i - n) * sz + j < (i - n) * sz + sz := by omega
                _ = (i - n + 1) * sz := by rw [Nat.add_mul, Nat.one_mul]
                _ ≤ k * sz := Nat.mul_le_mul_right _ (by omega)
            rw [e4, List.getElem?_toArray, List.append_assoc, List.getElem?_append, hol, if_neg (by omega), Nat.add_sub_cancel_left, List.getElem?_append, f1, if_pos hlt]
            exact f2 _ j (by omega) hj
      -- a new block is made
      have hgrow : cp < n + k → ∀ olds : List Value, olds.length = n * sz → (Builtin.firstCells i.size n (.slice (b0.map fun b => (⟨b, 0, none⟩ : Addr)) n cp)).run P w.drew = .ok olds.toArray w.drew →
          (∀ i, i < n → ∃ vs : List Value, vs.length = sz ∧ RVs w ok G0 (r1 i) vs ∧ ∀ j, j < sz → olds[i * sz + j]? = vs[j]?) →
          ∃ v w' g', (execOp a.eval o).run P w = .ok (.value v) w' ∧ Rep gb w0 gr ok0 { st with ob := (st.next, .arr e sz (n + k) (appRows n r1 r2)) :: delO st.ob m, next := st.next + 1 } g' ok a w' ∧ RV w' ok g' (.osl st.next) v := by
        intro hlt olds hol hfc hor
        have hr := run_append_grow_src (P := P) w t tx o.type e i zv hu hi hzv (b0.map fun b => (⟨b, 0, none⟩ : Addr)) n cp olds hfc (a.eval y) k (flat k c) (by rw [hsz]; exact hsr) hlt (by omega) (growslice_fits hlt (by rw [hby]; exact q1))
        have hge := grownCap_ge w (n + k) cp e
        have hcm : grownCap w (n + k) cp e ≤ maxLen := grownCap_le_maxLen w (n + k) cp e (by unfold maxLen; omega)
        have hrep := h.swap (m := m) (mo' := .arr e sz (n + k) (appRows n r1 r2)) (G' := ⟨some w.heap.size, n + k, grownCap w (n + k) cp e⟩)
          (w' := w.drew.alloc (.cells ((olds ++ flat k c).toArray ++ Builtin.zeroCells zv.cells (grownCap w (n + k) cp e - (n + k))) e))
          (fun b hb => by cases hb; exact .inl ⟨Nat.le_refl _, by simp⟩) (by simp) (fun q hq _ => RowKit.Below.heap_alloc w.drew _ q hq) rfl rfl rfl ?_
        · refine ⟨_, _, _, hrun0 _ _ (by rw [hv]; exact hr), hrep, ⟨_, gset_same, rfl⟩⟩
        · refine ⟨rfl, .inr ⟨w.heap.size, _, rfl, heap_alloc_new w.drew _, hge, hcm, ?_, ?_⟩⟩
          · simp only [Array.size_append, List.size_toArray, List.length_append, hol, f1, size_zeroCells, hzl]
            rw [← Nat.add_mul, ← Nat.add_mul]
            congr 1; omega
          · intro q hq
            have := hrows (w.drew.alloc (.cells ((olds ++ flat k c).toArray ++ Builtin.zeroCells zv.cells (grownCap w (n + k) cp e - (n + k))) e)) olds (Builtin.zeroCells zv.cells (grownCap w (n + k) cp e - (n + k))).toList 0
              (fun b hb => RowKit.Below.heap_alloc w.drew _ b (h.obs.okb b hb).1) hol hor q hq
            obtain ⟨vs, e1, e2, e3⟩ := this
            refine ⟨vs, e1, e2, fun j hj => ?_⟩
            rw [← e3 j hj]
            congr 1
            apply Array.ext'
            simp
      rcases hcase with ⟨rfl, rfl, rfl, rfl⟩ | ⟨b, rfl, hh, hncp, hcpm, hcs, ⟨mm, mo, G, rfl, hlk, hg, hGb⟩, hr1⟩
      · rcases Nat.eq_zero_or_pos k with hk0 | hkp
        · -- nothing, onto nil
          subst hk0
          have hfl : flat 0 c = [] := rfl
          rw [hfl] at hsr
          refine ⟨.slice none 0 0, w, _, hrun0 _ _ ?_, h.swap (m := m) (mo' := .arr e sz (0 + 0) (appRows 0 r1 r2)) (G' := ⟨none, 0, 0⟩) (fun b hb => by cases hb) (Nat.le_refl _) (fun _ _ _ => rfl) rfl rfl rfl ⟨rfl, .inl ⟨rfl, rfl, rfl⟩⟩, ⟨_, gset_same, rfl⟩⟩
          rw [hv]
          have hcl := hsr.cells
          rw [← hsz] at hcl
          rcases hsr.kind with ⟨e', hk⟩ | hk <;> simp [Builtin.append_, run_underlying hu, run_underlying hk, sizeOf, typeInfo, hi, hsr.len, hcl]
        · refine hgrow (by omega) [] (by simp) ?_ (fun i hi => by omega)
          exact run_firstCells_none w.drew i.size 0 0 0
      · by_cases hroom : n + k ≤ cp
        · -- in place
          have hfit : n * sz + (flat k c).length ≤ cur.size := by rw [f1, hcs, ← Nat.add_mul]; exact Nat.mul_le_mul_right _ hroom
          have hst := run_storeCells_at (P := P) b (n * sz) e (flat k c) 0 cur w hh (by simpa using hfit) hsr.one
          simp only [Nat.add_zero] at hst
          have hnew := setRow_heap w b cur (cur.toList.take (n * sz) ++ flat k c ++ cur.toList.drop (n * sz + (flat k c).length)).toArray e (0, 0) hh
          have hother := fun q (hq : q ≠ b) => setRow_other w b q (cur.toList.take (n * sz) ++ flat k c ++ cur.toList.drop (n * sz + (flat k c).length)).toArray hq
          have e1 : (w.setRow b (cur.toList.take (n * sz) ++ flat k c ++ cur.toList.drop (n * sz + (flat k c).length)).toArray).heap.size = w.heap.size := by simp
          have e2 : (w.setRow b (cur.toList.take (n * sz) ++ flat k c ++ cur.toList.drop (n * sz + (flat k c).length)).toArray).os = w.os := rfl
          have e3 : (w.setRow b (cur.toList.take (n * sz) ++ flat k c ++ cur.toList.drop (n * sz + (flat k c).length)).toArray).tape = w.tape := rfl
          have e4 : (w.setRow b (cur.toList.take (n * sz) ++ flat k c ++ cur.toList.drop (n * sz + (flat k c).length)).toArray).output = w.output := rfl
          generalize w.setRow b (cur.toList.take (n * sz) ++ flat k c ++ cur.toList.drop (n * sz + (flat k c).length)).toArray = W at *
          have hcl := hsr.cells
          have hrun : (Builtin.append_ #[t, tx] o.type #[.slice (some ⟨b, 0, none⟩) n cp, a.eval y]).run P w = .ok (.slice (some ⟨b, 0, none⟩) (n + k) cp) W := by
            rw [← hsz] at hcl hst
            rcases hsr.kind with ⟨e', hk⟩ | hk <;> simp [Builtin.append_, run_underlying hu, run_underlying hk, sizeOf, typeInfo, hi, hsr.len, hroom, hcl, add_off, hst]
          have hokb : ∀ q, ok q → W.heap[q]? = w.heap[q]? := fun q hq => hother q fun e => by subst e; exact (h.obs.okb q hq).2 mm mo G hlk hg hGb
          refine ⟨_, W, _, hrun0 _ _ (by rw [hv]; exact hrun), h.swap (m := some mm) (mo' := .arr e sz (n + k) (appRows n r1 r2)) (G' := ⟨some b, n + k, cp⟩) (fun q hq => by cases hq; exact .inr ⟨mm, mo, G, rfl, hlk, hg, hGb⟩)
            (by rw [e1]; exact Nat.le_refl _) (fun q hq hne => hother q fun e => by subst e; exact hne mm mo G rfl hlk hg hGb) e2 e3 e4 ⟨rfl, .inr ⟨b, _, rfl, hnew, hroom, hcpm, ?_, ?_⟩⟩, ⟨_, gset_same, rfl⟩⟩
          · simp; rw [f1, hcs] at *; omega
          · exact hrows W (cur.toList.take (n * sz)) _ 0 hokb (by rw [List.length_take, Array.length_toList, hcs]; have := Nat.mul_le_mul_right sz hncp; omega) (fun i hi => by
              obtain ⟨vs, g1, g2, g3⟩ := hr1 i hi
              refine ⟨vs, g1, g2, fun j hj => ?_⟩
              have hlt : i * sz + j < n * sz := by
                calc i * sz + j < i * sz + sz := by omega
                  _ = (i + 1) * sz := by rw [Nat.add_mul, Nat.one_mul]
                  _ ≤ n * sz := Nat.mul_le_mul_right _ hi
              rw [List.getElem?_take, if_pos hlt, ← g3 j hj]; simp)
        · refine hgrow (by omega) (cur.toList.take (n * sz)) (by rw [List.length_take, Array.length_toList, hcs]; have := Nat.mul_le_mul_right sz hncp; omega) ?_ (fun i hi => by
              obtain ⟨vs, g1, g2, g3⟩ := hr1 i hi
              refine ⟨vs, g1, g2, fun j hj => ?_⟩
              have hlt : i * sz + j < n * sz := by
                calc i * sz + j < i * sz + sz := by omega
                  _ = (i + 1) * sz := by rw [Nat.add_mul, Nat.one_mul]
                  _ ≤ n * sz := Nat.mul_le_mul_right _ hi
              rw [List.getElem?_take, if_pos hlt, ← g3 j hj]; simp)
          have hl : (cur.toList.take (n * sz)).length = n * sz := by rw [List.length_take, Array.length_toList, hcs]; have := Nat.mul_le_mul_right sz hncp; omega
          refine run_firstCells_some w.drew i.size n ⟨b, 0, none⟩ n cp (cur.toList.take (n * sz)) (by rw [hsz]; exact hl) (fun j u hu => ?_)
          have hj : j < n * sz := by
            rcases Nat.lt_or_ge j (n * sz) with h | h
            · exact h
            · rw [List.getElem?_eq_none (by omega)] at hu; cases hu
          rw [add_off, Nat.zero_add]
          rw [List.getElem?_take, if_pos hj] at hu
          show w.drew.cell? _ = _
          rw [cell_of_row w.drew b j cur e (0, 0) hh]
          simpa using hu
    · cases hp
  · cases hp
end
end Go.Vw
