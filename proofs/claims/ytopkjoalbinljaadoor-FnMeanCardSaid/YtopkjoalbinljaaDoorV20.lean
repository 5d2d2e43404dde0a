/- Vw20: a part of a tool for walks: what a piece of a Go program does, by abstract values. It holds of every program; no condition. -/
import Derived.Test.YtopkjoalbinljaaDoorV19
set_option linter.unusedVariables false
set_option linter.unusedSimpArgs false
set_option linter.unusedSectionVars false
namespace Go.Vw
open Go

theorem getD_true_set {listed : Array Bool} {i j : Nat} (h : i ≠ j) : (listed.setIfInBounds i true).getD j true = listed.getD j true := getD_set_ne true h

theorem countP_less {p q : Nat → Bool} : ∀ (l : List Nat) (i : Nat), l.Nodup → i ∈ l → p i = true → q i = false → (∀ j, j ∈ l → j ≠ i → q j = p j) → l.countP p = l.countP q + 1
  | x :: r, i, hnd, hi, hp, hq, h => by
    rw [List.nodup_cons] at hnd
    rw [List.countP_cons, List.countP_cons]
    by_cases e : x = i
    · subst e
      have : r.countP p = r.countP q := List.countP_congr fun j hj => by rw [h j (.tail _ hj) (fun e => by subst e; exact hnd.1 hj)]
      simp [hp, hq, this]
    · have hi' : i ∈ r := by rcases List.mem_cons.1 hi with h' | h'; exact absurd h'.symm e; exact h'
      rw [countP_less r i hnd.2 hi' hp hq fun j hj => h j (.tail _ hj), h x (List.mem_cons_self ..) e]
      omega

section
variable {P : Program} [Tabs P] {all : Array Oper} {n base : Nat} {s : Nat → St} {gb : Nat → Option Gh} {w0 : World} {gr ok0 : Nat → Prop}

theorem head_go (hj : JJ P w0 gr) {Q : Exit → Act → World → Prop} (hR : Road P all n base s) (hn : n ≤ all.size) (hend : n = all.size ∨ (Region.sinkB .any all n = true ∧ Region.chainB .any all n = true)) {g : Nat}
    (hdone : ∀ listed a w, HeadInv .any all n listed → (∀ i, i < n → listed.getD i true = true) → InvD P all n base s gb w0 gr ok0 listed a w → wpAny P .any all Q g listed a w) :
    ∀ (f : Nat) (listed : Array Bool) (a : Act) (w : World), HeadInv .any all n listed → (List.range n).countP (fun i => !listed.getD i true) = f → InvD P all n base s gb w0 gr ok0 listed a w →
      wpAny P .any all Q (f + g) listed a w
  | 0, listed, a, w, hh, hc, hI => by
    rw [Nat.zero_add]
    refine hdone listed a w hh (fun i hi => ?_) hI
    have := (List.countP_eq_zero.1 hc) i (List.mem_range.2 hi)
    simpa using this
  | f + 1, listed, a, w, hh, hc, hI => by
    rw [show f + 1 + g = (f + g) + 1 by omega]
    have hex : ∃ i, i < n ∧ listed.getD i true = false := by
      have : 0 < (List.range n).countP (fun i => !listed.getD i true) := by omega
      obtain ⟨i, hi, hp⟩ := List.countP_pos_iff.1 this
      exact ⟨i, List.mem_range.1 hi, by simpa using hp⟩
    have hlt : ∀ j, j ∈ Region.ready .any all listed → j < n := fun j hj => by
      rcases Nat.lt_or_ge j n with h | h
      · exact h
      · obtain ⟨i, hi, hun⟩ := hex
        rcases hend with e | ⟨h1, h2⟩
        · obtain ⟨_, o, ho, _⟩ := mem_ready.1 hj
          have := (Array.getElem?_eq_some_iff.1 ho).1
          omega
        · rcases Nat.lt_or_ge n all.size with h3 | h3
          · exact absurd hj (tail_waits h1 h2 h3 hh _ i rfl hi hun j h)
          · obtain ⟨_, o, ho, _⟩ := mem_ready.1 hj
            have := (Array.getElem?_eq_some_iff.1 ho).1
            omega
    have hne : Region.ready .any all listed ≠ [] := by
      have : ∀ d i, i = d → i < n → listed.getD i true = false → ∃ j, j ∈ Region.ready .any all listed := by
        intro d
        induction d using Nat.strongRecOn with
        | _ d ih =>
          intro i hd hi hun
          have hb := List.all_eq_true.1 hR.back i (List.mem_range.2 hi)
          cases ho : all[i]? with
          | none => rw [ho] at hb; cases hb
          | some o =>
            rw [ho] at hb
            by_cases hall : ∀ e ∈ o.after, Region.binds .any e = true → listed.getD e.on false = true
            · exact ⟨i, mem_ready.2 ⟨hun, o, ho, hall⟩⟩
            · have : ∃ e, e ∈ o.after ∧ Region.binds .any e = true ∧ listed.getD e.on false = false := by
                refine Classical.byContradiction fun hno => hall fun e he hbd => ?_
                cases hl : listed.getD e.on false
                · exact absurd ⟨e, he, hbd, hl⟩ hno
                · rfl
              obtain ⟨e, he, hbd, hl⟩ := this
              have h4 : e.on < i := by
                have h5 := Array.all_eq_true_iff_forall_mem.1 hb e he
                simp [hbd] at h5
                exact h5
              exact ih e.on (by omega) e.on rfl (by omega) (getD_in (by rw [hh.size]; omega) hl)
      obtain ⟨i, hi, hun⟩ := hex
      obtain ⟨j, hj⟩ := this i i rfl hi hun
      exact List.ne_nil_of_mem hj
    refine ⟨fun h0 => absurd h0 hne, fun i hi => ?_⟩
    have hin := hlt i hi
    refine wpOp_mono (fun a' w' hI' => head_go hj hR hn hend hdone f _ a' w' (hh.set hi hin) ?_ hI') (hR.one hj hh.size hh.closed hI hin hi)
    have hun := (mem_ready.1 hi).1
    have his : i < listed.size := by
      obtain ⟨_, o, ho, _⟩ := mem_ready.1 hi
      rw [hh.size]; exact (Array.getElem?_eq_some_iff.1 ho).1
    have := countP_less (p := fun i => !listed.getD i true) (q := fun j => !(listed.setIfInBounds i true).getD j true) (List.range n) i List.nodup_range (List.mem_range.2 hin) (by simp only [hun]; rfl)
      (by simp [his]) (fun j _ hj => by rw [getD_true_set (fun e => hj e.symm)])
    omega

theorem Rep.drawn {st : St} {g : Nat → Option Gh} {ok : Nat → Prop} {a : Act} {w : World} (h : Rep gb w0 gr ok0 st g ok a w) : Rep gb w0 gr ok0 st g ok a { w with drawn := w.drawn + 1 } := h.drew

theorem firstN_eq {listed : Array Bool} {m : Nat} (hs : listed.size = m) (h1 : ∀ i, i < n → listed.getD i true = true) (h2 : ∀ t, n ≤ t → t < m → listed.getD t true = false) (hn : n ≤ m) : listed = firstN n m := by
  unfold firstN
  apply Array.ext
  · simp [hs]
  · intro i hi hi2
    have hg : listed[i] = listed.getD i true := by simp [Array.getD, hi]
    simp only [List.getElem_toArray, List.getElem_map, List.getElem_range]
    rw [hg]
    rcases Nat.lt_or_ge i n with h | h
    · rw [h1 i h]; exact (Nat.ble_eq_true_of_le h).symm
    · rw [h2 i h (by omega)]
      cases hb : Nat.blt i n
      · rfl
      · have := Nat.le_of_ble_eq_true hb; omega
end

theorem DrawG.mk {P : Program} [Tabs P] {nb : Nat} {ops : Array Oper} {st : St} {next : St → Prop} (n : Nat) (hm : P.follows .mixedOrders = true) (hc : drawOK ops n = true)
    (h : exD P ops st.next 0 (ops.toList.take n) st fun st' => exOps P ops (ops.toList.drop n) { st' with next := st.next + n } next) : DrawG P nb ops st next := by
  unfold DrawG
  intro id gb w0 gr ok0 g ok a w hgb hrep
  obtain ⟨st', hsteps, hnext⟩ := exD_steps _ _ _ _ h
  obtain ⟨s, e1, e2, e3⟩ := PSteps.seq _ _ _ _ hsteps
  simp only [drawOK, Bool.and_eq_true, Bool.or_eq_true] at hc
  obtain ⟨⟨hle, htm⟩, hbk, hend, hseq⟩ := hc
  have hle' : n ≤ ops.size := Nat.le_of_ble_eq_true hle
  have hlen : (ops.toList.take n).length = n := by simp; omega
  rw [Nat.zero_add] at e2
  rw [hlen] at e2
  have hR : Road P ops n st.next s := by
    refine ⟨fun k hk => ?_, htm, hbk, by rw [e1], fun m hm => ?_⟩
    · have hks : k < ops.size := by omega
      have ho : (ops.toList.take n)[k]? = some ops[k] := by
        rw [List.getElem?_take, if_pos hk]; simp [hks]
      have := e3 k _ ho
      rw [Nat.zero_add] at this
      exact ⟨_, Array.getElem?_eq_getElem hks, this⟩
    · rw [e1]
      cases hl : look st.ob m with
      | none => rfl
      | some mo =>
        obtain ⟨G, hG, _⟩ := hrep.obs.rel m mo hl
        rw [hrep.fresh m hm] at hG; cases hG
  have hI0 : InvD P ops n st.next s gb w0 gr ok0 (Array.replicate ops.size false) a { w with drawn := w.drawn + 1 } := by
    have hr1 := hrep.drawn
    have htmD : tmD ops n s (Array.replicate ops.size false) = st.tm := by
      funext t
      unfold tmD
      rw [if_neg, e1]
      rintro ⟨j, _, hj, _⟩
      rw [getD_replicate_false] at hj; cases hj
    refine ⟨g, ok, st.ob, ?_, fun m mo hm => ?_, fun m mo hm hc => ?_, fun j hj _ => hrep.fresh _ (by omega)⟩
    · refine hr1.weak (fun t => ?_) (fun m mo hm => ⟨mo, hm, MOle.refl mo⟩) (by show st.next ≤ st.next + n; omega) (by show (s 0).n = st.n; rw [e1])
      show AVle (st.tm t) (tmD ops n s _ t)
      rw [htmD]; exact AVle.refl _
    · have hmb : m < st.next := by
        rcases Nat.lt_or_ge m st.next with h | h
        · exact h
        · have := hR.noob m h
          rw [e1, hm] at this; cases this
      refine ⟨?_, .inl hmb⟩
      rw [hR.fin_low hmb, e1, hm]
    · rcases hc with hc | ⟨j, _, hj, _⟩
      · rw [hR.fin_low hc, e1] at hm; exact hm
      · rw [getD_replicate_false] at hj; cases hj
  refine wp_region_any hm ?_
  have hcount : (List.range n).countP (fun i => !(Array.replicate ops.size false).getD i true) = n := by
    rw [List.countP_eq_length.2]
    · simp
    · intro i hi
      have : i < ops.size := by have := List.mem_range.1 hi; omega
      simp [this]
  have hgo := head_go hgb.2 (g := ops.size - n) (Q := fun e a' w' => ∃ st' g' ok', Rep gb w0 gr ok0 st' g' ok' a' w' ∧ match e with | .normal => next st' | _ => False) hR hle'
    (by rcases hend with h | h
        · exact .inl (Nat.eq_of_beq_eq_true h)
        · exact .inr h) (fun listed a' w' hh hall hI => ?_) n (Array.replicate ops.size false) a { w with drawn := w.drawn + 1 }
    ⟨by simp, fun j oj _ hl => (by rw [getD_replicate_false] at hl; cases hl), fun t _ ht => (by simp [ht])⟩ hcount hI0
  · rw [show n + (ops.size - n) = ops.size by omega] at hgo
    exact hgo
  · have hlst := firstN_eq hh.size hall hh.tail hle'
    have hl2 : (ops.toList.drop n).length = ops.size - n := by simp
    have key := wpAny_of_seq (P := P) (md := .any) (ops := ops) (Q' := fun e a' w' => ∃ st' g' ok', Rep gb w0 gr ok0 st' g' ok' a' w' ∧ match e with | .normal => next st' | _ => False) (ops.toList.drop n) n listed a' w'
      (fun j => by simp [List.getElem?_drop]) (by rw [hl2, hlst]; exact hseq)
    rw [hl2] at key
    refine key ?_
    obtain ⟨g', ok', obD, hrep', h1, h2, _⟩ := hI
    have hall' : ∀ j, j < n → listed.getD j false = true := fun j hj => by
      cases hl : listed.getD j false
      · have hjs : j < listed.size := by rw [hh.size]; omega
        have := hall j hj
        rw [getD_in hjs hl] at this; cases this
      · rfl
    have hrep2 : Rep gb w0 gr ok0 { s n with next := st.next + n } g' ok' a' w' := by
      refine hrep'.weak (fun t => ?_) (fun m mo hm => ?_) (Nat.le_refl _) (by have := (hR.nn n (Nat.le_refl _)).1; exact this)
      · show AVle (tmD ops n s listed t) ((s n).tm t)
        unfold tmD
        split
        · exact AVle.refl _
        · rename_i hne
          rw [hR.stay n (Nat.le_refl _) t fun j hj hd => hne ⟨j, hj, hall' j hj, hd⟩]; exact AVle.refl _
      · refine ⟨mo, h2 m mo hm ?_, MOle.refl mo⟩
        rcases Nat.lt_or_ge m st.next with h | h
        · exact .inl h
        · by_cases hex : ∃ j, j < n ∧ m = st.next + j
          · obtain ⟨j, hj, e⟩ := hex; exact .inr ⟨j, hj, hall' j hj, e⟩
          · have h5 := hR.obLow n (Nat.le_refl _) m fun j hj e => hex ⟨j, hj, e⟩
            have hm' : look (s n).ob m = some mo := hm
            rw [h5, hR.noob m h] at hm'; cases hm'
    rw [e2] at hrep2
    exact exOps_wp hgb.2 (ops.toList.drop n) hnext hrep2 fun st' g' ok' a' w' hr' hn => ⟨st', g', ok', hr', hn⟩
end Go.Vw
