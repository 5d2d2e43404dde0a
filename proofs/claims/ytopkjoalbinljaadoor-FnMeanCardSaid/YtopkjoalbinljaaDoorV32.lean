/- Vw32: a part of a tool for walks: what a piece of a Go program does, by abstract values. It holds of every program; no condition. -/
import Derived.Test.YtopkjoalbinljaaDoorV27
set_option linter.unusedVariables false
set_option linter.unusedSimpArgs false
set_option linter.unusedSectionVars false
namespace Go.Vw
open Go

section
variable {w : World} {ok ok' : Nat → Prop} {g g' : Nat → Option Gh} {σ : Nat → Nat}
mutual
/-- names turned, more may be read -/
theorem RV.rn (hok : ∀ b, ok b → ok' b) (hg : ∀ m G, g m = some G → g' (σ m) = some G) : ∀ (x : AV) (v : Value), RV w ok g x v → RV w ok' g' (x.ren σ) v
  | .any, _, _ => trivial
  | .int _ _, _, h => h
  | .bool _, _, h => h
  | .str _, _, h => h
  | .agg cs, _, ⟨vs, e, h⟩ => ⟨vs, e, RVs.rn hok hg cs vs h⟩
  | .tup cs, _, ⟨vs, e, h⟩ => ⟨vs, e, RVs.rn hok hg cs vs h⟩
  | .nilsl, _, h => h
  | .sl sz n rows, v, h => RV.mono hok (fun _ _ => rfl) G0 g' (fun _ _ h => by cases h) (.sl sz n rows) v h
  | .osl m, _, ⟨G, hm, e⟩ => ⟨G, hg m G hm, e⟩
  | .eptr row off, v, h => RV.mono hok (fun _ _ => rfl) G0 g' (fun _ _ h => by cases h) (.eptr row off) v h
  | .bptr m off, _, ⟨G, b, hm, hb, e⟩ => ⟨G, b, hg m G hm, hb, e⟩
  | .aptr m sz i off, _, ⟨G, b, hm, hb, e⟩ => ⟨G, b, hg m G hm, hb, e⟩
  | .nilptr, _, h => h
  | .iface _ x, _, ⟨u, e, h⟩ => ⟨u, e, RV.rn hok hg x u h⟩
  | .niliface, _, h => h
  | .fn _ xs ys, _, ⟨us, vs, e, h1, h2⟩ => ⟨us, vs, e, RVs.rn hok hg xs us h1, RVs.rn hok hg ys vs h2⟩
  | .nilfn, _, h => h
  | .omap m, _, ⟨G, b, hm, hb, e⟩ => ⟨G, b, hg m G hm, hb, e⟩
  | .undef, _, h => h
theorem RVs.rn (hok : ∀ b, ok b → ok' b) (hg : ∀ m G, g m = some G → g' (σ m) = some G) : ∀ (xs : List AV) (vs : List Value), RVs w ok g xs vs → RVs w ok' g' (AV.rens σ xs) vs
  | [], _, h => h
  | x :: xs, _, ⟨v, us, e, h1, h2⟩ => ⟨v, us, e, RV.rn hok hg x v h1, RVs.rn hok hg xs us h2⟩
end
theorem MRel.rn {G : Gh} {mo : MO} (hok : ∀ b, ok b → ok' b) (hg : ∀ m G, g m = some G → g' (σ m) = some G) (h : MRel w ok g G mo) : MRel w ok' g' G (mo.ren σ) := by
  cases mo with
  | box cs =>
    obtain ⟨b, vs, ty, h1, h2, h3⟩ := h
    exact ⟨b, vs, ty, h1, h2, RVs.rn hok hg cs vs h3⟩
  | arr e sz n rows =>
    obtain ⟨h0, h⟩ := h
    refine ⟨h0, h.imp id fun ⟨b, cur, h1, h2, h3, h4, h5, h6⟩ => ⟨b, cur, h1, h2, h3, h4, h5, fun i hi => ?_⟩⟩
    obtain ⟨vs, k1, k2, k3⟩ := h6 i hi
    exact ⟨vs, k1, RVs.mono hok (fun _ _ => rfl) G0 G0 (fun _ _ h => h) _ _ k2, k3⟩
  | imap ks => exact h
  | smap ks => exact h
end
/-- the objects that are handed over -/
def keepO (kl : List (Nat × Nat)) : List (Nat × MO) → List (Nat × MO)
  | [] => []
  | (m, o) :: r => match kL kl m with | some _ => (m, o) :: keepO kl r | none => keepO kl r
theorem look_keepO {kl : List (Nat × Nat)} : ∀ {ob : List (Nat × MO)} {m : Nat} {mo : MO}, look (keepO kl ob) m = some mo → kL kl m ≠ none ∧ look ob m = some mo
  | [], m, mo, h => by cases h
  | (k, o) :: r, m, mo, h => by
    unfold keepO at h
    split at h
    · rename_i q hq
      rw [look_cons] at h ⊢
      split at h
      · rename_i e
        cases h
        rw [if_pos e]
        exact ⟨by rw [show m = k from e, hq]; simp, rfl⟩
      · rename_i e
        rw [if_neg e]
        exact look_keepO h
    · rename_i hq
      have := look_keepO h
      refine ⟨this.1, ?_⟩
      rw [look_cons]
      split
      · rename_i e
        exact absurd (by rw [e]; exact hq) this.1
      · exact this.2
def keepS (kl : List (Nat × Nat)) (st : St) : St := { tm := fun _ => .any, ob := keepO kl st.ob, next := st.next, n := st.n }

/-- A call that is handed objects, and whatever it is called with is reached by these alone: what it hands back may hold slices. -/
theorem callK {P : Program} [Tabs P] {F : FuncId} {nb nx : Nat} {args l : List AV} {O O' : List (Nat × MO)} {r : AV} {st : St} {d : Option Tmp} (kl : List (Nat × Nat)) (h : FnM P F nb args O r O' nx) (hkl : klOK nb kl = true) (hcov : covB O nb = true)
    (ha : AVsle (AV.fzs (keepO kl st.ob) (kL kl) l) args) (hO : allO ((keepS kl st).fz (kL kl) nb) O) (hd : dstOK d st.n = true) :
    CallR P F l st d (({ tm := st.tm, ob := renOb (backN kl nb st.next) O' ++ delK kl st.ob, next := st.next + nx, n := st.n } : St).put d (r.ren (backN kl nb st.next))) := by
  refine ⟨h.1, fun gb w0 gr ok0 g ok a w vs hj hrep hargs => ?_⟩
  obtain ⟨k1, k2⟩ := kl_spec hkl
  -- the callee's view; of the base names nothing is asked here
  have hrep0 : Rep (fun _ => none) w0 gr ok0 st g ok a w := ⟨hrep.tm, hrep.obs, hrep.own, hrep.fresh, fun _ _ e => (by cases e), hrep.frm, hrep.df, hrep.n, hrep.okf⟩
  have hrepW := hrep0.weak (st' := keepS kl st) (fun t => AVle.any _) (fun m mo hm => ⟨mo, (look_keepO hm).2, MOle.refl _⟩) (Nat.le_refl _) rfl
  obtain ⟨gc, okc, hr1, hx, hgc, hokc0⟩ := hrepW.fz (kL kl) (iL kl) nb k1 k2 (fun _ _ e => (by cases e))
  have hokc : ∀ b, okc b → ok b := fun b hb => by
    rcases hokc0 b hb with h' | ⟨m, mo, G, e1, e2, _⟩
    · exact h'
    · exact absurd e1 (look_keepO e2).1
  have hr2 := hr1.weak (st' := mkSt [] O nb st.n) (fun t => AVle.any _) (allO_spec hO) (Nat.le_refl _) rfl
  have hargs' : ∀ (l : List AV) (vs : List Value), RVs w ok g l vs → RVs w okc gc (AV.fzs (keepO kl st.ob) (kL kl) l) vs := by
    intro l
    induction l with
    | nil => exact fun vs h => h
    | cons x xs ih => rintro vs ⟨v, us, e, h1, h2⟩; exact ⟨v, us, e, hx x v h1, ih us h2⟩
  have hobs : Obs O gc okc w := hr2.obs
  -- a granted block is that of an object of the caller's that was handed over
  have hgr : ∀ b, grO O gc b → ∃ m mo G, kL kl m ≠ none ∧ look st.ob m = some mo ∧ g m = some G ∧ G.b = some b := by
    rintro b ⟨k, mo, G, hk, hG, hb⟩
    obtain ⟨mo1, hl1, _⟩ := allO_spec hO k mo hk
    obtain ⟨m, p, e1, e2', _⟩ := look_fzOb k1 (keepO kl st.ob) k mo1 hl1
    have e2 := (look_keepO e2').2
    rw [hgc k, (k1 m k).1 e1] at hG
    exact ⟨m, p, G, by rw [e1]; simp, e2, hG, hb⟩
  have hJ : Tabs.J P w ∧ ∀ b, Tabs.tab P b → ¬ grO O gc b := by
    refine ⟨hj.now hrep.frm, fun b hb hg => ?_⟩
    obtain ⟨m, mo, G, _, h2, h3, h4⟩ := hgr b hg
    rcases hrep.own m mo G b h2 h3 h4 with h5 | h5
    · have := Tabs.lt w0 b hj.1 hb; omega
    · exact hj.2 b hb h5
  refine (h.2 w okc gc vs hJ hr2.obs hr2.fresh (ha _ _ _ _ (hargs' l vs hargs))).mono ?_
  rintro e w' ⟨v, g', ok', rfl, hfm, hob, hext, hfr, hv, hown, hokn⟩
  have hngr : ∀ b, ok b → ¬ grO O gc b := fun b hb hg => by
    obtain ⟨m, mo, G, _, h2, h3, h4⟩ := hgr b hg
    exact (hrep.obs.okb b hb).2 m mo G h2 h3 h4
  have hokw : ∀ b, ok b → w'.heap[b]? = w.heap[b]? := fun b hb => hfm.old b (hrep.obs.okb b hb).1 (hngr b hb)
  let ok2 : Nat → Prop := fun b => ok b ∨ ok' b
  have hok' : ∀ b, ok' b → ok b ∨ grO O gc b ∨ w.heap.size ≤ b := fun b hb => (hokn b hb).imp (hokc b) id
  let σ := backN kl nb st.next
  let g2 : Nat → Option Gh := fun m => if m < st.next then g m else g' (m - st.next + nb)
  have hlow : ∀ m G, g m = some G → m < st.next := fun m G hm => Nat.lt_of_not_le fun hle => by rw [hrep.fresh m hle] at hm; cases hm
  have hg2 : ∀ m G, g m = some G → g2 m = some G := fun m G hm => by
    show (if _ then _ else _) = _
    rw [if_pos (hlow m G hm)]; exact hm
  have hσ : ∀ k G, g' k = some G → g2 (σ k) = some G := fun k G hk => by
    show g2 (backN kl nb st.next k) = _
    unfold backN
    rcases Nat.lt_or_ge k nb with hlt | hge
    · obtain ⟨mo, hmo⟩ := covB_spec hcov k hlt
      obtain ⟨K, hK, _⟩ := hobs.rel k mo hmo
      have e1 := hext k K hK
      rw [hk] at e1; cases e1
      rw [hgc k] at hK
      cases hi : iL kl k with
      | none => rw [hi] at hK; cases hK
      | some m => rw [hi] at hK; exact hg2 m G hK
    · cases hi : iL kl k with
      | some m => have := k2 m k ((k1 m k).2 hi); omega
      | none =>
        show (if st.next + (k - nb) < st.next then g (st.next + (k - nb)) else g' (st.next + (k - nb) - st.next + nb)) = _
        rw [if_neg (by omega)]
        rw [show st.next + (k - nb) - st.next + nb = k by omega]; exact hk
  have hnew : ∀ m mo', look (renOb σ O') m = some mo' → ∃ k mo G, σ k = m ∧ look O' k = some mo ∧ g' k = some G ∧ g2 m = some G ∧ MRel w' ok2 g2 G mo' := fun m mo' hm => by
    obtain ⟨k, mo, e1, e2, e3⟩ := look_renOb hm
    obtain ⟨G, hG, hrel⟩ := hob.rel k mo e2
    refine ⟨k, mo, G, e1, e2, hG, by rw [← e1]; exact hσ k G hG, ?_⟩
    rw [e3]; exact hrel.rn (fun _ h => .inr h) hσ
  have hold : ∀ m mo, look (delK kl st.ob) m = some mo → ∃ G, look st.ob m = some mo ∧ kL kl m = none ∧ g m = some G ∧ g2 m = some G ∧ MRel w' ok2 g2 G mo ∧ ∀ b, G.b = some b → b < w.heap.size ∧ ¬ grO O gc b := fun m mo hm => by
    obtain ⟨e1, e2⟩ := look_delK hm
    obtain ⟨G, hG, hrel⟩ := hrep.obs.rel m mo e1
    have hng : ∀ b, G.b = some b → b < w.heap.size ∧ ¬ grO O gc b := fun b hb => by
      refine ⟨hrep.obs.lt m mo G b e1 hG hb, fun hg => ?_⟩
      obtain ⟨m', mo', G', h1, h2, h3, h4⟩ := hgr b hg
      have := hrep.obs.sep m m' mo mo' G G' b e1 h2 hG h3 hb h4
      subst this; exact h1 e2
    exact ⟨G, e1, e2, hG, hg2 m G hG, MRel.mono (fun _ h => .inl h) hokw hg2 (fun b hb => hfm.old b (hng b hb).1 (hng b hb).2) hrel, hng⟩
  have hnewb : ∀ k mo G b, look O' k = some mo → g' k = some G → G.b = some b → w.heap.size ≤ b ∨ grO O gc b := hown
  have core : Rep gb w0 gr ok0 { tm := st.tm, ob := renOb σ O' ++ delK kl st.ob, next := st.next + nx, n := st.n } g2 ok2 a w' := by
    refine ⟨fun t => RV.mono (fun _ h => .inl h) hokw g g2 hg2 _ _ (hrep.tm t), ⟨fun m mo hm => ?_, fun m m' mo mo' G G' b hm hm' hG hG' hb hb' => ?_, fun b hb => ⟨hb.elim (fun hb => Nat.lt_of_lt_of_le (hrep.obs.okb b hb).1 hfm.size) fun hb => (hob.okb b hb).1, fun m mo G hm hG e => ?_⟩, fun m mo G b hm hG hb => ?_⟩,
      fun m mo G b hm hG hb => ?_, fun m hm => ?_, fun m G hm => hg2 m G (hrep.base m G hm), ⟨hfm.os.trans hrep.frm.os, hfm.tape.trans hrep.frm.tape, hfm.output.trans hrep.frm.output, Nat.le_trans hrep.frm.size hfm.size, fun b hb hg => ?_⟩, hrep.df, hrep.n, fun b hb => ?_⟩
    · rcases look_app hm with hm | hm
      · obtain ⟨k, mo1, G, _, _, _, e4, e5⟩ := hnew m mo hm; exact ⟨G, e4, e5⟩
      · obtain ⟨G, _, _, _, e4, e5, _⟩ := hold m mo hm; exact ⟨G, e4, e5⟩
    · rcases look_app hm with hm | hm <;> rcases look_app hm' with hm' | hm'
      · obtain ⟨k, mo1, K, e1, e2, e3, e4, _⟩ := hnew m mo hm
        obtain ⟨k', mo1', K', e1', e2', e3', e4', _⟩ := hnew m' mo' hm'
        rw [hG] at e4; cases e4
        rw [hG'] at e4'; cases e4'
        have := hob.sep k k' mo1 mo1' _ _ b e2 e2' e3 e3' hb hb'
        rw [← e1, ← e1', this]
      · obtain ⟨k, mo1, K, e1, e2, e3, e4, _⟩ := hnew m mo hm
        obtain ⟨K', _, _, _, e4', _, hn'⟩ := hold m' mo' hm'
        rw [hG] at e4; cases e4
        rw [hG'] at e4'; cases e4'
        obtain ⟨n1, n2⟩ := hn' b hb'
        rcases hnewb k mo1 _ b e2 e3 hb with h' | h'
        · omega
        · exact absurd h' n2
      · obtain ⟨k, mo1, K, e1, e2, e3, e4, _⟩ := hnew m' mo' hm'
        obtain ⟨K', _, _, _, e4', _, hn'⟩ := hold m mo hm
        rw [hG'] at e4; cases e4
        rw [hG] at e4'; cases e4'
        obtain ⟨n1, n2⟩ := hn' b hb
        rcases hnewb k mo1 _ b e2 e3 hb' with h' | h'
        · omega
        · exact absurd h' n2
      · obtain ⟨K, a1, _, a3, a4, _, _⟩ := hold m mo hm
        obtain ⟨K', b1, _, b3, b4, _, _⟩ := hold m' mo' hm'
        rw [hG] at a4; cases a4
        rw [hG'] at b4; cases b4
        exact hrep.obs.sep m m' mo mo' _ _ b a1 b1 a3 b3 hb hb'
    · rcases hb with hb | hb
      · rcases look_app hm with hm | hm
        · obtain ⟨k, mo1, K, e1, e2, e3, e4, _⟩ := hnew m mo hm
          rw [hG] at e4; cases e4
          have := (hrep.obs.okb b hb).1
          rcases hnewb k mo1 _ b e2 e3 e with h' | h'
          · omega
          · exact hngr b hb h'
        · obtain ⟨K, a1, _, a3, a4, _, _⟩ := hold m mo hm
          rw [hG] at a4; cases a4
          exact (hrep.obs.okb b hb).2 m mo _ a1 a3 e
      · rcases look_app hm with hm | hm
        · obtain ⟨k, mo1, K, e1, e2, e3, e4, _⟩ := hnew m mo hm
          rw [hG] at e4; cases e4
          exact (hob.okb b hb).2 k mo1 _ e2 e3 e
        · obtain ⟨K, a1, _, a3, a4, _, hn'⟩ := hold m mo hm
          rw [hG] at a4; cases a4
          obtain ⟨n1, n2⟩ := hn' b e
          rcases hok' b hb with h' | h' | h'
          · exact (hrep.obs.okb b h').2 m mo _ a1 a3 e
          · exact n2 h'
          · omega
    · rcases look_app hm with hm | hm
      · obtain ⟨k, mo1, K, e1, e2, e3, e4, _⟩ := hnew m mo hm
        rw [hG] at e4; cases e4
        exact hob.lt k mo1 _ b e2 e3 hb
      · obtain ⟨K, a1, _, a3, a4, _, hn⟩ := hold m mo hm
        rw [hG] at a4; cases a4
        exact Nat.lt_of_lt_of_le (hn b hb).1 hfm.size
    · rcases look_app hm with hm | hm
      · obtain ⟨k, mo1, K, e1, e2, e3, e4, _⟩ := hnew m mo hm
        rw [hG] at e4; cases e4
        rcases hnewb k mo1 _ b e2 e3 hb with h' | h'
        · exact .inl (Nat.le_trans hrep.frm.size h')
        · obtain ⟨m0, mo0, G0', _, h2, h3, h4⟩ := hgr b h'
          exact hrep.own m0 mo0 G0' b h2 h3 h4
      · obtain ⟨K, a1, _, a3, a4, _, _⟩ := hold m mo hm
        rw [hG] at a4; cases a4
        exact hrep.own m mo _ b a1 a3 hb
    · show (if _ then _ else _) = none
      have hm' : st.next + nx ≤ m := hm
      rw [if_neg (by omega)]
      exact hfr _ (by omega)
    · rw [hfm.old b (Nat.lt_of_lt_of_le hb hrep.frm.size) fun h' => ?_, hrep.frm.old b hb hg]
      obtain ⟨m0, mo0, G0', _, h2, h3, h4⟩ := hgr b h'
      rcases hrep.own m0 mo0 G0' b h2 h3 h4 with h5 | h5
      · omega
      · exact hg h5
    · rcases hb with hb | hb
      · exact hrep.okf b hb
      · rcases hok' b hb with h' | h' | h'
        · exact hrep.okf b h'
        · obtain ⟨m0, mo0, G0', _, h2, h3, h4⟩ := hgr b h'
          rcases hrep.own m0 mo0 G0' b h2 h3 h4 with h5 | h5
          · exact .inr (.inr h5)
          · exact .inr (.inl h5)
        · exact .inr (.inr (Nat.le_trans hrep.frm.size h'))
  exact ⟨v, g2, ok2, rfl, core.put hd (RV.rn (fun _ h => .inr h) hσ r v hv)⟩

theorem CallC.k {P : Program} [Tabs P] {F : FuncId} {nb nx : Nat} {args l : List AV} {O O' : List (Nat × MO)} {r : AV} {cs : CSt} {d : Option Tmp} {next : CSt → Prop} (kl : List (Nat × Nat)) (h : FnM P F nb args O r O' nx)
    (hkl : klOK nb kl = true) (hcov : covB O nb = true) (ha : AVsle (AV.fzs (keepO kl cs.ob) (kL kl) l) args) (hO : allO ((keepS kl cs.st).fz (kL kl) nb) O) (hd : dstOK d cs.n = true)
    (hn : cs.obK (renOb (backN kl nb cs.next) O' ++ delK kl cs.ob) (cs.next + nx) fun cs' => (r.ren (backN kl nb cs.next)).force fun r => cs'.putK d r next) : CallC P F l cs d next := by
  unfold CallC
  obtain ⟨cs1, e1, h1⟩ := CSt.obK_st hn
  rw [AV.force_eq] at h1
  obtain ⟨cs2, e2, h2⟩ := CSt.putK_st h1
  exact CallG.mk _ (callK (st := cs.st) kl h hkl hcov ha hO hd) ⟨cs2, by rw [e2, e1]; rfl, h2⟩
end Go.Vw
