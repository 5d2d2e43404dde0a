/- Vw15: a part of a tool for walks: what a piece of a Go program does, by abstract values. It holds of every program; no condition. -/
import Derived.Test.YtopkjoalbinljaaDoorV14
import Derived.Scope
set_option linter.unusedVariables false
set_option linter.unusedSimpArgs false
set_option linter.unusedSectionVars false
namespace Go.Vw
open Go

/-- 'a' says at least what 'b' says. -/
def AVle (a b : AV) : Prop := ∀ w ok g v, RV w ok g a v → RV w ok g b v
def AVsle (as bs : List AV) : Prop := ∀ w ok g vs, RVs w ok g as vs → RVs w ok g bs vs
theorem AVle.refl (a : AV) : AVle a a := fun _ _ _ _ h => h
theorem AVle.of_eq {a b : AV} (h : a = b) : AVle a b := h ▸ AVle.refl a
theorem AVle.any (a : AV) : AVle a .any := fun _ _ _ _ _ => trivial
theorem AVsle.refl (a : List AV) : AVsle a a := fun _ _ _ _ h => h
theorem AVsle.nil : AVsle [] [] := AVsle.refl []
theorem AVsle.cons {a b : AV} {as bs : List AV} (h1 : AVle a b) (h2 : AVsle as bs) : AVsle (a :: as) (b :: bs) :=
  fun w ok g _ ⟨v, us, e, k1, k2⟩ => ⟨v, us, e, h1 w ok g v k1, h2 w ok g us k2⟩
theorem AVle.agg {as bs : List AV} (h : AVsle as bs) : AVle (.agg as) (.agg bs) := fun w ok g _ ⟨vs, e, k⟩ => ⟨vs, e, h w ok g vs k⟩
theorem AVle.tup {as bs : List AV} (h : AVsle as bs) : AVle (.tup as) (.tup bs) := fun w ok g _ ⟨vs, e, k⟩ => ⟨vs, e, h w ok g vs k⟩
theorem AVle.sl {sz n m : Nat} {r1 r2 : Nat → List AV} (hn : n = m) (h : ∀ i, i < n → r1 i = r2 i) : AVle (.sl sz n r1) (.sl sz m r2) := by
  subst hn
  rintro w ok g v ⟨A, c, e, hc, hr⟩
  refine ⟨A, c, e, hc, hr.imp id fun ⟨b, o, hA, hb, k⟩ => ⟨b, o, hA, hb, fun i hi => ?_⟩⟩
  rw [← h i hi]; exact k i hi
theorem AVle.nilsl (sz : Nat) (r : Nat → List AV) {n : Nat} (hn : n = 0) : AVle .nilsl (.sl sz n r) := by
  subst hn
  exact fun w ok g v h => ⟨none, 0, h, Nat.le_refl _, .inl rfl⟩

-- names given up: what was one's own array is a slice for good; kept names get their new ones
mutual
/-- Without a name in it (and without a pointer to a variable). -/
def AV.nl : AV → Bool
  | .osl _ | .bptr _ _ | .aptr _ _ _ _ | .omap _ => false
  | .agg cs => AV.nls cs
  | .tup cs => AV.nls cs
  | .iface _ x => AV.nl x
  | .fn _ xs ys => AV.nls xs && AV.nls ys
  | .any | .int _ _ | .bool _ | .str _ | .nilsl | .sl _ _ _ | .eptr _ _ | .nilptr | .niliface | .nilfn | .undef => true
def AV.nls : List AV → Bool
  | [] => true
  | c :: cs => AV.nl c && AV.nls cs
end

mutual
def AV.fz (ob : List (Nat × MO)) (keep : Nat → Option Nat) : AV → AV
  | .osl m => match keep m with
    | some k => .osl k
    | none => match look ob m with | some (.arr _ sz n rows) => .sl sz n rows | _ => .any
  | .bptr m off => match keep m with
    | some k => .bptr k off
    | none => match look ob m with | some (.box cs) => (bif AV.nls cs then .eptr cs off else .any) | _ => .any
  | .aptr m sz i off => match keep m with | some k => .aptr k sz i off | none => .any
  | .omap m => match keep m with | some k => .omap k | none => .any
  | .agg cs => .agg (AV.fzs ob keep cs)
  | .tup cs => .tup (AV.fzs ob keep cs)
  | .iface t x => .iface t (AV.fz ob keep x)
  | .fn f xs ys => .fn f (AV.fzs ob keep xs) (AV.fzs ob keep ys)
  | .any => .any
  | .int k n => .int k n
  | .bool b => .bool b
  | .str s => .str s
  | .nilsl => .nilsl
  | .sl sz n rows => .sl sz n rows
  | .eptr row off => .eptr row off
  | .nilptr => .nilptr
  | .niliface => .niliface
  | .nilfn => .nilfn
  | .undef => .undef
def AV.fzs (ob : List (Nat × MO)) (keep : Nat → Option Nat) : List AV → List AV
  | [] => []
  | c :: cs => AV.fz ob keep c :: AV.fzs ob keep cs
end

section
variable {w w' : World} {ok ok' : Nat → Prop} {g g' : Nat → Option Gh}
mutual
theorem RV.nl : ∀ (x : AV) (v : Value), x.nl = true → RV w ok g x v → RV w ok g' x v
  | .any, _, _, _ => trivial
  | .int _ _, _, _, h => h
  | .bool _, _, _, h => h
  | .str _, _, _, h => h
  | .agg cs, _, hn, ⟨vs, e, h⟩ => ⟨vs, e, RVs.nl cs vs hn h⟩
  | .tup cs, _, hn, ⟨vs, e, h⟩ => ⟨vs, e, RVs.nl cs vs hn h⟩
  | .nilsl, _, _, h => h
  | .sl _ _ _, _, _, h => h
  | .osl _, _, hn, _ => by cases hn
  | .eptr _ _, _, _, h => h
  | .bptr _ _, _, hn, _ => by cases hn
  | .aptr _ _ _ _, _, hn, _ => by cases hn
  | .nilptr, _, _, h => h
  | .iface _ x, _, hn, ⟨u, e, h⟩ => ⟨u, e, RV.nl x u hn h⟩
  | .niliface, _, _, h => h
  | .fn _ xs ys, _, hn, ⟨us, vs, e, h1, h2⟩ => by
    have hn' : (AV.nls xs && AV.nls ys) = true := hn
    rw [Bool.and_eq_true] at hn'
    exact ⟨us, vs, e, RVs.nl xs us hn'.1 h1, RVs.nl ys vs hn'.2 h2⟩
  | .nilfn, _, _, h => h
  | .omap _, _, hn, _ => by cases hn
  | .undef, _, _, h => h
theorem RVs.nl : ∀ (xs : List AV) (vs : List Value), AV.nls xs = true → RVs w ok g xs vs → RVs w ok g' xs vs
  | [], _, _, h => h
  | x :: xs, _, hn, ⟨v, us, e, h1, h2⟩ => by
    have hn' : (AV.nl x && AV.nls xs) = true := hn
    rw [Bool.and_eq_true] at hn'
    exact ⟨v, us, e, RV.nl x v hn'.1 h1, RVs.nl xs us hn'.2 h2⟩
end
end

section
variable {w : World} {ok ok' : Nat → Prop} {g g' : Nat → Option Gh} {ob : List (Nat × MO)} {keep : Nat → Option Nat}

theorem arr_sl {m : Nat} {G : Gh} {e sz n : Nat} {rows : Nat → List AV} {v : Value} (hr : MRel w ok g G (.arr e sz n rows)) (hv : v = .slice (G.b.map fun b => (⟨b, 0, none⟩ : Addr)) G.n G.c)
    (hok : ∀ b, ok b → ok' b) (hb : ∀ b, G.b = some b → ok' b) : RV w ok' g' (.sl sz n rows) v := by
  obtain ⟨hn, hr⟩ := hr
  rcases hr with ⟨h1, h2, h3⟩ | ⟨b, cur, h1, h2, h3, h4, h5, h6⟩
  · exact ⟨none, G.c, by rw [hv, h1, hn]; rfl, by omega, .inl h2⟩
  · refine ⟨some ⟨b, 0, none⟩, G.c, by rw [hv, h1, hn]; rfl, h3, .inr ⟨b, 0, rfl, hb b h1, fun i hi => ?_⟩⟩
    obtain ⟨vs, k1, k2, k3⟩ := h6 i hi
    exact ⟨vs, k1, RVs.mono hok (fun _ _ => rfl) G0 G0 (fun _ _ h => h) _ _ k2, fun j hj => by rw [Nat.zero_add, cell_of_row w b _ _ _ _ h2]; exact k3 j hj⟩

mutual
theorem RV.fz (hok : ∀ b, ok b → ok' b) (hkeep : ∀ m k G, keep m = some k → g m = some G → g' k = some G)
    (hob : ∀ m mo G, look ob m = some mo → g m = some G → MRel w ok g G mo) (hfz : ∀ m mo G b, keep m = none → look ob m = some mo → g m = some G → G.b = some b → ok' b) :
    ∀ (x : AV) (v : Value), RV w ok g x v → RV w ok' g' (x.fz ob keep) v
  | .any, _, _ => trivial
  | .int _ _, _, h => h
  | .bool _, _, h => h
  | .str _, _, h => h
  | .agg cs, _, ⟨vs, e, h⟩ => by simp only [AV.fz]; exact ⟨vs, e, RVs.fz hok hkeep hob hfz cs vs h⟩
  | .tup cs, _, ⟨vs, e, h⟩ => by simp only [AV.fz]; exact ⟨vs, e, RVs.fz hok hkeep hob hfz cs vs h⟩
  | .nilsl, _, h => h
  | .sl sz n rows, v, h => RV.mono hok (fun _ _ => rfl) G0 g' (fun _ _ h => by cases h) (.sl sz n rows) v h
  | .osl m, v, ⟨G, hm, e⟩ => by
    simp only [AV.fz]
    split
    · rename_i k hk; exact ⟨G, hkeep m k G hk hm, e⟩
    · rename_i hk
      split
      · rename_i ee sz n rows hl; exact arr_sl (m := m) (hob m _ G hl hm) e hok fun b hb => hfz m _ G b hk hl hm hb
      · trivial
  | .eptr row off, v, h => RV.mono hok (fun _ _ => rfl) G0 g' (fun _ _ h => by cases h) (.eptr row off) v h
  | .bptr m off, v, ⟨G, b, hm, hb, e⟩ => by
    simp only [AV.fz]
    split
    · rename_i k hk; exact ⟨G, b, hkeep m k G hk hm, hb, e⟩
    · rename_i hk
      split
      · rename_i cs hl
        cases hn : AV.nls cs with
        | false => trivial
        | true =>
          obtain ⟨b', vs, ty, e1, e2, e3⟩ := hob m _ G hl hm
          have : b' = b := by rw [hb] at e1; cases e1; rfl
          subst this
          exact ⟨b', 0, by rw [Nat.zero_add]; exact e, hfz m _ G b' hk hl hm hb, vs, RVs.mono hok (fun _ _ => rfl) G0 G0 (fun _ _ h => h) cs vs (RVs.nl cs vs hn e3), fun j hj => by
            rw [Nat.zero_add, cell_of_row w b' _ _ _ _ e2]; simp⟩
      · trivial
  | .aptr m sz i off, v, ⟨G, b, hm, hb, e⟩ => by
    simp only [AV.fz]
    split
    · rename_i k hk; exact ⟨G, b, hkeep m k G hk hm, hb, e⟩
    · trivial
  | .nilptr, _, h => h
  | .iface t x, _, ⟨u, e, h⟩ => by simp only [AV.fz]; exact ⟨u, e, RV.fz hok hkeep hob hfz x u h⟩
  | .niliface, _, h => h
  | .fn f xs ys, _, ⟨us, vs, e, h1, h2⟩ => by simp only [AV.fz]; exact ⟨us, vs, e, RVs.fz hok hkeep hob hfz xs us h1, RVs.fz hok hkeep hob hfz ys vs h2⟩
  | .nilfn, _, h => h
  | .omap m, v, ⟨G, b, hm, hb, e⟩ => by
    simp only [AV.fz]
    split
    · rename_i k hk; exact ⟨G, b, hkeep m k G hk hm, hb, e⟩
    · trivial
  | .undef, _, h => h
theorem RVs.fz (hok : ∀ b, ok b → ok' b) (hkeep : ∀ m k G, keep m = some k → g m = some G → g' k = some G)
    (hob : ∀ m mo G, look ob m = some mo → g m = some G → MRel w ok g G mo) (hfz : ∀ m mo G b, keep m = none → look ob m = some mo → g m = some G → G.b = some b → ok' b) :
    ∀ (xs : List AV) (vs : List Value), RVs w ok g xs vs → RVs w ok' g' (AV.fzs ob keep xs) vs
  | [], _, h => h
  | x :: xs, _, ⟨v, us, e, h1, h2⟩ => ⟨v, us, e, RV.fz hok hkeep hob hfz x v h1, RVs.fz hok hkeep hob hfz xs us h2⟩
end
end

/-- A function of values alone: what it is called with, what it hands back. -/
structure VFn (P : Program) [Tabs P] (F : FuncId) (args : List AV) (r : AV) : Prop where
  enters : Enters P F
  calls : ∀ w ok vs, Tabs.J P w → (∀ b, ok b → b < w.heap.size) → RVs w ok G0 args vs →
    Calls P F vs.toArray w fun e w' => ∃ v, e = .returned v ∧ Frm w (fun _ => False) w' ∧ RV w' (fun b => ok b ∨ (w.heap.size ≤ b ∧ b < w'.heap.size)) G0 r v

mutual
/-- Numbers, texts and what is made of them: it lies nowhere. -/
def AV.sca : AV → Bool
  | .osl _ | .bptr _ _ | .aptr _ _ _ _ | .omap _ | .sl _ _ _ | .eptr _ _ => false
  | .agg cs => AV.scas cs
  | .tup cs => AV.scas cs
  | .iface _ x => AV.sca x
  | .fn _ xs ys => AV.scas xs && AV.scas ys
  | .any | .int _ _ | .bool _ | .str _ | .nilsl | .nilptr | .niliface | .nilfn | .undef => true
def AV.scas : List AV → Bool
  | [] => true
  | c :: cs => AV.sca c && AV.scas cs
end

section
variable {w w' : World} {ok ok' : Nat → Prop} {g g' : Nat → Option Gh}
mutual
theorem RV.sca : ∀ (x : AV) (v : Value), x.sca = true → RV w ok g x v → RV w' ok' g' x v
  | .any, _, _, _ => trivial
  | .int _ _, _, _, h => h
  | .bool _, _, _, h => h
  | .str _, _, _, h => h
  | .agg cs, _, hn, ⟨vs, e, h⟩ => ⟨vs, e, RVs.sca cs vs hn h⟩
  | .tup cs, _, hn, ⟨vs, e, h⟩ => ⟨vs, e, RVs.sca cs vs hn h⟩
  | .nilsl, _, _, h => h
  | .sl _ _ _, _, hn, _ => by cases hn
  | .osl _, _, hn, _ => by cases hn
  | .eptr _ _, _, hn, _ => by cases hn
  | .bptr _ _, _, hn, _ => by cases hn
  | .aptr _ _ _ _, _, hn, _ => by cases hn
  | .nilptr, _, _, h => h
  | .iface _ x, _, hn, ⟨u, e, h⟩ => ⟨u, e, RV.sca x u hn h⟩
  | .niliface, _, _, h => h
  | .fn _ xs ys, _, hn, ⟨us, vs, e, h1, h2⟩ => by
    have hn' : (AV.scas xs && AV.scas ys) = true := hn
    rw [Bool.and_eq_true] at hn'
    exact ⟨us, vs, e, RVs.sca xs us hn'.1 h1, RVs.sca ys vs hn'.2 h2⟩
  | .nilfn, _, _, h => h
  | .omap _, _, hn, _ => by cases hn
  | .undef, _, _, h => h
theorem RVs.sca : ∀ (xs : List AV) (vs : List Value), AV.scas xs = true → RVs w ok g xs vs → RVs w' ok' g' xs vs
  | [], _, _, h => h
  | x :: xs, _, hn, ⟨v, us, e, h1, h2⟩ => by
    have hn' : (AV.sca x && AV.scas xs) = true := hn
    rw [Bool.and_eq_true] at hn'
    exact ⟨v, us, e, RV.sca x v hn'.1 h1, RVs.sca xs us hn'.2 h2⟩
end
end

section
variable {P : Program} [Tabs P] {gb : Nat → Option Gh} {w0 : World} {gr ok0 : Nat → Prop} {st : St} {g : Nat → Option Gh} {ok : Nat → Prop} {a : Act} {w : World}

/-- Fewer claims on slots, the same objects. -/
theorem Rep.okmore (h : Rep gb w0 gr ok0 st g ok a w) {ok' : Nat → Prop} (hle : ∀ b, ok b → ok' b) (hb : ∀ b, ok' b → b < w.heap.size ∧ ∀ m mo G, look st.ob m = some mo → g m = some G → G.b ≠ some b)
    (hf : ∀ b, ok' b → ok0 b ∨ gr b ∨ w0.heap.size ≤ b) : Rep gb w0 gr ok0 st g ok' a w := by
  refine ⟨fun t => RV.mono hle (fun _ _ => rfl) g g (fun _ _ h => h) _ _ (h.tm t), ⟨fun m mo hm => ?_, h.obs.sep, hb, h.obs.lt⟩, h.own, h.fresh, h.base, h.frm, h.df, h.n, hf⟩
  obtain ⟨G, hg, hr⟩ := h.obs.rel m mo hm
  exact ⟨G, hg, MRel.mono hle (fun _ _ => rfl) (fun _ _ h => h) (fun _ _ => rfl) hr⟩

theorem Frm.grow {w' : World} (h : Frm w (fun _ => False) w') (hr : Rep gb w0 gr ok0 st g ok a w) : Rep gb w0 gr ok0 st g ok a w' :=
  hr.grow h.size (fun b hb => h.old b hb (fun h => h)) h.os h.tape h.output

/-- A call of a function of values: its result is a number, a text .. ; what is one's own stays so. -/
theorem callR_sca {F : FuncId} {args : List AV} {r : AV} {d : Option Tmp} (h : VFn P F (AV.fzs st.ob (fun _ => none) args) r) (hr : r.sca = true) (hd : dstOK d st.n = true) :
    CallR P F args st d (st.put d r) := by
  refine ⟨h.1, fun gb w0 gr ok0 g ok a w vs hj hrep hargs => ?_⟩
  have h1 := RVs.fz (ok' := fun b => b < w.heap.size) (g' := G0) (keep := fun _ => none) (fun b hb => (hrep.obs.okb b hb).1) (fun _ _ _ e => by cases e) hrep.obr (fun m mo G b _ hm hg hb => hrep.obs.lt m mo G b hm hg hb) args vs hargs
  refine (h.2 w _ vs (hj.now hrep.frm) (fun b hb => hb) h1).mono ?_
  rintro e w' ⟨v, rfl, hf, hv⟩
  exact ⟨v, g, ok, rfl, (hf.grow hrep).put hd (RV.sca r v hr hv)⟩

/-- A call of a function of values, its arguments being nobody's own. -/
theorem callR_nl {F : FuncId} {args : List AV} {r : AV} {d : Option Tmp} (h : VFn P F args r) (ha : AV.nls args = true) (hd : dstOK d st.n = true) :
    CallR P F args st d (st.put d r) := by
  refine ⟨h.1, fun gb w0 gr ok0 g ok a w vs hj hrep hargs => ?_⟩
  refine (h.2 w ok vs (hj.now hrep.frm) (fun b hb => (hrep.obs.okb b hb).1) (RVs.nl args vs ha hargs)).mono ?_
  rintro e w' ⟨v, rfl, hf, hv⟩
  have h1 := hf.grow hrep
  have h2 := h1.okmore (ok' := fun b => ok b ∨ (w.heap.size ≤ b ∧ b < w'.heap.size)) (fun _ h => .inl h) (fun b hb => by
    rcases hb with hb | hb
    · exact h1.obs.okb b hb
    · exact ⟨hb.2, fun m mo G hm hg e => by have := hrep.obs.lt m mo G b hm hg e; omega⟩) (fun b hb => by
    rcases hb with hb | hb
    · exact hrep.okf b hb
    · exact .inr (.inr (Nat.le_trans hrep.frm.size hb.1)))
  exact ⟨v, g, _, rfl, h2.put hd (RV.mono (fun _ h => h) (fun _ _ => rfl) G0 g (fun _ _ e => by cases e) r v hv)⟩
end
end Go.Vw
