/- Contracts of functions that the claim reaches, and the plain law of what they compute; each theorem bears its own conditions. -/
import Derived.Test.YtfaffgneccjpbaaGreatDoorQ3
import Derived.Test.YtfaffgneccjpbaaGreatDoorQ7
import Derived.Test.YtfaffgneccjpbaaGreatDoorV50
import Derived.Test.YtfaffgneccjpbaaGreatDoorQ4
import Derived.Test.YtfaffgneccjpbaaGreatDoorQ2
set_option linter.unusedVariables false
set_option linter.constructorNameAsVariable false
set_option linter.unusedSimpArgs false
set_option maxRecDepth 20000
namespace Go.Proofs.YtfaffgneccjpbaaGreatDoor
open Go Go.Vw

def Ag.cl (a : Ag) : List AV := [.int .i64 a.c, .int .i64 a.s, .int .i64 a.mn, .int .i64 a.mx, .int .i64 a.f, .int .i64 a.l]
instance : Inhabited Ag := ⟨⟨0, 0, 0, 0, 0, 0⟩⟩
structure Wk where
  id : Int
  ph : Int
  tok : Int
  job : Rc
  ins : List En
  got : Ag
instance : Inhabited Wk := ⟨⟨0, 0, 0, default, [], default⟩⟩
def Wk.row (e : Wk) : List AV := [.int .i64 e.id, .int .i64 e.ph, .int .i64 e.tok, .int .i64 e.job.k, .int .i64 e.job.tok, .int .i64 e.job.tier, .int .i64 e.job.f, .int .i64 e.job.t, .str (B e.job.key), ents e.ins, .int .i64 e.got.c, .int .i64 e.got.s, .int .i64 e.got.mn, .int .i64 e.got.mx, .int .i64 e.got.f, .int .i64 e.got.l]
def Wk.av (e : Wk) : AV := .agg e.row
abbrev wks (L : List Wk) : AV := .sl 16 L.length fun i => (ix L i).row
def Wk.size (e : Wk) : Nat := e.job.key.length + (e.ins.length + sumL En.size e.ins)
structure Wk.rd (e : Wk) : Prop where
  key : e.job.key.length ≤ 9223372036854775807
  ins : e.ins.length ≤ 9223372036854775807
  es : ∀ x ∈ e.ins, En.size x ≤ 9223372036854775807
def Wk.small (e : Wk) : Prop := e.ins.length ≤ 1048576
structure Ig where
  id : Int
  seq : Int
  f : Int
  t : Int
  b : List Smp
  put : Bool
instance : Inhabited Ig := ⟨⟨0, 0, 0, 0, [], false⟩⟩
def Ig.row (e : Ig) : List AV := [.int .i64 e.id, .int .i64 e.seq, .int .i64 e.f, .int .i64 e.t, smps e.b, .bool e.put]
def Ig.av (e : Ig) : AV := .agg e.row
abbrev igs (L : List Ig) : AV := .sl 6 L.length fun i => (ix L i).row
def Ig.size (e : Ig) : Nat := e.b.length
def Ig.rd (e : Ig) : Prop := e.b.length ≤ 9223372036854775807
def Ig.small (e : Ig) : Prop := e.b.length ≤ 1048576
structure Rr where
  id : Int
  ph : Int
  tier : Int
  f : Int
  t : Int
  til : Int
  code : Int
  left : List En
  got : Ag
instance : Inhabited Rr := ⟨⟨0, 0, 0, 0, 0, 0, 0, [], default⟩⟩
def Rr.row (e : Rr) : List AV := [.int .i64 e.id, .int .i64 e.ph, .int .i64 e.tier, .int .i64 e.f, .int .i64 e.t, .int .i64 e.til, .int .i64 e.code, ents e.left, .int .i64 e.got.c, .int .i64 e.got.s, .int .i64 e.got.mn, .int .i64 e.got.mx, .int .i64 e.got.f, .int .i64 e.got.l]
def Rr.av (e : Rr) : AV := .agg e.row
abbrev rrs (L : List Rr) : AV := .sl 14 L.length fun i => (ix L i).row
def Rr.size (e : Rr) : Nat := e.left.length + sumL En.size e.left
structure Rr.rd (e : Rr) : Prop where
  left : e.left.length ≤ 9223372036854775807
  es : ∀ x ∈ e.left, En.size x ≤ 9223372036854775807
def Rr.small (e : Rr) : Prop := e.left.length ≤ 1048576
structure An where
  tier : Int
  f : Int
  t : Int
  code : Int
  a : Ag
instance : Inhabited An := ⟨⟨0, 0, 0, 0, default⟩⟩
def An.row (e : An) : List AV := [.int .i64 e.tier, .int .i64 e.f, .int .i64 e.t, .int .i64 e.code, .int .i64 e.a.c, .int .i64 e.a.s, .int .i64 e.a.mn, .int .i64 e.a.mx, .int .i64 e.a.f, .int .i64 e.a.l]
def An.av (e : An) : AV := .agg e.row
abbrev ans (L : List An) : AV := .sl 10 L.length fun i => (ix L i).row
def An.small (e : An) : Prop := True
end Go.Proofs.YtfaffgneccjpbaaGreatDoor
set_option linter.unusedVariables false
set_option linter.constructorNameAsVariable false
set_option linter.unusedSimpArgs false
set_option maxRecDepth 20000
namespace Go.Proofs.YtfaffgneccjpbaaGreatDoor
open Go Go.Vw

structure Fl where
  st : Sto
  clk : Int
  k0 : Int
  k1 : Int
  k2 : Int
  k3 : Int
  k4 : Int
  k5 : Int
  k6 : Int
  ws : List Wk
  gs : List Ig
  rs : List Rr
  ac : List Smp
  an : List An
def Fl.row (s : Fl) : List AV := [obs s.st.os, .int .i64 s.st.next, .int .i64 s.clk, .int .i64 s.k0, .int .i64 s.k1, .int .i64 s.k2, .int .i64 s.k3, .int .i64 s.k4, .int .i64 s.k5, .int .i64 s.k6, wks s.ws, igs s.gs, rrs s.rs, smps s.ac, ans s.an]
def Fl.av (s : Fl) : AV := .agg s.row
def Fl.sk (s : Fl) : List AV := [.int .i64 s.k0, .int .i64 s.k1, .int .i64 s.k2, .int .i64 s.k3, .int .i64 s.k4, .int .i64 s.k5, .int .i64 s.k6]
structure FlIn (s : Fl) : Prop where
  st : StoIn s.st
  ws : s.ws.length ≤ 9223372036854775807
  wr : ∀ e ∈ s.ws, Wk.rd e
  gs : s.gs.length ≤ 9223372036854775807
  gr : ∀ e ∈ s.gs, Ig.rd e
  rs : s.rs.length ≤ 9223372036854775807
  rr : ∀ e ∈ s.rs, Rr.rd e
  ac : s.ac.length ≤ 9223372036854775807
  an : s.an.length ≤ 9223372036854775807
  ck : IntKind.i64.min ≤ s.clk ∧ s.clk ≤ IntKind.i64.max
  k0 : IntKind.i64.min ≤ s.k0 ∧ s.k0 ≤ IntKind.i64.max
  k1 : IntKind.i64.min ≤ s.k1 ∧ s.k1 ≤ IntKind.i64.max
  k2 : IntKind.i64.min ≤ s.k2 ∧ s.k2 ≤ IntKind.i64.max
  k3 : IntKind.i64.min ≤ s.k3 ∧ s.k3 ≤ IntKind.i64.max
  k4 : IntKind.i64.min ≤ s.k4 ∧ s.k4 ≤ IntKind.i64.max
  k5 : IntKind.i64.min ≤ s.k5 ∧ s.k5 ≤ IntKind.i64.max
  k6 : IntKind.i64.min ≤ s.k6 ∧ s.k6 ≤ IntKind.i64.max
def flN (s : Fl) : Nat := stoN s.st + ((s.ws.length + sumL Wk.size s.ws) + ((s.gs.length + sumL Ig.size s.gs) + ((s.rs.length + sumL Rr.size s.rs) + (s.ac.length + s.an.length))))
structure Fl.small (s : Fl) : Prop where
  st : s.st.os.length ≤ 1048576
  sk : ∀ e ∈ s.st.os, e.key.length ≤ 1048576
  ws : s.ws.length ≤ 1048576
  wr : ∀ e ∈ s.ws, Wk.small e
  wk : ∀ e ∈ s.ws, e.job.key.length ≤ 1048576 ∧ ∀ x ∈ e.ins, x.key.length ≤ 1048576
  gs : s.gs.length ≤ 1048576
  gr : ∀ e ∈ s.gs, Ig.small e
  rs : s.rs.length ≤ 1048576
  rr : ∀ e ∈ s.rs, Rr.small e
  rk : ∀ e ∈ s.rs, ∀ x ∈ e.left, x.key.length ≤ 1048576
  ac : s.ac.length ≤ 1048576
  an : s.an.length ≤ 1048576
end Go.Proofs.YtfaffgneccjpbaaGreatDoor
set_option linter.unusedVariables false
set_option linter.constructorNameAsVariable false
set_option linter.unusedSimpArgs false
set_option maxRecDepth 20000
namespace Go.Proofs.YtfaffgneccjpbaaGreatDoor
open Go Go.Vw

abbrev nums (L : List Int) : AV := .sl 1 L.length fun i => [.int .i64 (ix L i)]
theorem isId0 (n : Int) : VFn Tryz.prog 41 [.int .i64 n] (.bool (within n 0 9)) := by
  refine VFn.introC Tryz.call41 Tryz.func41 rfl rfl ?_
  conv => whnf
  refine CallC.sca _ (within_fn _ _ _) ?_ ?_
  · exact rfl
  exact And.intro trivial (AVle.refl _)
def gotOK (a : Ag) : Bool := a.ok && decide (a.c ≤ 1000)
def An.ok (a : An) : Bool := within a.tier 0 2 && (isRange a.f a.t && (within a.code 0 19 && a.a.ok))
def Wk.ok (w : Wk) : Bool := within w.id 0 9 && (within w.ph 0 7 && (within w.tok 0 999999 && (!(decide (2 ≤ w.ph) && decide (w.tok = 0)) && ((!within w.ph 4 6 || (w.job.ok && (decide (w.job.tok = w.tok) && (decide (w.job.k = 3) || (decide (w.ph = 6) && decide (w.job.k = 4)))))) && (decide ((w.ins.length : Int) ≤ 300) && (w.ins.all En.ok && gotOK w.got))))))
end Go.Proofs.YtfaffgneccjpbaaGreatDoor
set_option linter.unusedVariables false
set_option linter.constructorNameAsVariable false
set_option linter.unusedSimpArgs false
set_option maxRecDepth 20000
namespace Go.Proofs.YtfaffgneccjpbaaGreatDoor
open Go Go.Vw

theorem keyOK_len {k : List UInt8} (h : keyOK k = true) : k.length ≤ 30 := by
  unfold keyOK at h
  rw [Bool.and_eq_true] at h
  have := h.2
  simp [within] at this
  omega
theorem notLongP1 (t : List UInt8) (h : t.length ≤ 65536) {n : Nat} {rows : Nat → List AV} (hn : n = 1) (h0 : rows 0 = [.str (B t)]) : VFn Tryz.prog 43 [.sl 1 n rows] (.bool false) := by
  have c := isLong_fn [t] (by simp)
  have e : (!([t].all fun t => decide (t.length ≤ 65536))) = false := by simp; omega
  rw [e] at c
  exact c.weak (AVsle.cons (AVle.sl hn (fun i hi => by
    have : i = 0 := by omega
    subst this; exact h0)) AVsle.nil) (AVle.refl _)
theorem notLongP2 (t u : List UInt8) (h : t.length ≤ 65536) (h' : u.length ≤ 65536) {n : Nat} {rows : Nat → List AV} (hn : n = 2) (h0 : rows 0 = [.str (B t)]) (h1 : rows 1 = [.str (B u)]) : VFn Tryz.prog 43 [.sl 1 n rows] (.bool false) := by
  have c := isLong_fn [t, u] (by simp)
  have e : (!([t, u].all fun t => decide (t.length ≤ 65536))) = false := by simp; omega
  rw [e] at c
  exact c.weak (AVsle.cons (AVle.sl hn (fun i hi => by
    have : i = 0 ∨ i = 1 := by omega
    rcases this with rfl | rfl
    · exact h0
    · exact h1)) AVsle.nil) (AVle.refl _)
theorem storeCode_fn (s : Sto) (hr : StoRd s) (hs : s.ok = true) (k : List UInt8) (hk : keyOK k = true) : VFn Tryz.prog 44 [s.av, .str (B k)] (.int .i64 0) := by
  have c := StoreOK_fn s (by have := hr.len; omega) hr.key
  rw [hs] at c
  have ck := KeyOK_fn k (by have := keyOK_len hk; omega)
  rw [hk] at ck
  refine VFn.introC Tryz.call44 Tryz.func44 rfl rfl ?_
  conv => whnf
  refine CallC.sca _ (c) ?_ ?_
  · exact rfl
  conv => whnf
  refine CallC.sca _ (ck) ?_ ?_
  · exact rfl
  conv => whnf
  refine CallC.sca _ (first2_of false false 1 19 ⟨rfl, rfl, rfl, rfl, trivial⟩ rfl (show _ = (0 : Int) from rfl)) ?_ ?_
  · exact rfl
  exact And.intro trivial (AVle.refl _)
theorem PutAbsent_fn (s : Sto) (hr : StoRd s) (hs : s.ok = true) (k d : List UInt8) (hk : keyOK k = true) (hd : d.length ≤ 600) (y : Sto) (hy : s.putA k d = (y, 0)) (hl : y.os.length ≤ 1000000) :
    VFn Tryz.prog 12 [s.av, .str (B k), .str (B d)] (.tup [y.av, .int .i64 s.next, .int .i64 0]) := by
  have c1 := storeCode_fn s hr hs k hk
  have hkl := keyOK_len hk
  have c2 := putAbsent_fn s hs k d (by omega)
  have hno : ¬ (s.has k = true ∨ s.room k d ≠ 0) := by
    unfold Sto.putA at hy
    split at hy
    · cases hy
    · rename_i h
      have := congrArg Prod.snd hy
      rintro (g | g)
      · exact h g
      · exact g this
  rw [if_neg hno, hy] at c2
  have c3 : VFn Tryz.prog 37 [y.av] y.av := (copied_own y hl).vfn
  refine VFn.introC Tryz.call12 Tryz.func12 rfl rfl ?_
  refine DrawC.mk 14 rfl (by kernel_rfl) ?_
  refine PCallC.sca _ (notLongP2 k d (by omega) (by omega) rfl rfl rfl) rfl ?_
  refine PCallC.sca _ (c1) rfl ?_
  refine PCallC.sca _ (first2_of false true 2 0 ⟨rfl, rfl, rfl, rfl, trivial⟩ rfl (show _ = (0 : Int) from rfl)) rfl ?_
  conv => whnf
  refine CallC.nl _ (c2) ?_ ?_
  · exact rfl
  conv => whnf
  refine CallC.nl _ (c3) ?_ ?_
  · exact rfl
  exact And.intro trivial (AVle.refl _)
theorem GetObject_no (s : Sto) (hr : StoRd s) (hs : s.ok = true) (k : List UInt8) (hk : keyOK k = true) (hh : s.has k = false) : VFn Tryz.prog 15 [s.av, .str (B k)] (.tup [.str (B []), .int .i64 0, .int .i64 5]) := by
  have c1 := storeCode_fn s hr hs k hk
  have hkl := keyOK_len hk
  have c2 := find_fn s hs k
  rw [hh] at c2
  refine VFn.introC Tryz.call15 Tryz.func15 rfl rfl ?_
  refine DrawC.mk 13 rfl (by kernel_rfl) ?_
  refine PCallC.sca _ (notLongP1 k (by omega) rfl rfl) rfl ?_
  refine PCallC.sca _ (c1) rfl ?_
  refine PCallC.sca _ (first2_of false true 2 0 ⟨rfl, rfl, rfl, rfl, trivial⟩ rfl (show _ = (0 : Int) from rfl)) rfl ?_
  conv => whnf
  refine CallC.sca _ (c2) ?_ ?_
  · exact rfl
  exact And.intro trivial (AVle.refl _)
def pinK (n : Int) : List UInt8 := [112, 105, 110, 47] ++ Lib.itoa n
theorem pinKey_fn (n : Int) (h : 0 ≤ n ∧ n ≤ 9) : VFn Tryz.prog 42 [.int .i64 n] (.str (B (pinK n))) := by
  have hl := itoa_len (n := n) (by omega) (by omega)
  refine VFn.introC Tryz.call42 Tryz.func42 rfl rfl ?_
  conv => whnf
  refine CallC.sca _ (Itoa_fn n (by omega) (by omega)) ?_ ?_
  · exact rfl
  refine And.intro (show (((B [112, 105, 110, 47]).size + (B (Lib.itoa n)).size : Nat) : Int) ≤ 9223372036854775807 by rw [B_size, B_size]; simp; omega) ?_
  exact And.intro trivial (AVle.of_eq (congrArg AV.str (show B [112, 105, 110, 47] ++ B (Lib.itoa n) = B (pinK n) from B_app _ _)))
theorem PinKey_fn (n : Int) (h : 0 ≤ n ∧ n ≤ 9) : VFn Tryz.prog 10 [.int .i64 n] (.tup [.str (B (pinK n)), .int .i64 0]) := by
  have c := isId0 n
  rw [show within n 0 9 = true by simp [within]; omega] at c
  refine VFn.introC Tryz.call10 Tryz.func10 rfl rfl ?_
  conv => whnf
  refine CallC.sca _ (c) ?_ ?_
  · exact rfl
  conv => whnf
  refine CallC.sca _ (pinKey_fn n h) ?_ ?_
  · exact rfl
  exact And.intro trivial (AVle.refl _)
theorem lawDigits_fn (u : Nat) (h : u ≤ 1000000000) : VFn Tryz.prog 13 [.int .i64 (u : Int)] (.str (B (Lib.itoa (u : Int)))) := by
  rw [Lib.itoa_nonneg]
  have hl := dd_len 19 u (by simp; omega)
  refine VFn.introC Tryz.call13 Tryz.func13 rfl rfl ?_
  refine LoopC.mk (fun q : Nat × List UInt8 => Lib.decDigits q.1 ++ q.2 = Lib.decDigits u ∧ q.1 ≤ u) (fun q => [(0, .int .i64 (q.1 : Int)), (3, .str (B q.2))]) (fun _ => []) 0 (fun q => q.1) (u, [])
    ⟨⟨by simp, Nat.le_refl _⟩, [], rfl, rfl, ⟨AVle.refl _, AVle.refl _, trivial⟩, trivial⟩ ?_
  rintro ⟨w, a⟩ ⟨h1, h2⟩
  have h1 : Lib.decDigits w ++ a = Lib.decDigits u := h1
  have h2 : w ≤ u := h2
  have hal : a.length ≤ 20 := by
    have := congrArg List.length h1
    rw [List.length_append] at this
    omega
  have hd : (w : Int).tdiv 10 = ((w / 10 : Nat) : Int) := by rw [Int.tdiv_eq_ediv_of_nonneg (by omega)]; simp
  have hm : (w : Int).tmod 10 = ((w % 10 : Nat) : Int) := by rw [Int.tmod_eq_emod_of_nonneg (by omega)]; simp
  refine And.intro (by decide) ?_
  refine And.intro (show inI .i64 (48 + (w : Int).tmod 10) from inI64 (by omega) (by omega)) ?_
  refine And.intro (show inI .u8 (48 + (w : Int).tmod 10) from ⟨show (0 : Int) ≤ _ by omega, show _ ≤ (255 : Int) by omega⟩) ?_
  refine And.intro (fun i hi => ?_) ?_
  · have : i = 0 := by omega
    subst this; rfl
  have e1 : strOfNums [48 + (w : Int).tmod 10] ++ B a = B (UInt8.ofNat (48 + w % 10) :: a) := by
    rw [one_digit (k := w % 10) (by rw [hm]) (by omega), B_app]; rfl
  refine And.intro (show (((strOfNums [48 + (w : Int).tmod 10]).size + (B a).size : Nat) : Int) ≤ 9223372036854775807 by rw [B_size, strOfNums_size]; simp; omega) ?_
  refine And.intro ⟨by decide, by rw [hd]; exact inI64 (by omega) (by omega)⟩ ?_
  by_cases h10 : w < 10
  · refine Grd.intro (fun _ => ?_) (fun h => absurd (show ¬ (w : Int).tdiv 10 = 0 from of_decide_eq_false h) (by rw [hd]; omega))
    refine And.intro trivial (AVle.of_eq (congrArg AV.str ?_))
    show strOfNums [48 + (w : Int).tmod 10] ++ B a = _
    rw [e1, ← h1, Lib.decDigits, dif_pos h10, Nat.mod_eq_of_lt h10]
    rfl
  · refine Grd.intro (fun h => absurd (show (w : Int).tdiv 10 = 0 from of_decide_eq_true h) (by rw [hd]; omega)) (fun _ => ?_)
    refine ⟨(w / 10, UInt8.ofNat (48 + w % 10) :: a), ⟨?_, by show w / 10 ≤ u; omega⟩, by show w / 10 < w; omega, [], rfl, rfl, ⟨AVle.of_eq (congrArg (AV.int .i64) hd), AVle.of_eq (congrArg AV.str e1), trivial⟩, trivial⟩
    show Lib.decDigits (w / 10) ++ (UInt8.ofNat (48 + w % 10) :: a) = _
    rw [← h1]
    conv => rhs; rw [Lib.decDigits, dif_neg h10]
    simp
end Go.Proofs.YtfaffgneccjpbaaGreatDoor
set_option linter.unusedVariables false
set_option linter.constructorNameAsVariable false
set_option linter.unusedSimpArgs false
set_option maxRecDepth 20000
namespace Go.Proofs.YtfaffgneccjpbaaGreatDoor
open Go Go.Vw

theorem StoRdP {x : Sto} (h : x.ok = true) : StoRd x := by
  obtain ⟨a1, a2, a3, _, _⟩ := (stoOK_iff x).1 h
  refine ⟨by omega, fun o ho => ?_, by omega⟩
  have := (a3 o ho).1
  unfold keyOK at this
  simp only [Bool.and_eq_true, within, decide_eq_true_eq] at this
  omega
theorem FilledStoreP_fn (code : List UInt8) (h : code.length ≤ 1048576) : VFn Tryz.prog 6 [byts code] (srcOf code).filled.x.av := by
  have hs := wk (src_ok code h) (show (0 : Int) ≤ 100000 by decide)
  have c := filled_fn (srcOf code) hs
  refine VFn.introC Tryz.call6 Tryz.func6 rfl rfl ?_
  conv => whnf
  refine CallC.k [] (l00Source_fn code h) rfl rfl (AVsle.refl _) trivial rfl ?_
  conv => whnf
  refine CallC.k [(1, 0)] (filled_fn (srcOf code) hs) rfl rfl (AVsle.refl _) ⟨MOle.refl _, trivial⟩ rfl ?_
  exact And.intro trivial (AVle.refl _)
theorem app_v {x y : Sto} (hx : x.ok = true) {n : Nat} (hn : 1 ≤ n ∧ n ≤ 999999) {r : Rc} (hr : r.ok = true) (h : appS x (n : Int) r = (y, 0)) : VFn Tryz.prog 8 [x.av, .int .i64 (n : Int), r.av] (.tup [y.av, .int .i64 0]) := by
  have ha : appC x (n : Int) r = 0 := by
    unfold appC
    rw [if_pos ⟨hx, hr⟩, if_pos (by simp [within]; omega)]
  have c := (Append_own x (StoRdP hx) (n : Int) r ha).vfn
  rw [h] at c
  exact c
theorem swt_v {x y : Sto} {c : Int} {now : Int} (hx : x.ok = true) (hn : 0 ≤ now ∧ now ≤ 101000) (h : swT x now = (y, c)) : VFn Tryz.prog 14 [x.av, .int .i64 now] (.tup [y.av, .int .i64 c]) := by
  have ha : swC x now = 0 := by
    unfold swC
    rw [if_pos hx, if_pos (by simp [within]; omega)]
  have c := (SweepTombs_own x (StoRdP hx) now ha).vfn
  rw [h] at c
  exact c
theorem log_v {x : Sto} (hx : x.ok = true) {s : Sta} (h : logS x = s) : VFn Tryz.prog 7 [x.av] (.tup [s.av, .int .i64 0]) := by
  have c := (ReplayLog_own x (StoRdP hx) hx).vfn
  rw [h] at c
  exact c
theorem lawPin (code more : List UInt8) (h1 : code.length ≤ 9223372036854775807) (h2 : more.length ≤ 9223372036854775807) : VFn Tryz.prog 3 [byts code, byts more] (.bool true) := by
  by_cases hL1 : 1048576 < code.length
  · refine VFn.introC Tryz.call3 Tryz.func3 rfl rfl ?_
    refine Grd.intro (fun _ => ?_) (fun h => absurd (of_decide_eq_false h) (by omega))
    exact And.intro trivial (AVle.refl _)
  by_cases hL2 : 1048576 < more.length
  · refine VFn.introC Tryz.call3 Tryz.func3 rfl rfl ?_
    refine Grd.intro (fun h => absurd (of_decide_eq_true h) (by omega)) (fun _ => ?_)
    refine Grd.intro (fun _ => ?_) (fun h => absurd (of_decide_eq_false h) (by omega))
    exact And.intro trivial (AVle.refl _)
  have hs := wk (src_ok code (by omega)) (show (0 : Int) ≤ 100000 by decide)
  obtain ⟨m, E, F⟩ := filled_facts hs
  obtain ⟨e, r, P⟩ := pin_e F
  obtain ⟨z, Z⟩ := pin_z hs F P
  have L0 := laid0 F
  have cF := FilledStoreP_fn code (by omega)
  have hm := F.rng
  have hA := F.at_
  obtain ⟨p1, p2, p3⟩ := P.t
  obtain ⟨U, hU⟩ : ∃ U, U = upN e.t := ⟨_, rfl⟩
  have hU12 : U ≤ 12 := by rw [hU]; unfold upN; omega
  have La := laid_all F p3 (U := U) (by omega) (fun j hj => upN_lt.1 (by rw [← hU]; exact hj))
  rw [← hU] at Z
  have hltU : ∀ j : Nat, j < U ↔ 5 * (j : Int) < e.t := fun j => by rw [hU]; exact upN_lt
  have hE0 : ix E 0 = e := by rw [P.hE]; rfl
  have hEl : E.length = r.length + 1 := by rw [P.hE]; rfl
  have hlog := F.log
  have hok := F.ok
  have hkeys := F.keys
  have hel := F.el
  have hef := P.f
  have hew := P.key
  have reok := retR_ok P.ok P.tier
  have r1 := log_v hok hlog
  have a1 := app_v hok (n := m + 1) (by omega) clm_ok L0.1
  have lstep : ∀ j, j < U → appS (laidS (srcOf code).filled.x m j) ((m + 2 + j : Nat) : Int) (pubR j) = (laidS (srcOf code).filled.x m (j + 1), 0) := fun j hj => by
    have h := La j (by omega)
    have ej : pc (srcOf code).filled.at_ j = j := by
      unfold pc
      rw [if_pos (by have := (hltU j).1 hj; omega)]
    rw [ej] at h
    exact (laid1 (by omega) hkeys (by omega) h (by omega)).1
  have lok : ∀ j, j ≤ U → (laidS (srcOf code).filled.x m j).ok = true := fun j hj => (La j hj).lg.ok
  have zt : (logS z).ts.length = 0 → (logS z).h1 < e.t := fun h => by
    have := Z.lg.log
    rw [this] at h ⊢
    split
    · rename_i g; rw [if_pos g] at h; simp [resP] at h
    · rename_i g
      show 5 * (pc (srcOf code).filled.at_ U : Int) < e.t
      omega
  have zt2 : ¬ (logS z).ts.length = 0 → LogX z (m + 2 + U) (resP m U (pc (srcOf code).filled.at_ U) E (srcOf code).filled.at_ e) := fun h => by
    have hz := Z.lg
    split at hz
    · exact hz
    · have := hz.log
      rw [this] at h
      exact absurd rfl h
  have zok := Z.lg.ok
  have za := app_v (lok U (Nat.le_refl _)) (n := m + 2 + U) (by omega) reok Z.app
  have zlen := Z.len
  have znxt := Z.nxt
  have zhas := Z.has
  have znop := Z.nop
  have r2 := log_v zok rfl
  subst hE0
  clear L0 La Z F
  generalize (srcOf code).filled.at_ = A at *
  generalize (srcOf code).filled.x = x at *
  generalize logS z = S at *
  refine VFn.introC Tryz.call3 Tryz.func3 rfl rfl ?_
  refine Grd.intro (fun h => absurd (of_decide_eq_true h) (by omega)) (fun _ => ?_)
  refine Grd.intro (fun h => absurd (of_decide_eq_true h) (by omega)) (fun _ => ?_)
  conv => whnf
  refine CallC.nl _ (cF) ?_ ?_
  · exact rfl
  conv => whnf
  refine CallC.nl _ (r1) ?_ ?_
  · exact rfl
  conv => whnf
  refine Grd.intro (fun h => absurd (show (E.length : Int) = 0 from of_decide_eq_true h) (by omega)) (fun _ => ?_)
  refine And.intro (show (0 : Int) ≤ 0 ∧ (0 : Int) < E.length by omega) ?_
  refine And.intro (show inI .i64 ((m : Int) + 1) from inI64 (by omega) (by omega)) ?_
  refine And.intro (show inI .i64 ((0 : Int) + 1) from inI64 (by omega) (by omega)) ?_
  conv => whnf
  refine CallC.nl _ (a1) ?_ ?_
  · exact rfl
  conv => whnf
  refine LoopC.mk (fun j : Nat => j ≤ U) (fun j => [(1, byts more), (6, .bptr 1 0), (8, .bptr 2 0), (9, .bptr 3 0), (10, .int .i64 0), (11, .int .i64 (j : Int))])
    (fun j => [(1, .box (⟨(m : Int), 0, E, [], 0, 0, 0, A, 0, 0⟩ : Sta).row), (2, .box (ix E 0).row), (3, .box (laidS x m j).row)]) 4 (fun j => U - j) 0
    ⟨Nat.zero_le _, [(1, 1), (2, 2), (3, 3)], rfl, rfl, ⟨AVle.refl _, AVle.refl _, AVle.refl _, AVle.refl _, AVle.refl _, AVle.refl _, trivial⟩, ⟨MOle.refl _, MOle.refl _, MOle.refl _, trivial⟩⟩ ?_
  intro j hj
  refine And.intro (show inI .i64 ((j : Int) * 5) from inI64 (by omega) (by omega)) ?_
  by_cases hjU : j < U
  · have hlt := (hltU j).1 hjU
    refine Grd.intro (fun _ => ?_) (fun h => absurd (show ¬ (j : Int) * 5 < (ix E 0).t from of_decide_eq_false h) (by omega))
    have ck : VFn Tryz.prog 9 [.int .i64 1, .int .i64 ((j : Int) * 5), .int .i64 ((0 : Int) + 1)] (.tup [.str (B (keyB 1 (5 * j) 1)), .int .i64 0]) := by
      have c := DataKey_fn 1 ((j : Int) * 5) 1 (by omega) (by simp [within]; omega) (by decide)
      rw [show ((j : Int) * 5).toNat = 5 * j by omega] at c
      exact c
    have ca : VFn Tryz.prog 8 [(laidS x m j).av, .int .i64 ((m : Int) + 2 + (j : Int)), .agg [.int .i64 3, .int .i64 ((0 : Int) + 1), .int .i64 1, .int .i64 ((j : Int) * 5), .int .i64 (((j : Int) + 1) * 5), .str (B (keyB 1 (5 * j) 1))]] (.tup [(laidS x m (j + 1)).av, .int .i64 0]) := by
      have c := app_v (lok j hj) (n := m + 2 + j) (by omega) (pubR_ok (i := j) (by omega)) (lstep j hjU)
      have e1 : ((m + 2 + j : Nat) : Int) = (m : Int) + 2 + (j : Int) := by omega
      have e2 : (pubR j).av = .agg [.int .i64 3, .int .i64 ((0 : Int) + 1), .int .i64 1, .int .i64 ((j : Int) * 5), .int .i64 (((j : Int) + 1) * 5), .str (B (keyB 1 (5 * j) 1))] := by
        unfold pubR Rc.av Rc.row
        rw [show (5 * (j : Int)) = (j : Int) * 5 by omega, show ((j : Int) * 5 + 5) = ((j : Int) + 1) * 5 by omega]
        rfl
      rw [e1, e2] at c
      exact c
    refine And.intro (show inI .i64 ((j : Int) * 5) from inI64 (by omega) (by omega)) ?_
    refine And.intro (show inI .i64 ((0 : Int) + 1) from inI64 (by omega) (by omega)) ?_
    conv => whnf
    refine CallC.sca _ (ck) ?_ ?_
    · exact rfl
    refine And.intro (show inI .i64 ((m : Int) + 2) from inI64 (by omega) (by omega)) ?_
    refine And.intro (show inI .i64 ((m : Int) + 2 + (j : Int)) from inI64 (by omega) (by omega)) ?_
    refine And.intro (show inI .i64 ((0 : Int) + 1) from inI64 (by omega) (by omega)) ?_
    refine And.intro (show inI .i64 ((j : Int) * 5) from inI64 (by omega) (by omega)) ?_
    refine And.intro (show inI .i64 ((j : Int) + 1) from inI64 (by omega) (by omega)) ?_
    refine And.intro (show inI .i64 (((j : Int) + 1) * 5) from inI64 (by omega) (by omega)) ?_
    conv => whnf
    refine CallC.nl _ (ca) ?_ ?_
    · exact rfl
    conv => whnf
    refine And.intro (show inI .i64 ((j : Int) + 1) from inI64 (by omega) (by omega)) ?_
    exact ⟨j + 1, by show j + 1 ≤ U; omega, by show U - (j + 1) < U - j; omega, [(1, 1), (2, 2), (3, 3)], rfl, rfl, ⟨AVle.refl _, AVle.refl _, AVle.refl _, AVle.refl _, AVle.refl _, AVle.refl _, trivial⟩, ⟨MOle.refl _, MOle.refl _, MOle.refl _, trivial⟩⟩
  have hjU2 : j = U := by omega
  subst hjU2
  have hge : ¬ 5 * (j : Int) < (ix E 0).t := fun h => hjU ((hltU j).2 h)
  refine Grd.intro (fun h => absurd (show (j : Int) * 5 < (ix E 0).t from of_decide_eq_true h) (by omega)) (fun _ => ?_)
  have za2 : VFn Tryz.prog 8 [(laidS x m j).av, .int .i64 ((m : Int) + 2 + (j : Int)), .agg [.int .i64 4, .int .i64 ((0 : Int) + 1), .int .i64 0, .int .i64 (ix E 0).f, .int .i64 (ix E 0).t, .str (B (ix E 0).key)]] (.tup [z.av, .int .i64 0]) := by
    have e1 : ((m + 2 + j : Nat) : Int) = (m : Int) + 2 + (j : Int) := by omega
    rw [e1] at za
    exact za
  refine And.intro (show inI .i64 ((m : Int) + 2) from inI64 (by omega) (by omega)) ?_
  refine And.intro (show inI .i64 ((m : Int) + 2 + (j : Int)) from inI64 (by omega) (by omega)) ?_
  refine And.intro (show inI .i64 ((0 : Int) + 1) from inI64 (by omega) (by omega)) ?_
  conv => whnf
  refine CallC.nl _ (za2) ?_ ?_
  · exact rfl
  conv => whnf
  refine CallC.nl _ (r2) ?_ ?_
  · exact rfl
  conv => whnf
  by_cases hS : S.ts.length = 0
  · have hzt := zt hS
    refine Grd.intro (fun _ => ?_) (fun h => absurd (show ¬ (S.ts.length : Int) = 0 from of_decide_eq_false h) (by omega))
    refine And.intro (show (0 : Int) ≤ 1 ∧ (1 : Int) < ((3 : Nat) : Int) by omega) ?_
    refine And.intro trivial (AVle.of_eq (congrArg AV.bool ?_))
    exact decide_eq_true hzt
  refine Grd.intro (fun h => absurd (show (S.ts.length : Int) = 0 from of_decide_eq_true h) (by omega)) (fun _ => ?_)
  obtain ⟨v, hv, cv⟩ := at_fn5 more 0 50 (by omega) (by omega) (by omega)
  obtain ⟨u, y, w, W⟩ := pin_w (by omega) hU12 (zt2 hS) zlen znxt zhas znop hew (now := 50 + v) (by omega)
  have cd := lawDigits_fn (50 + v - 6).toNat (by omega)
  rw [show (((50 + v - 6).toNat : Nat) : Int) = 50 + v - 6 by omega] at cd
  have hulen : u.os.length ≤ 1000000 := by have := ((stoOK_iff u).1 W.uok).len; omega
  have cp := PutAbsent_fn z (StoRdP zok) zok pinK4 (Lib.itoa (50 + v - 6)) (by decide) (by have := itoa_len (n := 50 + v - 6) (by omega) (by omega); omega) u W.put hulen
  have ck4 := PinKey_fn 4 (by omega)
  have e4 : pinK 4 = pinK4 := by
    unfold pinK
    rw [show (4 : Int) = ((4 : Nat) : Int) from rfl, Lib.itoa_nonneg, Lib.decDigits, dif_pos (by decide)]
    rfl
  rw [e4] at ck4
  have s1 := swt_v W.uok (now := 50 + v) (by omega) W.s1
  have s2 := swt_v W.uok (now := 50 + v + 1) (by omega) W.s2
  have s3 := swt_v W.vok (now := 50 + v + 1) (by omega) W.s3
  have hkk : keyOK (ix E 0).key = true := by
    obtain ⟨w', k1, k2⟩ := hew
    rw [k2]; exact keyF_ok (by omega)
  have cg := GetObject_no y (StoRdP W.vok) W.vok (ix E 0).key hkk W.vno
  have cl := log_v W.wok W.log
  conv => whnf
  refine CallC.sca _ (ck4) ?_ ?_
  · exact rfl
  conv => whnf
  refine CallC.sca _ (cv) ?_ ?_
  · exact rfl
  refine And.intro (show inI .i64 (50 + v) from inI64 (by omega) (by omega)) ?_
  conv => whnf
  refine DrawC.mkK 14 [(.inr 10, 11)] rfl (by kernel_rfl) ?_
  refine And.intro rfl ?_
  refine And.intro (show inI .i64 (50 + v - 6) from inI64 (by omega) (by omega)) ?_
  refine PCallK.sca _ (cd) rfl ?_
  refine PCallK.nl _ (cp) rfl ?_
  conv => whnf
  conv => whnf
  refine CallC.nl _ (s1) ?_ ?_
  · exact rfl
  refine And.intro (show inI .i64 (50 + v + 1) from inI64 (by omega) (by omega)) ?_
  conv => whnf
  refine CallC.nl _ (s2) ?_ ?_
  · exact rfl
  conv => whnf
  refine CallC.sca _ (cg) ?_ ?_
  · exact rfl
  refine And.intro (show inI .i64 (50 + v + 1) from inI64 (by omega) (by omega)) ?_
  conv => whnf
  refine CallC.nl _ (s3) ?_ ?_
  · exact rfl
  conv => whnf
  refine CallC.nl _ (cl) ?_ ?_
  · exact rfl
  refine And.intro (show (0 : Int) ≤ 0 ∧ (0 : Int) < ((3 : Nat) : Int) by omega) ?_
  refine And.intro trivial (AVle.of_eq (congrArg AV.bool ?_))
  show decide ((ix E 0).t = (ix E 0).t) = true
  exact decide_eq_true rfl
theorem law_Pin (code : List UInt8) (hc : code.length ≤ 9223372036854775807) (more : List UInt8) (hm : more.length ≤ 9223372036854775807) : VFn Tryz.prog 3 [byts code, byts more] (.bool true) := lawPin code more hc hm
end Go.Proofs.YtfaffgneccjpbaaGreatDoor
