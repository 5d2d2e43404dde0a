/- Contracts of functions that the claim reaches, and the plain law of what they compute; each theorem bears its own conditions. -/
import Derived.Test.YtgiaaaejobhngaaGreatDoorQ1
import Derived.Test.YtgiaaaejobhngaaGreatDoorV45
import Derived.Test.YtgiaaaejobhngaaGreatDoorQ5
import Derived.Test.YtgiaaaejobhngaaGreatDoorQ4
import Derived.Test.YtgiaaaejobhngaaGreatDoorQ2
set_option linter.unusedVariables false
set_option linter.constructorNameAsVariable false
set_option linter.unusedSimpArgs false
set_option maxRecDepth 20000
namespace Go.Proofs.YtgiaaaejobhngaaGreatDoor
open Go Go.Vw

structure Src where
  code : List UInt8
  at_ : Int
  seed : Int
abbrev byts (L : List UInt8) : AV := .sl 1 L.length fun i => [.int .u8 ((ix L i).toNat : Int)]
def Src.row (s : Src) : List AV := [byts s.code, .int .i64 s.at_, .int .i64 s.seed]
def Src.ok (s : Src) (k : Int) : Prop := (0 ≤ s.at_ ∧ s.at_ ≤ k) ∧ (0 ≤ s.seed ∧ s.seed < 2147483648) ∧ s.code.length ≤ 1000000000
def Src.chr (s : Src) : Int := (ix s.code (s.at_ + 1 - 1).toNat).toNat
def Src.sd (s : Src) : Int := (s.seed * 1103515245 + 12345).tmod 2147483648
def Src.byte (s : Src) : Int × Src :=
  if s.at_ + 1 ≤ s.code.length then (s.chr, { s with at_ := s.at_ + 1, seed := (s.seed * 31 + s.chr + 7).tmod 2147483648 })
  else if 3000 < s.at_ + 1 then (0, { s with at_ := s.at_ + 1 })
  else ((s.sd.tdiv 65536).tmod 256, { s with at_ := s.at_ + 1, seed := s.sd })
theorem tmod_b {n m : Int} (h : 0 ≤ n) (hm : 0 < m) : 0 ≤ n.tmod m ∧ n.tmod m < m := by
  rw [Int.tmod_eq_emod_of_nonneg h]
  exact ⟨Int.emod_nonneg _ (by omega), Int.emod_lt_of_pos _ hm⟩
theorem tdiv_b {n : Int} {m : Int} (h : 0 ≤ n) (hm : 0 < m) : 0 ≤ n.tdiv m ∧ n.tdiv m ≤ n := by
  rw [Int.tdiv_eq_ediv_of_nonneg h]
  exact ⟨Int.ediv_nonneg h (by omega), Int.ediv_le_self _ h⟩
theorem chr_b (s : Src) : 0 ≤ s.chr ∧ s.chr ≤ 255 := by
  unfold Src.chr
  have := (ix s.code (s.at_ + 1 - 1).toNat).toNat_lt
  omega
theorem byte_b (s : Src) {k : Int} (h : s.ok k) : (0 ≤ s.byte.1 ∧ s.byte.1 ≤ 255) ∧ s.byte.2.ok (k + 1) ∧ s.byte.2.code = s.code := by
  obtain ⟨⟨a0, a1⟩, ⟨s0, s1⟩, hc⟩ := h
  have hch := chr_b s
  have hsd := tmod_b (n := s.seed * 1103515245 + 12345) (m := 2147483648) (by omega) (by omega)
  unfold Src.byte
  split
  · refine ⟨hch, ⟨⟨by simp only; omega, by simp only; omega⟩, ?_, hc⟩, rfl⟩
    exact tmod_b (by omega) (by omega)
  · split
    · exact ⟨by simp, ⟨⟨by simp only; omega, by simp only; omega⟩, ⟨s0, s1⟩, hc⟩, rfl⟩
    · refine ⟨?_, ⟨⟨by simp only; omega, by simp only; omega⟩, hsd, hc⟩, rfl⟩
      have h1 := tdiv_b (n := s.sd) (m := 65536) hsd.1 (by omega)
      have h2 := tmod_b (n := s.sd.tdiv 65536) (m := 256) h1.1 (by omega)
      simp only; omega
theorem byte_fn (s : Src) (h : s.ok 1000000000) : FnM Tryz.prog 208 1 [.bptr 0 0] [(0, .box s.row)] (.int .i64 s.byte.1) [(0, .box s.byte.2.row)] 1 := by
  have h' := h
  obtain ⟨⟨a0, a1⟩, ⟨s0, s1⟩, hc⟩ := h
  have hch := chr_b s
  have hsd := tmod_b (n := s.seed * 1103515245 + 12345) (m := 2147483648) (by omega) (by omega)
  obtain ⟨R, hR⟩ : ∃ R, R = s.byte := ⟨_, rfl⟩
  rw [← hR]
  refine FnM.introC Tryz.call208 Tryz.func208 rfl rfl ?_
  refine And.intro (inI64 (by omega) (by omega)) ?_
  refine DrawC.mk 10 rfl (by kernel_rfl) ?_
  refine Grd.intro (fun g1 => ?_) (fun g1 => ?_)
  · have g1 : s.at_ + 1 ≤ s.code.length := of_decide_eq_true g1
    have hR' : R = (s.chr, { s with at_ := s.at_ + 1, seed := (s.seed * 31 + s.chr + 7).tmod 2147483648 }) := by rw [hR, Src.byte, if_pos g1]
    refine DrawC.mk 23 rfl (by kernel_rfl) ?_
    refine And.intro (inI64 (by omega) (by omega)) ?_
    refine And.intro (inI64 (by omega) (by omega)) ?_
    refine And.intro ⟨by omega, by omega⟩ ?_
    refine And.intro (show inI .i64 s.chr from inI64 (by omega) (by omega)) ?_
    refine And.intro (show inI .i64 (s.seed * 31 + s.chr) from inI64 (by omega) (by omega)) ?_
    refine And.intro (show inI .i64 (s.seed * 31 + s.chr + 7) from inI64 (by omega) (by omega)) ?_
    refine And.intro (by decide) ?_
    refine DrawC.mk 13 rfl (by kernel_rfl) ?_
    refine And.intro (inI64 (by omega) (by omega)) ?_
    refine And.intro ⟨by omega, by omega⟩ ?_
    refine And.intro (show inI .i64 s.chr from inI64 (by omega) (by omega)) ?_
    subst hR'
    exact And.intro trivial ⟨[(0, 0)], rfl, AVle.refl _, ⟨MOle.refl _, trivial⟩⟩
  · have g1 : ¬ s.at_ + 1 ≤ s.code.length := of_decide_eq_false g1
    refine Grd.intro (fun g2 => ?_) (fun g2 => ?_)
    · have g2 : 3000 < s.at_ + 1 := of_decide_eq_true g2
      have hR' : R = (0, { s with at_ := s.at_ + 1 }) := by rw [hR, Src.byte, if_neg g1, if_pos g2]
      subst hR'
      exact And.intro trivial ⟨[(0, 0)], rfl, AVle.refl _, ⟨MOle.refl _, trivial⟩⟩
    · have g2 : ¬ 3000 < s.at_ + 1 := of_decide_eq_false g2
      have hR' : R = ((s.sd.tdiv 65536).tmod 256, { s with at_ := s.at_ + 1, seed := s.sd }) := by rw [hR, Src.byte, if_neg g1, if_neg g2]
      refine And.intro (inI64 (by omega) (by omega)) ?_
      refine And.intro (inI64 (by omega) (by omega)) ?_
      refine And.intro (by decide) ?_
      have h1 := tdiv_b (n := s.sd) (m := 65536) hsd.1 (by omega)
      have hsd' : 0 ≤ s.sd ∧ s.sd < 2147483648 := hsd
      refine And.intro ⟨by decide, show inI .i64 (s.sd.tdiv 65536) from inI64 (by omega) (by omega)⟩ ?_
      refine And.intro (by decide) ?_
      subst hR'
      exact And.intro trivial ⟨[(0, 0)], rfl, AVle.refl _, ⟨MOle.refl _, trivial⟩⟩
def Src.next (s : Src) (n : Int) : Int × Src :=
  if n ≤ 1 then (0, s)
  else if n ≤ 256 then (s.byte.1.tmod n, s.byte.2)
  else ((s.byte.1 * 65536 + s.byte.2.byte.1 * 256 + s.byte.2.byte.2.byte.1).tmod n, s.byte.2.byte.2.byte.2)
theorem next_b (s : Src) {k : Int} (h : s.ok k) (hk : 0 ≤ k) (n : Int) : (0 ≤ (s.next n).1 ∧ (1 ≤ n → (s.next n).1 < n)) ∧ (s.next n).2.ok (k + 3) ∧ (s.next n).2.code = s.code := by
  have h1 := byte_b s h
  have h2 := byte_b s.byte.2 h1.2.1
  have h3 := byte_b s.byte.2.byte.2 h2.2.1
  have w : ∀ (x : Src) (a b : Int), x.ok a → a ≤ b → x.ok b := fun x a b hx hab => ⟨⟨hx.1.1, by have := hx.1.2; omega⟩, hx.2⟩
  unfold Src.next
  split
  · exact ⟨⟨by simp, fun _ => by simp only; omega⟩, w s k _ h (by omega), rfl⟩
  · split
    · have := tmod_b (n := s.byte.1) (m := n) h1.1.1 (by omega)
      exact ⟨⟨this.1, fun _ => this.2⟩, w _ _ _ h1.2.1 (by omega), h1.2.2⟩
    · have := tmod_b (n := s.byte.1 * 65536 + s.byte.2.byte.1 * 256 + s.byte.2.byte.2.byte.1) (m := n) (by omega) (by omega)
      exact ⟨⟨this.1, fun _ => this.2⟩, w _ _ _ h3.2.1 (by omega), h3.2.2.trans (h2.2.2.trans h1.2.2)⟩
theorem next_fn (s : Src) (n : Int) (h : s.ok 100000000) : FnM Tryz.prog 144 1 [.bptr 0 0, .int .i64 n] [(0, .box s.row)] (.int .i64 (s.next n).1) [(0, .box (s.next n).2.row)] 1 := by
  have h1 := byte_b s h
  have h2 := byte_b s.byte.2 h1.2.1
  have h3 := byte_b s.byte.2.byte.2 h2.2.1
  have w : ∀ (x : Src) (a : Int), x.ok a → a ≤ 1000000000 → x.ok 1000000000 := fun x a hx hab => ⟨⟨hx.1.1, by have := hx.1.2; omega⟩, hx.2⟩
  obtain ⟨R, hR⟩ : ∃ R, R = s.next n := ⟨_, rfl⟩
  rw [← hR]
  refine FnM.introC Tryz.call144 Tryz.func144 rfl rfl ?_
  refine Grd.intro (fun g1 => ?_) (fun g1 => ?_)
  · have g1 : n ≤ 1 := of_decide_eq_true g1
    rw [Src.next, if_pos g1] at hR
    subst hR
    exact And.intro trivial ⟨[(0, 0)], rfl, AVle.refl _, ⟨MOle.refl _, trivial⟩⟩
  have g1 : ¬ n ≤ 1 := of_decide_eq_false g1
  refine Grd.intro (fun g2 => ?_) (fun g2 => ?_)
  · have g2 : n ≤ 256 := of_decide_eq_true g2
    rw [Src.next, if_neg g1, if_pos g2] at hR
    conv => whnf
    refine CallC.k [(0, 0)] (byte_fn s (w _ _ h (by omega))) rfl rfl (AVsle.refl _) ⟨MOle.refl _, trivial⟩ rfl ?_
    refine And.intro (show n ≠ 0 by omega) ?_
    subst hR
    exact And.intro trivial ⟨[(0, 0)], rfl, AVle.refl _, ⟨MOle.refl _, trivial⟩⟩
  have g2 : ¬ n ≤ 256 := of_decide_eq_false g2
  rw [Src.next, if_neg g1, if_neg g2] at hR
  conv => whnf
  refine CallC.k [(0, 0)] (byte_fn s (w _ _ h (by omega))) rfl rfl (AVsle.refl _) ⟨MOle.refl _, trivial⟩ rfl ?_
  conv => whnf
  refine CallC.k [(0, 0)] (byte_fn s.byte.2 (w _ _ h1.2.1 (by omega))) rfl rfl (AVsle.refl _) ⟨MOle.refl _, trivial⟩ rfl ?_
  conv => whnf
  refine CallC.k [(0, 0)] (byte_fn s.byte.2.byte.2 (w _ _ h2.2.1 (by omega))) rfl rfl (AVsle.refl _) ⟨MOle.refl _, trivial⟩ rfl ?_
  refine And.intro (inI64 (by omega) (by omega)) ?_
  refine And.intro (inI64 (by omega) (by omega)) ?_
  refine And.intro (inI64 (by omega) (by omega)) ?_
  refine And.intro (inI64 (by omega) (by omega)) ?_
  refine And.intro (show n ≠ 0 by omega) ?_
  subst hR
  exact And.intro trivial ⟨[(0, 0)], rfl, AVle.refl _, ⟨MOle.refl _, trivial⟩⟩
end Go.Proofs.YtgiaaaejobhngaaGreatDoor
set_option linter.unusedVariables false
set_option linter.constructorNameAsVariable false
set_option linter.unusedSimpArgs false
set_option maxRecDepth 20000
namespace Go.Proofs.YtgiaaaejobhngaaGreatDoor
open Go Go.Vw

abbrev SS := List Smp × Int × Src
def smpStep (x : SS) : SS :=
  let f := x.2.1 + (x.2.2.next 4).1
  let a := (x.2.2.next 4).2.next 40
  let b := a.2.next 12
  let c := b.2.next 2
  let v := if b.1.tdiv 10 * (1 + c.1) = 0 then a.1 - 10 else if b.1.tdiv 10 * (1 + c.1) = 1 then 1000000 else -1000000
  (x.1 ++ [⟨f, v⟩], f + 1, c.2)
def smpIt : Nat → SS → SS
  | 0, x => x
  | k + 1, x => smpStep (smpIt k x)
def SSok (x : SS) (n : Nat) (k : Int) : Prop := x.1.length = n ∧ (∀ e ∈ x.1, -1000000 ≤ e.v ∧ e.v ≤ 1000000) ∧ x.2.2.ok k ∧ (0 ≤ x.2.1 ∧ x.2.1 ≤ k)
theorem wk {x : Src} {a b : Int} (hx : x.ok a) (h : a ≤ b) : x.ok b := ⟨⟨hx.1.1, by have := hx.1.2; omega⟩, hx.2⟩
theorem step_ok {x : SS} {n : Nat} {k : Int} (h : SSok x n k) (hk : 0 ≤ k) : SSok (smpStep x) (n + 1) (k + 12) := by
  obtain ⟨h1, h2, h3, h4⟩ := h
  have n1 := next_b x.2.2 h3 hk 4
  have n2 := next_b (x.2.2.next 4).2 n1.2.1 (by omega) 40
  have n3 := next_b ((x.2.2.next 4).2.next 40).2 n2.2.1 (by omega) 12
  have n4 := next_b (((x.2.2.next 4).2.next 40).2.next 12).2 n3.2.1 (by omega) 2
  have a1 := n1.1.2 (by omega)
  have a2 := n2.1.2 (by omega)
  unfold smpStep
  refine ⟨by simp [h1], fun e he => ?_, wk n4.2.1 (by omega), by simp only; omega⟩
  simp only [List.mem_append, List.mem_cons, List.not_mem_nil, or_false] at he
  rcases he with he | he
  · exact h2 e he
  · subst he
    simp only
    have := n2.1.1
    split
    · omega
    · split <;> omega
theorem it_ok {x : SS} {k : Int} (h : SSok x 0 k) (hk : 0 ≤ k) : ∀ n, SSok (smpIt n x) n (k + 12 * n)
  | 0 => by simpa [smpIt] using h
  | n + 1 => by
    have := step_ok (it_ok h hk n) (by omega)
    have e : k + 12 * ((n + 1 : Nat) : Int) = k + 12 * (n : Int) + 12 := by omega
    rw [e]; exact this
def Src.samples (s : Src) (f n : Int) : SS := smpIt (s.next (n + 1)).1.toNat ([], f, (s.next (n + 1)).2)
end Go.Proofs.YtgiaaaejobhngaaGreatDoor
set_option linter.unusedVariables false
set_option linter.constructorNameAsVariable false
set_option linter.unusedSimpArgs false
set_option maxRecDepth 20000
namespace Go.Proofs.YtgiaaaejobhngaaGreatDoor
open Go Go.Vw

def Ag.mrg (a b : Ag) : Ag := if a.c = 0 then b else if b.c = 0 then a else ⟨a.c + b.c, a.s + b.s, if b.mn < a.mn then b.mn else a.mn, if a.mx < b.mx then b.mx else a.mx, a.f, b.l⟩
def Ag.cells (a : Ag) : List AV := [.int .i64 a.c, .int .i64 a.s, .int .i64 a.mn, .int .i64 a.mx, .int .i64 a.f, .int .i64 a.l]
def one (v : Int) : Ag := ⟨1, v, v, v, v, v⟩
def aggL (L : List Smp) : Ag := L.foldl (fun a s => a.mrg (one s.v)) default
theorem aggL_snoc {L : List Smp} {i : Nat} (h : i < L.length) : aggL (L.take (i + 1)) = (aggL (L.take i)).mrg (one (ix L i).v) := by
  unfold aggL; rw [take_snoc h, List.foldl_append]; rfl
def Ag.B (a : Ag) (n : Int) : Prop := a.c = n ∧ (-1000000 * n ≤ a.s ∧ a.s ≤ 1000000 * n) ∧ (n = 0 → a = default) ∧ (0 < n → a.some = true)
theorem mrg_B {a : Ag} {n v : Int} (h : a.B n) (hn : 0 ≤ n ∧ n < 100000) (hv : -1000000 ≤ v ∧ v ≤ 1000000) : (a.mrg (one v)).B (n + 1) := by
  obtain ⟨h1, h2, h3, h4⟩ := h
  unfold Ag.mrg
  by_cases h0 : a.c = 0
  · rw [if_pos h0]
    refine ⟨by simp only [one]; omega, by simp only [one]; omega, fun h => by omega, fun _ => ?_⟩
    unfold Ag.some one
    simp [within]; omega
  · rw [if_neg h0, if_neg (show ¬ (one v).c = 0 by simp [one])]
    have h5 := h4 (by omega)
    unfold Ag.some at h5
    simp [within] at h5
    refine ⟨by simp only [one]; omega, by simp only [one]; omega, fun h => by omega, fun _ => ?_⟩
    unfold Ag.some one
    simp only [within]
    have e1 : ∀ m, m ≤ a.mn → m ≤ v → (a.c + 1) * m ≤ a.s + v := fun m q1 q2 => by
      have : a.c * m ≤ a.c * a.mn := Int.mul_le_mul_of_nonneg_left q1 (by omega)
      have : (a.c + 1) * m = a.c * m + m := by rw [Int.add_mul]; omega
      omega
    have e2 : ∀ m, a.mx ≤ m → v ≤ m → a.s + v ≤ (a.c + 1) * m := fun m q1 q2 => by
      have : a.c * a.mx ≤ a.c * m := Int.mul_le_mul_of_nonneg_left q1 (by omega)
      have : (a.c + 1) * m = a.c * m + m := by rw [Int.add_mul]; omega
      omega
    by_cases m1 : v < a.mn <;> by_cases m2 : a.mx < v
    · rw [if_pos m1, if_pos m2]
      have := e1 v (by omega) (by omega)
      have := e2 v (by omega) (by omega)
      simp; omega
    · rw [if_pos m1, if_neg m2]
      have := e1 v (by omega) (by omega)
      have := e2 a.mx (by omega) (by omega)
      simp; omega
    · rw [if_neg m1, if_pos m2]
      have := e1 a.mn (by omega) (by omega)
      have := e2 v (by omega) (by omega)
      simp; omega
    · rw [if_neg m1, if_neg m2]
      have := e1 a.mn (by omega) (by omega)
      have := e2 a.mx (by omega) (by omega)
      simp; omega
theorem aggL_B {L : List Smp} (hL : L.length ≤ 100000) (hv : ∀ e ∈ L, -1000000 ≤ e.v ∧ e.v ≤ 1000000) : ∀ i : Nat, i ≤ L.length → (aggL (L.take i)).B i
  | 0, _ => ⟨rfl, show -1000000 * ((0 : Nat) : Int) ≤ 0 ∧ (0 : Int) ≤ 1000000 * ((0 : Nat) : Int) by omega, fun _ => rfl, fun h => absurd h (by simp)⟩
  | i + 1, h => by
    rw [aggL_snoc h]
    have := mrg_B (aggL_B hL hv i (by omega)) ⟨by omega, by omega⟩ (hv _ (getD_mem (L := L) h))
    simpa using this
def Src.agg (s : Src) : Ag := aggL (s.samples 0 6).1
def srcOf (code : List UInt8) : Src := ⟨code, 0, (code.length : Int).tmod 1000⟩
theorem src_ok (code : List UInt8) (h : code.length ≤ 1048576) : (srcOf code).ok 0 := by
  have := tmod_b (n := (code.length : Int)) (m := 1000) (by omega) (by omega)
  exact ⟨⟨by simp [srcOf], by simp [srcOf]⟩, ⟨this.1, by have := this.2; simp only [srcOf]; omega⟩, by simp only [srcOf]; omega⟩
theorem l00Source_fn (code : List UInt8) (h : code.length ≤ 1048576) : FnM Tryz.prog 61 0 [byts code] [] (.bptr 0 0) [(0, .box (srcOf code).row)] 1 := by
  refine FnM.introC Tryz.call61 Tryz.func61 rfl rfl ?_
  refine And.intro (by decide) ?_
  exact And.intro trivial ⟨[(0, 0)], rfl, AVle.refl _, ⟨MOle.refl _, trivial⟩⟩
end Go.Proofs.YtgiaaaejobhngaaGreatDoor
set_option linter.unusedVariables false
set_option linter.constructorNameAsVariable false
set_option linter.unusedSimpArgs false
set_option maxRecDepth 20000
namespace Go.Proofs.YtgiaaaejobhngaaGreatDoor
open Go Go.Vw

def keysS : List (List UInt8) := [[97, 47, 49], [97, 47, 50], [98, 47, 49], [98, 47, 49, 48], leaK]
def Src.shortK (s : Src) : List UInt8 × Src := (ix keysS (s.next 5).1.toNat, (s.next 5).2)
def Src.some : Nat → Src → List UInt8 × Src
  | 0, s => ([], s)
  | n + 1, s => ((Src.some n s).1 ++ [UInt8.ofNat (97 + ((Src.some n s).2.next 26).1.toNat)], ((Src.some n s).2.next 26).2)
theorem some_ok (s : Src) {k : Int} (h : s.ok k) (hk : 0 ≤ k) : ∀ n, (Src.some n s).2.ok (k + 3 * n) ∧ (Src.some n s).1.length = n
  | 0 => ⟨wk h (by omega), rfl⟩
  | n + 1 => by
    have ih := some_ok s h hk n
    have n1 := next_b (Src.some n s).2 ih.1 (by omega) 26
    exact ⟨wk n1.2.1 (by omega), by show ((Src.some n s).1 ++ [_]).length = _; rw [List.length_append, ih.2]; rfl⟩
theorem shortK_ok (s : Src) {k : Int} (h : s.ok k) (hk : 0 ≤ k) : s.shortK.2.ok (k + 3) ∧ keyOK s.shortK.1 = true ∧ s.shortK.1.length ≤ 5 := by
  have n1 := next_b s h hk 5
  have n2 := n1.1.2 (by omega)
  refine ⟨n1.2.1, ?_⟩
  have key : ∀ i : Int, 0 ≤ i → i < 5 → keyOK (ix keysS i.toNat) = true ∧ (ix keysS i.toNat).length ≤ 5 := fun i h0 h1 => by
    have : i = 0 ∨ i = 1 ∨ i = 2 ∨ i = 3 ∨ i = 4 := by omega
    rcases this with rfl | rfl | rfl | rfl | rfl <;> decide
  exact key _ n1.1.1 n2
def plStep (q : Sto × Src) : Sto × Src :=
  let k := q.2.shortK
  let a := k.2.next 5
  let d := Src.some a.1.toNat a.2
  if q.1.has k.1 = true then
    let c := d.2.next 4
    (if c.1 = 3 then wo q.1 k.1 else q.1.put k.1 d.1, c.2)
  else
    let b := d.2.next 5
    let e := Src.some b.1.toNat b.2
    (q.1.put k.1 e.1, e.2)
def plIt : Nat → Sto × Src → Sto × Src
  | 0, x => x
  | k + 1, x => plStep (plIt k x)
structure PLok (q : Sto × Src) (n : Nat) (k : Int) : Prop where
  ok : q.1.ok = true
  len : q.1.os.length ≤ n
  nx : q.1.next ≤ 1 + (n : Int)
  src : q.2.ok k
theorem put_ok {s : Sto} {k d : List UInt8} (hs : s.ok = true) (hk : keyOK k = true) (hd : d.length ≤ 600) (h1 : s.os.length < 300) (h2 : s.next < 1000000000) :
    s.room k d = 0 ∧ s.put k d = s.set k d ∧ (s.put k d).ok = true ∧ (s.put k d).next = s.next + 1 ∧ (s.put k d).os.length ≤ s.os.length + 1 := by
  have hr := room_yes (s := s) (k := k) (d := d) hd h1 h2
  have e : s.put k d = s.set k d := by unfold Sto.put; rw [if_pos hr]
  rw [e]
  exact ⟨hr, rfl, set_ok hs hk hr, rfl, set_len_le _ _ _⟩
theorem plStep_ok {q : Sto × Src} {n : Nat} {k : Int} (h : PLok q n k) (hn : n ≤ 100) (hk : 0 ≤ k) : PLok (plStep q) (n + 1) (k + 50) := by
  obtain ⟨h1, h2, h3, h4⟩ := h
  obtain ⟨k1, k2, k3⟩ := shortK_ok q.2 h4 hk
  have a1 := next_b q.2.shortK.2 k1 (by omega) 5
  have a2 := a1.1.2 (by omega)
  have s1 := some_ok (q.2.shortK.2.next 5).2 a1.2.1 (by omega) (q.2.shortK.2.next 5).1.toNat
  have hd1 : (Src.some (q.2.shortK.2.next 5).1.toNat (q.2.shortK.2.next 5).2).1.length ≤ 600 := by rw [s1.2]; omega
  unfold plStep
  dsimp only
  by_cases hh : q.1.has q.2.shortK.1 = true
  · rw [if_pos hh]
    have c1 := next_b _ s1.1 (by omega) 4
    obtain ⟨p1, p2, p3, p4, p5⟩ := put_ok h1 k2 hd1 (by omega) (by omega)
    by_cases hc : ((Src.some (q.2.shortK.2.next 5).1.toNat (q.2.shortK.2.next 5).2).2.next 4).1 = 3
    · rw [if_pos hc]
      have := wo_len q.1 q.2.shortK.1
      exact ⟨wo_ok h1 _, Nat.le_trans this (by omega), by show q.1.next ≤ _; omega, wk c1.2.1 (by omega)⟩
    · rw [if_neg hc]
      exact ⟨p3, by show (q.1.put _ _).os.length ≤ _; omega, by show (q.1.put _ _).next ≤ _; omega, wk c1.2.1 (by omega)⟩
  · rw [if_neg hh]
    have c1 := next_b _ s1.1 (by omega) 5
    have c2 := c1.1.2 (by omega)
    have s2 := some_ok _ c1.2.1 (by omega) ((Src.some (q.2.shortK.2.next 5).1.toNat (q.2.shortK.2.next 5).2).2.next 5).1.toNat
    obtain ⟨p1, p2, p3, p4, p5⟩ := put_ok h1 k2 (d := (Src.some ((Src.some (q.2.shortK.2.next 5).1.toNat (q.2.shortK.2.next 5).2).2.next 5).1.toNat ((Src.some (q.2.shortK.2.next 5).1.toNat (q.2.shortK.2.next 5).2).2.next 5).2).1) (by rw [s2.2]; omega) (by omega) (by omega)
    exact ⟨p3, by show (q.1.put _ _).os.length ≤ _; omega, by show (q.1.put _ _).next ≤ _; omega, wk s2.1 (by omega)⟩
def stoN0 : Sto := ⟨[], 1⟩
theorem plIt_ok {s : Src} {k : Int} (h : s.ok k) (hk : 0 ≤ k) : ∀ n, n ≤ 100 → PLok (plIt n (stoN0, s)) n (k + 50 * n)
  | 0, _ => ⟨(by decide : stoN0.ok = true), (by decide : stoN0.os.length ≤ 0), (by decide : stoN0.next ≤ 1 + ((0 : Nat) : Int)), wk h (by omega)⟩
  | n + 1, hn => by
    have ih := plIt_ok h hk n (by omega)
    have := plStep_ok ih (by omega) (by omega)
    exact ⟨this.1, this.2, this.3, wk this.4 (by omega)⟩
def Src.pStore (s : Src) : Sto × Src := plIt (s.next 9).1.toNat (stoN0, (s.next 9).2)
theorem pStore_ok (s : Src) {k : Int} (h : s.ok k) (hk : 0 ≤ k) : PLok s.pStore 8 (k + 500) := by
  have n1 := next_b s h hk 9
  have n2 := n1.1.2 (by omega)
  have := plIt_ok n1.2.1 (by omega) (s.next 9).1.toNat (by omega)
  exact ⟨this.1, Nat.le_trans this.2 (by omega), by have := this.3; show (plIt _ _).1.next ≤ _; omega, wk this.4 (by omega)⟩
def unL (x : Sto) : Sto := if x.has leaK = true then wo x leaK else x
theorem unL_ok {x : Sto} (h : x.ok = true) : (unL x).ok = true ∧ (unL x).os.length ≤ x.os.length ∧ (unL x).next = x.next ∧ (unL x).has leaK = false := by
  unfold unL
  split
  · exact ⟨wo_ok h _, wo_len _ _, rfl, wo_has _ _⟩
  · rename_i hh
    exact ⟨h, Nat.le_refl _, rfl, by simpa using hh⟩
def Src.leL (s : Src) : Lea × Src :=
  let a := s.next 4
  let b := a.2.next 3
  let d := b.2.next 30
  let e := d.2.next 4
  (⟨1 + a.1, b.1, if ((e.1 * 3).tmod 4).tmod 2 = 0 then 0 else 10 + d.1⟩, e.2)
def Src.leased (s : Src) : Sto :=
  let p := s.pStore
  let c := p.2.next 4
  if c.1 = 3 then unL p.1 else (unL p.1).set leaK (c.2.leL).1.text
def Src.leasedR (s : Src) : Src :=
  let p := s.pStore
  let c := p.2.next 4
  if c.1 = 3 then c.2 else (c.2.leL).2
theorem leL_ok (s : Src) {k : Int} (h : s.ok k) (hk : 0 ≤ k) : s.leL.1.ok = true ∧ s.leL.1.tok ≤ 4 ∧ s.leL.1.til ≤ 60 := by
  have a := next_b s h hk 4
  have b := next_b _ a.2.1 (by omega) 3
  have d := next_b _ b.2.1 (by omega) 30
  have a1 := a.1.2 (by omega)
  have b1 := b.1.2 (by omega)
  have d1 := d.1.2 (by omega)
  have a0 := a.1.1
  have b0 := b.1.1
  have d0 := d.1.1
  unfold Src.leL
  dsimp only [Lea.ok]
  generalize (((s.next 4).2.next 3).2.next 30).1 = z at d1 d0
  generalize (s.next 4).1 = x at a1 a0
  generalize ((s.next 4).2.next 3).1 = y at b1 b0
  have hz : ∀ p : Prop, [Decidable p] → 0 ≤ (if p then (0 : Int) else 10 + z) ∧ (if p then (0 : Int) else 10 + z) ≤ 60 := fun p _ => by split <;> omega
  have := hz (((((((s.next 4).2.next 3).2.next 30).2.next 4).1 * 3).tmod 4).tmod 2 = 0)
  refine ⟨?_, by omega, this.2⟩
  simp only [within, Bool.and_eq_true, decide_eq_true_eq]
  exact ⟨⟨by omega, by omega⟩, ⟨by omega, by omega⟩, this.1, by omega⟩
theorem leL_b (s : Src) {k : Int} (h : s.ok k) (hk : 0 ≤ k) : ∀ x ∈ [s.leL.1.tok, s.leL.1.who, s.leL.1.til], -9223372036854775807 ≤ x ∧ x ≤ 9223372036854775807 := by
  have := (leL_ok s h hk).1
  simp only [Lea.ok, within, Bool.and_eq_true, decide_eq_true_eq] at this
  intro x hx
  simp at hx
  rcases hx with rfl | rfl | rfl <;> omega
theorem leased_old (s : Src) {k : Int} (h : s.ok k) (hk : 0 ≤ k) : ∃ t, Old s.leased t ∧ s.leased.os.length ≤ 9 ∧ s.leased.next ≤ 10 := by
  obtain ⟨h1, h2, h3, h4⟩ := pStore_ok s h hk
  obtain ⟨u1, u2, u3, u4⟩ := unL_ok h1
  have c := next_b _ h4 (by omega) 4
  have h3' : s.pStore.1.next ≤ 9 := by omega
  unfold Src.leased
  dsimp only
  split
  · refine ⟨0, ⟨u1, by omega, by omega, by omega, .inl ?_⟩, by omega, by omega⟩
    have e : (unL s.pStore.1).lea = (default, 5) := by unfold Sto.lea; rw [if_neg (by rw [u4]; simp)]
    rw [e]
    exact ⟨rfl, rfl, rfl⟩
  · obtain ⟨l1, l2, l3⟩ := leL_ok (s.pStore.2.next 4).2 c.2.1 (by omega)
    obtain ⟨p1, p2, p3, p4, p5⟩ := put_lea (s := unL s.pStore.1) u1 l1 (by omega) (by omega)
    have e : (unL s.pStore.1).put leaK (s.pStore.2.next 4).2.leL.1.text = (unL s.pStore.1).set leaK (s.pStore.2.next 4).2.leL.1.text := by unfold Sto.put; rw [if_pos p1]
    rw [e] at p2 p3 p4 p5
    have lb := lea_b l1
    refine ⟨(s.pStore.2.next 4).2.leL.1.tok, ⟨p2, by omega, by omega, by omega, .inr ?_⟩, by omega, by omega⟩
    rw [p3]
    exact ⟨rfl, rfl, l1, l3⟩
end Go.Proofs.YtgiaaaejobhngaaGreatDoor
set_option linter.unusedVariables false
set_option linter.constructorNameAsVariable false
set_option linter.unusedSimpArgs false
set_option maxRecDepth 20000
namespace Go.Proofs.YtgiaaaejobhngaaGreatDoor
open Go Go.Vw

theorem cut_rows' {α : Type} [Inhabited α] {f : α → List AV} {L : List α} {i q : Nat} (hi : i < L.length) (hq : q = i + 1) {M : List α} (hM : L.take i ++ L.drop (i + 1) = M) {r0 : Nat → List AV} {n1 : Nat} (hn : n1 = i) :
    ∀ j, j < M.length → appRows n1 (appRows 0 r0 fun j => f (ix L j)) (fun j => f (ix L (q + j))) j = f (ix M j) := by
  subst hM hq hn
  refine app_rows (f := f) (by simp; omega) (fun j hj => ?_) fun j hj => ?_
  · rw [appRows_ge (Nat.zero_le _), Nat.sub_zero, ix_take (by simp at hj; omega)]
  · rw [ix_drop]
theorem l01Delete_fn (x : Sto) (hs : x.ok = true) (k : List UInt8) (hk : x.has k = true) : VFn Tryz.prog 142 [x.av, .str (B k), .int .i64 (x.get k).ver] (.tup [(wo x k).av, .int .i64 0]) := by
  have hL := (Sto.ok_at hs).2.1
  have c := l01Find_fn x (by omega) k
  rw [Srt.fi (Sto.srt hs) k, if_pos (show hasK k x.os = true from hk)] at c
  obtain ⟨h1, h2⟩ := hasK_at hk
  have hcut := wo_cut hs hk
  have hlen : (wo x k).os.length = lb k x.os + (x.os.length - (lb k x.os + 1)) := by rw [← hcut]; unfold Sto.pos; simp; omega
  refine VFn.introC Tryz.call142 Tryz.func142 rfl rfl ?_
  conv => whnf
  refine CallC.sca _ (c) ?_ ?_
  · exact rfl
  refine And.intro ⟨by omega, by omega⟩ ?_
  refine Grd.intro (fun h => (wyes' h (decide_eq_true rfl)).elim) (fun _ => ?_)
  refine DrawC.mkK 11 [(.inr 0, 5)] rfl (by kernel_rfl) ?_
  refine And.intro rfl ?_
  conv => whnf
  refine And.intro ⟨by omega, by omega⟩ ?_
  conv => whnf
  refine And.intro ⟨show (0 + ((lb k x.os : Nat) : Int).toNat) * 40 ≤ 140737488355328 by omega, fun i hi => rfl⟩ ?_
  conv => whnf
  refine And.intro (inI64 (by omega) (by omega)) ?_
  conv => whnf
  refine And.intro ⟨by omega, by omega⟩ ?_
  conv => whnf
  refine And.intro ⟨show (0 + ((lb k x.os : Nat) : Int).toNat + (x.os.length - (((lb k x.os : Nat) : Int) + 1).toNat)) * 40 ≤ 140737488355328 by omega, fun i hi => rfl⟩ ?_
  refine And.intro trivial (AVle.tup (AVsle.cons (AVle.agg (AVsle.cons (AVle.sl (show 0 + ((lb k x.os : Nat) : Int).toNat + (x.os.length - (((lb k x.os : Nat) : Int) + 1).toNat) = _ by omega) fun j hj => cut_rows' (f := Ob.row) h1 (show (((lb k x.os : Nat) : Int) + 1).toNat = lb k x.os + 1 by omega) hcut (show 0 + ((lb k x.os : Nat) : Int).toNat = lb k x.os by omega) j (by have hj' : j < 0 + ((lb k x.os : Nat) : Int).toNat + (x.os.length - (((lb k x.os : Nat) : Int) + 1).toNat) := hj; omega)) (AVsle.refl _))) (AVsle.refl _)))
end Go.Proofs.YtgiaaaejobhngaaGreatDoor
set_option linter.unusedVariables false
set_option linter.constructorNameAsVariable false
set_option linter.unusedSimpArgs false
set_option maxRecDepth 20000
namespace Go.Proofs.YtgiaaaejobhngaaGreatDoor
open Go Go.Vw

theorem chance_fn (s : Src) (n : Int) (h : s.ok 100000000) (hn : -1000000 ≤ n ∧ n ≤ 1000000) : FnM Tryz.prog 143 1 [.bptr 0 0, .int .i64 n] [(0, .box s.row)] (.bool (decide ((s.next n).1 = n - 1))) [(0, .box (s.next n).2.row)] 1 := by
  refine FnM.introC Tryz.call143 Tryz.func143 rfl rfl ?_
  conv => whnf
  refine CallC.k [(0, 0)] (next_fn s n h) rfl rfl (AVsle.refl _) ⟨MOle.refl _, trivial⟩ rfl ?_
  refine And.intro (inI64 (by omega) (by omega)) ?_
  exact And.intro trivial ⟨[(0, 0)], rfl, AVle.refl _, ⟨MOle.refl _, trivial⟩⟩
theorem pick_fn (s : Src) (L : List (List UInt8)) (h : s.ok 100000000) (h0 : 0 < L.length) (h1 : L.length ≤ 1000) : FnM Tryz.prog 240 2 [.bptr 0 0, .osl 1] [(0, .box s.row), (1, .arr 9 1 L.length fun i => [.str (B (ix L i))])] (.str (B (ix L (s.next L.length).1.toNat))) [(0, .box (s.next L.length).2.row), (1, .arr 9 1 L.length fun i => [.str (B (ix L i))])] 2 := by
  have n1 := next_b s (k := 100000000) h (by omega) L.length
  have n2 := n1.1.2 (by omega)
  refine FnM.introC Tryz.call240 Tryz.func240 rfl rfl ?_
  refine Grd.intro (fun h2 => absurd (of_decide_eq_true h2) (by omega)) (fun h2 => ?_)
  conv => whnf
  refine CallC.k [(0, 0)] (next_fn s L.length h) rfl rfl (AVsle.refl _) ⟨MOle.refl _, trivial⟩ rfl ?_
  refine And.intro ⟨n1.1.1, n2⟩ ?_
  exact And.intro trivial ⟨[(0, 0), (1, 1)], rfl, AVle.refl _, ⟨MOle.refl _, MOle.refl _, trivial⟩⟩
theorem shortKey_fn (s : Src) (h : s.ok 100000000) : FnM Tryz.prog 206 1 [.bptr 0 0] [(0, .box s.row)] (.str (B s.shortK.1)) [(0, .box s.shortK.2.row)] 1 := by
  refine FnM.introC Tryz.call206 Tryz.func206 rfl rfl ?_
  conv => whnf
  refine CallC.k [(0, 0), (1, 1)] (pick_fn s keysS h (by decide) (by decide)) rfl rfl (AVsle.refl _) ⟨MOle.refl _, MOle.arr rfl fun i hi => ?_, trivial⟩ rfl ?_
  · have hi : i < 5 := hi
    rcases (show i = 0 ∨ i = 1 ∨ i = 2 ∨ i = 3 ∨ i = 4 by omega) with rfl | rfl | rfl | rfl | rfl <;> rfl
  exact And.intro trivial ⟨[(0, 0)], rfl, AVle.refl _, ⟨MOle.refl _, trivial⟩⟩
theorem bytesOf_ix (L : List UInt8) : bytesOf L.length (fun j => [.int .u8 ((ix L j).toNat : Int)]) = B L := by
  unfold bytesOf strOfNums B
  congr 2
  apply List.ext_getElem
  · simp
  · intro i h1 h2
    simp only [List.getElem_map, List.getElem_range, rowB]
    rw [ix_lt h2]
    simp
theorem some_fn (s : Src) (n : Nat) (h : s.ok 1000000) (hn : n ≤ 1000) : FnM Tryz.prog 207 1 [.bptr 0 0, .int .i64 n] [(0, .box s.row)] (.str (B (Src.some n s).1)) [(0, .box (Src.some n s).2.row)] 1 := by
  refine FnM.introC Tryz.call207 Tryz.func207 rfl rfl ?_
  refine LoopC.mk (fun i : Nat => i ≤ n) (fun i => [(0, .bptr 0 0), (1, .int .i64 n), (5, .osl 1), (6, .int .i64 i)])
    (fun i => [(0, .box (Src.some i s).2.row), (1, .arr 5 1 (Src.some i s).1.length fun j => [.int .u8 ((ix (Src.some i s).1 j).toNat : Int)])]) 2 (fun i => n - i) 0
    ⟨Nat.zero_le _, [(0, 0), (1, 1)], rfl, rfl, ⟨AVle.refl _, AVle.refl _, AVle.refl _, AVle.refl _, trivial⟩, ⟨MOle.refl _, MOle.arr rfl fun i hi => absurd hi (Nat.not_lt_zero i), trivial⟩⟩ ?_
  intro i hi
  have ih := some_ok s h (by omega) i
  have n1 := next_b (Src.some i s).2 ih.1 (by omega) 26
  have n2 := n1.1.2 (by omega)
  refine Grd.intro (fun h2 => ?_) (fun h2 => ?_)
  · have hin : i < n := by have := of_decide_eq_true h2; omega
    have e26 : 0 ≤ ((Src.some i s).2.next 26).1 ∧ ((Src.some i s).2.next 26).1 < 26 := ⟨n1.1.1, n2⟩
    conv => whnf
    refine CallC.k [(0, 0)] (next_fn (Src.some i s).2 26 (wk ih.1 (by omega))) rfl rfl (AVsle.refl _) ⟨MOle.refl _, trivial⟩ rfl ?_
    refine And.intro (inI64 (by omega) (by omega)) ?_
    refine And.intro (show inI .u8 (97 + ((Src.some i s).2.next 26).1) from ⟨by show (0 : Int) ≤ _; omega, by show _ ≤ (255 : Int); omega⟩) ?_
    refine And.intro ⟨show ((Src.some i s).1.length + 1) * 1 ≤ 140737488355328 by omega, all1 rfl⟩ ?_
    refine And.intro (inI64 (by omega) (by omega)) ?_
    refine ⟨i + 1, hin, by omega, [(0, 0), (4, 1)], rfl, rfl, ⟨AVle.refl _, AVle.refl _, AVle.refl _, AVle.of_eq (congrArg (AV.int .i64) (by simp)), trivial⟩, ⟨MOle.refl _, arr_next (f := fun b : UInt8 => [.int .u8 (b.toNat : Int)]) (show (Src.some (i + 1) s).1 = (Src.some i s).1 ++ [UInt8.ofNat (97 + ((Src.some i s).2.next 26).1.toNat)] from rfl) ?_, trivial⟩⟩
    show [AV.int .u8 (97 + ((Src.some i s).2.next 26).1)] = [AV.int .u8 ((UInt8.ofNat (97 + ((Src.some i s).2.next 26).1.toNat)).toNat : Int)]
    congr 2
    simp; omega
  · have : i = n := by have := of_decide_eq_false h2; omega
    subst this
    refine And.intro (fun j hj => rfl) ?_
    refine And.intro trivial ⟨[(0, 0)], rfl, AVle.of_eq (congrArg AV.str ?_), ⟨MOle.refl _, trivial⟩⟩
    exact bytesOf_ix _
end Go.Proofs.YtgiaaaejobhngaaGreatDoor
set_option linter.unusedVariables false
set_option linter.constructorNameAsVariable false
set_option linter.unusedSimpArgs false
set_option maxRecDepth 20000
namespace Go.Proofs.YtgiaaaejobhngaaGreatDoor
open Go Go.Vw

theorem l01OverNo_fn (s : Sto) (hs : s.ok = true) (k d : List UInt8) (hk : s.has k = false) : VFn Tryz.prog 153 [s.av, .str (B k), .int .i64 0, .str (B d)] (.tup [s.av, .int .i64 5]) := by
  have hg := l01Get_fn s hs k
  rw [if_neg (show ¬ s.has k = true by rw [hk]; simp)] at hg
  refine VFn.introC Tryz.call153 Tryz.func153 rfl rfl ?_
  conv => whnf
  refine CallC.sca _ (hg) ?_ ?_
  · exact rfl
  exact And.intro trivial (AVle.refl _)
theorem NewStore_fn : VFn Tryz.prog 205 [] stoN0.av := by
  refine VFn.introC Tryz.call205 Tryz.func205 rfl rfl ?_
  conv => whnf
  refine And.intro trivial (AVle.agg (AVsle.cons (AVle.sl rfl fun i hi => absurd hi (Nat.not_lt_zero i)) (AVsle.cons (AVle.refl _) AVsle.nil)))
theorem plainStore_fn (s : Src) (h : s.ok 1000) : FnM Tryz.prog 140 1 [.bptr 0 0] [(0, .box s.row)] s.pStore.1.av [(0, .box s.pStore.2.row)] 1 := by
  have n1 := next_b s h (by omega) 9
  have n2 := n1.1.2 (by omega)
  obtain ⟨R, hR⟩ : ∃ R, R = s.pStore := ⟨_, rfl⟩
  rw [← hR]
  refine FnM.introC Tryz.call140 Tryz.func140 rfl rfl ?_
  conv => whnf
  refine CallC.nl _ (NewStore_fn) ?_ ?_
  · exact rfl
  conv => whnf
  refine CallC.k [(0, 0)] (next_fn s 9 (wk h (by omega))) rfl rfl (AVsle.refl _) ⟨MOle.refl _, trivial⟩ rfl ?_
  obtain ⟨M, hM⟩ : ∃ M : Nat, (s.next 9).1 = M := ⟨(s.next 9).1.toNat, by omega⟩
  have hR2 : R = plIt M (stoN0, (s.next 9).2) := by rw [hR, Src.pStore, hM]; rfl
  have hit := plIt_ok n1.2.1 (by omega)
  obtain ⟨s1, hs1⟩ : ∃ s1, s1 = (s.next 9).2 := ⟨_, rfl⟩
  rw [← hs1] at hit hR2
  rw [hM]
  refine LoopC.mk (fun k : Nat => k ≤ M) (fun k => [(0, .bptr 0 0), (2, .bptr 1 0), (3, .bptr 2 0), (4, .int .i64 ((M : Int) - k))])
    (fun k => [(0, .box (plIt k (stoN0, s1)).2.row), (1, .box [.nilsl, .int .i64 0]), (2, .box (plIt k (stoN0, s1)).1.row)]) 3 (fun k => M - k) 0
    ⟨Nat.zero_le _, [(0, 0), (1, 1), (2, 2)], rfl, rfl, ⟨AVle.refl _, AVle.refl _, AVle.refl _, AVle.of_eq (congrArg (AV.int .i64) (by simp)), trivial⟩, ⟨MOle.of_eq (by rw [hs1]; rfl), MOle.refl _, MOle.refl _, trivial⟩⟩ ?_
  intro k hk
  refine Grd.intro (fun g1 => ?_) (fun g1 => ?_)
  · have hkM : k < M := by have := of_decide_eq_true g1; omega
    have ih := hit k (by omega)
    have hst : plIt (k + 1) (stoN0, s1) = plStep (plIt k (stoN0, s1)) := rfl
    generalize plIt k (stoN0, s1) = q at ih hst
    obtain ⟨h1, h2, h3, h4⟩ := ih
    obtain ⟨k1, k2, k3⟩ := shortK_ok q.2 h4 (by omega)
    unfold plStep at hst
    dsimp only at hst
    have cg := l01Get_fn q.1 h1 q.2.shortK.1
    conv => whnf
    refine CallC.k [(0, 0)] (shortKey_fn q.2 (wk h4 (by omega))) rfl rfl (AVsle.refl _) ⟨MOle.refl _, trivial⟩ rfl ?_
    generalize q.2.shortK = K at k1 k2 k3 hst cg
    have a1 := next_b K.2 k1 (by omega) 5
    have a2 := a1.1.2 (by omega)
    obtain ⟨a, ha⟩ : ∃ a : Nat, (K.2.next 5).1 = a := ⟨(K.2.next 5).1.toNat, by omega⟩
    have sm := some_ok (K.2.next 5).2 a1.2.1 (by omega) a
    rw [ha] at hst
    have e : ((a : Int)).toNat = a := rfl
    rw [e] at hst
    by_cases hh : q.1.has K.1 = true
    · rw [if_pos hh] at hst cg
      have hv := get_ok q.1 h1 K.1 hh
      conv => whnf
      refine CallC.sca _ (cg) ?_ ?_
      · exact rfl
      refine DrawC.mkQ 13 [(.inl 0, 5), (.inl 0, 6), (.inr 11, 12)] rfl (by kernel_rfl) ?_; refine And.intro (by kernel_rfl) ?_
      conv => whnf
      refine PCallQ.m 0 (next_fn K.2 5 (wk k1 (by omega))) rfl rfl rfl rfl ?_
      rw [ha]
      conv => whnf
      refine PCallQ.m 0 (some_fn (K.2.next 5).2 a (wk a1.2.1 (by omega)) (by omega)) rfl rfl rfl rfl ?_
      conv => whnf
      refine PCallQ.nl _ (l01Over_fn q.1 h1 K.1 _ hh) rfl ?_
      conv => whnf
      refine Grd.intro (fun g2 => absurd (of_decide_eq_true (p := (q.1.get K.1).ver = 0) g2) (by omega)) (fun _ => ?_)
      have c1 := next_b (Src.some a (K.2.next 5).2).2 sm.1 (by omega) 4
      conv => whnf
      refine CallC.k [(0, 0)] (chance_fn (Src.some a (K.2.next 5).2).2 4 (wk sm.1 (by omega)) (by omega)) rfl rfl (AVsle.refl _) ⟨MOle.refl _, trivial⟩ rfl ?_
      refine Grd.intro (fun g3 => ?_) (fun g3 => ?_)
      · have g3 : ((Src.some a (K.2.next 5).2).2.next 4).1 = 3 := of_decide_eq_true g3
        rw [if_pos g3] at hst
        conv => whnf
        refine CallC.nl _ (l01Delete_fn q.1 h1 K.1 hh) ?_ ?_
        · exact rfl
        refine And.intro (inI64 (by omega) (by omega)) ?_
        refine ⟨k + 1, hkM, by omega, [(0, 0), (1, 1), (2, 2)], rfl, rfl, ⟨AVle.refl _, AVle.refl _, AVle.refl _, AVle.of_eq (congrArg (AV.int .i64) (show (M : Int) - k - 1 = _ by omega)), trivial⟩, ⟨MOle.of_eq (by rw [hst]; rfl), MOle.refl _, MOle.of_eq (by rw [hst]; rfl), trivial⟩⟩
      · have g3 : ¬ ((Src.some a (K.2.next 5).2).2.next 4).1 = 3 := of_decide_eq_false g3
        rw [if_neg g3] at hst
        refine And.intro (inI64 (by omega) (by omega)) ?_
        refine ⟨k + 1, hkM, by omega, [(0, 0), (1, 1), (2, 2)], rfl, rfl, ⟨AVle.refl _, AVle.refl _, AVle.refl _, AVle.of_eq (congrArg (AV.int .i64) (show (M : Int) - k - 1 = _ by omega)), trivial⟩, ⟨MOle.of_eq (by rw [hst]; rfl), MOle.refl _, MOle.of_eq (by rw [hst]; rfl), trivial⟩⟩
    · rw [if_neg hh] at hst cg
      conv => whnf
      refine CallC.sca _ (cg) ?_ ?_
      · exact rfl
      have hpa : ∀ d, q.1.putA K.1 d = (q.1.put K.1 d, q.1.room K.1 d) := fun d => by unfold Sto.putA; rw [if_neg hh]
      have hh' : q.1.has K.1 = false := by simpa using hh
      refine DrawC.mkQ 13 [(.inl 0, 5), (.inl 0, 6), (.inr 11, 12)] rfl (by kernel_rfl) ?_; refine And.intro (by kernel_rfl) ?_
      conv => whnf
      refine PCallQ.m 0 (next_fn K.2 5 (wk k1 (by omega))) rfl rfl rfl rfl ?_
      rw [ha]
      conv => whnf
      refine PCallQ.m 0 (some_fn (K.2.next 5).2 a (wk a1.2.1 (by omega)) (by omega)) rfl rfl rfl rfl ?_
      conv => whnf
      refine PCallQ.nl _ (l01OverNo_fn q.1 h1 K.1 _ hh') rfl ?_
      conv => whnf
      have b1 := next_b (Src.some a (K.2.next 5).2).2 sm.1 (by omega) 5
      have b2 := b1.1.2 (by omega)
      obtain ⟨b, hb⟩ : ∃ b : Nat, ((Src.some a (K.2.next 5).2).2.next 5).1 = b := ⟨((Src.some a (K.2.next 5).2).2.next 5).1.toNat, by omega⟩
      have sb := some_ok ((Src.some a (K.2.next 5).2).2.next 5).2 b1.2.1 (by omega) b
      have eb : ((b : Int)).toNat = b := rfl
      rw [hb, eb] at hst
      refine DrawC.mkQ 11 [(.inl 0, 4), (.inl 0, 5), (.inl 15, 10)] rfl (by kernel_rfl) ?_; refine And.intro (by kernel_rfl) ?_
      conv => whnf
      refine PCallQ.m 0 (next_fn (Src.some a (K.2.next 5).2).2 5 (wk sm.1 (by omega))) rfl rfl rfl rfl ?_
      rw [hb]
      conv => whnf
      refine PCallQ.m 0 (some_fn ((Src.some a (K.2.next 5).2).2.next 5).2 b (wk b1.2.1 (by omega)) (by omega)) rfl rfl rfl rfl ?_
      conv => whnf
      refine PCallQ.nl _ (l01Absent_fn q.1 h1 K.1 _) rfl ?_
      rw [hpa]
      refine And.intro (inI64 (by omega) (by omega)) ?_
      refine ⟨k + 1, hkM, by omega, [(0, 0), (1, 1), (2, 2)], rfl, rfl, ⟨AVle.refl _, AVle.refl _, AVle.refl _, AVle.of_eq (congrArg (AV.int .i64) (show (M : Int) - k - 1 = _ by omega)), trivial⟩, ⟨MOle.of_eq (by rw [hst]; rfl), MOle.refl _, MOle.of_eq (by rw [hst]; rfl), trivial⟩⟩
  · have : k = M := by have := of_decide_eq_false g1; omega
    subst this
    rw [hR2]
    have ih := hit k (by omega)
    conv => whnf
    refine CallC.nl _ (l01Own_fn _ (show (plIt k (stoN0, s1)).1.os.length ≤ 1000000 by have := ih.2; omega)) ?_ ?_
    · exact rfl
    refine And.intro trivial ⟨[(0, 0)], rfl, AVle.refl _, ⟨MOle.refl _, trivial⟩⟩
end Go.Proofs.YtgiaaaejobhngaaGreatDoor
set_option linter.unusedVariables false
set_option linter.constructorNameAsVariable false
set_option linter.unusedSimpArgs false
set_option maxRecDepth 20000
namespace Go.Proofs.YtgiaaaejobhngaaGreatDoor
open Go Go.Vw

theorem leased_fn (s : Src) (h : s.ok 1000) : FnM Tryz.prog 62 1 [.bptr 0 0] [(0, .box s.row)] s.leased.av [(0, .box s.leasedR.row)] 1 := by
  obtain ⟨p1, p2, p3, p4⟩ := pStore_ok s h (by omega)
  have c1 := next_b s.pStore.2 p4 (by omega) 4
  have hL : s.pStore.1.os.length ≤ 1000000 := by omega
  obtain ⟨R, hR⟩ : ∃ R, R = s.leased := ⟨_, rfl⟩
  obtain ⟨R2, hR2⟩ : ∃ R2, R2 = s.leasedR := ⟨_, rfl⟩
  rw [← hR, ← hR2]
  unfold Src.leased at hR
  unfold Src.leasedR at hR2
  dsimp only at hR hR2
  have hn1 : 1 ≤ s.pStore.1.next ∧ s.pStore.1.next ≤ 1000000000 := by simpa [within] using (Sto.ok_at p1).1
  have hf := l01Find_fn s.pStore.1 (by omega) leaK
  rw [(Sto.srt p1).fi] at hf
  refine FnM.introC Tryz.call62 Tryz.func62 rfl rfl ?_
  conv => whnf
  refine CallC.k [(0, 0)] (plainStore_fn s h) rfl rfl (AVsle.refl _) ⟨MOle.refl _, trivial⟩ rfl ?_
  generalize s.pStore = q at p1 p2 p3 p4 c1 hL hR hR2 hf hn1
  have h0 : unL q.1 = if q.1.has leaK = true then wo q.1 leaK else q.1 := rfl
  by_cases hh : q.1.has leaK = true
  · have hp := (hasK_at hh).1
    rw [if_pos (show hasK leaK q.1.os = true from hh)] at hf
    rw [if_pos hh] at h0
    have w0 := wo_len q.1 leaK
    conv => whnf
    refine CallC.sca _ (hf) ?_ ?_
    · exact rfl
    refine DrawC.mkQ 13 [(.inr 11, 12)] rfl (by kernel_rfl) ?_; refine And.intro (by kernel_rfl) ?_
    conv => whnf
    refine And.intro ⟨by omega, by omega⟩ ?_
    conv => whnf
    refine PCallQ.nl _ (l01Delete_fn q.1 p1 leaK hh) rfl ?_
    conv => whnf
    have u := unL_ok p1
    rw [h0] at u hR
    conv => whnf
    refine CallC.k [(0, 0)] (chance_fn q.2 4 (wk p4 (by omega)) (by omega)) rfl rfl (AVsle.refl _) ⟨MOle.refl _, trivial⟩ rfl ?_
    refine Grd.intro (fun g3 => ?_) (fun g3 => ?_)
    · have g3 : (q.2.next 4).1 = 3 := of_decide_eq_true g3
      rw [if_pos g3] at hR hR2
      conv => whnf
      refine CallC.nl _ (l01Own_fn (wo q.1 leaK) (by omega)) ?_ ?_
      · exact rfl
      subst hR
      subst hR2
      refine And.intro trivial ⟨[(0, 0)], rfl, AVle.refl _, ⟨MOle.refl _, trivial⟩⟩
    · have g3 : ¬ (q.2.next 4).1 = 3 := of_decide_eq_false g3
      rw [if_neg g3] at hR hR2
      have c2 := c1.2.1
      generalize (q.2.next 4).2 = w at c2 hR hR2
      have hk : w.leL = (⟨1 + (w.next 4).1, ((w.next 4).2.next 3).1, if (((((((w.next 4).2.next 3).2.next 30).2.next 4).1) * 3).tmod 4).tmod 2 = 0 then 0 else 10 + (((w.next 4).2.next 3).2.next 30).1⟩, ((((w.next 4).2.next 3).2.next 30).2.next 4).2) := rfl
      have lb := leL_b w c2 (by omega)
      rw [hk] at hR hR2 lb
      dsimp only at hR hR2 lb
      have a := next_b w c2 (by omega) 4
      have b := next_b _ a.2.1 (by omega) 3
      have d := next_b _ b.2.1 (by omega) 30
      have e := next_b _ d.2.1 (by omega) 4
      have a1 := a.1.2 (by omega)
      have b1 := b.1.2 (by omega)
      have d1 := d.1.2 (by omega)
      have e1 := e.1.2 (by omega)
      conv => whnf
      refine CallC.k [(0, 0)] (next_fn w 4 (wk c2 (by omega))) rfl rfl (AVsle.refl _) ⟨MOle.refl _, trivial⟩ rfl ?_
      refine And.intro (inI64 (by omega) (by omega)) ?_
      conv => whnf
      refine CallC.k [(0, 0)] (next_fn _ 3 (wk a.2.1 (by omega))) rfl rfl (AVsle.refl _) ⟨MOle.refl _, trivial⟩ rfl ?_
      conv => whnf
      refine CallC.k [(0, 0)] (next_fn _ 30 (wk b.2.1 (by omega))) rfl rfl (AVsle.refl _) ⟨MOle.refl _, trivial⟩ rfl ?_
      refine And.intro (inI64 (by omega) (by omega)) ?_
      conv => whnf
      refine CallC.k [(0, 0)] (next_fn _ 4 (wk d.2.1 (by omega))) rfl rfl (AVsle.refl _) ⟨MOle.refl _, trivial⟩ rfl ?_
      refine And.intro (inI64 (by omega) (by omega)) ?_
      have e0 := e.1.1
      have ez : ((((w.next 4).2.next 3).2.next 30).2.next 4).1 = 0 ∨ ((((w.next 4).2.next 3).2.next 30).2.next 4).1 = 1 ∨ ((((w.next 4).2.next 3).2.next 30).2.next 4).1 = 2 ∨ ((((w.next 4).2.next 3).2.next 30).2.next 4).1 = 3 := by omega
      rcases ez with ez | ez | ez | ez
      · rw [ez]
        rw [ez] at hR lb
        have lb : ∀ x ∈ [1 + (w.next 4).1, ((w.next 4).2.next 3).1, 0], -9223372036854775807 ≤ x ∧ x ≤ 9223372036854775807 := lb
        have hR : R = (wo q.1 leaK).set leaK (Lea.text ⟨1 + (w.next 4).1, ((w.next 4).2.next 3).1, 0⟩) := hR
        refine And.intro (by decide) ?_
        refine And.intro (by decide) ?_
        refine And.intro (by decide) ?_
        refine DrawC.mkQ 5 [] rfl (by kernel_rfl) ?_; refine And.intro (by kernel_rfl) ?_
        conv => whnf
        refine PCallQ.sca _ (l05Text_fn ⟨1 + (w.next 4).1, ((w.next 4).2.next 3).1, 0⟩ lb) rfl ?_
        conv => whnf
        refine PCallQ.nl _ (l01Set_fn (wo q.1 leaK) (by omega) ⟨by have : (wo q.1 leaK).next = q.1.next := rfl; omega, by have : (wo q.1 leaK).next = q.1.next := rfl; omega⟩ leaK _) rfl ?_
        conv => whnf
        refine PCallQ.nl _ (l01Own_fn _ (Nat.le_trans (set_len_le (wo q.1 leaK) leaK _) (by omega))) rfl ?_
        conv => whnf
        subst hR
        subst hR2
        exact And.intro trivial ⟨[(0, 0)], rfl, AVle.refl _, ⟨MOle.refl _, trivial⟩⟩
      · rw [ez]
        rw [ez] at hR lb
        have lb : ∀ x ∈ [1 + (w.next 4).1, ((w.next 4).2.next 3).1, 10 + (((w.next 4).2.next 3).2.next 30).1], -9223372036854775807 ≤ x ∧ x ≤ 9223372036854775807 := lb
        have hR : R = (wo q.1 leaK).set leaK (Lea.text ⟨1 + (w.next 4).1, ((w.next 4).2.next 3).1, 10 + (((w.next 4).2.next 3).2.next 30).1⟩) := hR
        refine And.intro (by decide) ?_
        refine And.intro (by decide) ?_
        refine And.intro (by decide) ?_
        refine DrawC.mkQ 5 [] rfl (by kernel_rfl) ?_; refine And.intro (by kernel_rfl) ?_
        conv => whnf
        refine PCallQ.sca _ (l05Text_fn ⟨1 + (w.next 4).1, ((w.next 4).2.next 3).1, 10 + (((w.next 4).2.next 3).2.next 30).1⟩ lb) rfl ?_
        conv => whnf
        refine PCallQ.nl _ (l01Set_fn (wo q.1 leaK) (by omega) ⟨by have : (wo q.1 leaK).next = q.1.next := rfl; omega, by have : (wo q.1 leaK).next = q.1.next := rfl; omega⟩ leaK _) rfl ?_
        conv => whnf
        refine PCallQ.nl _ (l01Own_fn _ (Nat.le_trans (set_len_le (wo q.1 leaK) leaK _) (by omega))) rfl ?_
        conv => whnf
        subst hR
        subst hR2
        exact And.intro trivial ⟨[(0, 0)], rfl, AVle.refl _, ⟨MOle.refl _, trivial⟩⟩
      · rw [ez]
        rw [ez] at hR lb
        have lb : ∀ x ∈ [1 + (w.next 4).1, ((w.next 4).2.next 3).1, 0], -9223372036854775807 ≤ x ∧ x ≤ 9223372036854775807 := lb
        have hR : R = (wo q.1 leaK).set leaK (Lea.text ⟨1 + (w.next 4).1, ((w.next 4).2.next 3).1, 0⟩) := hR
        refine And.intro (by decide) ?_
        refine And.intro (by decide) ?_
        refine And.intro (by decide) ?_
        refine DrawC.mkQ 5 [] rfl (by kernel_rfl) ?_; refine And.intro (by kernel_rfl) ?_
        conv => whnf
        refine PCallQ.sca _ (l05Text_fn ⟨1 + (w.next 4).1, ((w.next 4).2.next 3).1, 0⟩ lb) rfl ?_
        conv => whnf
        refine PCallQ.nl _ (l01Set_fn (wo q.1 leaK) (by omega) ⟨by have : (wo q.1 leaK).next = q.1.next := rfl; omega, by have : (wo q.1 leaK).next = q.1.next := rfl; omega⟩ leaK _) rfl ?_
        conv => whnf
        refine PCallQ.nl _ (l01Own_fn _ (Nat.le_trans (set_len_le (wo q.1 leaK) leaK _) (by omega))) rfl ?_
        conv => whnf
        subst hR
        subst hR2
        exact And.intro trivial ⟨[(0, 0)], rfl, AVle.refl _, ⟨MOle.refl _, trivial⟩⟩
      · rw [ez]
        rw [ez] at hR lb
        have lb : ∀ x ∈ [1 + (w.next 4).1, ((w.next 4).2.next 3).1, 10 + (((w.next 4).2.next 3).2.next 30).1], -9223372036854775807 ≤ x ∧ x ≤ 9223372036854775807 := lb
        have hR : R = (wo q.1 leaK).set leaK (Lea.text ⟨1 + (w.next 4).1, ((w.next 4).2.next 3).1, 10 + (((w.next 4).2.next 3).2.next 30).1⟩) := hR
        refine And.intro (by decide) ?_
        refine And.intro (by decide) ?_
        refine And.intro (by decide) ?_
        refine DrawC.mkQ 5 [] rfl (by kernel_rfl) ?_; refine And.intro (by kernel_rfl) ?_
        conv => whnf
        refine PCallQ.sca _ (l05Text_fn ⟨1 + (w.next 4).1, ((w.next 4).2.next 3).1, 10 + (((w.next 4).2.next 3).2.next 30).1⟩ lb) rfl ?_
        conv => whnf
        refine PCallQ.nl _ (l01Set_fn (wo q.1 leaK) (by omega) ⟨by have : (wo q.1 leaK).next = q.1.next := rfl; omega, by have : (wo q.1 leaK).next = q.1.next := rfl; omega⟩ leaK _) rfl ?_
        conv => whnf
        refine PCallQ.nl _ (l01Own_fn _ (Nat.le_trans (set_len_le (wo q.1 leaK) leaK _) (by omega))) rfl ?_
        conv => whnf
        subst hR
        subst hR2
        exact And.intro trivial ⟨[(0, 0)], rfl, AVle.refl _, ⟨MOle.refl _, trivial⟩⟩
  · rw [if_neg (show ¬ hasK leaK q.1.os = true from hh)] at hf
    rw [if_neg hh] at h0
    conv => whnf
    refine CallC.sca _ (hf) ?_ ?_
    · exact rfl
    have u := unL_ok p1
    rw [h0] at u hR
    conv => whnf
    refine CallC.k [(0, 0)] (chance_fn q.2 4 (wk p4 (by omega)) (by omega)) rfl rfl (AVsle.refl _) ⟨MOle.refl _, trivial⟩ rfl ?_
    refine Grd.intro (fun g3 => ?_) (fun g3 => ?_)
    · have g3 : (q.2.next 4).1 = 3 := of_decide_eq_true g3
      rw [if_pos g3] at hR hR2
      conv => whnf
      refine CallC.nl _ (l01Own_fn q.1 (by omega)) ?_ ?_
      · exact rfl
      subst hR
      subst hR2
      refine And.intro trivial ⟨[(0, 0)], rfl, AVle.refl _, ⟨MOle.refl _, trivial⟩⟩
    · have g3 : ¬ (q.2.next 4).1 = 3 := of_decide_eq_false g3
      rw [if_neg g3] at hR hR2
      have c2 := c1.2.1
      generalize (q.2.next 4).2 = w at c2 hR hR2
      have hk : w.leL = (⟨1 + (w.next 4).1, ((w.next 4).2.next 3).1, if (((((((w.next 4).2.next 3).2.next 30).2.next 4).1) * 3).tmod 4).tmod 2 = 0 then 0 else 10 + (((w.next 4).2.next 3).2.next 30).1⟩, ((((w.next 4).2.next 3).2.next 30).2.next 4).2) := rfl
      have lb := leL_b w c2 (by omega)
      rw [hk] at hR hR2 lb
      dsimp only at hR hR2 lb
      have a := next_b w c2 (by omega) 4
      have b := next_b _ a.2.1 (by omega) 3
      have d := next_b _ b.2.1 (by omega) 30
      have e := next_b _ d.2.1 (by omega) 4
      have a1 := a.1.2 (by omega)
      have b1 := b.1.2 (by omega)
      have d1 := d.1.2 (by omega)
      have e1 := e.1.2 (by omega)
      conv => whnf
      refine CallC.k [(0, 0)] (next_fn w 4 (wk c2 (by omega))) rfl rfl (AVsle.refl _) ⟨MOle.refl _, trivial⟩ rfl ?_
      refine And.intro (inI64 (by omega) (by omega)) ?_
      conv => whnf
      refine CallC.k [(0, 0)] (next_fn _ 3 (wk a.2.1 (by omega))) rfl rfl (AVsle.refl _) ⟨MOle.refl _, trivial⟩ rfl ?_
      conv => whnf
      refine CallC.k [(0, 0)] (next_fn _ 30 (wk b.2.1 (by omega))) rfl rfl (AVsle.refl _) ⟨MOle.refl _, trivial⟩ rfl ?_
      refine And.intro (inI64 (by omega) (by omega)) ?_
      conv => whnf
      refine CallC.k [(0, 0)] (next_fn _ 4 (wk d.2.1 (by omega))) rfl rfl (AVsle.refl _) ⟨MOle.refl _, trivial⟩ rfl ?_
      refine And.intro (inI64 (by omega) (by omega)) ?_
      have e0 := e.1.1
      have ez : ((((w.next 4).2.next 3).2.next 30).2.next 4).1 = 0 ∨ ((((w.next 4).2.next 3).2.next 30).2.next 4).1 = 1 ∨ ((((w.next 4).2.next 3).2.next 30).2.next 4).1 = 2 ∨ ((((w.next 4).2.next 3).2.next 30).2.next 4).1 = 3 := by omega
      rcases ez with ez | ez | ez | ez
      · rw [ez]
        rw [ez] at hR lb
        have lb : ∀ x ∈ [1 + (w.next 4).1, ((w.next 4).2.next 3).1, 0], -9223372036854775807 ≤ x ∧ x ≤ 9223372036854775807 := lb
        have hR : R = q.1.set leaK (Lea.text ⟨1 + (w.next 4).1, ((w.next 4).2.next 3).1, 0⟩) := hR
        refine And.intro (by decide) ?_
        refine And.intro (by decide) ?_
        refine And.intro (by decide) ?_
        refine DrawC.mkQ 5 [] rfl (by kernel_rfl) ?_; refine And.intro (by kernel_rfl) ?_
        conv => whnf
        refine PCallQ.sca _ (l05Text_fn ⟨1 + (w.next 4).1, ((w.next 4).2.next 3).1, 0⟩ lb) rfl ?_
        conv => whnf
        refine PCallQ.nl _ (l01Set_fn q.1 (by omega) ⟨by omega, by omega⟩ leaK _) rfl ?_
        conv => whnf
        refine PCallQ.nl _ (l01Own_fn _ (Nat.le_trans (set_len_le q.1 leaK _) (by omega))) rfl ?_
        conv => whnf
        subst hR
        subst hR2
        exact And.intro trivial ⟨[(0, 0)], rfl, AVle.refl _, ⟨MOle.refl _, trivial⟩⟩
      · rw [ez]
        rw [ez] at hR lb
        have lb : ∀ x ∈ [1 + (w.next 4).1, ((w.next 4).2.next 3).1, 10 + (((w.next 4).2.next 3).2.next 30).1], -9223372036854775807 ≤ x ∧ x ≤ 9223372036854775807 := lb
        have hR : R = q.1.set leaK (Lea.text ⟨1 + (w.next 4).1, ((w.next 4).2.next 3).1, 10 + (((w.next 4).2.next 3).2.next 30).1⟩) := hR
        refine And.intro (by decide) ?_
        refine And.intro (by decide) ?_
        refine And.intro (by decide) ?_
        refine DrawC.mkQ 5 [] rfl (by kernel_rfl) ?_; refine And.intro (by kernel_rfl) ?_
        conv => whnf
        refine PCallQ.sca _ (l05Text_fn ⟨1 + (w.next 4).1, ((w.next 4).2.next 3).1, 10 + (((w.next 4).2.next 3).2.next 30).1⟩ lb) rfl ?_
        conv => whnf
        refine PCallQ.nl _ (l01Set_fn q.1 (by omega) ⟨by omega, by omega⟩ leaK _) rfl ?_
        conv => whnf
        refine PCallQ.nl _ (l01Own_fn _ (Nat.le_trans (set_len_le q.1 leaK _) (by omega))) rfl ?_
        conv => whnf
        subst hR
        subst hR2
        exact And.intro trivial ⟨[(0, 0)], rfl, AVle.refl _, ⟨MOle.refl _, trivial⟩⟩
      · rw [ez]
        rw [ez] at hR lb
        have lb : ∀ x ∈ [1 + (w.next 4).1, ((w.next 4).2.next 3).1, 0], -9223372036854775807 ≤ x ∧ x ≤ 9223372036854775807 := lb
        have hR : R = q.1.set leaK (Lea.text ⟨1 + (w.next 4).1, ((w.next 4).2.next 3).1, 0⟩) := hR
        refine And.intro (by decide) ?_
        refine And.intro (by decide) ?_
        refine And.intro (by decide) ?_
        refine DrawC.mkQ 5 [] rfl (by kernel_rfl) ?_; refine And.intro (by kernel_rfl) ?_
        conv => whnf
        refine PCallQ.sca _ (l05Text_fn ⟨1 + (w.next 4).1, ((w.next 4).2.next 3).1, 0⟩ lb) rfl ?_
        conv => whnf
        refine PCallQ.nl _ (l01Set_fn q.1 (by omega) ⟨by omega, by omega⟩ leaK _) rfl ?_
        conv => whnf
        refine PCallQ.nl _ (l01Own_fn _ (Nat.le_trans (set_len_le q.1 leaK _) (by omega))) rfl ?_
        conv => whnf
        subst hR
        subst hR2
        exact And.intro trivial ⟨[(0, 0)], rfl, AVle.refl _, ⟨MOle.refl _, trivial⟩⟩
      · rw [ez]
        rw [ez] at hR lb
        have lb : ∀ x ∈ [1 + (w.next 4).1, ((w.next 4).2.next 3).1, 10 + (((w.next 4).2.next 3).2.next 30).1], -9223372036854775807 ≤ x ∧ x ≤ 9223372036854775807 := lb
        have hR : R = q.1.set leaK (Lea.text ⟨1 + (w.next 4).1, ((w.next 4).2.next 3).1, 10 + (((w.next 4).2.next 3).2.next 30).1⟩) := hR
        refine And.intro (by decide) ?_
        refine And.intro (by decide) ?_
        refine And.intro (by decide) ?_
        refine DrawC.mkQ 5 [] rfl (by kernel_rfl) ?_; refine And.intro (by kernel_rfl) ?_
        conv => whnf
        refine PCallQ.sca _ (l05Text_fn ⟨1 + (w.next 4).1, ((w.next 4).2.next 3).1, 10 + (((w.next 4).2.next 3).2.next 30).1⟩ lb) rfl ?_
        conv => whnf
        refine PCallQ.nl _ (l01Set_fn q.1 (by omega) ⟨by omega, by omega⟩ leaK _) rfl ?_
        conv => whnf
        refine PCallQ.nl _ (l01Own_fn _ (Nat.le_trans (set_len_le q.1 leaK _) (by omega))) rfl ?_
        conv => whnf
        subst hR
        subst hR2
        exact And.intro trivial ⟨[(0, 0)], rfl, AVle.refl _, ⟨MOle.refl _, trivial⟩⟩
theorem LeasedStore_fn (code : List UInt8) (h : code.length ≤ 1048576) : VFn Tryz.prog 12 [byts code] (srcOf code).leased.av := by
  refine VFn.introC Tryz.call12 Tryz.func12 rfl rfl ?_
  conv => whnf
  refine CallC.k [] (l00Source_fn code h) rfl rfl (AVsle.refl _) trivial rfl ?_
  conv => whnf
  refine CallC.k [(1, 0)] (leased_fn (srcOf code) (wk (src_ok code h) (by omega))) rfl rfl (AVsle.refl _) ⟨MOle.refl _, trivial⟩ rfl ?_
  exact And.intro trivial (AVle.refl _)
end Go.Proofs.YtgiaaaejobhngaaGreatDoor
