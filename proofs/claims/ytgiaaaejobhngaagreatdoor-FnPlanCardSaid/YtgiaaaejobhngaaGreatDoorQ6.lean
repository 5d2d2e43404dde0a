/- Contracts of functions that the claim reaches, and the plain law of what they compute; each theorem bears its own conditions. -/
import Derived.Test.YtgiaaaejobhngaaGreatDoorQ5
import Derived.Test.YtgiaaaejobhngaaGreatDoorQ2
import Derived.Test.YtgiaaaejobhngaaGreatDoorQ4
import Derived.Test.YtgiaaaejobhngaaGreatDoorQ1
import Derived.WalkSmall
import Derived.Test.YtgiaaaejobhngaaGreatDoorV46
set_option linter.unusedVariables false
set_option linter.constructorNameAsVariable false
set_option linter.unusedSimpArgs false
set_option maxRecDepth 20000
namespace Go.Proofs.YtgiaaaejobhngaaGreatDoor
open Go Go.Vw

end Go.Proofs.YtgiaaaejobhngaaGreatDoor
set_option linter.unusedVariables false
set_option linter.constructorNameAsVariable false
set_option linter.unusedSimpArgs false
set_option maxRecDepth 20000
namespace Go.Proofs.YtgiaaaejobhngaaGreatDoor
open Go Go.Vw

end Go.Proofs.YtgiaaaejobhngaaGreatDoor
set_option linter.unusedVariables false
set_option linter.constructorNameAsVariable false
set_option linter.unusedSimpArgs false
set_option maxRecDepth 20000
namespace Go.Proofs.YtgiaaaejobhngaaGreatDoor
open Go Go.Vw

def Sta.orow (s : Sta) (a b : Nat) : List AV := [.int .i64 s.seq, .int .i64 s.fence, .osl a, .osl b, .int .i64 s.l0, .int .i64 s.l1, .int .i64 s.l2, .int .i64 s.h0, .int .i64 s.h1, .int .i64 s.h2]
end Go.Proofs.YtgiaaaejobhngaaGreatDoor
set_option linter.unusedVariables false
set_option linter.constructorNameAsVariable false
set_option linter.unusedSimpArgs false
set_option maxRecDepth 20000
namespace Go.Proofs.YtgiaaaejobhngaaGreatDoor
open Go Go.Vw

def rlC (x : Sto) : Int := if x.ok = true then 0 else 1
def rlS (x : Sto) : Sta := if x.ok = true then logS x else sta0
end Go.Proofs.YtgiaaaejobhngaaGreatDoor
set_option linter.unusedVariables false
set_option linter.constructorNameAsVariable false
set_option linter.unusedSimpArgs false
set_option maxRecDepth 20000
namespace Go.Proofs.YtgiaaaejobhngaaGreatDoor
open Go Go.Vw

structure Src where
  code : List UInt8
  at_ : Int
  seed : Int
abbrev byts (L : List UInt8) : AV := .sl 1 L.length fun i => [.int .u8 ((ix L i).toNat : Int)]
def Src.row (s : Src) : List AV := [byts s.code, .int .i64 s.at_, .int .i64 s.seed]
def Src.ok (s : Src) (k : Int) : Prop := (0 ≤ s.at_ ∧ s.at_ ≤ k) ∧ (0 ≤ s.seed ∧ s.seed < 2147483648) ∧ s.code.length ≤ 1000000000
def Src.chr (s : Src) : Int := (ix s.code (s.at_ + 1 - 1).toNat).toNat
def Src.sd (s : Src) : Int := (s.seed * 1103515245 + 12345).tmod 2147483648
def Src.byte (s : Src) : Int × Src :=
  if s.at_ + 1 ≤ s.code.length then (s.chr, { s with at_ := s.at_ + 1, seed := (s.seed * 31 + s.chr + 7).tmod 2147483648 })
  else if 3000 < s.at_ + 1 then (0, { s with at_ := s.at_ + 1 })
  else ((s.sd.tdiv 65536).tmod 256, { s with at_ := s.at_ + 1, seed := s.sd })
theorem tmod_b {n m : Int} (h : 0 ≤ n) (hm : 0 < m) : 0 ≤ n.tmod m ∧ n.tmod m < m := by
  rw [Int.tmod_eq_emod_of_nonneg h]
  exact ⟨Int.emod_nonneg _ (by omega), Int.emod_lt_of_pos _ hm⟩
theorem tdiv_b {n : Int} {m : Int} (h : 0 ≤ n) (hm : 0 < m) : 0 ≤ n.tdiv m ∧ n.tdiv m ≤ n := by
  rw [Int.tdiv_eq_ediv_of_nonneg h]
  exact ⟨Int.ediv_nonneg h (by omega), Int.ediv_le_self _ h⟩
theorem chr_b (s : Src) : 0 ≤ s.chr ∧ s.chr ≤ 255 := by
  unfold Src.chr
  have := (ix s.code (s.at_ + 1 - 1).toNat).toNat_lt
  omega
theorem byte_b (s : Src) {k : Int} (h : s.ok k) : (0 ≤ s.byte.1 ∧ s.byte.1 ≤ 255) ∧ s.byte.2.ok (k + 1) ∧ s.byte.2.code = s.code := by
  obtain ⟨⟨a0, a1⟩, ⟨s0, s1⟩, hc⟩ := h
  have hch := chr_b s
  have hsd := tmod_b (n := s.seed * 1103515245 + 12345) (m := 2147483648) (by omega) (by omega)
  unfold Src.byte
  split
  · refine ⟨hch, ⟨⟨by simp only; omega, by simp only; omega⟩, ?_, hc⟩, rfl⟩
    exact tmod_b (by omega) (by omega)
  · split
    · exact ⟨by simp, ⟨⟨by simp only; omega, by simp only; omega⟩, ⟨s0, s1⟩, hc⟩, rfl⟩
    · refine ⟨?_, ⟨⟨by simp only; omega, by simp only; omega⟩, hsd, hc⟩, rfl⟩
      have h1 := tdiv_b (n := s.sd) (m := 65536) hsd.1 (by omega)
      have h2 := tmod_b (n := s.sd.tdiv 65536) (m := 256) h1.1 (by omega)
      simp only; omega
theorem byte_fn (s : Src) (h : s.ok 1000000000) : FnM Tryz.prog 208 1 [.bptr 0 0] [(0, .box s.row)] (.int .i64 s.byte.1) [(0, .box s.byte.2.row)] 1 := by
  have h' := h
  obtain ⟨⟨a0, a1⟩, ⟨s0, s1⟩, hc⟩ := h
  have hch := chr_b s
  have hsd := tmod_b (n := s.seed * 1103515245 + 12345) (m := 2147483648) (by omega) (by omega)
  obtain ⟨R, hR⟩ : ∃ R, R = s.byte := ⟨_, rfl⟩
  rw [← hR]
  refine FnM.introC Tryz.call208 Tryz.func208 rfl rfl ?_
  refine And.intro (inI64 (by omega) (by omega)) ?_
  refine DrawC.mk 10 rfl (by kernel_rfl) ?_
  refine Grd.intro (fun g1 => ?_) (fun g1 => ?_)
  · have g1 : s.at_ + 1 ≤ s.code.length := of_decide_eq_true g1
    have hR' : R = (s.chr, { s with at_ := s.at_ + 1, seed := (s.seed * 31 + s.chr + 7).tmod 2147483648 }) := by rw [hR, Src.byte, if_pos g1]
    refine DrawC.mk 23 rfl (by kernel_rfl) ?_
    refine And.intro (inI64 (by omega) (by omega)) ?_
    refine And.intro (inI64 (by omega) (by omega)) ?_
    refine And.intro ⟨by omega, by omega⟩ ?_
    refine And.intro (show inI .i64 s.chr from inI64 (by omega) (by omega)) ?_
    refine And.intro (show inI .i64 (s.seed * 31 + s.chr) from inI64 (by omega) (by omega)) ?_
    refine And.intro (show inI .i64 (s.seed * 31 + s.chr + 7) from inI64 (by omega) (by omega)) ?_
    refine And.intro (by decide) ?_
    refine DrawC.mk 13 rfl (by kernel_rfl) ?_
    refine And.intro (inI64 (by omega) (by omega)) ?_
    refine And.intro ⟨by omega, by omega⟩ ?_
    refine And.intro (show inI .i64 s.chr from inI64 (by omega) (by omega)) ?_
    subst hR'
    exact And.intro trivial ⟨[(0, 0)], rfl, AVle.refl _, ⟨MOle.refl _, trivial⟩⟩
  · have g1 : ¬ s.at_ + 1 ≤ s.code.length := of_decide_eq_false g1
    refine Grd.intro (fun g2 => ?_) (fun g2 => ?_)
    · have g2 : 3000 < s.at_ + 1 := of_decide_eq_true g2
      have hR' : R = (0, { s with at_ := s.at_ + 1 }) := by rw [hR, Src.byte, if_neg g1, if_pos g2]
      subst hR'
      exact And.intro trivial ⟨[(0, 0)], rfl, AVle.refl _, ⟨MOle.refl _, trivial⟩⟩
    · have g2 : ¬ 3000 < s.at_ + 1 := of_decide_eq_false g2
      have hR' : R = ((s.sd.tdiv 65536).tmod 256, { s with at_ := s.at_ + 1, seed := s.sd }) := by rw [hR, Src.byte, if_neg g1, if_neg g2]
      refine And.intro (inI64 (by omega) (by omega)) ?_
      refine And.intro (inI64 (by omega) (by omega)) ?_
      refine And.intro (by decide) ?_
      have h1 := tdiv_b (n := s.sd) (m := 65536) hsd.1 (by omega)
      have hsd' : 0 ≤ s.sd ∧ s.sd < 2147483648 := hsd
      refine And.intro ⟨by decide, show inI .i64 (s.sd.tdiv 65536) from inI64 (by omega) (by omega)⟩ ?_
      refine And.intro (by decide) ?_
      subst hR'
      exact And.intro trivial ⟨[(0, 0)], rfl, AVle.refl _, ⟨MOle.refl _, trivial⟩⟩
def Src.next (s : Src) (n : Int) : Int × Src :=
  if n ≤ 1 then (0, s)
  else if n ≤ 256 then (s.byte.1.tmod n, s.byte.2)
  else ((s.byte.1 * 65536 + s.byte.2.byte.1 * 256 + s.byte.2.byte.2.byte.1).tmod n, s.byte.2.byte.2.byte.2)
theorem next_b (s : Src) {k : Int} (h : s.ok k) (hk : 0 ≤ k) (n : Int) : (0 ≤ (s.next n).1 ∧ (1 ≤ n → (s.next n).1 < n)) ∧ (s.next n).2.ok (k + 3) ∧ (s.next n).2.code = s.code := by
  have h1 := byte_b s h
  have h2 := byte_b s.byte.2 h1.2.1
  have h3 := byte_b s.byte.2.byte.2 h2.2.1
  have w : ∀ (x : Src) (a b : Int), x.ok a → a ≤ b → x.ok b := fun x a b hx hab => ⟨⟨hx.1.1, by have := hx.1.2; omega⟩, hx.2⟩
  unfold Src.next
  split
  · exact ⟨⟨by simp, fun _ => by simp only; omega⟩, w s k _ h (by omega), rfl⟩
  · split
    · have := tmod_b (n := s.byte.1) (m := n) h1.1.1 (by omega)
      exact ⟨⟨this.1, fun _ => this.2⟩, w _ _ _ h1.2.1 (by omega), h1.2.2⟩
    · have := tmod_b (n := s.byte.1 * 65536 + s.byte.2.byte.1 * 256 + s.byte.2.byte.2.byte.1) (m := n) (by omega) (by omega)
      exact ⟨⟨this.1, fun _ => this.2⟩, w _ _ _ h3.2.1 (by omega), h3.2.2.trans (h2.2.2.trans h1.2.2)⟩
theorem next_fn (s : Src) (n : Int) (h : s.ok 100000000) : FnM Tryz.prog 144 1 [.bptr 0 0, .int .i64 n] [(0, .box s.row)] (.int .i64 (s.next n).1) [(0, .box (s.next n).2.row)] 1 := by
  have h1 := byte_b s h
  have h2 := byte_b s.byte.2 h1.2.1
  have h3 := byte_b s.byte.2.byte.2 h2.2.1
  have w : ∀ (x : Src) (a : Int), x.ok a → a ≤ 1000000000 → x.ok 1000000000 := fun x a hx hab => ⟨⟨hx.1.1, by have := hx.1.2; omega⟩, hx.2⟩
  obtain ⟨R, hR⟩ : ∃ R, R = s.next n := ⟨_, rfl⟩
  rw [← hR]
  refine FnM.introC Tryz.call144 Tryz.func144 rfl rfl ?_
  refine Grd.intro (fun g1 => ?_) (fun g1 => ?_)
  · have g1 : n ≤ 1 := of_decide_eq_true g1
    rw [Src.next, if_pos g1] at hR
    subst hR
    exact And.intro trivial ⟨[(0, 0)], rfl, AVle.refl _, ⟨MOle.refl _, trivial⟩⟩
  have g1 : ¬ n ≤ 1 := of_decide_eq_false g1
  refine Grd.intro (fun g2 => ?_) (fun g2 => ?_)
  · have g2 : n ≤ 256 := of_decide_eq_true g2
    rw [Src.next, if_neg g1, if_pos g2] at hR
    conv => whnf
    refine CallC.k [(0, 0)] (byte_fn s (w _ _ h (by omega))) rfl rfl (AVsle.refl _) ⟨MOle.refl _, trivial⟩ rfl ?_
    refine And.intro (show n ≠ 0 by omega) ?_
    subst hR
    exact And.intro trivial ⟨[(0, 0)], rfl, AVle.refl _, ⟨MOle.refl _, trivial⟩⟩
  have g2 : ¬ n ≤ 256 := of_decide_eq_false g2
  rw [Src.next, if_neg g1, if_neg g2] at hR
  conv => whnf
  refine CallC.k [(0, 0)] (byte_fn s (w _ _ h (by omega))) rfl rfl (AVsle.refl _) ⟨MOle.refl _, trivial⟩ rfl ?_
  conv => whnf
  refine CallC.k [(0, 0)] (byte_fn s.byte.2 (w _ _ h1.2.1 (by omega))) rfl rfl (AVsle.refl _) ⟨MOle.refl _, trivial⟩ rfl ?_
  conv => whnf
  refine CallC.k [(0, 0)] (byte_fn s.byte.2.byte.2 (w _ _ h2.2.1 (by omega))) rfl rfl (AVsle.refl _) ⟨MOle.refl _, trivial⟩ rfl ?_
  refine And.intro (inI64 (by omega) (by omega)) ?_
  refine And.intro (inI64 (by omega) (by omega)) ?_
  refine And.intro (inI64 (by omega) (by omega)) ?_
  refine And.intro (inI64 (by omega) (by omega)) ?_
  refine And.intro (show n ≠ 0 by omega) ?_
  subst hR
  exact And.intro trivial ⟨[(0, 0)], rfl, AVle.refl _, ⟨MOle.refl _, trivial⟩⟩
end Go.Proofs.YtgiaaaejobhngaaGreatDoor
set_option linter.unusedVariables false
set_option linter.constructorNameAsVariable false
set_option linter.unusedSimpArgs false
set_option maxRecDepth 20000
namespace Go.Proofs.YtgiaaaejobhngaaGreatDoor
open Go Go.Vw

abbrev SS := List Smp × Int × Src
def smpStep (x : SS) : SS :=
  let f := x.2.1 + (x.2.2.next 4).1
  let a := (x.2.2.next 4).2.next 40
  let b := a.2.next 12
  let c := b.2.next 2
  let v := if b.1.tdiv 10 * (1 + c.1) = 0 then a.1 - 10 else if b.1.tdiv 10 * (1 + c.1) = 1 then 1000000 else -1000000
  (x.1 ++ [⟨f, v⟩], f + 1, c.2)
def smpIt : Nat → SS → SS
  | 0, x => x
  | k + 1, x => smpStep (smpIt k x)
def SSok (x : SS) (n : Nat) (k : Int) : Prop := x.1.length = n ∧ (∀ e ∈ x.1, -1000000 ≤ e.v ∧ e.v ≤ 1000000) ∧ x.2.2.ok k ∧ (0 ≤ x.2.1 ∧ x.2.1 ≤ k)
theorem wk {x : Src} {a b : Int} (hx : x.ok a) (h : a ≤ b) : x.ok b := ⟨⟨hx.1.1, by have := hx.1.2; omega⟩, hx.2⟩
theorem step_ok {x : SS} {n : Nat} {k : Int} (h : SSok x n k) (hk : 0 ≤ k) : SSok (smpStep x) (n + 1) (k + 12) := by
  obtain ⟨h1, h2, h3, h4⟩ := h
  have n1 := next_b x.2.2 h3 hk 4
  have n2 := next_b (x.2.2.next 4).2 n1.2.1 (by omega) 40
  have n3 := next_b ((x.2.2.next 4).2.next 40).2 n2.2.1 (by omega) 12
  have n4 := next_b (((x.2.2.next 4).2.next 40).2.next 12).2 n3.2.1 (by omega) 2
  have a1 := n1.1.2 (by omega)
  have a2 := n2.1.2 (by omega)
  unfold smpStep
  refine ⟨by simp [h1], fun e he => ?_, wk n4.2.1 (by omega), by simp only; omega⟩
  simp only [List.mem_append, List.mem_cons, List.not_mem_nil, or_false] at he
  rcases he with he | he
  · exact h2 e he
  · subst he
    simp only
    have := n2.1.1
    split
    · omega
    · split <;> omega
theorem it_ok {x : SS} {k : Int} (h : SSok x 0 k) (hk : 0 ≤ k) : ∀ n, SSok (smpIt n x) n (k + 12 * n)
  | 0 => by simpa [smpIt] using h
  | n + 1 => by
    have := step_ok (it_ok h hk n) (by omega)
    have e : k + 12 * ((n + 1 : Nat) : Int) = k + 12 * (n : Int) + 12 := by omega
    rw [e]; exact this
def Src.samples (s : Src) (f n : Int) : SS := smpIt (s.next (n + 1)).1.toNat ([], f, (s.next (n + 1)).2)
end Go.Proofs.YtgiaaaejobhngaaGreatDoor
set_option linter.unusedVariables false
set_option linter.constructorNameAsVariable false
set_option linter.unusedSimpArgs false
set_option maxRecDepth 20000
namespace Go.Proofs.YtgiaaaejobhngaaGreatDoor
open Go Go.Vw

def Ag.mrg (a b : Ag) : Ag := if a.c = 0 then b else if b.c = 0 then a else ⟨a.c + b.c, a.s + b.s, if b.mn < a.mn then b.mn else a.mn, if a.mx < b.mx then b.mx else a.mx, a.f, b.l⟩
def Ag.cells (a : Ag) : List AV := [.int .i64 a.c, .int .i64 a.s, .int .i64 a.mn, .int .i64 a.mx, .int .i64 a.f, .int .i64 a.l]
def one (v : Int) : Ag := ⟨1, v, v, v, v, v⟩
def aggL (L : List Smp) : Ag := L.foldl (fun a s => a.mrg (one s.v)) default
theorem aggL_snoc {L : List Smp} {i : Nat} (h : i < L.length) : aggL (L.take (i + 1)) = (aggL (L.take i)).mrg (one (ix L i).v) := by
  unfold aggL; rw [take_snoc h, List.foldl_append]; rfl
def Ag.B (a : Ag) (n : Int) : Prop := a.c = n ∧ (-1000000 * n ≤ a.s ∧ a.s ≤ 1000000 * n) ∧ (n = 0 → a = default) ∧ (0 < n → a.some = true)
theorem mrg_B {a : Ag} {n v : Int} (h : a.B n) (hn : 0 ≤ n ∧ n < 100000) (hv : -1000000 ≤ v ∧ v ≤ 1000000) : (a.mrg (one v)).B (n + 1) := by
  obtain ⟨h1, h2, h3, h4⟩ := h
  unfold Ag.mrg
  by_cases h0 : a.c = 0
  · rw [if_pos h0]
    refine ⟨by simp only [one]; omega, by simp only [one]; omega, fun h => by omega, fun _ => ?_⟩
    unfold Ag.some one
    simp [within]; omega
  · rw [if_neg h0, if_neg (show ¬ (one v).c = 0 by simp [one])]
    have h5 := h4 (by omega)
    unfold Ag.some at h5
    simp [within] at h5
    refine ⟨by simp only [one]; omega, by simp only [one]; omega, fun h => by omega, fun _ => ?_⟩
    unfold Ag.some one
    simp only [within]
    have e1 : ∀ m, m ≤ a.mn → m ≤ v → (a.c + 1) * m ≤ a.s + v := fun m q1 q2 => by
      have : a.c * m ≤ a.c * a.mn := Int.mul_le_mul_of_nonneg_left q1 (by omega)
      have : (a.c + 1) * m = a.c * m + m := by rw [Int.add_mul]; omega
      omega
    have e2 : ∀ m, a.mx ≤ m → v ≤ m → a.s + v ≤ (a.c + 1) * m := fun m q1 q2 => by
      have : a.c * a.mx ≤ a.c * m := Int.mul_le_mul_of_nonneg_left q1 (by omega)
      have : (a.c + 1) * m = a.c * m + m := by rw [Int.add_mul]; omega
      omega
    by_cases m1 : v < a.mn <;> by_cases m2 : a.mx < v
    · rw [if_pos m1, if_pos m2]
      have := e1 v (by omega) (by omega)
      have := e2 v (by omega) (by omega)
      simp; omega
    · rw [if_pos m1, if_neg m2]
      have := e1 v (by omega) (by omega)
      have := e2 a.mx (by omega) (by omega)
      simp; omega
    · rw [if_neg m1, if_pos m2]
      have := e1 a.mn (by omega) (by omega)
      have := e2 v (by omega) (by omega)
      simp; omega
    · rw [if_neg m1, if_neg m2]
      have := e1 a.mn (by omega) (by omega)
      have := e2 a.mx (by omega) (by omega)
      simp; omega
theorem aggL_B {L : List Smp} (hL : L.length ≤ 100000) (hv : ∀ e ∈ L, -1000000 ≤ e.v ∧ e.v ≤ 1000000) : ∀ i : Nat, i ≤ L.length → (aggL (L.take i)).B i
  | 0, _ => ⟨rfl, show -1000000 * ((0 : Nat) : Int) ≤ 0 ∧ (0 : Int) ≤ 1000000 * ((0 : Nat) : Int) by omega, fun _ => rfl, fun h => absurd h (by simp)⟩
  | i + 1, h => by
    rw [aggL_snoc h]
    have := mrg_B (aggL_B hL hv i (by omega)) ⟨by omega, by omega⟩ (hv _ (getD_mem (L := L) h))
    simpa using this
def Src.agg (s : Src) : Ag := aggL (s.samples 0 6).1
def srcOf (code : List UInt8) : Src := ⟨code, 0, (code.length : Int).tmod 1000⟩
end Go.Proofs.YtgiaaaejobhngaaGreatDoor
set_option linter.unusedVariables false
set_option linter.constructorNameAsVariable false
set_option linter.unusedSimpArgs false
set_option maxRecDepth 20000
namespace Go.Proofs.YtgiaaaejobhngaaGreatDoor
open Go Go.Vw

theorem ix_in {α : Type} [Inhabited α] {L : List α} {i : Nat} (h : i < L.length) : ix L i ∈ L := by rw [ix_lt h]; exact List.getElem_mem h
theorem draw (s : Src) {k : Int} (h : s.ok k) (hk : 0 ≤ k ∧ k ≤ 10000000) (n : Int) (hn : 1 ≤ n) : ∃ (v : Nat) (q : Src), (v : Int) < n ∧ q.ok (k + 3) ∧ FnM Tryz.prog 144 1 [.bptr 0 0, .int .i64 n] [(0, .box s.row)] (.int .i64 v) [(0, .box q.row)] 1 := by
  have n1 := next_b s h (by omega) n
  have n2 := n1.1.2 hn
  obtain ⟨v, hv⟩ : ∃ v : Nat, (s.next n).1 = v := ⟨(s.next n).1.toNat, by omega⟩
  have c := next_fn s n (wk h (by omega))
  rw [hv] at c n2
  exact ⟨v, (s.next n).2, n2, n1.2.1, c⟩
theorem rec_add (s : Src) (x : Sta) {k : Int} (h : s.ok k) (hk : 0 ≤ k ∧ k ≤ 1000000) (hx : x.ok = true) (hq : x.seq ≤ 900000) (hf : x.fence ≤ 900000)
    (a1 a2 a3 a4 : Nat) (s1 s2 s3 s4 : Src) (h1 : (a1 : Int) < 3) (h2 : (a2 : Int) < 4) (h3 : (a3 : Int) < 2) (h4 : (a4 : Int) < 8) (k4 : s4.ok (k + 12)) (e4 : a4 = 0 ∨ a4 = 1 ∨ a4 = 2)
    (c1 : FnM Tryz.prog 144 1 [.bptr 0 0, .int .i64 3] [(0, .box s.row)] (.int .i64 a1) [(0, .box s1.row)] 1)
    (c2 : FnM Tryz.prog 144 1 [.bptr 0 0, .int .i64 4] [(0, .box s1.row)] (.int .i64 a2) [(0, .box s2.row)] 1)
    (c3 : FnM Tryz.prog 144 1 [.bptr 0 0, .int .i64 2] [(0, .box s2.row)] (.int .i64 a3) [(0, .box s3.row)] 1)
    (c4 : FnM Tryz.prog 144 1 [.bptr 0 0, .int .i64 8] [(0, .box s3.row)] (.int .i64 a4) [(0, .box s4.row)] 1) :
    ∃ (r : Rc) (q : Src), q.ok (k + 30) ∧ r.key.length ≤ 1000 ∧ r.tok ≤ x.fence + 3 ∧ FnM Tryz.prog 109 1 [.bptr 0 0, x.av] [(0, .box s.row)] r.av [(0, .box q.row)] 1 := by
  have hO := (staOK_iff x).1 hx
  have hb := Sta.hi_b hx
  have hfq := hO.f
  have hsq := hO.q
  obtain ⟨u, s5, hu, k5, c5⟩ := draw s4 k4 (by omega) 9 (by decide)
  obtain ⟨v, s6, hv, k6, c6⟩ := draw s5 k5 (by omega) 9 (by decide)
  obtain ⟨w, s7, hw, k7, c7⟩ := draw s6 k6 (by omega) 2 (by decide)
  have hu8 := tdiv_b (n := (u : Int)) (m := 8) (by omega) (by decide)
  have cK := l03Key_at (t' := 0) (n' := x.seq + 1) (w' := w) (t := 0) (n := (x.seq + 1).toNat) (w := w) rfl (by omega) rfl (by decide) (by omega) (by omega)
  refine ⟨⟨1, 0, 0, x.h0 + (u : Int).tdiv 8, x.h0 + 2 + v, keyB 0 (x.seq + 1).toNat w⟩, s7, wk k7 (by omega), ?_, ?_, ?_⟩
  · exact Nat.le_trans (key_len (k := keyB 0 (x.seq + 1).toNat w) (by unfold kOk; rw [parse_key (by omega) (by omega) (by omega)]; rfl)) (by decide)
  · show (0 : Int) ≤ _; omega
  have q2 : a2 = 0 ∨ a2 = 1 ∨ a2 = 2 ∨ a2 = 3 := by omega
  rcases e4 with rfl | rfl | rfl <;> rcases q2 with rfl | rfl | rfl | rfl
  all_goals
    refine FnM.introC Tryz.call109 Tryz.func109 rfl rfl ?_
    refine DrawC.mkQ 15 [(.inl 0, 9), (.inl 0, 14)] rfl (by kernel_rfl) ?_; refine And.intro (by kernel_rfl) ?_
    conv => whnf
    refine PCallQ.m 0 (c1) rfl rfl rfl rfl ?_
    refine And.intro (inI64 (by omega) (by omega)) ?_
    refine And.intro (inI64 (by omega) (by omega)) ?_
    conv => whnf
    refine PCallQ.m 0 (c2) rfl rfl rfl rfl ?_
    refine And.intro ⟨by decide, by decide⟩ ?_
    conv => whnf
    refine CallC.k [(0, 0)] (c3) rfl rfl (AVsle.refl _) ⟨MOle.refl _, trivial⟩ rfl ?_
    refine And.intro (inI64 (by omega) (by omega)) ?_
    conv => whnf
    refine CallC.k [(0, 0)] (c4) rfl rfl (AVsle.refl _) ⟨MOle.refl _, trivial⟩ rfl ?_
    refine DrawC.mkQ 20 [(.inl 0, 4), (.inl 0, 12), (.inl 0, 18)] rfl (by kernel_rfl) ?_; refine And.intro (by kernel_rfl) ?_
    refine And.intro (by decide) ?_
    conv => whnf
    refine PCallQ.m 0 (c5) rfl rfl rfl rfl ?_
    refine And.intro ⟨by decide, show inI .i64 ((u : Int).tdiv 8) from inI64 (by omega) (by omega)⟩ ?_
    refine And.intro (inI64 (by omega) (by omega)) ?_
    refine And.intro (by decide) ?_
    refine And.intro (inI64 (by omega) (by omega)) ?_
    conv => whnf
    refine PCallQ.m 0 (c6) rfl rfl rfl rfl ?_
    refine And.intro (inI64 (by omega) (by omega)) ?_
    refine And.intro (inI64 (by omega) (by omega)) ?_
    conv => whnf
    refine PCallQ.m 0 (c7) rfl rfl rfl rfl ?_
    conv => whnf
    refine PCallQ.sca _ (cK) rfl ?_
    exact And.intro trivial ⟨[(0, 0)], rfl, AVle.refl _, ⟨MOle.refl _, trivial⟩⟩
theorem rec_claim (s : Src) (x : Sta) {k : Int} (h : s.ok k) (hk : 0 ≤ k ∧ k ≤ 1000000) (hx : x.ok = true) (hq : x.seq ≤ 900000) (hf : x.fence ≤ 900000)
    (a1 a2 a3 a4 : Nat) (s1 s2 s3 s4 : Src) (h1 : (a1 : Int) < 3) (h2 : (a2 : Int) < 4) (h3 : (a3 : Int) < 2) (h4 : (a4 : Int) < 8) (k4 : s4.ok (k + 12)) (e4 : a4 = 3)
    (c1 : FnM Tryz.prog 144 1 [.bptr 0 0, .int .i64 3] [(0, .box s.row)] (.int .i64 a1) [(0, .box s1.row)] 1)
    (c2 : FnM Tryz.prog 144 1 [.bptr 0 0, .int .i64 4] [(0, .box s1.row)] (.int .i64 a2) [(0, .box s2.row)] 1)
    (c3 : FnM Tryz.prog 144 1 [.bptr 0 0, .int .i64 2] [(0, .box s2.row)] (.int .i64 a3) [(0, .box s3.row)] 1)
    (c4 : FnM Tryz.prog 144 1 [.bptr 0 0, .int .i64 8] [(0, .box s3.row)] (.int .i64 a4) [(0, .box s4.row)] 1) :
    ∃ (r : Rc) (q : Src), q.ok (k + 30) ∧ r.key.length ≤ 1000 ∧ r.tok ≤ x.fence + 3 ∧ FnM Tryz.prog 109 1 [.bptr 0 0, x.av] [(0, .box s.row)] r.av [(0, .box q.row)] 1 := by
  have hO := (staOK_iff x).1 hx
  have hb := Sta.hi_b hx
  have hfq := hO.f
  have hsq := hO.q
  obtain ⟨u, s5, hu, k5, c5⟩ := draw s4 k4 (by omega) 3 (by decide)
  refine ⟨⟨2, if x.fence + u > 1 then x.fence + u else 1, 0, 0, 0, []⟩, s5, wk k5 (by omega), Nat.zero_le _, ?_, ?_⟩
  · show (if x.fence + u > 1 then x.fence + u else 1) ≤ _; split <;> omega
  subst e4
  have q2 : a2 = 0 ∨ a2 = 1 ∨ a2 = 2 ∨ a2 = 3 := by omega
  rcases q2 with rfl | rfl | rfl | rfl
  all_goals
    refine FnM.introC Tryz.call109 Tryz.func109 rfl rfl ?_
    refine DrawC.mkQ 15 [(.inl 0, 9), (.inl 0, 14)] rfl (by kernel_rfl) ?_; refine And.intro (by kernel_rfl) ?_
    conv => whnf
    refine PCallQ.m 0 (c1) rfl rfl rfl rfl ?_
    refine And.intro (inI64 (by omega) (by omega)) ?_
    refine And.intro (inI64 (by omega) (by omega)) ?_
    conv => whnf
    refine PCallQ.m 0 (c2) rfl rfl rfl rfl ?_
    refine And.intro ⟨by decide, by decide⟩ ?_
    conv => whnf
    refine CallC.k [(0, 0)] (c3) rfl rfl (AVsle.refl _) ⟨MOle.refl _, trivial⟩ rfl ?_
    refine And.intro (inI64 (by omega) (by omega)) ?_
    conv => whnf
    refine CallC.k [(0, 0)] (c4) rfl rfl (AVsle.refl _) ⟨MOle.refl _, trivial⟩ rfl ?_
    refine DrawC.mkQ 6 [(.inl 0, 3)] rfl (by kernel_rfl) ?_; refine And.intro (by kernel_rfl) ?_
    conv => whnf
    refine PCallQ.m 0 (c5) rfl rfl rfl rfl ?_
    refine And.intro (inI64 (by omega) (by omega)) ?_
    exact And.intro trivial ⟨[(0, 0)], rfl, AVle.refl _, ⟨MOle.refl _, trivial⟩⟩
theorem rec_publish (s : Src) (x : Sta) {k : Int} (h : s.ok k) (hk : 0 ≤ k ∧ k ≤ 1000000) (hx : x.ok = true) (hq : x.seq ≤ 900000) (hf : x.fence ≤ 900000)
    (a1 a2 a3 a4 : Nat) (s1 s2 s3 s4 : Src) (h1 : (a1 : Int) < 3) (h2 : (a2 : Int) < 4) (h3 : (a3 : Int) < 2) (h4 : (a4 : Int) < 8) (k4 : s4.ok (k + 12)) (e4 : a4 = 4 ∨ a4 = 5)
    (c1 : FnM Tryz.prog 144 1 [.bptr 0 0, .int .i64 3] [(0, .box s.row)] (.int .i64 a1) [(0, .box s1.row)] 1)
    (c2 : FnM Tryz.prog 144 1 [.bptr 0 0, .int .i64 4] [(0, .box s1.row)] (.int .i64 a2) [(0, .box s2.row)] 1)
    (c3 : FnM Tryz.prog 144 1 [.bptr 0 0, .int .i64 2] [(0, .box s2.row)] (.int .i64 a3) [(0, .box s3.row)] 1)
    (c4 : FnM Tryz.prog 144 1 [.bptr 0 0, .int .i64 8] [(0, .box s3.row)] (.int .i64 a4) [(0, .box s4.row)] 1) :
    ∃ (r : Rc) (q : Src), q.ok (k + 30) ∧ r.key.length ≤ 1000 ∧ r.tok ≤ x.fence + 3 ∧ FnM Tryz.prog 109 1 [.bptr 0 0, x.av] [(0, .box s.row)] r.av [(0, .box q.row)] 1 := by
  have hO := (staOK_iff x).1 hx
  have hb := Sta.hi_b hx
  have hfq := hO.f
  have hsq := hO.q
  have w1 : (1 : Int) ≤ wd 1 ∧ wd 1 ≤ 1000 := by decide
  have w2 : (1 : Int) ≤ wd 2 ∧ wd 2 ≤ 1000 := by decide
  have cw1 := l04Width_fn 1 (.inr (.inl rfl))
  have cw2 := l04Width_fn 2 (.inr (.inr rfl))
  have q3 : a3 = 0 ∨ a3 = 1 := by omega
  rcases q3 with rfl | rfl
  · have q2 : a2 = 0 ∨ a2 = 1 ∨ a2 = 2 ∨ a2 = 3 := by omega
    rcases q2 with rfl | rfl | rfl | rfl
    · have hT : 1 ≤ (if x.fence > 1 then x.fence else 1) ∧ (if x.fence > 1 then x.fence else 1) ≤ x.fence + 3 := by split <;> omega
      have cK := l03Key_at (t' := 1) (n' := x.h1) (w' := if x.fence > 1 then x.fence else 1) (t := 1) (n := (x.h1).toNat) (w := (if x.fence > 1 then x.fence else 1).toNat) rfl (by omega) (by omega) (by decide) (by omega) (by omega)
      refine ⟨⟨3, if x.fence > 1 then x.fence else 1, 1, x.h1, x.h1 + wd 1, keyB 1 (x.h1).toNat (if x.fence > 1 then x.fence else 1).toNat⟩, s4, wk k4 (by omega), ?_, hT.2, ?_⟩
      · exact Nat.le_trans (key_len (k := keyB 1 (x.h1).toNat (if x.fence > 1 then x.fence else 1).toNat) (by unfold kOk; rw [parse_key (by omega) (by omega) (by omega)]; rfl)) (by decide)
      rcases e4 with rfl | rfl
      all_goals
        refine FnM.introC Tryz.call109 Tryz.func109 rfl rfl ?_
        refine DrawC.mkQ 15 [(.inl 0, 9), (.inl 0, 14)] rfl (by kernel_rfl) ?_; refine And.intro (by kernel_rfl) ?_
        conv => whnf
        refine PCallQ.m 0 (c1) rfl rfl rfl rfl ?_
        refine And.intro (inI64 (by omega) (by omega)) ?_
        refine And.intro (inI64 (by omega) (by omega)) ?_
        conv => whnf
        refine PCallQ.m 0 (c2) rfl rfl rfl rfl ?_
        refine And.intro ⟨by decide, by decide⟩ ?_
        conv => whnf
        refine CallC.k [(0, 0)] (c3) rfl rfl (AVsle.refl _) ⟨MOle.refl _, trivial⟩ rfl ?_
        refine And.intro (inI64 (by omega) (by omega)) ?_
        conv => whnf
        refine CallC.k [(0, 0)] (c4) rfl rfl (AVsle.refl _) ⟨MOle.refl _, trivial⟩ rfl ?_
        refine And.intro (by decide) ?_
        conv => whnf
        refine CallC.sca _ (cw1) ?_ ?_
        · exact rfl
        refine And.intro (inI64 (by omega) (by omega)) ?_
        conv => whnf
        refine CallC.sca _ (cK) ?_ ?_
        · exact rfl
        exact And.intro trivial ⟨[(0, 0)], rfl, AVle.refl _, ⟨MOle.refl _, trivial⟩⟩
    · have hT : 1 ≤ (if x.fence > 1 then x.fence else 1) ∧ (if x.fence > 1 then x.fence else 1) ≤ x.fence + 3 := by split <;> omega
      have cK := l03Key_at (t' := 1) (n' := x.h1) (w' := if x.fence > 1 then x.fence else 1) (t := 1) (n := (x.h1).toNat) (w := (if x.fence > 1 then x.fence else 1).toNat) rfl (by omega) (by omega) (by decide) (by omega) (by omega)
      refine ⟨⟨3, if x.fence > 1 then x.fence else 1, 1, x.h1, x.h1 + wd 1, keyB 1 (x.h1).toNat (if x.fence > 1 then x.fence else 1).toNat⟩, s4, wk k4 (by omega), ?_, hT.2, ?_⟩
      · exact Nat.le_trans (key_len (k := keyB 1 (x.h1).toNat (if x.fence > 1 then x.fence else 1).toNat) (by unfold kOk; rw [parse_key (by omega) (by omega) (by omega)]; rfl)) (by decide)
      rcases e4 with rfl | rfl
      all_goals
        refine FnM.introC Tryz.call109 Tryz.func109 rfl rfl ?_
        refine DrawC.mkQ 15 [(.inl 0, 9), (.inl 0, 14)] rfl (by kernel_rfl) ?_; refine And.intro (by kernel_rfl) ?_
        conv => whnf
        refine PCallQ.m 0 (c1) rfl rfl rfl rfl ?_
        refine And.intro (inI64 (by omega) (by omega)) ?_
        refine And.intro (inI64 (by omega) (by omega)) ?_
        conv => whnf
        refine PCallQ.m 0 (c2) rfl rfl rfl rfl ?_
        refine And.intro ⟨by decide, by decide⟩ ?_
        conv => whnf
        refine CallC.k [(0, 0)] (c3) rfl rfl (AVsle.refl _) ⟨MOle.refl _, trivial⟩ rfl ?_
        refine And.intro (inI64 (by omega) (by omega)) ?_
        conv => whnf
        refine CallC.k [(0, 0)] (c4) rfl rfl (AVsle.refl _) ⟨MOle.refl _, trivial⟩ rfl ?_
        refine And.intro (by decide) ?_
        conv => whnf
        refine CallC.sca _ (cw1) ?_ ?_
        · exact rfl
        refine And.intro (inI64 (by omega) (by omega)) ?_
        conv => whnf
        refine CallC.sca _ (cK) ?_ ?_
        · exact rfl
        exact And.intro trivial ⟨[(0, 0)], rfl, AVle.refl _, ⟨MOle.refl _, trivial⟩⟩
    · have hT : 1 ≤ (if x.fence > 1 then x.fence else 1) ∧ (if x.fence > 1 then x.fence else 1) ≤ x.fence + 3 := by split <;> omega
      have cK := l03Key_at (t' := 1) (n' := x.h1) (w' := if x.fence > 1 then x.fence else 1) (t := 1) (n := (x.h1).toNat) (w := (if x.fence > 1 then x.fence else 1).toNat) rfl (by omega) (by omega) (by decide) (by omega) (by omega)
      refine ⟨⟨3, if x.fence > 1 then x.fence else 1, 1, x.h1, x.h1 + wd 1, keyB 1 (x.h1).toNat (if x.fence > 1 then x.fence else 1).toNat⟩, s4, wk k4 (by omega), ?_, hT.2, ?_⟩
      · exact Nat.le_trans (key_len (k := keyB 1 (x.h1).toNat (if x.fence > 1 then x.fence else 1).toNat) (by unfold kOk; rw [parse_key (by omega) (by omega) (by omega)]; rfl)) (by decide)
      rcases e4 with rfl | rfl
      all_goals
        refine FnM.introC Tryz.call109 Tryz.func109 rfl rfl ?_
        refine DrawC.mkQ 15 [(.inl 0, 9), (.inl 0, 14)] rfl (by kernel_rfl) ?_; refine And.intro (by kernel_rfl) ?_
        conv => whnf
        refine PCallQ.m 0 (c1) rfl rfl rfl rfl ?_
        refine And.intro (inI64 (by omega) (by omega)) ?_
        refine And.intro (inI64 (by omega) (by omega)) ?_
        conv => whnf
        refine PCallQ.m 0 (c2) rfl rfl rfl rfl ?_
        refine And.intro ⟨by decide, by decide⟩ ?_
        conv => whnf
        refine CallC.k [(0, 0)] (c3) rfl rfl (AVsle.refl _) ⟨MOle.refl _, trivial⟩ rfl ?_
        refine And.intro (inI64 (by omega) (by omega)) ?_
        conv => whnf
        refine CallC.k [(0, 0)] (c4) rfl rfl (AVsle.refl _) ⟨MOle.refl _, trivial⟩ rfl ?_
        refine And.intro (by decide) ?_
        conv => whnf
        refine CallC.sca _ (cw1) ?_ ?_
        · exact rfl
        refine And.intro (inI64 (by omega) (by omega)) ?_
        conv => whnf
        refine CallC.sca _ (cK) ?_ ?_
        · exact rfl
        exact And.intro trivial ⟨[(0, 0)], rfl, AVle.refl _, ⟨MOle.refl _, trivial⟩⟩
    · have hT : 1 ≤ (if (x.fence + a1 - 1) > 1 then (x.fence + a1 - 1) else 1) ∧ (if (x.fence + a1 - 1) > 1 then (x.fence + a1 - 1) else 1) ≤ x.fence + 3 := by split <;> omega
      have cK := l03Key_at (t' := 1) (n' := x.h1) (w' := if (x.fence + a1 - 1) > 1 then (x.fence + a1 - 1) else 1) (t := 1) (n := (x.h1).toNat) (w := (if (x.fence + a1 - 1) > 1 then (x.fence + a1 - 1) else 1).toNat) rfl (by omega) (by omega) (by decide) (by omega) (by omega)
      refine ⟨⟨3, if (x.fence + a1 - 1) > 1 then (x.fence + a1 - 1) else 1, 1, x.h1, x.h1 + wd 1, keyB 1 (x.h1).toNat (if (x.fence + a1 - 1) > 1 then (x.fence + a1 - 1) else 1).toNat⟩, s4, wk k4 (by omega), ?_, hT.2, ?_⟩
      · exact Nat.le_trans (key_len (k := keyB 1 (x.h1).toNat (if (x.fence + a1 - 1) > 1 then (x.fence + a1 - 1) else 1).toNat) (by unfold kOk; rw [parse_key (by omega) (by omega) (by omega)]; rfl)) (by decide)
      rcases e4 with rfl | rfl
      all_goals
        refine FnM.introC Tryz.call109 Tryz.func109 rfl rfl ?_
        refine DrawC.mkQ 15 [(.inl 0, 9), (.inl 0, 14)] rfl (by kernel_rfl) ?_; refine And.intro (by kernel_rfl) ?_
        conv => whnf
        refine PCallQ.m 0 (c1) rfl rfl rfl rfl ?_
        refine And.intro (inI64 (by omega) (by omega)) ?_
        refine And.intro (inI64 (by omega) (by omega)) ?_
        conv => whnf
        refine PCallQ.m 0 (c2) rfl rfl rfl rfl ?_
        refine And.intro ⟨by decide, by decide⟩ ?_
        conv => whnf
        refine CallC.k [(0, 0)] (c3) rfl rfl (AVsle.refl _) ⟨MOle.refl _, trivial⟩ rfl ?_
        refine And.intro (inI64 (by omega) (by omega)) ?_
        conv => whnf
        refine CallC.k [(0, 0)] (c4) rfl rfl (AVsle.refl _) ⟨MOle.refl _, trivial⟩ rfl ?_
        refine And.intro (by decide) ?_
        conv => whnf
        refine CallC.sca _ (cw1) ?_ ?_
        · exact rfl
        refine And.intro (inI64 (by omega) (by omega)) ?_
        conv => whnf
        refine CallC.sca _ (cK) ?_ ?_
        · exact rfl
        exact And.intro trivial ⟨[(0, 0)], rfl, AVle.refl _, ⟨MOle.refl _, trivial⟩⟩
  · have q2 : a2 = 0 ∨ a2 = 1 ∨ a2 = 2 ∨ a2 = 3 := by omega
    rcases q2 with rfl | rfl | rfl | rfl
    · have hT : 1 ≤ (if x.fence > 1 then x.fence else 1) ∧ (if x.fence > 1 then x.fence else 1) ≤ x.fence + 3 := by split <;> omega
      have cK := l03Key_at (t' := 2) (n' := x.h2) (w' := if x.fence > 1 then x.fence else 1) (t := 2) (n := (x.h2).toNat) (w := (if x.fence > 1 then x.fence else 1).toNat) rfl (by omega) (by omega) (by decide) (by omega) (by omega)
      refine ⟨⟨3, if x.fence > 1 then x.fence else 1, 2, x.h2, x.h2 + wd 2, keyB 2 (x.h2).toNat (if x.fence > 1 then x.fence else 1).toNat⟩, s4, wk k4 (by omega), ?_, hT.2, ?_⟩
      · exact Nat.le_trans (key_len (k := keyB 2 (x.h2).toNat (if x.fence > 1 then x.fence else 1).toNat) (by unfold kOk; rw [parse_key (by omega) (by omega) (by omega)]; rfl)) (by decide)
      rcases e4 with rfl | rfl
      all_goals
        refine FnM.introC Tryz.call109 Tryz.func109 rfl rfl ?_
        refine DrawC.mkQ 15 [(.inl 0, 9), (.inl 0, 14)] rfl (by kernel_rfl) ?_; refine And.intro (by kernel_rfl) ?_
        conv => whnf
        refine PCallQ.m 0 (c1) rfl rfl rfl rfl ?_
        refine And.intro (inI64 (by omega) (by omega)) ?_
        refine And.intro (inI64 (by omega) (by omega)) ?_
        conv => whnf
        refine PCallQ.m 0 (c2) rfl rfl rfl rfl ?_
        refine And.intro ⟨by decide, by decide⟩ ?_
        conv => whnf
        refine CallC.k [(0, 0)] (c3) rfl rfl (AVsle.refl _) ⟨MOle.refl _, trivial⟩ rfl ?_
        refine And.intro (inI64 (by omega) (by omega)) ?_
        conv => whnf
        refine CallC.k [(0, 0)] (c4) rfl rfl (AVsle.refl _) ⟨MOle.refl _, trivial⟩ rfl ?_
        refine And.intro (by decide) ?_
        conv => whnf
        refine CallC.sca _ (cw2) ?_ ?_
        · exact rfl
        refine And.intro (inI64 (by omega) (by omega)) ?_
        conv => whnf
        refine CallC.sca _ (cK) ?_ ?_
        · exact rfl
        exact And.intro trivial ⟨[(0, 0)], rfl, AVle.refl _, ⟨MOle.refl _, trivial⟩⟩
    · have hT : 1 ≤ (if x.fence > 1 then x.fence else 1) ∧ (if x.fence > 1 then x.fence else 1) ≤ x.fence + 3 := by split <;> omega
      have cK := l03Key_at (t' := 2) (n' := x.h2) (w' := if x.fence > 1 then x.fence else 1) (t := 2) (n := (x.h2).toNat) (w := (if x.fence > 1 then x.fence else 1).toNat) rfl (by omega) (by omega) (by decide) (by omega) (by omega)
      refine ⟨⟨3, if x.fence > 1 then x.fence else 1, 2, x.h2, x.h2 + wd 2, keyB 2 (x.h2).toNat (if x.fence > 1 then x.fence else 1).toNat⟩, s4, wk k4 (by omega), ?_, hT.2, ?_⟩
      · exact Nat.le_trans (key_len (k := keyB 2 (x.h2).toNat (if x.fence > 1 then x.fence else 1).toNat) (by unfold kOk; rw [parse_key (by omega) (by omega) (by omega)]; rfl)) (by decide)
      rcases e4 with rfl | rfl
      all_goals
        refine FnM.introC Tryz.call109 Tryz.func109 rfl rfl ?_
        refine DrawC.mkQ 15 [(.inl 0, 9), (.inl 0, 14)] rfl (by kernel_rfl) ?_; refine And.intro (by kernel_rfl) ?_
        conv => whnf
        refine PCallQ.m 0 (c1) rfl rfl rfl rfl ?_
        refine And.intro (inI64 (by omega) (by omega)) ?_
        refine And.intro (inI64 (by omega) (by omega)) ?_
        conv => whnf
        refine PCallQ.m 0 (c2) rfl rfl rfl rfl ?_
        refine And.intro ⟨by decide, by decide⟩ ?_
        conv => whnf
        refine CallC.k [(0, 0)] (c3) rfl rfl (AVsle.refl _) ⟨MOle.refl _, trivial⟩ rfl ?_
        refine And.intro (inI64 (by omega) (by omega)) ?_
        conv => whnf
        refine CallC.k [(0, 0)] (c4) rfl rfl (AVsle.refl _) ⟨MOle.refl _, trivial⟩ rfl ?_
        refine And.intro (by decide) ?_
        conv => whnf
        refine CallC.sca _ (cw2) ?_ ?_
        · exact rfl
        refine And.intro (inI64 (by omega) (by omega)) ?_
        conv => whnf
        refine CallC.sca _ (cK) ?_ ?_
        · exact rfl
        exact And.intro trivial ⟨[(0, 0)], rfl, AVle.refl _, ⟨MOle.refl _, trivial⟩⟩
    · have hT : 1 ≤ (if x.fence > 1 then x.fence else 1) ∧ (if x.fence > 1 then x.fence else 1) ≤ x.fence + 3 := by split <;> omega
      have cK := l03Key_at (t' := 2) (n' := x.h2) (w' := if x.fence > 1 then x.fence else 1) (t := 2) (n := (x.h2).toNat) (w := (if x.fence > 1 then x.fence else 1).toNat) rfl (by omega) (by omega) (by decide) (by omega) (by omega)
      refine ⟨⟨3, if x.fence > 1 then x.fence else 1, 2, x.h2, x.h2 + wd 2, keyB 2 (x.h2).toNat (if x.fence > 1 then x.fence else 1).toNat⟩, s4, wk k4 (by omega), ?_, hT.2, ?_⟩
      · exact Nat.le_trans (key_len (k := keyB 2 (x.h2).toNat (if x.fence > 1 then x.fence else 1).toNat) (by unfold kOk; rw [parse_key (by omega) (by omega) (by omega)]; rfl)) (by decide)
      rcases e4 with rfl | rfl
      all_goals
        refine FnM.introC Tryz.call109 Tryz.func109 rfl rfl ?_
        refine DrawC.mkQ 15 [(.inl 0, 9), (.inl 0, 14)] rfl (by kernel_rfl) ?_; refine And.intro (by kernel_rfl) ?_
        conv => whnf
        refine PCallQ.m 0 (c1) rfl rfl rfl rfl ?_
        refine And.intro (inI64 (by omega) (by omega)) ?_
        refine And.intro (inI64 (by omega) (by omega)) ?_
        conv => whnf
        refine PCallQ.m 0 (c2) rfl rfl rfl rfl ?_
        refine And.intro ⟨by decide, by decide⟩ ?_
        conv => whnf
        refine CallC.k [(0, 0)] (c3) rfl rfl (AVsle.refl _) ⟨MOle.refl _, trivial⟩ rfl ?_
        refine And.intro (inI64 (by omega) (by omega)) ?_
        conv => whnf
        refine CallC.k [(0, 0)] (c4) rfl rfl (AVsle.refl _) ⟨MOle.refl _, trivial⟩ rfl ?_
        refine And.intro (by decide) ?_
        conv => whnf
        refine CallC.sca _ (cw2) ?_ ?_
        · exact rfl
        refine And.intro (inI64 (by omega) (by omega)) ?_
        conv => whnf
        refine CallC.sca _ (cK) ?_ ?_
        · exact rfl
        exact And.intro trivial ⟨[(0, 0)], rfl, AVle.refl _, ⟨MOle.refl _, trivial⟩⟩
    · have hT : 1 ≤ (if (x.fence + a1 - 1) > 1 then (x.fence + a1 - 1) else 1) ∧ (if (x.fence + a1 - 1) > 1 then (x.fence + a1 - 1) else 1) ≤ x.fence + 3 := by split <;> omega
      have cK := l03Key_at (t' := 2) (n' := x.h2) (w' := if (x.fence + a1 - 1) > 1 then (x.fence + a1 - 1) else 1) (t := 2) (n := (x.h2).toNat) (w := (if (x.fence + a1 - 1) > 1 then (x.fence + a1 - 1) else 1).toNat) rfl (by omega) (by omega) (by decide) (by omega) (by omega)
      refine ⟨⟨3, if (x.fence + a1 - 1) > 1 then (x.fence + a1 - 1) else 1, 2, x.h2, x.h2 + wd 2, keyB 2 (x.h2).toNat (if (x.fence + a1 - 1) > 1 then (x.fence + a1 - 1) else 1).toNat⟩, s4, wk k4 (by omega), ?_, hT.2, ?_⟩
      · exact Nat.le_trans (key_len (k := keyB 2 (x.h2).toNat (if (x.fence + a1 - 1) > 1 then (x.fence + a1 - 1) else 1).toNat) (by unfold kOk; rw [parse_key (by omega) (by omega) (by omega)]; rfl)) (by decide)
      rcases e4 with rfl | rfl
      all_goals
        refine FnM.introC Tryz.call109 Tryz.func109 rfl rfl ?_
        refine DrawC.mkQ 15 [(.inl 0, 9), (.inl 0, 14)] rfl (by kernel_rfl) ?_; refine And.intro (by kernel_rfl) ?_
        conv => whnf
        refine PCallQ.m 0 (c1) rfl rfl rfl rfl ?_
        refine And.intro (inI64 (by omega) (by omega)) ?_
        refine And.intro (inI64 (by omega) (by omega)) ?_
        conv => whnf
        refine PCallQ.m 0 (c2) rfl rfl rfl rfl ?_
        refine And.intro ⟨by decide, by decide⟩ ?_
        conv => whnf
        refine CallC.k [(0, 0)] (c3) rfl rfl (AVsle.refl _) ⟨MOle.refl _, trivial⟩ rfl ?_
        refine And.intro (inI64 (by omega) (by omega)) ?_
        conv => whnf
        refine CallC.k [(0, 0)] (c4) rfl rfl (AVsle.refl _) ⟨MOle.refl _, trivial⟩ rfl ?_
        refine And.intro (by decide) ?_
        conv => whnf
        refine CallC.sca _ (cw2) ?_ ?_
        · exact rfl
        refine And.intro (inI64 (by omega) (by omega)) ?_
        conv => whnf
        refine CallC.sca _ (cK) ?_ ?_
        · exact rfl
        exact And.intro trivial ⟨[(0, 0)], rfl, AVle.refl _, ⟨MOle.refl _, trivial⟩⟩
theorem rec_last (s : Src) (x : Sta) {k : Int} (h : s.ok k) (hk : 0 ≤ k ∧ k ≤ 1000000) (hx : x.ok = true) (hq : x.seq ≤ 900000) (hf : x.fence ≤ 900000)
    (a1 a2 a3 a4 : Nat) (s1 s2 s3 s4 : Src) (h1 : (a1 : Int) < 3) (h2 : (a2 : Int) < 4) (h3 : (a3 : Int) < 2) (h4 : (a4 : Int) < 8) (k4 : s4.ok (k + 12)) (e4 : a4 = 7)
    (c1 : FnM Tryz.prog 144 1 [.bptr 0 0, .int .i64 3] [(0, .box s.row)] (.int .i64 a1) [(0, .box s1.row)] 1)
    (c2 : FnM Tryz.prog 144 1 [.bptr 0 0, .int .i64 4] [(0, .box s1.row)] (.int .i64 a2) [(0, .box s2.row)] 1)
    (c3 : FnM Tryz.prog 144 1 [.bptr 0 0, .int .i64 2] [(0, .box s2.row)] (.int .i64 a3) [(0, .box s3.row)] 1)
    (c4 : FnM Tryz.prog 144 1 [.bptr 0 0, .int .i64 8] [(0, .box s3.row)] (.int .i64 a4) [(0, .box s4.row)] 1) :
    ∃ (r : Rc) (q : Src), q.ok (k + 30) ∧ r.key.length ≤ 1000 ∧ r.tok ≤ x.fence + 3 ∧ FnM Tryz.prog 109 1 [.bptr 0 0, x.av] [(0, .box s.row)] r.av [(0, .box q.row)] 1 := by
  have hO := (staOK_iff x).1 hx
  have hb := Sta.hi_b hx
  have hfq := hO.f
  have hsq := hO.q
  subst e4
  by_cases ht : 0 < x.ts.length
  · obtain ⟨v, s6, hv, k6, c6⟩ := draw s4 k4 (by omega) (x.ts.length : Int) (by omega)
    have hv' : v < x.ts.length := by omega
    refine ⟨⟨5, 0, 0, 0, 0, (ix x.ts v).key⟩, s6, wk k6 (by omega), ?_, ?_, ?_⟩
    · exact Nat.le_trans (key_len (hO.ts _ (ix_in hv')).1) (by decide)
    · show (0 : Int) ≤ _; omega
    have q2 : a2 = 0 ∨ a2 = 1 ∨ a2 = 2 ∨ a2 = 3 := by omega
    rcases q2 with rfl | rfl | rfl | rfl
    all_goals
      refine FnM.introC Tryz.call109 Tryz.func109 rfl rfl ?_
      refine DrawC.mkQ 15 [(.inl 0, 9), (.inl 0, 14)] rfl (by kernel_rfl) ?_; refine And.intro (by kernel_rfl) ?_
      conv => whnf
      refine PCallQ.m 0 (c1) rfl rfl rfl rfl ?_
      refine And.intro (inI64 (by omega) (by omega)) ?_
      refine And.intro (inI64 (by omega) (by omega)) ?_
      conv => whnf
      refine PCallQ.m 0 (c2) rfl rfl rfl rfl ?_
      refine And.intro ⟨by decide, by decide⟩ ?_
      conv => whnf
      refine CallC.k [(0, 0)] (c3) rfl rfl (AVsle.refl _) ⟨MOle.refl _, trivial⟩ rfl ?_
      refine And.intro (inI64 (by omega) (by omega)) ?_
      conv => whnf
      refine CallC.k [(0, 0)] (c4) rfl rfl (AVsle.refl _) ⟨MOle.refl _, trivial⟩ rfl ?_
      refine Grd.intro (fun _ => ?_) (fun h => absurd (of_decide_eq_false h) (by omega))
      refine DrawC.mkQ 7 [(.inl 0, 6)] rfl (by kernel_rfl) ?_; refine And.intro (by kernel_rfl) ?_
      conv => whnf
      refine PCallQ.m 0 (c6) rfl rfl rfl rfl ?_
      refine And.intro ⟨by omega, by omega⟩ ?_
      exact And.intro trivial ⟨[(0, 0)], rfl, AVle.refl _, ⟨MOle.refl _, trivial⟩⟩
  · refine ⟨⟨2, x.fence + 1, 0, 0, 0, []⟩, s4, wk k4 (by omega), Nat.zero_le _, ?_, ?_⟩
    · show x.fence + 1 ≤ _; omega
    have q2 : a2 = 0 ∨ a2 = 1 ∨ a2 = 2 ∨ a2 = 3 := by omega
    rcases q2 with rfl | rfl | rfl | rfl
    all_goals
      refine FnM.introC Tryz.call109 Tryz.func109 rfl rfl ?_
      refine DrawC.mkQ 15 [(.inl 0, 9), (.inl 0, 14)] rfl (by kernel_rfl) ?_; refine And.intro (by kernel_rfl) ?_
      conv => whnf
      refine PCallQ.m 0 (c1) rfl rfl rfl rfl ?_
      refine And.intro (inI64 (by omega) (by omega)) ?_
      refine And.intro (inI64 (by omega) (by omega)) ?_
      conv => whnf
      refine PCallQ.m 0 (c2) rfl rfl rfl rfl ?_
      refine And.intro ⟨by decide, by decide⟩ ?_
      conv => whnf
      refine CallC.k [(0, 0)] (c3) rfl rfl (AVsle.refl _) ⟨MOle.refl _, trivial⟩ rfl ?_
      refine And.intro (inI64 (by omega) (by omega)) ?_
      conv => whnf
      refine CallC.k [(0, 0)] (c4) rfl rfl (AVsle.refl _) ⟨MOle.refl _, trivial⟩ rfl ?_
      refine Grd.intro (fun h => absurd (of_decide_eq_true h) (by omega)) (fun _ => ?_)
      refine And.intro (inI64 (by omega) (by omega)) ?_
      exact And.intro trivial ⟨[(0, 0)], rfl, AVle.refl _, ⟨MOle.refl _, trivial⟩⟩
theorem rec_retire (s : Src) (x : Sta) {k : Int} (h : s.ok k) (hk : 0 ≤ k ∧ k ≤ 1000000) (hx : x.ok = true) (hq : x.seq ≤ 900000) (hf : x.fence ≤ 900000)
    (a1 a2 a3 a4 : Nat) (s1 s2 s3 s4 : Src) (h1 : (a1 : Int) < 3) (h2 : (a2 : Int) < 4) (h3 : (a3 : Int) < 2) (h4 : (a4 : Int) < 8) (k4 : s4.ok (k + 12)) (e4 : a4 = 6)
    (c1 : FnM Tryz.prog 144 1 [.bptr 0 0, .int .i64 3] [(0, .box s.row)] (.int .i64 a1) [(0, .box s1.row)] 1)
    (c2 : FnM Tryz.prog 144 1 [.bptr 0 0, .int .i64 4] [(0, .box s1.row)] (.int .i64 a2) [(0, .box s2.row)] 1)
    (c3 : FnM Tryz.prog 144 1 [.bptr 0 0, .int .i64 2] [(0, .box s2.row)] (.int .i64 a3) [(0, .box s3.row)] 1)
    (c4 : FnM Tryz.prog 144 1 [.bptr 0 0, .int .i64 8] [(0, .box s3.row)] (.int .i64 a4) [(0, .box s4.row)] 1) :
    ∃ (r : Rc) (q : Src), q.ok (k + 30) ∧ r.key.length ≤ 1000 ∧ r.tok ≤ x.fence + 3 ∧ FnM Tryz.prog 109 1 [.bptr 0 0, x.av] [(0, .box s.row)] r.av [(0, .box q.row)] 1 := by
  have hO := (staOK_iff x).1 hx
  have hb := Sta.hi_b hx
  have hfq := hO.f
  have hsq := hO.q
  subst e4
  obtain ⟨u, s5, hu, k5, c5⟩ := draw s4 k4 (by omega) 3 (by decide)
  have hL := hO.len
  have cF := l06First_fn x (by omega) u
  rcases fi_first (fun e : En => decide (e.tier = (u : Int))) x.es with ⟨f1, _⟩ | ⟨i, hi, f1, _⟩
  · rw [f1] at cF
    by_cases ht : 0 < x.ts.length
    · obtain ⟨v, s6, hv, k6, c6⟩ := draw s5 k5 (by omega) (x.ts.length : Int) (by omega)
      have hv' : v < x.ts.length := by omega
      refine ⟨⟨5, 0, 0, 0, 0, (ix x.ts v).key⟩, s6, wk k6 (by omega), ?_, ?_, ?_⟩
      · exact Nat.le_trans (key_len (hO.ts _ (ix_in hv')).1) (by decide)
      · show (0 : Int) ≤ _; omega
      have q2 : a2 = 0 ∨ a2 = 1 ∨ a2 = 2 ∨ a2 = 3 := by omega
      rcases q2 with rfl | rfl | rfl | rfl
      all_goals
        refine FnM.introC Tryz.call109 Tryz.func109 rfl rfl ?_
        refine DrawC.mkQ 15 [(.inl 0, 9), (.inl 0, 14)] rfl (by kernel_rfl) ?_; refine And.intro (by kernel_rfl) ?_
        conv => whnf
        refine PCallQ.m 0 (c1) rfl rfl rfl rfl ?_
        refine And.intro (inI64 (by omega) (by omega)) ?_
        refine And.intro (inI64 (by omega) (by omega)) ?_
        conv => whnf
        refine PCallQ.m 0 (c2) rfl rfl rfl rfl ?_
        refine And.intro ⟨by decide, by decide⟩ ?_
        conv => whnf
        refine CallC.k [(0, 0)] (c3) rfl rfl (AVsle.refl _) ⟨MOle.refl _, trivial⟩ rfl ?_
        refine And.intro (inI64 (by omega) (by omega)) ?_
        conv => whnf
        refine CallC.k [(0, 0)] (c4) rfl rfl (AVsle.refl _) ⟨MOle.refl _, trivial⟩ rfl ?_
        refine DrawC.mkQ 4 [(.inl 0, 2)] rfl (by kernel_rfl) ?_; refine And.intro (by kernel_rfl) ?_
        conv => whnf
        refine PCallQ.m 0 (c5) rfl rfl rfl rfl ?_
        conv => whnf
        refine PCallQ.sca _ (cF) rfl ?_
        refine Grd.intro (fun _ => ?_) (fun h => absurd (of_decide_eq_false h) (by omega))
        refine DrawC.mkQ 7 [(.inl 0, 6)] rfl (by kernel_rfl) ?_; refine And.intro (by kernel_rfl) ?_
        conv => whnf
        refine PCallQ.m 0 (c6) rfl rfl rfl rfl ?_
        refine And.intro ⟨by omega, by omega⟩ ?_
        exact And.intro trivial ⟨[(0, 0)], rfl, AVle.refl _, ⟨MOle.refl _, trivial⟩⟩
    · refine ⟨⟨2, x.fence + 1, 0, 0, 0, []⟩, s5, wk k5 (by omega), Nat.zero_le _, ?_, ?_⟩
      · show x.fence + 1 ≤ _; omega
      have q2 : a2 = 0 ∨ a2 = 1 ∨ a2 = 2 ∨ a2 = 3 := by omega
      rcases q2 with rfl | rfl | rfl | rfl
      all_goals
        refine FnM.introC Tryz.call109 Tryz.func109 rfl rfl ?_
        refine DrawC.mkQ 15 [(.inl 0, 9), (.inl 0, 14)] rfl (by kernel_rfl) ?_; refine And.intro (by kernel_rfl) ?_
        conv => whnf
        refine PCallQ.m 0 (c1) rfl rfl rfl rfl ?_
        refine And.intro (inI64 (by omega) (by omega)) ?_
        refine And.intro (inI64 (by omega) (by omega)) ?_
        conv => whnf
        refine PCallQ.m 0 (c2) rfl rfl rfl rfl ?_
        refine And.intro ⟨by decide, by decide⟩ ?_
        conv => whnf
        refine CallC.k [(0, 0)] (c3) rfl rfl (AVsle.refl _) ⟨MOle.refl _, trivial⟩ rfl ?_
        refine And.intro (inI64 (by omega) (by omega)) ?_
        conv => whnf
        refine CallC.k [(0, 0)] (c4) rfl rfl (AVsle.refl _) ⟨MOle.refl _, trivial⟩ rfl ?_
        refine DrawC.mkQ 4 [(.inl 0, 2)] rfl (by kernel_rfl) ?_; refine And.intro (by kernel_rfl) ?_
        conv => whnf
        refine PCallQ.m 0 (c5) rfl rfl rfl rfl ?_
        conv => whnf
        refine PCallQ.sca _ (cF) rfl ?_
        refine Grd.intro (fun h => absurd (of_decide_eq_true h) (by omega)) (fun _ => ?_)
        refine And.intro (inI64 (by omega) (by omega)) ?_
        exact And.intro trivial ⟨[(0, 0)], rfl, AVle.refl _, ⟨MOle.refl _, trivial⟩⟩
  · rw [f1] at cF
    have hk := hO.es _ (ix_in hi)
    have hk17 : (ix x.es i).key.length ≤ 17 := key_len (by unfold En.ok at hk; simp only [Bool.and_eq_true] at hk; exact hk.1)
    have q2 : a2 = 0 ∨ a2 = 1 ∨ a2 = 2 ∨ a2 = 3 := by omega
    rcases q2 with rfl | rfl | rfl | rfl
    · refine ⟨⟨4, if x.fence > 1 then x.fence else 1, (ix x.es i).tier, (ix x.es i).f, (ix x.es i).t, (ix x.es i).key⟩, s5, wk k5 (by omega), Nat.le_trans hk17 (by decide), ?_, ?_⟩
      · show (if x.fence > 1 then x.fence else 1) ≤ _; split <;> omega
      refine FnM.introC Tryz.call109 Tryz.func109 rfl rfl ?_
      refine DrawC.mkQ 15 [(.inl 0, 9), (.inl 0, 14)] rfl (by kernel_rfl) ?_; refine And.intro (by kernel_rfl) ?_
      conv => whnf
      refine PCallQ.m 0 (c1) rfl rfl rfl rfl ?_
      refine And.intro (inI64 (by omega) (by omega)) ?_
      refine And.intro (inI64 (by omega) (by omega)) ?_
      conv => whnf
      refine PCallQ.m 0 (c2) rfl rfl rfl rfl ?_
      refine And.intro ⟨by decide, by decide⟩ ?_
      conv => whnf
      refine CallC.k [(0, 0)] (c3) rfl rfl (AVsle.refl _) ⟨MOle.refl _, trivial⟩ rfl ?_
      refine And.intro (inI64 (by omega) (by omega)) ?_
      conv => whnf
      refine CallC.k [(0, 0)] (c4) rfl rfl (AVsle.refl _) ⟨MOle.refl _, trivial⟩ rfl ?_
      refine DrawC.mkQ 4 [(.inl 0, 2)] rfl (by kernel_rfl) ?_; refine And.intro (by kernel_rfl) ?_
      conv => whnf
      refine PCallQ.m 0 (c5) rfl rfl rfl rfl ?_
      conv => whnf
      refine PCallQ.sca _ (cF) rfl ?_
      refine And.intro ⟨by omega, by omega⟩ ?_
      exact And.intro trivial ⟨[(0, 0)], rfl, AVle.refl _, ⟨MOle.refl _, trivial⟩⟩
    · refine ⟨⟨4, if x.fence > 1 then x.fence else 1, (ix x.es i).tier, (ix x.es i).f, (ix x.es i).t, (ix x.es i).key⟩, s5, wk k5 (by omega), Nat.le_trans hk17 (by decide), ?_, ?_⟩
      · show (if x.fence > 1 then x.fence else 1) ≤ _; split <;> omega
      refine FnM.introC Tryz.call109 Tryz.func109 rfl rfl ?_
      refine DrawC.mkQ 15 [(.inl 0, 9), (.inl 0, 14)] rfl (by kernel_rfl) ?_; refine And.intro (by kernel_rfl) ?_
      conv => whnf
      refine PCallQ.m 0 (c1) rfl rfl rfl rfl ?_
      refine And.intro (inI64 (by omega) (by omega)) ?_
      refine And.intro (inI64 (by omega) (by omega)) ?_
      conv => whnf
      refine PCallQ.m 0 (c2) rfl rfl rfl rfl ?_
      refine And.intro ⟨by decide, by decide⟩ ?_
      conv => whnf
      refine CallC.k [(0, 0)] (c3) rfl rfl (AVsle.refl _) ⟨MOle.refl _, trivial⟩ rfl ?_
      refine And.intro (inI64 (by omega) (by omega)) ?_
      conv => whnf
      refine CallC.k [(0, 0)] (c4) rfl rfl (AVsle.refl _) ⟨MOle.refl _, trivial⟩ rfl ?_
      refine DrawC.mkQ 4 [(.inl 0, 2)] rfl (by kernel_rfl) ?_; refine And.intro (by kernel_rfl) ?_
      conv => whnf
      refine PCallQ.m 0 (c5) rfl rfl rfl rfl ?_
      conv => whnf
      refine PCallQ.sca _ (cF) rfl ?_
      refine And.intro ⟨by omega, by omega⟩ ?_
      exact And.intro trivial ⟨[(0, 0)], rfl, AVle.refl _, ⟨MOle.refl _, trivial⟩⟩
    · refine ⟨⟨4, if x.fence > 1 then x.fence else 1, (ix x.es i).tier, (ix x.es i).f, (ix x.es i).t, (ix x.es i).key⟩, s5, wk k5 (by omega), Nat.le_trans hk17 (by decide), ?_, ?_⟩
      · show (if x.fence > 1 then x.fence else 1) ≤ _; split <;> omega
      refine FnM.introC Tryz.call109 Tryz.func109 rfl rfl ?_
      refine DrawC.mkQ 15 [(.inl 0, 9), (.inl 0, 14)] rfl (by kernel_rfl) ?_; refine And.intro (by kernel_rfl) ?_
      conv => whnf
      refine PCallQ.m 0 (c1) rfl rfl rfl rfl ?_
      refine And.intro (inI64 (by omega) (by omega)) ?_
      refine And.intro (inI64 (by omega) (by omega)) ?_
      conv => whnf
      refine PCallQ.m 0 (c2) rfl rfl rfl rfl ?_
      refine And.intro ⟨by decide, by decide⟩ ?_
      conv => whnf
      refine CallC.k [(0, 0)] (c3) rfl rfl (AVsle.refl _) ⟨MOle.refl _, trivial⟩ rfl ?_
      refine And.intro (inI64 (by omega) (by omega)) ?_
      conv => whnf
      refine CallC.k [(0, 0)] (c4) rfl rfl (AVsle.refl _) ⟨MOle.refl _, trivial⟩ rfl ?_
      refine DrawC.mkQ 4 [(.inl 0, 2)] rfl (by kernel_rfl) ?_; refine And.intro (by kernel_rfl) ?_
      conv => whnf
      refine PCallQ.m 0 (c5) rfl rfl rfl rfl ?_
      conv => whnf
      refine PCallQ.sca _ (cF) rfl ?_
      refine And.intro ⟨by omega, by omega⟩ ?_
      exact And.intro trivial ⟨[(0, 0)], rfl, AVle.refl _, ⟨MOle.refl _, trivial⟩⟩
    · refine ⟨⟨4, if (x.fence + a1 - 1) > 1 then (x.fence + a1 - 1) else 1, (ix x.es i).tier, (ix x.es i).f, (ix x.es i).t, (ix x.es i).key⟩, s5, wk k5 (by omega), Nat.le_trans hk17 (by decide), ?_, ?_⟩
      · show (if (x.fence + a1 - 1) > 1 then (x.fence + a1 - 1) else 1) ≤ _; split <;> omega
      refine FnM.introC Tryz.call109 Tryz.func109 rfl rfl ?_
      refine DrawC.mkQ 15 [(.inl 0, 9), (.inl 0, 14)] rfl (by kernel_rfl) ?_; refine And.intro (by kernel_rfl) ?_
      conv => whnf
      refine PCallQ.m 0 (c1) rfl rfl rfl rfl ?_
      refine And.intro (inI64 (by omega) (by omega)) ?_
      refine And.intro (inI64 (by omega) (by omega)) ?_
      conv => whnf
      refine PCallQ.m 0 (c2) rfl rfl rfl rfl ?_
      refine And.intro ⟨by decide, by decide⟩ ?_
      conv => whnf
      refine CallC.k [(0, 0)] (c3) rfl rfl (AVsle.refl _) ⟨MOle.refl _, trivial⟩ rfl ?_
      refine And.intro (inI64 (by omega) (by omega)) ?_
      conv => whnf
      refine CallC.k [(0, 0)] (c4) rfl rfl (AVsle.refl _) ⟨MOle.refl _, trivial⟩ rfl ?_
      refine DrawC.mkQ 4 [(.inl 0, 2)] rfl (by kernel_rfl) ?_; refine And.intro (by kernel_rfl) ?_
      conv => whnf
      refine PCallQ.m 0 (c5) rfl rfl rfl rfl ?_
      conv => whnf
      refine PCallQ.sca _ (cF) rfl ?_
      refine And.intro ⟨by omega, by omega⟩ ?_
      exact And.intro trivial ⟨[(0, 0)], rfl, AVle.refl _, ⟨MOle.refl _, trivial⟩⟩
theorem record_fn (s : Src) (x : Sta) {k : Int} (h : s.ok k) (hk : 0 ≤ k ∧ k ≤ 1000000) (hx : x.ok = true) (hq : x.seq ≤ 900000) (hf : x.fence ≤ 900000) :
    ∃ (r : Rc) (q : Src), q.ok (k + 30) ∧ r.key.length ≤ 1000 ∧ r.tok ≤ x.fence + 3 ∧ FnM Tryz.prog 109 1 [.bptr 0 0, x.av] [(0, .box s.row)] r.av [(0, .box q.row)] 1 := by
  obtain ⟨a1, s1, h1, k1, c1⟩ := draw s h (by omega) 3 (by decide)
  obtain ⟨a2, s2, h2, k2, c2⟩ := draw s1 k1 (by omega) 4 (by decide)
  obtain ⟨a3, s3, h3, k3, c3⟩ := draw s2 k2 (by omega) 2 (by decide)
  obtain ⟨a4, s4, h4, k4, c4⟩ := draw s3 k3 (by omega) 8 (by decide)
  have k4 : s4.ok (k + 12) := wk k4 (by omega)
  have e4 : (a4 = 0 ∨ a4 = 1 ∨ a4 = 2) ∨ a4 = 3 ∨ (a4 = 4 ∨ a4 = 5) ∨ a4 = 6 ∨ a4 = 7 := by omega
  rcases e4 with e4 | e4 | e4 | e4 | e4
  · exact rec_add s x h hk hx hq hf a1 a2 a3 a4 s1 s2 s3 s4 h1 h2 h3 h4 k4 e4 c1 c2 c3 c4
  · exact rec_claim s x h hk hx hq hf a1 a2 a3 a4 s1 s2 s3 s4 h1 h2 h3 h4 k4 e4 c1 c2 c3 c4
  · exact rec_publish s x h hk hx hq hf a1 a2 a3 a4 s1 s2 s3 s4 h1 h2 h3 h4 k4 e4 c1 c2 c3 c4
  · exact rec_retire s x h hk hx hq hf a1 a2 a3 a4 s1 s2 s3 s4 h1 h2 h3 h4 k4 e4 c1 c2 c3 c4
  · exact rec_last s x h hk hx hq hf a1 a2 a3 a4 s1 s2 s3 s4 h1 h2 h3 h4 k4 e4 c1 c2 c3 c4
end Go.Proofs.YtgiaaaejobhngaaGreatDoor
