/- Contracts of functions that the claim reaches, and the plain law of what they compute; each theorem bears its own conditions. -/
import Derived.Test.YtbhgcfhbhjcjhaaGreatDoorQ1
import Derived.Test.YtbhgcfhbhjcjhaaGreatDoorV52
import Derived.Test.YtbhgcfhbhjcjhaaGreatDoorQ4
import Derived.Test.YtbhgcfhbhjcjhaaGreatDoorQ3
import Derived.Test.YtbhgcfhbhjcjhaaGreatDoorQ2
set_option linter.unusedVariables false
set_option linter.constructorNameAsVariable false
set_option linter.unusedSimpArgs false
set_option maxRecDepth 20000
namespace Go.Proofs.YtbhgcfhbhjcjhaaGreatDoor
open Go Go.Vw
structure Src where
 code : List UInt8
 at_ : Int
 seed : Int
abbrev byts (L : List UInt8) : AV := .sl 1 L.length fun i => [.int .u8 ((ix L i).toNat : Int)]
def Src.row (s : Src) : List AV := [byts s.code, .int .i64 s.at_, .int .i64 s.seed]
def Src.ok (s : Src) (k : Int) : Prop := (0 ≤ s.at_ ∧ s.at_ ≤ k) ∧ (0 ≤ s.seed ∧ s.seed < 2147483648) ∧ s.code.length ≤ 1000000000
def Src.chr (s : Src) : Int := (ix s.code (s.at_ + 1 - 1).toNat).toNat
def Src.sd (s : Src) : Int := (s.seed * 1103515245 + 12345).tmod 2147483648
def Src.byte (s : Src) : Int × Src :=
 if s.at_ + 1 ≤ s.code.length then (s.chr, { s with at_ := s.at_ + 1, seed := (s.seed * 31 + s.chr + 7).tmod 2147483648 })
 else if 3000 < s.at_ + 1 then (0, { s with at_ := s.at_ + 1 })
 else ((s.sd.tdiv 65536).tmod 256, { s with at_ := s.at_ + 1, seed := s.sd })
theorem tmod_b {n m : Int} (h : 0 ≤ n) (hm : 0 < m) : 0 ≤ n.tmod m ∧ n.tmod m < m := by
 rw [Int.tmod_eq_emod_of_nonneg h]
 exact ⟨Int.emod_nonneg _ (by omega), Int.emod_lt_of_pos _ hm⟩
theorem tdiv_b {n : Int} {m : Int} (h : 0 ≤ n) (hm : 0 < m) : 0 ≤ n.tdiv m ∧ n.tdiv m ≤ n := by
 rw [Int.tdiv_eq_ediv_of_nonneg h]
 exact ⟨Int.ediv_nonneg h (by omega), Int.ediv_le_self _ h⟩
theorem chr_b (s : Src) : 0 ≤ s.chr ∧ s.chr ≤ 255 := by
 unfold Src.chr
 have := (ix s.code (s.at_ + 1 - 1).toNat).toNat_lt
 omega
theorem byte_b (s : Src) {k : Int} (h : s.ok k) : (0 ≤ s.byte.1 ∧ s.byte.1 ≤ 255) ∧ s.byte.2.ok (k + 1) ∧ s.byte.2.code = s.code := by
 obtain ⟨⟨a0, a1⟩, ⟨s0, s1⟩, hc⟩ := h
 have hch := chr_b s
 have hsd := tmod_b (n := s.seed * 1103515245 + 12345) (m := 2147483648) (by omega) (by omega)
 unfold Src.byte
 split
 · refine ⟨hch, ⟨⟨by simp only; omega, by simp only; omega⟩, ?_, hc⟩, rfl⟩
   exact tmod_b (by omega) (by omega)
 · split
   · exact ⟨by simp, ⟨⟨by simp only; omega, by simp only; omega⟩, ⟨s0, s1⟩, hc⟩, rfl⟩
   · refine ⟨?_, ⟨⟨by simp only; omega, by simp only; omega⟩, hsd, hc⟩, rfl⟩
     have h1 := tdiv_b (n := s.sd) (m := 65536) hsd.1 (by omega)
     have h2 := tmod_b (n := s.sd.tdiv 65536) (m := 256) h1.1 (by omega)
     simp only; omega
theorem byte_fn (s : Src) (h : s.ok 1000000000) : FnM Tryz.prog 115 1 [.bptr 0 0] [(0, .box s.row)] (.int .i64 s.byte.1) [(0, .box s.byte.2.row)] 1 := by
 have h' := h
 obtain ⟨⟨a0, a1⟩, ⟨s0, s1⟩, hc⟩ := h
 have hch := chr_b s
 have hsd := tmod_b (n := s.seed * 1103515245 + 12345) (m := 2147483648) (by omega) (by omega)
 obtain ⟨R, hR⟩ : ∃ R, R = s.byte := ⟨_, rfl⟩
 rw [← hR]
 refine FnM.introC Tryz.call115 Tryz.func115 rfl rfl ?_
 refine And.intro (inI64 (by omega) (by omega)) ?_
 refine DrawC.mq 10 rfl (by kernel_rfl) ?_
 refine Grd.intro (fun g1 => ?_) (fun g1 => ?_)
 · have g1 : s.at_ + 1 ≤ s.code.length := of_decide_eq_true g1
   have hR' : R = (s.chr, { s with at_ := s.at_ + 1, seed := (s.seed * 31 + s.chr + 7).tmod 2147483648 }) := by rw [hR, Src.byte, if_pos g1]
   refine DrawC.mq 23 rfl (by kernel_rfl) ?_
   refine And.intro (inI64 (by omega) (by omega)) ?_
   refine And.intro (inI64 (by omega) (by omega)) ?_
   refine And.intro ⟨by omega, by omega⟩ ?_
   refine And.intro (show inI .i64 s.chr from inI64 (by omega) (by omega)) ?_
   refine And.intro (show inI .i64 (s.seed * 31 + s.chr) from inI64 (by omega) (by omega)) ?_
   refine And.intro (show inI .i64 (s.seed * 31 + s.chr + 7) from inI64 (by omega) (by omega)) ?_
   refine And.intro (by decide) ?_
   refine DrawC.mq 13 rfl (by kernel_rfl) ?_
   refine And.intro (inI64 (by omega) (by omega)) ?_
   refine And.intro ⟨by omega, by omega⟩ ?_
   refine And.intro (show inI .i64 s.chr from inI64 (by omega) (by omega)) ?_
   subst hR'
   exact And.intro trivial ⟨[(0, 0)], rfl, AVle.refl _, ⟨MOle.refl _, trivial⟩⟩
 · have g1 : ¬ s.at_ + 1 ≤ s.code.length := of_decide_eq_false g1
   refine Grd.intro (fun g2 => ?_) (fun g2 => ?_)
   · have g2 : 3000 < s.at_ + 1 := of_decide_eq_true g2
     have hR' : R = (0, { s with at_ := s.at_ + 1 }) := by rw [hR, Src.byte, if_neg g1, if_pos g2]
     subst hR'
     exact And.intro trivial ⟨[(0, 0)], rfl, AVle.refl _, ⟨MOle.refl _, trivial⟩⟩
   · have g2 : ¬ 3000 < s.at_ + 1 := of_decide_eq_false g2
     have hR' : R = ((s.sd.tdiv 65536).tmod 256, { s with at_ := s.at_ + 1, seed := s.sd }) := by rw [hR, Src.byte, if_neg g1, if_neg g2]
     refine And.intro (inI64 (by omega) (by omega)) ?_
     refine And.intro (inI64 (by omega) (by omega)) ?_
     refine And.intro (by decide) ?_
     have h1 := tdiv_b (n := s.sd) (m := 65536) hsd.1 (by omega)
     have hsd' : 0 ≤ s.sd ∧ s.sd < 2147483648 := hsd
     refine And.intro ⟨by decide, show inI .i64 (s.sd.tdiv 65536) from inI64 (by omega) (by omega)⟩ ?_
     refine And.intro (by decide) ?_
     subst hR'
     exact And.intro trivial ⟨[(0, 0)], rfl, AVle.refl _, ⟨MOle.refl _, trivial⟩⟩
def Src.next (s : Src) (n : Int) : Int × Src :=
 if n ≤ 1 then (0, s)
 else if n ≤ 256 then (s.byte.1.tmod n, s.byte.2)
 else ((s.byte.1 * 65536 + s.byte.2.byte.1 * 256 + s.byte.2.byte.2.byte.1).tmod n, s.byte.2.byte.2.byte.2)
theorem next_b (s : Src) {k : Int} (h : s.ok k) (hk : 0 ≤ k) (n : Int) : (0 ≤ (s.next n).1 ∧ (1 ≤ n → (s.next n).1 < n)) ∧ (s.next n).2.ok (k + 3) ∧ (s.next n).2.code = s.code := by
 have h1 := byte_b s h
 have h2 := byte_b s.byte.2 h1.2.1
 have h3 := byte_b s.byte.2.byte.2 h2.2.1
 have w : ∀ (x : Src) (a b : Int), x.ok a → a ≤ b → x.ok b := fun x a b hx hab => ⟨⟨hx.1.1, by have := hx.1.2; omega⟩, hx.2⟩
 unfold Src.next
 split
 · exact ⟨⟨by simp, fun _ => by simp only; omega⟩, w s k _ h (by omega), rfl⟩
 · split
   · have := tmod_b (n := s.byte.1) (m := n) h1.1.1 (by omega)
     exact ⟨⟨this.1, fun _ => this.2⟩, w _ _ _ h1.2.1 (by omega), h1.2.2⟩
   · have := tmod_b (n := s.byte.1 * 65536 + s.byte.2.byte.1 * 256 + s.byte.2.byte.2.byte.1) (m := n) (by omega) (by omega)
     exact ⟨⟨this.1, fun _ => this.2⟩, w _ _ _ h3.2.1 (by omega), h3.2.2.trans (h2.2.2.trans h1.2.2)⟩
theorem next_fn (s : Src) (n : Int) (h : s.ok 100000000) : FnM Tryz.prog 75 1 [.bptr 0 0, .int .i64 n] [(0, .box s.row)] (.int .i64 (s.next n).1) [(0, .box (s.next n).2.row)] 1 := by
 have h1 := byte_b s h
 have h2 := byte_b s.byte.2 h1.2.1
 have h3 := byte_b s.byte.2.byte.2 h2.2.1
 have w : ∀ (x : Src) (a : Int), x.ok a → a ≤ 1000000000 → x.ok 1000000000 := fun x a hx hab => ⟨⟨hx.1.1, by have := hx.1.2; omega⟩, hx.2⟩
 obtain ⟨R, hR⟩ : ∃ R, R = s.next n := ⟨_, rfl⟩
 rw [← hR]
 refine FnM.introC Tryz.call75 Tryz.func75 rfl rfl ?_
 refine Grd.intro (fun g1 => ?_) (fun g1 => ?_)
 · have g1 : n ≤ 1 := of_decide_eq_true g1
   rw [Src.next, if_pos g1] at hR
   subst hR
   exact And.intro trivial ⟨[(0, 0)], rfl, AVle.refl _, ⟨MOle.refl _, trivial⟩⟩
 have g1 : ¬ n ≤ 1 := of_decide_eq_false g1
 refine Grd.intro (fun g2 => ?_) (fun g2 => ?_)
 · have g2 : n ≤ 256 := of_decide_eq_true g2
   rw [Src.next, if_neg g1, if_pos g2] at hR
   conv => whnf
   refine CallC.k [(0, 0)] (byte_fn s (w _ _ h (by omega))) rfl rfl (AVsle.refl _) ⟨MOle.refl _, trivial⟩ rfl ?_
   refine And.intro (show n ≠ 0 by omega) ?_
   subst hR
   exact And.intro trivial ⟨[(0, 0)], rfl, AVle.refl _, ⟨MOle.refl _, trivial⟩⟩
 have g2 : ¬ n ≤ 256 := of_decide_eq_false g2
 rw [Src.next, if_neg g1, if_neg g2] at hR
 conv => whnf
 refine CallC.k [(0, 0)] (byte_fn s (w _ _ h (by omega))) rfl rfl (AVsle.refl _) ⟨MOle.refl _, trivial⟩ rfl ?_
 conv => whnf
 refine CallC.k [(0, 0)] (byte_fn s.byte.2 (w _ _ h1.2.1 (by omega))) rfl rfl (AVsle.refl _) ⟨MOle.refl _, trivial⟩ rfl ?_
 conv => whnf
 refine CallC.k [(0, 0)] (byte_fn s.byte.2.byte.2 (w _ _ h2.2.1 (by omega))) rfl rfl (AVsle.refl _) ⟨MOle.refl _, trivial⟩ rfl ?_
 refine And.intro (inI64 (by omega) (by omega)) ?_
 refine And.intro (inI64 (by omega) (by omega)) ?_
 refine And.intro (inI64 (by omega) (by omega)) ?_
 refine And.intro (inI64 (by omega) (by omega)) ?_
 refine And.intro (show n ≠ 0 by omega) ?_
 subst hR
 exact And.intro trivial ⟨[(0, 0)], rfl, AVle.refl _, ⟨MOle.refl _, trivial⟩⟩
abbrev SS := List Smp × Int × Src
def smpStep (x : SS) : SS :=
 let f := x.2.1 + (x.2.2.next 4).1
 let a := (x.2.2.next 4).2.next 40
 let b := a.2.next 12
 let c := b.2.next 2
 let v := if b.1.tdiv 10 * (1 + c.1) = 0 then a.1 - 10 else if b.1.tdiv 10 * (1 + c.1) = 1 then 1000000 else -1000000
 (x.1 ++ [⟨f, v⟩], f + 1, c.2)
def smpIt : Nat → SS → SS
 | 0, x => x
 | k + 1, x => smpStep (smpIt k x)
def SSok (x : SS) (n : Nat) (k : Int) : Prop := x.1.length = n ∧ (∀ e ∈ x.1, -1000000 ≤ e.v ∧ e.v ≤ 1000000) ∧ x.2.2.ok k ∧ (0 ≤ x.2.1 ∧ x.2.1 ≤ k)
theorem wk {x : Src} {a b : Int} (hx : x.ok a) (h : a ≤ b) : x.ok b := ⟨⟨hx.1.1, by have := hx.1.2; omega⟩, hx.2⟩
theorem step_ok {x : SS} {n : Nat} {k : Int} (h : SSok x n k) (hk : 0 ≤ k) : SSok (smpStep x) (n + 1) (k + 12) := by
 obtain ⟨h1, h2, h3, h4⟩ := h
 have n1 := next_b x.2.2 h3 hk 4
 have n2 := next_b (x.2.2.next 4).2 n1.2.1 (by omega) 40
 have n3 := next_b ((x.2.2.next 4).2.next 40).2 n2.2.1 (by omega) 12
 have n4 := next_b (((x.2.2.next 4).2.next 40).2.next 12).2 n3.2.1 (by omega) 2
 have a1 := n1.1.2 (by omega)
 have a2 := n2.1.2 (by omega)
 unfold smpStep
 refine ⟨by simp [h1], fun e he => ?_, wk n4.2.1 (by omega), by simp only; omega⟩
 simp only [List.mem_append, List.mem_cons, List.not_mem_nil, or_false] at he
 rcases he with he | he
 · exact h2 e he
 · subst he
   simp only
   have := n2.1.1
   split
   · omega
   · split <;> omega
theorem it_ok {x : SS} {k : Int} (h : SSok x 0 k) (hk : 0 ≤ k) : ∀ n, SSok (smpIt n x) n (k + 12 * n)
 | 0 => by simpa [smpIt] using h
 | n + 1 => by
   have := step_ok (it_ok h hk n) (by omega)
   have e : k + 12 * ((n + 1 : Nat) : Int) = k + 12 * (n : Int) + 12 := by omega
   rw [e]; exact this
def Src.samples (s : Src) (f n : Int) : SS := smpIt (s.next (n + 1)).1.toNat ([], f, (s.next (n + 1)).2)
theorem samples_fn (s : Src) (f n : Int) (h : s.ok 1000000) (hf : 0 ≤ f ∧ f ≤ 1000000) (hn : 0 ≤ n ∧ n ≤ 1000) :
 FnM Tryz.prog 116 1 [.bptr 0 0, .int .i64 f, .int .i64 n] [(0, .box s.row)] (.osl 1) [(0, .box (s.samples f n).2.2.row), (1, .arr 96 2 (s.samples f n).1.length fun i => (ix (s.samples f n).1 i).row)] 2 := by
 have n0 := next_b s h (by omega) (n + 1)
 have hm := n0.1.2 (by omega)
 have h0 : SSok ([], f, (s.next (n + 1)).2) 0 1000003 := ⟨rfl, by simp, n0.2.1, by simp only; omega⟩
 have hit := it_ok h0 (by omega)
 obtain ⟨R, hR⟩ : ∃ R, R = s.samples f n := ⟨_, rfl⟩
 rw [← hR]
 refine FnM.introC Tryz.call116 Tryz.func116 rfl rfl ?_
 refine And.intro (inI64 (by omega) (by omega)) ?_
 conv => whnf
 refine CallC.k [(0, 0)] (next_fn s (n + 1) (wk h (by omega))) rfl rfl (AVsle.refl _) ⟨MOle.refl _, trivial⟩ rfl ?_
 obtain ⟨M, hM⟩ : ∃ M : Nat, (s.next (n + 1)).1 = M := ⟨(s.next (n + 1)).1.toNat, by omega⟩
 have hR2 : R = smpIt M ([], f, (s.next (n + 1)).2) := by rw [hR, Src.samples, hM]; rfl
 obtain ⟨x0, hx0⟩ : ∃ x0 : SS, x0 = ([], f, (s.next (n + 1)).2) := ⟨_, rfl⟩
 rw [← hx0] at hit hR2
 rw [hM]
 refine LoopC.mk (fun k : Nat => k ≤ M) (fun k => [(0, .bptr 0 0), (1, .int .i64 (smpIt k x0).2.1), (7, .osl 1), (8, .int .i64 ((M : Int) - k))])
  (fun k => [(0, .box (smpIt k x0).2.2.row), (1, .arr 96 2 (smpIt k x0).1.length fun i => (ix (smpIt k x0).1 i).row)]) 2 (fun k => M - k) 0
  ⟨Nat.zero_le _, [(0, 0), (1, 1)], rfl, rfl, ⟨AVle.refl _, AVle.of_eq (congrArg (AV.int .i64) (show f = _ by rw [hx0]; rfl)), AVle.refl _, AVle.of_eq (congrArg (AV.int .i64) (by simp)), trivial⟩, ⟨MOle.of_eq (show MO.box (s.next (n + 1)).2.row = _ by rw [hx0]; rfl), MOle.arr (by rw [hx0]; rfl) fun i hi => absurd hi (Nat.not_lt_zero i), trivial⟩⟩ ?_
 intro k hk
 refine Grd.intro (fun g1 => ?_) (fun g1 => ?_)
 · have hkM : k < M := by have := of_decide_eq_true g1; omega
   obtain ⟨h1, h2, h3, h4⟩ := hit k
   have hstep : smpIt (k + 1) x0 = smpStep (smpIt k x0) := rfl
   generalize smpIt k x0 = x at h1 h2 h3 h4 hstep
   have n1 := next_b x.2.2 h3 (by omega) 4
   have n2 := next_b (x.2.2.next 4).2 n1.2.1 (by omega) 40
   have n3 := next_b ((x.2.2.next 4).2.next 40).2 n2.2.1 (by omega) 12
   have n4 := next_b (((x.2.2.next 4).2.next 40).2.next 12).2 n3.2.1 (by omega) 2
   have a1 := n1.1.2 (by omega)
   have a2 := n2.1.2 (by omega)
   have a3 := n3.1.2 (by omega)
   have a4 := n4.1.2 (by omega)
   conv => whnf
   refine CallC.k [(0, 0)] (next_fn x.2.2 4 (wk h3 (by omega))) rfl rfl (AVsle.refl _) ⟨MOle.refl _, trivial⟩ rfl ?_
   refine And.intro (show inI .i64 (x.2.1 + (x.2.2.next 4).1) from inI64 (by omega) (by omega)) ?_
   conv => whnf
   refine CallC.k [(0, 0)] (next_fn (x.2.2.next 4).2 40 (wk n1.2.1 (by omega))) rfl rfl (AVsle.refl _) ⟨MOle.refl _, trivial⟩ rfl ?_
   refine And.intro (inI64 (by omega) (by omega)) ?_
   conv => whnf
   refine CallC.k [(0, 0)] (next_fn ((x.2.2.next 4).2.next 40).2 12 (wk n2.2.1 (by omega))) rfl rfl (AVsle.refl _) ⟨MOle.refl _, trivial⟩ rfl ?_
   have hq : (((x.2.2.next 4).2.next 40).2.next 12).1.tdiv 10 = (((x.2.2.next 4).2.next 40).2.next 12).1 / 10 := Int.tdiv_eq_ediv_of_nonneg n3.1.1
   have hq01 : (((x.2.2.next 4).2.next 40).2.next 12).1.tdiv 10 = 0 ∨ (((x.2.2.next 4).2.next 40).2.next 12).1.tdiv 10 = 1 := by omega
   have hd01 : ((((x.2.2.next 4).2.next 40).2.next 12).2.next 2).1 = 0 ∨ ((((x.2.2.next 4).2.next 40).2.next 12).2.next 2).1 = 1 := by omega
   have hrow : ∀ v, v = (if (((x.2.2.next 4).2.next 40).2.next 12).1.tdiv 10 * (1 + ((((x.2.2.next 4).2.next 40).2.next 12).2.next 2).1) = 0 then ((x.2.2.next 4).2.next 40).1 - 10 else if (((x.2.2.next 4).2.next 40).2.next 12).1.tdiv 10 * (1 + ((((x.2.2.next 4).2.next 40).2.next 12).2.next 2).1) = 1 then 1000000 else -1000000) →
    (smpIt (k + 1) x0).1 = x.1 ++ [⟨x.2.1 + (x.2.2.next 4).1, v⟩] ∧ (smpIt (k + 1) x0).2.1 = x.2.1 + (x.2.2.next 4).1 + 1 ∧ (smpIt (k + 1) x0).2.2 = ((((x.2.2.next 4).2.next 40).2.next 12).2.next 2).2 := fun v hv => by
    rw [hstep, hv]; exact ⟨rfl, rfl, rfl⟩
   refine And.intro ⟨by decide, show inI .i64 ((((x.2.2.next 4).2.next 40).2.next 12).1.tdiv 10) from inI64 (by omega) (by omega)⟩ ?_
   conv => whnf
   refine CallC.k [(0, 0)] (next_fn (((x.2.2.next 4).2.next 40).2.next 12).2 2 (wk n3.2.1 (by omega))) rfl rfl (AVsle.refl _) ⟨MOle.refl _, trivial⟩ rfl ?_
   rcases hq01 with hq0 | hq0
   · rw [hq0]
     rw [hq0] at hrow
     refine And.intro (show inI .i64 (1 + ((((x.2.2.next 4).2.next 40).2.next 12).2.next 2).1) from inI64 (by omega) (by omega)) ?_
     rcases hd01 with hd | hd
     · rw [hd]
       rw [hd] at hrow
       obtain ⟨w1, w2, w3⟩ := hrow (((x.2.2.next 4).2.next 40).1 - 10) (by simp)
       refine And.intro (inI64 (by omega) (by omega)) ?_
       refine And.intro ⟨by decide, by decide⟩ ?_
       refine And.intro ⟨show (x.1.length + 1) * 16 ≤ 140737488355328 by omega, all1 rfl⟩ ?_
       refine And.intro (show inI .i64 (x.2.1 + (x.2.2.next 4).1 + 1) from inI64 (by omega) (by omega)) ?_
       refine And.intro (inI64 (by omega) (by omega)) ?_
       exact ⟨k + 1, hkM, by omega, [(0, 0), (8, 1)], rfl, rfl, ⟨AVle.refl _, AVle.of_eq (congrArg (AV.int .i64) w2.symm), AVle.refl _, AVle.of_eq (congrArg (AV.int .i64) (show (M : Int) - k - 1 = _ by omega)), trivial⟩, ⟨MOle.of_eq (show MO.box ((((x.2.2.next 4).2.next 40).2.next 12).2.next 2).2.row = _ by rw [w3]), arr_next (f := Smp.row) w1 rfl, trivial⟩⟩
     · rw [hd]
       rw [hd] at hrow
       obtain ⟨w1, w2, w3⟩ := hrow (((x.2.2.next 4).2.next 40).1 - 10) (by simp)
       refine And.intro (inI64 (by omega) (by omega)) ?_
       refine And.intro ⟨by decide, by decide⟩ ?_
       refine And.intro ⟨show (x.1.length + 1) * 16 ≤ 140737488355328 by omega, all1 rfl⟩ ?_
       refine And.intro (show inI .i64 (x.2.1 + (x.2.2.next 4).1 + 1) from inI64 (by omega) (by omega)) ?_
       refine And.intro (inI64 (by omega) (by omega)) ?_
       exact ⟨k + 1, hkM, by omega, [(0, 0), (8, 1)], rfl, rfl, ⟨AVle.refl _, AVle.of_eq (congrArg (AV.int .i64) w2.symm), AVle.refl _, AVle.of_eq (congrArg (AV.int .i64) (show (M : Int) - k - 1 = _ by omega)), trivial⟩, ⟨MOle.of_eq (show MO.box ((((x.2.2.next 4).2.next 40).2.next 12).2.next 2).2.row = _ by rw [w3]), arr_next (f := Smp.row) w1 rfl, trivial⟩⟩
   · rw [hq0]
     rw [hq0] at hrow
     refine And.intro (show inI .i64 (1 + ((((x.2.2.next 4).2.next 40).2.next 12).2.next 2).1) from inI64 (by omega) (by omega)) ?_
     rcases hd01 with hd | hd
     · rw [hd]
       rw [hd] at hrow
       obtain ⟨w1, w2, w3⟩ := hrow (1000000) (by simp)
       refine And.intro (inI64 (by omega) (by omega)) ?_
       refine And.intro ⟨by decide, by decide⟩ ?_
       refine And.intro ⟨show (x.1.length + 1) * 16 ≤ 140737488355328 by omega, all1 rfl⟩ ?_
       refine And.intro (show inI .i64 (x.2.1 + (x.2.2.next 4).1 + 1) from inI64 (by omega) (by omega)) ?_
       refine And.intro (inI64 (by omega) (by omega)) ?_
       exact ⟨k + 1, hkM, by omega, [(0, 0), (8, 1)], rfl, rfl, ⟨AVle.refl _, AVle.of_eq (congrArg (AV.int .i64) w2.symm), AVle.refl _, AVle.of_eq (congrArg (AV.int .i64) (show (M : Int) - k - 1 = _ by omega)), trivial⟩, ⟨MOle.of_eq (show MO.box ((((x.2.2.next 4).2.next 40).2.next 12).2.next 2).2.row = _ by rw [w3]), arr_next (f := Smp.row) w1 rfl, trivial⟩⟩
     · rw [hd]
       rw [hd] at hrow
       obtain ⟨w1, w2, w3⟩ := hrow (-1000000) (by simp)
       refine And.intro (inI64 (by omega) (by omega)) ?_
       refine And.intro ⟨by decide, by decide⟩ ?_
       refine And.intro ⟨show (x.1.length + 1) * 16 ≤ 140737488355328 by omega, all1 rfl⟩ ?_
       refine And.intro (show inI .i64 (x.2.1 + (x.2.2.next 4).1 + 1) from inI64 (by omega) (by omega)) ?_
       refine And.intro (inI64 (by omega) (by omega)) ?_
       exact ⟨k + 1, hkM, by omega, [(0, 0), (8, 1)], rfl, rfl, ⟨AVle.refl _, AVle.of_eq (congrArg (AV.int .i64) w2.symm), AVle.refl _, AVle.of_eq (congrArg (AV.int .i64) (show (M : Int) - k - 1 = _ by omega)), trivial⟩, ⟨MOle.of_eq (show MO.box ((((x.2.2.next 4).2.next 40).2.next 12).2.next 2).2.row = _ by rw [w3]), arr_next (f := Smp.row) w1 rfl, trivial⟩⟩
 · have : k = M := by have := of_decide_eq_false g1; omega
   subst this
   rw [hR2]
   exact And.intro trivial ⟨[(0, 0), (1, 1)], rfl, AVle.refl _, ⟨MOle.refl _, MOle.refl _, trivial⟩⟩
def srcOf (code : List UInt8) : Src := ⟨code, 0, (code.length : Int).tmod 1000⟩
theorem src_ok (code : List UInt8) (h : code.length ≤ 1048576) : (srcOf code).ok 0 := by
 have := tmod_b (n := (code.length : Int)) (m := 1000) (by omega) (by omega)
 exact ⟨⟨by simp [srcOf], by simp [srcOf]⟩, ⟨this.1, by have := this.2; simp only [srcOf]; omega⟩, by simp only [srcOf]; omega⟩
theorem l00Source_fn (code : List UInt8) (h : code.length ≤ 1048576) : FnM Tryz.prog 28 0 [byts code] [] (.bptr 0 0) [(0, .box (srcOf code).row)] 1 := by
 refine FnM.introC Tryz.call28 Tryz.func28 rfl rfl ?_
 refine And.intro (by decide) ?_
 exact And.intro trivial ⟨[(0, 0)], rfl, AVle.refl _, ⟨MOle.refl _, trivial⟩⟩

def SSt (x : SS) (f : Int) (n : Nat) : Prop := (f ≤ x.2.1 ∧ x.2.1 ≤ f + 4 * n) ∧ (∀ e ∈ x.1, f ≤ e.t ∧ e.t < x.2.1) ∧ x.1.Pairwise (fun a b => a.t < b.t)
theorem step_t {x : SS} {f : Int} {n : Nat} {k : Int} (h : SSt x f n) (hs : x.2.2.ok k) (hk : 0 ≤ k) : SSt (smpStep x) f (n + 1) := by
 obtain ⟨⟨h1, h2⟩, h3, h4⟩ := h
 have n1 := next_b x.2.2 hs hk 4
 have a1 := n1.1.2 (by omega)
 have a0 := n1.1.1
 unfold smpStep
 refine ⟨⟨by simp only; omega, by simp only; omega⟩, fun e he => ?_, ?_⟩
 · simp only [List.mem_append, List.mem_cons, List.not_mem_nil, or_false] at he
   rcases he with he | he
   · have := h3 e he
     simp only; omega
   · subst he
     simp only; omega
 · refine List.pairwise_append.2 ⟨h4, List.pairwise_singleton _ _, fun a ha b hb => ?_⟩
   simp only [List.mem_cons, List.not_mem_nil, or_false] at hb
   subst hb
   have := h3 a ha
   simp only; omega
theorem it_t {x : SS} {f : Int} {k : Int} (h : SSok x 0 k) (ht : SSt x f 0) (hk : 0 ≤ k) : ∀ n, SSt (smpIt n x) f n
 | 0 => by simpa [smpIt] using ht
 | n + 1 => step_t (it_t h ht hk n) (it_ok h hk n).2.2.1 (by omega)
theorem pair_smps {L : List Smp} (h : L.Pairwise (fun a b => a.t < b.t)) (ht : ∀ e ∈ L, 0 ≤ e.t ∧ e.t ≤ 99999) (hv : ∀ e ∈ L, -1000000 ≤ e.v ∧ e.v ≤ 1000000) (hl : L.length ≤ 4096) : smpsOK L = true := by
 unfold smpsOK
 rw [decide_eq_true hl, Bool.true_and, allN_iff]
 intro i hi
 have a := ht _ (getD_mem hi)
 have b := hv _ (getD_mem hi)
 unfold smpAt
 simp only [Bool.and_eq_true, Bool.or_eq_true, decide_eq_true_eq, within]
 refine ⟨⟨⟨a.1, a.2⟩, ⟨b.1, b.2⟩⟩, ?_⟩
 rcases Nat.eq_zero_or_pos i with h0 | h0
 · exact .inl h0
 · right
   have := (List.pairwise_iff_getElem.1 h) (i - 1) i (by omega) hi (by omega)
   rw [ix_lt hi, ix_lt (by omega : i - 1 < L.length)]
   exact this
theorem drawn_ok (s : Src) (f n : Int) (h : s.ok 1000000) (hf : 0 ≤ f ∧ f ≤ 90000) (hn : 0 ≤ n ∧ n ≤ 1000) : smpsOK (s.samples f n).1 = true ∧ ((s.samples f n).1.length : Int) ≤ n := by
 have n0 := next_b s h (by omega) (n + 1)
 have hm := n0.1.2 (by omega)
 have hm0 := n0.1.1
 have h0 : SSok ([], f, (s.next (n + 1)).2) 0 1000003 := ⟨rfl, by simp, n0.2.1, by simp only; omega⟩
 have t0 : SSt ([], f, (s.next (n + 1)).2) f 0 := ⟨⟨Int.le_refl _, by simp⟩, by simp, List.Pairwise.nil⟩
 have a := it_ok h0 (by omega) (s.next (n + 1)).1.toNat
 have b := it_t h0 t0 (by omega) (s.next (n + 1)).1.toNat
 unfold Src.samples
 obtain ⟨a1, a2, _, _⟩ := a
 obtain ⟨⟨b1, b2⟩, b3, b4⟩ := b
 refine ⟨pair_smps b4 (fun e he => ?_) a2 (by omega), by omega⟩
 have := b3 e he
 omega
theorem windowOf_yes (e : En) (he : e.tier = 0) (t : List UInt8) (hl : t.length ≤ 1048576) (a b : Int) (hb : inI .i64 (b - 1)) (hr : rdOk t = true) : VFn Tryz.prog 174 [e.av, .str (B t), .int .i64 a, .int .i64 b] (.tup [(aggL (smpsIn (rdV t) a b)).av, .int .i64 0]) := by
 have cr := readSamples_gen t hl (.tup [smps (rdV t), .bool true]) (fun _ => rfl) (fun h => by rw [hr] at h; cases h)
 have h2 := hr
 simp only [rdOk, Bool.and_eq_true, decide_eq_true_eq] at h2
 have hb2 := smps_bd (L := rdV t) h2.2.1
 have hq := smpsIn_len (rdV t) a b
 refine VFn.introC Tryz.call174 Tryz.func174 rfl rfl ?_
 refine Grd.intro (fun g => ?_) (fun g => absurd he (of_decide_eq_false g))
 conv => whnf
 refine CallC.nl _ (cr) ?_ ?_
 · exact rfl
 conv => whnf
 refine CallC.nl _ (samplesIn_fn (rdV t) (by omega) a b hb) ?_ ?_
 · exact rfl
 conv => whnf
 refine CallC.sca _ (aggOf_fn (smpsIn (rdV t) a b) (by omega) (fun x hx => hb2.2 x (smpsIn_mem hx))) ?_ ?_
 · exact rfl
 exact And.intro trivial (AVle.refl _)
theorem filter_snoc {α : Type} [Inhabited α] {L : List α} {p : α → Bool} {i : Nat} (h : i < L.length) : (L.take (i + 1)).filter p = if p (ix L i) = true then (L.take i).filter p ++ [ix L i] else (L.take i).filter p := by
 rw [take_snoc h, List.filter_append]
 by_cases hp : p (ix L i) = true
 · rw [if_pos hp]; simp [hp]
 · rw [if_neg hp]; simp [hp]
def kept {α : Type} (p : α → Bool) (L : List α) (j : Nat) : List α := ((L.take j).filter fun e => !p e) ++ L.drop ((L.take j).filter fun e => !p e).length
theorem kept_at {α : Type} [Inhabited α] {L : List α} {p : α → Bool} {j : Nat} (h : j < L.length) (hk : ((L.take j).filter fun e => !p e).length ≤ j) : ix (kept p L j) j = ix L j := by
 unfold kept
 rw [ix_app_r hk, ix_drop]
 congr 1; omega
theorem kept_next {α : Type} [Inhabited α] {L : List α} {p : α → Bool} {j : Nat} (h : j < L.length) (hp : p (ix L j) = false) (hk : ((L.take j).filter fun e => !p e).length < j) : ∀ k, k < L.length → ix (kept p L (j + 1)) k = if k = ((L.take j).filter fun e => !p e).length then ix L j else ix (kept p L j) k := by
 intro k hkL
 have hsn := filter_snoc (p := fun e => !p e) h
 rw [if_pos (by rw [hp]; rfl)] at hsn
 unfold kept
 rw [hsn]
 generalize (L.take j).filter (fun e => !p e) = K at hk
 have e1 : (K ++ [ix L j]).length = K.length + 1 := by simp
 split
 · rename_i hc
   subst hc
   rw [ix_app_l (by omega), ix_app_r (Nat.le_refl _), Nat.sub_self]; rfl
 · rename_i hc
   rcases Nat.lt_or_ge k K.length with h1 | h1
   · rw [ix_app_l (by omega), ix_app_l h1, ix_app_l h1]
   · rw [ix_app_r (by omega), ix_app_r h1, ix_drop, ix_drop, e1]
     congr 1; omega
theorem filter_lt {α : Type} [Inhabited α] {L : List α} {p : α → Bool} {i j : Nat} (hij : i < j) (hj : j ≤ L.length) (h : p (ix L i) = false) : ((L.take j).filter p).length < j := by
 have hi : i < L.length := by omega
 have e : L.take j = L.take i ++ (ix L i :: (L.drop (i + 1)).take (j - (i + 1))) := by
  have h1 : L = L.take i ++ (ix L i :: L.drop (i + 1)) := by rw [ix_lt hi]; simp
  have h2 := congrArg (List.take j) h1
  rw [h2, List.take_append, List.take_of_length_le (by simp; omega)]
  congr 1
  have : j - (L.take i).length = (j - (i + 1)) + 1 := by simp; omega
  rw [this, List.take_succ_cons]
 rw [e, List.filter_append, List.filter_cons_of_neg (by rw [h]; simp), List.length_append]
 have a := List.length_filter_le p (L.take i)
 have b := List.length_filter_le p ((L.drop (i + 1)).take (j - (i + 1)))
 simp only [List.length_take, List.length_drop] at a b
 omega
theorem DelEn_some (L : List En) (hL : L.length ≤ 1000000) (F : Nat) (row : List AV) (p : En → Bool) (hp : ∀ e ∈ L, VFn Tryz.prog F [e.av, .eptr row 0] (.bool (p e))) (hs : L.any p = true) :
 FnM Tryz.prog 155 1 [.osl 0, .fn (.func F) [] [.eptr row 0]] [(0, .arr 60 4 L.length fun i => (ix L i).row)] (.osl 1) [(1, .arr 60 4 (L.filter fun e => !p e).length fun i => (ix (L.filter fun e => !p e) i).row)] 2 := by
 have c := IndexEn_1 L (by omega) F row p hp
 obtain ⟨i0, hi0, hfi, hp0⟩ : ∃ i0 : Nat, i0 < L.length ∧ fi p L = (i0 : Int) ∧ p (ix L i0) = true ∧ ∀ j, j < i0 → p (ix L j) = false := by
  rcases fi_first p L with ⟨h, _⟩ | h
  · have := fi_any (p := p) (L := L)
    rw [h, hs] at this; simp at this
  · exact h
 rw [hfi] at c
 have hk0 : (L.take (i0 + 1)).filter (fun e => !p e) = L.take i0 := by
  rw [filter_snoc hi0, if_neg (by rw [hp0.1]; simp)]
  exact List.filter_eq_self.2 fun x hx => by
   obtain ⟨j, hj, rfl⟩ := List.getElem_of_mem hx
   have hj' : j < i0 := by simp at hj; omega
   have := hp0.2 j hj'
   rw [ix_lt (by omega)] at this
   simp [this]
 have hlt : ∀ j, i0 < j → j ≤ L.length → ((L.take j).filter fun e => !p e).length < j := fun j h1 h2 => filter_lt h1 h2 (by rw [hp0.1]; rfl)
 refine FnM.introC Tryz.call155 Tryz.func155 rfl rfl ?_
 conv => whnf
 refine CallC.sca _ (c) ?_ ?_
 · exact rfl
 refine And.intro (inI64 (by omega) (by omega)) ?_
 refine LoopC.mk (fun j : Nat => i0 < j ∧ j ≤ L.length) (fun j => [(0, .osl 0), (1, .fn (.func F) [] [.eptr row 0]), (5, .int .i64 ((L.take j).filter fun e => !p e).length), (6, .int .i64 j)])
  (fun j => [(0, .arr 60 4 L.length fun i => (ix (kept p L j) i).row)]) 1 (fun j => L.length - j) (i0 + 1)
  ⟨⟨by omega, hi0⟩, [(0, 0)], rfl, rfl, ⟨AVle.refl _, AVle.refl _, AVle.of_eq (congrArg (AV.int .i64) (by rw [hk0]; simp; omega)), AVle.of_eq (congrArg (AV.int .i64) (by simp)), trivial⟩, ⟨MOle.arr rfl fun i hi => by
    have e : kept p L (i0 + 1) = L := by unfold kept; rw [hk0]; simp only [List.length_take]; rw [Nat.min_eq_left (by omega)]; simp
    rw [e], trivial⟩⟩ ?_
 intro j hj
 obtain ⟨hj1, hj2⟩ := hj
 have hkl := hlt j hj1 hj2
 refine Grd.intro (fun h2 => ?_) (fun h2 => ?_)
 · have hjn : j < L.length := by have := of_decide_eq_true h2; omega
   have hsn := filter_snoc (p := fun e => !p e) hjn
   have e := kept_at (p := p) hjn (Nat.le_of_lt hkl)
   have cp := hp (ix L j) (getD_mem hjn)
   rw [← e] at cp
   refine And.intro (by omega) ?_
   conv => whnf
   refine CallC.sca _ (cp) ?_ ?_
   · exact rfl
   refine Grd.intro (fun h3 => ?_) (fun h3 => ?_)
   · have h3 : p (ix L j) = false := by rw [e] at h3; simpa using h3
     rw [h3] at hsn
     have hl := hlt (j + 1) (by omega) hjn
     rw [hsn] at hl
     simp at hl
     refine And.intro (by omega) ?_
     refine And.intro (inI64 (by omega) (by omega)) ?_
     refine And.intro (inI64 (by omega) (by omega)) ?_
     refine ⟨j + 1, ⟨by omega, hjn⟩, by omega, [(0, 0)], rfl, rfl, ⟨AVle.refl _, AVle.refl _, AVle.of_eq (congrArg (AV.int .i64) (by rw [hsn]; simp)), AVle.of_eq (congrArg (AV.int .i64) (by simp)), trivial⟩, ⟨MOle.arr rfl fun k hk => ?_, trivial⟩⟩
     have en := kept_next hjn h3 hkl k hk
     by_cases hkc : k = ((L.take j).filter fun e => !p e).length
     · rw [en, if_pos hkc, ← e]
       show (bif Nat.beq k ((L.take j).filter fun e => !p e).length then _ else _) = _
       rw [hkc, beq_t]; rfl
     · rw [en, if_neg hkc]
       show (bif Nat.beq k ((L.take j).filter fun e => !p e).length then _ else _) = _
       rw [beq_f hkc]; rfl
   · have h3 : p (ix L j) = true := by rw [e] at h3; simpa using h3
     rw [h3] at hsn
     refine And.intro (inI64 (by omega) (by omega)) ?_
     refine ⟨j + 1, ⟨by omega, hjn⟩, by omega, [(0, 0)], rfl, rfl, ⟨AVle.refl _, AVle.refl _, AVle.of_eq (congrArg (AV.int .i64) (by rw [hsn]; simp)), AVle.of_eq (congrArg (AV.int .i64) (by simp)), trivial⟩, ⟨MOle.arr rfl fun k hk => ?_, trivial⟩⟩
     have e2 : kept p L (j + 1) = kept p L j := by unfold kept; rw [hsn]; simp
     rw [e2]
 · have : j = L.length := by have := of_decide_eq_false h2; omega
   subst this
   have eT : L.take L.length = L := List.take_of_length_le (Nat.le_refl _)
   obtain ⟨c, hc⟩ : ∃ c, c = ((L.take L.length).filter fun e => !p e).length := ⟨_, rfl⟩
   have hk : ∀ k, k < c → ix (kept p L L.length) k = ix (L.filter fun e => !p e) k := fun k hk => by
    unfold kept
    rw [ix_app_l (by omega), eT]
   have hcl : c = (L.filter fun e => !p e).length := by rw [hc, eT]
   rw [← hc] at hkl
   rw [← hc]
   refine And.intro ⟨by omega, by omega⟩ ?_
   conv => whnf
   refine OpC.clear rfl rfl rfl rfl rfl rfl rfl (by show 1 ≤ L.length - ((c : Int)).toNat; omega) ?_
   conv => whnf
   refine OpC.head rfl rfl rfl rfl rfl rfl rfl ⟨by omega, by omega⟩ ?_
   refine And.intro trivial ⟨[(0, 0), (1, 1)], rfl, AVle.refl _, ⟨MOle.arr (by show ((c : Int)).toNat = _; omega) fun k hk' => ?_, trivial⟩⟩
   have hk' : k < c := by have : k < ((c : Int)).toNat := hk'; omega
   rw [← hk k hk']
   show (bif Nat.blt k ((c : Int)).toNat then _ else _) = _
   rw [blt_t (show k < ((c : Int)).toNat by omega)]; rfl
theorem DelTb_some (L : List Tb) (hL : L.length ≤ 1000000) (F : Nat) (row : List AV) (p : Tb → Bool) (hp : ∀ e ∈ L, VFn Tryz.prog F [e.av, .eptr row 0] (.bool (p e))) (hs : L.any p = true) :
 FnM Tryz.prog 157 1 [.osl 0, .fn (.func F) [] [.eptr row 0]] [(0, .arr 104 2 L.length fun i => (ix L i).row)] (.osl 1) [(1, .arr 104 2 (L.filter fun e => !p e).length fun i => (ix (L.filter fun e => !p e) i).row)] 2 := by
 have c := IndexTb_1 L (by omega) F row p hp
 obtain ⟨i0, hi0, hfi, hp0⟩ : ∃ i0 : Nat, i0 < L.length ∧ fi p L = (i0 : Int) ∧ p (ix L i0) = true ∧ ∀ j, j < i0 → p (ix L j) = false := by
  rcases fi_first p L with ⟨h, _⟩ | h
  · have := fi_any (p := p) (L := L)
    rw [h, hs] at this; simp at this
  · exact h
 rw [hfi] at c
 have hk0 : (L.take (i0 + 1)).filter (fun e => !p e) = L.take i0 := by
  rw [filter_snoc hi0, if_neg (by rw [hp0.1]; simp)]
  exact List.filter_eq_self.2 fun x hx => by
   obtain ⟨j, hj, rfl⟩ := List.getElem_of_mem hx
   have hj' : j < i0 := by simp at hj; omega
   have := hp0.2 j hj'
   rw [ix_lt (by omega)] at this
   simp [this]
 have hlt : ∀ j, i0 < j → j ≤ L.length → ((L.take j).filter fun e => !p e).length < j := fun j h1 h2 => filter_lt h1 h2 (by rw [hp0.1]; rfl)
 refine FnM.introC Tryz.call157 Tryz.func157 rfl rfl ?_
 conv => whnf
 refine CallC.sca _ (c) ?_ ?_
 · exact rfl
 refine And.intro (inI64 (by omega) (by omega)) ?_
 refine LoopC.mk (fun j : Nat => i0 < j ∧ j ≤ L.length) (fun j => [(0, .osl 0), (1, .fn (.func F) [] [.eptr row 0]), (5, .int .i64 ((L.take j).filter fun e => !p e).length), (6, .int .i64 j)])
  (fun j => [(0, .arr 104 2 L.length fun i => (ix (kept p L j) i).row)]) 1 (fun j => L.length - j) (i0 + 1)
  ⟨⟨by omega, hi0⟩, [(0, 0)], rfl, rfl, ⟨AVle.refl _, AVle.refl _, AVle.of_eq (congrArg (AV.int .i64) (by rw [hk0]; simp; omega)), AVle.of_eq (congrArg (AV.int .i64) (by simp)), trivial⟩, ⟨MOle.arr rfl fun i hi => by
    have e : kept p L (i0 + 1) = L := by unfold kept; rw [hk0]; simp only [List.length_take]; rw [Nat.min_eq_left (by omega)]; simp
    rw [e], trivial⟩⟩ ?_
 intro j hj
 obtain ⟨hj1, hj2⟩ := hj
 have hkl := hlt j hj1 hj2
 refine Grd.intro (fun h2 => ?_) (fun h2 => ?_)
 · have hjn : j < L.length := by have := of_decide_eq_true h2; omega
   have hsn := filter_snoc (p := fun e => !p e) hjn
   have e := kept_at (p := p) hjn (Nat.le_of_lt hkl)
   have cp := hp (ix L j) (getD_mem hjn)
   rw [← e] at cp
   refine And.intro (by omega) ?_
   conv => whnf
   refine CallC.sca _ (cp) ?_ ?_
   · exact rfl
   refine Grd.intro (fun h3 => ?_) (fun h3 => ?_)
   · have h3 : p (ix L j) = false := by rw [e] at h3; simpa using h3
     rw [h3] at hsn
     have hl := hlt (j + 1) (by omega) hjn
     rw [hsn] at hl
     simp at hl
     refine And.intro (by omega) ?_
     refine And.intro (inI64 (by omega) (by omega)) ?_
     refine And.intro (inI64 (by omega) (by omega)) ?_
     refine ⟨j + 1, ⟨by omega, hjn⟩, by omega, [(0, 0)], rfl, rfl, ⟨AVle.refl _, AVle.refl _, AVle.of_eq (congrArg (AV.int .i64) (by rw [hsn]; simp)), AVle.of_eq (congrArg (AV.int .i64) (by simp)), trivial⟩, ⟨MOle.arr rfl fun k hk => ?_, trivial⟩⟩
     have en := kept_next hjn h3 hkl k hk
     by_cases hkc : k = ((L.take j).filter fun e => !p e).length
     · rw [en, if_pos hkc, ← e]
       show (bif Nat.beq k ((L.take j).filter fun e => !p e).length then _ else _) = _
       rw [hkc, beq_t]; rfl
     · rw [en, if_neg hkc]
       show (bif Nat.beq k ((L.take j).filter fun e => !p e).length then _ else _) = _
       rw [beq_f hkc]; rfl
   · have h3 : p (ix L j) = true := by rw [e] at h3; simpa using h3
     rw [h3] at hsn
     refine And.intro (inI64 (by omega) (by omega)) ?_
     refine ⟨j + 1, ⟨by omega, hjn⟩, by omega, [(0, 0)], rfl, rfl, ⟨AVle.refl _, AVle.refl _, AVle.of_eq (congrArg (AV.int .i64) (by rw [hsn]; simp)), AVle.of_eq (congrArg (AV.int .i64) (by simp)), trivial⟩, ⟨MOle.arr rfl fun k hk => ?_, trivial⟩⟩
     have e2 : kept p L (j + 1) = kept p L j := by unfold kept; rw [hsn]; simp
     rw [e2]
 · have : j = L.length := by have := of_decide_eq_false h2; omega
   subst this
   have eT : L.take L.length = L := List.take_of_length_le (Nat.le_refl _)
   obtain ⟨c, hc⟩ : ∃ c, c = ((L.take L.length).filter fun e => !p e).length := ⟨_, rfl⟩
   have hk : ∀ k, k < c → ix (kept p L L.length) k = ix (L.filter fun e => !p e) k := fun k hk => by
    unfold kept
    rw [ix_app_l (by omega), eT]
   have hcl : c = (L.filter fun e => !p e).length := by rw [hc, eT]
   rw [← hc] at hkl
   rw [← hc]
   refine And.intro ⟨by omega, by omega⟩ ?_
   conv => whnf
   refine OpC.clear rfl rfl rfl rfl rfl rfl rfl (by show 1 ≤ L.length - ((c : Int)).toNat; omega) ?_
   conv => whnf
   refine OpC.head rfl rfl rfl rfl rfl rfl rfl ⟨by omega, by omega⟩ ?_
   refine And.intro trivial ⟨[(0, 0), (1, 1)], rfl, AVle.refl _, ⟨MOle.arr (by show ((c : Int)).toNat = _; omega) fun k hk' => ?_, trivial⟩⟩
   have hk' : k < c := by have : k < ((c : Int)).toNat := hk'; omega
   rw [← hk k hk']
   show (bif Nat.blt k ((c : Int)).toNat then _ else _) = _
   rw [blt_t (show k < ((c : Int)).toNat by omega)]; rfl
def Sta.own (s : Sta) : AV := .agg [.int .i64 s.seq, .int .i64 s.fence, .osl 0, .osl 1, .int .i64 s.l0, .int .i64 s.l1, .int .i64 s.l2, .int .i64 s.h0, .int .i64 s.h1, .int .i64 s.h2]

theorem CloneEn_own (L : List En) (hL : L.length ≤ 1000000) : FnM Tryz.prog 114 0 [ents L] [] (.osl 0) [(0, .arr 60 4 L.length fun i => (ix L i).row)] 1 := by
 refine FnM.introN Tryz.call114 Tryz.func114 rfl rfl ?_
 conv => whnf
 refine OpC.isnil rfl rfl rfl rfl rfl (fun h0 => ?_) ?_
 · conv => whnf
   exact ⟨_, .inr ⟨2, 60, 4, fun i => (ix L i).row, rfl, rfl⟩, And.intro trivial ⟨[(0, 0)], rfl, AVle.refl _, ⟨MOle.arr h0.symm fun i hi => rfl, trivial⟩⟩⟩
 · conv => whnf
   refine And.intro ⟨show (0 + L.length) * 40 ≤ 140737488355328 by omega, fun i hi => rfl⟩ ?_
   conv => whnf
   exact ⟨_, .inl rfl, And.intro trivial ⟨[(1, 0)], rfl, AVle.refl _, ⟨MOle.arr (Nat.zero_add _) fun i hi => appRows_ge (Nat.zero_le _), trivial⟩⟩⟩
theorem CloneTb_own (L : List Tb) (hL : L.length ≤ 1000000) : FnM Tryz.prog 189 0 [tbs L] [] (.osl 0) [(0, .arr 104 2 L.length fun i => (ix L i).row)] 1 := by
 refine FnM.introN Tryz.call189 Tryz.func189 rfl rfl ?_
 conv => whnf
 refine OpC.isnil rfl rfl rfl rfl rfl (fun h0 => ?_) ?_
 · conv => whnf
   exact ⟨_, .inr ⟨2, 104, 2, fun i => (ix L i).row, rfl, rfl⟩, And.intro trivial ⟨[(0, 0)], rfl, AVle.refl _, ⟨MOle.arr h0.symm fun i hi => rfl, trivial⟩⟩⟩
 · conv => whnf
   refine And.intro ⟨show (0 + L.length) * 24 ≤ 140737488355328 by omega, fun i hi => rfl⟩ ?_
   conv => whnf
   exact ⟨_, .inl rfl, And.intro trivial ⟨[(1, 0)], rfl, AVle.refl _, ⟨MOle.arr (Nat.zero_add _) fun i hi => appRows_ge (Nat.zero_le _), trivial⟩⟩⟩
abbrev Sta.objs (s : Sta) : List (Nat × MO) := [(0, .arr 60 4 s.es.length fun i => (ix s.es i).row), (1, .arr 104 2 s.ts.length fun i => (ix s.ts i).row)]
theorem copiedS_own (s : Sta) (hL : s.es.length ≤ 1000000) (hT : s.ts.length ≤ 1000000) : FnM Tryz.prog 154 0 [s.av] [] s.own s.objs 2 := by
 refine FnM.introC Tryz.call154 Tryz.func154 rfl rfl ?_
 refine DrawC.mq 7 rfl (by kernel_rfl) ?_
 conv => whnf
 refine PCallQ.own (CloneEn_own s.es hL) rfl (fun i hi => rfl) ?_
 conv => whnf
 refine PCallQ.own (CloneTb_own s.ts hT) rfl (fun i hi => rfl) ?_
 exact And.intro trivial ⟨[(4, 0), (7, 1)], rfl, AVle.refl _, ⟨MOle.refl _, MOle.refl _, trivial⟩⟩
structure StoOK (s : Sto) : Prop where
 nx : 1 ≤ s.next ∧ s.next ≤ 1000000000
 len : s.os.length ≤ 300
 el : ∀ o ∈ s.os, keyOK o.key = true ∧ (1 ≤ o.ver ∧ o.ver ≤ s.next - 1) ∧ o.data.length ≤ 600
 vs : (s.os.map (·.ver)).Nodup
 ks : s.os.Pairwise fun a b => a.key < b.key
theorem pw_srt {L : List Ob} : (L.Pairwise fun a b => a.key < b.key) ↔ Srt L := by
 constructor
 · intro h i hi
   have := List.pairwise_iff_getElem.1 h i (i + 1) (by omega) hi (by omega)
   rw [ix_lt (by omega), ix_lt hi]; exact this
 · intro h
   refine List.pairwise_iff_getElem.2 fun i j hi hj hij => ?_
   have := h.lt hij hj
   rw [ix_lt hi, ix_lt hj] at this; exact this
theorem nodup_take {L : List Int} : L.Nodup ↔ ∀ i, i < L.length → ix L i ∉ L.take i := by
 constructor
 · intro h i hi hm
   obtain ⟨j, hj, e⟩ := List.getElem_of_mem hm
   have hj' : j < i := by simp at hj; omega
   have := List.pairwise_iff_getElem.1 h j i (by omega) hi hj'
   rw [ix_lt hi] at e
   simp at e
   exact this e
 · intro h
   refine List.pairwise_iff_getElem.2 fun i j hi hj hij e => ?_
   refine h j hj ?_
   rw [ix_lt hj, ← e]
   exact List.mem_take_iff_getElem.2 ⟨i, by omega, rfl⟩
theorem stoOK_iff (s : Sto) : s.ok = true ↔ StoOK s := by
 have hv : ∀ i, i < s.os.length → ix (s.os.map (·.ver)) i = (ix s.os i).ver := fun i hi => by rw [ix_lt (by simpa using hi), ix_lt hi, List.getElem_map]
 constructor
 · intro h
   obtain ⟨h1, h2, h3⟩ := Sto.ok_at h
   have h3' : ∀ i, i < s.os.length → keyOK (ix s.os i).key = true ∧ (1 ≤ (ix s.os i).ver ∧ (ix s.os i).ver ≤ s.next - 1) ∧ (ix s.os i).data.length ≤ 600 ∧ (ix s.os i).ver ∉ (s.os.take i).map (·.ver) := fun i hi => by
    have := h3 i hi
    simp only [Sto.eOK, Bool.and_eq_true, decide_eq_true_eq, within, Bool.not_eq_true', decide_eq_false_iff_not] at this
    exact ⟨this.1, this.2.1, this.2.2.1, this.2.2.2.1⟩
   refine ⟨by simpa [within] using h1, h2, fun o ho => ?_, nodup_take.2 fun i hi => ?_, pw_srt.2 (Sto.srt h)⟩
   · obtain ⟨i, hi, rfl⟩ := List.getElem_of_mem ho
     have := h3' i hi
     rw [ix_lt hi] at this
     exact ⟨this.1, this.2.1, this.2.2.1⟩
   · have hi' : i < s.os.length := by simpa using hi
     rw [hv i hi', ← List.map_take]
     exact (h3' i hi').2.2.2
 · rintro ⟨h1, h2, h3, h4, h5⟩
   refine Sto.ok_yes (by simpa [within] using h1) h2 fun i hi => ?_
   have h6 := h3 (ix s.os i) (getD_mem hi)
   have h7 := nodup_take.1 h4 i (by simpa using hi)
   rw [hv i hi, ← List.map_take] at h7
   have h8 : i = 0 ∨ (ix s.os (i - 1)).key < (ix s.os i).key := by
    rcases Nat.eq_zero_or_pos i with h | h
    · exact .inl h
    · have := pw_srt.1 h5 (i - 1) (by omega)
      rw [show i - 1 + 1 = i by omega] at this
      exact .inr this
   simp only [Sto.eOK, Bool.and_eq_true, decide_eq_true_eq, within, Bool.not_eq_true', decide_eq_false_iff_not, Bool.or_eq_true]
   exact ⟨h6.1, h6.2.1, h6.2.2, h7, h8⟩
theorem lb_take {k : List UInt8} {L : List Ob} : ∀ o ∈ L.take (lb k L), o.key < k := fun o ho => by
 obtain ⟨j, hj, rfl⟩ := List.getElem_of_mem ho
 have hj' : j < lb k L := by simp at hj; omega
 have hl := lb_le k L
 have := lb_lt hj'
 rw [ix_lt (by omega)] at this
 simpa using this
theorem lb_drop {k : List UInt8} {L : List Ob} (h : Srt L) : ∀ o ∈ L.drop (if hasK k L = true then lb k L + 1 else lb k L), k < o.key := fun o ho => by
 obtain ⟨j, hj, rfl⟩ := List.getElem_of_mem ho
 rw [List.getElem_drop]
 split at hj <;> rename_i hk
 all_goals (rw [List.length_drop] at hj)
 · obtain ⟨h1, h2⟩ := hasK_at hk
   have := h.lt (i := lb k L) (j := lb k L + 1 + j) (by omega) (by omega)
   rw [h2, ix_lt (by omega)] at this
   simp only [if_pos hk]; exact this
 · have h1 := h.ge (k := k) (j := lb k L + j) (by omega) (by omega)
   have h2 : (ix L (lb k L + j)).key ≠ k := fun e => by
    rcases Nat.eq_zero_or_pos j with h0 | h0
    · subst h0
      apply hk
      unfold hasK
      rw [decide_eq_true (by omega : lb k L < L.length), decide_eq_true (by simpa using e)]; rfl
    · have h3 := h.lt (i := lb k L) (j := lb k L + j) (by omega) (by omega)
      rw [e] at h3
      exact lb_ge (by omega) h3
   have := lt_tri h1 h2
   rw [ix_lt (by omega)] at this
   simp only [if_neg hk]; exact this
theorem room_ok {s : Sto} {k d : List UInt8} (h : s.room k d = 0) : d.length ≤ 600 ∧ (s.has k = false → s.os.length ≠ 300) ∧ s.next ≠ 1000000000 := by
 unfold Sto.room at h
 split at h
 · cases h
 · split at h
   · cases h
   · rename_i h1 h2
     simp only [Bool.or_eq_true, Bool.and_eq_true, Bool.not_eq_true', decide_eq_true_eq, not_or, not_and] at h2
     exact ⟨by omega, h2.1, h2.2⟩
theorem set_ok {s : Sto} (hs : s.ok = true) {k d : List UInt8} (hk : keyOK k = true) (hr : s.room k d = 0) : (s.set k d).ok = true := by
 have h := (stoOK_iff s).1 hs
 have hsr := Sto.srt hs
 obtain ⟨r1, r2, r3⟩ := room_ok hr
 have hl := s.set_len k d
 have e : (s.set k d).os = s.os.take (lb k s.os) ++ (⟨k, s.next, d⟩ :: s.os.drop (if hasK k s.os = true then lb k s.os + 1 else lb k s.os)) := rfl
 have hsub : ∀ q, lb k s.os ≤ q → (s.os.take (lb k s.os) ++ s.os.drop q).Sublist s.os := fun q hq => by
  have h1 : (s.os.drop q).Sublist (s.os.drop (lb k s.os)) := by
   obtain ⟨c, rfl⟩ : ∃ c, q = lb k s.os + c := ⟨q - lb k s.os, by omega⟩
   rw [← List.drop_drop]; exact List.drop_sublist _ _
  have := List.Sublist.append (List.Sublist.refl (s.os.take (lb k s.os))) h1
  rwa [List.take_append_drop] at this
 have hsub' := hsub (if hasK k s.os = true then lb k s.os + 1 else lb k s.os) (by split <;> omega)
 have hd := lb_drop (k := k) hsr
 have ht := lb_take (k := k) (L := s.os)
 generalize hq : (if hasK k s.os = true then lb k s.os + 1 else lb k s.os) = q at *
 refine (stoOK_iff _).2 ⟨by show 1 ≤ s.next + 1 ∧ s.next + 1 ≤ 1000000000; have := h.nx; omega, ?_, fun o ho => ?_, ?_, ?_⟩
 · rw [hl]
   have := h.len
   split
   · omega
   · rename_i hn
     have := r2 (by simpa using hn); omega
 · have hold : ∀ o ∈ s.os, keyOK o.key = true ∧ (1 ≤ o.ver ∧ o.ver ≤ s.next + 1 - 1) ∧ o.data.length ≤ 600 := fun o ho => by have := h.el o ho; exact ⟨this.1, ⟨this.2.1.1, by omega⟩, this.2.2⟩
   rw [e] at ho
   rcases List.mem_append.1 ho with ho | ho
   · exact hold o (List.mem_of_mem_take ho)
   · rcases List.mem_cons.1 ho with rfl | ho
     · exact ⟨hk, ⟨h.nx.1, by show s.next ≤ s.next + 1 - 1; omega⟩, r1⟩
     · exact hold o (List.mem_of_mem_drop ho)
 · rw [e, List.map_append, List.map_cons]
   have hn : ((s.os.take (lb k s.os) ++ s.os.drop q).map (·.ver)).Nodup := (hsub'.map _).nodup h.vs
   rw [List.map_append] at hn
   have h1 := List.nodup_append.1 hn
   have hne : ∀ o ∈ s.os, o.ver ≠ s.next := fun o ho => by have := (h.el o ho).2.1; omega
   refine List.nodup_append.2 ⟨h1.1, List.nodup_cons.2 ⟨fun hm => ?_, h1.2.1⟩, fun a ha b hb => ?_⟩
   · obtain ⟨o, ho, e⟩ := List.mem_map.1 hm
     exact hne o (List.mem_of_mem_drop ho) e
   · rcases List.mem_cons.1 hb with rfl | hb
     · obtain ⟨o, ho, rfl⟩ := List.mem_map.1 ha
       exact hne o (List.mem_of_mem_take ho)
     · exact h1.2.2 a ha b hb
 · rw [e]
   have hp : (s.os.take (lb k s.os) ++ s.os.drop q).Pairwise fun a b => a.key < b.key := h.ks.sublist hsub'
   have h1 := List.pairwise_append.1 hp
   refine List.pairwise_append.2 ⟨h1.1, List.pairwise_cons.2 ⟨hd, h1.2.1⟩, fun a ha b hb => ?_⟩
   rcases List.mem_cons.1 hb with rfl | hb
   · exact ht a ha
   · exact h1.2.2 a ha b hb
theorem lb_set (s : Sto) (k d : List UInt8) : lb k (s.set k d).os = lb k s.os := by
 have hl := lb_le k s.os
 have e : (s.set k d).os = s.os.take (lb k s.os) ++ (⟨k, s.next, d⟩ :: s.os.drop (if hasK k s.os = true then lb k s.os + 1 else lb k s.os)) := rfl
 rw [e]
 have key : ∀ (A B : List Ob), (∀ o ∈ A, o.key < k) → lb k (A ++ ⟨k, s.next, d⟩ :: B) = A.length := by
  intro A B
  induction A with
  | nil => intro _; show (if k < k then _ else 0) = 0; rw [if_neg (List.lt_irrefl _)]
  | cons x r ih =>
    intro h
    show (if x.key < k then lb k (r ++ _ :: B) + 1 else 0) = _
    rw [if_pos (h x (by simp)), ih fun o ho => h o (by simp [ho])]; rfl
 rw [key _ _ lb_take]
 simp; omega
theorem set_at (s : Sto) (k d : List UInt8) : (s.set k d).has k = true ∧ (s.set k d).get k = ⟨k, s.next, d⟩ := by
 have hl := lb_le k s.os
 have e : (s.set k d).os = s.os.take (lb k s.os) ++ (⟨k, s.next, d⟩ :: s.os.drop (if hasK k s.os = true then lb k s.os + 1 else lb k s.os)) := rfl
 have h1 := lb_set s k d
 have hlen : (s.os.take (lb k s.os)).length = lb k s.os := by simp; omega
 have h2 : ix (s.set k d).os (lb k s.os) = ⟨k, s.next, d⟩ := by
  rw [e, ix_app_r (by omega), hlen, Nat.sub_self]; rfl
 have h3 : lb k s.os < (s.set k d).os.length := by rw [e]; simp; omega
 refine ⟨?_, ?_⟩
 · unfold Sto.has hasK
   rw [h1, h2, decide_eq_true h3]; simp
 · unfold Sto.get Sto.pos
   rw [h1, h2]
def wo (x : Sto) (k : List UInt8) : Sto := ⟨x.os.filter fun o => !decide (o.key = k), x.next⟩
theorem wo_len (x : Sto) (k : List UInt8) : (wo x k).os.length ≤ x.os.length := List.length_filter_le _ _
theorem wo_ok {x : Sto} (hs : x.ok = true) (k : List UInt8) : (wo x k).ok = true := by
 have h := (stoOK_iff x).1 hs
 have hsub : (wo x k).os.Sublist x.os := List.filter_sublist
 exact (stoOK_iff _).2 ⟨h.nx, Nat.le_trans (wo_len x k) h.len, fun o ho => h.el o (hsub.subset ho), (hsub.map _).nodup h.vs, h.ks.sublist hsub⟩
theorem wo_has (x : Sto) (k : List UInt8) : (wo x k).has k = false := by
 rw [← Bool.not_eq_true]
 intro h
 obtain ⟨h1, h2⟩ := hasK_at h
 have hm : ix (wo x k).os (lb k (wo x k).os) ∈ (wo x k).os := getD_mem h1
 have := (List.mem_filter.1 hm).2
 rw [h2] at this
 simp at this
def Sta.orph (s : Sta) (k : List UInt8) : Bool := kOk k && (!s.has k && ((decide (kT k = 0) && decide (kN k ≤ s.seq)) || (decide (0 < kT k) && decide (kW k < s.fence))))
def dataKs (x : Sto) : List (List UInt8) := (x.os.map (·.key)).filter kOk
end Go.Proofs.YtbhgcfhbhjcjhaaGreatDoor
