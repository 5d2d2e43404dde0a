/- Contracts of functions that the claim reaches, and the plain law of what they compute; each theorem bears its own conditions. -/
import Derived.Test.YtopfpmcakoeloaaGreatDoorQ3
import Derived.Test.YtopfpmcakoeloaaGreatDoorQ4
import Derived.Test.YtopfpmcakoeloaaGreatDoorQ1
import Derived.Test.YtopfpmcakoeloaaGreatDoorV50
import Derived.Test.YtopfpmcakoeloaaGreatDoorQ2
set_option linter.unusedVariables false
set_option linter.constructorNameAsVariable false
set_option linter.unusedSimpArgs false
set_option maxRecDepth 20000
namespace Go.Proofs.YtopfpmcakoeloaaGreatDoor
open Go Go.Vw

theorem putAbsent_fn (s : Sto) (hs : s.ok = true) (k d : List UInt8) (hd : d.length ≤ 1000000000) : VFn Tryz.prog 96 [s.av, .str (B k), .str (B d)] (.tup [(s.putA k d).1.av, .int .i64 (if s.has k = true ∨ s.room k d ≠ 0 then 0 else s.next), .int .i64 (s.putA k d).2]) := by
  have c := find_fn s hs k
  have cp := put_fn s hs k d hd
  unfold Sto.putA
  by_cases hk : s.has k = true
  · rw [hk] at c ⊢
    rw [if_pos rfl, if_pos (.inl rfl)]
    refine VFn.introC Tryz.call96 Tryz.func96 rfl rfl ?_
    conv => whnf
    refine CallC.sca _ (c) ?_ ?_
    · exact rfl
    exact And.intro trivial (AVle.refl _)
  · have hk : s.has k = false := by simpa using hk
    rw [hk] at c ⊢
    rw [if_neg (by simp)]
    unfold Sto.put
    by_cases hr : s.room k d = 0
    · rw [if_pos hr] at cp
      rw [if_pos hr, hr, if_neg (by simp)]
      refine VFn.introC Tryz.call96 Tryz.func96 rfl rfl ?_
      conv => whnf
      refine CallC.sca _ (c) ?_ ?_
      · exact rfl
      conv => whnf
      refine CallC.nl _ (cp) ?_ ?_
      · exact rfl
      exact And.intro trivial (AVle.refl _)
    · rw [if_neg hr] at cp
      rw [if_neg hr, if_pos (.inr hr)]
      refine VFn.introC Tryz.call96 Tryz.func96 rfl rfl ?_
      conv => whnf
      refine CallC.sca _ (c) ?_ ?_
      · exact rfl
      conv => whnf
      refine CallC.nl _ (cp) ?_ ?_
      · exact rfl
      exact And.intro trivial (AVle.refl _)
theorem l01Absent_fn (s : Sto) (hs : s.ok = true) (k d : List UInt8) : VFn Tryz.prog 58 [s.av, .str (B k), .str (B d)] (.tup [(s.putA k d).1.av, .int .i64 (s.putA k d).2]) := by
  have hL := (Sto.ok_at hs).2.1
  have hn : 1 ≤ s.next ∧ s.next ≤ 1000000000 := by simpa [within] using (Sto.ok_at hs).1
  have c := l01Find_fn s (by omega) k
  rw [Srt.fi (Sto.srt hs) k, show hasK k s.os = s.has k from rfl] at c
  unfold Sto.putA
  by_cases hk : s.has k = true
  · rw [if_pos hk] at c
    rw [if_pos hk]
    refine VFn.introC Tryz.call58 Tryz.func58 rfl rfl ?_
    conv => whnf
    refine CallC.sca _ (c) ?_ ?_
    · exact rfl
    exact And.intro trivial (AVle.refl _)
  · rw [if_neg hk] at c
    rw [if_neg hk]
    unfold Sto.put
    refine VFn.introC Tryz.call58 Tryz.func58 rfl rfl ?_
    conv => whnf
    refine CallC.sca _ (c) ?_ ?_
    · exact rfl
    conv => whnf
    refine CallC.sca _ (l01Room_fn s hs k d) ?_ ?_
    · exact rfl
    refine Grd.intro (fun h => ?_) (fun h => ?_)
    · have h : s.room k d ≠ 0 := by simpa using h
      rw [if_neg h]
      exact And.intro trivial (AVle.refl _)
    · have h : s.room k d = 0 := by simpa using h
      rw [if_pos h, h]
      conv => whnf
      refine CallC.nl _ (l01Set_fn s (by omega) ⟨by omega, by omega⟩ k d) ?_ ?_
      · exact rfl
      exact And.intro trivial (AVle.refl _)
end Go.Proofs.YtopfpmcakoeloaaGreatDoor
set_option linter.unusedVariables false
set_option linter.constructorNameAsVariable false
set_option linter.unusedSimpArgs false
set_option maxRecDepth 20000
namespace Go.Proofs.YtopfpmcakoeloaaGreatDoor
open Go Go.Vw

def acqC (s : Sto) (now : Int) : Int := if s.lea.2 = 17 then 17 else if s.lea.2 = 0 ∧ s.lea.1.til ≠ 0 ∧ now ≤ s.lea.1.til + 6 then 12 else if s.lea.1.tok = 999999 then 7 else 0
def acqL (s : Sto) (who now : Int) : Lea := ⟨s.lea.1.tok + 1, who, now + 20⟩
def acqS (s : Sto) (who now : Int) : Sto := if acqC s now = 0 then s.put leaK (acqL s who now).text else s
def acqT (s : Sto) (who now : Int) : Int := if acqC s now = 0 ∧ s.room leaK (acqL s who now).text = 0 then s.lea.1.tok + 1 else 0
def acqR (s : Sto) (who now : Int) : Int := if acqC s now = 0 then s.room leaK (acqL s who now).text else acqC s now
end Go.Proofs.YtopfpmcakoeloaaGreatDoor
set_option linter.unusedVariables false
set_option linter.constructorNameAsVariable false
set_option linter.unusedSimpArgs false
set_option maxRecDepth 20000
namespace Go.Proofs.YtopfpmcakoeloaaGreatDoor
open Go Go.Vw

theorem leaK_ok : keyOK leaK = true := by decide
theorem put_lea {s : Sto} {l : Lea} (hs : s.ok = true) (hl : l.ok = true) (h1 : s.os.length < 300) (h2 : s.next < 1000000000) :
    s.room leaK l.text = 0 ∧ (s.put leaK l.text).ok = true ∧ (s.put leaK l.text).lea = (l, 0) ∧ (s.put leaK l.text).next = s.next + 1 ∧ (s.put leaK l.text).os.length ≤ s.os.length + 1 := by
  have hb : ∀ x ∈ [l.tok, l.who, l.til], -9223372036854775807 ≤ x ∧ x ≤ 9223372036854775807 := by
    simp [Lea.ok, within] at hl
    intro x hx
    simp at hx
    omega
  have hlen := Lea.text_len l hb
  have hr := room_yes (s := s) (k := leaK) (d := l.text) (by omega) h1 h2
  have e : s.put leaK l.text = s.set leaK l.text := by unfold Sto.put; rw [if_pos hr]
  rw [e]
  refine ⟨hr, set_ok hs leaK_ok hr, ?_, rfl, set_len_le _ _ _⟩
  obtain ⟨a1, a2⟩ := set_at s leaK l.text
  unfold Sto.lea
  rw [if_pos a1, a2]
  show (match readL l.text with | some l => (l, (0 : Int)) | none => (default, 17)) = _
  rw [leaText_back hl]
/-- a store with a lease of long ago, or without one -/
structure Old (s : Sto) (t : Int) : Prop where
  ok : s.ok = true
  len : s.os.length ≤ 100
  nx : s.next ≤ 1000
  tk : 0 ≤ t ∧ t ≤ 1000
  lea : (s.lea.2 = 5 ∧ s.lea.1 = default ∧ t = 0) ∨ (s.lea.2 = 0 ∧ s.lea.1.tok = t ∧ s.lea.1.ok = true ∧ s.lea.1.til ≤ 60)
/-- a store whose lease is held -/
structure Held (s : Sto) (l : Lea) : Prop where
  ok : s.ok = true
  len : s.os.length ≤ 150
  nx : s.next ≤ 2000
  lea : s.lea = (l, 0)
  lok : l.ok = true
end Go.Proofs.YtopfpmcakoeloaaGreatDoor
set_option linter.unusedVariables false
set_option linter.constructorNameAsVariable false
set_option linter.unusedSimpArgs false
set_option maxRecDepth 20000
namespace Go.Proofs.YtopfpmcakoeloaaGreatDoor
open Go Go.Vw

structure Src where
  code : List UInt8
  at_ : Int
  seed : Int
abbrev byts (L : List UInt8) : AV := .sl 1 L.length fun i => [.int .u8 ((ix L i).toNat : Int)]
def Src.row (s : Src) : List AV := [byts s.code, .int .i64 s.at_, .int .i64 s.seed]
def Src.ok (s : Src) (k : Int) : Prop := (0 ≤ s.at_ ∧ s.at_ ≤ k) ∧ (0 ≤ s.seed ∧ s.seed < 2147483648) ∧ s.code.length ≤ 1000000000
def Src.chr (s : Src) : Int := (ix s.code (s.at_ + 1 - 1).toNat).toNat
def Src.sd (s : Src) : Int := (s.seed * 1103515245 + 12345).tmod 2147483648
def Src.byte (s : Src) : Int × Src :=
  if s.at_ + 1 ≤ s.code.length then (s.chr, { s with at_ := s.at_ + 1, seed := (s.seed * 31 + s.chr + 7).tmod 2147483648 })
  else if 3000 < s.at_ + 1 then (0, { s with at_ := s.at_ + 1 })
  else ((s.sd.tdiv 65536).tmod 256, { s with at_ := s.at_ + 1, seed := s.sd })
theorem tmod_b {n m : Int} (h : 0 ≤ n) (hm : 0 < m) : 0 ≤ n.tmod m ∧ n.tmod m < m := by
  rw [Int.tmod_eq_emod_of_nonneg h]
  exact ⟨Int.emod_nonneg _ (by omega), Int.emod_lt_of_pos _ hm⟩
theorem tdiv_b {n : Int} {m : Int} (h : 0 ≤ n) (hm : 0 < m) : 0 ≤ n.tdiv m ∧ n.tdiv m ≤ n := by
  rw [Int.tdiv_eq_ediv_of_nonneg h]
  exact ⟨Int.ediv_nonneg h (by omega), Int.ediv_le_self _ h⟩
theorem chr_b (s : Src) : 0 ≤ s.chr ∧ s.chr ≤ 255 := by
  unfold Src.chr
  have := (ix s.code (s.at_ + 1 - 1).toNat).toNat_lt
  omega
theorem byte_b (s : Src) {k : Int} (h : s.ok k) : (0 ≤ s.byte.1 ∧ s.byte.1 ≤ 255) ∧ s.byte.2.ok (k + 1) ∧ s.byte.2.code = s.code := by
  obtain ⟨⟨a0, a1⟩, ⟨s0, s1⟩, hc⟩ := h
  have hch := chr_b s
  have hsd := tmod_b (n := s.seed * 1103515245 + 12345) (m := 2147483648) (by omega) (by omega)
  unfold Src.byte
  split
  · refine ⟨hch, ⟨⟨by simp only; omega, by simp only; omega⟩, ?_, hc⟩, rfl⟩
    exact tmod_b (by omega) (by omega)
  · split
    · exact ⟨by simp, ⟨⟨by simp only; omega, by simp only; omega⟩, ⟨s0, s1⟩, hc⟩, rfl⟩
    · refine ⟨?_, ⟨⟨by simp only; omega, by simp only; omega⟩, hsd, hc⟩, rfl⟩
      have h1 := tdiv_b (n := s.sd) (m := 65536) hsd.1 (by omega)
      have h2 := tmod_b (n := s.sd.tdiv 65536) (m := 256) h1.1 (by omega)
      simp only; omega
theorem byte_fn (s : Src) (h : s.ok 1000000000) : FnM Tryz.prog 107 1 [.bptr 0 0] [(0, .box s.row)] (.int .i64 s.byte.1) [(0, .box s.byte.2.row)] 1 := by
  have h' := h
  obtain ⟨⟨a0, a1⟩, ⟨s0, s1⟩, hc⟩ := h
  have hch := chr_b s
  have hsd := tmod_b (n := s.seed * 1103515245 + 12345) (m := 2147483648) (by omega) (by omega)
  obtain ⟨R, hR⟩ : ∃ R, R = s.byte := ⟨_, rfl⟩
  rw [← hR]
  refine FnM.introC Tryz.call107 Tryz.func107 rfl rfl ?_
  refine And.intro (inI64 (by omega) (by omega)) ?_
  refine DrawC.mk 10 rfl (by kernel_rfl) ?_
  refine Grd.intro (fun g1 => ?_) (fun g1 => ?_)
  · have g1 : s.at_ + 1 ≤ s.code.length := of_decide_eq_true g1
    have hR' : R = (s.chr, { s with at_ := s.at_ + 1, seed := (s.seed * 31 + s.chr + 7).tmod 2147483648 }) := by rw [hR, Src.byte, if_pos g1]
    refine DrawC.mk 23 rfl (by kernel_rfl) ?_
    refine And.intro (inI64 (by omega) (by omega)) ?_
    refine And.intro (inI64 (by omega) (by omega)) ?_
    refine And.intro ⟨by omega, by omega⟩ ?_
    refine And.intro (show inI .i64 s.chr from inI64 (by omega) (by omega)) ?_
    refine And.intro (show inI .i64 (s.seed * 31 + s.chr) from inI64 (by omega) (by omega)) ?_
    refine And.intro (show inI .i64 (s.seed * 31 + s.chr + 7) from inI64 (by omega) (by omega)) ?_
    refine And.intro (by decide) ?_
    refine DrawC.mk 13 rfl (by kernel_rfl) ?_
    refine And.intro (inI64 (by omega) (by omega)) ?_
    refine And.intro ⟨by omega, by omega⟩ ?_
    refine And.intro (show inI .i64 s.chr from inI64 (by omega) (by omega)) ?_
    subst hR'
    exact And.intro trivial ⟨[(0, 0)], rfl, AVle.refl _, ⟨MOle.refl _, trivial⟩⟩
  · have g1 : ¬ s.at_ + 1 ≤ s.code.length := of_decide_eq_false g1
    refine Grd.intro (fun g2 => ?_) (fun g2 => ?_)
    · have g2 : 3000 < s.at_ + 1 := of_decide_eq_true g2
      have hR' : R = (0, { s with at_ := s.at_ + 1 }) := by rw [hR, Src.byte, if_neg g1, if_pos g2]
      subst hR'
      exact And.intro trivial ⟨[(0, 0)], rfl, AVle.refl _, ⟨MOle.refl _, trivial⟩⟩
    · have g2 : ¬ 3000 < s.at_ + 1 := of_decide_eq_false g2
      have hR' : R = ((s.sd.tdiv 65536).tmod 256, { s with at_ := s.at_ + 1, seed := s.sd }) := by rw [hR, Src.byte, if_neg g1, if_neg g2]
      refine And.intro (inI64 (by omega) (by omega)) ?_
      refine And.intro (inI64 (by omega) (by omega)) ?_
      refine And.intro (by decide) ?_
      have h1 := tdiv_b (n := s.sd) (m := 65536) hsd.1 (by omega)
      have hsd' : 0 ≤ s.sd ∧ s.sd < 2147483648 := hsd
      refine And.intro ⟨by decide, show inI .i64 (s.sd.tdiv 65536) from inI64 (by omega) (by omega)⟩ ?_
      refine And.intro (by decide) ?_
      subst hR'
      exact And.intro trivial ⟨[(0, 0)], rfl, AVle.refl _, ⟨MOle.refl _, trivial⟩⟩
def Src.next (s : Src) (n : Int) : Int × Src :=
  if n ≤ 1 then (0, s)
  else if n ≤ 256 then (s.byte.1.tmod n, s.byte.2)
  else ((s.byte.1 * 65536 + s.byte.2.byte.1 * 256 + s.byte.2.byte.2.byte.1).tmod n, s.byte.2.byte.2.byte.2)
theorem next_b (s : Src) {k : Int} (h : s.ok k) (hk : 0 ≤ k) (n : Int) : (0 ≤ (s.next n).1 ∧ (1 ≤ n → (s.next n).1 < n)) ∧ (s.next n).2.ok (k + 3) ∧ (s.next n).2.code = s.code := by
  have h1 := byte_b s h
  have h2 := byte_b s.byte.2 h1.2.1
  have h3 := byte_b s.byte.2.byte.2 h2.2.1
  have w : ∀ (x : Src) (a b : Int), x.ok a → a ≤ b → x.ok b := fun x a b hx hab => ⟨⟨hx.1.1, by have := hx.1.2; omega⟩, hx.2⟩
  unfold Src.next
  split
  · exact ⟨⟨by simp, fun _ => by simp only; omega⟩, w s k _ h (by omega), rfl⟩
  · split
    · have := tmod_b (n := s.byte.1) (m := n) h1.1.1 (by omega)
      exact ⟨⟨this.1, fun _ => this.2⟩, w _ _ _ h1.2.1 (by omega), h1.2.2⟩
    · have := tmod_b (n := s.byte.1 * 65536 + s.byte.2.byte.1 * 256 + s.byte.2.byte.2.byte.1) (m := n) (by omega) (by omega)
      exact ⟨⟨this.1, fun _ => this.2⟩, w _ _ _ h3.2.1 (by omega), h3.2.2.trans (h2.2.2.trans h1.2.2)⟩
theorem next_fn (s : Src) (n : Int) (h : s.ok 100000000) : FnM Tryz.prog 77 1 [.bptr 0 0, .int .i64 n] [(0, .box s.row)] (.int .i64 (s.next n).1) [(0, .box (s.next n).2.row)] 1 := by
  have h1 := byte_b s h
  have h2 := byte_b s.byte.2 h1.2.1
  have h3 := byte_b s.byte.2.byte.2 h2.2.1
  have w : ∀ (x : Src) (a : Int), x.ok a → a ≤ 1000000000 → x.ok 1000000000 := fun x a hx hab => ⟨⟨hx.1.1, by have := hx.1.2; omega⟩, hx.2⟩
  obtain ⟨R, hR⟩ : ∃ R, R = s.next n := ⟨_, rfl⟩
  rw [← hR]
  refine FnM.introC Tryz.call77 Tryz.func77 rfl rfl ?_
  refine Grd.intro (fun g1 => ?_) (fun g1 => ?_)
  · have g1 : n ≤ 1 := of_decide_eq_true g1
    rw [Src.next, if_pos g1] at hR
    subst hR
    exact And.intro trivial ⟨[(0, 0)], rfl, AVle.refl _, ⟨MOle.refl _, trivial⟩⟩
  have g1 : ¬ n ≤ 1 := of_decide_eq_false g1
  refine Grd.intro (fun g2 => ?_) (fun g2 => ?_)
  · have g2 : n ≤ 256 := of_decide_eq_true g2
    rw [Src.next, if_neg g1, if_pos g2] at hR
    conv => whnf
    refine CallC.k [(0, 0)] (byte_fn s (w _ _ h (by omega))) rfl rfl (AVsle.refl _) ⟨MOle.refl _, trivial⟩ rfl ?_
    refine And.intro (show n ≠ 0 by omega) ?_
    subst hR
    exact And.intro trivial ⟨[(0, 0)], rfl, AVle.refl _, ⟨MOle.refl _, trivial⟩⟩
  have g2 : ¬ n ≤ 256 := of_decide_eq_false g2
  rw [Src.next, if_neg g1, if_neg g2] at hR
  conv => whnf
  refine CallC.k [(0, 0)] (byte_fn s (w _ _ h (by omega))) rfl rfl (AVsle.refl _) ⟨MOle.refl _, trivial⟩ rfl ?_
  conv => whnf
  refine CallC.k [(0, 0)] (byte_fn s.byte.2 (w _ _ h1.2.1 (by omega))) rfl rfl (AVsle.refl _) ⟨MOle.refl _, trivial⟩ rfl ?_
  conv => whnf
  refine CallC.k [(0, 0)] (byte_fn s.byte.2.byte.2 (w _ _ h2.2.1 (by omega))) rfl rfl (AVsle.refl _) ⟨MOle.refl _, trivial⟩ rfl ?_
  refine And.intro (inI64 (by omega) (by omega)) ?_
  refine And.intro (inI64 (by omega) (by omega)) ?_
  refine And.intro (inI64 (by omega) (by omega)) ?_
  refine And.intro (inI64 (by omega) (by omega)) ?_
  refine And.intro (show n ≠ 0 by omega) ?_
  subst hR
  exact And.intro trivial ⟨[(0, 0)], rfl, AVle.refl _, ⟨MOle.refl _, trivial⟩⟩
end Go.Proofs.YtopfpmcakoeloaaGreatDoor
set_option linter.unusedVariables false
set_option linter.constructorNameAsVariable false
set_option linter.unusedSimpArgs false
set_option maxRecDepth 20000
namespace Go.Proofs.YtopfpmcakoeloaaGreatDoor
open Go Go.Vw

abbrev SS := List Smp × Int × Src
def smpStep (x : SS) : SS :=
  let f := x.2.1 + (x.2.2.next 4).1
  let a := (x.2.2.next 4).2.next 40
  let b := a.2.next 12
  let c := b.2.next 2
  let v := if b.1.tdiv 10 * (1 + c.1) = 0 then a.1 - 10 else if b.1.tdiv 10 * (1 + c.1) = 1 then 1000000 else -1000000
  (x.1 ++ [⟨f, v⟩], f + 1, c.2)
def smpIt : Nat → SS → SS
  | 0, x => x
  | k + 1, x => smpStep (smpIt k x)
def SSok (x : SS) (n : Nat) (k : Int) : Prop := x.1.length = n ∧ (∀ e ∈ x.1, -1000000 ≤ e.v ∧ e.v ≤ 1000000) ∧ x.2.2.ok k ∧ (0 ≤ x.2.1 ∧ x.2.1 ≤ k)
theorem wk {x : Src} {a b : Int} (hx : x.ok a) (h : a ≤ b) : x.ok b := ⟨⟨hx.1.1, by have := hx.1.2; omega⟩, hx.2⟩
theorem step_ok {x : SS} {n : Nat} {k : Int} (h : SSok x n k) (hk : 0 ≤ k) : SSok (smpStep x) (n + 1) (k + 12) := by
  obtain ⟨h1, h2, h3, h4⟩ := h
  have n1 := next_b x.2.2 h3 hk 4
  have n2 := next_b (x.2.2.next 4).2 n1.2.1 (by omega) 40
  have n3 := next_b ((x.2.2.next 4).2.next 40).2 n2.2.1 (by omega) 12
  have n4 := next_b (((x.2.2.next 4).2.next 40).2.next 12).2 n3.2.1 (by omega) 2
  have a1 := n1.1.2 (by omega)
  have a2 := n2.1.2 (by omega)
  unfold smpStep
  refine ⟨by simp [h1], fun e he => ?_, wk n4.2.1 (by omega), by simp only; omega⟩
  simp only [List.mem_append, List.mem_cons, List.not_mem_nil, or_false] at he
  rcases he with he | he
  · exact h2 e he
  · subst he
    simp only
    have := n2.1.1
    split
    · omega
    · split <;> omega
theorem it_ok {x : SS} {k : Int} (h : SSok x 0 k) (hk : 0 ≤ k) : ∀ n, SSok (smpIt n x) n (k + 12 * n)
  | 0 => by simpa [smpIt] using h
  | n + 1 => by
    have := step_ok (it_ok h hk n) (by omega)
    have e : k + 12 * ((n + 1 : Nat) : Int) = k + 12 * (n : Int) + 12 := by omega
    rw [e]; exact this
def Src.samples (s : Src) (f n : Int) : SS := smpIt (s.next (n + 1)).1.toNat ([], f, (s.next (n + 1)).2)
theorem samples_fn (s : Src) (f n : Int) (h : s.ok 1000000) (hf : 0 ≤ f ∧ f ≤ 1000000) (hn : 0 ≤ n ∧ n ≤ 1000) :
    FnM Tryz.prog 78 1 [.bptr 0 0, .int .i64 f, .int .i64 n] [(0, .box s.row)] (.osl 1) [(0, .box (s.samples f n).2.2.row), (1, .arr 74 2 (s.samples f n).1.length fun i => (ix (s.samples f n).1 i).row)] 2 := by
  have n0 := next_b s h (by omega) (n + 1)
  have hm := n0.1.2 (by omega)
  have h0 : SSok ([], f, (s.next (n + 1)).2) 0 1000003 := ⟨rfl, by simp, n0.2.1, by simp only; omega⟩
  have hit := it_ok h0 (by omega)
  obtain ⟨R, hR⟩ : ∃ R, R = s.samples f n := ⟨_, rfl⟩
  rw [← hR]
  refine FnM.introC Tryz.call78 Tryz.func78 rfl rfl ?_
  refine And.intro (inI64 (by omega) (by omega)) ?_
  conv => whnf
  refine CallC.k [(0, 0)] (next_fn s (n + 1) (wk h (by omega))) rfl rfl (AVsle.refl _) ⟨MOle.refl _, trivial⟩ rfl ?_
  obtain ⟨M, hM⟩ : ∃ M : Nat, (s.next (n + 1)).1 = M := ⟨(s.next (n + 1)).1.toNat, by omega⟩
  have hR2 : R = smpIt M ([], f, (s.next (n + 1)).2) := by rw [hR, Src.samples, hM]; rfl
  obtain ⟨x0, hx0⟩ : ∃ x0 : SS, x0 = ([], f, (s.next (n + 1)).2) := ⟨_, rfl⟩
  rw [← hx0] at hit hR2
  rw [hM]
  refine LoopC.mk (fun k : Nat => k ≤ M) (fun k => [(0, .bptr 0 0), (1, .int .i64 (smpIt k x0).2.1), (7, .osl 1), (8, .int .i64 ((M : Int) - k))])
    (fun k => [(0, .box (smpIt k x0).2.2.row), (1, .arr 74 2 (smpIt k x0).1.length fun i => (ix (smpIt k x0).1 i).row)]) 2 (fun k => M - k) 0
    ⟨Nat.zero_le _, [(0, 0), (1, 1)], rfl, rfl, ⟨AVle.refl _, AVle.of_eq (congrArg (AV.int .i64) (show f = _ by rw [hx0]; rfl)), AVle.refl _, AVle.of_eq (congrArg (AV.int .i64) (by simp)), trivial⟩, ⟨MOle.of_eq (show MO.box (s.next (n + 1)).2.row = _ by rw [hx0]; rfl), MOle.arr (by rw [hx0]; rfl) fun i hi => absurd hi (Nat.not_lt_zero i), trivial⟩⟩ ?_
  intro k hk
  refine Grd.intro (fun g1 => ?_) (fun g1 => ?_)
  · have hkM : k < M := by have := of_decide_eq_true g1; omega
    obtain ⟨h1, h2, h3, h4⟩ := hit k
    have hstep : smpIt (k + 1) x0 = smpStep (smpIt k x0) := rfl
    generalize smpIt k x0 = x at h1 h2 h3 h4 hstep
    have n1 := next_b x.2.2 h3 (by omega) 4
    have n2 := next_b (x.2.2.next 4).2 n1.2.1 (by omega) 40
    have n3 := next_b ((x.2.2.next 4).2.next 40).2 n2.2.1 (by omega) 12
    have n4 := next_b (((x.2.2.next 4).2.next 40).2.next 12).2 n3.2.1 (by omega) 2
    have a1 := n1.1.2 (by omega)
    have a2 := n2.1.2 (by omega)
    have a3 := n3.1.2 (by omega)
    have a4 := n4.1.2 (by omega)
    conv => whnf
    refine CallC.k [(0, 0)] (next_fn x.2.2 4 (wk h3 (by omega))) rfl rfl (AVsle.refl _) ⟨MOle.refl _, trivial⟩ rfl ?_
    refine And.intro (show inI .i64 (x.2.1 + (x.2.2.next 4).1) from inI64 (by omega) (by omega)) ?_
    conv => whnf
    refine CallC.k [(0, 0)] (next_fn (x.2.2.next 4).2 40 (wk n1.2.1 (by omega))) rfl rfl (AVsle.refl _) ⟨MOle.refl _, trivial⟩ rfl ?_
    refine And.intro (inI64 (by omega) (by omega)) ?_
    conv => whnf
    refine CallC.k [(0, 0)] (next_fn ((x.2.2.next 4).2.next 40).2 12 (wk n2.2.1 (by omega))) rfl rfl (AVsle.refl _) ⟨MOle.refl _, trivial⟩ rfl ?_
    have hq : (((x.2.2.next 4).2.next 40).2.next 12).1.tdiv 10 = (((x.2.2.next 4).2.next 40).2.next 12).1 / 10 := Int.tdiv_eq_ediv_of_nonneg n3.1.1
    have hq01 : (((x.2.2.next 4).2.next 40).2.next 12).1.tdiv 10 = 0 ∨ (((x.2.2.next 4).2.next 40).2.next 12).1.tdiv 10 = 1 := by omega
    have hd01 : ((((x.2.2.next 4).2.next 40).2.next 12).2.next 2).1 = 0 ∨ ((((x.2.2.next 4).2.next 40).2.next 12).2.next 2).1 = 1 := by omega
    have hrow : ∀ v, v = (if (((x.2.2.next 4).2.next 40).2.next 12).1.tdiv 10 * (1 + ((((x.2.2.next 4).2.next 40).2.next 12).2.next 2).1) = 0 then ((x.2.2.next 4).2.next 40).1 - 10 else if (((x.2.2.next 4).2.next 40).2.next 12).1.tdiv 10 * (1 + ((((x.2.2.next 4).2.next 40).2.next 12).2.next 2).1) = 1 then 1000000 else -1000000) →
        (smpIt (k + 1) x0).1 = x.1 ++ [⟨x.2.1 + (x.2.2.next 4).1, v⟩] ∧ (smpIt (k + 1) x0).2.1 = x.2.1 + (x.2.2.next 4).1 + 1 ∧ (smpIt (k + 1) x0).2.2 = ((((x.2.2.next 4).2.next 40).2.next 12).2.next 2).2 := fun v hv => by
      rw [hstep, hv]; exact ⟨rfl, rfl, rfl⟩
    refine And.intro ⟨by decide, show inI .i64 ((((x.2.2.next 4).2.next 40).2.next 12).1.tdiv 10) from inI64 (by omega) (by omega)⟩ ?_
    conv => whnf
    refine CallC.k [(0, 0)] (next_fn (((x.2.2.next 4).2.next 40).2.next 12).2 2 (wk n3.2.1 (by omega))) rfl rfl (AVsle.refl _) ⟨MOle.refl _, trivial⟩ rfl ?_
    rcases hq01 with hq0 | hq0
    · rw [hq0]
      rw [hq0] at hrow
      refine And.intro (show inI .i64 (1 + ((((x.2.2.next 4).2.next 40).2.next 12).2.next 2).1) from inI64 (by omega) (by omega)) ?_
      rcases hd01 with hd | hd
      · rw [hd]
        rw [hd] at hrow
        obtain ⟨w1, w2, w3⟩ := hrow (((x.2.2.next 4).2.next 40).1 - 10) (by simp)
        refine And.intro (inI64 (by omega) (by omega)) ?_
        refine And.intro ⟨by decide, by decide⟩ ?_
        refine And.intro ⟨show (x.1.length + 1) * 16 ≤ 140737488355328 by omega, all1 rfl⟩ ?_
        refine And.intro (show inI .i64 (x.2.1 + (x.2.2.next 4).1 + 1) from inI64 (by omega) (by omega)) ?_
        refine And.intro (inI64 (by omega) (by omega)) ?_
        exact ⟨k + 1, hkM, by omega, [(0, 0), (8, 1)], rfl, rfl, ⟨AVle.refl _, AVle.of_eq (congrArg (AV.int .i64) w2.symm), AVle.refl _, AVle.of_eq (congrArg (AV.int .i64) (show (M : Int) - k - 1 = _ by omega)), trivial⟩, ⟨MOle.of_eq (show MO.box ((((x.2.2.next 4).2.next 40).2.next 12).2.next 2).2.row = _ by rw [w3]), arr_next (f := Smp.row) w1 rfl, trivial⟩⟩
      · rw [hd]
        rw [hd] at hrow
        obtain ⟨w1, w2, w3⟩ := hrow (((x.2.2.next 4).2.next 40).1 - 10) (by simp)
        refine And.intro (inI64 (by omega) (by omega)) ?_
        refine And.intro ⟨by decide, by decide⟩ ?_
        refine And.intro ⟨show (x.1.length + 1) * 16 ≤ 140737488355328 by omega, all1 rfl⟩ ?_
        refine And.intro (show inI .i64 (x.2.1 + (x.2.2.next 4).1 + 1) from inI64 (by omega) (by omega)) ?_
        refine And.intro (inI64 (by omega) (by omega)) ?_
        exact ⟨k + 1, hkM, by omega, [(0, 0), (8, 1)], rfl, rfl, ⟨AVle.refl _, AVle.of_eq (congrArg (AV.int .i64) w2.symm), AVle.refl _, AVle.of_eq (congrArg (AV.int .i64) (show (M : Int) - k - 1 = _ by omega)), trivial⟩, ⟨MOle.of_eq (show MO.box ((((x.2.2.next 4).2.next 40).2.next 12).2.next 2).2.row = _ by rw [w3]), arr_next (f := Smp.row) w1 rfl, trivial⟩⟩
    · rw [hq0]
      rw [hq0] at hrow
      refine And.intro (show inI .i64 (1 + ((((x.2.2.next 4).2.next 40).2.next 12).2.next 2).1) from inI64 (by omega) (by omega)) ?_
      rcases hd01 with hd | hd
      · rw [hd]
        rw [hd] at hrow
        obtain ⟨w1, w2, w3⟩ := hrow (1000000) (by simp)
        refine And.intro (inI64 (by omega) (by omega)) ?_
        refine And.intro ⟨by decide, by decide⟩ ?_
        refine And.intro ⟨show (x.1.length + 1) * 16 ≤ 140737488355328 by omega, all1 rfl⟩ ?_
        refine And.intro (show inI .i64 (x.2.1 + (x.2.2.next 4).1 + 1) from inI64 (by omega) (by omega)) ?_
        refine And.intro (inI64 (by omega) (by omega)) ?_
        exact ⟨k + 1, hkM, by omega, [(0, 0), (8, 1)], rfl, rfl, ⟨AVle.refl _, AVle.of_eq (congrArg (AV.int .i64) w2.symm), AVle.refl _, AVle.of_eq (congrArg (AV.int .i64) (show (M : Int) - k - 1 = _ by omega)), trivial⟩, ⟨MOle.of_eq (show MO.box ((((x.2.2.next 4).2.next 40).2.next 12).2.next 2).2.row = _ by rw [w3]), arr_next (f := Smp.row) w1 rfl, trivial⟩⟩
      · rw [hd]
        rw [hd] at hrow
        obtain ⟨w1, w2, w3⟩ := hrow (-1000000) (by simp)
        refine And.intro (inI64 (by omega) (by omega)) ?_
        refine And.intro ⟨by decide, by decide⟩ ?_
        refine And.intro ⟨show (x.1.length + 1) * 16 ≤ 140737488355328 by omega, all1 rfl⟩ ?_
        refine And.intro (show inI .i64 (x.2.1 + (x.2.2.next 4).1 + 1) from inI64 (by omega) (by omega)) ?_
        refine And.intro (inI64 (by omega) (by omega)) ?_
        exact ⟨k + 1, hkM, by omega, [(0, 0), (8, 1)], rfl, rfl, ⟨AVle.refl _, AVle.of_eq (congrArg (AV.int .i64) w2.symm), AVle.refl _, AVle.of_eq (congrArg (AV.int .i64) (show (M : Int) - k - 1 = _ by omega)), trivial⟩, ⟨MOle.of_eq (show MO.box ((((x.2.2.next 4).2.next 40).2.next 12).2.next 2).2.row = _ by rw [w3]), arr_next (f := Smp.row) w1 rfl, trivial⟩⟩
  · have : k = M := by have := of_decide_eq_false g1; omega
    subst this
    rw [hR2]
    exact And.intro trivial ⟨[(0, 0), (1, 1)], rfl, AVle.refl _, ⟨MOle.refl _, MOle.refl _, trivial⟩⟩
end Go.Proofs.YtopfpmcakoeloaaGreatDoor
set_option linter.unusedVariables false
set_option linter.constructorNameAsVariable false
set_option linter.unusedSimpArgs false
set_option maxRecDepth 20000
namespace Go.Proofs.YtopfpmcakoeloaaGreatDoor
open Go Go.Vw

def Ag.mrg (a b : Ag) : Ag := if a.c = 0 then b else if b.c = 0 then a else ⟨a.c + b.c, a.s + b.s, if b.mn < a.mn then b.mn else a.mn, if a.mx < b.mx then b.mx else a.mx, a.f, b.l⟩
def Ag.cells (a : Ag) : List AV := [.int .i64 a.c, .int .i64 a.s, .int .i64 a.mn, .int .i64 a.mx, .int .i64 a.f, .int .i64 a.l]
def one (v : Int) : Ag := ⟨1, v, v, v, v, v⟩
def aggL (L : List Smp) : Ag := L.foldl (fun a s => a.mrg (one s.v)) default
theorem aggL_snoc {L : List Smp} {i : Nat} (h : i < L.length) : aggL (L.take (i + 1)) = (aggL (L.take i)).mrg (one (ix L i).v) := by
  unfold aggL; rw [take_snoc h, List.foldl_append]; rfl
def Ag.B (a : Ag) (n : Int) : Prop := a.c = n ∧ (-1000000 * n ≤ a.s ∧ a.s ≤ 1000000 * n) ∧ (n = 0 → a = default) ∧ (0 < n → a.some = true)
theorem mrg_B {a : Ag} {n v : Int} (h : a.B n) (hn : 0 ≤ n ∧ n < 100000) (hv : -1000000 ≤ v ∧ v ≤ 1000000) : (a.mrg (one v)).B (n + 1) := by
  obtain ⟨h1, h2, h3, h4⟩ := h
  unfold Ag.mrg
  by_cases h0 : a.c = 0
  · rw [if_pos h0]
    refine ⟨by simp only [one]; omega, by simp only [one]; omega, fun h => by omega, fun _ => ?_⟩
    unfold Ag.some one
    simp [within]; omega
  · rw [if_neg h0, if_neg (show ¬ (one v).c = 0 by simp [one])]
    have h5 := h4 (by omega)
    unfold Ag.some at h5
    simp [within] at h5
    refine ⟨by simp only [one]; omega, by simp only [one]; omega, fun h => by omega, fun _ => ?_⟩
    unfold Ag.some one
    simp only [within]
    have e1 : ∀ m, m ≤ a.mn → m ≤ v → (a.c + 1) * m ≤ a.s + v := fun m q1 q2 => by
      have : a.c * m ≤ a.c * a.mn := Int.mul_le_mul_of_nonneg_left q1 (by omega)
      have : (a.c + 1) * m = a.c * m + m := by rw [Int.add_mul]; omega
      omega
    have e2 : ∀ m, a.mx ≤ m → v ≤ m → a.s + v ≤ (a.c + 1) * m := fun m q1 q2 => by
      have : a.c * a.mx ≤ a.c * m := Int.mul_le_mul_of_nonneg_left q1 (by omega)
      have : (a.c + 1) * m = a.c * m + m := by rw [Int.add_mul]; omega
      omega
    by_cases m1 : v < a.mn <;> by_cases m2 : a.mx < v
    · rw [if_pos m1, if_pos m2]
      have := e1 v (by omega) (by omega)
      have := e2 v (by omega) (by omega)
      simp; omega
    · rw [if_pos m1, if_neg m2]
      have := e1 v (by omega) (by omega)
      have := e2 a.mx (by omega) (by omega)
      simp; omega
    · rw [if_neg m1, if_pos m2]
      have := e1 a.mn (by omega) (by omega)
      have := e2 v (by omega) (by omega)
      simp; omega
    · rw [if_neg m1, if_neg m2]
      have := e1 a.mn (by omega) (by omega)
      have := e2 a.mx (by omega) (by omega)
      simp; omega
theorem aggL_B {L : List Smp} (hL : L.length ≤ 100000) (hv : ∀ e ∈ L, -1000000 ≤ e.v ∧ e.v ≤ 1000000) : ∀ i : Nat, i ≤ L.length → (aggL (L.take i)).B i
  | 0, _ => ⟨rfl, show -1000000 * ((0 : Nat) : Int) ≤ 0 ∧ (0 : Int) ≤ 1000000 * ((0 : Nat) : Int) by omega, fun _ => rfl, fun h => absurd h (by simp)⟩
  | i + 1, h => by
    rw [aggL_snoc h]
    have := mrg_B (aggL_B hL hv i (by omega)) ⟨by omega, by omega⟩ (hv _ (getD_mem (L := L) h))
    simpa using this
def Ag.eqb (x y : Ag) : Bool := decide (x.c = y.c) && (decide (x.s = y.s) && (decide (x.mn = y.mn) && (decide (x.mx = y.mx) && (decide (x.f = y.f) && (decide (x.l = y.l) && true)))))
def smpsIn (L : List Smp) (a b : Int) : List Smp := L.filter fun e => within e.t a (b - 1)
end Go.Proofs.YtopfpmcakoeloaaGreatDoor
set_option linter.unusedVariables false
set_option linter.constructorNameAsVariable false
set_option linter.unusedSimpArgs false
set_option maxRecDepth 20000
namespace Go.Proofs.YtopfpmcakoeloaaGreatDoor
open Go Go.Vw

def Src.agg (s : Src) : Ag := aggL (s.samples 0 6).1
def srcOf (code : List UInt8) : Src := ⟨code, 0, (code.length : Int).tmod 1000⟩
theorem src_ok (code : List UInt8) (h : code.length ≤ 1048576) : (srcOf code).ok 0 := by
  have := tmod_b (n := (code.length : Int)) (m := 1000) (by omega) (by omega)
  exact ⟨⟨by simp [srcOf], by simp [srcOf]⟩, ⟨this.1, by have := this.2; simp only [srcOf]; omega⟩, by simp only [srcOf]; omega⟩
theorem l00Source_fn (code : List UInt8) (h : code.length ≤ 1048576) : FnM Tryz.prog 44 0 [byts code] [] (.bptr 0 0) [(0, .box (srcOf code).row)] 1 := by
  refine FnM.introC Tryz.call44 Tryz.func44 rfl rfl ?_
  refine And.intro (by decide) ?_
  exact And.intro trivial ⟨[(0, 0)], rfl, AVle.refl _, ⟨MOle.refl _, trivial⟩⟩
end Go.Proofs.YtopfpmcakoeloaaGreatDoor
set_option linter.unusedVariables false
set_option linter.constructorNameAsVariable false
set_option linter.unusedSimpArgs false
set_option maxRecDepth 20000
namespace Go.Proofs.YtopfpmcakoeloaaGreatDoor
open Go Go.Vw

def keysS : List (List UInt8) := [[97, 47, 49], [97, 47, 50], [98, 47, 49], [98, 47, 49, 48], leaK]
def Src.shortK (s : Src) : List UInt8 × Src := (ix keysS (s.next 5).1.toNat, (s.next 5).2)
def Src.some : Nat → Src → List UInt8 × Src
  | 0, s => ([], s)
  | n + 1, s => ((Src.some n s).1 ++ [UInt8.ofNat (97 + ((Src.some n s).2.next 26).1.toNat)], ((Src.some n s).2.next 26).2)
theorem some_ok (s : Src) {k : Int} (h : s.ok k) (hk : 0 ≤ k) : ∀ n, (Src.some n s).2.ok (k + 3 * n) ∧ (Src.some n s).1.length = n
  | 0 => ⟨wk h (by omega), rfl⟩
  | n + 1 => by
    have ih := some_ok s h hk n
    have n1 := next_b (Src.some n s).2 ih.1 (by omega) 26
    exact ⟨wk n1.2.1 (by omega), by show ((Src.some n s).1 ++ [_]).length = _; rw [List.length_append, ih.2]; rfl⟩
theorem shortK_ok (s : Src) {k : Int} (h : s.ok k) (hk : 0 ≤ k) : s.shortK.2.ok (k + 3) ∧ keyOK s.shortK.1 = true ∧ s.shortK.1.length ≤ 5 := by
  have n1 := next_b s h hk 5
  have n2 := n1.1.2 (by omega)
  refine ⟨n1.2.1, ?_⟩
  have key : ∀ i : Int, 0 ≤ i → i < 5 → keyOK (ix keysS i.toNat) = true ∧ (ix keysS i.toNat).length ≤ 5 := fun i h0 h1 => by
    have : i = 0 ∨ i = 1 ∨ i = 2 ∨ i = 3 ∨ i = 4 := by omega
    rcases this with rfl | rfl | rfl | rfl | rfl <;> decide
  exact key _ n1.1.1 n2
def plStep (q : Sto × Src) : Sto × Src :=
  let k := q.2.shortK
  let a := k.2.next 5
  let d := Src.some a.1.toNat a.2
  if q.1.has k.1 = true then
    let c := d.2.next 4
    (if c.1 = 3 then wo q.1 k.1 else q.1.put k.1 d.1, c.2)
  else
    let b := d.2.next 5
    let e := Src.some b.1.toNat b.2
    (q.1.put k.1 e.1, e.2)
def plIt : Nat → Sto × Src → Sto × Src
  | 0, x => x
  | k + 1, x => plStep (plIt k x)
structure PLok (q : Sto × Src) (n : Nat) (k : Int) : Prop where
  ok : q.1.ok = true
  len : q.1.os.length ≤ n
  nx : q.1.next ≤ 1 + (n : Int)
  src : q.2.ok k
theorem put_ok {s : Sto} {k d : List UInt8} (hs : s.ok = true) (hk : keyOK k = true) (hd : d.length ≤ 600) (h1 : s.os.length < 300) (h2 : s.next < 1000000000) :
    s.room k d = 0 ∧ s.put k d = s.set k d ∧ (s.put k d).ok = true ∧ (s.put k d).next = s.next + 1 ∧ (s.put k d).os.length ≤ s.os.length + 1 := by
  have hr := room_yes (s := s) (k := k) (d := d) hd h1 h2
  have e : s.put k d = s.set k d := by unfold Sto.put; rw [if_pos hr]
  rw [e]
  exact ⟨hr, rfl, set_ok hs hk hr, rfl, set_len_le _ _ _⟩
theorem plStep_ok {q : Sto × Src} {n : Nat} {k : Int} (h : PLok q n k) (hn : n ≤ 100) (hk : 0 ≤ k) : PLok (plStep q) (n + 1) (k + 50) := by
  obtain ⟨h1, h2, h3, h4⟩ := h
  obtain ⟨k1, k2, k3⟩ := shortK_ok q.2 h4 hk
  have a1 := next_b q.2.shortK.2 k1 (by omega) 5
  have a2 := a1.1.2 (by omega)
  have s1 := some_ok (q.2.shortK.2.next 5).2 a1.2.1 (by omega) (q.2.shortK.2.next 5).1.toNat
  have hd1 : (Src.some (q.2.shortK.2.next 5).1.toNat (q.2.shortK.2.next 5).2).1.length ≤ 600 := by rw [s1.2]; omega
  unfold plStep
  dsimp only
  by_cases hh : q.1.has q.2.shortK.1 = true
  · rw [if_pos hh]
    have c1 := next_b _ s1.1 (by omega) 4
    obtain ⟨p1, p2, p3, p4, p5⟩ := put_ok h1 k2 hd1 (by omega) (by omega)
    by_cases hc : ((Src.some (q.2.shortK.2.next 5).1.toNat (q.2.shortK.2.next 5).2).2.next 4).1 = 3
    · rw [if_pos hc]
      have := wo_len q.1 q.2.shortK.1
      exact ⟨wo_ok h1 _, Nat.le_trans this (by omega), by show q.1.next ≤ _; omega, wk c1.2.1 (by omega)⟩
    · rw [if_neg hc]
      exact ⟨p3, by show (q.1.put _ _).os.length ≤ _; omega, by show (q.1.put _ _).next ≤ _; omega, wk c1.2.1 (by omega)⟩
  · rw [if_neg hh]
    have c1 := next_b _ s1.1 (by omega) 5
    have c2 := c1.1.2 (by omega)
    have s2 := some_ok _ c1.2.1 (by omega) ((Src.some (q.2.shortK.2.next 5).1.toNat (q.2.shortK.2.next 5).2).2.next 5).1.toNat
    obtain ⟨p1, p2, p3, p4, p5⟩ := put_ok h1 k2 (d := (Src.some ((Src.some (q.2.shortK.2.next 5).1.toNat (q.2.shortK.2.next 5).2).2.next 5).1.toNat ((Src.some (q.2.shortK.2.next 5).1.toNat (q.2.shortK.2.next 5).2).2.next 5).2).1) (by rw [s2.2]; omega) (by omega) (by omega)
    exact ⟨p3, by show (q.1.put _ _).os.length ≤ _; omega, by show (q.1.put _ _).next ≤ _; omega, wk s2.1 (by omega)⟩
def stoN0 : Sto := ⟨[], 1⟩
theorem plIt_ok {s : Src} {k : Int} (h : s.ok k) (hk : 0 ≤ k) : ∀ n, n ≤ 100 → PLok (plIt n (stoN0, s)) n (k + 50 * n)
  | 0, _ => ⟨(by decide : stoN0.ok = true), (by decide : stoN0.os.length ≤ 0), (by decide : stoN0.next ≤ 1 + ((0 : Nat) : Int)), wk h (by omega)⟩
  | n + 1, hn => by
    have ih := plIt_ok h hk n (by omega)
    have := plStep_ok ih (by omega) (by omega)
    exact ⟨this.1, this.2, this.3, wk this.4 (by omega)⟩
def Src.pStore (s : Src) : Sto × Src := plIt (s.next 9).1.toNat (stoN0, (s.next 9).2)
def unL (x : Sto) : Sto := if x.has leaK = true then wo x leaK else x
def Src.leL (s : Src) : Lea × Src :=
  let a := s.next 4
  let b := a.2.next 3
  let d := b.2.next 30
  let e := d.2.next 4
  (⟨1 + a.1, b.1, if ((e.1 * 3).tmod 4).tmod 2 = 0 then 0 else 10 + d.1⟩, e.2)
def Src.leased (s : Src) : Sto :=
  let p := s.pStore
  let c := p.2.next 4
  if c.1 = 3 then unL p.1 else (unL p.1).set leaK (c.2.leL).1.text
def Src.leasedR (s : Src) : Src :=
  let p := s.pStore
  let c := p.2.next 4
  if c.1 = 3 then c.2 else (c.2.leL).2
end Go.Proofs.YtopfpmcakoeloaaGreatDoor
set_option linter.unusedVariables false
set_option linter.constructorNameAsVariable false
set_option linter.unusedSimpArgs false
set_option maxRecDepth 20000
namespace Go.Proofs.YtopfpmcakoeloaaGreatDoor
open Go Go.Vw

def Rc.res (r : Rc) : List UInt8 := if r.ok = true then r.text else []
def Rc.code (r : Rc) : Int := if r.ok = true then 0 else 1
theorem recText_fn (r : Rc) (h : r.ok = true) : VFn Tryz.prog 98 [r.av] (.str (B r.text)) := by
  have hm := (Rc.okN h).1
  have hk := (Rc.okN h).2
  have hl := Rc.head_len h
  have e : (r.nums.map It.n).map It.txt = r.nums.map Lib.itoa := by rw [List.map_map]; rfl
  refine VFn.introC Tryz.call98 Tryz.func98 rfl rfl ?_
  refine DrawC.mk 22 rfl (by kernel_rfl) ?_
  refine PCallC.sca _ (joined_of (r.nums.map It.n) (n := 5) ⟨rfl, rfl, rfl, rfl, rfl, trivial⟩ rfl [44] (show 5 ≤ 100000000 by decide) (fun x hx => by
    obtain ⟨n, hn, rfl⟩ := List.mem_map.1 hx
    have := hm n hn; unfold mid at this; exact ⟨by omega, by omega⟩) (by rw [e]; omega)) rfl ?_
  rw [e]
  have add : ∀ (x y : List UInt8), (x.length + y.length : Nat) ≤ 100000 → (((B x).size + (B y).size : Nat) : Int) ≤ 9223372036854775807 := fun x y h => by rw [B_size, B_size]; omega
  refine And.intro (add (Lib.join (r.nums.map Lib.itoa) [44]) [32] (by simp; omega)) ?_
  refine And.intro (show (((B (Lib.join (r.nums.map Lib.itoa) [44]) ++ B [32]).size + (B r.key).size : Nat) : Int) ≤ 9223372036854775807 by rw [B_app]; exact add _ _ (by simp; omega)) ?_
  exact And.intro trivial (AVle.of_eq (congrArg AV.str (show B (Lib.join (r.nums.map Lib.itoa) [44]) ++ B [32] ++ B r.key = B r.text by rw [B_app, B_app, List.append_assoc]; rfl)))
theorem l06Text_fn (r : Rc) (h : r.ok = true) : VFn Tryz.prog 88 [r.av] (.str (B r.text)) := by
  have hm := (Rc.okN h).1
  have hk := (Rc.okN h).2
  have hl := Rc.head_len h
  refine VFn.introC Tryz.call88 Tryz.func88 rfl rfl ?_
  refine DrawC.mk 17 rfl (by kernel_rfl) ?_
  refine PCallC.sca (.str (B (Lib.join (r.nums.map Lib.itoa) [44]))) ((l02Join_fn r.nums (show 5 ≤ 100000000 by decide) (fun x hx => by have := hm x hx; unfold mid at this; omega)).weak (AVsle.cons (RowsAre.le (f := fun n : Int => [AV.int .i64 n]) rfl ⟨rfl, rfl, rfl, rfl, rfl, trivial⟩) AVsle.nil) (AVle.refl _)) rfl ?_
  have add : ∀ (x y : List UInt8), (x.length + y.length : Nat) ≤ 100000 → (((B x).size + (B y).size : Nat) : Int) ≤ 9223372036854775807 := fun x y h => by rw [B_size, B_size]; omega
  refine And.intro (add (Lib.join (r.nums.map Lib.itoa) [44]) [32] (by simp; omega)) ?_
  refine And.intro (show (((B (Lib.join (r.nums.map Lib.itoa) [44]) ++ B [32]).size + (B r.key).size : Nat) : Int) ≤ 9223372036854775807 by rw [B_app]; exact add _ _ (by simp; omega)) ?_
  exact And.intro trivial (AVle.of_eq (congrArg AV.str (show B (Lib.join (r.nums.map Lib.itoa) [44]) ++ B [32] ++ B r.key = B r.text by rw [B_app, B_app, List.append_assoc]; rfl)))
end Go.Proofs.YtopfpmcakoeloaaGreatDoor
set_option linter.unusedVariables false
set_option linter.constructorNameAsVariable false
set_option linter.unusedSimpArgs false
set_option maxRecDepth 20000
namespace Go.Proofs.YtopfpmcakoeloaaGreatDoor
open Go Go.Vw

def manK (n : Int) : List UInt8 := [109, 97, 110, 47] ++ six6 n.toNat
def appS (s : Sto) (n : Int) (r : Rc) : Sto × Int := s.putA (manK n) r.text
def appC (s : Sto) (n : Int) (r : Rc) : Int := if s.ok = true ∧ r.ok = true then (if within n 1 999999 = true then 0 else 4) else 1
theorem app_len (s : Sto) (hs : s.ok = true) (n : Int) (r : Rc) : (appS s n r).1.os.length ≤ 301 := by
  have hL := (Sto.ok_at hs).2.1
  unfold appS Sto.putA
  split
  · show s.os.length ≤ 301; omega
  · show (s.put _ _).os.length ≤ 301
    unfold Sto.put
    split
    · have := set_len_le s (manK n) r.text; omega
    · omega
theorem text_len {r : Rc} (h : r.ok = true) : r.text.length ≤ 1000000 := by
  have hl := Rc.head_len h
  have hk := (Rc.okN h).2
  unfold Rc.text
  simp only [List.length_append, List.length_cons, List.length_nil]
  omega
theorem l06Key_fn (n : Int) (h : within n 1 999999 = true) : VFn Tryz.prog 81 [.int .i64 n] (.str (B (manK n))) := by
  have hb : 1 ≤ n ∧ n ≤ 999999 := by simpa [within] using h
  have c := l03Wide_fn n.toNat (by omega)
  rw [show ((n.toNat : Nat) : Int) = n by omega] at c
  refine VFn.introC Tryz.call81 Tryz.func81 rfl rfl ?_
  conv => whnf
  refine CallC.sca _ (c) ?_ ?_
  · exact rfl
  refine And.intro (show ((4 + (B (six6 n.toNat)).size : Nat) : Int) ≤ 9223372036854775807 by rw [B_size, six6_len]; decide) ?_
  refine force_to (congrArg AV.str (show B [109, 97, 110, 47] ++ B (six6 n.toNat) = B (manK n) from B_app _ _)) ?_
  exact And.intro trivial (AVle.refl _)
theorem l06Append_fn (s : Sto) (hs : s.ok = true) (n : Int) (h : within n 1 999999 = true) (r : Rc) (hr : r.ok = true) : VFn Tryz.prog 55 [s.av, .int .i64 n, r.av] (.tup [(appS s n r).1.av, .int .i64 (appS s n r).2]) := by
  have co := l01Absent_fn s hs (manK n) r.text
  refine VFn.introC Tryz.call55 Tryz.func55 rfl rfl ?_
  refine DrawC.mkK 10 [(.inl 2, 8)] rfl (by kernel_rfl) ?_
  refine And.intro rfl ?_
  conv => whnf
  refine PCallK.sca _ (l06Key_fn n h) rfl ?_
  conv => whnf
  refine PCallK.sca _ (l06Text_fn r hr) rfl ?_
  conv => whnf
  refine PCallK.nl _ (co) rfl ?_
  exact And.intro trivial (AVle.refl _)
theorem lay_fn (s : Sto) (hs : s.ok = true) (n : Int) (h : within n 1 999999 = true) (r : Rc) (hr : r.ok = true) : VFn Tryz.prog 65 [s.av, .int .i64 n, r.av] (.tup [(appS s n r).1.av, .int .i64 (appS s n r).2]) := by
  have hb : 1 ≤ n ∧ n ≤ 999999 := by simpa [within] using h
  have co := putAbsent_fn s hs (manK n) r.text (by have := text_len hr; omega)
  have cw := within_fn n 1 999999
  rw [h] at cw
  refine VFn.introC Tryz.call65 Tryz.func65 rfl rfl ?_
  conv => whnf
  refine CallC.sca _ (cw) ?_ ?_
  · exact rfl
  refine DrawC.mkK 15 [(.inr 11, 12)] rfl (by kernel_rfl) ?_
  refine And.intro rfl ?_
  conv => whnf
  refine PCallK.sca _ (six_fn n (by simp [within]; omega)) rfl ?_
  conv => whnf
  refine And.intro (show ((4 + (B (six6 n.toNat)).size : Nat) : Int) ≤ 9223372036854775807 by rw [B_size, six6_len]; decide) ?_
  refine force_to (congrArg AV.str (show B [109, 97, 110, 47] ++ B (six6 n.toNat) = B (manK n) from B_app _ _)) ?_
  conv => whnf
  refine PCallK.sca _ (recText_fn r hr) rfl ?_
  conv => whnf
  refine PCallK.nl _ (co) rfl ?_
  exact And.intro trivial (AVle.refl _)
end Go.Proofs.YtopfpmcakoeloaaGreatDoor
set_option linter.unusedVariables false
set_option linter.constructorNameAsVariable false
set_option linter.unusedSimpArgs false
set_option maxRecDepth 20000
namespace Go.Proofs.YtopfpmcakoeloaaGreatDoor
open Go Go.Vw

structure Tb where
  seq : Int
  key : List UInt8
  deriving Inhabited, DecidableEq
def Tb.row (e : Tb) : List AV := [.int .i64 e.seq, .str (B e.key)]
def Tb.av (e : Tb) : AV := .agg e.row
abbrev ents (L : List En) : AV := .sl 4 L.length fun i => (ix L i).row
abbrev tbs (L : List Tb) : AV := .sl 2 L.length fun i => (ix L i).row

theorem IndexEn_1 (L : List En) (hL : L.length ≤ 9223372036854775807) (F : Nat) (row : List AV) (p : En → Bool) (hp : ∀ e ∈ L, VFn Tryz.prog F [e.av, .eptr row 0] (.bool (p e))) :
    VFn Tryz.prog 164 [ents L, .fn (.func F) [] [.eptr row 0]] (.int .i64 (fi p L)) := by
  refine VFn.introC Tryz.call164 Tryz.func164 rfl rfl ?_
  refine LoopC.mk (fun i : Nat => i ≤ L.length ∧ ∀ j, j < i → p (ix L j) = false) (fun i => [(0, ents L), (1, .fn (.func F) [] [.eptr row 0]), (7, .int .i64 L.length), (8, .int .i64 i)]) (fun _ => []) 0 (fun i => L.length - i) 0
    ⟨⟨Nat.zero_le _, fun j hj => absurd hj (Nat.not_lt_zero j)⟩, [], rfl, rfl, ⟨AVle.refl _, AVle.refl _, AVle.refl _, AVle.refl _, trivial⟩, trivial⟩ ?_
  intro i hi
  refine Grd.intro (fun h2 => ?_) (fun h2 => ?_)
  · have hin : i < L.length := by have := of_decide_eq_true h2; omega
    refine And.intro (by omega) ?_
    conv => whnf
    refine CallC.sca _ (hp (ix L i) (getD_mem hin)) ?_ ?_
    · exact rfl
    refine Grd.intro (fun h3 => ?_) (fun h3 => ?_)
    · exact And.intro trivial (AVle.of_eq (congrArg (AV.int .i64) (fi_at hin hi.2 h3).symm))
    · refine And.intro (inI64 (by omega) (by omega)) ?_
      exact ⟨i + 1, ⟨hin, fun j hj => by
        rcases Nat.lt_or_ge j i with h' | h'
        · exact hi.2 j h'
        · rw [show j = i by omega]; exact h3⟩, by omega, [], rfl, rfl, ⟨AVle.refl _, AVle.refl _, AVle.refl _, AVle.of_eq (congrArg (AV.int .i64) (by simp)), trivial⟩, trivial⟩
  · have : i = L.length := by have := of_decide_eq_false h2; omega
    subst this
    exact And.intro trivial (AVle.of_eq (congrArg (AV.int .i64) (fi_none hi.2).symm))
theorem ContainsEn_1 (L : List En) (hL : L.length ≤ 9223372036854775807) (F : Nat) (row : List AV) (p : En → Bool) (hp : ∀ e ∈ L, VFn Tryz.prog F [e.av, .eptr row 0] (.bool (p e))) :
    VFn Tryz.prog 180 [ents L, .fn (.func F) [] [.eptr row 0]] (.bool (L.any p)) := by
  refine VFn.introC Tryz.call180 Tryz.func180 rfl rfl ?_
  conv => whnf
  refine CallC.sca _ (IndexEn_1 L hL F row p hp) ?_ ?_
  · exact rfl
  exact And.intro trivial (AVle.of_eq (congrArg AV.bool (show decide (0 ≤ fi p L) = _ from fi_any)))
end Go.Proofs.YtopfpmcakoeloaaGreatDoor
set_option linter.unusedVariables false
set_option linter.constructorNameAsVariable false
set_option linter.unusedSimpArgs false
set_option maxRecDepth 20000
namespace Go.Proofs.YtopfpmcakoeloaaGreatDoor
open Go Go.Vw

structure Sta where
  seq : Int
  fence : Int
  es : List En
  ts : List Tb
  l0 : Int
  l1 : Int
  l2 : Int
  h0 : Int
  h1 : Int
  h2 : Int
  deriving Inhabited, DecidableEq
def Sta.row (s : Sta) : List AV := [.int .i64 s.seq, .int .i64 s.fence, ents s.es, tbs s.ts, .int .i64 s.l0, .int .i64 s.l1, .int .i64 s.l2, .int .i64 s.h0, .int .i64 s.h1, .int .i64 s.h2]
def Sta.av (s : Sta) : AV := .agg s.row
def ofT (L : List En) (k : Int) : List En := L.filter fun e => decide (e.tier = k)
theorem ofT_snoc {L : List En} {i : Nat} (h : i < L.length) (k : Int) : ofT (L.take (i + 1)) k = if (ix L i).tier = k then ofT (L.take i) k ++ [ix L i] else ofT (L.take i) k := by
  unfold ofT
  rw [take_snoc h, List.filter_append]
  by_cases hk : (ix L i).tier = k
  · rw [if_pos hk]; simp [hk]
  · rw [if_neg hk]; simp [hk]
theorem ofT_len (L : List En) (k : Int) : (ofT L k).length ≤ L.length := List.length_filter_le _ _
theorem ofS_fn (s : Sta) (hL : s.es.length ≤ 1000000000) (k : Int) : VFn Tryz.prog 160 [s.av, .int .i64 k] (ents (ofT s.es k)) := by
  obtain ⟨R, hR⟩ : ∃ R, R = ofT s.es k := ⟨_, rfl⟩
  rw [← hR]
  have hl := fun i => Nat.le_trans (ofT_len (s.es.take i) k) (by simp; omega : (s.es.take i).length ≤ i)
  refine VFn.introC Tryz.call160 Tryz.func160 rfl rfl ?_
  refine LoopC.mk (fun i : Nat => i ≤ s.es.length) (fun i => [(1, .int .i64 k), (5, .osl 0), (10, ents s.es), (11, .int .i64 s.es.length), (12, .int .i64 i)])
    (fun i => [(0, .arr 149 4 (ofT (s.es.take i) k).length fun j => (ix (ofT (s.es.take i) k) j).row)]) 1 (fun i => s.es.length - i) 0
    ⟨Nat.zero_le _, [(1, 0)], rfl, rfl, ⟨AVle.refl _, AVle.refl _, AVle.refl _, AVle.refl _, AVle.refl _, trivial⟩, ⟨MOle.arr rfl fun i hi => absurd hi (Nat.not_lt_zero i), trivial⟩⟩ ?_
  intro i hi
  refine Grd.intro (fun h2 => ?_) (fun h2 => ?_)
  · have hin : i < s.es.length := by have := of_decide_eq_true h2; omega
    have hs := ofT_snoc hin k
    refine And.intro (by omega) ?_
    refine Grd.intro (fun h3 => ?_) (fun h3 => ?_)
    · rw [if_pos (show (ix s.es i).tier = k from of_decide_eq_true h3)] at hs
      refine And.intro ⟨show ((ofT (s.es.take i) k).length + 1) * 40 ≤ 140737488355328 by have := hl i; omega, all1 rfl⟩ ?_
      refine And.intro (inI64 (by omega) (by omega)) ?_
      refine ⟨i + 1, hin, by omega, [(3, 0)], rfl, rfl, ⟨AVle.refl _, AVle.refl _, AVle.refl _, AVle.refl _, AVle.of_eq (congrArg (AV.int .i64) (by simp)), trivial⟩, ⟨?_, trivial⟩⟩
      exact arr_next (f := En.row) hs rfl
    · rw [if_neg (show ¬ (ix s.es i).tier = k from of_decide_eq_false h3)] at hs
      refine And.intro (inI64 (by omega) (by omega)) ?_
      exact ⟨i + 1, hin, by omega, [(0, 0)], rfl, rfl, ⟨AVle.refl _, AVle.refl _, AVle.refl _, AVle.refl _, AVle.of_eq (congrArg (AV.int .i64) (by simp)), trivial⟩, ⟨MOle.of_eq (show MO.arr 149 4 (ofT (s.es.take i) k).length (fun j => (ix (ofT (s.es.take i) k) j).row) = _ by rw [hs]), trivial⟩⟩
  · have : i = s.es.length := by have := of_decide_eq_false h2; omega
    subst this
    have e : ofT (s.es.take s.es.length) k = R := by rw [List.take_of_length_le (Nat.le_refl _), hR]
    subst e
    exact And.intro trivial (AVle.sl rfl fun j hj => rfl)
/-- keys met, each once -/
def addK (ks : List (List UInt8)) (k : List UInt8) : List (List UInt8) := if k ∈ ks then ks else ks ++ [k]
def ddk (L : List (List UInt8)) : List (List UInt8) := L.foldl addK []
/-- entries one beside the other, from a moment on: where they end -/
def runs : List En → Int → Option Int
  | [], a => some a
  | e :: r, a => if e.f = a then runs r e.t else none
def atN (a : Int) (L : List En) : Nat → Int
  | 0 => a
  | i + 1 => (ix L i).t
def tierOK (L : List En) (lo hi : Int) (k : Int) : Bool := within lo 0 100000 && decide (runs (ofT L k) lo = some hi)
def tbOK (n : Int) (t : Tb) : Bool := kOk t.key && within t.seq 1 n
def Sta.keys (s : Sta) : List (List UInt8) := s.es.map (·.key) ++ s.ts.map (·.key)
def Sta.ok (s : Sta) : Bool :=
  within s.seq 0 999999 && (within s.fence 0 999999 && (decide (((s.es.length : Nat) : Int) + ((s.ts.length : Nat) : Int) ≤ 4096) && (s.es.all En.ok && (s.ts.all (tbOK s.seq) && (decide s.keys.Nodup &&
    (tierOK s.es s.l0 s.h0 0 && (tierOK s.es s.l1 s.h1 1 && tierOK s.es s.l2 s.h2 2)))))))
end Go.Proofs.YtopfpmcakoeloaaGreatDoor
set_option linter.unusedVariables false
set_option linter.constructorNameAsVariable false
set_option linter.unusedSimpArgs false
set_option maxRecDepth 20000
namespace Go.Proofs.YtopfpmcakoeloaaGreatDoor
open Go Go.Vw

def En.rc (e : En) : Rc := ⟨0, 0, e.tier, e.f, e.t, e.key⟩
/-- where a tier's entries end -/
def endE (L : List En) (lo : Int) (k : Int) : Int := match (ofT L k).getLast? with | some e => e.t | none => lo
theorem endE_snoc {L : List En} {i : Nat} (h : i < L.length) (lo k : Int) : endE (L.take (i + 1)) lo k = if (ix L i).tier = k then (ix L i).t else endE (L.take i) lo k := by
  unfold endE
  rw [ofT_snoc h]
  by_cases hk : (ix L i).tier = k
  · rw [if_pos hk, if_pos hk]; simp
  · rw [if_neg hk, if_neg hk]
def Sta.lo (s : Sta) (k : Int) : Int := if k = 0 then s.l0 else if k = 1 then s.l1 else s.l2
def Sta.hi (s : Sta) (k : Int) : Int := if k = 0 then s.h0 else if k = 1 then s.h1 else s.h2
def Sta.eOK (s : Sta) (i : Nat) : Bool := (ix s.es i).ok && (decide ((ix s.es i).f = endE (s.es.take i) (s.lo (ix s.es i).tier) (ix s.es i).tier) && !decide ((ix s.es i).key ∈ (s.es.take i).map (·.key)))
def Sta.tOK (s : Sta) (i : Nat) : Bool := tbOK s.seq (ix s.ts i) && !decide ((ix s.ts i).key ∈ s.es.map (·.key) ++ (s.ts.take i).map (·.key))
def Sta.ok' (s : Sta) : Bool :=
  within s.seq 0 999999 && (within s.fence 0 999999 && (decide (((s.es.length : Nat) : Int) + ((s.ts.length : Nat) : Int) ≤ 4096) && (allN s.es.length s.eOK && (allN s.ts.length s.tOK &&
    ((within s.l0 0 100000 && decide (s.h0 = endE s.es s.l0 0)) && ((within s.l1 0 100000 && decide (s.h1 = endE s.es s.l1 1)) && (within s.l2 0 100000 && decide (s.h2 = endE s.es s.l2 2))))))))
end Go.Proofs.YtopfpmcakoeloaaGreatDoor
set_option linter.unusedVariables false
set_option linter.constructorNameAsVariable false
set_option linter.unusedSimpArgs false
set_option maxRecDepth 20000
namespace Go.Proofs.YtopfpmcakoeloaaGreatDoor
open Go Go.Vw

theorem runs_snoc : ∀ (L : List En) (e : En) (a : Int), runs (L ++ [e]) a = (runs L a).bind fun b => if e.f = b then some e.t else none
  | [], e, a => by simp [runs]
  | x :: r, e, a => by
    rw [List.cons_append]; unfold runs
    by_cases h : x.f = a
    · rw [if_pos h, if_pos h]; exact runs_snoc r e x.t
    · rw [if_neg h, if_neg h]; rfl
theorem runs_end : ∀ (L : List En) (a b : Int), runs L a = some b → b = match L.getLast? with | some e => e.t | none => a
  | [], a, b, h => by cases h; rfl
  | x :: r, a, b, h => by
    unfold runs at h
    by_cases hx : x.f = a
    · rw [if_pos hx] at h
      have := runs_end r x.t b h
      cases r with
      | nil => exact this
      | cons y r => rw [this, List.getLast?_cons_cons]; cases hq : (y :: r).getLast? with
        | none => simp at hq
        | some z => rfl
    · rw [if_neg hx] at h; cases h
theorem runs_endE {L : List En} {k a b : Int} (h : runs (ofT L k) a = some b) : b = endE L a k := runs_end _ _ _ h
def sideBy (s : Sta) (m : Nat) : Prop := ∀ k, (k = 0 ∨ k = 1 ∨ k = 2) → runs (ofT (s.es.take m) k) (s.lo k) = some (endE (s.es.take m) (s.lo k) k)
theorem sideBy_iff (s : Sta) (ht : ∀ e ∈ s.es, e.tier = 0 ∨ e.tier = 1 ∨ e.tier = 2) : ∀ m, m ≤ s.es.length →
    ((∀ i, i < m → (ix s.es i).f = endE (s.es.take i) (s.lo (ix s.es i).tier) (ix s.es i).tier) ↔ sideBy s m)
  | 0, _ => ⟨fun _ k _ => rfl, fun _ i hi => absurd hi (Nat.not_lt_zero i)⟩
  | m + 1, hm => by
    have hin : m < s.es.length := hm
    have ih := sideBy_iff s ht m (by omega)
    have hs := fun k => ofT_snoc hin k
    have he := fun lo k => endE_snoc hin lo k
    have hte := ht _ (getD_mem hin)
    constructor
    · intro h k hk
      have h0 := ih.1 (fun i hi => h i (by omega)) k hk
      rw [hs, he]
      by_cases hkt : (ix s.es m).tier = k
      · rw [if_pos hkt, if_pos hkt, runs_snoc, h0]
        have := h m (by omega)
        rw [hkt] at this
        simp [this]
      · rw [if_neg hkt, if_neg hkt]; exact h0
    · intro h
      have hprev : sideBy s m := fun k hk => by
        have h1 := h k hk
        rw [hs] at h1
        by_cases hkt : (ix s.es m).tier = k
        · rw [if_pos hkt, runs_snoc] at h1
          cases hr : runs (ofT (s.es.take m) k) (s.lo k) with
          | none => rw [hr] at h1; cases h1
          | some b => rw [runs_endE hr]
        · rw [if_neg hkt] at h1
          rw [h1, runs_endE h1]
      intro i hi
      rcases Nat.lt_or_ge i m with h' | h'
      · exact ih.2 hprev i h'
      · have : i = m := by omega
        subst this
        have h1 := h _ hte
        rw [hs, if_pos rfl, runs_snoc, hprev _ hte] at h1
        simp only [Option.bind_some] at h1
        by_cases hf : (ix s.es i).f = endE (s.es.take i) (s.lo (ix s.es i).tier) (ix s.es i).tier
        · exact hf
        · rw [if_neg hf] at h1; cases h1
theorem allN_iff {n : Nat} {p : Nat → Bool} : allN n p = true ↔ ∀ i, i < n → p i = true := by
  unfold allN; rw [List.all_eq_true]; simp
end Go.Proofs.YtopfpmcakoeloaaGreatDoor
