/- States' lines, by the program: contracts; the conditions are the theorems' own. -/
import Derived.Test.YtopkjoalbinljaaGreatDoorHE
import Derived.Test.YtopkjoalbinljaaGreatDoorGU
set_option linter.unusedVariables false
set_option linter.unusedSimpArgs false
set_option maxRecDepth 20000
namespace Go.Proofs.YtopkjoalbinljaaGreatDoor
open Go Go.Vw

def Sta.head (s : Sta) : List It := [.t [114, 101, 99, 111, 114, 100, 115], .n s.seq, .t [102, 101, 110, 99, 101], .n s.fence, .t [114, 101, 115, 116, 105, 110, 103], .n s.ts.length]
def Sta.tline (s : Sta) (k lo hi : Int) : List It := [.t [116, 105, 101, 114], .n k, .n lo, .t [116, 111], .n hi, .t [101, 110, 116, 114, 105, 101, 115], .n (ofT s.es k).length]
def itxt (L : List It) : List UInt8 := Lib.join (L.map It.txt) [32]
def Sta.ls (s : Sta) : List (List UInt8) := [itxt s.head, itxt (s.tline 0 s.l0 s.h0), itxt (s.tline 1 s.l1 s.h1), itxt (s.tline 2 s.l2 s.h2)]
structure Sta.nums (s : Sta) : Prop where
  q : 0 ≤ s.seq ∧ s.seq ≤ 999999
  f : 0 ≤ s.fence ∧ s.fence ≤ 999999
  n : s.es.length ≤ 4096 ∧ s.ts.length ≤ 4096
  l0 : 0 ≤ s.l0 ∧ s.l0 ≤ 100000
  l1 : 0 ≤ s.l1 ∧ s.l1 ≤ 100000
  l2 : 0 ≤ s.l2 ∧ s.l2 ≤ 100000
  h0 : 0 ≤ s.h0 ∧ s.h0 ≤ 100000
  h1 : 0 ≤ s.h1 ∧ s.h1 ≤ 100000
  h2 : 0 ≤ s.h2 ∧ s.h2 ≤ 100000
theorem Sta.ok_nums {s : Sta} (h : s.ok = true) : s.nums := by
  obtain ⟨c0, c1, c2⟩ := Sta.hi_b h
  unfold Sta.ok tierOK at h
  simp only [Bool.and_eq_true, decide_eq_true_eq] at h
  obtain ⟨h1, h2, h3, _, _, _, ⟨t0, _⟩, ⟨t1, _⟩, t2, _⟩ := h
  simp [within] at h1 h2 t0 t1 t2
  exact ⟨h1, h2, by omega, t0, t1, t2, c0, c1, c2⟩
theorem itoa_le {n : Int} (h : 0 ≤ n ∧ n ≤ 1000000) : (Lib.itoa n).length ≤ 21 := itoa_len (by omega) (by omega)
theorem itxt_len {L : List It} (h : ∀ x ∈ L, x.txt.length ≤ 400) (hl : L.length ≤ 8) : (itxt L).length ≤ 140737488355328 := items_len h hl
theorem head_ok {s : Sta} (h : s.nums) : (∀ x ∈ s.head, x.ok ∧ x.txt.length ≤ 400) := by
  have l1 := itoa_le (n := s.seq) (by have := h.q; omega)
  have l2 := itoa_le (n := s.fence) (by have := h.f; omega)
  have l3 := itoa_le (n := (s.ts.length : Int)) (by have := h.n; omega)
  have q1 := h.q
  have q2 := h.f
  have q3 := h.n
  intro x hx
  simp only [Sta.head, List.mem_cons, List.not_mem_nil, or_false] at hx
  rcases hx with rfl | rfl | rfl | rfl | rfl | rfl
  · exact ⟨trivial, by simp [It.txt]⟩
  · exact ⟨⟨by omega, by omega⟩, by simp only [It.txt]; omega⟩
  · exact ⟨trivial, by simp [It.txt]⟩
  · exact ⟨⟨by omega, by omega⟩, by simp only [It.txt]; omega⟩
  · exact ⟨trivial, by simp [It.txt]⟩
  · exact ⟨⟨by omega, by omega⟩, by simp only [It.txt]; omega⟩
theorem tline_ok {s : Sta} (h : s.nums) {k lo hi : Int} (hk : 0 ≤ k ∧ k ≤ 2) (hlo : 0 ≤ lo ∧ lo ≤ 100000) (hhi : 0 ≤ hi ∧ hi ≤ 100000) : (∀ x ∈ s.tline k lo hi, x.ok ∧ x.txt.length ≤ 400) := by
  have q := ofT_len s.es k
  have q3 := h.n
  have l1 := itoa_le (n := k) (by omega)
  have l2 := itoa_le (n := lo) (by omega)
  have l3 := itoa_le (n := hi) (by omega)
  have l4 := itoa_le (n := ((ofT s.es k).length : Int)) (by omega)
  intro x hx
  simp only [Sta.tline, List.mem_cons, List.not_mem_nil, or_false] at hx
  rcases hx with rfl | rfl | rfl | rfl | rfl | rfl | rfl
  · exact ⟨trivial, by simp [It.txt]⟩
  · exact ⟨⟨by omega, by omega⟩, by simp only [It.txt]; omega⟩
  · exact ⟨⟨by omega, by omega⟩, by simp only [It.txt]; omega⟩
  · exact ⟨trivial, by simp [It.txt]⟩
  · exact ⟨⟨by omega, by omega⟩, by simp only [It.txt]; omega⟩
  · exact ⟨trivial, by simp [It.txt]⟩
  · exact ⟨⟨by omega, by omega⟩, by simp only [It.txt]; omega⟩
theorem lines_own (s : Sta) (h : s.nums) : FnM Tryz.prog 83 0 [s.av] [] (.osl 0) [(0, .arr 9 1 4 fun i => [.str (B (ix s.ls i))])] 1 := by
  have hL : s.es.length ≤ 1000000000 := by have := h.n; omega
  have k0 := head_ok h
  have k1 := tline_ok h (k := 0) (by omega) h.l0 h.h0
  have k2 := tline_ok h (k := 1) (by omega) h.l1 h.h1
  have k3 := tline_ok h (k := 2) (by omega) h.l2 h.h2
  refine FnM.introC Tryz.call83 Tryz.func83 rfl rfl ?_
  conv => whnf
  refine CallC.sca _ (said_of s.head (n := 6) ⟨rfl, rfl, rfl, rfl, rfl, rfl, trivial⟩ rfl (show 6 ≤ 100000000 by decide) (fun x hx => (k0 x hx).1) (itxt_len (fun x hx => (k0 x hx).2) (show 6 ≤ 8 by decide))) ?_ ?_
  · exact rfl
  refine LoopC.rounds 4 ?_
  refine DrawC.mk 24 rfl (by kernel_rfl) ?_
  refine And.intro ⟨by omega, by show (0 : Int) < ((3 : Nat) : Int); omega⟩ ?_
  refine And.intro ⟨by omega, by show (0 : Int) < ((3 : Nat) : Int); omega⟩ ?_
  refine PCallC.nl _ (ofS_fn s hL 0) rfl ?_
  refine PCallC.sca _ (said_of (s.tline 0 s.l0 s.h0) (n := 7) ⟨rfl, rfl, rfl, rfl, rfl, rfl, rfl, trivial⟩ rfl (show 7 ≤ 100000000 by decide) (fun x hx => (k1 x hx).1) (itxt_len (fun x hx => (k1 x hx).2) (show 7 ≤ 8 by decide))) rfl ?_
  refine And.intro ⟨show (1 + 1) * 16 ≤ 140737488355328 by omega, all1 rfl⟩ ?_
  refine And.intro (inI64 (by omega) (by omega)) ?_
  refine DrawC.mk 24 rfl (by kernel_rfl) ?_
  refine And.intro ⟨by omega, by show (1 : Int) < ((3 : Nat) : Int); omega⟩ ?_
  refine And.intro ⟨by omega, by show (1 : Int) < ((3 : Nat) : Int); omega⟩ ?_
  refine PCallC.nl _ (ofS_fn s hL 1) rfl ?_
  refine PCallC.sca _ (said_of (s.tline 1 s.l1 s.h1) (n := 7) ⟨rfl, rfl, rfl, rfl, rfl, rfl, rfl, trivial⟩ rfl (show 7 ≤ 100000000 by decide) (fun x hx => (k2 x hx).1) (itxt_len (fun x hx => (k2 x hx).2) (show 7 ≤ 8 by decide))) rfl ?_
  refine And.intro ⟨show (1 + 1 + 1) * 16 ≤ 140737488355328 by omega, all1 rfl⟩ ?_
  refine And.intro (inI64 (by omega) (by omega)) ?_
  refine DrawC.mk 24 rfl (by kernel_rfl) ?_
  refine And.intro ⟨by omega, by show (2 : Int) < ((3 : Nat) : Int); omega⟩ ?_
  refine And.intro ⟨by omega, by show (2 : Int) < ((3 : Nat) : Int); omega⟩ ?_
  refine PCallC.nl _ (ofS_fn s hL 2) rfl ?_
  refine PCallC.sca _ (said_of (s.tline 2 s.l2 s.h2) (n := 7) ⟨rfl, rfl, rfl, rfl, rfl, rfl, rfl, trivial⟩ rfl (show 7 ≤ 100000000 by decide) (fun x hx => (k3 x hx).1) (itxt_len (fun x hx => (k3 x hx).2) (show 7 ≤ 8 by decide))) rfl ?_
  refine And.intro ⟨show (1 + 1 + 1 + 1) * 16 ≤ 140737488355328 by omega, all1 rfl⟩ ?_
  refine And.intro (inI64 (by omega) (by omega)) ?_
  refine And.intro trivial ⟨[(77, 0)], rfl, AVle.refl _, ⟨MOle.arr rfl fun i hi => ?_, trivial⟩⟩
  have hi4 : i < 4 := hi
  have : i = 0 ∨ i = 1 ∨ i = 2 ∨ i = 3 := by omega
  rcases this with rfl | rfl | rfl | rfl <;> rfl
theorem StateLines_own (s : Sta) (hL : s.es.length ≤ 1000000000) (hT : s.ts.length ≤ 1000000000) (h : s.ok = true) : FnM Tryz.prog 29 0 [s.av] [] (.tup [.osl 0, .int .i64 0]) [(0, .arr 9 1 4 fun i => [.str (B (ix s.ls i))])] 1 := by
  refine FnM.introC Tryz.call29 Tryz.func29 rfl rfl ?_
  conv => whnf
  refine CallC.sca _ (StateOK_fn s hL hT) ?_ ?_
  · exact rfl
  rw [h]
  conv => whnf
  refine CallC.k [] (lines_own s (Sta.ok_nums h)) rfl rfl (AVsle.refl _) trivial rfl ?_
  exact And.intro trivial ⟨[(1, 0)], rfl, AVle.refl _, ⟨MOle.refl _, trivial⟩⟩
theorem StateLines_bad (s : Sta) (hL : s.es.length ≤ 1000000000) (hT : s.ts.length ≤ 1000000000) (h : s.ok = false) : VFn Tryz.prog 29 [s.av] (.tup [.nilsl, .int .i64 1]) := by
  refine VFn.introC Tryz.call29 Tryz.func29 rfl rfl ?_
  conv => whnf
  refine CallC.sca _ (StateOK_fn s hL hT) ?_ ?_
  · exact rfl
  rw [h]
  exact And.intro trivial (AVle.refl _)
end Go.Proofs.YtopkjoalbinljaaGreatDoor
