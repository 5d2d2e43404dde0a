/- States' lines, by the reference; laws.FnExactStateLines. The conditions are the theorems' own. -/
import Derived.Test.YtopkjoalbinljaaGreatDoorHF
set_option linter.unusedVariables false
set_option linter.unusedSimpArgs false
set_option maxRecDepth 20000
namespace Go.Proofs.YtopkjoalbinljaaGreatDoor
open Go Go.Vw

theorem cnt_snoc {L : List En} {i : Nat} (h : i < L.length) (k : Int) : ((ofT (L.take (i + 1)) k).length : Int) = (ofT (L.take i) k).length + (if decide ((ix L i).tier = k) = true then 1 else 0) := by
  rw [ofT_snoc h]
  by_cases hk : (ix L i).tier = k
  · rw [if_pos hk, if_pos (decide_eq_true hk)]; simp
  · rw [if_neg hk, if_neg (by simp [hk])]; simp
theorem lin0' (s : Sta) : B [114, 101, 99, 111, 114, 100, 115, 32] ++ B (Lib.itoa s.seq) ++ B [32, 102, 101, 110, 99, 101, 32] ++ B (Lib.itoa s.fence) ++ B [32, 114, 101, 115, 116, 105, 110, 103, 32] ++ B (Lib.itoa (s.ts.length : Int)) = B (itxt (s.head)) := by
  simp only [B_app]
  exact congrArg B (by simp [itxt, Sta.head, Sta.tline, It.txt, Lib.join, List.intercalate, List.intersperse])
theorem lin1' (s : Sta) : B [116, 105, 101, 114, 32] ++ B (Lib.itoa 0) ++ B [32] ++ B (Lib.itoa s.l0) ++ B [32, 116, 111, 32] ++ B (Lib.itoa s.h0) ++ B [32, 101, 110, 116, 114, 105, 101, 115, 32] ++ B (Lib.itoa ((ofT s.es 0).length : Int)) = B (itxt (s.tline 0 s.l0 s.h0)) := by
  simp only [B_app]
  exact congrArg B (by simp [itxt, Sta.head, Sta.tline, It.txt, Lib.join, List.intercalate, List.intersperse])
theorem lin2' (s : Sta) : B [116, 105, 101, 114, 32] ++ B (Lib.itoa 1) ++ B [32] ++ B (Lib.itoa s.l1) ++ B [32, 116, 111, 32] ++ B (Lib.itoa s.h1) ++ B [32, 101, 110, 116, 114, 105, 101, 115, 32] ++ B (Lib.itoa ((ofT s.es 1).length : Int)) = B (itxt (s.tline 1 s.l1 s.h1)) := by
  simp only [B_app]
  exact congrArg B (by simp [itxt, Sta.head, Sta.tline, It.txt, Lib.join, List.intercalate, List.intersperse])
theorem lin3' (s : Sta) : B [116, 105, 101, 114, 32] ++ B (Lib.itoa 2) ++ B [32] ++ B (Lib.itoa s.l2) ++ B [32, 116, 111, 32] ++ B (Lib.itoa s.h2) ++ B [32, 101, 110, 116, 114, 105, 101, 115, 32] ++ B (Lib.itoa ((ofT s.es 2).length : Int)) = B (itxt (s.tline 2 s.l2 s.h2)) := by
  simp only [B_app]
  exact congrArg B (by simp [itxt, Sta.head, Sta.tline, It.txt, Lib.join, List.intercalate, List.intersperse])
theorem l15State_fn (s : Sta) (h : s.nums) : VFn Tryz.prog 79 [s.av] (txts s.ls) := by
  have q1 := h.q
  have q2 := h.f
  have q3 := h.n
  have q4 := h.l0
  have q5 := h.l1
  have q6 := h.l2
  have q7 := h.h0
  have q8 := h.h1
  have q9 := h.h2
  have p1 := itoa_le (n := s.seq) (by omega)
  have p2 := itoa_le (n := s.fence) (by omega)
  have p3 := itoa_le (n := (s.ts.length : Int)) (by omega)
  have p4 := itoa_le (n := s.l0) (by omega)
  have p5 := itoa_le (n := s.l1) (by omega)
  have p6 := itoa_le (n := s.l2) (by omega)
  have p7 := itoa_le (n := s.h0) (by omega)
  have p8 := itoa_le (n := s.h1) (by omega)
  have p9 := itoa_le (n := s.h2) (by omega)
  have pa := itoa_le (n := 0) (by omega)
  have pb := itoa_le (n := 1) (by omega)
  have pc := itoa_le (n := 2) (by omega)
  have dg : ∀ n : Int, 0 ≤ n ∧ n ≤ 1000000 → VFn Tryz.prog 132 [.int .i64 n] (.str (B (Lib.itoa n))) := fun n hn => digits_fn n (by omega) (by omega)
  refine VFn.introC Tryz.call79 Tryz.func79 rfl rfl ?_
  refine DrawC.mk 17 rfl (by kernel_rfl) ?_
  refine PCallC.sca _ (dg s.seq (by omega)) rfl ?_
  refine And.intro (show (((B [114, 101, 99, 111, 114, 100, 115, 32]).size + (B (Lib.itoa s.seq)).size : Nat) : Int) ≤ 9223372036854775807 by simp only [B_app, B_size, List.length_append, List.length_cons, List.length_nil]; omega) ?_
  refine And.intro (show (((B [114, 101, 99, 111, 114, 100, 115, 32] ++ B (Lib.itoa s.seq)).size + (B [32, 102, 101, 110, 99, 101, 32]).size : Nat) : Int) ≤ 9223372036854775807 by simp only [B_app, B_size, List.length_append, List.length_cons, List.length_nil]; omega) ?_
  refine PCallC.sca _ (dg s.fence (by omega)) rfl ?_
  refine And.intro (show (((B [114, 101, 99, 111, 114, 100, 115, 32] ++ B (Lib.itoa s.seq) ++ B [32, 102, 101, 110, 99, 101, 32]).size + (B (Lib.itoa s.fence)).size : Nat) : Int) ≤ 9223372036854775807 by simp only [B_app, B_size, List.length_append, List.length_cons, List.length_nil]; omega) ?_
  refine And.intro (show (((B [114, 101, 99, 111, 114, 100, 115, 32] ++ B (Lib.itoa s.seq) ++ B [32, 102, 101, 110, 99, 101, 32] ++ B (Lib.itoa s.fence)).size + (B [32, 114, 101, 115, 116, 105, 110, 103, 32]).size : Nat) : Int) ≤ 9223372036854775807 by simp only [B_app, B_size, List.length_append, List.length_cons, List.length_nil]; omega) ?_
  refine PCallC.sca _ (dg (s.ts.length : Int) (by omega)) rfl ?_
  refine And.intro (show (((B [114, 101, 99, 111, 114, 100, 115, 32] ++ B (Lib.itoa s.seq) ++ B [32, 102, 101, 110, 99, 101, 32] ++ B (Lib.itoa s.fence) ++ B [32, 114, 101, 115, 116, 105, 110, 103, 32]).size + (B (Lib.itoa (s.ts.length : Int))).size : Nat) : Int) ≤ 9223372036854775807 by simp only [B_app, B_size, List.length_append, List.length_cons, List.length_nil]; omega) ?_
  refine LoopC.rounds 4 ?_
  refine LoopC.mk (fun j : Nat => j ≤ s.es.length) (fun j => [(1, .bptr 0 0), (3, .osl 1), (4, .int .i64 0), (5, .int .i64 (ofT (s.es.take j) 0).length), (6, .int .i64 j)])
    (fun j => [(0, .box s.row), (1, .arr 9 1 1 fun i => [.str (B (ix s.ls i))])]) 2 (fun j => s.es.length - j) 0
    ⟨Nat.zero_le _, [(0, 0), (16, 1)], rfl, rfl, ⟨AVle.refl _, AVle.refl _, AVle.refl _, AVle.refl _, AVle.refl _, trivial⟩, ⟨MOle.refl _, MOle.arr rfl fun i hi => ?_, trivial⟩⟩ ?_
  · have hi' : i < 1 := hi
    have : i = 0 := by omega
    subst this; exact congrArg (fun b => [AV.str b]) (lin0' s)
  intro j0 hj0
  refine Grd.intro (fun g1 => ?_) (fun g1 => ?_)
  · have hin : j0 < s.es.length := by have := of_decide_eq_true g1; omega
    have hc := cnt_snoc hin 0
    have hb := ofT_len (s.es.take j0) 0
    have hb' : (s.es.take j0).length ≤ j0 := by simp; omega
    refine And.intro (by omega) ?_
    conv => whnf
    refine CallC.sca _ (l01Bit_fn _) ?_ ?_
    · exact rfl
    refine And.intro (show inI .i64 (((ofT (s.es.take j0) 0).length : Int) + (if decide ((ix s.es j0).tier = 0) = true then 1 else 0)) by split <;> exact inI64 (by omega) (by omega)) ?_
    refine And.intro (inI64 (by omega) (by omega)) ?_
    exact ⟨j0 + 1, hin, by omega, [(0, 0), (1, 1)], rfl, rfl, ⟨AVle.refl _, AVle.refl _, AVle.refl _, AVle.of_eq (congrArg (AV.int .i64) hc.symm), AVle.of_eq (congrArg (AV.int .i64) (by simp)), trivial⟩, ⟨MOle.refl _, MOle.refl _, trivial⟩⟩
  have hjl0 : j0 = s.es.length := by have := of_decide_eq_false g1; omega
  subst hjl0
  rw [List.take_of_length_le (Nat.le_refl _)]
  have hb := ofT_len s.es 0
  have pd := itoa_le (n := ((ofT s.es 0).length : Int)) (by omega)
  refine DrawC.mk 23 rfl (by kernel_rfl) ?_
  refine PCallC.sca _ (dg 0 (by omega)) rfl ?_
  refine And.intro (show (((B [116, 105, 101, 114, 32]).size + (B (Lib.itoa 0)).size : Nat) : Int) ≤ 9223372036854775807 by simp only [B_app, B_size, List.length_append, List.length_cons, List.length_nil]; omega) ?_
  refine And.intro (show (((B [116, 105, 101, 114, 32] ++ B (Lib.itoa 0)).size + (B [32]).size : Nat) : Int) ≤ 9223372036854775807 by simp only [B_app, B_size, List.length_append, List.length_cons, List.length_nil]; omega) ?_
  refine And.intro ⟨by omega, by show (0 : Int) < ((3 : Nat) : Int); omega⟩ ?_
  refine PCallC.sca _ (dg s.l0 (by omega)) rfl ?_
  refine And.intro (show (((B [116, 105, 101, 114, 32] ++ B (Lib.itoa 0) ++ B [32]).size + (B (Lib.itoa s.l0)).size : Nat) : Int) ≤ 9223372036854775807 by simp only [B_app, B_size, List.length_append, List.length_cons, List.length_nil]; omega) ?_
  refine And.intro (show (((B [116, 105, 101, 114, 32] ++ B (Lib.itoa 0) ++ B [32] ++ B (Lib.itoa s.l0)).size + (B [32, 116, 111, 32]).size : Nat) : Int) ≤ 9223372036854775807 by simp only [B_app, B_size, List.length_append, List.length_cons, List.length_nil]; omega) ?_
  refine And.intro ⟨by omega, by show (0 : Int) < ((3 : Nat) : Int); omega⟩ ?_
  refine PCallC.sca _ (dg s.h0 (by omega)) rfl ?_
  refine And.intro (show (((B [116, 105, 101, 114, 32] ++ B (Lib.itoa 0) ++ B [32] ++ B (Lib.itoa s.l0) ++ B [32, 116, 111, 32]).size + (B (Lib.itoa s.h0)).size : Nat) : Int) ≤ 9223372036854775807 by simp only [B_app, B_size, List.length_append, List.length_cons, List.length_nil]; omega) ?_
  refine And.intro (show (((B [116, 105, 101, 114, 32] ++ B (Lib.itoa 0) ++ B [32] ++ B (Lib.itoa s.l0) ++ B [32, 116, 111, 32] ++ B (Lib.itoa s.h0)).size + (B [32, 101, 110, 116, 114, 105, 101, 115, 32]).size : Nat) : Int) ≤ 9223372036854775807 by simp only [B_app, B_size, List.length_append, List.length_cons, List.length_nil]; omega) ?_
  refine PCallC.sca _ (dg ((ofT s.es 0).length : Int) (by omega)) rfl ?_
  refine And.intro (show (((B [116, 105, 101, 114, 32] ++ B (Lib.itoa 0) ++ B [32] ++ B (Lib.itoa s.l0) ++ B [32, 116, 111, 32] ++ B (Lib.itoa s.h0) ++ B [32, 101, 110, 116, 114, 105, 101, 115, 32]).size + (B (Lib.itoa ((ofT s.es 0).length : Int))).size : Nat) : Int) ≤ 9223372036854775807 by simp only [B_app, B_size, List.length_append, List.length_cons, List.length_nil]; omega) ?_
  refine And.intro ⟨show (1 + 1) * 16 ≤ 140737488355328 by omega, all1 rfl⟩ ?_
  refine And.intro (inI64 (by omega) (by omega)) ?_
  refine LoopC.mk (fun j : Nat => j ≤ s.es.length) (fun j => [(1, .bptr 0 0), (3, .osl 1), (4, .int .i64 1), (5, .int .i64 (ofT (s.es.take j) 1).length), (6, .int .i64 j)])
    (fun j => [(0, .box s.row), (1, .arr 9 1 2 fun i => [.str (B (ix s.ls i))])]) 2 (fun j => s.es.length - j) 0
    ⟨Nat.zero_le _, [(0, 0), (25, 1)], rfl, rfl, ⟨AVle.refl _, AVle.refl _, AVle.refl _, AVle.refl _, AVle.refl _, trivial⟩, ⟨MOle.refl _, MOle.arr rfl fun i hi => ?_, trivial⟩⟩ ?_
  · have hi' : i < 2 := hi
    have : i = 0 ∨ i = 1 := by omega
    rcases this with rfl | rfl <;> first | rfl | (exact congrArg (fun b => [AV.str b]) (lin1' s))
  intro j1 hj1
  refine Grd.intro (fun g1 => ?_) (fun g1 => ?_)
  · have hin : j1 < s.es.length := by have := of_decide_eq_true g1; omega
    have hc := cnt_snoc hin 1
    have hb := ofT_len (s.es.take j1) 1
    have hb' : (s.es.take j1).length ≤ j1 := by simp; omega
    refine And.intro (by omega) ?_
    conv => whnf
    refine CallC.sca _ (l01Bit_fn _) ?_ ?_
    · exact rfl
    refine And.intro (show inI .i64 (((ofT (s.es.take j1) 1).length : Int) + (if decide ((ix s.es j1).tier = 1) = true then 1 else 0)) by split <;> exact inI64 (by omega) (by omega)) ?_
    refine And.intro (inI64 (by omega) (by omega)) ?_
    exact ⟨j1 + 1, hin, by omega, [(0, 0), (1, 1)], rfl, rfl, ⟨AVle.refl _, AVle.refl _, AVle.refl _, AVle.of_eq (congrArg (AV.int .i64) hc.symm), AVle.of_eq (congrArg (AV.int .i64) (by simp)), trivial⟩, ⟨MOle.refl _, MOle.refl _, trivial⟩⟩
  have hjl1 : j1 = s.es.length := by have := of_decide_eq_false g1; omega
  subst hjl1
  rw [List.take_of_length_le (Nat.le_refl _)]
  have hb := ofT_len s.es 1
  have pd := itoa_le (n := ((ofT s.es 1).length : Int)) (by omega)
  refine DrawC.mk 23 rfl (by kernel_rfl) ?_
  refine PCallC.sca _ (dg 1 (by omega)) rfl ?_
  refine And.intro (show (((B [116, 105, 101, 114, 32]).size + (B (Lib.itoa 1)).size : Nat) : Int) ≤ 9223372036854775807 by simp only [B_app, B_size, List.length_append, List.length_cons, List.length_nil]; omega) ?_
  refine And.intro (show (((B [116, 105, 101, 114, 32] ++ B (Lib.itoa 1)).size + (B [32]).size : Nat) : Int) ≤ 9223372036854775807 by simp only [B_app, B_size, List.length_append, List.length_cons, List.length_nil]; omega) ?_
  refine And.intro ⟨by omega, by show (1 : Int) < ((3 : Nat) : Int); omega⟩ ?_
  refine PCallC.sca _ (dg s.l1 (by omega)) rfl ?_
  refine And.intro (show (((B [116, 105, 101, 114, 32] ++ B (Lib.itoa 1) ++ B [32]).size + (B (Lib.itoa s.l1)).size : Nat) : Int) ≤ 9223372036854775807 by simp only [B_app, B_size, List.length_append, List.length_cons, List.length_nil]; omega) ?_
  refine And.intro (show (((B [116, 105, 101, 114, 32] ++ B (Lib.itoa 1) ++ B [32] ++ B (Lib.itoa s.l1)).size + (B [32, 116, 111, 32]).size : Nat) : Int) ≤ 9223372036854775807 by simp only [B_app, B_size, List.length_append, List.length_cons, List.length_nil]; omega) ?_
  refine And.intro ⟨by omega, by show (1 : Int) < ((3 : Nat) : Int); omega⟩ ?_
  refine PCallC.sca _ (dg s.h1 (by omega)) rfl ?_
  refine And.intro (show (((B [116, 105, 101, 114, 32] ++ B (Lib.itoa 1) ++ B [32] ++ B (Lib.itoa s.l1) ++ B [32, 116, 111, 32]).size + (B (Lib.itoa s.h1)).size : Nat) : Int) ≤ 9223372036854775807 by simp only [B_app, B_size, List.length_append, List.length_cons, List.length_nil]; omega) ?_
  refine And.intro (show (((B [116, 105, 101, 114, 32] ++ B (Lib.itoa 1) ++ B [32] ++ B (Lib.itoa s.l1) ++ B [32, 116, 111, 32] ++ B (Lib.itoa s.h1)).size + (B [32, 101, 110, 116, 114, 105, 101, 115, 32]).size : Nat) : Int) ≤ 9223372036854775807 by simp only [B_app, B_size, List.length_append, List.length_cons, List.length_nil]; omega) ?_
  refine PCallC.sca _ (dg ((ofT s.es 1).length : Int) (by omega)) rfl ?_
  refine And.intro (show (((B [116, 105, 101, 114, 32] ++ B (Lib.itoa 1) ++ B [32] ++ B (Lib.itoa s.l1) ++ B [32, 116, 111, 32] ++ B (Lib.itoa s.h1) ++ B [32, 101, 110, 116, 114, 105, 101, 115, 32]).size + (B (Lib.itoa ((ofT s.es 1).length : Int))).size : Nat) : Int) ≤ 9223372036854775807 by simp only [B_app, B_size, List.length_append, List.length_cons, List.length_nil]; omega) ?_
  refine And.intro ⟨show (2 + 1) * 16 ≤ 140737488355328 by omega, all1 rfl⟩ ?_
  refine And.intro (inI64 (by omega) (by omega)) ?_
  refine LoopC.mk (fun j : Nat => j ≤ s.es.length) (fun j => [(1, .bptr 0 0), (3, .osl 1), (4, .int .i64 2), (5, .int .i64 (ofT (s.es.take j) 2).length), (6, .int .i64 j)])
    (fun j => [(0, .box s.row), (1, .arr 9 1 3 fun i => [.str (B (ix s.ls i))])]) 2 (fun j => s.es.length - j) 0
    ⟨Nat.zero_le _, [(0, 0), (25, 1)], rfl, rfl, ⟨AVle.refl _, AVle.refl _, AVle.refl _, AVle.refl _, AVle.refl _, trivial⟩, ⟨MOle.refl _, MOle.arr rfl fun i hi => ?_, trivial⟩⟩ ?_
  · have hi' : i < 3 := hi
    have : i = 0 ∨ i = 1 ∨ i = 2 := by omega
    rcases this with rfl | rfl | rfl <;> first | rfl | (exact congrArg (fun b => [AV.str b]) (lin2' s))
  intro j2 hj2
  refine Grd.intro (fun g1 => ?_) (fun g1 => ?_)
  · have hin : j2 < s.es.length := by have := of_decide_eq_true g1; omega
    have hc := cnt_snoc hin 2
    have hb := ofT_len (s.es.take j2) 2
    have hb' : (s.es.take j2).length ≤ j2 := by simp; omega
    refine And.intro (by omega) ?_
    conv => whnf
    refine CallC.sca _ (l01Bit_fn _) ?_ ?_
    · exact rfl
    refine And.intro (show inI .i64 (((ofT (s.es.take j2) 2).length : Int) + (if decide ((ix s.es j2).tier = 2) = true then 1 else 0)) by split <;> exact inI64 (by omega) (by omega)) ?_
    refine And.intro (inI64 (by omega) (by omega)) ?_
    exact ⟨j2 + 1, hin, by omega, [(0, 0), (1, 1)], rfl, rfl, ⟨AVle.refl _, AVle.refl _, AVle.refl _, AVle.of_eq (congrArg (AV.int .i64) hc.symm), AVle.of_eq (congrArg (AV.int .i64) (by simp)), trivial⟩, ⟨MOle.refl _, MOle.refl _, trivial⟩⟩
  have hjl2 : j2 = s.es.length := by have := of_decide_eq_false g1; omega
  subst hjl2
  rw [List.take_of_length_le (Nat.le_refl _)]
  have hb := ofT_len s.es 2
  have pd := itoa_le (n := ((ofT s.es 2).length : Int)) (by omega)
  refine DrawC.mk 23 rfl (by kernel_rfl) ?_
  refine PCallC.sca _ (dg 2 (by omega)) rfl ?_
  refine And.intro (show (((B [116, 105, 101, 114, 32]).size + (B (Lib.itoa 2)).size : Nat) : Int) ≤ 9223372036854775807 by simp only [B_app, B_size, List.length_append, List.length_cons, List.length_nil]; omega) ?_
  refine And.intro (show (((B [116, 105, 101, 114, 32] ++ B (Lib.itoa 2)).size + (B [32]).size : Nat) : Int) ≤ 9223372036854775807 by simp only [B_app, B_size, List.length_append, List.length_cons, List.length_nil]; omega) ?_
  refine And.intro ⟨by omega, by show (2 : Int) < ((3 : Nat) : Int); omega⟩ ?_
  refine PCallC.sca _ (dg s.l2 (by omega)) rfl ?_
  refine And.intro (show (((B [116, 105, 101, 114, 32] ++ B (Lib.itoa 2) ++ B [32]).size + (B (Lib.itoa s.l2)).size : Nat) : Int) ≤ 9223372036854775807 by simp only [B_app, B_size, List.length_append, List.length_cons, List.length_nil]; omega) ?_
  refine And.intro (show (((B [116, 105, 101, 114, 32] ++ B (Lib.itoa 2) ++ B [32] ++ B (Lib.itoa s.l2)).size + (B [32, 116, 111, 32]).size : Nat) : Int) ≤ 9223372036854775807 by simp only [B_app, B_size, List.length_append, List.length_cons, List.length_nil]; omega) ?_
  refine And.intro ⟨by omega, by show (2 : Int) < ((3 : Nat) : Int); omega⟩ ?_
  refine PCallC.sca _ (dg s.h2 (by omega)) rfl ?_
  refine And.intro (show (((B [116, 105, 101, 114, 32] ++ B (Lib.itoa 2) ++ B [32] ++ B (Lib.itoa s.l2) ++ B [32, 116, 111, 32]).size + (B (Lib.itoa s.h2)).size : Nat) : Int) ≤ 9223372036854775807 by simp only [B_app, B_size, List.length_append, List.length_cons, List.length_nil]; omega) ?_
  refine And.intro (show (((B [116, 105, 101, 114, 32] ++ B (Lib.itoa 2) ++ B [32] ++ B (Lib.itoa s.l2) ++ B [32, 116, 111, 32] ++ B (Lib.itoa s.h2)).size + (B [32, 101, 110, 116, 114, 105, 101, 115, 32]).size : Nat) : Int) ≤ 9223372036854775807 by simp only [B_app, B_size, List.length_append, List.length_cons, List.length_nil]; omega) ?_
  refine PCallC.sca _ (dg ((ofT s.es 2).length : Int) (by omega)) rfl ?_
  refine And.intro (show (((B [116, 105, 101, 114, 32] ++ B (Lib.itoa 2) ++ B [32] ++ B (Lib.itoa s.l2) ++ B [32, 116, 111, 32] ++ B (Lib.itoa s.h2) ++ B [32, 101, 110, 116, 114, 105, 101, 115, 32]).size + (B (Lib.itoa ((ofT s.es 2).length : Int))).size : Nat) : Int) ≤ 9223372036854775807 by simp only [B_app, B_size, List.length_append, List.length_cons, List.length_nil]; omega) ?_
  refine And.intro ⟨show (3 + 1) * 16 ≤ 140737488355328 by omega, all1 rfl⟩ ?_
  refine And.intro (inI64 (by omega) (by omega)) ?_
  refine And.intro trivial (AVle.sl rfl fun i hi => ?_)
  have hi4 : i < 4 := hi
  have : i = 0 ∨ i = 1 ∨ i = 2 ∨ i = 3 := by omega
  rcases this with rfl | rfl | rfl | rfl <;> first | rfl | (exact congrArg (fun b => [AV.str b]) (lin3' s))
theorem specStateLines_ok (s : Sta) (hL : s.es.length ≤ 1000000000) (hT : s.ts.length ≤ 1000000000) (hk1 : ∀ e ∈ s.es, e.key.length ≤ 1000000000) (hk2 : ∀ e ∈ s.ts, e.key.length ≤ 1000000000) (h : s.ok = true) : VFn Tryz.prog 27 [s.av] (.tup [txts s.ls, .int .i64 0]) := by
  refine VFn.introC Tryz.call27 Tryz.func27 rfl rfl ?_
  conv => whnf
  refine CallC.sca _ (specStateOK_ok s hL hT hk1 hk2) ?_ ?_
  · exact rfl
  rw [h]
  conv => whnf
  refine CallC.nl _ (l15State_fn s (Sta.ok_nums h)) ?_ ?_
  · exact rfl
  exact And.intro trivial (AVle.refl _)
theorem specStateLines_bad (s : Sta) (hL : s.es.length ≤ 1000000000) (hT : s.ts.length ≤ 1000000000) (hk1 : ∀ e ∈ s.es, e.key.length ≤ 1000000000) (hk2 : ∀ e ∈ s.ts, e.key.length ≤ 1000000000) (h : s.ok = false) : VFn Tryz.prog 27 [s.av] (.tup [.sl 1 0 fun i => List.take (0 + 1) (List.drop (i * (0 + 1)) []), .int .i64 1]) := by
  refine VFn.introC Tryz.call27 Tryz.func27 rfl rfl ?_
  conv => whnf
  refine CallC.sca _ (specStateOK_ok s hL hT hk1 hk2) ?_ ?_
  · exact rfl
  rw [h]
  exact And.intro trivial (AVle.refl _)
theorem eqNil_fn : VFn Tryz.prog 30 [.nilsl, .sl 1 0 fun i => List.take (0 + 1) (List.drop (i * (0 + 1)) [])] (.bool true) := by
  refine VFn.introC Tryz.call30 Tryz.func30 rfl rfl ?_
  refine LoopC.rounds 1 ?_
  exact And.intro trivial (AVle.refl _)
theorem heldNil_fn (k : Int) : VFn Tryz.prog 34 [.nilsl, .int .i64 k] (.int .i64 k) := by
  refine VFn.introC Tryz.call34 Tryz.func34 rfl rfl ?_
  refine LoopC.rounds 1 ?_
  exact And.intro trivial (AVle.refl _)
theorem markNil_fn (k : Int) : VFn Tryz.prog 33 [.nilsl, .int .i64 k] (.int .i64 k) := by
  refine VFn.introC Tryz.call33 Tryz.func33 rfl rfl ?_
  refine LoopC.rounds 1 ?_
  exact And.intro trivial (AVle.refl _)
end Go.Proofs.YtopkjoalbinljaaGreatDoor
