/- Texts of buckets: contracts; the conditions are the theorems' own. -/
import Derived.Test.YtopkjoalbinljaaDoorGC
set_option linter.unusedVariables false
set_option maxRecDepth 20000
namespace Go.Proofs.YtopkjoalbinljaaDoor
open Go Go.Vw

theorem bucketsText_fn (L : List Bk) (hL : L.length ≤ 8) (hN : ∀ s ∈ L, s.ok) : VFn Tryd.prog 45 [bks L] (.str (B (bksText L))) := by
  have hlen := bksText_len hN
  refine VFn.introC Tryd.call45 Tryd.func45 rfl rfl ?_
  refine LoopC.mk (fun i : Nat => i ≤ L.length) (fun i => [(7, bks L), (8, .int .i64 L.length), (3, .osl 0), (9, .int .i64 i)])
    (fun i => [(0, .arr 20 1 ((L.take i).map fun s => It.t (bkText s)).length (itRow ((L.take i).map fun s => It.t (bkText s))))]) 1 (fun i => L.length - i) 0
    ⟨Nat.zero_le _, [(0, 0)], rfl, rfl, ⟨AVle.refl _, AVle.refl _, AVle.refl _, AVle.refl _, trivial⟩, ⟨MOle.arr rfl fun i hi => absurd hi (Nat.not_lt_zero i), trivial⟩⟩ ?_
  intro i hi
  refine Grd.intro (fun h2 => ?_) (fun h2 => ?_)
  · have hin : i < L.length := by have := of_decide_eq_true h2; omega
    have hs := hN _ (getD_mem hin)
    have hl := bkText_len hs
    refine And.intro (by omega) ?_
    refine DrawC.mk 12 rfl (by kernel_rfl) ?_
    refine PCallC.sca _ (aggText_fn (ix L i).a hs.2) rfl ?_
    have hok : ∀ x ∈ [It.n (ix L i).t, It.t (atext (ix L i).a)], x.ok := fun x hx => by
      simp only [List.mem_cons, List.not_mem_nil, or_false] at hx
      obtain ⟨g1, g2⟩ := hs
      rcases hx with rfl | rfl
      · exact ⟨by omega, by omega⟩
      · exact trivial
    refine PCallC.sca (.str (B (bkText (ix L i)))) (joined_of [It.n (ix L i).t, It.t (atext (ix L i).a)] (n := 2) ⟨rfl, rfl, trivial⟩ rfl [58] (show 2 ≤ 100000000 by decide) hok (show (bkText (ix L i)).length ≤ _ by omega)) rfl ?_
    refine And.intro ⟨show (((L.take i).map fun s => It.t (bkText s)).length + 1) * 16 ≤ 140737488355328 by simp; omega, all1 rfl⟩ ?_
    refine And.intro (inI64 (by omega) (by omega)) ?_
    refine ⟨i + 1, hin, by omega, [(14, 0)], rfl, rfl, ⟨AVle.refl _, AVle.refl _, AVle.refl _, AVle.of_eq (congrArg (AV.int .i64) (by simp)), trivial⟩, ⟨?_, trivial⟩⟩
    exact arr_next (f := It.row) (map_take_snoc hin) rfl
  · have : i = L.length := by have := of_decide_eq_false h2; omega
    subst this
    have e : L.take L.length = L := List.take_of_length_le (Nat.le_refl _)
    have e2 : (L.map fun s => It.t (bkText s)).map It.txt = L.map bkText := by rw [List.map_map]; rfl
    rw [e]
    conv => whnf
    refine CallC.sca _ (said_fn (L.map fun s => It.t (bkText s)) (by simp; omega) (fun x hx => by obtain ⟨y, _, rfl⟩ := List.mem_map.1 hx; trivial) (by rw [e2]; exact Nat.le_trans hlen (by omega))) ?_ ?_
    · exact rfl
    exact And.intro trivial (AVle.of_eq (congrArg (fun l => AV.str (B l)) (show Lib.join _ [32] = bksText L by rw [e2]; rfl)))

theorem l03Buckets_fn (L : List Bk) (hL : L.length ≤ 8) (hN : ∀ s ∈ L, s.ok) : VFn Tryd.prog 40 [bks L] (.str (B (bksText L))) := by
  have hlen := bksText_len hN
  refine VFn.introC Tryd.call40 Tryd.func40 rfl rfl ?_
  refine LoopC.mk (fun i : Nat => i ≤ L.length) (fun i => [(0, bks L), (3, .osl 0), (4, .int .i64 i)])
    (fun i => [(0, .arr 9 1 ((L.take i).map bkText).length fun k => [.str (B (ix ((L.take i).map bkText) k))])]) 1 (fun i => L.length - i) 0
    ⟨Nat.zero_le _, [(0, 0)], rfl, rfl, ⟨AVle.refl _, AVle.refl _, AVle.refl _, trivial⟩, ⟨MOle.arr rfl fun i hi => absurd hi (Nat.not_lt_zero i), trivial⟩⟩ ?_
  intro i hi
  refine Grd.intro (fun h2 => ?_) (fun h2 => ?_)
  · have hin : i < L.length := by have := of_decide_eq_true h2; omega
    have hs := hN _ (getD_mem hin)
    have h1 := itoa_len (n := (ix L i).t) (by have := hs.1; omega) (by have := hs.1; omega)
    have h3 := atext_len hs.2
    refine DrawC.mk 16 rfl (by kernel_rfl) ?_
    refine And.intro (by omega) ?_
    refine PCallC.sca _ (digits_fn (ix L i).t (by have := hs.1; omega) (by have := hs.1; omega)) rfl ?_
    refine And.intro (show (((B (Lib.itoa (ix L i).t)).size + (B [58]).size : Nat) : Int) ≤ 9223372036854775807 by rw [B_size, B_size]; simp; omega) ?_
    refine And.intro (by omega) ?_
    refine PCallC.sca _ (l02Text_fn (ix L i).a hs.2) rfl ?_
    refine And.intro (show (((B (Lib.itoa (ix L i).t) ++ B [58]).size + (B (atext (ix L i).a)).size : Nat) : Int) ≤ 9223372036854775807 by rw [B_app, B_size, B_size]; simp; omega) ?_
    refine And.intro ⟨show (((L.take i).map bkText).length + 1) * 16 ≤ 140737488355328 by simp; omega, all1 rfl⟩ ?_
    refine And.intro (inI64 (by omega) (by omega)) ?_
    refine ⟨i + 1, hin, by omega, [(17, 0)], rfl, rfl, ⟨AVle.refl _, AVle.refl _, AVle.of_eq (congrArg (AV.int .i64) (by simp)), trivial⟩, ⟨?_, trivial⟩⟩
    exact arr_next (f := fun x => [.str (B x)]) (map_take_snoc hin) (show [AV.str (B (Lib.itoa (ix L i).t) ++ B [58] ++ B (atext (ix L i).a))] = _ by rw [B_app, B_app, ← join2]; rfl)
  · have : i = L.length := by have := of_decide_eq_false h2; omega
    subst this
    have e : L.take L.length = L := List.take_of_length_le (Nat.le_refl _)
    rw [e]
    conv => whnf
    refine CallC.sca _ (l00Join_fn (L.map bkText) [32] (Nat.le_trans hlen (by omega)) (by simp; omega)) ?_ ?_
    · exact rfl
    exact And.intro trivial (AVle.refl _)

/-- what BucketsText tells -/
def bksCode (L : List Bk) : Int := firstC [(decide (4096 < L.length), 2), (!bksOK L, 1)]
def bksRes (L : List Bk) : List UInt8 := if bksCode L = 0 then bksText L else []
theorem bksCode_zero {L : List Bk} (h : bksCode L = 0) : bksOK L = true := by
  unfold bksCode firstC firstC firstC at h
  cases hl : decide (4096 < L.length) <;> cases hb : bksOK L <;> rw [hl, hb] at h <;> first | rfl | (exact absurd h (by decide))
theorem BucketsText_fn (L : List Bk) : VFn Tryd.prog 12 [bks L] (.tup [.str (B (bksRes L)), .int .i64 (bksCode L)]) := by
  refine VFn.introC Tryd.call12 Tryd.func12 rfl rfl ?_
  conv => whnf
  refine CallC.sca _ (isLongBk_fn L) ?_ ?_
  · exact rfl
  conv => whnf
  refine CallC.sca _ (BucketsOK_fn L) ?_ ?_
  · exact rfl
  refine CallC.sca (.int .i64 (bksCode L)) (first_of [(decide (4096 < L.length), 2), (!bksOK L, 1)] (n := 4) ⟨rfl, rfl, rfl, rfl, trivial⟩ rfl (show 2 ≤ 1000 by decide)) rfl ?_
  refine Grd.intro (fun h1 => ?_) (fun h1 => ?_)
  · have h1 : ¬ bksCode L = 0 := by simpa using h1
    exact And.intro trivial (AVle.of_eq (show AV.tup [.str (B []), .int .i64 (bksCode L)] = _ by rw [bksRes, if_neg h1]))
  · have h1 : bksCode L = 0 := by simpa using h1
    have h2 := bksCode_zero h1
    conv => whnf
    refine CallC.sca _ (bucketsText_fn L (bksOK_len h2) (bksOK_ok h2)) ?_ ?_
    · exact rfl
    exact And.intro trivial (AVle.of_eq (show AV.tup [.str (B (bksText L)), .int .i64 0] = _ by rw [bksRes, if_pos h1, h1]))
theorem specBucketsText_fn (L : List Bk) : VFn Tryd.prog 10 [bks L] (.tup [.str (B (bksRes L)), .int .i64 (bksCode L)]) := by
  refine VFn.introC Tryd.call10 Tryd.func10 rfl rfl ?_
  refine Grd.intro (fun h1 => ?_) (fun h1 => ?_)
  · have h1 : 4096 < L.length := by have := of_decide_eq_true h1; omega
    have e : bksCode L = 2 := by unfold bksCode; rw [decide_eq_true h1]; rfl
    exact And.intro trivial (AVle.of_eq (show AV.tup [.str (B []), .int .i64 2] = _ by rw [bksRes, e]; rfl))
  have h1 : ¬ 4096 < L.length := by have := of_decide_eq_false h1; omega
  conv => whnf
  refine CallC.sca _ (specBucketsOK_fn L) ?_ ?_
  · exact rfl
  refine Grd.intro (fun h2 => ?_) (fun h2 => ?_)
  · have h2 : bksOK L = false := by simpa using h2
    have e : bksCode L = 1 := by unfold bksCode; rw [decide_eq_false h1, h2]; rfl
    exact And.intro trivial (AVle.of_eq (show AV.tup [.str (B []), .int .i64 1] = _ by rw [bksRes, e]; rfl))
  · have h2 : bksOK L = true := by simpa using h2
    have e : bksCode L = 0 := by unfold bksCode; rw [decide_eq_false h1, h2]; rfl
    conv => whnf
    refine CallC.sca _ (l03Buckets_fn L (bksOK_len h2) (bksOK_ok h2)) ?_ ?_
    · exact rfl
    exact And.intro trivial (AVle.of_eq (show AV.tup [.str (B (bksText L)), .int .i64 0] = _ by rw [bksRes, if_pos e, e]))

theorem toAgg_fn (a : Ag) : VFn Tryd.prog 88 [a.av] a.av := by
  refine VFn.introC Tryd.call88 Tryd.func88 rfl rfl ?_
  exact And.intro trivial (AVle.refl _)
theorem eqAgg_fn (a : Ag) : VFn Tryd.prog 91 [a.av, a.av] (.bool true) := by
  refine VFn.introC Tryd.call91 Tryd.func91 rfl rfl ?_
  iterate 6 (refine Grd.intro (fun h => absurd h (by simp)) (fun _ => ?_))
  exact And.intro trivial (AVle.refl _)
theorem toBucket_fn (b : Bk) : VFn Tryd.prog 41 [.agg b.row] (.agg b.row) := by
  refine VFn.introC Tryd.call41 Tryd.func41 rfl rfl ?_
  conv => whnf
  refine CallC.sca _ (toAgg_fn b.a) ?_ ?_
  · exact rfl
  exact And.intro trivial (AVle.refl _)
theorem eqBucket_fn (b : Bk) : VFn Tryd.prog 46 [.agg b.row, .agg b.row] (.bool true) := by
  refine VFn.introC Tryd.call46 Tryd.func46 rfl rfl ?_
  refine Grd.intro (fun h => absurd h (by simp)) (fun _ => ?_)
  conv => whnf
  refine CallC.sca _ (eqAgg_fn b.a) ?_ ?_
  · exact rfl
  exact And.intro trivial (AVle.refl _)
theorem toBucketS_fn (L : List Bk) (hL : L.length ≤ 1048576) : VFn Tryd.prog 11 [bks L] (bks L) := by
  refine VFn.introC Tryd.call11 Tryd.func11 rfl rfl ?_
  refine And.intro ⟨by omega, rfl, (show (56 : Int) * L.length ≤ 140737488355328 by omega), by omega⟩ ?_
  refine LoopC.mk (fun i : Nat => i ≤ L.length) (fun i => [(0, bks L), (3, .osl 0), (4, .int .i64 i)])
    (fun i => [(0, .arr 84 7 L.length (wr (fun i => (ix L i).row) (fun _ => (default : Bk).row) i))]) 1 (fun i => L.length - i) 0
    ⟨Nat.zero_le _, [(0, 0)], rfl, rfl, ⟨AVle.refl _, AVle.refl _, AVle.refl _, trivial⟩, ⟨MOle.arr rfl fun i hi => by rw [wr_ge (Nat.zero_le i)]; rfl, trivial⟩⟩ ?_
  intro i hi
  refine Grd.intro (fun h2 => ?_) (fun h2 => ?_)
  · have hin : i < L.length := by have := of_decide_eq_true h2; omega
    refine And.intro (by omega) ?_
    conv => whnf
    refine CallC.sca _ (toBucket_fn (ix L i)) ?_ ?_
    · exact rfl
    refine And.intro (by omega) ?_
    refine And.intro (inI64 (by omega) (by omega)) ?_
    exact ⟨i + 1, hin, by omega, [(0, 0)], rfl, rfl, ⟨AVle.refl _, AVle.refl _, AVle.of_eq (congrArg (AV.int .i64) (by simp)), trivial⟩, ⟨MOle.arr rfl fun k hk => wr_next fun e => by subst e; rw [wr_ge (Nat.le_refl _)]; rfl, trivial⟩⟩
  · have : i = L.length := by have := of_decide_eq_false h2; omega
    subst this
    exact And.intro trivial (AVle.sl rfl fun k hk => wr_lt hk)
theorem eqBucketS_fn (L : List Bk) (hL : L.length ≤ 1048576) : VFn Tryd.prog 13 [bks L, bks L] (.bool true) := by
  refine VFn.introC Tryd.call13 Tryd.func13 rfl rfl ?_
  refine Grd.intro (fun h => absurd h (by simp)) (fun _ => ?_)
  refine LoopC.mk (fun i : Nat => i ≤ L.length) (fun i => [(0, bks L), (1, bks L), (5, .int .i64 i)]) (fun _ => []) 0 (fun i => L.length - i) 0
    ⟨Nat.zero_le _, [], rfl, rfl, ⟨AVle.refl _, AVle.refl _, AVle.refl _, trivial⟩, trivial⟩ ?_
  intro i hi
  refine Grd.intro (fun h2 => ?_) (fun h2 => ?_)
  · have hin : i < L.length := by have := of_decide_eq_true h2; omega
    refine DrawC.mk 10 rfl (by kernel_rfl) ?_
    refine And.intro (by omega) ?_
    refine And.intro (by omega) ?_
    refine PCallC.sca _ (eqBucket_fn (ix L i)) rfl ?_
    refine And.intro (inI64 (by omega) (by omega)) ?_
    exact ⟨i + 1, hin, by omega, [], rfl, rfl, ⟨AVle.refl _, AVle.refl _, AVle.of_eq (congrArg (AV.int .i64) (by simp)), trivial⟩, trivial⟩
  · exact And.intro trivial (AVle.refl _)
theorem szBucketS_no (L : List Bk) (hL : L.length ≤ 9223372036854775807) (h : 1048576 < L.length) : VFn Tryd.prog 9 [bks L, .int .i64 1048576] (.int .i64 (-1)) := by
  refine VFn.introC Tryd.call9 Tryd.func9 rfl rfl ?_
  refine And.intro (inI64 (by omega) (by omega)) ?_
  refine Grd.intro (fun _ => ?_) (fun h2 => absurd (of_decide_eq_false h2) (by omega))
  exact And.intro trivial (AVle.refl _)
theorem szBucketS_yes (L : List Bk) (h : L.length ≤ 1048576) : VFn Tryd.prog 9 [bks L, .int .i64 1048576] (.int .i64 (1048576 - L.length)) := by
  refine VFn.introC Tryd.call9 Tryd.func9 rfl rfl ?_
  refine And.intro (inI64 (by omega) (by omega)) ?_
  refine Grd.intro (fun h2 => absurd (of_decide_eq_true h2) (by omega)) (fun _ => ?_)
  exact And.intro trivial (AVle.refl _)
theorem law_BucketsText (L : List Bk) (hL : L.length ≤ 9223372036854775807) : VFn Tryd.prog 3 [bks L] (.bool true) := by
  refine VFn.introC Tryd.call3 Tryd.func3 rfl rfl ?_
  by_cases h : L.length ≤ 1048576
  · conv => whnf
    refine CallC.sca _ (szBucketS_yes L h) ?_ ?_
    · exact rfl
    refine Grd.intro (fun h2 => absurd (of_decide_eq_true h2) (by omega)) (fun _ => ?_)
    conv => whnf
    refine CallC.nl _ (toBucketS_fn L h) ?_ ?_
    · exact rfl
    conv => whnf
    refine CallC.sca _ (specBucketsText_fn L) ?_ ?_
    · exact rfl
    conv => whnf
    refine CallC.nl _ (toBucketS_fn L h) ?_ ?_
    · exact rfl
    conv => whnf
    refine CallC.sca _ (BucketsText_fn L) ?_ ?_
    · exact rfl
    refine Grd.intro (fun h2 => absurd h2 (by simp)) (fun _ => ?_)
    refine Grd.intro (fun h2 => absurd h2 (by simp)) (fun _ => ?_)
    conv => whnf
    refine CallC.nl _ (toBucketS_fn L h) ?_ ?_
    · exact rfl
    conv => whnf
    refine CallC.sca _ (eqBucketS_fn L h) ?_ ?_
    · exact rfl
    exact And.intro trivial (AVle.refl _)
  · conv => whnf
    refine CallC.sca _ (szBucketS_no L hL (by omega)) ?_ ?_
    · exact rfl
    exact And.intro trivial (AVle.refl _)
end Go.Proofs.YtopkjoalbinljaaDoor
