/- Texts of buckets: contracts; the conditions are the theorems' own. -/
import Derived.Test.YthonnbgcpaofoaaGreatDoorGC
set_option linter.unusedVariables false
set_option linter.constructorNameAsVariable false
set_option linter.unusedSimpArgs false
set_option maxRecDepth 20000
namespace Go.Proofs.YthonnbgcpaofoaaGreatDoor
open Go Go.Vw

theorem bucketsText_fn (L : List Bk) (hL : L.length ≤ 8) (hN : ∀ s ∈ L, s.ok) : VFn Tryz.prog 128 [bks L] (.str (B (bksText L))) := by
  have hlen := bksText_len hN
  refine VFn.introC Tryz.call128 Tryz.func128 rfl rfl ?_
  refine LoopC.mk (fun i : Nat => i ≤ L.length) (fun i => [(7, bks L), (8, .int .i64 L.length), (3, .osl 0), (9, .int .i64 i)])
    (fun i => [(0, .arr 20 1 ((L.take i).map fun s => It.t (bkText s)).length (itRow ((L.take i).map fun s => It.t (bkText s))))]) 1 (fun i => L.length - i) 0
    ⟨Nat.zero_le _, [(0, 0)], rfl, rfl, ⟨AVle.refl _, AVle.refl _, AVle.refl _, AVle.refl _, trivial⟩, ⟨MOle.arr rfl fun i hi => absurd hi (Nat.not_lt_zero i), trivial⟩⟩ ?_
  intro i hi
  refine Grd.intro (fun h2 => ?_) (fun h2 => ?_)
  · have hin : i < L.length := by have := of_decide_eq_true h2; omega
    have hs := hN _ (getD_mem hin)
    have hl := bkText_len hs
    refine And.intro (by omega) ?_
    refine DrawC.mk 12 rfl (by kernel_rfl) ?_
    refine PCallC.sca _ (aggText_fn (ix L i).a hs.2) rfl ?_
    have hok : ∀ x ∈ [It.n (ix L i).t, It.t (atext (ix L i).a)], x.ok := fun x hx => by
      simp only [List.mem_cons, List.not_mem_nil, or_false] at hx
      obtain ⟨g1, g2⟩ := hs
      rcases hx with rfl | rfl
      · exact ⟨by omega, by omega⟩
      · exact trivial
    refine PCallC.sca (.str (B (bkText (ix L i)))) (joined_of [It.n (ix L i).t, It.t (atext (ix L i).a)] (n := 2) ⟨rfl, rfl, trivial⟩ rfl [58] (show 2 ≤ 100000000 by decide) hok (show (bkText (ix L i)).length ≤ _ by omega)) rfl ?_
    refine And.intro ⟨show (((L.take i).map fun s => It.t (bkText s)).length + 1) * 16 ≤ 140737488355328 by simp; omega, all1 rfl⟩ ?_
    refine And.intro (inI64 (by omega) (by omega)) ?_
    refine ⟨i + 1, hin, by omega, [(14, 0)], rfl, rfl, ⟨AVle.refl _, AVle.refl _, AVle.refl _, AVle.of_eq (congrArg (AV.int .i64) (by simp)), trivial⟩, ⟨?_, trivial⟩⟩
    exact arr_next (f := It.row) (map_take_snoc hin) rfl
  · have : i = L.length := by have := of_decide_eq_false h2; omega
    subst this
    have e : L.take L.length = L := List.take_of_length_le (Nat.le_refl _)
    have e2 : (L.map fun s => It.t (bkText s)).map It.txt = L.map bkText := by rw [List.map_map]; rfl
    rw [e]
    conv => whnf
    refine CallC.sca _ (said_fn (L.map fun s => It.t (bkText s)) (by simp; omega) (fun x hx => by obtain ⟨y, _, rfl⟩ := List.mem_map.1 hx; trivial) (by rw [e2]; exact Nat.le_trans hlen (by omega))) ?_ ?_
    · exact rfl
    exact And.intro trivial (AVle.of_eq (congrArg (fun l => AV.str (B l)) (show Lib.join _ [32] = bksText L by rw [e2]; rfl)))

theorem l03Buckets_fn (L : List Bk) (hL : L.length ≤ 8) (hN : ∀ s ∈ L, s.ok) : VFn Tryz.prog 130 [bks L] (.str (B (bksText L))) := by
  have hlen := bksText_len hN
  refine VFn.introC Tryz.call130 Tryz.func130 rfl rfl ?_
  refine LoopC.mk (fun i : Nat => i ≤ L.length) (fun i => [(0, bks L), (3, .osl 0), (4, .int .i64 i)])
    (fun i => [(0, .arr 9 1 ((L.take i).map bkText).length fun k => [.str (B (ix ((L.take i).map bkText) k))])]) 1 (fun i => L.length - i) 0
    ⟨Nat.zero_le _, [(0, 0)], rfl, rfl, ⟨AVle.refl _, AVle.refl _, AVle.refl _, trivial⟩, ⟨MOle.arr rfl fun i hi => absurd hi (Nat.not_lt_zero i), trivial⟩⟩ ?_
  intro i hi
  refine Grd.intro (fun h2 => ?_) (fun h2 => ?_)
  · have hin : i < L.length := by have := of_decide_eq_true h2; omega
    have hs := hN _ (getD_mem hin)
    have h1 := itoa_len (n := (ix L i).t) (by have := hs.1; omega) (by have := hs.1; omega)
    have h3 := atext_len hs.2
    refine DrawC.mk 16 rfl (by kernel_rfl) ?_
    refine And.intro (by omega) ?_
    refine PCallC.sca _ (digits_fn (ix L i).t (by have := hs.1; omega) (by have := hs.1; omega)) rfl ?_
    refine And.intro (show (((B (Lib.itoa (ix L i).t)).size + (B [58]).size : Nat) : Int) ≤ 9223372036854775807 by rw [B_size, B_size]; simp; omega) ?_
    refine And.intro (by omega) ?_
    refine PCallC.sca _ (l02Text_fn (ix L i).a hs.2) rfl ?_
    refine And.intro (show (((B (Lib.itoa (ix L i).t) ++ B [58]).size + (B (atext (ix L i).a)).size : Nat) : Int) ≤ 9223372036854775807 by rw [B_app, B_size, B_size]; simp; omega) ?_
    refine And.intro ⟨show (((L.take i).map bkText).length + 1) * 16 ≤ 140737488355328 by simp; omega, all1 rfl⟩ ?_
    refine And.intro (inI64 (by omega) (by omega)) ?_
    refine ⟨i + 1, hin, by omega, [(17, 0)], rfl, rfl, ⟨AVle.refl _, AVle.refl _, AVle.of_eq (congrArg (AV.int .i64) (by simp)), trivial⟩, ⟨?_, trivial⟩⟩
    exact arr_next (f := fun x => [.str (B x)]) (map_take_snoc hin) (show [AV.str (B (Lib.itoa (ix L i).t) ++ B [58] ++ B (atext (ix L i).a))] = _ by rw [B_app, B_app, ← join2]; rfl)
  · have : i = L.length := by have := of_decide_eq_false h2; omega
    subst this
    have e : L.take L.length = L := List.take_of_length_le (Nat.le_refl _)
    rw [e]
    conv => whnf
    refine CallC.sca _ (l00Join_fn (L.map bkText) [32] (Nat.le_trans hlen (by omega)) (by simp; omega)) ?_ ?_
    · exact rfl
    exact And.intro trivial (AVle.refl _)

/-- what BucketsText tells -/
def bksCode (L : List Bk) : Int := firstC [(decide (4096 < L.length), 2), (!bksOK L, 1)]
def bksRes (L : List Bk) : List UInt8 := if bksCode L = 0 then bksText L else []
theorem bksCode_zero {L : List Bk} (h : bksCode L = 0) : bksOK L = true := by
  unfold bksCode firstC firstC firstC at h
  cases hl : decide (4096 < L.length) <;> cases hb : bksOK L <;> rw [hl, hb] at h <;> first | rfl | (exact absurd h (by decide))
theorem BucketsText_fn (L : List Bk) : VFn Tryz.prog 47 [bks L] (.tup [.str (B (bksRes L)), .int .i64 (bksCode L)]) := by
  refine VFn.introC Tryz.call47 Tryz.func47 rfl rfl ?_
  conv => whnf
  refine CallC.sca _ (isLongBk_fn L) ?_ ?_
  · exact rfl
  conv => whnf
  refine CallC.sca _ (BucketsOK_fn L) ?_ ?_
  · exact rfl
  refine CallC.sca (.int .i64 (bksCode L)) (first_of [(decide (4096 < L.length), 2), (!bksOK L, 1)] (n := 4) ⟨rfl, rfl, rfl, rfl, trivial⟩ rfl (show 2 ≤ 1000 by decide)) rfl ?_
  refine Grd.intro (fun h1 => ?_) (fun h1 => ?_)
  · have h1 : ¬ bksCode L = 0 := by simpa using h1
    exact And.intro trivial (AVle.of_eq (show AV.tup [.str (B []), .int .i64 (bksCode L)] = _ by rw [bksRes, if_neg h1]))
  · have h1 : bksCode L = 0 := by simpa using h1
    have h2 := bksCode_zero h1
    conv => whnf
    refine CallC.sca _ (bucketsText_fn L (bksOK_len h2) (bksOK_ok h2)) ?_ ?_
    · exact rfl
    exact And.intro trivial (AVle.of_eq (show AV.tup [.str (B (bksText L)), .int .i64 0] = _ by rw [bksRes, if_pos h1, h1]))
theorem specBucketsText_fn (L : List Bk) : VFn Tryz.prog 48 [bks L] (.tup [.str (B (bksRes L)), .int .i64 (bksCode L)]) := by
  refine VFn.introC Tryz.call48 Tryz.func48 rfl rfl ?_
  refine Grd.intro (fun h1 => ?_) (fun h1 => ?_)
  · have h1 : 4096 < L.length := by have := of_decide_eq_true h1; omega
    have e : bksCode L = 2 := by unfold bksCode; rw [decide_eq_true h1]; rfl
    exact And.intro trivial (AVle.of_eq (show AV.tup [.str (B []), .int .i64 2] = _ by rw [bksRes, e]; rfl))
  have h1 : ¬ 4096 < L.length := by have := of_decide_eq_false h1; omega
  conv => whnf
  refine CallC.sca _ (specBucketsOK_fn L) ?_ ?_
  · exact rfl
  refine Grd.intro (fun h2 => ?_) (fun h2 => ?_)
  · have h2 : bksOK L = false := by simpa using h2
    have e : bksCode L = 1 := by unfold bksCode; rw [decide_eq_false h1, h2]; rfl
    exact And.intro trivial (AVle.of_eq (show AV.tup [.str (B []), .int .i64 1] = _ by rw [bksRes, e]; rfl))
  · have h2 : bksOK L = true := by simpa using h2
    have e : bksCode L = 0 := by unfold bksCode; rw [decide_eq_false h1, h2]; rfl
    conv => whnf
    refine CallC.sca _ (l03Buckets_fn L (bksOK_len h2) (bksOK_ok h2)) ?_ ?_
    · exact rfl
    exact And.intro trivial (AVle.of_eq (show AV.tup [.str (B (bksText L)), .int .i64 0] = _ by rw [bksRes, if_pos e, e]))

end Go.Proofs.YthonnbgcpaofoaaGreatDoor
