/- Texts of buckets: contracts; the conditions are the theorems' own. -/
import Derived.Test.YtpfmfdioonjccaaGreatDoorGC
set_option linter.unusedVariables false
set_option linter.constructorNameAsVariable false
set_option linter.unusedSimpArgs false
set_option maxRecDepth 20000
namespace Go.Proofs.YtpfmfdioonjccaaGreatDoor
open Go Go.Vw

theorem l03Buckets_fn (L : List Bk) (hL : L.length ≤ 8) (hN : ∀ s ∈ L, s.ok) : VFn Tryz.prog 179 [bks L] (.str (B (bksText L))) := by
  have hlen := bksText_len hN
  refine VFn.introC Tryz.call179 Tryz.func179 rfl rfl ?_
  refine LoopC.mk (fun i : Nat => i ≤ L.length) (fun i => [(0, bks L), (3, .osl 0), (4, .int .i64 i)])
    (fun i => [(0, .arr 9 1 ((L.take i).map bkText).length fun k => [.str (B (ix ((L.take i).map bkText) k))])]) 1 (fun i => L.length - i) 0
    ⟨Nat.zero_le _, [(0, 0)], rfl, rfl, ⟨AVle.refl _, AVle.refl _, AVle.refl _, trivial⟩, ⟨MOle.arr rfl fun i hi => absurd hi (Nat.not_lt_zero i), trivial⟩⟩ ?_
  intro i hi
  refine Grd.intro (fun h2 => ?_) (fun h2 => ?_)
  · have hin : i < L.length := by have := of_decide_eq_true h2; omega
    have hs := hN _ (getD_mem hin)
    have h1 := itoa_len (n := (ix L i).t) (by have := hs.1; omega) (by have := hs.1; omega)
    have h3 := atext_len hs.2
    refine DrawC.mk 16 rfl (by kernel_rfl) ?_
    refine And.intro (by omega) ?_
    refine PCallC.sca _ (digits_fn (ix L i).t (by have := hs.1; omega) (by have := hs.1; omega)) rfl ?_
    refine And.intro (show (((B (Lib.itoa (ix L i).t)).size + (B [58]).size : Nat) : Int) ≤ 9223372036854775807 by rw [B_size, B_size]; simp; omega) ?_
    refine And.intro (by omega) ?_
    refine PCallC.sca _ (l02Text_fn (ix L i).a hs.2) rfl ?_
    refine And.intro (show (((B (Lib.itoa (ix L i).t) ++ B [58]).size + (B (atext (ix L i).a)).size : Nat) : Int) ≤ 9223372036854775807 by rw [B_app, B_size, B_size]; simp; omega) ?_
    refine And.intro ⟨show (((L.take i).map bkText).length + 1) * 16 ≤ 140737488355328 by simp; omega, all1 rfl⟩ ?_
    refine And.intro (inI64 (by omega) (by omega)) ?_
    refine ⟨i + 1, hin, by omega, [(17, 0)], rfl, rfl, ⟨AVle.refl _, AVle.refl _, AVle.of_eq (congrArg (AV.int .i64) (by simp)), trivial⟩, ⟨?_, trivial⟩⟩
    exact arr_next (f := fun x => [.str (B x)]) (map_take_snoc hin) (show [AV.str (B (Lib.itoa (ix L i).t) ++ B [58] ++ B (atext (ix L i).a))] = _ by rw [B_app, B_app, ← join2]; rfl)
  · have : i = L.length := by have := of_decide_eq_false h2; omega
    subst this
    have e : L.take L.length = L := List.take_of_length_le (Nat.le_refl _)
    rw [e]
    conv => whnf
    refine CallC.sca _ (l00Join_fn (L.map bkText) [32] (Nat.le_trans hlen (by omega)) (by simp; omega)) ?_ ?_
    · exact rfl
    exact And.intro trivial (AVle.refl _)

/-- what BucketsText tells -/
def bksCode (L : List Bk) : Int := firstC [(decide (4096 < L.length), 2), (!bksOK L, 1)]
def bksRes (L : List Bk) : List UInt8 := if bksCode L = 0 then bksText L else []
theorem bksCode_zero {L : List Bk} (h : bksCode L = 0) : bksOK L = true := by
  unfold bksCode firstC firstC firstC at h
  cases hl : decide (4096 < L.length) <;> cases hb : bksOK L <;> rw [hl, hb] at h <;> first | rfl | (exact absurd h (by decide))
theorem toAgg_fn (a : Ag) : VFn Tryz.prog 279 [a.av] a.av := by
  refine VFn.introC Tryz.call279 Tryz.func279 rfl rfl ?_
  exact And.intro trivial (AVle.refl _)
theorem eqAgg_fn (a : Ag) : VFn Tryz.prog 287 [a.av, a.av] (.bool true) := by
  refine VFn.introC Tryz.call287 Tryz.func287 rfl rfl ?_
  iterate 6 (refine Grd.intro (fun h => absurd h (by simp)) (fun _ => ?_))
  exact And.intro trivial (AVle.refl _)
end Go.Proofs.YtpfmfdioonjccaaGreatDoor
