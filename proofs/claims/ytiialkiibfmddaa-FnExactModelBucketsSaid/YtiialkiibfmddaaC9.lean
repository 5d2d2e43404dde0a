/- laws.FnExactModelBuckets returns true for every input, and its arguments read as before. No condition. -/
import Derived.Test.YtiialkiibfmddaaC8
import Derived.Test.YtiialkiibfmddaaRows
import Derived.ProofKit
import Derived.OpenShut
import Derived.ChangeOld
set_option linter.unusedVariables false
set_option linter.unusedSimpArgs false
set_option linter.unusedSectionVars false
namespace Go.Proofs.Ytiialkiibfmddaa
open Go Go.Vw Go.ChangeShapes Go.WideShapes Go.ChangeAt Go.RowKit

theorem ownB : ownKnob Try.prog.godebug = none := by kernel_rfl
theorem laidOutB' : laidOutB Try.prog = true := by kernel_rfl

section
variable {H : Type} {enc : TypeId × Value → H} {w : World}
theorem rdB_int : Rd enc Try.prog w 3 (fun l => ∃ n, l = [.int .i64 n] ∧ IntKind.i64.min ≤ n ∧ n ≤ IntKind.i64.max) := Rd.int Try.underlying3
theorem rdB_sample : Rd enc Try.prog w 52 (fun l => ∃ t v, l = [.int .i64 t, .int .i64 v]) :=
  (Rd.struct Try.underlying52 (by kernel_rfl) (.cons rdB_int (.cons rdB_int .nil))).weak fun l h => by
    obtain ⟨_, _, rfl, ⟨t, rfl, _⟩, _, _, rfl, ⟨v, rfl, _⟩, rfl⟩ := h
    exact ⟨t, v, rfl⟩
def fstB : List AV → Int
  | .int _ t :: _ => t
  | _ => 0
def sndB : List AV → Int
  | _ :: .int _ t :: _ => t
  | _ => 0
theorem rdB_samples : Rd enc Try.prog w 22 (fun l => ∃ n T V, l = [smp T V n] ∧ (n : Int) ≤ 9223372036854775807) :=
  (Rd.slice Try.underlying22 (show Try.prog.cellsOf 52 = 2 by kernel_rfl) (by decide) rdB_sample).le fun l h => by
    obtain ⟨n, rows, rfl, hn, hr⟩ := h
    refine ⟨[smp (fun i => fstB (rows i)) (fun i => sndB (rows i)) n], ⟨n, _, _, rfl, ?_⟩, AVsle.cons (AVle.sl rfl fun i hi => ?_) AVsle.nil⟩
    · unfold maxLen at hn; omega
    · obtain ⟨t, v, e⟩ := hr i hi
      dsimp only; rw [e]; rfl
end

set_option maxRecDepth 100000 in
theorem liftedB (os : Os) (started : os.Started) (H : Type) (enc : TypeId × Value → H) :
    ReturnsInHanded {} Try.checked os 5 .any (Rows.fnExactModelBucketsSpec.pre6 enc Try.prog Try.f5 Rows.fnExactModelBucketsRow.domain false) (Rows.fnExactModelBucketsSpec.post enc Try.prog Try.f5 false true false false) := by
  refine returnsInHanded_of_change (C := Try.checked) ownB started (by kernel_rfl) Try.func5
    (ChangeSpec.witness6 (enc := enc) (C := Try.checked) false ⟨#[], #[.slice none 0 0, .int .i64 0, .int .i64 0, .int .i64 0], []⟩ 8 (by kernel_rfl) (by kernel_rfl) (by kernel_rfl) (by kernel_rfl)) ?_
  intro W base args ds gs before hval0 hW hcnd _
  have hval : ∀ (j : Nat) t v, Try.f5.params[j]? = some t → args[j]? = some v → Value.okWide Try.prog W .any base t v := hval0
  have hW' := hW
  obtain ⟨p, q, hA0, hV, rfl, hfz, hnd⟩ := hW
  have hA : DataW.TrodAll enc Try.prog W 0 (fun _ => true) true Try.f5.params.toList args.toList ds p := hA0
  rw [Try.params5] at hA hval
  obtain ⟨v0, vs0, d0, ds0, p0, q0, hargs, rfl, rfl, h0, r0⟩ := trodAll_cons hA
  obtain ⟨v1, vs1, d1, ds1, p1, q1, rfl, rfl, rfl, h1, r1⟩ := trodAll_cons r0
  obtain ⟨v2, vs2, d2, ds2, p2, q2, rfl, rfl, rfl, h2, r2⟩ := trodAll_cons r1
  obtain ⟨v3, vs3, d3, ds3, p3, q3, rfl, rfl, rfl, h3, r3⟩ := trodAll_cons r2
  obtain ⟨rfl, rfl, rfl⟩ := trodAll_nil r3
  obtain rfl : args = #[v0, v1, v2, v3] := by cases args; simp_all
  obtain ⟨rfl, rfl⟩ := trodVars_none hV
  obtain ⟨a0, len0, cap0, rfl⟩ := okWide_slice Try.underlying22 (hval 0 22 v0 rfl rfl)
  obtain ⟨n1, rfl⟩ := okWide_int Try.underlying3 (hval 1 3 v1 rfl rfl)
  obtain ⟨n2, rfl⟩ := okWide_int Try.underlying3 (hval 2 3 v2 rfl rfl)
  obtain ⟨n3, rfl⟩ := okWide_int Try.underlying3 (hval 3 3 v3 rfl rfl)
  have lt0 : ∀ x ∈ p0, x.block < W.heap.size := by obtain ⟨m, hm⟩ := h0; exact DataW.trod_lt m _ _ _ hm
  have lt1 : ∀ x ∈ p1, x.block < W.heap.size := by obtain ⟨m, hm⟩ := h1; exact DataW.trod_lt m _ _ _ hm
  have lt2 : ∀ x ∈ p2, x.block < W.heap.size := by obtain ⟨m, hm⟩ := h2; exact DataW.trod_lt m _ _ _ hm
  have lt3 : ∀ x ∈ p3, x.block < W.heap.size := by obtain ⟨m, hm⟩ := h3; exact DataW.trod_lt m _ _ _ hm
  obtain ⟨_, ⟨n, T, V, rfl, hn⟩, e0⟩ := rdB_samples.arg1 h0
  clear hA0 hval0
  refine ((buckets_law T V n n1 n2 n3 hn).2 W (fun b => b < W.heap.size) [_, _, _, _] (fun b h => h) ⟨_, _, rfl, arg_one (fun _ h => by cases h) e0, _, _, rfl, rfl, _, _, rfl, rfl, _, _, rfl, rfl, rfl⟩).mono fun e W' ⟨v, he, fr, hv⟩ => ?_
  subst he
  have hv' : v = .bool true := hv
  subst hv'
  have bel := fr.below
  exact ⟨_, rfl, _, _, _, [], _, [], hW', trodAll_mk1 (shut_bool Try.underlying4 _), (trodAll_cons_mk (Below.trod laidOutB' (by kernel_rfl) (of_decide_eq_true (by kernel_rfl)) h0 bel lt0) (trodAll_cons_mk (Below.trod laidOutB' (by kernel_rfl) (of_decide_eq_true (by kernel_rfl)) h1 bel lt1) (trodAll_cons_mk (Below.trod laidOutB' (by kernel_rfl) (of_decide_eq_true (by kernel_rfl)) h2 bel lt2) (trodAll_cons_mk (Below.trod laidOutB' (by kernel_rfl) (of_decide_eq_true (by kernel_rfl)) h3 bel lt3) trodAll_mk0)))), rfl, bel.frame _, fun h => by cases h⟩

theorem provedB : Rows.FnExactModelBucketsSaid :=
  OpenClaim.holds_of_wide 5 Try.f5 rfl rfl rfl rfl rfl rfl rfl ⟨rfl, rfl, rfl, rfl, rfl⟩ rfl rfl rfl rfl rfl (by kernel_rfl) Try.func5 (by kernel_rfl)
    (of_decide_eq_true (by kernel_rfl)) (by unfold Func.isWrapper; first | (rw [if_pos (by decide +kernel)]; kernel_rfl) | (rw [if_neg (by decide +kernel)]; exact ⟨rfl, rfl⟩))
    (fun os started H enc _ => liftedB os started H enc)
#print axioms provedB
end Go.Proofs.Ytiialkiibfmddaa
