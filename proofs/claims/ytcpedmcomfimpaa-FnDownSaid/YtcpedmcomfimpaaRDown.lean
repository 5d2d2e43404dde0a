/- laws.FnDown returns true for every input, and its arguments read as before. No condition. -/
import Derived.Test.YtcpedmcomfimpaaQ2
import Derived.Test.YtcpedmcomfimpaaRows
import Derived.ProofKit
import Derived.OpenShut
import Derived.ChangeOld
namespace Go.Proofs.Ytcpedmcomfimpaa
open Go Go.Vw Go.ChangeShapes Go.WideShapes Go.ChangeAt Go.RowKit
set_option linter.unusedVariables false
set_option linter.constructorNameAsVariable false
set_option linter.unusedSimpArgs false

theorem ownB : ownKnob Try.prog.godebug = none := by kernel_rfl
theorem laidOutB' : laidOutB Try.prog = true := by kernel_rfl

section
variable {H : Type} {enc : TypeId × Value → H} {w : World}
theorem rd_u8 : Rd enc Try.prog w 5 (fun l => ∃ c : UInt8, l = [.int .u8 ((c.toNat : Nat) : Int)]) := (Rd.int Try.underlying5).weak fun l h => by
  obtain ⟨n, rfl, h1, h2⟩ := h
  have h1 : 0 ≤ n := h1
  have h2 : n ≤ 255 := h2
  exact ⟨UInt8.ofNat n.toNat, by rw [show (((UInt8.ofNat n.toNat).toNat : Nat) : Int) = n by simp; omega]⟩
theorem rd_bytes : Rd enc Try.prog w 22 (fun l => ∃ L : List UInt8, l = [byts L] ∧ L.length ≤ maxLen) := Rd.list (f := fun c : UInt8 => [.int .u8 ((c.toNat : Nat) : Int)]) Try.underlying22 (by kernel_rfl) (by decide) rd_u8
end

set_option maxRecDepth 100000 in
theorem liftedDown (os : Os) (started : os.Started) (H : Type) (enc : TypeId × Value → H) :
    ReturnsInHanded {} Try.checked os 3 .any (Rows.fnDownSpec.pre6 enc Try.prog Try.f3 Rows.fnDownRow.domain false) (Rows.fnDownSpec.post enc Try.prog Try.f3 false true false false) := by
  refine returnsInHanded_of_change (C := Try.checked) ownB started (by kernel_rfl) Try.func3
    (ChangeSpec.witness6 (enc := enc) (C := Try.checked) false ⟨#[], #[.slice none 0 0, .slice none 0 0], []⟩ 8 (by kernel_rfl) (by kernel_rfl) (by kernel_rfl) (by kernel_rfl)) ?_
  intro W base args ds gs before hval0 hW hcnd _
  have hval : ∀ (j : Nat) t v, Try.f3.params[j]? = some t → args[j]? = some v → Value.okWide Try.prog W .any base t v := hval0
  have hW' := hW
  obtain ⟨p, q, hA0, hV, rfl, hfz, hnd⟩ := hW
  have hA : DataW.TrodAll enc Try.prog W 0 (fun _ => true) true Try.f3.params.toList args.toList ds p := hA0
  rw [Try.params3] at hA hval
  obtain ⟨v0, vs0, d0, ds0, p0, q0, hargs, rfl, rfl, h0, r0⟩ := trodAll_cons hA
  obtain ⟨v1, vs1, d1, ds1, p1, q1, rfl, rfl, rfl, h1, r1⟩ := trodAll_cons r0
  obtain ⟨rfl, rfl, rfl⟩ := trodAll_nil r1
  obtain rfl : args = #[v0, v1] := by cases args; simp_all
  obtain ⟨rfl, rfl⟩ := trodVars_none hV
  obtain ⟨a0, len0, cap0, rfl⟩ := okWide_slice Try.underlying22 (hval 0 22 v0 rfl rfl)
  obtain ⟨a1, len1, cap1, rfl⟩ := okWide_slice Try.underlying22 (hval 1 22 v1 rfl rfl)
  have lt0 : ∀ x ∈ p0, x.block < W.heap.size := by obtain ⟨m, hm⟩ := h0; exact DataW.trod_lt m _ _ _ hm
  have lt1 : ∀ x ∈ p1, x.block < W.heap.size := by obtain ⟨m, hm⟩ := h1; exact DataW.trod_lt m _ _ _ hm
  obtain ⟨_, ⟨x0, rfl, b0⟩, e0⟩ := rd_bytes.arg1 h0
  have g0 := arg_one (fun _ h => by cases h) e0
  obtain ⟨_, ⟨x1, rfl, b1⟩, e1⟩ := rd_bytes.arg1 h1
  have g1 := arg_one (fun _ h => by cases h) e1
  clear hA0 hval0
  refine ((law_Down x0 (by have := b0; unfold maxLen at this; omega) x1 (by have := b1; unfold maxLen at this; omega)).calls W (fun b => b < W.heap.size) [_, _] trivial (fun b h => h) ⟨_, _, rfl, g0, _, _, rfl, g1, rfl⟩).mono fun e W' ⟨v, he, fr, hv⟩ => ?_
  subst he
  have hv' : v = .bool true := hv
  subst hv'
  have bel := fr.below
  exact ⟨_, rfl, _, _, _, [], _, [], hW', trodAll_mk1 (shut_bool Try.underlying4 _), (trodAll_cons_mk (Below.trod laidOutB' (by kernel_rfl) (of_decide_eq_true (by kernel_rfl)) h0 bel lt0) (trodAll_cons_mk (Below.trod laidOutB' (by kernel_rfl) (of_decide_eq_true (by kernel_rfl)) h1 bel lt1) trodAll_mk0)), rfl, bel.frame _, fun h => by cases h⟩

theorem provedDown : Rows.FnDownSaid :=
  OpenClaim.holds_of_wide 3 Try.f3 rfl rfl rfl rfl rfl rfl rfl ⟨rfl, rfl, rfl, rfl, rfl⟩ rfl rfl rfl rfl rfl (by kernel_rfl) Try.func3 (by kernel_rfl)
    (of_decide_eq_true (by kernel_rfl)) (by unfold Func.isWrapper; first | (rw [if_pos (by decide +kernel)]; kernel_rfl) | (rw [if_neg (by decide +kernel)]; exact ⟨rfl, rfl⟩))
    (fun os started H enc _ => liftedDown os started H enc)
#print axioms provedDown
end Go.Proofs.Ytcpedmcomfimpaa
