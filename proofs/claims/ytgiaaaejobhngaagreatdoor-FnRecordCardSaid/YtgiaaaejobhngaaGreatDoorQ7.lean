/- Contracts of functions that the claim reaches, and the plain law of what they compute; each theorem bears its own conditions. -/
import Derived.Test.YtgiaaaejobhngaaGreatDoorQ1
import Derived.Test.YtgiaaaejobhngaaGreatDoorV46
set_option linter.unusedVariables false
set_option linter.constructorNameAsVariable false
set_option linter.unusedSimpArgs false
set_option maxRecDepth 20000
namespace Go.Proofs.YtgiaaaejobhngaaGreatDoor
open Go Go.Vw

theorem IndexStr_1 (L : List (List UInt8)) (hL : L.length ≤ 9223372036854775807) (F : Nat) (row : List AV) (p : List UInt8 → Bool) (hp : ∀ e ∈ L, VFn Tryz.prog F [.str (B e), .eptr row 0] (.bool (p e))) :
    VFn Tryz.prog 248 [txts L, .fn (.func F) [] [.eptr row 0]] (.int .i64 (fi p L)) := by
  refine VFn.introC Tryz.call248 Tryz.func248 rfl rfl ?_
  refine LoopC.mk (fun i : Nat => i ≤ L.length ∧ ∀ j, j < i → p (ix L j) = false) (fun i => [(0, txts L), (1, .fn (.func F) [] [.eptr row 0]), (7, .int .i64 L.length), (8, .int .i64 i)]) (fun _ => []) 0 (fun i => L.length - i) 0
    ⟨⟨Nat.zero_le _, fun j hj => absurd hj (Nat.not_lt_zero j)⟩, [], rfl, rfl, ⟨AVle.refl _, AVle.refl _, AVle.refl _, AVle.refl _, trivial⟩, trivial⟩ ?_
  intro i hi
  refine Grd.intro (fun h2 => ?_) (fun h2 => ?_)
  · have hin : i < L.length := by have := of_decide_eq_true h2; omega
    refine And.intro (by omega) ?_
    conv => whnf
    refine CallC.sca _ (hp (ix L i) (getD_mem hin)) ?_ ?_
    · exact rfl
    refine Grd.intro (fun h3 => ?_) (fun h3 => ?_)
    · exact And.intro trivial (AVle.of_eq (congrArg (AV.int .i64) (fi_at hin hi.2 h3).symm))
    · refine And.intro (inI64 (by omega) (by omega)) ?_
      exact ⟨i + 1, ⟨hin, fun j hj => by
        rcases Nat.lt_or_ge j i with h' | h'
        · exact hi.2 j h'
        · rw [show j = i by omega]; exact h3⟩, by omega, [], rfl, rfl, ⟨AVle.refl _, AVle.refl _, AVle.refl _, AVle.of_eq (congrArg (AV.int .i64) (by simp)), trivial⟩, trivial⟩
  · have : i = L.length := by have := of_decide_eq_false h2; omega
    subst this
    exact And.intro trivial (AVle.of_eq (congrArg (AV.int .i64) (fi_none hi.2).symm))
theorem ContainsStr_1 (L : List (List UInt8)) (hL : L.length ≤ 9223372036854775807) (F : Nat) (row : List AV) (p : List UInt8 → Bool) (hp : ∀ e ∈ L, VFn Tryz.prog F [.str (B e), .eptr row 0] (.bool (p e))) :
    VFn Tryz.prog 214 [txts L, .fn (.func F) [] [.eptr row 0]] (.bool (L.any p)) := by
  refine VFn.introC Tryz.call214 Tryz.func214 rfl rfl ?_
  conv => whnf
  refine CallC.sca _ (IndexStr_1 L hL F row p hp) ?_ ?_
  · exact rfl
  exact And.intro trivial (AVle.of_eq (congrArg AV.bool (show decide (0 ≤ fi p L) = _ from fi_any)))
theorem allStr1_fn (e : List UInt8) (G : Nat) (p : List UInt8 → Bool) (hp : VFn Tryz.prog G [.str (B e)] (.bool (p e))) : VFn Tryz.prog 215 [.str (B e), .eptr [.fn (.func G) [] []] 0] (.bool (!p e)) := by
  refine VFn.introC Tryz.call215 Tryz.func215 rfl rfl ?_
  conv => whnf
  refine CallC.sca _ (hp) ?_ ?_
  · exact rfl
  exact And.intro trivial (AVle.refl _)
theorem allStr_fn (L : List (List UInt8)) (hL : L.length ≤ 9223372036854775807) (G : Nat) (p : List UInt8 → Bool) (hp : ∀ e ∈ L, VFn Tryz.prog G [.str (B e)] (.bool (p e))) : VFn Tryz.prog 155 [txts L, .fn (.func G) [] []] (.bool (L.all p)) := by
  refine VFn.introC Tryz.call155 Tryz.func155 rfl rfl ?_
  conv => whnf
  refine CallC.sca _ (ContainsStr_1 L hL 215 [.fn (.func G) [] []] (fun e => !p e) (fun e he => allStr1_fn e G p (hp e he))) ?_ ?_
  · exact rfl
  exact And.intro trivial (AVle.of_eq (congrArg AV.bool (show (!L.any fun e => !p e) = _ by rw [Bool.eq_iff_iff]; simp)))
theorem isLong1_fn (t : List UInt8) : VFn Tryz.prog 156 [.str (B t)] (.bool (decide (t.length ≤ 65536))) := by
  refine VFn.introC Tryz.call156 Tryz.func156 rfl rfl ?_
  exact And.intro trivial (AVle.of_eq (congrArg AV.bool (show decide (((B t).size : Int) ≤ 65536) = _ by rw [B_size]; exact decide_eq_decide.2 (by omega))))
theorem isLong_fn (L : List (List UInt8)) (hL : L.length ≤ 9223372036854775807) : VFn Tryz.prog 77 [txts L] (.bool (!L.all fun t => decide (t.length ≤ 65536))) := by
  refine VFn.introC Tryz.call77 Tryz.func77 rfl rfl ?_
  conv => whnf
  refine CallC.sca _ (allStr_fn L hL 156 (fun t => decide (t.length ≤ 65536)) (fun t _ => isLong1_fn t)) ?_ ?_
  · exact rfl
  exact And.intro trivial (AVle.refl _)
end Go.Proofs.YtgiaaaejobhngaaGreatDoor
