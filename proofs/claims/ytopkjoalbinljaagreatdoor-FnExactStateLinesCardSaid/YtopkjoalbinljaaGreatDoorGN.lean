/- Lists of entries, of tombs; whether one holds: contracts; the conditions are the theorems' own. -/
import Derived.Test.YtopkjoalbinljaaGreatDoorGK
import Derived.Test.YtopkjoalbinljaaGreatDoorV33
set_option linter.unusedVariables false
set_option linter.unusedSimpArgs false
set_option maxRecDepth 20000
namespace Go.Proofs.YtopkjoalbinljaaGreatDoor
open Go Go.Vw

structure Tb where
  seq : Int
  key : List UInt8
  deriving Inhabited, DecidableEq
def Tb.row (e : Tb) : List AV := [.int .i64 e.seq, .str (B e.key)]
def Tb.av (e : Tb) : AV := .agg e.row
abbrev ents (L : List En) : AV := .sl 4 L.length fun i => (ix L i).row
abbrev tbs (L : List Tb) : AV := .sl 2 L.length fun i => (ix L i).row

theorem IndexEn_1 (L : List En) (hL : L.length ≤ 9223372036854775807) (F : Nat) (row : List AV) (p : En → Bool) (hp : ∀ e ∈ L, VFn Tryz.prog F [e.av, .eptr row 0] (.bool (p e))) :
    VFn Tryz.prog 158 [ents L, .fn (.func F) [] [.eptr row 0]] (.int .i64 (fi p L)) := by
  refine VFn.introC Tryz.call158 Tryz.func158 rfl rfl ?_
  refine LoopC.mk (fun i : Nat => i ≤ L.length ∧ ∀ j, j < i → p (ix L j) = false) (fun i => [(0, ents L), (1, .fn (.func F) [] [.eptr row 0]), (7, .int .i64 L.length), (8, .int .i64 i)]) (fun _ => []) 0 (fun i => L.length - i) 0
    ⟨⟨Nat.zero_le _, fun j hj => absurd hj (Nat.not_lt_zero j)⟩, [], rfl, rfl, ⟨AVle.refl _, AVle.refl _, AVle.refl _, AVle.refl _, trivial⟩, trivial⟩ ?_
  intro i hi
  refine Grd.intro (fun h2 => ?_) (fun h2 => ?_)
  · have hin : i < L.length := by have := of_decide_eq_true h2; omega
    refine And.intro (by omega) ?_
    conv => whnf
    refine CallC.sca _ (hp (ix L i) (getD_mem hin)) ?_ ?_
    · exact rfl
    refine Grd.intro (fun h3 => ?_) (fun h3 => ?_)
    · exact And.intro trivial (AVle.of_eq (congrArg (AV.int .i64) (fi_at hin hi.2 h3).symm))
    · refine And.intro (inI64 (by omega) (by omega)) ?_
      exact ⟨i + 1, ⟨hin, fun j hj => by
        rcases Nat.lt_or_ge j i with h' | h'
        · exact hi.2 j h'
        · rw [show j = i by omega]; exact h3⟩, by omega, [], rfl, rfl, ⟨AVle.refl _, AVle.refl _, AVle.refl _, AVle.of_eq (congrArg (AV.int .i64) (by simp)), trivial⟩, trivial⟩
  · have : i = L.length := by have := of_decide_eq_false h2; omega
    subst this
    exact And.intro trivial (AVle.of_eq (congrArg (AV.int .i64) (fi_none hi.2).symm))
theorem ContainsEn_1 (L : List En) (hL : L.length ≤ 9223372036854775807) (F : Nat) (row : List AV) (p : En → Bool) (hp : ∀ e ∈ L, VFn Tryz.prog F [e.av, .eptr row 0] (.bool (p e))) :
    VFn Tryz.prog 128 [ents L, .fn (.func F) [] [.eptr row 0]] (.bool (L.any p)) := by
  refine VFn.introC Tryz.call128 Tryz.func128 rfl rfl ?_
  conv => whnf
  refine CallC.sca _ (IndexEn_1 L hL F row p hp) ?_ ?_
  · exact rfl
  exact And.intro trivial (AVle.of_eq (congrArg AV.bool (show decide (0 ≤ fi p L) = _ from fi_any)))
theorem allEn1_fn (e : En) (G : Nat) (p : En → Bool) (hp : VFn Tryz.prog G [e.av] (.bool (p e))) : VFn Tryz.prog 129 [e.av, .eptr [.fn (.func G) [] []] 0] (.bool (!p e)) := by
  refine VFn.introC Tryz.call129 Tryz.func129 rfl rfl ?_
  conv => whnf
  refine CallC.sca _ (hp) ?_ ?_
  · exact rfl
  exact And.intro trivial (AVle.refl _)
theorem allEn_fn (L : List En) (hL : L.length ≤ 9223372036854775807) (G : Nat) (p : En → Bool) (hp : ∀ e ∈ L, VFn Tryz.prog G [e.av] (.bool (p e))) : VFn Tryz.prog 73 [ents L, .fn (.func G) [] []] (.bool (L.all p)) := by
  refine VFn.introC Tryz.call73 Tryz.func73 rfl rfl ?_
  conv => whnf
  refine CallC.sca _ (ContainsEn_1 L hL 129 [.fn (.func G) [] []] (fun e => !p e) (fun e he => allEn1_fn e G p (hp e he))) ?_ ?_
  · exact rfl
  exact And.intro trivial (AVle.of_eq (congrArg AV.bool (show (!L.any fun e => !p e) = _ by rw [Bool.eq_iff_iff]; simp)))
theorem l06In_fn (L : List (List UInt8)) (hL : L.length ≤ 9223372036854775807) (t : List UInt8) : VFn Tryz.prog 106 [txts L, .str (B t)] (.bool (decide (t ∈ L))) := by
  refine VFn.introC Tryz.call106 Tryz.func106 rfl rfl ?_
  refine LoopC.mk (fun i : Nat => i ≤ L.length ∧ ∀ j, j < i → ix L j ≠ t) (fun i => [(0, txts L), (1, .str (B t)), (5, .int .i64 i)]) (fun _ => []) 0 (fun i => L.length - i) 0
    ⟨⟨Nat.zero_le _, fun j hj => absurd hj (Nat.not_lt_zero j)⟩, [], rfl, rfl, ⟨AVle.refl _, AVle.refl _, AVle.refl _, trivial⟩, trivial⟩ ?_
  intro i hi
  refine Grd.intro (fun h2 => ?_) (fun h2 => ?_)
  · have hin : i < L.length := by have := of_decide_eq_true h2; omega
    refine And.intro (by omega) ?_
    refine Grd.intro (fun h3 => ?_) (fun h3 => ?_)
    · have h3 : ((B (ix L i)).toList == (B t).toList) = true := h3
      rw [B_eq] at h3
      have : t ∈ L := by rw [← of_decide_eq_true h3]; exact getD_mem hin
      exact And.intro trivial (AVle.of_eq (congrArg AV.bool (show true = _ by simp [this])))
    · have h3 : ((B (ix L i)).toList == (B t).toList) = false := h3
      rw [B_eq] at h3
      refine And.intro (inI64 (by omega) (by omega)) ?_
      exact ⟨i + 1, ⟨hin, fun j hj => by
        rcases Nat.lt_or_ge j i with h' | h'
        · exact hi.2 j h'
        · rw [show j = i by omega]; exact of_decide_eq_false h3⟩, by omega, [], rfl, rfl, ⟨AVle.refl _, AVle.refl _, AVle.of_eq (congrArg (AV.int .i64) (by simp)), trivial⟩, trivial⟩
  · have : i = L.length := by have := of_decide_eq_false h2; omega
    subst this
    have : t ∉ L := fun h => by
      obtain ⟨j, hj, e⟩ := List.getElem_of_mem h
      exact hi.2 j hj (by rw [ix_lt hj]; exact e)
    exact And.intro trivial (AVle.of_eq (congrArg AV.bool (show false = _ by simp [this])))
end Go.Proofs.YtopkjoalbinljaaGreatDoor
