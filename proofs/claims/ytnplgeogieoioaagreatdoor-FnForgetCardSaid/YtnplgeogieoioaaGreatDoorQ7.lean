/- Contracts of functions that the claim reaches, and the plain law of what they compute; each theorem bears its own conditions. -/
import Derived.Test.YtnplgeogieoioaaGreatDoorQ6
import Derived.Test.YtnplgeogieoioaaGreatDoorQ3
import Derived.Test.YtnplgeogieoioaaGreatDoorQ5
import Derived.Test.YtnplgeogieoioaaGreatDoorQ2
import Derived.Test.YtnplgeogieoioaaGreatDoorQ4
import Derived.Test.YtnplgeogieoioaaGreatDoorV52
import Derived.Test.YtnplgeogieoioaaGreatDoorQ1
set_option linter.unusedVariables false
set_option linter.constructorNameAsVariable false
set_option linter.unusedSimpArgs false
set_option maxRecDepth 20000
namespace Go.Proofs.YtnplgeogieoioaaGreatDoor
open Go Go.Vw
abbrev nums (L : List Int) : AV := .sl 1 L.length fun i => [.int .i64 (ix L i)]
theorem isId0 (n : Int) : VFn Tryz.prog 104 [.int .i64 n] (.bool (within n 0 9)) := by
 refine VFn.introC Tryz.call104 Tryz.func104 rfl rfl ?_
 conv => whnf
 refine CallC.sca _ (within_fn _ _ _) ?_ ?_
 · exact rfl
 exact And.intro trivial (AVle.refl _)
theorem isUntil0 (n : Int) : VFn Tryz.prog 106 [.int .i64 n] (.bool (within n 0 200000)) := by
 refine VFn.introC Tryz.call106 Tryz.func106 rfl rfl ?_
 conv => whnf
 refine CallC.sca _ (within_fn _ _ _) ?_ ?_
 · exact rfl
 exact And.intro trivial (AVle.refl _)
theorem isCode0 (n : Int) : VFn Tryz.prog 107 [.int .i64 n] (.bool (within n 0 19)) := by
 refine VFn.introC Tryz.call107 Tryz.func107 rfl rfl ?_
 conv => whnf
 refine CallC.sca _ (within_fn _ _ _) ?_ ?_
 · exact rfl
 exact And.intro trivial (AVle.refl _)
def gotOK (a : Ag) : Bool := a.ok && decide (a.c ≤ 1000)
theorem isGot_fn (a : Ag) : VFn Tryz.prog 105 [a.av] (.bool (gotOK a)) := by
 refine VFn.introC Tryz.call105 Tryz.func105 rfl rfl ?_
 repeat' (conv => whnf
          first
           | (refine Grd.intro (fun h => ?_) (fun h => ?_); rotate_left; focus (exfalso; simp_all; done))
           | (refine Grd.intro (fun h => ?_) (fun h => ?_); focus (exfalso; simp_all; done))
           | refine Grd.intro (fun h => ?_) (fun h => ?_)
           | (refine CallC.sca _ (AggOK_fn a) ?_ ?_; focus (exact rfl))
           | (refine And.intro trivial (AVle.of_eq (congrArg AV.bool ?_)); focus (simp_all [gotOK]; done))
           | (refine And.intro trivial (AVle.of_eq (congrArg AV.bool ?_)); focus (simp only [gotOK, *, cond_true, cond_false, Bool.true_and, Bool.and_true, Bool.false_and, Bool.and_false, Bool.not_true, Bool.not_false, Bool.true_or, Bool.or_true, Bool.false_or, Bool.or_false, if_true, ite_true, reduceIte]; done))
           | (refine And.intro trivial (AVle.of_eq (congrArg AV.bool ?_)); focus (simp_all [gotOK]; intros; omega))
           | (refine And.intro trivial (AVle.of_eq (congrArg AV.bool ?_)); focus (simp only [cond_true, cond_false, Bool.not_eq_true', Bool.not_eq_false'] at *; simp only [gotOK, *, cond_true, cond_false, Bool.true_and, Bool.and_true, Bool.false_and, Bool.and_false, Bool.not_true, Bool.not_false, Bool.true_or, Bool.or_true, Bool.false_or, Bool.or_false, if_true, ite_true, reduceIte]; done))
           | fail)
def An.ok (a : An) : Bool := within a.tier 0 2 && (isRange a.f a.t && (within a.code 0 19 && a.a.ok))
theorem answerOK_fn (a : An) : VFn Tryz.prog 55 [a.av] (.bool a.ok) := by
 refine VFn.introC Tryz.call55 Tryz.func55 rfl rfl ?_
 repeat' (conv => whnf
          first
           | (refine Grd.intro (fun h => ?_) (fun h => ?_); rotate_left; focus (exfalso; simp_all; done))
           | (refine Grd.intro (fun h => ?_) (fun h => ?_); focus (exfalso; simp_all; done))
           | refine Grd.intro (fun h => ?_) (fun h => ?_)
           | (refine CallC.sca _ (isTier_fn a.tier) ?_ ?_; focus (exact rfl))
           | (refine CallC.sca _ (isRange_fn a.f a.t) ?_ ?_; focus (exact rfl))
           | (refine CallC.sca _ (isCode0 a.code) ?_ ?_; focus (exact rfl))
           | (refine CallC.sca _ (AggOK_fn a.a) ?_ ?_; focus (exact rfl))
           | (refine And.intro trivial (AVle.of_eq (congrArg AV.bool ?_)); focus (simp_all [An.ok]; done))
           | (refine And.intro trivial (AVle.of_eq (congrArg AV.bool ?_)); focus (simp only [An.ok, *, cond_true, cond_false, Bool.true_and, Bool.and_true, Bool.false_and, Bool.and_false, Bool.not_true, Bool.not_false, Bool.true_or, Bool.or_true, Bool.false_or, Bool.or_false, if_true, ite_true, reduceIte]; done))
           | (refine And.intro trivial (AVle.of_eq (congrArg AV.bool ?_)); focus (simp_all [An.ok]; intros; omega))
           | (refine And.intro trivial (AVle.of_eq (congrArg AV.bool ?_)); focus (simp only [cond_true, cond_false, Bool.not_eq_true', Bool.not_eq_false'] at *; simp only [An.ok, *, cond_true, cond_false, Bool.true_and, Bool.and_true, Bool.false_and, Bool.and_false, Bool.not_true, Bool.not_false, Bool.true_or, Bool.or_true, Bool.false_or, Bool.or_false, if_true, ite_true, reduceIte]; done))
           | fail)
theorem IndexAn_1 (L : List An) (hL : L.length ≤ 9223372036854775807) (F : Nat) (row : List AV) (p : An → Bool) (hp : ∀ e ∈ L, VFn Tryz.prog F [e.av, .eptr row 0] (.bool (p e))) :
 VFn Tryz.prog 169 [ans L, .fn (.func F) [] [.eptr row 0]] (.int .i64 (fi p L)) := by
 refine VFn.introC Tryz.call169 Tryz.func169 rfl rfl ?_
 refine LoopC.mk (fun i : Nat => i ≤ L.length ∧ ∀ j, j < i → p (ix L j) = false) (fun i => [(0, ans L), (1, .fn (.func F) [] [.eptr row 0]), (7, .int .i64 L.length), (8, .int .i64 i)]) (fun _ => []) 0 (fun i => L.length - i) 0
  ⟨⟨Nat.zero_le _, fun j hj => absurd hj (Nat.not_lt_zero j)⟩, [], rfl, rfl, ⟨AVle.refl _, AVle.refl _, AVle.refl _, AVle.refl _, trivial⟩, trivial⟩ ?_
 intro i hi
 refine Grd.intro (fun h2 => ?_) (fun h2 => ?_)
 · have hin : i < L.length := by have := of_decide_eq_true h2; omega
   refine And.intro (by omega) ?_
   conv => whnf
   refine CallC.sca _ (hp (ix L i) (getD_mem hin)) ?_ ?_
   · exact rfl
   refine Grd.intro (fun h3 => ?_) (fun h3 => ?_)
   · exact And.intro trivial (AVle.of_eq (congrArg (AV.int .i64) (fi_at hin hi.2 h3).symm))
   · refine And.intro (inI64 (by omega) (by omega)) ?_
     exact ⟨i + 1, ⟨hin, fun j hj => by
      rcases Nat.lt_or_ge j i with h' | h'
      · exact hi.2 j h'
      · rw [show j = i by omega]; exact h3⟩, by omega, [], rfl, rfl, ⟨AVle.refl _, AVle.refl _, AVle.refl _, AVle.of_eq (congrArg (AV.int .i64) (by simp)), trivial⟩, trivial⟩
 · have : i = L.length := by have := of_decide_eq_false h2; omega
   subst this
   exact And.intro trivial (AVle.of_eq (congrArg (AV.int .i64) (fi_none hi.2).symm))
theorem ContainsAn_1 (L : List An) (hL : L.length ≤ 9223372036854775807) (F : Nat) (row : List AV) (p : An → Bool) (hp : ∀ e ∈ L, VFn Tryz.prog F [e.av, .eptr row 0] (.bool (p e))) :
 VFn Tryz.prog 112 [ans L, .fn (.func F) [] [.eptr row 0]] (.bool (L.any p)) := by
 refine VFn.introC Tryz.call112 Tryz.func112 rfl rfl ?_
 conv => whnf
 refine CallC.sca _ (IndexAn_1 L hL F row p hp) ?_ ?_
 · exact rfl
 exact And.intro trivial (AVle.of_eq (congrArg AV.bool (show decide (0 ≤ fi p L) = _ from fi_any)))
theorem allAn1_fn (e : An) (G : Nat) (p : An → Bool) (hp : VFn Tryz.prog G [e.av] (.bool (p e))) : VFn Tryz.prog 113 [e.av, .eptr [.fn (.func G) [] []] 0] (.bool (!p e)) := by
 refine VFn.introC Tryz.call113 Tryz.func113 rfl rfl ?_
 conv => whnf
 refine CallC.sca _ (hp) ?_ ?_
 · exact rfl
 exact And.intro trivial (AVle.refl _)
theorem allAn_fn (L : List An) (hL : L.length ≤ 9223372036854775807) (G : Nat) (p : An → Bool) (hp : ∀ e ∈ L, VFn Tryz.prog G [e.av] (.bool (p e))) : VFn Tryz.prog 54 [ans L, .fn (.func G) [] []] (.bool (L.all p)) := by
 refine VFn.introC Tryz.call54 Tryz.func54 rfl rfl ?_
 conv => whnf
 refine CallC.sca _ (ContainsAn_1 L hL 113 [.fn (.func G) [] []] (fun e => !p e) (fun e he => allAn1_fn e G p (hp e he))) ?_ ?_
 · exact rfl
 exact And.intro trivial (AVle.of_eq (congrArg AV.bool (show (!L.any fun e => !p e) = _ by rw [Bool.eq_iff_iff]; simp)))
theorem IndexIn_1 (L : List Int) (hL : L.length ≤ 9223372036854775807) (F : Nat) (row : List AV) (p : Int → Bool) (hp : ∀ e ∈ L, VFn Tryz.prog F [.int .i64 e, .eptr row 0] (.bool (p e))) :
 VFn Tryz.prog 168 [nums L, .fn (.func F) [] [.eptr row 0]] (.int .i64 (fi p L)) := by
 refine VFn.introC Tryz.call168 Tryz.func168 rfl rfl ?_
 refine LoopC.mk (fun i : Nat => i ≤ L.length ∧ ∀ j, j < i → p (ix L j) = false) (fun i => [(0, nums L), (1, .fn (.func F) [] [.eptr row 0]), (7, .int .i64 L.length), (8, .int .i64 i)]) (fun _ => []) 0 (fun i => L.length - i) 0
  ⟨⟨Nat.zero_le _, fun j hj => absurd hj (Nat.not_lt_zero j)⟩, [], rfl, rfl, ⟨AVle.refl _, AVle.refl _, AVle.refl _, AVle.refl _, trivial⟩, trivial⟩ ?_
 intro i hi
 refine Grd.intro (fun h2 => ?_) (fun h2 => ?_)
 · have hin : i < L.length := by have := of_decide_eq_true h2; omega
   refine And.intro (by omega) ?_
   conv => whnf
   refine CallC.sca _ (hp (ix L i) (getD_mem hin)) ?_ ?_
   · exact rfl
   refine Grd.intro (fun h3 => ?_) (fun h3 => ?_)
   · exact And.intro trivial (AVle.of_eq (congrArg (AV.int .i64) (fi_at hin hi.2 h3).symm))
   · refine And.intro (inI64 (by omega) (by omega)) ?_
     exact ⟨i + 1, ⟨hin, fun j hj => by
      rcases Nat.lt_or_ge j i with h' | h'
      · exact hi.2 j h'
      · rw [show j = i by omega]; exact h3⟩, by omega, [], rfl, rfl, ⟨AVle.refl _, AVle.refl _, AVle.refl _, AVle.of_eq (congrArg (AV.int .i64) (by simp)), trivial⟩, trivial⟩
 · have : i = L.length := by have := of_decide_eq_false h2; omega
   subst this
   exact And.intro trivial (AVle.of_eq (congrArg (AV.int .i64) (fi_none hi.2).symm))
theorem ContainsIn_1 (L : List Int) (hL : L.length ≤ 9223372036854775807) (F : Nat) (row : List AV) (p : Int → Bool) (hp : ∀ e ∈ L, VFn Tryz.prog F [.int .i64 e, .eptr row 0] (.bool (p e))) :
 VFn Tryz.prog 102 [nums L, .fn (.func F) [] [.eptr row 0]] (.bool (L.any p)) := by
 refine VFn.introC Tryz.call102 Tryz.func102 rfl rfl ?_
 conv => whnf
 refine CallC.sca _ (IndexIn_1 L hL F row p hp) ?_ ?_
 · exact rfl
 exact And.intro trivial (AVle.of_eq (congrArg AV.bool (show decide (0 ≤ fi p L) = _ from fi_any)))
theorem allIn1_fn (e : Int) (G : Nat) (p : Int → Bool) (hp : VFn Tryz.prog G [.int .i64 e] (.bool (p e))) : VFn Tryz.prog 103 [.int .i64 e, .eptr [.fn (.func G) [] []] 0] (.bool (!p e)) := by
 refine VFn.introC Tryz.call103 Tryz.func103 rfl rfl ?_
 conv => whnf
 refine CallC.sca _ (hp) ?_ ?_
 · exact rfl
 exact And.intro trivial (AVle.refl _)
theorem allIn_fn (L : List Int) (hL : L.length ≤ 9223372036854775807) (G : Nat) (p : Int → Bool) (hp : ∀ e ∈ L, VFn Tryz.prog G [.int .i64 e] (.bool (p e))) : VFn Tryz.prog 47 [nums L, .fn (.func G) [] []] (.bool (L.all p)) := by
 refine VFn.introC Tryz.call47 Tryz.func47 rfl rfl ?_
 conv => whnf
 refine CallC.sca _ (ContainsIn_1 L hL 103 [.fn (.func G) [] []] (fun e => !p e) (fun e he => allIn1_fn e G p (hp e he))) ?_ ?_
 · exact rfl
 exact And.intro trivial (AVle.of_eq (congrArg AV.bool (show (!L.any fun e => !p e) = _ by rw [Bool.eq_iff_iff]; simp)))
theorem allEnC1_fn (e : En) (G : Nat) (row : List AV) (p : En → Bool) (hp : VFn Tryz.prog G [e.av, .eptr row 0] (.bool (p e))) : VFn Tryz.prog 135 [e.av, .eptr [.fn (.func G) [] [.eptr row 0]] 0] (.bool (!p e)) := by
 refine VFn.introC Tryz.call135 Tryz.func135 rfl rfl ?_
 conv => whnf
 refine CallC.sca _ (hp) ?_ ?_
 · exact rfl
 exact And.intro trivial (AVle.refl _)
theorem allEnC_fn (L : List En) (hL : L.length ≤ 9223372036854775807) (G : Nat) (row : List AV) (p : En → Bool) (hp : ∀ e ∈ L, VFn Tryz.prog G [e.av, .eptr row 0] (.bool (p e))) : VFn Tryz.prog 66 [ents L, .fn (.func G) [] [.eptr row 0]] (.bool (L.all p)) := by
 refine VFn.introC Tryz.call66 Tryz.func66 rfl rfl ?_
 conv => whnf
 refine CallC.sca _ (ContainsEn_1 L hL 135 [.fn (.func G) [] [.eptr row 0]] (fun e => !p e) (fun e he => allEnC1_fn e G row p (hp e he))) ?_ ?_
 · exact rfl
 exact And.intro trivial (AVle.of_eq (congrArg AV.bool (show (!L.any fun e => !p e) = _ by rw [Bool.eq_iff_iff]; simp)))
theorem isLongAn_fn (L : List An) : VFn Tryz.prog 53 [ans L] (.bool (decide (4096 < L.length))) := by
 refine VFn.introC Tryz.call53 Tryz.func53 rfl rfl ?_
 exact And.intro trivial (AVle.of_eq (congrArg AV.bool (decide_eq_decide.2 (by omega))))
def Wk.ok (w : Wk) : Bool := within w.id 0 9 && (within w.ph 0 7 && (within w.tok 0 999999 && (!(decide (2 ≤ w.ph) && decide (w.tok = 0)) && ((!within w.ph 4 6 || (w.job.ok && (decide (w.job.tok = w.tok) && (decide (w.job.k = 3) || (decide (w.ph = 6) && decide (w.job.k = 4)))))) && (decide ((w.ins.length : Int) ≤ 300) && (w.ins.all En.ok && gotOK w.got))))))
theorem WorkerOK_fn (w : Wk) (h : w.ins.length ≤ 1048576) : VFn Tryz.prog 49 [w.av] (.bool w.ok) := by
 refine VFn.introC Tryz.call49 Tryz.func49 rfl rfl ?_
 repeat' (conv => whnf
          first
           | (refine Grd.intro (fun h => ?_) (fun h => ?_); rotate_left; focus (exfalso; simp_all; done))
           | (refine Grd.intro (fun h => ?_) (fun h => ?_); focus (exfalso; simp_all; done))
           | refine Grd.intro (fun h => ?_) (fun h => ?_)
           | (refine CallC.sca _ (isId0 w.id) ?_ ?_; focus (exact rfl))
           | (refine CallC.sca _ (within_fn w.ph 0 7) ?_ ?_; focus (exact rfl))
           | (refine CallC.sca _ (within_fn w.ph 4 6) ?_ ?_; focus (exact rfl))
           | (refine CallC.sca _ (within_fn w.tok 0 999999) ?_ ?_; focus (exact rfl))
           | (refine CallC.sca _ (RecordOK_fn w.job) ?_ ?_; focus (exact rfl))
           | (refine CallC.sca _ (allEn_fn w.ins (by omega) 67 En.ok (fun e _ => entryOK_fn e)) ?_ ?_; focus (exact rfl))
           | (refine CallC.sca _ (isGot_fn w.got) ?_ ?_; focus (exact rfl))
           | (refine And.intro trivial (AVle.of_eq (congrArg AV.bool ?_)); focus (simp_all [Wk.ok, -List.all_eq_true, -List.all_eq_false]; done))
           | (refine And.intro trivial (AVle.of_eq (congrArg AV.bool ?_)); focus (simp only [Wk.ok, *, cond_true, cond_false, Bool.true_and, Bool.and_true, Bool.false_and, Bool.and_false, Bool.not_true, Bool.not_false, Bool.true_or, Bool.or_true, Bool.false_or, Bool.or_false, if_true, ite_true, reduceIte]; done))
           | (refine And.intro trivial (AVle.of_eq (congrArg AV.bool ?_)); focus (simp_all [Wk.ok, -List.all_eq_true, -List.all_eq_false]; intros; omega))
           | (refine And.intro trivial (AVle.of_eq (congrArg AV.bool ?_)); focus (simp only [cond_true, cond_false, Bool.not_eq_true', Bool.not_eq_false'] at *; simp only [Wk.ok, *, cond_true, cond_false, Bool.true_and, Bool.and_true, Bool.false_and, Bool.and_false, Bool.not_true, Bool.not_false, Bool.true_or, Bool.or_true, Bool.false_or, Bool.or_false, if_true, ite_true, reduceIte]; done))
           | fail)
theorem IndexOb_1 (L : List Ob) (hL : L.length ≤ 9223372036854775807) (F : Nat) (row : List AV) (p : Ob → Bool) (hp : ∀ e ∈ L, VFn Tryz.prog F [e.av, .eptr row 0] (.bool (p e))) :
 VFn Tryz.prog 257 [obs L, .fn (.func F) [] [.eptr row 0]] (.int .i64 (fi p L)) := by
 refine VFn.introC Tryz.call257 Tryz.func257 rfl rfl ?_
 refine LoopC.mk (fun i : Nat => i ≤ L.length ∧ ∀ j, j < i → p (ix L j) = false) (fun i => [(0, obs L), (1, .fn (.func F) [] [.eptr row 0]), (7, .int .i64 L.length), (8, .int .i64 i)]) (fun _ => []) 0 (fun i => L.length - i) 0
  ⟨⟨Nat.zero_le _, fun j hj => absurd hj (Nat.not_lt_zero j)⟩, [], rfl, rfl, ⟨AVle.refl _, AVle.refl _, AVle.refl _, AVle.refl _, trivial⟩, trivial⟩ ?_
 intro i hi
 refine Grd.intro (fun h2 => ?_) (fun h2 => ?_)
 · have hin : i < L.length := by have := of_decide_eq_true h2; omega
   refine And.intro (by omega) ?_
   conv => whnf
   refine CallC.sca _ (hp (ix L i) (getD_mem hin)) ?_ ?_
   · exact rfl
   refine Grd.intro (fun h3 => ?_) (fun h3 => ?_)
   · exact And.intro trivial (AVle.of_eq (congrArg (AV.int .i64) (fi_at hin hi.2 h3).symm))
   · refine And.intro (inI64 (by omega) (by omega)) ?_
     exact ⟨i + 1, ⟨hin, fun j hj => by
      rcases Nat.lt_or_ge j i with h' | h'
      · exact hi.2 j h'
      · rw [show j = i by omega]; exact h3⟩, by omega, [], rfl, rfl, ⟨AVle.refl _, AVle.refl _, AVle.refl _, AVle.of_eq (congrArg (AV.int .i64) (by simp)), trivial⟩, trivial⟩
 · have : i = L.length := by have := of_decide_eq_false h2; omega
   subst this
   exact And.intro trivial (AVle.of_eq (congrArg (AV.int .i64) (fi_none hi.2).symm))
theorem DelOb_some (L : List Ob) (hL : L.length ≤ 1000000) (F : Nat) (row : List AV) (p : Ob → Bool) (hp : ∀ e ∈ L, VFn Tryz.prog F [e.av, .eptr row 0] (.bool (p e))) (hs : L.any p = true) :
 FnM Tryz.prog 225 1 [.osl 0, .fn (.func F) [] [.eptr row 0]] [(0, .arr 93 3 L.length fun i => (ix L i).row)] (.osl 1) [(1, .arr 93 3 (L.filter fun e => !p e).length fun i => (ix (L.filter fun e => !p e) i).row)] 2 := by
 have c := IndexOb_1 L (by omega) F row p hp
 obtain ⟨i0, hi0, hfi, hp0⟩ : ∃ i0 : Nat, i0 < L.length ∧ fi p L = (i0 : Int) ∧ p (ix L i0) = true ∧ ∀ j, j < i0 → p (ix L j) = false := by
  rcases fi_first p L with ⟨h, _⟩ | h
  · have := fi_any (p := p) (L := L)
    rw [h, hs] at this; simp at this
  · exact h
 rw [hfi] at c
 have hk0 : (L.take (i0 + 1)).filter (fun e => !p e) = L.take i0 := by
  rw [filter_snoc hi0, if_neg (by rw [hp0.1]; simp)]
  exact List.filter_eq_self.2 fun x hx => by
   obtain ⟨j, hj, rfl⟩ := List.getElem_of_mem hx
   have hj' : j < i0 := by simp at hj; omega
   have := hp0.2 j hj'
   rw [ix_lt (by omega)] at this
   simp [this]
 have hlt : ∀ j, i0 < j → j ≤ L.length → ((L.take j).filter fun e => !p e).length < j := fun j h1 h2 => filter_lt h1 h2 (by rw [hp0.1]; rfl)
 refine FnM.introC Tryz.call225 Tryz.func225 rfl rfl ?_
 conv => whnf
 refine CallC.sca _ (c) ?_ ?_
 · exact rfl
 refine And.intro (inI64 (by omega) (by omega)) ?_
 refine LoopC.mk (fun j : Nat => i0 < j ∧ j ≤ L.length) (fun j => [(0, .osl 0), (1, .fn (.func F) [] [.eptr row 0]), (5, .int .i64 ((L.take j).filter fun e => !p e).length), (6, .int .i64 j)])
  (fun j => [(0, .arr 93 3 L.length fun i => (ix (kept p L j) i).row)]) 1 (fun j => L.length - j) (i0 + 1)
  ⟨⟨by omega, hi0⟩, [(0, 0)], rfl, rfl, ⟨AVle.refl _, AVle.refl _, AVle.of_eq (congrArg (AV.int .i64) (by rw [hk0]; simp; omega)), AVle.of_eq (congrArg (AV.int .i64) (by simp)), trivial⟩, ⟨MOle.arr rfl fun i hi => by
    have e : kept p L (i0 + 1) = L := by unfold kept; rw [hk0]; simp only [List.length_take]; rw [Nat.min_eq_left (by omega)]; simp
    rw [e], trivial⟩⟩ ?_
 intro j hj
 obtain ⟨hj1, hj2⟩ := hj
 have hkl := hlt j hj1 hj2
 refine Grd.intro (fun h2 => ?_) (fun h2 => ?_)
 · have hjn : j < L.length := by have := of_decide_eq_true h2; omega
   have hsn := filter_snoc (p := fun e => !p e) hjn
   have e := kept_at (p := p) hjn (Nat.le_of_lt hkl)
   have cp := hp (ix L j) (getD_mem hjn)
   rw [← e] at cp
   refine And.intro (by omega) ?_
   conv => whnf
   refine CallC.sca _ (cp) ?_ ?_
   · exact rfl
   refine Grd.intro (fun h3 => ?_) (fun h3 => ?_)
   · have h3 : p (ix L j) = false := by rw [e] at h3; simpa using h3
     rw [h3] at hsn
     have hl := hlt (j + 1) (by omega) hjn
     rw [hsn] at hl
     simp at hl
     refine And.intro (by omega) ?_
     refine And.intro (inI64 (by omega) (by omega)) ?_
     refine And.intro (inI64 (by omega) (by omega)) ?_
     refine ⟨j + 1, ⟨by omega, hjn⟩, by omega, [(0, 0)], rfl, rfl, ⟨AVle.refl _, AVle.refl _, AVle.of_eq (congrArg (AV.int .i64) (by rw [hsn]; simp)), AVle.of_eq (congrArg (AV.int .i64) (by simp)), trivial⟩, ⟨MOle.arr rfl fun k hk => ?_, trivial⟩⟩
     have en := kept_next hjn h3 hkl k hk
     by_cases hkc : k = ((L.take j).filter fun e => !p e).length
     · rw [en, if_pos hkc, ← e]
       show (bif Nat.beq k ((L.take j).filter fun e => !p e).length then _ else _) = _
       rw [hkc, beq_t]; rfl
     · rw [en, if_neg hkc]
       show (bif Nat.beq k ((L.take j).filter fun e => !p e).length then _ else _) = _
       rw [beq_f hkc]; rfl
   · have h3 : p (ix L j) = true := by rw [e] at h3; simpa using h3
     rw [h3] at hsn
     refine And.intro (inI64 (by omega) (by omega)) ?_
     refine ⟨j + 1, ⟨by omega, hjn⟩, by omega, [(0, 0)], rfl, rfl, ⟨AVle.refl _, AVle.refl _, AVle.of_eq (congrArg (AV.int .i64) (by rw [hsn]; simp)), AVle.of_eq (congrArg (AV.int .i64) (by simp)), trivial⟩, ⟨MOle.arr rfl fun k hk => ?_, trivial⟩⟩
     have e2 : kept p L (j + 1) = kept p L j := by unfold kept; rw [hsn]; simp
     rw [e2]
 · have : j = L.length := by have := of_decide_eq_false h2; omega
   subst this
   have eT : L.take L.length = L := List.take_of_length_le (Nat.le_refl _)
   obtain ⟨c, hc⟩ : ∃ c, c = ((L.take L.length).filter fun e => !p e).length := ⟨_, rfl⟩
   have hk : ∀ k, k < c → ix (kept p L L.length) k = ix (L.filter fun e => !p e) k := fun k hk => by
    unfold kept
    rw [ix_app_l (by omega), eT]
   have hcl : c = (L.filter fun e => !p e).length := by rw [hc, eT]
   rw [← hc] at hkl
   rw [← hc]
   refine And.intro ⟨by omega, by omega⟩ ?_
   conv => whnf
   refine OpC.clear rfl rfl rfl rfl rfl rfl rfl (by show 1 ≤ L.length - ((c : Int)).toNat; omega) ?_
   conv => whnf
   refine OpC.head rfl rfl rfl rfl rfl rfl rfl ⟨by omega, by omega⟩ ?_
   refine And.intro trivial ⟨[(0, 0), (1, 1)], rfl, AVle.refl _, ⟨MOle.arr (by show ((c : Int)).toNat = _; omega) fun k hk' => ?_, trivial⟩⟩
   have hk' : k < c := by have : k < ((c : Int)).toNat := hk'; omega
   rw [← hk k hk']
   show (bif Nat.blt k ((c : Int)).toNat then _ else _) = _
   rw [blt_t (show k < ((c : Int)).toNat by omega)]; rfl
theorem has_of_mem {x : Sto} (hs : x.ok = true) {k : List UInt8} (h : k ∈ x.os.map (·.key)) : x.has k = true := by
 obtain ⟨o, ho, rfl⟩ := List.mem_map.1 h
 have h1 := Srt.fi (Sto.srt hs) o.key
 have h2 := fi_any (p := fun q : Ob => decide (q.key = o.key)) (L := x.os)
 rw [List.any_eq_true.2 ⟨o, ho, decide_eq_true rfl⟩, h1] at h2
 cases hh : hasK o.key x.os with
 | true => exact hh
 | false => rw [hh] at h2; simp at h2
theorem without1_fn (o : Ob) (k : List UInt8) : VFn Tryz.prog 226 [o.av, .eptr [.str (B k)] 0] (.bool (decide (o.key = k))) := by
 refine VFn.introC Tryz.call226 Tryz.func226 rfl rfl ?_
 exact And.intro trivial (AVle.of_eq (congrArg AV.bool (show ((B o.key).toList == (B k).toList) = _ from B_eq)))
theorem without_own (x : Sto) (hs : x.ok = true) (k : List UInt8) (hk : x.has k = true) : FnM Tryz.prog 198 0 [x.av, .str (B k)] [] (wo x k).own [(0, .arr 93 3 (wo x k).os.length fun i => (ix (wo x k).os i).row)] 1 := by
 have hL := (Sto.ok_at hs).2.1
 have hany : x.os.any (fun o => decide (o.key = k)) = true := by
  obtain ⟨h1, h2⟩ := hasK_at hk
  exact List.any_eq_true.2 ⟨_, getD_mem h1, decide_eq_true h2⟩
 have hd := DelOb_some x.os (by omega) 226 [.str (B k)] (fun o => decide (o.key = k)) (fun o _ => without1_fn o k) hany
 refine FnM.introC Tryz.call198 Tryz.func198 rfl rfl ?_
 conv => whnf
 refine CallC.k [] (copied_own x (by omega)) rfl rfl (AVsle.refl _) trivial rfl ?_
 conv => whnf
 refine CallC.m [(3, 0)] hd rfl rfl (AVsle.refl _) ⟨MOle.refl _, trivial⟩ rfl ⟨fun i hi => rfl, trivial⟩ rfl ?_
 exact And.intro trivial ⟨[(5, 0)], rfl, AVle.refl _, ⟨MOle.refl _, trivial⟩⟩
theorem without_fn (x : Sto) (hs : x.ok = true) (k : List UInt8) (hk : x.has k = true) : VFn Tryz.prog 198 [x.av, .str (B k)] (wo x k).av := (without_own x hs k hk).vfn
def Sta.orow (s : Sta) (a b : Nat) : List AV := [.int .i64 s.seq, .int .i64 s.fence, .osl a, .osl b, .int .i64 s.l0, .int .i64 s.l1, .int .i64 s.l2, .int .i64 s.h0, .int .i64 s.h1, .int .i64 s.h2]
theorem logN_no {x : Sto} {i : Nat} {st : Sta} (h : logN x i = st) (hr : recAt x ((i : Int) + 1) = none) : logN x (i + 1) = st.tick := by
 show stepL x (logN x i) = _
 unfold stepL
 rw [logN_seq, hr, h]
theorem logN_yes {x : Sto} {i : Nat} {st : Sta} {r : Rc} (h : logN x i = st) (hr : recAt x ((i : Int) + 1) = some r) : logN x (i + 1) = st.app r := by
 show stepL x (logN x i) = _
 unfold stepL
 rw [logN_seq, hr, h]
theorem has_next {x : Sto} {i : Nat} (h : ∀ j, j < i → x.has (manK ((j + 1 : Nat) : Int)) = true) (h' : x.has (manK ((i : Int) + 1)) = true) : ∀ j, j < i + 1 → x.has (manK ((j + 1 : Nat) : Int)) = true := fun j hj => by
 rcases Nat.lt_or_ge j i with h1 | h1
 · exact h j h1
 · have : j = i := by omega
   subst this; exact h'
theorem replay_own (x : Sto) (hs : x.ok = true) (F : Nat) (hF : ∀ (r : Rc) (took : Bool), VFn Tryz.prog F [r.av, .bool took] (.tup [])) :
 FnM Tryz.prog 57 0 [x.av, .fn (.func F) [] []] [] (logS x).own (logS x).objs 2 := by
 have hL := (Sto.ok_at hs).2.1
 refine FnM.introC Tryz.call57 Tryz.func57 rfl rfl ?_
 refine LoopC.nilb 2 2 116 4 (fun _ => []) rfl rfl ?_
 conv => whnf
 refine LoopC.nilb 2 3 123 2 (fun _ => []) rfl rfl ?_
 conv => whnf
 refine LoopC.mk (fun i : Nat => ∀ j, j < i → x.has (manK ((j + 1 : Nat) : Int)) = true) (fun i => [(1, .fn (.func F) [] []), (2, .bptr 0 0), (4, .bptr 1 0), (5, .bptr 2 0)])
  (fun i => [(0, .box x.row), (1, .box sta0.nrow), (2, .box ((logN x i).orow 3 4)), (3, .arr 116 4 (logN x i).es.length fun j => (ix (logN x i).es j).row), (4, .arr 123 2 (logN x i).ts.length fun j => (ix (logN x i).ts j).row)]) 5 (fun i => 1000 - i) 0
  ⟨fun j hj => absurd hj (Nat.not_lt_zero j), [(0, 0), (1, 1), (2, 2), (3, 3), (4, 4)], rfl, rfl, ⟨AVle.refl _, AVle.refl _, AVle.refl _, AVle.refl _, trivial⟩, ⟨MOle.refl _, MOle.refl _, MOle.refl _, MOle.arr rfl fun i hi => absurd hi (Nat.not_lt_zero i), MOle.arr rfl fun i hi => absurd hi (Nat.not_lt_zero i), trivial⟩⟩ ?_
 intro i hi
 have hi3 : i ≤ 300 := by
  rcases Nat.lt_or_ge 300 i with h | h
  · have := log_len (x := x) (n := 301) (by omega) (fun j hj => hi j (by omega)); omega
  · exact h
 obtain ⟨st, hst⟩ : ∃ st, logN x i = st := ⟨_, rfl⟩
 have hseq := logN_seq x i
 have hlen := logN_len x i
 have hlog := logN_log x i
 rw [hst] at hseq hlen hlog ⊢
 refine Grd.intro (fun h2 => ?_) (fun h2 => absurd (of_decide_eq_false h2) (fun h => h (by omega)))
 have cg := get_fn x hs (manK (st.seq + 1))
 by_cases hh : x.has (manK (st.seq + 1)) = true
 · rw [if_pos hh] at cg
   refine DrawC.mq 12 rfl (by kernel_rfl) ?_
   refine And.intro (inI64 (by omega) (by omega)) ?_
   conv => whnf
   refine PCallQ.sca _ (six_fn (st.seq + 1) (by simp [within]; omega)) rfl ?_
   conv => whnf
   refine And.intro (show ((4 + (B (six6 (st.seq + 1).toNat)).size : Nat) : Int) ≤ 9223372036854775807 by rw [B_size, six6_len]; decide) ?_
   refine force_to (congrArg AV.str (show B [109, 97, 110, 47] ++ B (six6 (st.seq + 1).toNat) = B (manK (st.seq + 1)) from B_app _ _)) ?_
   conv => whnf
   refine PCallQ.sca _ (cg) rfl ?_
   have hd := (get_ok x hs _ hh).1
   have hh' : x.has (manK ((i : Int) + 1)) = true := by rw [← hseq]; exact hh
   cases hr : readR (x.get (manK (st.seq + 1))).data with
   | none =>
     obtain ⟨r, cr⟩ := readRecord_no _ (by omega) hr
     conv => whnf
     refine CallC.sca _ (cr) ?_ ?_
     · exact rfl
     refine And.intro (inI64 (by omega) (by omega)) ?_
     have e := logN_no hst (by unfold recAt; rw [← hseq]; exact hr)
     refine ⟨i + 1, has_next hi hh', by omega, [(0, 0), (1, 1), (2, 2), (3, 3), (4, 4)], rfl, rfl, ⟨AVle.refl _, AVle.refl _, AVle.refl _, AVle.refl _, trivial⟩, ⟨MOle.refl _, MOle.refl _, MOle.of_eq (show MO.box (st.tick.orow 3 4) = _ by rw [e]), MOle.of_eq (show MO.arr 116 4 st.tick.es.length (fun j => (ix st.tick.es j).row) = _ by rw [e]), MOle.of_eq (show MO.arr 123 2 st.tick.ts.length (fun j => (ix st.tick.ts j).row) = _ by rw [e]), trivial⟩⟩
   | some r =>
     have hrk := readR_ok hr
     conv => whnf
     refine CallC.sca _ (readRecord_yes _ (by omega) hr) ?_ ?_
     · exact rfl
     conv => whnf
     refine CallC.m [] (apply_fn st (by omega) (by omega) r hrk) rfl rfl (AVsle.refl _) trivial rfl ⟨fun i hi => rfl, fun i hi => rfl, trivial⟩ rfl ?_
     conv => whnf
     refine CallC.sca _ (hF r (st.takes r)) ?_ ?_
     · exact rfl
     have e := logN_yes hst (by unfold recAt; rw [← hseq]; exact hr)
     refine ⟨i + 1, has_next hi hh', by omega, [(0, 0), (1, 1), (2, 2), (18, 3), (19, 4)], rfl, rfl, ⟨AVle.refl _, AVle.refl _, AVle.refl _, AVle.refl _, trivial⟩, ⟨MOle.refl _, MOle.refl _, MOle.of_eq (show MO.box ((st.app r).orow 3 4) = _ by rw [e]), MOle.of_eq (show MO.arr 116 4 (st.app r).es.length (fun j => (ix (st.app r).es j).row) = _ by rw [e]), MOle.of_eq (show MO.arr 123 2 (st.app r).ts.length (fun j => (ix (st.app r).ts j).row) = _ by rw [e]), trivial⟩⟩
 · have hh : x.has (manK (st.seq + 1)) = false := by simpa using hh
   rw [if_neg (by rw [hh]; simp)] at cg
   have e : logS x = st := by
    have := log_end hs hi3 hi (by rw [hseq] at hh; exact hh)
    unfold logS; rw [← this]; exact hst
   rw [e]
   refine DrawC.mq 12 rfl (by kernel_rfl) ?_
   refine And.intro (inI64 (by omega) (by omega)) ?_
   conv => whnf
   refine PCallQ.sca _ (six_fn (st.seq + 1) (by simp [within]; omega)) rfl ?_
   conv => whnf
   refine And.intro (show ((4 + (B (six6 (st.seq + 1).toNat)).size : Nat) : Int) ≤ 9223372036854775807 by rw [B_size, six6_len]; decide) ?_
   refine force_to (congrArg AV.str (show B [109, 97, 110, 47] ++ B (six6 (st.seq + 1).toNat) = B (manK (st.seq + 1)) from B_app _ _)) ?_
   conv => whnf
   refine PCallQ.sca _ (cg) rfl ?_
   exact And.intro trivial ⟨[(3, 0), (4, 1)], rfl, AVle.refl _, ⟨MOle.refl _, MOle.refl _, trivial⟩⟩
theorem log1_fn (r : Rc) (took : Bool) : VFn Tryz.prog 126 [r.av, .bool took] (.tup []) := by
 refine VFn.introC Tryz.call126 Tryz.func126 rfl rfl ?_
 exact And.intro trivial (AVle.refl _)
theorem log_own (x : Sto) (hs : x.ok = true) : FnM Tryz.prog 60 0 [x.av] [] (logS x).own (logS x).objs 2 := by
 refine FnM.introC Tryz.call60 Tryz.func60 rfl rfl ?_
 conv => whnf
 refine CallC.k [] (replay_own x hs 126 log1_fn) rfl rfl (AVsle.refl _) trivial rfl ?_
 exact And.intro trivial ⟨[(2, 0), (3, 1)], rfl, AVle.refl _, ⟨MOle.refl _, MOle.refl _, trivial⟩⟩
theorem log_fn (x : Sto) (hs : x.ok = true) : VFn Tryz.prog 60 [x.av] (logS x).av := (log_own x hs).vfn

theorem map_take_filter {α β : Type} [Inhabited α] {f : α → β} {p : β → Bool} {L : List α} {i : Nat} (h : i < L.length) : ((L.take (i + 1)).map f).filter p = if p (f (ix L i)) = true then ((L.take i).map f).filter p ++ [f (ix L i)] else ((L.take i).map f).filter p := by
 rw [take_snoc h, List.map_append, List.filter_append]
 by_cases hp : p (f (ix L i)) = true
 · rw [if_pos hp]; simp [hp]
 · rw [if_neg hp]; simp [hp]
theorem dataKeys_fn (x : Sto) (hL : x.os.length ≤ 1000000) : VFn Tryz.prog 221 [x.av] (txts (dataKs x)) := by
 have hle : ∀ i, (((x.os.take i).map (·.key)).filter kOk).length ≤ i := fun i => Nat.le_trans (List.length_filter_le _ _) (by simp; omega)
 refine VFn.introC Tryz.call221 Tryz.func221 rfl rfl ?_
 refine LoopC.mk (fun i : Nat => i ≤ x.os.length) (fun i => [(1, .bptr 0 0), (3, .osl 1), (12, obs x.os), (13, .int .i64 x.os.length), (14, .int .i64 i)])
  (fun i => [(0, .box x.row), (1, .arr 9 1 (((x.os.take i).map (·.key)).filter kOk).length fun j => [.str (B (ix (((x.os.take i).map (·.key)).filter kOk) j))])]) 2 (fun i => x.os.length - i) 0
  ⟨Nat.zero_le _, [(0, 0), (1, 1)], rfl, rfl, ⟨AVle.refl _, AVle.refl _, AVle.refl _, AVle.refl _, AVle.refl _, trivial⟩, ⟨MOle.refl _, MOle.arr rfl fun i hi => absurd hi (Nat.not_lt_zero i), trivial⟩⟩ ?_
 intro i hi
 have hli := hle i
 refine Grd.intro (fun h2 => ?_) (fun h2 => ?_)
 · have hin : i < x.os.length := by have := of_decide_eq_true h2; omega
   have hs := map_take_filter (f := fun o : Ob => o.key) (p := kOk) hin
   refine And.intro (by omega) ?_
   conv => whnf
   refine CallC.sca _ (readDataKey_fn (ix x.os i).key) ?_ ?_
   · exact rfl
   refine Grd.intro (fun h3 => ?_) (fun h3 => ?_)
   · rw [if_pos h3] at hs
     refine And.intro ⟨show ((((x.os.take i).map (·.key)).filter kOk).length + 1) * 16 ≤ 140737488355328 by omega, all1 rfl⟩ ?_
     refine And.intro (inI64 (by omega) (by omega)) ?_
     exact ⟨i + 1, hin, by omega, [(0, 0), (4, 1)], rfl, rfl, ⟨AVle.refl _, AVle.refl _, AVle.refl _, AVle.refl _, AVle.of_eq (congrArg (AV.int .i64) (by simp)), trivial⟩, ⟨MOle.refl _, arr_next (f := fun s : List UInt8 => [.str (B s)]) hs rfl, trivial⟩⟩
   · rw [if_neg (by rw [h3]; simp)] at hs
     refine And.intro (inI64 (by omega) (by omega)) ?_
     exact ⟨i + 1, hin, by omega, [(0, 0), (1, 1)], rfl, rfl, ⟨AVle.refl _, AVle.refl _, AVle.refl _, AVle.refl _, AVle.of_eq (congrArg (AV.int .i64) (by simp)), trivial⟩, ⟨MOle.refl _, MOle.of_eq (show MO.arr 9 1 (((x.os.take i).map (·.key)).filter kOk).length (fun j => [.str (B (ix (((x.os.take i).map (·.key)).filter kOk) j))]) = _ by rw [hs]), trivial⟩⟩
 · have : i = x.os.length := by have := of_decide_eq_false h2; omega
   subst this
   have e : ((x.os.take x.os.length).map (·.key)).filter kOk = dataKs x := by rw [List.take_of_length_le (Nat.le_refl _)]; rfl
   rw [e]
   exact And.intro trivial (AVle.sl rfl fun j hj => rfl)
set_option maxHeartbeats 1000000 in
theorem orphans_fn (s : Sta) (hE : s.es.length ≤ 1000000000) (hT : s.ts.length ≤ 1000000000) (L : List (List UInt8)) (hL : L.length ≤ 1000000) : VFn Tryz.prog 220 [s.av, txts L] (txts (L.filter s.orph)) := by
 have hle : ∀ i, ((L.take i).filter s.orph).length ≤ i := fun i => Nat.le_trans (List.length_filter_le _ _) (by simp; omega)
 refine VFn.introC Tryz.call220 Tryz.func220 rfl rfl ?_
 refine LoopC.mk (fun i : Nat => i ≤ L.length) (fun i => [(2, .bptr 0 0), (5, .osl 1), (13, txts L), (14, .int .i64 L.length), (15, .int .i64 i)])
  (fun i => [(0, .box s.row), (1, .arr 9 1 ((L.take i).filter s.orph).length fun j => [.str (B (ix ((L.take i).filter s.orph) j))])]) 2 (fun i => L.length - i) 0
  ⟨Nat.zero_le _, [(0, 0), (1, 1)], rfl, rfl, ⟨AVle.refl _, AVle.refl _, AVle.refl _, AVle.refl _, AVle.refl _, trivial⟩, ⟨MOle.refl _, MOle.arr rfl fun i hi => absurd hi (Nat.not_lt_zero i), trivial⟩⟩ ?_
 intro i hi
 have hli := hle i
 refine Grd.intro (fun h2 => ?_) (fun h2 => ?_)
 · have hin : i < L.length := by have := of_decide_eq_true h2; omega
   have hs := filter_snoc (p := s.orph) hin
   have ch := hasKey_fn s hE hT (ix L i)
   have app : s.orph (ix L i) = true → (L.take (i + 1)).filter s.orph = (L.take i).filter s.orph ++ [ix L i] := fun h => by rw [hs, if_pos h]
   have skp : s.orph (ix L i) = false → (L.take (i + 1)).filter s.orph = (L.take i).filter s.orph := fun h => by rw [hs, if_neg (by rw [h]; simp)]
   clear hs
   have hO : s.orph (ix L i) = (kOk (ix L i) && (!s.has (ix L i) && ((decide (kT (ix L i) = 0) && decide (kN (ix L i) ≤ s.seq)) || (decide (0 < kT (ix L i)) && decide (kW (ix L i) < s.fence))))) := rfl
   refine And.intro (by omega) ?_
   conv => whnf
   refine CallC.sca _ (readDataKey_fn (ix L i)) ?_ ?_
   · exact rfl
   repeat' (conv => whnf
            first
    | refine Grd.intro (fun h => ?_) (fun h => ?_)
    | refine PCallQ.sca _ ch rfl ?_
    | (refine CallC.sca _ ch ?_ ?_; exact rfl)
    | refine And.intro ⟨show (0 : Int) ≤ ((i : Nat) : Int) by omega, show ((i : Nat) : Int) < ((L.length : Nat) : Int) by omega⟩ ?_
    | refine And.intro ⟨show (((L.take i).filter s.orph).length + 1) * 16 ≤ 140737488355328 by omega, all1 rfl⟩ ?_
    | refine And.intro (show inI .i64 ((i : Int) + 1) from inI64 (by omega) (by omega)) ?_)
   all_goals first
    | (have hq := app (by rw [hO]; first | (simp_all; done) | (simp_all; intros; omega))
       exact ⟨i + 1, hin, by omega, [(0, 0), (3, 1)], rfl, rfl, ⟨AVle.refl _, AVle.refl _, AVle.refl _, AVle.refl _, AVle.of_eq (congrArg (AV.int .i64) (by simp)), trivial⟩, ⟨MOle.refl _, arr_next (f := fun s : List UInt8 => [.str (B s)]) hq rfl, trivial⟩⟩)
    | (have hq := skp (by rw [hO]; first | (simp_all; done) | (simp_all; intros; omega))
       exact ⟨i + 1, hin, by omega, [(0, 0), (1, 1)], rfl, rfl, ⟨AVle.refl _, AVle.refl _, AVle.refl _, AVle.refl _, AVle.of_eq (congrArg (AV.int .i64) (by simp)), trivial⟩, ⟨MOle.refl _, MOle.of_eq (show MO.arr 9 1 ((L.take i).filter s.orph).length (fun j => [.str (B (ix ((L.take i).filter s.orph) j))]) = _ by rw [hq]), trivial⟩⟩)
 · have : i = L.length := by have := of_decide_eq_false h2; omega
   subst this
   have e : (L.take L.length).filter s.orph = L.filter s.orph := by rw [List.take_of_length_le (Nat.le_refl _)]
   rw [e]
   exact And.intro trivial (AVle.sl rfl fun j hj => rfl)
theorem chgC_cases (s : Sto) (who tok : Int) {l : Lea} (h : s.lea = (l, 0)) : s.chgC who tok = if l.who ≠ who ∨ l.tok ≠ tok ∨ l.til = 0 then 13 else 0 := by
 unfold Sto.chgC
 rw [h]
 simp
theorem till_fn (s : Sto) (hs : s.ok = true) (who tok til : Int) (ht : -9223372036854775807 ≤ til ∧ til ≤ 9223372036854775807) : VFn Tryz.prog 233 [s.av, .int .i64 who, .int .i64 tok, .int .i64 til] (.tup [(s.chg who tok til).1.av, .int .i64 (s.chg who tok til).2]) := by
 have c := lease_fn s hs
 unfold Sto.chg
 rcases s.lea_cases with ⟨e, h⟩ | ⟨e, h, hr⟩ | ⟨l, e, h, hr, hl⟩
 · have e1 : s.chgC who tok = 13 := by unfold Sto.chgC; rw [e]; simp
   rw [e1, if_neg (by decide)]
   rw [e] at c
   refine VFn.introC Tryz.call233 Tryz.func233 rfl rfl ?_
   conv => whnf
   refine CallC.sca _ (c) ?_ ?_
   · exact rfl
   conv => whnf
   refine CallC.sca _ (first2_of _ _ _ _ ⟨rfl, rfl, rfl, rfl, trivial⟩ rfl (show (if decide ((5 : Int) = 17) = true then (5 : Int) else if true = true then 13 else 0) = 13 by decide)) ?_ ?_
   · exact rfl
   exact And.intro trivial (AVle.refl _)
 · have e1 : s.chgC who tok = 17 := by unfold Sto.chgC; rw [e]; simp
   rw [e1, if_neg (by decide)]
   rw [e] at c
   refine VFn.introC Tryz.call233 Tryz.func233 rfl rfl ?_
   conv => whnf
   refine CallC.sca _ (c) ?_ ?_
   · exact rfl
   conv => whnf
   refine CallC.sca _ (first2_of _ _ _ _ ⟨rfl, rfl, rfl, rfl, trivial⟩ rfl (show (if decide ((17 : Int) = 17) = true then (17 : Int) else if true = true then 13 else 0) = 17 by decide)) ?_ ?_
   · exact rfl
   exact And.intro trivial (AVle.refl _)
 · have e1 := chgC_cases s who tok e
   have e2 : s.chgL til = ⟨l.tok, l.who, til⟩ := by unfold Sto.chgL; rw [e]
   rw [e] at c
   have hb : ∀ x ∈ [l.tok, l.who, til], -9223372036854775807 ≤ x ∧ x ≤ 9223372036854775807 := by
    simp [Lea.ok, within] at hl
    intro x hx
    simp at hx
    omega
   have ct := leaText_fn ⟨l.tok, l.who, til⟩ hb
   have hlen := Lea.text_len ⟨l.tok, l.who, til⟩ hb
   have co := put_fn s hs leaK (Lea.text ⟨l.tok, l.who, til⟩) (by omega)
   have f0 : ∀ b : Bool, (if decide ((0 : Int) = 17) = true then (0 : Int) else if b = true then 13 else 0) = if b = true then 13 else 0 := fun b => by rw [if_neg (by decide)]
   refine VFn.introC Tryz.call233 Tryz.func233 rfl rfl ?_
   conv => whnf
   refine CallC.sca _ (c) ?_ ?_
   · exact rfl
   refine Grd.intro (fun h1 => ?_) (fun h1 => ?_)
   · have h1 : l.who ≠ who := by simpa using h1
     have e3 : s.chgC who tok = 13 := by rw [e1, if_pos (.inl h1)]
     rw [e3, if_neg (by decide)]
     conv => whnf
     refine CallC.sca _ (first2_of _ true _ _ ⟨rfl, rfl, rfl, rfl, trivial⟩ rfl (f0 true)) ?_ ?_
     · exact rfl
     exact And.intro trivial (AVle.refl _)
   have h1 : l.who = who := by simpa using h1
   refine Grd.intro (fun h2 => ?_) (fun h2 => ?_)
   · have h2 : l.tok ≠ tok := by simpa using h2
     have e3 : s.chgC who tok = 13 := by rw [e1, if_pos (.inr (.inl h2))]
     rw [e3, if_neg (by decide)]
     conv => whnf
     refine CallC.sca _ (first2_of _ true _ _ ⟨rfl, rfl, rfl, rfl, trivial⟩ rfl (f0 true)) ?_ ?_
     · exact rfl
     exact And.intro trivial (AVle.refl _)
   have h2 : l.tok = tok := by simpa using h2
   by_cases h3 : l.til = 0
   · have e3 : s.chgC who tok = 13 := by rw [e1, if_pos (.inr (.inr h3))]
     rw [e3, if_neg (by decide)]
     conv => whnf
     refine CallC.sca _ (first2_of _ (decide (l.til = 0)) _ _ ⟨rfl, rfl, rfl, rfl, trivial⟩ rfl ((f0 _).trans (show _ = (13 : Int) by rw [if_pos (decide_eq_true h3)]))) ?_ ?_
     · exact rfl
     exact And.intro trivial (AVle.refl _)
   have e3 : s.chgC who tok = 0 := by rw [e1, if_neg (fun q => by rcases q with q | q | q; exact q h1; exact q h2; exact h3 q)]
   rw [e3, if_pos rfl, e2]
   conv => whnf
   refine CallC.sca _ (first2_of _ (decide (l.til = 0)) _ _ ⟨rfl, rfl, rfl, rfl, trivial⟩ rfl ((f0 _).trans (show _ = (0 : Int) by rw [if_neg (by simpa using h3)]))) ?_ ?_
   · exact rfl
   refine DrawC.mkQ 12 [(.inr 8, 9)] rfl (by kernel_rfl) ?_
   refine And.intro rfl ?_
   conv => whnf
   refine PCallQ.sca _ (ct) rfl ?_
   conv => whnf
   by_cases hroom : s.room leaK (Lea.text ⟨l.tok, l.who, til⟩) = 0
   · rw [if_pos hroom] at co
     unfold Sto.put
     rw [if_pos hroom, hroom]
     refine PCallQ.nl _ (co) rfl ?_
     exact And.intro trivial (AVle.refl _)
   · rw [if_neg hroom] at co
     unfold Sto.put
     rw [if_neg hroom]
     refine PCallQ.nl _ (co) rfl ?_
     exact And.intro trivial (AVle.refl _)


end Go.Proofs.YtnplgeogieoioaaGreatDoor
