/- Contracts of functions that the claim reaches, and the plain law of what they compute; each theorem bears its own conditions. -/
import Derived.Test.YtbphkhlgcneapaaGreatDoorQ4
import Derived.Test.YtbphkhlgcneapaaGreatDoorV46
import Derived.Test.YtbphkhlgcneapaaGreatDoorQ3
set_option linter.unusedVariables false
set_option linter.constructorNameAsVariable false
set_option linter.unusedSimpArgs false
set_option maxRecDepth 20000
namespace Go.Proofs.YtbphkhlgcneapaaGreatDoor
open Go Go.Vw

theorem filter_snoc {α : Type} [Inhabited α] {L : List α} {p : α → Bool} {i : Nat} (h : i < L.length) : (L.take (i + 1)).filter p = if p (ix L i) = true then (L.take i).filter p ++ [ix L i] else (L.take i).filter p := by
  rw [take_snoc h, List.filter_append]
  by_cases hp : p (ix L i) = true
  · rw [if_pos hp]; simp [hp]
  · rw [if_neg hp]; simp [hp]
def kept {α : Type} (p : α → Bool) (L : List α) (j : Nat) : List α := ((L.take j).filter fun e => !p e) ++ L.drop ((L.take j).filter fun e => !p e).length
theorem kept_at {α : Type} [Inhabited α] {L : List α} {p : α → Bool} {j : Nat} (h : j < L.length) (hk : ((L.take j).filter fun e => !p e).length ≤ j) : ix (kept p L j) j = ix L j := by
  unfold kept
  rw [ix_app_r hk, ix_drop]
  congr 1; omega
theorem kept_next {α : Type} [Inhabited α] {L : List α} {p : α → Bool} {j : Nat} (h : j < L.length) (hp : p (ix L j) = false) (hk : ((L.take j).filter fun e => !p e).length < j) : ∀ k, k < L.length → ix (kept p L (j + 1)) k = if k = ((L.take j).filter fun e => !p e).length then ix L j else ix (kept p L j) k := by
  intro k hkL
  have hsn := filter_snoc (p := fun e => !p e) h
  rw [if_pos (by rw [hp]; rfl)] at hsn
  unfold kept
  rw [hsn]
  generalize (L.take j).filter (fun e => !p e) = K at hk
  have e1 : (K ++ [ix L j]).length = K.length + 1 := by simp
  split
  · rename_i hc
    subst hc
    rw [ix_app_l (by omega), ix_app_r (Nat.le_refl _), Nat.sub_self]; rfl
  · rename_i hc
    rcases Nat.lt_or_ge k K.length with h1 | h1
    · rw [ix_app_l (by omega), ix_app_l h1, ix_app_l h1]
    · rw [ix_app_r (by omega), ix_app_r h1, ix_drop, ix_drop, e1]
      congr 1; omega
theorem filter_lt {α : Type} [Inhabited α] {L : List α} {p : α → Bool} {i j : Nat} (hij : i < j) (hj : j ≤ L.length) (h : p (ix L i) = false) : ((L.take j).filter p).length < j := by
  have hi : i < L.length := by omega
  have e : L.take j = L.take i ++ (ix L i :: (L.drop (i + 1)).take (j - (i + 1))) := by
    have h1 : L = L.take i ++ (ix L i :: L.drop (i + 1)) := by rw [ix_lt hi]; simp
    have h2 := congrArg (List.take j) h1
    rw [h2, List.take_append, List.take_of_length_le (by simp; omega)]
    congr 1
    have : j - (L.take i).length = (j - (i + 1)) + 1 := by simp; omega
    rw [this, List.take_succ_cons]
  rw [e, List.filter_append, List.filter_cons_of_neg (by rw [h]; simp), List.length_append]
  have a := List.length_filter_le p (L.take i)
  have b := List.length_filter_le p ((L.drop (i + 1)).take (j - (i + 1)))
  simp only [List.length_take, List.length_drop] at a b
  omega
theorem DelEn_some (L : List En) (hL : L.length ≤ 1000000) (F : Nat) (row : List AV) (p : En → Bool) (hp : ∀ e ∈ L, VFn Tryz.prog F [e.av, .eptr row 0] (.bool (p e))) (hs : L.any p = true) :
    FnM Tryz.prog 322 1 [.osl 0, .fn (.func F) [] [.eptr row 0]] [(0, .arr 65 4 L.length fun i => (ix L i).row)] (.osl 1) [(1, .arr 65 4 (L.filter fun e => !p e).length fun i => (ix (L.filter fun e => !p e) i).row)] 2 := by
  have c := IndexEn_1 L (by omega) F row p hp
  obtain ⟨i0, hi0, hfi, hp0⟩ : ∃ i0 : Nat, i0 < L.length ∧ fi p L = (i0 : Int) ∧ p (ix L i0) = true ∧ ∀ j, j < i0 → p (ix L j) = false := by
    rcases fi_first p L with ⟨h, _⟩ | h
    · have := fi_any (p := p) (L := L)
      rw [h, hs] at this; simp at this
    · exact h
  rw [hfi] at c
  have hk0 : (L.take (i0 + 1)).filter (fun e => !p e) = L.take i0 := by
    rw [filter_snoc hi0, if_neg (by rw [hp0.1]; simp)]
    exact List.filter_eq_self.2 fun x hx => by
      obtain ⟨j, hj, rfl⟩ := List.getElem_of_mem hx
      have hj' : j < i0 := by simp at hj; omega
      have := hp0.2 j hj'
      rw [ix_lt (by omega)] at this
      simp [this]
  have hlt : ∀ j, i0 < j → j ≤ L.length → ((L.take j).filter fun e => !p e).length < j := fun j h1 h2 => filter_lt h1 h2 (by rw [hp0.1]; rfl)
  refine FnM.introC Tryz.call322 Tryz.func322 rfl rfl ?_
  conv => whnf
  refine CallC.sca _ (c) ?_ ?_
  · exact rfl
  refine And.intro (inI64 (by omega) (by omega)) ?_
  refine LoopC.mk (fun j : Nat => i0 < j ∧ j ≤ L.length) (fun j => [(0, .osl 0), (1, .fn (.func F) [] [.eptr row 0]), (5, .int .i64 ((L.take j).filter fun e => !p e).length), (6, .int .i64 j)])
    (fun j => [(0, .arr 65 4 L.length fun i => (ix (kept p L j) i).row)]) 1 (fun j => L.length - j) (i0 + 1)
    ⟨⟨by omega, hi0⟩, [(0, 0)], rfl, rfl, ⟨AVle.refl _, AVle.refl _, AVle.of_eq (congrArg (AV.int .i64) (by rw [hk0]; simp; omega)), AVle.of_eq (congrArg (AV.int .i64) (by simp)), trivial⟩, ⟨MOle.arr rfl fun i hi => by
      have e : kept p L (i0 + 1) = L := by unfold kept; rw [hk0]; simp only [List.length_take]; rw [Nat.min_eq_left (by omega)]; simp
      rw [e], trivial⟩⟩ ?_
  intro j hj
  obtain ⟨hj1, hj2⟩ := hj
  have hkl := hlt j hj1 hj2
  refine Grd.intro (fun h2 => ?_) (fun h2 => ?_)
  · have hjn : j < L.length := by have := of_decide_eq_true h2; omega
    have hsn := filter_snoc (p := fun e => !p e) hjn
    have e := kept_at (p := p) hjn (Nat.le_of_lt hkl)
    have cp := hp (ix L j) (getD_mem hjn)
    rw [← e] at cp
    refine And.intro (by omega) ?_
    conv => whnf
    refine CallC.sca _ (cp) ?_ ?_
    · exact rfl
    refine Grd.intro (fun h3 => ?_) (fun h3 => ?_)
    · have h3 : p (ix L j) = false := by rw [e] at h3; simpa using h3
      rw [h3] at hsn
      have hl := hlt (j + 1) (by omega) hjn
      rw [hsn] at hl
      simp at hl
      refine And.intro (by omega) ?_
      refine And.intro (inI64 (by omega) (by omega)) ?_
      refine And.intro (inI64 (by omega) (by omega)) ?_
      refine ⟨j + 1, ⟨by omega, hjn⟩, by omega, [(0, 0)], rfl, rfl, ⟨AVle.refl _, AVle.refl _, AVle.of_eq (congrArg (AV.int .i64) (by rw [hsn]; simp)), AVle.of_eq (congrArg (AV.int .i64) (by simp)), trivial⟩, ⟨MOle.arr rfl fun k hk => ?_, trivial⟩⟩
      have en := kept_next hjn h3 hkl k hk
      by_cases hkc : k = ((L.take j).filter fun e => !p e).length
      · rw [en, if_pos hkc, ← e]
        show (bif Nat.beq k ((L.take j).filter fun e => !p e).length then _ else _) = _
        rw [hkc, beq_t]; rfl
      · rw [en, if_neg hkc]
        show (bif Nat.beq k ((L.take j).filter fun e => !p e).length then _ else _) = _
        rw [beq_f hkc]; rfl
    · have h3 : p (ix L j) = true := by rw [e] at h3; simpa using h3
      rw [h3] at hsn
      refine And.intro (inI64 (by omega) (by omega)) ?_
      refine ⟨j + 1, ⟨by omega, hjn⟩, by omega, [(0, 0)], rfl, rfl, ⟨AVle.refl _, AVle.refl _, AVle.of_eq (congrArg (AV.int .i64) (by rw [hsn]; simp)), AVle.of_eq (congrArg (AV.int .i64) (by simp)), trivial⟩, ⟨MOle.arr rfl fun k hk => ?_, trivial⟩⟩
      have e2 : kept p L (j + 1) = kept p L j := by unfold kept; rw [hsn]; simp
      rw [e2]
  · have : j = L.length := by have := of_decide_eq_false h2; omega
    subst this
    have eT : L.take L.length = L := List.take_of_length_le (Nat.le_refl _)
    obtain ⟨c, hc⟩ : ∃ c, c = ((L.take L.length).filter fun e => !p e).length := ⟨_, rfl⟩
    have hk : ∀ k, k < c → ix (kept p L L.length) k = ix (L.filter fun e => !p e) k := fun k hk => by
      unfold kept
      rw [ix_app_l (by omega), eT]
    have hcl : c = (L.filter fun e => !p e).length := by rw [hc, eT]
    rw [← hc] at hkl
    rw [← hc]
    refine And.intro ⟨by omega, by omega⟩ ?_
    conv => whnf
    refine OpC.clear rfl rfl rfl rfl rfl rfl rfl (by show 1 ≤ L.length - ((c : Int)).toNat; omega) ?_
    conv => whnf
    refine OpC.head rfl rfl rfl rfl rfl rfl rfl ⟨by omega, by omega⟩ ?_
    refine And.intro trivial ⟨[(0, 0), (1, 1)], rfl, AVle.refl _, ⟨MOle.arr (by show ((c : Int)).toNat = _; omega) fun k hk' => ?_, trivial⟩⟩
    have hk' : k < c := by have : k < ((c : Int)).toNat := hk'; omega
    rw [← hk k hk']
    show (bif Nat.blt k ((c : Int)).toNat then _ else _) = _
    rw [blt_t (show k < ((c : Int)).toNat by omega)]; rfl
theorem DelTb_some (L : List Tb) (hL : L.length ≤ 1000000) (F : Nat) (row : List AV) (p : Tb → Bool) (hp : ∀ e ∈ L, VFn Tryz.prog F [e.av, .eptr row 0] (.bool (p e))) (hs : L.any p = true) :
    FnM Tryz.prog 324 1 [.osl 0, .fn (.func F) [] [.eptr row 0]] [(0, .arr 226 2 L.length fun i => (ix L i).row)] (.osl 1) [(1, .arr 226 2 (L.filter fun e => !p e).length fun i => (ix (L.filter fun e => !p e) i).row)] 2 := by
  have c := IndexTb_1 L (by omega) F row p hp
  obtain ⟨i0, hi0, hfi, hp0⟩ : ∃ i0 : Nat, i0 < L.length ∧ fi p L = (i0 : Int) ∧ p (ix L i0) = true ∧ ∀ j, j < i0 → p (ix L j) = false := by
    rcases fi_first p L with ⟨h, _⟩ | h
    · have := fi_any (p := p) (L := L)
      rw [h, hs] at this; simp at this
    · exact h
  rw [hfi] at c
  have hk0 : (L.take (i0 + 1)).filter (fun e => !p e) = L.take i0 := by
    rw [filter_snoc hi0, if_neg (by rw [hp0.1]; simp)]
    exact List.filter_eq_self.2 fun x hx => by
      obtain ⟨j, hj, rfl⟩ := List.getElem_of_mem hx
      have hj' : j < i0 := by simp at hj; omega
      have := hp0.2 j hj'
      rw [ix_lt (by omega)] at this
      simp [this]
  have hlt : ∀ j, i0 < j → j ≤ L.length → ((L.take j).filter fun e => !p e).length < j := fun j h1 h2 => filter_lt h1 h2 (by rw [hp0.1]; rfl)
  refine FnM.introC Tryz.call324 Tryz.func324 rfl rfl ?_
  conv => whnf
  refine CallC.sca _ (c) ?_ ?_
  · exact rfl
  refine And.intro (inI64 (by omega) (by omega)) ?_
  refine LoopC.mk (fun j : Nat => i0 < j ∧ j ≤ L.length) (fun j => [(0, .osl 0), (1, .fn (.func F) [] [.eptr row 0]), (5, .int .i64 ((L.take j).filter fun e => !p e).length), (6, .int .i64 j)])
    (fun j => [(0, .arr 226 2 L.length fun i => (ix (kept p L j) i).row)]) 1 (fun j => L.length - j) (i0 + 1)
    ⟨⟨by omega, hi0⟩, [(0, 0)], rfl, rfl, ⟨AVle.refl _, AVle.refl _, AVle.of_eq (congrArg (AV.int .i64) (by rw [hk0]; simp; omega)), AVle.of_eq (congrArg (AV.int .i64) (by simp)), trivial⟩, ⟨MOle.arr rfl fun i hi => by
      have e : kept p L (i0 + 1) = L := by unfold kept; rw [hk0]; simp only [List.length_take]; rw [Nat.min_eq_left (by omega)]; simp
      rw [e], trivial⟩⟩ ?_
  intro j hj
  obtain ⟨hj1, hj2⟩ := hj
  have hkl := hlt j hj1 hj2
  refine Grd.intro (fun h2 => ?_) (fun h2 => ?_)
  · have hjn : j < L.length := by have := of_decide_eq_true h2; omega
    have hsn := filter_snoc (p := fun e => !p e) hjn
    have e := kept_at (p := p) hjn (Nat.le_of_lt hkl)
    have cp := hp (ix L j) (getD_mem hjn)
    rw [← e] at cp
    refine And.intro (by omega) ?_
    conv => whnf
    refine CallC.sca _ (cp) ?_ ?_
    · exact rfl
    refine Grd.intro (fun h3 => ?_) (fun h3 => ?_)
    · have h3 : p (ix L j) = false := by rw [e] at h3; simpa using h3
      rw [h3] at hsn
      have hl := hlt (j + 1) (by omega) hjn
      rw [hsn] at hl
      simp at hl
      refine And.intro (by omega) ?_
      refine And.intro (inI64 (by omega) (by omega)) ?_
      refine And.intro (inI64 (by omega) (by omega)) ?_
      refine ⟨j + 1, ⟨by omega, hjn⟩, by omega, [(0, 0)], rfl, rfl, ⟨AVle.refl _, AVle.refl _, AVle.of_eq (congrArg (AV.int .i64) (by rw [hsn]; simp)), AVle.of_eq (congrArg (AV.int .i64) (by simp)), trivial⟩, ⟨MOle.arr rfl fun k hk => ?_, trivial⟩⟩
      have en := kept_next hjn h3 hkl k hk
      by_cases hkc : k = ((L.take j).filter fun e => !p e).length
      · rw [en, if_pos hkc, ← e]
        show (bif Nat.beq k ((L.take j).filter fun e => !p e).length then _ else _) = _
        rw [hkc, beq_t]; rfl
      · rw [en, if_neg hkc]
        show (bif Nat.beq k ((L.take j).filter fun e => !p e).length then _ else _) = _
        rw [beq_f hkc]; rfl
    · have h3 : p (ix L j) = true := by rw [e] at h3; simpa using h3
      rw [h3] at hsn
      refine And.intro (inI64 (by omega) (by omega)) ?_
      refine ⟨j + 1, ⟨by omega, hjn⟩, by omega, [(0, 0)], rfl, rfl, ⟨AVle.refl _, AVle.refl _, AVle.of_eq (congrArg (AV.int .i64) (by rw [hsn]; simp)), AVle.of_eq (congrArg (AV.int .i64) (by simp)), trivial⟩, ⟨MOle.arr rfl fun k hk => ?_, trivial⟩⟩
      have e2 : kept p L (j + 1) = kept p L j := by unfold kept; rw [hsn]; simp
      rw [e2]
  · have : j = L.length := by have := of_decide_eq_false h2; omega
    subst this
    have eT : L.take L.length = L := List.take_of_length_le (Nat.le_refl _)
    obtain ⟨c, hc⟩ : ∃ c, c = ((L.take L.length).filter fun e => !p e).length := ⟨_, rfl⟩
    have hk : ∀ k, k < c → ix (kept p L L.length) k = ix (L.filter fun e => !p e) k := fun k hk => by
      unfold kept
      rw [ix_app_l (by omega), eT]
    have hcl : c = (L.filter fun e => !p e).length := by rw [hc, eT]
    rw [← hc] at hkl
    rw [← hc]
    refine And.intro ⟨by omega, by omega⟩ ?_
    conv => whnf
    refine OpC.clear rfl rfl rfl rfl rfl rfl rfl (by show 1 ≤ L.length - ((c : Int)).toNat; omega) ?_
    conv => whnf
    refine OpC.head rfl rfl rfl rfl rfl rfl rfl ⟨by omega, by omega⟩ ?_
    refine And.intro trivial ⟨[(0, 0), (1, 1)], rfl, AVle.refl _, ⟨MOle.arr (by show ((c : Int)).toNat = _; omega) fun k hk' => ?_, trivial⟩⟩
    have hk' : k < c := by have : k < ((c : Int)).toNat := hk'; omega
    rw [← hk k hk']
    show (bif Nat.blt k ((c : Int)).toNat then _ else _) = _
    rw [blt_t (show k < ((c : Int)).toNat by omega)]; rfl
end Go.Proofs.YtbphkhlgcneapaaGreatDoor
set_option linter.unusedVariables false
set_option linter.constructorNameAsVariable false
set_option linter.unusedSimpArgs false
set_option maxRecDepth 20000
namespace Go.Proofs.YtbphkhlgcneapaaGreatDoor
open Go Go.Vw

def Sta.own (s : Sta) : AV := .agg [.int .i64 s.seq, .int .i64 s.fence, .osl 0, .osl 1, .int .i64 s.l0, .int .i64 s.l1, .int .i64 s.l2, .int .i64 s.h0, .int .i64 s.h1, .int .i64 s.h2]
end Go.Proofs.YtbphkhlgcneapaaGreatDoor
set_option linter.unusedVariables false
set_option linter.constructorNameAsVariable false
set_option linter.unusedSimpArgs false
set_option maxRecDepth 20000
namespace Go.Proofs.YtbphkhlgcneapaaGreatDoor
open Go Go.Vw

end Go.Proofs.YtbphkhlgcneapaaGreatDoor
set_option linter.unusedVariables false
set_option linter.constructorNameAsVariable false
set_option linter.unusedSimpArgs false
set_option maxRecDepth 20000
namespace Go.Proofs.YtbphkhlgcneapaaGreatDoor
open Go Go.Vw

theorem CloneEn_own (L : List En) (hL : L.length ≤ 1000000) : FnM Tryz.prog 344 0 [ents L] [] (.osl 0) [(0, .arr 65 4 L.length fun i => (ix L i).row)] 1 := by
  refine FnM.introN Tryz.call344 Tryz.func344 rfl rfl ?_
  conv => whnf
  refine OpC.isnil rfl rfl rfl rfl rfl (fun h0 => ?_) ?_
  · conv => whnf
    exact ⟨_, .inr ⟨2, 65, 4, fun i => (ix L i).row, rfl, rfl⟩, And.intro trivial ⟨[(0, 0)], rfl, AVle.refl _, ⟨MOle.arr h0.symm fun i hi => rfl, trivial⟩⟩⟩
  · conv => whnf
    refine And.intro ⟨show (0 + L.length) * 40 ≤ 140737488355328 by omega, fun i hi => rfl⟩ ?_
    conv => whnf
    exact ⟨_, .inl rfl, And.intro trivial ⟨[(1, 0)], rfl, AVle.refl _, ⟨MOle.arr (Nat.zero_add _) fun i hi => appRows_ge (Nat.zero_le _), trivial⟩⟩⟩
theorem CloneTb_own (L : List Tb) (hL : L.length ≤ 1000000) : FnM Tryz.prog 345 0 [tbs L] [] (.osl 0) [(0, .arr 226 2 L.length fun i => (ix L i).row)] 1 := by
  refine FnM.introN Tryz.call345 Tryz.func345 rfl rfl ?_
  conv => whnf
  refine OpC.isnil rfl rfl rfl rfl rfl (fun h0 => ?_) ?_
  · conv => whnf
    exact ⟨_, .inr ⟨2, 226, 2, fun i => (ix L i).row, rfl, rfl⟩, And.intro trivial ⟨[(0, 0)], rfl, AVle.refl _, ⟨MOle.arr h0.symm fun i hi => rfl, trivial⟩⟩⟩
  · conv => whnf
    refine And.intro ⟨show (0 + L.length) * 24 ≤ 140737488355328 by omega, fun i hi => rfl⟩ ?_
    conv => whnf
    exact ⟨_, .inl rfl, And.intro trivial ⟨[(1, 0)], rfl, AVle.refl _, ⟨MOle.arr (Nat.zero_add _) fun i hi => appRows_ge (Nat.zero_le _), trivial⟩⟩⟩
abbrev Sta.objs (s : Sta) : List (Nat × MO) := [(0, .arr 65 4 s.es.length fun i => (ix s.es i).row), (1, .arr 226 2 s.ts.length fun i => (ix s.ts i).row)]
theorem copiedS_own (s : Sta) (hL : s.es.length ≤ 1000000) (hT : s.ts.length ≤ 1000000) : FnM Tryz.prog 321 0 [s.av] [] s.own s.objs 2 := by
  refine FnM.introC Tryz.call321 Tryz.func321 rfl rfl ?_
  refine DrawC.mk 7 rfl (by kernel_rfl) ?_
  conv => whnf
  refine PCallC.own (CloneEn_own s.es hL) rfl (fun i hi => rfl) ?_
  conv => whnf
  refine PCallC.own (CloneTb_own s.ts hT) rfl (fun i hi => rfl) ?_
  exact And.intro trivial ⟨[(4, 0), (7, 1)], rfl, AVle.refl _, ⟨MOle.refl _, MOle.refl _, trivial⟩⟩
end Go.Proofs.YtbphkhlgcneapaaGreatDoor
set_option linter.unusedVariables false
set_option linter.constructorNameAsVariable false
set_option linter.unusedSimpArgs false
set_option maxRecDepth 20000
namespace Go.Proofs.YtbphkhlgcneapaaGreatDoor
open Go Go.Vw

structure StoOK (s : Sto) : Prop where
  nx : 1 ≤ s.next ∧ s.next ≤ 1000000000
  len : s.os.length ≤ 300
  el : ∀ o ∈ s.os, keyOK o.key = true ∧ (1 ≤ o.ver ∧ o.ver ≤ s.next - 1) ∧ o.data.length ≤ 600
  vs : (s.os.map (·.ver)).Nodup
  ks : s.os.Pairwise fun a b => a.key < b.key
theorem pw_srt {L : List Ob} : (L.Pairwise fun a b => a.key < b.key) ↔ Srt L := by
  constructor
  · intro h i hi
    have := List.pairwise_iff_getElem.1 h i (i + 1) (by omega) hi (by omega)
    rw [ix_lt (by omega), ix_lt hi]; exact this
  · intro h
    refine List.pairwise_iff_getElem.2 fun i j hi hj hij => ?_
    have := h.lt hij hj
    rw [ix_lt hi, ix_lt hj] at this; exact this
theorem nodup_take {L : List Int} : L.Nodup ↔ ∀ i, i < L.length → ix L i ∉ L.take i := by
  constructor
  · intro h i hi hm
    obtain ⟨j, hj, e⟩ := List.getElem_of_mem hm
    have hj' : j < i := by simp at hj; omega
    have := List.pairwise_iff_getElem.1 h j i (by omega) hi hj'
    rw [ix_lt hi] at e
    simp at e
    exact this e
  · intro h
    refine List.pairwise_iff_getElem.2 fun i j hi hj hij e => ?_
    refine h j hj ?_
    rw [ix_lt hj, ← e]
    exact List.mem_take_iff_getElem.2 ⟨i, by omega, rfl⟩
theorem stoOK_iff (s : Sto) : s.ok = true ↔ StoOK s := by
  have hv : ∀ i, i < s.os.length → ix (s.os.map (·.ver)) i = (ix s.os i).ver := fun i hi => by rw [ix_lt (by simpa using hi), ix_lt hi, List.getElem_map]
  constructor
  · intro h
    obtain ⟨h1, h2, h3⟩ := Sto.ok_at h
    have h3' : ∀ i, i < s.os.length → keyOK (ix s.os i).key = true ∧ (1 ≤ (ix s.os i).ver ∧ (ix s.os i).ver ≤ s.next - 1) ∧ (ix s.os i).data.length ≤ 600 ∧ (ix s.os i).ver ∉ (s.os.take i).map (·.ver) := fun i hi => by
      have := h3 i hi
      simp only [Sto.eOK, Bool.and_eq_true, decide_eq_true_eq, within, Bool.not_eq_true', decide_eq_false_iff_not] at this
      exact ⟨this.1, this.2.1, this.2.2.1, this.2.2.2.1⟩
    refine ⟨by simpa [within] using h1, h2, fun o ho => ?_, nodup_take.2 fun i hi => ?_, pw_srt.2 (Sto.srt h)⟩
    · obtain ⟨i, hi, rfl⟩ := List.getElem_of_mem ho
      have := h3' i hi
      rw [ix_lt hi] at this
      exact ⟨this.1, this.2.1, this.2.2.1⟩
    · have hi' : i < s.os.length := by simpa using hi
      rw [hv i hi', ← List.map_take]
      exact (h3' i hi').2.2.2
  · rintro ⟨h1, h2, h3, h4, h5⟩
    refine Sto.ok_yes (by simpa [within] using h1) h2 fun i hi => ?_
    have h6 := h3 (ix s.os i) (getD_mem hi)
    have h7 := nodup_take.1 h4 i (by simpa using hi)
    rw [hv i hi, ← List.map_take] at h7
    have h8 : i = 0 ∨ (ix s.os (i - 1)).key < (ix s.os i).key := by
      rcases Nat.eq_zero_or_pos i with h | h
      · exact .inl h
      · have := pw_srt.1 h5 (i - 1) (by omega)
        rw [show i - 1 + 1 = i by omega] at this
        exact .inr this
    simp only [Sto.eOK, Bool.and_eq_true, decide_eq_true_eq, within, Bool.not_eq_true', decide_eq_false_iff_not, Bool.or_eq_true]
    exact ⟨h6.1, h6.2.1, h6.2.2, h7, h8⟩
theorem cut_filter {α κ : Type} [Inhabited α] [DecidableEq κ] (f : α → κ) {L : List α} {i : Nat} (hi : i < L.length) (nd : (L.map f).Nodup) : L.take i ++ L.drop (i + 1) = L.filter fun x => !decide (f x = f (ix L i)) := by
  have e : L = L.take i ++ (ix L i :: L.drop (i + 1)) := by
    rw [ix_lt hi]
    simp
  have nd2 := nd
  rw [e, List.map_append, List.map_cons] at nd2
  have h1 := List.nodup_append.1 nd2
  have h2 := List.nodup_cons.1 h1.2.1
  have no : ∀ {M : List α}, (∀ x ∈ M, f x ≠ f (ix L i)) → M.filter (fun x => !decide (f x = f (ix L i))) = M := fun h => List.filter_eq_self.2 fun x hx => by rw [decide_eq_false (h x hx)]; rfl
  have e1 := no (M := L.take i) fun x hx hk => h1.2.2 (f x) (List.mem_map.2 ⟨x, hx, rfl⟩) (f (ix L i)) (by simp) hk
  have e2 := no (M := L.drop (i + 1)) fun x hx hk => h2.1 (hk ▸ List.mem_map.2 ⟨x, hx, rfl⟩)
  have hn : (L.filter fun x => !decide (f x = f (ix L i))) = (L.take i ++ (ix L i :: L.drop (i + 1))).filter fun x => !decide (f x = f (ix L i)) := congrArg _ e
  rw [hn, List.filter_append, e1, List.filter_cons_of_neg (by simp), e2]
theorem srt_nodup {L : List Ob} (h : Srt L) : (L.map (·.key)).Nodup := by
  refine List.pairwise_map.2 (List.pairwise_iff_getElem.2 fun i j hi hj hij e => ?_)
  have := h.lt hij hj
  rw [ix_lt hi, ix_lt hj, e] at this
  exact List.lt_irrefl _ this
/-- a store without a key -/
def wo (x : Sto) (k : List UInt8) : Sto := ⟨x.os.filter fun o => !decide (o.key = k), x.next⟩
theorem wo_len (x : Sto) (k : List UInt8) : (wo x k).os.length ≤ x.os.length := List.length_filter_le _ _
theorem wo_cut {x : Sto} (hs : x.ok = true) {k : List UInt8} (h : x.has k = true) : x.os.take (x.pos k) ++ x.os.drop (x.pos k + 1) = (wo x k).os := by
  obtain ⟨h1, h2⟩ := hasK_at h
  have := cut_filter (fun o : Ob => o.key) h1 (srt_nodup (Sto.srt hs))
  unfold Sto.pos wo
  rw [this, h2]
end Go.Proofs.YtbphkhlgcneapaaGreatDoor
set_option linter.unusedVariables false
set_option linter.constructorNameAsVariable false
set_option linter.unusedSimpArgs false
set_option maxRecDepth 20000
namespace Go.Proofs.YtbphkhlgcneapaaGreatDoor
open Go Go.Vw

def riseS (q : Int × Bool) (r : Rc) (took : Bool) : Int × Bool :=
  if took = true then (if r.k = 2 then (r.tok, q.2 && decide (q.1 < r.tok)) else if r.k = 3 ∨ r.k = 4 then (q.1, q.2 && decide (r.tok = q.1)) else q) else q
def riseN (x : Sto) : Nat → Int × Bool
  | 0 => (0, true)
  | n + 1 => match recAt x ((n : Int) + 1) with
    | none => riseN x n
    | some r => riseS (riseN x n) r ((logN x n).takes r)
theorem riseS_no {q : Int × Bool} {r : Rc} {t : Bool} (h : q.2 = false) : (riseS q r t).2 = false := by
  unfold riseS
  split
  · split
    · simp [h]
    · split
      · simp [h]
      · exact h
  · exact h
theorem riseN_mono (x : Sto) : ∀ n i, i ≤ n → (riseN x i).2 = false → (riseN x n).2 = false
  | 0, i, h, hf => by have : i = 0 := by omega
                      subst this; exact hf
  | n + 1, i, h, hf => by
    rcases Nat.lt_or_ge n i with h1 | h1
    · have : i = n + 1 := by omega
      subst this; exact hf
    · have ih := riseN_mono x n i h1 hf
      unfold riseN
      split
      · exact ih
      · exact riseS_no ih
theorem firstNo_ge {p : Nat → Bool} : ∀ f n m, (∀ j, n ≤ j → j < m → p j = true) → m ≤ n + f → m ≤ firstNo p f n
  | 0, n, m, _, h => h
  | f + 1, n, m, hp, h => by
    unfold firstNo
    rcases Nat.lt_or_ge n m with h1 | h1
    · rw [if_pos (hp n (Nat.le_refl _) h1)]
      exact firstNo_ge f (n + 1) m (fun j hj => hp j (by omega)) (by omega)
    · split
      · have := firstNo_ge f (n + 1) m (fun j hj => hp j (by omega)) (by omega); omega
      · exact h1
/-- what is of no use: data of which nothing in a state knows, nor will -/
def Sta.orph (s : Sta) (k : List UInt8) : Bool := kOk k && (!s.has k && ((decide (kT k = 0) && decide (kN k ≤ s.seq)) || (decide (0 < kT k) && decide (kW k < s.fence))))
def dataKs (x : Sto) : List (List UInt8) := (x.os.map (·.key)).filter kOk
end Go.Proofs.YtbphkhlgcneapaaGreatDoor
set_option linter.unusedVariables false
set_option linter.constructorNameAsVariable false
set_option linter.unusedSimpArgs false
set_option maxRecDepth 20000
namespace Go.Proofs.YtbphkhlgcneapaaGreatDoor
open Go Go.Vw

structure StaOK (s : Sta) : Prop where
  q : 0 ≤ s.seq ∧ s.seq ≤ 999999
  f : 0 ≤ s.fence ∧ s.fence ≤ 999999
  len : s.es.length + s.ts.length ≤ 4096
  es : ∀ e ∈ s.es, e.ok = true
  ts : ∀ t ∈ s.ts, kOk t.key = true ∧ 1 ≤ t.seq ∧ t.seq ≤ s.seq
  nd : s.keys.Nodup
  lo : ∀ k, (k = 0 ∨ k = 1 ∨ k = 2) → 0 ≤ s.lo k ∧ s.lo k ≤ 100000
  runs : ∀ k, (k = 0 ∨ k = 1 ∨ k = 2) → runs (ofT s.es k) (s.lo k) = some (s.hi k)
theorem runs_app1 : ∀ (L : List En) (e : En) (a b : Int), runs L a = some b → e.f = b → runs (L ++ [e]) a = some e.t
  | [], e, a, b, h, h2 => by
    have : a = b := by simpa [runs] using h
    subst this
    simp [runs, h2]
  | x :: r, e, a, b, h, h2 => by
    simp only [runs] at h
    split at h
    · rename_i hx
      simp only [List.cons_append, runs]
      rw [if_pos hx]
      exact runs_app1 r e _ b h h2
    · cases h
theorem en_tier {e : En} (h : e.ok = true) : (e.tier = 0 ∨ e.tier = 1 ∨ e.tier = 2) ∧ 0 ≤ e.f ∧ e.f < e.t ∧ e.t ≤ 100000 ∧ kOk e.key = true := by
  unfold En.ok isRange at h
  simp only [Bool.and_eq_true, decide_eq_true_eq, within] at h
  have := kT_nat e.key
  refine ⟨by omega, by omega, by omega, by omega, h.1⟩
theorem kinds {k tok tier f t : Int} {key : List UInt8} (h : Rc.ok ⟨k, tok, tier, f, t, key⟩ = true) : (k = 1 ∧ tier = 0) ∨ k = 2 ∨ (k = 3 ∧ (tier = 1 ∨ tier = 2) ∧ (0 ≤ f ∧ f ≤ 1000000)) ∨ (k = 4 ∧ (tier = 0 ∨ tier = 1 ∨ tier = 2)) ∨ k = 5 := by
  unfold Rc.ok at h
  dsimp only at h
  by_cases h1 : k = 1
  · rw [if_pos h1] at h
    simp only [Bool.and_eq_true, decide_eq_true_eq] at h
    exact .inl ⟨h1, h.2.1⟩
  rw [if_neg h1] at h
  by_cases h2 : k = 2
  · exact .inr (.inl h2)
  rw [if_neg h2] at h
  by_cases h3 : k = 3
  · rw [if_pos h3] at h
    simp only [Bool.and_eq_true, decide_eq_true_eq] at h
    obtain ⟨ht, hb⟩ := en_tier h.2.2
    have ht : tier = 0 ∨ tier = 1 ∨ tier = 2 := ht
    have hb : 0 ≤ f ∧ f < t ∧ t ≤ 100000 ∧ _ := hb
    exact .inr (.inr (.inl ⟨h3, by have := h.2.1; omega, by omega, by omega⟩))
  rw [if_neg h3] at h
  by_cases h4 : k = 4
  · rw [if_pos h4] at h
    simp only [Bool.and_eq_true] at h
    exact .inr (.inr (.inr (.inl ⟨h4, (en_tier h.2).1⟩)))
  rw [if_neg h4] at h
  by_cases h5 : k = 5
  · exact .inr (.inr (.inr (.inr h5)))
  rw [if_neg h5] at h
  cases h
theorem nodup_key : ∀ {L : List En}, (L.map (·.key)).Nodup → ∀ {a b : En}, a ∈ L → b ∈ L → a.key = b.key → a = b
  | [], _, a, b, ha, _, _ => by cases ha
  | x :: r, nd, a, b, ha, hb, h => by
    rw [List.map_cons] at nd
    have h' := List.nodup_cons.1 nd
    rcases List.mem_cons.1 ha with ha | ha <;> rcases List.mem_cons.1 hb with hb | hb
    · rw [ha, hb]
    · exact absurd (List.mem_map.2 ⟨b, hb, by rw [← h, ha]⟩) h'.1
    · exact absurd (List.mem_map.2 ⟨a, ha, by rw [h, hb]⟩) h'.1
    · exact nodup_key h'.2 ha hb h
end Go.Proofs.YtbphkhlgcneapaaGreatDoor
set_option linter.unusedVariables false
set_option linter.constructorNameAsVariable false
set_option linter.unusedSimpArgs false
set_option maxRecDepth 20000
namespace Go.Proofs.YtbphkhlgcneapaaGreatDoor
open Go Go.Vw

theorem headIs_cells (x : En) (r : List En) (k f t : Int) (key : List UInt8) : headIs (x :: r) ⟨k, f, t, key⟩ = (decide (x.tier = k) && (decide (x.f = f) && (decide (x.t = t) && (((B x.key).toList == (B key).toList) && true)))) := by
  rw [B_eq, Bool.and_true]
  show decide (x = ⟨k, f, t, key⟩) = _
  obtain ⟨a, b, c, d⟩ := x
  rw [Bool.eq_iff_iff]
  simp
set_option maxHeartbeats 1000000 in
theorem takes4_0 (s : Sta) (hL : s.es.length ≤ 1000000000) (tok f t : Int) (key : List UInt8) : VFn Tryz.prog 320 [s.av, (Rc.mk 4 tok 0 f t key).av] (.bool (s.takes ⟨4, tok, 0, f, t, key⟩)) := by
  obtain ⟨R, hR⟩ : ∃ R, R = ofT s.es 0 := ⟨_, rfl⟩
  have e : s.takes ⟨4, tok, 0, f, t, key⟩ = (decide (tok = s.fence) && (headIs R ⟨0, f, t, key⟩ && decide (t ≤ s.h1))) := by rw [hR]; exact rfl
  rw [e]
  have c := ofS_fn s hL 0
  rw [← hR] at c
  have ce := entry_fn ⟨4, tok, 0, f, t, key⟩
  refine VFn.introC Tryz.call320 Tryz.func320 rfl rfl ?_
  conv => whnf
  refine CallC.nl _ (c) ?_ ?_
  · exact rfl
  cases R with
  | nil =>
    refine DrawC.mk 36 rfl (by kernel_rfl) ?_
    repeat' (first
      | refine Grd.intro (fun h => ?_) (fun h => ?_)
      | ((conv => whnf); refine Grd.intro (fun h => ?_) (fun h => ?_))
      | refine And.intro (inI64 (by (try simp only); omega) (by (try simp only); omega)) ?_
      | refine And.intro trivial (AVle.of_eq (congrArg AV.bool ?_)))
    all_goals (show false = (_ && (false&& _)); simp)
  | cons x r =>
    have hH : headIs (x :: r) ⟨0, f, t, key⟩ = (decide ((ix (x :: r) (Int.toNat 0)).tier = 0) && (decide ((ix (x :: r) (Int.toNat 0)).f = f) && (decide ((ix (x :: r) (Int.toNat 0)).t = t) && (((B (ix (x :: r) (Int.toNat 0)).key).toList == (B key).toList) && true)))) := headIs_cells x r 0 f t key
    refine DrawC.mk 36 rfl (by kernel_rfl) ?_
    repeat' (first
      | refine Grd.intro (fun h => ?_) (fun h => ?_)
      | ((conv => whnf); refine Grd.intro (fun h => ?_) (fun h => ?_))
      | refine PCallC.sca _ ce rfl ?_
      | refine And.intro ⟨Int.le_refl 0, show (0 : Int) < (((x :: r).length : Nat) : Int) by rw [List.length_cons]; omega⟩ ?_
      | refine And.intro (show eqGB _ _ = true from by kernel_rfl) ?_
      | refine And.intro (inI64 (by (try simp only); omega) (by (try simp only); omega)) ?_
      | refine And.intro ⟨show (0 : Int) ≤ 1 by omega, show (1 : Int) < ((3 : Nat) : Int) by omega⟩ ?_
      | refine And.intro ⟨show (0 : Int) ≤ 2 by omega, show (2 : Int) < ((3 : Nat) : Int) by omega⟩ ?_
      | refine And.intro trivial (AVle.of_eq (congrArg AV.bool ?_)))
    all_goals (clear hR e c ce; rw [hH]; simp_all)
set_option maxHeartbeats 1000000 in
theorem takes4_1 (s : Sta) (hL : s.es.length ≤ 1000000000) (tok f t : Int) (key : List UInt8) : VFn Tryz.prog 320 [s.av, (Rc.mk 4 tok 1 f t key).av] (.bool (s.takes ⟨4, tok, 1, f, t, key⟩)) := by
  obtain ⟨R, hR⟩ : ∃ R, R = ofT s.es 1 := ⟨_, rfl⟩
  have e : s.takes ⟨4, tok, 1, f, t, key⟩ = (decide (tok = s.fence) && (headIs R ⟨1, f, t, key⟩ && decide (t ≤ s.h2))) := by rw [hR]; exact rfl
  rw [e]
  have c := ofS_fn s hL 1
  rw [← hR] at c
  have ce := entry_fn ⟨4, tok, 1, f, t, key⟩
  refine VFn.introC Tryz.call320 Tryz.func320 rfl rfl ?_
  conv => whnf
  refine CallC.nl _ (c) ?_ ?_
  · exact rfl
  cases R with
  | nil =>
    refine DrawC.mk 36 rfl (by kernel_rfl) ?_
    repeat' (first
      | refine Grd.intro (fun h => ?_) (fun h => ?_)
      | ((conv => whnf); refine Grd.intro (fun h => ?_) (fun h => ?_))
      | refine And.intro (inI64 (by (try simp only); omega) (by (try simp only); omega)) ?_
      | refine And.intro trivial (AVle.of_eq (congrArg AV.bool ?_)))
    all_goals (show false = (_ && (false&& _)); simp)
  | cons x r =>
    have hH : headIs (x :: r) ⟨1, f, t, key⟩ = (decide ((ix (x :: r) (Int.toNat 0)).tier = 1) && (decide ((ix (x :: r) (Int.toNat 0)).f = f) && (decide ((ix (x :: r) (Int.toNat 0)).t = t) && (((B (ix (x :: r) (Int.toNat 0)).key).toList == (B key).toList) && true)))) := headIs_cells x r 1 f t key
    refine DrawC.mk 36 rfl (by kernel_rfl) ?_
    repeat' (first
      | refine Grd.intro (fun h => ?_) (fun h => ?_)
      | ((conv => whnf); refine Grd.intro (fun h => ?_) (fun h => ?_))
      | refine PCallC.sca _ ce rfl ?_
      | refine And.intro ⟨Int.le_refl 0, show (0 : Int) < (((x :: r).length : Nat) : Int) by rw [List.length_cons]; omega⟩ ?_
      | refine And.intro (show eqGB _ _ = true from by kernel_rfl) ?_
      | refine And.intro (inI64 (by (try simp only); omega) (by (try simp only); omega)) ?_
      | refine And.intro ⟨show (0 : Int) ≤ 1 by omega, show (1 : Int) < ((3 : Nat) : Int) by omega⟩ ?_
      | refine And.intro ⟨show (0 : Int) ≤ 2 by omega, show (2 : Int) < ((3 : Nat) : Int) by omega⟩ ?_
      | refine And.intro trivial (AVle.of_eq (congrArg AV.bool ?_)))
    all_goals (clear hR e c ce; rw [hH]; simp_all)
set_option maxHeartbeats 1000000 in
theorem takes4_2 (s : Sta) (hL : s.es.length ≤ 1000000000) (tok f t : Int) (key : List UInt8) : VFn Tryz.prog 320 [s.av, (Rc.mk 4 tok 2 f t key).av] (.bool (s.takes ⟨4, tok, 2, f, t, key⟩)) := by
  obtain ⟨R, hR⟩ : ∃ R, R = ofT s.es 2 := ⟨_, rfl⟩
  have e : s.takes ⟨4, tok, 2, f, t, key⟩ = (decide (tok = s.fence) && (headIs R ⟨2, f, t, key⟩)) := by rw [hR]; exact (show (decide (tok = s.fence) && (headIs (ofT s.es 2) ⟨2, f, t, key⟩ && true)) = _ by rw [Bool.and_true])
  rw [e]
  have c := ofS_fn s hL 2
  rw [← hR] at c
  have ce := entry_fn ⟨4, tok, 2, f, t, key⟩
  refine VFn.introC Tryz.call320 Tryz.func320 rfl rfl ?_
  conv => whnf
  refine CallC.nl _ (c) ?_ ?_
  · exact rfl
  cases R with
  | nil =>
    refine DrawC.mk 36 rfl (by kernel_rfl) ?_
    repeat' (first
      | refine Grd.intro (fun h => ?_) (fun h => ?_)
      | ((conv => whnf); refine Grd.intro (fun h => ?_) (fun h => ?_))
      | refine And.intro (inI64 (by (try simp only); omega) (by (try simp only); omega)) ?_
      | refine And.intro trivial (AVle.of_eq (congrArg AV.bool ?_)))
    all_goals (show false = (_ && (false)); simp)
  | cons x r =>
    have hH : headIs (x :: r) ⟨2, f, t, key⟩ = (decide ((ix (x :: r) (Int.toNat 0)).tier = 2) && (decide ((ix (x :: r) (Int.toNat 0)).f = f) && (decide ((ix (x :: r) (Int.toNat 0)).t = t) && (((B (ix (x :: r) (Int.toNat 0)).key).toList == (B key).toList) && true)))) := headIs_cells x r 2 f t key
    refine DrawC.mk 36 rfl (by kernel_rfl) ?_
    repeat' (first
      | refine Grd.intro (fun h => ?_) (fun h => ?_)
      | ((conv => whnf); refine Grd.intro (fun h => ?_) (fun h => ?_))
      | refine PCallC.sca _ ce rfl ?_
      | refine And.intro ⟨Int.le_refl 0, show (0 : Int) < (((x :: r).length : Nat) : Int) by rw [List.length_cons]; omega⟩ ?_
      | refine And.intro (show eqGB _ _ = true from by kernel_rfl) ?_
      | refine And.intro (inI64 (by (try simp only); omega) (by (try simp only); omega)) ?_
      | refine And.intro ⟨show (0 : Int) ≤ 1 by omega, show (1 : Int) < ((3 : Nat) : Int) by omega⟩ ?_
      | refine And.intro ⟨show (0 : Int) ≤ 2 by omega, show (2 : Int) < ((3 : Nat) : Int) by omega⟩ ?_
      | refine And.intro trivial (AVle.of_eq (congrArg AV.bool ?_)))
    all_goals (clear hR e c ce; rw [hH]; simp_all)
end Go.Proofs.YtbphkhlgcneapaaGreatDoor
set_option linter.unusedVariables false
set_option linter.constructorNameAsVariable false
set_option linter.unusedSimpArgs false
set_option maxRecDepth 20000
namespace Go.Proofs.YtbphkhlgcneapaaGreatDoor
open Go Go.Vw

theorem noE_any {s : Sta} {r : Rc} (h : headIs (ofT s.es r.tier) r.en = true) : s.es.any (fun e => decide (e.key = r.key)) = true := List.any_eq_true.2 ⟨r.en, headIs_mem h, decide_eq_true rfl⟩
theorem applyE_fn (e : En) (row : Rc) : VFn Tryz.prog 323 [e.av, .eptr row.row 0] (.bool (decide (e.key = row.key))) := by
  refine VFn.introC Tryz.call323 Tryz.func323 rfl rfl ?_
  exact And.intro trivial (AVle.of_eq (congrArg AV.bool (show ((B e.key).toList == (B row.key).toList) = _ from B_eq)))
theorem applyT_fn (e : Tb) (row : Rc) : VFn Tryz.prog 325 [e.av, .eptr row.row 0] (.bool (decide (e.key = row.key))) := by
  refine VFn.introC Tryz.call325 Tryz.func325 rfl rfl ?_
  exact And.intro trivial (AVle.of_eq (congrArg AV.bool (show ((B e.key).toList == (B row.key).toList) = _ from B_eq)))
theorem apply1 (s : Sta) (hL : s.es.length + s.ts.length < 4096) (hq : 0 ≤ s.seq ∧ s.seq < 999999) (tok f t : Int) (key : List UInt8) :
    FnM Tryz.prog 298 0 [s.av, (Rc.mk 1 tok 0 f t key).av] [] (.tup [(s.app ⟨1, tok, 0, f, t, key⟩).own, .bool (s.takes ⟨1, tok, 0, f, t, key⟩), .int .i64 0]) (s.app ⟨1, tok, 0, f, t, key⟩).objs 2 := by
  have c := takes1 s (by omega) (by omega) (by omega) tok 0 f t key
  have hc := copiedS_own s (by omega) (by omega)
  by_cases ht : s.takes ⟨1, tok, 0, f, t, key⟩ = true
  · have ea : s.app ⟨1, tok, 0, f, t, key⟩ = ({ s.tick with es := s.es ++ [⟨0, f, t, key⟩] } : Sta).lift 0 t := by unfold Sta.app; rw [if_pos ht, if_pos (.inl rfl)]
    rw [ht] at c ⊢
    rw [ea]
    refine FnM.introC Tryz.call298 Tryz.func298 rfl rfl ?_
    conv => whnf
    refine CallC.sca _ (c) ?_ ?_
    · exact rfl
    refine Grd.intro (fun h => absurd (of_decide_eq_true (p := s.seq = 999999) h) (by omega)) (fun _ => ?_)
    refine And.intro (inI64 (by omega) (by omega)) ?_
    refine Grd.intro (fun h => absurd (of_decide_eq_true h) (by omega)) (fun _ => ?_)
    conv => whnf
    refine CallC.k [] hc rfl rfl (AVsle.refl _) trivial rfl ?_
    refine And.intro (inI64 (by omega) (by omega)) ?_
    refine DrawC.mk 5 rfl (by kernel_rfl) ?_
    conv => whnf
    refine PCallC.sca _ (entry_fn ⟨1, tok, 0, f, t, key⟩) rfl ?_
    refine And.intro ⟨show (s.es.length + 1) * 40 ≤ 140737488355328 by omega, all1 rfl⟩ ?_
    refine And.intro ⟨show (0 : Int) ≤ 0 by omega, show (0 : Int) < ((3 : Nat) : Int) by omega⟩ ?_
    exact And.intro trivial ⟨[(11, 0), (4, 1)], rfl, AVle.refl _, ⟨arr_next (f := En.row) rfl rfl, MOle.refl _, trivial⟩⟩
  · have ht : s.takes ⟨1, tok, 0, f, t, key⟩ = false := by simpa using ht
    have ea : s.app ⟨1, tok, 0, f, t, key⟩ = s.tick := by unfold Sta.app; rw [if_neg (by rw [ht]; simp)]
    rw [ht] at c ⊢
    rw [ea]
    refine FnM.introC Tryz.call298 Tryz.func298 rfl rfl ?_
    conv => whnf
    refine CallC.sca _ (c) ?_ ?_
    · exact rfl
    refine Grd.intro (fun h => absurd (of_decide_eq_true (p := s.seq = 999999) h) (by omega)) (fun _ => ?_)
    conv => whnf
    refine CallC.k [] hc rfl rfl (AVsle.refl _) trivial rfl ?_
    refine And.intro (inI64 (by omega) (by omega)) ?_
    exact And.intro trivial ⟨[(3, 0), (4, 1)], rfl, AVle.refl _, ⟨MOle.refl _, MOle.refl _, trivial⟩⟩
theorem apply3_1 (s : Sta) (hL : s.es.length + s.ts.length < 4096) (hq : 0 ≤ s.seq ∧ s.seq < 999999) (tok f t : Int) (hf : 0 ≤ f ∧ f ≤ 1000000) (key : List UInt8) :
    FnM Tryz.prog 298 0 [s.av, (Rc.mk 3 tok 1 f t key).av] [] (.tup [(s.app ⟨3, tok, 1, f, t, key⟩).own, .bool (s.takes ⟨3, tok, 1, f, t, key⟩), .int .i64 0]) (s.app ⟨3, tok, 1, f, t, key⟩).objs 2 := by
  have c := takes3_1 s (by omega) (by omega) tok f t hf key
  have hc := copiedS_own s (by omega) (by omega)
  by_cases ht : s.takes ⟨3, tok, 1, f, t, key⟩ = true
  · have ea : s.app ⟨3, tok, 1, f, t, key⟩ = ({ s.tick with es := s.es ++ [⟨1, f, t, key⟩] } : Sta).lift 1 t := by unfold Sta.app; rw [if_pos ht, if_pos (.inr rfl)]
    rw [ht] at c ⊢
    rw [ea]
    refine FnM.introC Tryz.call298 Tryz.func298 rfl rfl ?_
    conv => whnf
    refine CallC.sca _ (c) ?_ ?_
    · exact rfl
    refine Grd.intro (fun h => absurd (of_decide_eq_true (p := s.seq = 999999) h) (by omega)) (fun _ => ?_)
    refine And.intro (inI64 (by omega) (by omega)) ?_
    refine Grd.intro (fun h => absurd (of_decide_eq_true h) (by omega)) (fun _ => ?_)
    conv => whnf
    refine CallC.k [] hc rfl rfl (AVsle.refl _) trivial rfl ?_
    refine And.intro (inI64 (by omega) (by omega)) ?_
    refine DrawC.mk 5 rfl (by kernel_rfl) ?_
    conv => whnf
    refine PCallC.sca _ (entry_fn ⟨3, tok, 1, f, t, key⟩) rfl ?_
    refine And.intro ⟨show (s.es.length + 1) * 40 ≤ 140737488355328 by omega, all1 rfl⟩ ?_
    refine And.intro ⟨show (0 : Int) ≤ 1 by omega, show (1 : Int) < ((3 : Nat) : Int) by omega⟩ ?_
    exact And.intro trivial ⟨[(11, 0), (4, 1)], rfl, AVle.refl _, ⟨arr_next (f := En.row) rfl rfl, MOle.refl _, trivial⟩⟩
  · have ht : s.takes ⟨3, tok, 1, f, t, key⟩ = false := by simpa using ht
    have ea : s.app ⟨3, tok, 1, f, t, key⟩ = s.tick := by unfold Sta.app; rw [if_neg (by rw [ht]; simp)]
    rw [ht] at c ⊢
    rw [ea]
    refine FnM.introC Tryz.call298 Tryz.func298 rfl rfl ?_
    conv => whnf
    refine CallC.sca _ (c) ?_ ?_
    · exact rfl
    refine Grd.intro (fun h => absurd (of_decide_eq_true (p := s.seq = 999999) h) (by omega)) (fun _ => ?_)
    conv => whnf
    refine CallC.k [] hc rfl rfl (AVsle.refl _) trivial rfl ?_
    refine And.intro (inI64 (by omega) (by omega)) ?_
    exact And.intro trivial ⟨[(3, 0), (4, 1)], rfl, AVle.refl _, ⟨MOle.refl _, MOle.refl _, trivial⟩⟩
theorem apply3_2 (s : Sta) (hL : s.es.length + s.ts.length < 4096) (hq : 0 ≤ s.seq ∧ s.seq < 999999) (tok f t : Int) (hf : 0 ≤ f ∧ f ≤ 1000000) (key : List UInt8) :
    FnM Tryz.prog 298 0 [s.av, (Rc.mk 3 tok 2 f t key).av] [] (.tup [(s.app ⟨3, tok, 2, f, t, key⟩).own, .bool (s.takes ⟨3, tok, 2, f, t, key⟩), .int .i64 0]) (s.app ⟨3, tok, 2, f, t, key⟩).objs 2 := by
  have c := takes3_2 s (by omega) (by omega) tok f t hf key
  have hc := copiedS_own s (by omega) (by omega)
  by_cases ht : s.takes ⟨3, tok, 2, f, t, key⟩ = true
  · have ea : s.app ⟨3, tok, 2, f, t, key⟩ = ({ s.tick with es := s.es ++ [⟨2, f, t, key⟩] } : Sta).lift 2 t := by unfold Sta.app; rw [if_pos ht, if_pos (.inr rfl)]
    rw [ht] at c ⊢
    rw [ea]
    refine FnM.introC Tryz.call298 Tryz.func298 rfl rfl ?_
    conv => whnf
    refine CallC.sca _ (c) ?_ ?_
    · exact rfl
    refine Grd.intro (fun h => absurd (of_decide_eq_true (p := s.seq = 999999) h) (by omega)) (fun _ => ?_)
    refine And.intro (inI64 (by omega) (by omega)) ?_
    refine Grd.intro (fun h => absurd (of_decide_eq_true h) (by omega)) (fun _ => ?_)
    conv => whnf
    refine CallC.k [] hc rfl rfl (AVsle.refl _) trivial rfl ?_
    refine And.intro (inI64 (by omega) (by omega)) ?_
    refine DrawC.mk 5 rfl (by kernel_rfl) ?_
    conv => whnf
    refine PCallC.sca _ (entry_fn ⟨3, tok, 2, f, t, key⟩) rfl ?_
    refine And.intro ⟨show (s.es.length + 1) * 40 ≤ 140737488355328 by omega, all1 rfl⟩ ?_
    refine And.intro ⟨show (0 : Int) ≤ 2 by omega, show (2 : Int) < ((3 : Nat) : Int) by omega⟩ ?_
    exact And.intro trivial ⟨[(11, 0), (4, 1)], rfl, AVle.refl _, ⟨arr_next (f := En.row) rfl rfl, MOle.refl _, trivial⟩⟩
  · have ht : s.takes ⟨3, tok, 2, f, t, key⟩ = false := by simpa using ht
    have ea : s.app ⟨3, tok, 2, f, t, key⟩ = s.tick := by unfold Sta.app; rw [if_neg (by rw [ht]; simp)]
    rw [ht] at c ⊢
    rw [ea]
    refine FnM.introC Tryz.call298 Tryz.func298 rfl rfl ?_
    conv => whnf
    refine CallC.sca _ (c) ?_ ?_
    · exact rfl
    refine Grd.intro (fun h => absurd (of_decide_eq_true (p := s.seq = 999999) h) (by omega)) (fun _ => ?_)
    conv => whnf
    refine CallC.k [] hc rfl rfl (AVsle.refl _) trivial rfl ?_
    refine And.intro (inI64 (by omega) (by omega)) ?_
    exact And.intro trivial ⟨[(3, 0), (4, 1)], rfl, AVle.refl _, ⟨MOle.refl _, MOle.refl _, trivial⟩⟩
theorem apply2 (s : Sta) (hL : s.es.length + s.ts.length < 4096) (hq : 0 ≤ s.seq ∧ s.seq < 999999) (tok tier f t : Int) (key : List UInt8) :
    FnM Tryz.prog 298 0 [s.av, (Rc.mk 2 tok tier f t key).av] [] (.tup [(s.app ⟨2, tok, tier, f, t, key⟩).own, .bool (s.takes ⟨2, tok, tier, f, t, key⟩), .int .i64 0]) (s.app ⟨2, tok, tier, f, t, key⟩).objs 2 := by
  have c := takes2 s tok tier f t key
  have hc := copiedS_own s (by omega) (by omega)
  by_cases ht : s.takes ⟨2, tok, tier, f, t, key⟩ = true
  · have ea : s.app ⟨2, tok, tier, f, t, key⟩ = { s.tick with fence := tok } := by unfold Sta.app; rw [if_pos ht, if_neg (show ¬ ((2 : Int) = 1 ∨ (2 : Int) = 3) by decide), if_pos rfl]
    rw [ht] at c ⊢
    rw [ea]
    refine FnM.introC Tryz.call298 Tryz.func298 rfl rfl ?_
    conv => whnf
    refine CallC.sca _ (c) ?_ ?_
    · exact rfl
    refine Grd.intro (fun h => absurd (of_decide_eq_true (p := s.seq = 999999) h) (by omega)) (fun _ => ?_)
    conv => whnf
    refine CallC.k [] hc rfl rfl (AVsle.refl _) trivial rfl ?_
    refine And.intro (inI64 (by omega) (by omega)) ?_
    exact And.intro trivial ⟨[(3, 0), (4, 1)], rfl, AVle.refl _, ⟨MOle.refl _, MOle.refl _, trivial⟩⟩
  · have ht : s.takes ⟨2, tok, tier, f, t, key⟩ = false := by simpa using ht
    have ea : s.app ⟨2, tok, tier, f, t, key⟩ = s.tick := by unfold Sta.app; rw [if_neg (by rw [ht]; simp)]
    rw [ht] at c ⊢
    rw [ea]
    refine FnM.introC Tryz.call298 Tryz.func298 rfl rfl ?_
    conv => whnf
    refine CallC.sca _ (c) ?_ ?_
    · exact rfl
    refine Grd.intro (fun h => absurd (of_decide_eq_true (p := s.seq = 999999) h) (by omega)) (fun _ => ?_)
    conv => whnf
    refine CallC.k [] hc rfl rfl (AVsle.refl _) trivial rfl ?_
    refine And.intro (inI64 (by omega) (by omega)) ?_
    exact And.intro trivial ⟨[(3, 0), (4, 1)], rfl, AVle.refl _, ⟨MOle.refl _, MOle.refl _, trivial⟩⟩
theorem apply4_0 (s : Sta) (hL : s.es.length + s.ts.length < 4096) (hq : 0 ≤ s.seq ∧ s.seq < 999999) (tok f t : Int) (key : List UInt8) :
    FnM Tryz.prog 298 0 [s.av, (Rc.mk 4 tok 0 f t key).av] [] (.tup [(s.app ⟨4, tok, 0, f, t, key⟩).own, .bool (s.takes ⟨4, tok, 0, f, t, key⟩), .int .i64 0]) (s.app ⟨4, tok, 0, f, t, key⟩).objs 2 := by
  have c := takes4_0 s (by omega) tok f t key
  have hc := copiedS_own s (by omega) (by omega)
  by_cases ht : s.takes ⟨4, tok, 0, f, t, key⟩ = true
  · have ea : s.app ⟨4, tok, 0, f, t, key⟩ = ({ s.tick with es := noE key s.es, ts := s.ts ++ [⟨s.seq + 1, key⟩] } : Sta).lower 0 t := by unfold Sta.app; rw [if_pos ht, if_neg (show ¬ ((4 : Int) = 1 ∨ (4 : Int) = 3) by decide), if_neg (show ¬ (4 : Int) = 2 by decide), if_pos rfl]
    have hany : s.es.any (fun e => decide (e.key = key)) = true := noE_any (r := ⟨4, tok, 0, f, t, key⟩) (takes_4 ht rfl)
    have hd := DelEn_some s.es (by omega) 323 (Rc.mk 4 tok 0 f t key).row (fun e => decide (e.key = key)) (fun e _ => applyE_fn e ⟨4, tok, 0, f, t, key⟩) hany
    rw [ht] at c ⊢
    rw [ea]
    refine FnM.introC Tryz.call298 Tryz.func298 rfl rfl ?_
    conv => whnf
    refine CallC.sca _ (c) ?_ ?_
    · exact rfl
    refine Grd.intro (fun h => absurd (of_decide_eq_true (p := s.seq = 999999) h) (by omega)) (fun _ => ?_)
    conv => whnf
    refine CallC.k [] hc rfl rfl (AVsle.refl _) trivial rfl ?_
    refine And.intro (inI64 (by omega) (by omega)) ?_
    conv => whnf
    refine CallC.m [(3, 0)] hd rfl rfl (AVsle.refl _) ⟨MOle.refl _, trivial⟩ rfl ⟨fun i hi => rfl, trivial⟩ rfl ?_
    refine And.intro ⟨show (s.ts.length + 1) * 24 ≤ 140737488355328 by omega, all1 rfl⟩ ?_
    refine And.intro ⟨show (0 : Int) ≤ 0 by omega, show (0 : Int) < ((3 : Nat) : Int) by omega⟩ ?_
    exact And.intro trivial ⟨[(6, 0), (9, 1)], rfl, AVle.refl _, ⟨MOle.refl _, arr_next (f := Tb.row) rfl rfl, trivial⟩⟩
  · have ht : s.takes ⟨4, tok, 0, f, t, key⟩ = false := by simpa using ht
    have ea : s.app ⟨4, tok, 0, f, t, key⟩ = s.tick := by unfold Sta.app; rw [if_neg (by rw [ht]; simp)]
    rw [ht] at c ⊢
    rw [ea]
    refine FnM.introC Tryz.call298 Tryz.func298 rfl rfl ?_
    conv => whnf
    refine CallC.sca _ (c) ?_ ?_
    · exact rfl
    refine Grd.intro (fun h => absurd (of_decide_eq_true (p := s.seq = 999999) h) (by omega)) (fun _ => ?_)
    conv => whnf
    refine CallC.k [] hc rfl rfl (AVsle.refl _) trivial rfl ?_
    refine And.intro (inI64 (by omega) (by omega)) ?_
    exact And.intro trivial ⟨[(3, 0), (4, 1)], rfl, AVle.refl _, ⟨MOle.refl _, MOle.refl _, trivial⟩⟩
theorem apply4_1 (s : Sta) (hL : s.es.length + s.ts.length < 4096) (hq : 0 ≤ s.seq ∧ s.seq < 999999) (tok f t : Int) (key : List UInt8) :
    FnM Tryz.prog 298 0 [s.av, (Rc.mk 4 tok 1 f t key).av] [] (.tup [(s.app ⟨4, tok, 1, f, t, key⟩).own, .bool (s.takes ⟨4, tok, 1, f, t, key⟩), .int .i64 0]) (s.app ⟨4, tok, 1, f, t, key⟩).objs 2 := by
  have c := takes4_1 s (by omega) tok f t key
  have hc := copiedS_own s (by omega) (by omega)
  by_cases ht : s.takes ⟨4, tok, 1, f, t, key⟩ = true
  · have ea : s.app ⟨4, tok, 1, f, t, key⟩ = ({ s.tick with es := noE key s.es, ts := s.ts ++ [⟨s.seq + 1, key⟩] } : Sta).lower 1 t := by unfold Sta.app; rw [if_pos ht, if_neg (show ¬ ((4 : Int) = 1 ∨ (4 : Int) = 3) by decide), if_neg (show ¬ (4 : Int) = 2 by decide), if_pos rfl]
    have hany : s.es.any (fun e => decide (e.key = key)) = true := noE_any (r := ⟨4, tok, 1, f, t, key⟩) (takes_4 ht rfl)
    have hd := DelEn_some s.es (by omega) 323 (Rc.mk 4 tok 1 f t key).row (fun e => decide (e.key = key)) (fun e _ => applyE_fn e ⟨4, tok, 1, f, t, key⟩) hany
    rw [ht] at c ⊢
    rw [ea]
    refine FnM.introC Tryz.call298 Tryz.func298 rfl rfl ?_
    conv => whnf
    refine CallC.sca _ (c) ?_ ?_
    · exact rfl
    refine Grd.intro (fun h => absurd (of_decide_eq_true (p := s.seq = 999999) h) (by omega)) (fun _ => ?_)
    conv => whnf
    refine CallC.k [] hc rfl rfl (AVsle.refl _) trivial rfl ?_
    refine And.intro (inI64 (by omega) (by omega)) ?_
    conv => whnf
    refine CallC.m [(3, 0)] hd rfl rfl (AVsle.refl _) ⟨MOle.refl _, trivial⟩ rfl ⟨fun i hi => rfl, trivial⟩ rfl ?_
    refine And.intro ⟨show (s.ts.length + 1) * 24 ≤ 140737488355328 by omega, all1 rfl⟩ ?_
    refine And.intro ⟨show (0 : Int) ≤ 1 by omega, show (1 : Int) < ((3 : Nat) : Int) by omega⟩ ?_
    exact And.intro trivial ⟨[(6, 0), (9, 1)], rfl, AVle.refl _, ⟨MOle.refl _, arr_next (f := Tb.row) rfl rfl, trivial⟩⟩
  · have ht : s.takes ⟨4, tok, 1, f, t, key⟩ = false := by simpa using ht
    have ea : s.app ⟨4, tok, 1, f, t, key⟩ = s.tick := by unfold Sta.app; rw [if_neg (by rw [ht]; simp)]
    rw [ht] at c ⊢
    rw [ea]
    refine FnM.introC Tryz.call298 Tryz.func298 rfl rfl ?_
    conv => whnf
    refine CallC.sca _ (c) ?_ ?_
    · exact rfl
    refine Grd.intro (fun h => absurd (of_decide_eq_true (p := s.seq = 999999) h) (by omega)) (fun _ => ?_)
    conv => whnf
    refine CallC.k [] hc rfl rfl (AVsle.refl _) trivial rfl ?_
    refine And.intro (inI64 (by omega) (by omega)) ?_
    exact And.intro trivial ⟨[(3, 0), (4, 1)], rfl, AVle.refl _, ⟨MOle.refl _, MOle.refl _, trivial⟩⟩
theorem apply4_2 (s : Sta) (hL : s.es.length + s.ts.length < 4096) (hq : 0 ≤ s.seq ∧ s.seq < 999999) (tok f t : Int) (key : List UInt8) :
    FnM Tryz.prog 298 0 [s.av, (Rc.mk 4 tok 2 f t key).av] [] (.tup [(s.app ⟨4, tok, 2, f, t, key⟩).own, .bool (s.takes ⟨4, tok, 2, f, t, key⟩), .int .i64 0]) (s.app ⟨4, tok, 2, f, t, key⟩).objs 2 := by
  have c := takes4_2 s (by omega) tok f t key
  have hc := copiedS_own s (by omega) (by omega)
  by_cases ht : s.takes ⟨4, tok, 2, f, t, key⟩ = true
  · have ea : s.app ⟨4, tok, 2, f, t, key⟩ = ({ s.tick with es := noE key s.es, ts := s.ts ++ [⟨s.seq + 1, key⟩] } : Sta).lower 2 t := by unfold Sta.app; rw [if_pos ht, if_neg (show ¬ ((4 : Int) = 1 ∨ (4 : Int) = 3) by decide), if_neg (show ¬ (4 : Int) = 2 by decide), if_pos rfl]
    have hany : s.es.any (fun e => decide (e.key = key)) = true := noE_any (r := ⟨4, tok, 2, f, t, key⟩) (takes_4 ht rfl)
    have hd := DelEn_some s.es (by omega) 323 (Rc.mk 4 tok 2 f t key).row (fun e => decide (e.key = key)) (fun e _ => applyE_fn e ⟨4, tok, 2, f, t, key⟩) hany
    rw [ht] at c ⊢
    rw [ea]
    refine FnM.introC Tryz.call298 Tryz.func298 rfl rfl ?_
    conv => whnf
    refine CallC.sca _ (c) ?_ ?_
    · exact rfl
    refine Grd.intro (fun h => absurd (of_decide_eq_true (p := s.seq = 999999) h) (by omega)) (fun _ => ?_)
    conv => whnf
    refine CallC.k [] hc rfl rfl (AVsle.refl _) trivial rfl ?_
    refine And.intro (inI64 (by omega) (by omega)) ?_
    conv => whnf
    refine CallC.m [(3, 0)] hd rfl rfl (AVsle.refl _) ⟨MOle.refl _, trivial⟩ rfl ⟨fun i hi => rfl, trivial⟩ rfl ?_
    refine And.intro ⟨show (s.ts.length + 1) * 24 ≤ 140737488355328 by omega, all1 rfl⟩ ?_
    refine And.intro ⟨show (0 : Int) ≤ 2 by omega, show (2 : Int) < ((3 : Nat) : Int) by omega⟩ ?_
    exact And.intro trivial ⟨[(6, 0), (9, 1)], rfl, AVle.refl _, ⟨MOle.refl _, arr_next (f := Tb.row) rfl rfl, trivial⟩⟩
  · have ht : s.takes ⟨4, tok, 2, f, t, key⟩ = false := by simpa using ht
    have ea : s.app ⟨4, tok, 2, f, t, key⟩ = s.tick := by unfold Sta.app; rw [if_neg (by rw [ht]; simp)]
    rw [ht] at c ⊢
    rw [ea]
    refine FnM.introC Tryz.call298 Tryz.func298 rfl rfl ?_
    conv => whnf
    refine CallC.sca _ (c) ?_ ?_
    · exact rfl
    refine Grd.intro (fun h => absurd (of_decide_eq_true (p := s.seq = 999999) h) (by omega)) (fun _ => ?_)
    conv => whnf
    refine CallC.k [] hc rfl rfl (AVsle.refl _) trivial rfl ?_
    refine And.intro (inI64 (by omega) (by omega)) ?_
    exact And.intro trivial ⟨[(3, 0), (4, 1)], rfl, AVle.refl _, ⟨MOle.refl _, MOle.refl _, trivial⟩⟩
theorem apply5 (s : Sta) (hL : s.es.length + s.ts.length < 4096) (hq : 0 ≤ s.seq ∧ s.seq < 999999) (tok tier f t : Int) (key : List UInt8) :
    FnM Tryz.prog 298 0 [s.av, (Rc.mk 5 tok tier f t key).av] [] (.tup [(s.app ⟨5, tok, tier, f, t, key⟩).own, .bool (s.takes ⟨5, tok, tier, f, t, key⟩), .int .i64 0]) (s.app ⟨5, tok, tier, f, t, key⟩).objs 2 := by
  have c := takes5 s (by omega) tok tier f t key
  have hc := copiedS_own s (by omega) (by omega)
  by_cases ht : s.takes ⟨5, tok, tier, f, t, key⟩ = true
  · have ea : s.app ⟨5, tok, tier, f, t, key⟩ = { s.tick with ts := noT key s.ts } := by unfold Sta.app; rw [if_pos ht, if_neg (show ¬ ((5 : Int) = 1 ∨ (5 : Int) = 3) by decide), if_neg (show ¬ (5 : Int) = 2 by decide), if_neg (show ¬ (5 : Int) = 4 by decide)]
    have hany : s.ts.any (fun e => decide (e.key = key)) = true := (fi_any).symm.trans (show s.takes ⟨5, tok, tier, f, t, key⟩ = true from ht)
    have hd := DelTb_some s.ts (by omega) 325 (Rc.mk 5 tok tier f t key).row (fun e => decide (e.key = key)) (fun e _ => applyT_fn e ⟨5, tok, tier, f, t, key⟩) hany
    rw [ht] at c ⊢
    rw [ea]
    refine FnM.introC Tryz.call298 Tryz.func298 rfl rfl ?_
    conv => whnf
    refine CallC.sca _ (c) ?_ ?_
    · exact rfl
    refine Grd.intro (fun h => absurd (of_decide_eq_true (p := s.seq = 999999) h) (by omega)) (fun _ => ?_)
    conv => whnf
    refine CallC.k [] hc rfl rfl (AVsle.refl _) trivial rfl ?_
    refine And.intro (inI64 (by omega) (by omega)) ?_
    conv => whnf
    refine CallC.m [(4, 0)] hd rfl rfl (AVsle.refl _) ⟨MOle.refl _, trivial⟩ rfl ⟨fun i hi => rfl, trivial⟩ rfl ?_
    exact And.intro trivial ⟨[(3, 0), (6, 1)], rfl, AVle.refl _, ⟨MOle.refl _, MOle.refl _, trivial⟩⟩
  · have ht : s.takes ⟨5, tok, tier, f, t, key⟩ = false := by simpa using ht
    have ea : s.app ⟨5, tok, tier, f, t, key⟩ = s.tick := by unfold Sta.app; rw [if_neg (by rw [ht]; simp)]
    rw [ht] at c ⊢
    rw [ea]
    refine FnM.introC Tryz.call298 Tryz.func298 rfl rfl ?_
    conv => whnf
    refine CallC.sca _ (c) ?_ ?_
    · exact rfl
    refine Grd.intro (fun h => absurd (of_decide_eq_true (p := s.seq = 999999) h) (by omega)) (fun _ => ?_)
    conv => whnf
    refine CallC.k [] hc rfl rfl (AVsle.refl _) trivial rfl ?_
    refine And.intro (inI64 (by omega) (by omega)) ?_
    exact And.intro trivial ⟨[(3, 0), (4, 1)], rfl, AVle.refl _, ⟨MOle.refl _, MOle.refl _, trivial⟩⟩
theorem apply_fn (s : Sta) (hL : s.es.length + s.ts.length < 4096) (hq : 0 ≤ s.seq ∧ s.seq < 999999) (r : Rc) (hr : r.ok = true) :
    FnM Tryz.prog 298 0 [s.av, r.av] [] (.tup [(s.app r).own, .bool (s.takes r), .int .i64 0]) (s.app r).objs 2 := by
  obtain ⟨k, tok, tier, f, t, key⟩ := r
  rcases kinds hr with ⟨rfl, rfl⟩ | rfl | ⟨rfl, h, hf⟩ | ⟨rfl, h⟩ | rfl
  · exact apply1 s hL hq tok f t key
  · exact apply2 s hL hq tok tier f t key
  · rcases h with rfl | rfl
    · exact apply3_1 s hL hq tok f t hf key
    · exact apply3_2 s hL hq tok f t hf key
  · rcases h with rfl | rfl | rfl
    · exact apply4_0 s hL hq tok f t key
    · exact apply4_1 s hL hq tok f t key
    · exact apply4_2 s hL hq tok f t key
  · exact apply5 s hL hq tok tier f t key
end Go.Proofs.YtbphkhlgcneapaaGreatDoor
