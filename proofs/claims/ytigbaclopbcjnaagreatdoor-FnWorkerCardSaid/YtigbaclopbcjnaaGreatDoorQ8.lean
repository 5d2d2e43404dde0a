/- Contracts of functions that the claim reaches, and the plain law of what they compute; each theorem bears its own conditions. -/
import Derived.Test.YtigbaclopbcjnaaGreatDoorQ6
import Derived.Test.YtigbaclopbcjnaaGreatDoorQ5
import Derived.Test.YtigbaclopbcjnaaGreatDoorV52
import Derived.Test.YtigbaclopbcjnaaGreatDoorQ4
set_option linter.unusedVariables false
set_option linter.constructorNameAsVariable false
set_option linter.unusedSimpArgs false
set_option maxRecDepth 20000
namespace Go.Proofs.YtigbaclopbcjnaaGreatDoor
open Go Go.Vw
theorem filter_snoc {α : Type} [Inhabited α] {L : List α} {p : α → Bool} {i : Nat} (h : i < L.length) : (L.take (i + 1)).filter p = if p (ix L i) = true then (L.take i).filter p ++ [ix L i] else (L.take i).filter p := by
 rw [take_snoc h, List.filter_append]
 by_cases hp : p (ix L i) = true
 · rw [if_pos hp]; simp [hp]
 · rw [if_neg hp]; simp [hp]
def kept {α : Type} (p : α → Bool) (L : List α) (j : Nat) : List α := ((L.take j).filter fun e => !p e) ++ L.drop ((L.take j).filter fun e => !p e).length
theorem kept_at {α : Type} [Inhabited α] {L : List α} {p : α → Bool} {j : Nat} (h : j < L.length) (hk : ((L.take j).filter fun e => !p e).length ≤ j) : ix (kept p L j) j = ix L j := by
 unfold kept
 rw [ix_app_r hk, ix_drop]
 congr 1; omega
theorem kept_next {α : Type} [Inhabited α] {L : List α} {p : α → Bool} {j : Nat} (h : j < L.length) (hp : p (ix L j) = false) (hk : ((L.take j).filter fun e => !p e).length < j) : ∀ k, k < L.length → ix (kept p L (j + 1)) k = if k = ((L.take j).filter fun e => !p e).length then ix L j else ix (kept p L j) k := by
 intro k hkL
 have hsn := filter_snoc (p := fun e => !p e) h
 rw [if_pos (by rw [hp]; rfl)] at hsn
 unfold kept
 rw [hsn]
 generalize (L.take j).filter (fun e => !p e) = K at hk
 have e1 : (K ++ [ix L j]).length = K.length + 1 := by simp
 split
 · rename_i hc
   subst hc
   rw [ix_app_l (by omega), ix_app_r (Nat.le_refl _), Nat.sub_self]; rfl
 · rename_i hc
   rcases Nat.lt_or_ge k K.length with h1 | h1
   · rw [ix_app_l (by omega), ix_app_l h1, ix_app_l h1]
   · rw [ix_app_r (by omega), ix_app_r h1, ix_drop, ix_drop, e1]
     congr 1; omega
theorem filter_lt {α : Type} [Inhabited α] {L : List α} {p : α → Bool} {i j : Nat} (hij : i < j) (hj : j ≤ L.length) (h : p (ix L i) = false) : ((L.take j).filter p).length < j := by
 have hi : i < L.length := by omega
 have e : L.take j = L.take i ++ (ix L i :: (L.drop (i + 1)).take (j - (i + 1))) := by
  have h1 : L = L.take i ++ (ix L i :: L.drop (i + 1)) := by rw [ix_lt hi]; simp
  have h2 := congrArg (List.take j) h1
  rw [h2, List.take_append, List.take_of_length_le (by simp; omega)]
  congr 1
  have : j - (L.take i).length = (j - (i + 1)) + 1 := by simp; omega
  rw [this, List.take_succ_cons]
 rw [e, List.filter_append, List.filter_cons_of_neg (by rw [h]; simp), List.length_append]
 have a := List.length_filter_le p (L.take i)
 have b := List.length_filter_le p ((L.drop (i + 1)).take (j - (i + 1)))
 simp only [List.length_take, List.length_drop] at a b
 omega
theorem DelEn_some (L : List En) (hL : L.length ≤ 1000000) (F : Nat) (row : List AV) (p : En → Bool) (hp : ∀ e ∈ L, VFn Tryz.prog F [e.av, .eptr row 0] (.bool (p e))) (hs : L.any p = true) :
 FnM Tryz.prog 175 1 [.osl 0, .fn (.func F) [] [.eptr row 0]] [(0, .arr 58 4 L.length fun i => (ix L i).row)] (.osl 1) [(1, .arr 58 4 (L.filter fun e => !p e).length fun i => (ix (L.filter fun e => !p e) i).row)] 2 := by
 have c := IndexEn_1 L (by omega) F row p hp
 obtain ⟨i0, hi0, hfi, hp0⟩ : ∃ i0 : Nat, i0 < L.length ∧ fi p L = (i0 : Int) ∧ p (ix L i0) = true ∧ ∀ j, j < i0 → p (ix L j) = false := by
  rcases fi_first p L with ⟨h, _⟩ | h
  · have := fi_any (p := p) (L := L)
    rw [h, hs] at this; simp at this
  · exact h
 rw [hfi] at c
 have hk0 : (L.take (i0 + 1)).filter (fun e => !p e) = L.take i0 := by
  rw [filter_snoc hi0, if_neg (by rw [hp0.1]; simp)]
  exact List.filter_eq_self.2 fun x hx => by
   obtain ⟨j, hj, rfl⟩ := List.getElem_of_mem hx
   have hj' : j < i0 := by simp at hj; omega
   have := hp0.2 j hj'
   rw [ix_lt (by omega)] at this
   simp [this]
 have hlt : ∀ j, i0 < j → j ≤ L.length → ((L.take j).filter fun e => !p e).length < j := fun j h1 h2 => filter_lt h1 h2 (by rw [hp0.1]; rfl)
 refine FnM.introC Tryz.call175 Tryz.func175 rfl rfl ?_
 conv => whnf
 refine CallC.sca _ (c) ?_ ?_
 · exact rfl
 refine And.intro (inI64 (by omega) (by omega)) ?_
 refine LoopC.mk (fun j : Nat => i0 < j ∧ j ≤ L.length) (fun j => [(0, .osl 0), (1, .fn (.func F) [] [.eptr row 0]), (5, .int .i64 ((L.take j).filter fun e => !p e).length), (6, .int .i64 j)])
  (fun j => [(0, .arr 58 4 L.length fun i => (ix (kept p L j) i).row)]) 1 (fun j => L.length - j) (i0 + 1)
  ⟨⟨by omega, hi0⟩, [(0, 0)], rfl, rfl, ⟨AVle.refl _, AVle.refl _, AVle.of_eq (congrArg (AV.int .i64) (by rw [hk0]; simp; omega)), AVle.of_eq (congrArg (AV.int .i64) (by simp)), trivial⟩, ⟨MOle.arr rfl fun i hi => by
    have e : kept p L (i0 + 1) = L := by unfold kept; rw [hk0]; simp only [List.length_take]; rw [Nat.min_eq_left (by omega)]; simp
    rw [e], trivial⟩⟩ ?_
 intro j hj
 obtain ⟨hj1, hj2⟩ := hj
 have hkl := hlt j hj1 hj2
 refine Grd.intro (fun h2 => ?_) (fun h2 => ?_)
 · have hjn : j < L.length := by have := of_decide_eq_true h2; omega
   have hsn := filter_snoc (p := fun e => !p e) hjn
   have e := kept_at (p := p) hjn (Nat.le_of_lt hkl)
   have cp := hp (ix L j) (getD_mem hjn)
   rw [← e] at cp
   refine And.intro (by omega) ?_
   conv => whnf
   refine CallC.sca _ (cp) ?_ ?_
   · exact rfl
   refine Grd.intro (fun h3 => ?_) (fun h3 => ?_)
   · have h3 : p (ix L j) = false := by rw [e] at h3; simpa using h3
     rw [h3] at hsn
     have hl := hlt (j + 1) (by omega) hjn
     rw [hsn] at hl
     simp at hl
     refine And.intro (by omega) ?_
     refine And.intro (inI64 (by omega) (by omega)) ?_
     refine And.intro (inI64 (by omega) (by omega)) ?_
     refine ⟨j + 1, ⟨by omega, hjn⟩, by omega, [(0, 0)], rfl, rfl, ⟨AVle.refl _, AVle.refl _, AVle.of_eq (congrArg (AV.int .i64) (by rw [hsn]; simp)), AVle.of_eq (congrArg (AV.int .i64) (by simp)), trivial⟩, ⟨MOle.arr rfl fun k hk => ?_, trivial⟩⟩
     have en := kept_next hjn h3 hkl k hk
     by_cases hkc : k = ((L.take j).filter fun e => !p e).length
     · rw [en, if_pos hkc, ← e]
       show (bif Nat.beq k ((L.take j).filter fun e => !p e).length then _ else _) = _
       rw [hkc, beq_t]; rfl
     · rw [en, if_neg hkc]
       show (bif Nat.beq k ((L.take j).filter fun e => !p e).length then _ else _) = _
       rw [beq_f hkc]; rfl
   · have h3 : p (ix L j) = true := by rw [e] at h3; simpa using h3
     rw [h3] at hsn
     refine And.intro (inI64 (by omega) (by omega)) ?_
     refine ⟨j + 1, ⟨by omega, hjn⟩, by omega, [(0, 0)], rfl, rfl, ⟨AVle.refl _, AVle.refl _, AVle.of_eq (congrArg (AV.int .i64) (by rw [hsn]; simp)), AVle.of_eq (congrArg (AV.int .i64) (by simp)), trivial⟩, ⟨MOle.arr rfl fun k hk => ?_, trivial⟩⟩
     have e2 : kept p L (j + 1) = kept p L j := by unfold kept; rw [hsn]; simp
     rw [e2]
 · have : j = L.length := by have := of_decide_eq_false h2; omega
   subst this
   have eT : L.take L.length = L := List.take_of_length_le (Nat.le_refl _)
   obtain ⟨c, hc⟩ : ∃ c, c = ((L.take L.length).filter fun e => !p e).length := ⟨_, rfl⟩
   have hk : ∀ k, k < c → ix (kept p L L.length) k = ix (L.filter fun e => !p e) k := fun k hk => by
    unfold kept
    rw [ix_app_l (by omega), eT]
   have hcl : c = (L.filter fun e => !p e).length := by rw [hc, eT]
   rw [← hc] at hkl
   rw [← hc]
   refine And.intro ⟨by omega, by omega⟩ ?_
   conv => whnf
   refine OpC.clear rfl rfl rfl rfl rfl rfl rfl (by show 1 ≤ L.length - ((c : Int)).toNat; omega) ?_
   conv => whnf
   refine OpC.head rfl rfl rfl rfl rfl rfl rfl ⟨by omega, by omega⟩ ?_
   refine And.intro trivial ⟨[(0, 0), (1, 1)], rfl, AVle.refl _, ⟨MOle.arr (by show ((c : Int)).toNat = _; omega) fun k hk' => ?_, trivial⟩⟩
   have hk' : k < c := by have : k < ((c : Int)).toNat := hk'; omega
   rw [← hk k hk']
   show (bif Nat.blt k ((c : Int)).toNat then _ else _) = _
   rw [blt_t (show k < ((c : Int)).toNat by omega)]; rfl
theorem DelTb_some (L : List Tb) (hL : L.length ≤ 1000000) (F : Nat) (row : List AV) (p : Tb → Bool) (hp : ∀ e ∈ L, VFn Tryz.prog F [e.av, .eptr row 0] (.bool (p e))) (hs : L.any p = true) :
 FnM Tryz.prog 177 1 [.osl 0, .fn (.func F) [] [.eptr row 0]] [(0, .arr 170 2 L.length fun i => (ix L i).row)] (.osl 1) [(1, .arr 170 2 (L.filter fun e => !p e).length fun i => (ix (L.filter fun e => !p e) i).row)] 2 := by
 have c := IndexTb_1 L (by omega) F row p hp
 obtain ⟨i0, hi0, hfi, hp0⟩ : ∃ i0 : Nat, i0 < L.length ∧ fi p L = (i0 : Int) ∧ p (ix L i0) = true ∧ ∀ j, j < i0 → p (ix L j) = false := by
  rcases fi_first p L with ⟨h, _⟩ | h
  · have := fi_any (p := p) (L := L)
    rw [h, hs] at this; simp at this
  · exact h
 rw [hfi] at c
 have hk0 : (L.take (i0 + 1)).filter (fun e => !p e) = L.take i0 := by
  rw [filter_snoc hi0, if_neg (by rw [hp0.1]; simp)]
  exact List.filter_eq_self.2 fun x hx => by
   obtain ⟨j, hj, rfl⟩ := List.getElem_of_mem hx
   have hj' : j < i0 := by simp at hj; omega
   have := hp0.2 j hj'
   rw [ix_lt (by omega)] at this
   simp [this]
 have hlt : ∀ j, i0 < j → j ≤ L.length → ((L.take j).filter fun e => !p e).length < j := fun j h1 h2 => filter_lt h1 h2 (by rw [hp0.1]; rfl)
 refine FnM.introC Tryz.call177 Tryz.func177 rfl rfl ?_
 conv => whnf
 refine CallC.sca _ (c) ?_ ?_
 · exact rfl
 refine And.intro (inI64 (by omega) (by omega)) ?_
 refine LoopC.mk (fun j : Nat => i0 < j ∧ j ≤ L.length) (fun j => [(0, .osl 0), (1, .fn (.func F) [] [.eptr row 0]), (5, .int .i64 ((L.take j).filter fun e => !p e).length), (6, .int .i64 j)])
  (fun j => [(0, .arr 170 2 L.length fun i => (ix (kept p L j) i).row)]) 1 (fun j => L.length - j) (i0 + 1)
  ⟨⟨by omega, hi0⟩, [(0, 0)], rfl, rfl, ⟨AVle.refl _, AVle.refl _, AVle.of_eq (congrArg (AV.int .i64) (by rw [hk0]; simp; omega)), AVle.of_eq (congrArg (AV.int .i64) (by simp)), trivial⟩, ⟨MOle.arr rfl fun i hi => by
    have e : kept p L (i0 + 1) = L := by unfold kept; rw [hk0]; simp only [List.length_take]; rw [Nat.min_eq_left (by omega)]; simp
    rw [e], trivial⟩⟩ ?_
 intro j hj
 obtain ⟨hj1, hj2⟩ := hj
 have hkl := hlt j hj1 hj2
 refine Grd.intro (fun h2 => ?_) (fun h2 => ?_)
 · have hjn : j < L.length := by have := of_decide_eq_true h2; omega
   have hsn := filter_snoc (p := fun e => !p e) hjn
   have e := kept_at (p := p) hjn (Nat.le_of_lt hkl)
   have cp := hp (ix L j) (getD_mem hjn)
   rw [← e] at cp
   refine And.intro (by omega) ?_
   conv => whnf
   refine CallC.sca _ (cp) ?_ ?_
   · exact rfl
   refine Grd.intro (fun h3 => ?_) (fun h3 => ?_)
   · have h3 : p (ix L j) = false := by rw [e] at h3; simpa using h3
     rw [h3] at hsn
     have hl := hlt (j + 1) (by omega) hjn
     rw [hsn] at hl
     simp at hl
     refine And.intro (by omega) ?_
     refine And.intro (inI64 (by omega) (by omega)) ?_
     refine And.intro (inI64 (by omega) (by omega)) ?_
     refine ⟨j + 1, ⟨by omega, hjn⟩, by omega, [(0, 0)], rfl, rfl, ⟨AVle.refl _, AVle.refl _, AVle.of_eq (congrArg (AV.int .i64) (by rw [hsn]; simp)), AVle.of_eq (congrArg (AV.int .i64) (by simp)), trivial⟩, ⟨MOle.arr rfl fun k hk => ?_, trivial⟩⟩
     have en := kept_next hjn h3 hkl k hk
     by_cases hkc : k = ((L.take j).filter fun e => !p e).length
     · rw [en, if_pos hkc, ← e]
       show (bif Nat.beq k ((L.take j).filter fun e => !p e).length then _ else _) = _
       rw [hkc, beq_t]; rfl
     · rw [en, if_neg hkc]
       show (bif Nat.beq k ((L.take j).filter fun e => !p e).length then _ else _) = _
       rw [beq_f hkc]; rfl
   · have h3 : p (ix L j) = true := by rw [e] at h3; simpa using h3
     rw [h3] at hsn
     refine And.intro (inI64 (by omega) (by omega)) ?_
     refine ⟨j + 1, ⟨by omega, hjn⟩, by omega, [(0, 0)], rfl, rfl, ⟨AVle.refl _, AVle.refl _, AVle.of_eq (congrArg (AV.int .i64) (by rw [hsn]; simp)), AVle.of_eq (congrArg (AV.int .i64) (by simp)), trivial⟩, ⟨MOle.arr rfl fun k hk => ?_, trivial⟩⟩
     have e2 : kept p L (j + 1) = kept p L j := by unfold kept; rw [hsn]; simp
     rw [e2]
 · have : j = L.length := by have := of_decide_eq_false h2; omega
   subst this
   have eT : L.take L.length = L := List.take_of_length_le (Nat.le_refl _)
   obtain ⟨c, hc⟩ : ∃ c, c = ((L.take L.length).filter fun e => !p e).length := ⟨_, rfl⟩
   have hk : ∀ k, k < c → ix (kept p L L.length) k = ix (L.filter fun e => !p e) k := fun k hk => by
    unfold kept
    rw [ix_app_l (by omega), eT]
   have hcl : c = (L.filter fun e => !p e).length := by rw [hc, eT]
   rw [← hc] at hkl
   rw [← hc]
   refine And.intro ⟨by omega, by omega⟩ ?_
   conv => whnf
   refine OpC.clear rfl rfl rfl rfl rfl rfl rfl (by show 1 ≤ L.length - ((c : Int)).toNat; omega) ?_
   conv => whnf
   refine OpC.head rfl rfl rfl rfl rfl rfl rfl ⟨by omega, by omega⟩ ?_
   refine And.intro trivial ⟨[(0, 0), (1, 1)], rfl, AVle.refl _, ⟨MOle.arr (by show ((c : Int)).toNat = _; omega) fun k hk' => ?_, trivial⟩⟩
   have hk' : k < c := by have : k < ((c : Int)).toNat := hk'; omega
   rw [← hk k hk']
   show (bif Nat.blt k ((c : Int)).toNat then _ else _) = _
   rw [blt_t (show k < ((c : Int)).toNat by omega)]; rfl
def Sta.own (s : Sta) : AV := .agg [.int .i64 s.seq, .int .i64 s.fence, .osl 0, .osl 1, .int .i64 s.l0, .int .i64 s.l1, .int .i64 s.l2, .int .i64 s.h0, .int .i64 s.h1, .int .i64 s.h2]

theorem CloneEn_own (L : List En) (hL : L.length ≤ 1000000) : FnM Tryz.prog 39 0 [ents L] [] (.osl 0) [(0, .arr 58 4 L.length fun i => (ix L i).row)] 1 := by
 refine FnM.introN Tryz.call39 Tryz.func39 rfl rfl ?_
 conv => whnf
 refine OpC.isnil rfl rfl rfl rfl rfl (fun h0 => ?_) ?_
 · conv => whnf
   exact ⟨_, .inr ⟨2, 58, 4, fun i => (ix L i).row, rfl, rfl⟩, And.intro trivial ⟨[(0, 0)], rfl, AVle.refl _, ⟨MOle.arr h0.symm fun i hi => rfl, trivial⟩⟩⟩
 · conv => whnf
   refine And.intro ⟨show (0 + L.length) * 40 ≤ 140737488355328 by omega, fun i hi => rfl⟩ ?_
   conv => whnf
   exact ⟨_, .inl rfl, And.intro trivial ⟨[(1, 0)], rfl, AVle.refl _, ⟨MOle.arr (Nat.zero_add _) fun i hi => appRows_ge (Nat.zero_le _), trivial⟩⟩⟩
theorem CloneTb_own (L : List Tb) (hL : L.length ≤ 1000000) : FnM Tryz.prog 203 0 [tbs L] [] (.osl 0) [(0, .arr 170 2 L.length fun i => (ix L i).row)] 1 := by
 refine FnM.introN Tryz.call203 Tryz.func203 rfl rfl ?_
 conv => whnf
 refine OpC.isnil rfl rfl rfl rfl rfl (fun h0 => ?_) ?_
 · conv => whnf
   exact ⟨_, .inr ⟨2, 170, 2, fun i => (ix L i).row, rfl, rfl⟩, And.intro trivial ⟨[(0, 0)], rfl, AVle.refl _, ⟨MOle.arr h0.symm fun i hi => rfl, trivial⟩⟩⟩
 · conv => whnf
   refine And.intro ⟨show (0 + L.length) * 24 ≤ 140737488355328 by omega, fun i hi => rfl⟩ ?_
   conv => whnf
   exact ⟨_, .inl rfl, And.intro trivial ⟨[(1, 0)], rfl, AVle.refl _, ⟨MOle.arr (Nat.zero_add _) fun i hi => appRows_ge (Nat.zero_le _), trivial⟩⟩⟩
abbrev Sta.objs (s : Sta) : List (Nat × MO) := [(0, .arr 58 4 s.es.length fun i => (ix s.es i).row), (1, .arr 170 2 s.ts.length fun i => (ix s.ts i).row)]
theorem copiedS_own (s : Sta) (hL : s.es.length ≤ 1000000) (hT : s.ts.length ≤ 1000000) : FnM Tryz.prog 174 0 [s.av] [] s.own s.objs 2 := by
 refine FnM.introC Tryz.call174 Tryz.func174 rfl rfl ?_
 refine DrawC.mq 7 rfl (by kernel_rfl) ?_
 conv => whnf
 refine PCallQ.own (CloneEn_own s.es hL) rfl (fun i hi => rfl) ?_
 conv => whnf
 refine PCallQ.own (CloneTb_own s.ts hT) rfl (fun i hi => rfl) ?_
 exact And.intro trivial ⟨[(4, 0), (7, 1)], rfl, AVle.refl _, ⟨MOle.refl _, MOle.refl _, trivial⟩⟩
structure StoOK (s : Sto) : Prop where
 nx : 1 ≤ s.next ∧ s.next ≤ 1000000000
 len : s.os.length ≤ 300
 el : ∀ o ∈ s.os, keyOK o.key = true ∧ (1 ≤ o.ver ∧ o.ver ≤ s.next - 1) ∧ o.data.length ≤ 600
 vs : (s.os.map (·.ver)).Nodup
 ks : s.os.Pairwise fun a b => a.key < b.key
theorem pw_srt {L : List Ob} : (L.Pairwise fun a b => a.key < b.key) ↔ Srt L := by
 constructor
 · intro h i hi
   have := List.pairwise_iff_getElem.1 h i (i + 1) (by omega) hi (by omega)
   rw [ix_lt (by omega), ix_lt hi]; exact this
 · intro h
   refine List.pairwise_iff_getElem.2 fun i j hi hj hij => ?_
   have := h.lt hij hj
   rw [ix_lt hi, ix_lt hj] at this; exact this
theorem nodup_take {L : List Int} : L.Nodup ↔ ∀ i, i < L.length → ix L i ∉ L.take i := by
 constructor
 · intro h i hi hm
   obtain ⟨j, hj, e⟩ := List.getElem_of_mem hm
   have hj' : j < i := by simp at hj; omega
   have := List.pairwise_iff_getElem.1 h j i (by omega) hi hj'
   rw [ix_lt hi] at e
   simp at e
   exact this e
 · intro h
   refine List.pairwise_iff_getElem.2 fun i j hi hj hij e => ?_
   refine h j hj ?_
   rw [ix_lt hj, ← e]
   exact List.mem_take_iff_getElem.2 ⟨i, by omega, rfl⟩
theorem stoOK_iff (s : Sto) : s.ok = true ↔ StoOK s := by
 have hv : ∀ i, i < s.os.length → ix (s.os.map (·.ver)) i = (ix s.os i).ver := fun i hi => by rw [ix_lt (by simpa using hi), ix_lt hi, List.getElem_map]
 constructor
 · intro h
   obtain ⟨h1, h2, h3⟩ := Sto.ok_at h
   have h3' : ∀ i, i < s.os.length → keyOK (ix s.os i).key = true ∧ (1 ≤ (ix s.os i).ver ∧ (ix s.os i).ver ≤ s.next - 1) ∧ (ix s.os i).data.length ≤ 600 ∧ (ix s.os i).ver ∉ (s.os.take i).map (·.ver) := fun i hi => by
    have := h3 i hi
    simp only [Sto.eOK, Bool.and_eq_true, decide_eq_true_eq, within, Bool.not_eq_true', decide_eq_false_iff_not] at this
    exact ⟨this.1, this.2.1, this.2.2.1, this.2.2.2.1⟩
   refine ⟨by simpa [within] using h1, h2, fun o ho => ?_, nodup_take.2 fun i hi => ?_, pw_srt.2 (Sto.srt h)⟩
   · obtain ⟨i, hi, rfl⟩ := List.getElem_of_mem ho
     have := h3' i hi
     rw [ix_lt hi] at this
     exact ⟨this.1, this.2.1, this.2.2.1⟩
   · have hi' : i < s.os.length := by simpa using hi
     rw [hv i hi', ← List.map_take]
     exact (h3' i hi').2.2.2
 · rintro ⟨h1, h2, h3, h4, h5⟩
   refine Sto.ok_yes (by simpa [within] using h1) h2 fun i hi => ?_
   have h6 := h3 (ix s.os i) (getD_mem hi)
   have h7 := nodup_take.1 h4 i (by simpa using hi)
   rw [hv i hi, ← List.map_take] at h7
   have h8 : i = 0 ∨ (ix s.os (i - 1)).key < (ix s.os i).key := by
    rcases Nat.eq_zero_or_pos i with h | h
    · exact .inl h
    · have := pw_srt.1 h5 (i - 1) (by omega)
      rw [show i - 1 + 1 = i by omega] at this
      exact .inr this
   simp only [Sto.eOK, Bool.and_eq_true, decide_eq_true_eq, within, Bool.not_eq_true', decide_eq_false_iff_not, Bool.or_eq_true]
   exact ⟨h6.1, h6.2.1, h6.2.2, h7, h8⟩
theorem lb_take {k : List UInt8} {L : List Ob} : ∀ o ∈ L.take (lb k L), o.key < k := fun o ho => by
 obtain ⟨j, hj, rfl⟩ := List.getElem_of_mem ho
 have hj' : j < lb k L := by simp at hj; omega
 have hl := lb_le k L
 have := lb_lt hj'
 rw [ix_lt (by omega)] at this
 simpa using this
theorem lb_drop {k : List UInt8} {L : List Ob} (h : Srt L) : ∀ o ∈ L.drop (if hasK k L = true then lb k L + 1 else lb k L), k < o.key := fun o ho => by
 obtain ⟨j, hj, rfl⟩ := List.getElem_of_mem ho
 rw [List.getElem_drop]
 split at hj <;> rename_i hk
 all_goals (rw [List.length_drop] at hj)
 · obtain ⟨h1, h2⟩ := hasK_at hk
   have := h.lt (i := lb k L) (j := lb k L + 1 + j) (by omega) (by omega)
   rw [h2, ix_lt (by omega)] at this
   simp only [if_pos hk]; exact this
 · have h1 := h.ge (k := k) (j := lb k L + j) (by omega) (by omega)
   have h2 : (ix L (lb k L + j)).key ≠ k := fun e => by
    rcases Nat.eq_zero_or_pos j with h0 | h0
    · subst h0
      apply hk
      unfold hasK
      rw [decide_eq_true (by omega : lb k L < L.length), decide_eq_true (by simpa using e)]; rfl
    · have h3 := h.lt (i := lb k L) (j := lb k L + j) (by omega) (by omega)
      rw [e] at h3
      exact lb_ge (by omega) h3
   have := lt_tri h1 h2
   rw [ix_lt (by omega)] at this
   simp only [if_neg hk]; exact this
theorem room_ok {s : Sto} {k d : List UInt8} (h : s.room k d = 0) : d.length ≤ 600 ∧ (s.has k = false → s.os.length ≠ 300) ∧ s.next ≠ 1000000000 := by
 unfold Sto.room at h
 split at h
 · cases h
 · split at h
   · cases h
   · rename_i h1 h2
     simp only [Bool.or_eq_true, Bool.and_eq_true, Bool.not_eq_true', decide_eq_true_eq, not_or, not_and] at h2
     exact ⟨by omega, h2.1, h2.2⟩
theorem room_yes {s : Sto} {k d : List UInt8} (h1 : d.length ≤ 600) (h2 : s.os.length < 300) (h3 : s.next < 1000000000) : s.room k d = 0 := by
 unfold Sto.room
 rw [if_neg (by omega), if_neg (by simp only [Bool.or_eq_true, Bool.and_eq_true, decide_eq_true_eq]; omega)]
theorem set_ok {s : Sto} (hs : s.ok = true) {k d : List UInt8} (hk : keyOK k = true) (hr : s.room k d = 0) : (s.set k d).ok = true := by
 have h := (stoOK_iff s).1 hs
 have hsr := Sto.srt hs
 obtain ⟨r1, r2, r3⟩ := room_ok hr
 have hl := s.set_len k d
 have e : (s.set k d).os = s.os.take (lb k s.os) ++ (⟨k, s.next, d⟩ :: s.os.drop (if hasK k s.os = true then lb k s.os + 1 else lb k s.os)) := rfl
 have hsub : ∀ q, lb k s.os ≤ q → (s.os.take (lb k s.os) ++ s.os.drop q).Sublist s.os := fun q hq => by
  have h1 : (s.os.drop q).Sublist (s.os.drop (lb k s.os)) := by
   obtain ⟨c, rfl⟩ : ∃ c, q = lb k s.os + c := ⟨q - lb k s.os, by omega⟩
   rw [← List.drop_drop]; exact List.drop_sublist _ _
  have := List.Sublist.append (List.Sublist.refl (s.os.take (lb k s.os))) h1
  rwa [List.take_append_drop] at this
 have hsub' := hsub (if hasK k s.os = true then lb k s.os + 1 else lb k s.os) (by split <;> omega)
 have hd := lb_drop (k := k) hsr
 have ht := lb_take (k := k) (L := s.os)
 generalize hq : (if hasK k s.os = true then lb k s.os + 1 else lb k s.os) = q at *
 refine (stoOK_iff _).2 ⟨by show 1 ≤ s.next + 1 ∧ s.next + 1 ≤ 1000000000; have := h.nx; omega, ?_, fun o ho => ?_, ?_, ?_⟩
 · rw [hl]
   have := h.len
   split
   · omega
   · rename_i hn
     have := r2 (by simpa using hn); omega
 · have hold : ∀ o ∈ s.os, keyOK o.key = true ∧ (1 ≤ o.ver ∧ o.ver ≤ s.next + 1 - 1) ∧ o.data.length ≤ 600 := fun o ho => by have := h.el o ho; exact ⟨this.1, ⟨this.2.1.1, by omega⟩, this.2.2⟩
   rw [e] at ho
   rcases List.mem_append.1 ho with ho | ho
   · exact hold o (List.mem_of_mem_take ho)
   · rcases List.mem_cons.1 ho with rfl | ho
     · exact ⟨hk, ⟨h.nx.1, by show s.next ≤ s.next + 1 - 1; omega⟩, r1⟩
     · exact hold o (List.mem_of_mem_drop ho)
 · rw [e, List.map_append, List.map_cons]
   have hn : ((s.os.take (lb k s.os) ++ s.os.drop q).map (·.ver)).Nodup := (hsub'.map _).nodup h.vs
   rw [List.map_append] at hn
   have h1 := List.nodup_append.1 hn
   have hne : ∀ o ∈ s.os, o.ver ≠ s.next := fun o ho => by have := (h.el o ho).2.1; omega
   refine List.nodup_append.2 ⟨h1.1, List.nodup_cons.2 ⟨fun hm => ?_, h1.2.1⟩, fun a ha b hb => ?_⟩
   · obtain ⟨o, ho, e⟩ := List.mem_map.1 hm
     exact hne o (List.mem_of_mem_drop ho) e
   · rcases List.mem_cons.1 hb with rfl | hb
     · obtain ⟨o, ho, rfl⟩ := List.mem_map.1 ha
       exact hne o (List.mem_of_mem_take ho)
     · exact h1.2.2 a ha b hb
 · rw [e]
   have hp : (s.os.take (lb k s.os) ++ s.os.drop q).Pairwise fun a b => a.key < b.key := h.ks.sublist hsub'
   have h1 := List.pairwise_append.1 hp
   refine List.pairwise_append.2 ⟨h1.1, List.pairwise_cons.2 ⟨hd, h1.2.1⟩, fun a ha b hb => ?_⟩
   rcases List.mem_cons.1 hb with rfl | hb
   · exact ht a ha
   · exact h1.2.2 a ha b hb
theorem lb_set (s : Sto) (k d : List UInt8) : lb k (s.set k d).os = lb k s.os := by
 have hl := lb_le k s.os
 have e : (s.set k d).os = s.os.take (lb k s.os) ++ (⟨k, s.next, d⟩ :: s.os.drop (if hasK k s.os = true then lb k s.os + 1 else lb k s.os)) := rfl
 rw [e]
 have key : ∀ (A B : List Ob), (∀ o ∈ A, o.key < k) → lb k (A ++ ⟨k, s.next, d⟩ :: B) = A.length := by
  intro A B
  induction A with
  | nil => intro _; show (if k < k then _ else 0) = 0; rw [if_neg (List.lt_irrefl _)]
  | cons x r ih =>
    intro h
    show (if x.key < k then lb k (r ++ _ :: B) + 1 else 0) = _
    rw [if_pos (h x (by simp)), ih fun o ho => h o (by simp [ho])]; rfl
 rw [key _ _ lb_take]
 simp; omega
theorem set_at (s : Sto) (k d : List UInt8) : (s.set k d).has k = true ∧ (s.set k d).get k = ⟨k, s.next, d⟩ := by
 have hl := lb_le k s.os
 have e : (s.set k d).os = s.os.take (lb k s.os) ++ (⟨k, s.next, d⟩ :: s.os.drop (if hasK k s.os = true then lb k s.os + 1 else lb k s.os)) := rfl
 have h1 := lb_set s k d
 have hlen : (s.os.take (lb k s.os)).length = lb k s.os := by simp; omega
 have h2 : ix (s.set k d).os (lb k s.os) = ⟨k, s.next, d⟩ := by
  rw [e, ix_app_r (by omega), hlen, Nat.sub_self]; rfl
 have h3 : lb k s.os < (s.set k d).os.length := by rw [e]; simp; omega
 refine ⟨?_, ?_⟩
 · unfold Sto.has hasK
   rw [h1, h2, decide_eq_true h3]; simp
 · unfold Sto.get Sto.pos
   rw [h1, h2]

structure StaOK (s : Sta) : Prop where
 q : 0 ≤ s.seq ∧ s.seq ≤ 999999
 f : 0 ≤ s.fence ∧ s.fence ≤ 999999
 len : s.es.length + s.ts.length ≤ 4096
 es : ∀ e ∈ s.es, e.ok = true
 ts : ∀ t ∈ s.ts, kOk t.key = true ∧ 1 ≤ t.seq ∧ t.seq ≤ s.seq
 nd : s.keys.Nodup
 lo : ∀ k, (k = 0 ∨ k = 1 ∨ k = 2) → 0 ≤ s.lo k ∧ s.lo k ≤ 100000
 runs : ∀ k, (k = 0 ∨ k = 1 ∨ k = 2) → runs (ofT s.es k) (s.lo k) = some (s.hi k)
theorem staOK_iff (s : Sta) : s.ok = true ↔ StaOK s := by
 constructor
 · intro h
   unfold Sta.ok tierOK at h
   simp only [Bool.and_eq_true, decide_eq_true_eq, List.all_eq_true, within] at h
   obtain ⟨h1, h2, h3, h4, h5, h6, ⟨h7, h7'⟩, ⟨h8, h8'⟩, h9, h9'⟩ := h
   refine ⟨h1, h2, by omega, h4, fun t ht => ?_, h6, fun k hk => ?_, fun k hk => ?_⟩
   · have := h5 t ht
     simp only [tbOK, Bool.and_eq_true, decide_eq_true_eq, within] at this
     exact ⟨this.1, this.2.1, this.2.2⟩
   · rcases hk with rfl | rfl | rfl
     · exact h7
     · exact h8
     · exact h9
   · rcases hk with rfl | rfl | rfl
     · exact h7'
     · exact h8'
     · exact h9'
 · rintro ⟨h1, h2, h3, h4, h5, h6, h7, h8⟩
   unfold Sta.ok tierOK
   simp only [Bool.and_eq_true, decide_eq_true_eq, List.all_eq_true, within]
   refine ⟨h1, h2, by omega, h4, fun t ht => ?_, h6, ⟨h7 0 (.inl rfl), h8 0 (.inl rfl)⟩, ⟨h7 1 (.inr (.inl rfl)), h8 1 (.inr (.inl rfl))⟩, h7 2 (.inr (.inr rfl)), h8 2 (.inr (.inr rfl))⟩
   have := h5 t ht
   simp only [tbOK, Bool.and_eq_true, decide_eq_true_eq, within]
   exact ⟨this.1, this.2.1, this.2.2⟩
theorem ofT_app (L M : List En) (k : Int) : ofT (L ++ M) k = ofT L k ++ ofT M k := List.filter_append ..
theorem runs_app1 : ∀ (L : List En) (e : En) (a b : Int), runs L a = some b → e.f = b → runs (L ++ [e]) a = some e.t
 | [], e, a, b, h, h2 => by
   have : a = b := by simpa [runs] using h
   subst this
   simp [runs, h2]
 | x :: r, e, a, b, h, h2 => by
   simp only [runs] at h
   split at h
   · rename_i hx
     simp only [List.cons_append, runs]
     rw [if_pos hx]
     exact runs_app1 r e _ b h h2
   · cases h
theorem lift_lo (s : Sta) (k v j : Int) : (s.lift k v).lo j = s.lo j := by
 unfold Sta.lift; split
 · rfl
 · split <;> rfl
theorem lower_hi (s : Sta) (k v j : Int) : (s.lower k v).hi j = s.hi j := by
 unfold Sta.lower; split
 · rfl
 · split <;> rfl
theorem lift_hi (s : Sta) (k v j : Int) (hk : k = 0 ∨ k = 1 ∨ k = 2) (hj : j = 0 ∨ j = 1 ∨ j = 2) : (s.lift k v).hi j = if j = k then v else s.hi j := by
 rcases hk with rfl | rfl | rfl <;> rcases hj with rfl | rfl | rfl <;> rfl
theorem lower_lo (s : Sta) (k v j : Int) (hk : k = 0 ∨ k = 1 ∨ k = 2) (hj : j = 0 ∨ j = 1 ∨ j = 2) : (s.lower k v).lo j = if j = k then v else s.lo j := by
 rcases hk with rfl | rfl | rfl <;> rcases hj with rfl | rfl | rfl <;> rfl
theorem en_tier {e : En} (h : e.ok = true) : (e.tier = 0 ∨ e.tier = 1 ∨ e.tier = 2) ∧ 0 ≤ e.f ∧ e.f < e.t ∧ e.t ≤ 100000 ∧ kOk e.key = true := by
 unfold En.ok isRange at h
 simp only [Bool.and_eq_true, decide_eq_true_eq, within] at h
 have := kT_nat e.key
 refine ⟨by omega, by omega, by omega, by omega, h.1⟩
theorem kinds {k tok tier f t : Int} {key : List UInt8} (h : Rc.ok ⟨k, tok, tier, f, t, key⟩ = true) : (k = 1 ∧ tier = 0) ∨ k = 2 ∨ (k = 3 ∧ (tier = 1 ∨ tier = 2) ∧ (0 ≤ f ∧ f ≤ 1000000)) ∨ (k = 4 ∧ (tier = 0 ∨ tier = 1 ∨ tier = 2)) ∨ k = 5 := by
 unfold Rc.ok at h
 dsimp only at h
 by_cases h1 : k = 1
 · rw [if_pos h1] at h
   simp only [Bool.and_eq_true, decide_eq_true_eq] at h
   exact .inl ⟨h1, h.2.1⟩
 rw [if_neg h1] at h
 by_cases h2 : k = 2
 · exact .inr (.inl h2)
 rw [if_neg h2] at h
 by_cases h3 : k = 3
 · rw [if_pos h3] at h
   simp only [Bool.and_eq_true, decide_eq_true_eq] at h
   obtain ⟨ht, hb⟩ := en_tier h.2.2
   have ht : tier = 0 ∨ tier = 1 ∨ tier = 2 := ht
   have hb : 0 ≤ f ∧ f < t ∧ t ≤ 100000 ∧ _ := hb
   exact .inr (.inr (.inl ⟨h3, by have := h.2.1; omega, by omega, by omega⟩))
 rw [if_neg h3] at h
 by_cases h4 : k = 4
 · rw [if_pos h4] at h
   simp only [Bool.and_eq_true] at h
   exact .inr (.inr (.inr (.inl ⟨h4, (en_tier h.2).1⟩)))
 rw [if_neg h4] at h
 by_cases h5 : k = 5
 · exact .inr (.inr (.inr (.inr h5)))
 rw [if_neg h5] at h
 cases h
theorem takes_f {s : Sta} {r : Rc} (h : s.takes r = true) (hr : r.ok = true) (hk : r.k = 1 ∨ r.k = 3) : r.f = s.hi r.tier ∧ r.en.ok = true := by
 unfold Sta.takes at h
 unfold Rc.ok at hr
 rcases hk with hk | hk
 · rw [if_pos hk] at h hr
   simp only [Bool.and_eq_true, decide_eq_true_eq] at h hr
   refine ⟨?_, hr.2.2⟩
   rw [hr.2.1]; exact h.1
 · rw [if_neg (by omega), if_neg (by omega), if_pos hk] at h hr
   simp only [Bool.and_eq_true, decide_eq_true_eq] at h hr
   exact ⟨h.2.1, hr.2.2⟩
theorem ofT_noE_other {L : List En} {k : Int} {key : List UInt8} (h : ∀ e ∈ L, e.key = key → e.tier ≠ k) : ofT (noE key L) k = ofT L k := by
 unfold ofT noE
 rw [List.filter_filter]
 refine List.filter_congr fun e he => ?_
 by_cases hk : e.key = key
 · have := h e he hk
   simp [this]
 · simp [hk]
theorem ofT_noE_tail {L : List En} {k : Int} {e : En} {r : List En} (hl : ofT L k = e :: r) (nd : (L.map (·.key)).Nodup) : ofT (noE e.key L) k = r := by
 have h1 : ofT (noE e.key L) k = (ofT L k).filter fun x => !decide (x.key = e.key) := by
  unfold ofT noE
  rw [List.filter_filter, List.filter_filter]
  exact List.filter_congr fun x _ => Bool.and_comm ..
 have h2 : ((ofT L k).map (·.key)).Nodup := by
  unfold ofT
  exact (List.filter_sublist.map _).nodup nd
 rw [h1, hl]
 rw [hl, List.map_cons] at h2
 have h3 := List.nodup_cons.1 h2
 rw [List.filter_cons_of_neg (by simp)]
 exact List.filter_eq_self.2 fun x hx => by
  rw [decide_eq_false (fun hk : x.key = e.key => h3.1 (hk ▸ List.mem_map.2 ⟨x, hx, rfl⟩))]; rfl
theorem nodup_key : ∀ {L : List En}, (L.map (·.key)).Nodup → ∀ {a b : En}, a ∈ L → b ∈ L → a.key = b.key → a = b
 | [], _, a, b, ha, _, _ => by cases ha
 | x :: r, nd, a, b, ha, hb, h => by
   rw [List.map_cons] at nd
   have h' := List.nodup_cons.1 nd
   rcases List.mem_cons.1 ha with ha | ha <;> rcases List.mem_cons.1 hb with hb | hb
   · rw [ha, hb]
   · exact absurd (List.mem_map.2 ⟨b, hb, by rw [← h, ha]⟩) h'.1
   · exact absurd (List.mem_map.2 ⟨a, ha, by rw [h, hb]⟩) h'.1
   · exact nodup_key h'.2 ha hb h
theorem app_staOK {s : Sta} {r : Rc} (h : StaOK s) (hr : r.ok = true) (hq : s.seq < 999999) (hl : s.es.length + s.ts.length < 4096) : StaOK (s.app r) := by
 have hlog : LogS s := ⟨h.nd, fun k hk => by
  unfold Sta.keys at hk
  rcases List.mem_append.1 hk with hk | hk
  · obtain ⟨e, he, rfl⟩ := List.mem_map.1 hk; exact (en_tier (h.es e he)).2.2.2.2
  · obtain ⟨e, he, rfl⟩ := List.mem_map.1 hk; exact (h.ts e he).1⟩
 have hnd := (app_log hlog hr).nd
 have hlen := appL_len s r
 have hseq := app_seq s r
 have ts' : ∀ t ∈ s.ts, kOk t.key = true ∧ 1 ≤ t.seq ∧ t.seq ≤ s.seq + 1 := fun t ht => by have := h.ts t ht; exact ⟨this.1, this.2.1, by omega⟩
 obtain ⟨q, hqe⟩ : ∃ q, q = s.app r := ⟨_, rfl⟩
 rw [← hqe] at hnd hlen hseq ⊢
 have hq' : 0 ≤ q.seq ∧ q.seq ≤ 999999 := by rw [hseq]; have := h.q; omega
 have hlen' : q.es.length + q.ts.length ≤ 4096 := by omega
 unfold Sta.app at hqe
 by_cases ht : s.takes r = true
 · rw [if_pos ht] at hqe
   by_cases hk : r.k = 1 ∨ r.k = 3
   · rw [if_pos hk] at hqe
     obtain ⟨hf, hen⟩ := takes_f ht hr hk
     obtain ⟨hti, hb⟩ := en_tier hen
     subst hqe
     have e1 := lift_es ({ s.tick with es := s.es ++ [r.en] } : Sta) r.tier r.t
     refine ⟨hq', by rw [e1.2.2.2]; exact h.f, hlen', ?_, ?_, hnd, fun k hk => ?_, fun k hk => ?_⟩
     · rw [e1.1]
       intro e he
       rcases List.mem_append.1 he with he | he
       · exact h.es e he
       · have : e = r.en := by simpa using he
         rw [this]; exact hen
     · rw [e1.2.1, hseq]; exact ts'
     · rw [lift_lo]; exact h.lo k hk
     · rw [e1.1, lift_lo, lift_hi _ _ _ _ hti hk]
       show runs (ofT (s.es ++ [r.en]) k) (s.lo k) = _
       rw [ofT_app]
       by_cases hkk : k = r.tier
       · subst hkk
         rw [if_pos rfl]
         have : ofT [r.en] r.tier = [r.en] := by simp [ofT]
         rw [this]
         exact runs_app1 _ r.en _ _ (h.runs _ hk) hf
       · rw [if_neg hkk]
         have : ofT [r.en] k = [] := by
          have : ¬ r.tier = k := fun e => hkk e.symm
          simp [ofT, this]
         rw [this, List.append_nil]
         exact h.runs k hk
   · rw [if_neg hk] at hqe
     by_cases hk2 : r.k = 2
     · rw [if_pos hk2] at hqe
       subst hqe
       have htok : 1 ≤ r.tok ∧ r.tok ≤ 999999 := by
        unfold Rc.ok at hr
        rw [if_neg (by omega), if_pos hk2] at hr
        simp only [Bool.and_eq_true, within, decide_eq_true_eq] at hr
        exact hr.1
       exact ⟨hq', by show 0 ≤ r.tok ∧ r.tok ≤ 999999; omega, hlen', h.es, fun t ht => by rw [hseq]; exact ts' t ht, hnd, h.lo, h.runs⟩
     · rw [if_neg hk2] at hqe
       by_cases hk4 : r.k = 4
       · rw [if_pos hk4] at hqe
         have hen : r.en.ok = true := by
          unfold Rc.ok at hr
          rw [if_neg (by omega), if_neg (by omega), if_neg (by omega), if_pos hk4] at hr
          simp only [Bool.and_eq_true] at hr
          exact hr.2
         obtain ⟨hti, hb⟩ := en_tier hen
         have hb' : 0 ≤ r.f ∧ r.f < r.t ∧ r.t ≤ 100000 := ⟨hb.1, hb.2.1, hb.2.2.1⟩
         have hhd := takes_4 ht hk4
         have hm := headIs_mem hhd
         obtain ⟨rest, hrest⟩ : ∃ rest, ofT s.es r.tier = r.en :: rest := by
          unfold headIs at hhd
          cases hl : ofT s.es r.tier with
          | nil => rw [hl] at hhd; cases hhd
          | cons x y => rw [hl] at hhd; exact ⟨y, by rw [of_decide_eq_true hhd]⟩
         have nde : (s.es.map (·.key)).Nodup := (List.nodup_append.1 h.nd).1
         subst hqe
         have e1 := lower_es ({ s.tick with es := noE r.key s.es, ts := s.ts ++ [⟨s.seq + 1, r.key⟩] } : Sta) r.tier r.t
         refine ⟨hq', by rw [e1.2.2.2]; exact h.f, hlen', ?_, ?_, hnd, fun k hk => ?_, fun k hk => ?_⟩
         · rw [e1.1]
           exact fun e he => h.es e (List.mem_filter.1 he).1
         · rw [e1.2.1, hseq]
           intro t ht
           rcases List.mem_append.1 ht with ht | ht
           · exact ts' t ht
           · have : t = ⟨s.seq + 1, r.key⟩ := by simpa using ht
             rw [this]
             exact ⟨hb.2.2.2, by have := h.q; show 1 ≤ s.seq + 1; omega, by show s.seq + 1 ≤ s.seq + 1; omega⟩
         · rw [lower_lo _ _ _ _ hti hk]
           split
           · omega
           · exact h.lo k hk
         · rw [e1.1, lower_hi, lower_lo _ _ _ _ hti hk]
           show runs (ofT (noE r.key s.es) k) _ = some (s.hi k)
           have hru := h.runs k hk
           by_cases hkk : k = r.tier
           · subst hkk
             rw [if_pos rfl, ofT_noE_tail (e := r.en) hrest nde]
             rw [hrest] at hru
             simp only [runs] at hru
             split at hru
             · exact hru
             · cases hru
           · rw [if_neg hkk, ofT_noE_other]
             · exact hru
             · intro e he hke htk
               have : e = r.en := nodup_key nde he hm hke
               rw [this] at htk
               exact hkk htk.symm
       · rw [if_neg hk4] at hqe
         subst hqe
         exact ⟨hq', h.f, hlen', h.es, fun t ht => by rw [hseq]; exact ts' t (List.mem_filter.1 ht).1, hnd, h.lo, h.runs⟩
 · rw [if_neg ht] at hqe
   subst hqe
   exact ⟨hq', h.f, hlen', h.es, fun t ht => by rw [hseq]; exact ts' t ht, hnd, h.lo, h.runs⟩
theorem staOK0 : StaOK sta0 := ⟨by decide, by decide, by decide, by simp [sta0], by simp [sta0], by simp [sta0, Sta.keys], fun k hk => by rcases hk with rfl | rfl | rfl <;> decide, fun k hk => by rcases hk with rfl | rfl | rfl <;> rfl⟩
theorem headIs_cells (x : En) (r : List En) (k f t : Int) (key : List UInt8) : headIs (x :: r) ⟨k, f, t, key⟩ = (decide (x.tier = k) && (decide (x.f = f) && (decide (x.t = t) && (((B x.key).toList == (B key).toList) && true)))) := by
 rw [B_eq, Bool.and_true]
 show decide (x = ⟨k, f, t, key⟩) = _
 obtain ⟨a, b, c, d⟩ := x
 rw [Bool.eq_iff_iff]
 simp
set_option maxHeartbeats 1000000 in
theorem takes4_0 (s : Sta) (hL : s.es.length ≤ 1000000000) (tok f t : Int) (key : List UInt8) : VFn Tryz.prog 173 [s.av, (Rc.mk 4 tok 0 f t key).av] (.bool (s.takes ⟨4, tok, 0, f, t, key⟩)) := by
 obtain ⟨R, hR⟩ : ∃ R, R = ofT s.es 0 := ⟨_, rfl⟩
 have e : s.takes ⟨4, tok, 0, f, t, key⟩ = (decide (tok = s.fence) && (headIs R ⟨0, f, t, key⟩ && decide (t ≤ s.h1))) := by rw [hR]; exact rfl
 rw [e]
 have c := ofS_fn s hL 0
 rw [← hR] at c
 have ce := entry_fn ⟨4, tok, 0, f, t, key⟩
 refine VFn.introC Tryz.call173 Tryz.func173 rfl rfl ?_
 conv => whnf
 refine CallC.nl _ (c) ?_ ?_
 · exact rfl
 cases R with
 | nil =>
   refine DrawC.mq 36 rfl (by kernel_rfl) ?_
   repeat' (first
    | refine Grd.intro (fun h => ?_) (fun h => ?_)
    | ((conv => whnf); refine Grd.intro (fun h => ?_) (fun h => ?_))
    | refine And.intro (inI64 (by (try simp only); omega) (by (try simp only); omega)) ?_
    | refine And.intro trivial (AVle.of_eq (congrArg AV.bool ?_)))
   all_goals (show false = (_ && (false&& _)); simp)
 | cons x r =>
   have hH : headIs (x :: r) ⟨0, f, t, key⟩ = (decide ((ix (x :: r) (Int.toNat 0)).tier = 0) && (decide ((ix (x :: r) (Int.toNat 0)).f = f) && (decide ((ix (x :: r) (Int.toNat 0)).t = t) && (((B (ix (x :: r) (Int.toNat 0)).key).toList == (B key).toList) && true)))) := headIs_cells x r 0 f t key
   refine DrawC.mq 36 rfl (by kernel_rfl) ?_
   repeat' (first
    | refine Grd.intro (fun h => ?_) (fun h => ?_)
    | ((conv => whnf); refine Grd.intro (fun h => ?_) (fun h => ?_))
    | refine PCallQ.sca _ ce rfl ?_
    | refine And.intro ⟨Int.le_refl 0, show (0 : Int) < (((x :: r).length : Nat) : Int) by rw [List.length_cons]; omega⟩ ?_
    | refine And.intro (show eqGB _ _ = true from by kernel_rfl) ?_
    | refine And.intro (inI64 (by (try simp only); omega) (by (try simp only); omega)) ?_
    | refine And.intro ⟨show (0 : Int) ≤ 1 by omega, show (1 : Int) < ((3 : Nat) : Int) by omega⟩ ?_
    | refine And.intro ⟨show (0 : Int) ≤ 2 by omega, show (2 : Int) < ((3 : Nat) : Int) by omega⟩ ?_
    | refine And.intro trivial (AVle.of_eq (congrArg AV.bool ?_)))
   all_goals (clear hR e c ce; rw [hH]; simp_all)
set_option maxHeartbeats 1000000 in
theorem takes4_1 (s : Sta) (hL : s.es.length ≤ 1000000000) (tok f t : Int) (key : List UInt8) : VFn Tryz.prog 173 [s.av, (Rc.mk 4 tok 1 f t key).av] (.bool (s.takes ⟨4, tok, 1, f, t, key⟩)) := by
 obtain ⟨R, hR⟩ : ∃ R, R = ofT s.es 1 := ⟨_, rfl⟩
 have e : s.takes ⟨4, tok, 1, f, t, key⟩ = (decide (tok = s.fence) && (headIs R ⟨1, f, t, key⟩ && decide (t ≤ s.h2))) := by rw [hR]; exact rfl
 rw [e]
 have c := ofS_fn s hL 1
 rw [← hR] at c
 have ce := entry_fn ⟨4, tok, 1, f, t, key⟩
 refine VFn.introC Tryz.call173 Tryz.func173 rfl rfl ?_
 conv => whnf
 refine CallC.nl _ (c) ?_ ?_
 · exact rfl
 cases R with
 | nil =>
   refine DrawC.mq 36 rfl (by kernel_rfl) ?_
   repeat' (first
    | refine Grd.intro (fun h => ?_) (fun h => ?_)
    | ((conv => whnf); refine Grd.intro (fun h => ?_) (fun h => ?_))
    | refine And.intro (inI64 (by (try simp only); omega) (by (try simp only); omega)) ?_
    | refine And.intro trivial (AVle.of_eq (congrArg AV.bool ?_)))
   all_goals (show false = (_ && (false&& _)); simp)
 | cons x r =>
   have hH : headIs (x :: r) ⟨1, f, t, key⟩ = (decide ((ix (x :: r) (Int.toNat 0)).tier = 1) && (decide ((ix (x :: r) (Int.toNat 0)).f = f) && (decide ((ix (x :: r) (Int.toNat 0)).t = t) && (((B (ix (x :: r) (Int.toNat 0)).key).toList == (B key).toList) && true)))) := headIs_cells x r 1 f t key
   refine DrawC.mq 36 rfl (by kernel_rfl) ?_
   repeat' (first
    | refine Grd.intro (fun h => ?_) (fun h => ?_)
    | ((conv => whnf); refine Grd.intro (fun h => ?_) (fun h => ?_))
    | refine PCallQ.sca _ ce rfl ?_
    | refine And.intro ⟨Int.le_refl 0, show (0 : Int) < (((x :: r).length : Nat) : Int) by rw [List.length_cons]; omega⟩ ?_
    | refine And.intro (show eqGB _ _ = true from by kernel_rfl) ?_
    | refine And.intro (inI64 (by (try simp only); omega) (by (try simp only); omega)) ?_
    | refine And.intro ⟨show (0 : Int) ≤ 1 by omega, show (1 : Int) < ((3 : Nat) : Int) by omega⟩ ?_
    | refine And.intro ⟨show (0 : Int) ≤ 2 by omega, show (2 : Int) < ((3 : Nat) : Int) by omega⟩ ?_
    | refine And.intro trivial (AVle.of_eq (congrArg AV.bool ?_)))
   all_goals (clear hR e c ce; rw [hH]; simp_all)
set_option maxHeartbeats 1000000 in
theorem takes4_2 (s : Sta) (hL : s.es.length ≤ 1000000000) (tok f t : Int) (key : List UInt8) : VFn Tryz.prog 173 [s.av, (Rc.mk 4 tok 2 f t key).av] (.bool (s.takes ⟨4, tok, 2, f, t, key⟩)) := by
 obtain ⟨R, hR⟩ : ∃ R, R = ofT s.es 2 := ⟨_, rfl⟩
 have e : s.takes ⟨4, tok, 2, f, t, key⟩ = (decide (tok = s.fence) && (headIs R ⟨2, f, t, key⟩)) := by rw [hR]; exact (show (decide (tok = s.fence) && (headIs (ofT s.es 2) ⟨2, f, t, key⟩ && true)) = _ by rw [Bool.and_true])
 rw [e]
 have c := ofS_fn s hL 2
 rw [← hR] at c
 have ce := entry_fn ⟨4, tok, 2, f, t, key⟩
 refine VFn.introC Tryz.call173 Tryz.func173 rfl rfl ?_
 conv => whnf
 refine CallC.nl _ (c) ?_ ?_
 · exact rfl
 cases R with
 | nil =>
   refine DrawC.mq 36 rfl (by kernel_rfl) ?_
   repeat' (first
    | refine Grd.intro (fun h => ?_) (fun h => ?_)
    | ((conv => whnf); refine Grd.intro (fun h => ?_) (fun h => ?_))
    | refine And.intro (inI64 (by (try simp only); omega) (by (try simp only); omega)) ?_
    | refine And.intro trivial (AVle.of_eq (congrArg AV.bool ?_)))
   all_goals (show false = (_ && (false)); simp)
 | cons x r =>
   have hH : headIs (x :: r) ⟨2, f, t, key⟩ = (decide ((ix (x :: r) (Int.toNat 0)).tier = 2) && (decide ((ix (x :: r) (Int.toNat 0)).f = f) && (decide ((ix (x :: r) (Int.toNat 0)).t = t) && (((B (ix (x :: r) (Int.toNat 0)).key).toList == (B key).toList) && true)))) := headIs_cells x r 2 f t key
   refine DrawC.mq 36 rfl (by kernel_rfl) ?_
   repeat' (first
    | refine Grd.intro (fun h => ?_) (fun h => ?_)
    | ((conv => whnf); refine Grd.intro (fun h => ?_) (fun h => ?_))
    | refine PCallQ.sca _ ce rfl ?_
    | refine And.intro ⟨Int.le_refl 0, show (0 : Int) < (((x :: r).length : Nat) : Int) by rw [List.length_cons]; omega⟩ ?_
    | refine And.intro (show eqGB _ _ = true from by kernel_rfl) ?_
    | refine And.intro (inI64 (by (try simp only); omega) (by (try simp only); omega)) ?_
    | refine And.intro ⟨show (0 : Int) ≤ 1 by omega, show (1 : Int) < ((3 : Nat) : Int) by omega⟩ ?_
    | refine And.intro ⟨show (0 : Int) ≤ 2 by omega, show (2 : Int) < ((3 : Nat) : Int) by omega⟩ ?_
    | refine And.intro trivial (AVle.of_eq (congrArg AV.bool ?_)))
   all_goals (clear hR e c ce; rw [hH]; simp_all)
end Go.Proofs.YtigbaclopbcjnaaGreatDoor
