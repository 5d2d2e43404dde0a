/- Contracts of functions that the claim reaches, and the plain law of what they compute; each theorem bears its own conditions. -/
import Derived.Test.YtlbnpndednhdaaaGreatDoorQ7
import Derived.Test.YtlbnpndednhdaaaGreatDoorQ4
import Derived.Test.YtlbnpndednhdaaaGreatDoorQ3
import Derived.Test.YtlbnpndednhdaaaGreatDoorQ6
import Derived.Test.YtlbnpndednhdaaaGreatDoorV49
set_option linter.unusedVariables false
set_option linter.constructorNameAsVariable false
set_option linter.unusedSimpArgs false
set_option maxRecDepth 20000
namespace Go.Proofs.YtlbnpndednhdaaaGreatDoor
open Go Go.Vw

theorem samples_eq {L M : List Smp} (hL : ∀ s ∈ L, s.num) (hM : ∀ s ∈ M, s.num) : ((B (smpsText L)).toList == (B (smpsText M)).toList) = eqS Smp.eqb L M := by
  rw [B_eq, Bool.eq_iff_iff, decide_eq_true_eq, eqS_iff Smp.eqb_iff]
  exact ⟨smpsText_inj hL hM, fun h => by rw [h]⟩
theorem buckets_eq {L M : List Bk} (hL : ∀ s ∈ L, s.ok) (hM : ∀ s ∈ M, s.ok) : ((B (bksText L)).toList == (B (bksText M)).toList) = eqS Bk.eqb L M := by
  rw [B_eq, Bool.eq_iff_iff, decide_eq_true_eq, eqS_iff Bk.eqb_iff]
  exact ⟨bksText_inj hL hM, fun h => by rw [h]⟩
theorem get_ver {s : Sto} (hs : s.ok = true) {k : List UInt8} (h : s.has k = true) : 1 ≤ (s.get k).ver := by
  have hp := (hasK_at h).1
  have h3 := (Sto.ok_at hs).2.2 _ hp
  simp only [Sto.eOK, Bool.and_eq_true, within, decide_eq_true_eq] at h3
  exact h3.2.1.1
theorem smpsIn_num {L : List Smp} (h : smpsOK L = true) (a b : Int) : ∀ s ∈ smpsIn L a b, s.num := fun s hs => smpsOK_num h s (smpsIn_mem hs)
theorem l13Entry_fn (s : Sto) (hs : s.ok = true) (e : En) (he : inI .i64 (e.t - 1)) (hef : -1000000000 ≤ e.f ∧ e.f ≤ 1000000000) (ac : List Smp) (hac : smpsOK ac = true) : VFn Tryz.prog 108 [s.av, e.av, smps ac] (.bool (truE s e ac)) := by
  obtain ⟨a1, a2⟩ := smps_bd hac
  have c1 := l01GetD_fn s hs e.key
  have hD := sdat_len hs e.key
  by_cases hh : s.has e.key = true
  · have hv := get_ver hs hh
    have hv : ¬ (s.get e.key).ver = 0 := by omega
    unfold truE
    rw [hh, if_pos rfl] at c1
    rw [hh, Bool.true_and]
    generalize sdat s e.key = D at c1 hD ⊢
    generalize (s.get e.key).ver = v at c1 hv
    by_cases ht : e.tier = 0
    · rw [if_pos ht]
      have hl := fun i => Nat.le_trans (smpsIn_len (ac.take i) e.f e.t) (by simp; omega : (ac.take i).length ≤ i)
      cases hr : rdOk D
      · have cr := l03ToSamples_gen D (by omega) (.tup [.any, .bool false]) (fun h => by rw [hr] at h; cases h) (fun _ => rfl)
        rw [Bool.false_and]
        refine VFn.introC Tryz.call108 Tryz.func108 rfl rfl ?_
        conv => whnf
        refine CallC.sca _ (c1) ?_ ?_
        · exact rfl
        refine Grd.intro (fun g => absurd (of_decide_eq_true g) hv) (fun g => ?_)
        refine Grd.intro (fun g => ?_) (fun g => absurd ht (of_decide_eq_false g))
        conv => whnf
        refine CallC.nl _ (cr) ?_ ?_
        · exact rfl
        refine LoopC.mk (fun i : Nat => i ≤ ac.length) (fun i => [(2, smps ac), (4, .bptr 1 0), (10, .bool false), (11, .osl 2), (12, .int .i64 i)])
          (fun i => [(1, .box e.row), (2, .arr 144 2 (smpsIn (ac.take i) e.f e.t).length fun j => (ix (smpsIn (ac.take i) e.f e.t) j).row)]) 3 (fun i => ac.length - i) 0
          ⟨Nat.zero_le _, [(1, 1), (2, 2)], rfl, rfl, ⟨AVle.refl _, AVle.refl _, AVle.refl _, AVle.refl _, AVle.refl _, trivial⟩, ⟨MOle.refl _, MOle.arr rfl fun i hi => absurd hi (Nat.not_lt_zero i), trivial⟩⟩ ?_
        intro i hi
        refine Grd.intro (fun h2 => ?_) (fun h2 => ?_)
        · have hin : i < ac.length := by have := of_decide_eq_true h2; omega
          refine DrawC.mk 11 rfl (by kernel_rfl) ?_
          refine And.intro (by omega) ?_
          refine And.intro he ?_
          refine PCallC.sca _ (l01In_fn (ix ac i).t e.f (e.t - 1)) rfl ?_
          refine Grd.intro (fun h3 => ?_) (fun h3 => ?_)
          · have hq := smpsIn_yes hin h3
            refine And.intro (by omega) ?_
            refine And.intro ⟨show ((smpsIn (ac.take i) e.f e.t).length + 1) * 16 ≤ 140737488355328 by have := hl i; omega, all1 rfl⟩ ?_
            refine And.intro (inI64 (by omega) (by omega)) ?_
            exact ⟨i + 1, hin, by omega, [(1, 1), (15, 2)], rfl, rfl, ⟨AVle.refl _, AVle.refl _, AVle.refl _, AVle.refl _, AVle.of_eq (congrArg (AV.int .i64) (by simp)), trivial⟩, ⟨MOle.refl _, arr_next (f := Smp.row) hq rfl, trivial⟩⟩
          · have hq := smpsIn_no hin h3
            refine And.intro (inI64 (by omega) (by omega)) ?_
            exact ⟨i + 1, hin, by omega, [(1, 1), (2, 2)], rfl, rfl, ⟨AVle.refl _, AVle.refl _, AVle.refl _, AVle.refl _, AVle.of_eq (congrArg (AV.int .i64) (by simp)), trivial⟩, ⟨MOle.refl _, MOle.of_eq (show MO.arr 144 2 (smpsIn (ac.take i) e.f e.t).length (fun j => (ix (smpsIn (ac.take i) e.f e.t) j).row) = _ by rw [hq]), trivial⟩⟩
        · exact And.intro trivial (AVle.refl _)
      · have cr := l03ToSamples_gen D (by omega) (.tup [smps (rdV D), .bool true]) (fun _ => rfl) (fun h => by rw [hr] at h; cases h)
        have hr2 := hr
        simp only [rdOk, Bool.and_eq_true, decide_eq_true_eq] at hr2
        have hrn : ∀ s ∈ rdV D, s.num := smpsOK_num hr2.2.1
        have hrl : (rdV D).length ≤ 8 := by unfold rdV; rw [List.length_map]; omega
        have hwn := smpsIn_num hac e.f e.t
        have hwl := smpsIn_len ac e.f e.t
        rw [Bool.true_and, ← samples_eq hrn hwn]
        have c5 := l03Samples_fn (rdV D) (by omega) hrn
        have c6 := l03Samples_fn (smpsIn ac e.f e.t) (by omega) hwn
        refine VFn.introC Tryz.call108 Tryz.func108 rfl rfl ?_
        conv => whnf
        refine CallC.sca _ (c1) ?_ ?_
        · exact rfl
        refine Grd.intro (fun g => absurd (of_decide_eq_true g) hv) (fun g => ?_)
        refine Grd.intro (fun g => ?_) (fun g => absurd ht (of_decide_eq_false g))
        conv => whnf
        refine CallC.nl _ (cr) ?_ ?_
        · exact rfl
        refine LoopC.mk (fun i : Nat => i ≤ ac.length) (fun i => [(2, smps ac), (4, .bptr 1 0), (9, smps (rdV D)), (10, .bool true), (11, .osl 2), (12, .int .i64 i)])
          (fun i => [(1, .box e.row), (2, .arr 144 2 (smpsIn (ac.take i) e.f e.t).length fun j => (ix (smpsIn (ac.take i) e.f e.t) j).row)]) 3 (fun i => ac.length - i) 0
          ⟨Nat.zero_le _, [(1, 1), (2, 2)], rfl, rfl, ⟨AVle.refl _, AVle.refl _, AVle.refl _, AVle.refl _, AVle.refl _, AVle.refl _, trivial⟩, ⟨MOle.refl _, MOle.arr rfl fun i hi => absurd hi (Nat.not_lt_zero i), trivial⟩⟩ ?_
        intro i hi
        refine Grd.intro (fun h2 => ?_) (fun h2 => ?_)
        · have hin : i < ac.length := by have := of_decide_eq_true h2; omega
          refine DrawC.mk 11 rfl (by kernel_rfl) ?_
          refine And.intro (by omega) ?_
          refine And.intro he ?_
          refine PCallC.sca _ (l01In_fn (ix ac i).t e.f (e.t - 1)) rfl ?_
          refine Grd.intro (fun h3 => ?_) (fun h3 => ?_)
          · have hq := smpsIn_yes hin h3
            refine And.intro (by omega) ?_
            refine And.intro ⟨show ((smpsIn (ac.take i) e.f e.t).length + 1) * 16 ≤ 140737488355328 by have := hl i; omega, all1 rfl⟩ ?_
            refine And.intro (inI64 (by omega) (by omega)) ?_
            exact ⟨i + 1, hin, by omega, [(1, 1), (15, 2)], rfl, rfl, ⟨AVle.refl _, AVle.refl _, AVle.refl _, AVle.refl _, AVle.refl _, AVle.of_eq (congrArg (AV.int .i64) (by simp)), trivial⟩, ⟨MOle.refl _, arr_next (f := Smp.row) hq rfl, trivial⟩⟩
          · have hq := smpsIn_no hin h3
            refine And.intro (inI64 (by omega) (by omega)) ?_
            exact ⟨i + 1, hin, by omega, [(1, 1), (2, 2)], rfl, rfl, ⟨AVle.refl _, AVle.refl _, AVle.refl _, AVle.refl _, AVle.refl _, AVle.of_eq (congrArg (AV.int .i64) (by simp)), trivial⟩, ⟨MOle.refl _, MOle.of_eq (show MO.arr 144 2 (smpsIn (ac.take i) e.f e.t).length (fun j => (ix (smpsIn (ac.take i) e.f e.t) j).row) = _ by rw [hq]), trivial⟩⟩
        · have : i = ac.length := by have := of_decide_eq_false h2; omega
          subst this
          have ee : smpsIn (ac.take ac.length) e.f e.t = smpsIn ac e.f e.t := by rw [List.take_of_length_le (Nat.le_refl _)]
          rw [ee]
          conv => whnf
          refine CallC.sca _ (c5) ?_ ?_
          · exact rfl
          conv => whnf
          refine CallC.sca _ (c6) ?_ ?_
          · exact rfl
          exact And.intro trivial (AVle.refl _)
    · rw [if_neg ht]
      have hwl := smpsIn_len ac e.f e.t
      have c3 := l13Fold_fn ac (by omega) a2 e.f e.t he
      have hB := aggL_bd (L := smpsIn ac e.f e.t) (by omega) (fun x hx => a2 x (smpsIn_mem hx))
      have hk := B_ok hB (by omega)
      have h0 : 0 ≤ (aggL (smpsIn ac e.f e.t)).c := by rw [hB.1]; omega
      clear hB
      generalize aggL (smpsIn ac e.f e.t) = A at c3 hk h0 ⊢
      cases hr : rbOk D
      · have cr := l03ToBuckets_gen D (by omega) (.tup [.any, .bool false]) (fun h => by rw [hr] at h; cases h) (fun _ => rfl)
        rw [Bool.false_and]
        refine VFn.introC Tryz.call108 Tryz.func108 rfl rfl ?_
        conv => whnf
        refine CallC.sca _ (c1) ?_ ?_
        · exact rfl
        refine Grd.intro (fun g => absurd (of_decide_eq_true g) hv) (fun g => ?_)
        refine Grd.intro (fun g => absurd (of_decide_eq_true g) ht) (fun g => ?_)
        conv => whnf
        refine CallC.nl _ (cr) ?_ ?_
        · exact rfl
        conv => whnf
        refine CallC.sca _ (c3) ?_ ?_
        · exact rfl
        refine Grd.intro (fun g => ?_) (fun g => ?_)
        · refine And.intro ⟨by decide, all1 rfl⟩ ?_
          exact And.intro trivial (AVle.refl _)
        · exact And.intro trivial (AVle.refl _)
      · have cr := l03ToBuckets_gen D (by omega) (.tup [bks (rbV D), .bool true]) (fun _ => rfl) (fun h => by rw [hr] at h; cases h)
        have hr2 := hr
        simp only [rbOk, Bool.and_eq_true] at hr2
        have hrn : ∀ s ∈ rbV D, s.ok := bksOK_ok hr2.2
        have hrl : (rbV D).length ≤ 8 := bks_8 hr2.2
        have hkn : ∀ s ∈ bkt e.f A, s.ok := by
          intro x hx
          unfold bkt at hx
          split at hx
          · cases hx
          · rw [List.mem_singleton.1 hx]; exact ⟨hef, hk⟩
        rw [Bool.true_and, ← buckets_eq hrn hkn]
        have c5 := l03Buckets_fn (rbV D) hrl hrn
        have c6 := l03Buckets_fn (bkt e.f A) (by have := bkt_len e.f A; omega) hkn
        refine VFn.introC Tryz.call108 Tryz.func108 rfl rfl ?_
        conv => whnf
        refine CallC.sca _ (c1) ?_ ?_
        · exact rfl
        refine Grd.intro (fun g => absurd (of_decide_eq_true g) hv) (fun g => ?_)
        refine Grd.intro (fun g => absurd (of_decide_eq_true g) ht) (fun g => ?_)
        conv => whnf
        refine CallC.nl _ (cr) ?_ ?_
        · exact rfl
        conv => whnf
        refine CallC.sca _ (c3) ?_ ?_
        · exact rfl
        refine Grd.intro (fun g => ?_) (fun g => ?_)
        · have g := of_decide_eq_true g
          refine And.intro ⟨by decide, all1 rfl⟩ ?_
          have ek : bkt e.f A = [⟨e.f, A⟩] := by unfold bkt; rw [if_neg (by omega)]
          rw [ek] at c6 ⊢
          conv => whnf
          refine CallC.sca _ (c5) ?_ ?_
          · exact rfl
          conv => whnf
          refine CallC.sca _ ((c6.weak (AVsle.cons (AVle.sl1 rfl) AVsle.nil) (AVle.refl _))) ?_ ?_
          · exact rfl
          exact And.intro trivial (AVle.refl _)
        · have g := of_decide_eq_false g
          have ek : bkt e.f A = [] := by unfold bkt; rw [if_pos (by omega)]
          rw [ek] at c6 ⊢
          conv => whnf
          refine CallC.sca _ (c5) ?_ ?_
          · exact rfl
          conv => whnf
          refine CallC.sca _ ((c6.weak (AVsle.cons (AVle.sl rfl fun j hj => absurd hj (Nat.not_lt_zero j)) AVsle.nil) (AVle.refl _))) ?_ ?_
          · exact rfl
          exact And.intro trivial (AVle.refl _)
  · have hh : s.has e.key = false := by simpa using hh
    rw [hh, if_neg (by simp)] at c1
    rw [show truE s e ac = false by unfold truE; rw [hh]; rfl]
    refine VFn.introC Tryz.call108 Tryz.func108 rfl rfl ?_
    conv => whnf
    refine CallC.sca _ (c1) ?_ ?_
    · exact rfl
    exact And.intro trivial (AVle.refl _)
end Go.Proofs.YtlbnpndednhdaaaGreatDoor
set_option linter.unusedVariables false
set_option linter.constructorNameAsVariable false
set_option linter.unusedSimpArgs false
set_option maxRecDepth 20000
namespace Go.Proofs.YtlbnpndednhdaaaGreatDoor
open Go Go.Vw

theorem En.ok_b {e : En} (h : e.ok = true) : inI .i64 (e.t - 1) ∧ (-1000000000 ≤ e.f ∧ e.f ≤ 1000000000) := by
  simp [En.ok, isRange, within] at h
  exact ⟨inI64 (by omega) (by omega), by omega, by omega⟩
def truR (s : Sto) (e : En) (ac : List Smp) : AV := if 4096 < ac.length then .tup [.bool false, .int .i64 2] else if (s.ok && (e.ok && smpsOK ac)) = true then .tup [.bool (truE s e ac), .int .i64 0] else .tup [.bool false, .int .i64 1]
theorem smpsOK_no {L : List Smp} (h : 4096 < L.length) : smpsOK L = false := by
  unfold smpsOK; rw [decide_eq_false (by omega)]; rfl
theorem szSampleSE_fn (L : List Smp) (n : Int) (h0 : 0 ≤ n) (h1 : n ≤ 1048576) (hL : L.length ≤ 9223372036854775807) : VFn Tryz.prog 27 [smps L, .int .i64 n] (.int .i64 (szr L.length n)) := by
  refine VFn.introC Tryz.call27 Tryz.func27 rfl rfl ?_
  refine And.intro (inI64 (by omega) (by omega)) ?_
  by_cases f : ((L.length : Nat) : Int) ≤ n
  · rw [szr_yes f]
    refine Grd.intro (fun h2 => absurd (of_decide_eq_true h2) (by omega)) (fun _ => ?_)
    exact And.intro trivial (AVle.refl _)
  · rw [szr_no f]
    refine Grd.intro (fun _ => ?_) (fun h2 => absurd (of_decide_eq_false h2) (by omega))
    exact And.intro trivial (AVle.refl _)
end Go.Proofs.YtlbnpndednhdaaaGreatDoor
set_option linter.unusedVariables false
set_option linter.constructorNameAsVariable false
set_option linter.unusedSimpArgs false
set_option maxRecDepth 20000
namespace Go.Proofs.YtlbnpndednhdaaaGreatDoor
open Go Go.Vw

theorem filter_snoc {α : Type} [Inhabited α] {L : List α} {p : α → Bool} {i : Nat} (h : i < L.length) : (L.take (i + 1)).filter p = if p (ix L i) = true then (L.take i).filter p ++ [ix L i] else (L.take i).filter p := by
  rw [take_snoc h, List.filter_append]
  by_cases hp : p (ix L i) = true
  · rw [if_pos hp]; simp [hp]
  · rw [if_neg hp]; simp [hp]
def kept {α : Type} (p : α → Bool) (L : List α) (j : Nat) : List α := ((L.take j).filter fun e => !p e) ++ L.drop ((L.take j).filter fun e => !p e).length
theorem kept_at {α : Type} [Inhabited α] {L : List α} {p : α → Bool} {j : Nat} (h : j < L.length) (hk : ((L.take j).filter fun e => !p e).length ≤ j) : ix (kept p L j) j = ix L j := by
  unfold kept
  rw [ix_app_r hk, ix_drop]
  congr 1; omega
theorem kept_next {α : Type} [Inhabited α] {L : List α} {p : α → Bool} {j : Nat} (h : j < L.length) (hp : p (ix L j) = false) (hk : ((L.take j).filter fun e => !p e).length < j) : ∀ k, k < L.length → ix (kept p L (j + 1)) k = if k = ((L.take j).filter fun e => !p e).length then ix L j else ix (kept p L j) k := by
  intro k hkL
  have hsn := filter_snoc (p := fun e => !p e) h
  rw [if_pos (by rw [hp]; rfl)] at hsn
  unfold kept
  rw [hsn]
  generalize (L.take j).filter (fun e => !p e) = K at hk
  have e1 : (K ++ [ix L j]).length = K.length + 1 := by simp
  split
  · rename_i hc
    subst hc
    rw [ix_app_l (by omega), ix_app_r (Nat.le_refl _), Nat.sub_self]; rfl
  · rename_i hc
    rcases Nat.lt_or_ge k K.length with h1 | h1
    · rw [ix_app_l (by omega), ix_app_l h1, ix_app_l h1]
    · rw [ix_app_r (by omega), ix_app_r h1, ix_drop, ix_drop, e1]
      congr 1; omega
theorem filter_lt {α : Type} [Inhabited α] {L : List α} {p : α → Bool} {i j : Nat} (hij : i < j) (hj : j ≤ L.length) (h : p (ix L i) = false) : ((L.take j).filter p).length < j := by
  have hi : i < L.length := by omega
  have e : L.take j = L.take i ++ (ix L i :: (L.drop (i + 1)).take (j - (i + 1))) := by
    have h1 : L = L.take i ++ (ix L i :: L.drop (i + 1)) := by rw [ix_lt hi]; simp
    have h2 := congrArg (List.take j) h1
    rw [h2, List.take_append, List.take_of_length_le (by simp; omega)]
    congr 1
    have : j - (L.take i).length = (j - (i + 1)) + 1 := by simp; omega
    rw [this, List.take_succ_cons]
  rw [e, List.filter_append, List.filter_cons_of_neg (by rw [h]; simp), List.length_append]
  have a := List.length_filter_le p (L.take i)
  have b := List.length_filter_le p ((L.drop (i + 1)).take (j - (i + 1)))
  simp only [List.length_take, List.length_drop] at a b
  omega
theorem DelEn_some (L : List En) (hL : L.length ≤ 1000000) (F : Nat) (row : List AV) (p : En → Bool) (hp : ∀ e ∈ L, VFn Tryz.prog F [e.av, .eptr row 0] (.bool (p e))) (hs : L.any p = true) :
    FnM Tryz.prog 312 1 [.osl 0, .fn (.func F) [] [.eptr row 0]] [(0, .arr 61 4 L.length fun i => (ix L i).row)] (.osl 1) [(1, .arr 61 4 (L.filter fun e => !p e).length fun i => (ix (L.filter fun e => !p e) i).row)] 2 := by
  have c := IndexEn_1 L (by omega) F row p hp
  obtain ⟨i0, hi0, hfi, hp0⟩ : ∃ i0 : Nat, i0 < L.length ∧ fi p L = (i0 : Int) ∧ p (ix L i0) = true ∧ ∀ j, j < i0 → p (ix L j) = false := by
    rcases fi_first p L with ⟨h, _⟩ | h
    · have := fi_any (p := p) (L := L)
      rw [h, hs] at this; simp at this
    · exact h
  rw [hfi] at c
  have hk0 : (L.take (i0 + 1)).filter (fun e => !p e) = L.take i0 := by
    rw [filter_snoc hi0, if_neg (by rw [hp0.1]; simp)]
    exact List.filter_eq_self.2 fun x hx => by
      obtain ⟨j, hj, rfl⟩ := List.getElem_of_mem hx
      have hj' : j < i0 := by simp at hj; omega
      have := hp0.2 j hj'
      rw [ix_lt (by omega)] at this
      simp [this]
  have hlt : ∀ j, i0 < j → j ≤ L.length → ((L.take j).filter fun e => !p e).length < j := fun j h1 h2 => filter_lt h1 h2 (by rw [hp0.1]; rfl)
  refine FnM.introC Tryz.call312 Tryz.func312 rfl rfl ?_
  conv => whnf
  refine CallC.sca _ (c) ?_ ?_
  · exact rfl
  refine And.intro (inI64 (by omega) (by omega)) ?_
  refine LoopC.mk (fun j : Nat => i0 < j ∧ j ≤ L.length) (fun j => [(0, .osl 0), (1, .fn (.func F) [] [.eptr row 0]), (5, .int .i64 ((L.take j).filter fun e => !p e).length), (6, .int .i64 j)])
    (fun j => [(0, .arr 61 4 L.length fun i => (ix (kept p L j) i).row)]) 1 (fun j => L.length - j) (i0 + 1)
    ⟨⟨by omega, hi0⟩, [(0, 0)], rfl, rfl, ⟨AVle.refl _, AVle.refl _, AVle.of_eq (congrArg (AV.int .i64) (by rw [hk0]; simp; omega)), AVle.of_eq (congrArg (AV.int .i64) (by simp)), trivial⟩, ⟨MOle.arr rfl fun i hi => by
      have e : kept p L (i0 + 1) = L := by unfold kept; rw [hk0]; simp only [List.length_take]; rw [Nat.min_eq_left (by omega)]; simp
      rw [e], trivial⟩⟩ ?_
  intro j hj
  obtain ⟨hj1, hj2⟩ := hj
  have hkl := hlt j hj1 hj2
  refine Grd.intro (fun h2 => ?_) (fun h2 => ?_)
  · have hjn : j < L.length := by have := of_decide_eq_true h2; omega
    have hsn := filter_snoc (p := fun e => !p e) hjn
    have e := kept_at (p := p) hjn (Nat.le_of_lt hkl)
    have cp := hp (ix L j) (getD_mem hjn)
    rw [← e] at cp
    refine And.intro (by omega) ?_
    conv => whnf
    refine CallC.sca _ (cp) ?_ ?_
    · exact rfl
    refine Grd.intro (fun h3 => ?_) (fun h3 => ?_)
    · have h3 : p (ix L j) = false := by rw [e] at h3; simpa using h3
      rw [h3] at hsn
      have hl := hlt (j + 1) (by omega) hjn
      rw [hsn] at hl
      simp at hl
      refine And.intro (by omega) ?_
      refine And.intro (inI64 (by omega) (by omega)) ?_
      refine And.intro (inI64 (by omega) (by omega)) ?_
      refine ⟨j + 1, ⟨by omega, hjn⟩, by omega, [(0, 0)], rfl, rfl, ⟨AVle.refl _, AVle.refl _, AVle.of_eq (congrArg (AV.int .i64) (by rw [hsn]; simp)), AVle.of_eq (congrArg (AV.int .i64) (by simp)), trivial⟩, ⟨MOle.arr rfl fun k hk => ?_, trivial⟩⟩
      have en := kept_next hjn h3 hkl k hk
      by_cases hkc : k = ((L.take j).filter fun e => !p e).length
      · rw [en, if_pos hkc, ← e]
        show (bif Nat.beq k ((L.take j).filter fun e => !p e).length then _ else _) = _
        rw [hkc, beq_t]; rfl
      · rw [en, if_neg hkc]
        show (bif Nat.beq k ((L.take j).filter fun e => !p e).length then _ else _) = _
        rw [beq_f hkc]; rfl
    · have h3 : p (ix L j) = true := by rw [e] at h3; simpa using h3
      rw [h3] at hsn
      refine And.intro (inI64 (by omega) (by omega)) ?_
      refine ⟨j + 1, ⟨by omega, hjn⟩, by omega, [(0, 0)], rfl, rfl, ⟨AVle.refl _, AVle.refl _, AVle.of_eq (congrArg (AV.int .i64) (by rw [hsn]; simp)), AVle.of_eq (congrArg (AV.int .i64) (by simp)), trivial⟩, ⟨MOle.arr rfl fun k hk => ?_, trivial⟩⟩
      have e2 : kept p L (j + 1) = kept p L j := by unfold kept; rw [hsn]; simp
      rw [e2]
  · have : j = L.length := by have := of_decide_eq_false h2; omega
    subst this
    have eT : L.take L.length = L := List.take_of_length_le (Nat.le_refl _)
    obtain ⟨c, hc⟩ : ∃ c, c = ((L.take L.length).filter fun e => !p e).length := ⟨_, rfl⟩
    have hk : ∀ k, k < c → ix (kept p L L.length) k = ix (L.filter fun e => !p e) k := fun k hk => by
      unfold kept
      rw [ix_app_l (by omega), eT]
    have hcl : c = (L.filter fun e => !p e).length := by rw [hc, eT]
    rw [← hc] at hkl
    rw [← hc]
    refine And.intro ⟨by omega, by omega⟩ ?_
    conv => whnf
    refine OpC.clear rfl rfl rfl rfl rfl rfl rfl (by show 1 ≤ L.length - ((c : Int)).toNat; omega) ?_
    conv => whnf
    refine OpC.head rfl rfl rfl rfl rfl rfl rfl ⟨by omega, by omega⟩ ?_
    refine And.intro trivial ⟨[(0, 0), (1, 1)], rfl, AVle.refl _, ⟨MOle.arr (by show ((c : Int)).toNat = _; omega) fun k hk' => ?_, trivial⟩⟩
    have hk' : k < c := by have : k < ((c : Int)).toNat := hk'; omega
    rw [← hk k hk']
    show (bif Nat.blt k ((c : Int)).toNat then _ else _) = _
    rw [blt_t (show k < ((c : Int)).toNat by omega)]; rfl
theorem DelTb_some (L : List Tb) (hL : L.length ≤ 1000000) (F : Nat) (row : List AV) (p : Tb → Bool) (hp : ∀ e ∈ L, VFn Tryz.prog F [e.av, .eptr row 0] (.bool (p e))) (hs : L.any p = true) :
    FnM Tryz.prog 314 1 [.osl 0, .fn (.func F) [] [.eptr row 0]] [(0, .arr 257 2 L.length fun i => (ix L i).row)] (.osl 1) [(1, .arr 257 2 (L.filter fun e => !p e).length fun i => (ix (L.filter fun e => !p e) i).row)] 2 := by
  have c := IndexTb_1 L (by omega) F row p hp
  obtain ⟨i0, hi0, hfi, hp0⟩ : ∃ i0 : Nat, i0 < L.length ∧ fi p L = (i0 : Int) ∧ p (ix L i0) = true ∧ ∀ j, j < i0 → p (ix L j) = false := by
    rcases fi_first p L with ⟨h, _⟩ | h
    · have := fi_any (p := p) (L := L)
      rw [h, hs] at this; simp at this
    · exact h
  rw [hfi] at c
  have hk0 : (L.take (i0 + 1)).filter (fun e => !p e) = L.take i0 := by
    rw [filter_snoc hi0, if_neg (by rw [hp0.1]; simp)]
    exact List.filter_eq_self.2 fun x hx => by
      obtain ⟨j, hj, rfl⟩ := List.getElem_of_mem hx
      have hj' : j < i0 := by simp at hj; omega
      have := hp0.2 j hj'
      rw [ix_lt (by omega)] at this
      simp [this]
  have hlt : ∀ j, i0 < j → j ≤ L.length → ((L.take j).filter fun e => !p e).length < j := fun j h1 h2 => filter_lt h1 h2 (by rw [hp0.1]; rfl)
  refine FnM.introC Tryz.call314 Tryz.func314 rfl rfl ?_
  conv => whnf
  refine CallC.sca _ (c) ?_ ?_
  · exact rfl
  refine And.intro (inI64 (by omega) (by omega)) ?_
  refine LoopC.mk (fun j : Nat => i0 < j ∧ j ≤ L.length) (fun j => [(0, .osl 0), (1, .fn (.func F) [] [.eptr row 0]), (5, .int .i64 ((L.take j).filter fun e => !p e).length), (6, .int .i64 j)])
    (fun j => [(0, .arr 257 2 L.length fun i => (ix (kept p L j) i).row)]) 1 (fun j => L.length - j) (i0 + 1)
    ⟨⟨by omega, hi0⟩, [(0, 0)], rfl, rfl, ⟨AVle.refl _, AVle.refl _, AVle.of_eq (congrArg (AV.int .i64) (by rw [hk0]; simp; omega)), AVle.of_eq (congrArg (AV.int .i64) (by simp)), trivial⟩, ⟨MOle.arr rfl fun i hi => by
      have e : kept p L (i0 + 1) = L := by unfold kept; rw [hk0]; simp only [List.length_take]; rw [Nat.min_eq_left (by omega)]; simp
      rw [e], trivial⟩⟩ ?_
  intro j hj
  obtain ⟨hj1, hj2⟩ := hj
  have hkl := hlt j hj1 hj2
  refine Grd.intro (fun h2 => ?_) (fun h2 => ?_)
  · have hjn : j < L.length := by have := of_decide_eq_true h2; omega
    have hsn := filter_snoc (p := fun e => !p e) hjn
    have e := kept_at (p := p) hjn (Nat.le_of_lt hkl)
    have cp := hp (ix L j) (getD_mem hjn)
    rw [← e] at cp
    refine And.intro (by omega) ?_
    conv => whnf
    refine CallC.sca _ (cp) ?_ ?_
    · exact rfl
    refine Grd.intro (fun h3 => ?_) (fun h3 => ?_)
    · have h3 : p (ix L j) = false := by rw [e] at h3; simpa using h3
      rw [h3] at hsn
      have hl := hlt (j + 1) (by omega) hjn
      rw [hsn] at hl
      simp at hl
      refine And.intro (by omega) ?_
      refine And.intro (inI64 (by omega) (by omega)) ?_
      refine And.intro (inI64 (by omega) (by omega)) ?_
      refine ⟨j + 1, ⟨by omega, hjn⟩, by omega, [(0, 0)], rfl, rfl, ⟨AVle.refl _, AVle.refl _, AVle.of_eq (congrArg (AV.int .i64) (by rw [hsn]; simp)), AVle.of_eq (congrArg (AV.int .i64) (by simp)), trivial⟩, ⟨MOle.arr rfl fun k hk => ?_, trivial⟩⟩
      have en := kept_next hjn h3 hkl k hk
      by_cases hkc : k = ((L.take j).filter fun e => !p e).length
      · rw [en, if_pos hkc, ← e]
        show (bif Nat.beq k ((L.take j).filter fun e => !p e).length then _ else _) = _
        rw [hkc, beq_t]; rfl
      · rw [en, if_neg hkc]
        show (bif Nat.beq k ((L.take j).filter fun e => !p e).length then _ else _) = _
        rw [beq_f hkc]; rfl
    · have h3 : p (ix L j) = true := by rw [e] at h3; simpa using h3
      rw [h3] at hsn
      refine And.intro (inI64 (by omega) (by omega)) ?_
      refine ⟨j + 1, ⟨by omega, hjn⟩, by omega, [(0, 0)], rfl, rfl, ⟨AVle.refl _, AVle.refl _, AVle.of_eq (congrArg (AV.int .i64) (by rw [hsn]; simp)), AVle.of_eq (congrArg (AV.int .i64) (by simp)), trivial⟩, ⟨MOle.arr rfl fun k hk => ?_, trivial⟩⟩
      have e2 : kept p L (j + 1) = kept p L j := by unfold kept; rw [hsn]; simp
      rw [e2]
  · have : j = L.length := by have := of_decide_eq_false h2; omega
    subst this
    have eT : L.take L.length = L := List.take_of_length_le (Nat.le_refl _)
    obtain ⟨c, hc⟩ : ∃ c, c = ((L.take L.length).filter fun e => !p e).length := ⟨_, rfl⟩
    have hk : ∀ k, k < c → ix (kept p L L.length) k = ix (L.filter fun e => !p e) k := fun k hk => by
      unfold kept
      rw [ix_app_l (by omega), eT]
    have hcl : c = (L.filter fun e => !p e).length := by rw [hc, eT]
    rw [← hc] at hkl
    rw [← hc]
    refine And.intro ⟨by omega, by omega⟩ ?_
    conv => whnf
    refine OpC.clear rfl rfl rfl rfl rfl rfl rfl (by show 1 ≤ L.length - ((c : Int)).toNat; omega) ?_
    conv => whnf
    refine OpC.head rfl rfl rfl rfl rfl rfl rfl ⟨by omega, by omega⟩ ?_
    refine And.intro trivial ⟨[(0, 0), (1, 1)], rfl, AVle.refl _, ⟨MOle.arr (by show ((c : Int)).toNat = _; omega) fun k hk' => ?_, trivial⟩⟩
    have hk' : k < c := by have : k < ((c : Int)).toNat := hk'; omega
    rw [← hk k hk']
    show (bif Nat.blt k ((c : Int)).toNat then _ else _) = _
    rw [blt_t (show k < ((c : Int)).toNat by omega)]; rfl
end Go.Proofs.YtlbnpndednhdaaaGreatDoor
set_option linter.unusedVariables false
set_option linter.constructorNameAsVariable false
set_option linter.unusedSimpArgs false
set_option maxRecDepth 20000
namespace Go.Proofs.YtlbnpndednhdaaaGreatDoor
open Go Go.Vw

def Sta.own (s : Sta) : AV := .agg [.int .i64 s.seq, .int .i64 s.fence, .osl 0, .osl 1, .int .i64 s.l0, .int .i64 s.l1, .int .i64 s.l2, .int .i64 s.h0, .int .i64 s.h1, .int .i64 s.h2]
end Go.Proofs.YtlbnpndednhdaaaGreatDoor
set_option linter.unusedVariables false
set_option linter.constructorNameAsVariable false
set_option linter.unusedSimpArgs false
set_option maxRecDepth 20000
namespace Go.Proofs.YtlbnpndednhdaaaGreatDoor
open Go Go.Vw

end Go.Proofs.YtlbnpndednhdaaaGreatDoor
set_option linter.unusedVariables false
set_option linter.constructorNameAsVariable false
set_option linter.unusedSimpArgs false
set_option maxRecDepth 20000
namespace Go.Proofs.YtlbnpndednhdaaaGreatDoor
open Go Go.Vw

theorem CloneEn_own (L : List En) (hL : L.length ≤ 1000000) : FnM Tryz.prog 339 0 [ents L] [] (.osl 0) [(0, .arr 61 4 L.length fun i => (ix L i).row)] 1 := by
  refine FnM.introN Tryz.call339 Tryz.func339 rfl rfl ?_
  conv => whnf
  refine OpC.isnil rfl rfl rfl rfl rfl (fun h0 => ?_) ?_
  · conv => whnf
    exact ⟨_, .inr ⟨2, 61, 4, fun i => (ix L i).row, rfl, rfl⟩, And.intro trivial ⟨[(0, 0)], rfl, AVle.refl _, ⟨MOle.arr h0.symm fun i hi => rfl, trivial⟩⟩⟩
  · conv => whnf
    refine And.intro ⟨show (0 + L.length) * 40 ≤ 140737488355328 by omega, fun i hi => rfl⟩ ?_
    conv => whnf
    exact ⟨_, .inl rfl, And.intro trivial ⟨[(1, 0)], rfl, AVle.refl _, ⟨MOle.arr (Nat.zero_add _) fun i hi => appRows_ge (Nat.zero_le _), trivial⟩⟩⟩
theorem CloneTb_own (L : List Tb) (hL : L.length ≤ 1000000) : FnM Tryz.prog 340 0 [tbs L] [] (.osl 0) [(0, .arr 257 2 L.length fun i => (ix L i).row)] 1 := by
  refine FnM.introN Tryz.call340 Tryz.func340 rfl rfl ?_
  conv => whnf
  refine OpC.isnil rfl rfl rfl rfl rfl (fun h0 => ?_) ?_
  · conv => whnf
    exact ⟨_, .inr ⟨2, 257, 2, fun i => (ix L i).row, rfl, rfl⟩, And.intro trivial ⟨[(0, 0)], rfl, AVle.refl _, ⟨MOle.arr h0.symm fun i hi => rfl, trivial⟩⟩⟩
  · conv => whnf
    refine And.intro ⟨show (0 + L.length) * 24 ≤ 140737488355328 by omega, fun i hi => rfl⟩ ?_
    conv => whnf
    exact ⟨_, .inl rfl, And.intro trivial ⟨[(1, 0)], rfl, AVle.refl _, ⟨MOle.arr (Nat.zero_add _) fun i hi => appRows_ge (Nat.zero_le _), trivial⟩⟩⟩
abbrev Sta.objs (s : Sta) : List (Nat × MO) := [(0, .arr 61 4 s.es.length fun i => (ix s.es i).row), (1, .arr 257 2 s.ts.length fun i => (ix s.ts i).row)]
theorem copiedS_own (s : Sta) (hL : s.es.length ≤ 1000000) (hT : s.ts.length ≤ 1000000) : FnM Tryz.prog 311 0 [s.av] [] s.own s.objs 2 := by
  refine FnM.introC Tryz.call311 Tryz.func311 rfl rfl ?_
  refine DrawC.mk 7 rfl (by kernel_rfl) ?_
  conv => whnf
  refine PCallC.own (CloneEn_own s.es hL) rfl (fun i hi => rfl) ?_
  conv => whnf
  refine PCallC.own (CloneTb_own s.ts hT) rfl (fun i hi => rfl) ?_
  exact And.intro trivial ⟨[(4, 0), (7, 1)], rfl, AVle.refl _, ⟨MOle.refl _, MOle.refl _, trivial⟩⟩
end Go.Proofs.YtlbnpndednhdaaaGreatDoor
set_option linter.unusedVariables false
set_option linter.constructorNameAsVariable false
set_option linter.unusedSimpArgs false
set_option maxRecDepth 20000
namespace Go.Proofs.YtlbnpndednhdaaaGreatDoor
open Go Go.Vw

structure StoOK (s : Sto) : Prop where
  nx : 1 ≤ s.next ∧ s.next ≤ 1000000000
  len : s.os.length ≤ 300
  el : ∀ o ∈ s.os, keyOK o.key = true ∧ (1 ≤ o.ver ∧ o.ver ≤ s.next - 1) ∧ o.data.length ≤ 600
  vs : (s.os.map (·.ver)).Nodup
  ks : s.os.Pairwise fun a b => a.key < b.key
/-- a store without a key -/
def wo (x : Sto) (k : List UInt8) : Sto := ⟨x.os.filter fun o => !decide (o.key = k), x.next⟩
end Go.Proofs.YtlbnpndednhdaaaGreatDoor
set_option linter.unusedVariables false
set_option linter.constructorNameAsVariable false
set_option linter.unusedSimpArgs false
set_option maxRecDepth 20000
namespace Go.Proofs.YtlbnpndednhdaaaGreatDoor
open Go Go.Vw

def riseS (q : Int × Bool) (r : Rc) (took : Bool) : Int × Bool :=
  if took = true then (if r.k = 2 then (r.tok, q.2 && decide (q.1 < r.tok)) else if r.k = 3 ∨ r.k = 4 then (q.1, q.2 && decide (r.tok = q.1)) else q) else q
def riseN (x : Sto) : Nat → Int × Bool
  | 0 => (0, true)
  | n + 1 => match recAt x ((n : Int) + 1) with
    | none => riseN x n
    | some r => riseS (riseN x n) r ((logN x n).takes r)
theorem riseS_no {q : Int × Bool} {r : Rc} {t : Bool} (h : q.2 = false) : (riseS q r t).2 = false := by
  unfold riseS
  split
  · split
    · simp [h]
    · split
      · simp [h]
      · exact h
  · exact h
theorem riseN_mono (x : Sto) : ∀ n i, i ≤ n → (riseN x i).2 = false → (riseN x n).2 = false
  | 0, i, h, hf => by have : i = 0 := by omega
                      subst this; exact hf
  | n + 1, i, h, hf => by
    rcases Nat.lt_or_ge n i with h1 | h1
    · have : i = n + 1 := by omega
      subst this; exact hf
    · have ih := riseN_mono x n i h1 hf
      unfold riseN
      split
      · exact ih
      · exact riseS_no ih
theorem firstNo_ge {p : Nat → Bool} : ∀ f n m, (∀ j, n ≤ j → j < m → p j = true) → m ≤ n + f → m ≤ firstNo p f n
  | 0, n, m, _, h => h
  | f + 1, n, m, hp, h => by
    unfold firstNo
    rcases Nat.lt_or_ge n m with h1 | h1
    · rw [if_pos (hp n (Nat.le_refl _) h1)]
      exact firstNo_ge f (n + 1) m (fun j hj => hp j (by omega)) (by omega)
    · split
      · have := firstNo_ge f (n + 1) m (fun j hj => hp j (by omega)) (by omega); omega
      · exact h1
/-- what is of no use: data of which nothing in a state knows, nor will -/
def Sta.orph (s : Sta) (k : List UInt8) : Bool := kOk k && (!s.has k && ((decide (kT k = 0) && decide (kN k ≤ s.seq)) || (decide (0 < kT k) && decide (kW k < s.fence))))
def dataKs (x : Sto) : List (List UInt8) := (x.os.map (·.key)).filter kOk
end Go.Proofs.YtlbnpndednhdaaaGreatDoor
set_option linter.unusedVariables false
set_option linter.constructorNameAsVariable false
set_option linter.unusedSimpArgs false
set_option maxRecDepth 20000
namespace Go.Proofs.YtlbnpndednhdaaaGreatDoor
open Go Go.Vw

structure StaOK (s : Sta) : Prop where
  q : 0 ≤ s.seq ∧ s.seq ≤ 999999
  f : 0 ≤ s.fence ∧ s.fence ≤ 999999
  len : s.es.length + s.ts.length ≤ 4096
  es : ∀ e ∈ s.es, e.ok = true
  ts : ∀ t ∈ s.ts, kOk t.key = true ∧ 1 ≤ t.seq ∧ t.seq ≤ s.seq
  nd : s.keys.Nodup
  lo : ∀ k, (k = 0 ∨ k = 1 ∨ k = 2) → 0 ≤ s.lo k ∧ s.lo k ≤ 100000
  runs : ∀ k, (k = 0 ∨ k = 1 ∨ k = 2) → runs (ofT s.es k) (s.lo k) = some (s.hi k)
theorem runs_app1 : ∀ (L : List En) (e : En) (a b : Int), runs L a = some b → e.f = b → runs (L ++ [e]) a = some e.t
  | [], e, a, b, h, h2 => by
    have : a = b := by simpa [runs] using h
    subst this
    simp [runs, h2]
  | x :: r, e, a, b, h, h2 => by
    simp only [runs] at h
    split at h
    · rename_i hx
      simp only [List.cons_append, runs]
      rw [if_pos hx]
      exact runs_app1 r e _ b h h2
    · cases h
theorem en_tier {e : En} (h : e.ok = true) : (e.tier = 0 ∨ e.tier = 1 ∨ e.tier = 2) ∧ 0 ≤ e.f ∧ e.f < e.t ∧ e.t ≤ 100000 ∧ kOk e.key = true := by
  unfold En.ok isRange at h
  simp only [Bool.and_eq_true, decide_eq_true_eq, within] at h
  have := kT_nat e.key
  refine ⟨by omega, by omega, by omega, by omega, h.1⟩
theorem kinds {k tok tier f t : Int} {key : List UInt8} (h : Rc.ok ⟨k, tok, tier, f, t, key⟩ = true) : (k = 1 ∧ tier = 0) ∨ k = 2 ∨ (k = 3 ∧ (tier = 1 ∨ tier = 2) ∧ (0 ≤ f ∧ f ≤ 1000000)) ∨ (k = 4 ∧ (tier = 0 ∨ tier = 1 ∨ tier = 2)) ∨ k = 5 := by
  unfold Rc.ok at h
  dsimp only at h
  by_cases h1 : k = 1
  · rw [if_pos h1] at h
    simp only [Bool.and_eq_true, decide_eq_true_eq] at h
    exact .inl ⟨h1, h.2.1⟩
  rw [if_neg h1] at h
  by_cases h2 : k = 2
  · exact .inr (.inl h2)
  rw [if_neg h2] at h
  by_cases h3 : k = 3
  · rw [if_pos h3] at h
    simp only [Bool.and_eq_true, decide_eq_true_eq] at h
    obtain ⟨ht, hb⟩ := en_tier h.2.2
    have ht : tier = 0 ∨ tier = 1 ∨ tier = 2 := ht
    have hb : 0 ≤ f ∧ f < t ∧ t ≤ 100000 ∧ _ := hb
    exact .inr (.inr (.inl ⟨h3, by have := h.2.1; omega, by omega, by omega⟩))
  rw [if_neg h3] at h
  by_cases h4 : k = 4
  · rw [if_pos h4] at h
    simp only [Bool.and_eq_true] at h
    exact .inr (.inr (.inr (.inl ⟨h4, (en_tier h.2).1⟩)))
  rw [if_neg h4] at h
  by_cases h5 : k = 5
  · exact .inr (.inr (.inr (.inr h5)))
  rw [if_neg h5] at h
  cases h
theorem nodup_key : ∀ {L : List En}, (L.map (·.key)).Nodup → ∀ {a b : En}, a ∈ L → b ∈ L → a.key = b.key → a = b
  | [], _, a, b, ha, _, _ => by cases ha
  | x :: r, nd, a, b, ha, hb, h => by
    rw [List.map_cons] at nd
    have h' := List.nodup_cons.1 nd
    rcases List.mem_cons.1 ha with ha | ha <;> rcases List.mem_cons.1 hb with hb | hb
    · rw [ha, hb]
    · exact absurd (List.mem_map.2 ⟨b, hb, by rw [← h, ha]⟩) h'.1
    · exact absurd (List.mem_map.2 ⟨a, ha, by rw [h, hb]⟩) h'.1
    · exact nodup_key h'.2 ha hb h
end Go.Proofs.YtlbnpndednhdaaaGreatDoor
set_option linter.unusedVariables false
set_option linter.constructorNameAsVariable false
set_option linter.unusedSimpArgs false
set_option maxRecDepth 20000
namespace Go.Proofs.YtlbnpndednhdaaaGreatDoor
open Go Go.Vw

theorem headIs_cells (x : En) (r : List En) (k f t : Int) (key : List UInt8) : headIs (x :: r) ⟨k, f, t, key⟩ = (decide (x.tier = k) && (decide (x.f = f) && (decide (x.t = t) && (((B x.key).toList == (B key).toList) && true)))) := by
  rw [B_eq, Bool.and_true]
  show decide (x = ⟨k, f, t, key⟩) = _
  obtain ⟨a, b, c, d⟩ := x
  rw [Bool.eq_iff_iff]
  simp
set_option maxHeartbeats 1000000 in
theorem takes4_0 (s : Sta) (hL : s.es.length ≤ 1000000000) (tok f t : Int) (key : List UInt8) : VFn Tryz.prog 310 [s.av, (Rc.mk 4 tok 0 f t key).av] (.bool (s.takes ⟨4, tok, 0, f, t, key⟩)) := by
  obtain ⟨R, hR⟩ : ∃ R, R = ofT s.es 0 := ⟨_, rfl⟩
  have e : s.takes ⟨4, tok, 0, f, t, key⟩ = (decide (tok = s.fence) && (headIs R ⟨0, f, t, key⟩ && decide (t ≤ s.h1))) := by rw [hR]; exact rfl
  rw [e]
  have c := ofS_fn s hL 0
  rw [← hR] at c
  have ce := entry_fn ⟨4, tok, 0, f, t, key⟩
  refine VFn.introC Tryz.call310 Tryz.func310 rfl rfl ?_
  conv => whnf
  refine CallC.nl _ (c) ?_ ?_
  · exact rfl
  cases R with
  | nil =>
    refine DrawC.mk 36 rfl (by kernel_rfl) ?_
    repeat' (first
      | refine Grd.intro (fun h => ?_) (fun h => ?_)
      | ((conv => whnf); refine Grd.intro (fun h => ?_) (fun h => ?_))
      | refine And.intro (inI64 (by (try simp only); omega) (by (try simp only); omega)) ?_
      | refine And.intro trivial (AVle.of_eq (congrArg AV.bool ?_)))
    all_goals (show false = (_ && (false&& _)); simp)
  | cons x r =>
    have hH : headIs (x :: r) ⟨0, f, t, key⟩ = (decide ((ix (x :: r) (Int.toNat 0)).tier = 0) && (decide ((ix (x :: r) (Int.toNat 0)).f = f) && (decide ((ix (x :: r) (Int.toNat 0)).t = t) && (((B (ix (x :: r) (Int.toNat 0)).key).toList == (B key).toList) && true)))) := headIs_cells x r 0 f t key
    refine DrawC.mk 36 rfl (by kernel_rfl) ?_
    repeat' (first
      | refine Grd.intro (fun h => ?_) (fun h => ?_)
      | ((conv => whnf); refine Grd.intro (fun h => ?_) (fun h => ?_))
      | refine PCallC.sca _ ce rfl ?_
      | refine And.intro ⟨Int.le_refl 0, show (0 : Int) < (((x :: r).length : Nat) : Int) by rw [List.length_cons]; omega⟩ ?_
      | refine And.intro (show eqGB _ _ = true from by kernel_rfl) ?_
      | refine And.intro (inI64 (by (try simp only); omega) (by (try simp only); omega)) ?_
      | refine And.intro ⟨show (0 : Int) ≤ 1 by omega, show (1 : Int) < ((3 : Nat) : Int) by omega⟩ ?_
      | refine And.intro ⟨show (0 : Int) ≤ 2 by omega, show (2 : Int) < ((3 : Nat) : Int) by omega⟩ ?_
      | refine And.intro trivial (AVle.of_eq (congrArg AV.bool ?_)))
    all_goals (clear hR e c ce; rw [hH]; simp_all)
set_option maxHeartbeats 1000000 in
theorem takes4_1 (s : Sta) (hL : s.es.length ≤ 1000000000) (tok f t : Int) (key : List UInt8) : VFn Tryz.prog 310 [s.av, (Rc.mk 4 tok 1 f t key).av] (.bool (s.takes ⟨4, tok, 1, f, t, key⟩)) := by
  obtain ⟨R, hR⟩ : ∃ R, R = ofT s.es 1 := ⟨_, rfl⟩
  have e : s.takes ⟨4, tok, 1, f, t, key⟩ = (decide (tok = s.fence) && (headIs R ⟨1, f, t, key⟩ && decide (t ≤ s.h2))) := by rw [hR]; exact rfl
  rw [e]
  have c := ofS_fn s hL 1
  rw [← hR] at c
  have ce := entry_fn ⟨4, tok, 1, f, t, key⟩
  refine VFn.introC Tryz.call310 Tryz.func310 rfl rfl ?_
  conv => whnf
  refine CallC.nl _ (c) ?_ ?_
  · exact rfl
  cases R with
  | nil =>
    refine DrawC.mk 36 rfl (by kernel_rfl) ?_
    repeat' (first
      | refine Grd.intro (fun h => ?_) (fun h => ?_)
      | ((conv => whnf); refine Grd.intro (fun h => ?_) (fun h => ?_))
      | refine And.intro (inI64 (by (try simp only); omega) (by (try simp only); omega)) ?_
      | refine And.intro trivial (AVle.of_eq (congrArg AV.bool ?_)))
    all_goals (show false = (_ && (false&& _)); simp)
  | cons x r =>
    have hH : headIs (x :: r) ⟨1, f, t, key⟩ = (decide ((ix (x :: r) (Int.toNat 0)).tier = 1) && (decide ((ix (x :: r) (Int.toNat 0)).f = f) && (decide ((ix (x :: r) (Int.toNat 0)).t = t) && (((B (ix (x :: r) (Int.toNat 0)).key).toList == (B key).toList) && true)))) := headIs_cells x r 1 f t key
    refine DrawC.mk 36 rfl (by kernel_rfl) ?_
    repeat' (first
      | refine Grd.intro (fun h => ?_) (fun h => ?_)
      | ((conv => whnf); refine Grd.intro (fun h => ?_) (fun h => ?_))
      | refine PCallC.sca _ ce rfl ?_
      | refine And.intro ⟨Int.le_refl 0, show (0 : Int) < (((x :: r).length : Nat) : Int) by rw [List.length_cons]; omega⟩ ?_
      | refine And.intro (show eqGB _ _ = true from by kernel_rfl) ?_
      | refine And.intro (inI64 (by (try simp only); omega) (by (try simp only); omega)) ?_
      | refine And.intro ⟨show (0 : Int) ≤ 1 by omega, show (1 : Int) < ((3 : Nat) : Int) by omega⟩ ?_
      | refine And.intro ⟨show (0 : Int) ≤ 2 by omega, show (2 : Int) < ((3 : Nat) : Int) by omega⟩ ?_
      | refine And.intro trivial (AVle.of_eq (congrArg AV.bool ?_)))
    all_goals (clear hR e c ce; rw [hH]; simp_all)
set_option maxHeartbeats 1000000 in
theorem takes4_2 (s : Sta) (hL : s.es.length ≤ 1000000000) (tok f t : Int) (key : List UInt8) : VFn Tryz.prog 310 [s.av, (Rc.mk 4 tok 2 f t key).av] (.bool (s.takes ⟨4, tok, 2, f, t, key⟩)) := by
  obtain ⟨R, hR⟩ : ∃ R, R = ofT s.es 2 := ⟨_, rfl⟩
  have e : s.takes ⟨4, tok, 2, f, t, key⟩ = (decide (tok = s.fence) && (headIs R ⟨2, f, t, key⟩)) := by rw [hR]; exact (show (decide (tok = s.fence) && (headIs (ofT s.es 2) ⟨2, f, t, key⟩ && true)) = _ by rw [Bool.and_true])
  rw [e]
  have c := ofS_fn s hL 2
  rw [← hR] at c
  have ce := entry_fn ⟨4, tok, 2, f, t, key⟩
  refine VFn.introC Tryz.call310 Tryz.func310 rfl rfl ?_
  conv => whnf
  refine CallC.nl _ (c) ?_ ?_
  · exact rfl
  cases R with
  | nil =>
    refine DrawC.mk 36 rfl (by kernel_rfl) ?_
    repeat' (first
      | refine Grd.intro (fun h => ?_) (fun h => ?_)
      | ((conv => whnf); refine Grd.intro (fun h => ?_) (fun h => ?_))
      | refine And.intro (inI64 (by (try simp only); omega) (by (try simp only); omega)) ?_
      | refine And.intro trivial (AVle.of_eq (congrArg AV.bool ?_)))
    all_goals (show false = (_ && (false)); simp)
  | cons x r =>
    have hH : headIs (x :: r) ⟨2, f, t, key⟩ = (decide ((ix (x :: r) (Int.toNat 0)).tier = 2) && (decide ((ix (x :: r) (Int.toNat 0)).f = f) && (decide ((ix (x :: r) (Int.toNat 0)).t = t) && (((B (ix (x :: r) (Int.toNat 0)).key).toList == (B key).toList) && true)))) := headIs_cells x r 2 f t key
    refine DrawC.mk 36 rfl (by kernel_rfl) ?_
    repeat' (first
      | refine Grd.intro (fun h => ?_) (fun h => ?_)
      | ((conv => whnf); refine Grd.intro (fun h => ?_) (fun h => ?_))
      | refine PCallC.sca _ ce rfl ?_
      | refine And.intro ⟨Int.le_refl 0, show (0 : Int) < (((x :: r).length : Nat) : Int) by rw [List.length_cons]; omega⟩ ?_
      | refine And.intro (show eqGB _ _ = true from by kernel_rfl) ?_
      | refine And.intro (inI64 (by (try simp only); omega) (by (try simp only); omega)) ?_
      | refine And.intro ⟨show (0 : Int) ≤ 1 by omega, show (1 : Int) < ((3 : Nat) : Int) by omega⟩ ?_
      | refine And.intro ⟨show (0 : Int) ≤ 2 by omega, show (2 : Int) < ((3 : Nat) : Int) by omega⟩ ?_
      | refine And.intro trivial (AVle.of_eq (congrArg AV.bool ?_)))
    all_goals (clear hR e c ce; rw [hH]; simp_all)
end Go.Proofs.YtlbnpndednhdaaaGreatDoor
