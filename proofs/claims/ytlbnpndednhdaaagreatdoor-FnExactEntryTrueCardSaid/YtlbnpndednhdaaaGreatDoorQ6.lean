/- Contracts of functions that the claim reaches, and the plain law of what they compute; each theorem bears its own conditions. -/
import Derived.Test.YtlbnpndednhdaaaGreatDoorQ2
import Derived.Test.YtlbnpndednhdaaaGreatDoorQ4
import Derived.Test.YtlbnpndednhdaaaGreatDoorV49
import Derived.Test.YtlbnpndednhdaaaGreatDoorQ5
import Derived.Test.YtlbnpndednhdaaaGreatDoorQ3
set_option linter.unusedVariables false
set_option linter.constructorNameAsVariable false
set_option linter.unusedSimpArgs false
set_option maxRecDepth 20000
namespace Go.Proofs.YtlbnpndednhdaaaGreatDoor
open Go Go.Vw

def eqS {α : Type} [Inhabited α] (q : α → α → Bool) (L M : List α) : Bool := decide ((L.length : Int) = M.length) && allN L.length fun i => q (ix L i) (ix M i)
theorem eqS_len {α : Type} [Inhabited α] {q : α → α → Bool} {L M : List α} (h : ¬ (L.length : Int) = M.length) : eqS q L M = false := by
  unfold eqS; rw [decide_eq_false h]; rfl
theorem eqS_no {α : Type} [Inhabited α] {q : α → α → Bool} {L M : List α} {i : Nat} (hi : i < L.length) (h : q (ix L i) (ix M i) = false) : eqS q L M = false := by
  unfold eqS; rw [allN_no (q := fun i => q (ix L i) (ix M i)) hi h]; simp
theorem eqS_yes {α : Type} [Inhabited α] {q : α → α → Bool} {L M : List α} (hl : (L.length : Int) = M.length) (h : ∀ j, j < L.length → q (ix L j) (ix M j) = true) : eqS q L M = true := by
  unfold eqS; rw [decide_eq_true hl, allN_iff.2 h]; rfl
def Ob.eqb (x y : Ob) : Bool := ((B x.key).toList == (B y.key).toList) && (decide (x.ver = y.ver) && (((B x.data).toList == (B y.data).toList) && true))
def En.eqb (x y : En) : Bool := decide (x.tier = y.tier) && (decide (x.f = y.f) && (decide (x.t = y.t) && (((B x.key).toList == (B y.key).toList) && true)))
def Smp.eqb (x y : Smp) : Bool := decide (x.t = y.t) && (decide (x.v = y.v) && true)
def Rc.eqb (x y : Rc) : Bool := decide (x.k = y.k) && (decide (x.tok = y.tok) && (decide (x.tier = y.tier) && (decide (x.f = y.f) && (decide (x.t = y.t) && (((B x.key).toList == (B y.key).toList) && true)))))
def Bk.eqb (x y : Bk) : Bool := decide (x.t = y.t) && ((Ag.eqb x.a y.a) && true)
theorem EqualSmp2_fn (L M : List Smp) (hL : L.length ≤ 1048576) (hM : M.length ≤ 1048576) : VFn Tryz.prog 101 [smps L, smps M] (.bool (eqS Smp.eqb L M)) := by
  by_cases hl : (L.length : Int) = M.length
  · refine VFn.introC Tryz.call101 Tryz.func101 rfl rfl ?_
    refine Grd.intro (fun g => ?_) (fun _ => ?_)
    · exfalso; simp [hl] at g
    refine LoopC.mk (fun i : Nat => i ≤ L.length ∧ ∀ j, j < i → Smp.eqb (ix L j) (ix M j) = true) (fun i => [(0, smps L), (1, smps M), (12, .int .i64 L.length), (13, .int .i64 i)]) (fun i => []) 0 (fun i => L.length - i) 0
      ⟨⟨Nat.zero_le _, fun j hj => absurd hj (Nat.not_lt_zero j)⟩, [], rfl, rfl, ⟨AVle.refl _, AVle.refl _, AVle.refl _, AVle.refl _, trivial⟩, trivial⟩ ?_
    intro i hi
    obtain ⟨hi, h0⟩ := hi
    refine Grd.intro (fun h2 => ?_) (fun h2 => ?_)
    · have hin : i < L.length := by have := of_decide_eq_true h2; omega
      refine DrawC.mk 8 rfl (by kernel_rfl) ?_
      refine And.intro (by omega) ?_
      refine And.intro (by omega) ?_
      refine And.intro (by kernel_rfl) ?_
      refine Grd.intro (fun g => ?_) (fun g => ?_)
      · have g : (!Smp.eqb (ix L i) (ix M i)) = true := g
        rw [eqS_no hin (by simpa using g)]
        exact And.intro trivial (AVle.refl _)
      · have g : (!Smp.eqb (ix L i) (ix M i)) = false := g
        have g : Smp.eqb (ix L i) (ix M i) = true := by simpa using g
        refine And.intro (inI64 (by omega) (by omega)) ?_
        exact ⟨i + 1, ⟨hin, fun j hj => by
          rcases Nat.lt_or_ge j i with h' | h'
          · exact h0 j h'
          · rw [show j = i by omega]; exact g⟩, by omega, [], rfl, rfl, ⟨AVle.refl _, AVle.refl _, AVle.refl _, AVle.of_eq (congrArg (AV.int .i64) (by simp)), trivial⟩, trivial⟩
    · have : i = L.length := by have := of_decide_eq_false h2; omega
      subst this
      rw [eqS_yes hl h0]
      exact And.intro trivial (AVle.refl _)
  · rw [eqS_len hl]
    refine VFn.introC Tryz.call101 Tryz.func101 rfl rfl ?_
    refine Grd.intro (fun g => ?_) (fun g => ?_)
    · exact And.intro trivial (AVle.refl _)
    · exfalso; simp [hl] at g
theorem EqualBk2_fn (L M : List Bk) (hL : L.length ≤ 1048576) (hM : M.length ≤ 1048576) : VFn Tryz.prog 187 [bks L, bks M] (.bool (eqS Bk.eqb L M)) := by
  by_cases hl : (L.length : Int) = M.length
  · refine VFn.introC Tryz.call187 Tryz.func187 rfl rfl ?_
    refine Grd.intro (fun g => ?_) (fun _ => ?_)
    · exfalso; simp [hl] at g
    refine LoopC.mk (fun i : Nat => i ≤ L.length ∧ ∀ j, j < i → Bk.eqb (ix L j) (ix M j) = true) (fun i => [(0, bks L), (1, bks M), (12, .int .i64 L.length), (13, .int .i64 i)]) (fun i => []) 0 (fun i => L.length - i) 0
      ⟨⟨Nat.zero_le _, fun j hj => absurd hj (Nat.not_lt_zero j)⟩, [], rfl, rfl, ⟨AVle.refl _, AVle.refl _, AVle.refl _, AVle.refl _, trivial⟩, trivial⟩ ?_
    intro i hi
    obtain ⟨hi, h0⟩ := hi
    refine Grd.intro (fun h2 => ?_) (fun h2 => ?_)
    · have hin : i < L.length := by have := of_decide_eq_true h2; omega
      refine DrawC.mk 8 rfl (by kernel_rfl) ?_
      refine And.intro (by omega) ?_
      refine And.intro (by omega) ?_
      refine And.intro (by kernel_rfl) ?_
      refine Grd.intro (fun g => ?_) (fun g => ?_)
      · have g : (!Bk.eqb (ix L i) (ix M i)) = true := g
        rw [eqS_no hin (by simpa using g)]
        exact And.intro trivial (AVle.refl _)
      · have g : (!Bk.eqb (ix L i) (ix M i)) = false := g
        have g : Bk.eqb (ix L i) (ix M i) = true := by simpa using g
        refine And.intro (inI64 (by omega) (by omega)) ?_
        exact ⟨i + 1, ⟨hin, fun j hj => by
          rcases Nat.lt_or_ge j i with h' | h'
          · exact h0 j h'
          · rw [show j = i by omega]; exact g⟩, by omega, [], rfl, rfl, ⟨AVle.refl _, AVle.refl _, AVle.refl _, AVle.of_eq (congrArg (AV.int .i64) (by simp)), trivial⟩, trivial⟩
    · have : i = L.length := by have := of_decide_eq_false h2; omega
      subst this
      rw [eqS_yes hl h0]
      exact And.intro trivial (AVle.refl _)
  · rw [eqS_len hl]
    refine VFn.introC Tryz.call187 Tryz.func187 rfl rfl ?_
    refine Grd.intro (fun g => ?_) (fun g => ?_)
    · exact And.intro trivial (AVle.refl _)
    · exfalso; simp [hl] at g
theorem eqS_iff {α : Type} [Inhabited α] {q : α → α → Bool} (hq : ∀ x y, q x y = true ↔ x = y) {L M : List α} : eqS q L M = true ↔ L = M := by
  unfold eqS
  rw [Bool.and_eq_true, decide_eq_true_eq, allN_iff]
  constructor
  · rintro ⟨h1, h2⟩
    refine List.ext_getElem (by omega) fun i hi hj => ?_
    have := (hq _ _).1 (h2 i hi)
    rwa [ix_lt hi, ix_lt hj] at this
  · rintro rfl
    exact ⟨rfl, fun i _ => (hq _ _).2 rfl⟩
theorem Smp.eqb_iff (x y : Smp) : Smp.eqb x y = true ↔ x = y := by
  obtain ⟨a, b⟩ := x
  obtain ⟨c, d⟩ := y
  simp [Smp.eqb]
theorem Ag.eqb_iff (x y : Ag) : Ag.eqb x y = true ↔ x = y := by
  obtain ⟨a, b, c, d, e, f⟩ := x
  obtain ⟨a', b', c', d', e', f'⟩ := y
  simp [Ag.eqb]
theorem Bk.eqb_iff (x y : Bk) : Bk.eqb x y = true ↔ x = y := by
  obtain ⟨a, b⟩ := x
  obtain ⟨c, d⟩ := y
  simp [Bk.eqb, Ag.eqb_iff]
end Go.Proofs.YtlbnpndednhdaaaGreatDoor
set_option linter.unusedVariables false
set_option linter.constructorNameAsVariable false
set_option linter.unusedSimpArgs false
set_option maxRecDepth 20000
namespace Go.Proofs.YtlbnpndednhdaaaGreatDoor
open Go Go.Vw

def bkt (f : Int) (a : Ag) : List Bk := if a.c = 0 then [] else [⟨f, a⟩]
theorem bucketOf_fn (f : Int) (a : Ag) : VFn Tryz.prog 188 [.int .i64 f, a.av] (bks (bkt f a)) := by
  obtain ⟨R, hR⟩ : ∃ R, R = bkt f a := ⟨_, rfl⟩
  rw [← hR]
  refine VFn.introC Tryz.call188 Tryz.func188 rfl rfl ?_
  refine Grd.intro (fun g => ?_) (fun g => ?_)
  · rw [bkt, if_pos (show a.c = 0 from of_decide_eq_true g)] at hR
    subst hR
    exact And.intro trivial (AVle.nilsl _ _ rfl)
  · rw [bkt, if_neg (show ¬ a.c = 0 from of_decide_eq_false g)] at hR
    subst hR
    exact And.intro trivial (AVle.sl1 rfl)
def sdat (s : Sto) (k : List UInt8) : List UInt8 := if s.has k = true then (s.get k).data else []
def truE (s : Sto) (e : En) (ac : List Smp) : Bool :=
  s.has e.key && (if e.tier = 0 then (rdOk (sdat s e.key) && eqS Smp.eqb (rdV (sdat s e.key)) (smpsIn ac e.f e.t)) else (rbOk (sdat s e.key) && eqS Bk.eqb (rbV (sdat s e.key)) (bkt e.f (aggL (smpsIn ac e.f e.t)))))
theorem sdat_len {s : Sto} (hs : s.ok = true) (k : List UInt8) : (sdat s k).length ≤ 600 := by
  unfold sdat
  split
  · rename_i h
    have hp := (hasK_at h).1
    have h3 := (Sto.ok_at hs).2.2 _ hp
    simp only [Sto.eOK, Bool.and_eq_true, decide_eq_true_eq] at h3
    exact h3.2.2.1
  · simp
theorem getD_fn (s : Sto) (hs : s.ok = true) (k : List UInt8) : VFn Tryz.prog 184 [s.av, .str (B k)] (.tup [.str (B (sdat s k)), .bool (s.has k)]) := by
  have c := get_fn s hs k
  unfold sdat
  cases h : s.has k
  · rw [h, if_neg (by simp)] at c
    rw [if_neg (by simp)]
    exact c
  · rw [h, if_pos rfl] at c
    rw [if_pos rfl]
    exact c
theorem l01GetD_fn (s : Sto) (hs : s.ok = true) (k : List UInt8) : VFn Tryz.prog 177 [s.av, .str (B k)] (.tup [.str (B (sdat s k)), .int .i64 (if s.has k = true then (s.get k).ver else 0)]) := by
  have c := l01Get_fn s hs k
  unfold sdat
  cases h : s.has k
  · rw [h, if_neg (by simp)] at c
    rw [if_neg (by simp), if_neg (by simp)]
    exact c
  · rw [h, if_pos rfl] at c
    rw [if_pos rfl, if_pos rfl]
    exact c
theorem bkt_len (f : Int) (a : Ag) : (bkt f a).length ≤ 1 := by
  unfold bkt; split <;> simp
theorem entryTrue_fn (s : Sto) (hs : s.ok = true) (e : En) (he : inI .i64 (e.t - 1)) (ac : List Smp) (hac : smpsOK ac = true) : VFn Tryz.prog 113 [s.av, e.av, smps ac] (.bool (truE s e ac)) := by
  obtain ⟨a1, a2⟩ := smps_bd hac
  have hl := smpsIn_len ac e.f e.t
  have c1 := getD_fn s hs e.key
  have hD := sdat_len hs e.key
  have c2 := samplesIn_fn ac (by omega) e.f e.t he
  have c3 := aggOf_fn (smpsIn ac e.f e.t) (by omega) (fun x hx => a2 x (smpsIn_mem hx))
  have c4 := bucketOf_fn e.f (aggL (smpsIn ac e.f e.t))
  have hb := bkt_len e.f (aggL (smpsIn ac e.f e.t))
  unfold truE
  generalize sdat s e.key = D at c1 hD ⊢
  generalize s.has e.key = h at c1 ⊢
  generalize smpsIn ac e.f e.t = W at c2 c3 c4 hl hb ⊢
  generalize aggL W = A at c3 c4 hb ⊢
  generalize bkt e.f A = K at c4 hb ⊢
  by_cases ht : e.tier = 0
  · rw [if_pos ht]
    cases hr : rdOk D
    · have cr := readSamples_gen D (by omega) (.tup [.any, .bool false]) (fun h => by rw [hr] at h; cases h) (fun _ => rfl)
      cases h
      all_goals
        refine VFn.introC Tryz.call113 Tryz.func113 rfl rfl ?_
        conv => whnf
        refine CallC.sca _ (c1) ?_ ?_
        · exact rfl
        conv => whnf
        refine CallC.nl _ (c2) ?_ ?_
        · exact rfl
        refine Grd.intro (fun g => ?_) (fun g => absurd ht (of_decide_eq_false g))
        conv => whnf
        refine CallC.nl _ (cr) ?_ ?_
        · exact rfl
        exact And.intro trivial (AVle.refl _)
    · have cr := readSamples_gen D (by omega) (.tup [smps (rdV D), .bool true]) (fun _ => rfl) (fun h => by rw [hr] at h; cases h)
      have hrl : (rdV D).length ≤ 1048576 := by
        simp only [rdOk, Bool.and_eq_true, decide_eq_true_eq] at hr
        unfold rdV; rw [List.length_map]; omega
      have c5 := EqualSmp2_fn (rdV D) W hrl (by omega)
      cases h
      · refine VFn.introC Tryz.call113 Tryz.func113 rfl rfl ?_
        conv => whnf
        refine CallC.sca _ (c1) ?_ ?_
        · exact rfl
        conv => whnf
        refine CallC.nl _ (c2) ?_ ?_
        · exact rfl
        refine Grd.intro (fun g => ?_) (fun g => absurd ht (of_decide_eq_false g))
        conv => whnf
        refine CallC.nl _ (cr) ?_ ?_
        · exact rfl
        exact And.intro trivial (AVle.refl _)
      · refine VFn.introC Tryz.call113 Tryz.func113 rfl rfl ?_
        conv => whnf
        refine CallC.sca _ (c1) ?_ ?_
        · exact rfl
        conv => whnf
        refine CallC.nl _ (c2) ?_ ?_
        · exact rfl
        refine Grd.intro (fun g => ?_) (fun g => absurd ht (of_decide_eq_false g))
        conv => whnf
        refine CallC.nl _ (cr) ?_ ?_
        · exact rfl
        conv => whnf
        refine CallC.sca _ (c5) ?_ ?_
        · exact rfl
        exact And.intro trivial (AVle.refl _)
  · rw [if_neg ht]
    cases hr : rbOk D
    · have cr := readBuckets_gen D (by omega) (.tup [.any, .bool false]) (fun h => by rw [hr] at h; cases h) (fun _ => rfl)
      cases h
      all_goals
        refine VFn.introC Tryz.call113 Tryz.func113 rfl rfl ?_
        conv => whnf
        refine CallC.sca _ (c1) ?_ ?_
        · exact rfl
        conv => whnf
        refine CallC.nl _ (c2) ?_ ?_
        · exact rfl
        refine Grd.intro (fun g => absurd (of_decide_eq_true g) ht) (fun g => ?_)
        conv => whnf
        refine CallC.nl _ (cr) ?_ ?_
        · exact rfl
        refine DrawC.mk 14 rfl (by kernel_rfl) ?_
        exact And.intro trivial (AVle.refl _)
    · have cr := readBuckets_gen D (by omega) (.tup [bks (rbV D), .bool true]) (fun _ => rfl) (fun h => by rw [hr] at h; cases h)
      have hrl : (rbV D).length ≤ 1048576 := by
        simp only [rbOk, Bool.and_eq_true] at hr
        have := bks_8 hr.2
        unfold rbV; omega
      have c5 := EqualBk2_fn (rbV D) K hrl (by omega)
      cases h
      · refine VFn.introC Tryz.call113 Tryz.func113 rfl rfl ?_
        conv => whnf
        refine CallC.sca _ (c1) ?_ ?_
        · exact rfl
        conv => whnf
        refine CallC.nl _ (c2) ?_ ?_
        · exact rfl
        refine Grd.intro (fun g => absurd (of_decide_eq_true g) ht) (fun g => ?_)
        conv => whnf
        refine CallC.nl _ (cr) ?_ ?_
        · exact rfl
        refine DrawC.mk 14 rfl (by kernel_rfl) ?_
        exact And.intro trivial (AVle.refl _)
      · refine VFn.introC Tryz.call113 Tryz.func113 rfl rfl ?_
        conv => whnf
        refine CallC.sca _ (c1) ?_ ?_
        · exact rfl
        conv => whnf
        refine CallC.nl _ (c2) ?_ ?_
        · exact rfl
        refine Grd.intro (fun g => absurd (of_decide_eq_true g) ht) (fun g => ?_)
        conv => whnf
        refine CallC.nl _ (cr) ?_ ?_
        · exact rfl
        refine DrawC.mk 14 rfl (by kernel_rfl) ?_
        refine PCallC.sca _ (c3) rfl ?_
        refine PCallC.nl _ (c4) rfl ?_
        refine PCallC.sca _ (c5) rfl ?_
        exact And.intro trivial (AVle.refl _)
end Go.Proofs.YtlbnpndednhdaaaGreatDoor
set_option linter.unusedVariables false
set_option linter.constructorNameAsVariable false
set_option linter.unusedSimpArgs false
set_option maxRecDepth 20000
namespace Go.Proofs.YtlbnpndednhdaaaGreatDoor
open Go Go.Vw

end Go.Proofs.YtlbnpndednhdaaaGreatDoor
set_option linter.unusedVariables false
set_option linter.constructorNameAsVariable false
set_option linter.unusedSimpArgs false
set_option maxRecDepth 20000
namespace Go.Proofs.YtlbnpndednhdaaaGreatDoor
open Go Go.Vw

theorem toSample_fn (s : Smp) : VFn Tryz.prog 110 [.agg s.row] (.agg s.row) := by
  refine VFn.introC Tryz.call110 Tryz.func110 rfl rfl ?_
  exact And.intro trivial (AVle.refl _)
theorem eqSample_fn (s : Smp) : VFn Tryz.prog 115 [.agg s.row, .agg s.row] (.bool true) := by
  refine VFn.introC Tryz.call115 Tryz.func115 rfl rfl ?_
  iterate 2 (refine Grd.intro (fun h => absurd h (by simp)) (fun _ => ?_))
  exact And.intro trivial (AVle.refl _)
theorem toSampleS_fn (L : List Smp) (hL : L.length ≤ 1048576) : VFn Tryz.prog 31 [smps L] (smps L) := by
  refine VFn.introC Tryz.call31 Tryz.func31 rfl rfl ?_
  refine And.intro ⟨by omega, rfl, (show (16 : Int) * L.length ≤ 140737488355328 by omega), by omega⟩ ?_
  refine LoopC.mk (fun i : Nat => i ≤ L.length) (fun i => [(0, smps L), (3, .osl 0), (4, .int .i64 i)])
    (fun i => [(0, .arr 144 2 L.length (wr (fun i => (ix L i).row) (fun _ => (default : Smp).row) i))]) 1 (fun i => L.length - i) 0
    ⟨Nat.zero_le _, [(0, 0)], rfl, rfl, ⟨AVle.refl _, AVle.refl _, AVle.refl _, trivial⟩, ⟨MOle.arr rfl fun i hi => by rw [wr_ge (Nat.zero_le i)]; rfl, trivial⟩⟩ ?_
  intro i hi
  refine Grd.intro (fun h2 => ?_) (fun h2 => ?_)
  · have hin : i < L.length := by have := of_decide_eq_true h2; omega
    refine And.intro (by omega) ?_
    conv => whnf
    refine CallC.sca _ (toSample_fn (ix L i)) ?_ ?_
    · exact rfl
    refine And.intro (by omega) ?_
    refine And.intro (inI64 (by omega) (by omega)) ?_
    exact ⟨i + 1, hin, by omega, [(0, 0)], rfl, rfl, ⟨AVle.refl _, AVle.refl _, AVle.of_eq (congrArg (AV.int .i64) (by simp)), trivial⟩, ⟨MOle.arr rfl fun k hk => wr_next fun e => by subst e; rw [wr_ge (Nat.le_refl _)]; rfl, trivial⟩⟩
  · have : i = L.length := by have := of_decide_eq_false h2; omega
    subst this
    exact And.intro trivial (AVle.sl rfl fun k hk => wr_lt hk)
theorem eqSampleS_fn (L : List Smp) (hL : L.length ≤ 1048576) : VFn Tryz.prog 34 [smps L, smps L] (.bool true) := by
  refine VFn.introC Tryz.call34 Tryz.func34 rfl rfl ?_
  refine Grd.intro (fun h => absurd h (by simp)) (fun _ => ?_)
  refine LoopC.mk (fun i : Nat => i ≤ L.length) (fun i => [(0, smps L), (1, smps L), (5, .int .i64 i)]) (fun _ => []) 0 (fun i => L.length - i) 0
    ⟨Nat.zero_le _, [], rfl, rfl, ⟨AVle.refl _, AVle.refl _, AVle.refl _, trivial⟩, trivial⟩ ?_
  intro i hi
  refine Grd.intro (fun h2 => ?_) (fun h2 => ?_)
  · have hin : i < L.length := by have := of_decide_eq_true h2; omega
    refine DrawC.mk 10 rfl (by kernel_rfl) ?_
    refine And.intro (by omega) ?_
    refine And.intro (by omega) ?_
    refine PCallC.sca _ (eqSample_fn (ix L i)) rfl ?_
    refine And.intro (inI64 (by omega) (by omega)) ?_
    exact ⟨i + 1, hin, by omega, [], rfl, rfl, ⟨AVle.refl _, AVle.refl _, AVle.of_eq (congrArg (AV.int .i64) (by simp)), trivial⟩, trivial⟩
  · exact And.intro trivial (AVle.refl _)
end Go.Proofs.YtlbnpndednhdaaaGreatDoor
set_option linter.unusedVariables false
set_option linter.constructorNameAsVariable false
set_option linter.unusedSimpArgs false
set_option maxRecDepth 20000
namespace Go.Proofs.YtlbnpndednhdaaaGreatDoor
open Go Go.Vw

theorem samples_eq {L M : List Smp} (hL : ∀ s ∈ L, s.num) (hM : ∀ s ∈ M, s.num) : ((B (smpsText L)).toList == (B (smpsText M)).toList) = eqS Smp.eqb L M := by
  rw [B_eq, Bool.eq_iff_iff, decide_eq_true_eq, eqS_iff Smp.eqb_iff]
  exact ⟨smpsText_inj hL hM, fun h => by rw [h]⟩
theorem buckets_eq {L M : List Bk} (hL : ∀ s ∈ L, s.ok) (hM : ∀ s ∈ M, s.ok) : ((B (bksText L)).toList == (B (bksText M)).toList) = eqS Bk.eqb L M := by
  rw [B_eq, Bool.eq_iff_iff, decide_eq_true_eq, eqS_iff Bk.eqb_iff]
  exact ⟨bksText_inj hL hM, fun h => by rw [h]⟩
theorem get_ver {s : Sto} (hs : s.ok = true) {k : List UInt8} (h : s.has k = true) : 1 ≤ (s.get k).ver := by
  have hp := (hasK_at h).1
  have h3 := (Sto.ok_at hs).2.2 _ hp
  simp only [Sto.eOK, Bool.and_eq_true, within, decide_eq_true_eq] at h3
  exact h3.2.1.1
theorem smpsIn_num {L : List Smp} (h : smpsOK L = true) (a b : Int) : ∀ s ∈ smpsIn L a b, s.num := fun s hs => smpsOK_num h s (smpsIn_mem hs)
theorem l13Entry_fn (s : Sto) (hs : s.ok = true) (e : En) (he : inI .i64 (e.t - 1)) (hef : -1000000000 ≤ e.f ∧ e.f ≤ 1000000000) (ac : List Smp) (hac : smpsOK ac = true) : VFn Tryz.prog 108 [s.av, e.av, smps ac] (.bool (truE s e ac)) := by
  obtain ⟨a1, a2⟩ := smps_bd hac
  have c1 := l01GetD_fn s hs e.key
  have hD := sdat_len hs e.key
  by_cases hh : s.has e.key = true
  · have hv := get_ver hs hh
    have hv : ¬ (s.get e.key).ver = 0 := by omega
    unfold truE
    rw [hh, if_pos rfl] at c1
    rw [hh, Bool.true_and]
    generalize sdat s e.key = D at c1 hD ⊢
    generalize (s.get e.key).ver = v at c1 hv
    by_cases ht : e.tier = 0
    · rw [if_pos ht]
      have hl := fun i => Nat.le_trans (smpsIn_len (ac.take i) e.f e.t) (by simp; omega : (ac.take i).length ≤ i)
      cases hr : rdOk D
      · have cr := l03ToSamples_gen D (by omega) (.tup [.any, .bool false]) (fun h => by rw [hr] at h; cases h) (fun _ => rfl)
        rw [Bool.false_and]
        refine VFn.introC Tryz.call108 Tryz.func108 rfl rfl ?_
        conv => whnf
        refine CallC.sca _ (c1) ?_ ?_
        · exact rfl
        refine Grd.intro (fun g => absurd (of_decide_eq_true g) hv) (fun g => ?_)
        refine Grd.intro (fun g => ?_) (fun g => absurd ht (of_decide_eq_false g))
        conv => whnf
        refine CallC.nl _ (cr) ?_ ?_
        · exact rfl
        refine LoopC.mk (fun i : Nat => i ≤ ac.length) (fun i => [(2, smps ac), (4, .bptr 1 0), (10, .bool false), (11, .osl 2), (12, .int .i64 i)])
          (fun i => [(1, .box e.row), (2, .arr 144 2 (smpsIn (ac.take i) e.f e.t).length fun j => (ix (smpsIn (ac.take i) e.f e.t) j).row)]) 3 (fun i => ac.length - i) 0
          ⟨Nat.zero_le _, [(1, 1), (2, 2)], rfl, rfl, ⟨AVle.refl _, AVle.refl _, AVle.refl _, AVle.refl _, AVle.refl _, trivial⟩, ⟨MOle.refl _, MOle.arr rfl fun i hi => absurd hi (Nat.not_lt_zero i), trivial⟩⟩ ?_
        intro i hi
        refine Grd.intro (fun h2 => ?_) (fun h2 => ?_)
        · have hin : i < ac.length := by have := of_decide_eq_true h2; omega
          refine DrawC.mk 11 rfl (by kernel_rfl) ?_
          refine And.intro (by omega) ?_
          refine And.intro he ?_
          refine PCallC.sca _ (l01In_fn (ix ac i).t e.f (e.t - 1)) rfl ?_
          refine Grd.intro (fun h3 => ?_) (fun h3 => ?_)
          · have hq := smpsIn_yes hin h3
            refine And.intro (by omega) ?_
            refine And.intro ⟨show ((smpsIn (ac.take i) e.f e.t).length + 1) * 16 ≤ 140737488355328 by have := hl i; omega, all1 rfl⟩ ?_
            refine And.intro (inI64 (by omega) (by omega)) ?_
            exact ⟨i + 1, hin, by omega, [(1, 1), (15, 2)], rfl, rfl, ⟨AVle.refl _, AVle.refl _, AVle.refl _, AVle.refl _, AVle.of_eq (congrArg (AV.int .i64) (by simp)), trivial⟩, ⟨MOle.refl _, arr_next (f := Smp.row) hq rfl, trivial⟩⟩
          · have hq := smpsIn_no hin h3
            refine And.intro (inI64 (by omega) (by omega)) ?_
            exact ⟨i + 1, hin, by omega, [(1, 1), (2, 2)], rfl, rfl, ⟨AVle.refl _, AVle.refl _, AVle.refl _, AVle.refl _, AVle.of_eq (congrArg (AV.int .i64) (by simp)), trivial⟩, ⟨MOle.refl _, MOle.of_eq (show MO.arr 144 2 (smpsIn (ac.take i) e.f e.t).length (fun j => (ix (smpsIn (ac.take i) e.f e.t) j).row) = _ by rw [hq]), trivial⟩⟩
        · exact And.intro trivial (AVle.refl _)
      · have cr := l03ToSamples_gen D (by omega) (.tup [smps (rdV D), .bool true]) (fun _ => rfl) (fun h => by rw [hr] at h; cases h)
        have hr2 := hr
        simp only [rdOk, Bool.and_eq_true, decide_eq_true_eq] at hr2
        have hrn : ∀ s ∈ rdV D, s.num := smpsOK_num hr2.2.1
        have hrl : (rdV D).length ≤ 8 := by unfold rdV; rw [List.length_map]; omega
        have hwn := smpsIn_num hac e.f e.t
        have hwl := smpsIn_len ac e.f e.t
        rw [Bool.true_and, ← samples_eq hrn hwn]
        have c5 := l03Samples_fn (rdV D) (by omega) hrn
        have c6 := l03Samples_fn (smpsIn ac e.f e.t) (by omega) hwn
        refine VFn.introC Tryz.call108 Tryz.func108 rfl rfl ?_
        conv => whnf
        refine CallC.sca _ (c1) ?_ ?_
        · exact rfl
        refine Grd.intro (fun g => absurd (of_decide_eq_true g) hv) (fun g => ?_)
        refine Grd.intro (fun g => ?_) (fun g => absurd ht (of_decide_eq_false g))
        conv => whnf
        refine CallC.nl _ (cr) ?_ ?_
        · exact rfl
        refine LoopC.mk (fun i : Nat => i ≤ ac.length) (fun i => [(2, smps ac), (4, .bptr 1 0), (9, smps (rdV D)), (10, .bool true), (11, .osl 2), (12, .int .i64 i)])
          (fun i => [(1, .box e.row), (2, .arr 144 2 (smpsIn (ac.take i) e.f e.t).length fun j => (ix (smpsIn (ac.take i) e.f e.t) j).row)]) 3 (fun i => ac.length - i) 0
          ⟨Nat.zero_le _, [(1, 1), (2, 2)], rfl, rfl, ⟨AVle.refl _, AVle.refl _, AVle.refl _, AVle.refl _, AVle.refl _, AVle.refl _, trivial⟩, ⟨MOle.refl _, MOle.arr rfl fun i hi => absurd hi (Nat.not_lt_zero i), trivial⟩⟩ ?_
        intro i hi
        refine Grd.intro (fun h2 => ?_) (fun h2 => ?_)
        · have hin : i < ac.length := by have := of_decide_eq_true h2; omega
          refine DrawC.mk 11 rfl (by kernel_rfl) ?_
          refine And.intro (by omega) ?_
          refine And.intro he ?_
          refine PCallC.sca _ (l01In_fn (ix ac i).t e.f (e.t - 1)) rfl ?_
          refine Grd.intro (fun h3 => ?_) (fun h3 => ?_)
          · have hq := smpsIn_yes hin h3
            refine And.intro (by omega) ?_
            refine And.intro ⟨show ((smpsIn (ac.take i) e.f e.t).length + 1) * 16 ≤ 140737488355328 by have := hl i; omega, all1 rfl⟩ ?_
            refine And.intro (inI64 (by omega) (by omega)) ?_
            exact ⟨i + 1, hin, by omega, [(1, 1), (15, 2)], rfl, rfl, ⟨AVle.refl _, AVle.refl _, AVle.refl _, AVle.refl _, AVle.refl _, AVle.of_eq (congrArg (AV.int .i64) (by simp)), trivial⟩, ⟨MOle.refl _, arr_next (f := Smp.row) hq rfl, trivial⟩⟩
          · have hq := smpsIn_no hin h3
            refine And.intro (inI64 (by omega) (by omega)) ?_
            exact ⟨i + 1, hin, by omega, [(1, 1), (2, 2)], rfl, rfl, ⟨AVle.refl _, AVle.refl _, AVle.refl _, AVle.refl _, AVle.refl _, AVle.of_eq (congrArg (AV.int .i64) (by simp)), trivial⟩, ⟨MOle.refl _, MOle.of_eq (show MO.arr 144 2 (smpsIn (ac.take i) e.f e.t).length (fun j => (ix (smpsIn (ac.take i) e.f e.t) j).row) = _ by rw [hq]), trivial⟩⟩
        · have : i = ac.length := by have := of_decide_eq_false h2; omega
          subst this
          have ee : smpsIn (ac.take ac.length) e.f e.t = smpsIn ac e.f e.t := by rw [List.take_of_length_le (Nat.le_refl _)]
          rw [ee]
          conv => whnf
          refine CallC.sca _ (c5) ?_ ?_
          · exact rfl
          conv => whnf
          refine CallC.sca _ (c6) ?_ ?_
          · exact rfl
          exact And.intro trivial (AVle.refl _)
    · rw [if_neg ht]
      have hwl := smpsIn_len ac e.f e.t
      have c3 := l13Fold_fn ac (by omega) a2 e.f e.t he
      have hB := aggL_bd (L := smpsIn ac e.f e.t) (by omega) (fun x hx => a2 x (smpsIn_mem hx))
      have hk := B_ok hB (by omega)
      have h0 : 0 ≤ (aggL (smpsIn ac e.f e.t)).c := by rw [hB.1]; omega
      clear hB
      generalize aggL (smpsIn ac e.f e.t) = A at c3 hk h0 ⊢
      cases hr : rbOk D
      · have cr := l03ToBuckets_gen D (by omega) (.tup [.any, .bool false]) (fun h => by rw [hr] at h; cases h) (fun _ => rfl)
        rw [Bool.false_and]
        refine VFn.introC Tryz.call108 Tryz.func108 rfl rfl ?_
        conv => whnf
        refine CallC.sca _ (c1) ?_ ?_
        · exact rfl
        refine Grd.intro (fun g => absurd (of_decide_eq_true g) hv) (fun g => ?_)
        refine Grd.intro (fun g => absurd (of_decide_eq_true g) ht) (fun g => ?_)
        conv => whnf
        refine CallC.nl _ (cr) ?_ ?_
        · exact rfl
        conv => whnf
        refine CallC.sca _ (c3) ?_ ?_
        · exact rfl
        refine Grd.intro (fun g => ?_) (fun g => ?_)
        · refine And.intro ⟨by decide, all1 rfl⟩ ?_
          exact And.intro trivial (AVle.refl _)
        · exact And.intro trivial (AVle.refl _)
      · have cr := l03ToBuckets_gen D (by omega) (.tup [bks (rbV D), .bool true]) (fun _ => rfl) (fun h => by rw [hr] at h; cases h)
        have hr2 := hr
        simp only [rbOk, Bool.and_eq_true] at hr2
        have hrn : ∀ s ∈ rbV D, s.ok := bksOK_ok hr2.2
        have hrl : (rbV D).length ≤ 8 := bks_8 hr2.2
        have hkn : ∀ s ∈ bkt e.f A, s.ok := by
          intro x hx
          unfold bkt at hx
          split at hx
          · cases hx
          · rw [List.mem_singleton.1 hx]; exact ⟨hef, hk⟩
        rw [Bool.true_and, ← buckets_eq hrn hkn]
        have c5 := l03Buckets_fn (rbV D) hrl hrn
        have c6 := l03Buckets_fn (bkt e.f A) (by have := bkt_len e.f A; omega) hkn
        refine VFn.introC Tryz.call108 Tryz.func108 rfl rfl ?_
        conv => whnf
        refine CallC.sca _ (c1) ?_ ?_
        · exact rfl
        refine Grd.intro (fun g => absurd (of_decide_eq_true g) hv) (fun g => ?_)
        refine Grd.intro (fun g => absurd (of_decide_eq_true g) ht) (fun g => ?_)
        conv => whnf
        refine CallC.nl _ (cr) ?_ ?_
        · exact rfl
        conv => whnf
        refine CallC.sca _ (c3) ?_ ?_
        · exact rfl
        refine Grd.intro (fun g => ?_) (fun g => ?_)
        · have g := of_decide_eq_true g
          refine And.intro ⟨by decide, all1 rfl⟩ ?_
          have ek : bkt e.f A = [⟨e.f, A⟩] := by unfold bkt; rw [if_neg (by omega)]
          rw [ek] at c6 ⊢
          conv => whnf
          refine CallC.sca _ (c5) ?_ ?_
          · exact rfl
          conv => whnf
          refine CallC.sca _ ((c6.weak (AVsle.cons (AVle.sl1 rfl) AVsle.nil) (AVle.refl _))) ?_ ?_
          · exact rfl
          exact And.intro trivial (AVle.refl _)
        · have g := of_decide_eq_false g
          have ek : bkt e.f A = [] := by unfold bkt; rw [if_pos (by omega)]
          rw [ek] at c6 ⊢
          conv => whnf
          refine CallC.sca _ (c5) ?_ ?_
          · exact rfl
          conv => whnf
          refine CallC.sca _ ((c6.weak (AVsle.cons (AVle.sl rfl fun j hj => absurd hj (Nat.not_lt_zero j)) AVsle.nil) (AVle.refl _))) ?_ ?_
          · exact rfl
          exact And.intro trivial (AVle.refl _)
  · have hh : s.has e.key = false := by simpa using hh
    rw [hh, if_neg (by simp)] at c1
    rw [show truE s e ac = false by unfold truE; rw [hh]; rfl]
    refine VFn.introC Tryz.call108 Tryz.func108 rfl rfl ?_
    conv => whnf
    refine CallC.sca _ (c1) ?_ ?_
    · exact rfl
    exact And.intro trivial (AVle.refl _)
end Go.Proofs.YtlbnpndednhdaaaGreatDoor
set_option linter.unusedVariables false
set_option linter.constructorNameAsVariable false
set_option linter.unusedSimpArgs false
set_option maxRecDepth 20000
namespace Go.Proofs.YtlbnpndednhdaaaGreatDoor
open Go Go.Vw

theorem En.ok_b {e : En} (h : e.ok = true) : inI .i64 (e.t - 1) ∧ (-1000000000 ≤ e.f ∧ e.f ≤ 1000000000) := by
  simp [En.ok, isRange, within] at h
  exact ⟨inI64 (by omega) (by omega), by omega, by omega⟩
def truR (s : Sto) (e : En) (ac : List Smp) : AV := if 4096 < ac.length then .tup [.bool false, .int .i64 2] else if (s.ok && (e.ok && smpsOK ac)) = true then .tup [.bool (truE s e ac), .int .i64 0] else .tup [.bool false, .int .i64 1]
theorem smpsOK_no {L : List Smp} (h : 4096 < L.length) : smpsOK L = false := by
  unfold smpsOK; rw [decide_eq_false (by omega)]; rfl
theorem EntryTrue_fn (s : Sto) (hL : s.os.length ≤ 1000000000) (hk : ∀ o ∈ s.os, o.key.length ≤ 1000000000) (e : En) (ac : List Smp) : VFn Tryz.prog 32 [s.av, e.av, smps ac] (truR s e ac) := by
  have c1 := isLongSmp_fn ac
  have c2 := StoreOK_fn s hL hk
  have c3 := entryOK_fn e
  have c4 := SamplesOK_fn ac
  unfold truR
  by_cases hl : 4096 < ac.length
  · rw [if_pos hl]
    rw [decide_eq_true hl] at c1
    rw [smpsOK_no hl] at c4
    generalize s.ok = b2 at c2
    generalize e.ok = b3 at c3
    cases b2 <;> cases b3
    all_goals
      refine VFn.introC Tryz.call32 Tryz.func32 rfl rfl ?_
      refine DrawC.mk 22 rfl (by kernel_rfl) ?_
      refine PCallC.sca _ (c1) rfl ?_
      refine PCallC.sca _ (c2) rfl ?_
      try (refine PCallC.sca _ c3 rfl ?_)
      try (refine PCallC.sca _ c4 rfl ?_)
      refine PCallC.sca _ (first2_of _ _ _ _ ⟨rfl, rfl, rfl, rfl, trivial⟩ rfl (show (if true = true then (2 : Int) else if true = true then 1 else 0) = 2 by decide)) rfl ?_
      exact And.intro trivial (AVle.refl _)
  · rw [if_neg hl]
    rw [decide_eq_false hl] at c1
    by_cases hg : (s.ok && (e.ok && smpsOK ac)) = true
    · rw [if_pos hg]
      simp only [Bool.and_eq_true] at hg
      obtain ⟨g2, g3, g4⟩ := hg
      have c5 := entryTrue_fn s g2 e (En.ok_b g3).1 ac g4
      rw [g2] at c2
      rw [g3] at c3
      rw [g4] at c4
      refine VFn.introC Tryz.call32 Tryz.func32 rfl rfl ?_
      refine DrawC.mk 22 rfl (by kernel_rfl) ?_
      refine PCallC.sca _ (c1) rfl ?_
      refine PCallC.sca _ (c2) rfl ?_
      refine PCallC.sca _ (c3) rfl ?_
      refine PCallC.sca _ (c4) rfl ?_
      refine PCallC.sca _ (first2_of _ _ _ _ ⟨rfl, rfl, rfl, rfl, trivial⟩ rfl (show (if false = true then (2 : Int) else if false = true then 1 else 0) = 0 by decide)) rfl ?_
      conv => whnf
      refine CallC.sca _ (c5) ?_ ?_
      · exact rfl
      exact And.intro trivial (AVle.refl _)
    · rw [if_neg hg]
      generalize s.ok = b2 at c2 hg
      generalize e.ok = b3 at c3 hg
      generalize smpsOK ac = b4 at c4 hg
      cases b2 <;> cases b3 <;> cases b4
      all_goals first | (exfalso; exact hg rfl) | skip
      all_goals
        refine VFn.introC Tryz.call32 Tryz.func32 rfl rfl ?_
        refine DrawC.mk 22 rfl (by kernel_rfl) ?_
        refine PCallC.sca _ (c1) rfl ?_
        refine PCallC.sca _ (c2) rfl ?_
        try (refine PCallC.sca _ c3 rfl ?_)
        try (refine PCallC.sca _ c4 rfl ?_)
        refine PCallC.sca _ (first2_of _ _ _ _ ⟨rfl, rfl, rfl, rfl, trivial⟩ rfl (show (if false = true then (2 : Int) else if true = true then 1 else 0) = 1 by decide)) rfl ?_
        exact And.intro trivial (AVle.refl _)
theorem en_tier0E {e : En} (h : e.ok = true) : 0 ≤ e.tier := by
  simp [En.ok] at h
  have := kT_nat e.key
  omega
theorem tier0E (e : En) : (e.ok && decide (0 ≤ e.tier)) = e.ok := by
  cases h : e.ok
  · rfl
  · rw [decide_eq_true (en_tier0E h)]; rfl
theorem tiered0E (e : En) (hk : e.key.length ≤ 1000000000) : VFn Tryz.prog 107 [.agg [.int .i64 0, .int .i64 0, .int .i64 e.tier, .int .i64 e.f, .int .i64 e.t, .str (B e.key)], .int .i64 0] (.bool e.ok) := by
  have c := l06Tiered_fn ⟨0, 0, e.tier, e.f, e.t, e.key⟩ hk 0
  have h : ((Rc.mk 0 0 e.tier e.f e.t e.key).en.ok && decide ((0 : Int) ≤ (Rc.mk 0 0 e.tier e.f e.t e.key).tier)) = e.ok := tier0E e
  rw [h] at c
  exact c
theorem specEntryTrue_fn (s : Sto) (hL : s.os.length ≤ 1000000000) (hk : ∀ o ∈ s.os, o.key.length ≤ 1000000000) (hn : -9223372036854775808 ≤ s.next ∧ s.next ≤ 9223372036854775807) (e : En) (hek : e.key.length ≤ 1000000000) (ac : List Smp) : VFn Tryz.prog 28 [s.av, e.av, smps ac] (truR s e ac) := by
  have c2 := specStoreOK_ok s hL hk hn
  have c3 := tiered0E e hek
  have c4 := specSamplesOK_fn ac
  unfold truR
  by_cases hl : 4096 < ac.length
  · rw [if_pos hl]
    refine VFn.introC Tryz.call28 Tryz.func28 rfl rfl ?_
    refine Grd.intro (fun g => ?_) (fun g => ?_)
    · exact And.intro trivial (AVle.refl _)
    · exfalso; have := of_decide_eq_false g; omega
  · rw [if_neg hl]
    by_cases hg : (s.ok && (e.ok && smpsOK ac)) = true
    · rw [if_pos hg]
      simp only [Bool.and_eq_true] at hg
      obtain ⟨g2, g3, g4⟩ := hg
      have c5 := l13Entry_fn s g2 e (En.ok_b g3).1 (En.ok_b g3).2 ac g4
      rw [g2] at c2
      rw [g3] at c3
      rw [g4] at c4
      refine VFn.introC Tryz.call28 Tryz.func28 rfl rfl ?_
      refine Grd.intro (fun g => ?_) (fun g => ?_)
      · exfalso; have := of_decide_eq_true g; omega
      conv => whnf
      refine CallC.sca _ (c2) ?_ ?_
      · exact rfl
      conv => whnf
      refine CallC.sca _ (c3) ?_ ?_
      · exact rfl
      conv => whnf
      refine CallC.sca _ (c4) ?_ ?_
      · exact rfl
      conv => whnf
      refine CallC.sca _ (c5) ?_ ?_
      · exact rfl
      exact And.intro trivial (AVle.refl _)
    · rw [if_neg hg]
      generalize s.ok = b2 at c2 hg
      generalize e.ok = b3 at c3 hg
      generalize smpsOK ac = b4 at c4 hg
      cases b2 <;> cases b3 <;> cases b4
      all_goals first | (exfalso; exact hg rfl) | skip
      all_goals
        refine VFn.introC Tryz.call28 Tryz.func28 rfl rfl ?_
        refine Grd.intro (fun g => ?_) (fun g => ?_)
        · exfalso; have := of_decide_eq_true g; omega
        conv => whnf
        refine CallC.sca _ (c2) ?_ ?_
        · exact rfl
        repeat' (conv => whnf
                 first
                   | (refine CallC.sca _ c3 ?_ ?_; focus (exact rfl))
                   | (refine CallC.sca _ c4 ?_ ?_; focus (exact rfl))
                   | fail)
        exact And.intro trivial (AVle.refl _)
theorem szSampleSE_fn (L : List Smp) (n : Int) (h0 : 0 ≤ n) (h1 : n ≤ 1048576) (hL : L.length ≤ 9223372036854775807) : VFn Tryz.prog 27 [smps L, .int .i64 n] (.int .i64 (szr L.length n)) := by
  refine VFn.introC Tryz.call27 Tryz.func27 rfl rfl ?_
  refine And.intro (inI64 (by omega) (by omega)) ?_
  by_cases f : ((L.length : Nat) : Int) ≤ n
  · rw [szr_yes f]
    refine Grd.intro (fun h2 => absurd (of_decide_eq_true h2) (by omega)) (fun _ => ?_)
    exact And.intro trivial (AVle.refl _)
  · rw [szr_no f]
    refine Grd.intro (fun _ => ?_) (fun h2 => absurd (of_decide_eq_false h2) (by omega))
    exact And.intro trivial (AVle.refl _)
theorem truR_tup (s : Sto) (e : En) (ac : List Smp) : ∃ (b : Bool) (c : Int), truR s e ac = .tup [.bool b, .int .i64 c] := by
  unfold truR
  split
  · exact ⟨_, _, rfl⟩
  · split <;> exact ⟨_, _, rfl⟩
theorem law_EntryTrue (s : Sto) (h : StoIn s) (e : En) (he : e.size ≤ maxLen) (ac : List Smp) (ha : ac.length ≤ maxLen) : VFn Tryz.prog 8 [s.av, e.av, smps ac] (.bool true) := by
  have he : En.size e ≤ 9223372036854775807 := by unfold maxLen at he; omega
  have ha : ac.length ≤ 9223372036854775807 := by unfold maxLen at ha; omega
  refine VFn.introC Tryz.call8 Tryz.func8 rfl rfl ?_
  conv => whnf
  refine CallC.sca _ (szStore_fn s h) ?_ ?_
  · exact rfl
  by_cases hl : (stoN s : Int) ≤ 1048576
  case neg =>
    rw [szr_no hl]
    exact And.intro trivial (AVle.refl _)
  rw [szr_yes hl]
  obtain ⟨m1, m2, m3⟩ := Sto_small hl
  refine Grd.intro (fun h2 => absurd (of_decide_eq_true h2) (by omega)) (fun _ => ?_)
  conv => whnf
  refine CallC.sca _ (szEntry_fn e (1048576 - (stoN s : Int)) (by omega) (by omega) he) ?_ ?_
  · exact rfl
  by_cases hl2 : ((En.size e : Nat) : Int) ≤ 1048576 - (stoN s : Int)
  case neg =>
    rw [szr_no hl2]
    exact And.intro trivial (AVle.refl _)
  rw [szr_yes hl2]
  refine Grd.intro (fun h2 => absurd (of_decide_eq_true h2) (by omega)) (fun _ => ?_)
  conv => whnf
  refine CallC.sca _ (szSampleSE_fn ac (1048576 - (stoN s : Int) - ((En.size e : Nat) : Int)) (by omega) (by omega) ha) ?_ ?_
  · exact rfl
  by_cases hl3 : ((ac.length : Nat) : Int) ≤ 1048576 - (stoN s : Int) - ((En.size e : Nat) : Int)
  case neg =>
    rw [szr_no hl3]
    exact And.intro trivial (AVle.refl _)
  rw [szr_yes hl3]
  have hek : e.key.length ≤ 1000000000 := by have q : e.key.length = En.size e := rfl; omega
  have c1 := specEntryTrue_fn s (by omega) (fun o ho => by have := m2 o ho; omega) h.nxt e hek ac
  have c2 := EntryTrue_fn s (by omega) (fun o ho => by have := m2 o ho; omega) e ac
  obtain ⟨b, c, hbc⟩ := truR_tup s e ac
  rw [hbc] at c1 c2
  refine Grd.intro (fun h2 => absurd (of_decide_eq_true h2) (by omega)) (fun _ => ?_)
  refine DrawC.mk 11 rfl (by kernel_rfl) ?_
  refine PCallC.nl _ (toStore_fn s m1) rfl ?_
  refine PCallC.sca _ (toEntry_fn e) rfl ?_
  refine PCallC.nl _ (toSampleS_fn ac (by omega)) rfl ?_
  refine PCallC.sca _ (c1) rfl ?_
  conv => whnf
  refine CallC.nl _ (toStore_fn s m1) ?_ ?_
  · exact rfl
  conv => whnf
  refine CallC.nl _ (toSampleS_fn ac (by omega)) ?_ ?_
  · exact rfl
  refine DrawC.mk 10 rfl (by kernel_rfl) ?_
  refine PCallC.sca _ (toEntry_fn e) rfl ?_
  refine PCallC.sca _ (c2) rfl ?_
  cases b
  all_goals
    conv => whnf
    refine OpC.bneq rfl rfl rfl rfl rfl ?_
    conv => whnf
    refine Grd.intro (fun h => absurd h (by simp)) (fun _ => ?_)
    refine DrawC.mk 5 rfl (by kernel_rfl) ?_
    refine PCallC.nl _ (toStore_fn s m1) rfl ?_
    refine PCallC.sca _ (eqStore_fn s m1) rfl ?_
    conv => whnf
    refine CallC.nl _ (toSampleS_fn ac (by omega)) ?_ ?_
    · exact rfl
    conv => whnf
    refine CallC.sca _ (eqSampleS_fn ac (by omega)) ?_ ?_
    · exact rfl
    exact And.intro trivial (AVle.refl _)
end Go.Proofs.YtlbnpndednhdaaaGreatDoor
