/- Contracts of functions that the claim reaches, and the plain law of what they compute; each theorem bears its own conditions. -/
import Derived.Test.YtgiaaaejobhngaaGreatDoorQ2
import Derived.Test.YtgiaaaejobhngaaGreatDoorV46
set_option linter.unusedVariables false
set_option linter.constructorNameAsVariable false
set_option linter.unusedSimpArgs false
set_option maxRecDepth 20000
namespace Go.Proofs.YtgiaaaejobhngaaGreatDoor
open Go Go.Vw

def En.rc (e : En) : Rc := ⟨0, 0, e.tier, e.f, e.t, e.key⟩
theorem En.ok_tier {e : En} (h : e.ok = true) : e.tier = 0 ∨ e.tier = 1 ∨ e.tier = 2 := by
  unfold En.ok at h
  have h2 := kT_nat e.key
  simp at h
  omega
theorem tiered0_fn (e : En) (hk : e.key.length ≤ 1000000000) : VFn Tryz.prog 117 [e.rc.av, .int .i64 0] (.bool e.ok) := by
  have h0 := l06Tiered_fn e.rc hk 0
  have e0 : (e.rc.en.ok && decide (0 ≤ e.rc.tier)) = e.ok := by
    show (e.ok && decide (0 ≤ e.tier)) = e.ok
    cases h : e.ok
    · rfl
    · have := En.ok_tier h
      simp; omega
  rw [e0] at h0
  exact h0
/-- where a tier's entries end -/
def endE (L : List En) (lo : Int) (k : Int) : Int := match (ofT L k).getLast? with | some e => e.t | none => lo
theorem endE_snoc {L : List En} {i : Nat} (h : i < L.length) (lo k : Int) : endE (L.take (i + 1)) lo k = if (ix L i).tier = k then (ix L i).t else endE (L.take i) lo k := by
  unfold endE
  rw [ofT_snoc h]
  by_cases hk : (ix L i).tier = k
  · rw [if_pos hk, if_pos hk]; simp
  · rw [if_neg hk, if_neg hk]
def Sta.lo (s : Sta) (k : Int) : Int := if k = 0 then s.l0 else if k = 1 then s.l1 else s.l2
def Sta.hi (s : Sta) (k : Int) : Int := if k = 0 then s.h0 else if k = 1 then s.h1 else s.h2
def Sta.eOK (s : Sta) (i : Nat) : Bool := (ix s.es i).ok && (decide ((ix s.es i).f = endE (s.es.take i) (s.lo (ix s.es i).tier) (ix s.es i).tier) && !decide ((ix s.es i).key ∈ (s.es.take i).map (·.key)))
def Sta.tOK (s : Sta) (i : Nat) : Bool := tbOK s.seq (ix s.ts i) && !decide ((ix s.ts i).key ∈ s.es.map (·.key) ++ (s.ts.take i).map (·.key))
def Sta.ok' (s : Sta) : Bool :=
  within s.seq 0 999999 && (within s.fence 0 999999 && (decide (((s.es.length : Nat) : Int) + ((s.ts.length : Nat) : Int) ≤ 4096) && (allN s.es.length s.eOK && (allN s.ts.length s.tOK &&
    ((within s.l0 0 100000 && decide (s.h0 = endE s.es s.l0 0)) && ((within s.l1 0 100000 && decide (s.h1 = endE s.es s.l1 1)) && (within s.l2 0 100000 && decide (s.h2 = endE s.es s.l2 2))))))))
theorem specStateOK_fn (s : Sta) (hL : s.es.length ≤ 1000000000) (hT : s.ts.length ≤ 1000000000) (hk1 : ∀ e ∈ s.es, e.key.length ≤ 1000000000) (hk2 : ∀ e ∈ s.ts, e.key.length ≤ 1000000000) : VFn Tryz.prog 122 [s.av] (.bool s.ok') := by
  refine VFn.introC Tryz.call122 Tryz.func122 rfl rfl ?_
  conv => whnf
  refine CallC.sca _ (l01In_fn s.seq 0 999999) ?_ ?_
  · exact rfl
  refine Grd.intro (fun h1 => ?_) (fun h1 => ?_)
  · have h1 : within s.seq 0 999999 = false := by simpa using h1
    have e : s.ok' = false := by unfold Sta.ok'; rw [h1]; rfl
    rw [e]
    exact And.intro trivial (AVle.refl _)
  have h1 : within s.seq 0 999999 = true := by simpa using h1
  conv => whnf
  refine CallC.sca _ (l01In_fn s.fence 0 999999) ?_ ?_
  · exact rfl
  refine Grd.intro (fun h2 => ?_) (fun h2 => ?_)
  · have h2 : within s.fence 0 999999 = false := by simpa using h2
    have e : s.ok' = false := by unfold Sta.ok'; rw [h1, h2]; rfl
    rw [e]
    exact And.intro trivial (AVle.refl _)
  have h2 : within s.fence 0 999999 = true := by simpa using h2
  refine And.intro (inI64 (by omega) (by omega)) ?_
  refine Grd.intro (fun h3 => ?_) (fun h3 => ?_)
  · have h3 : ¬ ((s.es.length : Nat) : Int) + ((s.ts.length : Nat) : Int) ≤ 4096 := by
      have h : decide (4096 < ((s.es.length : Nat) : Int) + ((s.ts.length : Nat) : Int)) = true := h3
      have := of_decide_eq_true h; omega
    have e : s.ok' = false := by unfold Sta.ok'; rw [h1, h2, decide_eq_false h3]; rfl
    rw [e]
    exact And.intro trivial (AVle.refl _)
  have h3 : ((s.es.length : Nat) : Int) + ((s.ts.length : Nat) : Int) ≤ 4096 := by
    have h : decide (4096 < ((s.es.length : Nat) : Int) + ((s.ts.length : Nat) : Int)) = false := h3
    have := of_decide_eq_false h; omega
  refine LoopC.mk (fun i : Nat => i ≤ s.es.length ∧ ∀ j, j < i → s.eOK j = true) (fun i => [(1, .bptr 0 0), (3, .bptr 1 0), (4, .osl 2), (5, .int .i64 i)])
    (fun i => [(0, .box s.row), (1, .box [.int .i64 (endE (s.es.take i) s.l0 0), .int .i64 (endE (s.es.take i) s.l1 1), .int .i64 (endE (s.es.take i) s.l2 2)]), (2, .arr 9 1 ((s.es.take i).map (·.key)).length fun j => [.str (B (ix ((s.es.take i).map (·.key)) j))])]) 3 (fun i => s.es.length - i) 0
    ⟨⟨Nat.zero_le _, fun j hj => absurd hj (Nat.not_lt_zero j)⟩, [(0, 0), (1, 1), (2, 2)], rfl, rfl, ⟨AVle.refl _, AVle.refl _, AVle.refl _, AVle.refl _, trivial⟩, ⟨MOle.refl _, MOle.refl _, MOle.arr rfl fun i hi => absurd hi (Nat.not_lt_zero i), trivial⟩⟩ ?_
  intro i hi
  obtain ⟨hi, hall⟩ := hi
  refine Grd.intro (fun h4 => ?_) (fun h4 => ?_)
  · have hin : i < s.es.length := by have := of_decide_eq_true h4; omega
    have hmem := getD_mem hin
    have hbad : s.eOK i = false → s.ok' = false := fun h => by
      have : allN s.es.length s.eOK = false := by
        rw [← Bool.not_eq_true]; intro h'
        rw [List.all_eq_true.1 h' i (by simpa using hin)] at h; cases h
      unfold Sta.ok'; rw [h1, h2, decide_eq_true h3, this]; rfl
    refine And.intro (by omega) ?_
    refine DrawC.mk 26 rfl (by kernel_rfl) ?_
    refine PCallC.sca _ (tiered0_fn (ix s.es i) (hk1 _ hmem)) rfl ?_
    refine Grd.intro (fun h5 => ?_) (fun h5 => ?_)
    · rw [hbad (by unfold Sta.eOK; rw [show (ix s.es i).ok = false by simpa using (show (!(ix s.es i).ok) = true from h5)]; rfl)]
      exact And.intro trivial (AVle.refl _)
    have h5 : (ix s.es i).ok = true := by simpa using (show (!(ix s.es i).ok) = false from h5)
    have ht := En.ok_tier h5
    refine And.intro ⟨show 0 ≤ (ix s.es i).tier by omega, show (ix s.es i).tier < ((3 : Nat) : Int) by omega⟩ ?_
    have hx : (ix s.es (i : Int).toNat) = ix s.es i := rfl
    generalize (ix s.es (i : Int).toNat) = e at hx ⊢
    obtain ⟨tier, f, t, key⟩ := e
    have hend0 := endE_snoc hin s.l0 0
    have hend1 := endE_snoc hin s.l1 1
    have hend2 := endE_snoc hin s.l2 2
    rcases ht with ht | ht | ht
    · have h5t : tier = 0 := by rw [← hx] at ht; exact ht
      subst h5t
      refine Grd.intro (fun h6 => ?_) (fun h6 => ?_)
      · have h6 : ¬ f = endE (s.es.take i) s.l0 0 := by simpa using (show (!decide (f = endE (s.es.take i) s.l0 0)) = true from h6)
        rw [hbad (by unfold Sta.eOK; rw [← hx, show decide (f = endE (s.es.take i) (s.lo 0) 0) = false from decide_eq_false h6]; simp)]
        exact And.intro trivial (AVle.refl _)
      have h6 : f = endE (s.es.take i) s.l0 0 := by simpa using (show (!decide (f = endE (s.es.take i) s.l0 0)) = false from h6)
      refine PCallC.sca _ (l06In_fn ((s.es.take i).map (fun e : En => e.key)) (by simp; omega) key) rfl ?_
      refine Grd.intro (fun h7 => ?_) (fun h7 => ?_)
      · have h7 : decide (key ∈ (s.es.take i).map (·.key)) = true := h7
        rw [hbad (by unfold Sta.eOK; rw [← hx, show decide (key ∈ (s.es.take i).map (·.key)) = true from h7]; simp)]
        exact And.intro trivial (AVle.refl _)
      have h7 : decide (key ∈ (s.es.take i).map (·.key)) = false := h7
      have hgood : s.eOK i = true := by
        unfold Sta.eOK; rw [h5, ← hx, show decide (f = endE (s.es.take i) (s.lo 0) 0) = true from decide_eq_true h6, show decide (key ∈ (s.es.take i).map (·.key)) = false from h7]; rfl
      refine And.intro ⟨show (0 : Int) ≤ 0 by omega, show (0 : Int) < ((3 : Nat) : Int) by omega⟩ ?_
      refine And.intro ⟨show (((s.es.take i).map (·.key)).length + 1) * 16 ≤ 140737488355328 by simp; omega, all1 rfl⟩ ?_
      refine And.intro (inI64 (by omega) (by omega)) ?_
      refine ⟨i + 1, ⟨hin, fun j hj => ?_⟩, by omega, [(0, 0), (1, 1), (31, 2)], rfl, rfl, ⟨AVle.refl _, AVle.refl _, AVle.refl _, AVle.of_eq (congrArg (AV.int .i64) (by simp)), trivial⟩, ⟨MOle.refl _, MOle.box (AVsle.cons (AVle.of_eq (congrArg (AV.int .i64) (show t = _ by rw [hend0, if_pos (by rw [← hx]), ← hx]))) (AVsle.cons (AVle.of_eq (congrArg (AV.int .i64) (show endE (s.es.take i) s.l1 1 = _ by rw [hend1, if_neg (by rw [← hx]; exact (show ¬ ((0 : Int) = 1) by decide))]))) (AVsle.cons (AVle.of_eq (congrArg (AV.int .i64) (show endE (s.es.take i) s.l2 2 = _ by rw [hend2, if_neg (by rw [← hx]; exact (show ¬ ((0 : Int) = 2) by decide))]))) AVsle.nil))), arr_next (f := fun x => [.str (B x)]) (map_take_snoc hin) (show [AV.str (B key)] = _ by rw [← hx]), trivial⟩⟩
      rcases Nat.lt_or_ge j i with h' | h'
      · exact hall j h'
      · rw [show j = i by omega]; exact hgood
    · have h5t : tier = 1 := by rw [← hx] at ht; exact ht
      subst h5t
      refine Grd.intro (fun h6 => ?_) (fun h6 => ?_)
      · have h6 : ¬ f = endE (s.es.take i) s.l1 1 := by simpa using (show (!decide (f = endE (s.es.take i) s.l1 1)) = true from h6)
        rw [hbad (by unfold Sta.eOK; rw [← hx, show decide (f = endE (s.es.take i) (s.lo 1) 1) = false from decide_eq_false h6]; simp)]
        exact And.intro trivial (AVle.refl _)
      have h6 : f = endE (s.es.take i) s.l1 1 := by simpa using (show (!decide (f = endE (s.es.take i) s.l1 1)) = false from h6)
      refine PCallC.sca _ (l06In_fn ((s.es.take i).map (fun e : En => e.key)) (by simp; omega) key) rfl ?_
      refine Grd.intro (fun h7 => ?_) (fun h7 => ?_)
      · have h7 : decide (key ∈ (s.es.take i).map (·.key)) = true := h7
        rw [hbad (by unfold Sta.eOK; rw [← hx, show decide (key ∈ (s.es.take i).map (·.key)) = true from h7]; simp)]
        exact And.intro trivial (AVle.refl _)
      have h7 : decide (key ∈ (s.es.take i).map (·.key)) = false := h7
      have hgood : s.eOK i = true := by
        unfold Sta.eOK; rw [h5, ← hx, show decide (f = endE (s.es.take i) (s.lo 1) 1) = true from decide_eq_true h6, show decide (key ∈ (s.es.take i).map (·.key)) = false from h7]; rfl
      refine And.intro ⟨show (0 : Int) ≤ 1 by omega, show (1 : Int) < ((3 : Nat) : Int) by omega⟩ ?_
      refine And.intro ⟨show (((s.es.take i).map (·.key)).length + 1) * 16 ≤ 140737488355328 by simp; omega, all1 rfl⟩ ?_
      refine And.intro (inI64 (by omega) (by omega)) ?_
      refine ⟨i + 1, ⟨hin, fun j hj => ?_⟩, by omega, [(0, 0), (1, 1), (31, 2)], rfl, rfl, ⟨AVle.refl _, AVle.refl _, AVle.refl _, AVle.of_eq (congrArg (AV.int .i64) (by simp)), trivial⟩, ⟨MOle.refl _, MOle.box (AVsle.cons (AVle.of_eq (congrArg (AV.int .i64) (show endE (s.es.take i) s.l0 0 = _ by rw [hend0, if_neg (by rw [← hx]; exact (show ¬ ((1 : Int) = 0) by decide))]))) (AVsle.cons (AVle.of_eq (congrArg (AV.int .i64) (show t = _ by rw [hend1, if_pos (by rw [← hx]), ← hx]))) (AVsle.cons (AVle.of_eq (congrArg (AV.int .i64) (show endE (s.es.take i) s.l2 2 = _ by rw [hend2, if_neg (by rw [← hx]; exact (show ¬ ((1 : Int) = 2) by decide))]))) AVsle.nil))), arr_next (f := fun x => [.str (B x)]) (map_take_snoc hin) (show [AV.str (B key)] = _ by rw [← hx]), trivial⟩⟩
      rcases Nat.lt_or_ge j i with h' | h'
      · exact hall j h'
      · rw [show j = i by omega]; exact hgood
    · have h5t : tier = 2 := by rw [← hx] at ht; exact ht
      subst h5t
      refine Grd.intro (fun h6 => ?_) (fun h6 => ?_)
      · have h6 : ¬ f = endE (s.es.take i) s.l2 2 := by simpa using (show (!decide (f = endE (s.es.take i) s.l2 2)) = true from h6)
        rw [hbad (by unfold Sta.eOK; rw [← hx, show decide (f = endE (s.es.take i) (s.lo 2) 2) = false from decide_eq_false h6]; simp)]
        exact And.intro trivial (AVle.refl _)
      have h6 : f = endE (s.es.take i) s.l2 2 := by simpa using (show (!decide (f = endE (s.es.take i) s.l2 2)) = false from h6)
      refine PCallC.sca _ (l06In_fn ((s.es.take i).map (fun e : En => e.key)) (by simp; omega) key) rfl ?_
      refine Grd.intro (fun h7 => ?_) (fun h7 => ?_)
      · have h7 : decide (key ∈ (s.es.take i).map (·.key)) = true := h7
        rw [hbad (by unfold Sta.eOK; rw [← hx, show decide (key ∈ (s.es.take i).map (·.key)) = true from h7]; simp)]
        exact And.intro trivial (AVle.refl _)
      have h7 : decide (key ∈ (s.es.take i).map (·.key)) = false := h7
      have hgood : s.eOK i = true := by
        unfold Sta.eOK; rw [h5, ← hx, show decide (f = endE (s.es.take i) (s.lo 2) 2) = true from decide_eq_true h6, show decide (key ∈ (s.es.take i).map (·.key)) = false from h7]; rfl
      refine And.intro ⟨show (0 : Int) ≤ 2 by omega, show (2 : Int) < ((3 : Nat) : Int) by omega⟩ ?_
      refine And.intro ⟨show (((s.es.take i).map (·.key)).length + 1) * 16 ≤ 140737488355328 by simp; omega, all1 rfl⟩ ?_
      refine And.intro (inI64 (by omega) (by omega)) ?_
      refine ⟨i + 1, ⟨hin, fun j hj => ?_⟩, by omega, [(0, 0), (1, 1), (31, 2)], rfl, rfl, ⟨AVle.refl _, AVle.refl _, AVle.refl _, AVle.of_eq (congrArg (AV.int .i64) (by simp)), trivial⟩, ⟨MOle.refl _, MOle.box (AVsle.cons (AVle.of_eq (congrArg (AV.int .i64) (show endE (s.es.take i) s.l0 0 = _ by rw [hend0, if_neg (by rw [← hx]; exact (show ¬ ((2 : Int) = 0) by decide))]))) (AVsle.cons (AVle.of_eq (congrArg (AV.int .i64) (show endE (s.es.take i) s.l1 1 = _ by rw [hend1, if_neg (by rw [← hx]; exact (show ¬ ((2 : Int) = 1) by decide))]))) (AVsle.cons (AVle.of_eq (congrArg (AV.int .i64) (show t = _ by rw [hend2, if_pos (by rw [← hx]), ← hx]))) AVsle.nil))), arr_next (f := fun x => [.str (B x)]) (map_take_snoc hin) (show [AV.str (B key)] = _ by rw [← hx]), trivial⟩⟩
      rcases Nat.lt_or_ge j i with h' | h'
      · exact hall j h'
      · rw [show j = i by omega]; exact hgood
  have : i = s.es.length := by have := of_decide_eq_false h4; omega
  subst this
  rw [List.take_of_length_le (Nat.le_refl _)]
  have h6 : allN s.es.length s.eOK = true := List.all_eq_true.2 fun x hx => hall x (by simpa using hx)
  refine LoopC.mk (fun i : Nat => i ≤ s.ts.length ∧ ∀ j, j < i → s.tOK j = true) (fun i => [(1, .bptr 0 0), (3, .bptr 1 0), (4, .osl 2), (7, .int .i64 i)])
    (fun i => [(0, .box s.row), (1, .box [.int .i64 (endE s.es s.l0 0), .int .i64 (endE s.es s.l1 1), .int .i64 (endE s.es s.l2 2)]), (2, .arr 9 1 (s.es.map (·.key) ++ (s.ts.take i).map (·.key)).length fun j => [.str (B (ix (s.es.map (·.key) ++ (s.ts.take i).map (·.key)) j))])]) 3 (fun i => s.ts.length - i) 0
    ⟨⟨Nat.zero_le _, fun j hj => absurd hj (Nat.not_lt_zero j)⟩, [(0, 0), (1, 1), (2, 2)], rfl, rfl, ⟨AVle.refl _, AVle.refl _, AVle.refl _, AVle.refl _, trivial⟩, ⟨MOle.refl _, MOle.refl _, MOle.of_eq (show MO.arr 9 1 (s.es.map (·.key)).length (fun j => [.str (B (ix (s.es.map (·.key)) j))]) = _ by simp), trivial⟩⟩ ?_
  intro i hi2
  obtain ⟨hi2, hall2⟩ := hi2
  refine Grd.intro (fun h7 => ?_) (fun h7 => ?_)
  · have hin : i < s.ts.length := by have := of_decide_eq_true h7; omega
    have hmem := getD_mem hin
    have hbad : s.tOK i = false → s.ok' = false := fun h => by
      have : allN s.ts.length s.tOK = false := by
        rw [← Bool.not_eq_true]; intro h'
        rw [List.all_eq_true.1 h' i (by simpa using hin)] at h; cases h
      unfold Sta.ok'; rw [h1, h2, decide_eq_true h3, h6, this]; rfl
    refine And.intro (by omega) ?_
    conv => whnf
    refine CallC.sca _ (l03ToKey_fn (ix s.ts i).key (hk2 _ hmem)) ?_ ?_
    · exact rfl
    refine DrawC.mk 24 rfl (by kernel_rfl) ?_
    refine Grd.intro (fun h8 => ?_) (fun h8 => ?_)
    · rw [hbad (by unfold Sta.tOK tbOK; rw [show kOk (ix s.ts i).key = false by simpa using (show (!kOk (ix s.ts i).key) = true from h8)]; rfl)]
      exact And.intro trivial (AVle.refl _)
    have h8 : kOk (ix s.ts i).key = true := by simpa using (show (!kOk (ix s.ts i).key) = false from h8)
    refine And.intro (by omega) ?_
    refine PCallC.sca _ (l01In_fn (ix s.ts i).seq 1 s.seq) rfl ?_
    refine Grd.intro (fun h9 => ?_) (fun h9 => ?_)
    · rw [hbad (by unfold Sta.tOK tbOK; rw [show within (ix s.ts i).seq 1 s.seq = false by simpa using (show (!within (ix s.ts i).seq 1 s.seq) = true from h9)]; simp)]
      exact And.intro trivial (AVle.refl _)
    have h9 : within (ix s.ts i).seq 1 s.seq = true := by simpa using (show (!within (ix s.ts i).seq 1 s.seq) = false from h9)
    refine And.intro (by omega) ?_
    refine PCallC.sca _ (l06In_fn (s.es.map (fun e : En => e.key) ++ (s.ts.take i).map (fun e : Tb => e.key)) (by simp; omega) (ix s.ts i).key) rfl ?_
    refine Grd.intro (fun h10 => ?_) (fun h10 => ?_)
    · have h10 : decide ((ix s.ts i).key ∈ s.es.map (·.key) ++ (s.ts.take i).map (·.key)) = true := h10
      rw [hbad (by unfold Sta.tOK; rw [h10]; simp)]
      exact And.intro trivial (AVle.refl _)
    have h10 : decide ((ix s.ts i).key ∈ s.es.map (·.key) ++ (s.ts.take i).map (·.key)) = false := h10
    have hgood : s.tOK i = true := by unfold Sta.tOK tbOK; rw [h8, h9, h10]; rfl
    refine And.intro (by omega) ?_
    refine And.intro ⟨show ((s.es.map (fun e : En => e.key) ++ (s.ts.take i).map (fun e : Tb => e.key)).length + 1) * 16 ≤ 140737488355328 by simp; omega, all1 rfl⟩ ?_
    refine And.intro (inI64 (by omega) (by omega)) ?_
    refine ⟨i + 1, ⟨hin, fun j hj => ?_⟩, by omega, [(0, 0), (1, 1), (28, 2)], rfl, rfl, ⟨AVle.refl _, AVle.refl _, AVle.refl _, AVle.of_eq (congrArg (AV.int .i64) (by simp)), trivial⟩, ⟨MOle.refl _, MOle.refl _, arr_next (f := fun x => [.str (B x)]) (x := (ix s.ts i).key) (show s.es.map (fun e : En => e.key) ++ (s.ts.take (i + 1)).map (fun e : Tb => e.key) = (s.es.map (fun e : En => e.key) ++ (s.ts.take i).map (fun e : Tb => e.key)) ++ [(ix s.ts i).key] by rw [map_take_snoc hin, List.append_assoc]) rfl, trivial⟩⟩
    rcases Nat.lt_or_ge j i with h' | h'
    · exact hall2 j h'
    · rw [show j = i by omega]; exact hgood
  have : i = s.ts.length := by have := of_decide_eq_false h7; omega
  subst this
  have h8 : allN s.ts.length s.tOK = true := List.all_eq_true.2 fun x hx => hall2 x (by simpa using hx)
  have hok : s.ok' = ((within s.l0 0 100000 && decide (s.h0 = endE s.es s.l0 0)) && ((within s.l1 0 100000 && decide (s.h1 = endE s.es s.l1 1)) && (within s.l2 0 100000 && decide (s.h2 = endE s.es s.l2 2)))) := by
    unfold Sta.ok'; rw [h1, h2, decide_eq_true h3, h6, h8]; rfl
  refine LoopC.rounds 4 ?_
  refine DrawC.mk 16 rfl (by kernel_rfl) ?_
  refine And.intro ⟨by omega, by show (0 : Int) < ((3 : Nat) : Int); omega⟩ ?_
  refine PCallC.sca _ (l01In_fn s.l0 0 100000) rfl ?_
  refine Grd.intro (fun g1 => ?_) (fun g1 => ?_)
  · rw [show s.ok' = false by rw [hok, show within s.l0 0 100000 = false by simpa using (show (!within s.l0 0 100000) = true from g1)]; rfl]
    exact And.intro trivial (AVle.refl _)
  have g1 : within s.l0 0 100000 = true := by simpa using (show (!within s.l0 0 100000) = false from g1)
  refine And.intro ⟨by omega, by show (0 : Int) < ((3 : Nat) : Int); omega⟩ ?_
  refine And.intro ⟨by omega, by show (0 : Int) < ((3 : Nat) : Int); omega⟩ ?_
  refine Grd.intro (fun g2 => ?_) (fun g2 => ?_)
  · have g2 : ¬ s.h0 = endE s.es s.l0 0 := by simpa using (show (!decide (s.h0 = endE s.es s.l0 0)) = true from g2)
    rw [show s.ok' = false by rw [hok, g1, decide_eq_false g2]; rfl]
    exact And.intro trivial (AVle.refl _)
  have g2 : s.h0 = endE s.es s.l0 0 := by simpa using (show (!decide (s.h0 = endE s.es s.l0 0)) = false from g2)
  have r0 : (within s.l0 0 100000 && decide (s.h0 = endE s.es s.l0 0)) = true := by rw [g1, decide_eq_true g2]; rfl
  refine And.intro (inI64 (by omega) (by omega)) ?_
  clear g1 g2
  refine DrawC.mk 16 rfl (by kernel_rfl) ?_
  refine And.intro ⟨by omega, by show (1 : Int) < ((3 : Nat) : Int); omega⟩ ?_
  refine PCallC.sca _ (l01In_fn s.l1 0 100000) rfl ?_
  refine Grd.intro (fun g1 => ?_) (fun g1 => ?_)
  · rw [show s.ok' = false by rw [hok, r0, show within s.l1 0 100000 = false by simpa using (show (!within s.l1 0 100000) = true from g1)]; rfl]
    exact And.intro trivial (AVle.refl _)
  have g1 : within s.l1 0 100000 = true := by simpa using (show (!within s.l1 0 100000) = false from g1)
  refine And.intro ⟨by omega, by show (1 : Int) < ((3 : Nat) : Int); omega⟩ ?_
  refine And.intro ⟨by omega, by show (1 : Int) < ((3 : Nat) : Int); omega⟩ ?_
  refine Grd.intro (fun g2 => ?_) (fun g2 => ?_)
  · have g2 : ¬ s.h1 = endE s.es s.l1 1 := by simpa using (show (!decide (s.h1 = endE s.es s.l1 1)) = true from g2)
    rw [show s.ok' = false by rw [hok, r0, g1, decide_eq_false g2]; rfl]
    exact And.intro trivial (AVle.refl _)
  have g2 : s.h1 = endE s.es s.l1 1 := by simpa using (show (!decide (s.h1 = endE s.es s.l1 1)) = false from g2)
  have r1 : (within s.l1 0 100000 && decide (s.h1 = endE s.es s.l1 1)) = true := by rw [g1, decide_eq_true g2]; rfl
  refine And.intro (inI64 (by omega) (by omega)) ?_
  clear g1 g2
  refine DrawC.mk 16 rfl (by kernel_rfl) ?_
  refine And.intro ⟨by omega, by show (2 : Int) < ((3 : Nat) : Int); omega⟩ ?_
  refine PCallC.sca _ (l01In_fn s.l2 0 100000) rfl ?_
  refine Grd.intro (fun g1 => ?_) (fun g1 => ?_)
  · rw [show s.ok' = false by rw [hok, r0, r1, show within s.l2 0 100000 = false by simpa using (show (!within s.l2 0 100000) = true from g1)]; rfl]
    exact And.intro trivial (AVle.refl _)
  have g1 : within s.l2 0 100000 = true := by simpa using (show (!within s.l2 0 100000) = false from g1)
  refine And.intro ⟨by omega, by show (2 : Int) < ((3 : Nat) : Int); omega⟩ ?_
  refine And.intro ⟨by omega, by show (2 : Int) < ((3 : Nat) : Int); omega⟩ ?_
  refine Grd.intro (fun g2 => ?_) (fun g2 => ?_)
  · have g2 : ¬ s.h2 = endE s.es s.l2 2 := by simpa using (show (!decide (s.h2 = endE s.es s.l2 2)) = true from g2)
    rw [show s.ok' = false by rw [hok, r0, r1, g1, decide_eq_false g2]; rfl]
    exact And.intro trivial (AVle.refl _)
  have g2 : s.h2 = endE s.es s.l2 2 := by simpa using (show (!decide (s.h2 = endE s.es s.l2 2)) = false from g2)
  have r2 : (within s.l2 0 100000 && decide (s.h2 = endE s.es s.l2 2)) = true := by rw [g1, decide_eq_true g2]; rfl
  refine And.intro (inI64 (by omega) (by omega)) ?_
  clear g1 g2
  rw [show s.ok' = true by rw [hok, r0, r1, r2]; rfl]
  exact And.intro trivial (AVle.refl _)
end Go.Proofs.YtgiaaaejobhngaaGreatDoor
set_option linter.unusedVariables false
set_option linter.constructorNameAsVariable false
set_option linter.unusedSimpArgs false
set_option maxRecDepth 20000
namespace Go.Proofs.YtgiaaaejobhngaaGreatDoor
open Go Go.Vw

theorem nodup_ix {α : Type} [Inhabited α] {L : List α} : L.Nodup ↔ ∀ i, i < L.length → ix L i ∉ L.take i := by
  rw [List.Nodup, List.pairwise_iff_getElem]
  constructor
  · intro h i hi hm
    obtain ⟨j, hj, e⟩ := List.mem_take_iff_getElem.1 hm
    have := h j i (by omega) hi (by omega)
    rw [ix_lt hi] at e
    exact this e
  · intro h i j hi hj hij e
    exact h j hj (by rw [ix_lt hj, ← e]; exact List.mem_take_iff_getElem.2 ⟨i, by omega, rfl⟩)
theorem keys_nodup (s : Sta) : s.keys.Nodup ↔ (∀ i, i < s.es.length → (ix s.es i).key ∉ (s.es.take i).map (·.key)) ∧ (∀ i, i < s.ts.length → (ix s.ts i).key ∉ s.es.map (·.key) ++ (s.ts.take i).map (·.key)) := by
  have h := nodup_ix (L := s.keys)
  rw [h]
  have hl : s.keys.length = s.es.length + s.ts.length := by simp [Sta.keys]
  constructor
  · intro h
    refine ⟨fun i hi => ?_, fun i hi => ?_⟩
    · have := h i (by omega)
      unfold Sta.keys at this
      rw [ix_app_l (by simpa using hi), ix_map hi, List.take_append_of_le_length (by simp; omega), ← List.map_take] at this
      exact this
    · have := h (s.es.length + i) (by omega)
      unfold Sta.keys at this
      rw [ix_app_r (by simp), List.take_append] at this
      simp only [List.length_map, Nat.add_sub_cancel_left] at this
      rw [ix_map hi, List.take_of_length_le (by simp), ← List.map_take] at this
      exact this
  · rintro ⟨h1, h2⟩ i hi
    unfold Sta.keys
    rcases Nat.lt_or_ge i s.es.length with h' | h'
    · rw [ix_app_l (by simpa using h'), ix_map h', List.take_append_of_le_length (by simp; omega), ← List.map_take]
      exact h1 i h'
    · obtain ⟨j, rfl⟩ : ∃ j, i = s.es.length + j := ⟨i - s.es.length, by omega⟩
      rw [ix_app_r (by simp), List.take_append]
      simp only [List.length_map, Nat.add_sub_cancel_left]
      rw [ix_map (by omega), List.take_of_length_le (by simp), ← List.map_take]
      exact h2 j (by omega)
theorem runs_snoc : ∀ (L : List En) (e : En) (a : Int), runs (L ++ [e]) a = (runs L a).bind fun b => if e.f = b then some e.t else none
  | [], e, a => by simp [runs]
  | x :: r, e, a => by
    rw [List.cons_append]; unfold runs
    by_cases h : x.f = a
    · rw [if_pos h, if_pos h]; exact runs_snoc r e x.t
    · rw [if_neg h, if_neg h]; rfl
theorem runs_end : ∀ (L : List En) (a b : Int), runs L a = some b → b = match L.getLast? with | some e => e.t | none => a
  | [], a, b, h => by cases h; rfl
  | x :: r, a, b, h => by
    unfold runs at h
    by_cases hx : x.f = a
    · rw [if_pos hx] at h
      have := runs_end r x.t b h
      cases r with
      | nil => exact this
      | cons y r => rw [this, List.getLast?_cons_cons]; cases hq : (y :: r).getLast? with
        | none => simp at hq
        | some z => rfl
    · rw [if_neg hx] at h; cases h
theorem runs_endE {L : List En} {k a b : Int} (h : runs (ofT L k) a = some b) : b = endE L a k := runs_end _ _ _ h
def sideBy (s : Sta) (m : Nat) : Prop := ∀ k, (k = 0 ∨ k = 1 ∨ k = 2) → runs (ofT (s.es.take m) k) (s.lo k) = some (endE (s.es.take m) (s.lo k) k)
theorem sideBy_iff (s : Sta) (ht : ∀ e ∈ s.es, e.tier = 0 ∨ e.tier = 1 ∨ e.tier = 2) : ∀ m, m ≤ s.es.length →
    ((∀ i, i < m → (ix s.es i).f = endE (s.es.take i) (s.lo (ix s.es i).tier) (ix s.es i).tier) ↔ sideBy s m)
  | 0, _ => ⟨fun _ k _ => rfl, fun _ i hi => absurd hi (Nat.not_lt_zero i)⟩
  | m + 1, hm => by
    have hin : m < s.es.length := hm
    have ih := sideBy_iff s ht m (by omega)
    have hs := fun k => ofT_snoc hin k
    have he := fun lo k => endE_snoc hin lo k
    have hte := ht _ (getD_mem hin)
    constructor
    · intro h k hk
      have h0 := ih.1 (fun i hi => h i (by omega)) k hk
      rw [hs, he]
      by_cases hkt : (ix s.es m).tier = k
      · rw [if_pos hkt, if_pos hkt, runs_snoc, h0]
        have := h m (by omega)
        rw [hkt] at this
        simp [this]
      · rw [if_neg hkt, if_neg hkt]; exact h0
    · intro h
      have hprev : sideBy s m := fun k hk => by
        have h1 := h k hk
        rw [hs] at h1
        by_cases hkt : (ix s.es m).tier = k
        · rw [if_pos hkt, runs_snoc] at h1
          cases hr : runs (ofT (s.es.take m) k) (s.lo k) with
          | none => rw [hr] at h1; cases h1
          | some b => rw [runs_endE hr]
        · rw [if_neg hkt] at h1
          rw [h1, runs_endE h1]
      intro i hi
      rcases Nat.lt_or_ge i m with h' | h'
      · exact ih.2 hprev i h'
      · have : i = m := by omega
        subst this
        have h1 := h _ hte
        rw [hs, if_pos rfl, runs_snoc, hprev _ hte] at h1
        simp only [Option.bind_some] at h1
        by_cases hf : (ix s.es i).f = endE (s.es.take i) (s.lo (ix s.es i).tier) (ix s.es i).tier
        · exact hf
        · rw [if_neg hf] at h1; cases h1
theorem all_ix {α : Type} [Inhabited α] {L : List α} {p : α → Bool} : L.all p = true ↔ ∀ i, i < L.length → p (ix L i) = true := by
  rw [List.all_eq_true]
  constructor
  · intro h i hi; exact h _ (getD_mem hi)
  · intro h x hx
    obtain ⟨j, hj, e⟩ := List.getElem_of_mem hx
    have := h j hj
    rw [ix_lt hj, e] at this; exact this
theorem allN_iff {n : Nat} {p : Nat → Bool} : allN n p = true ↔ ∀ i, i < n → p i = true := by
  unfold allN; rw [List.all_eq_true]; simp
theorem ok'_ok (s : Sta) : s.ok' = s.ok := by
  rw [Bool.eq_iff_iff]
  unfold Sta.ok' Sta.ok tierOK
  simp only [Bool.and_eq_true, decide_eq_true_eq, allN_iff, all_ix, keys_nodup]
  have el : s.es.take s.es.length = s.es := List.take_of_length_le (Nat.le_refl _)
  constructor
  · rintro ⟨a1, a2, a3, a4, a5, ⟨b0, c0⟩, ⟨b1, c1⟩, b2, c2⟩
    have hE : ∀ i, i < s.es.length → (ix s.es i).ok = true ∧ (ix s.es i).f = endE (s.es.take i) (s.lo (ix s.es i).tier) (ix s.es i).tier ∧ (ix s.es i).key ∉ (s.es.take i).map (·.key) := fun i hi => by
      have := a4 i hi
      unfold Sta.eOK at this
      simpa using this
    have hTt : ∀ i, i < s.ts.length → tbOK s.seq (ix s.ts i) = true ∧ (ix s.ts i).key ∉ s.es.map (·.key) ++ (s.ts.take i).map (·.key) := fun i hi => by
      have := a5 i hi
      unfold Sta.tOK at this
      rw [Bool.and_eq_true] at this
      exact ⟨this.1, by simpa using this.2⟩
    have ht : ∀ e ∈ s.es, e.tier = 0 ∨ e.tier = 1 ∨ e.tier = 2 := fun e he => by
      obtain ⟨j, hj, q⟩ := List.getElem_of_mem he
      have := En.ok_tier (hE j hj).1
      rw [ix_lt hj, q] at this; exact this
    have hS := (sideBy_iff s ht s.es.length (Nat.le_refl _)).1 fun i hi => (hE i hi).2.1
    unfold sideBy at hS
    rw [el] at hS
    refine ⟨a1, a2, a3, fun i hi => (hE i hi).1, fun i hi => (hTt i hi).1, ⟨fun i hi => (hE i hi).2.2, fun i hi => (hTt i hi).2⟩, ⟨b0, ?_⟩, ⟨b1, ?_⟩, b2, ?_⟩
    · rw [c0]; exact hS 0 (by simp)
    · rw [c1]; exact hS 1 (by simp)
    · rw [c2]; exact hS 2 (by simp)
  · rintro ⟨a1, a2, a3, a4, a5, ⟨a6, a7⟩, ⟨b0, c0⟩, ⟨b1, c1⟩, b2, c2⟩
    have ht : ∀ e ∈ s.es, e.tier = 0 ∨ e.tier = 1 ∨ e.tier = 2 := fun e he => by
      obtain ⟨j, hj, q⟩ := List.getElem_of_mem he
      have := En.ok_tier (a4 j hj)
      rw [ix_lt hj, q] at this; exact this
    have hS := (sideBy_iff s ht s.es.length (Nat.le_refl _)).2 (fun k hk => by
      rw [el]
      rcases hk with rfl | rfl | rfl
      · exact c0.trans (by rw [runs_endE c0]; rfl)
      · exact c1.trans (by rw [runs_endE c1]; rfl)
      · exact c2.trans (by rw [runs_endE c2]; rfl))
    refine ⟨a1, a2, a3, fun i hi => ?_, fun i hi => ?_, ⟨b0, runs_endE c0⟩, ⟨b1, runs_endE c1⟩, b2, runs_endE c2⟩
    · unfold Sta.eOK
      rw [a4 i hi, decide_eq_true (hS i hi), decide_eq_false (a6 i hi)]; rfl
    · unfold Sta.tOK
      rw [a5 i hi, decide_eq_false (a7 i hi)]; rfl
theorem specStateOK_ok (s : Sta) (hL : s.es.length ≤ 1000000000) (hT : s.ts.length ≤ 1000000000) (hk1 : ∀ e ∈ s.es, e.key.length ≤ 1000000000) (hk2 : ∀ e ∈ s.ts, e.key.length ≤ 1000000000) : VFn Tryz.prog 122 [s.av] (.bool s.ok) := ok'_ok s ▸ specStateOK_fn s hL hT hk1 hk2
end Go.Proofs.YtgiaaaejobhngaaGreatDoor
set_option linter.unusedVariables false
set_option linter.constructorNameAsVariable false
set_option linter.unusedSimpArgs false
set_option maxRecDepth 20000
namespace Go.Proofs.YtgiaaaejobhngaaGreatDoor
open Go Go.Vw

theorem IndexTb_1 (L : List Tb) (hL : L.length ≤ 9223372036854775807) (F : Nat) (row : List AV) (p : Tb → Bool) (hp : ∀ e ∈ L, VFn Tryz.prog F [e.av, .eptr row 0] (.bool (p e))) :
    VFn Tryz.prog 239 [tbs L, .fn (.func F) [] [.eptr row 0]] (.int .i64 (fi p L)) := by
  refine VFn.introC Tryz.call239 Tryz.func239 rfl rfl ?_
  refine LoopC.mk (fun i : Nat => i ≤ L.length ∧ ∀ j, j < i → p (ix L j) = false) (fun i => [(0, tbs L), (1, .fn (.func F) [] [.eptr row 0]), (7, .int .i64 L.length), (8, .int .i64 i)]) (fun _ => []) 0 (fun i => L.length - i) 0
    ⟨⟨Nat.zero_le _, fun j hj => absurd hj (Nat.not_lt_zero j)⟩, [], rfl, rfl, ⟨AVle.refl _, AVle.refl _, AVle.refl _, AVle.refl _, trivial⟩, trivial⟩ ?_
  intro i hi
  refine Grd.intro (fun h2 => ?_) (fun h2 => ?_)
  · have hin : i < L.length := by have := of_decide_eq_true h2; omega
    refine And.intro (by omega) ?_
    conv => whnf
    refine CallC.sca _ (hp (ix L i) (getD_mem hin)) ?_ ?_
    · exact rfl
    refine Grd.intro (fun h3 => ?_) (fun h3 => ?_)
    · exact And.intro trivial (AVle.of_eq (congrArg (AV.int .i64) (fi_at hin hi.2 h3).symm))
    · refine And.intro (inI64 (by omega) (by omega)) ?_
      exact ⟨i + 1, ⟨hin, fun j hj => by
        rcases Nat.lt_or_ge j i with h' | h'
        · exact hi.2 j h'
        · rw [show j = i by omega]; exact h3⟩, by omega, [], rfl, rfl, ⟨AVle.refl _, AVle.refl _, AVle.refl _, AVle.of_eq (congrArg (AV.int .i64) (by simp)), trivial⟩, trivial⟩
  · have : i = L.length := by have := of_decide_eq_false h2; omega
    subst this
    exact And.intro trivial (AVle.of_eq (congrArg (AV.int .i64) (fi_none hi.2).symm))
def Sta.tombAt (s : Sta) (k : List UInt8) : Int := fi (fun t : Tb => decide (t.key = k)) s.ts
def Sta.has (s : Sta) (k : List UInt8) : Bool := s.es.any (fun e => decide (e.key = k)) || decide (0 ≤ s.tombAt k)
theorem tomb1_fn (t : Tb) (k : List UInt8) : VFn Tryz.prog 259 [t.av, .eptr [.str (B k)] 0] (.bool (decide (t.key = k))) := by
  refine VFn.introC Tryz.call259 Tryz.func259 rfl rfl ?_
  exact And.intro trivial (AVle.of_eq (congrArg AV.bool (show ((B t.key).toList == (B k).toList) = _ from B_eq)))
theorem tomb_fn (s : Sta) (hT : s.ts.length ≤ 1000000000) (k : List UInt8) : VFn Tryz.prog 237 [s.av, .str (B k)] (.int .i64 (s.tombAt k)) := by
  refine VFn.introC Tryz.call237 Tryz.func237 rfl rfl ?_
  conv => whnf
  refine CallC.sca _ (IndexTb_1 s.ts (by omega) 259 [.str (B k)] (fun t => decide (t.key = k)) (fun t _ => tomb1_fn t k)) ?_ ?_
  · exact rfl
  exact And.intro trivial (AVle.refl _)
theorem hasKey1_fn (e : En) (k : List UInt8) : VFn Tryz.prog 254 [e.av, .eptr [.str (B k)] 0] (.bool (decide (e.key = k))) := by
  refine VFn.introC Tryz.call254 Tryz.func254 rfl rfl ?_
  exact And.intro trivial (AVle.of_eq (congrArg AV.bool (show ((B e.key).toList == (B k).toList) = _ from B_eq)))
theorem hasKey_fn (s : Sta) (hL : s.es.length ≤ 1000000000) (hT : s.ts.length ≤ 1000000000) (k : List UInt8) : VFn Tryz.prog 232 [s.av, .str (B k)] (.bool (s.has k)) := by
  refine VFn.introC Tryz.call232 Tryz.func232 rfl rfl ?_
  conv => whnf
  refine CallC.sca _ (ContainsEn_1 s.es (by omega) 254 [.str (B k)] (fun e => decide (e.key = k)) (fun e _ => hasKey1_fn e k)) ?_ ?_
  · exact rfl
  refine Grd.intro (fun g => ?_) (fun g => ?_)
  · refine And.intro trivial (AVle.of_eq (congrArg AV.bool (show true = _ from ?_)))
    unfold Sta.has; rw [g]; rfl
  · conv => whnf
    refine CallC.sca _ (tomb_fn s hT k) ?_ ?_
    · exact rfl
    refine And.intro trivial (AVle.of_eq (congrArg AV.bool (show decide (0 ≤ s.tombAt k) = _ from ?_)))
    unfold Sta.has; rw [g]; rfl
end Go.Proofs.YtgiaaaejobhngaaGreatDoor
set_option linter.unusedVariables false
set_option linter.constructorNameAsVariable false
set_option linter.unusedSimpArgs false
set_option maxRecDepth 20000
namespace Go.Proofs.YtgiaaaejobhngaaGreatDoor
open Go Go.Vw

theorem l06First_fn (s : Sta) (hL : s.es.length ≤ 1000000000) (k : Int) : VFn Tryz.prog 164 [s.av, .int .i64 k] (.int .i64 (fi (fun e : En => decide (e.tier = k)) s.es)) := by
  refine VFn.introC Tryz.call164 Tryz.func164 rfl rfl ?_
  refine LoopC.mk (fun i : Nat => i ≤ s.es.length ∧ ∀ j, j < i → decide ((ix s.es j).tier = k) = false) (fun i => [(1, .int .i64 k), (2, .bptr 0 0), (5, .int .i64 i)]) (fun i => [(0, .box s.row)]) 1 (fun i => s.es.length - i) 0
    ⟨⟨Nat.zero_le _, fun j hj => absurd hj (Nat.not_lt_zero j)⟩, [(0, 0)], rfl, rfl, ⟨AVle.refl _, AVle.refl _, AVle.refl _, trivial⟩, ⟨MOle.refl _, trivial⟩⟩ ?_
  intro i hi
  refine Grd.intro (fun h2 => ?_) (fun h2 => ?_)
  · have hin : i < s.es.length := by have := of_decide_eq_true h2; omega
    refine And.intro (by omega) ?_
    refine Grd.intro (fun h3 => ?_) (fun h3 => ?_)
    · exact And.intro trivial (AVle.of_eq (congrArg (AV.int .i64) (show (i : Int) = _ from (fi_at hin hi.2 h3).symm)))
    · refine And.intro (inI64 (by omega) (by omega)) ?_
      exact ⟨i + 1, ⟨hin, fun j hj => by
        rcases Nat.lt_or_ge j i with h' | h'
        · exact hi.2 j h'
        · rw [show j = i by omega]; exact h3⟩, by omega, [(0, 0)], rfl, rfl, ⟨AVle.refl _, AVle.refl _, AVle.of_eq (congrArg (AV.int .i64) (by simp)), trivial⟩, ⟨MOle.refl _, trivial⟩⟩
  · have : i = s.es.length := by have := of_decide_eq_false h2; omega
    subst this
    exact And.intro trivial (AVle.of_eq (congrArg (AV.int .i64) (fi_none hi.2).symm))
theorem any_ix {α : Type} [Inhabited α] {L : List α} {p : α → Bool} {i : Nat} (hi : i < L.length) (h : p (ix L i) = true) : L.any p = true := List.any_eq_true.2 ⟨_, getD_mem hi, h⟩
theorem any_no {α : Type} [Inhabited α] {L : List α} {p : α → Bool} (h : ∀ i, i < L.length → p (ix L i) = false) : L.any p = false := by
  rw [← Bool.not_eq_true]; intro h'
  obtain ⟨x, hx, hp⟩ := List.any_eq_true.1 h'
  obtain ⟨j, hj, e⟩ := List.getElem_of_mem hx
  have := h j hj
  rw [ix_lt hj, e, hp] at this; cases this
theorem l06Named_fn (s : Sta) (hL : s.es.length ≤ 1000000000) (hT : s.ts.length ≤ 1000000000) (k : List UInt8) : VFn Tryz.prog 221 [s.av, .str (B k)] (.bool (s.has k)) := by
  have hh : s.has k = (s.es.any (fun e => decide (e.key = k)) || s.ts.any fun t => decide (t.key = k)) := by unfold Sta.has Sta.tombAt; rw [fi_any]
  refine VFn.introC Tryz.call221 Tryz.func221 rfl rfl ?_
  refine LoopC.mk (fun i : Nat => i ≤ s.es.length ∧ ∀ j, j < i → decide ((ix s.es j).key = k) = false) (fun i => [(1, .str (B k)), (2, .bptr 0 0), (5, .int .i64 i)]) (fun i => [(0, .box s.row)]) 1 (fun i => s.es.length - i) 0
    ⟨⟨Nat.zero_le _, fun j hj => absurd hj (Nat.not_lt_zero j)⟩, [(0, 0)], rfl, rfl, ⟨AVle.refl _, AVle.refl _, AVle.refl _, trivial⟩, ⟨MOle.refl _, trivial⟩⟩ ?_
  intro i hi
  refine Grd.intro (fun h2 => ?_) (fun h2 => ?_)
  · have hin : i < s.es.length := by have := of_decide_eq_true h2; omega
    refine And.intro (by omega) ?_
    refine Grd.intro (fun h3 => ?_) (fun h3 => ?_)
    · have h3 : ((B (ix s.es i).key).toList == (B k).toList) = true := h3
      rw [B_eq] at h3
      rw [show s.has k = true by rw [hh, any_ix (p := fun e : En => decide (e.key = k)) hin h3]; rfl]
      exact And.intro trivial (AVle.refl _)
    · have h3 : ((B (ix s.es i).key).toList == (B k).toList) = false := h3
      rw [B_eq] at h3
      refine And.intro (inI64 (by omega) (by omega)) ?_
      exact ⟨i + 1, ⟨hin, fun j hj => by
        rcases Nat.lt_or_ge j i with h' | h'
        · exact hi.2 j h'
        · rw [show j = i by omega]; exact h3⟩, by omega, [(0, 0)], rfl, rfl, ⟨AVle.refl _, AVle.refl _, AVle.of_eq (congrArg (AV.int .i64) (by simp)), trivial⟩, ⟨MOle.refl _, trivial⟩⟩
  have : i = s.es.length := by have := of_decide_eq_false h2; omega
  subst this
  have hno := any_no (p := fun e : En => decide (e.key = k)) hi.2
  refine LoopC.mk (fun i : Nat => i ≤ s.ts.length ∧ ∀ j, j < i → decide ((ix s.ts j).key = k) = false) (fun i => [(1, .str (B k)), (2, .bptr 0 0), (6, .int .i64 i)]) (fun i => [(0, .box s.row)]) 1 (fun i => s.ts.length - i) 0
    ⟨⟨Nat.zero_le _, fun j hj => absurd hj (Nat.not_lt_zero j)⟩, [(0, 0)], rfl, rfl, ⟨AVle.refl _, AVle.refl _, AVle.refl _, trivial⟩, ⟨MOle.refl _, trivial⟩⟩ ?_
  intro i hi2
  refine Grd.intro (fun h4 => ?_) (fun h4 => ?_)
  · have hin : i < s.ts.length := by have := of_decide_eq_true h4; omega
    refine And.intro (by omega) ?_
    refine Grd.intro (fun h3 => ?_) (fun h3 => ?_)
    · have h3 : ((B (ix s.ts i).key).toList == (B k).toList) = true := h3
      rw [B_eq] at h3
      rw [show s.has k = true by rw [hh, hno, any_ix (p := fun t : Tb => decide (t.key = k)) hin h3]; rfl]
      exact And.intro trivial (AVle.refl _)
    · have h3 : ((B (ix s.ts i).key).toList == (B k).toList) = false := h3
      rw [B_eq] at h3
      refine And.intro (inI64 (by omega) (by omega)) ?_
      exact ⟨i + 1, ⟨hin, fun j hj => by
        rcases Nat.lt_or_ge j i with h' | h'
        · exact hi2.2 j h'
        · rw [show j = i by omega]; exact h3⟩, by omega, [(0, 0)], rfl, rfl, ⟨AVle.refl _, AVle.refl _, AVle.of_eq (congrArg (AV.int .i64) (by simp)), trivial⟩, ⟨MOle.refl _, trivial⟩⟩
  · have : i = s.ts.length := by have := of_decide_eq_false h4; omega
    subst this
    rw [show s.has k = false by rw [hh, hno, any_no (p := fun t : Tb => decide (t.key = k)) hi2.2]; rfl]
    exact And.intro trivial (AVle.refl _)
end Go.Proofs.YtgiaaaejobhngaaGreatDoor
set_option linter.unusedVariables false
set_option linter.constructorNameAsVariable false
set_option linter.unusedSimpArgs false
set_option maxRecDepth 20000
namespace Go.Proofs.YtgiaaaejobhngaaGreatDoor
open Go Go.Vw

def En.size (e : En) : Nat := e.key.length
def Tb.size (e : Tb) : Nat := e.key.length
def Sta.size (s : Sta) : Nat := (s.es.length + sumL En.size s.es) + (s.ts.length + sumL Tb.size s.ts)
/-- what is read of a state -/
def Sta.read (s : Sta) : Prop := s.es.length ≤ 9223372036854775807 ∧ s.ts.length ≤ 9223372036854775807 ∧ (∀ e ∈ s.es, e.size ≤ 9223372036854775807) ∧ ∀ e ∈ s.ts, e.size ≤ 9223372036854775807
theorem Sta.small {s : Sta} (h : (s.size : Int) ≤ 1048576) : s.es.length ≤ 1048576 ∧ s.ts.length ≤ 1048576 ∧ (∀ e ∈ s.es, e.key.length ≤ 1048576) ∧ ∀ e ∈ s.ts, e.key.length ≤ 1048576 := by
  unfold Sta.size at h
  refine ⟨by omega, by omega, fun e he => ?_, fun e he => ?_⟩
  · have := sum_mem (f := En.size) he
    have e' : e.size = e.key.length := rfl
    omega
  · have := sum_mem (f := Tb.size) he
    have e' : e.size = e.key.length := rfl
    omega
end Go.Proofs.YtgiaaaejobhngaaGreatDoor
set_option linter.unusedVariables false
set_option linter.constructorNameAsVariable false
set_option linter.unusedSimpArgs false
set_option maxRecDepth 20000
namespace Go.Proofs.YtgiaaaejobhngaaGreatDoor
open Go Go.Vw

def wd (k : Int) : Int := if k = 0 then 1 else if k = 1 then 5 else 20
theorem width_fn (k : Int) (h : k = 0 ∨ k = 1 ∨ k = 2) : VFn Tryz.prog 135 [.int .i64 k] (.int .i64 (wd k)) := by
  rcases h with rfl | rfl | rfl
  · refine VFn.introC Tryz.call135 Tryz.func135 rfl rfl ?_
    refine And.intro ⟨by omega, by show (0 : Int) < ((3 : Nat) : Int); omega⟩ ?_
    exact And.intro trivial (AVle.refl _)
  · refine VFn.introC Tryz.call135 Tryz.func135 rfl rfl ?_
    refine And.intro ⟨by omega, by show (1 : Int) < ((3 : Nat) : Int); omega⟩ ?_
    exact And.intro trivial (AVle.refl _)
  · refine VFn.introC Tryz.call135 Tryz.func135 rfl rfl ?_
    refine And.intro ⟨by omega, by show (2 : Int) < ((3 : Nat) : Int); omega⟩ ?_
    exact And.intro trivial (AVle.refl _)
theorem l04Width_fn (k : Int) (h : k = 0 ∨ k = 1 ∨ k = 2) : VFn Tryz.prog 183 [.int .i64 k] (.int .i64 (wd k)) := by
  rcases h with rfl | rfl | rfl
  · refine VFn.introC Tryz.call183 Tryz.func183 rfl rfl ?_
    refine And.intro ⟨by omega, by show (0 : Int) < ((3 : Nat) : Int); omega⟩ ?_
    exact And.intro trivial (AVle.refl _)
  · refine VFn.introC Tryz.call183 Tryz.func183 rfl rfl ?_
    refine And.intro ⟨by omega, by show (1 : Int) < ((3 : Nat) : Int); omega⟩ ?_
    exact And.intro trivial (AVle.refl _)
  · refine VFn.introC Tryz.call183 Tryz.func183 rfl rfl ?_
    refine And.intro ⟨by omega, by show (2 : Int) < ((3 : Nat) : Int); omega⟩ ?_
    exact And.intro trivial (AVle.refl _)
/-- the tier whose next window is due: 0, none -/
def dueT (h0 h1 h2 : Int) : Int := if h1 + 5 ≤ h0 then 1 else if h2 + 20 ≤ h1 then 2 else 0
def dueF (h0 h1 h2 : Int) : Int := if h1 + 5 ≤ h0 then h1 else if h2 + 20 ≤ h1 then h2 else 0
/-- how many windows are due -/
def dueN : Nat → Int → Int → Int → Int
  | 0, _, _, _ => 0
  | f + 1, h0, h1, h2 => if h1 + 5 ≤ h0 then 1 + dueN f h0 (h1 + 5) h2 else if h2 + 20 ≤ h1 then 1 + dueN f h0 h1 (h2 + 20) else 0
theorem dueN_b : ∀ f h0 h1 h2, 0 ≤ dueN f h0 h1 h2 ∧ dueN f h0 h1 h2 ≤ f
  | 0, _, _, _ => by simp [dueN]
  | f + 1, h0, h1, h2 => by
    have a := dueN_b f h0 (h1 + 5) h2
    have b := dueN_b f h0 h1 (h2 + 20)
    unfold dueN
    split
    · omega
    · split <;> omega
def Sta.h (s : Sta) (a b : Int) : Sta := { s with h1 := a, h2 := b }
theorem hi_b (L : List En) (hL : L.all En.ok = true) (lo hi k : Int) (h : tierOK L lo hi k = true) : 0 ≤ hi ∧ hi ≤ 100000 := by
  unfold tierOK at h
  simp only [Bool.and_eq_true, decide_eq_true_eq] at h
  have hl : 0 ≤ lo ∧ lo ≤ 100000 := by simpa [within] using h.1
  rw [runs_endE h.2]
  unfold endE
  cases hq : (ofT L k).getLast? with
  | none => exact hl
  | some e =>
    have he : e ∈ L := (List.mem_filter.1 (List.mem_of_getLast? hq)).1
    have := List.all_eq_true.1 hL e he
    unfold En.ok isRange at this
    simp [within] at this
    simp only; omega
theorem Sta.hi_b {s : Sta} (h : s.ok = true) : (0 ≤ s.h0 ∧ s.h0 ≤ 100000) ∧ (0 ≤ s.h1 ∧ s.h1 ≤ 100000) ∧ (0 ≤ s.h2 ∧ s.h2 ≤ 100000) := by
  unfold Sta.ok at h
  simp only [Bool.and_eq_true] at h
  obtain ⟨_, _, _, h4, _, _, t0, t1, t2⟩ := h
  exact ⟨Proofs.YtgiaaaejobhngaaGreatDoor.hi_b s.es h4 _ _ _ t0, Proofs.YtgiaaaejobhngaaGreatDoor.hi_b s.es h4 _ _ _ t1, Proofs.YtgiaaaejobhngaaGreatDoor.hi_b s.es h4 _ _ _ t2⟩
def Sta.due (s : Sta) : Int := dueN 300000 s.h0 s.h1 s.h2
end Go.Proofs.YtgiaaaejobhngaaGreatDoor
set_option linter.unusedVariables false
set_option linter.constructorNameAsVariable false
set_option linter.unusedSimpArgs false
set_option maxRecDepth 20000
namespace Go.Proofs.YtgiaaaejobhngaaGreatDoor
open Go Go.Vw

def headIs (L : List En) (e : En) : Bool := match L with | x :: _ => decide (x = e) | [] => false
def Sta.takes (s : Sta) (r : Rc) : Bool :=
  if r.k = 1 then decide (r.f = s.h0) && (decide (kN r.key = s.seq + 1) && !s.has r.key)
  else if r.k = 2 then decide (s.fence < r.tok)
  else if r.k = 3 then decide (r.tok = s.fence) && (decide (r.f = s.hi r.tier) && (decide (kN r.key = r.f) && (decide (kW r.key = r.tok) && (decide (r.t = r.f + wd r.tier) && (decide (r.t ≤ s.hi (r.tier - 1)) && (decide (s.lo (r.tier - 1) ≤ r.f) && !s.has r.key))))))
  else if r.k = 4 then decide (r.tok = s.fence) && (headIs (ofT s.es r.tier) r.en && (decide (r.tier = 2) || decide (r.t ≤ s.hi (r.tier + 1))))
  else decide (0 ≤ s.tombAt r.key)
theorem takes1 (s : Sta) (hL : s.es.length ≤ 1000000000) (hT : s.ts.length ≤ 1000000000) (hq : 0 ≤ s.seq ∧ s.seq ≤ 999999) (tok tier f t : Int) (key : List UInt8) : VFn Tryz.prog 193 [s.av, (Rc.mk 1 tok tier f t key).av] (.bool (s.takes ⟨1, tok, tier, f, t, key⟩)) := by
  have e : s.takes ⟨1, tok, tier, f, t, key⟩ = (decide (f = s.h0) && (decide (kN key = s.seq + 1) && !s.has key)) := rfl
  rw [e]
  refine VFn.introC Tryz.call193 Tryz.func193 rfl rfl ?_
  conv => whnf
  refine CallC.sca _ (readDataKey_fn key) ?_ ?_
  · exact rfl
  refine And.intro ⟨by omega, by show (0 : Int) < ((3 : Nat) : Int); omega⟩ ?_
  repeat' (conv => whnf
           first
      | refine Grd.intro (fun h => ?_) (fun h => ?_)
      | (refine CallC.sca _ (hasKey_fn s hL hT key) ?_ ?_; exact rfl)
      | refine And.intro (inI64 (by omega) (by omega)) ?_
      | refine And.intro trivial (AVle.of_eq (congrArg AV.bool ?_)))
  all_goals (simp_all)
theorem takes2 (s : Sta) (tok tier f t : Int) (key : List UInt8) : VFn Tryz.prog 193 [s.av, (Rc.mk 2 tok tier f t key).av] (.bool (s.takes ⟨2, tok, tier, f, t, key⟩)) := by
  refine VFn.introC Tryz.call193 Tryz.func193 rfl rfl ?_
  exact And.intro trivial (AVle.of_eq (congrArg AV.bool (show decide (s.fence < tok) = _ from rfl)))
theorem takes5 (s : Sta) (hT : s.ts.length ≤ 1000000000) (tok tier f t : Int) (key : List UInt8) : VFn Tryz.prog 193 [s.av, (Rc.mk 5 tok tier f t key).av] (.bool (s.takes ⟨5, tok, tier, f, t, key⟩)) := by
  refine VFn.introC Tryz.call193 Tryz.func193 rfl rfl ?_
  conv => whnf
  refine CallC.sca _ (tomb_fn s hT key) ?_ ?_
  · exact rfl
  exact And.intro trivial (AVle.of_eq (congrArg AV.bool (show decide (0 ≤ s.tombAt key) = _ from rfl)))
set_option maxHeartbeats 4000000 in
theorem takes3_1 (s : Sta) (hL : s.es.length ≤ 1000000000) (hT : s.ts.length ≤ 1000000000) (tok f t : Int) (hf : 0 ≤ f ∧ f ≤ 1000000) (key : List UInt8) : VFn Tryz.prog 193 [s.av, (Rc.mk 3 tok 1 f t key).av] (.bool (s.takes ⟨3, tok, 1, f, t, key⟩)) := by
  have w1 : VFn Tryz.prog 135 [.int .i64 1] (.int .i64 5) := width_fn 1 (.inr (.inl rfl))
  have e : s.takes ⟨3, tok, 1, f, t, key⟩ = (decide (tok = s.fence) && (decide (f = s.h1) && (decide (kN key = f) && (decide (kW key = tok) && (decide (t = f + 5) && (decide (t ≤ s.h0) && (decide (s.l0 ≤ f) && !s.has key))))))) := rfl
  rw [e]
  refine VFn.introC Tryz.call193 Tryz.func193 rfl rfl ?_
  conv => whnf
  refine CallC.sca _ (readDataKey_fn key) ?_ ?_
  · exact rfl
  refine DrawC.mk 68 rfl (by kernel_rfl) ?_
  repeat' (first
    | refine Grd.intro (fun h => ?_) (fun h => ?_)
    | ((conv => whnf); refine Grd.intro (fun h => ?_) (fun h => ?_))
    | refine PCallC.sca _ (w1) rfl ?_
    | refine PCallC.sca _ (hasKey_fn s hL hT key) rfl ?_
    | refine And.intro (inI64 (by (try simp only); omega) (by (try simp only); omega)) ?_
    | refine And.intro ⟨show (0 : Int) ≤ 0 by omega, show (0 : Int) < ((3 : Nat) : Int) by omega⟩ ?_
    | refine And.intro ⟨show (0 : Int) ≤ 1 by omega, show (1 : Int) < ((3 : Nat) : Int) by omega⟩ ?_
    | refine And.intro ⟨show (0 : Int) ≤ 2 by omega, show (2 : Int) < ((3 : Nat) : Int) by omega⟩ ?_
    | refine And.intro trivial (AVle.of_eq (congrArg AV.bool ?_)))
  all_goals (first | (simp_all; done) | (simp_all; intros; omega))
set_option maxHeartbeats 4000000 in
theorem takes3_2 (s : Sta) (hL : s.es.length ≤ 1000000000) (hT : s.ts.length ≤ 1000000000) (tok f t : Int) (hf : 0 ≤ f ∧ f ≤ 1000000) (key : List UInt8) : VFn Tryz.prog 193 [s.av, (Rc.mk 3 tok 2 f t key).av] (.bool (s.takes ⟨3, tok, 2, f, t, key⟩)) := by
  have w1 : VFn Tryz.prog 135 [.int .i64 2] (.int .i64 20) := width_fn 2 (.inr (.inr rfl))
  have e : s.takes ⟨3, tok, 2, f, t, key⟩ = (decide (tok = s.fence) && (decide (f = s.h2) && (decide (kN key = f) && (decide (kW key = tok) && (decide (t = f + 20) && (decide (t ≤ s.h1) && (decide (s.l1 ≤ f) && !s.has key))))))) := rfl
  rw [e]
  refine VFn.introC Tryz.call193 Tryz.func193 rfl rfl ?_
  conv => whnf
  refine CallC.sca _ (readDataKey_fn key) ?_ ?_
  · exact rfl
  refine DrawC.mk 68 rfl (by kernel_rfl) ?_
  repeat' (first
    | refine Grd.intro (fun h => ?_) (fun h => ?_)
    | ((conv => whnf); refine Grd.intro (fun h => ?_) (fun h => ?_))
    | refine PCallC.sca _ (w1) rfl ?_
    | refine PCallC.sca _ (hasKey_fn s hL hT key) rfl ?_
    | refine And.intro (inI64 (by (try simp only); omega) (by (try simp only); omega)) ?_
    | refine And.intro ⟨show (0 : Int) ≤ 0 by omega, show (0 : Int) < ((3 : Nat) : Int) by omega⟩ ?_
    | refine And.intro ⟨show (0 : Int) ≤ 1 by omega, show (1 : Int) < ((3 : Nat) : Int) by omega⟩ ?_
    | refine And.intro ⟨show (0 : Int) ≤ 2 by omega, show (2 : Int) < ((3 : Nat) : Int) by omega⟩ ?_
    | refine And.intro trivial (AVle.of_eq (congrArg AV.bool ?_)))
  all_goals (first | (simp_all; done) | (simp_all; intros; omega))
end Go.Proofs.YtgiaaaejobhngaaGreatDoor
