/- States: right ones, by the reference: contracts; the conditions are the theorems' own. -/
import Derived.Test.YtopkjoalbinljaaGreatDoorGO
set_option linter.unusedVariables false
set_option linter.unusedSimpArgs false
set_option maxRecDepth 20000
namespace Go.Proofs.YtopkjoalbinljaaGreatDoor
open Go Go.Vw

def En.rc (e : En) : Rc := ⟨0, 0, e.tier, e.f, e.t, e.key⟩
theorem En.ok_tier {e : En} (h : e.ok = true) : e.tier = 0 ∨ e.tier = 1 ∨ e.tier = 2 := by
  unfold En.ok at h
  have h2 := kT_nat e.key
  simp at h
  omega
theorem tiered0_fn (e : En) (hk : e.key.length ≤ 1000000000) : VFn Tryz.prog 59 [e.rc.av, .int .i64 0] (.bool e.ok) := by
  have h0 := l06Tiered_fn e.rc hk 0
  have e0 : (e.rc.en.ok && decide (0 ≤ e.rc.tier)) = e.ok := by
    show (e.ok && decide (0 ≤ e.tier)) = e.ok
    cases h : e.ok
    · rfl
    · have := En.ok_tier h
      simp; omega
  rw [e0] at h0
  exact h0
/-- where a tier's entries end -/
def endE (L : List En) (lo : Int) (k : Int) : Int := match (ofT L k).getLast? with | some e => e.t | none => lo
theorem endE_snoc {L : List En} {i : Nat} (h : i < L.length) (lo k : Int) : endE (L.take (i + 1)) lo k = if (ix L i).tier = k then (ix L i).t else endE (L.take i) lo k := by
  unfold endE
  rw [ofT_snoc h]
  by_cases hk : (ix L i).tier = k
  · rw [if_pos hk, if_pos hk]; simp
  · rw [if_neg hk, if_neg hk]
def Sta.lo (s : Sta) (k : Int) : Int := if k = 0 then s.l0 else if k = 1 then s.l1 else s.l2
def Sta.hi (s : Sta) (k : Int) : Int := if k = 0 then s.h0 else if k = 1 then s.h1 else s.h2
def Sta.eOK (s : Sta) (i : Nat) : Bool := (ix s.es i).ok && (decide ((ix s.es i).f = endE (s.es.take i) (s.lo (ix s.es i).tier) (ix s.es i).tier) && !decide ((ix s.es i).key ∈ (s.es.take i).map (·.key)))
def Sta.tOK (s : Sta) (i : Nat) : Bool := tbOK s.seq (ix s.ts i) && !decide ((ix s.ts i).key ∈ s.es.map (·.key) ++ (s.ts.take i).map (·.key))
def Sta.ok' (s : Sta) : Bool :=
  within s.seq 0 999999 && (within s.fence 0 999999 && (decide (((s.es.length : Nat) : Int) + ((s.ts.length : Nat) : Int) ≤ 4096) && (allN s.es.length s.eOK && (allN s.ts.length s.tOK &&
    ((within s.l0 0 100000 && decide (s.h0 = endE s.es s.l0 0)) && ((within s.l1 0 100000 && decide (s.h1 = endE s.es s.l1 1)) && (within s.l2 0 100000 && decide (s.h2 = endE s.es s.l2 2))))))))
theorem specStateOK_fn (s : Sta) (hL : s.es.length ≤ 1000000000) (hT : s.ts.length ≤ 1000000000) (hk1 : ∀ e ∈ s.es, e.key.length ≤ 1000000000) (hk2 : ∀ e ∈ s.ts, e.key.length ≤ 1000000000) : VFn Tryz.prog 46 [s.av] (.bool s.ok') := by
  refine VFn.introC Tryz.call46 Tryz.func46 rfl rfl ?_
  conv => whnf
  refine CallC.sca _ (l01In_fn s.seq 0 999999) ?_ ?_
  · exact rfl
  refine Grd.intro (fun h1 => ?_) (fun h1 => ?_)
  · have h1 : within s.seq 0 999999 = false := by simpa using h1
    have e : s.ok' = false := by unfold Sta.ok'; rw [h1]; rfl
    rw [e]
    exact And.intro trivial (AVle.refl _)
  have h1 : within s.seq 0 999999 = true := by simpa using h1
  conv => whnf
  refine CallC.sca _ (l01In_fn s.fence 0 999999) ?_ ?_
  · exact rfl
  refine Grd.intro (fun h2 => ?_) (fun h2 => ?_)
  · have h2 : within s.fence 0 999999 = false := by simpa using h2
    have e : s.ok' = false := by unfold Sta.ok'; rw [h1, h2]; rfl
    rw [e]
    exact And.intro trivial (AVle.refl _)
  have h2 : within s.fence 0 999999 = true := by simpa using h2
  refine And.intro (inI64 (by omega) (by omega)) ?_
  refine Grd.intro (fun h3 => ?_) (fun h3 => ?_)
  · have h3 : ¬ ((s.es.length : Nat) : Int) + ((s.ts.length : Nat) : Int) ≤ 4096 := by
      have h : decide (4096 < ((s.es.length : Nat) : Int) + ((s.ts.length : Nat) : Int)) = true := h3
      have := of_decide_eq_true h; omega
    have e : s.ok' = false := by unfold Sta.ok'; rw [h1, h2, decide_eq_false h3]; rfl
    rw [e]
    exact And.intro trivial (AVle.refl _)
  have h3 : ((s.es.length : Nat) : Int) + ((s.ts.length : Nat) : Int) ≤ 4096 := by
    have h : decide (4096 < ((s.es.length : Nat) : Int) + ((s.ts.length : Nat) : Int)) = false := h3
    have := of_decide_eq_false h; omega
  refine LoopC.mk (fun i : Nat => i ≤ s.es.length ∧ ∀ j, j < i → s.eOK j = true) (fun i => [(1, .bptr 0 0), (3, .bptr 1 0), (4, .osl 2), (5, .int .i64 i)])
    (fun i => [(0, .box s.row), (1, .box [.int .i64 (endE (s.es.take i) s.l0 0), .int .i64 (endE (s.es.take i) s.l1 1), .int .i64 (endE (s.es.take i) s.l2 2)]), (2, .arr 9 1 ((s.es.take i).map (·.key)).length fun j => [.str (B (ix ((s.es.take i).map (·.key)) j))])]) 3 (fun i => s.es.length - i) 0
    ⟨⟨Nat.zero_le _, fun j hj => absurd hj (Nat.not_lt_zero j)⟩, [(0, 0), (1, 1), (2, 2)], rfl, rfl, ⟨AVle.refl _, AVle.refl _, AVle.refl _, AVle.refl _, trivial⟩, ⟨MOle.refl _, MOle.refl _, MOle.arr rfl fun i hi => absurd hi (Nat.not_lt_zero i), trivial⟩⟩ ?_
  intro i hi
  obtain ⟨hi, hall⟩ := hi
  refine Grd.intro (fun h4 => ?_) (fun h4 => ?_)
  · have hin : i < s.es.length := by have := of_decide_eq_true h4; omega
    have hmem := getD_mem hin
    have hbad : s.eOK i = false → s.ok' = false := fun h => by
      have : allN s.es.length s.eOK = false := by
        rw [← Bool.not_eq_true]; intro h'
        rw [List.all_eq_true.1 h' i (by simpa using hin)] at h; cases h
      unfold Sta.ok'; rw [h1, h2, decide_eq_true h3, this]; rfl
    refine And.intro (by omega) ?_
    refine DrawC.mk 26 rfl (by kernel_rfl) ?_
    refine PCallC.sca _ (tiered0_fn (ix s.es i) (hk1 _ hmem)) rfl ?_
    refine Grd.intro (fun h5 => ?_) (fun h5 => ?_)
    · rw [hbad (by unfold Sta.eOK; rw [show (ix s.es i).ok = false by simpa using (show (!(ix s.es i).ok) = true from h5)]; rfl)]
      exact And.intro trivial (AVle.refl _)
    have h5 : (ix s.es i).ok = true := by simpa using (show (!(ix s.es i).ok) = false from h5)
    have ht := En.ok_tier h5
    refine And.intro ⟨show 0 ≤ (ix s.es i).tier by omega, show (ix s.es i).tier < ((3 : Nat) : Int) by omega⟩ ?_
    have hx : (ix s.es (i : Int).toNat) = ix s.es i := rfl
    generalize (ix s.es (i : Int).toNat) = e at hx ⊢
    obtain ⟨tier, f, t, key⟩ := e
    have hend0 := endE_snoc hin s.l0 0
    have hend1 := endE_snoc hin s.l1 1
    have hend2 := endE_snoc hin s.l2 2
    rcases ht with ht | ht | ht
    · have h5t : tier = 0 := by rw [← hx] at ht; exact ht
      subst h5t
      refine Grd.intro (fun h6 => ?_) (fun h6 => ?_)
      · have h6 : ¬ f = endE (s.es.take i) s.l0 0 := by simpa using (show (!decide (f = endE (s.es.take i) s.l0 0)) = true from h6)
        rw [hbad (by unfold Sta.eOK; rw [← hx, show decide (f = endE (s.es.take i) (s.lo 0) 0) = false from decide_eq_false h6]; simp)]
        exact And.intro trivial (AVle.refl _)
      have h6 : f = endE (s.es.take i) s.l0 0 := by simpa using (show (!decide (f = endE (s.es.take i) s.l0 0)) = false from h6)
      refine PCallC.sca _ (l06In_fn ((s.es.take i).map (fun e : En => e.key)) (by simp; omega) key) rfl ?_
      refine Grd.intro (fun h7 => ?_) (fun h7 => ?_)
      · have h7 : decide (key ∈ (s.es.take i).map (·.key)) = true := h7
        rw [hbad (by unfold Sta.eOK; rw [← hx, show decide (key ∈ (s.es.take i).map (·.key)) = true from h7]; simp)]
        exact And.intro trivial (AVle.refl _)
      have h7 : decide (key ∈ (s.es.take i).map (·.key)) = false := h7
      have hgood : s.eOK i = true := by
        unfold Sta.eOK; rw [h5, ← hx, show decide (f = endE (s.es.take i) (s.lo 0) 0) = true from decide_eq_true h6, show decide (key ∈ (s.es.take i).map (·.key)) = false from h7]; rfl
      refine And.intro ⟨show (0 : Int) ≤ 0 by omega, show (0 : Int) < ((3 : Nat) : Int) by omega⟩ ?_
      refine And.intro ⟨show (((s.es.take i).map (·.key)).length + 1) * 16 ≤ 140737488355328 by simp; omega, all1 rfl⟩ ?_
      refine And.intro (inI64 (by omega) (by omega)) ?_
      refine ⟨i + 1, ⟨hin, fun j hj => ?_⟩, by omega, [(0, 0), (1, 1), (31, 2)], rfl, rfl, ⟨AVle.refl _, AVle.refl _, AVle.refl _, AVle.of_eq (congrArg (AV.int .i64) (by simp)), trivial⟩, ⟨MOle.refl _, MOle.box (AVsle.cons (AVle.of_eq (congrArg (AV.int .i64) (show t = _ by rw [hend0, if_pos (by rw [← hx]), ← hx]))) (AVsle.cons (AVle.of_eq (congrArg (AV.int .i64) (show endE (s.es.take i) s.l1 1 = _ by rw [hend1, if_neg (by rw [← hx]; exact (show ¬ ((0 : Int) = 1) by decide))]))) (AVsle.cons (AVle.of_eq (congrArg (AV.int .i64) (show endE (s.es.take i) s.l2 2 = _ by rw [hend2, if_neg (by rw [← hx]; exact (show ¬ ((0 : Int) = 2) by decide))]))) AVsle.nil))), arr_next (f := fun x => [.str (B x)]) (map_take_snoc hin) (show [AV.str (B key)] = _ by rw [← hx]), trivial⟩⟩
      rcases Nat.lt_or_ge j i with h' | h'
      · exact hall j h'
      · rw [show j = i by omega]; exact hgood
    · have h5t : tier = 1 := by rw [← hx] at ht; exact ht
      subst h5t
      refine Grd.intro (fun h6 => ?_) (fun h6 => ?_)
      · have h6 : ¬ f = endE (s.es.take i) s.l1 1 := by simpa using (show (!decide (f = endE (s.es.take i) s.l1 1)) = true from h6)
        rw [hbad (by unfold Sta.eOK; rw [← hx, show decide (f = endE (s.es.take i) (s.lo 1) 1) = false from decide_eq_false h6]; simp)]
        exact And.intro trivial (AVle.refl _)
      have h6 : f = endE (s.es.take i) s.l1 1 := by simpa using (show (!decide (f = endE (s.es.take i) s.l1 1)) = false from h6)
      refine PCallC.sca _ (l06In_fn ((s.es.take i).map (fun e : En => e.key)) (by simp; omega) key) rfl ?_
      refine Grd.intro (fun h7 => ?_) (fun h7 => ?_)
      · have h7 : decide (key ∈ (s.es.take i).map (·.key)) = true := h7
        rw [hbad (by unfold Sta.eOK; rw [← hx, show decide (key ∈ (s.es.take i).map (·.key)) = true from h7]; simp)]
        exact And.intro trivial (AVle.refl _)
      have h7 : decide (key ∈ (s.es.take i).map (·.key)) = false := h7
      have hgood : s.eOK i = true := by
        unfold Sta.eOK; rw [h5, ← hx, show decide (f = endE (s.es.take i) (s.lo 1) 1) = true from decide_eq_true h6, show decide (key ∈ (s.es.take i).map (·.key)) = false from h7]; rfl
      refine And.intro ⟨show (0 : Int) ≤ 1 by omega, show (1 : Int) < ((3 : Nat) : Int) by omega⟩ ?_
      refine And.intro ⟨show (((s.es.take i).map (·.key)).length + 1) * 16 ≤ 140737488355328 by simp; omega, all1 rfl⟩ ?_
      refine And.intro (inI64 (by omega) (by omega)) ?_
      refine ⟨i + 1, ⟨hin, fun j hj => ?_⟩, by omega, [(0, 0), (1, 1), (31, 2)], rfl, rfl, ⟨AVle.refl _, AVle.refl _, AVle.refl _, AVle.of_eq (congrArg (AV.int .i64) (by simp)), trivial⟩, ⟨MOle.refl _, MOle.box (AVsle.cons (AVle.of_eq (congrArg (AV.int .i64) (show endE (s.es.take i) s.l0 0 = _ by rw [hend0, if_neg (by rw [← hx]; exact (show ¬ ((1 : Int) = 0) by decide))]))) (AVsle.cons (AVle.of_eq (congrArg (AV.int .i64) (show t = _ by rw [hend1, if_pos (by rw [← hx]), ← hx]))) (AVsle.cons (AVle.of_eq (congrArg (AV.int .i64) (show endE (s.es.take i) s.l2 2 = _ by rw [hend2, if_neg (by rw [← hx]; exact (show ¬ ((1 : Int) = 2) by decide))]))) AVsle.nil))), arr_next (f := fun x => [.str (B x)]) (map_take_snoc hin) (show [AV.str (B key)] = _ by rw [← hx]), trivial⟩⟩
      rcases Nat.lt_or_ge j i with h' | h'
      · exact hall j h'
      · rw [show j = i by omega]; exact hgood
    · have h5t : tier = 2 := by rw [← hx] at ht; exact ht
      subst h5t
      refine Grd.intro (fun h6 => ?_) (fun h6 => ?_)
      · have h6 : ¬ f = endE (s.es.take i) s.l2 2 := by simpa using (show (!decide (f = endE (s.es.take i) s.l2 2)) = true from h6)
        rw [hbad (by unfold Sta.eOK; rw [← hx, show decide (f = endE (s.es.take i) (s.lo 2) 2) = false from decide_eq_false h6]; simp)]
        exact And.intro trivial (AVle.refl _)
      have h6 : f = endE (s.es.take i) s.l2 2 := by simpa using (show (!decide (f = endE (s.es.take i) s.l2 2)) = false from h6)
      refine PCallC.sca _ (l06In_fn ((s.es.take i).map (fun e : En => e.key)) (by simp; omega) key) rfl ?_
      refine Grd.intro (fun h7 => ?_) (fun h7 => ?_)
      · have h7 : decide (key ∈ (s.es.take i).map (·.key)) = true := h7
        rw [hbad (by unfold Sta.eOK; rw [← hx, show decide (key ∈ (s.es.take i).map (·.key)) = true from h7]; simp)]
        exact And.intro trivial (AVle.refl _)
      have h7 : decide (key ∈ (s.es.take i).map (·.key)) = false := h7
      have hgood : s.eOK i = true := by
        unfold Sta.eOK; rw [h5, ← hx, show decide (f = endE (s.es.take i) (s.lo 2) 2) = true from decide_eq_true h6, show decide (key ∈ (s.es.take i).map (·.key)) = false from h7]; rfl
      refine And.intro ⟨show (0 : Int) ≤ 2 by omega, show (2 : Int) < ((3 : Nat) : Int) by omega⟩ ?_
      refine And.intro ⟨show (((s.es.take i).map (·.key)).length + 1) * 16 ≤ 140737488355328 by simp; omega, all1 rfl⟩ ?_
      refine And.intro (inI64 (by omega) (by omega)) ?_
      refine ⟨i + 1, ⟨hin, fun j hj => ?_⟩, by omega, [(0, 0), (1, 1), (31, 2)], rfl, rfl, ⟨AVle.refl _, AVle.refl _, AVle.refl _, AVle.of_eq (congrArg (AV.int .i64) (by simp)), trivial⟩, ⟨MOle.refl _, MOle.box (AVsle.cons (AVle.of_eq (congrArg (AV.int .i64) (show endE (s.es.take i) s.l0 0 = _ by rw [hend0, if_neg (by rw [← hx]; exact (show ¬ ((2 : Int) = 0) by decide))]))) (AVsle.cons (AVle.of_eq (congrArg (AV.int .i64) (show endE (s.es.take i) s.l1 1 = _ by rw [hend1, if_neg (by rw [← hx]; exact (show ¬ ((2 : Int) = 1) by decide))]))) (AVsle.cons (AVle.of_eq (congrArg (AV.int .i64) (show t = _ by rw [hend2, if_pos (by rw [← hx]), ← hx]))) AVsle.nil))), arr_next (f := fun x => [.str (B x)]) (map_take_snoc hin) (show [AV.str (B key)] = _ by rw [← hx]), trivial⟩⟩
      rcases Nat.lt_or_ge j i with h' | h'
      · exact hall j h'
      · rw [show j = i by omega]; exact hgood
  have : i = s.es.length := by have := of_decide_eq_false h4; omega
  subst this
  rw [List.take_of_length_le (Nat.le_refl _)]
  have h6 : allN s.es.length s.eOK = true := List.all_eq_true.2 fun x hx => hall x (by simpa using hx)
  refine LoopC.mk (fun i : Nat => i ≤ s.ts.length ∧ ∀ j, j < i → s.tOK j = true) (fun i => [(1, .bptr 0 0), (3, .bptr 1 0), (4, .osl 2), (7, .int .i64 i)])
    (fun i => [(0, .box s.row), (1, .box [.int .i64 (endE s.es s.l0 0), .int .i64 (endE s.es s.l1 1), .int .i64 (endE s.es s.l2 2)]), (2, .arr 9 1 (s.es.map (·.key) ++ (s.ts.take i).map (·.key)).length fun j => [.str (B (ix (s.es.map (·.key) ++ (s.ts.take i).map (·.key)) j))])]) 3 (fun i => s.ts.length - i) 0
    ⟨⟨Nat.zero_le _, fun j hj => absurd hj (Nat.not_lt_zero j)⟩, [(0, 0), (1, 1), (2, 2)], rfl, rfl, ⟨AVle.refl _, AVle.refl _, AVle.refl _, AVle.refl _, trivial⟩, ⟨MOle.refl _, MOle.refl _, MOle.of_eq (show MO.arr 9 1 (s.es.map (·.key)).length (fun j => [.str (B (ix (s.es.map (·.key)) j))]) = _ by simp), trivial⟩⟩ ?_
  intro i hi2
  obtain ⟨hi2, hall2⟩ := hi2
  refine Grd.intro (fun h7 => ?_) (fun h7 => ?_)
  · have hin : i < s.ts.length := by have := of_decide_eq_true h7; omega
    have hmem := getD_mem hin
    have hbad : s.tOK i = false → s.ok' = false := fun h => by
      have : allN s.ts.length s.tOK = false := by
        rw [← Bool.not_eq_true]; intro h'
        rw [List.all_eq_true.1 h' i (by simpa using hin)] at h; cases h
      unfold Sta.ok'; rw [h1, h2, decide_eq_true h3, h6, this]; rfl
    refine And.intro (by omega) ?_
    conv => whnf
    refine CallC.sca _ (l03ToKey_fn (ix s.ts i).key (hk2 _ hmem)) ?_ ?_
    · exact rfl
    refine DrawC.mk 24 rfl (by kernel_rfl) ?_
    refine Grd.intro (fun h8 => ?_) (fun h8 => ?_)
    · rw [hbad (by unfold Sta.tOK tbOK; rw [show kOk (ix s.ts i).key = false by simpa using (show (!kOk (ix s.ts i).key) = true from h8)]; rfl)]
      exact And.intro trivial (AVle.refl _)
    have h8 : kOk (ix s.ts i).key = true := by simpa using (show (!kOk (ix s.ts i).key) = false from h8)
    refine And.intro (by omega) ?_
    refine PCallC.sca _ (l01In_fn (ix s.ts i).seq 1 s.seq) rfl ?_
    refine Grd.intro (fun h9 => ?_) (fun h9 => ?_)
    · rw [hbad (by unfold Sta.tOK tbOK; rw [show within (ix s.ts i).seq 1 s.seq = false by simpa using (show (!within (ix s.ts i).seq 1 s.seq) = true from h9)]; simp)]
      exact And.intro trivial (AVle.refl _)
    have h9 : within (ix s.ts i).seq 1 s.seq = true := by simpa using (show (!within (ix s.ts i).seq 1 s.seq) = false from h9)
    refine And.intro (by omega) ?_
    refine PCallC.sca _ (l06In_fn (s.es.map (fun e : En => e.key) ++ (s.ts.take i).map (fun e : Tb => e.key)) (by simp; omega) (ix s.ts i).key) rfl ?_
    refine Grd.intro (fun h10 => ?_) (fun h10 => ?_)
    · have h10 : decide ((ix s.ts i).key ∈ s.es.map (·.key) ++ (s.ts.take i).map (·.key)) = true := h10
      rw [hbad (by unfold Sta.tOK; rw [h10]; simp)]
      exact And.intro trivial (AVle.refl _)
    have h10 : decide ((ix s.ts i).key ∈ s.es.map (·.key) ++ (s.ts.take i).map (·.key)) = false := h10
    have hgood : s.tOK i = true := by unfold Sta.tOK tbOK; rw [h8, h9, h10]; rfl
    refine And.intro (by omega) ?_
    refine And.intro ⟨show ((s.es.map (fun e : En => e.key) ++ (s.ts.take i).map (fun e : Tb => e.key)).length + 1) * 16 ≤ 140737488355328 by simp; omega, all1 rfl⟩ ?_
    refine And.intro (inI64 (by omega) (by omega)) ?_
    refine ⟨i + 1, ⟨hin, fun j hj => ?_⟩, by omega, [(0, 0), (1, 1), (28, 2)], rfl, rfl, ⟨AVle.refl _, AVle.refl _, AVle.refl _, AVle.of_eq (congrArg (AV.int .i64) (by simp)), trivial⟩, ⟨MOle.refl _, MOle.refl _, arr_next (f := fun x => [.str (B x)]) (x := (ix s.ts i).key) (show s.es.map (fun e : En => e.key) ++ (s.ts.take (i + 1)).map (fun e : Tb => e.key) = (s.es.map (fun e : En => e.key) ++ (s.ts.take i).map (fun e : Tb => e.key)) ++ [(ix s.ts i).key] by rw [map_take_snoc hin, List.append_assoc]) rfl, trivial⟩⟩
    rcases Nat.lt_or_ge j i with h' | h'
    · exact hall2 j h'
    · rw [show j = i by omega]; exact hgood
  have : i = s.ts.length := by have := of_decide_eq_false h7; omega
  subst this
  have h8 : allN s.ts.length s.tOK = true := List.all_eq_true.2 fun x hx => hall2 x (by simpa using hx)
  have hok : s.ok' = ((within s.l0 0 100000 && decide (s.h0 = endE s.es s.l0 0)) && ((within s.l1 0 100000 && decide (s.h1 = endE s.es s.l1 1)) && (within s.l2 0 100000 && decide (s.h2 = endE s.es s.l2 2)))) := by
    unfold Sta.ok'; rw [h1, h2, decide_eq_true h3, h6, h8]; rfl
  refine LoopC.rounds 4 ?_
  refine DrawC.mk 16 rfl (by kernel_rfl) ?_
  refine And.intro ⟨by omega, by show (0 : Int) < ((3 : Nat) : Int); omega⟩ ?_
  refine PCallC.sca _ (l01In_fn s.l0 0 100000) rfl ?_
  refine Grd.intro (fun g1 => ?_) (fun g1 => ?_)
  · rw [show s.ok' = false by rw [hok, show within s.l0 0 100000 = false by simpa using (show (!within s.l0 0 100000) = true from g1)]; rfl]
    exact And.intro trivial (AVle.refl _)
  have g1 : within s.l0 0 100000 = true := by simpa using (show (!within s.l0 0 100000) = false from g1)
  refine And.intro ⟨by omega, by show (0 : Int) < ((3 : Nat) : Int); omega⟩ ?_
  refine And.intro ⟨by omega, by show (0 : Int) < ((3 : Nat) : Int); omega⟩ ?_
  refine Grd.intro (fun g2 => ?_) (fun g2 => ?_)
  · have g2 : ¬ s.h0 = endE s.es s.l0 0 := by simpa using (show (!decide (s.h0 = endE s.es s.l0 0)) = true from g2)
    rw [show s.ok' = false by rw [hok, g1, decide_eq_false g2]; rfl]
    exact And.intro trivial (AVle.refl _)
  have g2 : s.h0 = endE s.es s.l0 0 := by simpa using (show (!decide (s.h0 = endE s.es s.l0 0)) = false from g2)
  have r0 : (within s.l0 0 100000 && decide (s.h0 = endE s.es s.l0 0)) = true := by rw [g1, decide_eq_true g2]; rfl
  refine And.intro (inI64 (by omega) (by omega)) ?_
  clear g1 g2
  refine DrawC.mk 16 rfl (by kernel_rfl) ?_
  refine And.intro ⟨by omega, by show (1 : Int) < ((3 : Nat) : Int); omega⟩ ?_
  refine PCallC.sca _ (l01In_fn s.l1 0 100000) rfl ?_
  refine Grd.intro (fun g1 => ?_) (fun g1 => ?_)
  · rw [show s.ok' = false by rw [hok, r0, show within s.l1 0 100000 = false by simpa using (show (!within s.l1 0 100000) = true from g1)]; rfl]
    exact And.intro trivial (AVle.refl _)
  have g1 : within s.l1 0 100000 = true := by simpa using (show (!within s.l1 0 100000) = false from g1)
  refine And.intro ⟨by omega, by show (1 : Int) < ((3 : Nat) : Int); omega⟩ ?_
  refine And.intro ⟨by omega, by show (1 : Int) < ((3 : Nat) : Int); omega⟩ ?_
  refine Grd.intro (fun g2 => ?_) (fun g2 => ?_)
  · have g2 : ¬ s.h1 = endE s.es s.l1 1 := by simpa using (show (!decide (s.h1 = endE s.es s.l1 1)) = true from g2)
    rw [show s.ok' = false by rw [hok, r0, g1, decide_eq_false g2]; rfl]
    exact And.intro trivial (AVle.refl _)
  have g2 : s.h1 = endE s.es s.l1 1 := by simpa using (show (!decide (s.h1 = endE s.es s.l1 1)) = false from g2)
  have r1 : (within s.l1 0 100000 && decide (s.h1 = endE s.es s.l1 1)) = true := by rw [g1, decide_eq_true g2]; rfl
  refine And.intro (inI64 (by omega) (by omega)) ?_
  clear g1 g2
  refine DrawC.mk 16 rfl (by kernel_rfl) ?_
  refine And.intro ⟨by omega, by show (2 : Int) < ((3 : Nat) : Int); omega⟩ ?_
  refine PCallC.sca _ (l01In_fn s.l2 0 100000) rfl ?_
  refine Grd.intro (fun g1 => ?_) (fun g1 => ?_)
  · rw [show s.ok' = false by rw [hok, r0, r1, show within s.l2 0 100000 = false by simpa using (show (!within s.l2 0 100000) = true from g1)]; rfl]
    exact And.intro trivial (AVle.refl _)
  have g1 : within s.l2 0 100000 = true := by simpa using (show (!within s.l2 0 100000) = false from g1)
  refine And.intro ⟨by omega, by show (2 : Int) < ((3 : Nat) : Int); omega⟩ ?_
  refine And.intro ⟨by omega, by show (2 : Int) < ((3 : Nat) : Int); omega⟩ ?_
  refine Grd.intro (fun g2 => ?_) (fun g2 => ?_)
  · have g2 : ¬ s.h2 = endE s.es s.l2 2 := by simpa using (show (!decide (s.h2 = endE s.es s.l2 2)) = true from g2)
    rw [show s.ok' = false by rw [hok, r0, r1, g1, decide_eq_false g2]; rfl]
    exact And.intro trivial (AVle.refl _)
  have g2 : s.h2 = endE s.es s.l2 2 := by simpa using (show (!decide (s.h2 = endE s.es s.l2 2)) = false from g2)
  have r2 : (within s.l2 0 100000 && decide (s.h2 = endE s.es s.l2 2)) = true := by rw [g1, decide_eq_true g2]; rfl
  refine And.intro (inI64 (by omega) (by omega)) ?_
  clear g1 g2
  rw [show s.ok' = true by rw [hok, r0, r1, r2]; rfl]
  exact And.intro trivial (AVle.refl _)
end Go.Proofs.YtopkjoalbinljaaGreatDoor
