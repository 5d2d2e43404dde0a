/- Contracts of functions that the claim reaches, and the plain law of what they compute; each theorem bears its own conditions. -/
import Derived.Test.YtijokkaeofagoaaGreatDoorQ7
import Derived.Test.YtijokkaeofagoaaGreatDoorQ5
import Derived.Test.YtijokkaeofagoaaGreatDoorQ8
import Derived.Test.YtijokkaeofagoaaGreatDoorQ4
import Derived.Test.YtijokkaeofagoaaGreatDoorQ10
set_option linter.unusedVariables false
set_option linter.constructorNameAsVariable false
set_option linter.unusedSimpArgs false
set_option maxRecDepth 20000
namespace Go.Proofs.YtijokkaeofagoaaGreatDoor
open Go Go.Vw

theorem tick_staOK {s : Sta} (h : StaOK s) (hq : s.seq < 999999) : StaOK s.tick :=
  ⟨by have := h.q; exact ⟨show 0 ≤ s.seq + 1 by omega, show s.seq + 1 ≤ 999999 by omega⟩, h.f, h.len, h.es, fun t ht => by have := h.ts t ht; exact ⟨this.1, this.2.1, show t.seq ≤ s.seq + 1 by omega⟩, h.nd, h.lo, h.runs⟩
theorem logN_staOK (x : Sto) : ∀ n : Nat, n ≤ 400 → StaOK (logN x n)
  | 0, _ => staOK0
  | n + 1, hn => by
    have ih := logN_staOK x n (by omega)
    have hs := logN_seq x n
    have hl := logN_len x n
    show StaOK (stepL x (logN x n))
    unfold stepL
    split
    · exact tick_staOK ih (by omega)
    · rename_i r hr
      exact app_staOK ih (readR_ok hr) (by omega) (by omega)
theorem logS_ok (x : Sto) : (logS x).ok = true := (staOK_iff _).2 (logN_staOK x _ (log_b x).2.1)
def restC (x : Sta) (st : Sto) (now : Int) : Bool := !(!decide (dueT x.h0 x.h1 x.h2 = 0)) && (!(expR x now).2 && (decide (((x.ts.length : Nat) : Int) = 0) && decide (((((dataKs st).filter x.orph).length : Nat) : Int) = 0)))
def atRest (s : Fl) : Bool := restC (logS s.st) s.st (s.clk - 3)
theorem Fl.ok_c {s : Fl} (h : s.ok = true) : s.st.ok = true ∧ 3 ≤ s.clk ∧ s.clk ≤ 100000 := by
  have h2 := (Fl.ok_cons h).1
  simp only [Fl.ok, Bool.and_eq_true] at h
  have := within_iff h2
  exact ⟨h.1, this.1, this.2⟩
theorem logS_kl (x : Sto) : (∀ e ∈ (logS x).es, e.key.length ≤ 1000000000) ∧ (∀ e ∈ (logS x).ts, e.key.length ≤ 1000000000) := by
  have hk := (log_b x).2.2.2.kk
  refine ⟨fun e he => ?_, fun e he => ?_⟩
  · have := key_len (hk e.key (List.mem_append.2 (.inl (List.mem_map.2 ⟨e, he, rfl⟩))))
    omega
  · have := key_len (hk e.key (List.mem_append.2 (.inr (List.mem_map.2 ⟨e, he, rfl⟩))))
    omega
theorem AtRest_fn (s : Fl) (hS : s.small) : VFn Tryz.prog 11 [s.av] (.tup [.bool (s.ok && atRest s), .int .i64 (if s.ok then 0 else 1)]) := by
  have c := FleetOK_fn s hS
  by_cases ho : s.ok = true
  · skip
    obtain ⟨h1, k1, k2⟩ := Fl.ok_c ho
    have hx := logS_ok s.st
    have hb := log_b s.st
    have hkl := logS_kl s.st
    obtain ⟨b0, b1, b2⟩ := Sta.hi_b hx
    have hos := (Sto.ok_at h1).2.1
    have hdk : (dataKs s.st).length ≤ s.st.os.length := Nat.le_trans (List.length_filter_le _ _) (by simp)
    have hsk := hS.sk
    have c2 := log_fn s.st h1
    have c3 := due_fn (logS s.st) (by omega) (by omega) (by omega)
    have c4 := expired_fn (logS s.st) (s.clk - 3) (by omega) hx
    have c5 := dataKeys_fn s.st (by omega)
    have c6 := orphans_fn (logS s.st) (by omega) (by omega) (dataKs s.st) (by omega)
    rw [ho] at c ⊢
    unfold atRest restC
    clear hx hb b0 b1 b2 hdk hkl
    generalize (dataKs s.st).filter (logS s.st).orph = L at c6 ⊢
    generalize dataKs s.st = K at c5 c6
    generalize expR (logS s.st) (s.clk - 3) = q at c4 ⊢
    obtain ⟨e, b⟩ := q
    generalize decide (dueT (logS s.st).h0 (logS s.st).h1 (logS s.st).h2 = 0) = d at c3 ⊢
    generalize dueT (logS s.st).h0 (logS s.st).h1 (logS s.st).h2 = T at c3
    generalize dueF (logS s.st).h0 (logS s.st).h1 (logS s.st).h2 = F at c3
    generalize logS s.st = x at c2 c3 c4 c6 ⊢
    obtain ⟨x1, x2, es, ts, x3, x4, x5, x6, x7, x8⟩ := x
    cases d <;> cases b <;> cases ts
    all_goals
      refine VFn.introC Tryz.call11 Tryz.func11 rfl rfl ?_
      conv => whnf
      refine CallC.sca _ (c) ?_ ?_
      · exact rfl
      conv => whnf
      refine CallC.nl _ (c2) ?_ ?_
      · exact rfl
      conv => whnf
      refine CallC.sca _ (c3) ?_ ?_
      · exact rfl
      refine And.intro (inI64 (by omega) (by omega)) ?_
      conv => whnf
      refine CallC.sca _ (c4) ?_ ?_
      · exact rfl
      refine DrawC.mk 23 rfl (by kernel_rfl) ?_
      try (refine PCallC.nl _ c5 rfl ?_)
      try (refine PCallC.nl _ c6 rfl ?_)
      exact And.intro trivial (AVle.refl _)
  · have ho : s.ok = false := by simpa using ho
    rw [ho] at c ⊢
    refine VFn.introC Tryz.call11 Tryz.func11 rfl rfl ?_
    conv => whnf
    refine CallC.sca _ (c) ?_ ?_
    · exact rfl
    exact And.intro trivial (AVle.refl _)
theorem l14Rest_fn (s : Fl) (hS : s.small) (ho : s.ok = true) : VFn Tryz.prog 36 [s.av] (.bool (atRest s)) := by
  · skip
    obtain ⟨h1, k1, k2⟩ := Fl.ok_c ho
    have hx := logS_ok s.st
    have hb := log_b s.st
    have hkl := logS_kl s.st
    obtain ⟨b0, b1, b2⟩ := Sta.hi_b hx
    have hos := (Sto.ok_at h1).2.1
    have hdk : (dataKs s.st).length ≤ s.st.os.length := Nat.le_trans (List.length_filter_le _ _) (by simp)
    have hsk := hS.sk
    have c2 := l06Replay_fn s.st h1
    have c3 := l07Due_fn (logS s.st) (by omega) (by omega) (by omega)
    have c4 := l07Expired_fn (logS s.st) (s.clk - 3) (by omega) hx
    have c5 := l11Keys_fn s.st (by omega) (fun o ho => by have := hsk o ho; omega)
    have c6 := l07Orphans_fn (logS s.st) (by omega) (by omega) (dataKs s.st) (by omega) (fun k hk => by
      obtain ⟨o, ho, rfl⟩ := List.mem_map.1 (List.mem_filter.1 hk).1
      have := hsk o ho; omega)
    unfold atRest restC
    clear hx hb b0 b1 b2 hdk hkl
    generalize (dataKs s.st).filter (logS s.st).orph = L at c6 ⊢
    generalize dataKs s.st = K at c5 c6
    generalize expR (logS s.st) (s.clk - 3) = q at c4 ⊢
    obtain ⟨e, b⟩ := q
    generalize decide (dueT (logS s.st).h0 (logS s.st).h1 (logS s.st).h2 = 0) = d at c3 ⊢
    generalize dueT (logS s.st).h0 (logS s.st).h1 (logS s.st).h2 = T at c3
    generalize dueF (logS s.st).h0 (logS s.st).h1 (logS s.st).h2 = F at c3
    generalize logS s.st = x at c2 c3 c4 c6 ⊢
    obtain ⟨x1, x2, es, ts, x3, x4, x5, x6, x7, x8⟩ := x
    cases d <;> cases b <;> cases ts
    all_goals
      refine VFn.introC Tryz.call36 Tryz.func36 rfl rfl ?_
      conv => whnf
      refine CallC.nl _ (c2) ?_ ?_
      · exact rfl
      conv => whnf
      refine CallC.sca _ (c3) ?_ ?_
      · exact rfl
      refine And.intro (inI64 (by omega) (by omega)) ?_
      conv => whnf
      refine CallC.sca _ (c4) ?_ ?_
      · exact rfl
      refine DrawC.mk 22 rfl (by kernel_rfl) ?_
      try (refine PCallC.nl _ c5 rfl ?_)
      try (refine PCallC.nl _ c6 rfl ?_)
      exact And.intro trivial (AVle.refl _)
theorem specAtRest_fn (s : Fl) (hS : s.small) (hI : -9223372036854775808 ≤ s.st.next ∧ s.st.next ≤ 9223372036854775807) : VFn Tryz.prog 10 [s.av] (.tup [.bool (s.ok && atRest s), .int .i64 (if s.ok then 0 else 1)]) := by
  have c := specFleetOK_fn s hS hI
  by_cases ho : s.ok = true
  · have c2 := l14Rest_fn s hS ho
    rw [ho] at c ⊢
    refine VFn.introC Tryz.call10 Tryz.func10 rfl rfl ?_
    conv => whnf
    refine CallC.sca _ (c) ?_ ?_
    · exact rfl
    conv => whnf
    refine CallC.sca _ (c2) ?_ ?_
    · exact rfl
    exact And.intro trivial (AVle.refl _)
  · have ho : s.ok = false := by simpa using ho
    rw [ho] at c ⊢
    refine VFn.introC Tryz.call10 Tryz.func10 rfl rfl ?_
    conv => whnf
    refine CallC.sca _ (c) ?_ ?_
    · exact rfl
    exact And.intro trivial (AVle.refl _)
theorem law_AtRest (s : Fl) (h : FlIn s) : VFn Tryz.prog 4 [s.av] (.bool true) := by
  by_cases hf : (flN s : Int) ≤ 1048576
  · have hs := Fl.small_of hf
    have c1 := specAtRest_fn s hs h.nx
    have c2 := AtRest_fn s hs
    generalize s.ok = b at c1 c2
    generalize atRest s = d at c1 c2
    cases b <;> cases d
    all_goals
      refine VFn.introC Tryz.call4 Tryz.func4 rfl rfl ?_
      conv => whnf
      refine CallC.sca _ (szFleet_fn s 1048576 (by decide) (by decide) h) ?_ ?_
      · exact rfl
      rw [szr_yes hf]
      refine Grd.intro (fun h => absurd (of_decide_eq_true h) (by omega)) (fun _ => ?_)
      conv => whnf
      refine CallC.nl _ (toFleet_fn s hs) ?_ ?_
      · exact rfl
      conv => whnf
      refine CallC.sca _ (c1) ?_ ?_
      · exact rfl
      conv => whnf
      refine CallC.nl _ (toFleet_fn s hs) ?_ ?_
      · exact rfl
      conv => whnf
      refine CallC.sca _ (c2) ?_ ?_
      · exact rfl
      conv => whnf
      refine OpC.bneq rfl rfl rfl rfl rfl ?_
      conv => whnf
      refine DrawC.mk 5 rfl (by kernel_rfl) ?_
      refine PCallC.nl _ (toFleet_fn s hs) rfl ?_
      refine PCallC.sca _ (eqFleet_fn s hs) rfl ?_
      exact And.intro trivial (AVle.refl _)
  · refine VFn.introC Tryz.call4 Tryz.func4 rfl rfl ?_
    conv => whnf
    refine CallC.sca _ (szFleet_fn s 1048576 (by decide) (by decide) h) ?_ ?_
    · exact rfl
    rw [szr_no hf]
    exact And.intro trivial (AVle.refl _)
end Go.Proofs.YtijokkaeofagoaaGreatDoor
