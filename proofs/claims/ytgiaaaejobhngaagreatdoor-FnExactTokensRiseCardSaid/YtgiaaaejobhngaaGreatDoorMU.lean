/- laws.FnExactTokensRise. The conditions are the theorems' own. -/
import Derived.Test.YtgiaaaejobhngaaGreatDoorQ10
import Derived.Test.YtgiaaaejobhngaaGreatDoorQ3
import Derived.Test.YtgiaaaejobhngaaGreatDoorV43
set_option linter.unusedVariables false
set_option linter.constructorNameAsVariable false
set_option linter.unusedSimpArgs false
set_option maxRecDepth 20000
namespace Go.Proofs.YtgiaaaejobhngaaGreatDoor
open Go Go.Vw

theorem rise1_fn (r : Rc) (took : Bool) (l : Int) (b : Bool) : FnM Tryz.prog 90 2 [r.av, .bool took, .bptr 0 0, .bptr 1 0] [(0, .box [.bool b]), (1, .box [.int .i64 l])] (.tup []) [(0, .box [.bool (riseS (l, b) r took).2]), (1, .box [.int .i64 (riseS (l, b) r took).1])] 2 := by
  obtain ⟨R, hR⟩ : ∃ R, R = riseS (l, b) r took := ⟨_, rfl⟩
  rw [← hR]
  unfold riseS at hR
  cases took with
  | false =>
    rw [if_neg (by simp)] at hR
    subst hR
    refine FnM.introC Tryz.call90 Tryz.func90 rfl rfl ?_
    exact And.intro trivial ⟨[(0, 0), (1, 1)], rfl, AVle.refl _, ⟨MOle.refl _, MOle.refl _, trivial⟩⟩
  | true =>
    rw [if_pos rfl] at hR
    refine FnM.introC Tryz.call90 Tryz.func90 rfl rfl ?_
    refine Grd.intro (fun h1 => ?_) (fun h1 => ?_)
    · rw [if_pos (show r.k = 2 from of_decide_eq_true h1)] at hR
      subst hR
      cases b with
      | false => exact And.intro trivial ⟨[(0, 0), (1, 1)], rfl, AVle.refl _, ⟨MOle.refl _, MOle.refl _, trivial⟩⟩
      | true => exact And.intro trivial ⟨[(0, 0), (1, 1)], rfl, AVle.refl _, ⟨MOle.refl _, MOle.refl _, trivial⟩⟩
    · rw [if_neg (show ¬ r.k = 2 from of_decide_eq_false h1)] at hR
      refine Grd.intro (fun h2 => ?_) (fun h2 => ?_)
      · rw [if_pos (show r.k = 3 ∨ r.k = 4 from .inl (of_decide_eq_true h2))] at hR
        subst hR
        refine Grd.intro (fun _ => ?_) (fun h => absurd ((show decide (r.k = 3) = false from h).symm.trans h2) (by simp))
        cases b with
        | false =>
          conv => whnf
          exact And.intro trivial ⟨[(0, 0), (1, 1)], rfl, AVle.refl _, ⟨MOle.refl _, MOle.refl _, trivial⟩⟩
        | true =>
          conv => whnf
          exact And.intro trivial ⟨[(0, 0), (1, 1)], rfl, AVle.refl _, ⟨MOle.refl _, MOle.refl _, trivial⟩⟩
      · refine Grd.intro (fun h3 => ?_) (fun h3 => ?_)
        · rw [if_pos (show r.k = 3 ∨ r.k = 4 from .inr (of_decide_eq_true h3))] at hR
          subst hR
          cases b with
          | false =>
            conv => whnf
            exact And.intro trivial ⟨[(0, 0), (1, 1)], rfl, AVle.refl _, ⟨MOle.refl _, MOle.refl _, trivial⟩⟩
          | true =>
            conv => whnf
            exact And.intro trivial ⟨[(0, 0), (1, 1)], rfl, AVle.refl _, ⟨MOle.refl _, MOle.refl _, trivial⟩⟩
        · rw [if_neg (show ¬ (r.k = 3 ∨ r.k = 4) from fun h => by rcases h with h | h; exact of_decide_eq_false h2 h; exact of_decide_eq_false h3 h)] at hR
          subst hR
          exact And.intro trivial ⟨[(0, 0), (1, 1)], rfl, AVle.refl _, ⟨MOle.refl _, MOle.refl _, trivial⟩⟩
def sta0n : AV := .agg sta0.nrow
theorem nrow_le : AVsle sta0.nrow sta0.row := AVsle.cons (AVle.refl _) (AVsle.cons (AVle.refl _) (AVsle.cons (AVle.nilsl _ _ rfl) (AVsle.cons (AVle.nilsl _ _ rfl) (AVsle.refl _))))
theorem rise_next {x : Sto} {i : Nat} {r : Rc} (hr : recAt x ((i : Int) + 1) = some r) : riseN x (i + 1) = riseS (riseN x i) r ((logN x i).takes r) := by
  show (match recAt x ((i : Int) + 1) with | none => _ | some r => _) = _
  rw [hr]
theorem rise_skip {x : Sto} {i : Nat} (hr : recAt x ((i : Int) + 1) = none) : riseN x (i + 1) = riseN x i := by
  show (match recAt x ((i : Int) + 1) with | none => _ | some r => _) = _
  rw [hr]
theorem replay_rise (x : Sto) (hs : x.ok = true) :
    FnM Tryz.prog 89 2 [x.av, .fn (.func 90) [] [.bptr 0 0, .bptr 1 0]] [(0, .box [.bool true]), (1, .box [.int .i64 0])] .any [(0, .box [.bool (riseN x (logEnd x)).2]), (1, .box [.int .i64 (riseN x (logEnd x)).1])] 2 := by
  have hL := (Sto.ok_at hs).2.1
  refine FnM.introC Tryz.call89 Tryz.func89 rfl rfl ?_
  refine LoopC.mk (fun i : Nat => ∀ j, j < i → x.has (manK ((j + 1 : Nat) : Int)) = true) (fun i => [(1, .fn (.func 90) [] [.bptr 0 0, .bptr 1 0]), (2, .bptr 2 0), (4, .bptr 3 0), (5, .bptr 4 0)])
    (fun i => [(0, .box [.bool (riseN x i).2]), (1, .box [.int .i64 (riseN x i).1]), (2, .box x.row), (3, .box sta0.nrow), (4, .box (logN x i).row)]) 5 (fun i => 1000 - i) 0
    ⟨fun j hj => absurd hj (Nat.not_lt_zero j), [(0, 0), (1, 1), (2, 2), (3, 3), (4, 4)], rfl, rfl, ⟨AVle.refl _, AVle.refl _, AVle.refl _, AVle.refl _, trivial⟩, ⟨MOle.refl _, MOle.refl _, MOle.refl _, MOle.refl _, MOle.box nrow_le, trivial⟩⟩ ?_
  intro i hi
  have hi3 : i ≤ 300 := by
    rcases Nat.lt_or_ge 300 i with h | h
    · have := log_len (x := x) (n := 301) (by omega) (fun j hj => hi j (by omega)); omega
    · exact h
  obtain ⟨st, hst⟩ : ∃ st, logN x i = st := ⟨_, rfl⟩
  have hseq := logN_seq x i
  have hlen := logN_len x i
  have hlog := logN_log x i
  rw [hst] at hseq hlen hlog ⊢
  refine Grd.intro (fun h2 => ?_) (fun h2 => absurd (of_decide_eq_false h2) (fun h => h (by omega)))
  have cg := get_fn x hs (manK (st.seq + 1))
  by_cases hh : x.has (manK (st.seq + 1)) = true
  · rw [if_pos hh] at cg
    refine DrawC.mk 12 rfl (by kernel_rfl) ?_
    refine And.intro (inI64 (by omega) (by omega)) ?_
    conv => whnf
    refine PCallC.sca _ (six_fn (st.seq + 1) (by simp [within]; omega)) rfl ?_
    conv => whnf
    refine And.intro (show ((4 + (B (six6 (st.seq + 1).toNat)).size : Nat) : Int) ≤ 9223372036854775807 by rw [B_size, six6_len]; decide) ?_
    refine force_to (congrArg AV.str (show B [109, 97, 110, 47] ++ B (six6 (st.seq + 1).toNat) = B (manK (st.seq + 1)) from B_app _ _)) ?_
    conv => whnf
    refine PCallC.sca _ (cg) rfl ?_
    have hd := (get_ok x hs _ hh).1
    have hh' : x.has (manK ((i : Int) + 1)) = true := by rw [← hseq]; exact hh
    cases hr : readR (x.get (manK (st.seq + 1))).data with
    | none =>
      obtain ⟨r, cr⟩ := readRecord_no _ (by omega) hr
      conv => whnf
      refine CallC.sca _ (cr) ?_ ?_
      · exact rfl
      refine And.intro (inI64 (by omega) (by omega)) ?_
      have hrec : recAt x ((i : Int) + 1) = none := by unfold recAt; rw [← hseq]; exact hr
      have e := logN_no hst hrec
      have e2 := rise_skip hrec
      exact ⟨i + 1, has_next hi hh', by omega, [(0, 0), (1, 1), (2, 2), (3, 3), (4, 4)], rfl, rfl, ⟨AVle.refl _, AVle.refl _, AVle.refl _, AVle.refl _, trivial⟩, ⟨MOle.of_eq (show MO.box [.bool (riseN x i).2] = _ by rw [e2]), MOle.of_eq (show MO.box [.int .i64 (riseN x i).1] = _ by rw [e2]), MOle.refl _, MOle.refl _, MOle.of_eq (show MO.box st.tick.row = _ by rw [e]), trivial⟩⟩
    | some r =>
      have hrk := readR_ok hr
      conv => whnf
      refine CallC.sca _ (readRecord_yes _ (by omega) hr) ?_ ?_
      · exact rfl
      conv => whnf
      refine CallC.nl _ (apply_frz st (by omega) (by omega) r hrk) ?_ ?_
      · exact rfl
      conv => whnf
      have hrec : recAt x ((i : Int) + 1) = some r := by unfold recAt; rw [← hseq]; exact hr
      have e := logN_yes hst hrec
      have e2 := rise_next hrec
      rw [hst] at e2
      refine CallC.k [(0, 0), (1, 1)] (rise1_fn r (st.takes r) (riseN x i).1 (riseN x i).2) rfl rfl (AVsle.refl _) ⟨MOle.refl _, MOle.refl _, trivial⟩ rfl ?_
      exact ⟨i + 1, has_next hi hh', by omega, [(0, 0), (1, 1), (2, 2), (3, 3), (4, 4)], rfl, rfl, ⟨AVle.refl _, AVle.refl _, AVle.refl _, AVle.refl _, trivial⟩, ⟨MOle.of_eq (show MO.box [.bool (riseS (riseN x i) r (st.takes r)).2] = _ by rw [e2]), MOle.of_eq (show MO.box [.int .i64 (riseS (riseN x i) r (st.takes r)).1] = _ by rw [e2]), MOle.refl _, MOle.refl _, MOle.of_eq (show MO.box (st.app r).row = _ by rw [e]), trivial⟩⟩
  · have hh : x.has (manK (st.seq + 1)) = false := by simpa using hh
    rw [if_neg (by rw [hh]; simp)] at cg
    have e : i = logEnd x := log_end hs hi3 hi (by rw [hseq] at hh; exact hh)
    refine DrawC.mk 12 rfl (by kernel_rfl) ?_
    refine And.intro (inI64 (by omega) (by omega)) ?_
    conv => whnf
    refine PCallC.sca _ (six_fn (st.seq + 1) (by simp [within]; omega)) rfl ?_
    conv => whnf
    refine And.intro (show ((4 + (B (six6 (st.seq + 1).toNat)).size : Nat) : Int) ≤ 9223372036854775807 by rw [B_size, six6_len]; decide) ?_
    refine force_to (congrArg AV.str (show B [109, 97, 110, 47] ++ B (six6 (st.seq + 1).toNat) = B (manK (st.seq + 1)) from B_app _ _)) ?_
    conv => whnf
    refine PCallC.sca _ (cg) rfl ?_
    exact And.intro trivial ⟨[(0, 0), (1, 1)], rfl, AVle.any _, ⟨MOle.of_eq (show MO.box [.bool (riseN x i).2] = _ by rw [e]), MOle.of_eq (show MO.box [.int .i64 (riseN x i).1] = _ by rw [e]), trivial⟩⟩
theorem kind_tok {r : Rc} (h : r.ok = true) : (r.tok = 0 → ¬ r.k = 2 ∧ ¬ (r.k = 3 ∨ r.k = 4)) ∧ (r.tok ≠ 0 → ¬ r.k = 2 → r.k = 3 ∨ r.k = 4) := by
  unfold Rc.ok at h
  by_cases h1 : r.k = 1
  · rw [if_pos h1] at h
    simp only [Bool.and_eq_true, decide_eq_true_eq] at h
    exact ⟨fun _ => by omega, fun g => absurd h.1 g⟩
  rw [if_neg h1] at h
  by_cases h2 : r.k = 2
  · rw [if_pos h2] at h
    simp only [Bool.and_eq_true, decide_eq_true_eq, within] at h
    exact ⟨fun g => by omega, fun _ g => absurd h2 g⟩
  rw [if_neg h2] at h
  by_cases h3 : r.k = 3
  · rw [if_pos h3] at h
    simp only [Bool.and_eq_true, decide_eq_true_eq, within] at h
    exact ⟨fun g => by omega, fun _ _ => .inl h3⟩
  rw [if_neg h3] at h
  by_cases h4 : r.k = 4
  · rw [if_pos h4] at h
    simp only [Bool.and_eq_true, decide_eq_true_eq, within] at h
    exact ⟨fun g => by omega, fun _ _ => .inr h4⟩
  rw [if_neg h4] at h
  by_cases h5 : r.k = 5
  · rw [if_pos h5] at h
    simp only [Bool.and_eq_true, decide_eq_true_eq] at h
    exact ⟨fun _ => by omega, fun g => absurd h.1 g⟩
  rw [if_neg h5] at h
  cases h
def trR (x : Sto) : Bool := (riseN x (logEnd x)).2
theorem TokensRise_yes (x : Sto) (hr : StoRd x) (hs : x.ok = true) : VFn Tryz.prog 28 [x.av] (.tup [.bool (trR x), .int .i64 0]) := by
  have c := StoreOK_fn x (by have := hr.len; omega) hr.key
  rw [hs] at c
  refine VFn.introC Tryz.call28 Tryz.func28 rfl rfl ?_
  conv => whnf
  refine CallC.sca _ (c) ?_ ?_
  · exact rfl
  conv => whnf
  refine CallC.k [(2, 0), (1, 1)] (replay_rise x hs) rfl rfl (AVsle.refl _) ⟨MOle.refl _, MOle.refl _, trivial⟩ rfl ?_
  exact And.intro trivial (AVle.refl _)
theorem TokensRise_no (x : Sto) (hr : StoRd x) (hs : x.ok = false) : VFn Tryz.prog 28 [x.av] (.tup [.bool false, .int .i64 1]) := by
  have c := StoreOK_fn x (by have := hr.len; omega) hr.key
  rw [hs] at c
  refine VFn.introC Tryz.call28 Tryz.func28 rfl rfl ?_
  conv => whnf
  refine CallC.sca _ (c) ?_ ?_
  · exact rfl
  exact And.intro trivial (AVle.refl _)
theorem specTokensRise_no (x : Sto) (hr : StoRd x) (hs : x.ok = false) : VFn Tryz.prog 26 [x.av] (.tup [.bool false, .int .i64 1]) := by
  have c := specStoreOK_ok x (by have := hr.len; omega) hr.key hr.nxt
  rw [hs] at c
  refine VFn.introC Tryz.call26 Tryz.func26 rfl rfl ?_
  conv => whnf
  refine CallC.sca _ (c) ?_ ?_
  · exact rfl
  exact And.intro trivial (AVle.refl _)
theorem specTokensRise_yes (x : Sto) (hr : StoRd x) (hs : x.ok = true) : VFn Tryz.prog 26 [x.av] (.tup [.bool (trR x), .int .i64 0]) := by
  have c := specStoreOK_ok x (by have := hr.len; omega) hr.key hr.nxt
  rw [hs] at c
  have hL := (Sto.ok_at hs).2.1
  refine VFn.introC Tryz.call26 Tryz.func26 rfl rfl ?_
  conv => whnf
  refine CallC.sca _ (c) ?_ ?_
  · exact rfl
  conv => whnf
  refine CallC.nl _ (l06Empty_fn) ?_ ?_
  · exact rfl
  refine LoopC.mk (fun i : Nat => (∀ j, j < i → x.has (manK ((j + 1 : Nat) : Int)) = true) ∧ (riseN x i).2 = true) (fun i => [(1, .bptr 0 0), (4, .bptr 1 0), (5, .int .i64 (riseN x i).1)])
    (fun i => [(0, .box x.row), (1, .box (logN x i).row)]) 2 (fun i => 1000 - i) 0
    ⟨⟨fun j hj => absurd hj (Nat.not_lt_zero j), rfl⟩, [(0, 0), (1, 1)], rfl, rfl, ⟨AVle.refl _, AVle.refl _, AVle.refl _, trivial⟩, ⟨MOle.refl _, MOle.refl _, trivial⟩⟩ ?_
  intro i hi
  obtain ⟨hi, hb⟩ := hi
  have hi3 : i ≤ 300 := by
    rcases Nat.lt_or_ge 300 i with h | h
    · have := log_len (x := x) (n := 301) (by omega) (fun j hj => hi j (by omega)); omega
    · exact h
  obtain ⟨st, hst⟩ : ∃ st, logN x i = st := ⟨_, rfl⟩
  obtain ⟨l, hl⟩ : ∃ l, (riseN x i).1 = l := ⟨_, rfl⟩
  have hri : riseN x i = (l, true) := by rw [← hl, ← hb]
  have hseq := logN_seq x i
  have hlen := logN_len x i
  have hlog := logN_log x i
  rw [hst] at hseq hlen hlog ⊢
  rw [hl]
  have cg := l01Get_fn x hs (manK (st.seq + 1))
  have ck := l06Key_at st.seq (by omega)
  by_cases hh : x.has (manK (st.seq + 1)) = true
  · rw [if_pos hh] at cg
    have hd := get_ok x hs _ hh
    refine DrawC.mk 11 rfl (by kernel_rfl) ?_
    refine And.intro (inI64 (by omega) (by omega)) ?_
    conv => whnf
    refine PCallC.sca _ (ck) rfl ?_
    conv => whnf
    refine PCallC.sca _ (cg) rfl ?_
    refine Grd.intro (fun h => absurd (of_decide_eq_true (p := (x.get (manK (st.seq + 1))).ver = 0) h) (by omega)) (fun _ => ?_)
    have hh' : x.has (manK ((i : Int) + 1)) = true := by rw [← hseq]; exact hh
    have hnx := has_next hi hh'
    have hge : i + 1 ≤ logEnd x := logEnd_ge (by omega) hnx
    cases hrd : readR (x.get (manK (st.seq + 1))).data with
    | none =>
      conv => whnf
      refine CallC.sca _ (l06Read_no _ (by omega) hrd) ?_ ?_
      · exact rfl
      refine And.intro (inI64 (by omega) (by omega)) ?_
      have hrec : recAt x ((i : Int) + 1) = none := by unfold recAt; rw [← hseq]; exact hrd
      have e := logN_no hst hrec
      have e2 := rise_skip hrec
      rw [hri] at e2
      exact ⟨i + 1, ⟨hnx, by rw [e2]⟩, by omega, [(0, 0), (1, 1)], rfl, rfl, ⟨AVle.refl _, AVle.refl _, AVle.of_eq (show AV.int .i64 l = _ by rw [e2]), trivial⟩, ⟨MOle.refl _, MOle.of_eq (show MO.box st.tick.row = _ by rw [e]), trivial⟩⟩
    | some r =>
      have hrk := readR_ok hrd
      obtain ⟨kt1, kt2⟩ := kind_tok hrk
      have hrec : recAt x ((i : Int) + 1) = some r := by unfold recAt; rw [← hseq]; exact hrd
      have e := logN_yes hst hrec
      have e2 := rise_next hrec
      rw [hst, hri] at e2
      have ca := l06Apply_fn st (by omega) (by omega) hlog.nd r hrk
      have stop : (riseN x (i + 1)).2 = false → AV.tup [.bool false, .int .i64 0] = .tup [.bool (trR x), .int .i64 0] := fun h => by
        unfold trR; rw [riseN_mono x _ _ hge h]
      have go : ∀ l', riseN x (i + 1) = (l', true) → (riseN x (i + 1)).2 = true ∧ AV.int .i64 l' = AV.int .i64 (riseN x (i + 1)).1 := fun l' h => by rw [h]; exact ⟨rfl, rfl⟩
      conv => whnf
      refine CallC.sca _ (l06Read_yes _ (by omega) hrd) ?_ ?_
      · exact rfl
      by_cases ht : st.takes r = true
      · rw [ht] at ca e2
        conv => whnf
        refine CallC.nl _ (ca) ?_ ?_
        · exact rfl
        unfold riseS at e2
        rw [if_pos rfl] at e2
        refine Grd.intro (fun g1 => ?_) (fun g1 => ?_)
        · obtain ⟨k1, k2⟩ := kt1 (of_decide_eq_true g1)
          rw [if_neg k1, if_neg k2] at e2
          obtain ⟨q1, q2⟩ := go _ e2
          exact ⟨i + 1, ⟨hnx, q1⟩, by omega, [(0, 0), (1, 1)], rfl, rfl, ⟨AVle.refl _, AVle.refl _, AVle.of_eq q2, trivial⟩, ⟨MOle.refl _, MOle.of_eq (show MO.box (st.app r).row = _ by rw [e]), trivial⟩⟩
        · have g1 : ¬ r.tok = 0 := of_decide_eq_false g1
          refine Grd.intro (fun g2 => ?_) (fun g2 => ?_)
          · have g2 : r.k = 2 := of_decide_eq_true g2
            rw [if_pos g2] at e2
            refine Grd.intro (fun g3 => ?_) (fun g3 => ?_)
            · have g3 : r.tok ≤ l := of_decide_eq_true g3
              exact And.intro trivial (AVle.of_eq (stop (by rw [e2]; show (true && decide (l < r.tok)) = false; rw [decide_eq_false (by omega)]; rfl)))
            · have g3 : ¬ r.tok ≤ l := of_decide_eq_false g3
              refine Grd.intro (fun g4 => absurd g2 (of_decide_eq_false (p := r.k = 2) (by simpa using (show (!decide (r.k = 2)) = true from g4)))) (fun _ => ?_)
              obtain ⟨q1, q2⟩ := go r.tok (by rw [e2]; show (r.tok, true && decide (l < r.tok)) = _; rw [decide_eq_true (by omega)]; rfl)
              exact ⟨i + 1, ⟨hnx, q1⟩, by omega, [(0, 0), (1, 1)], rfl, rfl, ⟨AVle.refl _, AVle.refl _, AVle.of_eq q2, trivial⟩, ⟨MOle.refl _, MOle.of_eq (show MO.box (st.app r).row = _ by rw [e]), trivial⟩⟩
          · have g2 : ¬ r.k = 2 := of_decide_eq_false g2
            rw [if_neg g2, if_pos (kt2 g1 g2)] at e2
            refine Grd.intro (fun _ => ?_) (fun g4 => absurd (of_decide_eq_true (p := r.k = 2) (by simpa using (show (!decide (r.k = 2)) = false from g4))) g2)
            refine Grd.intro (fun g3 => ?_) (fun g3 => ?_)
            · have g3 : ¬ r.tok = l := by simpa using (show (!decide (r.tok = l)) = true from g3)
              exact And.intro trivial (AVle.of_eq (stop (by rw [e2]; show (true && decide (r.tok = l)) = false; rw [decide_eq_false g3]; rfl)))
            · have g3 : r.tok = l := by simpa using (show (!decide (r.tok = l)) = false from g3)
              obtain ⟨q1, q2⟩ := go r.tok (by rw [e2]; show (l, true && decide (r.tok = l)) = _; rw [decide_eq_true g3, g3]; rfl)
              exact ⟨i + 1, ⟨hnx, q1⟩, by omega, [(0, 0), (1, 1)], rfl, rfl, ⟨AVle.refl _, AVle.refl _, AVle.of_eq q2, trivial⟩, ⟨MOle.refl _, MOle.of_eq (show MO.box (st.app r).row = _ by rw [e]), trivial⟩⟩
      · have ht : st.takes r = false := by simpa using ht
        rw [ht] at ca e2
        conv => whnf
        refine CallC.nl _ (ca) ?_ ?_
        · exact rfl
        obtain ⟨q1, q2⟩ := go _ e2
        exact ⟨i + 1, ⟨hnx, q1⟩, by omega, [(0, 0), (1, 1)], rfl, rfl, ⟨AVle.refl _, AVle.refl _, AVle.of_eq q2, trivial⟩, ⟨MOle.refl _, MOle.of_eq (show MO.box (st.app r).row = _ by rw [e]), trivial⟩⟩
  · have hh : x.has (manK (st.seq + 1)) = false := by simpa using hh
    rw [if_neg (by rw [hh]; simp)] at cg
    have e : i = logEnd x := log_end hs hi3 hi (by rw [hseq] at hh; exact hh)
    have et : trR x = true := by unfold trR; rw [← e]; exact hb
    rw [et]
    refine DrawC.mk 11 rfl (by kernel_rfl) ?_
    refine And.intro (inI64 (by omega) (by omega)) ?_
    conv => whnf
    refine PCallC.sca _ (ck) rfl ?_
    conv => whnf
    refine PCallC.sca _ (cg) rfl ?_
    exact And.intro trivial (AVle.refl _)
theorem lawTokensRise (x : Sto) (h : StoIn x) : VFn Tryz.prog 5 [x.av] (.bool true) := by
  refine VFn.introC Tryz.call5 Tryz.func5 rfl rfl ?_
  conv => whnf
  refine CallC.sca _ (szStore_fn x h) ?_ ?_
  · exact rfl
  by_cases hl : (stoN x : Int) ≤ 1048576
  case neg =>
    rw [szr_no hl]
    exact And.intro trivial (AVle.refl _)
  rw [szr_yes hl]
  obtain ⟨m1, m2, m3⟩ := Sto_small hl
  have hr : StoRd x := ⟨m1, fun o ho => Nat.le_trans (m2 o ho) (by decide), h.nxt⟩
  refine Grd.intro (fun h2 => absurd (of_decide_eq_true h2) (by omega)) (fun _ => ?_)
  conv => whnf
  refine CallC.nl _ (toStore_fn x m1) ?_ ?_
  · exact rfl
  obtain ⟨b, c, c1, c2⟩ : ∃ (b : Bool) (c : Int), VFn Tryz.prog 26 [x.av] (.tup [.bool b, .int .i64 c]) ∧ VFn Tryz.prog 28 [x.av] (.tup [.bool b, .int .i64 c]) := by
    by_cases hs : x.ok = true
    · exact ⟨_, _, specTokensRise_yes x hr hs, TokensRise_yes x hr hs⟩
    · have hs : x.ok = false := by simpa using hs
      exact ⟨_, _, specTokensRise_no x hr hs, TokensRise_no x hr hs⟩
  conv => whnf
  refine CallC.nl _ (c1) ?_ ?_
  · exact rfl
  conv => whnf
  refine CallC.nl _ (toStore_fn x m1) ?_ ?_
  · exact rfl
  conv => whnf
  refine CallC.sca _ (c2) ?_ ?_
  · exact rfl
  conv => whnf
  refine OpC.bneq rfl rfl rfl rfl rfl ?_
  refine Grd.intro (fun h => absurd h (by simp)) (fun _ => ?_)
  refine Grd.intro (fun h => absurd h (by simp)) (fun _ => ?_)
  refine DrawC.mk 5 rfl (by kernel_rfl) ?_
  refine PCallC.nl _ (toStore_fn x m1) rfl ?_
  refine PCallC.sca _ (eqStore_fn x m1) rfl ?_
  exact And.intro trivial (AVle.refl _)
theorem law_TokensRise (x : Sto) (h : StoIn x) : VFn Tryz.prog 5 [x.av] (.bool true) := lawTokensRise x h
end Go.Proofs.YtgiaaaejobhngaaGreatDoor
