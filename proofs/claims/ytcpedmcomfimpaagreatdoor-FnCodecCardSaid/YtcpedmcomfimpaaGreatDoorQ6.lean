/- Contracts of functions that the claim reaches, and the plain law of what they compute; each theorem bears its own conditions. -/
import Derived.Test.YtcpedmcomfimpaaGreatDoorQ5
set_option linter.unusedVariables false
set_option linter.constructorNameAsVariable false
set_option linter.unusedSimpArgs false
set_option maxRecDepth 20000
namespace Go.Proofs.YtcpedmcomfimpaaGreatDoor
open Go Go.Vw

def SSt (x : SS) (f : Int) (n : Nat) : Prop := (f ≤ x.2.1 ∧ x.2.1 ≤ f + 4 * n) ∧ (∀ e ∈ x.1, f ≤ e.t ∧ e.t < x.2.1) ∧ x.1.Pairwise (fun a b => a.t < b.t)
theorem step_t {x : SS} {f : Int} {n : Nat} {k : Int} (h : SSt x f n) (hs : x.2.2.ok k) (hk : 0 ≤ k) : SSt (smpStep x) f (n + 1) := by
  obtain ⟨⟨h1, h2⟩, h3, h4⟩ := h
  have n1 := next_b x.2.2 hs hk 4
  have a1 := n1.1.2 (by omega)
  have a0 := n1.1.1
  unfold smpStep
  refine ⟨⟨by simp only; omega, by simp only; omega⟩, fun e he => ?_, ?_⟩
  · simp only [List.mem_append, List.mem_cons, List.not_mem_nil, or_false] at he
    rcases he with he | he
    · have := h3 e he
      simp only; omega
    · subst he
      simp only; omega
  · refine List.pairwise_append.2 ⟨h4, List.pairwise_singleton _ _, fun a ha b hb => ?_⟩
    simp only [List.mem_cons, List.not_mem_nil, or_false] at hb
    subst hb
    have := h3 a ha
    simp only; omega
theorem it_t {x : SS} {f : Int} {k : Int} (h : SSok x 0 k) (ht : SSt x f 0) (hk : 0 ≤ k) : ∀ n, SSt (smpIt n x) f n
  | 0 => by simpa [smpIt] using ht
  | n + 1 => step_t (it_t h ht hk n) (it_ok h hk n).2.2.1 (by omega)
theorem pair_smps {L : List Smp} (h : L.Pairwise (fun a b => a.t < b.t)) (ht : ∀ e ∈ L, 0 ≤ e.t ∧ e.t ≤ 99999) (hv : ∀ e ∈ L, -1000000 ≤ e.v ∧ e.v ≤ 1000000) (hl : L.length ≤ 4096) : smpsOK L = true := by
  unfold smpsOK
  rw [decide_eq_true hl, Bool.true_and, allN_iff]
  intro i hi
  have a := ht _ (getD_mem hi)
  have b := hv _ (getD_mem hi)
  unfold smpAt
  simp only [Bool.and_eq_true, Bool.or_eq_true, decide_eq_true_eq, within]
  refine ⟨⟨⟨a.1, a.2⟩, ⟨b.1, b.2⟩⟩, ?_⟩
  rcases Nat.eq_zero_or_pos i with h0 | h0
  · exact .inl h0
  · right
    have := (List.pairwise_iff_getElem.1 h) (i - 1) i (by omega) hi (by omega)
    rw [ix_lt hi, ix_lt (by omega : i - 1 < L.length)]
    exact this
theorem drawn_ok (s : Src) (f n : Int) (h : s.ok 1000000) (hf : 0 ≤ f ∧ f ≤ 90000) (hn : 0 ≤ n ∧ n ≤ 1000) : smpsOK (s.samples f n).1 = true ∧ ((s.samples f n).1.length : Int) ≤ n := by
  have n0 := next_b s h (by omega) (n + 1)
  have hm := n0.1.2 (by omega)
  have hm0 := n0.1.1
  have h0 : SSok ([], f, (s.next (n + 1)).2) 0 1000003 := ⟨rfl, by simp, n0.2.1, by simp only; omega⟩
  have t0 : SSt ([], f, (s.next (n + 1)).2) f 0 := ⟨⟨Int.le_refl _, by simp⟩, by simp, List.Pairwise.nil⟩
  have a := it_ok h0 (by omega) (s.next (n + 1)).1.toNat
  have b := it_t h0 t0 (by omega) (s.next (n + 1)).1.toNat
  unfold Src.samples
  obtain ⟨a1, a2, _, _⟩ := a
  obtain ⟨⟨b1, b2⟩, b3, b4⟩ := b
  refine ⟨pair_smps b4 (fun e he => ?_) a2 (by omega), by omega⟩
  have := b3 e he
  omega
theorem SamplesOf_fn (code : List UInt8) (hc : code.length ≤ 1048576) (f n : Int) (hf : 0 ≤ f ∧ f ≤ 90000) (hn : 0 ≤ n ∧ n ≤ 1000) : VFn Tryz.prog 7 [byts code, .int .i64 f, .int .i64 n] (smps ((srcOf code).samples f n).1) := by
  refine VFn.introC Tryz.call7 Tryz.func7 rfl rfl ?_
  conv => whnf
  refine CallC.k [] (l00Source_fn code hc) rfl rfl (AVsle.refl _) trivial rfl ?_
  conv => whnf
  refine CallC.k [(0, 0)] (samples_fn (srcOf code) f n (wk (src_ok code hc) (by omega)) (by omega) hn) rfl rfl (AVsle.refl _) ⟨MOle.refl _, trivial⟩ rfl ?_
  exact And.intro trivial (AVle.refl _)
theorem SamplesOf_ok (code : List UInt8) (hc : code.length ≤ 1048576) (f n : Int) (hf : 0 ≤ f ∧ f ≤ 90000) (hn : 0 ≤ n ∧ n ≤ 1000) : ∃ L, (smpsOK L = true ∧ (L.length : Int) ≤ n) ∧ VFn Tryz.prog 7 [byts code, .int .i64 f, .int .i64 n] (smps L) :=
  ⟨_, drawn_ok _ f n (wk (src_ok code hc) (by omega)) hf hn, SamplesOf_fn code hc f n hf hn⟩
theorem SamplesText_ok (L : List Smp) (h : smpsOK L = true) (h8 : L.length ≤ 8) : VFn Tryz.prog 9 [smps L] (.tup [.str (B (smpsText L)), .int .i64 0]) := by
  refine VFn.introC Tryz.call9 Tryz.func9 rfl rfl ?_
  conv => whnf
  refine CallC.sca _ (isLongSmp_fn L) ?_ ?_
  · exact rfl
  conv => whnf
  refine CallC.sca _ (SamplesOK_fn L) ?_ ?_
  · exact rfl
  conv => whnf
  refine CallC.sca _ (first_of [(decide (4096 < L.length), 2), (!smpsOK L, 1), (decide (8 < (L.length : Int)), 6)] (n := 6) ⟨rfl, rfl, rfl, rfl, rfl, rfl, trivial⟩ rfl (show 3 ≤ 1000 by decide)) ?_ ?_
  · exact rfl
  rw [show firstC [(decide (4096 < L.length), 2), (!smpsOK L, 1), (decide (8 < (L.length : Int)), 6)] = 0 by rw [decide_eq_false (show ¬ 4096 < L.length by omega), decide_eq_false (show ¬ 8 < (L.length : Int) by omega), h]; rfl]
  conv => whnf
  refine CallC.sca _ (samplesText_fn L (by omega) (smpsOK_num h)) ?_ ?_
  · exact rfl
  exact And.intro trivial (AVle.refl _)
theorem at_fn5 (L : List UInt8) (i n : Int) (hm : L.length ≤ 1048576) (hi : 0 ≤ i ∧ i ≤ 1000) (hn : 1 < n ∧ n ≤ 1000) : ∃ v, (0 ≤ v ∧ v < n) ∧ VFn Tryz.prog 8 [byts L, .int .i64 i, .int .i64 n] (.int .i64 v) := by
  by_cases h0 : L.length = 0
  · refine ⟨(i * 7).tmod n, tmod_b (by omega) (by omega), ?_⟩
    refine VFn.introC Tryz.call8 Tryz.func8 rfl rfl ?_
    refine Grd.intro (fun h => absurd (of_decide_eq_true h) (by omega)) (fun _ => ?_)
    refine Grd.intro (fun h => ?_) (fun h => absurd (of_decide_eq_false h) (by omega))
    refine And.intro (inI64 (by omega) (by omega)) ?_
    refine And.intro (show n ≠ 0 by omega) ?_
    exact And.intro trivial (AVle.refl _)
  · have q1 := tmod_b (n := i) (m := L.length) (by omega) (by omega)
    have q2 := tmod_b (n := i + 1) (m := L.length) (by omega) (by omega)
    have q3 := tdiv_b (n := i) (m := L.length) (by omega) (by omega)
    have b1 := (ix L (i.tmod L.length).toNat).toNat_lt
    have b2 := (ix L ((i + 1).tmod L.length).toNat).toNat_lt
    refine ⟨(((ix L (i.tmod L.length).toNat).toNat : Int) * 31 + ((ix L ((i + 1).tmod L.length).toNat).toNat : Int) + i.tdiv L.length).tmod n, tmod_b (by omega) (by omega), ?_⟩
    refine VFn.introC Tryz.call8 Tryz.func8 rfl rfl ?_
    refine Grd.intro (fun h => absurd (of_decide_eq_true h) (by omega)) (fun _ => ?_)
    refine Grd.intro (fun h => absurd (of_decide_eq_true h) (by omega)) (fun h => ?_)
    refine DrawC.mk 25 rfl (by kernel_rfl) ?_
    refine And.intro (show (L.length : Int) ≠ 0 by omega) ?_
    refine And.intro q1 ?_
    refine And.intro (show inI .i64 _ from inI64 (by omega) (by omega)) ?_
    refine And.intro (show inI .i64 _ from inI64 (by omega) (by omega)) ?_
    refine And.intro (show inI .i64 (i + 1) from inI64 (by omega) (by omega)) ?_
    refine And.intro (show (L.length : Int) ≠ 0 by omega) ?_
    refine And.intro q2 ?_
    refine And.intro (show inI .i64 _ from inI64 (by omega) (by omega)) ?_
    refine And.intro (show inI .i64 _ from inI64 (by omega) (by omega)) ?_
    refine And.intro ⟨show (L.length : Int) ≠ 0 by omega, show inI .i64 (i.tdiv L.length) from inI64 (by omega) (by omega)⟩ ?_
    refine And.intro (show inI .i64 _ from inI64 (by omega) (by omega)) ?_
    refine And.intro (show n ≠ 0 by omega) ?_
    exact And.intro trivial (AVle.refl _)
theorem key_fields {t n w : Nat} (ht : t ≤ 2) (hn : n ≤ 999999) (hw : w ≤ 999999) : kOk (keyB t n w) = true ∧ kT (keyB t n w) = t ∧ kN (keyB t n w) = n ∧ kW (keyB t n w) = w := by
  have h := parse_key ht hn hw
  unfold kOk kT kN kW
  rw [h]
  exact ⟨rfl, rfl, rfl, rfl⟩
theorem key_size (t n w : Nat) : (keyB t n w).length ≤ 17 ∧ 13 ≤ (keyB t n w).length := by
  unfold keyB pre
  split <;> simp [six6]
theorem dataKey_fn (t : Nat) (n w : Int) (ht : t ≤ 2) (hn : within n 0 999999 = true) (hw : within w 0 999999 = true) : VFn Tryz.prog 63 [.int .i64 (t : Int), .int .i64 n, .int .i64 w] (.str (B (keyB t n.toNat w.toNat))) := by
  have e : keyB t n.toNat w.toNat = pre t ++ six6 n.toNat ++ [45] ++ six6 w.toNat := by unfold keyB; simp
  have h : t = 0 ∨ t = 1 ∨ t = 2 := by omega
  rcases h with rfl | rfl | rfl
  all_goals
    refine VFn.introC Tryz.call63 Tryz.func63 rfl rfl ?_
    refine DrawC.mk 12 rfl (by kernel_rfl) ?_
    refine PCallC.nl _ (dataPrefixes_fn) rfl ?_
    refine And.intro ⟨by decide, by decide⟩ ?_
    refine PCallC.sca _ (six_fn n hn) rfl ?_
    refine And.intro (show (_ : Int) ≤ 9223372036854775807 by rw [B_size, B_size]; simp [six6, pre]) ?_
    refine And.intro (show (((B _ ++ B _).size + (B [45]).size : Nat) : Int) ≤ 9223372036854775807 by rw [B_app, B_size, B_size]; simp [six6, pre]) ?_
    refine PCallC.sca _ (six_fn w hw) rfl ?_
    refine And.intro (show (((B _ ++ B _ ++ B [45]).size + (B _).size : Nat) : Int) ≤ 9223372036854775807 by rw [B_app, B_app, B_size, B_size]; simp [six6, pre]) ?_
    exact And.intro trivial (AVle.of_eq (congrArg AV.str (show B _ ++ B _ ++ B [45] ++ B _ = _ by rw [e, B_app, B_app, B_app]; rfl)))
theorem DataKey_fn (t : Nat) (n w : Int) (ht : t ≤ 2) (hn : within n 0 999999 = true) (hw : within w 0 999999 = true) : VFn Tryz.prog 16 [.int .i64 (t : Int), .int .i64 n, .int .i64 w] (.tup [.str (B (keyB t n.toNat w.toNat)), .int .i64 0]) := by
  have c1 := isTier_fn (t : Int)
  rw [show within (t : Int) 0 2 = true by simp [within]; omega] at c1
  have c2 := isSix_fn n
  rw [hn] at c2
  have c3 := isSix_fn w
  rw [hw] at c3
  refine VFn.introC Tryz.call16 Tryz.func16 rfl rfl ?_
  conv => whnf
  refine CallC.sca _ (c1) ?_ ?_
  · exact rfl
  conv => whnf
  refine CallC.sca _ (c2) ?_ ?_
  · exact rfl
  conv => whnf
  refine CallC.sca _ (c3) ?_ ?_
  · exact rfl
  conv => whnf
  refine CallC.sca _ (dataKey_fn t n w ht hn hw) ?_ ?_
  · exact rfl
  exact And.intro trivial (AVle.refl _)
end Go.Proofs.YtcpedmcomfimpaaGreatDoor
set_option linter.unusedVariables false
set_option linter.constructorNameAsVariable false
set_option linter.unusedSimpArgs false
set_option maxRecDepth 20000
namespace Go.Proofs.YtcpedmcomfimpaaGreatDoor
open Go Go.Vw

abbrev BS := List Bk × Src
def bkStep (i : Nat) (x : BS) : BS := (if 0 < x.2.agg.c then x.1 ++ [⟨5 * (i : Int), x.2.agg⟩] else x.1, (x.2.samples 0 6).2.2)
def bkIt (s : Src) : Nat → BS
  | 0 => ([], s)
  | i + 1 => bkStep i (bkIt s i)
theorem agg_src {s : Src} {k : Int} (h : s.ok k) (hk : 0 ≤ k) : (s.samples 0 6).2.2.ok (k + 75) := by
  have n0 := next_b s h hk 7
  have hm := n0.1.2 (by omega)
  have hm0 := n0.1.1
  have h0 : SSok ([], 0, (s.next (6 + 1)).2) 0 (k + 3) := ⟨rfl, by simp, n0.2.1, by simp only; omega⟩
  have a := it_ok h0 (by omega) (s.next (6 + 1)).1.toNat
  unfold Src.samples
  refine wk a.2.2.1 ?_
  have : (s.next (6 + 1)).1 < 7 := hm
  omega
theorem agg_B {s : Src} {k : Int} (h : s.ok k) (hk : k ≤ 1000000) : s.agg.ok = true ∧ 0 ≤ s.agg.c := by
  obtain ⟨q1, q2⟩ := samples_ok s 6 (wk h hk) (by omega)
  have := aggL_bd (L := (s.samples 0 6).1) (by omega) q2
  exact ⟨B_ok this (by omega), by show 0 ≤ (aggL (s.samples 0 6).1).c; rw [this.1]; omega⟩
structure BKok (x : BS) (i : Nat) (k : Int) : Prop where
  src : x.2.ok k
  len : x.1.length ≤ i
  mem : ∀ b ∈ x.1, (0 ≤ b.t ∧ b.t < 5 * (i : Int)) ∧ (b.a.ok = true ∧ b.a.c ≠ 0)
  pw : x.1.Pairwise (fun a b => a.t < b.t)
theorem bk_ok {s : Src} {k : Int} (h : s.ok k) (hk : 0 ≤ k ∧ k ≤ 1000) : ∀ i : Nat, i ≤ 6 → BKok (bkIt s i) i (k + 75 * i)
  | 0, _ => ⟨by simpa [bkIt] using h, by simp [bkIt], by simp [bkIt], by simp [bkIt]⟩
  | i + 1, hi => by
    have ih := bk_ok h hk i (by omega)
    have e : bkIt s (i + 1) = bkStep i (bkIt s i) := rfl
    rw [e]
    generalize bkIt s i = x at ih
    have ha := agg_B ih.src (by omega)
    have hs := agg_src ih.src (by omega)
    unfold bkStep
    refine ⟨wk hs (by omega), ?_, ?_, ?_⟩
    · simp only
      split
      · have := ih.len; simp; omega
      · have := ih.len; omega
    · simp only
      intro b hb
      split at hb
      · rename_i hc
        rcases List.mem_append.1 hb with hb | hb
        · have := ih.mem b hb
          exact ⟨⟨this.1.1, by omega⟩, this.2⟩
        · rw [List.mem_singleton.1 hb]
          exact ⟨⟨by simp only; omega, by simp only; omega⟩, ha.1, by simp only; omega⟩
      · have := ih.mem b hb
        exact ⟨⟨this.1.1, by omega⟩, this.2⟩
    · simp only
      split
      · refine List.pairwise_append.2 ⟨ih.pw, List.pairwise_singleton _ _, fun a ha2 b hb => ?_⟩
        rw [List.mem_singleton.1 hb]
        have := ih.mem a ha2
        simp only; omega
      · exact ih.pw
theorem buckets_fn (s : Src) (h : s.ok 1000) : FnM Tryz.prog 55 1 [.bptr 0 0] [(0, .box s.row)] (.osl 1) [(0, .box (bkIt s 6).2.row), (1, .arr 115 7 (bkIt s 6).1.length fun i => (ix (bkIt s 6).1 i).row)] 2 := by
  have hb := bk_ok h (by omega)
  refine FnM.introC Tryz.call55 Tryz.func55 rfl rfl ?_
  refine LoopC.mk (fun i : Nat => i ≤ 6) (fun i => [(0, .bptr 0 0), (3, .osl 1), (4, .int .i64 i)])
    (fun i => [(0, .box (bkIt s i).2.row), (1, .arr 115 7 (bkIt s i).1.length fun j => (ix (bkIt s i).1 j).row)]) 2 (fun i => 6 - i) 0
    ⟨Nat.zero_le _, [(0, 0), (1, 1)], rfl, rfl, ⟨AVle.refl _, AVle.refl _, AVle.refl _, trivial⟩, ⟨MOle.refl _, MOle.arr rfl fun i hi => absurd hi (Nat.not_lt_zero i), trivial⟩⟩ ?_
  intro i hi
  refine Grd.intro (fun g1 => ?_) (fun g1 => ?_)
  · have hin : i < 6 := by have := of_decide_eq_true g1; omega
    have ih := hb i hi
    have hstep : bkIt s (i + 1) = bkStep i (bkIt s i) := rfl
    generalize bkIt s i = x at ih hstep
    have hlen := ih.len
    conv => whnf
    refine CallC.k [(0, 0)] (agg_fn x.2 (wk ih.src (by omega))) rfl rfl (AVsle.refl _) ⟨MOle.refl _, trivial⟩ rfl ?_
    refine Grd.intro (fun g2 => ?_) (fun g2 => ?_)
    · have g2 : 0 < x.2.agg.c := of_decide_eq_true g2
      have e1 : (bkIt s (i + 1)).1 = x.1 ++ [⟨5 * (i : Int), x.2.agg⟩] := by rw [hstep]; unfold bkStep; rw [if_pos g2]
      have e2 : (bkIt s (i + 1)).2 = (x.2.samples 0 6).2.2 := by rw [hstep]; rfl
      refine And.intro (inI64 (by omega) (by omega)) ?_
      refine And.intro ⟨show (x.1.length + 1) * 56 ≤ 140737488355328 by omega, all1 rfl⟩ ?_
      refine And.intro (inI64 (by omega) (by omega)) ?_
      exact ⟨i + 1, hin, by omega, [(0, 0), (5, 1)], rfl, rfl, ⟨AVle.refl _, AVle.refl _, AVle.of_eq (congrArg (AV.int .i64) (by simp)), trivial⟩, ⟨MOle.of_eq (show MO.box (x.2.samples 0 6).2.2.row = _ by rw [e2]), arr_next (f := Bk.row) e1 rfl, trivial⟩⟩
    · have g2 : ¬ 0 < x.2.agg.c := of_decide_eq_false g2
      have e1 : (bkIt s (i + 1)).1 = x.1 := by rw [hstep]; unfold bkStep; rw [if_neg g2]
      have e2 : (bkIt s (i + 1)).2 = (x.2.samples 0 6).2.2 := by rw [hstep]; rfl
      refine And.intro (inI64 (by omega) (by omega)) ?_
      exact ⟨i + 1, hin, by omega, [(0, 0), (1, 1)], rfl, rfl, ⟨AVle.refl _, AVle.refl _, AVle.of_eq (congrArg (AV.int .i64) (by simp)), trivial⟩, ⟨MOle.of_eq (show MO.box (x.2.samples 0 6).2.2.row = _ by rw [e2]), MOle.of_eq (show MO.arr 115 7 x.1.length (fun j => (ix x.1 j).row) = _ by rw [e1]), trivial⟩⟩
  · have : i = 6 := by have := of_decide_eq_false g1; omega
    subst this
    exact And.intro trivial ⟨[(0, 0), (1, 1)], rfl, AVle.refl _, ⟨MOle.refl _, MOle.refl _, trivial⟩⟩
theorem pair_bks {L : List Bk} (h : L.Pairwise (fun a b => a.t < b.t)) (ht : ∀ b ∈ L, (0 ≤ b.t ∧ b.t < 30) ∧ (b.a.ok = true ∧ b.a.c ≠ 0)) (hl : L.length ≤ 6) : bksOK L = true := by
  unfold bksOK
  rw [decide_eq_true (by omega), Bool.true_and, allN_iff]
  intro i hi
  have a := ht _ (getD_mem hi)
  unfold bkAt
  simp only [Bool.and_eq_true, Bool.or_eq_true, decide_eq_true_eq, within, Bool.not_eq_true', decide_eq_false_iff_not]
  refine ⟨⟨⟨⟨a.1.1, by omega⟩, a.2.1⟩, a.2.2⟩, ?_⟩
  rcases Nat.eq_zero_or_pos i with h0 | h0
  · exact .inl h0
  · right
    have := (List.pairwise_iff_getElem.1 h) (i - 1) i (by omega) hi (by omega)
    rw [ix_lt hi, ix_lt (by omega : i - 1 < L.length)]
    exact this
theorem BucketsOf_ok (code : List UInt8) (hc : code.length ≤ 1048576) : ∃ K, bksOK K = true ∧ VFn Tryz.prog 12 [byts code] (bks K) := by
  have hb := bk_ok (wk (src_ok code hc) (show (0 : Int) ≤ 0 by omega)) (by omega) 6 (by omega)
  refine ⟨(bkIt (srcOf code) 6).1, pair_bks hb.pw (fun b h => by have := hb.mem b h; exact ⟨⟨this.1.1, by omega⟩, this.2⟩) hb.len, ?_⟩
  refine VFn.introC Tryz.call12 Tryz.func12 rfl rfl ?_
  conv => whnf
  refine CallC.k [] (l00Source_fn code hc) rfl rfl (AVsle.refl _) trivial rfl ?_
  conv => whnf
  refine CallC.k [(0, 0)] (buckets_fn (srcOf code) (wk (src_ok code hc) (by omega))) rfl rfl (AVsle.refl _) ⟨MOle.refl _, trivial⟩ rfl ?_
  exact And.intro trivial (AVle.refl _)
theorem specSamplesText_ok (L : List Smp) (h : smpsOK L = true) (h8 : L.length ≤ 8) : VFn Tryz.prog 10 [smps L] (.tup [.str (B (smpsText L)), .int .i64 0]) := by
  have c := specSamplesOK_fn L
  rw [h] at c
  refine VFn.introC Tryz.call10 Tryz.func10 rfl rfl ?_
  refine Grd.intro (fun g => absurd (of_decide_eq_true g) (by omega)) (fun _ => ?_)
  conv => whnf
  refine CallC.sca _ (c) ?_ ?_
  · exact rfl
  refine Grd.intro (fun g => absurd (of_decide_eq_true g) (by omega)) (fun _ => ?_)
  conv => whnf
  refine CallC.sca _ (l03Samples_fn L (by omega) (smpsOK_num h)) ?_ ?_
  · exact rfl
  exact And.intro trivial (AVle.refl _)
theorem BucketsText_ok (L : List Bk) (h : bksOK L = true) : VFn Tryz.prog 13 [bks L] (.tup [.str (B (bksText L)), .int .i64 0]) := by
  have h8 := bks_8 h
  refine VFn.introC Tryz.call13 Tryz.func13 rfl rfl ?_
  conv => whnf
  refine CallC.sca _ (isLongBk_fn L) ?_ ?_
  · exact rfl
  conv => whnf
  refine CallC.sca _ (BucketsOK_fn L) ?_ ?_
  · exact rfl
  conv => whnf
  refine CallC.sca _ (first_of [(decide (4096 < L.length), 2), (!bksOK L, 1)] (n := 4) ⟨rfl, rfl, rfl, rfl, trivial⟩ rfl (show 2 ≤ 1000 by decide)) ?_ ?_
  · exact rfl
  rw [show firstC [(decide (4096 < L.length), 2), (!bksOK L, 1)] = 0 by rw [decide_eq_false (show ¬ 4096 < L.length by omega), h]; rfl]
  conv => whnf
  refine CallC.sca _ (bucketsText_fn L h8 (bksOK_ok h)) ?_ ?_
  · exact rfl
  exact And.intro trivial (AVle.refl _)
theorem specBucketsText_ok (L : List Bk) (h : bksOK L = true) : VFn Tryz.prog 14 [bks L] (.tup [.str (B (bksText L)), .int .i64 0]) := by
  have h8 := bks_8 h
  have c := specBucketsOK_fn L
  rw [h] at c
  refine VFn.introC Tryz.call14 Tryz.func14 rfl rfl ?_
  refine Grd.intro (fun g => absurd (of_decide_eq_true g) (by omega)) (fun _ => ?_)
  conv => whnf
  refine CallC.sca _ (c) ?_ ?_
  · exact rfl
  conv => whnf
  refine CallC.sca _ (l03Buckets_fn L h8 (bksOK_ok h)) ?_ ?_
  · exact rfl
  exact And.intro trivial (AVle.refl _)
theorem notLong (t : List UInt8) (h : t.length ≤ 65536) : VFn Tryz.prog 53 [.sl 1 1 fun _ => [.str (B t)]] (.bool false) := by
  have c := isLong_fn [t] (by simp)
  rw [show (!([t].all fun t => decide (t.length ≤ 65536))) = false by simp; omega] at c
  exact c.weak (AVsle.cons (AVle.sl1 rfl) AVsle.nil) (AVle.refl _)
theorem ReadSamples_ok (L : List Smp) (h : smpsOK L = true) (h8 : L.length ≤ 8) : VFn Tryz.prog 11 [.str (B (smpsText L))] (.tup [smps L, .int .i64 0]) := by
  have hnum := smpsOK_num h
  have hlen := smpsText_len hnum
  have cr := readSamples_gen (smpsText L) (by omega) (.tup [smps L, .bool true]) (fun _ => by rw [rdV_text hnum]) (fun g => by rw [rdOk_text hnum h h8] at g; cases g)
  have c0 := notLong (smpsText L) (by omega)
  generalize smpsText L = T at cr c0
  refine VFn.introC Tryz.call11 Tryz.func11 rfl rfl ?_
  conv => whnf
  refine CallC.sca _ ((c0.weak (AVsle.cons (AVle.sl1 rfl) AVsle.nil) (AVle.refl _))) ?_ ?_
  · exact rfl
  conv => whnf
  refine CallC.nl _ (cr) ?_ ?_
  · exact rfl
  exact And.intro trivial (AVle.refl _)
theorem ReadBuckets_ok (L : List Bk) (h : bksOK L = true) : VFn Tryz.prog 15 [.str (B (bksText L))] (.tup [bks L, .int .i64 0]) := by
  have hok := bksOK_ok h
  have h8 := bks_8 h
  have hlen := bksText_len hok
  have cr := readBuckets_gen (bksText L) (by omega) (.tup [bks L, .bool true]) (fun _ => by rw [rbV_text hok]) (fun g => by rw [rbOk_text hok h] at g; cases g)
  have c0 := notLong (bksText L) (by omega)
  generalize bksText L = T at cr c0
  refine VFn.introC Tryz.call15 Tryz.func15 rfl rfl ?_
  conv => whnf
  refine CallC.sca _ ((c0.weak (AVsle.cons (AVle.sl1 rfl) AVsle.nil) (AVle.refl _))) ?_ ?_
  · exact rfl
  conv => whnf
  refine CallC.nl _ (cr) ?_ ?_
  · exact rfl
  exact And.intro trivial (AVle.refl _)
theorem ReadDataKey_ok {t n w : Nat} (ht : t ≤ 2) (hn : n ≤ 999999) (hw : w ≤ 999999) : VFn Tryz.prog 17 [.str (B (keyB t n w))] (.tup [.int .i64 (t : Int), .int .i64 (n : Int), .int .i64 (w : Int), .int .i64 0]) := by
  obtain ⟨k1, k2, k3, k4⟩ := key_fields ht hn hw
  have c := readDataKey_fn (keyB t n w)
  rw [k1, k2, k3, k4] at c
  have c0 := notLong (keyB t n w) (by have := key_size t n w; omega)
  generalize keyB t n w = K at c c0
  refine VFn.introC Tryz.call17 Tryz.func17 rfl rfl ?_
  conv => whnf
  refine CallC.sca _ ((c0.weak (AVsle.cons (AVle.sl1 rfl) AVsle.nil) (AVle.refl _))) ?_ ?_
  · exact rfl
  conv => whnf
  refine CallC.sca _ (c) ?_ ?_
  · exact rfl
  exact And.intro trivial (AVle.refl _)
theorem keyB_ok {t n w : Nat} (ht : t ≤ 2) : keyOK (keyB t n w) = true := by
  have hs := key_size t n w
  unfold keyOK
  have e : (keyB t n w).all keyC = true := by
    have hd : ∀ m, (six6 m).all keyC = true := fun m => List.all_eq_true.2 fun x hx => by
      have := List.all_eq_true.1 (six6_dig m) x hx
      have := of_decide_eq_true this
      unfold keyC
      simp only [Bool.or_eq_true, Bool.and_eq_true, decide_eq_true_eq]
      left; left; right
      omega
    unfold keyB
    rw [List.all_append, List.all_append, List.all_cons, hd, hd]
    have h : t = 0 ∨ t = 1 ∨ t = 2 := by omega
    rcases h with rfl | rfl | rfl <;> decide
  rw [e]
  simp [within]; omega
theorem sameSamples_fn (L : List Smp) (hL : L.length ≤ 1000000) : VFn Tryz.prog 18 [smps L, smps L] (.bool true) := by
  refine VFn.introC Tryz.call18 Tryz.func18 rfl rfl ?_
  refine Grd.intro (fun h => absurd h (by simp)) (fun _ => ?_)
  refine LoopC.mk (fun i : Nat => i ≤ L.length) (fun i => [(0, smps L), (1, smps L), (5, .int .i64 i)]) (fun i => []) 0 (fun i => L.length - i) 0
    ⟨Nat.zero_le _, [], rfl, rfl, ⟨AVle.refl _, AVle.refl _, AVle.refl _, trivial⟩, trivial⟩ ?_
  intro i hi
  refine Grd.intro (fun h2 => ?_) (fun h2 => ?_)
  · have hin : i < L.length := by have := of_decide_eq_true h2; omega
    refine DrawC.mk 9 rfl (by kernel_rfl) ?_
    refine And.intro (by omega) ?_
    refine And.intro (by omega) ?_
    refine And.intro (by kernel_rfl) ?_
    refine Grd.intro (fun h => absurd h (by simp)) (fun _ => ?_)
    refine And.intro (inI64 (by omega) (by omega)) ?_
    exact ⟨i + 1, hin, by omega, [], rfl, rfl, ⟨AVle.refl _, AVle.refl _, AVle.of_eq (congrArg (AV.int .i64) (by simp)), trivial⟩, trivial⟩
  · exact And.intro trivial (AVle.refl _)
theorem sameBuckets_fn (L : List Bk) (hL : L.length ≤ 1000000) : VFn Tryz.prog 19 [bks L, bks L] (.bool true) := by
  refine VFn.introC Tryz.call19 Tryz.func19 rfl rfl ?_
  refine Grd.intro (fun h => absurd h (by simp)) (fun _ => ?_)
  refine LoopC.mk (fun i : Nat => i ≤ L.length) (fun i => [(0, bks L), (1, bks L), (5, .int .i64 i)]) (fun i => []) 0 (fun i => L.length - i) 0
    ⟨Nat.zero_le _, [], rfl, rfl, ⟨AVle.refl _, AVle.refl _, AVle.refl _, trivial⟩, trivial⟩ ?_
  intro i hi
  refine Grd.intro (fun h2 => ?_) (fun h2 => ?_)
  · have hin : i < L.length := by have := of_decide_eq_true h2; omega
    refine DrawC.mk 9 rfl (by kernel_rfl) ?_
    refine And.intro (by omega) ?_
    refine And.intro (by omega) ?_
    refine And.intro (by kernel_rfl) ?_
    refine Grd.intro (fun h => absurd h (by simp)) (fun _ => ?_)
    refine And.intro (inI64 (by omega) (by omega)) ?_
    exact ⟨i + 1, hin, by omega, [], rfl, rfl, ⟨AVle.refl _, AVle.refl _, AVle.of_eq (congrArg (AV.int .i64) (by simp)), trivial⟩, trivial⟩
  · exact And.intro trivial (AVle.refl _)
theorem law_Codec (code : List UInt8) (hc : code.length ≤ 9223372036854775807) (more : List UInt8) (hm : more.length ≤ 9223372036854775807) : VFn Tryz.prog 3 [byts code, byts more] (.bool true) := by
  by_cases hL : 1048576 < code.length
  · refine VFn.introC Tryz.call3 Tryz.func3 rfl rfl ?_
    refine Grd.intro (fun _ => ?_) (fun h => absurd (of_decide_eq_false h) (by omega))
    exact And.intro trivial (AVle.refl _)
  by_cases hL2 : 1048576 < more.length
  · refine VFn.introC Tryz.call3 Tryz.func3 rfl rfl ?_
    refine Grd.intro (fun h => absurd (of_decide_eq_true h) (by omega)) (fun _ => ?_)
    refine Grd.intro (fun _ => ?_) (fun h => absurd (of_decide_eq_false h) (by omega))
    exact And.intro trivial (AVle.refl _)
  obtain ⟨v, hv, cv⟩ := at_fn5 more 0 50 (by omega) (by omega) (by omega)
  obtain ⟨L, ⟨hL3, h8⟩, cx⟩ := SamplesOf_ok code (by omega) v 8 (by omega) (by omega)
  have h8 : L.length ≤ 8 := by omega
  obtain ⟨K, hK, cb⟩ := BucketsOf_ok more (by omega)
  have hk8 := bks_8 hK
  obtain ⟨p, hp, cp⟩ := at_fn5 more 1 3 (by omega) (by omega) (by omega)
  obtain ⟨q, hq, cq⟩ := at_fn5 more 2 1000 (by omega) (by omega) (by omega)
  obtain ⟨u, hu, cu⟩ := at_fn5 code 3 1000 (by omega) (by omega) (by omega)
  obtain ⟨p, rfl⟩ : ∃ m : Nat, p = (m : Int) := ⟨p.toNat, by omega⟩
  obtain ⟨q, rfl⟩ : ∃ m : Nat, q = (m : Int) := ⟨q.toNat, by omega⟩
  obtain ⟨u, rfl⟩ : ∃ m : Nat, u = (m : Int) := ⟨u.toNat, by omega⟩
  have c1 := SamplesText_ok L hL3 h8
  have c2 := specSamplesText_ok L hL3 h8
  have c3 := ReadSamples_ok L hL3 h8
  have c4 := BucketsText_ok K hK
  have c5 := specBucketsText_ok K hK
  have c6 := ReadBuckets_ok K hK
  have c7 := DataKey_fn p (q : Int) (u : Int) (by omega) (by simp [within]; omega) (by simp [within]; omega)
  have c8 := ReadDataKey_ok (t := p) (n := q) (w := u) (by omega) (by omega) (by omega)
  have c9 := KeyOK_fn (keyB p q u) (by have := key_size p q u; omega)
  rw [keyB_ok (by omega)] at c9
  have c10 := BucketsOK_fn K
  rw [hK] at c10
  rw [show ((q : Int)).toNat = q by omega, show ((u : Int)).toNat = u by omega] at c7
  generalize keyB p q u = Z at c7 c8 c9
  generalize smpsText L = T at c1 c2 c3
  generalize bksText K = T2 at c4 c5 c6
  refine VFn.introC Tryz.call3 Tryz.func3 rfl rfl ?_
  refine Grd.intro (fun h => absurd (of_decide_eq_true h) (by omega)) (fun _ => ?_)
  refine Grd.intro (fun h => absurd (of_decide_eq_true h) (by omega)) (fun _ => ?_)
  conv => whnf
  refine CallC.sca _ (cv) ?_ ?_
  · exact rfl
  conv => whnf
  refine CallC.nl _ (cx) ?_ ?_
  · exact rfl
  conv => whnf
  refine CallC.sca _ (c1) ?_ ?_
  · exact rfl
  conv => whnf
  refine CallC.sca _ (c2) ?_ ?_
  · exact rfl
  conv => whnf
  refine CallC.nl _ (c3) ?_ ?_
  · exact rfl
  conv => whnf
  refine CallC.nl _ (cb) ?_ ?_
  · exact rfl
  conv => whnf
  refine CallC.sca _ (c4) ?_ ?_
  · exact rfl
  conv => whnf
  refine CallC.sca _ (c5) ?_ ?_
  · exact rfl
  conv => whnf
  refine CallC.nl _ (c6) ?_ ?_
  · exact rfl
  conv => whnf
  refine CallC.sca _ (cp) ?_ ?_
  · exact rfl
  conv => whnf
  refine CallC.sca _ (cq) ?_ ?_
  · exact rfl
  conv => whnf
  refine CallC.sca _ (cu) ?_ ?_
  · exact rfl
  conv => whnf
  refine CallC.sca _ (c7) ?_ ?_
  · exact rfl
  conv => whnf
  refine CallC.sca _ (c8) ?_ ?_
  · exact rfl
  repeat' (conv => whnf
           first
             | (refine Grd.intro (fun _ => ?_) (fun h => ?_); rotate_left; focus (exact absurd h (by simp)))
             | (refine CallC.sca _ (sameSamples_fn L (by omega)) ?_ ?_; focus (exact rfl))
             | (refine CallC.sca _ (sameBuckets_fn K (by omega)) ?_ ?_; focus (exact rfl))
             | (refine CallC.sca _ c9 ?_ ?_; focus (exact rfl))
             | (refine CallC.sca _ c10 ?_ ?_; focus (exact rfl))
             | (refine And.intro trivial (AVle.refl _); done)
             | fail)
end Go.Proofs.YtcpedmcomfimpaaGreatDoor
