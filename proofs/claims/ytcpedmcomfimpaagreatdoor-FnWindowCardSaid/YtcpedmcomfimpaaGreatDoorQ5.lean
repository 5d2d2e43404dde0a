/- Contracts of functions that the claim reaches, and the plain law of what they compute; each theorem bears its own conditions. -/
import Derived.Test.YtcpedmcomfimpaaGreatDoorQ4
set_option linter.unusedVariables false
set_option linter.constructorNameAsVariable false
set_option linter.unusedSimpArgs false
set_option maxRecDepth 20000
namespace Go.Proofs.YtcpedmcomfimpaaGreatDoor
open Go Go.Vw

def SSt (x : SS) (f : Int) (n : Nat) : Prop := (f ≤ x.2.1 ∧ x.2.1 ≤ f + 4 * n) ∧ (∀ e ∈ x.1, f ≤ e.t ∧ e.t < x.2.1) ∧ x.1.Pairwise (fun a b => a.t < b.t)
theorem step_t {x : SS} {f : Int} {n : Nat} {k : Int} (h : SSt x f n) (hs : x.2.2.ok k) (hk : 0 ≤ k) : SSt (smpStep x) f (n + 1) := by
  obtain ⟨⟨h1, h2⟩, h3, h4⟩ := h
  have n1 := next_b x.2.2 hs hk 4
  have a1 := n1.1.2 (by omega)
  have a0 := n1.1.1
  unfold smpStep
  refine ⟨⟨by simp only; omega, by simp only; omega⟩, fun e he => ?_, ?_⟩
  · simp only [List.mem_append, List.mem_cons, List.not_mem_nil, or_false] at he
    rcases he with he | he
    · have := h3 e he
      simp only; omega
    · subst he
      simp only; omega
  · refine List.pairwise_append.2 ⟨h4, List.pairwise_singleton _ _, fun a ha b hb => ?_⟩
    simp only [List.mem_cons, List.not_mem_nil, or_false] at hb
    subst hb
    have := h3 a ha
    simp only; omega
theorem it_t {x : SS} {f : Int} {k : Int} (h : SSok x 0 k) (ht : SSt x f 0) (hk : 0 ≤ k) : ∀ n, SSt (smpIt n x) f n
  | 0 => by simpa [smpIt] using ht
  | n + 1 => step_t (it_t h ht hk n) (it_ok h hk n).2.2.1 (by omega)
theorem pair_smps {L : List Smp} (h : L.Pairwise (fun a b => a.t < b.t)) (ht : ∀ e ∈ L, 0 ≤ e.t ∧ e.t ≤ 99999) (hv : ∀ e ∈ L, -1000000 ≤ e.v ∧ e.v ≤ 1000000) (hl : L.length ≤ 4096) : smpsOK L = true := by
  unfold smpsOK
  rw [decide_eq_true hl, Bool.true_and, allN_iff]
  intro i hi
  have a := ht _ (getD_mem hi)
  have b := hv _ (getD_mem hi)
  unfold smpAt
  simp only [Bool.and_eq_true, Bool.or_eq_true, decide_eq_true_eq, within]
  refine ⟨⟨⟨a.1, a.2⟩, ⟨b.1, b.2⟩⟩, ?_⟩
  rcases Nat.eq_zero_or_pos i with h0 | h0
  · exact .inl h0
  · right
    have := (List.pairwise_iff_getElem.1 h) (i - 1) i (by omega) hi (by omega)
    rw [ix_lt hi, ix_lt (by omega : i - 1 < L.length)]
    exact this
theorem drawn_ok (s : Src) (f n : Int) (h : s.ok 1000000) (hf : 0 ≤ f ∧ f ≤ 90000) (hn : 0 ≤ n ∧ n ≤ 1000) : smpsOK (s.samples f n).1 = true ∧ ((s.samples f n).1.length : Int) ≤ n := by
  have n0 := next_b s h (by omega) (n + 1)
  have hm := n0.1.2 (by omega)
  have hm0 := n0.1.1
  have h0 : SSok ([], f, (s.next (n + 1)).2) 0 1000003 := ⟨rfl, by simp, n0.2.1, by simp only; omega⟩
  have t0 : SSt ([], f, (s.next (n + 1)).2) f 0 := ⟨⟨Int.le_refl _, by simp⟩, by simp, List.Pairwise.nil⟩
  have a := it_ok h0 (by omega) (s.next (n + 1)).1.toNat
  have b := it_t h0 t0 (by omega) (s.next (n + 1)).1.toNat
  unfold Src.samples
  obtain ⟨a1, a2, _, _⟩ := a
  obtain ⟨⟨b1, b2⟩, b3, b4⟩ := b
  refine ⟨pair_smps b4 (fun e he => ?_) a2 (by omega), by omega⟩
  have := b3 e he
  omega
theorem SamplesOf_fn (code : List UInt8) (hc : code.length ≤ 1048576) (f n : Int) (hf : 0 ≤ f ∧ f ≤ 90000) (hn : 0 ≤ n ∧ n ≤ 1000) : VFn Tryz.prog 7 [byts code, .int .i64 f, .int .i64 n] (smps ((srcOf code).samples f n).1) := by
  refine VFn.introC Tryz.call7 Tryz.func7 rfl rfl ?_
  conv => whnf
  refine CallC.k [] (l00Source_fn code hc) rfl rfl (AVsle.refl _) trivial rfl ?_
  conv => whnf
  refine CallC.k [(0, 0)] (samples_fn (srcOf code) f n (wk (src_ok code hc) (by omega)) (by omega) hn) rfl rfl (AVsle.refl _) ⟨MOle.refl _, trivial⟩ rfl ?_
  exact And.intro trivial (AVle.refl _)
theorem SamplesOf_ok (code : List UInt8) (hc : code.length ≤ 1048576) (f n : Int) (hf : 0 ≤ f ∧ f ≤ 90000) (hn : 0 ≤ n ∧ n ≤ 1000) : ∃ L, (smpsOK L = true ∧ (L.length : Int) ≤ n) ∧ VFn Tryz.prog 7 [byts code, .int .i64 f, .int .i64 n] (smps L) :=
  ⟨_, drawn_ok _ f n (wk (src_ok code hc) (by omega)) hf hn, SamplesOf_fn code hc f n hf hn⟩
theorem SamplesText_ok (L : List Smp) (h : smpsOK L = true) (h8 : L.length ≤ 8) : VFn Tryz.prog 9 [smps L] (.tup [.str (B (smpsText L)), .int .i64 0]) := by
  refine VFn.introC Tryz.call9 Tryz.func9 rfl rfl ?_
  conv => whnf
  refine CallC.sca _ (isLongSmp_fn L) ?_ ?_
  · exact rfl
  conv => whnf
  refine CallC.sca _ (SamplesOK_fn L) ?_ ?_
  · exact rfl
  conv => whnf
  refine CallC.sca _ (first_of [(decide (4096 < L.length), 2), (!smpsOK L, 1), (decide (8 < (L.length : Int)), 6)] (n := 6) ⟨rfl, rfl, rfl, rfl, rfl, rfl, trivial⟩ rfl (show 3 ≤ 1000 by decide)) ?_ ?_
  · exact rfl
  rw [show firstC [(decide (4096 < L.length), 2), (!smpsOK L, 1), (decide (8 < (L.length : Int)), 6)] = 0 by rw [decide_eq_false (show ¬ 4096 < L.length by omega), decide_eq_false (show ¬ 8 < (L.length : Int) by omega), h]; rfl]
  conv => whnf
  refine CallC.sca _ (samplesText_fn L (by omega) (smpsOK_num h)) ?_ ?_
  · exact rfl
  exact And.intro trivial (AVle.refl _)
theorem at_fn5 (L : List UInt8) (i n : Int) (hm : L.length ≤ 1048576) (hi : 0 ≤ i ∧ i ≤ 1000) (hn : 1 < n ∧ n ≤ 1000) : ∃ v, (0 ≤ v ∧ v < n) ∧ VFn Tryz.prog 8 [byts L, .int .i64 i, .int .i64 n] (.int .i64 v) := by
  by_cases h0 : L.length = 0
  · refine ⟨(i * 7).tmod n, tmod_b (by omega) (by omega), ?_⟩
    refine VFn.introC Tryz.call8 Tryz.func8 rfl rfl ?_
    refine Grd.intro (fun h => absurd (of_decide_eq_true h) (by omega)) (fun _ => ?_)
    refine Grd.intro (fun h => ?_) (fun h => absurd (of_decide_eq_false h) (by omega))
    refine And.intro (inI64 (by omega) (by omega)) ?_
    refine And.intro (show n ≠ 0 by omega) ?_
    exact And.intro trivial (AVle.refl _)
  · have q1 := tmod_b (n := i) (m := L.length) (by omega) (by omega)
    have q2 := tmod_b (n := i + 1) (m := L.length) (by omega) (by omega)
    have q3 := tdiv_b (n := i) (m := L.length) (by omega) (by omega)
    have b1 := (ix L (i.tmod L.length).toNat).toNat_lt
    have b2 := (ix L ((i + 1).tmod L.length).toNat).toNat_lt
    refine ⟨(((ix L (i.tmod L.length).toNat).toNat : Int) * 31 + ((ix L ((i + 1).tmod L.length).toNat).toNat : Int) + i.tdiv L.length).tmod n, tmod_b (by omega) (by omega), ?_⟩
    refine VFn.introC Tryz.call8 Tryz.func8 rfl rfl ?_
    refine Grd.intro (fun h => absurd (of_decide_eq_true h) (by omega)) (fun _ => ?_)
    refine Grd.intro (fun h => absurd (of_decide_eq_true h) (by omega)) (fun h => ?_)
    refine DrawC.mk 25 rfl (by kernel_rfl) ?_
    refine And.intro (show (L.length : Int) ≠ 0 by omega) ?_
    refine And.intro q1 ?_
    refine And.intro (show inI .i64 _ from inI64 (by omega) (by omega)) ?_
    refine And.intro (show inI .i64 _ from inI64 (by omega) (by omega)) ?_
    refine And.intro (show inI .i64 (i + 1) from inI64 (by omega) (by omega)) ?_
    refine And.intro (show (L.length : Int) ≠ 0 by omega) ?_
    refine And.intro q2 ?_
    refine And.intro (show inI .i64 _ from inI64 (by omega) (by omega)) ?_
    refine And.intro (show inI .i64 _ from inI64 (by omega) (by omega)) ?_
    refine And.intro ⟨show (L.length : Int) ≠ 0 by omega, show inI .i64 (i.tdiv L.length) from inI64 (by omega) (by omega)⟩ ?_
    refine And.intro (show inI .i64 _ from inI64 (by omega) (by omega)) ?_
    refine And.intro (show n ≠ 0 by omega) ?_
    exact And.intro trivial (AVle.refl _)
theorem key_fields {t n w : Nat} (ht : t ≤ 2) (hn : n ≤ 999999) (hw : w ≤ 999999) : kOk (keyB t n w) = true ∧ kT (keyB t n w) = t ∧ kN (keyB t n w) = n ∧ kW (keyB t n w) = w := by
  have h := parse_key ht hn hw
  unfold kOk kT kN kW
  rw [h]
  exact ⟨rfl, rfl, rfl, rfl⟩
theorem dataKey_fn (t : Nat) (n w : Int) (ht : t ≤ 2) (hn : within n 0 999999 = true) (hw : within w 0 999999 = true) : VFn Tryz.prog 63 [.int .i64 (t : Int), .int .i64 n, .int .i64 w] (.str (B (keyB t n.toNat w.toNat))) := by
  have e : keyB t n.toNat w.toNat = pre t ++ six6 n.toNat ++ [45] ++ six6 w.toNat := by unfold keyB; simp
  have h : t = 0 ∨ t = 1 ∨ t = 2 := by omega
  rcases h with rfl | rfl | rfl
  all_goals
    refine VFn.introC Tryz.call63 Tryz.func63 rfl rfl ?_
    refine DrawC.mk 12 rfl (by kernel_rfl) ?_
    refine PCallC.nl _ (dataPrefixes_fn) rfl ?_
    refine And.intro ⟨by decide, by decide⟩ ?_
    refine PCallC.sca _ (six_fn n hn) rfl ?_
    refine And.intro (show (_ : Int) ≤ 9223372036854775807 by rw [B_size, B_size]; simp [six6, pre]) ?_
    refine And.intro (show (((B _ ++ B _).size + (B [45]).size : Nat) : Int) ≤ 9223372036854775807 by rw [B_app, B_size, B_size]; simp [six6, pre]) ?_
    refine PCallC.sca _ (six_fn w hw) rfl ?_
    refine And.intro (show (((B _ ++ B _ ++ B [45]).size + (B _).size : Nat) : Int) ≤ 9223372036854775807 by rw [B_app, B_app, B_size, B_size]; simp [six6, pre]) ?_
    exact And.intro trivial (AVle.of_eq (congrArg AV.str (show B _ ++ B _ ++ B [45] ++ B _ = _ by rw [e, B_app, B_app, B_app]; rfl)))
theorem DataKey_fn (t : Nat) (n w : Int) (ht : t ≤ 2) (hn : within n 0 999999 = true) (hw : within w 0 999999 = true) : VFn Tryz.prog 16 [.int .i64 (t : Int), .int .i64 n, .int .i64 w] (.tup [.str (B (keyB t n.toNat w.toNat)), .int .i64 0]) := by
  have c1 := isTier_fn (t : Int)
  rw [show within (t : Int) 0 2 = true by simp [within]; omega] at c1
  have c2 := isSix_fn n
  rw [hn] at c2
  have c3 := isSix_fn w
  rw [hw] at c3
  refine VFn.introC Tryz.call16 Tryz.func16 rfl rfl ?_
  conv => whnf
  refine CallC.sca _ (c1) ?_ ?_
  · exact rfl
  conv => whnf
  refine CallC.sca _ (c2) ?_ ?_
  · exact rfl
  conv => whnf
  refine CallC.sca _ (c3) ?_ ?_
  · exact rfl
  conv => whnf
  refine CallC.sca _ (dataKey_fn t n w ht hn hw) ?_ ?_
  · exact rfl
  exact And.intro trivial (AVle.refl _)
theorem windowOf_yes (e : En) (he : e.tier = 0) (t : List UInt8) (hl : t.length ≤ 1048576) (a b : Int) (hb : inI .i64 (b - 1)) (hr : rdOk t = true) : VFn Tryz.prog 70 [e.av, .str (B t), .int .i64 a, .int .i64 b] (.tup [(aggL (smpsIn (rdV t) a b)).av, .int .i64 0]) := by
  have cr := readSamples_gen t hl (.tup [smps (rdV t), .bool true]) (fun _ => rfl) (fun h => by rw [hr] at h; cases h)
  have h2 := hr
  simp only [rdOk, Bool.and_eq_true, decide_eq_true_eq] at h2
  have hb2 := smps_bd (L := rdV t) h2.2.1
  have hq := smpsIn_len (rdV t) a b
  refine VFn.introC Tryz.call70 Tryz.func70 rfl rfl ?_
  refine Grd.intro (fun g => ?_) (fun g => absurd he (of_decide_eq_false g))
  conv => whnf
  refine CallC.nl _ (cr) ?_ ?_
  · exact rfl
  conv => whnf
  refine CallC.nl _ (samplesIn_fn (rdV t) (by omega) a b hb) ?_ ?_
  · exact rfl
  conv => whnf
  refine CallC.sca _ (aggOf_fn (smpsIn (rdV t) a b) (by omega) (fun x hx => hb2.2 x (smpsIn_mem hx))) ?_ ?_
  · exact rfl
  exact And.intro trivial (AVle.refl _)
theorem windowOf_no (e : En) (he : e.tier = 0) (t : List UInt8) (hl : t.length ≤ 1048576) (a b : Int) (hr : rdOk t = false) : VFn Tryz.prog 70 [e.av, .str (B t), .int .i64 a, .int .i64 b] (.tup [(Ag.mk 0 0 0 0 0 0).av, .int .i64 17]) := by
  have cr := readSamples_gen t hl (.tup [.any, .bool false]) (fun h => by rw [hr] at h; cases h) (fun _ => rfl)
  refine VFn.introC Tryz.call70 Tryz.func70 rfl rfl ?_
  refine Grd.intro (fun g => ?_) (fun g => absurd he (of_decide_eq_false g))
  conv => whnf
  refine CallC.nl _ (cr) ?_ ?_
  · exact rfl
  exact And.intro trivial (AVle.refl _)
theorem WindowOf_fn (e : En) (he : e.ok = true) (t : List UInt8) (hl : t.length ≤ 65536) (a b : Int) (hab : isRange a b = true) (A : Ag) (c : Int) (hc : VFn Tryz.prog 70 [e.av, .str (B t), .int .i64 a, .int .i64 b] (.tup [A.av, .int .i64 c])) : VFn Tryz.prog 22 [e.av, .str (B t), .int .i64 a, .int .i64 b] (.tup [A.av, .int .i64 c]) := by
  have c1 := isLong_fn [t] (by simp)
  rw [show (!([t].all fun t => decide (t.length ≤ 65536))) = false by simp; omega] at c1
  have c2 := entryOK_fn e
  rw [he] at c2
  have c3 := isRange_fn a b
  rw [hab] at c3
  refine VFn.introC Tryz.call22 Tryz.func22 rfl rfl ?_
  refine DrawC.mk 19 rfl (by kernel_rfl) ?_
  refine PCallC.sca _ (c1.weak (AVsle.cons (AVle.sl1 rfl) AVsle.nil) (AVle.refl _)) rfl ?_
  refine PCallC.sca _ (c2) rfl ?_
  refine PCallC.sca _ (c3) rfl ?_
  refine PCallC.sca (.int .i64 0) (first_of [(false, 2), (false, 1), (false, 4)] (n := 6) ⟨rfl, rfl, rfl, rfl, rfl, rfl, trivial⟩ rfl (show 3 ≤ 1000 by decide)) rfl ?_
  conv => whnf
  refine CallC.sca _ (hc) ?_ ?_
  · exact rfl
  exact And.intro trivial (AVle.refl _)
theorem ModelFold_ok (L : List Smp) (h : smpsOK L = true) (a b : Int) (hab : isRange a b = true) (hb : inI .i64 (b - 1)) : VFn Tryz.prog 23 [smps L, .int .i64 a, .int .i64 b] (.tup [(aggL (smpsIn L a b)).av, .int .i64 0]) := by
  obtain ⟨h1, h2⟩ := smps_bd h
  have hq := smpsIn_len L a b
  have cm : VFn Tryz.prog 71 [smps L, .int .i64 a, .int .i64 b] (.int .i64 0) := by
    refine VFn.introC Tryz.call71 Tryz.func71 rfl rfl ?_
    conv => whnf
    refine CallC.sca _ (isLongSmp_fn L) ?_ ?_
    · exact rfl
    conv => whnf
    refine CallC.sca _ (SamplesOK_fn L) ?_ ?_
    · exact rfl
    conv => whnf
    refine CallC.sca _ (isRange_fn a b) ?_ ?_
    · exact rfl
    conv => whnf
    refine CallC.sca _ (first_of [(decide (4096 < L.length), 2), (!smpsOK L, 1), (!isRange a b, 4)] (n := 6) ⟨rfl, rfl, rfl, rfl, rfl, rfl, trivial⟩ rfl (show 3 ≤ 1000 by decide)) ?_ ?_
    · exact rfl
    exact And.intro trivial (AVle.of_eq (congrArg (AV.int .i64) (show firstC [(decide (4096 < L.length), 2), (!smpsOK L, 1), (!isRange a b, 4)] = 0 by rw [decide_eq_false (show ¬ 4096 < L.length by omega), h, hab]; rfl)))
  refine VFn.introC Tryz.call23 Tryz.func23 rfl rfl ?_
  conv => whnf
  refine CallC.sca _ (cm) ?_ ?_
  · exact rfl
  conv => whnf
  refine CallC.nl _ (samplesIn_fn L (by omega) a b hb) ?_ ?_
  · exact rfl
  conv => whnf
  refine CallC.sca _ (aggOf_fn (smpsIn L a b) (by omega) (fun x hx => h2 x (smpsIn_mem hx))) ?_ ?_
  · exact rfl
  exact And.intro trivial (AVle.refl _)
theorem pOk_no {w : List UInt8} {c : UInt8} (h61 : c ≠ 61) (h45 : c ≠ 45) (hc : c.toNat < 48 ∨ 57 < c.toNat) (h : c ∈ w) : pOk w = false := by
  have : numsK 61 2 w = none := by
    unfold numsK
    rw [if_neg]
    rintro ⟨_, h2⟩
    obtain ⟨p, hp, q⟩ := cutP_has 61 c h61 w [] (.inr h)
    have := List.all_eq_true.1 h2 p hp
    rw [numOk_58 h45 hc q] at this
    cases this
  unfold pOk; rw [this]; rfl
theorem rdOk_more (t : List UInt8) : rdOk (t ++ [120]) = false := by
  have e : wds (t ++ [120]) = cutP 32 [] (t ++ [120]) := by unfold wds; rw [if_neg (by simp)]
  obtain ⟨p, hp, q⟩ := cutP_has 32 120 (by decide) (t ++ [120]) [] (.inr (by simp))
  unfold rdOk
  rw [e]
  have : (cutP 32 [] (t ++ [120])).all pOk = false := by
    rw [Bool.eq_false_iff]
    intro h
    have := List.all_eq_true.1 h p hp
    rw [pOk_no (by decide) (by decide) (by decide) q] at this
    cases this
  rw [this]; rfl
end Go.Proofs.YtcpedmcomfimpaaGreatDoor
set_option linter.unusedVariables false
set_option linter.constructorNameAsVariable false
set_option linter.unusedSimpArgs false
set_option maxRecDepth 20000
namespace Go.Proofs.YtcpedmcomfimpaaGreatDoor
open Go Go.Vw

theorem law_Window (code : List UInt8) (hc : code.length ≤ 9223372036854775807) (more : List UInt8) (hm : more.length ≤ 9223372036854775807) : VFn Tryz.prog 4 [byts code, byts more] (.bool true) := by
  by_cases hL : 1048576 < code.length
  · refine VFn.introC Tryz.call4 Tryz.func4 rfl rfl ?_
    refine Grd.intro (fun _ => ?_) (fun h => absurd (of_decide_eq_false h) (by omega))
    exact And.intro trivial (AVle.refl _)
  by_cases hL2 : 1048576 < more.length
  · refine VFn.introC Tryz.call4 Tryz.func4 rfl rfl ?_
    refine Grd.intro (fun h => absurd (of_decide_eq_true h) (by omega)) (fun _ => ?_)
    refine Grd.intro (fun _ => ?_) (fun h => absurd (of_decide_eq_false h) (by omega))
    exact And.intro trivial (AVle.refl _)
  obtain ⟨L, ⟨hL3, h8⟩, cx⟩ := SamplesOf_ok code (by omega) 0 8 (by omega) (by omega)
  have h8 : L.length ≤ 8 := by omega
  have c1 := SamplesText_ok L hL3 h8
  obtain ⟨v, hv, cv⟩ := at_fn5 more 0 20 (by omega) (by omega) (by omega)
  obtain ⟨u, hu, cu⟩ := at_fn5 more 1 20 (by omega) (by omega) (by omega)
  have ck : VFn Tryz.prog 16 [.int .i64 0, .int .i64 1, .int .i64 2] (.tup [.str (B (keyB 0 1 2)), .int .i64 0]) := DataKey_fn 0 1 2 (by omega) rfl rfl
  have hk := key_fields (t := 0) (n := 1) (w := 2) (by omega) (by omega) (by omega)
  obtain ⟨K, hK⟩ : ∃ K, K = keyB 0 1 2 := ⟨_, rfl⟩
  rw [← hK] at ck hk
  have he : En.ok ⟨0, 0, 60, K⟩ = true := by
    unfold En.ok
    simp only [hk.1, hk.2.1]
    rfl
  have hab : isRange v (v + u) = true := by simp [isRange, within]; omega
  have hnum := smpsOK_num hL3
  have hlen := smpsText_len hnum
  have c5 := ModelFold_ok L hL3 v (v + u) hab (inI64 (by omega) (by omega))
  have w1 := windowOf_yes ⟨0, 0, 60, K⟩ rfl (smpsText L) (by omega) v (v + u) (inI64 (by omega) (by omega)) (rdOk_text hnum hL3 h8)
  rw [rdV_text hnum] at w1
  have w2 := windowOf_no ⟨0, 0, 60, K⟩ rfl (smpsText L ++ [120]) (by simp; omega) v (v + u) (rdOk_more _)
  generalize aggL (smpsIn L v (v + u)) = A at c5 w1
  have c4 := WindowOf_fn ⟨0, 0, 60, K⟩ he (smpsText L) (by omega) v (v + u) hab A 0 w1
  have c6 := WindowOf_fn ⟨0, 0, 60, K⟩ he (smpsText L ++ [120]) (by simp; omega) v (v + u) hab _ 17 w2
  rw [← B_app] at c6
  clear w1 w2
  generalize smpsText L = T at c1 c4 c6 hlen
  refine VFn.introC Tryz.call4 Tryz.func4 rfl rfl ?_
  refine Grd.intro (fun h => absurd (of_decide_eq_true h) (by omega)) (fun _ => ?_)
  refine Grd.intro (fun h => absurd (of_decide_eq_true h) (by omega)) (fun _ => ?_)
  conv => whnf
  refine CallC.nl _ (cx) ?_ ?_
  · exact rfl
  conv => whnf
  refine CallC.sca _ (c1) ?_ ?_
  · exact rfl
  conv => whnf
  refine CallC.sca _ (cv) ?_ ?_
  · exact rfl
  conv => whnf
  refine CallC.sca _ (cu) ?_ ?_
  · exact rfl
  refine And.intro (inI64 (by omega) (by omega)) ?_
  conv => whnf
  refine CallC.sca _ (ck) ?_ ?_
  · exact rfl
  conv => whnf
  refine CallC.sca _ (c4) ?_ ?_
  · exact rfl
  conv => whnf
  refine CallC.sca _ (c5) ?_ ?_
  · exact rfl
  refine And.intro (show (((B T).size + (B [120]).size : Nat) : Int) ≤ 9223372036854775807 by rw [B_size, B_size]; simp; omega) ?_
  conv => whnf
  refine CallC.sca _ (c6) ?_ ?_
  · exact rfl
  refine And.intro (by kernel_rfl) ?_
  refine Grd.intro (fun _ => ?_) (fun h => absurd h (by simp))
  exact And.intro trivial (AVle.refl _)
end Go.Proofs.YtcpedmcomfimpaaGreatDoor
