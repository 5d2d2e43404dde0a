/- Contracts of functions that the claim reaches, and the plain law of what they compute; each theorem bears its own conditions. -/
import Derived.Test.YtcpedmcomfimpaaQ1
import Derived.Test.YtcpedmcomfimpaaV50
set_option linter.unusedVariables false
set_option linter.constructorNameAsVariable false
set_option linter.unusedSimpArgs false
set_option maxRecDepth 20000
namespace Go.Proofs.Ytcpedmcomfimpaa
open Go Go.Vw

structure Act where
  k : Int
  who : Int
  n : Int
  tier : Int
  f : Int
  t : Int
  b : List Smp
def Act.av (a : Act) : AV := .agg [.int .i64 a.k, .int .i64 a.who, .int .i64 a.n, .int .i64 a.tier, .int .i64 a.f, .int .i64 a.t, smps a.b]
def isRange (f t : Int) : Bool := within f 0 100000 && within t f 100000
def Act.noR (a : Act) : Bool := decide (a.tier = 0) && decide (a.f = 0) && decide (a.t = 0)
def Act.noB (a : Act) : Bool := decide ((a.b.length : Int) = 0)
def Act.ok (a : Act) : Bool :=
  if a.k = 1 ∨ a.k = 2 then within a.who 0 6 && decide (a.n = 0) && a.noR && a.noB
  else if a.k = 3 then decide (a.who = 0) && within a.n 0 1000 && a.noR && a.noB
  else if a.k = 4 then within a.who 0 6 && within a.n (-3) 3 && a.noR && a.noB
  else if a.k = 5 then within a.who 2 3 && decide (a.n = 0) && a.noR && within a.b.length 1 8 && smpsOK a.b
  else if a.k = 6 then within a.who 4 5 && decide (a.n = 0) && within a.tier 0 2 && isRange a.f a.t && a.noB
  else false
theorem isRange_fn (f t : Int) : VFn Try.prog 17 [.int .i64 f, .int .i64 t] (.bool (isRange f t)) := by
  refine VFn.introC Try.call17 Try.func17 rfl rfl ?_
  repeat' (first
    | refine Grd.intro (fun h => ?_) (fun h => ?_)
    | refine And.intro trivial (AVle.of_eq (congrArg AV.bool ?_)))
  all_goals (simp_all [isRange, within]; try omega)
theorem l04Range_fn (f t : Int) : VFn Try.prog 22 [.int .i64 f, .int .i64 t] (.bool (isRange f t)) := by
  refine VFn.introC Try.call22 Try.func22 rfl rfl ?_
  conv => whnf
  refine CallC.sca _ (l01In_fn _ _ _) ?_ ?_
  · exact rfl
  refine Grd.intro (fun h => ?_) (fun h => ?_)
  · conv => whnf
    refine CallC.sca _ (l01In_fn _ _ _) ?_ ?_
    · exact rfl
    exact And.intro trivial (AVle.of_eq (congrArg AV.bool (by simp_all [isRange])))
  · exact And.intro trivial (AVle.of_eq (congrArg AV.bool (by simp_all [isRange])))
def mid (n : Int) : Prop := -1000000 ≤ n ∧ n ≤ 1000000
def Act.items (a : Act) : List It :=
  if a.k = 1 then [.t [115, 116, 101, 112], .n a.who]
  else if a.k = 2 then [.t [99, 114, 97, 115, 104], .n a.who]
  else if a.k = 3 then [.t [116, 105, 99, 107], .n a.n]
  else if a.k = 4 then [.t [115, 107, 101, 119], .n a.who, .n a.n]
  else if a.k = 5 then [.t [105, 110, 103, 101, 115, 116], .n a.who, .t (smpsText a.b)]
  else [.t [113, 117, 101, 114, 121], .n a.who, .n a.tier, .n a.f, .n a.t]
def Act.text (a : Act) : List UInt8 := Lib.join (a.items.map It.txt) [32]
def Act.res (a : Act) : List UInt8 := if a.ok = true then a.text else []
def Act.code (a : Act) : Int := if a.ok = true then 0 else 1
end Go.Proofs.Ytcpedmcomfimpaa
set_option linter.unusedVariables false
set_option linter.constructorNameAsVariable false
set_option linter.unusedSimpArgs false
set_option maxRecDepth 20000
namespace Go.Proofs.Ytcpedmcomfimpaa
open Go Go.Vw

def SSt (x : SS) (f : Int) (n : Nat) : Prop := (f ≤ x.2.1 ∧ x.2.1 ≤ f + 4 * n) ∧ (∀ e ∈ x.1, f ≤ e.t ∧ e.t < x.2.1) ∧ x.1.Pairwise (fun a b => a.t < b.t)
theorem step_t {x : SS} {f : Int} {n : Nat} {k : Int} (h : SSt x f n) (hs : x.2.2.ok k) (hk : 0 ≤ k) : SSt (smpStep x) f (n + 1) := by
  obtain ⟨⟨h1, h2⟩, h3, h4⟩ := h
  have n1 := next_b x.2.2 hs hk 4
  have a1 := n1.1.2 (by omega)
  have a0 := n1.1.1
  unfold smpStep
  refine ⟨⟨by simp only; omega, by simp only; omega⟩, fun e he => ?_, ?_⟩
  · simp only [List.mem_append, List.mem_cons, List.not_mem_nil, or_false] at he
    rcases he with he | he
    · have := h3 e he
      simp only; omega
    · subst he
      simp only; omega
  · refine List.pairwise_append.2 ⟨h4, List.pairwise_singleton _ _, fun a ha b hb => ?_⟩
    simp only [List.mem_cons, List.not_mem_nil, or_false] at hb
    subst hb
    have := h3 a ha
    simp only; omega
theorem it_t {x : SS} {f : Int} {k : Int} (h : SSok x 0 k) (ht : SSt x f 0) (hk : 0 ≤ k) : ∀ n, SSt (smpIt n x) f n
  | 0 => by simpa [smpIt] using ht
  | n + 1 => step_t (it_t h ht hk n) (it_ok h hk n).2.2.1 (by omega)
theorem pair_smps {L : List Smp} (h : L.Pairwise (fun a b => a.t < b.t)) (ht : ∀ e ∈ L, 0 ≤ e.t ∧ e.t ≤ 99999) (hv : ∀ e ∈ L, -1000000 ≤ e.v ∧ e.v ≤ 1000000) (hl : L.length ≤ 4096) : smpsOK L = true := by
  unfold smpsOK
  rw [decide_eq_true hl, Bool.true_and, allN_iff]
  intro i hi
  have a := ht _ (getD_mem hi)
  have b := hv _ (getD_mem hi)
  unfold smpAt
  simp only [Bool.and_eq_true, Bool.or_eq_true, decide_eq_true_eq, within]
  refine ⟨⟨⟨a.1, a.2⟩, ⟨b.1, b.2⟩⟩, ?_⟩
  rcases Nat.eq_zero_or_pos i with h0 | h0
  · exact .inl h0
  · right
    have := (List.pairwise_iff_getElem.1 h) (i - 1) i (by omega) hi (by omega)
    rw [ix_lt hi, ix_lt (by omega : i - 1 < L.length)]
    exact this
theorem SamplesOf_fn (code : List UInt8) (hc : code.length ≤ 1048576) (f n : Int) (hf : 0 ≤ f ∧ f ≤ 90000) (hn : 0 ≤ n ∧ n ≤ 1000) : VFn Try.prog 4 [byts code, .int .i64 f, .int .i64 n] (smps ((srcOf code).samples f n).1) := by
  refine VFn.introC Try.call4 Try.func4 rfl rfl ?_
  conv => whnf
  refine CallC.k [] (l00Source_fn code hc) rfl rfl (AVsle.refl _) trivial rfl ?_
  conv => whnf
  refine CallC.k [(0, 0)] (samples_fn (srcOf code) f n (wk (src_ok code hc) (by omega)) (by omega) hn) rfl rfl (AVsle.refl _) ⟨MOle.refl _, trivial⟩ rfl ?_
  exact And.intro trivial (AVle.refl _)
theorem at_fn5 (L : List UInt8) (i n : Int) (hm : L.length ≤ 1048576) (hi : 0 ≤ i ∧ i ≤ 1000) (hn : 1 < n ∧ n ≤ 1000) : ∃ v, (0 ≤ v ∧ v < n) ∧ VFn Try.prog 5 [byts L, .int .i64 i, .int .i64 n] (.int .i64 v) := by
  by_cases h0 : L.length = 0
  · refine ⟨(i * 7).tmod n, tmod_b (by omega) (by omega), ?_⟩
    refine VFn.introC Try.call5 Try.func5 rfl rfl ?_
    refine Grd.intro (fun h => absurd (of_decide_eq_true h) (by omega)) (fun _ => ?_)
    refine Grd.intro (fun h => ?_) (fun h => absurd (of_decide_eq_false h) (by omega))
    refine And.intro (inI64 (by omega) (by omega)) ?_
    refine And.intro (show n ≠ 0 by omega) ?_
    exact And.intro trivial (AVle.refl _)
  · have q1 := tmod_b (n := i) (m := L.length) (by omega) (by omega)
    have q2 := tmod_b (n := i + 1) (m := L.length) (by omega) (by omega)
    have q3 := tdiv_b (n := i) (m := L.length) (by omega) (by omega)
    have b1 := (ix L (i.tmod L.length).toNat).toNat_lt
    have b2 := (ix L ((i + 1).tmod L.length).toNat).toNat_lt
    refine ⟨(((ix L (i.tmod L.length).toNat).toNat : Int) * 31 + ((ix L ((i + 1).tmod L.length).toNat).toNat : Int) + i.tdiv L.length).tmod n, tmod_b (by omega) (by omega), ?_⟩
    refine VFn.introC Try.call5 Try.func5 rfl rfl ?_
    refine Grd.intro (fun h => absurd (of_decide_eq_true h) (by omega)) (fun _ => ?_)
    refine Grd.intro (fun h => absurd (of_decide_eq_true h) (by omega)) (fun h => ?_)
    refine DrawC.mk 25 rfl (by kernel_rfl) ?_
    refine And.intro (show (L.length : Int) ≠ 0 by omega) ?_
    refine And.intro q1 ?_
    refine And.intro (show inI .i64 _ from inI64 (by omega) (by omega)) ?_
    refine And.intro (show inI .i64 _ from inI64 (by omega) (by omega)) ?_
    refine And.intro (show inI .i64 (i + 1) from inI64 (by omega) (by omega)) ?_
    refine And.intro (show (L.length : Int) ≠ 0 by omega) ?_
    refine And.intro q2 ?_
    refine And.intro (show inI .i64 _ from inI64 (by omega) (by omega)) ?_
    refine And.intro (show inI .i64 _ from inI64 (by omega) (by omega)) ?_
    refine And.intro ⟨show (L.length : Int) ≠ 0 by omega, show inI .i64 (i.tdiv L.length) from inI64 (by omega) (by omega)⟩ ?_
    refine And.intro (show inI .i64 _ from inI64 (by omega) (by omega)) ?_
    refine And.intro (show n ≠ 0 by omega) ?_
    exact And.intro trivial (AVle.refl _)
theorem ModelFold_ok (L : List Smp) (h : smpsOK L = true) (a b : Int) (hab : isRange a b = true) (hb : inI .i64 (b - 1)) : VFn Try.prog 11 [smps L, .int .i64 a, .int .i64 b] (.tup [(aggL (smpsIn L a b)).av, .int .i64 0]) := by
  obtain ⟨h1, h2⟩ := smps_bd h
  have hq := smpsIn_len L a b
  have cm : VFn Try.prog 27 [smps L, .int .i64 a, .int .i64 b] (.int .i64 0) := by
    refine VFn.introC Try.call27 Try.func27 rfl rfl ?_
    conv => whnf
    refine CallC.sca _ (isLongSmp_fn L) ?_ ?_
    · exact rfl
    conv => whnf
    refine CallC.sca _ (SamplesOK_fn L) ?_ ?_
    · exact rfl
    conv => whnf
    refine CallC.sca _ (isRange_fn a b) ?_ ?_
    · exact rfl
    conv => whnf
    refine CallC.sca _ (first_of [(decide (4096 < L.length), 2), (!smpsOK L, 1), (!isRange a b, 4)] (n := 6) ⟨rfl, rfl, rfl, rfl, rfl, rfl, trivial⟩ rfl (show 3 ≤ 1000 by decide)) ?_ ?_
    · exact rfl
    exact And.intro trivial (AVle.of_eq (congrArg (AV.int .i64) (show firstC [(decide (4096 < L.length), 2), (!smpsOK L, 1), (!isRange a b, 4)] = 0 by rw [decide_eq_false (show ¬ 4096 < L.length by omega), h, hab]; rfl)))
  refine VFn.introC Try.call11 Try.func11 rfl rfl ?_
  conv => whnf
  refine CallC.sca _ (cm) ?_ ?_
  · exact rfl
  conv => whnf
  refine CallC.nl _ (samplesIn_fn L (by omega) a b hb) ?_ ?_
  · exact rfl
  conv => whnf
  refine CallC.sca _ (aggOf_fn (smpsIn L a b) (by omega) (fun x hx => h2 x (smpsIn_mem hx))) ?_ ?_
  · exact rfl
  exact And.intro trivial (AVle.refl _)
def bkt (f : Int) (a : Ag) : List Bk := if a.c = 0 then [] else [⟨f, a⟩]
theorem bucketOf_fn (f : Int) (a : Ag) : VFn Try.prog 18 [.int .i64 f, a.av] (bks (bkt f a)) := by
  obtain ⟨R, hR⟩ : ∃ R, R = bkt f a := ⟨_, rfl⟩
  rw [← hR]
  refine VFn.introC Try.call18 Try.func18 rfl rfl ?_
  refine Grd.intro (fun g => ?_) (fun g => ?_)
  · rw [bkt, if_pos (show a.c = 0 from of_decide_eq_true g)] at hR
    subst hR
    exact And.intro trivial (AVle.nilsl _ _ rfl)
  · rw [bkt, if_neg (show ¬ a.c = 0 from of_decide_eq_false g)] at hR
    subst hR
    exact And.intro trivial (AVle.sl1 rfl)
theorem bkt_len (f : Int) (a : Ag) : (bkt f a).length ≤ 1 := by
  unfold bkt; split <;> simp
theorem sameBuckets_fn (L : List Bk) (hL : L.length ≤ 1000000) : VFn Try.prog 8 [bks L, bks L] (.bool true) := by
  refine VFn.introC Try.call8 Try.func8 rfl rfl ?_
  refine Grd.intro (fun h => absurd h (by simp)) (fun _ => ?_)
  refine LoopC.mk (fun i : Nat => i ≤ L.length) (fun i => [(0, bks L), (1, bks L), (5, .int .i64 i)]) (fun i => []) 0 (fun i => L.length - i) 0
    ⟨Nat.zero_le _, [], rfl, rfl, ⟨AVle.refl _, AVle.refl _, AVle.refl _, trivial⟩, trivial⟩ ?_
  intro i hi
  refine Grd.intro (fun h2 => ?_) (fun h2 => ?_)
  · have hin : i < L.length := by have := of_decide_eq_true h2; omega
    refine DrawC.mk 9 rfl (by kernel_rfl) ?_
    refine And.intro (by omega) ?_
    refine And.intro (by omega) ?_
    refine And.intro (by kernel_rfl) ?_
    refine Grd.intro (fun h => absurd h (by simp)) (fun _ => ?_)
    refine And.intro (inI64 (by omega) (by omega)) ?_
    exact ⟨i + 1, hin, by omega, [], rfl, rfl, ⟨AVle.refl _, AVle.refl _, AVle.of_eq (congrArg (AV.int .i64) (by simp)), trivial⟩, trivial⟩
  · exact And.intro trivial (AVle.refl _)
theorem bks_8 {L : List Bk} (h : bksOK L = true) : L.length ≤ 8 := by
  unfold bksOK at h
  rw [Bool.and_eq_true] at h
  exact of_decide_eq_true h.1
theorem SamplesOf_own (code : List UInt8) (hc : code.length ≤ 1048576) (f n : Int) (hf : 0 ≤ f ∧ f ≤ 90000) (hn : 0 ≤ n ∧ n ≤ 1000) : FnM Try.prog 4 0 [byts code, .int .i64 f, .int .i64 n] [] (.osl 1) [(1, .arr 43 2 ((srcOf code).samples f n).1.length fun i => (ix ((srcOf code).samples f n).1 i).row)] 2 := by
  refine FnM.introC Try.call4 Try.func4 rfl rfl ?_
  conv => whnf
  refine CallC.k [] (l00Source_fn code hc) rfl rfl (AVsle.refl _) trivial rfl ?_
  conv => whnf
  refine CallC.k [(0, 0)] (samples_fn (srcOf code) f n (wk (src_ok code hc) (by omega)) (by omega) hn) rfl rfl (AVsle.refl _) ⟨MOle.refl _, trivial⟩ rfl ?_
  exact And.intro trivial ⟨[(1, 1)], rfl, AVle.refl _, ⟨MOle.refl _, trivial⟩⟩
theorem Downsample_ok (L : List Smp) (h : smpsOK L = true) (a b : Int) (hab : isRange a b = true) (hb : inI .i64 (b - 1)) : VFn Try.prog 6 [smps L, .int .i64 a, .int .i64 b] (.tup [bks (bkt a (aggL (smpsIn L a b))), .int .i64 0]) := by
  obtain ⟨h1, h2⟩ := smps_bd h
  have hq := smpsIn_len L a b
  refine VFn.introC Try.call6 Try.func6 rfl rfl ?_
  conv => whnf
  refine CallC.sca _ (isLongSmp_fn L) ?_ ?_
  · exact rfl
  conv => whnf
  refine CallC.sca _ (SamplesOK_fn L) ?_ ?_
  · exact rfl
  conv => whnf
  refine CallC.sca _ (isRange_fn a b) ?_ ?_
  · exact rfl
  conv => whnf
  refine CallC.sca _ (first_of [(decide (4096 < L.length), 2), (!smpsOK L, 1), (!isRange a b, 4)] (n := 6) ⟨rfl, rfl, rfl, rfl, rfl, rfl, trivial⟩ rfl (show 3 ≤ 1000 by decide)) ?_ ?_
  · exact rfl
  rw [show firstC [(decide (4096 < L.length), 2), (!smpsOK L, 1), (!isRange a b, 4)] = 0 by rw [decide_eq_false (show ¬ 4096 < L.length by omega), h, hab]; rfl]
  conv => whnf
  refine CallC.nl _ (samplesIn_fn L (by omega) a b hb) ?_ ?_
  · exact rfl
  conv => whnf
  refine CallC.sca _ (aggOf_fn (smpsIn L a b) (by omega) (fun x hx => h2 x (smpsIn_mem hx))) ?_ ?_
  · exact rfl
  conv => whnf
  refine CallC.nl _ (bucketOf_fn a (aggL (smpsIn L a b))) ?_ ?_
  · exact rfl
  exact And.intro trivial (AVle.refl _)
theorem l04Down_fn (L : List Smp) (h : smpsOK L = true) (a b : Int) (hb : inI .i64 (b - 1)) : VFn Try.prog 23 [smps L, .int .i64 a, .int .i64 b] (bks (bkt a (aggL (smpsIn L a b)))) := by
  obtain ⟨h1, h2⟩ := smps_bd h
  have hq := smpsIn_len L a b
  have hl := fun i => Nat.le_trans (smpsIn_len (L.take i) a b) (by simp; omega : (L.take i).length ≤ i)
  obtain ⟨R, hR⟩ : ∃ R, R = bkt a (aggL (smpsIn L a b)) := ⟨_, rfl⟩
  rw [← hR]
  refine VFn.introC Try.call23 Try.func23 rfl rfl ?_
  refine LoopC.mk (fun i : Nat => i ≤ L.length) (fun i => [(0, smps L), (1, .int .i64 a), (2, .int .i64 b), (7, .osl 0), (8, .int .i64 i)])
    (fun i => [(0, .arr 43 2 (smpsIn (L.take i) a b).length fun j => (ix (smpsIn (L.take i) a b) j).row)]) 1 (fun i => L.length - i) 0
    ⟨Nat.zero_le _, [(0, 0)], rfl, rfl, ⟨AVle.refl _, AVle.refl _, AVle.refl _, AVle.refl _, AVle.refl _, trivial⟩, ⟨MOle.arr rfl fun i hi => absurd hi (Nat.not_lt_zero i), trivial⟩⟩ ?_
  intro i hi
  refine Grd.intro (fun g => ?_) (fun g => ?_)
  · have hin : i < L.length := by have := of_decide_eq_true g; omega
    refine And.intro (by omega) ?_
    refine And.intro hb ?_
    conv => whnf
    refine CallC.sca _ (l01In_fn (ix L i).t a (b - 1)) ?_ ?_
    · exact rfl
    refine Grd.intro (fun h3 => ?_) (fun h3 => ?_)
    · have hs := smpsIn_yes hin h3
      refine And.intro (by omega) ?_
      refine And.intro ⟨show ((smpsIn (L.take i) a b).length + 1) * 16 ≤ 140737488355328 by have := hl i; omega, all1 rfl⟩ ?_
      refine And.intro (inI64 (by omega) (by omega)) ?_
      exact ⟨i + 1, hin, by omega, [(2, 0)], rfl, rfl, ⟨AVle.refl _, AVle.refl _, AVle.refl _, AVle.refl _, AVle.of_eq (congrArg (AV.int .i64) (by simp)), trivial⟩, ⟨arr_next (f := Smp.row) hs rfl, trivial⟩⟩
    · have hs := smpsIn_no hin h3
      refine And.intro (inI64 (by omega) (by omega)) ?_
      exact ⟨i + 1, hin, by omega, [(0, 0)], rfl, rfl, ⟨AVle.refl _, AVle.refl _, AVle.refl _, AVle.refl _, AVle.of_eq (congrArg (AV.int .i64) (by simp)), trivial⟩, ⟨MOle.of_eq (show MO.arr 43 2 (smpsIn (L.take i) a b).length (fun j => (ix (smpsIn (L.take i) a b) j).row) = _ by rw [hs]), trivial⟩⟩
  · have : i = L.length := by have := of_decide_eq_false g; omega
    subst this
    have e : smpsIn (L.take L.length) a b = smpsIn L a b := by rw [List.take_of_length_le (Nat.le_refl _)]
    rw [e]
    have c := l02Of_fn (smpsIn L a b) (by omega) (fun x hx => h2 x (smpsIn_mem hx))
    have hB := aggL_bd (L := smpsIn L a b) (by omega) (fun x hx => h2 x (smpsIn_mem hx))
    refine Grd.intro (fun g2 => ?_) (fun g2 => ?_)
    · have g2 : ((smpsIn L a b).length : Int) = 0 := of_decide_eq_true g2
      rw [bkt, if_pos (by rw [hB.1, g2])] at hR
      subst hR
      exact And.intro trivial (AVle.sl rfl fun j hj => absurd hj (Nat.not_lt_zero j))
    · have g2 : ¬ ((smpsIn L a b).length : Int) = 0 := of_decide_eq_false g2
      rw [bkt, if_neg (by rw [hB.1]; exact g2)] at hR
      conv => whnf
      refine CallC.sca _ (c) ?_ ?_
      · exact rfl
      subst hR
      exact And.intro trivial (AVle.sl1 rfl)
theorem specDownsample_ok (L : List Smp) (h : smpsOK L = true) (a b : Int) (hab : isRange a b = true) (hb : inI .i64 (b - 1)) : VFn Try.prog 7 [smps L, .int .i64 a, .int .i64 b] (.tup [bks (bkt a (aggL (smpsIn L a b))), .int .i64 0]) := by
  have h1 := (smps_bd h).1
  have c1 := specSamplesOK_fn L
  rw [h] at c1
  have c2 := l04Range_fn a b
  rw [hab] at c2
  refine VFn.introC Try.call7 Try.func7 rfl rfl ?_
  refine Grd.intro (fun g => absurd (of_decide_eq_true g) (by omega)) (fun _ => ?_)
  conv => whnf
  refine CallC.sca _ (c1) ?_ ?_
  · exact rfl
  conv => whnf
  refine CallC.sca _ (c2) ?_ ?_
  · exact rfl
  conv => whnf
  refine CallC.nl _ (l04Down_fn L h a b hb) ?_ ?_
  · exact rfl
  exact And.intro trivial (AVle.refl _)
def fB (P : List Bk) : Ag := P.foldl (fun x b => x.mrg b.a) default
def nB (P : List Bk) : Int := P.foldl (fun n b => n + b.a.c) 0
theorem fB_snoc {P : List Bk} {i : Nat} (h : i < P.length) : fB (P.take (i + 1)) = (fB (P.take i)).mrg (ix P i).a := by
  unfold fB; rw [take_snoc h, List.foldl_append]; rfl
theorem nB_snoc {P : List Bk} {i : Nat} (h : i < P.length) : nB (P.take (i + 1)) = nB (P.take i) + (ix P i).a.c := by
  unfold nB; rw [take_snoc h, List.foldl_append]; rfl
def smallB (b : Bk) : Prop := (0 ≤ b.a.c ∧ b.a.c ≤ 1000) ∧ (-1000000000 ≤ b.a.s ∧ b.a.s ≤ 1000000000)
theorem fB_b {P : List Bk} (hP : ∀ b ∈ P, smallB b) : ∀ i : Nat, i ≤ P.length → ((0 ≤ (fB (P.take i)).c ∧ (fB (P.take i)).c ≤ 1000 * i) ∧ (-1000000000 * (i : Int) ≤ (fB (P.take i)).s ∧ (fB (P.take i)).s ≤ 1000000000 * i)) ∧ (0 ≤ nB (P.take i) ∧ nB (P.take i) ≤ 1000 * i)
  | 0, _ => by simp [fB, nB, default]
  | i + 1, h => by
    have ih := fB_b hP i (by omega)
    have hb := hP _ (getD_mem (L := P) h)
    unfold smallB at hb
    rw [fB_snoc h, nB_snoc h]
    generalize fB (P.take i) = A at ih
    generalize nB (P.take i) = n at ih
    have hb' : (0 ≤ (ix P i).a.c ∧ (ix P i).a.c ≤ 1000) ∧ (-1000000000 ≤ (ix P i).a.s ∧ (ix P i).a.s ≤ 1000000000) := hb
    refine ⟨?_, by omega, by omega⟩
    unfold Ag.mrg
    split
    · refine ⟨⟨by omega, by omega⟩, by omega, by omega⟩
    · split
      · refine ⟨⟨by omega, by omega⟩, by omega, by omega⟩
      · simp only
        refine ⟨⟨by omega, by omega⟩, by omega, by omega⟩
theorem fold_fn (P : List Bk) (hl : P.length ≤ 8) (hP : ∀ b ∈ P, smallB b) (a b : Int) (hin : ∀ x ∈ P, within x.t a (b - 1) = true) (hb : inI .i64 (b - 1)) : VFn Try.prog 26 [bks P, .int .i64 a, .int .i64 b] (.tup [(fB P).av, .int .i64 0]) := by
  have hB := fB_b hP
  refine VFn.introC Try.call26 Try.func26 rfl rfl ?_
  refine LoopC.mk (fun i : Nat => i ≤ P.length) (fun i => [(1, .int .i64 a), (2, .int .i64 b), (6, .bptr 0 0), (7, .int .i64 0), (8, .bptr 1 0), (9, .int .i64 (nB (P.take i))), (13, bks P), (14, .int .i64 P.length), (15, .int .i64 i)])
    (fun i => [(0, .box [.int .i64 0, .int .i64 0, .int .i64 0, .int .i64 0, .int .i64 0, .int .i64 0]), (1, .box (fB (P.take i)).cells)]) 2 (fun i => P.length - i) 0
    ⟨Nat.zero_le _, [(0, 0), (1, 1)], rfl, rfl, ⟨AVle.refl _, AVle.refl _, AVle.refl _, AVle.refl _, AVle.refl _, AVle.refl _, AVle.refl _, AVle.refl _, AVle.refl _, trivial⟩, ⟨MOle.refl _, MOle.refl _, trivial⟩⟩ ?_
  intro i hi
  refine Grd.intro (fun g => ?_) (fun g => ?_)
  · have hi2 : i < P.length := by have := of_decide_eq_true g; omega
    have q := hB i hi
    have qb : (0 ≤ (ix P i).a.c ∧ (ix P i).a.c ≤ 1000) ∧ (-1000000000 ≤ (ix P i).a.s ∧ (ix P i).a.s ≤ 1000000000) := hP _ (getD_mem hi2)
    have cw := within_fn (ix P i).t a (b - 1)
    rw [hin _ (getD_mem hi2)] at cw
    refine And.intro (by omega) ?_
    refine And.intro (show inI .i64 (nB (P.take i) + (ix P i).a.c) from inI64 (by omega) (by omega)) ?_
    refine And.intro hb ?_
    conv => whnf
    refine CallC.sca _ (cw) ?_ ?_
    · exact rfl
    conv => whnf
    refine CallC.sca _ (merged_fn (fB (P.take i)) (ix P i).a (inI64 (by omega) (by omega)) (inI64 (by omega) (by omega))) ?_ ?_
    · exact rfl
    refine And.intro (inI64 (by omega) (by omega)) ?_
    exact ⟨i + 1, hi2, by omega, [(0, 0), (1, 1)], rfl, rfl, ⟨AVle.refl _, AVle.refl _, AVle.refl _, AVle.refl _, AVle.refl _, AVle.of_eq (congrArg (AV.int .i64) (nB_snoc hi2).symm), AVle.refl _, AVle.refl _, AVle.of_eq (congrArg (AV.int .i64) (by simp)), trivial⟩, ⟨MOle.refl _, MOle.of_eq (show MO.box ((fB (P.take i)).mrg (ix P i).a).cells = _ by rw [fB_snoc hi2]), trivial⟩⟩
  · have : i = P.length := by have := of_decide_eq_false g; omega
    subst this
    have q := hB P.length (Nat.le_refl _)
    have e : P.take P.length = P := List.take_of_length_le (Nat.le_refl _)
    rw [e] at q ⊢
    refine Grd.intro (fun g2 => absurd (of_decide_eq_true g2) (by omega)) (fun _ => ?_)
    exact And.intro trivial (AVle.refl _)
theorem FoldRange_fn (P : List Bk) (hk : bksOK P = true) (hP : ∀ b ∈ P, smallB b) (a b : Int) (hab : isRange a b = true) (hin : ∀ x ∈ P, within x.t a (b - 1) = true) (hb : inI .i64 (b - 1)) : VFn Try.prog 10 [bks P, .int .i64 a, .int .i64 b] (.tup [(fB P).av, .int .i64 0]) := by
  have hl := bks_8 hk
  refine VFn.introC Try.call10 Try.func10 rfl rfl ?_
  conv => whnf
  refine CallC.sca _ (isLongBk_fn P) ?_ ?_
  · exact rfl
  conv => whnf
  refine CallC.sca _ (BucketsOK_fn P) ?_ ?_
  · exact rfl
  conv => whnf
  refine CallC.sca _ (isRange_fn a b) ?_ ?_
  · exact rfl
  conv => whnf
  refine CallC.sca _ (first_of [(decide (4096 < P.length), 2), (!bksOK P, 1), (!isRange a b, 4)] (n := 6) ⟨rfl, rfl, rfl, rfl, rfl, rfl, trivial⟩ rfl (show 3 ≤ 1000 by decide)) ?_ ?_
  · exact rfl
  rw [show firstC [(decide (4096 < P.length), 2), (!bksOK P, 1), (!isRange a b, 4)] = 0 by rw [decide_eq_false (show ¬ 4096 < P.length by omega), hk, hab]; rfl]
  conv => whnf
  refine CallC.sca _ (fold_fn P hl hP a b hin hb) ?_ ?_
  · exact rfl
  exact And.intro trivial (AVle.refl _)
theorem RollUp_fn (P : List Bk) (hk : bksOK P = true) (hP : ∀ b ∈ P, smallB b) (a b : Int) (hab : isRange a b = true) (hin : ∀ x ∈ P, within x.t a (b - 1) = true) (hb : inI .i64 (b - 1)) : VFn Try.prog 9 [bks P, .int .i64 a, .int .i64 b] (.tup [bks (bkt a (fB P)), .int .i64 0]) := by
  refine VFn.introC Try.call9 Try.func9 rfl rfl ?_
  conv => whnf
  refine CallC.sca _ (FoldRange_fn P hk hP a b hab hin hb) ?_ ?_
  · exact rfl
  conv => whnf
  refine CallC.nl _ (bucketOf_fn a (fB P)) ?_ ?_
  · exact rfl
  exact And.intro trivial (AVle.refl _)
end Go.Proofs.Ytcpedmcomfimpaa
set_option linter.unusedVariables false
set_option linter.constructorNameAsVariable false
set_option linter.unusedSimpArgs false
set_option maxRecDepth 20000
namespace Go.Proofs.Ytcpedmcomfimpaa
open Go Go.Vw

theorem mrg_assoc {a b c : Ag} (ha : 0 ≤ a.c) (hb : 0 ≤ b.c) (hc : 0 ≤ c.c) : (a.mrg b).mrg c = a.mrg (b.mrg c) := by
  obtain ⟨ac, as', amn, amx, af, al⟩ := a
  obtain ⟨bc, bs, bmn, bmx, bf, bl⟩ := b
  obtain ⟨cc, cs, cmn, cmx, cf, cl⟩ := c
  simp only at ha hb hc
  unfold Ag.mrg
  by_cases h1 : ac = 0
  · simp [h1]
  by_cases h2 : bc = 0
  · simp [h1, h2]
  by_cases h3 : cc = 0
  · have : ¬ ac + bc = 0 := by omega
    simp [h1, h2, h3, this]
  have h4 : ¬ ac + bc = 0 := by omega
  have h5 : ¬ bc + cc = 0 := by omega
  simp only [h1, h2, h3, h4, h5, if_false]
  congr 1
  · omega
  · omega
  · split <;> split <;> (try split) <;> omega
  · split <;> split <;> (try split) <;> omega
theorem aggL_c {L : List Smp} : ∀ i : Nat, i ≤ L.length → (aggL (L.take i)).c = i
  | 0, _ => rfl
  | i + 1, h => by
    have ih := aggL_c (L := L) i (by omega)
    rw [aggL_snoc h]
    unfold Ag.mrg
    split
    · rename_i h0
      rw [ih] at h0
      simp only [one]; omega
    · rw [if_neg (show ¬ (one (ix L i).v).c = 0 by simp [one])]
      simp only [one]; omega
theorem aggL_len (L : List Smp) : (aggL L).c = L.length := by
  have := aggL_c (L := L) L.length (Nat.le_refl _)
  rwa [List.take_of_length_le (Nat.le_refl _)] at this
theorem aggL_nil_of {L : List Smp} (h : (aggL L).c = 0) : L = [] := by
  rw [aggL_len] at h
  exact List.length_eq_zero_iff.1 (by omega)
theorem mrg_nul (L : List Smp) : (aggL L).mrg default = aggL L := by
  unfold Ag.mrg
  split
  · rename_i h
    rw [aggL_nil_of h]; rfl
  · rw [if_pos (show (default : Ag).c = 0 from rfl)]
theorem aggL_cat (X Y : List Smp) : aggL (X ++ Y) = (aggL X).mrg (aggL Y) := by
  have key : ∀ i : Nat, i ≤ Y.length → aggL (X ++ Y.take i) = (aggL X).mrg (aggL (Y.take i)) := by
    intro i
    induction i with
    | zero => intro _; rw [List.take_zero, List.append_nil]; exact (mrg_nul X).symm
    | succ i ih =>
      intro h
      rw [take_snoc h, ← List.append_assoc, aggL_app, ih (by omega), aggL_app]
      refine mrg_assoc ?_ ?_ ?_
      · rw [aggL_len]; omega
      · rw [aggL_len]; omega
      · simp [one]
  have := key Y.length (Nat.le_refl _)
  rwa [List.take_of_length_le (Nat.le_refl _)] at this
theorem smpsIn_split {a b c : Int} (hab : a ≤ b) (hbc : b ≤ c) : ∀ {L : List Smp}, L.Pairwise (fun x y => x.t < y.t) → smpsIn L a b ++ smpsIn L b c = smpsIn L a c
  | [], _ => rfl
  | x :: r, h => by
    obtain ⟨h1, h2⟩ := List.pairwise_cons.1 h
    have ih := smpsIn_split hab hbc h2
    have e : ∀ p q, smpsIn (x :: r) p q = if within x.t p (q - 1) = true then x :: smpsIn r p q else smpsIn r p q := fun p q => by unfold smpsIn; rw [List.filter_cons]
    rw [e, e, e]
    by_cases q1 : within x.t a (b - 1) = true
    · have q2 : ¬ within x.t b (c - 1) = true := by simp [within] at q1 ⊢; omega
      have q3 : within x.t a (c - 1) = true := by simp [within] at q1 ⊢; omega
      rw [if_pos q1, if_neg q2, if_pos q3, List.cons_append, ih]
    · by_cases q2 : within x.t b (c - 1) = true
      · have q3 : within x.t a (c - 1) = true := by simp [within] at q2 ⊢; omega
        have q4 : smpsIn r a b = [] := by
          unfold smpsIn
          refine List.filter_eq_nil_iff.2 fun y hy => ?_
          have := h1 y hy
          simp [within] at q2 ⊢; omega
        rw [if_neg q1, if_pos q2, if_pos q3, ← ih, q4]; rfl
      · have q3 : ¬ within x.t a (c - 1) = true := by simp [within] at q1 q2 ⊢; omega
        rw [if_neg q1, if_neg q2, if_neg q3, ih]
def pt (L : List Smp) (f : Int) (i : Nat) : List Bk := bkt (f + 5 * (i : Int)) (aggL (smpsIn L (f + 5 * (i : Int)) (f + 5 * (i : Int) + 5)))
def parts (L : List Smp) (f : Int) : Nat → List Bk
  | 0 => []
  | i + 1 => parts L f i ++ pt L f i
theorem fB_cat (P Q : List Bk) : fB (P ++ Q) = Q.foldl (fun x b => x.mrg b.a) (fB P) := by unfold fB; rw [List.foldl_append]
theorem parts_fold {L : List Smp} (h : L.Pairwise (fun x y => x.t < y.t)) (f : Int) : ∀ i : Nat, fB (parts L f i) = aggL (smpsIn L f (f + 5 * (i : Int)))
  | 0 => by
    have e : smpsIn L f (f + 5 * ((0 : Nat) : Int)) = [] := by
      unfold smpsIn
      refine List.filter_eq_nil_iff.2 fun y hy => ?_
      simp [within]; omega
    rw [e]; rfl
  | i + 1 => by
    have ih := parts_fold h f i
    have e : smpsIn L f (f + 5 * ((i + 1 : Nat) : Int)) = smpsIn L f (f + 5 * (i : Int)) ++ smpsIn L (f + 5 * (i : Int)) (f + 5 * (i : Int) + 5) := by
      rw [show f + 5 * ((i + 1 : Nat) : Int) = f + 5 * (i : Int) + 5 by omega]
      exact (smpsIn_split (by omega) (by omega) h).symm
    rw [e, aggL_cat, ← ih]
    show fB (parts L f i ++ pt L f i) = _
    rw [fB_cat]
    unfold pt bkt
    split
    · rename_i h0
      rw [aggL_nil_of h0]
      rw [ih]
      exact (mrg_nul _).symm
    · rfl
structure PtsOk (L : List Smp) (f : Int) (P : List Bk) (i : Nat) : Prop where
  len : P.length ≤ i
  mem : ∀ b ∈ P, (f ≤ b.t ∧ b.t < f + 5 * (i : Int)) ∧ (smallB b ∧ (b.a.ok = true ∧ b.a.c ≠ 0))
  pw : P.Pairwise (fun a b => a.t < b.t)
theorem parts_ok {L : List Smp} (hl : L.length ≤ 100) (hv : ∀ e ∈ L, -1000000 ≤ e.v ∧ e.v ≤ 1000000) (f : Int) : ∀ i : Nat, PtsOk L f (parts L f i) i
  | 0 => ⟨Nat.le_refl _, by simp [parts], List.Pairwise.nil⟩
  | i + 1 => by
    have ih := parts_ok hl hv f i
    have hq := smpsIn_len L (f + 5 * (i : Int)) (f + 5 * (i : Int) + 5)
    have hB := aggL_bd (L := smpsIn L (f + 5 * (i : Int)) (f + 5 * (i : Int) + 5)) (by omega) (fun x hx => hv x (smpsIn_mem hx))
    have hk := B_ok hB (by omega)
    have e : parts L f (i + 1) = parts L f i ++ pt L f i := rfl
    rw [e]
    unfold pt bkt
    split
    · rw [List.append_nil]
      exact ⟨by have := ih.len; omega, fun b hb => by have := ih.mem b hb; exact ⟨by omega, this.2⟩, ih.pw⟩
    · rename_i h0
      refine ⟨by have := ih.len; simp; omega, fun b hb => ?_, ?_⟩
      · rcases List.mem_append.1 hb with hb | hb
        · have := ih.mem b hb; exact ⟨by omega, this.2⟩
        · rw [List.mem_singleton.1 hb]
          refine ⟨⟨by simp only; omega, by simp only; omega⟩, ⟨⟨?_, ?_⟩, ⟨hk, h0⟩⟩⟩
          · have := hB.1; simp only; omega
          · have := hB.2.1; simp only; omega
      · refine List.pairwise_append.2 ⟨ih.pw, List.pairwise_singleton _ _, fun a ha b hb => ?_⟩
        rw [List.mem_singleton.1 hb]
        have := ih.mem a ha
        simp only; omega
theorem pts_bks {L : List Smp} {f : Int} {P : List Bk} (hf : 0 ≤ f ∧ f ≤ 1000) (h : PtsOk L f P 4) : bksOK P = true := by
  have hl := h.len
  unfold bksOK
  rw [decide_eq_true (by omega), Bool.true_and, allN_iff]
  intro i hi
  have a := h.mem _ (getD_mem hi)
  unfold bkAt
  simp only [Bool.and_eq_true, Bool.or_eq_true, decide_eq_true_eq, within, Bool.not_eq_true', decide_eq_false_iff_not]
  refine ⟨⟨⟨⟨by omega, by omega⟩, a.2.2.1⟩, a.2.2.2⟩, ?_⟩
  rcases Nat.eq_zero_or_pos i with h0 | h0
  · exact .inl h0
  · right
    have := (List.pairwise_iff_getElem.1 h.pw) (i - 1) i (by omega) hi (by omega)
    rw [ix_lt hi, ix_lt (by omega : i - 1 < P.length)]
    exact this
theorem drawn_t (s : Src) (f n : Int) (h : s.ok 1000000) (hf : 0 ≤ f ∧ f ≤ 90000) (hn : 0 ≤ n ∧ n ≤ 1000) : (s.samples f n).1.Pairwise (fun a b => a.t < b.t) ∧ (∀ e ∈ (s.samples f n).1, (f ≤ e.t ∧ e.t < f + 4 * n) ∧ (-1000000 ≤ e.v ∧ e.v ≤ 1000000)) ∧ ((s.samples f n).1.length : Int) ≤ n := by
  have n0 := next_b s h (by omega) (n + 1)
  have hm := n0.1.2 (by omega)
  have hm0 := n0.1.1
  have h0 : SSok ([], f, (s.next (n + 1)).2) 0 1000003 := ⟨rfl, by simp, n0.2.1, by simp only; omega⟩
  have t0 : SSt ([], f, (s.next (n + 1)).2) f 0 := ⟨⟨Int.le_refl _, by simp⟩, by simp, List.Pairwise.nil⟩
  have a := it_ok h0 (by omega) (s.next (n + 1)).1.toNat
  have b := it_t h0 t0 (by omega) (s.next (n + 1)).1.toNat
  unfold Src.samples
  obtain ⟨a1, a2, _, _⟩ := a
  obtain ⟨⟨b1, b2⟩, b3, b4⟩ := b
  refine ⟨b4, fun e he => ⟨?_, a2 e he⟩, by omega⟩
  have := b3 e he
  omega
theorem law_Down (code : List UInt8) (hc : code.length ≤ 9223372036854775807) (more : List UInt8) (hm : more.length ≤ 9223372036854775807) : VFn Try.prog 3 [byts code, byts more] (.bool true) := by
  by_cases hL : 1048576 < code.length
  · refine VFn.introC Try.call3 Try.func3 rfl rfl ?_
    refine Grd.intro (fun _ => ?_) (fun h => absurd (of_decide_eq_false h) (by omega))
    exact And.intro trivial (AVle.refl _)
  by_cases hL2 : 1048576 < more.length
  · refine VFn.introC Try.call3 Try.func3 rfl rfl ?_
    refine Grd.intro (fun h => absurd (of_decide_eq_true h) (by omega)) (fun _ => ?_)
    refine Grd.intro (fun _ => ?_) (fun h => absurd (of_decide_eq_false h) (by omega))
    exact And.intro trivial (AVle.refl _)
  have cx := SamplesOf_own code (by omega) 0 5 (by omega) (by omega)
  have cy := SamplesOf_fn more (by omega) 20 5 (by omega) (by omega)
  obtain ⟨p1, p2, p3⟩ := drawn_t (srcOf code) 0 5 (wk (src_ok code (by omega)) (by omega)) (by omega) (by omega)
  obtain ⟨q1, q2, q3⟩ := drawn_t (srcOf more) 20 5 (wk (src_ok more (by omega)) (by omega)) (by omega) (by omega)
  generalize ((srcOf code).samples 0 5).1 = X at cx p1 p2 p3
  generalize ((srcOf more).samples 20 5).1 = Y at cy q1 q2 q3
  obtain ⟨v, hv, cv⟩ := at_fn5 more 0 2 (by omega) (by omega) (by omega)
  have hpw : (X ++ Y).Pairwise (fun a b => a.t < b.t) := List.pairwise_append.2 ⟨p1, q1, fun a ha b hb => by have := (p2 a ha).1; have := (q2 b hb).1; omega⟩
  have hval : ∀ e ∈ X ++ Y, -1000000 ≤ e.v ∧ e.v ≤ 1000000 := fun e he => by
    rcases List.mem_append.1 he with he | he
    · exact (p2 e he).2
    · exact (q2 e he).2
  have hlen : (X ++ Y).length ≤ 10 := by rw [List.length_append]; omega
  have hok : smpsOK (X ++ Y) = true := pair_smps hpw (fun e he => by
    rcases List.mem_append.1 he with he | he
    · have := (p2 e he).1; omega
    · have := (q2 e he).1; omega) hval (by omega)
  refine VFn.introC Try.call3 Try.func3 rfl rfl ?_
  refine Grd.intro (fun h => absurd (of_decide_eq_true h) (by omega)) (fun _ => ?_)
  refine Grd.intro (fun h => absurd (of_decide_eq_true h) (by omega)) (fun _ => ?_)
  conv => whnf
  refine CallC.k [] cx rfl rfl (AVsle.refl _) trivial rfl ?_
  conv => whnf
  refine CallC.nl _ (cy) ?_ ?_
  · exact rfl
  refine And.intro ⟨show (X.length + Y.length) * 16 ≤ 140737488355328 by omega, fun i hi => rfl⟩ ?_
  conv => whnf
  refine CallC.sca _ (cv) ?_ ?_
  · exact rfl
  refine And.intro (show inI .i64 (20 * v) from inI64 (by omega) (by omega)) ?_
  obtain ⟨L, hLe⟩ : ∃ L, L = X ++ Y := ⟨_, rfl⟩
  rw [← hLe] at hpw hval hlen hok
  obtain ⟨f, hf⟩ : ∃ f, f = 20 * v := ⟨_, rfl⟩
  have hfb : 0 ≤ f ∧ f ≤ 20 := by omega
  refine LoopC.frz 2 rfl ?_
  refine LoopC.mk (fun i : Nat => i ≤ 4) (fun i => [(5, smps L), (6, .int .i64 f), (7, .osl 1), (8, .int .i64 i)])
    (fun i => [(1, .arr 50 7 (parts L f i).length fun j => (ix (parts L f i) j).row)]) 2 (fun i => 4 - i) 0
    ⟨Nat.zero_le _, [(3, 1)], rfl, rfl, ⟨AVle.sl (by rw [hLe, List.length_append]) (fun i hi => by rw [hLe]; exact app_rowsL (f := Smp.row) (fun j hj => rfl) hi), AVle.of_eq (congrArg (AV.int .i64) hf.symm), AVle.refl _, AVle.refl _, trivial⟩, ⟨MOle.arr rfl fun i hi => absurd hi (Nat.not_lt_zero i), trivial⟩⟩ ?_
  clear cx cy p1 p2 p3 q1 q2 q3 hLe hf cv hv
  have hpts := parts_ok (L := L) (by omega) hval f
  intro i hi
  refine Grd.intro (fun g => ?_) (fun g => ?_)
  · have hin : i < 4 := by have := of_decide_eq_true g; omega
    have hab : isRange (f + 5 * (i : Int)) (f + 5 * (i : Int) + 5) = true := by simp [isRange, within]; omega
    have c1 := Downsample_ok L hok (f + 5 * (i : Int)) (f + 5 * (i : Int) + 5) hab (inI64 (by omega) (by omega))
    have c2 := specDownsample_ok L hok (f + 5 * (i : Int)) (f + 5 * (i : Int) + 5) hab (inI64 (by omega) (by omega))
    have hp := (hpts i).len
    have hstep : parts L f (i + 1) = parts L f i ++ bkt (f + 5 * (i : Int)) (aggL (smpsIn L (f + 5 * (i : Int)) (f + 5 * (i : Int) + 5))) := rfl
    have hb1 := bkt_len (f + 5 * (i : Int)) (aggL (smpsIn L (f + 5 * (i : Int)) (f + 5 * (i : Int) + 5)))
    generalize bkt (f + 5 * (i : Int)) (aggL (smpsIn L (f + 5 * (i : Int)) (f + 5 * (i : Int) + 5))) = K at c1 c2 hstep hb1
    refine And.intro (inI64 (by omega) (by omega)) ?_
    refine And.intro (inI64 (by omega) (by omega)) ?_
    refine And.intro (inI64 (by omega) (by omega)) ?_
    refine And.intro (inI64 (by omega) (by omega)) ?_
    refine And.intro (inI64 (by omega) (by omega)) ?_
    conv => whnf
    refine CallC.nl _ (c1) ?_ ?_
    · exact rfl
    refine And.intro (inI64 (by omega) (by omega)) ?_
    refine And.intro (inI64 (by omega) (by omega)) ?_
    refine And.intro (inI64 (by omega) (by omega)) ?_
    refine And.intro (inI64 (by omega) (by omega)) ?_
    refine And.intro (inI64 (by omega) (by omega)) ?_
    conv => whnf
    refine CallC.nl _ (c2) ?_ ?_
    · exact rfl
    conv => whnf
    refine CallC.sca _ (sameBuckets_fn K (by omega)) ?_ ?_
    · exact rfl
    refine And.intro ⟨show ((parts L f i).length + K.length) * 56 ≤ 140737488355328 by omega, fun i hi => rfl⟩ ?_
    refine And.intro (inI64 (by omega) (by omega)) ?_
    exact ⟨i + 1, hin, by omega, [(2, 1)], rfl, rfl, ⟨AVle.refl _, AVle.refl _, AVle.refl _, AVle.of_eq (congrArg (AV.int .i64) (by simp)), trivial⟩, ⟨by rw [hstep]; exact arr_app (f := Bk.row) rfl (fun i hi => rfl), trivial⟩⟩
  · have : i = 4 := by have := of_decide_eq_false g; omega
    subst this
    have hP := hpts 4
    have e : fB (parts L f 4) = aggL (smpsIn L f (f + 20)) := parts_fold hpw f 4
    have hab : isRange f (f + 20) = true := by simp [isRange, within]; omega
    have hin : ∀ x ∈ parts L f 4, within x.t f (f + 20 - 1) = true := fun x hx => by have := (hP.mem x hx).1; simp [within]; omega
    have hsm : ∀ x ∈ parts L f 4, smallB x := fun x hx => (hP.mem x hx).2.1
    have hk := pts_bks (by omega) hP
    have c1 := RollUp_fn (parts L f 4) hk hsm f (f + 20) hab hin (inI64 (by omega) (by omega))
    have c2 := Downsample_ok L hok f (f + 20) hab (inI64 (by omega) (by omega))
    have c3 := FoldRange_fn (parts L f 4) hk hsm f (f + 20) hab hin (inI64 (by omega) (by omega))
    have c4 := ModelFold_ok L hok f (f + 20) hab (inI64 (by omega) (by omega))
    rw [e] at c1 c3
    have hb1 := bkt_len f (aggL (smpsIn L f (f + 20)))
    clear hsm hin hk hP e hpts
    generalize parts L f 4 = P at c1 c3
    generalize aggL (smpsIn L f (f + 20)) = A at c1 c2 c3 c4 hb1
    generalize bkt f A = K at c1 c2 hb1
    refine And.intro (inI64 (by omega) (by omega)) ?_
    conv => whnf
    refine CallC.nlf 1 _ rfl c1 ?_ ?_
    · exact rfl
    refine And.intro (inI64 (by omega) (by omega)) ?_
    conv => whnf
    refine CallC.nl _ (c2) ?_ ?_
    · exact rfl
    refine And.intro (inI64 (by omega) (by omega)) ?_
    conv => whnf
    refine CallC.sca _ (c3) ?_ ?_
    · exact rfl
    refine And.intro (inI64 (by omega) (by omega)) ?_
    conv => whnf
    refine CallC.sca _ (c4) ?_ ?_
    · exact rfl
    conv => whnf
    refine CallC.sca _ (sameBuckets_fn K (by omega)) ?_ ?_
    · exact rfl
    refine And.intro (by kernel_rfl) ?_
    exact And.intro trivial (AVle.of_eq (congrArg AV.bool (by simp)))
end Go.Proofs.Ytcpedmcomfimpaa
