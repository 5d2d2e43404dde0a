/- spec.ModelBuckets and laws.FnExactModelBuckets: contracts; the conditions are the theorems' own. -/
import Derived.Test.YtiialkiibfmddaaC7
set_option linter.unusedVariables false
set_option linter.unusedSimpArgs false
set_option linter.unusedSectionVars false
set_option maxRecDepth 20000
namespace Go.Proofs.Ytiialkiibfmddaa
open Go Go.Vw
variable (T V : Nat → Int) (n : Nat) (t a b : Int)

theorem specModelBuckets_bad (hc : bcode T V n t a b ≠ 0) : VFn Try.prog 19 [smp T V n, .int .i64 t, .int .i64 a, .int .i64 b] (.tup [bks [], .int .i64 (bcode T V n t a b)]) := by
  have nil : ∀ (r : Nat → List AV) (c : AV), AVle (.tup [.sl 7 0 r, c]) (.tup [bks [], c]) := fun r c => AVle.tup (AVsle.cons (AVle.sl rfl fun i hi => absurd hi (Nat.not_lt_zero i)) (AVsle.refl _))
  refine VFn.intro Try.call19 Try.func19 rfl rfl ?_
  refine Grd.intro (fun h0 => ?_) (fun h0 => ?_)
  · have e : bcode T V n t a b = 2 := by
      have : code T V n a b = 2 := by simp at h0; unfold code; rw [if_pos (by omega)]
      unfold bcode; rw [this]; rfl
    rw [e]
    exact And.intro trivial (nil _ _)
  by_cases h1 : code T V n a b = 0
  · refine CallG.mk _ (callR_sca (r := .int .i64 0) (h1 ▸ l13Ask_fn _ _ _ _ _) rfl rfl) ?_
    obtain ⟨r1, r2, r3⟩ := code_range h1
    by_cases h2 : within t 0 2 = true
    · refine CallG.mk _ (callR_sca (r := .bool true) (h2 ▸ l04Tier_fn _) rfl rfl) ?_
      refine CallG.mk _ (callR_sca (l04Width_fn t h2) rfl rfl) ?_
      have hw := width_pos t
      have e4 : a.tmod (width t) ≠ 0 ∨ b.tmod (width t) ≠ 0 ∨ b - a > 8 * width t → bcode T V n t a b = 4 := fun h => by unfold bcode; rw [if_pos h1, if_pos h2, if_pos h]
      have e0 : ¬ (a.tmod (width t) ≠ 0 ∨ b.tmod (width t) ≠ 0 ∨ b - a > 8 * width t) → bcode T V n t a b = 0 := fun h => by unfold bcode; rw [if_pos h1, if_pos h2, if_neg h]
      have t1 := Int.tmod_nonneg (width t) r1
      have t2 := Int.tmod_nonneg (width t) (show 0 ≤ b by omega)
      refine And.intro (by omega) ?_
      refine Grd.intro (fun h3 => ?_) (fun h3 => ?_)
      · rw [e4 (.inl (by simp at h3; omega))]
        exact And.intro trivial (nil _ _)
      · refine And.intro (by omega) ?_
        refine Grd.intro (fun h4 => ?_) (fun h4 => ?_)
        · rw [e4 (.inr (.inl (by simp at h4; omega)))]
          exact And.intro trivial (nil _ _)
        · refine And.intro (inI64 (by omega) (by omega)) ?_
          refine And.intro (inI64 (by omega) (by omega)) ?_
          have h5 : 8 * width t < b - a := Int.not_le.1 fun h => hc (e0 (by simp at h3 h4; omega))
          rw [e4 (.inr (.inr h5))]
          refine Grd.intro (fun h6 => ?_) (fun h6 => absurd h6 (by simp; omega))
          exact And.intro trivial (nil _ _)
    · have h2' : within t 0 2 = false := by simpa using h2
      refine CallG.mk _ (callR_sca (r := .bool false) (h2' ▸ l04Tier_fn _) rfl rfl) ?_
      have e4 : bcode T V n t a b = 4 := by unfold bcode; rw [if_pos h1, if_neg h2]
      rw [e4]
      exact And.intro trivial (nil _ _)
  · have e4 : bcode T V n t a b = code T V n a b := by unfold bcode; rw [if_neg h1]
    rw [e4]
    refine CallG.mk _ (callR_sca (l13Ask_fn _ _ _ _ _) rfl rfl) ?_
    refine Grd.intro (fun _ => ?_) (fun h => absurd h (by simpa using h1))
    exact And.intro trivial (nil _ _)

theorem specModelBuckets_ok (hc : bcode T V n t a b = 0) (K : Nat) (hK : K ≤ 8) (hb : b = a + K * width t) :
    VFn Try.prog 19 [smp T V n, .int .i64 t, .int .i64 a, .int .i64 b] (.tup [bks (BL T V n a (width t) K), .int .i64 0]) := by
  obtain ⟨h1, h2, h3, h4, h5, _⟩ := bcode_zero hc
  obtain ⟨r1, r2, r3⟩ := code_range h1
  obtain ⟨e1, e2, _⟩ := code_zero h1
  have hw := width_pos t
  refine VFn.intro Try.call19 Try.func19 rfl rfl ?_
  refine Grd.intro (fun h => absurd h (by simp; omega)) (fun _ => ?_)
  refine CallG.mk _ (callR_sca (r := .int .i64 0) (h1 ▸ l13Ask_fn _ _ _ _ _) rfl rfl) ?_
  refine CallG.mk _ (callR_sca (r := .bool true) (h2 ▸ l04Tier_fn _) rfl rfl) ?_
  refine CallG.mk _ (callR_sca (l04Width_fn t h2) rfl rfl) ?_
  refine And.intro (by omega) ?_
  refine Grd.intro (fun h => absurd h (by simp [h3])) (fun _ => ?_)
  refine And.intro (by omega) ?_
  refine Grd.intro (fun h => absurd h (by simp [h4])) (fun _ => ?_)
  refine And.intro (inI64 (by omega) (by omega)) ?_
  refine And.intro (inI64 (by omega) (by omega)) ?_
  refine Grd.intro (fun h => absurd h (by simp; omega)) (fun _ => ?_)
  refine LoopG.mk (fun i : Nat => i ≤ K) (fun i => [(0, smp T V n), (2, .int .i64 a), (3, .int .i64 b), (11, .int .i64 (width t)), (12, .osl 0), (13, .int .i64 (a + i * width t))])
    (fun i => [(0, .arr 65 7 (BL T V n a (width t) i).length fun k => bkRow (bkAt (BL T V n a (width t) i) k))]) 1 (fun i => K - i) 0
    ⟨Nat.zero_le _, [(0, 0)], rfl, rfl, ⟨AVle.refl _, AVle.refl _, AVle.refl _, AVle.refl _, AVle.refl _, AVle.of_eq (congrArg (AV.int .i64) (by simp)), trivial⟩, ⟨MOle.arr rfl fun i hi => absurd hi (Nat.not_lt_zero i), trivial⟩⟩ ?_
  intro i hi
  have hin := win_in hw hK hi
  have hlen := BL_len (T := T) (V := V) (n := n) (a := a) (w := width t) i
  refine Grd.intro (fun h => ?_) (fun h => ?_)
  · have hlt : i < K := by
      have := of_decide_eq_true h
      rw [hb] at this
      exact (win_lt a hw.1).1 this
    have hbn := foldS_b (T := T) (V := V) (a := a + i * width t) (b := a + i * width t + width t) (n := n) e2
    refine And.intro (inI64 (by omega) (by omega)) ?_
    refine CallG.mk _ (callR_sca (l13Fold_fn T V n (a + i * width t) (a + i * width t + width t) e1 e2 (inI64 (by omega) (by omega))) rfl rfl) ?_
    refine Grd.intro (fun hp => ?_) (fun hp => ?_)
    · have hz : (foldS T V (a + i * width t) (a + i * width t + width t) n).c ≠ 0 := by
        have := of_decide_eq_true hp
        omega
      have h56 : ((BL T V n a (width t) i).length + 1) * 56 ≤ 140737488355328 := by omega
      refine And.intro ⟨h56, all1 rfl⟩ ?_
      refine And.intro (inI64 (by omega) (by omega)) ?_
      refine ⟨i + 1, hlt, by omega, [(3, 0)], rfl, rfl, ⟨AVle.refl _, AVle.refl _, AVle.refl _, AVle.refl _, AVle.refl _, AVle.of_eq (congrArg (AV.int .i64) (win_next a).symm), trivial⟩, ⟨MOle.arr (by rw [BL_yes hz]; simp) fun k hk => ?_, trivial⟩⟩
      rw [BL_yes hz]
      exact app_rows rfl hk
    · have hz : (foldS T V (a + i * width t) (a + i * width t + width t) n).c = 0 := by
        have := of_decide_eq_false hp
        omega
      refine And.intro (inI64 (by omega) (by omega)) ?_
      refine ⟨i + 1, hlt, by omega, [(0, 0)], rfl, rfl, ⟨AVle.refl _, AVle.refl _, AVle.refl _, AVle.refl _, AVle.refl _, AVle.of_eq (congrArg (AV.int .i64) (win_next a).symm), trivial⟩, ⟨MOle.arr (by rw [BL_no hz]) fun k hk => by rw [BL_no hz], trivial⟩⟩
  · have : i = K := by
      have := of_decide_eq_false h
      rw [hb, win_lt a hw.1] at this
      omega
    subst this
    exact And.intro trivial (AVle.refl _)

theorem nil_le {x : AV} : AVsle [.nilsl, x] [bks [], x] := AVsle.cons (AVle.nilsl 7 _ rfl) (AVsle.refl _)
theorem markNil_fn : VFn Try.prog 23 [.nilsl, .int .i64 1] (.int .i64 1) := by
  refine VFn.intro Try.call23 Try.func23 rfl rfl ?_
  refine LoopG.rounds 1 ?_
  exact And.intro trivial (AVle.refl _)

theorem buckets_law (hn : (n : Int) ≤ 9223372036854775807) : VFn Try.prog 5 [smp T V n, .int .i64 t, .int .i64 a, .int .i64 b] (.bool true) := by
  refine VFn.intro Try.call5 Try.func5 rfl rfl ?_
  refine CallG.mk _ (callR_sca (szSampleS_fn T V n 1048576 (by omega) hn) rfl rfl) ?_
  refine Grd.intro (fun h1 => ?_) (fun h1 => ?_)
  · exact And.intro trivial (AVle.refl _)
  have hs : n ≤ 1048576 := by simp at h1; split at h1 <;> omega
  refine CallG.mk _ (callR_nl (toSampleS_fn T V n hs) rfl rfl) ?_
  by_cases hc : bcode T V n t a b = 0
  · obtain ⟨_, _, _, _, _, K, hK, hb⟩ := bcode_zero hc
    have hl := BL_len (T := T) (V := V) (n := n) (a := a) (w := width t) K
    refine CallG.mk _ (callR_nl (specModelBuckets_ok T V n t a b hc K hK hb) rfl rfl) ?_
    refine CallG.mk _ (callM [] (toSampleS_own T V n hs) rfl rfl (AVsle.refl _) trivial rfl ⟨fun i hi => rfl, trivial⟩ rfl) ?_
    refine CallG.mk _ (callM [] (ModelBuckets_ok T V n t a b hc K hK hb) rfl rfl (AVsle.refl _) trivial rfl ⟨fun i hi => rfl, trivial⟩ rfl) ?_
    refine CallG.mk _ (callR_sca (eqBucketS_fn (BL T V n a (width t) K) (by omega)) rfl rfl) ?_
    refine CallG.mk _ (callR_nl (toSampleS_fn T V n hs) rfl rfl) ?_
    refine CallG.mk _ (callR_sca (eqSampleS_fn T V n hs) rfl rfl) ?_
    refine CallG.mk _ (callM [(0, 0)] (markSampleS_fn n (smpRow T V) hs) rfl rfl (AVsle.refl _) ⟨MOle.refl _, trivial⟩ rfl trivial rfl) ?_
    refine CallG.mk _ (callR_sca (eqBucketS_fn (BL T V n a (width t) K) (by omega)) rfl rfl) ?_
    refine CallG.mk _ (callM [(1, 0)] (markBucketS_fn (BL T V n a (width t) K) (by omega) 65) rfl rfl (AVsle.refl _) ⟨MOle.refl _, trivial⟩ rfl ⟨fun i hi => rfl, trivial⟩ rfl) ?_
    refine CallG.mk _ (callR_sca (heldBucketS_fn (BL T V n a (width t) K).length (by omega)) rfl rfl) ?_
    refine Grd.intro (fun h => absurd h (by simp)) (fun _ => ?_)
    refine CallG.mk _ (callR_nl (toSampleS_fn T V n hs) rfl rfl) ?_
    refine CallG.mk _ (callM [] (ModelBuckets_ok T V n t a b hc K hK hb) rfl rfl (AVsle.refl _) trivial rfl ⟨fun i hi => rfl, trivial⟩ rfl) ?_
    refine CallG.mk _ (callR_sca (eqBucketS_fn (BL T V n a (width t) K) (by omega)) rfl rfl) ?_
    refine CallG.mk _ (callR_sca (heldBucketS_fn (BL T V n a (width t) K).length (by omega)) rfl rfl) ?_
    refine Grd.intro (fun h => absurd h (by simp)) (fun _ => ?_)
    exact And.intro trivial (AVle.refl _)
  · have heq : VFn Try.prog 21 [.nilsl, bks []] (.bool true) := (eqBucketS_fn [] (Nat.zero_le _)).weak nil_le (AVle.refl _)
    have hheld : VFn Try.prog 24 [.nilsl, .int .i64 1] (.int .i64 1) := (heldBucketS_fn 0 (Nat.zero_le _)).weak (AVsle.cons (AVle.nilsl 7 _ rfl) (AVsle.refl _)) (AVle.refl _)
    refine CallG.mk _ (callR_nl (specModelBuckets_bad T V n t a b hc) rfl rfl) ?_
    refine CallG.mk _ (callM [] (toSampleS_own T V n hs) rfl rfl (AVsle.refl _) trivial rfl ⟨fun i hi => rfl, trivial⟩ rfl) ?_
    refine CallG.mk _ (callM [] (ModelBuckets_bad T V n t a b hc) rfl rfl (AVsle.refl _) trivial rfl trivial rfl) ?_
    refine CallG.mk _ (callR_sca heq rfl rfl) ?_
    refine Grd.intro (fun h => absurd h (by simp)) (fun _ => ?_)
    refine CallG.mk _ (callR_nl (toSampleS_fn T V n hs) rfl rfl) ?_
    refine CallG.mk _ (callR_sca (eqSampleS_fn T V n hs) rfl rfl) ?_
    refine CallG.mk _ (callM [(0, 0)] (markSampleS_fn n (smpRow T V) hs) rfl rfl (AVsle.refl _) ⟨MOle.refl _, trivial⟩ rfl trivial rfl) ?_
    refine CallG.mk _ (callR_sca heq rfl rfl) ?_
    refine Grd.intro (fun h => absurd h (by simp)) (fun _ => ?_)
    refine CallG.mk _ (callR_sca markNil_fn rfl rfl) ?_
    refine CallG.mk _ (callR_sca hheld rfl rfl) ?_
    refine CallG.mk _ (callR_nl (toSampleS_fn T V n hs) rfl rfl) ?_
    refine CallG.mk _ (callM [] (ModelBuckets_bad T V n t a b hc) rfl rfl (AVsle.refl _) trivial rfl trivial rfl) ?_
    refine CallG.mk _ (callR_sca heq rfl rfl) ?_
    refine Grd.intro (fun h => absurd h (by simp)) (fun _ => ?_)
    refine CallG.mk _ (callR_sca hheld rfl rfl) ?_
    exact And.intro trivial (AVle.refl _)
end Go.Proofs.Ytiialkiibfmddaa
