/- What impl.ModelBuckets and spec.ModelBuckets compute: contracts; the conditions are the theorems' own. -/
import Derived.Test.YtiialkiibfmddaaC6
set_option linter.unusedVariables false
set_option linter.unusedSimpArgs false
set_option linter.unusedSectionVars false
namespace Go.Proofs.Ytiialkiibfmddaa
open Go Go.Vw

def bcode (T V : Nat → Int) (n : Nat) (t a b : Int) : Int :=
  if code T V n a b = 0 then (if within t 0 2 = true then (if a.tmod (width t) ≠ 0 ∨ b.tmod (width t) ≠ 0 ∨ b - a > 8 * width t then 4 else 0) else 4) else code T V n a b
theorem code_range {T V : Nat → Int} {n : Nat} {a b : Int} (h : code T V n a b = 0) : 0 ≤ a ∧ a ≤ b ∧ b ≤ 100000 := by
  unfold code at h
  split at h
  · cases h
  split at h
  · split at h
    · rename_i h2
      simpa [isRange] using h2
    · cases h
  · cases h
theorem bcode_zero {T V : Nat → Int} {n : Nat} {t a b : Int} (h : bcode T V n t a b = 0) :
    code T V n a b = 0 ∧ within t 0 2 = true ∧ a.tmod (width t) = 0 ∧ b.tmod (width t) = 0 ∧ b - a ≤ 8 * width t ∧ ∃ K : Nat, K ≤ 8 ∧ b = a + K * width t := by
  unfold bcode at h
  split at h
  · rename_i h1
    split at h
    · rename_i h2
      split at h
      · cases h
      · rename_i h3
        have h4 : a.tmod (width t) = 0 ∧ b.tmod (width t) = 0 ∧ b - a ≤ 8 * width t := by
          refine ⟨?_, ?_, ?_⟩
          · exact Classical.byContradiction fun e => h3 (.inl e)
          · exact Classical.byContradiction fun e => h3 (.inr (.inl e))
          · exact Int.not_lt.1 fun e => h3 (.inr (.inr e))
        obtain ⟨r1, r2, r3⟩ := code_range h1
        refine ⟨h1, h2, h4.1, h4.2.1, h4.2.2, ((b - a) / width t).toNat, ?_⟩
        rw [Int.tmod_eq_emod_of_nonneg r1, Int.tmod_eq_emod_of_nonneg (by omega)] at h4
        rcases tier_cases h2 with rfl | rfl | rfl <;> simp [width] at h4 ⊢ <;> omega
    · cases h
  · rename_i h1; exact absurd h h1

def BL (T V : Nat → Int) (n : Nat) (a w : Int) : Nat → List (Int × Ag)
  | 0 => []
  | k + 1 => if (foldS T V (a + k * w) (a + k * w + w) n).c = 0 then BL T V n a w k else BL T V n a w k ++ [(a + k * w, foldS T V (a + k * w) (a + k * w + w) n)]
section
variable {T V : Nat → Int} {n : Nat} {a w : Int} {k : Nat}
theorem BL_no (h : (foldS T V (a + k * w) (a + k * w + w) n).c = 0) : BL T V n a w (k + 1) = BL T V n a w k := by
  show (if _ then _ else _) = _
  rw [if_pos h]
theorem BL_yes (h : (foldS T V (a + k * w) (a + k * w + w) n).c ≠ 0) : BL T V n a w (k + 1) = BL T V n a w k ++ [(a + k * w, foldS T V (a + k * w) (a + k * w + w) n)] := by
  show (if _ then _ else _) = _
  rw [if_neg h]
theorem BL_len : ∀ k, (BL T V n a w k).length ≤ k
  | 0 => Nat.le_refl _
  | k + 1 => by
    have := BL_len k
    show (if _ then _ else _ : List _).length ≤ _
    split
    · omega
    · simp; omega
end
theorem bkAt_app_lt {L : List (Int × Ag)} {p : Int × Ag} {i : Nat} (h : i < L.length) : bkAt (L ++ [p]) i = bkAt L i := by
  unfold bkAt; simp [List.getD, List.getElem?_append_left h, h]
theorem bkAt_app_at {L : List (Int × Ag)} {p : Int × Ag} : bkAt (L ++ [p]) L.length = p := by
  unfold bkAt; simp
theorem app_rows {L : List (Int × Ag)} {p : Int × Ag} {r2 : Nat → List AV} (h : r2 0 = bkRow p) {i : Nat} (hi : i < L.length + 1) :
    appRows L.length (fun i => bkRow (bkAt L i)) r2 i = bkRow (bkAt (L ++ [p]) i) := by
  unfold appRows
  rcases Nat.lt_or_ge i L.length with h' | h'
  · rw [blt_t h', cond_true, bkAt_app_lt h']
  · have : i = L.length := by omega
    subst this
    rw [blt_f (Nat.le_refl _), cond_false, Nat.sub_self, h, bkAt_app_at]

variable (T V : Nat → Int) (n : Nat) (t a b : Int)

theorem ModelBuckets_bad (hc : bcode T V n t a b ≠ 0) : FnM Try.prog 20 0 [smp T V n, .int .i64 t, .int .i64 a, .int .i64 b] [] (.tup [.nilsl, .int .i64 (bcode T V n t a b)]) [] 0 := by
  refine FnM.intro Try.call20 Try.func20 rfl rfl ?_
  by_cases h1 : code T V n a b = 0
  · refine CallG.mk _ (callR_sca (r := .int .i64 0) (h1 ▸ modelCode_fn _ _ _ _ _) rfl rfl) ?_
    obtain ⟨r1, r2, r3⟩ := code_range h1
    by_cases h2 : within t 0 2 = true
    · refine CallG.mk _ (callR_sca (r := .bool true) (h2 ▸ isTier_fn _) rfl rfl) ?_
      refine CallG.mk _ (callR_sca (width_fn t h2) rfl rfl) ?_
      have hw := width_pos t
      have e4 : a.tmod (width t) ≠ 0 ∨ b.tmod (width t) ≠ 0 ∨ b - a > 8 * width t → bcode T V n t a b = 4 := fun h => by unfold bcode; rw [if_pos h1, if_pos h2, if_pos h]
      have e0 : ¬ (a.tmod (width t) ≠ 0 ∨ b.tmod (width t) ≠ 0 ∨ b - a > 8 * width t) → bcode T V n t a b = 0 := fun h => by unfold bcode; rw [if_pos h1, if_pos h2, if_neg h]
      refine And.intro (by omega) ?_
      refine Grd.intro (fun h3 => ?_) (fun h3 => ?_)
      · rw [e4 (.inl (by simpa using h3))]
        refine CallG.mk _ (callR_sca (first1_fn true 4 _ (by kernel_rfl) (by kernel_rfl)) rfl rfl) ?_
        exact And.intro trivial ⟨[], rfl, AVle.refl _, trivial⟩
      · refine And.intro (by omega) ?_
        refine Grd.intro (fun h4 => ?_) (fun h4 => ?_)
        · rw [e4 (.inr (.inl (by simpa using h4)))]
          refine CallG.mk _ (callR_sca (first1_fn true 4 _ (by kernel_rfl) (by kernel_rfl)) rfl rfl) ?_
          exact And.intro trivial ⟨[], rfl, AVle.refl _, trivial⟩
        · refine And.intro (inI64 (by omega) (by omega)) ?_
          refine And.intro (inI64 (by omega) (by omega)) ?_
          have h5 : 8 * width t < b - a := Int.not_le.1 fun h => hc (e0 (by simp at h3 h4; omega))
          rw [e4 (.inr (.inr h5))]
          refine CallG.mk _ (callR_sca ((first1_fn (decide (8 * width t < b - a)) 4 _ (by kernel_rfl) (by kernel_rfl)).weak (AVsle.refl _) (AVle.of_eq (congrArg (AV.int .i64) (show (bif decide (8 * width t < b - a) then (4 : Int) else 0) = 4 by rw [decide_eq_true h5]; rfl)))) rfl rfl) ?_
          exact And.intro trivial ⟨[], rfl, AVle.refl _, trivial⟩
    · have h2' : within t 0 2 = false := by simpa using h2
      refine CallG.mk _ (callR_sca (r := .bool false) (h2' ▸ isTier_fn _) rfl rfl) ?_
      have e4 : bcode T V n t a b = 4 := by unfold bcode; rw [if_pos h1, if_neg h2]
      rw [e4]
      exact And.intro trivial ⟨[], rfl, AVle.refl _, trivial⟩
  · have e4 : bcode T V n t a b = code T V n a b := by unfold bcode; rw [if_neg h1]
    rw [e4]
    refine CallG.mk _ (callR_sca (modelCode_fn _ _ _ _ _) rfl rfl) ?_
    refine Grd.intro (fun h => absurd h (by simpa using h1)) (fun _ => ?_)
    refine Grd.intro (fun h => absurd h (by simpa using h1)) (fun _ => ?_)
    refine Grd.intro (fun _ => ?_) (fun h => absurd h (by simpa using h1))
    exact And.intro trivial ⟨[], rfl, AVle.refl _, trivial⟩

theorem win_in {w : Int} {K i : Nat} (hw : 1 ≤ w ∧ w ≤ 20) (hK : K ≤ 8) (hi : i ≤ K) : 0 ≤ (i : Int) * w ∧ (i : Int) * w ≤ 160 := by
  have h1 : (0 : Int) ≤ (i : Int) * w := Int.mul_nonneg (by omega) (by omega)
  have h2 : (i : Int) * w ≤ 8 * 20 := Int.mul_le_mul (by omega) hw.2 (by omega) (by omega)
  omega
theorem win_lt {w : Int} {K i : Nat} (hw : 1 ≤ w) : a + (i : Int) * w < a + (K : Int) * w ↔ i < K := by
  constructor
  · intro h
    refine Nat.lt_of_not_le fun hle => ?_
    have : (K : Int) * w ≤ (i : Int) * w := Int.mul_le_mul_of_nonneg_right (by omega) (by omega)
    omega
  · intro h
    have : ((i + 1 : Nat) : Int) * w ≤ (K : Int) * w := Int.mul_le_mul_of_nonneg_right (by omega) (by omega)
    rw [Int.natCast_add, Int.add_mul] at this
    simp at this
    omega
theorem win_next {w : Int} {i : Nat} : a + ((i + 1 : Nat) : Int) * w = a + (i : Int) * w + w := by
  rw [Int.natCast_add, Int.add_mul]; simp; omega

theorem ModelBuckets_ok (hc : bcode T V n t a b = 0) (K : Nat) (hK : K ≤ 8) (hb : b = a + K * width t) :
    FnM Try.prog 20 0 [smp T V n, .int .i64 t, .int .i64 a, .int .i64 b] [] (.tup [.osl 0, .int .i64 0]) [(0, .arr 65 7 (BL T V n a (width t) K).length fun i => bkRow (bkAt (BL T V n a (width t) K) i))] 1 := by
  obtain ⟨h1, h2, h3, h4, h5, _⟩ := bcode_zero hc
  obtain ⟨r1, r2, r3⟩ := code_range h1
  obtain ⟨e1, e2, _⟩ := code_zero h1
  have hw := width_pos t
  refine FnM.intro Try.call20 Try.func20 rfl rfl ?_
  refine CallG.mk _ (callR_sca (r := .int .i64 0) (h1 ▸ modelCode_fn _ _ _ _ _) rfl rfl) ?_
  refine CallG.mk _ (callR_sca (r := .bool true) (h2 ▸ isTier_fn _) rfl rfl) ?_
  refine CallG.mk _ (callR_sca (width_fn t h2) rfl rfl) ?_
  refine And.intro (by omega) ?_
  refine Grd.intro (fun h => absurd h (by simp [h3])) (fun _ => ?_)
  refine And.intro (by omega) ?_
  refine Grd.intro (fun h => absurd h (by simp [h4])) (fun _ => ?_)
  refine And.intro (inI64 (by omega) (by omega)) ?_
  refine And.intro (inI64 (by omega) (by omega)) ?_
  refine CallG.mk _ (callR_sca ((first1_fn (decide (8 * width t < b - a)) 4 _ (by kernel_rfl) (by kernel_rfl)).weak (AVsle.refl _) (AVle.of_eq (congrArg (AV.int .i64) (show (bif decide (8 * width t < b - a) then (4 : Int) else 0) = 0 by rw [decide_eq_false (by omega)]; rfl)))) rfl rfl) ?_
  refine LoopG.mk (fun i : Nat => i ≤ K) (fun i => [(0, smp T V n), (1, .int .i64 t), (2, .int .i64 a), (3, .int .i64 b), (12, .osl 0), (13, .int .i64 (a + i * width t))])
    (fun i => [(0, .arr 65 7 (BL T V n a (width t) i).length fun k => bkRow (bkAt (BL T V n a (width t) i) k))]) 1 (fun i => K - i) 0
    ⟨Nat.zero_le _, [(1, 0)], rfl, rfl, ⟨AVle.refl _, AVle.refl _, AVle.refl _, AVle.refl _, AVle.refl _, AVle.of_eq (congrArg (AV.int .i64) (by simp)), trivial⟩, ⟨MOle.arr rfl fun i hi => absurd hi (Nat.not_lt_zero i), trivial⟩⟩ ?_
  intro i hi
  have hin := win_in hw hK hi
  have hlen := BL_len (T := T) (V := V) (n := n) (a := a) (w := width t) i
  refine Grd.intro (fun h => ?_) (fun h => ?_)
  · have hlt : i < K := by
      have := of_decide_eq_true h
      rw [hb] at this
      exact (win_lt a hw.1).1 this
    refine CallG.mk _ (callR_sca (width_fn t h2) rfl rfl) ?_
    refine And.intro (inI64 (by omega) (by omega)) ?_
    refine CallG.mk _ (callR_nl (samplesIn_fn T V n (a + i * width t) (a + i * width t + width t) e1 (inI64 (by omega) (by omega))) rfl rfl) ?_
    refine CallG.mk _ (callR_sca (aggOf_fn _ _ _ (Nat.le_trans (sel_len n) e1) (small_sel e2)) rfl rfl) ?_
    rw [foldA_sel]
    by_cases hz : (foldS T V (a + i * width t) (a + i * width t + width t) n).c = 0
    · refine CallG.mk _ (callR_nl (bucketOf_no _ _ hz) rfl rfl) ?_
      have h56 : ((BL T V n a (width t) i).length + 0) * 56 ≤ 140737488355328 := by omega
      refine And.intro ⟨h56, fun k hk => absurd hk (Nat.not_lt_zero k)⟩ ?_
      refine CallG.mk _ (callR_sca (width_fn t h2) rfl rfl) ?_
      refine And.intro (inI64 (by omega) (by omega)) ?_
      refine ⟨i + 1, hlt, by omega, [(1, 0)], rfl, rfl, ⟨AVle.refl _, AVle.refl _, AVle.refl _, AVle.refl _, AVle.refl _, AVle.of_eq (congrArg (AV.int .i64) (win_next a).symm), trivial⟩, ⟨MOle.arr (by rw [BL_no hz]; rfl) fun k hk => ?_, trivial⟩⟩
      rw [BL_no hz]
      unfold appRows
      rw [blt_t (by simpa using hk)]; rfl
    · refine CallG.mk _ (callR_nl (bucketOf_yes _ _ hz) rfl rfl) ?_
      have h56 : ((BL T V n a (width t) i).length + 1) * 56 ≤ 140737488355328 := by omega
      refine And.intro ⟨h56, all1 rfl⟩ ?_
      refine CallG.mk _ (callR_sca (width_fn t h2) rfl rfl) ?_
      refine And.intro (inI64 (by omega) (by omega)) ?_
      refine ⟨i + 1, hlt, by omega, [(1, 0)], rfl, rfl, ⟨AVle.refl _, AVle.refl _, AVle.refl _, AVle.refl _, AVle.refl _, AVle.of_eq (congrArg (AV.int .i64) (win_next a).symm), trivial⟩, ⟨MOle.arr (by rw [BL_yes hz]; simp) fun k hk => ?_, trivial⟩⟩
      rw [BL_yes hz]
      exact app_rows rfl hk
  · have : i = K := by
      have := of_decide_eq_false h
      rw [hb, win_lt a hw.1] at this
      omega
    subst this
    exact And.intro trivial ⟨[(0, 0)], rfl, AVle.refl _, ⟨MOle.refl _, trivial⟩⟩
end Go.Proofs.Ytiialkiibfmddaa
