/- laws.FnExactAcquire. The conditions are the theorems' own. -/
import Derived.Test.YtpfmfdioonjccaaGreatDoorKL
import Derived.Test.YtpfmfdioonjccaaGreatDoorKO
set_option linter.unusedVariables false
set_option linter.constructorNameAsVariable false
set_option linter.unusedSimpArgs false
set_option maxRecDepth 20000
namespace Go.Proofs.YtpfmfdioonjccaaGreatDoor
open Go Go.Vw

def acqC (s : Sto) (now : Int) : Int := if s.lea.2 = 17 then 17 else if s.lea.2 = 0 ∧ s.lea.1.til ≠ 0 ∧ now ≤ s.lea.1.til + 6 then 12 else if s.lea.1.tok = 999999 then 7 else 0
def acqL (s : Sto) (who now : Int) : Lea := ⟨s.lea.1.tok + 1, who, now + 20⟩
def acqS (s : Sto) (who now : Int) : Sto := if acqC s now = 0 then s.put leaK (acqL s who now).text else s
def acqT (s : Sto) (who now : Int) : Int := if acqC s now = 0 ∧ s.room leaK (acqL s who now).text = 0 then s.lea.1.tok + 1 else 0
def acqR (s : Sto) (who now : Int) : Int := if acqC s now = 0 then s.room leaK (acqL s who now).text else acqC s now
theorem acq_len (s : Sto) (hs : s.ok = true) (who now : Int) : (acqS s who now).os.length ≤ 301 := by
  have hL := (Sto.ok_at hs).2.1
  unfold acqS
  split
  · unfold Sto.put
    split
    · have := set_len_le s leaK (acqL s who now).text; omega
    · omega
  · omega
theorem acqL_b {s : Sto} {who now : Int} (hw : within who 0 9 = true) (hn : 0 ≤ now ∧ now ≤ 101000) (hl : 0 ≤ s.lea.1.tok ∧ s.lea.1.tok ≤ 999999) : ∀ x ∈ [(acqL s who now).tok, (acqL s who now).who, (acqL s who now).til], -9223372036854775807 ≤ x ∧ x ≤ 9223372036854775807 := by
  have hw : 0 ≤ who ∧ who ≤ 9 := by simpa [within] using hw
  intro x hx
  simp [acqL] at hx
  omega
theorem lea_b {l : Lea} (h : l.ok = true) : (1 ≤ l.tok ∧ l.tok ≤ 999999) ∧ (0 ≤ l.til ∧ l.til ≤ 200000) := by
  simp [Lea.ok, within] at h
  omega
theorem first3_of (a b c : Bool) (x y z : Int) {n : Nat} {rows : Nat → List AV} (hr : FirstRows 4 3 rows 0 [(a, x), (b, y), (c, z)]) (hn : n = 6) {r : Int} (h : (if a = true then x else if b = true then y else if c = true then z else 0) = r) : VFn Tryz.prog 64 [.sl 1 n rows] (.int .i64 r) := by
  have e : firstC [(a, x), (b, y), (c, z)] = r := by
    rw [← h]
    unfold firstC firstC firstC firstC
    cases a <;> cases b <;> cases c <;> rfl
  rw [← e]
  exact first_of _ hr hn (show 3 ≤ 1000 by decide)
theorem bit1 : VFn Tryz.prog 162 [.bool (decide ((0 : Int) = 0))] (.int .i64 1) := l01Bit_fn true
theorem bit0 {n : Int} (h : n ≠ 0) : VFn Tryz.prog 162 [.bool (decide (n = 0))] (.int .i64 0) := by rw [decide_eq_false h]; exact l01Bit_fn false
theorem l05Acquire_fn (s : Sto) (hs : s.ok = true) (who now : Int) (hw : within who 0 9 = true) (hn : 0 ≤ now ∧ now ≤ 101000) : VFn Tryz.prog 61 [s.av, .int .i64 who, .int .i64 now] (.tup [(acqS s who now).av, .int .i64 (acqT s who now), .int .i64 (acqR s who now)]) := by
  have c := l05Of_fn s hs
  unfold Sto.leaV at c
  rcases s.lea_cases with ⟨e, h⟩ | ⟨e, h, hr⟩ | ⟨l, e, h, hr, hl⟩
  · have e1 : acqC s now = 0 := by unfold acqC; rw [e]; simp; decide
    have ez : ((default : Lea), (5 : Int)).fst.tok = 0 := rfl
    have hb := acqL_b (s := s) hw hn (by rw [e]; decide)
    have ct := l05Text_fn _ hb
    have co := l01Absent_fn s hs leaK (acqL s who now).text
    have ep : s.putA leaK (acqL s who now).text = (s.put leaK (acqL s who now).text, s.room leaK (acqL s who now).text) := by unfold Sto.putA; rw [if_neg (by rw [h]; simp)]
    rw [ep] at co
    have eL : acqL s who now = ⟨0 + 1, who, now + 20⟩ := by unfold acqL; rw [e]; rfl
    rw [e] at c
    unfold acqS acqT acqR
    rw [e1, if_pos rfl, if_pos rfl]
    by_cases hroom : s.room leaK (acqL s who now).text = 0
    · rw [hroom] at co
      rw [hroom, if_pos ⟨rfl, rfl⟩, e]
      rw [eL] at ct co ⊢
      have cb := bit1
      refine VFn.introC Tryz.call61 Tryz.func61 rfl rfl ?_
      conv => whnf
      refine CallC.sca _ (c) ?_ ?_
      · exact rfl
      refine And.intro (inI64 (by omega) (by omega)) ?_
      refine And.intro (inI64 (by omega) (by omega)) ?_
      refine DrawC.mkK 10 [(.inr 7, 8)] rfl (by kernel_rfl) ?_
      refine And.intro rfl ?_
      conv => whnf
      refine PCallK.sca _ (ct) rfl ?_
      conv => whnf
      refine PCallK.nl _ (co) rfl ?_
      refine DrawC.mkK 11 [(.inl 1, 8)] rfl (by kernel_rfl) ?_
      refine And.intro rfl ?_
      conv => whnf
      refine PCallK.sca _ (cb) rfl ?_
      refine And.intro (inI64 (by omega) (by omega)) ?_
      exact And.intro trivial (AVle.of_eq (congrArg (fun z => AV.tup [_, AV.int .i64 z, _]) (Int.mul_one _)))
    · rw [if_neg (fun h => hroom h.2)]
      have cb := bit0 hroom
      rw [eL] at ct co cb ⊢
      refine VFn.introC Tryz.call61 Tryz.func61 rfl rfl ?_
      conv => whnf
      refine CallC.sca _ (c) ?_ ?_
      · exact rfl
      refine And.intro (inI64 (by omega) (by omega)) ?_
      refine And.intro (inI64 (by omega) (by omega)) ?_
      refine DrawC.mkK 10 [(.inr 7, 8)] rfl (by kernel_rfl) ?_
      refine And.intro rfl ?_
      conv => whnf
      refine PCallK.sca _ (ct) rfl ?_
      conv => whnf
      refine PCallK.nl _ (co) rfl ?_
      refine DrawC.mkK 11 [(.inl 1, 8)] rfl (by kernel_rfl) ?_
      refine And.intro rfl ?_
      conv => whnf
      refine PCallK.sca _ (cb) rfl ?_
      refine And.intro (inI64 (by omega) (by omega)) ?_
      exact And.intro trivial (AVle.of_eq (congrArg (fun z => AV.tup [_, AV.int .i64 z, _]) (Int.mul_zero _)))
  · have e1 : acqC s now = 17 := by unfold acqC; rw [e]; simp
    rw [e] at c
    unfold acqS acqT acqR
    rw [e1, if_neg (by decide), if_neg (fun h => absurd h.1 (by decide)), if_neg (by decide)]
    refine VFn.introC Tryz.call61 Tryz.func61 rfl rfl ?_
    conv => whnf
    refine CallC.sca _ (c) ?_ ?_
    · exact rfl
    exact And.intro trivial (AVle.refl _)
  · have hv := get_ok s hs leaK h
    have lb := lea_b hl
    have hb := acqL_b (s := s) hw hn (by rw [e]; exact ⟨by have := lb.1; simp only; omega, lb.1.2⟩)
    have ct := l05Text_fn _ hb
    have co := l01Over_fn s hs leaK (acqL s who now).text h
    have eL : acqL s who now = ⟨l.tok + 1, who, now + 20⟩ := by unfold acqL; rw [e]
    have eC : acqC s now = if l.til ≠ 0 ∧ now ≤ l.til + 6 then 12 else if l.tok = 999999 then 7 else 0 := by unfold acqC; rw [e]; simp
    rw [e] at c
    have c : VFn Tryz.prog 159 [s.av] (.tup [l.av, .int .i64 (s.get leaK).ver, .int .i64 0]) := c
    by_cases h1 : l.til ≠ 0 ∧ now ≤ l.til + 6
    · have e1 : acqC s now = 12 := by rw [eC, if_pos h1]
      unfold acqS acqT acqR
      rw [e1, if_neg (by decide), if_neg (fun h => absurd h.1 (by decide)), if_neg (by decide)]
      refine VFn.introC Tryz.call61 Tryz.func61 rfl rfl ?_
      conv => whnf
      refine CallC.sca _ (c) ?_ ?_
      · exact rfl
      refine Grd.intro (fun g => ?_) (fun g => absurd (show (0 : Int) < (s.get leaK).ver by omega) (of_decide_eq_false g))
      refine And.intro (inI64 (by omega) (by omega)) ?_
      refine Grd.intro (fun g => ?_) (fun g => absurd (show now ≤ l.til + 6 from h1.2) (of_decide_eq_false g))
      refine Grd.intro (fun g => ?_) (fun g => absurd (show (0 : Int) < l.til by omega) (of_decide_eq_false g))
      exact And.intro trivial (AVle.refl _)
    by_cases h2 : l.tok = 999999
    · have e1 : acqC s now = 7 := by rw [eC, if_neg h1, if_pos h2]
      unfold acqS acqT acqR
      rw [e1, if_neg (by decide), if_neg (fun h => absurd h.1 (by decide)), if_neg (by decide)]
      refine VFn.introC Tryz.call61 Tryz.func61 rfl rfl ?_
      conv => whnf
      refine CallC.sca _ (c) ?_ ?_
      · exact rfl
      refine Grd.intro (fun g => ?_) (fun g => absurd (show (0 : Int) < (s.get leaK).ver by omega) (of_decide_eq_false g))
      refine And.intro (inI64 (by omega) (by omega)) ?_
      refine Grd.intro (fun g => ?_) (fun g => ?_)
      · have g : now ≤ l.til + 6 := of_decide_eq_true g
        refine Grd.intro (fun g' => absurd ⟨(by have g' : (0 : Int) < l.til := of_decide_eq_true g'; omega : l.til ≠ 0), g⟩ h1) (fun _ => ?_)
        refine Grd.intro (fun g => ?_) (fun g => absurd h2 (of_decide_eq_false g))
        exact And.intro trivial (AVle.refl _)
      · refine Grd.intro (fun g => ?_) (fun g => absurd h2 (of_decide_eq_false g))
        exact And.intro trivial (AVle.refl _)
    have e1 : acqC s now = 0 := by rw [eC, if_neg h1, if_neg h2]
    unfold acqS acqT acqR
    rw [e1, if_pos rfl, if_pos rfl]
    by_cases hroom : s.room leaK (acqL s who now).text = 0
    · rw [hroom] at co
      rw [hroom, if_pos ⟨rfl, rfl⟩, e]
      rw [eL] at ct co ⊢
      have cb := bit1
      refine VFn.introC Tryz.call61 Tryz.func61 rfl rfl ?_
      conv => whnf
      refine CallC.sca _ (c) ?_ ?_
      · exact rfl
      refine Grd.intro (fun g => ?_) (fun g => absurd (show (0 : Int) < (s.get leaK).ver by omega) (of_decide_eq_false g))
      refine And.intro (inI64 (by omega) (by omega)) ?_
      refine Grd.intro (fun g => ?_) (fun g => ?_)
      · have g : now ≤ l.til + 6 := of_decide_eq_true g
        refine Grd.intro (fun g' => absurd ⟨(by have g' : (0 : Int) < l.til := of_decide_eq_true g'; omega : l.til ≠ 0), g⟩ h1) (fun _ => ?_)
        refine Grd.intro (fun g => absurd (of_decide_eq_true g) h2) (fun _ => ?_)
        refine And.intro (inI64 (by omega) (by omega)) ?_
        refine And.intro (inI64 (by omega) (by omega)) ?_
        refine Grd.intro (fun g => absurd (of_decide_eq_true (p := (s.get leaK).ver = 0) g) (by omega)) (fun _ => ?_)
        refine DrawC.mkK 11 [(.inr 8, 9)] rfl (by kernel_rfl) ?_
        refine And.intro rfl ?_
        conv => whnf
        refine PCallK.sca _ (ct) rfl ?_
        conv => whnf
        refine PCallK.nl _ (co) rfl ?_
        refine DrawC.mkK 11 [(.inl 1, 8)] rfl (by kernel_rfl) ?_
        refine And.intro rfl ?_
        conv => whnf
        refine PCallK.sca _ (cb) rfl ?_
        refine And.intro (inI64 (by omega) (by omega)) ?_
        exact And.intro trivial (AVle.of_eq (congrArg (fun z => AV.tup [_, AV.int .i64 z, _]) (Int.mul_one _)))
      · refine Grd.intro (fun g => absurd (of_decide_eq_true g) h2) (fun _ => ?_)
        refine And.intro (inI64 (by omega) (by omega)) ?_
        refine And.intro (inI64 (by omega) (by omega)) ?_
        refine Grd.intro (fun g => absurd (of_decide_eq_true (p := (s.get leaK).ver = 0) g) (by omega)) (fun _ => ?_)
        refine DrawC.mkK 11 [(.inr 8, 9)] rfl (by kernel_rfl) ?_
        refine And.intro rfl ?_
        conv => whnf
        refine PCallK.sca _ (ct) rfl ?_
        conv => whnf
        refine PCallK.nl _ (co) rfl ?_
        refine DrawC.mkK 11 [(.inl 1, 8)] rfl (by kernel_rfl) ?_
        refine And.intro rfl ?_
        conv => whnf
        refine PCallK.sca _ (cb) rfl ?_
        refine And.intro (inI64 (by omega) (by omega)) ?_
        exact And.intro trivial (AVle.of_eq (congrArg (fun z => AV.tup [_, AV.int .i64 z, _]) (Int.mul_one _)))
    · rw [if_neg (fun h => hroom h.2)]
      have cb := bit0 hroom
      rw [eL] at ct co cb ⊢
      refine VFn.introC Tryz.call61 Tryz.func61 rfl rfl ?_
      conv => whnf
      refine CallC.sca _ (c) ?_ ?_
      · exact rfl
      refine Grd.intro (fun g => ?_) (fun g => absurd (show (0 : Int) < (s.get leaK).ver by omega) (of_decide_eq_false g))
      refine And.intro (inI64 (by omega) (by omega)) ?_
      refine Grd.intro (fun g => ?_) (fun g => ?_)
      · have g : now ≤ l.til + 6 := of_decide_eq_true g
        refine Grd.intro (fun g' => absurd ⟨(by have g' : (0 : Int) < l.til := of_decide_eq_true g'; omega : l.til ≠ 0), g⟩ h1) (fun _ => ?_)
        refine Grd.intro (fun g => absurd (of_decide_eq_true g) h2) (fun _ => ?_)
        refine And.intro (inI64 (by omega) (by omega)) ?_
        refine And.intro (inI64 (by omega) (by omega)) ?_
        refine Grd.intro (fun g => absurd (of_decide_eq_true (p := (s.get leaK).ver = 0) g) (by omega)) (fun _ => ?_)
        refine DrawC.mkK 11 [(.inr 8, 9)] rfl (by kernel_rfl) ?_
        refine And.intro rfl ?_
        conv => whnf
        refine PCallK.sca _ (ct) rfl ?_
        conv => whnf
        refine PCallK.nl _ (co) rfl ?_
        refine DrawC.mkK 11 [(.inl 1, 8)] rfl (by kernel_rfl) ?_
        refine And.intro rfl ?_
        conv => whnf
        refine PCallK.sca _ (cb) rfl ?_
        refine And.intro (inI64 (by omega) (by omega)) ?_
        exact And.intro trivial (AVle.of_eq (congrArg (fun z => AV.tup [_, AV.int .i64 z, _]) (Int.mul_zero _)))
      · refine Grd.intro (fun g => absurd (of_decide_eq_true g) h2) (fun _ => ?_)
        refine And.intro (inI64 (by omega) (by omega)) ?_
        refine And.intro (inI64 (by omega) (by omega)) ?_
        refine Grd.intro (fun g => absurd (of_decide_eq_true (p := (s.get leaK).ver = 0) g) (by omega)) (fun _ => ?_)
        refine DrawC.mkK 11 [(.inr 8, 9)] rfl (by kernel_rfl) ?_
        refine And.intro rfl ?_
        conv => whnf
        refine PCallK.sca _ (ct) rfl ?_
        conv => whnf
        refine PCallK.nl _ (co) rfl ?_
        refine DrawC.mkK 11 [(.inl 1, 8)] rfl (by kernel_rfl) ?_
        refine And.intro rfl ?_
        conv => whnf
        refine PCallK.sca _ (cb) rfl ?_
        refine And.intro (inI64 (by omega) (by omega)) ?_
        exact And.intro trivial (AVle.of_eq (congrArg (fun z => AV.tup [_, AV.int .i64 z, _]) (Int.mul_zero _)))
theorem first3_gen {s : Sto} {now : Int} {l : Lea} (e : s.lea = (l, 0)) (b : Bool) (hb : b = true ↔ (l.til ≠ 0 ∧ now ≤ l.til + 6)) : (if decide ((0 : Int) = 17) = true then (0 : Int) else if b = true then 12 else if decide (l.tok = 999999) = true then 7 else 0) = acqC s now := by
  unfold acqC
  rw [e]
  by_cases h : l.til ≠ 0 ∧ now ≤ l.til + 6 <;> by_cases h2 : l.tok = 999999 <;> simp [h, h2, hb]
set_option maxHeartbeats 1000000 in
theorem acquire_fn (s : Sto) (hs : s.ok = true) (who now : Int) (hw : within who 0 9 = true) (hn : 0 ≤ now ∧ now ≤ 101000) : VFn Tryz.prog 68 [s.av, .int .i64 who, .int .i64 now] (.tup [(acqS s who now).av, .int .i64 (acqT s who now), .int .i64 (acqR s who now)]) := by
  have c := lease_fn s hs
  rcases s.lea_cases with ⟨e, h⟩ | ⟨e, h, hr⟩ | ⟨l, e, h, hr, hl⟩
  · have e1 : acqC s now = 0 := by unfold acqC; rw [e]; simp; decide
    have ez : ((default : Lea), (5 : Int)).fst.tok = 0 := rfl
    have hb := acqL_b (s := s) hw hn (by rw [e]; decide)
    have ct := leaText_fn _ hb
    have hlen := Lea.text_len _ hb
    have co := put_fn s hs leaK (acqL s who now).text (by omega)
    have eL : acqL s who now = ⟨0 + 1, who, now + 20⟩ := by unfold acqL; rw [e]; rfl
    rw [e] at c
    unfold acqS acqT acqR Sto.put
    rw [e1, if_pos rfl, if_pos rfl]
    have f1 : (if decide ((5 : Int) = 17) = true then (5 : Int) else if false = true then 12 else if decide ((0 : Int) = 999999) = true then 7 else 0) = 0 := by decide
    by_cases hroom : s.room leaK (acqL s who now).text = 0
    · rw [if_pos hroom] at co
      rw [if_pos hroom, hroom, if_pos ⟨rfl, rfl⟩, e]
      rw [eL] at ct co ⊢
      refine VFn.introC Tryz.call68 Tryz.func68 rfl rfl ?_
      conv => whnf
      refine CallC.sca _ (c) ?_ ?_
      · exact rfl
      conv => whnf
      refine CallC.sca _ (first3_of _ _ _ _ _ _ ⟨rfl, rfl, rfl, rfl, rfl, rfl, trivial⟩ rfl f1) ?_ ?_
      · exact rfl
      refine And.intro (inI64 (by omega) (by omega)) ?_
      refine And.intro (inI64 (by omega) (by omega)) ?_
      refine DrawC.mkK 12 [(.inr 8, 9)] rfl (by kernel_rfl) ?_
      refine And.intro rfl ?_
      conv => whnf
      refine PCallK.sca _ (ct) rfl ?_
      conv => whnf
      refine PCallK.nl _ (co) rfl ?_
      refine DrawC.mkK 6 [(.inl 1, 3)] rfl (by kernel_rfl) ?_
      refine And.intro rfl ?_
      exact And.intro trivial (AVle.refl _)
    · rw [if_neg hroom] at co
      rw [if_neg hroom, if_neg (fun h => hroom h.2)]
      rw [eL] at ct co hroom ⊢
      refine VFn.introC Tryz.call68 Tryz.func68 rfl rfl ?_
      conv => whnf
      refine CallC.sca _ (c) ?_ ?_
      · exact rfl
      conv => whnf
      refine CallC.sca _ (first3_of _ _ _ _ _ _ ⟨rfl, rfl, rfl, rfl, rfl, rfl, trivial⟩ rfl f1) ?_ ?_
      · exact rfl
      refine And.intro (inI64 (by omega) (by omega)) ?_
      refine And.intro (inI64 (by omega) (by omega)) ?_
      refine DrawC.mkK 12 [(.inr 8, 9)] rfl (by kernel_rfl) ?_
      refine And.intro rfl ?_
      conv => whnf
      refine PCallK.sca _ (ct) rfl ?_
      conv => whnf
      refine PCallK.nl _ (co) rfl ?_
      refine Grd.intro (fun _ => ?_) (fun g => absurd (by simpa using g) hroom)
      exact And.intro trivial (AVle.refl _)
  · have e1 : acqC s now = 17 := by unfold acqC; rw [e]; simp
    rw [e] at c
    unfold acqS acqT acqR
    rw [e1, if_neg (by decide), if_neg (fun h => absurd h.1 (by decide)), if_neg (by decide)]
    refine VFn.introC Tryz.call68 Tryz.func68 rfl rfl ?_
    conv => whnf
    refine CallC.sca _ (c) ?_ ?_
    · exact rfl
    conv => whnf
    refine CallC.sca _ (first3_of _ _ _ _ _ _ ⟨rfl, rfl, rfl, rfl, rfl, rfl, trivial⟩ rfl (show (if decide ((17 : Int) = 17) = true then (17 : Int) else if false = true then 12 else if decide ((0 : Int) = 999999) = true then 7 else 0) = 17 by decide)) ?_ ?_
    · exact rfl
    exact And.intro trivial (AVle.refl _)
  · have lb := lea_b hl
    have hb := acqL_b (s := s) hw hn (by rw [e]; exact ⟨by have := lb.1; simp only; omega, lb.1.2⟩)
    have ct := leaText_fn _ hb
    have hlen := Lea.text_len _ hb
    have co := put_fn s hs leaK (acqL s who now).text (by omega)
    have eL : acqL s who now = ⟨l.tok + 1, who, now + 20⟩ := by unfold acqL; rw [e]
    rw [e] at c
    have c : VFn Tryz.prog 166 [s.av] (.tup [l.av, .int .i64 0]) := c
    by_cases e1 : acqC s now = 0
    · unfold acqS acqT acqR Sto.put
      rw [if_pos e1, if_pos e1]
      by_cases hroom : s.room leaK (acqL s who now).text = 0
      · rw [if_pos hroom] at co
        rw [if_pos hroom, hroom, if_pos ⟨e1, rfl⟩, e]
        rw [eL] at ct co ⊢
        refine VFn.introC Tryz.call68 Tryz.func68 rfl rfl ?_
        conv => whnf
        refine CallC.sca _ (c) ?_ ?_
        · exact rfl
        refine Grd.intro (fun g => ?_) (fun g => ?_)
        · have g : l.til ≠ 0 := by simpa using g
          refine And.intro (inI64 (by omega) (by omega)) ?_
          conv => whnf
          refine CallC.sca _ (first3_of _ (decide (now ≤ l.til + 6)) _ _ _ _ ⟨rfl, rfl, rfl, rfl, rfl, rfl, trivial⟩ rfl ((first3_gen e (now := now) (decide (now ≤ l.til + 6)) (by simp [g])).trans e1)) ?_ ?_
          · exact rfl
          refine And.intro (inI64 (by omega) (by omega)) ?_
          refine And.intro (inI64 (by omega) (by omega)) ?_
          refine DrawC.mkK 12 [(.inr 8, 9)] rfl (by kernel_rfl) ?_
          refine And.intro rfl ?_
          conv => whnf
          refine PCallK.sca _ (ct) rfl ?_
          conv => whnf
          refine PCallK.nl _ (co) rfl ?_
          refine DrawC.mkK 6 [(.inl 1, 3)] rfl (by kernel_rfl) ?_
          refine And.intro rfl ?_
          exact And.intro trivial (AVle.refl _)
        · have g : l.til = 0 := by simpa using g
          conv => whnf
          refine CallC.sca _ (first3_of _ false _ _ _ _ ⟨rfl, rfl, rfl, rfl, rfl, rfl, trivial⟩ rfl ((first3_gen e (now := now) false (by simp [g])).trans e1)) ?_ ?_
          · exact rfl
          refine And.intro (inI64 (by omega) (by omega)) ?_
          refine And.intro (inI64 (by omega) (by omega)) ?_
          refine DrawC.mkK 12 [(.inr 8, 9)] rfl (by kernel_rfl) ?_
          refine And.intro rfl ?_
          conv => whnf
          refine PCallK.sca _ (ct) rfl ?_
          conv => whnf
          refine PCallK.nl _ (co) rfl ?_
          refine DrawC.mkK 6 [(.inl 1, 3)] rfl (by kernel_rfl) ?_
          refine And.intro rfl ?_
          exact And.intro trivial (AVle.refl _)
      · rw [if_neg hroom] at co
        rw [if_neg hroom, if_neg (fun h => hroom h.2)]
        rw [eL] at ct co hroom ⊢
        refine VFn.introC Tryz.call68 Tryz.func68 rfl rfl ?_
        conv => whnf
        refine CallC.sca _ (c) ?_ ?_
        · exact rfl
        refine Grd.intro (fun g => ?_) (fun g => ?_)
        · have g : l.til ≠ 0 := by simpa using g
          refine And.intro (inI64 (by omega) (by omega)) ?_
          conv => whnf
          refine CallC.sca _ (first3_of _ (decide (now ≤ l.til + 6)) _ _ _ _ ⟨rfl, rfl, rfl, rfl, rfl, rfl, trivial⟩ rfl ((first3_gen e (now := now) (decide (now ≤ l.til + 6)) (by simp [g])).trans e1)) ?_ ?_
          · exact rfl
          refine And.intro (inI64 (by omega) (by omega)) ?_
          refine And.intro (inI64 (by omega) (by omega)) ?_
          refine DrawC.mkK 12 [(.inr 8, 9)] rfl (by kernel_rfl) ?_
          refine And.intro rfl ?_
          conv => whnf
          refine PCallK.sca _ (ct) rfl ?_
          conv => whnf
          refine PCallK.nl _ (co) rfl ?_
          refine Grd.intro (fun _ => ?_) (fun g => absurd (by simpa using g) hroom)
          exact And.intro trivial (AVle.refl _)
        · have g : l.til = 0 := by simpa using g
          conv => whnf
          refine CallC.sca _ (first3_of _ false _ _ _ _ ⟨rfl, rfl, rfl, rfl, rfl, rfl, trivial⟩ rfl ((first3_gen e (now := now) false (by simp [g])).trans e1)) ?_ ?_
          · exact rfl
          refine And.intro (inI64 (by omega) (by omega)) ?_
          refine And.intro (inI64 (by omega) (by omega)) ?_
          refine DrawC.mkK 12 [(.inr 8, 9)] rfl (by kernel_rfl) ?_
          refine And.intro rfl ?_
          conv => whnf
          refine PCallK.sca _ (ct) rfl ?_
          conv => whnf
          refine PCallK.nl _ (co) rfl ?_
          refine Grd.intro (fun _ => ?_) (fun g => absurd (by simpa using g) hroom)
          exact And.intro trivial (AVle.refl _)
    · unfold acqS acqT acqR
      rw [if_neg e1, if_neg (fun h => e1 h.1), if_neg e1]
      refine VFn.introC Tryz.call68 Tryz.func68 rfl rfl ?_
      conv => whnf
      refine CallC.sca _ (c) ?_ ?_
      · exact rfl
      refine Grd.intro (fun g => ?_) (fun g => ?_)
      · have g : l.til ≠ 0 := by simpa using g
        refine And.intro (inI64 (by omega) (by omega)) ?_
        conv => whnf
        refine CallC.sca _ (first3_of _ (decide (now ≤ l.til + 6)) _ _ _ _ ⟨rfl, rfl, rfl, rfl, rfl, rfl, trivial⟩ rfl (first3_gen e (now := now) (decide (now ≤ l.til + 6)) (by simp [g]))) ?_ ?_
        · exact rfl
        refine Grd.intro (fun _ => ?_) (fun g => absurd (by simpa using g) e1)
        exact And.intro trivial (AVle.refl _)
      · have g : l.til = 0 := by simpa using g
        conv => whnf
        refine CallC.sca _ (first3_of _ false _ _ _ _ ⟨rfl, rfl, rfl, rfl, rfl, rfl, trivial⟩ rfl (first3_gen e (now := now) false (by simp [g]))) ?_ ?_
        · exact rfl
        refine Grd.intro (fun _ => ?_) (fun g => absurd (by simpa using g) e1)
        exact And.intro trivial (AVle.refl _)
theorem now_b2 {s : Sto} {who now : Int} (ha : ask s who now = 0) : s.ok = true ∧ within who 0 9 = true ∧ (0 ≤ now ∧ now ≤ 101000) := ⟨(ask_ok ha).1, (ask_ok ha).2.1, now_b (ask_ok ha).2.2⟩
theorem specAcquire_yes (s : Sto) (hr : StoRd s) (who now : Int) (ha : ask s who now = 0) : VFn Tryz.prog 16 [s.av, .int .i64 who, .int .i64 now] (.tup [(acqS s who now).av, .int .i64 (acqT s who now), .int .i64 (acqR s who now)]) := by
  obtain ⟨hs, hw, hn⟩ := now_b2 ha
  have c := l05Ask_fn s hr who now
  rw [ha] at c
  have hl := acq_len s hs who now
  refine VFn.introC Tryz.call16 Tryz.func16 rfl rfl ?_
  conv => whnf
  refine CallC.sca _ (c) ?_ ?_
  · exact rfl
  conv => whnf
  refine CallC.nl _ (l05Acquire_fn s hs who now hw hn) ?_ ?_
  · exact rfl
  conv => whnf
  refine CallC.nl _ (l01Own_fn (acqS s who now) (by omega)) ?_ ?_
  · exact rfl
  exact And.intro trivial (AVle.refl _)
theorem specAcquire_no (s : Sto) (hr : StoRd s) (who now : Int) (ha : ask s who now ≠ 0) : VFn Tryz.prog 16 [s.av, .int .i64 who, .int .i64 now] (.tup [sto0, .int .i64 0, .int .i64 (ask s who now)]) := by
  have c := l05Ask_fn s hr who now
  refine VFn.introC Tryz.call16 Tryz.func16 rfl rfl ?_
  conv => whnf
  refine CallC.sca _ (c) ?_ ?_
  · exact rfl
  refine Grd.intro (fun _ => ?_) (fun h => absurd (by simpa using h) ha)
  exact And.intro trivial (AVle.refl _)
theorem Acquire_own (s : Sto) (hr : StoRd s) (who now : Int) (ha : ask s who now = 0) : FnM Tryz.prog 18 0 [s.av, .int .i64 who, .int .i64 now] [] (.tup [(acqS s who now).own, .int .i64 (acqT s who now), .int .i64 (acqR s who now)]) [(0, .arr 187 3 (acqS s who now).os.length fun i => (ix (acqS s who now).os i).row)] 1 := by
  obtain ⟨hs, hw, hn⟩ := now_b2 ha
  have hn' := (ask_ok ha).2.2
  have hl := acq_len s hs who now
  have cs := StoreOK_fn s (by have := hr.len; omega) hr.key
  have ci := isId_fn who
  have cn := isNow_fn now
  rw [hw] at ci
  rw [hn'] at cn
  refine FnM.introC Tryz.call18 Tryz.func18 rfl rfl ?_
  conv => whnf
  refine CallC.sca _ (cs) ?_ ?_
  · exact rfl
  conv => whnf
  refine CallC.sca _ (ci) ?_ ?_
  · exact rfl
  conv => whnf
  refine CallC.sca _ (cn) ?_ ?_
  · exact rfl
  conv => whnf
  refine CallC.sca _ (first2_of _ _ _ _ ⟨rfl, rfl, rfl, rfl, trivial⟩ rfl ((renewC s who now (by rw [hw, hn']; rfl)).trans ha)) ?_ ?_
  · exact rfl
  conv => whnf
  refine CallC.nl _ (acquire_fn s hs who now hw hn) ?_ ?_
  · exact rfl
  conv => whnf
  refine CallC.k [] (copied_own (acqS s who now) (by omega)) rfl rfl (AVsle.refl _) trivial rfl ?_
  exact And.intro trivial ⟨[(4, 0)], rfl, AVle.refl _, ⟨MOle.refl _, trivial⟩⟩
theorem Acquire_no (s : Sto) (hr : StoRd s) (who now : Int) (ha : ask s who now ≠ 0) : VFn Tryz.prog 18 [s.av, .int .i64 who, .int .i64 now] (.tup [sto0, .int .i64 0, .int .i64 (ask s who now)]) := by
  have cs := StoreOK_fn s (by have := hr.len; omega) hr.key
  have ci := isId_fn who
  have cn := isNow_fn now
  by_cases hw : within who 0 9 = true
  · rw [hw] at ci
    refine VFn.introC Tryz.call18 Tryz.func18 rfl rfl ?_
    conv => whnf
    refine CallC.sca _ (cs) ?_ ?_
    · exact rfl
    conv => whnf
    refine CallC.sca _ (ci) ?_ ?_
    · exact rfl
    conv => whnf
    refine CallC.sca _ (cn) ?_ ?_
    · exact rfl
    conv => whnf
    refine CallC.sca _ (first2_of _ _ _ _ ⟨rfl, rfl, rfl, rfl, trivial⟩ rfl (renewC s who now (by rw [hw]; rfl))) ?_ ?_
    · exact rfl
    refine Grd.intro (fun _ => ?_) (fun h => absurd (by simpa using h) ha)
    exact And.intro trivial (AVle.refl _)
  · have hw : within who 0 9 = false := by simpa using hw
    rw [hw] at ci
    refine VFn.introC Tryz.call18 Tryz.func18 rfl rfl ?_
    conv => whnf
    refine CallC.sca _ (cs) ?_ ?_
    · exact rfl
    conv => whnf
    refine CallC.sca _ (ci) ?_ ?_
    · exact rfl
    conv => whnf
    refine CallC.sca _ (first2_of _ _ _ _ ⟨rfl, rfl, rfl, rfl, trivial⟩ rfl (renewC s who now (by rw [hw]; rfl))) ?_ ?_
    · exact rfl
    refine Grd.intro (fun _ => ?_) (fun h => absurd (by simpa using h) ha)
    exact And.intro trivial (AVle.refl _)
theorem law_Acquire (s : Sto) (h : StoIn s) (who : Int) (_ : IntKind.i64.min ≤ who ∧ who ≤ IntKind.i64.max) (now : Int) (_ : IntKind.i64.min ≤ now ∧ now ≤ IntKind.i64.max) : VFn Tryz.prog 3 [s.av, .int .i64 who, .int .i64 now] (.bool true) := by
  refine VFn.introC Tryz.call3 Tryz.func3 rfl rfl ?_
  conv => whnf
  refine CallC.sca _ (szStore_fn s h) ?_ ?_
  · exact rfl
  by_cases hl : (stoN s : Int) ≤ 1048576
  case neg =>
    rw [szr_no hl]
    exact And.intro trivial (AVle.refl _)
  rw [szr_yes hl]
  obtain ⟨m1, m2, m3⟩ := Sto_small hl
  have hr : StoRd s := ⟨m1, fun o ho => Nat.le_trans (m2 o ho) (by decide), h.nxt⟩
  refine Grd.intro (fun h2 => absurd (of_decide_eq_true h2) (by omega)) (fun _ => ?_)
  conv => whnf
  refine CallC.nl _ (toStore_fn s m1) ?_ ?_
  · exact rfl
  by_cases ha : ask s who now = 0
  · have hs := (ask_ok ha).1
    have hcl := acq_len s hs who now
    obtain ⟨s', hs'⟩ : ∃ s', s' = acqS s who now := ⟨_, rfl⟩
    obtain ⟨t', ht'⟩ : ∃ t', t' = acqT s who now := ⟨_, rfl⟩
    obtain ⟨c', hc'⟩ : ∃ c', c' = acqR s who now := ⟨_, rfl⟩
    have c1 := specAcquire_yes s hr who now ha
    have c2 := Acquire_own s hr who now ha
    rw [← hs', ← ht', ← hc'] at c1 c2
    rw [← hs'] at hcl
    conv => whnf
    refine CallC.nl _ (c1) ?_ ?_
    · exact rfl
    conv => whnf
    refine CallC.k [] (toStore_own s m1) rfl rfl (AVsle.refl _) trivial rfl ?_
    conv => whnf
    refine CallC.m [] c2 rfl rfl (AVsle.refl _) trivial rfl ⟨fun i hi => rfl, trivial⟩ rfl ?_
    conv => whnf
    refine CallC.sca _ (eqStore_fn s' (by omega)) ?_ ?_
    · exact rfl
    refine Grd.intro (fun h => absurd h (by simp)) (fun _ => ?_)
    refine Grd.intro (fun h => absurd h (by simp)) (fun _ => ?_)
    refine DrawC.mk 5 rfl (by kernel_rfl) ?_
    refine PCallC.nl _ (toStore_fn s m1) rfl ?_
    refine PCallC.sca _ (eqStore_fn s m1) rfl ?_
    conv => whnf
    refine CallC.k [(2, 0)] (markStore_fn s.os.length _ s.next (fun i hi => ⟨_, _, _, rfl⟩) m1 1 (by omega)) rfl rfl (AVsle.refl _) ⟨MOle.refl _, trivial⟩ rfl ?_
    conv => whnf
    refine CallC.sca _ (eqStore_fn s' (by omega)) ?_ ?_
    · exact rfl
    refine Grd.intro (fun h => absurd h (by simp)) (fun _ => ?_)
    refine Grd.intro (fun h => absurd h (by simp)) (fun _ => ?_)
    conv => whnf
    refine CallC.k [(4, 0)] (markStore_fn s'.os.length _ s'.next (fun i hi => ⟨_, _, _, rfl⟩) (by omega) 1 (by omega)) rfl rfl (AVsle.refl _) ⟨MOle.refl _, trivial⟩ rfl ?_
    conv => whnf
    refine CallC.sca _ (heldStore_fn s'.os.length s'.next (by omega) 1 (by omega)) ?_ ?_
    · exact rfl
    refine Grd.intro (fun h => absurd h (by simp)) (fun _ => ?_)
    conv => whnf
    refine CallC.nl _ (toStore_fn s m1) ?_ ?_
    · exact rfl
    conv => whnf
    refine CallC.k [] c2 rfl rfl (AVsle.refl _) trivial rfl ?_
    conv => whnf
    refine CallC.sca _ (eqStore_fn s' (by omega)) ?_ ?_
    · exact rfl
    refine Grd.intro (fun h => absurd h (by simp)) (fun _ => ?_)
    refine Grd.intro (fun h => absurd h (by simp)) (fun _ => ?_)
    conv => whnf
    refine CallC.sca _ (heldStore_fn s'.os.length s'.next (by omega) 1 (by omega)) ?_ ?_
    · exact rfl
    refine Grd.intro (fun h => absurd h (by simp)) (fun _ => ?_)
    exact And.intro trivial (AVle.refl _)
  · have c1 := specAcquire_no s hr who now ha
    have c2 := Acquire_no s hr who now ha
    conv => whnf
    refine CallC.nl _ (c1) ?_ ?_
    · exact rfl
    conv => whnf
    refine CallC.k [] (toStore_own s m1) rfl rfl (AVsle.refl _) trivial rfl ?_
    conv => whnf
    refine CallC.sca _ (c2) ?_ ?_
    · exact rfl
    conv => whnf
    refine CallC.sca _ (eqStore0_fn) ?_ ?_
    · exact rfl
    refine Grd.intro (fun h => absurd h (by simp)) (fun _ => ?_)
    refine DrawC.mk 5 rfl (by kernel_rfl) ?_
    refine PCallC.nl _ (toStore_fn s m1) rfl ?_
    refine PCallC.sca _ (eqStore_fn s m1) rfl ?_
    conv => whnf
    refine CallC.k [(2, 0)] (markStore_fn s.os.length _ s.next (fun i hi => ⟨_, _, _, rfl⟩) m1 1 (by omega)) rfl rfl (AVsle.refl _) ⟨MOle.refl _, trivial⟩ rfl ?_
    conv => whnf
    refine CallC.sca _ (eqStore0_fn) ?_ ?_
    · exact rfl
    refine Grd.intro (fun h => absurd h (by simp)) (fun _ => ?_)
    conv => whnf
    refine CallC.sca _ (markStore0_fn 1) ?_ ?_
    · exact rfl
    conv => whnf
    refine CallC.sca _ (heldStore0_fn) ?_ ?_
    · exact rfl
    conv => whnf
    refine CallC.nl _ (toStore_fn s m1) ?_ ?_
    · exact rfl
    conv => whnf
    refine CallC.nl _ (c2) ?_ ?_
    · exact rfl
    conv => whnf
    refine CallC.sca _ (eqStore0_fn) ?_ ?_
    · exact rfl
    refine Grd.intro (fun h => absurd h (by simp)) (fun _ => ?_)
    conv => whnf
    refine CallC.sca _ (heldStore0_fn) ?_ ?_
    · exact rfl
    exact And.intro trivial (AVle.refl _)
end Go.Proofs.YtpfmfdioonjccaaGreatDoor
