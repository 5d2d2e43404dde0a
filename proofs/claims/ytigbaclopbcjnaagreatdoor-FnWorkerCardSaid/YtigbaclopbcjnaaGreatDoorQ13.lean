/- Contracts of functions that the claim reaches, and the plain law of what they compute; each theorem bears its own conditions. -/
import Derived.Test.YtigbaclopbcjnaaGreatDoorQ12
import Derived.Test.YtigbaclopbcjnaaGreatDoorQ5
import Derived.Test.YtigbaclopbcjnaaGreatDoorV52
import Derived.Test.YtigbaclopbcjnaaGreatDoorQ8
import Derived.Test.YtigbaclopbcjnaaGreatDoorQ7
import Derived.Test.YtigbaclopbcjnaaGreatDoorQ11
import Derived.Test.YtigbaclopbcjnaaGreatDoorQ6
set_option linter.unusedVariables false
set_option linter.constructorNameAsVariable false
set_option linter.unusedSimpArgs false
set_option maxRecDepth 20000
namespace Go.Proofs.YtigbaclopbcjnaaGreatDoor
open Go Go.Vw
def acqC (s : Sto) (now : Int) : Int := if s.lea.2 = 17 then 17 else if s.lea.2 = 0 ∧ s.lea.1.til ≠ 0 ∧ now ≤ s.lea.1.til + 6 then 12 else if s.lea.1.tok = 999999 then 7 else 0
def acqL (s : Sto) (who now : Int) : Lea := ⟨s.lea.1.tok + 1, who, now + 20⟩
def acqS (s : Sto) (who now : Int) : Sto := if acqC s now = 0 then s.put leaK (acqL s who now).text else s
def acqT (s : Sto) (who now : Int) : Int := if acqC s now = 0 ∧ s.room leaK (acqL s who now).text = 0 then s.lea.1.tok + 1 else 0
def acqR (s : Sto) (who now : Int) : Int := if acqC s now = 0 then s.room leaK (acqL s who now).text else acqC s now
theorem acqL_b {s : Sto} {who now : Int} (hw : within who 0 9 = true) (hn : 0 ≤ now ∧ now ≤ 101000) (hl : 0 ≤ s.lea.1.tok ∧ s.lea.1.tok ≤ 999999) : ∀ x ∈ [(acqL s who now).tok, (acqL s who now).who, (acqL s who now).til], -9223372036854775807 ≤ x ∧ x ≤ 9223372036854775807 := by
 have hw : 0 ≤ who ∧ who ≤ 9 := by simpa [within] using hw
 intro x hx
 simp [acqL] at hx
 omega
theorem lea_b {l : Lea} (h : l.ok = true) : (1 ≤ l.tok ∧ l.tok ≤ 999999) ∧ (0 ≤ l.til ∧ l.til ≤ 200000) := by
 simp [Lea.ok, within] at h
 omega
theorem first3_of (a b c : Bool) (x y z : Int) {n : Nat} {rows : Nat → List AV} (hr : FirstRows 4 3 rows 0 [(a, x), (b, y), (c, z)]) (hn : n = 6) {r : Int} (h : (if a = true then x else if b = true then y else if c = true then z else 0) = r) : VFn Tryz.prog 14 [.sl 1 n rows] (.int .i64 r) := by
 have e : firstC [(a, x), (b, y), (c, z)] = r := by
  rw [← h]
  unfold firstC firstC firstC firstC
  cases a <;> cases b <;> cases c <;> rfl
 rw [← e]
 exact first_of _ hr hn (show 3 ≤ 1000 by decide)
theorem bit1 : VFn Tryz.prog 43 [.bool (decide ((0 : Int) = 0))] (.int .i64 1) := l01Bit_fn true
theorem bit0 {n : Int} (h : n ≠ 0) : VFn Tryz.prog 43 [.bool (decide (n = 0))] (.int .i64 0) := by rw [decide_eq_false h]; exact l01Bit_fn false
theorem l05Acquire_fn (s : Sto) (hs : s.ok = true) (who now : Int) (hw : within who 0 9 = true) (hn : 0 ≤ now ∧ now ≤ 101000) : VFn Tryz.prog 49 [s.av, .int .i64 who, .int .i64 now] (.tup [(acqS s who now).av, .int .i64 (acqT s who now), .int .i64 (acqR s who now)]) := by
 have c := l05Of_fn s hs
 unfold Sto.leaV at c
 rcases s.lea_cases with ⟨e, h⟩ | ⟨e, h, hr⟩ | ⟨l, e, h, hr, hl⟩
 · have e1 : acqC s now = 0 := by unfold acqC; rw [e]; simp; decide
   have ez : ((default : Lea), (5 : Int)).fst.tok = 0 := rfl
   have hb := acqL_b (s := s) hw hn (by rw [e]; decide)
   have ct := l05Text_fn _ hb
   have co := l01Absent_fn s hs leaK (acqL s who now).text
   have ep : s.putA leaK (acqL s who now).text = (s.put leaK (acqL s who now).text, s.room leaK (acqL s who now).text) := by unfold Sto.putA; rw [if_neg (by rw [h]; simp)]
   rw [ep] at co
   have eL : acqL s who now = ⟨0 + 1, who, now + 20⟩ := by unfold acqL; rw [e]; rfl
   rw [e] at c
   unfold acqS acqT acqR
   rw [e1, if_pos rfl, if_pos rfl]
   by_cases hroom : s.room leaK (acqL s who now).text = 0
   · rw [hroom] at co
     rw [hroom, if_pos ⟨rfl, rfl⟩, e]
     rw [eL] at ct co ⊢
     have cb := bit1
     refine VFn.introC Tryz.call49 Tryz.func49 rfl rfl ?_
     conv => whnf
     refine CallC.sca _ (c) ?_ ?_
     · exact rfl
     refine And.intro (inI64 (by omega) (by omega)) ?_
     refine And.intro (inI64 (by omega) (by omega)) ?_
     refine DrawC.mkQ 10 [(.inr 7, 8)] rfl (by kernel_rfl) ?_
     refine And.intro rfl ?_
     conv => whnf
     refine PCallQ.sca _ (ct) rfl ?_
     conv => whnf
     refine PCallQ.nl _ (co) rfl ?_
     refine DrawC.mkQ 11 [(.inl 1, 8)] rfl (by kernel_rfl) ?_
     refine And.intro rfl ?_
     conv => whnf
     refine PCallQ.sca _ (cb) rfl ?_
     refine And.intro (inI64 (by omega) (by omega)) ?_
     exact And.intro trivial (AVle.of_eq (congrArg (fun z => AV.tup [_, AV.int .i64 z, _]) (Int.mul_one _)))
   · rw [if_neg (fun h => hroom h.2)]
     have cb := bit0 hroom
     rw [eL] at ct co cb ⊢
     refine VFn.introC Tryz.call49 Tryz.func49 rfl rfl ?_
     conv => whnf
     refine CallC.sca _ (c) ?_ ?_
     · exact rfl
     refine And.intro (inI64 (by omega) (by omega)) ?_
     refine And.intro (inI64 (by omega) (by omega)) ?_
     refine DrawC.mkQ 10 [(.inr 7, 8)] rfl (by kernel_rfl) ?_
     refine And.intro rfl ?_
     conv => whnf
     refine PCallQ.sca _ (ct) rfl ?_
     conv => whnf
     refine PCallQ.nl _ (co) rfl ?_
     refine DrawC.mkQ 11 [(.inl 1, 8)] rfl (by kernel_rfl) ?_
     refine And.intro rfl ?_
     conv => whnf
     refine PCallQ.sca _ (cb) rfl ?_
     refine And.intro (inI64 (by omega) (by omega)) ?_
     exact And.intro trivial (AVle.of_eq (congrArg (fun z => AV.tup [_, AV.int .i64 z, _]) (Int.mul_zero _)))
 · have e1 : acqC s now = 17 := by unfold acqC; rw [e]; simp
   rw [e] at c
   unfold acqS acqT acqR
   rw [e1, if_neg (by decide), if_neg (fun h => absurd h.1 (by decide)), if_neg (by decide)]
   refine VFn.introC Tryz.call49 Tryz.func49 rfl rfl ?_
   conv => whnf
   refine CallC.sca _ (c) ?_ ?_
   · exact rfl
   exact And.intro trivial (AVle.refl _)
 · have hv := get_ok s hs leaK h
   have lb := lea_b hl
   have hb := acqL_b (s := s) hw hn (by rw [e]; exact ⟨by have := lb.1; simp only; omega, lb.1.2⟩)
   have ct := l05Text_fn _ hb
   have co := l01Over_fn s hs leaK (acqL s who now).text h
   have eL : acqL s who now = ⟨l.tok + 1, who, now + 20⟩ := by unfold acqL; rw [e]
   have eC : acqC s now = if l.til ≠ 0 ∧ now ≤ l.til + 6 then 12 else if l.tok = 999999 then 7 else 0 := by unfold acqC; rw [e]; simp
   rw [e] at c
   have c : VFn Tryz.prog 96 [s.av] (.tup [l.av, .int .i64 (s.get leaK).ver, .int .i64 0]) := c
   by_cases h1 : l.til ≠ 0 ∧ now ≤ l.til + 6
   · have e1 : acqC s now = 12 := by rw [eC, if_pos h1]
     unfold acqS acqT acqR
     rw [e1, if_neg (by decide), if_neg (fun h => absurd h.1 (by decide)), if_neg (by decide)]
     refine VFn.introC Tryz.call49 Tryz.func49 rfl rfl ?_
     conv => whnf
     refine CallC.sca _ (c) ?_ ?_
     · exact rfl
     refine Grd.intro (fun g => ?_) (fun g => absurd (show (0 : Int) < (s.get leaK).ver by omega) (of_decide_eq_false g))
     refine And.intro (inI64 (by omega) (by omega)) ?_
     refine Grd.intro (fun g => ?_) (fun g => absurd (show now ≤ l.til + 6 from h1.2) (of_decide_eq_false g))
     refine Grd.intro (fun g => ?_) (fun g => absurd (show (0 : Int) < l.til by omega) (of_decide_eq_false g))
     exact And.intro trivial (AVle.refl _)
   by_cases h2 : l.tok = 999999
   · have e1 : acqC s now = 7 := by rw [eC, if_neg h1, if_pos h2]
     unfold acqS acqT acqR
     rw [e1, if_neg (by decide), if_neg (fun h => absurd h.1 (by decide)), if_neg (by decide)]
     refine VFn.introC Tryz.call49 Tryz.func49 rfl rfl ?_
     conv => whnf
     refine CallC.sca _ (c) ?_ ?_
     · exact rfl
     refine Grd.intro (fun g => ?_) (fun g => absurd (show (0 : Int) < (s.get leaK).ver by omega) (of_decide_eq_false g))
     refine And.intro (inI64 (by omega) (by omega)) ?_
     refine Grd.intro (fun g => ?_) (fun g => ?_)
     · have g : now ≤ l.til + 6 := of_decide_eq_true g
       refine Grd.intro (fun g' => absurd ⟨(by have g' : (0 : Int) < l.til := of_decide_eq_true g'; omega : l.til ≠ 0), g⟩ h1) (fun _ => ?_)
       refine Grd.intro (fun g => ?_) (fun g => absurd h2 (of_decide_eq_false g))
       exact And.intro trivial (AVle.refl _)
     · refine Grd.intro (fun g => ?_) (fun g => absurd h2 (of_decide_eq_false g))
       exact And.intro trivial (AVle.refl _)
   have e1 : acqC s now = 0 := by rw [eC, if_neg h1, if_neg h2]
   unfold acqS acqT acqR
   rw [e1, if_pos rfl, if_pos rfl]
   by_cases hroom : s.room leaK (acqL s who now).text = 0
   · rw [hroom] at co
     rw [hroom, if_pos ⟨rfl, rfl⟩, e]
     rw [eL] at ct co ⊢
     have cb := bit1
     refine VFn.introC Tryz.call49 Tryz.func49 rfl rfl ?_
     conv => whnf
     refine CallC.sca _ (c) ?_ ?_
     · exact rfl
     refine Grd.intro (fun g => ?_) (fun g => absurd (show (0 : Int) < (s.get leaK).ver by omega) (of_decide_eq_false g))
     refine And.intro (inI64 (by omega) (by omega)) ?_
     refine Grd.intro (fun g => ?_) (fun g => ?_)
     · have g : now ≤ l.til + 6 := of_decide_eq_true g
       refine Grd.intro (fun g' => absurd ⟨(by have g' : (0 : Int) < l.til := of_decide_eq_true g'; omega : l.til ≠ 0), g⟩ h1) (fun _ => ?_)
       refine Grd.intro (fun g => absurd (of_decide_eq_true g) h2) (fun _ => ?_)
       refine And.intro (inI64 (by omega) (by omega)) ?_
       refine And.intro (inI64 (by omega) (by omega)) ?_
       refine Grd.intro (fun g => absurd (of_decide_eq_true (p := (s.get leaK).ver = 0) g) (by omega)) (fun _ => ?_)
       refine DrawC.mkQ 11 [(.inr 8, 9)] rfl (by kernel_rfl) ?_
       refine And.intro rfl ?_
       conv => whnf
       refine PCallQ.sca _ (ct) rfl ?_
       conv => whnf
       refine PCallQ.nl _ (co) rfl ?_
       refine DrawC.mkQ 11 [(.inl 1, 8)] rfl (by kernel_rfl) ?_
       refine And.intro rfl ?_
       conv => whnf
       refine PCallQ.sca _ (cb) rfl ?_
       refine And.intro (inI64 (by omega) (by omega)) ?_
       exact And.intro trivial (AVle.of_eq (congrArg (fun z => AV.tup [_, AV.int .i64 z, _]) (Int.mul_one _)))
     · refine Grd.intro (fun g => absurd (of_decide_eq_true g) h2) (fun _ => ?_)
       refine And.intro (inI64 (by omega) (by omega)) ?_
       refine And.intro (inI64 (by omega) (by omega)) ?_
       refine Grd.intro (fun g => absurd (of_decide_eq_true (p := (s.get leaK).ver = 0) g) (by omega)) (fun _ => ?_)
       refine DrawC.mkQ 11 [(.inr 8, 9)] rfl (by kernel_rfl) ?_
       refine And.intro rfl ?_
       conv => whnf
       refine PCallQ.sca _ (ct) rfl ?_
       conv => whnf
       refine PCallQ.nl _ (co) rfl ?_
       refine DrawC.mkQ 11 [(.inl 1, 8)] rfl (by kernel_rfl) ?_
       refine And.intro rfl ?_
       conv => whnf
       refine PCallQ.sca _ (cb) rfl ?_
       refine And.intro (inI64 (by omega) (by omega)) ?_
       exact And.intro trivial (AVle.of_eq (congrArg (fun z => AV.tup [_, AV.int .i64 z, _]) (Int.mul_one _)))
   · rw [if_neg (fun h => hroom h.2)]
     have cb := bit0 hroom
     rw [eL] at ct co cb ⊢
     refine VFn.introC Tryz.call49 Tryz.func49 rfl rfl ?_
     conv => whnf
     refine CallC.sca _ (c) ?_ ?_
     · exact rfl
     refine Grd.intro (fun g => ?_) (fun g => absurd (show (0 : Int) < (s.get leaK).ver by omega) (of_decide_eq_false g))
     refine And.intro (inI64 (by omega) (by omega)) ?_
     refine Grd.intro (fun g => ?_) (fun g => ?_)
     · have g : now ≤ l.til + 6 := of_decide_eq_true g
       refine Grd.intro (fun g' => absurd ⟨(by have g' : (0 : Int) < l.til := of_decide_eq_true g'; omega : l.til ≠ 0), g⟩ h1) (fun _ => ?_)
       refine Grd.intro (fun g => absurd (of_decide_eq_true g) h2) (fun _ => ?_)
       refine And.intro (inI64 (by omega) (by omega)) ?_
       refine And.intro (inI64 (by omega) (by omega)) ?_
       refine Grd.intro (fun g => absurd (of_decide_eq_true (p := (s.get leaK).ver = 0) g) (by omega)) (fun _ => ?_)
       refine DrawC.mkQ 11 [(.inr 8, 9)] rfl (by kernel_rfl) ?_
       refine And.intro rfl ?_
       conv => whnf
       refine PCallQ.sca _ (ct) rfl ?_
       conv => whnf
       refine PCallQ.nl _ (co) rfl ?_
       refine DrawC.mkQ 11 [(.inl 1, 8)] rfl (by kernel_rfl) ?_
       refine And.intro rfl ?_
       conv => whnf
       refine PCallQ.sca _ (cb) rfl ?_
       refine And.intro (inI64 (by omega) (by omega)) ?_
       exact And.intro trivial (AVle.of_eq (congrArg (fun z => AV.tup [_, AV.int .i64 z, _]) (Int.mul_zero _)))
     · refine Grd.intro (fun g => absurd (of_decide_eq_true g) h2) (fun _ => ?_)
       refine And.intro (inI64 (by omega) (by omega)) ?_
       refine And.intro (inI64 (by omega) (by omega)) ?_
       refine Grd.intro (fun g => absurd (of_decide_eq_true (p := (s.get leaK).ver = 0) g) (by omega)) (fun _ => ?_)
       refine DrawC.mkQ 11 [(.inr 8, 9)] rfl (by kernel_rfl) ?_
       refine And.intro rfl ?_
       conv => whnf
       refine PCallQ.sca _ (ct) rfl ?_
       conv => whnf
       refine PCallQ.nl _ (co) rfl ?_
       refine DrawC.mkQ 11 [(.inl 1, 8)] rfl (by kernel_rfl) ?_
       refine And.intro rfl ?_
       conv => whnf
       refine PCallQ.sca _ (cb) rfl ?_
       refine And.intro (inI64 (by omega) (by omega)) ?_
       exact And.intro trivial (AVle.of_eq (congrArg (fun z => AV.tup [_, AV.int .i64 z, _]) (Int.mul_zero _)))
theorem first3_gen {s : Sto} {now : Int} {l : Lea} (e : s.lea = (l, 0)) (b : Bool) (hb : b = true ↔ (l.til ≠ 0 ∧ now ≤ l.til + 6)) : (if decide ((0 : Int) = 17) = true then (0 : Int) else if b = true then 12 else if decide (l.tok = 999999) = true then 7 else 0) = acqC s now := by
 unfold acqC
 rw [e]
 by_cases h : l.til ≠ 0 ∧ now ≤ l.til + 6 <;> by_cases h2 : l.tok = 999999 <;> simp [h, h2, hb]
set_option maxHeartbeats 1000000 in
theorem acquire_fn (s : Sto) (hs : s.ok = true) (who now : Int) (hw : within who 0 9 = true) (hn : 0 ≤ now ∧ now ≤ 101000) : VFn Tryz.prog 75 [s.av, .int .i64 who, .int .i64 now] (.tup [(acqS s who now).av, .int .i64 (acqT s who now), .int .i64 (acqR s who now)]) := by
 have c := lease_fn s hs
 rcases s.lea_cases with ⟨e, h⟩ | ⟨e, h, hr⟩ | ⟨l, e, h, hr, hl⟩
 · have e1 : acqC s now = 0 := by unfold acqC; rw [e]; simp; decide
   have ez : ((default : Lea), (5 : Int)).fst.tok = 0 := rfl
   have hb := acqL_b (s := s) hw hn (by rw [e]; decide)
   have ct := leaText_fn _ hb
   have hlen := Lea.text_len _ hb
   have co := put_fn s hs leaK (acqL s who now).text (by omega)
   have eL : acqL s who now = ⟨0 + 1, who, now + 20⟩ := by unfold acqL; rw [e]; rfl
   rw [e] at c
   unfold acqS acqT acqR Sto.put
   rw [e1, if_pos rfl, if_pos rfl]
   have f1 : (if decide ((5 : Int) = 17) = true then (5 : Int) else if false = true then 12 else if decide ((0 : Int) = 999999) = true then 7 else 0) = 0 := by decide
   by_cases hroom : s.room leaK (acqL s who now).text = 0
   · rw [if_pos hroom] at co
     rw [if_pos hroom, hroom, if_pos ⟨rfl, rfl⟩, e]
     rw [eL] at ct co ⊢
     refine VFn.introC Tryz.call75 Tryz.func75 rfl rfl ?_
     conv => whnf
     refine CallC.sca _ (c) ?_ ?_
     · exact rfl
     conv => whnf
     refine CallC.sca _ (first3_of _ _ _ _ _ _ ⟨rfl, rfl, rfl, rfl, rfl, rfl, trivial⟩ rfl f1) ?_ ?_
     · exact rfl
     refine And.intro (inI64 (by omega) (by omega)) ?_
     refine And.intro (inI64 (by omega) (by omega)) ?_
     refine DrawC.mkQ 12 [(.inr 8, 9)] rfl (by kernel_rfl) ?_
     refine And.intro rfl ?_
     conv => whnf
     refine PCallQ.sca _ (ct) rfl ?_
     conv => whnf
     refine PCallQ.nl _ (co) rfl ?_
     refine DrawC.mkQ 6 [(.inl 1, 3)] rfl (by kernel_rfl) ?_
     refine And.intro rfl ?_
     exact And.intro trivial (AVle.refl _)
   · rw [if_neg hroom] at co
     rw [if_neg hroom, if_neg (fun h => hroom h.2)]
     rw [eL] at ct co hroom ⊢
     refine VFn.introC Tryz.call75 Tryz.func75 rfl rfl ?_
     conv => whnf
     refine CallC.sca _ (c) ?_ ?_
     · exact rfl
     conv => whnf
     refine CallC.sca _ (first3_of _ _ _ _ _ _ ⟨rfl, rfl, rfl, rfl, rfl, rfl, trivial⟩ rfl f1) ?_ ?_
     · exact rfl
     refine And.intro (inI64 (by omega) (by omega)) ?_
     refine And.intro (inI64 (by omega) (by omega)) ?_
     refine DrawC.mkQ 12 [(.inr 8, 9)] rfl (by kernel_rfl) ?_
     refine And.intro rfl ?_
     conv => whnf
     refine PCallQ.sca _ (ct) rfl ?_
     conv => whnf
     refine PCallQ.nl _ (co) rfl ?_
     refine Grd.intro (fun _ => ?_) (fun g => absurd (by simpa using g) hroom)
     exact And.intro trivial (AVle.refl _)
 · have e1 : acqC s now = 17 := by unfold acqC; rw [e]; simp
   rw [e] at c
   unfold acqS acqT acqR
   rw [e1, if_neg (by decide), if_neg (fun h => absurd h.1 (by decide)), if_neg (by decide)]
   refine VFn.introC Tryz.call75 Tryz.func75 rfl rfl ?_
   conv => whnf
   refine CallC.sca _ (c) ?_ ?_
   · exact rfl
   conv => whnf
   refine CallC.sca _ (first3_of _ _ _ _ _ _ ⟨rfl, rfl, rfl, rfl, rfl, rfl, trivial⟩ rfl (show (if decide ((17 : Int) = 17) = true then (17 : Int) else if false = true then 12 else if decide ((0 : Int) = 999999) = true then 7 else 0) = 17 by decide)) ?_ ?_
   · exact rfl
   exact And.intro trivial (AVle.refl _)
 · have lb := lea_b hl
   have hb := acqL_b (s := s) hw hn (by rw [e]; exact ⟨by have := lb.1; simp only; omega, lb.1.2⟩)
   have ct := leaText_fn _ hb
   have hlen := Lea.text_len _ hb
   have co := put_fn s hs leaK (acqL s who now).text (by omega)
   have eL : acqL s who now = ⟨l.tok + 1, who, now + 20⟩ := by unfold acqL; rw [e]
   rw [e] at c
   have c : VFn Tryz.prog 117 [s.av] (.tup [l.av, .int .i64 0]) := c
   by_cases e1 : acqC s now = 0
   · unfold acqS acqT acqR Sto.put
     rw [if_pos e1, if_pos e1]
     by_cases hroom : s.room leaK (acqL s who now).text = 0
     · rw [if_pos hroom] at co
       rw [if_pos hroom, hroom, if_pos ⟨e1, rfl⟩, e]
       rw [eL] at ct co ⊢
       refine VFn.introC Tryz.call75 Tryz.func75 rfl rfl ?_
       conv => whnf
       refine CallC.sca _ (c) ?_ ?_
       · exact rfl
       refine Grd.intro (fun g => ?_) (fun g => ?_)
       · have g : l.til ≠ 0 := by simpa using g
         refine And.intro (inI64 (by omega) (by omega)) ?_
         conv => whnf
         refine CallC.sca _ (first3_of _ (decide (now ≤ l.til + 6)) _ _ _ _ ⟨rfl, rfl, rfl, rfl, rfl, rfl, trivial⟩ rfl ((first3_gen e (now := now) (decide (now ≤ l.til + 6)) (by simp [g])).trans e1)) ?_ ?_
         · exact rfl
         refine And.intro (inI64 (by omega) (by omega)) ?_
         refine And.intro (inI64 (by omega) (by omega)) ?_
         refine DrawC.mkQ 12 [(.inr 8, 9)] rfl (by kernel_rfl) ?_
         refine And.intro rfl ?_
         conv => whnf
         refine PCallQ.sca _ (ct) rfl ?_
         conv => whnf
         refine PCallQ.nl _ (co) rfl ?_
         refine DrawC.mkQ 6 [(.inl 1, 3)] rfl (by kernel_rfl) ?_
         refine And.intro rfl ?_
         exact And.intro trivial (AVle.refl _)
       · have g : l.til = 0 := by simpa using g
         conv => whnf
         refine CallC.sca _ (first3_of _ false _ _ _ _ ⟨rfl, rfl, rfl, rfl, rfl, rfl, trivial⟩ rfl ((first3_gen e (now := now) false (by simp [g])).trans e1)) ?_ ?_
         · exact rfl
         refine And.intro (inI64 (by omega) (by omega)) ?_
         refine And.intro (inI64 (by omega) (by omega)) ?_
         refine DrawC.mkQ 12 [(.inr 8, 9)] rfl (by kernel_rfl) ?_
         refine And.intro rfl ?_
         conv => whnf
         refine PCallQ.sca _ (ct) rfl ?_
         conv => whnf
         refine PCallQ.nl _ (co) rfl ?_
         refine DrawC.mkQ 6 [(.inl 1, 3)] rfl (by kernel_rfl) ?_
         refine And.intro rfl ?_
         exact And.intro trivial (AVle.refl _)
     · rw [if_neg hroom] at co
       rw [if_neg hroom, if_neg (fun h => hroom h.2)]
       rw [eL] at ct co hroom ⊢
       refine VFn.introC Tryz.call75 Tryz.func75 rfl rfl ?_
       conv => whnf
       refine CallC.sca _ (c) ?_ ?_
       · exact rfl
       refine Grd.intro (fun g => ?_) (fun g => ?_)
       · have g : l.til ≠ 0 := by simpa using g
         refine And.intro (inI64 (by omega) (by omega)) ?_
         conv => whnf
         refine CallC.sca _ (first3_of _ (decide (now ≤ l.til + 6)) _ _ _ _ ⟨rfl, rfl, rfl, rfl, rfl, rfl, trivial⟩ rfl ((first3_gen e (now := now) (decide (now ≤ l.til + 6)) (by simp [g])).trans e1)) ?_ ?_
         · exact rfl
         refine And.intro (inI64 (by omega) (by omega)) ?_
         refine And.intro (inI64 (by omega) (by omega)) ?_
         refine DrawC.mkQ 12 [(.inr 8, 9)] rfl (by kernel_rfl) ?_
         refine And.intro rfl ?_
         conv => whnf
         refine PCallQ.sca _ (ct) rfl ?_
         conv => whnf
         refine PCallQ.nl _ (co) rfl ?_
         refine Grd.intro (fun _ => ?_) (fun g => absurd (by simpa using g) hroom)
         exact And.intro trivial (AVle.refl _)
       · have g : l.til = 0 := by simpa using g
         conv => whnf
         refine CallC.sca _ (first3_of _ false _ _ _ _ ⟨rfl, rfl, rfl, rfl, rfl, rfl, trivial⟩ rfl ((first3_gen e (now := now) false (by simp [g])).trans e1)) ?_ ?_
         · exact rfl
         refine And.intro (inI64 (by omega) (by omega)) ?_
         refine And.intro (inI64 (by omega) (by omega)) ?_
         refine DrawC.mkQ 12 [(.inr 8, 9)] rfl (by kernel_rfl) ?_
         refine And.intro rfl ?_
         conv => whnf
         refine PCallQ.sca _ (ct) rfl ?_
         conv => whnf
         refine PCallQ.nl _ (co) rfl ?_
         refine Grd.intro (fun _ => ?_) (fun g => absurd (by simpa using g) hroom)
         exact And.intro trivial (AVle.refl _)
   · unfold acqS acqT acqR
     rw [if_neg e1, if_neg (fun h => e1 h.1), if_neg e1]
     refine VFn.introC Tryz.call75 Tryz.func75 rfl rfl ?_
     conv => whnf
     refine CallC.sca _ (c) ?_ ?_
     · exact rfl
     refine Grd.intro (fun g => ?_) (fun g => ?_)
     · have g : l.til ≠ 0 := by simpa using g
       refine And.intro (inI64 (by omega) (by omega)) ?_
       conv => whnf
       refine CallC.sca _ (first3_of _ (decide (now ≤ l.til + 6)) _ _ _ _ ⟨rfl, rfl, rfl, rfl, rfl, rfl, trivial⟩ rfl (first3_gen e (now := now) (decide (now ≤ l.til + 6)) (by simp [g]))) ?_ ?_
       · exact rfl
       refine Grd.intro (fun _ => ?_) (fun g => absurd (by simpa using g) e1)
       exact And.intro trivial (AVle.refl _)
     · have g : l.til = 0 := by simpa using g
       conv => whnf
       refine CallC.sca _ (first3_of _ false _ _ _ _ ⟨rfl, rfl, rfl, rfl, rfl, rfl, trivial⟩ rfl (first3_gen e (now := now) false (by simp [g]))) ?_ ?_
       · exact rfl
       refine Grd.intro (fun _ => ?_) (fun g => absurd (by simpa using g) e1)
       exact And.intro trivial (AVle.refl _)

theorem put_ok {s : Sto} {k d : List UInt8} (hs : s.ok = true) (hk : keyOK k = true) (hd : d.length ≤ 600) (h1 : s.os.length < 300) (h2 : s.next < 1000000000) :
 s.room k d = 0 ∧ s.put k d = s.set k d ∧ (s.put k d).ok = true ∧ (s.put k d).next = s.next + 1 ∧ (s.put k d).os.length ≤ s.os.length + 1 := by
 have hr := room_yes (s := s) (k := k) (d := d) hd h1 h2
 have e : s.put k d = s.set k d := by unfold Sto.put; rw [if_pos hr]
 rw [e]
 exact ⟨hr, rfl, set_ok hs hk hr, rfl, set_len_le _ _ _⟩
def stoN0 : Sto := ⟨[], 1⟩

def SSf (x : SS) (f : Int) (n : Nat) : Prop := (f ≤ x.2.1 ∧ x.2.1 ≤ f + 4 * n) ∧ (∀ e ∈ x.1, f ≤ e.t ∧ e.t < x.2.1) ∧ x.1.Pairwise (fun a b => a.t < b.t)
theorem stepf_t {x : SS} {f : Int} {n : Nat} {k : Int} (h : SSf x f n) (hs : x.2.2.ok k) (hk : 0 ≤ k) : SSf (smpStep x) f (n + 1) := by
 obtain ⟨⟨h1, h2⟩, h3, h4⟩ := h
 have n1 := next_b x.2.2 hs hk 4
 have a1 := n1.1.2 (by omega)
 have a0 := n1.1.1
 unfold smpStep
 refine ⟨⟨by simp only; omega, by simp only; omega⟩, fun e he => ?_, ?_⟩
 · simp only [List.mem_append, List.mem_cons, List.not_mem_nil, or_false] at he
   rcases he with he | he
   · have := h3 e he
     simp only; omega
   · subst he
     simp only; omega
 · refine List.pairwise_append.2 ⟨h4, List.pairwise_singleton _ _, fun a ha b hb => ?_⟩
   simp only [List.mem_cons, List.not_mem_nil, or_false] at hb
   subst hb
   have := h3 a ha
   simp only; omega
theorem itf_t {x : SS} {f : Int} {k : Int} (h : SSok x 0 k) (ht : SSf x f 0) (hk : 0 ≤ k) : ∀ n, SSf (smpIt n x) f n
 | 0 => by simpa [smpIt] using ht
 | n + 1 => stepf_t (itf_t h ht hk n) (it_ok h hk n).2.2.1 (by omega)
theorem pairf_smps {L : List Smp} (h : L.Pairwise (fun a b => a.t < b.t)) (ht : ∀ e ∈ L, 0 ≤ e.t ∧ e.t ≤ 99999) (hv : ∀ e ∈ L, -1000000 ≤ e.v ∧ e.v ≤ 1000000) (hl : L.length ≤ 4096) : smpsOK L = true := by
 unfold smpsOK
 rw [decide_eq_true hl, Bool.true_and, allN_iff]
 intro i hi
 have a := ht _ (getD_mem hi)
 have b := hv _ (getD_mem hi)
 unfold smpAt
 simp only [Bool.and_eq_true, Bool.or_eq_true, decide_eq_true_eq, within]
 refine ⟨⟨⟨a.1, a.2⟩, ⟨b.1, b.2⟩⟩, ?_⟩
 rcases Nat.eq_zero_or_pos i with h0 | h0
 · exact .inl h0
 · right
   have := (List.pairwise_iff_getElem.1 h) (i - 1) i (by omega) hi (by omega)
   rw [ix_lt hi, ix_lt (by omega : i - 1 < L.length)]
   exact this
structure SmpF (S : SS) (f : Int) (n : Nat) : Prop where
 ok : smpsOK S.1 = true
 len : S.1.length ≤ n
 tm : ∀ e ∈ S.1, f ≤ e.t ∧ e.t < f + 4 * n
theorem samples_b (s : Src) (f : Int) (n : Nat) {k : Int} (h : s.ok k) (hf : -10 ≤ f ∧ f ≤ 90000) (hk : 90000 ≤ k ∧ k ≤ 900000) (hn : n ≤ 10) (h0 : 0 ≤ f) : SmpF (s.samples f n) f n ∧ (s.samples f n).2.2.ok (k + 3 + 12 * n) := by
 have n0 := next_b s h (by omega) (n + 1)
 have hm := n0.1.2 (by omega)
 have hm0 := n0.1.1
 have s0 : SSok ([], f, (s.next (n + 1)).2) 0 (k + 3) := ⟨rfl, by simp, n0.2.1, by simp only; omega⟩
 have t0 : SSf ([], f, (s.next (n + 1)).2) f 0 := ⟨⟨Int.le_refl _, by simp⟩, by simp, List.Pairwise.nil⟩
 have a := it_ok s0 (by omega) (s.next (n + 1)).1.toNat
 have b := itf_t s0 t0 (by omega) (s.next (n + 1)).1.toNat
 unfold Src.samples
 obtain ⟨a1, a2, a3, _⟩ := a
 obtain ⟨⟨b1, b2⟩, b3, b4⟩ := b
 refine ⟨⟨pairf_smps b4 (fun e he => ?_) a2 (by omega), by omega, fun e he => ?_⟩, wk a3 (by omega)⟩
 · have := b3 e he
   omega
 · have := b3 e he
   omega
theorem keyF_ok {t n w : Nat} (ht : t ≤ 2) : keyOK (keyB t n w) = true := by
 have hs : (keyB t n w).length ≤ 17 ∧ 13 ≤ (keyB t n w).length := by
  unfold keyB pre
  split <;> simp [six6]
 unfold keyOK
 have e : (keyB t n w).all keyC = true := by
  have hd : ∀ m, (six6 m).all keyC = true := fun m => List.all_eq_true.2 fun x hx => by
   have := List.all_eq_true.1 (six6_dig m) x hx
   have := of_decide_eq_true this
   unfold keyC
   simp only [Bool.or_eq_true, Bool.and_eq_true, decide_eq_true_eq]
   left; left; right
   omega
  unfold keyB
  rw [List.all_append, List.all_append, List.all_cons, hd, hd]
  have h : t = 0 ∨ t = 1 ∨ t = 2 := by omega
  rcases h with rfl | rfl | rfl <;> decide
 rw [e]
 simp [within]; omega
structure FS where
 x : Sto
 at_ : Int
 s : Src
def FS.L (q : FS) : SS := q.s.samples q.at_ 6
def FS.D (q : FS) : Int × Src := q.L.2.2.next 6
def FS.to (q : FS) : Int := if q.L.1.length = 0 then q.at_ + 1 + q.D.1 else (ix q.L.1 (q.L.1.length - 1)).t + 1
def FS.W (q : FS) : Int × Src := q.D.2.next 2
def FS.key (q : FS) (i : Nat) : List UInt8 := keyB 0 i q.W.1.toNat
def FS.rc (q : FS) (i : Nat) : Rc := ⟨1, 0, 0, q.at_, q.to, q.key i⟩
def FS.x1 (q : FS) (i : Nat) : Sto := q.x.set (q.key i) (smpsText q.L.1)
def FS.step (q : FS) (i : Nat) : FS := ⟨(q.x1 i).set (manK i) (q.rc i).text, q.to, q.W.2⟩
def FS.draw (q : FS) : FS := ⟨q.x, q.at_, (q.s.next 5).2⟩
def fiIt : Nat → Nat → FS → FS
 | 0, _, q => q
 | f + 1, i, q => if (i : Int) ≤ 1 + (q.s.next 5).1 then fiIt f (i + 1) (q.draw.step i) else q.draw
def Src.filled (s : Src) : FS := fiIt 6 1 ⟨stoN0, 0, s⟩
structure FI (i : Nat) (q : FS) : Prop where
 ok : q.x.ok = true
 len : q.x.os.length ≤ 2 * (i - 1)
 nxt : q.x.next ≤ 1 + 2 * ((i : Int) - 1)
 at_ : 0 ≤ q.at_ ∧ q.at_ ≤ 100 * ((i : Int) - 1)
 s : q.s.ok (100000 + 200 * i)
theorem FI.zero {s : Src} (h : s.ok 100000) : FI 1 ⟨stoN0, 0, s⟩ := ⟨(by decide : stoN0.ok = true), (by decide : stoN0.os.length ≤ 0), (by decide : stoN0.next ≤ 1), by simp only; omega, wk h (by omega)⟩
structure FB (i : Nat) (q : FS) : Prop where
 m : SmpF q.L q.at_ 6
 s1 : q.L.2.2.ok (100075 + 200 * i + 10)
 s2 : q.D.2.ok (100078 + 200 * i + 10)
 s3 : q.W.2.ok (100081 + 200 * i + 10)
 d : 0 ≤ q.D.1 ∧ q.D.1 < 6
 w : 0 ≤ q.W.1 ∧ q.W.1 < 2
 tb : q.at_ < q.to ∧ q.to ≤ q.at_ + 60
 rc : (q.rc i).ok = true
 k1 : keyOK (q.key i) = true
 k2 : keyOK (manK i) = true
 ln : (smpsText q.L.1).length ≤ 300
 ok1 : (q.x1 i).ok = true
 len1 : (q.x1 i).os.length ≤ 2 * (i - 1) + 1
 nxt1 : (q.x1 i).next ≤ 2 + 2 * ((i : Int) - 1)
theorem FI.draw {i : Nat} {q : FS} (h : FI i q) (hi : 1 ≤ i ∧ i ≤ 6) : ((0 ≤ (q.s.next 5).1 ∧ (q.s.next 5).1 < 5) ∧ q.draw.s.ok (100003 + 200 * i)) := by
 have n1 := next_b q.s h.s (by omega) 5
 exact ⟨⟨n1.1.1, n1.1.2 (by omega)⟩, wk n1.2.1 (by omega)⟩
theorem manK_keyOK (n : Int) : keyOK (manK n) = true := by
 have hs : (manK n).length = 10 := by simp [manK, six6]
 have e : (manK n).all keyC = true := by
  unfold manK
  rw [List.all_append]
  have : (six6 n.toNat).all keyC = true := List.all_eq_true.2 fun x hx => by
   have := List.all_eq_true.1 (six6_dig n.toNat) x hx
   have := of_decide_eq_true this
   unfold keyC
   simp only [Bool.or_eq_true, Bool.and_eq_true, decide_eq_true_eq]
   left; left; right
   omega
  rw [this]
  decide
 unfold keyOK
 rw [e, hs]
 decide
theorem keyF_fields {t n w : Nat} (ht : t ≤ 2) (hn : n ≤ 999999) (hw : w ≤ 999999) : kOk (keyB t n w) = true ∧ kT (keyB t n w) = t ∧ kN (keyB t n w) = n ∧ kW (keyB t n w) = w := by
 have h := parse_key ht hn hw
 unfold kOk kT kN kW
 rw [h]
 exact ⟨rfl, rfl, rfl, rfl⟩
theorem rcF_ok {f t : Int} {n w : Nat} (hf : 0 ≤ f) (hft : f < t) (ht : t ≤ 100000) (hn : n ≤ 999999) (hn1 : 1 ≤ n) (hw : w ≤ 9) : Rc.ok ⟨1, 0, 0, f, t, keyB 0 n w⟩ = true := by
 obtain ⟨k1, k2, k3, k4⟩ := keyF_fields (t := 0) (n := n) (w := w) (by omega) (by omega) (by omega)
 unfold Rc.ok Rc.en En.ok
 simp only [if_true, k1, k2, isRange, within]
 simp
 omega
theorem Rc.txt_len {r : Rc} (h : r.ok = true) : r.text.length ≤ 130 := by
 have hk := (Rc.okN h).2
 have hh := Rc.head_len h
 unfold Rc.text; simp only [List.length_append, List.length_cons, List.length_nil]; omega
theorem FI.facts {i : Nat} {q : FS} (h : FI i q) (hs : q.draw.s.ok (100003 + 200 * i)) (hi : 1 ≤ i ∧ i ≤ 6) : FB i q.draw := by
 obtain ⟨h1, h2, h3, h4, h5⟩ := h
 have h1 : q.draw.x.ok = true := h1
 have h2 : q.draw.x.os.length ≤ 2 * (i - 1) := h2
 have h3 : q.draw.x.next ≤ 1 + 2 * ((i : Int) - 1) := h3
 have h4 : 0 ≤ q.draw.at_ ∧ q.draw.at_ ≤ 100 * ((i : Int) - 1) := h4
 generalize q.draw = q at *
 obtain ⟨m1, m2⟩ := samples_b q.s q.at_ 6 hs (by omega) (by omega) (by omega) h4.1
 have m1 : SmpF q.L q.at_ 6 := m1
 have m2 : q.L.2.2.ok (100003 + 200 * i + 3 + 12 * 6) := by have := m2; exact wk this (by omega)
 have n1 := next_b q.L.2.2 m2 (by omega) 6
 have d1 : 0 ≤ q.D.1 ∧ q.D.1 < 6 := ⟨n1.1.1, n1.1.2 (by omega)⟩
 have n1 : q.D.2.ok (100003 + 200 * i + 3 + 12 * 6 + 3) := n1.2.1
 have n2 := next_b q.D.2 n1 (by omega) 2
 have w1 : 0 ≤ q.W.1 ∧ q.W.1 < 2 := ⟨n2.1.1, n2.1.2 (by omega)⟩
 have n2 : q.W.2.ok (100003 + 200 * i + 3 + 12 * 6 + 3 + 3) := n2.2.1
 have hto : q.at_ < q.to ∧ q.to ≤ q.at_ + 60 := by
  unfold FS.to
  split
  · omega
  · have := m1.tm _ (getD_mem (show q.L.1.length - 1 < q.L.1.length by omega))
    exact ⟨by have := this.1; omega, by have := this.2; omega⟩
 have hrc : (q.rc i).ok = true := rcF_ok h4.1 hto.1 (by omega) (by omega) (by omega) (by omega)
 have hln := smpsText_len (smpsOK_num m1.ok)
 have hlen := m1.len
 have hl3 : (smpsText q.L.1).length ≤ 300 := by omega
 have hk : keyOK (q.key i) = true := keyF_ok (by omega)
 obtain ⟨p1, p2, p3, p4, p5⟩ := put_ok h1 hk (d := smpsText q.L.1) (by omega) (by omega) (by omega)
 rw [p2] at p3 p4 p5
 exact ⟨m1, wk m2 (by omega), wk n1 (by omega), wk n2 (by omega), d1, w1, hto, hrc, hk, manK_keyOK _, hl3, p3, by show (q.x.set _ _).os.length ≤ _; omega, by show (q.x.set _ _).next ≤ _; omega⟩
theorem FI.step {i : Nat} {q : FS} (h : FI i q) (hs : q.draw.s.ok (100003 + 200 * i)) (hi : 1 ≤ i ∧ i ≤ 6) : FI (i + 1) (q.draw.step i) := by
 have b := h.facts hs hi
 have hat := h.at_
 have hat : 0 ≤ q.draw.at_ ∧ q.draw.at_ ≤ 100 * ((i : Int) - 1) := hat
 obtain ⟨p1, p2, p3, p4, p5⟩ := put_ok b.ok1 b.k2 (d := (q.draw.rc i).text) (by have := Rc.txt_len b.rc; omega) (by have := b.len1; omega) (by have := b.nxt1; omega)
 rw [p2] at p3 p4 p5
 have l1 := b.len1
 have l2 := b.nxt1
 have l3 := b.tb
 exact ⟨p3, by show ((q.draw.x1 i).set _ _).os.length ≤ _; omega, by show ((q.draw.x1 i).set _ _).next ≤ _; omega, by show 0 ≤ q.draw.to ∧ q.draw.to ≤ _; omega, wk b.s3 (by omega)⟩
theorem fiIt_eq {i : Nat} (hi : i ≤ 6) (q : FS) : fiIt (7 - i) i q = if (i : Int) ≤ 1 + (q.s.next 5).1 then fiIt (7 - (i + 1)) (i + 1) (q.draw.step i) else q.draw := by
 rw [show 7 - i = (7 - (i + 1)) + 1 by omega]
 rfl
theorem NewStoreF_fn : VFn Tryz.prog 64 [] stoN0.av := by
 refine VFn.introC Tryz.call64 Tryz.func64 rfl rfl ?_
 conv => whnf
 refine And.intro trivial (AVle.agg (AVsle.cons (AVle.sl rfl fun i hi => absurd hi (Nat.not_lt_zero i)) (AVsle.cons (AVle.refl _) AVsle.nil)))
theorem filled_fn (s : Src) (h : s.ok 100000) : FnM Tryz.prog 33 1 [.bptr 0 0] [(0, .box s.row)] s.filled.x.av [(0, .box s.filled.s.row)] 1 := by
 obtain ⟨R, hR⟩ : ∃ R, R = s.filled := ⟨_, rfl⟩
 rw [← hR]
 refine FnM.introC Tryz.call33 Tryz.func33 rfl rfl ?_
 conv => whnf
 refine CallC.nl _ (NewStoreF_fn) ?_ ?_
 · exact rfl
 refine LoopC.mk (fun a : Nat × FS => (1 ≤ a.1 ∧ a.1 ≤ 6) ∧ FI a.1 a.2 ∧ fiIt (7 - a.1) a.1 a.2 = R) (fun a => [(0, .bptr 0 0), (2, .bptr 1 0), (3, .bptr 2 0), (4, .int .i64 a.2.at_), (5, .int .i64 a.1)])
  (fun a => [(0, .box a.2.s.row), (1, .box [.nilsl, .int .i64 0]), (2, .box a.2.x.row)]) 3 (fun a => 7 - a.1) (1, ⟨stoN0, 0, s⟩)
  ⟨⟨⟨Nat.le_refl _, (by decide : 1 ≤ 6)⟩, FI.zero h, hR.symm⟩, [(0, 0), (1, 1), (2, 2)], rfl, rfl, ⟨AVle.refl _, AVle.refl _, AVle.refl _, AVle.refl _, AVle.refl _, trivial⟩, ⟨MOle.refl _, MOle.refl _, MOle.refl _, trivial⟩⟩ ?_
 intro a ha
 obtain ⟨i, q⟩ := a
 obtain ⟨hi, hq, he⟩ := ha
 simp only at hi hq he
 have hd := hq.draw hi
 have hb := hq.facts hd.2 hi
 have hn := hq.step hd.2 hi
 rw [fiIt_eq hi.2] at he
 have hnx := hq.nxt
 have hln := hq.len
 conv => whnf
 refine CallC.k [(0, 0)] (next_fn q.s 5 (wk hq.s (by omega))) rfl rfl (AVsle.refl _) ⟨MOle.refl _, trivial⟩ rfl ?_
 refine And.intro (inI64 (by omega) (by omega)) ?_
 refine Grd.intro (fun g1 => ?_) (fun g1 => ?_)
 case _ =>
  have g1 : (i : Int) ≤ 1 + (q.s.next 5).1 := of_decide_eq_true g1
  rw [if_pos g1] at he
  have hi5 : i ≤ 5 := by have := hd.1.2; omega
  have hat : 0 ≤ q.draw.at_ ∧ q.draw.at_ ≤ 100 * ((i : Int) - 1) := hq.at_
  have hdl := hb.m.len
  have hd6 := hb.d
  have hw2 := hb.w
  have hto := hb.tb
  obtain ⟨w, hw⟩ : ∃ w : Nat, q.draw.W.1 = w := ⟨q.draw.W.1.toNat, by omega⟩
  have ck : VFn Tryz.prog 66 [.int .i64 0, .int .i64 i, .int .i64 q.draw.W.1] (.str (B (q.draw.key i))) := by
   have hk : q.draw.key i = keyB 0 i w := by unfold FS.key; rw [hw]; rfl
   rw [hk, hw]
   exact l03Key_at (t := 0) (n := i) (w := w) rfl rfl rfl (by omega) (by omega) (by omega)
  have ct := l03Samples_fn q.draw.L.1 (by omega) (smpsOK_num hb.m.ok)
  have cs1 := l01Set_fn q.draw.x (by show q.x.os.length ≤ _; omega) ⟨by show q.x.next ≤ _; omega, by have := ((stoOK_iff _).1 hq.ok).nx; show 0 ≤ q.x.next; omega⟩ (q.draw.key i) (smpsText q.draw.L.1)
  have ckm := l06Key_fn (i : Int) (by simp [within]; omega)
  have crt := l06Text_fn (q.draw.rc i) hb.rc
  have cs2 := l01Set_fn (q.draw.x1 i) (by have := hb.len1; omega) ⟨by have := hb.nxt1; omega, by have := ((stoOK_iff _).1 hb.ok1).nx; omega⟩ (manK i) (q.draw.rc i).text
  conv => whnf
  refine CallC.k [(0, 0)] (samples_fn q.draw.s q.draw.at_ 6 (wk hd.2 (by omega)) (by omega) (by omega)) rfl rfl (AVsle.refl _) ⟨MOle.refl _, trivial⟩ rfl ?_
  refine And.intro (show inI .i64 (q.draw.at_ + 1) from inI64 (by omega) (by omega)) ?_
  conv => whnf
  refine CallC.k [(0, 0)] (next_fn q.draw.L.2.2 6 (wk hb.s1 (by omega))) rfl rfl (AVsle.refl _) ⟨MOle.refl _, trivial⟩ rfl ?_
  refine And.intro (show inI .i64 (q.draw.at_ + 1 + q.draw.D.1) from inI64 (by omega) (by omega)) ?_
  refine Grd.intro (fun g2 => ?_) (fun g2 => ?_)
  case _ =>
   have g2 : 0 < q.draw.L.1.length := by have : (0 : Int) < (q.draw.L.1.length : Int) := of_decide_eq_true g2; omega
   have hb9 := hb.m.tm _ (getD_mem (show ((q.draw.L.1.length : Int) - 1).toNat < q.draw.L.1.length by omega))
   have e9 : ((q.draw.L.1.length : Int) - 1).toNat = q.draw.L.1.length - 1 := by omega
   have eto : q.draw.to = (ix q.draw.L.1 ((q.draw.L.1.length : Int) - 1).toNat).t + 1 := by unfold FS.to; rw [if_neg (by omega), e9]
   refine And.intro (show inI .i64 ((q.draw.L.1.length : Int) - 1) from inI64 (by omega) (by omega)) ?_
   refine And.intro (show (0 : Int) ≤ (q.draw.L.1.length : Int) - 1 ∧ (q.draw.L.1.length : Int) - 1 < (q.draw.L.1.length : Int) by omega) ?_
   refine And.intro (show inI .i64 ((ix q.draw.L.1 ((q.draw.L.1.length : Int) - 1).toNat).t + 1) from inI64 (by have := hb9.1; omega) (by have := hb9.2; omega)) ?_
   conv => whnf
   refine CallC.k [(0, 0)] (next_fn q.draw.D.2 2 (wk hb.s2 (by omega))) rfl rfl (AVsle.refl _) ⟨MOle.refl _, trivial⟩ rfl ?_
   have crt' : VFn Tryz.prog 70 [.agg [.int .i64 1, .int .i64 0, .int .i64 0, .int .i64 q.draw.at_, .int .i64 ((ix q.draw.L.1 ((q.draw.L.1.length : Int) - 1).toNat).t + 1), .str (B (q.draw.key i))]] (.str (B (q.draw.rc i).text)) := by rw [← eto]; exact crt
   conv => whnf
   refine CallC.sca _ (ck) ?_ ?_
   · exact rfl
   conv => whnf
   refine DrawC.mq 5 rfl (by kernel_rfl) ?_
   refine PCallQ.sca _ (ct) rfl ?_
   refine PCallQ.nl _ (cs1) rfl ?_
   conv => whnf
   refine DrawC.mq 9 rfl (by kernel_rfl) ?_
   refine PCallQ.sca _ (ckm) rfl ?_
   refine PCallQ.sca _ (crt') rfl ?_
   refine PCallQ.nl _ (cs2) rfl ?_
   refine And.intro (inI64 (by omega) (by omega)) ?_
   exact ⟨(i + 1, q.draw.step i), ⟨⟨by omega, by omega⟩, hn, he⟩, (by show 7 - (i + 1) < 7 - i; omega), [(0, 0), (1, 1), (2, 2)], rfl, rfl, ⟨AVle.refl _, AVle.refl _, AVle.refl _, AVle.of_eq (congrArg (AV.int .i64) eto.symm), AVle.of_eq (congrArg (AV.int .i64) (by simp)), trivial⟩, ⟨MOle.refl _, MOle.refl _, MOle.refl _, trivial⟩⟩
  case _ =>
   have g2 : q.draw.L.1.length = 0 := by have : ¬ (0 : Int) < (q.draw.L.1.length : Int) := of_decide_eq_false g2; omega
   have eto : q.draw.to = q.draw.at_ + 1 + q.draw.D.1 := by unfold FS.to; rw [if_pos g2]
   conv => whnf
   refine CallC.k [(0, 0)] (next_fn q.draw.D.2 2 (wk hb.s2 (by omega))) rfl rfl (AVsle.refl _) ⟨MOle.refl _, trivial⟩ rfl ?_
   have crt' : VFn Tryz.prog 70 [.agg [.int .i64 1, .int .i64 0, .int .i64 0, .int .i64 q.draw.at_, .int .i64 (q.draw.at_ + 1 + q.draw.D.1), .str (B (q.draw.key i))]] (.str (B (q.draw.rc i).text)) := by rw [← eto]; exact crt
   conv => whnf
   refine CallC.sca _ (ck) ?_ ?_
   · exact rfl
   conv => whnf
   refine DrawC.mq 5 rfl (by kernel_rfl) ?_
   refine PCallQ.sca _ (ct) rfl ?_
   refine PCallQ.nl _ (cs1) rfl ?_
   conv => whnf
   refine DrawC.mq 9 rfl (by kernel_rfl) ?_
   refine PCallQ.sca _ (ckm) rfl ?_
   refine PCallQ.sca _ (crt') rfl ?_
   refine PCallQ.nl _ (cs2) rfl ?_
   refine And.intro (inI64 (by omega) (by omega)) ?_
   exact ⟨(i + 1, q.draw.step i), ⟨⟨by omega, by omega⟩, hn, he⟩, (by show 7 - (i + 1) < 7 - i; omega), [(0, 0), (1, 1), (2, 2)], rfl, rfl, ⟨AVle.refl _, AVle.refl _, AVle.refl _, AVle.of_eq (congrArg (AV.int .i64) eto.symm), AVle.of_eq (congrArg (AV.int .i64) (by simp)), trivial⟩, ⟨MOle.refl _, MOle.refl _, MOle.refl _, trivial⟩⟩
 case _ =>
  have g1 : ¬ (i : Int) ≤ 1 + (q.s.next 5).1 := of_decide_eq_false g1
  rw [if_neg g1] at he
  subst he
  exact And.intro trivial ⟨[(0, 0)], rfl, AVle.refl _, ⟨MOle.refl _, trivial⟩⟩
theorem join_no32 : ∀ L : List Int, ∀ x ∈ Lib.join (L.map Lib.itoa) [44], x ≠ (32 : UInt8)
 | [], x, hx => by simp [Lib.join] at hx
 | [a], x, hx => itoa_ne (by decide) (by decide) x (by simpa [Lib.join] using hx)
 | a :: b :: r, x, hx => by
   have e : Lib.join ((a :: b :: r).map Lib.itoa) [44] = Lib.itoa a ++ [44] ++ Lib.join ((b :: r).map Lib.itoa) [44] := by simp [Lib.join, List.intercalate, List.intersperse]
   rw [e] at hx
   rcases List.mem_append.1 hx with hx | hx
   · rcases List.mem_append.1 hx with hx | hx
     · exact itoa_ne (by decide) (by decide) x hx
     · simp at hx; rw [hx]; decide
   · exact join_no32 (b :: r) x hx
theorem text_nums {r : Rc} (h : r.ok = true) : numsK 44 5 (Lib.join (r.nums.map Lib.itoa) [44]) = some [r.k, r.tok, r.tier, r.f, r.t] :=
 nums_back (c := 44) (by decide) (by decide) (N := r.nums) (by simp [Rc.nums]) (fun n hn => by have := (Rc.okN h).1 n hn; unfold mid at this; omega)
theorem text_back {r : Rc} (h : r.ok = true) : readR r.text = some r := by
 have := (readR_at (b := r.key) (join_no32 r.nums)).1 _ _ _ _ _ (text_nums h)
 show readR (Lib.join (r.nums.map Lib.itoa) [44] ++ 32 :: r.key) = _
 rw [this, if_pos h]
theorem smpsF_srt {L : List Smp} (h : smpsOK L = true) : ∀ i j, i ≤ j → j < L.length → (ix L i).t ≤ (ix L j).t := by
 have hh : ∀ i, i < L.length → smpAt L i = true := by
  unfold smpsOK at h
  rw [Bool.and_eq_true] at h
  exact allN_iff.1 h.2
 intro i j hij
 induction j with
 | zero => intro _; rw [show i = 0 by omega]; exact Int.le_refl _
 | succ j ih =>
   intro hj
   rcases Nat.lt_or_ge i (j + 1) with h1 | h1
   · have a := ih (by omega) (by omega)
     have b := hh (j + 1) hj
     simp [smpAt] at b
     omega
   · rw [show i = j + 1 by omega]; exact Int.le_refl _
structure FE (x : Sto) (E : List En) (at_ : Int) : Prop where
 tm : ∀ e ∈ E, e.tier = 0 ∧ 0 ≤ e.f ∧ e.f < e.t ∧ e.t ≤ at_ ∧ e.t ≤ e.f + 60
 key : ∀ j, j < E.length → ∃ w : Nat, w ≤ 1 ∧ (ix E j).key = keyB 0 (j + 1) w
 hd : ∀ e r, E = e :: r → e.f = 0
 last : at_ = match E.getLast? with | none => 0 | some e => e.t
 data : ∀ e ∈ E, ∃ L : List Smp, smpsOK L = true ∧ L.length ≤ 6 ∧ (∀ s ∈ L, e.f ≤ s.t ∧ s.t < e.t) ∧ x.has e.key = true ∧ (x.get e.key).data = smpsText L
structure FL (i : Nat) (q : FS) : Prop where
 has : ∀ n : Nat, 1 ≤ n → n ≤ 999999 → q.x.has (manK (n : Int)) = decide (n < i)
 fin : logEnd q.x = i - 1
 st : ∃ E : List En, logS q.x = ⟨((i - 1 : Nat) : Int), 0, E, [], 0, 0, 0, q.at_, 0, 0⟩ ∧ E.length = i - 1 ∧ FE q.x E q.at_
theorem FL.zero {s : Src} : FL 1 ⟨stoN0, 0, s⟩ :=
 ⟨fun n h1 h2 => by rw [decide_eq_false (by omega)]; rfl, rfl, [], rfl, rfl, ⟨by simp, fun j hj => absurd hj (Nat.not_lt_zero j), fun e r h => (by cases h), rfl, by simp⟩⟩
theorem man_ne_key (n : Int) {t m w : Nat} : manK n ≠ keyB t m w := fun h => by
 have h1 : (manK n).length = 10 := by simp [manK, six6]
 have h2 : 13 ≤ (keyB t m w).length := by
  unfold keyB pre
  split <;> simp [six6]
 rw [h] at h1
 omega
theorem FL.step {i : Nat} {q : FS} (h : FI i q) (hf : FL i q) (hs : q.draw.s.ok (100003 + 200 * i)) (hi : 1 ≤ i ∧ i ≤ 6) : FL (i + 1) (q.draw.step i) := by
 have b := h.facts hs hi
 have hst := h.step hs hi
 have hok : q.draw.x.ok = true := h.ok
 obtain ⟨f1, f2, E, f3, f4, f5⟩ := hf
 have hat : 0 ≤ q.draw.at_ ∧ q.draw.at_ ≤ 100 * ((i : Int) - 1) := h.at_
 have f1 : ∀ n : Nat, 1 ≤ n → n ≤ 999999 → q.draw.x.has (manK (n : Int)) = decide (n < i) := f1
 have f2 : logEnd q.draw.x = i - 1 := f2
 have f3 : logS q.draw.x = ⟨((i - 1 : Nat) : Int), 0, E, [], 0, 0, 0, q.draw.at_, 0, 0⟩ := f3
 have f5 : FE q.draw.x E q.draw.at_ := f5
 have hok2 : (q.draw.step i).x.ok = true := hst.ok
 generalize q.draw = q at *
 obtain ⟨w, hw⟩ : ∃ w : Nat, q.W.1 = w := ⟨q.W.1.toNat, by have := b.w; omega⟩
 have hw1 : w ≤ 1 := by have := b.w; omega
 have hkey : q.key i = keyB 0 i w := by unfold FS.key; rw [hw]; rfl
 have hne : ∀ n : Int, manK n ≠ q.key i := fun n => by rw [hkey]; exact man_ne_key n
 -- the first change
 have a1 : ∀ k, k ≠ q.key i → (q.x1 i).has k = q.x.has k ∧ (q.x.has k = true → (q.x1 i).get k = q.x.get k) := fun k hk => set_ne hok b.ok1 hk
 have a2 : ∀ k, k ≠ manK (i : Int) → (q.step i).x.has k = (q.x1 i).has k ∧ ((q.x1 i).has k = true → (q.step i).x.get k = (q.x1 i).get k) := fun k hk => set_ne b.ok1 hok2 hk
 have a3 : ∀ k, k ≠ q.key i → k ≠ manK (i : Int) → (q.step i).x.has k = q.x.has k ∧ (q.x.has k = true → (q.step i).x.get k = q.x.get k) := fun k h1 h2 => by
  obtain ⟨c1, c2⟩ := a1 k h1
  obtain ⟨d1, d2⟩ := a2 k h2
  exact ⟨d1.trans c1, fun h => (d2 (c1.trans h)).trans (c2 h)⟩
 have a4 : (q.step i).x.has (manK (i : Int)) = true ∧ (q.step i).x.get (manK (i : Int)) = ⟨manK (i : Int), (q.x1 i).next, (q.rc i).text⟩ := set_at _ _ _
 have a5 : (q.step i).x.has (q.key i) = true ∧ ((q.step i).x.get (q.key i)).data = smpsText q.L.1 := by
  obtain ⟨d1, d2⟩ := a2 (q.key i) (fun e => hne i e.symm)
  have c := set_at q.x (q.key i) (smpsText q.L.1)
  have c1 : (q.x1 i).has (q.key i) = true := c.1
  have c2 : (q.x1 i).get (q.key i) = ⟨q.key i, q.x.next, smpsText q.L.1⟩ := c.2
  exact ⟨d1.trans c1, by rw [d2 c1, c2]⟩
 have a6 : ∀ n : Nat, 1 ≤ n → n ≤ 999999 → (q.step i).x.has (manK (n : Int)) = decide (n < i + 1) := fun n h1 h2 => by
  by_cases e : n = i
  · subst e
    rw [a4.1, decide_eq_true (by omega)]
  · rw [(a3 _ (hne n) fun e' => e (manK_inj h2 (by omega) e')).1, f1 n h1 h2]
    by_cases h3 : n < i
    · rw [decide_eq_true h3, decide_eq_true (by omega)]
    · rw [decide_eq_false h3, decide_eq_false (by omega)]
 have hi1 : i - 1 + 1 = i := by omega
 obtain ⟨g1, g2⟩ := log_grow (x := q.x) (y := (q.step i).x) hok2 (n := i - 1) (by omega) (fun j hj => by rw [f1 _ (by omega) (by omega)]; exact decide_eq_true (by omega)) f2
  (fun j hj => by
   have hh : q.x.has (manK ((j + 1 : Nat) : Int)) = true := by rw [f1 _ (by omega) (by omega)]; exact decide_eq_true (by omega)
   obtain ⟨c1, c2⟩ := a3 (manK ((j + 1 : Nat) : Int)) (hne _) (fun e' => by have := manK_inj (by omega) (by omega) e'; omega)
   exact ⟨c1.trans hh, by rw [c2 hh]⟩)
  (by rw [hi1]; exact a4.1) (by rw [a6 _ (by omega) (by omega)]; exact decide_eq_false (by omega))
 rw [hi1, a4.2] at g2
 have hE : ∀ e ∈ E, ∃ (m w' : Nat), m < i ∧ 1 ≤ m ∧ w' ≤ 1 ∧ e.key = keyB 0 m w' := fun e he => by
  obtain ⟨j, hj, e1⟩ := List.getElem_of_mem he
  obtain ⟨w', h1, h2⟩ := f5.key j hj
  rw [ix_lt hj, e1] at h2
  exact ⟨j + 1, w', by omega, by omega, h1, h2⟩
 have hEk : ∀ e ∈ E, e.key ≠ q.key i := fun e he h' => by
  obtain ⟨m, w', h1, h2, h3, h4⟩ := hE e he
  rw [h4, hkey] at h'
  have k1 := (keyF_fields (t := 0) (n := m) (w := w') (by omega) (by omega) (by omega)).2.2.1
  have k2 := (keyF_fields (t := 0) (n := i) (w := w) (by omega) (by omega) (by omega)).2.2.1
  rw [h', k2] at k1
  omega
 have hlay : logS (q.step i).x = ⟨((i : Nat) : Int), 0, E ++ [⟨0, q.at_, q.to, q.key i⟩], [], 0, 0, 0, q.to, 0, 0⟩ := by
  rw [g2, f3]
  unfold Sta.lay
  simp only
  rw [text_back b.rc]
  have hk2 := (keyF_fields (t := 0) (n := i) (w := w) (by omega) (by omega) (by omega)).2.2.1
  have htk : (⟨((i - 1 : Nat) : Int), 0, E, [], 0, 0, 0, q.at_, 0, 0⟩ : Sta).takes (q.rc i) = true := by
   unfold Sta.takes FS.rc
   simp only [if_true, hkey, hk2]
   have hn : (⟨((i - 1 : Nat) : Int), 0, E, [], 0, 0, 0, q.at_, 0, 0⟩ : Sta).has (keyB 0 i w) = false := by
    cases hh : (⟨((i - 1 : Nat) : Int), 0, E, [], 0, 0, 0, q.at_, 0, 0⟩ : Sta).has (keyB 0 i w) with
    | false => rfl
    | true =>
      have := (has_iff _ _).1 hh
      simp [Sta.keys] at this
      obtain ⟨e, he, h'⟩ := this
      exact absurd (h'.trans hkey.symm) (hEk e he)
   rw [hn, decide_eq_true (by omega : ((i : Nat) : Int) = ((i - 1 : Nat) : Int) + 1)]
   simp
  show (Sta.app _ (q.rc i)) = _
  unfold Sta.app
  rw [if_pos htk]
  unfold FS.rc
  simp [Sta.lift, Sta.tick, Rc.en]
  omega
 refine ⟨a6, by rw [g1]; omega, E ++ [⟨0, q.at_, q.to, q.key i⟩], by rw [hlay]; rfl, by rw [List.length_append, f4]; simp; omega, ?_⟩
 have hto := b.tb
 refine ⟨fun e he => ?_, fun j hj => ?_, fun e r he => ?_, ?_, fun e he => ?_⟩
 · rcases List.mem_append.1 he with he | he
   · have := f5.tm e he
     exact ⟨this.1, this.2.1, this.2.2.1, by show e.t ≤ q.to; omega, this.2.2.2.2⟩
   · simp at he
     subst he
     exact ⟨rfl, hat.1, hto.1, Int.le_refl _, hto.2⟩
 · rw [List.length_append] at hj
   rcases Nat.lt_or_ge j E.length with h1 | h1
   · rw [ix_app_l h1]; exact f5.key j h1
   · have : j = E.length := by simp at hj; omega
     subst this
     rw [ix_app_r (Nat.le_refl _), Nat.sub_self]
     exact ⟨w, hw1, by show q.key i = _; rw [hkey, f4, hi1]⟩
 · cases E with
   | nil =>
     simp at he
     rw [← he.1]
     have := f5.last
     exact this
   | cons a l =>
     simp at he
     rw [← he.1]
     exact f5.hd a l rfl
 · simp
   rfl
 · rcases List.mem_append.1 he with he | he
   · obtain ⟨L, l1, l2, l3, l4, l5⟩ := f5.data e he
     obtain ⟨m, w', h1, h2, h3, h4⟩ := hE e he
     obtain ⟨c1, c2⟩ := a3 e.key (hEk e he) (fun e' => by rw [h4] at e'; exact man_ne_key _ e'.symm)
     exact ⟨L, l1, l2, l3, c1.trans l4, by rw [c2 l4]; exact l5⟩
   · simp at he
     subst he
     refine ⟨q.L.1, b.m.ok, b.m.len, fun s hs => ?_, a5.1, a5.2⟩
     have := b.m.tm s hs
     refine ⟨this.1, ?_⟩
     obtain ⟨j, hj, e1⟩ := List.getElem_of_mem hs
     have e2 := smpsF_srt b.m.ok j (q.L.1.length - 1) (by omega) (by omega)
     rw [ix_lt hj, e1] at e2
     show s.t < q.to
     unfold FS.to
     rw [if_neg (by omega)]
     omega
theorem fill_log {i : Nat} {q : FS} (h : FI i q) (hf : FL i q) (hi : 1 ≤ i ∧ i ≤ 6) : ∃ j, i ≤ j ∧ j ≤ 6 ∧ ∃ q', FI j q' ∧ FL j q' ∧ q'.draw.s.ok (100003 + 200 * j) ∧ fiIt (7 - i) i q = q'.draw := by
 have hd := h.draw hi
 rw [fiIt_eq hi.2]
 split
 · rename_i g
   have hi5 : i ≤ 5 := by have := hd.1.2; omega
   obtain ⟨j, j1, j2, r⟩ := fill_log (h.step hd.2 hi) (FL.step h hf hd.2 hi) ⟨by omega, by omega⟩
   exact ⟨j, by omega, j2, r⟩
 · exact ⟨i, Nat.le_refl _, hi.2, q, h, hf, hd.2, rfl⟩
termination_by 7 - i
structure FF (s : Src) (m : Nat) (E : List En) : Prop where
 rng : 1 ≤ m ∧ m ≤ 5
 ok : s.filled.x.ok = true
 len : s.filled.x.os.length ≤ 10
 nxt : s.filled.x.next ≤ 11
 src : s.filled.s.ok 101300
 at_ : 0 < s.filled.at_ ∧ s.filled.at_ ≤ 500
 has : ∀ n : Nat, 1 ≤ n → n ≤ 999999 → s.filled.x.has (manK (n : Int)) = decide (n ≤ m)
 fin : logEnd s.filled.x = m
 log : logS s.filled.x = ⟨(m : Int), 0, E, [], 0, 0, 0, s.filled.at_, 0, 0⟩
 el : E.length = m
 es : FE s.filled.x E s.filled.at_
theorem filled_facts {s : Src} (h : s.ok 100000) : ∃ m E, FF s m E := by
 have h0 := FI.zero h
 have hd := h0.draw (by decide)
 have e0 : s.filled = fiIt (7 - 1) 1 ⟨stoN0, 0, s⟩ := rfl
 rw [fiIt_eq (by decide), if_pos (by have := hd.1.1; omega)] at e0
 obtain ⟨j, j1, j2, q, hq, hl, hs, e⟩ := fill_log (h0.step hd.2 (by decide)) (FL.step h0 FL.zero hd.2 (by decide)) ⟨by decide, by decide⟩
 have e : s.filled = q.draw := e0.trans e
 obtain ⟨f1, f2, E, f3, f4, f5⟩ := hl
 have l1 := hq.len
 have l2 := hq.nxt
 have l3 := hq.at_
 have hat : 0 < q.at_ := by
  have := f5.last
  cases hE : E.getLast? with
  | none =>
    rw [List.getLast?_eq_none_iff] at hE
    rw [hE] at f4
    simp at f4
    omega
  | some a =>
    rw [hE] at this
    have h1 := f5.tm a (List.mem_of_getLast? hE)
    simp only at this
    omega
 have hj : (j - 1 : Nat) + 1 = j := by omega
 refine ⟨j - 1, E, ?_⟩
 constructor
 · omega
 all_goals try rw [e]
 · exact hq.ok
 · show q.x.os.length ≤ _; omega
 · show q.x.next ≤ _; omega
 · exact wk hs (by omega)
 · exact ⟨hat, by show q.at_ ≤ _; omega⟩
 · intro n h1 h2
   show q.x.has _ = _
   rw [f1 n h1 h2]
   by_cases h3 : n < j
   · rw [decide_eq_true h3, decide_eq_true (by omega)]
   · rw [decide_eq_false h3, decide_eq_false (by omega)]
 · exact f2
 · exact f3
 · exact f4
 · exact f5
structure LogX (x : Sto) (n : Nat) (s : Sta) : Prop where
 ok : x.ok = true
 has : ∀ k : Nat, 1 ≤ k → k ≤ 999999 → x.has (manK (k : Int)) = decide (k ≤ n)
 fin : logEnd x = n
 log : logS x = s
theorem manK_head (n : Int) : (manK n).head? ≠ some 112 := by simp [manK]
theorem keyB_head {t n w : Nat} (ht : t ≤ 2) : (keyB t n w).head? ≠ some 112 := by
 have h : t = 0 ∨ t = 1 ∨ t = 2 := by omega
 rcases h with rfl | rfl | rfl <;> simp [keyB, pre]
theorem pin_head {k : List UInt8} (h : Lib.hasPrefix k pinP = true) : k.head? = some 112 := by
 unfold Lib.hasPrefix pinP at h
 cases k with
 | nil => simp at h
 | cons a r =>
   simp [List.isPrefixOf] at h
   simp [h.1]
theorem pin_ne_man {k : List UInt8} (h : Lib.hasPrefix k pinP = true) (i : Int) : k ≠ manK i := fun e => by
 have := pin_head h
 rw [e] at this
 exact manK_head i this
theorem pin_ne_key {k : List UInt8} (h : Lib.hasPrefix k pinP = true) {t n w : Nat} (ht : t ≤ 2) : k ≠ keyB t n w := fun e => by
 have := pin_head h
 rw [e] at this
 exact keyB_head ht this
end Go.Proofs.YtigbaclopbcjnaaGreatDoor
