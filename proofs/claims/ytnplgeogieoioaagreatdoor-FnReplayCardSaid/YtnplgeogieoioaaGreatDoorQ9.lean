/- Contracts of functions that the claim reaches, and the plain law of what they compute; each theorem bears its own conditions. -/
import Derived.Test.YtnplgeogieoioaaGreatDoorQ8
import Derived.Test.YtnplgeogieoioaaGreatDoorQ6
import Derived.Test.YtnplgeogieoioaaGreatDoorV52
import Derived.Test.YtnplgeogieoioaaGreatDoorQ4
import Derived.Test.YtnplgeogieoioaaGreatDoorQ5
set_option linter.unusedVariables false
set_option linter.constructorNameAsVariable false
set_option linter.unusedSimpArgs false
set_option maxRecDepth 20000
set_option maxHeartbeats 1000000
namespace Go.Proofs.YtnplgeogieoioaaGreatDoor
open Go Go.Vw
theorem ix_in {α : Type} [Inhabited α] {L : List α} {i : Nat} (h : i < L.length) : ix L i ∈ L := by rw [ix_lt h]; exact List.getElem_mem h
theorem draw (s : Src) {k : Int} (h : s.ok k) (hk : 0 ≤ k ∧ k ≤ 10000000) (n : Int) (hn : 1 ≤ n) : ∃ (v : Nat) (q : Src), (v : Int) < n ∧ q.ok (k + 3) ∧ FnM Tryz.prog 97 1 [.bptr 0 0, .int .i64 n] [(0, .box s.row)] (.int .i64 v) [(0, .box q.row)] 1 := by
 have n1 := next_b s h (by omega) n
 have n2 := n1.1.2 hn
 obtain ⟨v, hv⟩ : ∃ v : Nat, (s.next n).1 = v := ⟨(s.next n).1.toNat, by omega⟩
 have c := next_fn s n (wk h (by omega))
 rw [hv] at c n2
 exact ⟨v, (s.next n).2, n2, n1.2.1, c⟩
theorem rc_mid {k tok tier f t : Int} {key : List UInt8} (h1 : mid k) (h2 : mid tok) (h3 : mid tier) (h4 : mid f) (h5 : mid t) : ∀ n ∈ Rc.nums ⟨k, tok, tier, f, t, key⟩, mid n := fun n hn => by
 simp only [Rc.nums, List.mem_cons, List.not_mem_nil, or_false] at hn
 rcases hn with rfl | rfl | rfl | rfl | rfl <;> assumption
theorem en_mid {e : En} (h : e.ok = true) : mid e.tier ∧ mid e.f ∧ mid e.t := by
 have := kT_nat e.key
 unfold En.ok isRange within at h
 simp only [Bool.and_eq_true, decide_eq_true_eq] at h
 unfold mid
 omega
theorem rec_add (s : Src) (x : Sta) {k : Int} (h : s.ok k) (hk : 0 ≤ k ∧ k ≤ 1000000) (hx : x.ok = true) (hq : x.seq ≤ 900000) (hf : x.fence ≤ 900000)
 (a1 a2 a3 a4 : Nat) (s1 s2 s3 s4 : Src) (h1 : (a1 : Int) < 3) (h2 : (a2 : Int) < 4) (h3 : (a3 : Int) < 2) (h4 : (a4 : Int) < 8) (k4 : s4.ok (k + 12)) (e4 : a4 = 0 ∨ a4 = 1 ∨ a4 = 2)
 (c1 : FnM Tryz.prog 97 1 [.bptr 0 0, .int .i64 3] [(0, .box s.row)] (.int .i64 a1) [(0, .box s1.row)] 1)
 (c2 : FnM Tryz.prog 97 1 [.bptr 0 0, .int .i64 4] [(0, .box s1.row)] (.int .i64 a2) [(0, .box s2.row)] 1)
 (c3 : FnM Tryz.prog 97 1 [.bptr 0 0, .int .i64 2] [(0, .box s2.row)] (.int .i64 a3) [(0, .box s3.row)] 1)
 (c4 : FnM Tryz.prog 97 1 [.bptr 0 0, .int .i64 8] [(0, .box s3.row)] (.int .i64 a4) [(0, .box s4.row)] 1) :
 ∃ (r : Rc) (q : Src), q.ok (k + 30) ∧ r.key.length ≤ 30 ∧ (r.tok ≤ x.fence + 3 ∧ ∀ n ∈ r.nums, mid n) ∧ FnM Tryz.prog 63 1 [.bptr 0 0, x.av] [(0, .box s.row)] r.av [(0, .box q.row)] 1 := by
 have hO := (staOK_iff x).1 hx
 have hb := Sta.hi_b hx
 have hfq := hO.f
 have hsq := hO.q
 obtain ⟨u, s5, hu, k5, c5⟩ := draw s4 k4 (by omega) 9 (by decide)
 obtain ⟨v, s6, hv, k6, c6⟩ := draw s5 k5 (by omega) 9 (by decide)
 obtain ⟨w, s7, hw, k7, c7⟩ := draw s6 k6 (by omega) 2 (by decide)
 have hu8 := tdiv_b (n := (u : Int)) (m := 8) (by omega) (by decide)
 have cK := l03Key_at (t' := 0) (n' := x.seq + 1) (w' := w) (t := 0) (n := (x.seq + 1).toNat) (w := w) rfl (by omega) rfl (by decide) (by omega) (by omega)
 refine ⟨⟨1, 0, 0, x.h0 + (u : Int).tdiv 8, x.h0 + 2 + v, keyB 0 (x.seq + 1).toNat w⟩, s7, wk k7 (by omega), ?_, ?_, ?_⟩
 · exact Nat.le_trans (key_len (k := keyB 0 (x.seq + 1).toNat w) (by unfold kOk; rw [parse_key (by omega) (by omega) (by omega)]; rfl)) (by decide)
 · exact ⟨by show (0 : Int) ≤ _; omega, rc_mid (by unfold mid; omega) (by unfold mid; first | omega | (split <;> omega)) (by unfold mid; first | omega | exact hE.1) (by unfold mid; first | omega | exact hE.2.1) (by unfold mid; first | omega | exact hE.2.2)⟩
 have q2 : a2 = 0 ∨ a2 = 1 ∨ a2 = 2 ∨ a2 = 3 := by omega
 rcases e4 with rfl | rfl | rfl <;> rcases q2 with rfl | rfl | rfl | rfl
 all_goals
  refine FnM.introC Tryz.call63 Tryz.func63 rfl rfl ?_
  refine DrawC.mkQ 15 [(.inl 0, 9), (.inl 0, 14)] rfl (by kernel_rfl) ?_; refine And.intro (by kernel_rfl) ?_
  conv => whnf
  refine PCallQ.m 0 (c1) rfl rfl rfl rfl ?_
  refine And.intro (inI64 (by omega) (by omega)) ?_
  refine And.intro (inI64 (by omega) (by omega)) ?_
  conv => whnf
  refine PCallQ.m 0 (c2) rfl rfl rfl rfl ?_
  refine And.intro ⟨by decide, by decide⟩ ?_
  conv => whnf
  refine CallC.k [(0, 0)] (c3) rfl rfl (AVsle.refl _) ⟨MOle.refl _, trivial⟩ rfl ?_
  refine And.intro (inI64 (by omega) (by omega)) ?_
  conv => whnf
  refine CallC.k [(0, 0)] (c4) rfl rfl (AVsle.refl _) ⟨MOle.refl _, trivial⟩ rfl ?_
  refine DrawC.mkQ 20 [(.inl 0, 4), (.inl 0, 12), (.inl 0, 18)] rfl (by kernel_rfl) ?_; refine And.intro (by kernel_rfl) ?_
  refine And.intro (by decide) ?_
  conv => whnf
  refine PCallQ.m 0 (c5) rfl rfl rfl rfl ?_
  refine And.intro ⟨by decide, show inI .i64 ((u : Int).tdiv 8) from inI64 (by omega) (by omega)⟩ ?_
  refine And.intro (inI64 (by omega) (by omega)) ?_
  refine And.intro (by decide) ?_
  refine And.intro (inI64 (by omega) (by omega)) ?_
  conv => whnf
  refine PCallQ.m 0 (c6) rfl rfl rfl rfl ?_
  refine And.intro (inI64 (by omega) (by omega)) ?_
  refine And.intro (inI64 (by omega) (by omega)) ?_
  conv => whnf
  refine PCallQ.m 0 (c7) rfl rfl rfl rfl ?_
  conv => whnf
  refine PCallQ.sca _ (cK) rfl ?_
  exact And.intro trivial ⟨[(0, 0)], rfl, AVle.refl _, ⟨MOle.refl _, trivial⟩⟩
theorem rec_claim (s : Src) (x : Sta) {k : Int} (h : s.ok k) (hk : 0 ≤ k ∧ k ≤ 1000000) (hx : x.ok = true) (hq : x.seq ≤ 900000) (hf : x.fence ≤ 900000)
 (a1 a2 a3 a4 : Nat) (s1 s2 s3 s4 : Src) (h1 : (a1 : Int) < 3) (h2 : (a2 : Int) < 4) (h3 : (a3 : Int) < 2) (h4 : (a4 : Int) < 8) (k4 : s4.ok (k + 12)) (e4 : a4 = 3)
 (c1 : FnM Tryz.prog 97 1 [.bptr 0 0, .int .i64 3] [(0, .box s.row)] (.int .i64 a1) [(0, .box s1.row)] 1)
 (c2 : FnM Tryz.prog 97 1 [.bptr 0 0, .int .i64 4] [(0, .box s1.row)] (.int .i64 a2) [(0, .box s2.row)] 1)
 (c3 : FnM Tryz.prog 97 1 [.bptr 0 0, .int .i64 2] [(0, .box s2.row)] (.int .i64 a3) [(0, .box s3.row)] 1)
 (c4 : FnM Tryz.prog 97 1 [.bptr 0 0, .int .i64 8] [(0, .box s3.row)] (.int .i64 a4) [(0, .box s4.row)] 1) :
 ∃ (r : Rc) (q : Src), q.ok (k + 30) ∧ r.key.length ≤ 30 ∧ (r.tok ≤ x.fence + 3 ∧ ∀ n ∈ r.nums, mid n) ∧ FnM Tryz.prog 63 1 [.bptr 0 0, x.av] [(0, .box s.row)] r.av [(0, .box q.row)] 1 := by
 have hO := (staOK_iff x).1 hx
 have hb := Sta.hi_b hx
 have hfq := hO.f
 have hsq := hO.q
 obtain ⟨u, s5, hu, k5, c5⟩ := draw s4 k4 (by omega) 3 (by decide)
 refine ⟨⟨2, if x.fence + u > 1 then x.fence + u else 1, 0, 0, 0, []⟩, s5, wk k5 (by omega), Nat.zero_le _, ?_, ?_⟩
 · exact ⟨by show (if x.fence + u > 1 then x.fence + u else 1) ≤ _; split <;> omega, rc_mid (by unfold mid; omega) (by unfold mid; first | omega | (split <;> omega)) (by unfold mid; first | omega | exact hE.1) (by unfold mid; first | omega | exact hE.2.1) (by unfold mid; first | omega | exact hE.2.2)⟩
 subst e4
 have q2 : a2 = 0 ∨ a2 = 1 ∨ a2 = 2 ∨ a2 = 3 := by omega
 rcases q2 with rfl | rfl | rfl | rfl
 all_goals
  refine FnM.introC Tryz.call63 Tryz.func63 rfl rfl ?_
  refine DrawC.mkQ 15 [(.inl 0, 9), (.inl 0, 14)] rfl (by kernel_rfl) ?_; refine And.intro (by kernel_rfl) ?_
  conv => whnf
  refine PCallQ.m 0 (c1) rfl rfl rfl rfl ?_
  refine And.intro (inI64 (by omega) (by omega)) ?_
  refine And.intro (inI64 (by omega) (by omega)) ?_
  conv => whnf
  refine PCallQ.m 0 (c2) rfl rfl rfl rfl ?_
  refine And.intro ⟨by decide, by decide⟩ ?_
  conv => whnf
  refine CallC.k [(0, 0)] (c3) rfl rfl (AVsle.refl _) ⟨MOle.refl _, trivial⟩ rfl ?_
  refine And.intro (inI64 (by omega) (by omega)) ?_
  conv => whnf
  refine CallC.k [(0, 0)] (c4) rfl rfl (AVsle.refl _) ⟨MOle.refl _, trivial⟩ rfl ?_
  refine DrawC.mkQ 6 [(.inl 0, 3)] rfl (by kernel_rfl) ?_; refine And.intro (by kernel_rfl) ?_
  conv => whnf
  refine PCallQ.m 0 (c5) rfl rfl rfl rfl ?_
  refine And.intro (inI64 (by omega) (by omega)) ?_
  exact And.intro trivial ⟨[(0, 0)], rfl, AVle.refl _, ⟨MOle.refl _, trivial⟩⟩
theorem rec_publish (s : Src) (x : Sta) {k : Int} (h : s.ok k) (hk : 0 ≤ k ∧ k ≤ 1000000) (hx : x.ok = true) (hq : x.seq ≤ 900000) (hf : x.fence ≤ 900000)
 (a1 a2 a3 a4 : Nat) (s1 s2 s3 s4 : Src) (h1 : (a1 : Int) < 3) (h2 : (a2 : Int) < 4) (h3 : (a3 : Int) < 2) (h4 : (a4 : Int) < 8) (k4 : s4.ok (k + 12)) (e4 : a4 = 4 ∨ a4 = 5)
 (c1 : FnM Tryz.prog 97 1 [.bptr 0 0, .int .i64 3] [(0, .box s.row)] (.int .i64 a1) [(0, .box s1.row)] 1)
 (c2 : FnM Tryz.prog 97 1 [.bptr 0 0, .int .i64 4] [(0, .box s1.row)] (.int .i64 a2) [(0, .box s2.row)] 1)
 (c3 : FnM Tryz.prog 97 1 [.bptr 0 0, .int .i64 2] [(0, .box s2.row)] (.int .i64 a3) [(0, .box s3.row)] 1)
 (c4 : FnM Tryz.prog 97 1 [.bptr 0 0, .int .i64 8] [(0, .box s3.row)] (.int .i64 a4) [(0, .box s4.row)] 1) :
 ∃ (r : Rc) (q : Src), q.ok (k + 30) ∧ r.key.length ≤ 30 ∧ (r.tok ≤ x.fence + 3 ∧ ∀ n ∈ r.nums, mid n) ∧ FnM Tryz.prog 63 1 [.bptr 0 0, x.av] [(0, .box s.row)] r.av [(0, .box q.row)] 1 := by
 have hO := (staOK_iff x).1 hx
 have hb := Sta.hi_b hx
 have hfq := hO.f
 have hsq := hO.q
 have w1 : (1 : Int) ≤ wd 1 ∧ wd 1 ≤ 1000 := by decide
 have w2 : (1 : Int) ≤ wd 2 ∧ wd 2 ≤ 1000 := by decide
 have cw1 := l04Width_fn 1 (.inr (.inl rfl))
 have cw2 := l04Width_fn 2 (.inr (.inr rfl))
 have q3 : a3 = 0 ∨ a3 = 1 := by omega
 rcases q3 with rfl | rfl
 · have q2 : a2 = 0 ∨ a2 = 1 ∨ a2 = 2 ∨ a2 = 3 := by omega
   rcases q2 with rfl | rfl | rfl | rfl
   · have hT : 1 ≤ (if x.fence > 1 then x.fence else 1) ∧ (if x.fence > 1 then x.fence else 1) ≤ x.fence + 3 := by split <;> omega
     have cK := l03Key_at (t' := 1) (n' := x.h1) (w' := if x.fence > 1 then x.fence else 1) (t := 1) (n := (x.h1).toNat) (w := (if x.fence > 1 then x.fence else 1).toNat) rfl (by omega) (by omega) (by decide) (by omega) (by omega)
     refine ⟨⟨3, if x.fence > 1 then x.fence else 1, 1, x.h1, x.h1 + wd 1, keyB 1 (x.h1).toNat (if x.fence > 1 then x.fence else 1).toNat⟩, s4, wk k4 (by omega), ?_, ⟨hT.2, rc_mid (by unfold mid; omega) (by unfold mid; first | omega | (split <;> omega)) (by unfold mid; first | omega | exact hE.1) (by unfold mid; first | omega | exact hE.2.1) (by unfold mid; first | omega | exact hE.2.2)⟩, ?_⟩
     · exact Nat.le_trans (key_len (k := keyB 1 (x.h1).toNat (if x.fence > 1 then x.fence else 1).toNat) (by unfold kOk; rw [parse_key (by omega) (by omega) (by omega)]; rfl)) (by decide)
     rcases e4 with rfl | rfl
     all_goals
      refine FnM.introC Tryz.call63 Tryz.func63 rfl rfl ?_
      refine DrawC.mkQ 15 [(.inl 0, 9), (.inl 0, 14)] rfl (by kernel_rfl) ?_; refine And.intro (by kernel_rfl) ?_
      conv => whnf
      refine PCallQ.m 0 (c1) rfl rfl rfl rfl ?_
      refine And.intro (inI64 (by omega) (by omega)) ?_
      refine And.intro (inI64 (by omega) (by omega)) ?_
      conv => whnf
      refine PCallQ.m 0 (c2) rfl rfl rfl rfl ?_
      refine And.intro ⟨by decide, by decide⟩ ?_
      conv => whnf
      refine CallC.k [(0, 0)] (c3) rfl rfl (AVsle.refl _) ⟨MOle.refl _, trivial⟩ rfl ?_
      refine And.intro (inI64 (by omega) (by omega)) ?_
      conv => whnf
      refine CallC.k [(0, 0)] (c4) rfl rfl (AVsle.refl _) ⟨MOle.refl _, trivial⟩ rfl ?_
      refine And.intro (by decide) ?_
      conv => whnf
      refine CallC.sca _ (cw1) ?_ ?_
      · exact rfl
      refine And.intro (inI64 (by omega) (by omega)) ?_
      conv => whnf
      refine CallC.sca _ (cK) ?_ ?_
      · exact rfl
      exact And.intro trivial ⟨[(0, 0)], rfl, AVle.refl _, ⟨MOle.refl _, trivial⟩⟩
   · have hT : 1 ≤ (if x.fence > 1 then x.fence else 1) ∧ (if x.fence > 1 then x.fence else 1) ≤ x.fence + 3 := by split <;> omega
     have cK := l03Key_at (t' := 1) (n' := x.h1) (w' := if x.fence > 1 then x.fence else 1) (t := 1) (n := (x.h1).toNat) (w := (if x.fence > 1 then x.fence else 1).toNat) rfl (by omega) (by omega) (by decide) (by omega) (by omega)
     refine ⟨⟨3, if x.fence > 1 then x.fence else 1, 1, x.h1, x.h1 + wd 1, keyB 1 (x.h1).toNat (if x.fence > 1 then x.fence else 1).toNat⟩, s4, wk k4 (by omega), ?_, ⟨hT.2, rc_mid (by unfold mid; omega) (by unfold mid; first | omega | (split <;> omega)) (by unfold mid; first | omega | exact hE.1) (by unfold mid; first | omega | exact hE.2.1) (by unfold mid; first | omega | exact hE.2.2)⟩, ?_⟩
     · exact Nat.le_trans (key_len (k := keyB 1 (x.h1).toNat (if x.fence > 1 then x.fence else 1).toNat) (by unfold kOk; rw [parse_key (by omega) (by omega) (by omega)]; rfl)) (by decide)
     rcases e4 with rfl | rfl
     all_goals
      refine FnM.introC Tryz.call63 Tryz.func63 rfl rfl ?_
      refine DrawC.mkQ 15 [(.inl 0, 9), (.inl 0, 14)] rfl (by kernel_rfl) ?_; refine And.intro (by kernel_rfl) ?_
      conv => whnf
      refine PCallQ.m 0 (c1) rfl rfl rfl rfl ?_
      refine And.intro (inI64 (by omega) (by omega)) ?_
      refine And.intro (inI64 (by omega) (by omega)) ?_
      conv => whnf
      refine PCallQ.m 0 (c2) rfl rfl rfl rfl ?_
      refine And.intro ⟨by decide, by decide⟩ ?_
      conv => whnf
      refine CallC.k [(0, 0)] (c3) rfl rfl (AVsle.refl _) ⟨MOle.refl _, trivial⟩ rfl ?_
      refine And.intro (inI64 (by omega) (by omega)) ?_
      conv => whnf
      refine CallC.k [(0, 0)] (c4) rfl rfl (AVsle.refl _) ⟨MOle.refl _, trivial⟩ rfl ?_
      refine And.intro (by decide) ?_
      conv => whnf
      refine CallC.sca _ (cw1) ?_ ?_
      · exact rfl
      refine And.intro (inI64 (by omega) (by omega)) ?_
      conv => whnf
      refine CallC.sca _ (cK) ?_ ?_
      · exact rfl
      exact And.intro trivial ⟨[(0, 0)], rfl, AVle.refl _, ⟨MOle.refl _, trivial⟩⟩
   · have hT : 1 ≤ (if x.fence > 1 then x.fence else 1) ∧ (if x.fence > 1 then x.fence else 1) ≤ x.fence + 3 := by split <;> omega
     have cK := l03Key_at (t' := 1) (n' := x.h1) (w' := if x.fence > 1 then x.fence else 1) (t := 1) (n := (x.h1).toNat) (w := (if x.fence > 1 then x.fence else 1).toNat) rfl (by omega) (by omega) (by decide) (by omega) (by omega)
     refine ⟨⟨3, if x.fence > 1 then x.fence else 1, 1, x.h1, x.h1 + wd 1, keyB 1 (x.h1).toNat (if x.fence > 1 then x.fence else 1).toNat⟩, s4, wk k4 (by omega), ?_, ⟨hT.2, rc_mid (by unfold mid; omega) (by unfold mid; first | omega | (split <;> omega)) (by unfold mid; first | omega | exact hE.1) (by unfold mid; first | omega | exact hE.2.1) (by unfold mid; first | omega | exact hE.2.2)⟩, ?_⟩
     · exact Nat.le_trans (key_len (k := keyB 1 (x.h1).toNat (if x.fence > 1 then x.fence else 1).toNat) (by unfold kOk; rw [parse_key (by omega) (by omega) (by omega)]; rfl)) (by decide)
     rcases e4 with rfl | rfl
     all_goals
      refine FnM.introC Tryz.call63 Tryz.func63 rfl rfl ?_
      refine DrawC.mkQ 15 [(.inl 0, 9), (.inl 0, 14)] rfl (by kernel_rfl) ?_; refine And.intro (by kernel_rfl) ?_
      conv => whnf
      refine PCallQ.m 0 (c1) rfl rfl rfl rfl ?_
      refine And.intro (inI64 (by omega) (by omega)) ?_
      refine And.intro (inI64 (by omega) (by omega)) ?_
      conv => whnf
      refine PCallQ.m 0 (c2) rfl rfl rfl rfl ?_
      refine And.intro ⟨by decide, by decide⟩ ?_
      conv => whnf
      refine CallC.k [(0, 0)] (c3) rfl rfl (AVsle.refl _) ⟨MOle.refl _, trivial⟩ rfl ?_
      refine And.intro (inI64 (by omega) (by omega)) ?_
      conv => whnf
      refine CallC.k [(0, 0)] (c4) rfl rfl (AVsle.refl _) ⟨MOle.refl _, trivial⟩ rfl ?_
      refine And.intro (by decide) ?_
      conv => whnf
      refine CallC.sca _ (cw1) ?_ ?_
      · exact rfl
      refine And.intro (inI64 (by omega) (by omega)) ?_
      conv => whnf
      refine CallC.sca _ (cK) ?_ ?_
      · exact rfl
      exact And.intro trivial ⟨[(0, 0)], rfl, AVle.refl _, ⟨MOle.refl _, trivial⟩⟩
   · have hT : 1 ≤ (if (x.fence + a1 - 1) > 1 then (x.fence + a1 - 1) else 1) ∧ (if (x.fence + a1 - 1) > 1 then (x.fence + a1 - 1) else 1) ≤ x.fence + 3 := by split <;> omega
     have cK := l03Key_at (t' := 1) (n' := x.h1) (w' := if (x.fence + a1 - 1) > 1 then (x.fence + a1 - 1) else 1) (t := 1) (n := (x.h1).toNat) (w := (if (x.fence + a1 - 1) > 1 then (x.fence + a1 - 1) else 1).toNat) rfl (by omega) (by omega) (by decide) (by omega) (by omega)
     refine ⟨⟨3, if (x.fence + a1 - 1) > 1 then (x.fence + a1 - 1) else 1, 1, x.h1, x.h1 + wd 1, keyB 1 (x.h1).toNat (if (x.fence + a1 - 1) > 1 then (x.fence + a1 - 1) else 1).toNat⟩, s4, wk k4 (by omega), ?_, ⟨hT.2, rc_mid (by unfold mid; omega) (by unfold mid; first | omega | (split <;> omega)) (by unfold mid; first | omega | exact hE.1) (by unfold mid; first | omega | exact hE.2.1) (by unfold mid; first | omega | exact hE.2.2)⟩, ?_⟩
     · exact Nat.le_trans (key_len (k := keyB 1 (x.h1).toNat (if (x.fence + a1 - 1) > 1 then (x.fence + a1 - 1) else 1).toNat) (by unfold kOk; rw [parse_key (by omega) (by omega) (by omega)]; rfl)) (by decide)
     rcases e4 with rfl | rfl
     all_goals
      refine FnM.introC Tryz.call63 Tryz.func63 rfl rfl ?_
      refine DrawC.mkQ 15 [(.inl 0, 9), (.inl 0, 14)] rfl (by kernel_rfl) ?_; refine And.intro (by kernel_rfl) ?_
      conv => whnf
      refine PCallQ.m 0 (c1) rfl rfl rfl rfl ?_
      refine And.intro (inI64 (by omega) (by omega)) ?_
      refine And.intro (inI64 (by omega) (by omega)) ?_
      conv => whnf
      refine PCallQ.m 0 (c2) rfl rfl rfl rfl ?_
      refine And.intro ⟨by decide, by decide⟩ ?_
      conv => whnf
      refine CallC.k [(0, 0)] (c3) rfl rfl (AVsle.refl _) ⟨MOle.refl _, trivial⟩ rfl ?_
      refine And.intro (inI64 (by omega) (by omega)) ?_
      conv => whnf
      refine CallC.k [(0, 0)] (c4) rfl rfl (AVsle.refl _) ⟨MOle.refl _, trivial⟩ rfl ?_
      refine And.intro (by decide) ?_
      conv => whnf
      refine CallC.sca _ (cw1) ?_ ?_
      · exact rfl
      refine And.intro (inI64 (by omega) (by omega)) ?_
      conv => whnf
      refine CallC.sca _ (cK) ?_ ?_
      · exact rfl
      exact And.intro trivial ⟨[(0, 0)], rfl, AVle.refl _, ⟨MOle.refl _, trivial⟩⟩
 · have q2 : a2 = 0 ∨ a2 = 1 ∨ a2 = 2 ∨ a2 = 3 := by omega
   rcases q2 with rfl | rfl | rfl | rfl
   · have hT : 1 ≤ (if x.fence > 1 then x.fence else 1) ∧ (if x.fence > 1 then x.fence else 1) ≤ x.fence + 3 := by split <;> omega
     have cK := l03Key_at (t' := 2) (n' := x.h2) (w' := if x.fence > 1 then x.fence else 1) (t := 2) (n := (x.h2).toNat) (w := (if x.fence > 1 then x.fence else 1).toNat) rfl (by omega) (by omega) (by decide) (by omega) (by omega)
     refine ⟨⟨3, if x.fence > 1 then x.fence else 1, 2, x.h2, x.h2 + wd 2, keyB 2 (x.h2).toNat (if x.fence > 1 then x.fence else 1).toNat⟩, s4, wk k4 (by omega), ?_, ⟨hT.2, rc_mid (by unfold mid; omega) (by unfold mid; first | omega | (split <;> omega)) (by unfold mid; first | omega | exact hE.1) (by unfold mid; first | omega | exact hE.2.1) (by unfold mid; first | omega | exact hE.2.2)⟩, ?_⟩
     · exact Nat.le_trans (key_len (k := keyB 2 (x.h2).toNat (if x.fence > 1 then x.fence else 1).toNat) (by unfold kOk; rw [parse_key (by omega) (by omega) (by omega)]; rfl)) (by decide)
     rcases e4 with rfl | rfl
     all_goals
      refine FnM.introC Tryz.call63 Tryz.func63 rfl rfl ?_
      refine DrawC.mkQ 15 [(.inl 0, 9), (.inl 0, 14)] rfl (by kernel_rfl) ?_; refine And.intro (by kernel_rfl) ?_
      conv => whnf
      refine PCallQ.m 0 (c1) rfl rfl rfl rfl ?_
      refine And.intro (inI64 (by omega) (by omega)) ?_
      refine And.intro (inI64 (by omega) (by omega)) ?_
      conv => whnf
      refine PCallQ.m 0 (c2) rfl rfl rfl rfl ?_
      refine And.intro ⟨by decide, by decide⟩ ?_
      conv => whnf
      refine CallC.k [(0, 0)] (c3) rfl rfl (AVsle.refl _) ⟨MOle.refl _, trivial⟩ rfl ?_
      refine And.intro (inI64 (by omega) (by omega)) ?_
      conv => whnf
      refine CallC.k [(0, 0)] (c4) rfl rfl (AVsle.refl _) ⟨MOle.refl _, trivial⟩ rfl ?_
      refine And.intro (by decide) ?_
      conv => whnf
      refine CallC.sca _ (cw2) ?_ ?_
      · exact rfl
      refine And.intro (inI64 (by omega) (by omega)) ?_
      conv => whnf
      refine CallC.sca _ (cK) ?_ ?_
      · exact rfl
      exact And.intro trivial ⟨[(0, 0)], rfl, AVle.refl _, ⟨MOle.refl _, trivial⟩⟩
   · have hT : 1 ≤ (if x.fence > 1 then x.fence else 1) ∧ (if x.fence > 1 then x.fence else 1) ≤ x.fence + 3 := by split <;> omega
     have cK := l03Key_at (t' := 2) (n' := x.h2) (w' := if x.fence > 1 then x.fence else 1) (t := 2) (n := (x.h2).toNat) (w := (if x.fence > 1 then x.fence else 1).toNat) rfl (by omega) (by omega) (by decide) (by omega) (by omega)
     refine ⟨⟨3, if x.fence > 1 then x.fence else 1, 2, x.h2, x.h2 + wd 2, keyB 2 (x.h2).toNat (if x.fence > 1 then x.fence else 1).toNat⟩, s4, wk k4 (by omega), ?_, ⟨hT.2, rc_mid (by unfold mid; omega) (by unfold mid; first | omega | (split <;> omega)) (by unfold mid; first | omega | exact hE.1) (by unfold mid; first | omega | exact hE.2.1) (by unfold mid; first | omega | exact hE.2.2)⟩, ?_⟩
     · exact Nat.le_trans (key_len (k := keyB 2 (x.h2).toNat (if x.fence > 1 then x.fence else 1).toNat) (by unfold kOk; rw [parse_key (by omega) (by omega) (by omega)]; rfl)) (by decide)
     rcases e4 with rfl | rfl
     all_goals
      refine FnM.introC Tryz.call63 Tryz.func63 rfl rfl ?_
      refine DrawC.mkQ 15 [(.inl 0, 9), (.inl 0, 14)] rfl (by kernel_rfl) ?_; refine And.intro (by kernel_rfl) ?_
      conv => whnf
      refine PCallQ.m 0 (c1) rfl rfl rfl rfl ?_
      refine And.intro (inI64 (by omega) (by omega)) ?_
      refine And.intro (inI64 (by omega) (by omega)) ?_
      conv => whnf
      refine PCallQ.m 0 (c2) rfl rfl rfl rfl ?_
      refine And.intro ⟨by decide, by decide⟩ ?_
      conv => whnf
      refine CallC.k [(0, 0)] (c3) rfl rfl (AVsle.refl _) ⟨MOle.refl _, trivial⟩ rfl ?_
      refine And.intro (inI64 (by omega) (by omega)) ?_
      conv => whnf
      refine CallC.k [(0, 0)] (c4) rfl rfl (AVsle.refl _) ⟨MOle.refl _, trivial⟩ rfl ?_
      refine And.intro (by decide) ?_
      conv => whnf
      refine CallC.sca _ (cw2) ?_ ?_
      · exact rfl
      refine And.intro (inI64 (by omega) (by omega)) ?_
      conv => whnf
      refine CallC.sca _ (cK) ?_ ?_
      · exact rfl
      exact And.intro trivial ⟨[(0, 0)], rfl, AVle.refl _, ⟨MOle.refl _, trivial⟩⟩
   · have hT : 1 ≤ (if x.fence > 1 then x.fence else 1) ∧ (if x.fence > 1 then x.fence else 1) ≤ x.fence + 3 := by split <;> omega
     have cK := l03Key_at (t' := 2) (n' := x.h2) (w' := if x.fence > 1 then x.fence else 1) (t := 2) (n := (x.h2).toNat) (w := (if x.fence > 1 then x.fence else 1).toNat) rfl (by omega) (by omega) (by decide) (by omega) (by omega)
     refine ⟨⟨3, if x.fence > 1 then x.fence else 1, 2, x.h2, x.h2 + wd 2, keyB 2 (x.h2).toNat (if x.fence > 1 then x.fence else 1).toNat⟩, s4, wk k4 (by omega), ?_, ⟨hT.2, rc_mid (by unfold mid; omega) (by unfold mid; first | omega | (split <;> omega)) (by unfold mid; first | omega | exact hE.1) (by unfold mid; first | omega | exact hE.2.1) (by unfold mid; first | omega | exact hE.2.2)⟩, ?_⟩
     · exact Nat.le_trans (key_len (k := keyB 2 (x.h2).toNat (if x.fence > 1 then x.fence else 1).toNat) (by unfold kOk; rw [parse_key (by omega) (by omega) (by omega)]; rfl)) (by decide)
     rcases e4 with rfl | rfl
     all_goals
      refine FnM.introC Tryz.call63 Tryz.func63 rfl rfl ?_
      refine DrawC.mkQ 15 [(.inl 0, 9), (.inl 0, 14)] rfl (by kernel_rfl) ?_; refine And.intro (by kernel_rfl) ?_
      conv => whnf
      refine PCallQ.m 0 (c1) rfl rfl rfl rfl ?_
      refine And.intro (inI64 (by omega) (by omega)) ?_
      refine And.intro (inI64 (by omega) (by omega)) ?_
      conv => whnf
      refine PCallQ.m 0 (c2) rfl rfl rfl rfl ?_
      refine And.intro ⟨by decide, by decide⟩ ?_
      conv => whnf
      refine CallC.k [(0, 0)] (c3) rfl rfl (AVsle.refl _) ⟨MOle.refl _, trivial⟩ rfl ?_
      refine And.intro (inI64 (by omega) (by omega)) ?_
      conv => whnf
      refine CallC.k [(0, 0)] (c4) rfl rfl (AVsle.refl _) ⟨MOle.refl _, trivial⟩ rfl ?_
      refine And.intro (by decide) ?_
      conv => whnf
      refine CallC.sca _ (cw2) ?_ ?_
      · exact rfl
      refine And.intro (inI64 (by omega) (by omega)) ?_
      conv => whnf
      refine CallC.sca _ (cK) ?_ ?_
      · exact rfl
      exact And.intro trivial ⟨[(0, 0)], rfl, AVle.refl _, ⟨MOle.refl _, trivial⟩⟩
   · have hT : 1 ≤ (if (x.fence + a1 - 1) > 1 then (x.fence + a1 - 1) else 1) ∧ (if (x.fence + a1 - 1) > 1 then (x.fence + a1 - 1) else 1) ≤ x.fence + 3 := by split <;> omega
     have cK := l03Key_at (t' := 2) (n' := x.h2) (w' := if (x.fence + a1 - 1) > 1 then (x.fence + a1 - 1) else 1) (t := 2) (n := (x.h2).toNat) (w := (if (x.fence + a1 - 1) > 1 then (x.fence + a1 - 1) else 1).toNat) rfl (by omega) (by omega) (by decide) (by omega) (by omega)
     refine ⟨⟨3, if (x.fence + a1 - 1) > 1 then (x.fence + a1 - 1) else 1, 2, x.h2, x.h2 + wd 2, keyB 2 (x.h2).toNat (if (x.fence + a1 - 1) > 1 then (x.fence + a1 - 1) else 1).toNat⟩, s4, wk k4 (by omega), ?_, ⟨hT.2, rc_mid (by unfold mid; omega) (by unfold mid; first | omega | (split <;> omega)) (by unfold mid; first | omega | exact hE.1) (by unfold mid; first | omega | exact hE.2.1) (by unfold mid; first | omega | exact hE.2.2)⟩, ?_⟩
     · exact Nat.le_trans (key_len (k := keyB 2 (x.h2).toNat (if (x.fence + a1 - 1) > 1 then (x.fence + a1 - 1) else 1).toNat) (by unfold kOk; rw [parse_key (by omega) (by omega) (by omega)]; rfl)) (by decide)
     rcases e4 with rfl | rfl
     all_goals
      refine FnM.introC Tryz.call63 Tryz.func63 rfl rfl ?_
      refine DrawC.mkQ 15 [(.inl 0, 9), (.inl 0, 14)] rfl (by kernel_rfl) ?_; refine And.intro (by kernel_rfl) ?_
      conv => whnf
      refine PCallQ.m 0 (c1) rfl rfl rfl rfl ?_
      refine And.intro (inI64 (by omega) (by omega)) ?_
      refine And.intro (inI64 (by omega) (by omega)) ?_
      conv => whnf
      refine PCallQ.m 0 (c2) rfl rfl rfl rfl ?_
      refine And.intro ⟨by decide, by decide⟩ ?_
      conv => whnf
      refine CallC.k [(0, 0)] (c3) rfl rfl (AVsle.refl _) ⟨MOle.refl _, trivial⟩ rfl ?_
      refine And.intro (inI64 (by omega) (by omega)) ?_
      conv => whnf
      refine CallC.k [(0, 0)] (c4) rfl rfl (AVsle.refl _) ⟨MOle.refl _, trivial⟩ rfl ?_
      refine And.intro (by decide) ?_
      conv => whnf
      refine CallC.sca _ (cw2) ?_ ?_
      · exact rfl
      refine And.intro (inI64 (by omega) (by omega)) ?_
      conv => whnf
      refine CallC.sca _ (cK) ?_ ?_
      · exact rfl
      exact And.intro trivial ⟨[(0, 0)], rfl, AVle.refl _, ⟨MOle.refl _, trivial⟩⟩
theorem rec_last (s : Src) (x : Sta) {k : Int} (h : s.ok k) (hk : 0 ≤ k ∧ k ≤ 1000000) (hx : x.ok = true) (hq : x.seq ≤ 900000) (hf : x.fence ≤ 900000)
 (a1 a2 a3 a4 : Nat) (s1 s2 s3 s4 : Src) (h1 : (a1 : Int) < 3) (h2 : (a2 : Int) < 4) (h3 : (a3 : Int) < 2) (h4 : (a4 : Int) < 8) (k4 : s4.ok (k + 12)) (e4 : a4 = 7)
 (c1 : FnM Tryz.prog 97 1 [.bptr 0 0, .int .i64 3] [(0, .box s.row)] (.int .i64 a1) [(0, .box s1.row)] 1)
 (c2 : FnM Tryz.prog 97 1 [.bptr 0 0, .int .i64 4] [(0, .box s1.row)] (.int .i64 a2) [(0, .box s2.row)] 1)
 (c3 : FnM Tryz.prog 97 1 [.bptr 0 0, .int .i64 2] [(0, .box s2.row)] (.int .i64 a3) [(0, .box s3.row)] 1)
 (c4 : FnM Tryz.prog 97 1 [.bptr 0 0, .int .i64 8] [(0, .box s3.row)] (.int .i64 a4) [(0, .box s4.row)] 1) :
 ∃ (r : Rc) (q : Src), q.ok (k + 30) ∧ r.key.length ≤ 30 ∧ (r.tok ≤ x.fence + 3 ∧ ∀ n ∈ r.nums, mid n) ∧ FnM Tryz.prog 63 1 [.bptr 0 0, x.av] [(0, .box s.row)] r.av [(0, .box q.row)] 1 := by
 have hO := (staOK_iff x).1 hx
 have hb := Sta.hi_b hx
 have hfq := hO.f
 have hsq := hO.q
 subst e4
 by_cases ht : 0 < x.ts.length
 · obtain ⟨v, s6, hv, k6, c6⟩ := draw s4 k4 (by omega) (x.ts.length : Int) (by omega)
   have hv' : v < x.ts.length := by omega
   refine ⟨⟨5, 0, 0, 0, 0, (ix x.ts v).key⟩, s6, wk k6 (by omega), ?_, ?_, ?_⟩
   · exact Nat.le_trans (key_len (hO.ts _ (ix_in hv')).1) (by decide)
   · exact ⟨by show (0 : Int) ≤ _; omega, rc_mid (by unfold mid; omega) (by unfold mid; first | omega | (split <;> omega)) (by unfold mid; first | omega | exact hE.1) (by unfold mid; first | omega | exact hE.2.1) (by unfold mid; first | omega | exact hE.2.2)⟩
   have q2 : a2 = 0 ∨ a2 = 1 ∨ a2 = 2 ∨ a2 = 3 := by omega
   rcases q2 with rfl | rfl | rfl | rfl
   all_goals
    refine FnM.introC Tryz.call63 Tryz.func63 rfl rfl ?_
    refine DrawC.mkQ 15 [(.inl 0, 9), (.inl 0, 14)] rfl (by kernel_rfl) ?_; refine And.intro (by kernel_rfl) ?_
    conv => whnf
    refine PCallQ.m 0 (c1) rfl rfl rfl rfl ?_
    refine And.intro (inI64 (by omega) (by omega)) ?_
    refine And.intro (inI64 (by omega) (by omega)) ?_
    conv => whnf
    refine PCallQ.m 0 (c2) rfl rfl rfl rfl ?_
    refine And.intro ⟨by decide, by decide⟩ ?_
    conv => whnf
    refine CallC.k [(0, 0)] (c3) rfl rfl (AVsle.refl _) ⟨MOle.refl _, trivial⟩ rfl ?_
    refine And.intro (inI64 (by omega) (by omega)) ?_
    conv => whnf
    refine CallC.k [(0, 0)] (c4) rfl rfl (AVsle.refl _) ⟨MOle.refl _, trivial⟩ rfl ?_
    refine Grd.intro (fun _ => ?_) (fun h => absurd (of_decide_eq_false h) (by omega))
    refine DrawC.mkQ 7 [(.inl 0, 6)] rfl (by kernel_rfl) ?_; refine And.intro (by kernel_rfl) ?_
    conv => whnf
    refine PCallQ.m 0 (c6) rfl rfl rfl rfl ?_
    refine And.intro ⟨by omega, by omega⟩ ?_
    exact And.intro trivial ⟨[(0, 0)], rfl, AVle.refl _, ⟨MOle.refl _, trivial⟩⟩
 · refine ⟨⟨2, x.fence + 1, 0, 0, 0, []⟩, s4, wk k4 (by omega), Nat.zero_le _, ?_, ?_⟩
   · exact ⟨by show x.fence + 1 ≤ _; omega, rc_mid (by unfold mid; omega) (by unfold mid; first | omega | (split <;> omega)) (by unfold mid; first | omega | exact hE.1) (by unfold mid; first | omega | exact hE.2.1) (by unfold mid; first | omega | exact hE.2.2)⟩
   have q2 : a2 = 0 ∨ a2 = 1 ∨ a2 = 2 ∨ a2 = 3 := by omega
   rcases q2 with rfl | rfl | rfl | rfl
   all_goals
    refine FnM.introC Tryz.call63 Tryz.func63 rfl rfl ?_
    refine DrawC.mkQ 15 [(.inl 0, 9), (.inl 0, 14)] rfl (by kernel_rfl) ?_; refine And.intro (by kernel_rfl) ?_
    conv => whnf
    refine PCallQ.m 0 (c1) rfl rfl rfl rfl ?_
    refine And.intro (inI64 (by omega) (by omega)) ?_
    refine And.intro (inI64 (by omega) (by omega)) ?_
    conv => whnf
    refine PCallQ.m 0 (c2) rfl rfl rfl rfl ?_
    refine And.intro ⟨by decide, by decide⟩ ?_
    conv => whnf
    refine CallC.k [(0, 0)] (c3) rfl rfl (AVsle.refl _) ⟨MOle.refl _, trivial⟩ rfl ?_
    refine And.intro (inI64 (by omega) (by omega)) ?_
    conv => whnf
    refine CallC.k [(0, 0)] (c4) rfl rfl (AVsle.refl _) ⟨MOle.refl _, trivial⟩ rfl ?_
    refine Grd.intro (fun h => absurd (of_decide_eq_true h) (by omega)) (fun _ => ?_)
    refine And.intro (inI64 (by omega) (by omega)) ?_
    exact And.intro trivial ⟨[(0, 0)], rfl, AVle.refl _, ⟨MOle.refl _, trivial⟩⟩
theorem rec_retire (s : Src) (x : Sta) {k : Int} (h : s.ok k) (hk : 0 ≤ k ∧ k ≤ 1000000) (hx : x.ok = true) (hq : x.seq ≤ 900000) (hf : x.fence ≤ 900000)
 (a1 a2 a3 a4 : Nat) (s1 s2 s3 s4 : Src) (h1 : (a1 : Int) < 3) (h2 : (a2 : Int) < 4) (h3 : (a3 : Int) < 2) (h4 : (a4 : Int) < 8) (k4 : s4.ok (k + 12)) (e4 : a4 = 6)
 (c1 : FnM Tryz.prog 97 1 [.bptr 0 0, .int .i64 3] [(0, .box s.row)] (.int .i64 a1) [(0, .box s1.row)] 1)
 (c2 : FnM Tryz.prog 97 1 [.bptr 0 0, .int .i64 4] [(0, .box s1.row)] (.int .i64 a2) [(0, .box s2.row)] 1)
 (c3 : FnM Tryz.prog 97 1 [.bptr 0 0, .int .i64 2] [(0, .box s2.row)] (.int .i64 a3) [(0, .box s3.row)] 1)
 (c4 : FnM Tryz.prog 97 1 [.bptr 0 0, .int .i64 8] [(0, .box s3.row)] (.int .i64 a4) [(0, .box s4.row)] 1) :
 ∃ (r : Rc) (q : Src), q.ok (k + 30) ∧ r.key.length ≤ 30 ∧ (r.tok ≤ x.fence + 3 ∧ ∀ n ∈ r.nums, mid n) ∧ FnM Tryz.prog 63 1 [.bptr 0 0, x.av] [(0, .box s.row)] r.av [(0, .box q.row)] 1 := by
 have hO := (staOK_iff x).1 hx
 have hb := Sta.hi_b hx
 have hfq := hO.f
 have hsq := hO.q
 subst e4
 obtain ⟨u, s5, hu, k5, c5⟩ := draw s4 k4 (by omega) 3 (by decide)
 have hL := hO.len
 have cF := l06First_fn x (by omega) u
 rcases fi_first (fun e : En => decide (e.tier = (u : Int))) x.es with ⟨f1, _⟩ | ⟨i, hi, f1, _⟩
 · rw [f1] at cF
   by_cases ht : 0 < x.ts.length
   · obtain ⟨v, s6, hv, k6, c6⟩ := draw s5 k5 (by omega) (x.ts.length : Int) (by omega)
     have hv' : v < x.ts.length := by omega
     refine ⟨⟨5, 0, 0, 0, 0, (ix x.ts v).key⟩, s6, wk k6 (by omega), ?_, ?_, ?_⟩
     · exact Nat.le_trans (key_len (hO.ts _ (ix_in hv')).1) (by decide)
     · exact ⟨by show (0 : Int) ≤ _; omega, rc_mid (by unfold mid; omega) (by unfold mid; first | omega | (split <;> omega)) (by unfold mid; first | omega | exact hE.1) (by unfold mid; first | omega | exact hE.2.1) (by unfold mid; first | omega | exact hE.2.2)⟩
     have q2 : a2 = 0 ∨ a2 = 1 ∨ a2 = 2 ∨ a2 = 3 := by omega
     rcases q2 with rfl | rfl | rfl | rfl
     all_goals
      refine FnM.introC Tryz.call63 Tryz.func63 rfl rfl ?_
      refine DrawC.mkQ 15 [(.inl 0, 9), (.inl 0, 14)] rfl (by kernel_rfl) ?_; refine And.intro (by kernel_rfl) ?_
      conv => whnf
      refine PCallQ.m 0 (c1) rfl rfl rfl rfl ?_
      refine And.intro (inI64 (by omega) (by omega)) ?_
      refine And.intro (inI64 (by omega) (by omega)) ?_
      conv => whnf
      refine PCallQ.m 0 (c2) rfl rfl rfl rfl ?_
      refine And.intro ⟨by decide, by decide⟩ ?_
      conv => whnf
      refine CallC.k [(0, 0)] (c3) rfl rfl (AVsle.refl _) ⟨MOle.refl _, trivial⟩ rfl ?_
      refine And.intro (inI64 (by omega) (by omega)) ?_
      conv => whnf
      refine CallC.k [(0, 0)] (c4) rfl rfl (AVsle.refl _) ⟨MOle.refl _, trivial⟩ rfl ?_
      refine DrawC.mkQ 4 [(.inl 0, 2)] rfl (by kernel_rfl) ?_; refine And.intro (by kernel_rfl) ?_
      conv => whnf
      refine PCallQ.m 0 (c5) rfl rfl rfl rfl ?_
      conv => whnf
      refine PCallQ.sca _ (cF) rfl ?_
      refine Grd.intro (fun _ => ?_) (fun h => absurd (of_decide_eq_false h) (by omega))
      refine DrawC.mkQ 7 [(.inl 0, 6)] rfl (by kernel_rfl) ?_; refine And.intro (by kernel_rfl) ?_
      conv => whnf
      refine PCallQ.m 0 (c6) rfl rfl rfl rfl ?_
      refine And.intro ⟨by omega, by omega⟩ ?_
      exact And.intro trivial ⟨[(0, 0)], rfl, AVle.refl _, ⟨MOle.refl _, trivial⟩⟩
   · refine ⟨⟨2, x.fence + 1, 0, 0, 0, []⟩, s5, wk k5 (by omega), Nat.zero_le _, ?_, ?_⟩
     · exact ⟨by show x.fence + 1 ≤ _; omega, rc_mid (by unfold mid; omega) (by unfold mid; first | omega | (split <;> omega)) (by unfold mid; first | omega | exact hE.1) (by unfold mid; first | omega | exact hE.2.1) (by unfold mid; first | omega | exact hE.2.2)⟩
     have q2 : a2 = 0 ∨ a2 = 1 ∨ a2 = 2 ∨ a2 = 3 := by omega
     rcases q2 with rfl | rfl | rfl | rfl
     all_goals
      refine FnM.introC Tryz.call63 Tryz.func63 rfl rfl ?_
      refine DrawC.mkQ 15 [(.inl 0, 9), (.inl 0, 14)] rfl (by kernel_rfl) ?_; refine And.intro (by kernel_rfl) ?_
      conv => whnf
      refine PCallQ.m 0 (c1) rfl rfl rfl rfl ?_
      refine And.intro (inI64 (by omega) (by omega)) ?_
      refine And.intro (inI64 (by omega) (by omega)) ?_
      conv => whnf
      refine PCallQ.m 0 (c2) rfl rfl rfl rfl ?_
      refine And.intro ⟨by decide, by decide⟩ ?_
      conv => whnf
      refine CallC.k [(0, 0)] (c3) rfl rfl (AVsle.refl _) ⟨MOle.refl _, trivial⟩ rfl ?_
      refine And.intro (inI64 (by omega) (by omega)) ?_
      conv => whnf
      refine CallC.k [(0, 0)] (c4) rfl rfl (AVsle.refl _) ⟨MOle.refl _, trivial⟩ rfl ?_
      refine DrawC.mkQ 4 [(.inl 0, 2)] rfl (by kernel_rfl) ?_; refine And.intro (by kernel_rfl) ?_
      conv => whnf
      refine PCallQ.m 0 (c5) rfl rfl rfl rfl ?_
      conv => whnf
      refine PCallQ.sca _ (cF) rfl ?_
      refine Grd.intro (fun h => absurd (of_decide_eq_true h) (by omega)) (fun _ => ?_)
      refine And.intro (inI64 (by omega) (by omega)) ?_
      exact And.intro trivial ⟨[(0, 0)], rfl, AVle.refl _, ⟨MOle.refl _, trivial⟩⟩
 · rw [f1] at cF
   have hk := hO.es _ (ix_in hi)
   have hE := en_mid hk
   unfold mid at hE
   have hk17 : (ix x.es i).key.length ≤ 17 := key_len (by unfold En.ok at hk; simp only [Bool.and_eq_true] at hk; exact hk.1)
   have q2 : a2 = 0 ∨ a2 = 1 ∨ a2 = 2 ∨ a2 = 3 := by omega
   rcases q2 with rfl | rfl | rfl | rfl
   · refine ⟨⟨4, if x.fence > 1 then x.fence else 1, (ix x.es i).tier, (ix x.es i).f, (ix x.es i).t, (ix x.es i).key⟩, s5, wk k5 (by omega), Nat.le_trans hk17 (by decide), ?_, ?_⟩
     · exact ⟨by show (if x.fence > 1 then x.fence else 1) ≤ _; split <;> omega, rc_mid (by unfold mid; omega) (by unfold mid; first | omega | (split <;> omega)) (by unfold mid; first | omega | exact hE.1) (by unfold mid; first | omega | exact hE.2.1) (by unfold mid; first | omega | exact hE.2.2)⟩
     refine FnM.introC Tryz.call63 Tryz.func63 rfl rfl ?_
     refine DrawC.mkQ 15 [(.inl 0, 9), (.inl 0, 14)] rfl (by kernel_rfl) ?_; refine And.intro (by kernel_rfl) ?_
     conv => whnf
     refine PCallQ.m 0 (c1) rfl rfl rfl rfl ?_
     refine And.intro (inI64 (by omega) (by omega)) ?_
     refine And.intro (inI64 (by omega) (by omega)) ?_
     conv => whnf
     refine PCallQ.m 0 (c2) rfl rfl rfl rfl ?_
     refine And.intro ⟨by decide, by decide⟩ ?_
     conv => whnf
     refine CallC.k [(0, 0)] (c3) rfl rfl (AVsle.refl _) ⟨MOle.refl _, trivial⟩ rfl ?_
     refine And.intro (inI64 (by omega) (by omega)) ?_
     conv => whnf
     refine CallC.k [(0, 0)] (c4) rfl rfl (AVsle.refl _) ⟨MOle.refl _, trivial⟩ rfl ?_
     refine DrawC.mkQ 4 [(.inl 0, 2)] rfl (by kernel_rfl) ?_; refine And.intro (by kernel_rfl) ?_
     conv => whnf
     refine PCallQ.m 0 (c5) rfl rfl rfl rfl ?_
     conv => whnf
     refine PCallQ.sca _ (cF) rfl ?_
     refine And.intro ⟨by omega, by omega⟩ ?_
     exact And.intro trivial ⟨[(0, 0)], rfl, AVle.refl _, ⟨MOle.refl _, trivial⟩⟩
   · refine ⟨⟨4, if x.fence > 1 then x.fence else 1, (ix x.es i).tier, (ix x.es i).f, (ix x.es i).t, (ix x.es i).key⟩, s5, wk k5 (by omega), Nat.le_trans hk17 (by decide), ?_, ?_⟩
     · exact ⟨by show (if x.fence > 1 then x.fence else 1) ≤ _; split <;> omega, rc_mid (by unfold mid; omega) (by unfold mid; first | omega | (split <;> omega)) (by unfold mid; first | omega | exact hE.1) (by unfold mid; first | omega | exact hE.2.1) (by unfold mid; first | omega | exact hE.2.2)⟩
     refine FnM.introC Tryz.call63 Tryz.func63 rfl rfl ?_
     refine DrawC.mkQ 15 [(.inl 0, 9), (.inl 0, 14)] rfl (by kernel_rfl) ?_; refine And.intro (by kernel_rfl) ?_
     conv => whnf
     refine PCallQ.m 0 (c1) rfl rfl rfl rfl ?_
     refine And.intro (inI64 (by omega) (by omega)) ?_
     refine And.intro (inI64 (by omega) (by omega)) ?_
     conv => whnf
     refine PCallQ.m 0 (c2) rfl rfl rfl rfl ?_
     refine And.intro ⟨by decide, by decide⟩ ?_
     conv => whnf
     refine CallC.k [(0, 0)] (c3) rfl rfl (AVsle.refl _) ⟨MOle.refl _, trivial⟩ rfl ?_
     refine And.intro (inI64 (by omega) (by omega)) ?_
     conv => whnf
     refine CallC.k [(0, 0)] (c4) rfl rfl (AVsle.refl _) ⟨MOle.refl _, trivial⟩ rfl ?_
     refine DrawC.mkQ 4 [(.inl 0, 2)] rfl (by kernel_rfl) ?_; refine And.intro (by kernel_rfl) ?_
     conv => whnf
     refine PCallQ.m 0 (c5) rfl rfl rfl rfl ?_
     conv => whnf
     refine PCallQ.sca _ (cF) rfl ?_
     refine And.intro ⟨by omega, by omega⟩ ?_
     exact And.intro trivial ⟨[(0, 0)], rfl, AVle.refl _, ⟨MOle.refl _, trivial⟩⟩
   · refine ⟨⟨4, if x.fence > 1 then x.fence else 1, (ix x.es i).tier, (ix x.es i).f, (ix x.es i).t, (ix x.es i).key⟩, s5, wk k5 (by omega), Nat.le_trans hk17 (by decide), ?_, ?_⟩
     · exact ⟨by show (if x.fence > 1 then x.fence else 1) ≤ _; split <;> omega, rc_mid (by unfold mid; omega) (by unfold mid; first | omega | (split <;> omega)) (by unfold mid; first | omega | exact hE.1) (by unfold mid; first | omega | exact hE.2.1) (by unfold mid; first | omega | exact hE.2.2)⟩
     refine FnM.introC Tryz.call63 Tryz.func63 rfl rfl ?_
     refine DrawC.mkQ 15 [(.inl 0, 9), (.inl 0, 14)] rfl (by kernel_rfl) ?_; refine And.intro (by kernel_rfl) ?_
     conv => whnf
     refine PCallQ.m 0 (c1) rfl rfl rfl rfl ?_
     refine And.intro (inI64 (by omega) (by omega)) ?_
     refine And.intro (inI64 (by omega) (by omega)) ?_
     conv => whnf
     refine PCallQ.m 0 (c2) rfl rfl rfl rfl ?_
     refine And.intro ⟨by decide, by decide⟩ ?_
     conv => whnf
     refine CallC.k [(0, 0)] (c3) rfl rfl (AVsle.refl _) ⟨MOle.refl _, trivial⟩ rfl ?_
     refine And.intro (inI64 (by omega) (by omega)) ?_
     conv => whnf
     refine CallC.k [(0, 0)] (c4) rfl rfl (AVsle.refl _) ⟨MOle.refl _, trivial⟩ rfl ?_
     refine DrawC.mkQ 4 [(.inl 0, 2)] rfl (by kernel_rfl) ?_; refine And.intro (by kernel_rfl) ?_
     conv => whnf
     refine PCallQ.m 0 (c5) rfl rfl rfl rfl ?_
     conv => whnf
     refine PCallQ.sca _ (cF) rfl ?_
     refine And.intro ⟨by omega, by omega⟩ ?_
     exact And.intro trivial ⟨[(0, 0)], rfl, AVle.refl _, ⟨MOle.refl _, trivial⟩⟩
   · refine ⟨⟨4, if (x.fence + a1 - 1) > 1 then (x.fence + a1 - 1) else 1, (ix x.es i).tier, (ix x.es i).f, (ix x.es i).t, (ix x.es i).key⟩, s5, wk k5 (by omega), Nat.le_trans hk17 (by decide), ?_, ?_⟩
     · exact ⟨by show (if (x.fence + a1 - 1) > 1 then (x.fence + a1 - 1) else 1) ≤ _; split <;> omega, rc_mid (by unfold mid; omega) (by unfold mid; first | omega | (split <;> omega)) (by unfold mid; first | omega | exact hE.1) (by unfold mid; first | omega | exact hE.2.1) (by unfold mid; first | omega | exact hE.2.2)⟩
     refine FnM.introC Tryz.call63 Tryz.func63 rfl rfl ?_
     refine DrawC.mkQ 15 [(.inl 0, 9), (.inl 0, 14)] rfl (by kernel_rfl) ?_; refine And.intro (by kernel_rfl) ?_
     conv => whnf
     refine PCallQ.m 0 (c1) rfl rfl rfl rfl ?_
     refine And.intro (inI64 (by omega) (by omega)) ?_
     refine And.intro (inI64 (by omega) (by omega)) ?_
     conv => whnf
     refine PCallQ.m 0 (c2) rfl rfl rfl rfl ?_
     refine And.intro ⟨by decide, by decide⟩ ?_
     conv => whnf
     refine CallC.k [(0, 0)] (c3) rfl rfl (AVsle.refl _) ⟨MOle.refl _, trivial⟩ rfl ?_
     refine And.intro (inI64 (by omega) (by omega)) ?_
     conv => whnf
     refine CallC.k [(0, 0)] (c4) rfl rfl (AVsle.refl _) ⟨MOle.refl _, trivial⟩ rfl ?_
     refine DrawC.mkQ 4 [(.inl 0, 2)] rfl (by kernel_rfl) ?_; refine And.intro (by kernel_rfl) ?_
     conv => whnf
     refine PCallQ.m 0 (c5) rfl rfl rfl rfl ?_
     conv => whnf
     refine PCallQ.sca _ (cF) rfl ?_
     refine And.intro ⟨by omega, by omega⟩ ?_
     exact And.intro trivial ⟨[(0, 0)], rfl, AVle.refl _, ⟨MOle.refl _, trivial⟩⟩
theorem recordM_fn (s : Src) (x : Sta) {k : Int} (h : s.ok k) (hk : 0 ≤ k ∧ k ≤ 1000000) (hx : x.ok = true) (hq : x.seq ≤ 900000) (hf : x.fence ≤ 900000) :
 ∃ (r : Rc) (q : Src), q.ok (k + 30) ∧ r.key.length ≤ 30 ∧ (r.tok ≤ x.fence + 3 ∧ ∀ n ∈ r.nums, mid n) ∧ FnM Tryz.prog 63 1 [.bptr 0 0, x.av] [(0, .box s.row)] r.av [(0, .box q.row)] 1 := by
 obtain ⟨a1, s1, h1, k1, c1⟩ := draw s h (by omega) 3 (by decide)
 obtain ⟨a2, s2, h2, k2, c2⟩ := draw s1 k1 (by omega) 4 (by decide)
 obtain ⟨a3, s3, h3, k3, c3⟩ := draw s2 k2 (by omega) 2 (by decide)
 obtain ⟨a4, s4, h4, k4, c4⟩ := draw s3 k3 (by omega) 8 (by decide)
 have k4 : s4.ok (k + 12) := wk k4 (by omega)
 have e4 : (a4 = 0 ∨ a4 = 1 ∨ a4 = 2) ∨ a4 = 3 ∨ (a4 = 4 ∨ a4 = 5) ∨ a4 = 6 ∨ a4 = 7 := by omega
 rcases e4 with e4 | e4 | e4 | e4 | e4
 · exact rec_add s x h hk hx hq hf a1 a2 a3 a4 s1 s2 s3 s4 h1 h2 h3 h4 k4 e4 c1 c2 c3 c4
 · exact rec_claim s x h hk hx hq hf a1 a2 a3 a4 s1 s2 s3 s4 h1 h2 h3 h4 k4 e4 c1 c2 c3 c4
 · exact rec_publish s x h hk hx hq hf a1 a2 a3 a4 s1 s2 s3 s4 h1 h2 h3 h4 k4 e4 c1 c2 c3 c4
 · exact rec_retire s x h hk hx hq hf a1 a2 a3 a4 s1 s2 s3 s4 h1 h2 h3 h4 k4 e4 c1 c2 c3 c4
 · exact rec_last s x h hk hx hq hf a1 a2 a3 a4 s1 s2 s3 s4 h1 h2 h3 h4 k4 e4 c1 c2 c3 c4
theorem record_fn (s : Src) (x : Sta) {k : Int} (h : s.ok k) (hk : 0 ≤ k ∧ k ≤ 1000000) (hx : x.ok = true) (hq : x.seq ≤ 900000) (hf : x.fence ≤ 900000) :
 ∃ (r : Rc) (q : Src), q.ok (k + 30) ∧ r.key.length ≤ 1000 ∧ r.tok ≤ x.fence + 3 ∧ FnM Tryz.prog 63 1 [.bptr 0 0, x.av] [(0, .box s.row)] r.av [(0, .box q.row)] 1 := by
 obtain ⟨r, q, a, b, c, d⟩ := recordM_fn s x h hk hx hq hf
 exact ⟨r, q, a, Nat.le_trans b (by decide), c.1, d⟩

theorem l06Empty0 : VFn Tryz.prog 119 [] sta0.av := by
 refine VFn.introC Tryz.call119 Tryz.func119 rfl rfl ?_
 exact And.intro trivial (AVle.agg (AVsle.cons (AVle.refl _) (AVsle.cons (AVle.refl _) (AVsle.cons (AVle.sl rfl fun i hi => absurd hi (Nat.not_lt_zero i)) (AVsle.cons (AVle.sl rfl fun i hi => absurd hi (Nat.not_lt_zero i)) (AVsle.refl _))))))
theorem seq_ex {α : Type} (M : Nat) (I : Nat → α → Prop) (T : α → α → Prop) (a0 : α) (h0 : I 0 a0) (hs : ∀ n a, n < M → I n a → ∃ b, T a b ∧ I (n + 1) b) :
 ∃ f : Nat → α, f 0 = a0 ∧ (∀ n, n ≤ M → I n (f n)) ∧ ∀ n, n < M → T (f n) (f (n + 1)) := by
 classical
 let g : Nat → α → α := fun n a => if h : ∃ b, T a b ∧ I (n + 1) b then Classical.choose h else a
 let f : Nat → α := fun n => Nat.rec a0 (fun n a => g n a) n
 have hf : ∀ n, f (n + 1) = g n (f n) := fun n => rfl
 have hg : ∀ n a, (h : ∃ b, T a b ∧ I (n + 1) b) → T a (g n a) ∧ I (n + 1) (g n a) := fun n a h => by
  show T a (if h : ∃ b, T a b ∧ I (n + 1) b then Classical.choose h else a) ∧ I (n + 1) (if h : ∃ b, T a b ∧ I (n + 1) b then Classical.choose h else a)
  rw [dif_pos h]
  exact Classical.choose_spec h
 have hI : ∀ n, n ≤ M → I n (f n) := by
  intro n
  induction n with
  | zero => intro _; exact h0
  | succ n ih => intro h; rw [hf]; exact (hg n _ (hs n _ (by omega) (ih (by omega)))).2
 exact ⟨f, rfl, hI, fun n h => by rw [hf]; exact (hg n _ (hs n _ h (hI n (by omega)))).1⟩
theorem app_fence (s : Sta) (r : Rc) : (s.app r).fence = s.fence ∨ (s.app r).fence = r.tok := by
 unfold Sta.app
 split
 · split
   · exact .inl (lift_es _ _ _).2.2.2
   · split
     · exact .inr rfl
     · split
       · exact .inl (by unfold Sta.lower; split <;> (try split) <;> rfl)
       · exact .inl rfl
 · exact .inl rfl
theorem size_fn (s : Src) (n : Int) (h : s.ok 100000000) (hn : 1 ≤ n ∧ n ≤ 1000) : ∃ v : Int, (1 ≤ v ∧ v ≤ n) ∧ FnM Tryz.prog 98 1 [.bptr 0 0, .int .i64 n] [(0, .box s.row)] (.int .i64 v) [(0, .box s.row)] 1 := by
 have hc := h.2.2
 have q := tdiv_b (n := (s.code.length : Int)) (m := 12) (by omega) (by decide)
 refine ⟨if n < 1 + (s.code.length : Int).tdiv 12 then n else 1 + (s.code.length : Int).tdiv 12, by split <;> omega, ?_⟩
 refine FnM.introC Tryz.call98 Tryz.func98 rfl rfl ?_
 refine And.intro ⟨by decide, inI64 (by omega) (by omega)⟩ ?_
 refine And.intro (inI64 (by omega) (by omega)) ?_
 exact And.intro trivial ⟨[(0, 0)], rfl, AVle.refl _, ⟨MOle.refl _, trivial⟩⟩
theorem src_ok1 (code : List UInt8) (h : code.length ≤ 1048577) : (srcOf code).ok 0 := by
 have := tmod_b (n := (code.length : Int)) (m := 1000) (by omega) (by omega)
 exact ⟨⟨by simp [srcOf], by simp [srcOf]⟩, ⟨this.1, by have := this.2; simp only [srcOf]; omega⟩, by simp only [srcOf]; omega⟩
theorem l00Source_fn1 (code : List UInt8) (h : code.length ≤ 1048577) : FnM Tryz.prog 36 0 [byts code] [] (.bptr 0 0) [(0, .box (srcOf code).row)] 1 := by
 refine FnM.introC Tryz.call36 Tryz.func36 rfl rfl ?_
 refine And.intro (by decide) ?_
 exact And.intro trivial ⟨[(0, 0)], rfl, AVle.refl _, ⟨MOle.refl _, trivial⟩⟩
structure Dr (i : Nat) (x : Sta) : Prop where
 ok : x.ok = true
 sq : x.seq ≤ i
 fe : x.fence ≤ 3 * (i : Int)
 len : x.es.length + x.ts.length ≤ i
theorem RecordFor_fn (code : List UInt8) (h : code.length ≤ 1048577) {i : Nat} {x : Sta} (hx : Dr i x) (hi : i ≤ 100000) : ∃ r : Rc, r.key.length ≤ 1000 ∧ r.tok ≤ x.fence + 3 ∧ VFn Tryz.prog 22 [byts code, x.av] r.av := by
 obtain ⟨h1, h2, h3, h4⟩ := hx
 obtain ⟨r, q, hq, hr, ht, c⟩ := record_fn (srcOf code) x (src_ok1 code h) (by omega) h1 (by omega) (by omega)
 refine ⟨r, hr, ht, ?_⟩
 refine VFn.introC Tryz.call22 Tryz.func22 rfl rfl ?_
 refine DrawC.mkQ 3 [] rfl (by kernel_rfl) ?_; refine And.intro (by kernel_rfl) ?_
 conv => whnf
 refine PCallQ.new (l00Source_fn1 code h) rfl ?_
 conv => whnf
 refine CallC.k [(3, 0)] (c) rfl rfl (AVsle.refl _) ⟨MOle.refl _, trivial⟩ rfl ?_
 exact And.intro trivial (AVle.refl _)
theorem set_here {x : Sto} (hx : x.ok = true) (k d : List UInt8) (hy : (x.set k d).ok = true) : (x.set k d).has k = true ∧ (x.set k d).get k = ⟨k, x.next, d⟩ :=
 mem_has (Sto.srt hy) ((set_mem (Sto.srt hx) k d ⟨k, x.next, d⟩).2 (.inl rfl))
theorem manK_ne {a b : Nat} (ha : a ≤ 999999) (hb : b ≤ 999999) (h : a ≠ b) : manK ((a : Nat) : Int) ≠ manK ((b : Nat) : Int) := fun e => h (manK_inj ha hb e)
theorem log_app {x : Sto} (hx : x.ok = true) {n : Nat} (hn : n ≤ 200) (he : logEnd x = n) (hh : ∀ j, j < n → x.has (manK ((j + 1 : Nat) : Int)) = true) (h2 : x.has (manK ((n + 2 : Nat) : Int)) = false)
 {t : List UInt8} (ht : t.length ≤ 600) (hl : x.os.length < 300) (hnx : x.next < 1000000000) :
 ((x.set (manK ((n + 1 : Nat) : Int)) t).ok = true ∧ (x.set (manK ((n + 1 : Nat) : Int)) t).next = x.next + 1 ∧ (x.set (manK ((n + 1 : Nat) : Int)) t).os.length ≤ x.os.length + 1) ∧
 (∀ j, j < n + 1 → (x.set (manK ((n + 1 : Nat) : Int)) t).has (manK ((j + 1 : Nat) : Int)) = true) ∧
 logEnd (x.set (manK ((n + 1 : Nat) : Int)) t) = n + 1 ∧ logS (x.set (manK ((n + 1 : Nat) : Int)) t) = (logS x).lay t := by
 obtain ⟨p1, p2, p3, p4, p5⟩ := put_ok hx (manK_keyOK ((n + 1 : Nat) : Int)) (d := t) ht hl hnx
 rw [p2] at p3 p4 p5
 have hs := set_here hx (manK ((n + 1 : Nat) : Int)) t p3
 have old : ∀ j, j < n → (x.set (manK ((n + 1 : Nat) : Int)) t).has (manK ((j + 1 : Nat) : Int)) = true ∧ ((x.set (manK ((n + 1 : Nat) : Int)) t).get (manK ((j + 1 : Nat) : Int))).data = (x.get (manK ((j + 1 : Nat) : Int))).data := fun j hj => by
  obtain ⟨a1, a2⟩ := set_ne hx p3 (k' := manK ((j + 1 : Nat) : Int)) (manK_ne (by omega) (by omega) (by omega))
  exact ⟨by rw [a1]; exact hh j hj, by rw [a2 (hh j hj)]⟩
 have h3 : (x.set (manK ((n + 1 : Nat) : Int)) t).has (manK ((n + 2 : Nat) : Int)) = false := by
  obtain ⟨a1, _⟩ := set_ne hx p3 (k' := manK ((n + 2 : Nat) : Int)) (manK_ne (by omega) (by omega) (by omega))
  rw [a1]; exact h2
 obtain ⟨g1, g2⟩ := log_grow p3 (by omega) hh he old hs.1 h3
 refine ⟨⟨p3, p4, p5⟩, fun j hj => ?_, g1, by rw [g2, hs.2]⟩
 rcases Nat.lt_or_ge j n with h | h
 · exact (old j h).1
 · have : j = n := by omega
   subst this; exact hs.1
theorem lay_fence (s : Sta) (t : List UInt8) {f : Int} (h0 : s.fence ≤ f) (h : ∀ r, readR t = some r → r.tok ≤ f) : (s.lay t).fence ≤ f := by
 unfold Sta.lay
 cases hr : readR t with
 | none => exact h0
 | some r =>
   rcases app_fence s r with e | e
   · show (s.app r).fence ≤ f
     rw [e]; exact h0
   · show (s.app r).fence ≤ f
     rw [e]; exact h r hr
structure LgI (i : Nat) (x : Sto) : Prop where
 ok : x.ok = true
 len : x.os.length ≤ i
 nxt : x.next ≤ 1 + (i : Int)
 el : ∀ o ∈ x.os, ∃ j, j < i ∧ o.key = manK ((j + 1 : Nat) : Int)
 has : ∀ j, j < i → x.has (manK ((j + 1 : Nat) : Int)) = true
 en : logEnd x = i
 fe : (logS x).fence ≤ 3 * (i : Int)
theorem LgI.no {i : Nat} {x : Sto} (h : LgI i x) {m : Nat} (hm : i < m) (hi : m ≤ 900000) : x.has (manK ((m : Nat) : Int)) = false := by
 cases e : x.has (manK ((m : Nat) : Int)) with
 | false => rfl
 | true =>
   obtain ⟨a1, a2⟩ := has_get e
   obtain ⟨j, hj, e2⟩ := h.el _ a1
   rw [a2] at e2
   have := manK_inj (by omega) (by omega) e2
   omega
theorem LgI.zero : LgI 0 stoN0 := by
 have e : logEnd stoN0 = 0 := (log_end (x := stoN0) (by decide) (by decide) (fun j hj => absurd hj (Nat.not_lt_zero j)) (by decide)).symm
 exact ⟨by decide, by decide, by decide, fun o ho => absurd ho (List.not_mem_nil), fun j hj => absurd hj (Nat.not_lt_zero j), e, by unfold logS; rw [e]; decide⟩
theorem LgI.lay {i : Nat} {x : Sto} (h : LgI i x) (hi : i ≤ 100) {t : List UInt8} (ht : t.length ≤ 600) (hf : ∀ r, readR t = some r → r.tok ≤ (logS x).fence + 3) :
 LgI (i + 1) (x.set (manK ((i + 1 : Nat) : Int)) t) := by
 have hl := h.len
 have hn := h.nxt
 obtain ⟨⟨p1, p2, p3⟩, p4, p5, p6⟩ := log_app h.ok (by omega) h.en h.has (h.no (m := i + 2) (by omega) (by omega)) ht (by omega) (by omega)
 refine ⟨p1, by omega, by omega, fun o ho => ?_, p4, p5, ?_⟩
 · rcases (set_mem (Sto.srt h.ok) _ _ o).1 ho with e | ⟨e, _⟩
   · exact ⟨i, by omega, by rw [e]⟩
   · obtain ⟨j, hj, e2⟩ := h.el o e
     exact ⟨j, by omega, e2⟩
 · rw [p6]
   have := h.fe
   refine lay_fence _ _ (by omega) fun r hr => ?_
   have := hf r hr
   omega
structure LgF (n : Nat) (y : Sto) : Prop where
 ok : y.ok = true
 len : y.os.length ≤ n + 1
 nxt : y.next ≤ 2 + (n : Int)
 has : ∀ j, j < n → y.has (manK ((j + 1 : Nat) : Int)) = true
 n1 : y.has (manK ((n + 1 : Nat) : Int)) = false
 n2 : y.has (manK ((n + 2 : Nat) : Int)) = false
 en : logEnd y = n
 fe : (logS y).fence ≤ 3 * (n : Int)
theorem LgI.fin {n : Nat} {x : Sto} (h : LgI n x) (hn : n ≤ 100) : LgF n x :=
 ⟨h.ok, by have := h.len; omega, by have := h.nxt; omega, h.has, h.no (by omega) (by omega), h.no (by omega) (by omega), h.en, h.fe⟩
theorem LgI.fin3 {n : Nat} {x : Sto} (h : LgI n x) (hn : n ≤ 100) {t : List UInt8} (ht : t.length ≤ 600) : LgF n (x.set (manK ((n + 3 : Nat) : Int)) t) := by
 have hl := h.len
 have hx := h.nxt
 obtain ⟨p1, p2, p3, p4, p5⟩ := put_ok h.ok (manK_keyOK ((n + 3 : Nat) : Int)) (d := t) ht (by omega) (by omega)
 rw [p2] at p3 p4 p5
 have o : ∀ m : Nat, m ≤ 900000 → m ≠ n + 3 → (x.set (manK ((n + 3 : Nat) : Int)) t).has (manK ((m : Nat) : Int)) = x.has (manK ((m : Nat) : Int)) ∧ (x.has (manK ((m : Nat) : Int)) = true → (x.set (manK ((n + 3 : Nat) : Int)) t).get (manK ((m : Nat) : Int)) = x.get (manK ((m : Nat) : Int))) := fun m h1 h2 =>
  set_ne h.ok p3 (manK_ne (by omega) (by omega) h2)
 have hh : ∀ j, j < n → (x.set (manK ((n + 3 : Nat) : Int)) t).has (manK ((j + 1 : Nat) : Int)) = true := fun j hj => by rw [(o (j + 1) (by omega) (by omega)).1]; exact h.has j hj
 have h1 : (x.set (manK ((n + 3 : Nat) : Int)) t).has (manK ((n + 1 : Nat) : Int)) = false := by rw [(o (n + 1) (by omega) (by omega)).1]; exact h.no (by omega) (by omega)
 have e := (log_end p3 (by omega) hh h1).symm
 refine ⟨p3, by omega, by omega, hh, h1, by rw [(o (n + 2) (by omega) (by omega)).1]; exact h.no (by omega) (by omega), e, ?_⟩
 have c : logN (x.set (manK ((n + 3 : Nat) : Int)) t) n = logN x n := logN_congr n fun j hj => by rw [(o (j + 1) (by omega) (by omega)).2 (h.has j hj)]
 have := h.fe
 unfold logS at this ⊢
 rw [h.en] at this
 rw [e, c]
 exact this
end Go.Proofs.YtnplgeogieoioaaGreatDoor
