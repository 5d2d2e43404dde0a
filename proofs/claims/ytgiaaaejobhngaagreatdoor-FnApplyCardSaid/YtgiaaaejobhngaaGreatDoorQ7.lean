/- Contracts of functions that the claim reaches, and the plain law of what they compute; each theorem bears its own conditions. -/
import Derived.Test.YtgiaaaejobhngaaGreatDoorQ6
import Derived.Test.YtgiaaaejobhngaaGreatDoorV46
import Derived.Test.YtgiaaaejobhngaaGreatDoorQ3
import Derived.Test.YtgiaaaejobhngaaGreatDoorQ4
set_option linter.unusedVariables false
set_option linter.constructorNameAsVariable false
set_option linter.unusedSimpArgs false
set_option maxRecDepth 20000
namespace Go.Proofs.YtgiaaaejobhngaaGreatDoor
open Go Go.Vw

theorem ix_in {α : Type} [Inhabited α] {L : List α} {i : Nat} (h : i < L.length) : ix L i ∈ L := by rw [ix_lt h]; exact List.getElem_mem h
theorem draw (s : Src) {k : Int} (h : s.ok k) (hk : 0 ≤ k ∧ k ≤ 10000000) (n : Int) (hn : 1 ≤ n) : ∃ (v : Nat) (q : Src), (v : Int) < n ∧ q.ok (k + 3) ∧ FnM Tryz.prog 144 1 [.bptr 0 0, .int .i64 n] [(0, .box s.row)] (.int .i64 v) [(0, .box q.row)] 1 := by
  have n1 := next_b s h (by omega) n
  have n2 := n1.1.2 hn
  obtain ⟨v, hv⟩ : ∃ v : Nat, (s.next n).1 = v := ⟨(s.next n).1.toNat, by omega⟩
  have c := next_fn s n (wk h (by omega))
  rw [hv] at c n2
  exact ⟨v, (s.next n).2, n2, n1.2.1, c⟩
theorem rec_add (s : Src) (x : Sta) {k : Int} (h : s.ok k) (hk : 0 ≤ k ∧ k ≤ 1000000) (hx : x.ok = true) (hq : x.seq ≤ 900000) (hf : x.fence ≤ 900000)
    (a1 a2 a3 a4 : Nat) (s1 s2 s3 s4 : Src) (h1 : (a1 : Int) < 3) (h2 : (a2 : Int) < 4) (h3 : (a3 : Int) < 2) (h4 : (a4 : Int) < 8) (k4 : s4.ok (k + 12)) (e4 : a4 = 0 ∨ a4 = 1 ∨ a4 = 2)
    (c1 : FnM Tryz.prog 144 1 [.bptr 0 0, .int .i64 3] [(0, .box s.row)] (.int .i64 a1) [(0, .box s1.row)] 1)
    (c2 : FnM Tryz.prog 144 1 [.bptr 0 0, .int .i64 4] [(0, .box s1.row)] (.int .i64 a2) [(0, .box s2.row)] 1)
    (c3 : FnM Tryz.prog 144 1 [.bptr 0 0, .int .i64 2] [(0, .box s2.row)] (.int .i64 a3) [(0, .box s3.row)] 1)
    (c4 : FnM Tryz.prog 144 1 [.bptr 0 0, .int .i64 8] [(0, .box s3.row)] (.int .i64 a4) [(0, .box s4.row)] 1) :
    ∃ (r : Rc) (q : Src), q.ok (k + 30) ∧ r.key.length ≤ 1000 ∧ r.tok ≤ x.fence + 3 ∧ FnM Tryz.prog 109 1 [.bptr 0 0, x.av] [(0, .box s.row)] r.av [(0, .box q.row)] 1 := by
  have hO := (staOK_iff x).1 hx
  have hb := Sta.hi_b hx
  have hfq := hO.f
  have hsq := hO.q
  obtain ⟨u, s5, hu, k5, c5⟩ := draw s4 k4 (by omega) 9 (by decide)
  obtain ⟨v, s6, hv, k6, c6⟩ := draw s5 k5 (by omega) 9 (by decide)
  obtain ⟨w, s7, hw, k7, c7⟩ := draw s6 k6 (by omega) 2 (by decide)
  have hu8 := tdiv_b (n := (u : Int)) (m := 8) (by omega) (by decide)
  have cK := l03Key_at (t' := 0) (n' := x.seq + 1) (w' := w) (t := 0) (n := (x.seq + 1).toNat) (w := w) rfl (by omega) rfl (by decide) (by omega) (by omega)
  refine ⟨⟨1, 0, 0, x.h0 + (u : Int).tdiv 8, x.h0 + 2 + v, keyB 0 (x.seq + 1).toNat w⟩, s7, wk k7 (by omega), ?_, ?_, ?_⟩
  · exact Nat.le_trans (key_len (k := keyB 0 (x.seq + 1).toNat w) (by unfold kOk; rw [parse_key (by omega) (by omega) (by omega)]; rfl)) (by decide)
  · show (0 : Int) ≤ _; omega
  have q2 : a2 = 0 ∨ a2 = 1 ∨ a2 = 2 ∨ a2 = 3 := by omega
  rcases e4 with rfl | rfl | rfl <;> rcases q2 with rfl | rfl | rfl | rfl
  all_goals
    refine FnM.introC Tryz.call109 Tryz.func109 rfl rfl ?_
    refine DrawC.mkQ 15 [(.inl 0, 9), (.inl 0, 14)] rfl (by kernel_rfl) ?_; refine And.intro (by kernel_rfl) ?_
    conv => whnf
    refine PCallQ.m 0 (c1) rfl rfl rfl rfl ?_
    refine And.intro (inI64 (by omega) (by omega)) ?_
    refine And.intro (inI64 (by omega) (by omega)) ?_
    conv => whnf
    refine PCallQ.m 0 (c2) rfl rfl rfl rfl ?_
    refine And.intro ⟨by decide, by decide⟩ ?_
    conv => whnf
    refine CallC.k [(0, 0)] (c3) rfl rfl (AVsle.refl _) ⟨MOle.refl _, trivial⟩ rfl ?_
    refine And.intro (inI64 (by omega) (by omega)) ?_
    conv => whnf
    refine CallC.k [(0, 0)] (c4) rfl rfl (AVsle.refl _) ⟨MOle.refl _, trivial⟩ rfl ?_
    refine DrawC.mkQ 20 [(.inl 0, 4), (.inl 0, 12), (.inl 0, 18)] rfl (by kernel_rfl) ?_; refine And.intro (by kernel_rfl) ?_
    refine And.intro (by decide) ?_
    conv => whnf
    refine PCallQ.m 0 (c5) rfl rfl rfl rfl ?_
    refine And.intro ⟨by decide, show inI .i64 ((u : Int).tdiv 8) from inI64 (by omega) (by omega)⟩ ?_
    refine And.intro (inI64 (by omega) (by omega)) ?_
    refine And.intro (by decide) ?_
    refine And.intro (inI64 (by omega) (by omega)) ?_
    conv => whnf
    refine PCallQ.m 0 (c6) rfl rfl rfl rfl ?_
    refine And.intro (inI64 (by omega) (by omega)) ?_
    refine And.intro (inI64 (by omega) (by omega)) ?_
    conv => whnf
    refine PCallQ.m 0 (c7) rfl rfl rfl rfl ?_
    conv => whnf
    refine PCallQ.sca _ (cK) rfl ?_
    exact And.intro trivial ⟨[(0, 0)], rfl, AVle.refl _, ⟨MOle.refl _, trivial⟩⟩
theorem rec_claim (s : Src) (x : Sta) {k : Int} (h : s.ok k) (hk : 0 ≤ k ∧ k ≤ 1000000) (hx : x.ok = true) (hq : x.seq ≤ 900000) (hf : x.fence ≤ 900000)
    (a1 a2 a3 a4 : Nat) (s1 s2 s3 s4 : Src) (h1 : (a1 : Int) < 3) (h2 : (a2 : Int) < 4) (h3 : (a3 : Int) < 2) (h4 : (a4 : Int) < 8) (k4 : s4.ok (k + 12)) (e4 : a4 = 3)
    (c1 : FnM Tryz.prog 144 1 [.bptr 0 0, .int .i64 3] [(0, .box s.row)] (.int .i64 a1) [(0, .box s1.row)] 1)
    (c2 : FnM Tryz.prog 144 1 [.bptr 0 0, .int .i64 4] [(0, .box s1.row)] (.int .i64 a2) [(0, .box s2.row)] 1)
    (c3 : FnM Tryz.prog 144 1 [.bptr 0 0, .int .i64 2] [(0, .box s2.row)] (.int .i64 a3) [(0, .box s3.row)] 1)
    (c4 : FnM Tryz.prog 144 1 [.bptr 0 0, .int .i64 8] [(0, .box s3.row)] (.int .i64 a4) [(0, .box s4.row)] 1) :
    ∃ (r : Rc) (q : Src), q.ok (k + 30) ∧ r.key.length ≤ 1000 ∧ r.tok ≤ x.fence + 3 ∧ FnM Tryz.prog 109 1 [.bptr 0 0, x.av] [(0, .box s.row)] r.av [(0, .box q.row)] 1 := by
  have hO := (staOK_iff x).1 hx
  have hb := Sta.hi_b hx
  have hfq := hO.f
  have hsq := hO.q
  obtain ⟨u, s5, hu, k5, c5⟩ := draw s4 k4 (by omega) 3 (by decide)
  refine ⟨⟨2, if x.fence + u > 1 then x.fence + u else 1, 0, 0, 0, []⟩, s5, wk k5 (by omega), Nat.zero_le _, ?_, ?_⟩
  · show (if x.fence + u > 1 then x.fence + u else 1) ≤ _; split <;> omega
  subst e4
  have q2 : a2 = 0 ∨ a2 = 1 ∨ a2 = 2 ∨ a2 = 3 := by omega
  rcases q2 with rfl | rfl | rfl | rfl
  all_goals
    refine FnM.introC Tryz.call109 Tryz.func109 rfl rfl ?_
    refine DrawC.mkQ 15 [(.inl 0, 9), (.inl 0, 14)] rfl (by kernel_rfl) ?_; refine And.intro (by kernel_rfl) ?_
    conv => whnf
    refine PCallQ.m 0 (c1) rfl rfl rfl rfl ?_
    refine And.intro (inI64 (by omega) (by omega)) ?_
    refine And.intro (inI64 (by omega) (by omega)) ?_
    conv => whnf
    refine PCallQ.m 0 (c2) rfl rfl rfl rfl ?_
    refine And.intro ⟨by decide, by decide⟩ ?_
    conv => whnf
    refine CallC.k [(0, 0)] (c3) rfl rfl (AVsle.refl _) ⟨MOle.refl _, trivial⟩ rfl ?_
    refine And.intro (inI64 (by omega) (by omega)) ?_
    conv => whnf
    refine CallC.k [(0, 0)] (c4) rfl rfl (AVsle.refl _) ⟨MOle.refl _, trivial⟩ rfl ?_
    refine DrawC.mkQ 6 [(.inl 0, 3)] rfl (by kernel_rfl) ?_; refine And.intro (by kernel_rfl) ?_
    conv => whnf
    refine PCallQ.m 0 (c5) rfl rfl rfl rfl ?_
    refine And.intro (inI64 (by omega) (by omega)) ?_
    exact And.intro trivial ⟨[(0, 0)], rfl, AVle.refl _, ⟨MOle.refl _, trivial⟩⟩
theorem rec_publish (s : Src) (x : Sta) {k : Int} (h : s.ok k) (hk : 0 ≤ k ∧ k ≤ 1000000) (hx : x.ok = true) (hq : x.seq ≤ 900000) (hf : x.fence ≤ 900000)
    (a1 a2 a3 a4 : Nat) (s1 s2 s3 s4 : Src) (h1 : (a1 : Int) < 3) (h2 : (a2 : Int) < 4) (h3 : (a3 : Int) < 2) (h4 : (a4 : Int) < 8) (k4 : s4.ok (k + 12)) (e4 : a4 = 4 ∨ a4 = 5)
    (c1 : FnM Tryz.prog 144 1 [.bptr 0 0, .int .i64 3] [(0, .box s.row)] (.int .i64 a1) [(0, .box s1.row)] 1)
    (c2 : FnM Tryz.prog 144 1 [.bptr 0 0, .int .i64 4] [(0, .box s1.row)] (.int .i64 a2) [(0, .box s2.row)] 1)
    (c3 : FnM Tryz.prog 144 1 [.bptr 0 0, .int .i64 2] [(0, .box s2.row)] (.int .i64 a3) [(0, .box s3.row)] 1)
    (c4 : FnM Tryz.prog 144 1 [.bptr 0 0, .int .i64 8] [(0, .box s3.row)] (.int .i64 a4) [(0, .box s4.row)] 1) :
    ∃ (r : Rc) (q : Src), q.ok (k + 30) ∧ r.key.length ≤ 1000 ∧ r.tok ≤ x.fence + 3 ∧ FnM Tryz.prog 109 1 [.bptr 0 0, x.av] [(0, .box s.row)] r.av [(0, .box q.row)] 1 := by
  have hO := (staOK_iff x).1 hx
  have hb := Sta.hi_b hx
  have hfq := hO.f
  have hsq := hO.q
  have w1 : (1 : Int) ≤ wd 1 ∧ wd 1 ≤ 1000 := by decide
  have w2 : (1 : Int) ≤ wd 2 ∧ wd 2 ≤ 1000 := by decide
  have cw1 := l04Width_fn 1 (.inr (.inl rfl))
  have cw2 := l04Width_fn 2 (.inr (.inr rfl))
  have q3 : a3 = 0 ∨ a3 = 1 := by omega
  rcases q3 with rfl | rfl
  · have q2 : a2 = 0 ∨ a2 = 1 ∨ a2 = 2 ∨ a2 = 3 := by omega
    rcases q2 with rfl | rfl | rfl | rfl
    · have hT : 1 ≤ (if x.fence > 1 then x.fence else 1) ∧ (if x.fence > 1 then x.fence else 1) ≤ x.fence + 3 := by split <;> omega
      have cK := l03Key_at (t' := 1) (n' := x.h1) (w' := if x.fence > 1 then x.fence else 1) (t := 1) (n := (x.h1).toNat) (w := (if x.fence > 1 then x.fence else 1).toNat) rfl (by omega) (by omega) (by decide) (by omega) (by omega)
      refine ⟨⟨3, if x.fence > 1 then x.fence else 1, 1, x.h1, x.h1 + wd 1, keyB 1 (x.h1).toNat (if x.fence > 1 then x.fence else 1).toNat⟩, s4, wk k4 (by omega), ?_, hT.2, ?_⟩
      · exact Nat.le_trans (key_len (k := keyB 1 (x.h1).toNat (if x.fence > 1 then x.fence else 1).toNat) (by unfold kOk; rw [parse_key (by omega) (by omega) (by omega)]; rfl)) (by decide)
      rcases e4 with rfl | rfl
      all_goals
        refine FnM.introC Tryz.call109 Tryz.func109 rfl rfl ?_
        refine DrawC.mkQ 15 [(.inl 0, 9), (.inl 0, 14)] rfl (by kernel_rfl) ?_; refine And.intro (by kernel_rfl) ?_
        conv => whnf
        refine PCallQ.m 0 (c1) rfl rfl rfl rfl ?_
        refine And.intro (inI64 (by omega) (by omega)) ?_
        refine And.intro (inI64 (by omega) (by omega)) ?_
        conv => whnf
        refine PCallQ.m 0 (c2) rfl rfl rfl rfl ?_
        refine And.intro ⟨by decide, by decide⟩ ?_
        conv => whnf
        refine CallC.k [(0, 0)] (c3) rfl rfl (AVsle.refl _) ⟨MOle.refl _, trivial⟩ rfl ?_
        refine And.intro (inI64 (by omega) (by omega)) ?_
        conv => whnf
        refine CallC.k [(0, 0)] (c4) rfl rfl (AVsle.refl _) ⟨MOle.refl _, trivial⟩ rfl ?_
        refine And.intro (by decide) ?_
        conv => whnf
        refine CallC.sca _ (cw1) ?_ ?_
        · exact rfl
        refine And.intro (inI64 (by omega) (by omega)) ?_
        conv => whnf
        refine CallC.sca _ (cK) ?_ ?_
        · exact rfl
        exact And.intro trivial ⟨[(0, 0)], rfl, AVle.refl _, ⟨MOle.refl _, trivial⟩⟩
    · have hT : 1 ≤ (if x.fence > 1 then x.fence else 1) ∧ (if x.fence > 1 then x.fence else 1) ≤ x.fence + 3 := by split <;> omega
      have cK := l03Key_at (t' := 1) (n' := x.h1) (w' := if x.fence > 1 then x.fence else 1) (t := 1) (n := (x.h1).toNat) (w := (if x.fence > 1 then x.fence else 1).toNat) rfl (by omega) (by omega) (by decide) (by omega) (by omega)
      refine ⟨⟨3, if x.fence > 1 then x.fence else 1, 1, x.h1, x.h1 + wd 1, keyB 1 (x.h1).toNat (if x.fence > 1 then x.fence else 1).toNat⟩, s4, wk k4 (by omega), ?_, hT.2, ?_⟩
      · exact Nat.le_trans (key_len (k := keyB 1 (x.h1).toNat (if x.fence > 1 then x.fence else 1).toNat) (by unfold kOk; rw [parse_key (by omega) (by omega) (by omega)]; rfl)) (by decide)
      rcases e4 with rfl | rfl
      all_goals
        refine FnM.introC Tryz.call109 Tryz.func109 rfl rfl ?_
        refine DrawC.mkQ 15 [(.inl 0, 9), (.inl 0, 14)] rfl (by kernel_rfl) ?_; refine And.intro (by kernel_rfl) ?_
        conv => whnf
        refine PCallQ.m 0 (c1) rfl rfl rfl rfl ?_
        refine And.intro (inI64 (by omega) (by omega)) ?_
        refine And.intro (inI64 (by omega) (by omega)) ?_
        conv => whnf
        refine PCallQ.m 0 (c2) rfl rfl rfl rfl ?_
        refine And.intro ⟨by decide, by decide⟩ ?_
        conv => whnf
        refine CallC.k [(0, 0)] (c3) rfl rfl (AVsle.refl _) ⟨MOle.refl _, trivial⟩ rfl ?_
        refine And.intro (inI64 (by omega) (by omega)) ?_
        conv => whnf
        refine CallC.k [(0, 0)] (c4) rfl rfl (AVsle.refl _) ⟨MOle.refl _, trivial⟩ rfl ?_
        refine And.intro (by decide) ?_
        conv => whnf
        refine CallC.sca _ (cw1) ?_ ?_
        · exact rfl
        refine And.intro (inI64 (by omega) (by omega)) ?_
        conv => whnf
        refine CallC.sca _ (cK) ?_ ?_
        · exact rfl
        exact And.intro trivial ⟨[(0, 0)], rfl, AVle.refl _, ⟨MOle.refl _, trivial⟩⟩
    · have hT : 1 ≤ (if x.fence > 1 then x.fence else 1) ∧ (if x.fence > 1 then x.fence else 1) ≤ x.fence + 3 := by split <;> omega
      have cK := l03Key_at (t' := 1) (n' := x.h1) (w' := if x.fence > 1 then x.fence else 1) (t := 1) (n := (x.h1).toNat) (w := (if x.fence > 1 then x.fence else 1).toNat) rfl (by omega) (by omega) (by decide) (by omega) (by omega)
      refine ⟨⟨3, if x.fence > 1 then x.fence else 1, 1, x.h1, x.h1 + wd 1, keyB 1 (x.h1).toNat (if x.fence > 1 then x.fence else 1).toNat⟩, s4, wk k4 (by omega), ?_, hT.2, ?_⟩
      · exact Nat.le_trans (key_len (k := keyB 1 (x.h1).toNat (if x.fence > 1 then x.fence else 1).toNat) (by unfold kOk; rw [parse_key (by omega) (by omega) (by omega)]; rfl)) (by decide)
      rcases e4 with rfl | rfl
      all_goals
        refine FnM.introC Tryz.call109 Tryz.func109 rfl rfl ?_
        refine DrawC.mkQ 15 [(.inl 0, 9), (.inl 0, 14)] rfl (by kernel_rfl) ?_; refine And.intro (by kernel_rfl) ?_
        conv => whnf
        refine PCallQ.m 0 (c1) rfl rfl rfl rfl ?_
        refine And.intro (inI64 (by omega) (by omega)) ?_
        refine And.intro (inI64 (by omega) (by omega)) ?_
        conv => whnf
        refine PCallQ.m 0 (c2) rfl rfl rfl rfl ?_
        refine And.intro ⟨by decide, by decide⟩ ?_
        conv => whnf
        refine CallC.k [(0, 0)] (c3) rfl rfl (AVsle.refl _) ⟨MOle.refl _, trivial⟩ rfl ?_
        refine And.intro (inI64 (by omega) (by omega)) ?_
        conv => whnf
        refine CallC.k [(0, 0)] (c4) rfl rfl (AVsle.refl _) ⟨MOle.refl _, trivial⟩ rfl ?_
        refine And.intro (by decide) ?_
        conv => whnf
        refine CallC.sca _ (cw1) ?_ ?_
        · exact rfl
        refine And.intro (inI64 (by omega) (by omega)) ?_
        conv => whnf
        refine CallC.sca _ (cK) ?_ ?_
        · exact rfl
        exact And.intro trivial ⟨[(0, 0)], rfl, AVle.refl _, ⟨MOle.refl _, trivial⟩⟩
    · have hT : 1 ≤ (if (x.fence + a1 - 1) > 1 then (x.fence + a1 - 1) else 1) ∧ (if (x.fence + a1 - 1) > 1 then (x.fence + a1 - 1) else 1) ≤ x.fence + 3 := by split <;> omega
      have cK := l03Key_at (t' := 1) (n' := x.h1) (w' := if (x.fence + a1 - 1) > 1 then (x.fence + a1 - 1) else 1) (t := 1) (n := (x.h1).toNat) (w := (if (x.fence + a1 - 1) > 1 then (x.fence + a1 - 1) else 1).toNat) rfl (by omega) (by omega) (by decide) (by omega) (by omega)
      refine ⟨⟨3, if (x.fence + a1 - 1) > 1 then (x.fence + a1 - 1) else 1, 1, x.h1, x.h1 + wd 1, keyB 1 (x.h1).toNat (if (x.fence + a1 - 1) > 1 then (x.fence + a1 - 1) else 1).toNat⟩, s4, wk k4 (by omega), ?_, hT.2, ?_⟩
      · exact Nat.le_trans (key_len (k := keyB 1 (x.h1).toNat (if (x.fence + a1 - 1) > 1 then (x.fence + a1 - 1) else 1).toNat) (by unfold kOk; rw [parse_key (by omega) (by omega) (by omega)]; rfl)) (by decide)
      rcases e4 with rfl | rfl
      all_goals
        refine FnM.introC Tryz.call109 Tryz.func109 rfl rfl ?_
        refine DrawC.mkQ 15 [(.inl 0, 9), (.inl 0, 14)] rfl (by kernel_rfl) ?_; refine And.intro (by kernel_rfl) ?_
        conv => whnf
        refine PCallQ.m 0 (c1) rfl rfl rfl rfl ?_
        refine And.intro (inI64 (by omega) (by omega)) ?_
        refine And.intro (inI64 (by omega) (by omega)) ?_
        conv => whnf
        refine PCallQ.m 0 (c2) rfl rfl rfl rfl ?_
        refine And.intro ⟨by decide, by decide⟩ ?_
        conv => whnf
        refine CallC.k [(0, 0)] (c3) rfl rfl (AVsle.refl _) ⟨MOle.refl _, trivial⟩ rfl ?_
        refine And.intro (inI64 (by omega) (by omega)) ?_
        conv => whnf
        refine CallC.k [(0, 0)] (c4) rfl rfl (AVsle.refl _) ⟨MOle.refl _, trivial⟩ rfl ?_
        refine And.intro (by decide) ?_
        conv => whnf
        refine CallC.sca _ (cw1) ?_ ?_
        · exact rfl
        refine And.intro (inI64 (by omega) (by omega)) ?_
        conv => whnf
        refine CallC.sca _ (cK) ?_ ?_
        · exact rfl
        exact And.intro trivial ⟨[(0, 0)], rfl, AVle.refl _, ⟨MOle.refl _, trivial⟩⟩
  · have q2 : a2 = 0 ∨ a2 = 1 ∨ a2 = 2 ∨ a2 = 3 := by omega
    rcases q2 with rfl | rfl | rfl | rfl
    · have hT : 1 ≤ (if x.fence > 1 then x.fence else 1) ∧ (if x.fence > 1 then x.fence else 1) ≤ x.fence + 3 := by split <;> omega
      have cK := l03Key_at (t' := 2) (n' := x.h2) (w' := if x.fence > 1 then x.fence else 1) (t := 2) (n := (x.h2).toNat) (w := (if x.fence > 1 then x.fence else 1).toNat) rfl (by omega) (by omega) (by decide) (by omega) (by omega)
      refine ⟨⟨3, if x.fence > 1 then x.fence else 1, 2, x.h2, x.h2 + wd 2, keyB 2 (x.h2).toNat (if x.fence > 1 then x.fence else 1).toNat⟩, s4, wk k4 (by omega), ?_, hT.2, ?_⟩
      · exact Nat.le_trans (key_len (k := keyB 2 (x.h2).toNat (if x.fence > 1 then x.fence else 1).toNat) (by unfold kOk; rw [parse_key (by omega) (by omega) (by omega)]; rfl)) (by decide)
      rcases e4 with rfl | rfl
      all_goals
        refine FnM.introC Tryz.call109 Tryz.func109 rfl rfl ?_
        refine DrawC.mkQ 15 [(.inl 0, 9), (.inl 0, 14)] rfl (by kernel_rfl) ?_; refine And.intro (by kernel_rfl) ?_
        conv => whnf
        refine PCallQ.m 0 (c1) rfl rfl rfl rfl ?_
        refine And.intro (inI64 (by omega) (by omega)) ?_
        refine And.intro (inI64 (by omega) (by omega)) ?_
        conv => whnf
        refine PCallQ.m 0 (c2) rfl rfl rfl rfl ?_
        refine And.intro ⟨by decide, by decide⟩ ?_
        conv => whnf
        refine CallC.k [(0, 0)] (c3) rfl rfl (AVsle.refl _) ⟨MOle.refl _, trivial⟩ rfl ?_
        refine And.intro (inI64 (by omega) (by omega)) ?_
        conv => whnf
        refine CallC.k [(0, 0)] (c4) rfl rfl (AVsle.refl _) ⟨MOle.refl _, trivial⟩ rfl ?_
        refine And.intro (by decide) ?_
        conv => whnf
        refine CallC.sca _ (cw2) ?_ ?_
        · exact rfl
        refine And.intro (inI64 (by omega) (by omega)) ?_
        conv => whnf
        refine CallC.sca _ (cK) ?_ ?_
        · exact rfl
        exact And.intro trivial ⟨[(0, 0)], rfl, AVle.refl _, ⟨MOle.refl _, trivial⟩⟩
    · have hT : 1 ≤ (if x.fence > 1 then x.fence else 1) ∧ (if x.fence > 1 then x.fence else 1) ≤ x.fence + 3 := by split <;> omega
      have cK := l03Key_at (t' := 2) (n' := x.h2) (w' := if x.fence > 1 then x.fence else 1) (t := 2) (n := (x.h2).toNat) (w := (if x.fence > 1 then x.fence else 1).toNat) rfl (by omega) (by omega) (by decide) (by omega) (by omega)
      refine ⟨⟨3, if x.fence > 1 then x.fence else 1, 2, x.h2, x.h2 + wd 2, keyB 2 (x.h2).toNat (if x.fence > 1 then x.fence else 1).toNat⟩, s4, wk k4 (by omega), ?_, hT.2, ?_⟩
      · exact Nat.le_trans (key_len (k := keyB 2 (x.h2).toNat (if x.fence > 1 then x.fence else 1).toNat) (by unfold kOk; rw [parse_key (by omega) (by omega) (by omega)]; rfl)) (by decide)
      rcases e4 with rfl | rfl
      all_goals
        refine FnM.introC Tryz.call109 Tryz.func109 rfl rfl ?_
        refine DrawC.mkQ 15 [(.inl 0, 9), (.inl 0, 14)] rfl (by kernel_rfl) ?_; refine And.intro (by kernel_rfl) ?_
        conv => whnf
        refine PCallQ.m 0 (c1) rfl rfl rfl rfl ?_
        refine And.intro (inI64 (by omega) (by omega)) ?_
        refine And.intro (inI64 (by omega) (by omega)) ?_
        conv => whnf
        refine PCallQ.m 0 (c2) rfl rfl rfl rfl ?_
        refine And.intro ⟨by decide, by decide⟩ ?_
        conv => whnf
        refine CallC.k [(0, 0)] (c3) rfl rfl (AVsle.refl _) ⟨MOle.refl _, trivial⟩ rfl ?_
        refine And.intro (inI64 (by omega) (by omega)) ?_
        conv => whnf
        refine CallC.k [(0, 0)] (c4) rfl rfl (AVsle.refl _) ⟨MOle.refl _, trivial⟩ rfl ?_
        refine And.intro (by decide) ?_
        conv => whnf
        refine CallC.sca _ (cw2) ?_ ?_
        · exact rfl
        refine And.intro (inI64 (by omega) (by omega)) ?_
        conv => whnf
        refine CallC.sca _ (cK) ?_ ?_
        · exact rfl
        exact And.intro trivial ⟨[(0, 0)], rfl, AVle.refl _, ⟨MOle.refl _, trivial⟩⟩
    · have hT : 1 ≤ (if x.fence > 1 then x.fence else 1) ∧ (if x.fence > 1 then x.fence else 1) ≤ x.fence + 3 := by split <;> omega
      have cK := l03Key_at (t' := 2) (n' := x.h2) (w' := if x.fence > 1 then x.fence else 1) (t := 2) (n := (x.h2).toNat) (w := (if x.fence > 1 then x.fence else 1).toNat) rfl (by omega) (by omega) (by decide) (by omega) (by omega)
      refine ⟨⟨3, if x.fence > 1 then x.fence else 1, 2, x.h2, x.h2 + wd 2, keyB 2 (x.h2).toNat (if x.fence > 1 then x.fence else 1).toNat⟩, s4, wk k4 (by omega), ?_, hT.2, ?_⟩
      · exact Nat.le_trans (key_len (k := keyB 2 (x.h2).toNat (if x.fence > 1 then x.fence else 1).toNat) (by unfold kOk; rw [parse_key (by omega) (by omega) (by omega)]; rfl)) (by decide)
      rcases e4 with rfl | rfl
      all_goals
        refine FnM.introC Tryz.call109 Tryz.func109 rfl rfl ?_
        refine DrawC.mkQ 15 [(.inl 0, 9), (.inl 0, 14)] rfl (by kernel_rfl) ?_; refine And.intro (by kernel_rfl) ?_
        conv => whnf
        refine PCallQ.m 0 (c1) rfl rfl rfl rfl ?_
        refine And.intro (inI64 (by omega) (by omega)) ?_
        refine And.intro (inI64 (by omega) (by omega)) ?_
        conv => whnf
        refine PCallQ.m 0 (c2) rfl rfl rfl rfl ?_
        refine And.intro ⟨by decide, by decide⟩ ?_
        conv => whnf
        refine CallC.k [(0, 0)] (c3) rfl rfl (AVsle.refl _) ⟨MOle.refl _, trivial⟩ rfl ?_
        refine And.intro (inI64 (by omega) (by omega)) ?_
        conv => whnf
        refine CallC.k [(0, 0)] (c4) rfl rfl (AVsle.refl _) ⟨MOle.refl _, trivial⟩ rfl ?_
        refine And.intro (by decide) ?_
        conv => whnf
        refine CallC.sca _ (cw2) ?_ ?_
        · exact rfl
        refine And.intro (inI64 (by omega) (by omega)) ?_
        conv => whnf
        refine CallC.sca _ (cK) ?_ ?_
        · exact rfl
        exact And.intro trivial ⟨[(0, 0)], rfl, AVle.refl _, ⟨MOle.refl _, trivial⟩⟩
    · have hT : 1 ≤ (if (x.fence + a1 - 1) > 1 then (x.fence + a1 - 1) else 1) ∧ (if (x.fence + a1 - 1) > 1 then (x.fence + a1 - 1) else 1) ≤ x.fence + 3 := by split <;> omega
      have cK := l03Key_at (t' := 2) (n' := x.h2) (w' := if (x.fence + a1 - 1) > 1 then (x.fence + a1 - 1) else 1) (t := 2) (n := (x.h2).toNat) (w := (if (x.fence + a1 - 1) > 1 then (x.fence + a1 - 1) else 1).toNat) rfl (by omega) (by omega) (by decide) (by omega) (by omega)
      refine ⟨⟨3, if (x.fence + a1 - 1) > 1 then (x.fence + a1 - 1) else 1, 2, x.h2, x.h2 + wd 2, keyB 2 (x.h2).toNat (if (x.fence + a1 - 1) > 1 then (x.fence + a1 - 1) else 1).toNat⟩, s4, wk k4 (by omega), ?_, hT.2, ?_⟩
      · exact Nat.le_trans (key_len (k := keyB 2 (x.h2).toNat (if (x.fence + a1 - 1) > 1 then (x.fence + a1 - 1) else 1).toNat) (by unfold kOk; rw [parse_key (by omega) (by omega) (by omega)]; rfl)) (by decide)
      rcases e4 with rfl | rfl
      all_goals
        refine FnM.introC Tryz.call109 Tryz.func109 rfl rfl ?_
        refine DrawC.mkQ 15 [(.inl 0, 9), (.inl 0, 14)] rfl (by kernel_rfl) ?_; refine And.intro (by kernel_rfl) ?_
        conv => whnf
        refine PCallQ.m 0 (c1) rfl rfl rfl rfl ?_
        refine And.intro (inI64 (by omega) (by omega)) ?_
        refine And.intro (inI64 (by omega) (by omega)) ?_
        conv => whnf
        refine PCallQ.m 0 (c2) rfl rfl rfl rfl ?_
        refine And.intro ⟨by decide, by decide⟩ ?_
        conv => whnf
        refine CallC.k [(0, 0)] (c3) rfl rfl (AVsle.refl _) ⟨MOle.refl _, trivial⟩ rfl ?_
        refine And.intro (inI64 (by omega) (by omega)) ?_
        conv => whnf
        refine CallC.k [(0, 0)] (c4) rfl rfl (AVsle.refl _) ⟨MOle.refl _, trivial⟩ rfl ?_
        refine And.intro (by decide) ?_
        conv => whnf
        refine CallC.sca _ (cw2) ?_ ?_
        · exact rfl
        refine And.intro (inI64 (by omega) (by omega)) ?_
        conv => whnf
        refine CallC.sca _ (cK) ?_ ?_
        · exact rfl
        exact And.intro trivial ⟨[(0, 0)], rfl, AVle.refl _, ⟨MOle.refl _, trivial⟩⟩
theorem rec_last (s : Src) (x : Sta) {k : Int} (h : s.ok k) (hk : 0 ≤ k ∧ k ≤ 1000000) (hx : x.ok = true) (hq : x.seq ≤ 900000) (hf : x.fence ≤ 900000)
    (a1 a2 a3 a4 : Nat) (s1 s2 s3 s4 : Src) (h1 : (a1 : Int) < 3) (h2 : (a2 : Int) < 4) (h3 : (a3 : Int) < 2) (h4 : (a4 : Int) < 8) (k4 : s4.ok (k + 12)) (e4 : a4 = 7)
    (c1 : FnM Tryz.prog 144 1 [.bptr 0 0, .int .i64 3] [(0, .box s.row)] (.int .i64 a1) [(0, .box s1.row)] 1)
    (c2 : FnM Tryz.prog 144 1 [.bptr 0 0, .int .i64 4] [(0, .box s1.row)] (.int .i64 a2) [(0, .box s2.row)] 1)
    (c3 : FnM Tryz.prog 144 1 [.bptr 0 0, .int .i64 2] [(0, .box s2.row)] (.int .i64 a3) [(0, .box s3.row)] 1)
    (c4 : FnM Tryz.prog 144 1 [.bptr 0 0, .int .i64 8] [(0, .box s3.row)] (.int .i64 a4) [(0, .box s4.row)] 1) :
    ∃ (r : Rc) (q : Src), q.ok (k + 30) ∧ r.key.length ≤ 1000 ∧ r.tok ≤ x.fence + 3 ∧ FnM Tryz.prog 109 1 [.bptr 0 0, x.av] [(0, .box s.row)] r.av [(0, .box q.row)] 1 := by
  have hO := (staOK_iff x).1 hx
  have hb := Sta.hi_b hx
  have hfq := hO.f
  have hsq := hO.q
  subst e4
  by_cases ht : 0 < x.ts.length
  · obtain ⟨v, s6, hv, k6, c6⟩ := draw s4 k4 (by omega) (x.ts.length : Int) (by omega)
    have hv' : v < x.ts.length := by omega
    refine ⟨⟨5, 0, 0, 0, 0, (ix x.ts v).key⟩, s6, wk k6 (by omega), ?_, ?_, ?_⟩
    · exact Nat.le_trans (key_len (hO.ts _ (ix_in hv')).1) (by decide)
    · show (0 : Int) ≤ _; omega
    have q2 : a2 = 0 ∨ a2 = 1 ∨ a2 = 2 ∨ a2 = 3 := by omega
    rcases q2 with rfl | rfl | rfl | rfl
    all_goals
      refine FnM.introC Tryz.call109 Tryz.func109 rfl rfl ?_
      refine DrawC.mkQ 15 [(.inl 0, 9), (.inl 0, 14)] rfl (by kernel_rfl) ?_; refine And.intro (by kernel_rfl) ?_
      conv => whnf
      refine PCallQ.m 0 (c1) rfl rfl rfl rfl ?_
      refine And.intro (inI64 (by omega) (by omega)) ?_
      refine And.intro (inI64 (by omega) (by omega)) ?_
      conv => whnf
      refine PCallQ.m 0 (c2) rfl rfl rfl rfl ?_
      refine And.intro ⟨by decide, by decide⟩ ?_
      conv => whnf
      refine CallC.k [(0, 0)] (c3) rfl rfl (AVsle.refl _) ⟨MOle.refl _, trivial⟩ rfl ?_
      refine And.intro (inI64 (by omega) (by omega)) ?_
      conv => whnf
      refine CallC.k [(0, 0)] (c4) rfl rfl (AVsle.refl _) ⟨MOle.refl _, trivial⟩ rfl ?_
      refine Grd.intro (fun _ => ?_) (fun h => absurd (of_decide_eq_false h) (by omega))
      refine DrawC.mkQ 7 [(.inl 0, 6)] rfl (by kernel_rfl) ?_; refine And.intro (by kernel_rfl) ?_
      conv => whnf
      refine PCallQ.m 0 (c6) rfl rfl rfl rfl ?_
      refine And.intro ⟨by omega, by omega⟩ ?_
      exact And.intro trivial ⟨[(0, 0)], rfl, AVle.refl _, ⟨MOle.refl _, trivial⟩⟩
  · refine ⟨⟨2, x.fence + 1, 0, 0, 0, []⟩, s4, wk k4 (by omega), Nat.zero_le _, ?_, ?_⟩
    · show x.fence + 1 ≤ _; omega
    have q2 : a2 = 0 ∨ a2 = 1 ∨ a2 = 2 ∨ a2 = 3 := by omega
    rcases q2 with rfl | rfl | rfl | rfl
    all_goals
      refine FnM.introC Tryz.call109 Tryz.func109 rfl rfl ?_
      refine DrawC.mkQ 15 [(.inl 0, 9), (.inl 0, 14)] rfl (by kernel_rfl) ?_; refine And.intro (by kernel_rfl) ?_
      conv => whnf
      refine PCallQ.m 0 (c1) rfl rfl rfl rfl ?_
      refine And.intro (inI64 (by omega) (by omega)) ?_
      refine And.intro (inI64 (by omega) (by omega)) ?_
      conv => whnf
      refine PCallQ.m 0 (c2) rfl rfl rfl rfl ?_
      refine And.intro ⟨by decide, by decide⟩ ?_
      conv => whnf
      refine CallC.k [(0, 0)] (c3) rfl rfl (AVsle.refl _) ⟨MOle.refl _, trivial⟩ rfl ?_
      refine And.intro (inI64 (by omega) (by omega)) ?_
      conv => whnf
      refine CallC.k [(0, 0)] (c4) rfl rfl (AVsle.refl _) ⟨MOle.refl _, trivial⟩ rfl ?_
      refine Grd.intro (fun h => absurd (of_decide_eq_true h) (by omega)) (fun _ => ?_)
      refine And.intro (inI64 (by omega) (by omega)) ?_
      exact And.intro trivial ⟨[(0, 0)], rfl, AVle.refl _, ⟨MOle.refl _, trivial⟩⟩
theorem rec_retire (s : Src) (x : Sta) {k : Int} (h : s.ok k) (hk : 0 ≤ k ∧ k ≤ 1000000) (hx : x.ok = true) (hq : x.seq ≤ 900000) (hf : x.fence ≤ 900000)
    (a1 a2 a3 a4 : Nat) (s1 s2 s3 s4 : Src) (h1 : (a1 : Int) < 3) (h2 : (a2 : Int) < 4) (h3 : (a3 : Int) < 2) (h4 : (a4 : Int) < 8) (k4 : s4.ok (k + 12)) (e4 : a4 = 6)
    (c1 : FnM Tryz.prog 144 1 [.bptr 0 0, .int .i64 3] [(0, .box s.row)] (.int .i64 a1) [(0, .box s1.row)] 1)
    (c2 : FnM Tryz.prog 144 1 [.bptr 0 0, .int .i64 4] [(0, .box s1.row)] (.int .i64 a2) [(0, .box s2.row)] 1)
    (c3 : FnM Tryz.prog 144 1 [.bptr 0 0, .int .i64 2] [(0, .box s2.row)] (.int .i64 a3) [(0, .box s3.row)] 1)
    (c4 : FnM Tryz.prog 144 1 [.bptr 0 0, .int .i64 8] [(0, .box s3.row)] (.int .i64 a4) [(0, .box s4.row)] 1) :
    ∃ (r : Rc) (q : Src), q.ok (k + 30) ∧ r.key.length ≤ 1000 ∧ r.tok ≤ x.fence + 3 ∧ FnM Tryz.prog 109 1 [.bptr 0 0, x.av] [(0, .box s.row)] r.av [(0, .box q.row)] 1 := by
  have hO := (staOK_iff x).1 hx
  have hb := Sta.hi_b hx
  have hfq := hO.f
  have hsq := hO.q
  subst e4
  obtain ⟨u, s5, hu, k5, c5⟩ := draw s4 k4 (by omega) 3 (by decide)
  have hL := hO.len
  have cF := l06First_fn x (by omega) u
  rcases fi_first (fun e : En => decide (e.tier = (u : Int))) x.es with ⟨f1, _⟩ | ⟨i, hi, f1, _⟩
  · rw [f1] at cF
    by_cases ht : 0 < x.ts.length
    · obtain ⟨v, s6, hv, k6, c6⟩ := draw s5 k5 (by omega) (x.ts.length : Int) (by omega)
      have hv' : v < x.ts.length := by omega
      refine ⟨⟨5, 0, 0, 0, 0, (ix x.ts v).key⟩, s6, wk k6 (by omega), ?_, ?_, ?_⟩
      · exact Nat.le_trans (key_len (hO.ts _ (ix_in hv')).1) (by decide)
      · show (0 : Int) ≤ _; omega
      have q2 : a2 = 0 ∨ a2 = 1 ∨ a2 = 2 ∨ a2 = 3 := by omega
      rcases q2 with rfl | rfl | rfl | rfl
      all_goals
        refine FnM.introC Tryz.call109 Tryz.func109 rfl rfl ?_
        refine DrawC.mkQ 15 [(.inl 0, 9), (.inl 0, 14)] rfl (by kernel_rfl) ?_; refine And.intro (by kernel_rfl) ?_
        conv => whnf
        refine PCallQ.m 0 (c1) rfl rfl rfl rfl ?_
        refine And.intro (inI64 (by omega) (by omega)) ?_
        refine And.intro (inI64 (by omega) (by omega)) ?_
        conv => whnf
        refine PCallQ.m 0 (c2) rfl rfl rfl rfl ?_
        refine And.intro ⟨by decide, by decide⟩ ?_
        conv => whnf
        refine CallC.k [(0, 0)] (c3) rfl rfl (AVsle.refl _) ⟨MOle.refl _, trivial⟩ rfl ?_
        refine And.intro (inI64 (by omega) (by omega)) ?_
        conv => whnf
        refine CallC.k [(0, 0)] (c4) rfl rfl (AVsle.refl _) ⟨MOle.refl _, trivial⟩ rfl ?_
        refine DrawC.mkQ 4 [(.inl 0, 2)] rfl (by kernel_rfl) ?_; refine And.intro (by kernel_rfl) ?_
        conv => whnf
        refine PCallQ.m 0 (c5) rfl rfl rfl rfl ?_
        conv => whnf
        refine PCallQ.sca _ (cF) rfl ?_
        refine Grd.intro (fun _ => ?_) (fun h => absurd (of_decide_eq_false h) (by omega))
        refine DrawC.mkQ 7 [(.inl 0, 6)] rfl (by kernel_rfl) ?_; refine And.intro (by kernel_rfl) ?_
        conv => whnf
        refine PCallQ.m 0 (c6) rfl rfl rfl rfl ?_
        refine And.intro ⟨by omega, by omega⟩ ?_
        exact And.intro trivial ⟨[(0, 0)], rfl, AVle.refl _, ⟨MOle.refl _, trivial⟩⟩
    · refine ⟨⟨2, x.fence + 1, 0, 0, 0, []⟩, s5, wk k5 (by omega), Nat.zero_le _, ?_, ?_⟩
      · show x.fence + 1 ≤ _; omega
      have q2 : a2 = 0 ∨ a2 = 1 ∨ a2 = 2 ∨ a2 = 3 := by omega
      rcases q2 with rfl | rfl | rfl | rfl
      all_goals
        refine FnM.introC Tryz.call109 Tryz.func109 rfl rfl ?_
        refine DrawC.mkQ 15 [(.inl 0, 9), (.inl 0, 14)] rfl (by kernel_rfl) ?_; refine And.intro (by kernel_rfl) ?_
        conv => whnf
        refine PCallQ.m 0 (c1) rfl rfl rfl rfl ?_
        refine And.intro (inI64 (by omega) (by omega)) ?_
        refine And.intro (inI64 (by omega) (by omega)) ?_
        conv => whnf
        refine PCallQ.m 0 (c2) rfl rfl rfl rfl ?_
        refine And.intro ⟨by decide, by decide⟩ ?_
        conv => whnf
        refine CallC.k [(0, 0)] (c3) rfl rfl (AVsle.refl _) ⟨MOle.refl _, trivial⟩ rfl ?_
        refine And.intro (inI64 (by omega) (by omega)) ?_
        conv => whnf
        refine CallC.k [(0, 0)] (c4) rfl rfl (AVsle.refl _) ⟨MOle.refl _, trivial⟩ rfl ?_
        refine DrawC.mkQ 4 [(.inl 0, 2)] rfl (by kernel_rfl) ?_; refine And.intro (by kernel_rfl) ?_
        conv => whnf
        refine PCallQ.m 0 (c5) rfl rfl rfl rfl ?_
        conv => whnf
        refine PCallQ.sca _ (cF) rfl ?_
        refine Grd.intro (fun h => absurd (of_decide_eq_true h) (by omega)) (fun _ => ?_)
        refine And.intro (inI64 (by omega) (by omega)) ?_
        exact And.intro trivial ⟨[(0, 0)], rfl, AVle.refl _, ⟨MOle.refl _, trivial⟩⟩
  · rw [f1] at cF
    have hk := hO.es _ (ix_in hi)
    have hk17 : (ix x.es i).key.length ≤ 17 := key_len (by unfold En.ok at hk; simp only [Bool.and_eq_true] at hk; exact hk.1)
    have q2 : a2 = 0 ∨ a2 = 1 ∨ a2 = 2 ∨ a2 = 3 := by omega
    rcases q2 with rfl | rfl | rfl | rfl
    · refine ⟨⟨4, if x.fence > 1 then x.fence else 1, (ix x.es i).tier, (ix x.es i).f, (ix x.es i).t, (ix x.es i).key⟩, s5, wk k5 (by omega), Nat.le_trans hk17 (by decide), ?_, ?_⟩
      · show (if x.fence > 1 then x.fence else 1) ≤ _; split <;> omega
      refine FnM.introC Tryz.call109 Tryz.func109 rfl rfl ?_
      refine DrawC.mkQ 15 [(.inl 0, 9), (.inl 0, 14)] rfl (by kernel_rfl) ?_; refine And.intro (by kernel_rfl) ?_
      conv => whnf
      refine PCallQ.m 0 (c1) rfl rfl rfl rfl ?_
      refine And.intro (inI64 (by omega) (by omega)) ?_
      refine And.intro (inI64 (by omega) (by omega)) ?_
      conv => whnf
      refine PCallQ.m 0 (c2) rfl rfl rfl rfl ?_
      refine And.intro ⟨by decide, by decide⟩ ?_
      conv => whnf
      refine CallC.k [(0, 0)] (c3) rfl rfl (AVsle.refl _) ⟨MOle.refl _, trivial⟩ rfl ?_
      refine And.intro (inI64 (by omega) (by omega)) ?_
      conv => whnf
      refine CallC.k [(0, 0)] (c4) rfl rfl (AVsle.refl _) ⟨MOle.refl _, trivial⟩ rfl ?_
      refine DrawC.mkQ 4 [(.inl 0, 2)] rfl (by kernel_rfl) ?_; refine And.intro (by kernel_rfl) ?_
      conv => whnf
      refine PCallQ.m 0 (c5) rfl rfl rfl rfl ?_
      conv => whnf
      refine PCallQ.sca _ (cF) rfl ?_
      refine And.intro ⟨by omega, by omega⟩ ?_
      exact And.intro trivial ⟨[(0, 0)], rfl, AVle.refl _, ⟨MOle.refl _, trivial⟩⟩
    · refine ⟨⟨4, if x.fence > 1 then x.fence else 1, (ix x.es i).tier, (ix x.es i).f, (ix x.es i).t, (ix x.es i).key⟩, s5, wk k5 (by omega), Nat.le_trans hk17 (by decide), ?_, ?_⟩
      · show (if x.fence > 1 then x.fence else 1) ≤ _; split <;> omega
      refine FnM.introC Tryz.call109 Tryz.func109 rfl rfl ?_
      refine DrawC.mkQ 15 [(.inl 0, 9), (.inl 0, 14)] rfl (by kernel_rfl) ?_; refine And.intro (by kernel_rfl) ?_
      conv => whnf
      refine PCallQ.m 0 (c1) rfl rfl rfl rfl ?_
      refine And.intro (inI64 (by omega) (by omega)) ?_
      refine And.intro (inI64 (by omega) (by omega)) ?_
      conv => whnf
      refine PCallQ.m 0 (c2) rfl rfl rfl rfl ?_
      refine And.intro ⟨by decide, by decide⟩ ?_
      conv => whnf
      refine CallC.k [(0, 0)] (c3) rfl rfl (AVsle.refl _) ⟨MOle.refl _, trivial⟩ rfl ?_
      refine And.intro (inI64 (by omega) (by omega)) ?_
      conv => whnf
      refine CallC.k [(0, 0)] (c4) rfl rfl (AVsle.refl _) ⟨MOle.refl _, trivial⟩ rfl ?_
      refine DrawC.mkQ 4 [(.inl 0, 2)] rfl (by kernel_rfl) ?_; refine And.intro (by kernel_rfl) ?_
      conv => whnf
      refine PCallQ.m 0 (c5) rfl rfl rfl rfl ?_
      conv => whnf
      refine PCallQ.sca _ (cF) rfl ?_
      refine And.intro ⟨by omega, by omega⟩ ?_
      exact And.intro trivial ⟨[(0, 0)], rfl, AVle.refl _, ⟨MOle.refl _, trivial⟩⟩
    · refine ⟨⟨4, if x.fence > 1 then x.fence else 1, (ix x.es i).tier, (ix x.es i).f, (ix x.es i).t, (ix x.es i).key⟩, s5, wk k5 (by omega), Nat.le_trans hk17 (by decide), ?_, ?_⟩
      · show (if x.fence > 1 then x.fence else 1) ≤ _; split <;> omega
      refine FnM.introC Tryz.call109 Tryz.func109 rfl rfl ?_
      refine DrawC.mkQ 15 [(.inl 0, 9), (.inl 0, 14)] rfl (by kernel_rfl) ?_; refine And.intro (by kernel_rfl) ?_
      conv => whnf
      refine PCallQ.m 0 (c1) rfl rfl rfl rfl ?_
      refine And.intro (inI64 (by omega) (by omega)) ?_
      refine And.intro (inI64 (by omega) (by omega)) ?_
      conv => whnf
      refine PCallQ.m 0 (c2) rfl rfl rfl rfl ?_
      refine And.intro ⟨by decide, by decide⟩ ?_
      conv => whnf
      refine CallC.k [(0, 0)] (c3) rfl rfl (AVsle.refl _) ⟨MOle.refl _, trivial⟩ rfl ?_
      refine And.intro (inI64 (by omega) (by omega)) ?_
      conv => whnf
      refine CallC.k [(0, 0)] (c4) rfl rfl (AVsle.refl _) ⟨MOle.refl _, trivial⟩ rfl ?_
      refine DrawC.mkQ 4 [(.inl 0, 2)] rfl (by kernel_rfl) ?_; refine And.intro (by kernel_rfl) ?_
      conv => whnf
      refine PCallQ.m 0 (c5) rfl rfl rfl rfl ?_
      conv => whnf
      refine PCallQ.sca _ (cF) rfl ?_
      refine And.intro ⟨by omega, by omega⟩ ?_
      exact And.intro trivial ⟨[(0, 0)], rfl, AVle.refl _, ⟨MOle.refl _, trivial⟩⟩
    · refine ⟨⟨4, if (x.fence + a1 - 1) > 1 then (x.fence + a1 - 1) else 1, (ix x.es i).tier, (ix x.es i).f, (ix x.es i).t, (ix x.es i).key⟩, s5, wk k5 (by omega), Nat.le_trans hk17 (by decide), ?_, ?_⟩
      · show (if (x.fence + a1 - 1) > 1 then (x.fence + a1 - 1) else 1) ≤ _; split <;> omega
      refine FnM.introC Tryz.call109 Tryz.func109 rfl rfl ?_
      refine DrawC.mkQ 15 [(.inl 0, 9), (.inl 0, 14)] rfl (by kernel_rfl) ?_; refine And.intro (by kernel_rfl) ?_
      conv => whnf
      refine PCallQ.m 0 (c1) rfl rfl rfl rfl ?_
      refine And.intro (inI64 (by omega) (by omega)) ?_
      refine And.intro (inI64 (by omega) (by omega)) ?_
      conv => whnf
      refine PCallQ.m 0 (c2) rfl rfl rfl rfl ?_
      refine And.intro ⟨by decide, by decide⟩ ?_
      conv => whnf
      refine CallC.k [(0, 0)] (c3) rfl rfl (AVsle.refl _) ⟨MOle.refl _, trivial⟩ rfl ?_
      refine And.intro (inI64 (by omega) (by omega)) ?_
      conv => whnf
      refine CallC.k [(0, 0)] (c4) rfl rfl (AVsle.refl _) ⟨MOle.refl _, trivial⟩ rfl ?_
      refine DrawC.mkQ 4 [(.inl 0, 2)] rfl (by kernel_rfl) ?_; refine And.intro (by kernel_rfl) ?_
      conv => whnf
      refine PCallQ.m 0 (c5) rfl rfl rfl rfl ?_
      conv => whnf
      refine PCallQ.sca _ (cF) rfl ?_
      refine And.intro ⟨by omega, by omega⟩ ?_
      exact And.intro trivial ⟨[(0, 0)], rfl, AVle.refl _, ⟨MOle.refl _, trivial⟩⟩
theorem record_fn (s : Src) (x : Sta) {k : Int} (h : s.ok k) (hk : 0 ≤ k ∧ k ≤ 1000000) (hx : x.ok = true) (hq : x.seq ≤ 900000) (hf : x.fence ≤ 900000) :
    ∃ (r : Rc) (q : Src), q.ok (k + 30) ∧ r.key.length ≤ 1000 ∧ r.tok ≤ x.fence + 3 ∧ FnM Tryz.prog 109 1 [.bptr 0 0, x.av] [(0, .box s.row)] r.av [(0, .box q.row)] 1 := by
  obtain ⟨a1, s1, h1, k1, c1⟩ := draw s h (by omega) 3 (by decide)
  obtain ⟨a2, s2, h2, k2, c2⟩ := draw s1 k1 (by omega) 4 (by decide)
  obtain ⟨a3, s3, h3, k3, c3⟩ := draw s2 k2 (by omega) 2 (by decide)
  obtain ⟨a4, s4, h4, k4, c4⟩ := draw s3 k3 (by omega) 8 (by decide)
  have k4 : s4.ok (k + 12) := wk k4 (by omega)
  have e4 : (a4 = 0 ∨ a4 = 1 ∨ a4 = 2) ∨ a4 = 3 ∨ (a4 = 4 ∨ a4 = 5) ∨ a4 = 6 ∨ a4 = 7 := by omega
  rcases e4 with e4 | e4 | e4 | e4 | e4
  · exact rec_add s x h hk hx hq hf a1 a2 a3 a4 s1 s2 s3 s4 h1 h2 h3 h4 k4 e4 c1 c2 c3 c4
  · exact rec_claim s x h hk hx hq hf a1 a2 a3 a4 s1 s2 s3 s4 h1 h2 h3 h4 k4 e4 c1 c2 c3 c4
  · exact rec_publish s x h hk hx hq hf a1 a2 a3 a4 s1 s2 s3 s4 h1 h2 h3 h4 k4 e4 c1 c2 c3 c4
  · exact rec_retire s x h hk hx hq hf a1 a2 a3 a4 s1 s2 s3 s4 h1 h2 h3 h4 k4 e4 c1 c2 c3 c4
  · exact rec_last s x h hk hx hq hf a1 a2 a3 a4 s1 s2 s3 s4 h1 h2 h3 h4 k4 e4 c1 c2 c3 c4
end Go.Proofs.YtgiaaaejobhngaaGreatDoor
