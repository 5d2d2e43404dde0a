/- Contracts of functions that the claim reaches, and the plain law of what they compute; each theorem bears its own conditions. -/
import Derived.Test.YtgiaaaejobhngaaGreatDoorQ6
set_option linter.unusedVariables false
set_option linter.constructorNameAsVariable false
set_option linter.unusedSimpArgs false
set_option maxRecDepth 20000
namespace Go.Proofs.YtgiaaaejobhngaaGreatDoor
open Go Go.Vw

theorem leased_fn (s : Src) (h : s.ok 1000) : FnM Tryz.prog 62 1 [.bptr 0 0] [(0, .box s.row)] s.leased.av [(0, .box s.leasedR.row)] 1 := by
  obtain ⟨p1, p2, p3, p4⟩ := pStore_ok s h (by omega)
  have c1 := next_b s.pStore.2 p4 (by omega) 4
  have hL : s.pStore.1.os.length ≤ 1000000 := by omega
  obtain ⟨R, hR⟩ : ∃ R, R = s.leased := ⟨_, rfl⟩
  obtain ⟨R2, hR2⟩ : ∃ R2, R2 = s.leasedR := ⟨_, rfl⟩
  rw [← hR, ← hR2]
  unfold Src.leased at hR
  unfold Src.leasedR at hR2
  dsimp only at hR hR2
  have hn1 : 1 ≤ s.pStore.1.next ∧ s.pStore.1.next ≤ 1000000000 := by simpa [within] using (Sto.ok_at p1).1
  have hf := l01Find_fn s.pStore.1 (by omega) leaK
  rw [(Sto.srt p1).fi] at hf
  refine FnM.introC Tryz.call62 Tryz.func62 rfl rfl ?_
  conv => whnf
  refine CallC.k [(0, 0)] (plainStore_fn s h) rfl rfl (AVsle.refl _) ⟨MOle.refl _, trivial⟩ rfl ?_
  generalize s.pStore = q at p1 p2 p3 p4 c1 hL hR hR2 hf hn1
  have h0 : unL q.1 = if q.1.has leaK = true then wo q.1 leaK else q.1 := rfl
  by_cases hh : q.1.has leaK = true
  · have hp := (hasK_at hh).1
    rw [if_pos (show hasK leaK q.1.os = true from hh)] at hf
    rw [if_pos hh] at h0
    have w0 := wo_len q.1 leaK
    conv => whnf
    refine CallC.sca _ (hf) ?_ ?_
    · exact rfl
    refine DrawC.mkQ 13 [(.inr 11, 12)] rfl (by kernel_rfl) ?_; refine And.intro (by kernel_rfl) ?_
    conv => whnf
    refine And.intro ⟨by omega, by omega⟩ ?_
    conv => whnf
    refine PCallQ.nl _ (l01Delete_fn q.1 p1 leaK hh) rfl ?_
    conv => whnf
    have u := unL_ok p1
    rw [h0] at u hR
    conv => whnf
    refine CallC.k [(0, 0)] (chance_fn q.2 4 (wk p4 (by omega)) (by omega)) rfl rfl (AVsle.refl _) ⟨MOle.refl _, trivial⟩ rfl ?_
    refine Grd.intro (fun g3 => ?_) (fun g3 => ?_)
    · have g3 : (q.2.next 4).1 = 3 := of_decide_eq_true g3
      rw [if_pos g3] at hR hR2
      conv => whnf
      refine CallC.nl _ (l01Own_fn (wo q.1 leaK) (by omega)) ?_ ?_
      · exact rfl
      subst hR
      subst hR2
      refine And.intro trivial ⟨[(0, 0)], rfl, AVle.refl _, ⟨MOle.refl _, trivial⟩⟩
    · have g3 : ¬ (q.2.next 4).1 = 3 := of_decide_eq_false g3
      rw [if_neg g3] at hR hR2
      have c2 := c1.2.1
      generalize (q.2.next 4).2 = w at c2 hR hR2
      have hk : w.leL = (⟨1 + (w.next 4).1, ((w.next 4).2.next 3).1, if (((((((w.next 4).2.next 3).2.next 30).2.next 4).1) * 3).tmod 4).tmod 2 = 0 then 0 else 10 + (((w.next 4).2.next 3).2.next 30).1⟩, ((((w.next 4).2.next 3).2.next 30).2.next 4).2) := rfl
      have lb := leL_b w c2 (by omega)
      rw [hk] at hR hR2 lb
      dsimp only at hR hR2 lb
      have a := next_b w c2 (by omega) 4
      have b := next_b _ a.2.1 (by omega) 3
      have d := next_b _ b.2.1 (by omega) 30
      have e := next_b _ d.2.1 (by omega) 4
      have a1 := a.1.2 (by omega)
      have b1 := b.1.2 (by omega)
      have d1 := d.1.2 (by omega)
      have e1 := e.1.2 (by omega)
      conv => whnf
      refine CallC.k [(0, 0)] (next_fn w 4 (wk c2 (by omega))) rfl rfl (AVsle.refl _) ⟨MOle.refl _, trivial⟩ rfl ?_
      refine And.intro (inI64 (by omega) (by omega)) ?_
      conv => whnf
      refine CallC.k [(0, 0)] (next_fn _ 3 (wk a.2.1 (by omega))) rfl rfl (AVsle.refl _) ⟨MOle.refl _, trivial⟩ rfl ?_
      conv => whnf
      refine CallC.k [(0, 0)] (next_fn _ 30 (wk b.2.1 (by omega))) rfl rfl (AVsle.refl _) ⟨MOle.refl _, trivial⟩ rfl ?_
      refine And.intro (inI64 (by omega) (by omega)) ?_
      conv => whnf
      refine CallC.k [(0, 0)] (next_fn _ 4 (wk d.2.1 (by omega))) rfl rfl (AVsle.refl _) ⟨MOle.refl _, trivial⟩ rfl ?_
      refine And.intro (inI64 (by omega) (by omega)) ?_
      have e0 := e.1.1
      have ez : ((((w.next 4).2.next 3).2.next 30).2.next 4).1 = 0 ∨ ((((w.next 4).2.next 3).2.next 30).2.next 4).1 = 1 ∨ ((((w.next 4).2.next 3).2.next 30).2.next 4).1 = 2 ∨ ((((w.next 4).2.next 3).2.next 30).2.next 4).1 = 3 := by omega
      rcases ez with ez | ez | ez | ez
      · rw [ez]
        rw [ez] at hR lb
        have lb : ∀ x ∈ [1 + (w.next 4).1, ((w.next 4).2.next 3).1, 0], -9223372036854775807 ≤ x ∧ x ≤ 9223372036854775807 := lb
        have hR : R = (wo q.1 leaK).set leaK (Lea.text ⟨1 + (w.next 4).1, ((w.next 4).2.next 3).1, 0⟩) := hR
        refine And.intro (by decide) ?_
        refine And.intro (by decide) ?_
        refine And.intro (by decide) ?_
        refine DrawC.mkQ 5 [] rfl (by kernel_rfl) ?_; refine And.intro (by kernel_rfl) ?_
        conv => whnf
        refine PCallQ.sca _ (l05Text_fn ⟨1 + (w.next 4).1, ((w.next 4).2.next 3).1, 0⟩ lb) rfl ?_
        conv => whnf
        refine PCallQ.nl _ (l01Set_fn (wo q.1 leaK) (by omega) ⟨by have : (wo q.1 leaK).next = q.1.next := rfl; omega, by have : (wo q.1 leaK).next = q.1.next := rfl; omega⟩ leaK _) rfl ?_
        conv => whnf
        refine PCallQ.nl _ (l01Own_fn _ (Nat.le_trans (set_len_le (wo q.1 leaK) leaK _) (by omega))) rfl ?_
        conv => whnf
        subst hR
        subst hR2
        exact And.intro trivial ⟨[(0, 0)], rfl, AVle.refl _, ⟨MOle.refl _, trivial⟩⟩
      · rw [ez]
        rw [ez] at hR lb
        have lb : ∀ x ∈ [1 + (w.next 4).1, ((w.next 4).2.next 3).1, 10 + (((w.next 4).2.next 3).2.next 30).1], -9223372036854775807 ≤ x ∧ x ≤ 9223372036854775807 := lb
        have hR : R = (wo q.1 leaK).set leaK (Lea.text ⟨1 + (w.next 4).1, ((w.next 4).2.next 3).1, 10 + (((w.next 4).2.next 3).2.next 30).1⟩) := hR
        refine And.intro (by decide) ?_
        refine And.intro (by decide) ?_
        refine And.intro (by decide) ?_
        refine DrawC.mkQ 5 [] rfl (by kernel_rfl) ?_; refine And.intro (by kernel_rfl) ?_
        conv => whnf
        refine PCallQ.sca _ (l05Text_fn ⟨1 + (w.next 4).1, ((w.next 4).2.next 3).1, 10 + (((w.next 4).2.next 3).2.next 30).1⟩ lb) rfl ?_
        conv => whnf
        refine PCallQ.nl _ (l01Set_fn (wo q.1 leaK) (by omega) ⟨by have : (wo q.1 leaK).next = q.1.next := rfl; omega, by have : (wo q.1 leaK).next = q.1.next := rfl; omega⟩ leaK _) rfl ?_
        conv => whnf
        refine PCallQ.nl _ (l01Own_fn _ (Nat.le_trans (set_len_le (wo q.1 leaK) leaK _) (by omega))) rfl ?_
        conv => whnf
        subst hR
        subst hR2
        exact And.intro trivial ⟨[(0, 0)], rfl, AVle.refl _, ⟨MOle.refl _, trivial⟩⟩
      · rw [ez]
        rw [ez] at hR lb
        have lb : ∀ x ∈ [1 + (w.next 4).1, ((w.next 4).2.next 3).1, 0], -9223372036854775807 ≤ x ∧ x ≤ 9223372036854775807 := lb
        have hR : R = (wo q.1 leaK).set leaK (Lea.text ⟨1 + (w.next 4).1, ((w.next 4).2.next 3).1, 0⟩) := hR
        refine And.intro (by decide) ?_
        refine And.intro (by decide) ?_
        refine And.intro (by decide) ?_
        refine DrawC.mkQ 5 [] rfl (by kernel_rfl) ?_; refine And.intro (by kernel_rfl) ?_
        conv => whnf
        refine PCallQ.sca _ (l05Text_fn ⟨1 + (w.next 4).1, ((w.next 4).2.next 3).1, 0⟩ lb) rfl ?_
        conv => whnf
        refine PCallQ.nl _ (l01Set_fn (wo q.1 leaK) (by omega) ⟨by have : (wo q.1 leaK).next = q.1.next := rfl; omega, by have : (wo q.1 leaK).next = q.1.next := rfl; omega⟩ leaK _) rfl ?_
        conv => whnf
        refine PCallQ.nl _ (l01Own_fn _ (Nat.le_trans (set_len_le (wo q.1 leaK) leaK _) (by omega))) rfl ?_
        conv => whnf
        subst hR
        subst hR2
        exact And.intro trivial ⟨[(0, 0)], rfl, AVle.refl _, ⟨MOle.refl _, trivial⟩⟩
      · rw [ez]
        rw [ez] at hR lb
        have lb : ∀ x ∈ [1 + (w.next 4).1, ((w.next 4).2.next 3).1, 10 + (((w.next 4).2.next 3).2.next 30).1], -9223372036854775807 ≤ x ∧ x ≤ 9223372036854775807 := lb
        have hR : R = (wo q.1 leaK).set leaK (Lea.text ⟨1 + (w.next 4).1, ((w.next 4).2.next 3).1, 10 + (((w.next 4).2.next 3).2.next 30).1⟩) := hR
        refine And.intro (by decide) ?_
        refine And.intro (by decide) ?_
        refine And.intro (by decide) ?_
        refine DrawC.mkQ 5 [] rfl (by kernel_rfl) ?_; refine And.intro (by kernel_rfl) ?_
        conv => whnf
        refine PCallQ.sca _ (l05Text_fn ⟨1 + (w.next 4).1, ((w.next 4).2.next 3).1, 10 + (((w.next 4).2.next 3).2.next 30).1⟩ lb) rfl ?_
        conv => whnf
        refine PCallQ.nl _ (l01Set_fn (wo q.1 leaK) (by omega) ⟨by have : (wo q.1 leaK).next = q.1.next := rfl; omega, by have : (wo q.1 leaK).next = q.1.next := rfl; omega⟩ leaK _) rfl ?_
        conv => whnf
        refine PCallQ.nl _ (l01Own_fn _ (Nat.le_trans (set_len_le (wo q.1 leaK) leaK _) (by omega))) rfl ?_
        conv => whnf
        subst hR
        subst hR2
        exact And.intro trivial ⟨[(0, 0)], rfl, AVle.refl _, ⟨MOle.refl _, trivial⟩⟩
  · rw [if_neg (show ¬ hasK leaK q.1.os = true from hh)] at hf
    rw [if_neg hh] at h0
    conv => whnf
    refine CallC.sca _ (hf) ?_ ?_
    · exact rfl
    have u := unL_ok p1
    rw [h0] at u hR
    conv => whnf
    refine CallC.k [(0, 0)] (chance_fn q.2 4 (wk p4 (by omega)) (by omega)) rfl rfl (AVsle.refl _) ⟨MOle.refl _, trivial⟩ rfl ?_
    refine Grd.intro (fun g3 => ?_) (fun g3 => ?_)
    · have g3 : (q.2.next 4).1 = 3 := of_decide_eq_true g3
      rw [if_pos g3] at hR hR2
      conv => whnf
      refine CallC.nl _ (l01Own_fn q.1 (by omega)) ?_ ?_
      · exact rfl
      subst hR
      subst hR2
      refine And.intro trivial ⟨[(0, 0)], rfl, AVle.refl _, ⟨MOle.refl _, trivial⟩⟩
    · have g3 : ¬ (q.2.next 4).1 = 3 := of_decide_eq_false g3
      rw [if_neg g3] at hR hR2
      have c2 := c1.2.1
      generalize (q.2.next 4).2 = w at c2 hR hR2
      have hk : w.leL = (⟨1 + (w.next 4).1, ((w.next 4).2.next 3).1, if (((((((w.next 4).2.next 3).2.next 30).2.next 4).1) * 3).tmod 4).tmod 2 = 0 then 0 else 10 + (((w.next 4).2.next 3).2.next 30).1⟩, ((((w.next 4).2.next 3).2.next 30).2.next 4).2) := rfl
      have lb := leL_b w c2 (by omega)
      rw [hk] at hR hR2 lb
      dsimp only at hR hR2 lb
      have a := next_b w c2 (by omega) 4
      have b := next_b _ a.2.1 (by omega) 3
      have d := next_b _ b.2.1 (by omega) 30
      have e := next_b _ d.2.1 (by omega) 4
      have a1 := a.1.2 (by omega)
      have b1 := b.1.2 (by omega)
      have d1 := d.1.2 (by omega)
      have e1 := e.1.2 (by omega)
      conv => whnf
      refine CallC.k [(0, 0)] (next_fn w 4 (wk c2 (by omega))) rfl rfl (AVsle.refl _) ⟨MOle.refl _, trivial⟩ rfl ?_
      refine And.intro (inI64 (by omega) (by omega)) ?_
      conv => whnf
      refine CallC.k [(0, 0)] (next_fn _ 3 (wk a.2.1 (by omega))) rfl rfl (AVsle.refl _) ⟨MOle.refl _, trivial⟩ rfl ?_
      conv => whnf
      refine CallC.k [(0, 0)] (next_fn _ 30 (wk b.2.1 (by omega))) rfl rfl (AVsle.refl _) ⟨MOle.refl _, trivial⟩ rfl ?_
      refine And.intro (inI64 (by omega) (by omega)) ?_
      conv => whnf
      refine CallC.k [(0, 0)] (next_fn _ 4 (wk d.2.1 (by omega))) rfl rfl (AVsle.refl _) ⟨MOle.refl _, trivial⟩ rfl ?_
      refine And.intro (inI64 (by omega) (by omega)) ?_
      have e0 := e.1.1
      have ez : ((((w.next 4).2.next 3).2.next 30).2.next 4).1 = 0 ∨ ((((w.next 4).2.next 3).2.next 30).2.next 4).1 = 1 ∨ ((((w.next 4).2.next 3).2.next 30).2.next 4).1 = 2 ∨ ((((w.next 4).2.next 3).2.next 30).2.next 4).1 = 3 := by omega
      rcases ez with ez | ez | ez | ez
      · rw [ez]
        rw [ez] at hR lb
        have lb : ∀ x ∈ [1 + (w.next 4).1, ((w.next 4).2.next 3).1, 0], -9223372036854775807 ≤ x ∧ x ≤ 9223372036854775807 := lb
        have hR : R = q.1.set leaK (Lea.text ⟨1 + (w.next 4).1, ((w.next 4).2.next 3).1, 0⟩) := hR
        refine And.intro (by decide) ?_
        refine And.intro (by decide) ?_
        refine And.intro (by decide) ?_
        refine DrawC.mkQ 5 [] rfl (by kernel_rfl) ?_; refine And.intro (by kernel_rfl) ?_
        conv => whnf
        refine PCallQ.sca _ (l05Text_fn ⟨1 + (w.next 4).1, ((w.next 4).2.next 3).1, 0⟩ lb) rfl ?_
        conv => whnf
        refine PCallQ.nl _ (l01Set_fn q.1 (by omega) ⟨by omega, by omega⟩ leaK _) rfl ?_
        conv => whnf
        refine PCallQ.nl _ (l01Own_fn _ (Nat.le_trans (set_len_le q.1 leaK _) (by omega))) rfl ?_
        conv => whnf
        subst hR
        subst hR2
        exact And.intro trivial ⟨[(0, 0)], rfl, AVle.refl _, ⟨MOle.refl _, trivial⟩⟩
      · rw [ez]
        rw [ez] at hR lb
        have lb : ∀ x ∈ [1 + (w.next 4).1, ((w.next 4).2.next 3).1, 10 + (((w.next 4).2.next 3).2.next 30).1], -9223372036854775807 ≤ x ∧ x ≤ 9223372036854775807 := lb
        have hR : R = q.1.set leaK (Lea.text ⟨1 + (w.next 4).1, ((w.next 4).2.next 3).1, 10 + (((w.next 4).2.next 3).2.next 30).1⟩) := hR
        refine And.intro (by decide) ?_
        refine And.intro (by decide) ?_
        refine And.intro (by decide) ?_
        refine DrawC.mkQ 5 [] rfl (by kernel_rfl) ?_; refine And.intro (by kernel_rfl) ?_
        conv => whnf
        refine PCallQ.sca _ (l05Text_fn ⟨1 + (w.next 4).1, ((w.next 4).2.next 3).1, 10 + (((w.next 4).2.next 3).2.next 30).1⟩ lb) rfl ?_
        conv => whnf
        refine PCallQ.nl _ (l01Set_fn q.1 (by omega) ⟨by omega, by omega⟩ leaK _) rfl ?_
        conv => whnf
        refine PCallQ.nl _ (l01Own_fn _ (Nat.le_trans (set_len_le q.1 leaK _) (by omega))) rfl ?_
        conv => whnf
        subst hR
        subst hR2
        exact And.intro trivial ⟨[(0, 0)], rfl, AVle.refl _, ⟨MOle.refl _, trivial⟩⟩
      · rw [ez]
        rw [ez] at hR lb
        have lb : ∀ x ∈ [1 + (w.next 4).1, ((w.next 4).2.next 3).1, 0], -9223372036854775807 ≤ x ∧ x ≤ 9223372036854775807 := lb
        have hR : R = q.1.set leaK (Lea.text ⟨1 + (w.next 4).1, ((w.next 4).2.next 3).1, 0⟩) := hR
        refine And.intro (by decide) ?_
        refine And.intro (by decide) ?_
        refine And.intro (by decide) ?_
        refine DrawC.mkQ 5 [] rfl (by kernel_rfl) ?_; refine And.intro (by kernel_rfl) ?_
        conv => whnf
        refine PCallQ.sca _ (l05Text_fn ⟨1 + (w.next 4).1, ((w.next 4).2.next 3).1, 0⟩ lb) rfl ?_
        conv => whnf
        refine PCallQ.nl _ (l01Set_fn q.1 (by omega) ⟨by omega, by omega⟩ leaK _) rfl ?_
        conv => whnf
        refine PCallQ.nl _ (l01Own_fn _ (Nat.le_trans (set_len_le q.1 leaK _) (by omega))) rfl ?_
        conv => whnf
        subst hR
        subst hR2
        exact And.intro trivial ⟨[(0, 0)], rfl, AVle.refl _, ⟨MOle.refl _, trivial⟩⟩
      · rw [ez]
        rw [ez] at hR lb
        have lb : ∀ x ∈ [1 + (w.next 4).1, ((w.next 4).2.next 3).1, 10 + (((w.next 4).2.next 3).2.next 30).1], -9223372036854775807 ≤ x ∧ x ≤ 9223372036854775807 := lb
        have hR : R = q.1.set leaK (Lea.text ⟨1 + (w.next 4).1, ((w.next 4).2.next 3).1, 10 + (((w.next 4).2.next 3).2.next 30).1⟩) := hR
        refine And.intro (by decide) ?_
        refine And.intro (by decide) ?_
        refine And.intro (by decide) ?_
        refine DrawC.mkQ 5 [] rfl (by kernel_rfl) ?_; refine And.intro (by kernel_rfl) ?_
        conv => whnf
        refine PCallQ.sca _ (l05Text_fn ⟨1 + (w.next 4).1, ((w.next 4).2.next 3).1, 10 + (((w.next 4).2.next 3).2.next 30).1⟩ lb) rfl ?_
        conv => whnf
        refine PCallQ.nl _ (l01Set_fn q.1 (by omega) ⟨by omega, by omega⟩ leaK _) rfl ?_
        conv => whnf
        refine PCallQ.nl _ (l01Own_fn _ (Nat.le_trans (set_len_le q.1 leaK _) (by omega))) rfl ?_
        conv => whnf
        subst hR
        subst hR2
        exact And.intro trivial ⟨[(0, 0)], rfl, AVle.refl _, ⟨MOle.refl _, trivial⟩⟩
theorem LeasedStore_fn (code : List UInt8) (h : code.length ≤ 1048576) : VFn Tryz.prog 12 [byts code] (srcOf code).leased.av := by
  refine VFn.introC Tryz.call12 Tryz.func12 rfl rfl ?_
  conv => whnf
  refine CallC.k [] (l00Source_fn code h) rfl rfl (AVsle.refl _) trivial rfl ?_
  conv => whnf
  refine CallC.k [(1, 0)] (leased_fn (srcOf code) (wk (src_ok code h) (by omega))) rfl rfl (AVsle.refl _) ⟨MOle.refl _, trivial⟩ rfl ?_
  exact And.intro trivial (AVle.refl _)
end Go.Proofs.YtgiaaaejobhngaaGreatDoor
