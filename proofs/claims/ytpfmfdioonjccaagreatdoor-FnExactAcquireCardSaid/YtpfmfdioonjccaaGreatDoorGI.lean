/- Keys of data, read by the program: contracts; the conditions are the theorems' own. -/
import Derived.Test.YtpfmfdioonjccaaGreatDoorGE
import Derived.Test.YtpfmfdioonjccaaGreatDoorGH
import Derived.Test.YtpfmfdioonjccaaGreatDoorV41
set_option linter.unusedVariables false
set_option linter.constructorNameAsVariable false
set_option linter.unusedSimpArgs false
set_option maxRecDepth 20000
namespace Go.Proofs.YtpfmfdioonjccaaGreatDoor
open Go Go.Vw

theorem six_fn (n : Int) (h : within n 0 999999 = true) : VFn Tryz.prog 296 [.int .i64 n] (.str (B (six6 n.toNat))) := by
  have hb : 0 ≤ n ∧ n ≤ 999999 := by simpa [within] using h
  have e : 1000000 + n = 1000000 + ((n.toNat : Nat) : Int) := by omega
  have hi := itoa_million (n := n.toNat) (by omega)
  refine VFn.introC Tryz.call296 Tryz.func296 rfl rfl ?_
  refine And.intro (inI64 (by omega) (by omega)) ?_
  conv => whnf
  refine CallC.sca _ (Itoa_fn (1000000 + n) (by omega) (by omega)) ?_ ?_
  · exact rfl
  conv => whnf
  refine And.intro ?_ ?_
  · refine ⟨by omega, ?_⟩
    rw [B_size, e, hi]; simp [six6_len]
  refine And.intro trivial (AVle.of_eq (congrArg AV.str ?_))
  rw [B_extract, B_size, e, hi]; rfl
theorem isSix_fn (n : Int) : VFn Tryz.prog 300 [.int .i64 n] (.bool (within n 0 999999)) := by
  refine VFn.introC Tryz.call300 Tryz.func300 rfl rfl ?_
  conv => whnf
  refine CallC.sca _ (within_fn _ _ _) ?_ ?_
  · exact rfl
  exact And.intro trivial (AVle.refl _)
theorem atoi_yes {l : List UInt8} (hl : l.length = 6) (h : l.all dig = true) : atoiOk l = true ∧ atoiV l = numB 0 l ∧ within (atoiV l) 0 999999 = true ∧ six6 (atoiV l).toNat = l := by
  have h1 := atoi_dig (by intro e; subst e; cases hl) (by omega) h
  have h2 := six6_numB hl h
  have h3 : atoiV l = numB 0 l := by unfold atoiV; rw [h1]
  refine ⟨by unfold atoiOk; rw [h1], h3, ?_, ?_⟩
  · rw [h3]; simp [within]; omega
  · rw [h3]; exact h2.2
theorem readSix_fn (l : List UInt8) (hl : l.length = 6) : VFn Tryz.prog 267 [.str (B l)] (.tup [.int .i64 (atoiV l), .bool (l.all dig)]) := by
  refine VFn.introC Tryz.call267 Tryz.func267 rfl rfl ?_
  by_cases hd : l.all dig = true
  · obtain ⟨h1, h2, h3, h4⟩ := atoi_yes hl hd
    conv => whnf
    refine CallC.sca _ (Atoi_ok l (by omega) h1) ?_ ?_
    · exact rfl
    conv => whnf
    refine CallC.sca _ (isSix_fn _) ?_ ?_
    · exact rfl
    refine Grd.intro (fun h => ?_) (fun h => absurd (h.symm.trans h3) (by simp))
    conv => whnf
    refine CallC.sca _ (six_fn _ h3) ?_ ?_
    · exact rfl
    refine And.intro trivial (AVle.of_eq (show AV.tup [AV.int .i64 (atoiV l), AV.bool ((B (six6 (atoiV l).toNat)).toList == (B l).toList)] = _ from ?_))
    rw [B_eq, hd, h4]; simp
  · have hd' : l.all dig = false := by simpa using hd
    by_cases ho : atoiOk l = true
    · conv => whnf
      refine CallC.sca _ (Atoi_ok l (by omega) ho) ?_ ?_
      · exact rfl
      conv => whnf
      refine CallC.sca _ (isSix_fn _) ?_ ?_
      · exact rfl
      refine Grd.intro (fun h => ?_) (fun h => ?_)
      · conv => whnf
        refine CallC.sca _ (six_fn _ h) ?_ ?_
        · exact rfl
        refine And.intro trivial (AVle.of_eq (show AV.tup [AV.int .i64 (atoiV l), AV.bool ((B (six6 (atoiV l).toNat)).toList == (B l).toList)] = _ from ?_))
        have : ¬ six6 (atoiV l).toNat = l := fun e => hd (by rw [← e]; exact six6_dig _)
        rw [B_eq, hd']; simp [this]
      · rw [hd']
        exact And.intro trivial (AVle.refl _)
    · conv => whnf
      refine CallC.sca _ (Atoi_no l (by omega) (by simpa using ho)) ?_ ?_
      · exact rfl
      rw [hd']
      exact And.intro trivial (AVle.refl _)
theorem dataPrefixes_fn : VFn Tryz.prog 265 [] (txts [pre 0, pre 1, pre 2]) := by
  refine VFn.introC Tryz.call265 Tryz.func265 rfl rfl ?_
  refine And.intro trivial (AVle.sl rfl fun i hi => ?_)
  have : i = 0 ∨ i = 1 ∨ i = 2 := by omega
  rcases this with rfl | rfl | rfl <;> rfl
theorem readSix_at {s : ByteArray} {l : List UInt8} (e : s = B l) (hl : l.length = 6) : VFn Tryz.prog 267 [.str s] (.tup [.int .i64 (atoiV l), .bool (l.all dig)]) := by
  subst e; exact readSix_fn l hl
theorem readDataKey_fn (k : List UInt8) : VFn Tryz.prog 180 [.str (B k)] (.tup [.int .i64 (kT k), .int .i64 (kN k), .int .i64 (kW k), .bool (kOk k)]) := by
  refine VFn.introC Tryz.call180 Tryz.func180 rfl rfl ?_
  conv => whnf
  refine CallC.nl _ (dataPrefixes_fn) ?_ ?_
  · exact rfl
  refine LoopC.mk (fun i : Nat => i ≤ 3 ∧ ∀ j, j < i → tryK j k = none) (fun i => [(0, .str (B k)), (14, txts [pre 0, pre 1, pre 2]), (15, .int .i64 3), (16, .int .i64 i)]) (fun _ => []) 0 (fun i => 3 - i) 0
    ⟨⟨by omega, fun j hj => absurd hj (by omega)⟩, [], rfl, rfl, ⟨AVle.refl _, AVle.refl _, AVle.refl _, AVle.refl _, trivial⟩, trivial⟩ ?_
  intro i hi
  refine Grd.intro (fun h2 => ?_) (fun h2 => ?_)
  · have hin : i < 3 := by have := of_decide_eq_true h2; omega
    have hp : ix [pre 0, pre 1, pre 2] i = pre i := by
      have : i = 0 ∨ i = 1 ∨ i = 2 := by omega
      rcases this with rfl | rfl | rfl <;> rfl
    have hnext : tryK i k = none → ∀ j, j < i + 1 → tryK j k = none := fun h j hj => by
      rcases Nat.lt_or_ge j i with h' | h'
      · exact hi.2 j h'
      · rw [show j = i by omega]; exact h
    conv => whnf
    refine And.intro ⟨by omega, by show (i : Int) < ((3 : Nat) : Int); omega⟩ ?_
    conv => whnf
    refine CallC.sca _ (CutPrefix_fn k (ix [pre 0, pre 1, pre 2] i)) ?_ ?_
    · exact rfl
    have ht : Lib.hasPrefix k (ix [pre 0, pre 1, pre 2] i) = true → Lib.trimPrefix k (ix [pre 0, pre 1, pre 2] i) = k.drop (pre i).length := fun h => by
      unfold Lib.trimPrefix; rw [if_pos h, hp]
    have h0 : Lib.hasPrefix k (ix [pre 0, pre 1, pre 2] i) = false → tryK i k = none := fun h => by
      unfold tryK; rw [← hp, h]; rfl
    have h1 : Lib.hasPrefix k (ix [pre 0, pre 1, pre 2] i) = true → tryK i k = restK i (k.drop (pre i).length) := fun h => by
      rw [hp] at h; unfold tryK; rw [if_pos h]
    generalize Lib.hasPrefix k (ix [pre 0, pre 1, pre 2] i) = hP at h0 h1 ht
    generalize hr : Lib.trimPrefix k (ix [pre 0, pre 1, pre 2] i) = r at ht
    refine Grd.intro (fun h3 => ?_) (fun h3 => ?_)
    · have hr' := ht h3
      have h1' := h1 h3
      rw [← hr'] at h1'
      have hfail : restK i r = none → ∀ j, j < i + 1 → tryK j k = none := fun h => hnext (h1'.trans h)
      refine Grd.intro (fun h4 => ?_) (fun h4 => ?_)
      · have h13 : r.length = 13 := by have := of_decide_eq_true h4; rw [B_size] at this; omega
        refine And.intro ⟨by omega, by rw [B_size]; omega⟩ ?_
        refine Grd.intro (fun h5 => ?_) (fun h5 => ?_)
        · have h6 : ix r 6 = 45 := by
            have h : ((r.getD 6 0).toNat : Int) = 45 := of_decide_eq_true h5
            exact UInt8.toNat_inj.1 (by show (r.getD 6 0).toNat = 45; omega)
          have hA : (B r).extract 0 6 = B (r.take 6) := by rw [B_extract]; rfl
          have hB : (B r).extract 7 (B r).size = B (r.drop 7) := by rw [B_extract, B_size, h13, List.take_of_length_le (by simp; omega)]
          have hlA : (r.take 6).length = 6 := by simp; omega
          have hlB : (r.drop 7).length = 6 := by simp; omega
          conv => whnf
          refine And.intro ⟨by omega, by rw [B_size]; omega⟩ ?_
          conv => whnf
          refine CallC.sca _ (readSix_at hA hlA) ?_ ?_
          · exact rfl
          conv => whnf
          refine And.intro ⟨by omega, by rw [B_size]; omega⟩ ?_
          conv => whnf
          refine CallC.sca _ (readSix_at hB hlB) ?_ ?_
          · exact rfl
          refine Grd.intro (fun h7 => ?_) (fun h7 => ?_)
          · refine Grd.intro (fun h8 => ?_) (fun h8 => ?_)
            · have hs : restK i r = some (i, numB 0 (r.take 6), numB 0 (r.drop 7)) := by
                unfold restK; rw [if_pos ⟨h13, h6, h7, h8⟩]
              have hk := tryK_parse hin (h1'.trans hs)
              refine And.intro trivial (AVle.of_eq (show AV.tup [AV.int .i64 i, AV.int .i64 (atoiV (r.take 6)), AV.int .i64 (atoiV (r.drop 7)), AV.bool true] = _ from ?_))
              unfold kT kN kW kOk
              rw [hk, (atoi_yes hlA h7).2.1, (atoi_yes hlB h8).2.1]; rfl
            · have := hfail (by unfold restK; rw [if_neg (fun h => absurd (h.2.2.2.symm.trans h8) (by simp))])
              refine And.intro (inI64 (by omega) (by omega)) ?_
              exact ⟨i + 1, ⟨by omega, this⟩, by omega, [], rfl, rfl, ⟨AVle.refl _, AVle.refl _, AVle.refl _, AVle.of_eq (congrArg (AV.int .i64) (by simp)), trivial⟩, trivial⟩
          · have := hfail (by unfold restK; rw [if_neg (fun h => absurd (h.2.2.1.symm.trans h7) (by simp))])
            refine And.intro (inI64 (by omega) (by omega)) ?_
            exact ⟨i + 1, ⟨by omega, this⟩, by omega, [], rfl, rfl, ⟨AVle.refl _, AVle.refl _, AVle.refl _, AVle.of_eq (congrArg (AV.int .i64) (by simp)), trivial⟩, trivial⟩
        · have := hfail (by
            unfold restK; rw [if_neg]
            rintro ⟨_, h6, _⟩
            have h : ¬ ((r.getD 6 0).toNat : Int) = 45 := of_decide_eq_false h5
            exact h (by rw [show r.getD 6 0 = 45 from h6]; rfl))
          refine And.intro (inI64 (by omega) (by omega)) ?_
          exact ⟨i + 1, ⟨by omega, this⟩, by omega, [], rfl, rfl, ⟨AVle.refl _, AVle.refl _, AVle.refl _, AVle.of_eq (congrArg (AV.int .i64) (by simp)), trivial⟩, trivial⟩
      · have h13 : ¬ r.length = 13 := by have := of_decide_eq_false h4; rw [B_size] at this; omega
        have := hfail (by unfold restK; rw [if_neg (fun h => h13 h.1)])
        refine And.intro (inI64 (by omega) (by omega)) ?_
        exact ⟨i + 1, ⟨by omega, this⟩, by omega, [], rfl, rfl, ⟨AVle.refl _, AVle.refl _, AVle.refl _, AVle.of_eq (congrArg (AV.int .i64) (by simp)), trivial⟩, trivial⟩
    · have := hnext (h0 (by simpa using h3))
      refine And.intro (inI64 (by omega) (by omega)) ?_
      exact ⟨i + 1, ⟨by omega, this⟩, by omega, [], rfl, rfl, ⟨AVle.refl _, AVle.refl _, AVle.refl _, AVle.of_eq (congrArg (AV.int .i64) (by simp)), trivial⟩, trivial⟩
  · have h3 : i = 3 := by have := of_decide_eq_false h2; omega
    subst h3
    have hk := parse_none hi.2
    refine And.intro trivial (AVle.of_eq (show AV.tup [AV.int .i64 0, AV.int .i64 0, AV.int .i64 0, AV.bool false] = _ from ?_))
    unfold kT kN kW kOk
    rw [hk]; rfl
end Go.Proofs.YtpfmfdioonjccaaGreatDoor
