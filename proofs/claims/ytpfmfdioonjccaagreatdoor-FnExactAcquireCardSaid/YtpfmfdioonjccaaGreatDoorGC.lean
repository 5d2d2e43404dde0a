/- Samples and buckets, right ones and their texts: contracts; the conditions are the theorems' own. -/
import Derived.Test.YtpfmfdioonjccaaGreatDoorGB
set_option linter.unusedVariables false
set_option linter.constructorNameAsVariable false
set_option linter.unusedSimpArgs false
set_option maxRecDepth 20000
namespace Go.Proofs.YtpfmfdioonjccaaGreatDoor
open Go Go.Vw

structure Smp where
  t : Int
  v : Int
instance : Inhabited Smp := ⟨⟨0, 0⟩⟩
def Smp.row (s : Smp) : List AV := [.int .i64 s.t, .int .i64 s.v]
abbrev smps (L : List Smp) : AV := .sl 2 L.length fun i => (ix L i).row
structure Bk where
  t : Int
  a : Ag
instance : Inhabited Ag := ⟨⟨0, 0, 0, 0, 0, 0⟩⟩
instance : Inhabited Bk := ⟨⟨0, default⟩⟩
def Bk.row (b : Bk) : List AV := [.int .i64 b.t, .int .i64 b.a.c, .int .i64 b.a.s, .int .i64 b.a.mn, .int .i64 b.a.mx, .int .i64 b.a.f, .int .i64 b.a.l]
abbrev bks (L : List Bk) : AV := .sl 7 L.length fun i => (ix L i).row

theorem isMoment_fn (n : Int) : VFn Tryz.prog 182 [.int .i64 n] (.bool (within n 0 99999)) := by
  refine VFn.introC Tryz.call182 Tryz.func182 rfl rfl ?_
  conv => whnf
  refine CallC.sca _ (within_fn _ _ _) ?_ ?_
  · exact rfl
  exact And.intro trivial (AVle.refl _)
theorem l02Sample_fn (s : Smp) : VFn Tryz.prog 173 [.agg s.row] (.bool (within s.t 0 99999 && within s.v (-1000000) 1000000)) := by
  refine VFn.introC Tryz.call173 Tryz.func173 rfl rfl ?_
  conv => whnf
  refine CallC.sca _ (l01In_fn _ _ _) ?_ ?_
  · exact rfl
  refine Grd.intro (fun h1 => ?_) (fun h1 => ?_)
  · conv => whnf
    refine CallC.sca _ (l01In_fn _ _ _) ?_ ?_
    · exact rfl
    exact And.intro trivial (AVle.of_eq (congrArg AV.bool (by rw [h1]; rfl)))
  · exact And.intro trivial (AVle.of_eq (congrArg AV.bool (by rw [h1]; rfl)))

def smpAt (L : List Smp) (i : Nat) : Bool := within (ix L i).t 0 99999 && within (ix L i).v (-1000000) 1000000 && (decide (i = 0) || decide ((ix L (i - 1)).t < (ix L i).t))
def smpsOK (L : List Smp) : Bool := decide (L.length ≤ 4096) && allN L.length (smpAt L)
def bkAt (L : List Bk) (i : Nat) : Bool := within (ix L i).t 0 99999 && (ix L i).a.ok && !decide ((ix L i).a.c = 0) && (decide (i = 0) || decide ((ix L (i - 1)).t < (ix L i).t))
def bksOK (L : List Bk) : Bool := decide (L.length ≤ 8) && allN L.length (bkAt L)

theorem isLongSmp_fn (L : List Smp) : VFn Tryz.prog 78 [smps L] (.bool (decide (4096 < L.length))) := by
  refine VFn.introC Tryz.call78 Tryz.func78 rfl rfl ?_
  exact And.intro trivial (AVle.of_eq (congrArg AV.bool (by simp; omega)))
theorem SamplesOK_fn (L : List Smp) : VFn Tryz.prog 80 [smps L] (.bool (smpsOK L)) := by
  refine VFn.introC Tryz.call80 Tryz.func80 rfl rfl ?_
  conv => whnf
  refine CallC.sca _ (isLongSmp_fn L) ?_ ?_
  · exact rfl
  refine Grd.intro (fun h1 => ?_) (fun h1 => ?_)
  · have := of_decide_eq_true h1
    exact And.intro trivial (AVle.of_eq (congrArg AV.bool (by simp [smpsOK]; omega)))
  have hn : L.length ≤ 4096 := by have := of_decide_eq_false h1; omega
  have no : ∀ i, i < L.length → smpAt L i = false → false = smpsOK L := fun i hi h => by simp [smpsOK, allN_no hi h]
  refine LoopC.mk (fun i : Nat => i ≤ L.length ∧ allN i (smpAt L) = true) (fun i => [(0, smps L), (7, smps L), (8, .int .i64 L.length), (9, .int .i64 i)]) (fun _ => []) 0 (fun i => L.length - i) 0
    ⟨⟨Nat.zero_le _, rfl⟩, [], rfl, rfl, ⟨AVle.refl _, AVle.refl _, AVle.refl _, AVle.refl _, trivial⟩, trivial⟩ ?_
  rintro i ⟨hi, ha⟩
  refine Grd.intro (fun h2 => ?_) (fun h2 => ?_)
  · have hin : i < L.length := by have := of_decide_eq_true h2; omega
    refine And.intro (by omega) ?_
    refine DrawC.mk 25 rfl (by kernel_rfl) ?_
    refine PCallC.sca _ (isMoment_fn _) rfl ?_
    refine Grd.intro (fun h3 => ?_) (fun h3 => ?_)
    · exact And.intro trivial (AVle.of_eq (congrArg AV.bool (no i hin (by simp at h3; simp [smpAt, h3]))))
    refine PCallC.sca _ (isValue_fn _) rfl ?_
    refine Grd.intro (fun h4 => ?_) (fun h4 => ?_)
    · exact And.intro trivial (AVle.of_eq (congrArg AV.bool (no i hin (by simp at h4; simp [smpAt, h4]))))
    simp at h3 h4
    refine Grd.intro (fun h5 => ?_) (fun h5 => ?_)
    · have h0 : 0 < i := by have := of_decide_eq_true h5; omega
      refine And.intro (inI64 (by omega) (by omega)) ?_
      refine And.intro (by omega) ?_
      refine Grd.intro (fun h6 => ?_) (fun h6 => ?_)
      · have h6 := of_decide_eq_true h6
        rw [show Int.toNat ((i : Int) - 1) = i - 1 by omega] at h6
        exact And.intro trivial (AVle.of_eq (congrArg AV.bool (no i hin (by
          have : ¬ (ix L (i - 1)).t < (ix L i).t := by simpa using h6
          have h00 : ¬ i = 0 := by omega
          simp only [smpAt, decide_eq_false h00, decide_eq_false this, Bool.or_false, Bool.and_false]))))
      · have h6 := of_decide_eq_false h6
        rw [show Int.toNat ((i : Int) - 1) = i - 1 by omega] at h6
        refine And.intro (inI64 (by omega) (by omega)) ?_
        refine ⟨i + 1, ⟨hin, allN_step ha ?_⟩, by omega, [], rfl, rfl, ⟨AVle.refl _, AVle.refl _, AVle.refl _, AVle.of_eq (congrArg (AV.int .i64) (by simp)), trivial⟩, trivial⟩
        have : (ix L (i - 1)).t < (ix L i).t := by simpa using h6
        simp [smpAt, h3, h4, this]
    · have h0 : i = 0 := by have := of_decide_eq_false h5; omega
      refine And.intro (inI64 (by omega) (by omega)) ?_
      refine ⟨i + 1, ⟨hin, allN_step ha ?_⟩, by omega, [], rfl, rfl, ⟨AVle.refl _, AVle.refl _, AVle.refl _, AVle.of_eq (congrArg (AV.int .i64) (by simp)), trivial⟩, trivial⟩
      subst h0; simp [smpAt, h3, h4]
  · have : i = L.length := by have := of_decide_eq_false h2; omega
    subst this
    exact And.intro trivial (AVle.of_eq (congrArg AV.bool (by simp [smpsOK, ha, hn])))

theorem specSamplesOK_fn (L : List Smp) : VFn Tryz.prog 75 [smps L] (.bool (smpsOK L)) := by
  refine VFn.introC Tryz.call75 Tryz.func75 rfl rfl ?_
  refine Grd.intro (fun h1 => ?_) (fun h1 => ?_)
  · have := of_decide_eq_true h1
    exact And.intro trivial (AVle.of_eq (congrArg AV.bool (by simp [smpsOK]; omega)))
  have hn : L.length ≤ 4096 := by have := of_decide_eq_false h1; omega
  have no : ∀ i, i < L.length → smpAt L i = false → false = smpsOK L := fun i hi h => by simp [smpsOK, allN_no hi h]
  refine LoopC.mk (fun i : Nat => i ≤ L.length ∧ allN i (smpAt L) = true) (fun i => [(0, smps L), (3, .int .i64 i)]) (fun _ => []) 0 (fun i => L.length - i) 0
    ⟨⟨Nat.zero_le _, rfl⟩, [], rfl, rfl, ⟨AVle.refl _, AVle.refl _, trivial⟩, trivial⟩ ?_
  rintro i ⟨hi, ha⟩
  refine Grd.intro (fun h2 => ?_) (fun h2 => ?_)
  · have hin : i < L.length := by have := of_decide_eq_true h2; omega
    refine DrawC.mk 24 rfl (by kernel_rfl) ?_
    refine And.intro (by omega) ?_
    refine PCallC.sca _ (l02Sample_fn (ix L i)) rfl ?_
    refine Grd.intro (fun h3 => ?_) (fun h3 => ?_)
    · exact And.intro trivial (AVle.of_eq (congrArg AV.bool (no i hin (by cases hq : smpAt L i; rfl; simp [smpAt] at hq; simp [hq] at h3))))
    simp at h3
    refine Grd.intro (fun h5 => ?_) (fun h5 => ?_)
    · have h0 : 0 < i := by have := of_decide_eq_true h5; omega
      refine And.intro (inI64 (by omega) (by omega)) ?_
      refine And.intro (by omega) ?_
      refine And.intro (by omega) ?_
      refine Grd.intro (fun h6 => ?_) (fun h6 => ?_)
      · have h6 := of_decide_eq_true h6
        rw [show Int.toNat ((i : Int) - 1) = i - 1 by omega] at h6
        exact And.intro trivial (AVle.of_eq (congrArg AV.bool (no i hin (by
          have : ¬ (ix L (i - 1)).t < (ix L i).t := by simpa using h6
          have h00 : ¬ i = 0 := by omega
          simp only [smpAt, decide_eq_false h00, decide_eq_false this, Bool.or_false, Bool.and_false]))))
      · have h6 := of_decide_eq_false h6
        rw [show Int.toNat ((i : Int) - 1) = i - 1 by omega] at h6
        refine And.intro (inI64 (by omega) (by omega)) ?_
        refine ⟨i + 1, ⟨hin, allN_step ha ?_⟩, by omega, [], rfl, rfl, ⟨AVle.refl _, AVle.of_eq (congrArg (AV.int .i64) (by simp)), trivial⟩, trivial⟩
        have : (ix L (i - 1)).t < (ix L i).t := by simpa using h6
        simp [smpAt, h3, this]
    · have h0 : i = 0 := by have := of_decide_eq_false h5; omega
      refine And.intro (inI64 (by omega) (by omega)) ?_
      refine ⟨i + 1, ⟨hin, allN_step ha ?_⟩, by omega, [], rfl, rfl, ⟨AVle.refl _, AVle.of_eq (congrArg (AV.int .i64) (by simp)), trivial⟩, trivial⟩
      subst h0; simp [smpAt, h3]
  · have : i = L.length := by have := of_decide_eq_false h2; omega
    subst this
    exact And.intro trivial (AVle.of_eq (congrArg AV.bool (by simp [smpsOK, ha, hn])))

theorem BucketsOK_fn (L : List Bk) : VFn Tryz.prog 273 [bks L] (.bool (bksOK L)) := by
  refine VFn.introC Tryz.call273 Tryz.func273 rfl rfl ?_
  have no : ∀ i, i < L.length → bkAt L i = false → false = bksOK L := fun i hi h => by simp [bksOK, allN_no hi h]
  refine LoopC.mk (fun i : Nat => i ≤ L.length ∧ i ≤ 8 ∧ allN i (bkAt L) = true) (fun i => [(0, bks L), (5, bks L), (6, .int .i64 L.length), (7, .int .i64 i)]) (fun _ => []) 0 (fun i => L.length - i) 0
    ⟨⟨Nat.zero_le _, by omega, rfl⟩, [], rfl, rfl, ⟨AVle.refl _, AVle.refl _, AVle.refl _, AVle.refl _, trivial⟩, trivial⟩ ?_
  rintro i ⟨hi, hi8, ha⟩
  refine Grd.intro (fun h2 => ?_) (fun h2 => ?_)
  · have hin : i < L.length := by have := of_decide_eq_true h2; omega
    refine And.intro (by omega) ?_
    refine DrawC.mk 35 rfl (by kernel_rfl) ?_
    refine Grd.intro (fun h7 => ?_) (fun h7 => ?_)
    · have : (i : Int) = 8 := of_decide_eq_true h7
      exact And.intro trivial (AVle.of_eq (congrArg AV.bool (by simp [bksOK]; omega)))
    have hne : ¬ (i : Int) = 8 := of_decide_eq_false h7
    refine PCallC.sca _ (isMoment_fn _) rfl ?_
    refine Grd.intro (fun h3 => ?_) (fun h3 => ?_)
    · exact And.intro trivial (AVle.of_eq (congrArg AV.bool (no i hin (by simp at h3; simp [bkAt, h3]))))
    refine PCallC.sca _ (AggOK_fn (ix L i).a) rfl ?_
    refine Grd.intro (fun h4 => ?_) (fun h4 => ?_)
    · exact And.intro trivial (AVle.of_eq (congrArg AV.bool (no i hin (by simp at h4; simp [bkAt, h4]))))
    simp at h3 h4
    refine Grd.intro (fun h8 => ?_) (fun h8 => ?_)
    · exact And.intro trivial (AVle.of_eq (congrArg AV.bool (no i hin (by simp at h8; simp [bkAt, h8]))))
    simp at h8
    refine Grd.intro (fun h5 => ?_) (fun h5 => ?_)
    · have h0 : 0 < i := by have := of_decide_eq_true h5; omega
      refine And.intro (inI64 (by omega) (by omega)) ?_
      refine And.intro (by omega) ?_
      refine Grd.intro (fun h6 => ?_) (fun h6 => ?_)
      · have h6 := of_decide_eq_true h6
        rw [show Int.toNat ((i : Int) - 1) = i - 1 by omega] at h6
        exact And.intro trivial (AVle.of_eq (congrArg AV.bool (no i hin (by
          have : ¬ (ix L (i - 1)).t < (ix L i).t := by simpa using h6
          have h00 : ¬ i = 0 := by omega
          simp only [bkAt, decide_eq_false h00, decide_eq_false this, Bool.or_false, Bool.and_false]))))
      · have h6 := of_decide_eq_false h6
        rw [show Int.toNat ((i : Int) - 1) = i - 1 by omega] at h6
        refine And.intro (inI64 (by omega) (by omega)) ?_
        refine ⟨i + 1, ⟨hin, by omega, allN_step ha ?_⟩, by omega, [], rfl, rfl, ⟨AVle.refl _, AVle.refl _, AVle.refl _, AVle.of_eq (congrArg (AV.int .i64) (by simp)), trivial⟩, trivial⟩
        have : (ix L (i - 1)).t < (ix L i).t := by simpa using h6
        simp [bkAt, h3, h4, h8, this]
    · have h0 : i = 0 := by have := of_decide_eq_false h5; omega
      refine And.intro (inI64 (by omega) (by omega)) ?_
      refine ⟨i + 1, ⟨hin, by omega, allN_step ha ?_⟩, by omega, [], rfl, rfl, ⟨AVle.refl _, AVle.refl _, AVle.refl _, AVle.of_eq (congrArg (AV.int .i64) (by simp)), trivial⟩, trivial⟩
      subst h0; simp [bkAt, h3, h4, h8]
  · have : i = L.length := by have := of_decide_eq_false h2; omega
    subst this
    exact And.intro trivial (AVle.of_eq (congrArg AV.bool (by simp [bksOK, ha, hi8])))

theorem specBucketsOK_fn (L : List Bk) : VFn Tryz.prog 261 [bks L] (.bool (bksOK L)) := by
  refine VFn.introC Tryz.call261 Tryz.func261 rfl rfl ?_
  refine Grd.intro (fun h1 => ?_) (fun h1 => ?_)
  · have := of_decide_eq_true h1
    exact And.intro trivial (AVle.of_eq (congrArg AV.bool (by simp [bksOK]; omega)))
  have hn : L.length ≤ 4096 := by have := of_decide_eq_false h1; omega
  have no : ∀ i, i < L.length → bkAt L i = false → false = bksOK L := fun i hi h => by simp [bksOK, allN_no hi h]
  refine LoopC.mk (fun i : Nat => i ≤ L.length ∧ allN i (bkAt L) = true) (fun i => [(0, bks L), (3, .int .i64 i)]) (fun _ => []) 0 (fun i => L.length - i) 0
    ⟨⟨Nat.zero_le _, rfl⟩, [], rfl, rfl, ⟨AVle.refl _, AVle.refl _, trivial⟩, trivial⟩ ?_
  rintro i ⟨hi, ha⟩
  refine Grd.intro (fun h2 => ?_) (fun h2 => ?_)
  · have hin : i < L.length := by have := of_decide_eq_true h2; omega
    refine DrawC.mk 43 rfl (by kernel_rfl) ?_
    refine And.intro (by omega) ?_
    refine PCallC.sca _ (l01In_fn _ _ _) rfl ?_
    refine Grd.intro (fun h3 => ?_) (fun h3 => ?_)
    · exact And.intro trivial (AVle.of_eq (congrArg AV.bool (no i hin (by simp at h3; simp [bkAt, h3]))))
    refine And.intro (by omega) ?_
    refine PCallC.sca _ (specAggOK_fn (ix L i).a) rfl ?_
    refine Grd.intro (fun h4 => ?_) (fun h4 => ?_)
    · exact And.intro trivial (AVle.of_eq (congrArg AV.bool (no i hin (by simp at h4; simp [bkAt, h4]))))
    simp at h3 h4
    refine And.intro (by omega) ?_
    refine Grd.intro (fun h8 => ?_) (fun h8 => ?_)
    · exact And.intro trivial (AVle.of_eq (congrArg AV.bool (no i hin (by simp at h8; simp [bkAt, h8]))))
    simp at h8
    refine Grd.intro (fun h5 => ?_) (fun h5 => ?_)
    · have h0 : 0 < i := by have := of_decide_eq_true h5; omega
      refine And.intro (inI64 (by omega) (by omega)) ?_
      refine And.intro (by omega) ?_
      refine And.intro (by omega) ?_
      refine Grd.intro (fun h6 => ?_) (fun h6 => ?_)
      · have h6 := of_decide_eq_true h6
        rw [show Int.toNat ((i : Int) - 1) = i - 1 by omega] at h6
        exact And.intro trivial (AVle.of_eq (congrArg AV.bool (no i hin (by
          have : ¬ (ix L (i - 1)).t < (ix L i).t := by simpa using h6
          have h00 : ¬ i = 0 := by omega
          simp only [bkAt, decide_eq_false h00, decide_eq_false this, Bool.or_false, Bool.and_false]))))
      · have h6 := of_decide_eq_false h6
        rw [show Int.toNat ((i : Int) - 1) = i - 1 by omega] at h6
        refine And.intro (inI64 (by omega) (by omega)) ?_
        refine ⟨i + 1, ⟨hin, allN_step ha ?_⟩, by omega, [], rfl, rfl, ⟨AVle.refl _, AVle.of_eq (congrArg (AV.int .i64) (by simp)), trivial⟩, trivial⟩
        have : (ix L (i - 1)).t < (ix L i).t := by simpa using h6
        simp [bkAt, h3, h4, h8, this]
    · have h0 : i = 0 := by have := of_decide_eq_false h5; omega
      refine And.intro (inI64 (by omega) (by omega)) ?_
      refine ⟨i + 1, ⟨hin, allN_step ha ?_⟩, by omega, [], rfl, rfl, ⟨AVle.refl _, AVle.of_eq (congrArg (AV.int .i64) (by simp)), trivial⟩, trivial⟩
      subst h0; simp [bkAt, h3, h4, h8]
  · have : i = L.length := by have := of_decide_eq_false h2; omega
    subst this
    exact And.intro trivial (AVle.of_eq (congrArg AV.bool (by simp [bksOK, ha]; omega)))

def smpText (s : Smp) : List UInt8 := Lib.join [Lib.itoa s.t, Lib.itoa s.v] [61]
def smpsText (L : List Smp) : List UInt8 := Lib.join (L.map smpText) [32]
def bkText (b : Bk) : List UInt8 := Lib.join [Lib.itoa b.t, atext b.a] [58]
def bksText (L : List Bk) : List UInt8 := Lib.join (L.map bkText) [32]
theorem join2 (a b s : List UInt8) : Lib.join [a, b] s = a ++ s ++ b := by
  rw [Lib.join_cons]; simp [Lib.joinTail]
def Smp.num (s : Smp) : Prop := (-1000000000 ≤ s.t ∧ s.t ≤ 1000000000) ∧ (-1000000000 ≤ s.v ∧ s.v ≤ 1000000000)
theorem smpText_len {s : Smp} (h : s.num) : (smpText s).length ≤ 43 := by
  have h1 := itoa_len (n := s.t) (by have := h.1; omega) (by have := h.1; omega)
  have h2 := itoa_len (n := s.v) (by have := h.2; omega) (by have := h.2; omega)
  unfold smpText; rw [join2]; simp; omega
theorem smpsText_len {L : List Smp} (h : ∀ s ∈ L, s.num) : (smpsText L).length ≤ 44 * L.length := by
  have := join_len (m := 43) (c := 1) (L := L.map smpText) (s := [32]) (fun x hx => by obtain ⟨y, hy, rfl⟩ := List.mem_map.1 hx; exact smpText_len (h y hy)) (by decide)
  simpa [smpsText] using this
theorem smpsOK_num {L : List Smp} (h : smpsOK L = true) : ∀ s ∈ L, s.num := by
  simp only [smpsOK, Bool.and_eq_true, allN_iff] at h
  intro s hs
  obtain ⟨i, hi, rfl⟩ := List.mem_iff_getElem.1 hs
  have := h.2 i hi
  rw [smpAt, Bool.and_eq_true, Bool.and_eq_true] at this
  rw [← ix_lt hi]
  have a := win_iff.1 this.1.1
  have b := win_iff.1 this.1.2
  exact ⟨⟨by omega, by omega⟩, ⟨by omega, by omega⟩⟩
theorem l03Samples_fn (L : List Smp) (hL : L.length ≤ 4096) (hN : ∀ s ∈ L, s.num) : VFn Tryz.prog 176 [smps L] (.str (B (smpsText L))) := by
  have hlen := smpsText_len hN
  refine VFn.introC Tryz.call176 Tryz.func176 rfl rfl ?_
  refine LoopC.mk (fun i : Nat => i ≤ L.length) (fun i => [(0, smps L), (3, .osl 0), (4, .int .i64 i)])
    (fun i => [(0, .arr 9 1 ((L.take i).map smpText).length fun k => [.str (B (ix ((L.take i).map smpText) k))])]) 1 (fun i => L.length - i) 0
    ⟨Nat.zero_le _, [(0, 0)], rfl, rfl, ⟨AVle.refl _, AVle.refl _, AVle.refl _, trivial⟩, ⟨MOle.arr rfl fun i hi => absurd hi (Nat.not_lt_zero i), trivial⟩⟩ ?_
  intro i hi
  refine Grd.intro (fun h2 => ?_) (fun h2 => ?_)
  · have hin : i < L.length := by have := of_decide_eq_true h2; omega
    have hs := hN _ (getD_mem hin)
    have h1 := itoa_len (n := (ix L i).t) (by have := hs.1; omega) (by have := hs.1; omega)
    have h3 := itoa_len (n := (ix L i).v) (by have := hs.2; omega) (by have := hs.2; omega)
    refine DrawC.mk 16 rfl (by kernel_rfl) ?_
    refine And.intro (by omega) ?_
    refine PCallC.sca _ (digits_fn (ix L i).t (by have := hs.1; omega) (by have := hs.1; omega)) rfl ?_
    refine And.intro (show (((B (Lib.itoa (ix L i).t)).size + (B [61]).size : Nat) : Int) ≤ 9223372036854775807 by rw [B_size, B_size]; simp; omega) ?_
    refine And.intro (by omega) ?_
    refine PCallC.sca _ (digits_fn (ix L i).v (by have := hs.2; omega) (by have := hs.2; omega)) rfl ?_
    refine And.intro (show (((B (Lib.itoa (ix L i).t) ++ B [61]).size + (B (Lib.itoa (ix L i).v)).size : Nat) : Int) ≤ 9223372036854775807 by rw [B_app, B_size, B_size]; simp; omega) ?_
    refine And.intro ⟨show (((L.take i).map smpText).length + 1) * 16 ≤ 140737488355328 by simp; omega, all1 rfl⟩ ?_
    refine And.intro (inI64 (by omega) (by omega)) ?_
    refine ⟨i + 1, hin, by omega, [(17, 0)], rfl, rfl, ⟨AVle.refl _, AVle.refl _, AVle.of_eq (congrArg (AV.int .i64) (by simp)), trivial⟩, ⟨?_, trivial⟩⟩
    exact arr_next (f := fun x => [.str (B x)]) (map_take_snoc hin) (show [AV.str (B (Lib.itoa (ix L i).t) ++ B [61] ++ B (Lib.itoa (ix L i).v))] = _ by rw [B_app, B_app, ← join2]; rfl)
  · have : i = L.length := by have := of_decide_eq_false h2; omega
    subst this
    have e : L.take L.length = L := List.take_of_length_le (Nat.le_refl _)
    rw [e]
    conv => whnf
    refine CallC.sca _ (l00Join_fn (L.map smpText) [32] (Nat.le_trans hlen (by omega)) (by simp; omega)) ?_ ?_
    · exact rfl
    exact And.intro trivial (AVle.refl _)

def Bk.ok (b : Bk) : Prop := (-1000000000 ≤ b.t ∧ b.t ≤ 1000000000) ∧ b.a.ok = true
theorem bkText_len {b : Bk} (h : b.ok) : (bkText b).length ≤ 154 := by
  have h1 := itoa_len (n := b.t) (by have := h.1; omega) (by have := h.1; omega)
  have h2 := atext_len h.2
  unfold bkText; rw [join2]; simp; omega
theorem bksText_len {L : List Bk} (h : ∀ s ∈ L, s.ok) : (bksText L).length ≤ 155 * L.length := by
  have := join_len (m := 154) (c := 1) (L := L.map bkText) (s := [32]) (fun x hx => by obtain ⟨y, hy, rfl⟩ := List.mem_map.1 hx; exact bkText_len (h y hy)) (by decide)
  simpa [bksText] using this
theorem bksOK_ok {L : List Bk} (h : bksOK L = true) : ∀ s ∈ L, s.ok := by
  simp only [bksOK, Bool.and_eq_true, allN_iff] at h
  intro s hs
  obtain ⟨i, hi, rfl⟩ := List.mem_iff_getElem.1 hs
  have := h.2 i hi
  rw [bkAt, Bool.and_eq_true, Bool.and_eq_true, Bool.and_eq_true] at this
  rw [← ix_lt hi]
  have a := win_iff.1 this.1.1.1
  have c := this.1.1.2
  exact ⟨⟨by omega, by omega⟩, c⟩
theorem bksOK_len {L : List Bk} (h : bksOK L = true) : L.length ≤ 8 := by
  simp only [bksOK, Bool.and_eq_true] at h
  exact of_decide_eq_true h.1
end Go.Proofs.YtpfmfdioonjccaaGreatDoor
