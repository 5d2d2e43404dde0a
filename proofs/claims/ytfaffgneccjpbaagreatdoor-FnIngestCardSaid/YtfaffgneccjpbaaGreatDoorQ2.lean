/- Contracts of functions that the claim reaches, and the plain law of what they compute; each theorem bears its own conditions. -/
import Derived.Test.YtfaffgneccjpbaaGreatDoorQ1
import Derived.Lib.AtoiErrMem
import Derived.Test.YtfaffgneccjpbaaGreatDoorV50
set_option linter.unusedVariables false
set_option linter.constructorNameAsVariable false
set_option linter.unusedSimpArgs false
set_option maxRecDepth 20000
namespace Go.Proofs.YtfaffgneccjpbaaGreatDoor
open Go Go.Vw

structure Smp where
  t : Int
  v : Int
instance : Inhabited Smp := ⟨⟨0, 0⟩⟩
def Smp.row (s : Smp) : List AV := [.int .i64 s.t, .int .i64 s.v]
abbrev smps (L : List Smp) : AV := .sl 2 L.length fun i => (ix L i).row
structure Bk where
  t : Int
  a : Ag
instance : Inhabited Ag := ⟨⟨0, 0, 0, 0, 0, 0⟩⟩
instance : Inhabited Bk := ⟨⟨0, default⟩⟩
def Bk.row (b : Bk) : List AV := [.int .i64 b.t, .int .i64 b.a.c, .int .i64 b.a.s, .int .i64 b.a.mn, .int .i64 b.a.mx, .int .i64 b.a.f, .int .i64 b.a.l]
abbrev bks (L : List Bk) : AV := .sl 7 L.length fun i => (ix L i).row

theorem isMoment_fn (n : Int) : VFn Tryz.prog 112 [.int .i64 n] (.bool (within n 0 99999)) := by
  refine VFn.introC Tryz.call112 Tryz.func112 rfl rfl ?_
  conv => whnf
  refine CallC.sca _ (within_fn _ _ _) ?_ ?_
  · exact rfl
  exact And.intro trivial (AVle.refl _)
def smpAt (L : List Smp) (i : Nat) : Bool := within (ix L i).t 0 99999 && within (ix L i).v (-1000000) 1000000 && (decide (i = 0) || decide ((ix L (i - 1)).t < (ix L i).t))
def smpsOK (L : List Smp) : Bool := decide (L.length ≤ 4096) && allN L.length (smpAt L)
def bkAt (L : List Bk) (i : Nat) : Bool := within (ix L i).t 0 99999 && (ix L i).a.ok && !decide ((ix L i).a.c = 0) && (decide (i = 0) || decide ((ix L (i - 1)).t < (ix L i).t))
def bksOK (L : List Bk) : Bool := decide (L.length ≤ 8) && allN L.length (bkAt L)

theorem isLongSmp_fn (L : List Smp) : VFn Tryz.prog 61 [smps L] (.bool (decide (4096 < L.length))) := by
  refine VFn.introC Tryz.call61 Tryz.func61 rfl rfl ?_
  exact And.intro trivial (AVle.of_eq (congrArg AV.bool (by simp; omega)))
theorem SamplesOK_fn (L : List Smp) : VFn Tryz.prog 62 [smps L] (.bool (smpsOK L)) := by
  refine VFn.introC Tryz.call62 Tryz.func62 rfl rfl ?_
  conv => whnf
  refine CallC.sca _ (isLongSmp_fn L) ?_ ?_
  · exact rfl
  refine Grd.intro (fun h1 => ?_) (fun h1 => ?_)
  · have := of_decide_eq_true h1
    exact And.intro trivial (AVle.of_eq (congrArg AV.bool (by simp [smpsOK]; omega)))
  have hn : L.length ≤ 4096 := by have := of_decide_eq_false h1; omega
  have no : ∀ i, i < L.length → smpAt L i = false → false = smpsOK L := fun i hi h => by simp [smpsOK, allN_no hi h]
  refine LoopC.mk (fun i : Nat => i ≤ L.length ∧ allN i (smpAt L) = true) (fun i => [(0, smps L), (7, smps L), (8, .int .i64 L.length), (9, .int .i64 i)]) (fun _ => []) 0 (fun i => L.length - i) 0
    ⟨⟨Nat.zero_le _, rfl⟩, [], rfl, rfl, ⟨AVle.refl _, AVle.refl _, AVle.refl _, AVle.refl _, trivial⟩, trivial⟩ ?_
  rintro i ⟨hi, ha⟩
  refine Grd.intro (fun h2 => ?_) (fun h2 => ?_)
  · have hin : i < L.length := by have := of_decide_eq_true h2; omega
    refine And.intro (by omega) ?_
    refine DrawC.mk 25 rfl (by kernel_rfl) ?_
    refine PCallC.sca _ (isMoment_fn _) rfl ?_
    refine Grd.intro (fun h3 => ?_) (fun h3 => ?_)
    · exact And.intro trivial (AVle.of_eq (congrArg AV.bool (no i hin (by simp at h3; simp [smpAt, h3]))))
    refine PCallC.sca _ (isValue_fn _) rfl ?_
    refine Grd.intro (fun h4 => ?_) (fun h4 => ?_)
    · exact And.intro trivial (AVle.of_eq (congrArg AV.bool (no i hin (by simp at h4; simp [smpAt, h4]))))
    simp at h3 h4
    refine Grd.intro (fun h5 => ?_) (fun h5 => ?_)
    · have h0 : 0 < i := by have := of_decide_eq_true h5; omega
      refine And.intro (inI64 (by omega) (by omega)) ?_
      refine And.intro (by omega) ?_
      refine Grd.intro (fun h6 => ?_) (fun h6 => ?_)
      · have h6 := of_decide_eq_true h6
        rw [show Int.toNat ((i : Int) - 1) = i - 1 by omega] at h6
        exact And.intro trivial (AVle.of_eq (congrArg AV.bool (no i hin (by
          have : ¬ (ix L (i - 1)).t < (ix L i).t := by simpa using h6
          have h00 : ¬ i = 0 := by omega
          simp only [smpAt, decide_eq_false h00, decide_eq_false this, Bool.or_false, Bool.and_false]))))
      · have h6 := of_decide_eq_false h6
        rw [show Int.toNat ((i : Int) - 1) = i - 1 by omega] at h6
        refine And.intro (inI64 (by omega) (by omega)) ?_
        refine ⟨i + 1, ⟨hin, allN_step ha ?_⟩, by omega, [], rfl, rfl, ⟨AVle.refl _, AVle.refl _, AVle.refl _, AVle.of_eq (congrArg (AV.int .i64) (by simp)), trivial⟩, trivial⟩
        have : (ix L (i - 1)).t < (ix L i).t := by simpa using h6
        simp [smpAt, h3, h4, this]
    · have h0 : i = 0 := by have := of_decide_eq_false h5; omega
      refine And.intro (inI64 (by omega) (by omega)) ?_
      refine ⟨i + 1, ⟨hin, allN_step ha ?_⟩, by omega, [], rfl, rfl, ⟨AVle.refl _, AVle.refl _, AVle.refl _, AVle.of_eq (congrArg (AV.int .i64) (by simp)), trivial⟩, trivial⟩
      subst h0; simp [smpAt, h3, h4]
  · have : i = L.length := by have := of_decide_eq_false h2; omega
    subst this
    exact And.intro trivial (AVle.of_eq (congrArg AV.bool (by simp [smpsOK, ha, hn])))

theorem BucketsOK_fn (L : List Bk) : VFn Tryz.prog 139 [bks L] (.bool (bksOK L)) := by
  refine VFn.introC Tryz.call139 Tryz.func139 rfl rfl ?_
  have no : ∀ i, i < L.length → bkAt L i = false → false = bksOK L := fun i hi h => by simp [bksOK, allN_no hi h]
  refine LoopC.mk (fun i : Nat => i ≤ L.length ∧ i ≤ 8 ∧ allN i (bkAt L) = true) (fun i => [(0, bks L), (5, bks L), (6, .int .i64 L.length), (7, .int .i64 i)]) (fun _ => []) 0 (fun i => L.length - i) 0
    ⟨⟨Nat.zero_le _, by omega, rfl⟩, [], rfl, rfl, ⟨AVle.refl _, AVle.refl _, AVle.refl _, AVle.refl _, trivial⟩, trivial⟩ ?_
  rintro i ⟨hi, hi8, ha⟩
  refine Grd.intro (fun h2 => ?_) (fun h2 => ?_)
  · have hin : i < L.length := by have := of_decide_eq_true h2; omega
    refine And.intro (by omega) ?_
    refine DrawC.mk 35 rfl (by kernel_rfl) ?_
    refine Grd.intro (fun h7 => ?_) (fun h7 => ?_)
    · have : (i : Int) = 8 := of_decide_eq_true h7
      exact And.intro trivial (AVle.of_eq (congrArg AV.bool (by simp [bksOK]; omega)))
    have hne : ¬ (i : Int) = 8 := of_decide_eq_false h7
    refine PCallC.sca _ (isMoment_fn _) rfl ?_
    refine Grd.intro (fun h3 => ?_) (fun h3 => ?_)
    · exact And.intro trivial (AVle.of_eq (congrArg AV.bool (no i hin (by simp at h3; simp [bkAt, h3]))))
    refine PCallC.sca _ (AggOK_fn (ix L i).a) rfl ?_
    refine Grd.intro (fun h4 => ?_) (fun h4 => ?_)
    · exact And.intro trivial (AVle.of_eq (congrArg AV.bool (no i hin (by simp at h4; simp [bkAt, h4]))))
    simp at h3 h4
    refine Grd.intro (fun h8 => ?_) (fun h8 => ?_)
    · exact And.intro trivial (AVle.of_eq (congrArg AV.bool (no i hin (by simp at h8; simp [bkAt, h8]))))
    simp at h8
    refine Grd.intro (fun h5 => ?_) (fun h5 => ?_)
    · have h0 : 0 < i := by have := of_decide_eq_true h5; omega
      refine And.intro (inI64 (by omega) (by omega)) ?_
      refine And.intro (by omega) ?_
      refine Grd.intro (fun h6 => ?_) (fun h6 => ?_)
      · have h6 := of_decide_eq_true h6
        rw [show Int.toNat ((i : Int) - 1) = i - 1 by omega] at h6
        exact And.intro trivial (AVle.of_eq (congrArg AV.bool (no i hin (by
          have : ¬ (ix L (i - 1)).t < (ix L i).t := by simpa using h6
          have h00 : ¬ i = 0 := by omega
          simp only [bkAt, decide_eq_false h00, decide_eq_false this, Bool.or_false, Bool.and_false]))))
      · have h6 := of_decide_eq_false h6
        rw [show Int.toNat ((i : Int) - 1) = i - 1 by omega] at h6
        refine And.intro (inI64 (by omega) (by omega)) ?_
        refine ⟨i + 1, ⟨hin, by omega, allN_step ha ?_⟩, by omega, [], rfl, rfl, ⟨AVle.refl _, AVle.refl _, AVle.refl _, AVle.of_eq (congrArg (AV.int .i64) (by simp)), trivial⟩, trivial⟩
        have : (ix L (i - 1)).t < (ix L i).t := by simpa using h6
        simp [bkAt, h3, h4, h8, this]
    · have h0 : i = 0 := by have := of_decide_eq_false h5; omega
      refine And.intro (inI64 (by omega) (by omega)) ?_
      refine ⟨i + 1, ⟨hin, by omega, allN_step ha ?_⟩, by omega, [], rfl, rfl, ⟨AVle.refl _, AVle.refl _, AVle.refl _, AVle.of_eq (congrArg (AV.int .i64) (by simp)), trivial⟩, trivial⟩
      subst h0; simp [bkAt, h3, h4, h8]
  · have : i = L.length := by have := of_decide_eq_false h2; omega
    subst this
    exact And.intro trivial (AVle.of_eq (congrArg AV.bool (by simp [bksOK, ha, hi8])))

def smpText (s : Smp) : List UInt8 := Lib.join [Lib.itoa s.t, Lib.itoa s.v] [61]
def smpsText (L : List Smp) : List UInt8 := Lib.join (L.map smpText) [32]
def bkText (b : Bk) : List UInt8 := Lib.join [Lib.itoa b.t, atext b.a] [58]
def bksText (L : List Bk) : List UInt8 := Lib.join (L.map bkText) [32]
theorem join2 (a b s : List UInt8) : Lib.join [a, b] s = a ++ s ++ b := by
  rw [Lib.join_cons]; simp [Lib.joinTail]
def Smp.num (s : Smp) : Prop := (-1000000000 ≤ s.t ∧ s.t ≤ 1000000000) ∧ (-1000000000 ≤ s.v ∧ s.v ≤ 1000000000)
theorem smpText_len {s : Smp} (h : s.num) : (smpText s).length ≤ 43 := by
  have h1 := itoa_len (n := s.t) (by have := h.1; omega) (by have := h.1; omega)
  have h2 := itoa_len (n := s.v) (by have := h.2; omega) (by have := h.2; omega)
  unfold smpText; rw [join2]; simp; omega
theorem smpsText_len {L : List Smp} (h : ∀ s ∈ L, s.num) : (smpsText L).length ≤ 44 * L.length := by
  have := join_len (m := 43) (c := 1) (L := L.map smpText) (s := [32]) (fun x hx => by obtain ⟨y, hy, rfl⟩ := List.mem_map.1 hx; exact smpText_len (h y hy)) (by decide)
  simpa [smpsText] using this
theorem smpsOK_num {L : List Smp} (h : smpsOK L = true) : ∀ s ∈ L, s.num := by
  simp only [smpsOK, Bool.and_eq_true, allN_iff] at h
  intro s hs
  obtain ⟨i, hi, rfl⟩ := List.mem_iff_getElem.1 hs
  have := h.2 i hi
  rw [smpAt, Bool.and_eq_true, Bool.and_eq_true] at this
  rw [← ix_lt hi]
  have a := win_iff.1 this.1.1
  have b := win_iff.1 this.1.2
  exact ⟨⟨by omega, by omega⟩, ⟨by omega, by omega⟩⟩
theorem samplesText_fn (L : List Smp) (hL : L.length ≤ 4096) (hN : ∀ s ∈ L, s.num) : VFn Tryz.prog 114 [smps L] (.str (B (smpsText L))) := by
  have hlen := smpsText_len hN
  refine VFn.introC Tryz.call114 Tryz.func114 rfl rfl ?_
  refine LoopC.mk (fun i : Nat => i ≤ L.length) (fun i => [(7, smps L), (8, .int .i64 L.length), (3, .osl 0), (9, .int .i64 i)])
    (fun i => [(0, .arr 20 1 ((L.take i).map fun s => It.t (smpText s)).length (itRow ((L.take i).map fun s => It.t (smpText s))))]) 1 (fun i => L.length - i) 0
    ⟨Nat.zero_le _, [(0, 0)], rfl, rfl, ⟨AVle.refl _, AVle.refl _, AVle.refl _, AVle.refl _, trivial⟩, ⟨MOle.arr rfl fun i hi => absurd hi (Nat.not_lt_zero i), trivial⟩⟩ ?_
  intro i hi
  refine Grd.intro (fun h2 => ?_) (fun h2 => ?_)
  · have hin : i < L.length := by have := of_decide_eq_true h2; omega
    have hs := hN _ (getD_mem hin)
    refine And.intro (by omega) ?_
    conv => whnf
    refine CallC.sca _ (joined_of [It.n (ix L i).t, It.n (ix L i).v] (n := 2) ⟨rfl, rfl, trivial⟩ rfl [61] (show 2 ≤ 100000000 by decide) (fun x hx => by simp only [List.mem_cons, List.not_mem_nil, or_false] at hx; obtain ⟨g1, g2⟩ := hs; rcases hx with rfl | rfl; exact ⟨by omega, by omega⟩; exact ⟨by omega, by omega⟩) (show (smpText (ix L i)).length ≤ _ by have := smpText_len hs; omega)) ?_ ?_
    · exact rfl
    refine And.intro ⟨show (((L.take i).map fun s => It.t (smpText s)).length + 1) * 16 ≤ 140737488355328 by simp; omega, all1 rfl⟩ ?_
    refine And.intro (inI64 (by omega) (by omega)) ?_
    refine ⟨i + 1, hin, by omega, [(4, 0)], rfl, rfl, ⟨AVle.refl _, AVle.refl _, AVle.refl _, AVle.of_eq (congrArg (AV.int .i64) (by simp)), trivial⟩, ⟨?_, trivial⟩⟩
    exact arr_next (f := It.row) (map_take_snoc hin) rfl
  · have : i = L.length := by have := of_decide_eq_false h2; omega
    subst this
    have e : L.take L.length = L := List.take_of_length_le (Nat.le_refl _)
    have e2 : (L.map fun s => It.t (smpText s)).map It.txt = L.map smpText := by rw [List.map_map]; rfl
    rw [e]
    conv => whnf
    refine CallC.sca _ (said_fn (L.map fun s => It.t (smpText s)) (by simp; omega) (fun x hx => by obtain ⟨y, _, rfl⟩ := List.mem_map.1 hx; trivial) (by rw [e2]; exact Nat.le_trans hlen (by omega))) ?_ ?_
    · exact rfl
    exact And.intro trivial (AVle.of_eq (congrArg (fun l => AV.str (B l)) (show Lib.join _ [32] = smpsText L by rw [e2]; rfl)))

theorem l03Samples_fn (L : List Smp) (hL : L.length ≤ 4096) (hN : ∀ s ∈ L, s.num) : VFn Tryz.prog 71 [smps L] (.str (B (smpsText L))) := by
  have hlen := smpsText_len hN
  refine VFn.introC Tryz.call71 Tryz.func71 rfl rfl ?_
  refine LoopC.mk (fun i : Nat => i ≤ L.length) (fun i => [(0, smps L), (3, .osl 0), (4, .int .i64 i)])
    (fun i => [(0, .arr 9 1 ((L.take i).map smpText).length fun k => [.str (B (ix ((L.take i).map smpText) k))])]) 1 (fun i => L.length - i) 0
    ⟨Nat.zero_le _, [(0, 0)], rfl, rfl, ⟨AVle.refl _, AVle.refl _, AVle.refl _, trivial⟩, ⟨MOle.arr rfl fun i hi => absurd hi (Nat.not_lt_zero i), trivial⟩⟩ ?_
  intro i hi
  refine Grd.intro (fun h2 => ?_) (fun h2 => ?_)
  · have hin : i < L.length := by have := of_decide_eq_true h2; omega
    have hs := hN _ (getD_mem hin)
    have h1 := itoa_len (n := (ix L i).t) (by have := hs.1; omega) (by have := hs.1; omega)
    have h3 := itoa_len (n := (ix L i).v) (by have := hs.2; omega) (by have := hs.2; omega)
    refine DrawC.mk 16 rfl (by kernel_rfl) ?_
    refine And.intro (by omega) ?_
    refine PCallC.sca _ (digits_fn (ix L i).t (by have := hs.1; omega) (by have := hs.1; omega)) rfl ?_
    refine And.intro (show (((B (Lib.itoa (ix L i).t)).size + (B [61]).size : Nat) : Int) ≤ 9223372036854775807 by rw [B_size, B_size]; simp; omega) ?_
    refine And.intro (by omega) ?_
    refine PCallC.sca _ (digits_fn (ix L i).v (by have := hs.2; omega) (by have := hs.2; omega)) rfl ?_
    refine And.intro (show (((B (Lib.itoa (ix L i).t) ++ B [61]).size + (B (Lib.itoa (ix L i).v)).size : Nat) : Int) ≤ 9223372036854775807 by rw [B_app, B_size, B_size]; simp; omega) ?_
    refine And.intro ⟨show (((L.take i).map smpText).length + 1) * 16 ≤ 140737488355328 by simp; omega, all1 rfl⟩ ?_
    refine And.intro (inI64 (by omega) (by omega)) ?_
    refine ⟨i + 1, hin, by omega, [(17, 0)], rfl, rfl, ⟨AVle.refl _, AVle.refl _, AVle.of_eq (congrArg (AV.int .i64) (by simp)), trivial⟩, ⟨?_, trivial⟩⟩
    exact arr_next (f := fun x => [.str (B x)]) (map_take_snoc hin) (show [AV.str (B (Lib.itoa (ix L i).t) ++ B [61] ++ B (Lib.itoa (ix L i).v))] = _ by rw [B_app, B_app, ← join2]; rfl)
  · have : i = L.length := by have := of_decide_eq_false h2; omega
    subst this
    have e : L.take L.length = L := List.take_of_length_le (Nat.le_refl _)
    rw [e]
    conv => whnf
    refine CallC.sca _ (l00Join_fn (L.map smpText) [32] (Nat.le_trans hlen (by omega)) (by simp; omega)) ?_ ?_
    · exact rfl
    exact And.intro trivial (AVle.refl _)

def Bk.ok (b : Bk) : Prop := (-1000000000 ≤ b.t ∧ b.t ≤ 1000000000) ∧ b.a.ok = true
end Go.Proofs.YtfaffgneccjpbaaGreatDoor
set_option linter.unusedVariables false
set_option linter.constructorNameAsVariable false
set_option linter.unusedSimpArgs false
set_option maxRecDepth 20000
namespace Go.Proofs.YtfaffgneccjpbaaGreatDoor
open Go Go.Vw

/-- what BucketsText tells -/
def bksCode (L : List Bk) : Int := firstC [(decide (4096 < L.length), 2), (!bksOK L, 1)]
def bksRes (L : List Bk) : List UInt8 := if bksCode L = 0 then bksText L else []
end Go.Proofs.YtfaffgneccjpbaaGreatDoor
set_option linter.unusedVariables false
set_option linter.constructorNameAsVariable false
set_option linter.unusedSimpArgs false
set_option maxRecDepth 20000
namespace Go.Proofs.YtfaffgneccjpbaaGreatDoor
open Go Go.Vw

structure Act where
  k : Int
  who : Int
  n : Int
  tier : Int
  f : Int
  t : Int
  b : List Smp
def Act.av (a : Act) : AV := .agg [.int .i64 a.k, .int .i64 a.who, .int .i64 a.n, .int .i64 a.tier, .int .i64 a.f, .int .i64 a.t, smps a.b]
def isRange (f t : Int) : Bool := within f 0 100000 && within t f 100000
def Act.noR (a : Act) : Bool := decide (a.tier = 0) && decide (a.f = 0) && decide (a.t = 0)
def Act.noB (a : Act) : Bool := decide ((a.b.length : Int) = 0)
def Act.ok (a : Act) : Bool :=
  if a.k = 1 ∨ a.k = 2 then within a.who 0 6 && decide (a.n = 0) && a.noR && a.noB
  else if a.k = 3 then decide (a.who = 0) && within a.n 0 1000 && a.noR && a.noB
  else if a.k = 4 then within a.who 0 6 && within a.n (-3) 3 && a.noR && a.noB
  else if a.k = 5 then within a.who 2 3 && decide (a.n = 0) && a.noR && within a.b.length 1 8 && smpsOK a.b
  else if a.k = 6 then within a.who 4 5 && decide (a.n = 0) && within a.tier 0 2 && isRange a.f a.t && a.noB
  else false
theorem isRange_fn (f t : Int) : VFn Tryz.prog 50 [.int .i64 f, .int .i64 t] (.bool (isRange f t)) := by
  refine VFn.introC Tryz.call50 Tryz.func50 rfl rfl ?_
  repeat' (first
    | refine Grd.intro (fun h => ?_) (fun h => ?_)
    | refine And.intro trivial (AVle.of_eq (congrArg AV.bool ?_)))
  all_goals (simp_all [isRange, within]; try omega)
theorem smpsOK_nil {L : List Smp} (h : L.length = 0) : smpsOK L = true := by
  have : L = [] := List.eq_nil_of_length_eq_zero h
  subst this; rfl
def mid (n : Int) : Prop := -1000000 ≤ n ∧ n ≤ 1000000
theorem Act.okN {a : Act} (h : a.ok = true) : mid a.who ∧ mid a.n ∧ mid a.tier ∧ mid a.f ∧ mid a.t ∧ smpsOK a.b = true ∧ a.b.length ≤ 8 := by
  unfold mid
  have e : a.noB = true → smpsOK a.b = true ∧ a.b.length ≤ 8 := fun h => by
    have : a.b.length = 0 := by have := of_decide_eq_true h; omega
    exact ⟨smpsOK_nil this, by omega⟩
  simp only [Act.ok] at h
  split at h
  · simp only [Bool.and_eq_true, win_iff, Act.noR, decide_eq_true_eq] at h
    obtain ⟨⟨⟨h1, h2⟩, ⟨h3, h4⟩, h5⟩, h6⟩ := h
    exact ⟨by omega, by omega, by omega, by omega, by omega, e h6⟩
  split at h
  · simp only [Bool.and_eq_true, win_iff, Act.noR, decide_eq_true_eq] at h
    obtain ⟨⟨⟨h1, h2⟩, ⟨h3, h4⟩, h5⟩, h6⟩ := h
    exact ⟨by omega, by omega, by omega, by omega, by omega, e h6⟩
  split at h
  · simp only [Bool.and_eq_true, win_iff, Act.noR, decide_eq_true_eq] at h
    obtain ⟨⟨⟨h1, h2⟩, ⟨h3, h4⟩, h5⟩, h6⟩ := h
    exact ⟨by omega, by omega, by omega, by omega, by omega, e h6⟩
  split at h
  · simp only [Bool.and_eq_true, win_iff, Act.noR, decide_eq_true_eq] at h
    obtain ⟨⟨⟨⟨h1, h2⟩, ⟨h3, h4⟩, h5⟩, h6⟩, h7⟩ := h
    exact ⟨by omega, by omega, by omega, by omega, by omega, h7, by omega⟩
  split at h
  · simp only [Bool.and_eq_true, win_iff, isRange, decide_eq_true_eq] at h
    obtain ⟨⟨⟨⟨h1, h2⟩, h3⟩, h4, h5⟩, h6⟩ := h
    exact ⟨by omega, by omega, by omega, by omega, by omega, e h6⟩
  · cases h

def Act.items (a : Act) : List It :=
  if a.k = 1 then [.t [115, 116, 101, 112], .n a.who]
  else if a.k = 2 then [.t [99, 114, 97, 115, 104], .n a.who]
  else if a.k = 3 then [.t [116, 105, 99, 107], .n a.n]
  else if a.k = 4 then [.t [115, 107, 101, 119], .n a.who, .n a.n]
  else if a.k = 5 then [.t [105, 110, 103, 101, 115, 116], .n a.who, .t (smpsText a.b)]
  else [.t [113, 117, 101, 114, 121], .n a.who, .n a.tier, .n a.f, .n a.t]
def Act.text (a : Act) : List UInt8 := Lib.join (a.items.map It.txt) [32]
def Act.res (a : Act) : List UInt8 := if a.ok = true then a.text else []
def Act.code (a : Act) : Int := if a.ok = true then 0 else 1
theorem mid_len {n : Int} (h : mid n) : (Lib.itoa n).length ≤ 21 := itoa_len (by have := h.1; omega) (by have := h.2; omega)
end Go.Proofs.YtfaffgneccjpbaaGreatDoor
set_option linter.unusedVariables false
set_option linter.constructorNameAsVariable false
set_option linter.unusedSimpArgs false
set_option maxRecDepth 20000
namespace Go.Proofs.YtfaffgneccjpbaaGreatDoor
open Go Go.Vw

theorem CutPrefix_fn (s p : List UInt8) : VFn Tryz.prog 125 [.str (B s), .str (B p)] (.tup [.str (B (Lib.trimPrefix s p)), .bool (Lib.hasPrefix s p)]) := by
  refine VFn.lib Tryz.call125 fun w ok vs hJ hok hv => ?_
  obtain ⟨v, us, rfl, hv, v2, us2, rfl, hv2, hus⟩ := hv
  have e1 : v = .string (B s) := hv
  have e2 : v2 = .string (B p) := hv2
  have e3 : us2 = [] := hus
  subst e1 e2 e3
  refine (Tryz.strings_CutPrefix (B s) (B p) w).mono ?_
  rintro e w' ⟨rfl, rfl⟩
  refine ⟨_, rfl, Go.RowKit.Below.refl _ _, fun _ _ => ⟨[_, _], rfl, _, _, rfl, ?_, _, _, rfl, ?_, rfl⟩⟩
  · show Value.string _ = _
    rw [B_data, B_data]; rfl
  · show Value.bool _ = _
    rw [B_data, B_data]

theorem atoi_end (l : List UInt8) : (atoiOk l = true ∧ Lib.atoiAll l = .ok (atoiV l)) ∨ (atoiOk l = false ∧ Lib.atoiAll l = .syntax ∧ atoiV l = 0) ∨ (atoiOk l = false ∧ Lib.atoiAll l = .range ∧ atoiV l = Lib.atoiSat l) := by
  unfold atoiOk atoiV
  cases h : Lib.atoiAll l
  · exact .inl ⟨rfl, rfl⟩
  · exact .inr (.inl ⟨rfl, rfl, rfl⟩)
  · exact .inr (.inr ⟨rfl, rfl, rfl⟩)
theorem Atoi_ok (l : List UInt8) (hl : l.length ≤ 281474976710656) (h : atoiOk l = true) : VFn Tryz.prog 146 [.str (B l)] (.tup [.int .i64 (atoiV l), .niliface]) := by
  have h' : Lib.atoiAll (B l).data.toList = .ok (atoiV l) := by
    rw [B_data]
    rcases atoi_end l with h1 | h1 | h1
    · exact h1.2
    · rw [h] at h1; cases h1.1
    · rw [h] at h1; cases h1.1
  refine VFn.lib Tryz.call146 fun w ok vs hJ hok hv => ?_
  obtain ⟨v, us, rfl, hv, hus⟩ := hv
  have e1 : v = .string (B l) := hv
  have e3 : us = [] := hus
  subst e1 e3
  refine (Tryz.strconv_Atoi_ok (B l) (by rw [B_size]; omega) (atoiV l) h' w).mono ?_
  rintro e w' ⟨rfl, hw⟩
  refine ⟨_, rfl, ?_, fun _ _ => ⟨[_, _], rfl, _, _, rfl, rfl, _, _, rfl, rfl, rfl⟩⟩
  rcases hw with rfl | ⟨t, rfl⟩
  · exact Go.RowKit.Below.refl _ _
  · exact Go.Lib.bytesWorld_below _ _ _
theorem Atoi_no (l : List UInt8) (hl : l.length ≤ 281474976710656) (h : atoiOk l = false) : VFn Tryz.prog 146 [.str (B l)] (.tup [.int .i64 (atoiV l), .iface 222 .any]) := by
  refine VFn.lib Tryz.call146 fun w ok vs hJ hok hv => ?_
  obtain ⟨v, us, rfl, hv, hus⟩ := hv
  have e1 : v = .string (B l) := hv
  have e3 : us = [] := hus
  subst e1 e3
  rcases atoi_end l with h1 | ⟨_, h1, h2⟩ | ⟨_, h1, h2⟩
  · rw [h] at h1; cases h1.1
  · obtain ⟨tp, p, hv⟩ := tab_syntax hJ
    refine (Tryz.strconv_Atoi_syntax_var (B l) (by rw [B_size]; omega) (by rw [B_data]; exact h1) tp p w hv).mono ?_
    rintro e w' ⟨N, rfl, _, _, bel⟩
    refine ⟨_, rfl, bel, fun _ _ => ⟨[_, _], rfl, _, _, rfl, ?_, _, _, rfl, ⟨_, rfl, trivial⟩, rfl⟩⟩
    rw [h2]; rfl
  · obtain ⟨tp, p, hv⟩ := tab_range hJ
    refine (Tryz.strconv_Atoi_range_var (B l) (by rw [B_size]; omega) (by rw [B_data]; exact h1) tp p w hv).mono ?_
    rintro e w' ⟨N, rfl, _, _, bel⟩
    refine ⟨_, rfl, bel, fun _ _ => ⟨[_, _], rfl, _, _, rfl, ?_, _, _, rfl, ⟨_, rfl, trivial⟩, rfl⟩⟩
    rw [h2, ← B_data l]; rfl
end Go.Proofs.YtfaffgneccjpbaaGreatDoor
set_option linter.unusedVariables false
set_option linter.constructorNameAsVariable false
set_option linter.unusedSimpArgs false
set_option maxRecDepth 20000
namespace Go.Proofs.YtfaffgneccjpbaaGreatDoor
open Go Go.Vw

theorem six_fn (n : Int) (h : within n 0 999999 = true) : VFn Tryz.prog 80 [.int .i64 n] (.str (B (six6 n.toNat))) := by
  have hb : 0 ≤ n ∧ n ≤ 999999 := by simpa [within] using h
  have e : 1000000 + n = 1000000 + ((n.toNat : Nat) : Int) := by omega
  have hi := itoa_million (n := n.toNat) (by omega)
  refine VFn.introC Tryz.call80 Tryz.func80 rfl rfl ?_
  refine And.intro (inI64 (by omega) (by omega)) ?_
  conv => whnf
  refine CallC.sca _ (Itoa_fn (1000000 + n) (by omega) (by omega)) ?_ ?_
  · exact rfl
  conv => whnf
  refine And.intro ?_ ?_
  · refine ⟨by omega, ?_⟩
    rw [B_size, e, hi]; simp [six6_len]
  refine And.intro trivial (AVle.of_eq (congrArg AV.str ?_))
  rw [B_extract, B_size, e, hi]; rfl
theorem isSix_fn (n : Int) : VFn Tryz.prog 39 [.int .i64 n] (.bool (within n 0 999999)) := by
  refine VFn.introC Tryz.call39 Tryz.func39 rfl rfl ?_
  conv => whnf
  refine CallC.sca _ (within_fn _ _ _) ?_ ?_
  · exact rfl
  exact And.intro trivial (AVle.refl _)
theorem atoi_yes {l : List UInt8} (hl : l.length = 6) (h : l.all dig = true) : atoiOk l = true ∧ atoiV l = numB 0 l ∧ within (atoiV l) 0 999999 = true ∧ six6 (atoiV l).toNat = l := by
  have h1 := atoi_dig (by intro e; subst e; cases hl) (by omega) h
  have h2 := six6_numB hl h
  have h3 : atoiV l = numB 0 l := by unfold atoiV; rw [h1]
  refine ⟨by unfold atoiOk; rw [h1], h3, ?_, ?_⟩
  · rw [h3]; simp [within]; omega
  · rw [h3]; exact h2.2
theorem readSix_fn (l : List UInt8) (hl : l.length = 6) : VFn Tryz.prog 126 [.str (B l)] (.tup [.int .i64 (atoiV l), .bool (l.all dig)]) := by
  refine VFn.introC Tryz.call126 Tryz.func126 rfl rfl ?_
  by_cases hd : l.all dig = true
  · obtain ⟨h1, h2, h3, h4⟩ := atoi_yes hl hd
    conv => whnf
    refine CallC.sca _ (Atoi_ok l (by omega) h1) ?_ ?_
    · exact rfl
    conv => whnf
    refine CallC.sca _ (isSix_fn _) ?_ ?_
    · exact rfl
    refine Grd.intro (fun h => ?_) (fun h => absurd (h.symm.trans h3) (by simp))
    conv => whnf
    refine CallC.sca _ (six_fn _ h3) ?_ ?_
    · exact rfl
    refine And.intro trivial (AVle.of_eq (show AV.tup [AV.int .i64 (atoiV l), AV.bool ((B (six6 (atoiV l).toNat)).toList == (B l).toList)] = _ from ?_))
    rw [B_eq, hd, h4]; simp
  · have hd' : l.all dig = false := by simpa using hd
    by_cases ho : atoiOk l = true
    · conv => whnf
      refine CallC.sca _ (Atoi_ok l (by omega) ho) ?_ ?_
      · exact rfl
      conv => whnf
      refine CallC.sca _ (isSix_fn _) ?_ ?_
      · exact rfl
      refine Grd.intro (fun h => ?_) (fun h => ?_)
      · conv => whnf
        refine CallC.sca _ (six_fn _ h) ?_ ?_
        · exact rfl
        refine And.intro trivial (AVle.of_eq (show AV.tup [AV.int .i64 (atoiV l), AV.bool ((B (six6 (atoiV l).toNat)).toList == (B l).toList)] = _ from ?_))
        have : ¬ six6 (atoiV l).toNat = l := fun e => hd (by rw [← e]; exact six6_dig _)
        rw [B_eq, hd']; simp [this]
      · rw [hd']
        exact And.intro trivial (AVle.refl _)
    · conv => whnf
      refine CallC.sca _ (Atoi_no l (by omega) (by simpa using ho)) ?_ ?_
      · exact rfl
      rw [hd']
      exact And.intro trivial (AVle.refl _)
theorem dataPrefixes_fn : VFn Tryz.prog 83 [] (txts [pre 0, pre 1, pre 2]) := by
  refine VFn.introC Tryz.call83 Tryz.func83 rfl rfl ?_
  refine And.intro trivial (AVle.sl rfl fun i hi => ?_)
  have : i = 0 ∨ i = 1 ∨ i = 2 := by omega
  rcases this with rfl | rfl | rfl <;> rfl
theorem readSix_at {s : ByteArray} {l : List UInt8} (e : s = B l) (hl : l.length = 6) : VFn Tryz.prog 126 [.str s] (.tup [.int .i64 (atoiV l), .bool (l.all dig)]) := by
  subst e; exact readSix_fn l hl
theorem readDataKey_fn (k : List UInt8) : VFn Tryz.prog 79 [.str (B k)] (.tup [.int .i64 (kT k), .int .i64 (kN k), .int .i64 (kW k), .bool (kOk k)]) := by
  refine VFn.introC Tryz.call79 Tryz.func79 rfl rfl ?_
  conv => whnf
  refine CallC.nl _ (dataPrefixes_fn) ?_ ?_
  · exact rfl
  refine LoopC.mk (fun i : Nat => i ≤ 3 ∧ ∀ j, j < i → tryK j k = none) (fun i => [(0, .str (B k)), (14, txts [pre 0, pre 1, pre 2]), (15, .int .i64 3), (16, .int .i64 i)]) (fun _ => []) 0 (fun i => 3 - i) 0
    ⟨⟨by omega, fun j hj => absurd hj (by omega)⟩, [], rfl, rfl, ⟨AVle.refl _, AVle.refl _, AVle.refl _, AVle.refl _, trivial⟩, trivial⟩ ?_
  intro i hi
  refine Grd.intro (fun h2 => ?_) (fun h2 => ?_)
  · have hin : i < 3 := by have := of_decide_eq_true h2; omega
    have hp : ix [pre 0, pre 1, pre 2] i = pre i := by
      have : i = 0 ∨ i = 1 ∨ i = 2 := by omega
      rcases this with rfl | rfl | rfl <;> rfl
    have hnext : tryK i k = none → ∀ j, j < i + 1 → tryK j k = none := fun h j hj => by
      rcases Nat.lt_or_ge j i with h' | h'
      · exact hi.2 j h'
      · rw [show j = i by omega]; exact h
    conv => whnf
    refine And.intro ⟨by omega, by show (i : Int) < ((3 : Nat) : Int); omega⟩ ?_
    conv => whnf
    refine CallC.sca _ (CutPrefix_fn k (ix [pre 0, pre 1, pre 2] i)) ?_ ?_
    · exact rfl
    have ht : Lib.hasPrefix k (ix [pre 0, pre 1, pre 2] i) = true → Lib.trimPrefix k (ix [pre 0, pre 1, pre 2] i) = k.drop (pre i).length := fun h => by
      unfold Lib.trimPrefix; rw [if_pos h, hp]
    have h0 : Lib.hasPrefix k (ix [pre 0, pre 1, pre 2] i) = false → tryK i k = none := fun h => by
      unfold tryK; rw [← hp, h]; rfl
    have h1 : Lib.hasPrefix k (ix [pre 0, pre 1, pre 2] i) = true → tryK i k = restK i (k.drop (pre i).length) := fun h => by
      rw [hp] at h; unfold tryK; rw [if_pos h]
    generalize Lib.hasPrefix k (ix [pre 0, pre 1, pre 2] i) = hP at h0 h1 ht
    generalize hr : Lib.trimPrefix k (ix [pre 0, pre 1, pre 2] i) = r at ht
    refine Grd.intro (fun h3 => ?_) (fun h3 => ?_)
    · have hr' := ht h3
      have h1' := h1 h3
      rw [← hr'] at h1'
      have hfail : restK i r = none → ∀ j, j < i + 1 → tryK j k = none := fun h => hnext (h1'.trans h)
      refine Grd.intro (fun h4 => ?_) (fun h4 => ?_)
      · have h13 : r.length = 13 := by have := of_decide_eq_true h4; rw [B_size] at this; omega
        refine And.intro ⟨by omega, by rw [B_size]; omega⟩ ?_
        refine Grd.intro (fun h5 => ?_) (fun h5 => ?_)
        · have h6 : ix r 6 = 45 := by
            have h : ((r.getD 6 0).toNat : Int) = 45 := of_decide_eq_true h5
            exact UInt8.toNat_inj.1 (by show (r.getD 6 0).toNat = 45; omega)
          have hA : (B r).extract 0 6 = B (r.take 6) := by rw [B_extract]; rfl
          have hB : (B r).extract 7 (B r).size = B (r.drop 7) := by rw [B_extract, B_size, h13, List.take_of_length_le (by simp; omega)]
          have hlA : (r.take 6).length = 6 := by simp; omega
          have hlB : (r.drop 7).length = 6 := by simp; omega
          conv => whnf
          refine And.intro ⟨by omega, by rw [B_size]; omega⟩ ?_
          conv => whnf
          refine CallC.sca _ (readSix_at hA hlA) ?_ ?_
          · exact rfl
          conv => whnf
          refine And.intro ⟨by omega, by rw [B_size]; omega⟩ ?_
          conv => whnf
          refine CallC.sca _ (readSix_at hB hlB) ?_ ?_
          · exact rfl
          refine Grd.intro (fun h7 => ?_) (fun h7 => ?_)
          · refine Grd.intro (fun h8 => ?_) (fun h8 => ?_)
            · have hs : restK i r = some (i, numB 0 (r.take 6), numB 0 (r.drop 7)) := by
                unfold restK; rw [if_pos ⟨h13, h6, h7, h8⟩]
              have hk := tryK_parse hin (h1'.trans hs)
              refine And.intro trivial (AVle.of_eq (show AV.tup [AV.int .i64 i, AV.int .i64 (atoiV (r.take 6)), AV.int .i64 (atoiV (r.drop 7)), AV.bool true] = _ from ?_))
              unfold kT kN kW kOk
              rw [hk, (atoi_yes hlA h7).2.1, (atoi_yes hlB h8).2.1]; rfl
            · have := hfail (by unfold restK; rw [if_neg (fun h => absurd (h.2.2.2.symm.trans h8) (by simp))])
              refine And.intro (inI64 (by omega) (by omega)) ?_
              exact ⟨i + 1, ⟨by omega, this⟩, by omega, [], rfl, rfl, ⟨AVle.refl _, AVle.refl _, AVle.refl _, AVle.of_eq (congrArg (AV.int .i64) (by simp)), trivial⟩, trivial⟩
          · have := hfail (by unfold restK; rw [if_neg (fun h => absurd (h.2.2.1.symm.trans h7) (by simp))])
            refine And.intro (inI64 (by omega) (by omega)) ?_
            exact ⟨i + 1, ⟨by omega, this⟩, by omega, [], rfl, rfl, ⟨AVle.refl _, AVle.refl _, AVle.refl _, AVle.of_eq (congrArg (AV.int .i64) (by simp)), trivial⟩, trivial⟩
        · have := hfail (by
            unfold restK; rw [if_neg]
            rintro ⟨_, h6, _⟩
            have h : ¬ ((r.getD 6 0).toNat : Int) = 45 := of_decide_eq_false h5
            exact h (by rw [show r.getD 6 0 = 45 from h6]; rfl))
          refine And.intro (inI64 (by omega) (by omega)) ?_
          exact ⟨i + 1, ⟨by omega, this⟩, by omega, [], rfl, rfl, ⟨AVle.refl _, AVle.refl _, AVle.refl _, AVle.of_eq (congrArg (AV.int .i64) (by simp)), trivial⟩, trivial⟩
      · have h13 : ¬ r.length = 13 := by have := of_decide_eq_false h4; rw [B_size] at this; omega
        have := hfail (by unfold restK; rw [if_neg (fun h => h13 h.1)])
        refine And.intro (inI64 (by omega) (by omega)) ?_
        exact ⟨i + 1, ⟨by omega, this⟩, by omega, [], rfl, rfl, ⟨AVle.refl _, AVle.refl _, AVle.refl _, AVle.of_eq (congrArg (AV.int .i64) (by simp)), trivial⟩, trivial⟩
    · have := hnext (h0 (by simpa using h3))
      refine And.intro (inI64 (by omega) (by omega)) ?_
      exact ⟨i + 1, ⟨by omega, this⟩, by omega, [], rfl, rfl, ⟨AVle.refl _, AVle.refl _, AVle.refl _, AVle.of_eq (congrArg (AV.int .i64) (by simp)), trivial⟩, trivial⟩
  · have h3 : i = 3 := by have := of_decide_eq_false h2; omega
    subst h3
    have hk := parse_none hi.2
    refine And.intro trivial (AVle.of_eq (show AV.tup [AV.int .i64 0, AV.int .i64 0, AV.int .i64 0, AV.bool false] = _ from ?_))
    unfold kT kN kW kOk
    rw [hk]; rfl
end Go.Proofs.YtfaffgneccjpbaaGreatDoor
set_option linter.unusedVariables false
set_option linter.constructorNameAsVariable false
set_option linter.unusedSimpArgs false
set_option maxRecDepth 20000
namespace Go.Proofs.YtfaffgneccjpbaaGreatDoor
open Go Go.Vw

theorem numB_snoc : ∀ (l : List UInt8) (n : Nat) (c : UInt8), numB n (l ++ [c]) = numB n l * 10 + (c.toNat - 48)
  | [], n, c => rfl
  | x :: r, n, c => numB_snoc r _ c
/-- what is cut off, and from where on -/
def cutS (c : UInt8) (l : List UInt8) : Nat → List (List UInt8) × Nat
  | 0 => ([], 0)
  | i + 1 => if ix l i = c then ((cutS c l i).1 ++ [(l.drop (cutS c l i).2).take (i - (cutS c l i).2)], i + 1) else cutS c l i
theorem cutS_from (c : UInt8) (l : List UInt8) : ∀ i, (cutS c l i).2 ≤ i ∧ (cutS c l i).1.length ≤ i
  | 0 => ⟨Nat.le_refl _, Nat.le_refl _⟩
  | i + 1 => by
    have := cutS_from c l i
    unfold cutS; split
    · simp; omega
    · omega
theorem drop_take_snoc {l : List UInt8} {f i : Nat} (h : i < l.length) (hf : f ≤ i) : (l.drop f).take (i + 1 - f) = (l.drop f).take (i - f) ++ [ix l i] := by
  have e : i + 1 - f = i - f + 1 := by omega
  rw [e, take_snoc (by simp; omega), ix_drop, show f + (i - f) = i by omega]
theorem cutS_all (c : UInt8) (l : List UInt8) : ∀ i, i ≤ l.length → (cutS c l i).1 ++ cutP c ((l.drop (cutS c l i).2).take (i - (cutS c l i).2)) (l.drop i) = cutP c [] l
  | 0, _ => rfl
  | i + 1, h => by
    have ih := cutS_all c l i (by omega)
    have hf := (cutS_from c l i).1
    rw [← ih, drop_ix (L := l) (i := i) (by omega)]
    have e : cutS c l (i + 1) = if ix l i = c then ((cutS c l i).1 ++ [(l.drop (cutS c l i).2).take (i - (cutS c l i).2)], i + 1) else cutS c l i := rfl
    by_cases hc : ix l i = c
    · rw [e, if_pos hc]
      simp only [cutP, if_pos hc, Nat.sub_self, List.take_zero, List.append_assoc, List.cons_append, List.nil_append]
    · rw [e, if_neg hc]
      simp only [cutP, if_neg hc]
      rw [drop_take_snoc (by omega) hf]
theorem dd6 {n : Nat} (h : n ≤ 999999) : (Lib.decDigits n).length ≤ 6 := by
  have := congrArg List.length (pad6_dd h)
  unfold pad6 at this
  simp [six6_len] at this
  omega
theorem l03Wide_fn (n : Nat) (h : n ≤ 999999) : VFn Tryz.prog 119 [.int .i64 n, .int .i64 6] (.str (B (six6 n))) := by
  have hd := dd6 h
  have hp := pad6_dd h
  refine VFn.introC Tryz.call119 Tryz.func119 rfl rfl ?_
  conv => whnf
  refine CallC.sca _ (digits_nat n (by omega)) ?_ ?_
  · exact rfl
  refine LoopC.mk (fun i : Nat => i + (Lib.decDigits n).length ≤ 6) (fun i => [(1, .int .i64 6), (5, .str (B (List.replicate i 48 ++ Lib.decDigits n)))]) (fun _ => []) 0 (fun i => 6 - i) 0
    ⟨by omega, [], rfl, rfl, ⟨AVle.refl _, AVle.of_eq (congrArg (fun l => AV.str (B l)) (show Lib.decDigits n = _ by simp)), trivial⟩, trivial⟩ ?_
  intro i hi
  refine Grd.intro (fun h2 => ?_) (fun h2 => ?_)
  · have hin : i + (Lib.decDigits n).length < 6 := by have := of_decide_eq_true h2; rw [B_size] at this; simp at this; omega
    refine And.intro (show (((B [48]).size + (B (List.replicate i 48 ++ Lib.decDigits n)).size : Nat) : Int) ≤ 9223372036854775807 by rw [B_size, B_size]; simp; omega) ?_
    exact ⟨i + 1, by omega, by omega, [], rfl, rfl, ⟨AVle.refl _, AVle.of_eq (congrArg AV.str (show B [48] ++ B (List.replicate i 48 ++ Lib.decDigits n) = _ by rw [B_app, List.replicate_succ]; rfl)), trivial⟩, trivial⟩
  · have hin : i = 6 - (Lib.decDigits n).length := by have := of_decide_eq_false h2; rw [B_size] at this; simp at this; omega
    refine And.intro trivial (AVle.of_eq (congrArg (fun l => AV.str (B l)) (show List.replicate i 48 ++ Lib.decDigits n = _ by rw [← hp, hin]; rfl)))
theorem l03Key_fn (t n w : Nat) (ht : t ≤ 2) (hn : n ≤ 999999) (hw : w ≤ 999999) : VFn Tryz.prog 69 [.int .i64 t, .int .i64 n, .int .i64 w] (.str (B (keyB t n w))) := by
  have h3 : t = 0 ∨ t = 1 ∨ t = 2 := by omega
  have hs : ∀ a b : List UInt8, a.length + b.length ≤ 1000 → (((B a).size + (B b).size : Nat) : Int) ≤ 9223372036854775807 := fun a b h => by rw [B_size, B_size]; omega
  refine VFn.introC Tryz.call69 Tryz.func69 rfl rfl ?_
  refine DrawC.mk 13 rfl (by kernel_rfl) ?_
  rcases h3 with rfl | rfl | rfl
  · refine And.intro ⟨by omega, by show ((0 : Nat) : Int) < ((3 : Nat) : Int); omega⟩ ?_
    refine And.intro (hs (preW 0) [47] (by decide)) ?_
    refine PCallC.sca _ (l03Wide_fn n hn) rfl ?_
    refine And.intro (show (((B [114, 97, 119] ++ B [47]).size + (B (six6 n)).size : Nat) : Int) ≤ 9223372036854775807 by rw [B_app]; exact hs _ _ (by simp [six6_len])) ?_
    refine And.intro (show (((B [114, 97, 119] ++ B [47] ++ B (six6 n)).size + (B [45]).size : Nat) : Int) ≤ 9223372036854775807 by rw [B_app, B_app]; exact hs _ _ (by simp [six6_len])) ?_
    refine PCallC.sca _ (l03Wide_fn w hw) rfl ?_
    refine And.intro (show (((B [114, 97, 119] ++ B [47] ++ B (six6 n) ++ B [45]).size + (B (six6 w)).size : Nat) : Int) ≤ 9223372036854775807 by rw [B_app, B_app, B_app]; exact hs _ _ (by simp [six6_len])) ?_
    exact And.intro trivial (AVle.of_eq (congrArg AV.str (show B [114, 97, 119] ++ B [47] ++ B (six6 n) ++ B [45] ++ B (six6 w) = _ by rw [B_app, B_app, B_app, B_app]; rfl)))
  · refine And.intro ⟨by omega, by show ((1 : Nat) : Int) < ((3 : Nat) : Int); omega⟩ ?_
    refine And.intro (hs (preW 1) [47] (by decide)) ?_
    refine PCallC.sca _ (l03Wide_fn n hn) rfl ?_
    refine And.intro (show (((B [116, 49] ++ B [47]).size + (B (six6 n)).size : Nat) : Int) ≤ 9223372036854775807 by rw [B_app]; exact hs _ _ (by simp [six6_len])) ?_
    refine And.intro (show (((B [116, 49] ++ B [47] ++ B (six6 n)).size + (B [45]).size : Nat) : Int) ≤ 9223372036854775807 by rw [B_app, B_app]; exact hs _ _ (by simp [six6_len])) ?_
    refine PCallC.sca _ (l03Wide_fn w hw) rfl ?_
    refine And.intro (show (((B [116, 49] ++ B [47] ++ B (six6 n) ++ B [45]).size + (B (six6 w)).size : Nat) : Int) ≤ 9223372036854775807 by rw [B_app, B_app, B_app]; exact hs _ _ (by simp [six6_len])) ?_
    exact And.intro trivial (AVle.of_eq (congrArg AV.str (show B [116, 49] ++ B [47] ++ B (six6 n) ++ B [45] ++ B (six6 w) = _ by rw [B_app, B_app, B_app, B_app]; rfl)))
  · refine And.intro ⟨by omega, by show ((2 : Nat) : Int) < ((3 : Nat) : Int); omega⟩ ?_
    refine And.intro (hs (preW 2) [47] (by decide)) ?_
    refine PCallC.sca _ (l03Wide_fn n hn) rfl ?_
    refine And.intro (show (((B [116, 50] ++ B [47]).size + (B (six6 n)).size : Nat) : Int) ≤ 9223372036854775807 by rw [B_app]; exact hs _ _ (by simp [six6_len])) ?_
    refine And.intro (show (((B [116, 50] ++ B [47] ++ B (six6 n)).size + (B [45]).size : Nat) : Int) ≤ 9223372036854775807 by rw [B_app, B_app]; exact hs _ _ (by simp [six6_len])) ?_
    refine PCallC.sca _ (l03Wide_fn w hw) rfl ?_
    refine And.intro (show (((B [116, 50] ++ B [47] ++ B (six6 n) ++ B [45]).size + (B (six6 w)).size : Nat) : Int) ≤ 9223372036854775807 by rw [B_app, B_app, B_app]; exact hs _ _ (by simp [six6_len])) ?_
    exact And.intro trivial (AVle.of_eq (congrArg AV.str (show B [116, 50] ++ B [47] ++ B (six6 n) ++ B [45] ++ B (six6 w) = _ by rw [B_app, B_app, B_app, B_app]; rfl)))
theorem l03Key_at {t' n' w' : Int} {t n w : Nat} (e1 : t' = t) (e2 : n' = n) (e3 : w' = w) (ht : t ≤ 2) (hn : n ≤ 999999) (hw : w ≤ 999999) : VFn Tryz.prog 69 [.int .i64 t', .int .i64 n', .int .i64 w'] (.str (B (keyB t n w))) := by
  subst e1 e2 e3; exact l03Key_fn t n w ht hn hw
end Go.Proofs.YtfaffgneccjpbaaGreatDoor
set_option linter.unusedVariables false
set_option linter.constructorNameAsVariable false
set_option linter.unusedSimpArgs false
set_option maxRecDepth 20000
namespace Go.Proofs.YtfaffgneccjpbaaGreatDoor
open Go Go.Vw

theorem l01Set_fn (s : Sto) (hL : s.os.length ≤ 1000000) (hn : s.next ≤ 1000000000 ∧ 0 ≤ s.next) (k d : List UInt8) : VFn Tryz.prog 70 [s.av, .str (B k), .str (B d)] (s.set k d).av := by
  refine VFn.introC Tryz.call70 Tryz.func70 rfl rfl ?_
  refine LoopC.mk (fun i : Nat => i ≤ lb k s.os) (fun i => [(1, .str (B k)), (2, .str (B d)), (3, .bptr 0 0), (6, .bptr 1 0), (7, .int .i64 i)]) (fun i => [(0, .box s.row), (1, .box [.nilsl, .int .i64 0])]) 2 (fun i => s.os.length - i) 0
    ⟨Nat.zero_le _, [(0, 0), (1, 1)], rfl, rfl, ⟨AVle.refl _, AVle.refl _, AVle.refl _, AVle.refl _, AVle.refl _, trivial⟩, ⟨MOle.refl _, MOle.refl _, trivial⟩⟩ ?_
  intro i hi
  have hlb := lb_le k s.os
  refine Grd.intro (fun h2 => ?_) (fun h2 => ?_)
  · have hin : i < s.os.length := by have := of_decide_eq_true h2; omega
    refine And.intro (by omega) ?_
    conv => whnf
    refine Grd.intro (fun h3 => ?_) (fun h3 => ?_)
    · have h3 : (ix s.os i).key < k := by
        have h : Op.bytesLess (B (ix s.os i).key).toList (B k).toList = true := h3
        rw [blt_lt] at h; exact of_decide_eq_true h
      have hlt : i < lb k s.os := by
        rcases Nat.lt_or_ge i (lb k s.os) with h | h
        · exact h
        · have e : i = lb k s.os := by omega
          subst e
          exact absurd h3 (lb_ge hin)
      refine And.intro (inI64 (by omega) (by omega)) ?_
      exact ⟨i + 1, hlt, by omega, [(0, 0), (1, 1)], rfl, rfl, ⟨AVle.refl _, AVle.refl _, AVle.refl _, AVle.refl _, AVle.of_eq (congrArg (AV.int .i64) (by simp)), trivial⟩, ⟨MOle.refl _, MOle.refl _, trivial⟩⟩
    · have h3 : ¬ (ix s.os i).key < k := by
        have h : Op.bytesLess (B (ix s.os i).key).toList (B k).toList = false := h3
        rw [blt_lt] at h; exact of_decide_eq_false h
      have hi' : i = lb k s.os := by
        rcases Nat.lt_or_ge i (lb k s.os) with h | h
        · exact absurd (lb_lt h) h3
        · omega
      subst hi'
      refine And.intro (by omega) ?_
      refine Grd.intro (fun _ => ?_) (fun h => absurd (of_decide_eq_false h) (by omega))
      refine And.intro (by omega) ?_
      conv => whnf
      have hcmp : ((B (ix s.os (lb k s.os)).key).toList == (B k).toList) = s.has k := by
        rw [B_eq]
        unfold Sto.has hasK
        rw [decide_eq_true hin]; rfl
      refine Grd.intro (fun h4 => ?_) (fun h4 => ?_)
      · have h4 : s.has k = true := hcmp.symm.trans h4
        refine And.intro (inI64 (by omega) (by omega)) ?_
        refine And.intro (by omega) ?_
        refine DrawC.mkK 16 [(.inr 0, 5), (.inr 5, 12), (.inr 12, 14)] rfl (by kernel_rfl) ?_; refine And.intro rfl ?_
        conv => whnf
        refine And.intro ⟨by omega, by omega⟩ ?_
        conv => whnf
        refine And.intro ⟨show (0 + (lb k s.os : Int).toNat) * 40 ≤ 140737488355328 by omega, fun i hi => rfl⟩ ?_
        conv => whnf
        refine And.intro ⟨show (0 + (lb k s.os : Int).toNat + 1) * 40 ≤ 140737488355328 by omega, all1 rfl⟩ ?_
        conv => whnf
        refine And.intro ⟨show (0 + (lb k s.os : Int).toNat + 1 + (s.os.length - ((lb k s.os : Int) + 1).toNat)) * 40 ≤ 140737488355328 by omega, fun i hi => rfl⟩ ?_
        refine And.intro (inI64 (by omega) (by omega)) ?_
        refine And.intro trivial (AVle.agg (AVsle.cons (AVle.sl (by rw [Sto.set_len, if_pos h4]; omega) fun i hi => s.set_rows k d (by rw [if_pos h4]; show ((lb k s.os : Int) + 1).toNat = lb k s.os + 1; omega) (by omega) (by omega) rfl i (by rw [Sto.set_len, if_pos h4]; omega)) (AVsle.cons (AVle.refl _) AVsle.nil)))
      · have h4 : s.has k = false := hcmp.symm.trans h4
        have h4' : ¬ s.has k = true := by rw [h4]; simp
        refine DrawC.mkK 16 [(.inr 0, 5), (.inr 5, 12), (.inr 12, 14)] rfl (by kernel_rfl) ?_; refine And.intro rfl ?_
        conv => whnf
        refine And.intro ⟨by omega, by omega⟩ ?_
        conv => whnf
        refine And.intro ⟨show (0 + (lb k s.os : Int).toNat) * 40 ≤ 140737488355328 by omega, fun i hi => rfl⟩ ?_
        conv => whnf
        refine And.intro ⟨show (0 + (lb k s.os : Int).toNat + 1) * 40 ≤ 140737488355328 by omega, all1 rfl⟩ ?_
        conv => whnf
        refine And.intro ⟨show (0 + (lb k s.os : Int).toNat + 1 + (s.os.length - (lb k s.os : Int).toNat)) * 40 ≤ 140737488355328 by omega, fun i hi => rfl⟩ ?_
        refine And.intro (inI64 (by omega) (by omega)) ?_
        refine And.intro trivial (AVle.agg (AVsle.cons (AVle.sl (by rw [Sto.set_len, if_neg h4']; omega) fun i hi => s.set_rows k d (by rw [if_neg h4']; show (lb k s.os : Int).toNat = lb k s.os; omega) (by omega) (by omega) rfl i (by rw [Sto.set_len, if_neg h4']; omega)) (AVsle.cons (AVle.refl _) AVsle.nil)))
  · have hi' : i = s.os.length := by have := of_decide_eq_false h2; omega
    have hi2 : i = lb k s.os := by omega
    have h4' : ¬ s.has k = true := fun h => by have := (hasK_at h).1; omega
    subst hi2
    refine And.intro (by omega) ?_
    refine Grd.intro (fun h => absurd (of_decide_eq_true h) (by omega)) (fun _ => ?_)
    refine DrawC.mkK 16 [(.inr 0, 5), (.inr 5, 12), (.inr 12, 14)] rfl (by kernel_rfl) ?_; refine And.intro rfl ?_
    conv => whnf
    refine And.intro ⟨by omega, by omega⟩ ?_
    conv => whnf
    refine And.intro ⟨show (0 + (lb k s.os : Int).toNat) * 40 ≤ 140737488355328 by omega, fun i hi => rfl⟩ ?_
    conv => whnf
    refine And.intro ⟨show (0 + (lb k s.os : Int).toNat + 1) * 40 ≤ 140737488355328 by omega, all1 rfl⟩ ?_
    conv => whnf
    refine And.intro ⟨show (0 + (lb k s.os : Int).toNat + 1 + (s.os.length - (lb k s.os : Int).toNat)) * 40 ≤ 140737488355328 by omega, fun i hi => rfl⟩ ?_
    refine And.intro (inI64 (by omega) (by omega)) ?_
    refine And.intro trivial (AVle.agg (AVsle.cons (AVle.sl (by rw [Sto.set_len, if_neg h4']; omega) fun i hi => s.set_rows k d (by rw [if_neg h4']; show (lb k s.os : Int).toNat = lb k s.os; omega) (by omega) (by omega) rfl i (by rw [Sto.set_len, if_neg h4']; omega)) (AVsle.cons (AVle.refl _) AVsle.nil)))
end Go.Proofs.YtfaffgneccjpbaaGreatDoor
set_option linter.unusedVariables false
set_option linter.constructorNameAsVariable false
set_option linter.unusedSimpArgs false
set_option maxRecDepth 20000
namespace Go.Proofs.YtfaffgneccjpbaaGreatDoor
open Go Go.Vw

end Go.Proofs.YtfaffgneccjpbaaGreatDoor
set_option linter.unusedVariables false
set_option linter.constructorNameAsVariable false
set_option linter.unusedSimpArgs false
set_option maxRecDepth 20000
namespace Go.Proofs.YtfaffgneccjpbaaGreatDoor
open Go Go.Vw

theorem force_to {x y : AV} {k : AV → Prop} (e : x = y) (h : y.force k) : x.force k := e ▸ h
structure StoRd (s : Sto) : Prop where
  len : s.os.length ≤ 1048576
  key : ∀ o ∈ s.os, o.key.length ≤ 1000000000
  nxt : -9223372036854775808 ≤ s.next ∧ s.next ≤ 9223372036854775807
theorem first2_of (a b : Bool) (x y : Int) {n : Nat} {rows : Nat → List AV} (hr : FirstRows 4 3 rows 0 [(a, x), (b, y)]) (hn : n = 4) {r : Int} (h : (if a = true then x else if b = true then y else 0) = r) : VFn Tryz.prog 33 [.sl 1 n rows] (.int .i64 r) := by
  have e : firstC [(a, x), (b, y)] = r := by
    rw [← h]
    unfold firstC firstC firstC
    cases a <;> cases b <;> rfl
  rw [← e]
  exact first_of _ hr hn (show 2 ≤ 1000 by decide)
theorem set_len_le (s : Sto) (k d : List UInt8) : (s.set k d).os.length ≤ s.os.length + 1 := by rw [Sto.set_len]; split <;> omega
end Go.Proofs.YtfaffgneccjpbaaGreatDoor
