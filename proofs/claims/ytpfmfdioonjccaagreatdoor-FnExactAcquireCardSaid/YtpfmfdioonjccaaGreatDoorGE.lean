/- Acts, right ones and their texts: contracts; the conditions are the theorems' own. -/
import Derived.Test.YtpfmfdioonjccaaGreatDoorGD
set_option linter.unusedVariables false
set_option linter.constructorNameAsVariable false
set_option linter.unusedSimpArgs false
set_option maxRecDepth 20000
namespace Go.Proofs.YtpfmfdioonjccaaGreatDoor
open Go Go.Vw

structure Act where
  k : Int
  who : Int
  n : Int
  tier : Int
  f : Int
  t : Int
  b : List Smp
def Act.av (a : Act) : AV := .agg [.int .i64 a.k, .int .i64 a.who, .int .i64 a.n, .int .i64 a.tier, .int .i64 a.f, .int .i64 a.t, smps a.b]
def isRange (f t : Int) : Bool := within f 0 100000 && within t f 100000
def Act.noR (a : Act) : Bool := decide (a.tier = 0) && decide (a.f = 0) && decide (a.t = 0)
def Act.noB (a : Act) : Bool := decide ((a.b.length : Int) = 0)
def Act.ok (a : Act) : Bool :=
  if a.k = 1 ∨ a.k = 2 then within a.who 0 6 && decide (a.n = 0) && a.noR && a.noB
  else if a.k = 3 then decide (a.who = 0) && within a.n 0 1000 && a.noR && a.noB
  else if a.k = 4 then within a.who 0 6 && within a.n (-3) 3 && a.noR && a.noB
  else if a.k = 5 then within a.who 2 3 && decide (a.n = 0) && a.noR && within a.b.length 1 8 && smpsOK a.b
  else if a.k = 6 then within a.who 4 5 && decide (a.n = 0) && within a.tier 0 2 && isRange a.f a.t && a.noB
  else false
theorem isActor_fn (n : Int) : VFn Tryz.prog 117 [.int .i64 n] (.bool (within n 0 6)) := by
  refine VFn.introC Tryz.call117 Tryz.func117 rfl rfl ?_
  conv => whnf
  refine CallC.sca _ (within_fn _ _ _) ?_ ?_
  · exact rfl
  exact And.intro trivial (AVle.refl _)
theorem isSkew_fn (n : Int) : VFn Tryz.prog 101 [.int .i64 n] (.bool (within n (-3) 3)) := by
  refine VFn.introC Tryz.call101 Tryz.func101 rfl rfl ?_
  conv => whnf
  refine CallC.sca _ (within_fn _ _ _) ?_ ?_
  · exact rfl
  exact And.intro trivial (AVle.refl _)
theorem isTier_fn (n : Int) : VFn Tryz.prog 205 [.int .i64 n] (.bool (within n 0 2)) := by
  refine VFn.introC Tryz.call205 Tryz.func205 rfl rfl ?_
  conv => whnf
  refine CallC.sca _ (within_fn _ _ _) ?_ ?_
  · exact rfl
  exact And.intro trivial (AVle.refl _)
theorem isRange_fn (f t : Int) : VFn Tryz.prog 181 [.int .i64 f, .int .i64 t] (.bool (isRange f t)) := by
  refine VFn.introC Tryz.call181 Tryz.func181 rfl rfl ?_
  repeat' (first
    | refine Grd.intro (fun h => ?_) (fun h => ?_)
    | refine And.intro trivial (AVle.of_eq (congrArg AV.bool ?_)))
  all_goals (simp_all [isRange, within]; try omega)
theorem l04Tier_fn (n : Int) : VFn Tryz.prog 91 [.int .i64 n] (.bool (within n 0 2)) := by
  refine VFn.introC Tryz.call91 Tryz.func91 rfl rfl ?_
  conv => whnf
  refine CallC.sca _ (l01In_fn _ _ _) ?_ ?_
  · exact rfl
  exact And.intro trivial (AVle.refl _)
theorem l04Range_fn (f t : Int) : VFn Tryz.prog 92 [.int .i64 f, .int .i64 t] (.bool (isRange f t)) := by
  refine VFn.introC Tryz.call92 Tryz.func92 rfl rfl ?_
  conv => whnf
  refine CallC.sca _ (l01In_fn _ _ _) ?_ ?_
  · exact rfl
  refine Grd.intro (fun h => ?_) (fun h => ?_)
  · conv => whnf
    refine CallC.sca _ (l01In_fn _ _ _) ?_ ?_
    · exact rfl
    exact And.intro trivial (AVle.of_eq (congrArg AV.bool (by simp_all [isRange])))
  · exact And.intro trivial (AVle.of_eq (congrArg AV.bool (by simp_all [isRange])))
set_option maxHeartbeats 4000000 in
set_option maxHeartbeats 4000000 in
theorem smpsOK_len {L : List Smp} (h : smpsOK L = true) : L.length ≤ 4096 := by
  simp only [smpsOK, Bool.and_eq_true] at h
  exact of_decide_eq_true h.1
theorem smpsOK_nil {L : List Smp} (h : L.length = 0) : smpsOK L = true := by
  have : L = [] := List.eq_nil_of_length_eq_zero h
  subst this; rfl
def mid (n : Int) : Prop := -1000000 ≤ n ∧ n ≤ 1000000
theorem Act.okN {a : Act} (h : a.ok = true) : mid a.who ∧ mid a.n ∧ mid a.tier ∧ mid a.f ∧ mid a.t ∧ smpsOK a.b = true ∧ a.b.length ≤ 8 := by
  unfold mid
  have e : a.noB = true → smpsOK a.b = true ∧ a.b.length ≤ 8 := fun h => by
    have : a.b.length = 0 := by have := of_decide_eq_true h; omega
    exact ⟨smpsOK_nil this, by omega⟩
  simp only [Act.ok] at h
  split at h
  · simp only [Bool.and_eq_true, win_iff, Act.noR, decide_eq_true_eq] at h
    obtain ⟨⟨⟨h1, h2⟩, ⟨h3, h4⟩, h5⟩, h6⟩ := h
    exact ⟨by omega, by omega, by omega, by omega, by omega, e h6⟩
  split at h
  · simp only [Bool.and_eq_true, win_iff, Act.noR, decide_eq_true_eq] at h
    obtain ⟨⟨⟨h1, h2⟩, ⟨h3, h4⟩, h5⟩, h6⟩ := h
    exact ⟨by omega, by omega, by omega, by omega, by omega, e h6⟩
  split at h
  · simp only [Bool.and_eq_true, win_iff, Act.noR, decide_eq_true_eq] at h
    obtain ⟨⟨⟨h1, h2⟩, ⟨h3, h4⟩, h5⟩, h6⟩ := h
    exact ⟨by omega, by omega, by omega, by omega, by omega, e h6⟩
  split at h
  · simp only [Bool.and_eq_true, win_iff, Act.noR, decide_eq_true_eq] at h
    obtain ⟨⟨⟨⟨h1, h2⟩, ⟨h3, h4⟩, h5⟩, h6⟩, h7⟩ := h
    exact ⟨by omega, by omega, by omega, by omega, by omega, h7, by omega⟩
  split at h
  · simp only [Bool.and_eq_true, win_iff, isRange, decide_eq_true_eq] at h
    obtain ⟨⟨⟨⟨h1, h2⟩, h3⟩, h4, h5⟩, h6⟩ := h
    exact ⟨by omega, by omega, by omega, by omega, by omega, e h6⟩
  · cases h

def Act.items (a : Act) : List It :=
  if a.k = 1 then [.t [115, 116, 101, 112], .n a.who]
  else if a.k = 2 then [.t [99, 114, 97, 115, 104], .n a.who]
  else if a.k = 3 then [.t [116, 105, 99, 107], .n a.n]
  else if a.k = 4 then [.t [115, 107, 101, 119], .n a.who, .n a.n]
  else if a.k = 5 then [.t [105, 110, 103, 101, 115, 116], .n a.who, .t (smpsText a.b)]
  else [.t [113, 117, 101, 114, 121], .n a.who, .n a.tier, .n a.f, .n a.t]
def Act.text (a : Act) : List UInt8 := Lib.join (a.items.map It.txt) [32]
def Act.res (a : Act) : List UInt8 := if a.ok = true then a.text else []
def Act.code (a : Act) : Int := if a.ok = true then 0 else 1
theorem items_len {L : List It} (h : ∀ x ∈ L, x.txt.length ≤ 400) (hl : L.length ≤ 8) : (Lib.join (L.map It.txt) [32]).length ≤ 140737488355328 := by
  have := join_len (m := 400) (c := 1) (L := L.map It.txt) (s := [32]) (fun x hx => by obtain ⟨y, hy, rfl⟩ := List.mem_map.1 hx; exact h y hy) (by decide)
  simp at this
  omega
theorem mid_len {n : Int} (h : mid n) : (Lib.itoa n).length ≤ 21 := itoa_len (by have := h.1; omega) (by have := h.2; omega)
theorem Act.itemsOK {a : Act} (h : a.ok = true) : (∀ x ∈ a.items, x.ok ∧ x.txt.length ≤ 400) ∧ a.items.length ≤ 8 := by
  obtain ⟨h1, h2, h3, h4, h5, h6, h7⟩ := Act.okN h
  have hm : ∀ n, mid n → (It.n n).ok ∧ (It.n n).txt.length ≤ 400 := fun n hn => ⟨⟨by have := hn.1; omega, by have := hn.2; omega⟩, by have := mid_len hn; show (Lib.itoa n).length ≤ 400; omega⟩
  have hs : (It.t (smpsText a.b)).ok ∧ (It.t (smpsText a.b)).txt.length ≤ 400 := ⟨trivial, by have := smpsText_len (smpsOK_num h6); show (smpsText a.b).length ≤ 400; omega⟩
  have ht : ∀ l : List UInt8, l.length ≤ 10 → (It.t l).ok ∧ (It.t l).txt.length ≤ 400 := fun l hl => ⟨trivial, by show l.length ≤ 400; omega⟩
  unfold Act.items
  repeat' split
  all_goals
    refine ⟨?_, by simp⟩
    intro x hx
    simp only [List.mem_cons, List.not_mem_nil, or_false] at hx
    rcases hx with rfl | rfl | rfl | rfl | rfl <;> first | exact hm _ h1 | exact hm _ h2 | exact hm _ h3 | exact hm _ h4 | exact hm _ h5 | exact hs | exact ht _ (by decide)
end Go.Proofs.YtpfmfdioonjccaaGreatDoor
