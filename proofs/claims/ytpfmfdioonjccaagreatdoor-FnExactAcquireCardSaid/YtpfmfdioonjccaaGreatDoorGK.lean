/- Entries, records, right ones: contracts; the conditions are the theorems' own. -/
import Derived.Test.YtpfmfdioonjccaaGreatDoorGJ
set_option linter.unusedVariables false
set_option linter.constructorNameAsVariable false
set_option linter.unusedSimpArgs false
set_option maxRecDepth 20000
namespace Go.Proofs.YtpfmfdioonjccaaGreatDoor
open Go Go.Vw

theorem B_nil (a : List UInt8) : ((B a).toList == (ByteArray.mk #[]).toList) = decide (a = []) := B_eq (b := [])
theorem B_isEmpty (a : List UInt8) : (B a).toList.isEmpty = decide (a = []) := by rw [B_toList]; cases a <;> simp
structure En where
  tier : Int
  f : Int
  t : Int
  key : List UInt8
  deriving Inhabited, DecidableEq
def En.row (e : En) : List AV := [.int .i64 e.tier, .int .i64 e.f, .int .i64 e.t, .str (B e.key)]
def En.av (e : En) : AV := .agg e.row
def En.ok (e : En) : Bool := kOk e.key && (decide (kT e.key = e.tier) && (isRange e.f e.t && decide (e.f < e.t)))
structure Rc where
  k : Int
  tok : Int
  tier : Int
  f : Int
  t : Int
  key : List UInt8
  deriving Inhabited, DecidableEq
def Rc.row (r : Rc) : List AV := [.int .i64 r.k, .int .i64 r.tok, .int .i64 r.tier, .int .i64 r.f, .int .i64 r.t, .str (B r.key)]
def Rc.av (r : Rc) : AV := .agg r.row
@[reducible] def Rc.en (r : Rc) : En := ⟨r.tier, r.f, r.t, r.key⟩
def Rc.bare (r : Rc) : Bool := decide (r.tier = 0) && (decide (r.f = 0) && decide (r.t = 0))
def Rc.ok (r : Rc) : Bool :=
  if r.k = 1 then decide (r.tok = 0) && (decide (r.tier = 0) && r.en.ok)
  else if r.k = 2 then within r.tok 1 999999 && (r.bare && decide (r.key = []))
  else if r.k = 3 then within r.tok 1 999999 && (decide (0 < r.tier) && r.en.ok)
  else if r.k = 4 then within r.tok 1 999999 && r.en.ok
  else if r.k = 5 then decide (r.tok = 0) && (r.bare && kOk r.key)
  else false
theorem entryOK_fn (e : En) : VFn Tryz.prog 79 [e.av] (.bool e.ok) := by
  refine VFn.introC Tryz.call79 Tryz.func79 rfl rfl ?_
  conv => whnf
  refine CallC.sca _ (readDataKey_fn e.key) ?_ ?_
  · exact rfl
  repeat' (conv => whnf
           first
      | refine Grd.intro (fun h => ?_) (fun h => ?_)
      | (refine CallC.sca _ (isRange_fn _ _) ?_ ?_; exact rfl)
      | refine And.intro trivial (AVle.of_eq (congrArg AV.bool ?_)))
  all_goals (simp_all [En.ok])
theorem entry_fn (r : Rc) : VFn Tryz.prog 281 [r.av] r.en.av := by
  refine VFn.introC Tryz.call281 Tryz.func281 rfl rfl ?_
  exact And.intro trivial (AVle.refl _)
theorem isToken_fn (n : Int) : VFn Tryz.prog 282 [.int .i64 n] (.bool (within n 1 999999)) := by
  refine VFn.introC Tryz.call282 Tryz.func282 rfl rfl ?_
  conv => whnf
  refine CallC.sca _ (within_fn _ _ _) ?_ ?_
  · exact rfl
  exact And.intro trivial (AVle.refl _)
theorem RecordOK_fn (r : Rc) : VFn Tryz.prog 202 [r.av] (.bool r.ok) := by
  refine VFn.introC Tryz.call202 Tryz.func202 rfl rfl ?_
  repeat' (conv => whnf
           first
      | refine Grd.intro (fun h => ?_) (fun h => ?_)
      | (refine CallC.sca _ (isToken_fn _) ?_ ?_; exact rfl)
      | (refine CallC.sca _ (entry_fn r) ?_ ?_; exact rfl)
      | (refine CallC.sca _ (entryOK_fn r.en) ?_ ?_; exact rfl)
      | (refine CallC.sca _ (readDataKey_fn r.key) ?_ ?_; exact rfl)
      | refine And.intro trivial (AVle.of_eq (congrArg AV.bool ?_)))
  all_goals (first | (simp_all [Rc.ok, Rc.bare, B_nil, B_isEmpty]; done) | (simp_all [Rc.ok, Rc.bare, B_nil, B_isEmpty]; intros; omega))
theorem kT_nat (k : List UInt8) : 0 ≤ kT k ∧ kT k ≤ 2 := by
  unfold kT
  cases h : parseKey k with
  | none => simp
  | some q =>
    obtain ⟨t, n, w⟩ := q
    have := key_parse h
    simp only; omega
theorem l06Tiered_fn (r : Rc) (hk : r.key.length ≤ 1000000000) (n : Int) : VFn Tryz.prog 74 [r.av, .int .i64 n] (.bool (r.en.ok && decide (n ≤ r.tier))) := by
  have h2 := kT_nat r.key
  refine VFn.introC Tryz.call74 Tryz.func74 rfl rfl ?_
  conv => whnf
  refine CallC.sca _ (l03ToKey_fn r.key hk) ?_ ?_
  · exact rfl
  repeat' (conv => whnf
           first
      | refine Grd.intro (fun h => ?_) (fun h => ?_)
      | (refine CallC.sca _ (l01In_fn _ _ _) ?_ ?_; exact rfl)
      | (refine CallC.sca _ (l04Range_fn _ _) ?_ ?_; exact rfl)
      | refine And.intro trivial (AVle.of_eq (congrArg AV.bool ?_)))
  all_goals (simp_all [En.ok, Rc.en, within]; try omega)
theorem specRecordOK_fn (r : Rc) (hk : r.key.length ≤ 1000000000) : VFn Tryz.prog 194 [r.av] (.bool r.ok) := by
  have h0 := l06Tiered_fn r hk 0
  have h1 := l06Tiered_fn r hk 1
  have e0 : (r.en.ok && decide (0 ≤ r.tier)) = r.en.ok := by
    cases h : r.en.ok
    · rfl
    · unfold En.ok at h
      have h2 := kT_nat r.key
      simp [Rc.en] at h
      simp; omega
  have e1 : decide (1 ≤ r.tier) = decide (0 < r.tier) := decide_eq_decide.2 (by omega)
  rw [e0] at h0
  rw [e1] at h1
  refine VFn.introC Tryz.call194 Tryz.func194 rfl rfl ?_
  repeat' (conv => whnf
           first
      | refine Grd.intro (fun h => ?_) (fun h => ?_)
      | (refine CallC.sca _ (l01In_fn _ _ _) ?_ ?_; exact rfl)
      | (refine CallC.sca _ (h0) ?_ ?_; exact rfl)
      | (refine CallC.sca _ (h1) ?_ ?_; exact rfl)
      | (refine CallC.sca _ (l03ToKey_fn r.key hk) ?_ ?_; exact rfl)
      | refine And.intro trivial (AVle.of_eq (congrArg AV.bool ?_)))
  all_goals (simp_all [Rc.ok, Rc.bare, B_nil, B_isEmpty, Bool.and_comm]; done)

theorem key_len {k : List UInt8} (h : kOk k = true) : k.length ≤ 17 := by
  unfold kOk at h
  cases e : parseKey k with
  | none => rw [e] at h; cases h
  | some q =>
    obtain ⟨t, n, w⟩ := q
    obtain ⟨e1, ht, hn, hw⟩ := key_parse e
    rw [e1]
    have h3 : t = 0 ∨ t = 1 ∨ t = 2 := by omega
    rcases h3 with rfl | rfl | rfl <;> simp [keyB, pre, six6_len]
def Rc.nums (r : Rc) : List Int := [r.k, r.tok, r.tier, r.f, r.t]
def Rc.text (r : Rc) : List UInt8 := Lib.join (r.nums.map Lib.itoa) [44] ++ ([32] ++ r.key)
theorem Rc.okN {r : Rc} (h : r.ok = true) : (∀ x ∈ r.nums, mid x) ∧ r.key.length ≤ 17 := by
  have hT := kT_nat r.key
  have hL := @key_len r.key
  have m : (mid r.k ∧ mid r.tok ∧ mid r.tier ∧ mid r.f ∧ mid r.t) ∧ r.key.length ≤ 17 := by
    unfold Rc.ok at h
    split at h
    · simp [Rc.en, En.ok, isRange, within] at h
      refine ⟨⟨?_, ?_, ?_, ?_, ?_⟩, hL h.2.2.1⟩ <;> (unfold mid; omega)
    split at h
    · simp [Rc.bare, within] at h
      refine ⟨⟨?_, ?_, ?_, ?_, ?_⟩, by rw [h.2.2]; simp⟩ <;> (unfold mid; omega)
    split at h
    · simp [Rc.en, En.ok, isRange, within] at h
      refine ⟨⟨?_, ?_, ?_, ?_, ?_⟩, hL h.2.2.1⟩ <;> (unfold mid; omega)
    split at h
    · simp [Rc.en, En.ok, isRange, within] at h
      refine ⟨⟨?_, ?_, ?_, ?_, ?_⟩, hL h.2.1⟩ <;> (unfold mid; omega)
    split at h
    · simp [Rc.bare, within] at h
      refine ⟨⟨?_, ?_, ?_, ?_, ?_⟩, hL h.2.2⟩ <;> (unfold mid; omega)
    · cases h
  refine ⟨fun x hx => ?_, m.2⟩
  obtain ⟨m1, m2, m3, m4, m5⟩ := m.1
  simp only [Rc.nums, List.mem_cons, List.not_mem_nil, or_false] at hx
  rcases hx with rfl | rfl | rfl | rfl | rfl <;> assumption
theorem Rc.head_len {r : Rc} (h : r.ok = true) : (Lib.join (r.nums.map Lib.itoa) [44]).length ≤ 110 := by
  have := join_len (m := 21) (c := 1) (L := r.nums.map Lib.itoa) (s := [44]) (fun x hx => by
    obtain ⟨n, hn, rfl⟩ := List.mem_map.1 hx
    exact mid_len ((Rc.okN h).1 n hn)) (by simp)
  exact Nat.le_trans this (by simp [Rc.nums])
end Go.Proofs.YtpfmfdioonjccaaGreatDoor
