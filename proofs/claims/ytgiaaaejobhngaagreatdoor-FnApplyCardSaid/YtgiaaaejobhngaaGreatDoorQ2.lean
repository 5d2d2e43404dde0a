/- Contracts of functions that the claim reaches, and the plain law of what they compute; each theorem bears its own conditions. -/
import Derived.Test.YtgiaaaejobhngaaGreatDoorQ1
import Derived.Test.YtgiaaaejobhngaaGreatDoorV46
set_option linter.unusedVariables false
set_option linter.constructorNameAsVariable false
set_option linter.unusedSimpArgs false
set_option maxRecDepth 20000
namespace Go.Proofs.YtgiaaaejobhngaaGreatDoor
open Go Go.Vw

end Go.Proofs.YtgiaaaejobhngaaGreatDoor
set_option linter.unusedVariables false
set_option linter.constructorNameAsVariable false
set_option linter.unusedSimpArgs false
set_option maxRecDepth 20000
namespace Go.Proofs.YtgiaaaejobhngaaGreatDoor
open Go Go.Vw

structure StoRd (s : Sto) : Prop where
  len : s.os.length ≤ 1048576
  key : ∀ o ∈ s.os, o.key.length ≤ 1000000000
  nxt : -9223372036854775808 ≤ s.next ∧ s.next ≤ 9223372036854775807
end Go.Proofs.YtgiaaaejobhngaaGreatDoor
set_option linter.unusedVariables false
set_option linter.constructorNameAsVariable false
set_option linter.unusedSimpArgs false
set_option maxRecDepth 20000
namespace Go.Proofs.YtgiaaaejobhngaaGreatDoor
open Go Go.Vw

end Go.Proofs.YtgiaaaejobhngaaGreatDoor
set_option linter.unusedVariables false
set_option linter.constructorNameAsVariable false
set_option linter.unusedSimpArgs false
set_option maxRecDepth 20000
namespace Go.Proofs.YtgiaaaejobhngaaGreatDoor
open Go Go.Vw

/-- the digits of a positive number, none of 0 -/
def posD : Nat → List UInt8
  | 0 => []
  | n + 1 => posD ((n + 1) / 10) ++ [d1 (n + 1)]
decreasing_by omega
def markT (k : Int) : List UInt8 := if k ≤ 0 then [109, 48] else 109 :: posD k.toNat
theorem posD_len : ∀ (k n : Nat), n < 10 ^ k → (posD n).length ≤ k
  | 0, n, h => by
    have : n = 0 := by simpa using h
    subst this; simp [posD]
  | k + 1, 0, h => by simp [posD]
  | k + 1, n + 1, h => by
    rw [posD]
    have := posD_len k ((n + 1) / 10) (by rw [Nat.pow_succ] at h; omega)
    simp; omega
/-- texts marked from a number on -/
def mkT (k : Int) (n : Nat) : List (List UInt8) := (List.range n).map fun j : Nat => markT (k + (j : Int))
end Go.Proofs.YtgiaaaejobhngaaGreatDoor
set_option linter.unusedVariables false
set_option linter.constructorNameAsVariable false
set_option linter.unusedSimpArgs false
set_option maxRecDepth 20000
namespace Go.Proofs.YtgiaaaejobhngaaGreatDoor
open Go Go.Vw

def Ob.size (e : Ob) : Nat := e.key.length + e.data.length
def mkO (k : Int) (i : Nat) : List AV := [.str (B (markT (k + 3 * i))), .int .i64 (k + 3 * i + 1), .str (B (markT (k + 3 * i + 1 + 1)))]
def stoN (s : Sto) : Nat := s.os.length + sumL Ob.size s.os
structure StoIn (s : Sto) : Prop where
  len : s.os.length ≤ 9223372036854775807
  sz : ∀ e ∈ s.os, e.key.length ≤ 9223372036854775807 ∧ e.data.length ≤ 9223372036854775807
  nxt : -9223372036854775808 ≤ s.next ∧ s.next ≤ 9223372036854775807
/-- no store -/
def sto0 : AV := .agg [.nilsl, .int .i64 0]
end Go.Proofs.YtgiaaaejobhngaaGreatDoor
set_option linter.unusedVariables false
set_option linter.constructorNameAsVariable false
set_option linter.unusedSimpArgs false
set_option maxRecDepth 20000
namespace Go.Proofs.YtgiaaaejobhngaaGreatDoor
open Go Go.Vw

theorem B_nil (a : List UInt8) : ((B a).toList == (ByteArray.mk #[]).toList) = decide (a = []) := B_eq (b := [])
theorem B_isEmpty (a : List UInt8) : (B a).toList.isEmpty = decide (a = []) := by rw [B_toList]; cases a <;> simp
structure En where
  tier : Int
  f : Int
  t : Int
  key : List UInt8
  deriving Inhabited, DecidableEq
def En.row (e : En) : List AV := [.int .i64 e.tier, .int .i64 e.f, .int .i64 e.t, .str (B e.key)]
def En.av (e : En) : AV := .agg e.row
def En.ok (e : En) : Bool := kOk e.key && (decide (kT e.key = e.tier) && (isRange e.f e.t && decide (e.f < e.t)))
structure Rc where
  k : Int
  tok : Int
  tier : Int
  f : Int
  t : Int
  key : List UInt8
  deriving Inhabited, DecidableEq
def Rc.row (r : Rc) : List AV := [.int .i64 r.k, .int .i64 r.tok, .int .i64 r.tier, .int .i64 r.f, .int .i64 r.t, .str (B r.key)]
def Rc.av (r : Rc) : AV := .agg r.row
@[reducible] def Rc.en (r : Rc) : En := ⟨r.tier, r.f, r.t, r.key⟩
def Rc.bare (r : Rc) : Bool := decide (r.tier = 0) && (decide (r.f = 0) && decide (r.t = 0))
def Rc.ok (r : Rc) : Bool :=
  if r.k = 1 then decide (r.tok = 0) && (decide (r.tier = 0) && r.en.ok)
  else if r.k = 2 then within r.tok 1 999999 && (r.bare && decide (r.key = []))
  else if r.k = 3 then within r.tok 1 999999 && (decide (0 < r.tier) && r.en.ok)
  else if r.k = 4 then within r.tok 1 999999 && r.en.ok
  else if r.k = 5 then decide (r.tok = 0) && (r.bare && kOk r.key)
  else false
theorem entryOK_fn (e : En) : VFn Tryz.prog 113 [e.av] (.bool e.ok) := by
  refine VFn.introC Tryz.call113 Tryz.func113 rfl rfl ?_
  conv => whnf
  refine CallC.sca _ (readDataKey_fn e.key) ?_ ?_
  · exact rfl
  repeat' (conv => whnf
           first
      | refine Grd.intro (fun h => ?_) (fun h => ?_)
      | (refine CallC.sca _ (isRange_fn _ _) ?_ ?_; exact rfl)
      | refine And.intro trivial (AVle.of_eq (congrArg AV.bool ?_)))
  all_goals (simp_all [En.ok])
theorem entry_fn (r : Rc) : VFn Tryz.prog 114 [r.av] r.en.av := by
  refine VFn.introC Tryz.call114 Tryz.func114 rfl rfl ?_
  exact And.intro trivial (AVle.refl _)
theorem isToken_fn (n : Int) : VFn Tryz.prog 79 [.int .i64 n] (.bool (within n 1 999999)) := by
  refine VFn.introC Tryz.call79 Tryz.func79 rfl rfl ?_
  conv => whnf
  refine CallC.sca _ (within_fn _ _ _) ?_ ?_
  · exact rfl
  exact And.intro trivial (AVle.refl _)
theorem RecordOK_fn (r : Rc) : VFn Tryz.prog 45 [r.av] (.bool r.ok) := by
  refine VFn.introC Tryz.call45 Tryz.func45 rfl rfl ?_
  repeat' (conv => whnf
           first
      | refine Grd.intro (fun h => ?_) (fun h => ?_)
      | (refine CallC.sca _ (isToken_fn _) ?_ ?_; exact rfl)
      | (refine CallC.sca _ (entry_fn r) ?_ ?_; exact rfl)
      | (refine CallC.sca _ (entryOK_fn r.en) ?_ ?_; exact rfl)
      | (refine CallC.sca _ (readDataKey_fn r.key) ?_ ?_; exact rfl)
      | refine And.intro trivial (AVle.of_eq (congrArg AV.bool ?_)))
  all_goals (first | (simp_all [Rc.ok, Rc.bare, B_nil, B_isEmpty]; done) | (simp_all [Rc.ok, Rc.bare, B_nil, B_isEmpty]; intros; omega))
theorem kT_nat (k : List UInt8) : 0 ≤ kT k ∧ kT k ≤ 2 := by
  unfold kT
  cases h : parseKey k with
  | none => simp
  | some q =>
    obtain ⟨t, n, w⟩ := q
    have := key_parse h
    simp only; omega
theorem l06Tiered_fn (r : Rc) (hk : r.key.length ≤ 1000000000) (n : Int) : VFn Tryz.prog 117 [r.av, .int .i64 n] (.bool (r.en.ok && decide (n ≤ r.tier))) := by
  have h2 := kT_nat r.key
  refine VFn.introC Tryz.call117 Tryz.func117 rfl rfl ?_
  conv => whnf
  refine CallC.sca _ (l03ToKey_fn r.key hk) ?_ ?_
  · exact rfl
  repeat' (conv => whnf
           first
      | refine Grd.intro (fun h => ?_) (fun h => ?_)
      | (refine CallC.sca _ (l01In_fn _ _ _) ?_ ?_; exact rfl)
      | (refine CallC.sca _ (l04Range_fn _ _) ?_ ?_; exact rfl)
      | refine And.intro trivial (AVle.of_eq (congrArg AV.bool ?_)))
  all_goals (simp_all [En.ok, Rc.en, within]; try omega)
theorem specRecordOK_fn (r : Rc) (hk : r.key.length ≤ 1000000000) : VFn Tryz.prog 47 [r.av] (.bool r.ok) := by
  have h0 := l06Tiered_fn r hk 0
  have h1 := l06Tiered_fn r hk 1
  have e0 : (r.en.ok && decide (0 ≤ r.tier)) = r.en.ok := by
    cases h : r.en.ok
    · rfl
    · unfold En.ok at h
      have h2 := kT_nat r.key
      simp [Rc.en] at h
      simp; omega
  have e1 : decide (1 ≤ r.tier) = decide (0 < r.tier) := decide_eq_decide.2 (by omega)
  rw [e0] at h0
  rw [e1] at h1
  refine VFn.introC Tryz.call47 Tryz.func47 rfl rfl ?_
  repeat' (conv => whnf
           first
      | refine Grd.intro (fun h => ?_) (fun h => ?_)
      | (refine CallC.sca _ (l01In_fn _ _ _) ?_ ?_; exact rfl)
      | (refine CallC.sca _ (h0) ?_ ?_; exact rfl)
      | (refine CallC.sca _ (h1) ?_ ?_; exact rfl)
      | (refine CallC.sca _ (l03ToKey_fn r.key hk) ?_ ?_; exact rfl)
      | refine And.intro trivial (AVle.of_eq (congrArg AV.bool ?_)))
  all_goals (simp_all [Rc.ok, Rc.bare, B_nil, B_isEmpty, Bool.and_comm]; done)

theorem key_len {k : List UInt8} (h : kOk k = true) : k.length ≤ 17 := by
  unfold kOk at h
  cases e : parseKey k with
  | none => rw [e] at h; cases h
  | some q =>
    obtain ⟨t, n, w⟩ := q
    obtain ⟨e1, ht, hn, hw⟩ := key_parse e
    rw [e1]
    have h3 : t = 0 ∨ t = 1 ∨ t = 2 := by omega
    rcases h3 with rfl | rfl | rfl <;> simp [keyB, pre, six6_len]
def Rc.nums (r : Rc) : List Int := [r.k, r.tok, r.tier, r.f, r.t]
def Rc.text (r : Rc) : List UInt8 := Lib.join (r.nums.map Lib.itoa) [44] ++ ([32] ++ r.key)
theorem Rc.okN {r : Rc} (h : r.ok = true) : (∀ x ∈ r.nums, mid x) ∧ r.key.length ≤ 17 := by
  have hT := kT_nat r.key
  have hL := @key_len r.key
  have m : (mid r.k ∧ mid r.tok ∧ mid r.tier ∧ mid r.f ∧ mid r.t) ∧ r.key.length ≤ 17 := by
    unfold Rc.ok at h
    split at h
    · simp [Rc.en, En.ok, isRange, within] at h
      refine ⟨⟨?_, ?_, ?_, ?_, ?_⟩, hL h.2.2.1⟩ <;> (unfold mid; omega)
    split at h
    · simp [Rc.bare, within] at h
      refine ⟨⟨?_, ?_, ?_, ?_, ?_⟩, by rw [h.2.2]; simp⟩ <;> (unfold mid; omega)
    split at h
    · simp [Rc.en, En.ok, isRange, within] at h
      refine ⟨⟨?_, ?_, ?_, ?_, ?_⟩, hL h.2.2.1⟩ <;> (unfold mid; omega)
    split at h
    · simp [Rc.en, En.ok, isRange, within] at h
      refine ⟨⟨?_, ?_, ?_, ?_, ?_⟩, hL h.2.1⟩ <;> (unfold mid; omega)
    split at h
    · simp [Rc.bare, within] at h
      refine ⟨⟨?_, ?_, ?_, ?_, ?_⟩, hL h.2.2⟩ <;> (unfold mid; omega)
    · cases h
  refine ⟨fun x hx => ?_, m.2⟩
  obtain ⟨m1, m2, m3, m4, m5⟩ := m.1
  simp only [Rc.nums, List.mem_cons, List.not_mem_nil, or_false] at hx
  rcases hx with rfl | rfl | rfl | rfl | rfl <;> assumption
end Go.Proofs.YtgiaaaejobhngaaGreatDoor
set_option linter.unusedVariables false
set_option linter.constructorNameAsVariable false
set_option linter.unusedSimpArgs false
set_option maxRecDepth 20000
namespace Go.Proofs.YtgiaaaejobhngaaGreatDoor
open Go Go.Vw

def Rc.res (r : Rc) : List UInt8 := if r.ok = true then r.text else []
def Rc.code (r : Rc) : Int := if r.ok = true then 0 else 1
end Go.Proofs.YtgiaaaejobhngaaGreatDoor
set_option linter.unusedVariables false
set_option linter.constructorNameAsVariable false
set_option linter.unusedSimpArgs false
set_option maxRecDepth 20000
namespace Go.Proofs.YtgiaaaejobhngaaGreatDoor
open Go Go.Vw

def manK (n : Int) : List UInt8 := [109, 97, 110, 47] ++ six6 n.toNat
def appS (s : Sto) (n : Int) (r : Rc) : Sto × Int := s.putA (manK n) r.text
def appC (s : Sto) (n : Int) (r : Rc) : Int := if s.ok = true ∧ r.ok = true then (if within n 1 999999 = true then 0 else 4) else 1
end Go.Proofs.YtgiaaaejobhngaaGreatDoor
set_option linter.unusedVariables false
set_option linter.constructorNameAsVariable false
set_option linter.unusedSimpArgs false
set_option maxRecDepth 20000
namespace Go.Proofs.YtgiaaaejobhngaaGreatDoor
open Go Go.Vw

structure Tb where
  seq : Int
  key : List UInt8
  deriving Inhabited, DecidableEq
def Tb.row (e : Tb) : List AV := [.int .i64 e.seq, .str (B e.key)]
def Tb.av (e : Tb) : AV := .agg e.row
abbrev ents (L : List En) : AV := .sl 4 L.length fun i => (ix L i).row
abbrev tbs (L : List Tb) : AV := .sl 2 L.length fun i => (ix L i).row

theorem IndexEn_1 (L : List En) (hL : L.length ≤ 9223372036854775807) (F : Nat) (row : List AV) (p : En → Bool) (hp : ∀ e ∈ L, VFn Tryz.prog F [e.av, .eptr row 0] (.bool (p e))) :
    VFn Tryz.prog 238 [ents L, .fn (.func F) [] [.eptr row 0]] (.int .i64 (fi p L)) := by
  refine VFn.introC Tryz.call238 Tryz.func238 rfl rfl ?_
  refine LoopC.mk (fun i : Nat => i ≤ L.length ∧ ∀ j, j < i → p (ix L j) = false) (fun i => [(0, ents L), (1, .fn (.func F) [] [.eptr row 0]), (7, .int .i64 L.length), (8, .int .i64 i)]) (fun _ => []) 0 (fun i => L.length - i) 0
    ⟨⟨Nat.zero_le _, fun j hj => absurd hj (Nat.not_lt_zero j)⟩, [], rfl, rfl, ⟨AVle.refl _, AVle.refl _, AVle.refl _, AVle.refl _, trivial⟩, trivial⟩ ?_
  intro i hi
  refine Grd.intro (fun h2 => ?_) (fun h2 => ?_)
  · have hin : i < L.length := by have := of_decide_eq_true h2; omega
    refine And.intro (by omega) ?_
    conv => whnf
    refine CallC.sca _ (hp (ix L i) (getD_mem hin)) ?_ ?_
    · exact rfl
    refine Grd.intro (fun h3 => ?_) (fun h3 => ?_)
    · exact And.intro trivial (AVle.of_eq (congrArg (AV.int .i64) (fi_at hin hi.2 h3).symm))
    · refine And.intro (inI64 (by omega) (by omega)) ?_
      exact ⟨i + 1, ⟨hin, fun j hj => by
        rcases Nat.lt_or_ge j i with h' | h'
        · exact hi.2 j h'
        · rw [show j = i by omega]; exact h3⟩, by omega, [], rfl, rfl, ⟨AVle.refl _, AVle.refl _, AVle.refl _, AVle.of_eq (congrArg (AV.int .i64) (by simp)), trivial⟩, trivial⟩
  · have : i = L.length := by have := of_decide_eq_false h2; omega
    subst this
    exact And.intro trivial (AVle.of_eq (congrArg (AV.int .i64) (fi_none hi.2).symm))
theorem ContainsEn_1 (L : List En) (hL : L.length ≤ 9223372036854775807) (F : Nat) (row : List AV) (p : En → Bool) (hp : ∀ e ∈ L, VFn Tryz.prog F [e.av, .eptr row 0] (.bool (p e))) :
    VFn Tryz.prog 201 [ents L, .fn (.func F) [] [.eptr row 0]] (.bool (L.any p)) := by
  refine VFn.introC Tryz.call201 Tryz.func201 rfl rfl ?_
  conv => whnf
  refine CallC.sca _ (IndexEn_1 L hL F row p hp) ?_ ?_
  · exact rfl
  exact And.intro trivial (AVle.of_eq (congrArg AV.bool (show decide (0 ≤ fi p L) = _ from fi_any)))
theorem allEn1_fn (e : En) (G : Nat) (p : En → Bool) (hp : VFn Tryz.prog G [e.av] (.bool (p e))) : VFn Tryz.prog 202 [e.av, .eptr [.fn (.func G) [] []] 0] (.bool (!p e)) := by
  refine VFn.introC Tryz.call202 Tryz.func202 rfl rfl ?_
  conv => whnf
  refine CallC.sca _ (hp) ?_ ?_
  · exact rfl
  exact And.intro trivial (AVle.refl _)
theorem allEn_fn (L : List En) (hL : L.length ≤ 9223372036854775807) (G : Nat) (p : En → Bool) (hp : ∀ e ∈ L, VFn Tryz.prog G [e.av] (.bool (p e))) : VFn Tryz.prog 126 [ents L, .fn (.func G) [] []] (.bool (L.all p)) := by
  refine VFn.introC Tryz.call126 Tryz.func126 rfl rfl ?_
  conv => whnf
  refine CallC.sca _ (ContainsEn_1 L hL 202 [.fn (.func G) [] []] (fun e => !p e) (fun e he => allEn1_fn e G p (hp e he))) ?_ ?_
  · exact rfl
  exact And.intro trivial (AVle.of_eq (congrArg AV.bool (show (!L.any fun e => !p e) = _ by rw [Bool.eq_iff_iff]; simp)))
theorem l06In_fn (L : List (List UInt8)) (hL : L.length ≤ 9223372036854775807) (t : List UInt8) : VFn Tryz.prog 200 [txts L, .str (B t)] (.bool (decide (t ∈ L))) := by
  refine VFn.introC Tryz.call200 Tryz.func200 rfl rfl ?_
  refine LoopC.mk (fun i : Nat => i ≤ L.length ∧ ∀ j, j < i → ix L j ≠ t) (fun i => [(0, txts L), (1, .str (B t)), (5, .int .i64 i)]) (fun _ => []) 0 (fun i => L.length - i) 0
    ⟨⟨Nat.zero_le _, fun j hj => absurd hj (Nat.not_lt_zero j)⟩, [], rfl, rfl, ⟨AVle.refl _, AVle.refl _, AVle.refl _, trivial⟩, trivial⟩ ?_
  intro i hi
  refine Grd.intro (fun h2 => ?_) (fun h2 => ?_)
  · have hin : i < L.length := by have := of_decide_eq_true h2; omega
    refine And.intro (by omega) ?_
    refine Grd.intro (fun h3 => ?_) (fun h3 => ?_)
    · have h3 : ((B (ix L i)).toList == (B t).toList) = true := h3
      rw [B_eq] at h3
      have : t ∈ L := by rw [← of_decide_eq_true h3]; exact getD_mem hin
      exact And.intro trivial (AVle.of_eq (congrArg AV.bool (show true = _ by simp [this])))
    · have h3 : ((B (ix L i)).toList == (B t).toList) = false := h3
      rw [B_eq] at h3
      refine And.intro (inI64 (by omega) (by omega)) ?_
      exact ⟨i + 1, ⟨hin, fun j hj => by
        rcases Nat.lt_or_ge j i with h' | h'
        · exact hi.2 j h'
        · rw [show j = i by omega]; exact of_decide_eq_false h3⟩, by omega, [], rfl, rfl, ⟨AVle.refl _, AVle.refl _, AVle.of_eq (congrArg (AV.int .i64) (by simp)), trivial⟩, trivial⟩
  · have : i = L.length := by have := of_decide_eq_false h2; omega
    subst this
    have : t ∉ L := fun h => by
      obtain ⟨j, hj, e⟩ := List.getElem_of_mem h
      exact hi.2 j hj (by rw [ix_lt hj]; exact e)
    exact And.intro trivial (AVle.of_eq (congrArg AV.bool (show false = _ by simp [this])))
end Go.Proofs.YtgiaaaejobhngaaGreatDoor
set_option linter.unusedVariables false
set_option linter.constructorNameAsVariable false
set_option linter.unusedSimpArgs false
set_option maxRecDepth 20000
namespace Go.Proofs.YtgiaaaejobhngaaGreatDoor
open Go Go.Vw

structure Sta where
  seq : Int
  fence : Int
  es : List En
  ts : List Tb
  l0 : Int
  l1 : Int
  l2 : Int
  h0 : Int
  h1 : Int
  h2 : Int
  deriving Inhabited, DecidableEq
def Sta.row (s : Sta) : List AV := [.int .i64 s.seq, .int .i64 s.fence, ents s.es, tbs s.ts, .int .i64 s.l0, .int .i64 s.l1, .int .i64 s.l2, .int .i64 s.h0, .int .i64 s.h1, .int .i64 s.h2]
def Sta.av (s : Sta) : AV := .agg s.row
def ofT (L : List En) (k : Int) : List En := L.filter fun e => decide (e.tier = k)
theorem ofT_snoc {L : List En} {i : Nat} (h : i < L.length) (k : Int) : ofT (L.take (i + 1)) k = if (ix L i).tier = k then ofT (L.take i) k ++ [ix L i] else ofT (L.take i) k := by
  unfold ofT
  rw [take_snoc h, List.filter_append]
  by_cases hk : (ix L i).tier = k
  · rw [if_pos hk]; simp [hk]
  · rw [if_neg hk]; simp [hk]
theorem ofT_len (L : List En) (k : Int) : (ofT L k).length ≤ L.length := List.length_filter_le _ _
theorem ofS_fn (s : Sta) (hL : s.es.length ≤ 1000000000) (k : Int) : VFn Tryz.prog 127 [s.av, .int .i64 k] (ents (ofT s.es k)) := by
  obtain ⟨R, hR⟩ : ∃ R, R = ofT s.es k := ⟨_, rfl⟩
  rw [← hR]
  have hl := fun i => Nat.le_trans (ofT_len (s.es.take i) k) (by simp; omega : (s.es.take i).length ≤ i)
  refine VFn.introC Tryz.call127 Tryz.func127 rfl rfl ?_
  refine LoopC.mk (fun i : Nat => i ≤ s.es.length) (fun i => [(1, .int .i64 k), (5, .osl 0), (10, ents s.es), (11, .int .i64 s.es.length), (12, .int .i64 i)])
    (fun i => [(0, .arr 79 4 (ofT (s.es.take i) k).length fun j => (ix (ofT (s.es.take i) k) j).row)]) 1 (fun i => s.es.length - i) 0
    ⟨Nat.zero_le _, [(1, 0)], rfl, rfl, ⟨AVle.refl _, AVle.refl _, AVle.refl _, AVle.refl _, AVle.refl _, trivial⟩, ⟨MOle.arr rfl fun i hi => absurd hi (Nat.not_lt_zero i), trivial⟩⟩ ?_
  intro i hi
  refine Grd.intro (fun h2 => ?_) (fun h2 => ?_)
  · have hin : i < s.es.length := by have := of_decide_eq_true h2; omega
    have hs := ofT_snoc hin k
    refine And.intro (by omega) ?_
    refine Grd.intro (fun h3 => ?_) (fun h3 => ?_)
    · rw [if_pos (show (ix s.es i).tier = k from of_decide_eq_true h3)] at hs
      refine And.intro ⟨show ((ofT (s.es.take i) k).length + 1) * 40 ≤ 140737488355328 by have := hl i; omega, all1 rfl⟩ ?_
      refine And.intro (inI64 (by omega) (by omega)) ?_
      refine ⟨i + 1, hin, by omega, [(3, 0)], rfl, rfl, ⟨AVle.refl _, AVle.refl _, AVle.refl _, AVle.refl _, AVle.of_eq (congrArg (AV.int .i64) (by simp)), trivial⟩, ⟨?_, trivial⟩⟩
      exact arr_next (f := En.row) hs rfl
    · rw [if_neg (show ¬ (ix s.es i).tier = k from of_decide_eq_false h3)] at hs
      refine And.intro (inI64 (by omega) (by omega)) ?_
      exact ⟨i + 1, hin, by omega, [(0, 0)], rfl, rfl, ⟨AVle.refl _, AVle.refl _, AVle.refl _, AVle.refl _, AVle.of_eq (congrArg (AV.int .i64) (by simp)), trivial⟩, ⟨MOle.of_eq (show MO.arr 79 4 (ofT (s.es.take i) k).length (fun j => (ix (ofT (s.es.take i) k) j).row) = _ by rw [hs]), trivial⟩⟩
  · have : i = s.es.length := by have := of_decide_eq_false h2; omega
    subst this
    have e : ofT (s.es.take s.es.length) k = R := by rw [List.take_of_length_le (Nat.le_refl _), hR]
    subst e
    exact And.intro trivial (AVle.sl rfl fun j hj => rfl)
/-- keys met, each once -/
def addK (ks : List (List UInt8)) (k : List UInt8) : List (List UInt8) := if k ∈ ks then ks else ks ++ [k]
def ddk (L : List (List UInt8)) : List (List UInt8) := L.foldl addK []
theorem ddk_snoc (L : List (List UInt8)) (x : List UInt8) : ddk (L ++ [x]) = addK (ddk L) x := by unfold ddk; rw [List.foldl_append]; rfl
theorem addK_len (L : List (List UInt8)) : ∀ acc : List (List UInt8), (L.foldl addK acc).length ≤ acc.length + L.length ∧ ((L.foldl addK acc).length = acc.length + L.length ↔ (L.Nodup ∧ ∀ x ∈ L, x ∉ acc)) := by
  induction L with
  | nil => intro acc; simp
  | cons k r ih =>
    intro acc
    have h := ih (addK acc k)
    by_cases hk : k ∈ acc
    · have e : addK acc k = acc := if_pos hk
      rw [List.foldl_cons, e]
      rw [e] at h
      refine ⟨by simp; omega, ⟨fun hh => ?_, fun hh => absurd hk (hh.2 k (by simp))⟩⟩
      simp at hh; omega
    · have e : addK acc k = acc ++ [k] := if_neg hk
      rw [List.foldl_cons, e]
      rw [e] at h
      simp only [List.length_append, List.length_cons, List.length_nil, List.nodup_cons, List.mem_cons] at h ⊢
      refine ⟨by omega, ?_⟩
      rw [show acc.length + (r.length + 1) = acc.length + (0 + 1) + r.length by omega, h.2]
      constructor
      · rintro ⟨h1, h2⟩
        refine ⟨⟨fun hm => h2 k hm (by simp), h1⟩, fun x hx => ?_⟩
        rcases hx with rfl | hx
        · exact hk
        · exact fun hx' => h2 x hx (by simp [hx'])
      · rintro ⟨⟨h1, h2⟩, h3⟩
        refine ⟨h2, fun x hx => ?_⟩
        simp only [List.mem_append, List.mem_cons, List.not_mem_nil, or_false, not_or]
        exact ⟨h3 x (.inr hx), fun e => h1 (e ▸ hx)⟩
theorem ddk_len (L : List (List UInt8)) : (ddk L).length ≤ L.length ∧ ((ddk L).length = L.length ↔ L.Nodup) := by
  have := addK_len L []
  simpa [ddk] using this
/-- entries one beside the other, from a moment on: where they end -/
def runs : List En → Int → Option Int
  | [], a => some a
  | e :: r, a => if e.f = a then runs r e.t else none
def atN (a : Int) (L : List En) : Nat → Int
  | 0 => a
  | i + 1 => (ix L i).t
def tierOK (L : List En) (lo hi : Int) (k : Int) : Bool := within lo 0 100000 && decide (runs (ofT L k) lo = some hi)
def tbOK (n : Int) (t : Tb) : Bool := kOk t.key && within t.seq 1 n
def Sta.keys (s : Sta) : List (List UInt8) := s.es.map (·.key) ++ s.ts.map (·.key)
def Sta.ok (s : Sta) : Bool :=
  within s.seq 0 999999 && (within s.fence 0 999999 && (decide (((s.es.length : Nat) : Int) + ((s.ts.length : Nat) : Int) ≤ 4096) && (s.es.all En.ok && (s.ts.all (tbOK s.seq) && (decide s.keys.Nodup &&
    (tierOK s.es s.l0 s.h0 0 && (tierOK s.es s.l1 s.h1 1 && tierOK s.es s.l2 s.h2 2)))))))
theorem StateOK_fn (s : Sta) (hL : s.es.length ≤ 1000000000) (hT : s.ts.length ≤ 1000000000) : VFn Tryz.prog 51 [s.av] (.bool s.ok) := by
  refine VFn.introC Tryz.call51 Tryz.func51 rfl rfl ?_
  conv => whnf
  refine CallC.sca _ (isSix_fn s.seq) ?_ ?_
  · exact rfl
  refine Grd.intro (fun h1 => ?_) (fun h1 => ?_)
  · have h1 : within s.seq 0 999999 = false := by simpa using h1
    have e : s.ok = false := by unfold Sta.ok; rw [h1]; rfl
    rw [e]
    exact And.intro trivial (AVle.refl _)
  have h1 : within s.seq 0 999999 = true := by simpa using h1
  conv => whnf
  refine CallC.sca _ (within_fn s.fence 0 999999) ?_ ?_
  · exact rfl
  refine Grd.intro (fun h2 => ?_) (fun h2 => ?_)
  · have h2 : within s.fence 0 999999 = false := by simpa using h2
    have e : s.ok = false := by unfold Sta.ok; rw [h1, h2]; rfl
    rw [e]
    exact And.intro trivial (AVle.refl _)
  have h2 : within s.fence 0 999999 = true := by simpa using h2
  refine And.intro (inI64 (by omega) (by omega)) ?_
  refine Grd.intro (fun h3 => ?_) (fun h3 => ?_)
  · have h3 : ¬ ((s.es.length : Nat) : Int) + ((s.ts.length : Nat) : Int) ≤ 4096 := by
      have h : decide (4096 < ((s.es.length : Nat) : Int) + ((s.ts.length : Nat) : Int)) = true := h3
      have := of_decide_eq_true h; omega
    have e : s.ok = false := by unfold Sta.ok; rw [h1, h2, decide_eq_false h3]; rfl
    rw [e]
    exact And.intro trivial (AVle.refl _)
  have h3 : ((s.es.length : Nat) : Int) + ((s.ts.length : Nat) : Int) ≤ 4096 := by
    have h : decide (4096 < ((s.es.length : Nat) : Int) + ((s.ts.length : Nat) : Int)) = false := h3
    have := of_decide_eq_false h; omega
  conv => whnf
  refine CallC.sca _ (allEn_fn s.es (by omega) 113 En.ok (fun e _ => entryOK_fn e)) ?_ ?_
  · exact rfl
  refine Grd.intro (fun h4 => ?_) (fun h4 => ?_)
  · have h4 : s.es.all En.ok = false := by simpa using (show (!s.es.all En.ok) = true from h4)
    have e : s.ok = false := by unfold Sta.ok; rw [h1, h2, decide_eq_true h3, h4]; rfl
    rw [e]
    exact And.intro trivial (AVle.refl _)
  have h4 : s.es.all En.ok = true := by simpa using (show (!s.es.all En.ok) = false from h4)
  refine LoopC.mk (fun i : Nat => i ≤ s.es.length) (fun i => [(1, .bptr 0 0), (3, .omap 1), (44, ents s.es), (45, .int .i64 s.es.length), (46, .int .i64 i)])
    (fun i => [(0, .box s.row), (1, .smap (ddk ((s.es.take i).map (·.key))))]) 2 (fun i => s.es.length - i) 0
    ⟨Nat.zero_le _, [(0, 0), (1, 1)], rfl, rfl, ⟨AVle.refl _, AVle.refl _, AVle.refl _, AVle.refl _, AVle.refl _, trivial⟩, ⟨MOle.refl _, MOle.refl _, trivial⟩⟩ ?_
  intro i hi
  refine Grd.intro (fun h5 => ?_) (fun h5 => ?_)
  · have hin : i < s.es.length := by have := of_decide_eq_true h5; omega
    refine And.intro (by omega) ?_
    refine And.intro (inI64 (by omega) (by omega)) ?_
    refine ⟨i + 1, hin, by omega, [(0, 0), (1, 1)], rfl, rfl, ⟨AVle.refl _, AVle.refl _, AVle.refl _, AVle.refl _, AVle.of_eq (congrArg (AV.int .i64) (by simp)), trivial⟩, ⟨MOle.refl _, MOle.of_eq (show MO.smap (if (B (ix s.es i).key).data.toList ∈ ddk ((s.es.take i).map (·.key)) then ddk ((s.es.take i).map (·.key)) else ddk ((s.es.take i).map (·.key)) ++ [(B (ix s.es i).key).data.toList]) = _ from ?_), trivial⟩⟩
    rw [map_take_snoc hin, ddk_snoc, B_data]; rfl
  have : i = s.es.length := by have := of_decide_eq_false h5; omega
  subst this
  rw [List.take_of_length_le (Nat.le_refl _)]
  refine LoopC.mk (fun i : Nat => i ≤ s.ts.length ∧ ∀ j, j < i → tbOK s.seq (ix s.ts j) = true) (fun i => [(1, .bptr 0 0), (3, .omap 1), (55, tbs s.ts), (56, .int .i64 s.ts.length), (57, .int .i64 i)])
    (fun i => [(0, .box s.row), (1, .smap (ddk (s.es.map (·.key) ++ (s.ts.take i).map (·.key))))]) 2 (fun i => s.ts.length - i) 0
    ⟨⟨Nat.zero_le _, fun j hj => absurd hj (Nat.not_lt_zero j)⟩, [(0, 0), (1, 1)], rfl, rfl, ⟨AVle.refl _, AVle.refl _, AVle.refl _, AVle.refl _, AVle.refl _, trivial⟩, ⟨MOle.refl _, MOle.of_eq (show MO.smap (ddk (s.es.map (·.key))) = _ by simp), trivial⟩⟩ ?_
  intro i hi
  obtain ⟨hi, hall⟩ := hi
  refine Grd.intro (fun h6 => ?_) (fun h6 => ?_)
  · have hin : i < s.ts.length := by have := of_decide_eq_true h6; omega
    have hbad : tbOK s.seq (ix s.ts i) = false → s.ok = false := fun h => by
      have : s.ts.all (tbOK s.seq) = false := by
        rw [← Bool.not_eq_true]; intro h'
        rw [List.all_eq_true.1 h' _ (getD_mem hin)] at h; cases h
      unfold Sta.ok; rw [h1, h2, decide_eq_true h3, h4, this]; rfl
    refine And.intro (by omega) ?_
    conv => whnf
    refine CallC.sca _ (readDataKey_fn (ix s.ts i).key) ?_ ?_
    · exact rfl
    refine Grd.intro (fun h7 => ?_) (fun h7 => ?_)
    · rw [hbad (by unfold tbOK; rw [show kOk (ix s.ts i).key = false by simpa using (show (!kOk (ix s.ts i).key) = true from h7)]; rfl)]
      exact And.intro trivial (AVle.refl _)
    have h7 : kOk (ix s.ts i).key = true := by simpa using (show (!kOk (ix s.ts i).key) = false from h7)
    conv => whnf
    refine CallC.sca _ (within_fn (ix s.ts i).seq 1 s.seq) ?_ ?_
    · exact rfl
    refine Grd.intro (fun h8 => ?_) (fun h8 => ?_)
    · rw [hbad (by unfold tbOK; rw [show within (ix s.ts i).seq 1 s.seq = false by simpa using (show (!within (ix s.ts i).seq 1 s.seq) = true from h8)]; simp)]
      exact And.intro trivial (AVle.refl _)
    have h8 : within (ix s.ts i).seq 1 s.seq = true := by simpa using (show (!within (ix s.ts i).seq 1 s.seq) = false from h8)
    refine And.intro (inI64 (by omega) (by omega)) ?_
    refine ⟨i + 1, ⟨hin, fun j hj => ?_⟩, by omega, [(0, 0), (1, 1)], rfl, rfl, ⟨AVle.refl _, AVle.refl _, AVle.refl _, AVle.refl _, AVle.of_eq (congrArg (AV.int .i64) (by simp)), trivial⟩, ⟨MOle.refl _, MOle.of_eq (show MO.smap (if (B (ix s.ts i).key).data.toList ∈ ddk (s.es.map (·.key) ++ (s.ts.take i).map (·.key)) then ddk (s.es.map (·.key) ++ (s.ts.take i).map (·.key)) else ddk (s.es.map (·.key) ++ (s.ts.take i).map (·.key)) ++ [(B (ix s.ts i).key).data.toList]) = _ from ?_), trivial⟩⟩
    · rcases Nat.lt_or_ge j i with h' | h'
      · exact hall j h'
      · rw [show j = i by omega]; unfold tbOK; rw [h7, h8]; rfl
    · rw [map_take_snoc hin, ← List.append_assoc, ddk_snoc, B_data]; rfl
  have : i = s.ts.length := by have := of_decide_eq_false h6; omega
  subst this
  rw [List.take_of_length_le (Nat.le_refl _)]
  have h7 : s.ts.all (tbOK s.seq) = true := List.all_eq_true.2 fun x hx => by
    obtain ⟨j, hj, e⟩ := List.getElem_of_mem hx
    have := hall j hj
    rw [ix_lt hj, e] at this; exact this
  have hkl : s.keys.length = s.es.length + s.ts.length := by simp [Sta.keys]
  have hdd := ddk_len s.keys
  refine And.intro (inI64 (by omega) (by omega)) ?_
  refine Grd.intro (fun h8 => ?_) (fun h8 => ?_)
  · have h8 : ¬ s.keys.Nodup := fun hn => by
      have h : (!decide ((((ddk s.keys).length : Nat) : Int) = ((s.es.length : Nat) : Int) + ((s.ts.length : Nat) : Int))) = true := h8
      have := hdd.2.2 hn
      simp at h; omega
    have e : s.ok = false := by unfold Sta.ok; rw [h1, h2, decide_eq_true h3, h4, h7, decide_eq_false h8]; rfl
    rw [e]
    exact And.intro trivial (AVle.refl _)
  have h8 : s.keys.Nodup := by
    have h : (!decide ((((ddk s.keys).length : Nat) : Int) = ((s.es.length : Nat) : Int) + ((s.ts.length : Nat) : Int))) = false := h8
    simp at h
    exact hdd.2.1 (by omega)
  have hok : s.ok = (tierOK s.es s.l0 s.h0 0 && (tierOK s.es s.l1 s.h1 1 && tierOK s.es s.l2 s.h2 2)) := by
    unfold Sta.ok; rw [h1, h2, decide_eq_true h3, h4, h7, decide_eq_true h8]; rfl
  refine LoopC.rounds 4 ?_
  have hbad0 : tierOK s.es s.l0 s.h0 0 = false → s.ok = false := fun ht => by rw [hok, ht]; rfl
  refine And.intro ⟨by omega, by show (0 : Int) < ((3 : Nat) : Int); omega⟩ ?_
  conv => whnf
  refine CallC.sca _ (within_fn s.l0 0 100000) ?_ ?_
  · exact rfl
  refine Grd.intro (fun g1 => ?_) (fun g1 => ?_)
  · rw [hbad0 (by unfold tierOK; rw [show within s.l0 0 100000 = false by simpa using (show (!within s.l0 0 100000) = true from g1)]; rfl)]
    exact And.intro trivial (AVle.refl _)
  have w0 : within s.l0 0 100000 = true := by simpa using (show (!within s.l0 0 100000) = false from g1)
  conv => whnf
  refine CallC.nl _ (ofS_fn s hL 0) ?_ ?_
  · exact rfl
  obtain ⟨R0, hR0⟩ : ∃ R, R = ofT s.es 0 := ⟨_, rfl⟩
  rw [← hR0]
  have hRl0 : R0.length ≤ 1000000000 := by rw [hR0]; exact Nat.le_trans (ofT_len _ _) hL
  refine LoopC.mk (fun j : Nat => j ≤ R0.length ∧ runs R0 s.l0 = runs (R0.drop j) (atN s.l0 R0 j)) (fun j => [(1, .bptr 0 0), (12, .int .i64 0), (13, .int .i64 (atN s.l0 R0 j)), (93, .int .i64 0), (105, ents R0), (106, .int .i64 R0.length), (107, .int .i64 j)])
    (fun j => [(0, .box s.row)]) 1 (fun j => R0.length - j) 0
    ⟨⟨Nat.zero_le _, rfl⟩, [(0, 0)], rfl, rfl, ⟨AVle.refl _, AVle.refl _, AVle.refl _, AVle.refl _, AVle.refl _, AVle.refl _, AVle.refl _, trivial⟩, ⟨MOle.refl _, trivial⟩⟩ ?_
  intro j hj
  obtain ⟨hj, hrun⟩ := hj
  refine Grd.intro (fun g2 => ?_) (fun g2 => ?_)
  · have hjn : j < R0.length := by have := of_decide_eq_true g2; omega
    have hrun' := hrun
    rw [drop_ix hjn] at hrun'
    refine And.intro (by omega) ?_
    refine Grd.intro (fun g3 => ?_) (fun g3 => ?_)
    · have g3 : ¬ (ix R0 j).f = atN s.l0 R0 j := by simpa using (show (!decide ((ix R0 j).f = atN s.l0 R0 j)) = true from g3)
      rw [hbad0 (by unfold tierOK; rw [← hR0, hrun', runs, if_neg g3]; simp)]
      exact And.intro trivial (AVle.refl _)
    have g3 : (ix R0 j).f = atN s.l0 R0 j := by simpa using (show (!decide ((ix R0 j).f = atN s.l0 R0 j)) = false from g3)
    rw [runs, if_pos g3] at hrun'
    refine And.intro (inI64 (by omega) (by omega)) ?_
    exact ⟨j + 1, ⟨hjn, hrun'⟩, by omega, [(0, 0)], rfl, rfl, ⟨AVle.refl _, AVle.refl _, AVle.refl _, AVle.refl _, AVle.refl _, AVle.refl _, AVle.of_eq (congrArg (AV.int .i64) (by simp)), trivial⟩, ⟨MOle.refl _, trivial⟩⟩
  have : j = R0.length := by have := of_decide_eq_false g2; omega
  subst this
  rw [List.drop_length, runs] at hrun
  refine And.intro ⟨by omega, by show (0 : Int) < ((3 : Nat) : Int); omega⟩ ?_
  refine Grd.intro (fun g3 => ?_) (fun g3 => ?_)
  · have g3 : ¬ atN s.l0 R0 R0.length = s.h0 := by simpa using (show (!decide (atN s.l0 R0 R0.length = s.h0)) = true from g3)
    rw [hbad0 (by unfold tierOK; rw [← hR0, hrun]; simp [g3])]
    exact And.intro trivial (AVle.refl _)
  have g3 : atN s.l0 R0 R0.length = s.h0 := by simpa using (show (!decide (atN s.l0 R0 R0.length = s.h0)) = false from g3)
  have ht0 : tierOK s.es s.l0 s.h0 0 = true := by unfold tierOK; rw [w0, ← hR0, hrun, g3]; simp
  refine And.intro (inI64 (by omega) (by omega)) ?_
  clear g1 g2 g3 hrun hj
  have hbad1 : tierOK s.es s.l1 s.h1 1 = false → s.ok = false := fun ht => by rw [hok, ht0, ht]; rfl
  refine And.intro ⟨by omega, by show (1 : Int) < ((3 : Nat) : Int); omega⟩ ?_
  conv => whnf
  refine CallC.sca _ (within_fn s.l1 0 100000) ?_ ?_
  · exact rfl
  refine Grd.intro (fun g1 => ?_) (fun g1 => ?_)
  · rw [hbad1 (by unfold tierOK; rw [show within s.l1 0 100000 = false by simpa using (show (!within s.l1 0 100000) = true from g1)]; rfl)]
    exact And.intro trivial (AVle.refl _)
  have w1 : within s.l1 0 100000 = true := by simpa using (show (!within s.l1 0 100000) = false from g1)
  conv => whnf
  refine CallC.nl _ (ofS_fn s hL 1) ?_ ?_
  · exact rfl
  obtain ⟨R1, hR1⟩ : ∃ R, R = ofT s.es 1 := ⟨_, rfl⟩
  rw [← hR1]
  have hRl1 : R1.length ≤ 1000000000 := by rw [hR1]; exact Nat.le_trans (ofT_len _ _) hL
  refine LoopC.mk (fun j : Nat => j ≤ R1.length ∧ runs R1 s.l1 = runs (R1.drop j) (atN s.l1 R1 j)) (fun j => [(1, .bptr 0 0), (12, .int .i64 1), (13, .int .i64 (atN s.l1 R1 j)), (93, .int .i64 1), (105, ents R1), (106, .int .i64 R1.length), (107, .int .i64 j)])
    (fun j => [(0, .box s.row)]) 1 (fun j => R1.length - j) 0
    ⟨⟨Nat.zero_le _, rfl⟩, [(0, 0)], rfl, rfl, ⟨AVle.refl _, AVle.refl _, AVle.refl _, AVle.refl _, AVle.refl _, AVle.refl _, AVle.refl _, trivial⟩, ⟨MOle.refl _, trivial⟩⟩ ?_
  intro j hj
  obtain ⟨hj, hrun⟩ := hj
  refine Grd.intro (fun g2 => ?_) (fun g2 => ?_)
  · have hjn : j < R1.length := by have := of_decide_eq_true g2; omega
    have hrun' := hrun
    rw [drop_ix hjn] at hrun'
    refine And.intro (by omega) ?_
    refine Grd.intro (fun g3 => ?_) (fun g3 => ?_)
    · have g3 : ¬ (ix R1 j).f = atN s.l1 R1 j := by simpa using (show (!decide ((ix R1 j).f = atN s.l1 R1 j)) = true from g3)
      rw [hbad1 (by unfold tierOK; rw [← hR1, hrun', runs, if_neg g3]; simp)]
      exact And.intro trivial (AVle.refl _)
    have g3 : (ix R1 j).f = atN s.l1 R1 j := by simpa using (show (!decide ((ix R1 j).f = atN s.l1 R1 j)) = false from g3)
    rw [runs, if_pos g3] at hrun'
    refine And.intro (inI64 (by omega) (by omega)) ?_
    exact ⟨j + 1, ⟨hjn, hrun'⟩, by omega, [(0, 0)], rfl, rfl, ⟨AVle.refl _, AVle.refl _, AVle.refl _, AVle.refl _, AVle.refl _, AVle.refl _, AVle.of_eq (congrArg (AV.int .i64) (by simp)), trivial⟩, ⟨MOle.refl _, trivial⟩⟩
  have : j = R1.length := by have := of_decide_eq_false g2; omega
  subst this
  rw [List.drop_length, runs] at hrun
  refine And.intro ⟨by omega, by show (1 : Int) < ((3 : Nat) : Int); omega⟩ ?_
  refine Grd.intro (fun g3 => ?_) (fun g3 => ?_)
  · have g3 : ¬ atN s.l1 R1 R1.length = s.h1 := by simpa using (show (!decide (atN s.l1 R1 R1.length = s.h1)) = true from g3)
    rw [hbad1 (by unfold tierOK; rw [← hR1, hrun]; simp [g3])]
    exact And.intro trivial (AVle.refl _)
  have g3 : atN s.l1 R1 R1.length = s.h1 := by simpa using (show (!decide (atN s.l1 R1 R1.length = s.h1)) = false from g3)
  have ht1 : tierOK s.es s.l1 s.h1 1 = true := by unfold tierOK; rw [w1, ← hR1, hrun, g3]; simp
  refine And.intro (inI64 (by omega) (by omega)) ?_
  clear g1 g2 g3 hrun hj
  have hbad2 : tierOK s.es s.l2 s.h2 2 = false → s.ok = false := fun ht => by rw [hok, ht0, ht1, ht]; rfl
  refine And.intro ⟨by omega, by show (2 : Int) < ((3 : Nat) : Int); omega⟩ ?_
  conv => whnf
  refine CallC.sca _ (within_fn s.l2 0 100000) ?_ ?_
  · exact rfl
  refine Grd.intro (fun g1 => ?_) (fun g1 => ?_)
  · rw [hbad2 (by unfold tierOK; rw [show within s.l2 0 100000 = false by simpa using (show (!within s.l2 0 100000) = true from g1)]; rfl)]
    exact And.intro trivial (AVle.refl _)
  have w2 : within s.l2 0 100000 = true := by simpa using (show (!within s.l2 0 100000) = false from g1)
  conv => whnf
  refine CallC.nl _ (ofS_fn s hL 2) ?_ ?_
  · exact rfl
  obtain ⟨R2, hR2⟩ : ∃ R, R = ofT s.es 2 := ⟨_, rfl⟩
  rw [← hR2]
  have hRl2 : R2.length ≤ 1000000000 := by rw [hR2]; exact Nat.le_trans (ofT_len _ _) hL
  refine LoopC.mk (fun j : Nat => j ≤ R2.length ∧ runs R2 s.l2 = runs (R2.drop j) (atN s.l2 R2 j)) (fun j => [(1, .bptr 0 0), (12, .int .i64 2), (13, .int .i64 (atN s.l2 R2 j)), (93, .int .i64 2), (105, ents R2), (106, .int .i64 R2.length), (107, .int .i64 j)])
    (fun j => [(0, .box s.row)]) 1 (fun j => R2.length - j) 0
    ⟨⟨Nat.zero_le _, rfl⟩, [(0, 0)], rfl, rfl, ⟨AVle.refl _, AVle.refl _, AVle.refl _, AVle.refl _, AVle.refl _, AVle.refl _, AVle.refl _, trivial⟩, ⟨MOle.refl _, trivial⟩⟩ ?_
  intro j hj
  obtain ⟨hj, hrun⟩ := hj
  refine Grd.intro (fun g2 => ?_) (fun g2 => ?_)
  · have hjn : j < R2.length := by have := of_decide_eq_true g2; omega
    have hrun' := hrun
    rw [drop_ix hjn] at hrun'
    refine And.intro (by omega) ?_
    refine Grd.intro (fun g3 => ?_) (fun g3 => ?_)
    · have g3 : ¬ (ix R2 j).f = atN s.l2 R2 j := by simpa using (show (!decide ((ix R2 j).f = atN s.l2 R2 j)) = true from g3)
      rw [hbad2 (by unfold tierOK; rw [← hR2, hrun', runs, if_neg g3]; simp)]
      exact And.intro trivial (AVle.refl _)
    have g3 : (ix R2 j).f = atN s.l2 R2 j := by simpa using (show (!decide ((ix R2 j).f = atN s.l2 R2 j)) = false from g3)
    rw [runs, if_pos g3] at hrun'
    refine And.intro (inI64 (by omega) (by omega)) ?_
    exact ⟨j + 1, ⟨hjn, hrun'⟩, by omega, [(0, 0)], rfl, rfl, ⟨AVle.refl _, AVle.refl _, AVle.refl _, AVle.refl _, AVle.refl _, AVle.refl _, AVle.of_eq (congrArg (AV.int .i64) (by simp)), trivial⟩, ⟨MOle.refl _, trivial⟩⟩
  have : j = R2.length := by have := of_decide_eq_false g2; omega
  subst this
  rw [List.drop_length, runs] at hrun
  refine And.intro ⟨by omega, by show (2 : Int) < ((3 : Nat) : Int); omega⟩ ?_
  refine Grd.intro (fun g3 => ?_) (fun g3 => ?_)
  · have g3 : ¬ atN s.l2 R2 R2.length = s.h2 := by simpa using (show (!decide (atN s.l2 R2 R2.length = s.h2)) = true from g3)
    rw [hbad2 (by unfold tierOK; rw [← hR2, hrun]; simp [g3])]
    exact And.intro trivial (AVle.refl _)
  have g3 : atN s.l2 R2 R2.length = s.h2 := by simpa using (show (!decide (atN s.l2 R2 R2.length = s.h2)) = false from g3)
  have ht2 : tierOK s.es s.l2 s.h2 2 = true := by unfold tierOK; rw [w2, ← hR2, hrun, g3]; simp
  refine And.intro (inI64 (by omega) (by omega)) ?_
  clear g1 g2 g3 hrun hj
  rw [show s.ok = true by rw [hok, ht0, ht1, ht2]; rfl]
  exact And.intro trivial (AVle.refl _)
end Go.Proofs.YtgiaaaejobhngaaGreatDoor
