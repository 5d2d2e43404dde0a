/- Contracts of functions that the claim reaches, and the plain law of what they compute; each theorem bears its own conditions. -/
import Derived.Test.YtlbnpndednhdaaaGreatDoorQ4
import Derived.Test.YtlbnpndednhdaaaGreatDoorQ2
import Derived.Test.YtlbnpndednhdaaaGreatDoorV49
set_option linter.unusedVariables false
set_option linter.constructorNameAsVariable false
set_option linter.unusedSimpArgs false
set_option maxRecDepth 20000
namespace Go.Proofs.YtlbnpndednhdaaaGreatDoor
open Go Go.Vw

def manK (n : Int) : List UInt8 := [109, 97, 110, 47] ++ six6 n.toNat
def appS (s : Sto) (n : Int) (r : Rc) : Sto × Int := s.putA (manK n) r.text
def appC (s : Sto) (n : Int) (r : Rc) : Int := if s.ok = true ∧ r.ok = true then (if within n 1 999999 = true then 0 else 4) else 1
theorem l06Key_fn (n : Int) (h : within n 1 999999 = true) : VFn Tryz.prog 216 [.int .i64 n] (.str (B (manK n))) := by
  have hb : 1 ≤ n ∧ n ≤ 999999 := by simpa [within] using h
  have c := l03Wide_fn n.toNat (by omega)
  rw [show ((n.toNat : Nat) : Int) = n by omega] at c
  refine VFn.introC Tryz.call216 Tryz.func216 rfl rfl ?_
  conv => whnf
  refine CallC.sca _ (c) ?_ ?_
  · exact rfl
  refine And.intro (show ((4 + (B (six6 n.toNat)).size : Nat) : Int) ≤ 9223372036854775807 by rw [B_size, six6_len]; decide) ?_
  refine force_to (congrArg AV.str (show B [109, 97, 110, 47] ++ B (six6 n.toNat) = B (manK n) from B_app _ _)) ?_
  exact And.intro trivial (AVle.refl _)
end Go.Proofs.YtlbnpndednhdaaaGreatDoor
set_option linter.unusedVariables false
set_option linter.constructorNameAsVariable false
set_option linter.unusedSimpArgs false
set_option maxRecDepth 20000
namespace Go.Proofs.YtlbnpndednhdaaaGreatDoor
open Go Go.Vw

structure Tb where
  seq : Int
  key : List UInt8
  deriving Inhabited, DecidableEq
def Tb.row (e : Tb) : List AV := [.int .i64 e.seq, .str (B e.key)]
def Tb.av (e : Tb) : AV := .agg e.row
abbrev ents (L : List En) : AV := .sl 4 L.length fun i => (ix L i).row
abbrev tbs (L : List Tb) : AV := .sl 2 L.length fun i => (ix L i).row

theorem IndexEn_1 (L : List En) (hL : L.length ≤ 9223372036854775807) (F : Nat) (row : List AV) (p : En → Bool) (hp : ∀ e ∈ L, VFn Tryz.prog F [e.av, .eptr row 0] (.bool (p e))) :
    VFn Tryz.prog 295 [ents L, .fn (.func F) [] [.eptr row 0]] (.int .i64 (fi p L)) := by
  refine VFn.introC Tryz.call295 Tryz.func295 rfl rfl ?_
  refine LoopC.mk (fun i : Nat => i ≤ L.length ∧ ∀ j, j < i → p (ix L j) = false) (fun i => [(0, ents L), (1, .fn (.func F) [] [.eptr row 0]), (7, .int .i64 L.length), (8, .int .i64 i)]) (fun _ => []) 0 (fun i => L.length - i) 0
    ⟨⟨Nat.zero_le _, fun j hj => absurd hj (Nat.not_lt_zero j)⟩, [], rfl, rfl, ⟨AVle.refl _, AVle.refl _, AVle.refl _, AVle.refl _, trivial⟩, trivial⟩ ?_
  intro i hi
  refine Grd.intro (fun h2 => ?_) (fun h2 => ?_)
  · have hin : i < L.length := by have := of_decide_eq_true h2; omega
    refine And.intro (by omega) ?_
    conv => whnf
    refine CallC.sca _ (hp (ix L i) (getD_mem hin)) ?_ ?_
    · exact rfl
    refine Grd.intro (fun h3 => ?_) (fun h3 => ?_)
    · exact And.intro trivial (AVle.of_eq (congrArg (AV.int .i64) (fi_at hin hi.2 h3).symm))
    · refine And.intro (inI64 (by omega) (by omega)) ?_
      exact ⟨i + 1, ⟨hin, fun j hj => by
        rcases Nat.lt_or_ge j i with h' | h'
        · exact hi.2 j h'
        · rw [show j = i by omega]; exact h3⟩, by omega, [], rfl, rfl, ⟨AVle.refl _, AVle.refl _, AVle.refl _, AVle.of_eq (congrArg (AV.int .i64) (by simp)), trivial⟩, trivial⟩
  · have : i = L.length := by have := of_decide_eq_false h2; omega
    subst this
    exact And.intro trivial (AVle.of_eq (congrArg (AV.int .i64) (fi_none hi.2).symm))
theorem ContainsEn_1 (L : List En) (hL : L.length ≤ 9223372036854775807) (F : Nat) (row : List AV) (p : En → Bool) (hp : ∀ e ∈ L, VFn Tryz.prog F [e.av, .eptr row 0] (.bool (p e))) :
    VFn Tryz.prog 241 [ents L, .fn (.func F) [] [.eptr row 0]] (.bool (L.any p)) := by
  refine VFn.introC Tryz.call241 Tryz.func241 rfl rfl ?_
  conv => whnf
  refine CallC.sca _ (IndexEn_1 L hL F row p hp) ?_ ?_
  · exact rfl
  exact And.intro trivial (AVle.of_eq (congrArg AV.bool (show decide (0 ≤ fi p L) = _ from fi_any)))
theorem allEn1_fn (e : En) (G : Nat) (p : En → Bool) (hp : VFn Tryz.prog G [e.av] (.bool (p e))) : VFn Tryz.prog 242 [e.av, .eptr [.fn (.func G) [] []] 0] (.bool (!p e)) := by
  refine VFn.introC Tryz.call242 Tryz.func242 rfl rfl ?_
  conv => whnf
  refine CallC.sca _ (hp) ?_ ?_
  · exact rfl
  exact And.intro trivial (AVle.refl _)
theorem allEn_fn (L : List En) (hL : L.length ≤ 9223372036854775807) (G : Nat) (p : En → Bool) (hp : ∀ e ∈ L, VFn Tryz.prog G [e.av] (.bool (p e))) : VFn Tryz.prog 155 [ents L, .fn (.func G) [] []] (.bool (L.all p)) := by
  refine VFn.introC Tryz.call155 Tryz.func155 rfl rfl ?_
  conv => whnf
  refine CallC.sca _ (ContainsEn_1 L hL 242 [.fn (.func G) [] []] (fun e => !p e) (fun e he => allEn1_fn e G p (hp e he))) ?_ ?_
  · exact rfl
  exact And.intro trivial (AVle.of_eq (congrArg AV.bool (show (!L.any fun e => !p e) = _ by rw [Bool.eq_iff_iff]; simp)))
theorem l06In_fn (L : List (List UInt8)) (hL : L.length ≤ 9223372036854775807) (t : List UInt8) : VFn Tryz.prog 266 [txts L, .str (B t)] (.bool (decide (t ∈ L))) := by
  refine VFn.introC Tryz.call266 Tryz.func266 rfl rfl ?_
  refine LoopC.mk (fun i : Nat => i ≤ L.length ∧ ∀ j, j < i → ix L j ≠ t) (fun i => [(0, txts L), (1, .str (B t)), (5, .int .i64 i)]) (fun _ => []) 0 (fun i => L.length - i) 0
    ⟨⟨Nat.zero_le _, fun j hj => absurd hj (Nat.not_lt_zero j)⟩, [], rfl, rfl, ⟨AVle.refl _, AVle.refl _, AVle.refl _, trivial⟩, trivial⟩ ?_
  intro i hi
  refine Grd.intro (fun h2 => ?_) (fun h2 => ?_)
  · have hin : i < L.length := by have := of_decide_eq_true h2; omega
    refine And.intro (by omega) ?_
    refine Grd.intro (fun h3 => ?_) (fun h3 => ?_)
    · have h3 : ((B (ix L i)).toList == (B t).toList) = true := h3
      rw [B_eq] at h3
      have : t ∈ L := by rw [← of_decide_eq_true h3]; exact getD_mem hin
      exact And.intro trivial (AVle.of_eq (congrArg AV.bool (show true = _ by simp [this])))
    · have h3 : ((B (ix L i)).toList == (B t).toList) = false := h3
      rw [B_eq] at h3
      refine And.intro (inI64 (by omega) (by omega)) ?_
      exact ⟨i + 1, ⟨hin, fun j hj => by
        rcases Nat.lt_or_ge j i with h' | h'
        · exact hi.2 j h'
        · rw [show j = i by omega]; exact of_decide_eq_false h3⟩, by omega, [], rfl, rfl, ⟨AVle.refl _, AVle.refl _, AVle.of_eq (congrArg (AV.int .i64) (by simp)), trivial⟩, trivial⟩
  · have : i = L.length := by have := of_decide_eq_false h2; omega
    subst this
    have : t ∉ L := fun h => by
      obtain ⟨j, hj, e⟩ := List.getElem_of_mem h
      exact hi.2 j hj (by rw [ix_lt hj]; exact e)
    exact And.intro trivial (AVle.of_eq (congrArg AV.bool (show false = _ by simp [this])))
end Go.Proofs.YtlbnpndednhdaaaGreatDoor
set_option linter.unusedVariables false
set_option linter.constructorNameAsVariable false
set_option linter.unusedSimpArgs false
set_option maxRecDepth 20000
namespace Go.Proofs.YtlbnpndednhdaaaGreatDoor
open Go Go.Vw

structure Sta where
  seq : Int
  fence : Int
  es : List En
  ts : List Tb
  l0 : Int
  l1 : Int
  l2 : Int
  h0 : Int
  h1 : Int
  h2 : Int
  deriving Inhabited, DecidableEq
def Sta.row (s : Sta) : List AV := [.int .i64 s.seq, .int .i64 s.fence, ents s.es, tbs s.ts, .int .i64 s.l0, .int .i64 s.l1, .int .i64 s.l2, .int .i64 s.h0, .int .i64 s.h1, .int .i64 s.h2]
def Sta.av (s : Sta) : AV := .agg s.row
def ofT (L : List En) (k : Int) : List En := L.filter fun e => decide (e.tier = k)
theorem ofT_snoc {L : List En} {i : Nat} (h : i < L.length) (k : Int) : ofT (L.take (i + 1)) k = if (ix L i).tier = k then ofT (L.take i) k ++ [ix L i] else ofT (L.take i) k := by
  unfold ofT
  rw [take_snoc h, List.filter_append]
  by_cases hk : (ix L i).tier = k
  · rw [if_pos hk]; simp [hk]
  · rw [if_neg hk]; simp [hk]
theorem ofT_len (L : List En) (k : Int) : (ofT L k).length ≤ L.length := List.length_filter_le _ _
theorem ofS_fn (s : Sta) (hL : s.es.length ≤ 1000000000) (k : Int) : VFn Tryz.prog 267 [s.av, .int .i64 k] (ents (ofT s.es k)) := by
  obtain ⟨R, hR⟩ : ∃ R, R = ofT s.es k := ⟨_, rfl⟩
  rw [← hR]
  have hl := fun i => Nat.le_trans (ofT_len (s.es.take i) k) (by simp; omega : (s.es.take i).length ≤ i)
  refine VFn.introC Tryz.call267 Tryz.func267 rfl rfl ?_
  refine LoopC.mk (fun i : Nat => i ≤ s.es.length) (fun i => [(1, .int .i64 k), (5, .osl 0), (10, ents s.es), (11, .int .i64 s.es.length), (12, .int .i64 i)])
    (fun i => [(0, .arr 61 4 (ofT (s.es.take i) k).length fun j => (ix (ofT (s.es.take i) k) j).row)]) 1 (fun i => s.es.length - i) 0
    ⟨Nat.zero_le _, [(1, 0)], rfl, rfl, ⟨AVle.refl _, AVle.refl _, AVle.refl _, AVle.refl _, AVle.refl _, trivial⟩, ⟨MOle.arr rfl fun i hi => absurd hi (Nat.not_lt_zero i), trivial⟩⟩ ?_
  intro i hi
  refine Grd.intro (fun h2 => ?_) (fun h2 => ?_)
  · have hin : i < s.es.length := by have := of_decide_eq_true h2; omega
    have hs := ofT_snoc hin k
    refine And.intro (by omega) ?_
    refine Grd.intro (fun h3 => ?_) (fun h3 => ?_)
    · rw [if_pos (show (ix s.es i).tier = k from of_decide_eq_true h3)] at hs
      refine And.intro ⟨show ((ofT (s.es.take i) k).length + 1) * 40 ≤ 140737488355328 by have := hl i; omega, all1 rfl⟩ ?_
      refine And.intro (inI64 (by omega) (by omega)) ?_
      refine ⟨i + 1, hin, by omega, [(3, 0)], rfl, rfl, ⟨AVle.refl _, AVle.refl _, AVle.refl _, AVle.refl _, AVle.of_eq (congrArg (AV.int .i64) (by simp)), trivial⟩, ⟨?_, trivial⟩⟩
      exact arr_next (f := En.row) hs rfl
    · rw [if_neg (show ¬ (ix s.es i).tier = k from of_decide_eq_false h3)] at hs
      refine And.intro (inI64 (by omega) (by omega)) ?_
      exact ⟨i + 1, hin, by omega, [(0, 0)], rfl, rfl, ⟨AVle.refl _, AVle.refl _, AVle.refl _, AVle.refl _, AVle.of_eq (congrArg (AV.int .i64) (by simp)), trivial⟩, ⟨MOle.of_eq (show MO.arr 61 4 (ofT (s.es.take i) k).length (fun j => (ix (ofT (s.es.take i) k) j).row) = _ by rw [hs]), trivial⟩⟩
  · have : i = s.es.length := by have := of_decide_eq_false h2; omega
    subst this
    have e : ofT (s.es.take s.es.length) k = R := by rw [List.take_of_length_le (Nat.le_refl _), hR]
    subst e
    exact And.intro trivial (AVle.sl rfl fun j hj => rfl)
/-- keys met, each once -/
def addK (ks : List (List UInt8)) (k : List UInt8) : List (List UInt8) := if k ∈ ks then ks else ks ++ [k]
def ddk (L : List (List UInt8)) : List (List UInt8) := L.foldl addK []
theorem ddk_snoc (L : List (List UInt8)) (x : List UInt8) : ddk (L ++ [x]) = addK (ddk L) x := by unfold ddk; rw [List.foldl_append]; rfl
theorem addK_len (L : List (List UInt8)) : ∀ acc : List (List UInt8), (L.foldl addK acc).length ≤ acc.length + L.length ∧ ((L.foldl addK acc).length = acc.length + L.length ↔ (L.Nodup ∧ ∀ x ∈ L, x ∉ acc)) := by
  induction L with
  | nil => intro acc; simp
  | cons k r ih =>
    intro acc
    have h := ih (addK acc k)
    by_cases hk : k ∈ acc
    · have e : addK acc k = acc := if_pos hk
      rw [List.foldl_cons, e]
      rw [e] at h
      refine ⟨by simp; omega, ⟨fun hh => ?_, fun hh => absurd hk (hh.2 k (by simp))⟩⟩
      simp at hh; omega
    · have e : addK acc k = acc ++ [k] := if_neg hk
      rw [List.foldl_cons, e]
      rw [e] at h
      simp only [List.length_append, List.length_cons, List.length_nil, List.nodup_cons, List.mem_cons] at h ⊢
      refine ⟨by omega, ?_⟩
      rw [show acc.length + (r.length + 1) = acc.length + (0 + 1) + r.length by omega, h.2]
      constructor
      · rintro ⟨h1, h2⟩
        refine ⟨⟨fun hm => h2 k hm (by simp), h1⟩, fun x hx => ?_⟩
        rcases hx with rfl | hx
        · exact hk
        · exact fun hx' => h2 x hx (by simp [hx'])
      · rintro ⟨⟨h1, h2⟩, h3⟩
        refine ⟨h2, fun x hx => ?_⟩
        simp only [List.mem_append, List.mem_cons, List.not_mem_nil, or_false, not_or]
        exact ⟨h3 x (.inr hx), fun e => h1 (e ▸ hx)⟩
theorem ddk_len (L : List (List UInt8)) : (ddk L).length ≤ L.length ∧ ((ddk L).length = L.length ↔ L.Nodup) := by
  have := addK_len L []
  simpa [ddk] using this
/-- entries one beside the other, from a moment on: where they end -/
def runs : List En → Int → Option Int
  | [], a => some a
  | e :: r, a => if e.f = a then runs r e.t else none
def atN (a : Int) (L : List En) : Nat → Int
  | 0 => a
  | i + 1 => (ix L i).t
def tierOK (L : List En) (lo hi : Int) (k : Int) : Bool := within lo 0 100000 && decide (runs (ofT L k) lo = some hi)
def tbOK (n : Int) (t : Tb) : Bool := kOk t.key && within t.seq 1 n
def Sta.keys (s : Sta) : List (List UInt8) := s.es.map (·.key) ++ s.ts.map (·.key)
def Sta.ok (s : Sta) : Bool :=
  within s.seq 0 999999 && (within s.fence 0 999999 && (decide (((s.es.length : Nat) : Int) + ((s.ts.length : Nat) : Int) ≤ 4096) && (s.es.all En.ok && (s.ts.all (tbOK s.seq) && (decide s.keys.Nodup &&
    (tierOK s.es s.l0 s.h0 0 && (tierOK s.es s.l1 s.h1 1 && tierOK s.es s.l2 s.h2 2)))))))
theorem StateOK_fn (s : Sta) (hL : s.es.length ≤ 1000000000) (hT : s.ts.length ≤ 1000000000) : VFn Tryz.prog 192 [s.av] (.bool s.ok) := by
  refine VFn.introC Tryz.call192 Tryz.func192 rfl rfl ?_
  conv => whnf
  refine CallC.sca _ (isSix_fn s.seq) ?_ ?_
  · exact rfl
  refine Grd.intro (fun h1 => ?_) (fun h1 => ?_)
  · have h1 : within s.seq 0 999999 = false := by simpa using h1
    have e : s.ok = false := by unfold Sta.ok; rw [h1]; rfl
    rw [e]
    exact And.intro trivial (AVle.refl _)
  have h1 : within s.seq 0 999999 = true := by simpa using h1
  conv => whnf
  refine CallC.sca _ (within_fn s.fence 0 999999) ?_ ?_
  · exact rfl
  refine Grd.intro (fun h2 => ?_) (fun h2 => ?_)
  · have h2 : within s.fence 0 999999 = false := by simpa using h2
    have e : s.ok = false := by unfold Sta.ok; rw [h1, h2]; rfl
    rw [e]
    exact And.intro trivial (AVle.refl _)
  have h2 : within s.fence 0 999999 = true := by simpa using h2
  refine And.intro (inI64 (by omega) (by omega)) ?_
  refine Grd.intro (fun h3 => ?_) (fun h3 => ?_)
  · have h3 : ¬ ((s.es.length : Nat) : Int) + ((s.ts.length : Nat) : Int) ≤ 4096 := by
      have h : decide (4096 < ((s.es.length : Nat) : Int) + ((s.ts.length : Nat) : Int)) = true := h3
      have := of_decide_eq_true h; omega
    have e : s.ok = false := by unfold Sta.ok; rw [h1, h2, decide_eq_false h3]; rfl
    rw [e]
    exact And.intro trivial (AVle.refl _)
  have h3 : ((s.es.length : Nat) : Int) + ((s.ts.length : Nat) : Int) ≤ 4096 := by
    have h : decide (4096 < ((s.es.length : Nat) : Int) + ((s.ts.length : Nat) : Int)) = false := h3
    have := of_decide_eq_false h; omega
  conv => whnf
  refine CallC.sca _ (allEn_fn s.es (by omega) 112 En.ok (fun e _ => entryOK_fn e)) ?_ ?_
  · exact rfl
  refine Grd.intro (fun h4 => ?_) (fun h4 => ?_)
  · have h4 : s.es.all En.ok = false := by simpa using (show (!s.es.all En.ok) = true from h4)
    have e : s.ok = false := by unfold Sta.ok; rw [h1, h2, decide_eq_true h3, h4]; rfl
    rw [e]
    exact And.intro trivial (AVle.refl _)
  have h4 : s.es.all En.ok = true := by simpa using (show (!s.es.all En.ok) = false from h4)
  refine LoopC.mk (fun i : Nat => i ≤ s.es.length) (fun i => [(1, .bptr 0 0), (3, .omap 1), (44, ents s.es), (45, .int .i64 s.es.length), (46, .int .i64 i)])
    (fun i => [(0, .box s.row), (1, .smap (ddk ((s.es.take i).map (·.key))))]) 2 (fun i => s.es.length - i) 0
    ⟨Nat.zero_le _, [(0, 0), (1, 1)], rfl, rfl, ⟨AVle.refl _, AVle.refl _, AVle.refl _, AVle.refl _, AVle.refl _, trivial⟩, ⟨MOle.refl _, MOle.refl _, trivial⟩⟩ ?_
  intro i hi
  refine Grd.intro (fun h5 => ?_) (fun h5 => ?_)
  · have hin : i < s.es.length := by have := of_decide_eq_true h5; omega
    refine And.intro (by omega) ?_
    refine And.intro (inI64 (by omega) (by omega)) ?_
    refine ⟨i + 1, hin, by omega, [(0, 0), (1, 1)], rfl, rfl, ⟨AVle.refl _, AVle.refl _, AVle.refl _, AVle.refl _, AVle.of_eq (congrArg (AV.int .i64) (by simp)), trivial⟩, ⟨MOle.refl _, MOle.of_eq (show MO.smap (if (B (ix s.es i).key).data.toList ∈ ddk ((s.es.take i).map (·.key)) then ddk ((s.es.take i).map (·.key)) else ddk ((s.es.take i).map (·.key)) ++ [(B (ix s.es i).key).data.toList]) = _ from ?_), trivial⟩⟩
    rw [map_take_snoc hin, ddk_snoc, B_data]; rfl
  have : i = s.es.length := by have := of_decide_eq_false h5; omega
  subst this
  rw [List.take_of_length_le (Nat.le_refl _)]
  refine LoopC.mk (fun i : Nat => i ≤ s.ts.length ∧ ∀ j, j < i → tbOK s.seq (ix s.ts j) = true) (fun i => [(1, .bptr 0 0), (3, .omap 1), (55, tbs s.ts), (56, .int .i64 s.ts.length), (57, .int .i64 i)])
    (fun i => [(0, .box s.row), (1, .smap (ddk (s.es.map (·.key) ++ (s.ts.take i).map (·.key))))]) 2 (fun i => s.ts.length - i) 0
    ⟨⟨Nat.zero_le _, fun j hj => absurd hj (Nat.not_lt_zero j)⟩, [(0, 0), (1, 1)], rfl, rfl, ⟨AVle.refl _, AVle.refl _, AVle.refl _, AVle.refl _, AVle.refl _, trivial⟩, ⟨MOle.refl _, MOle.of_eq (show MO.smap (ddk (s.es.map (·.key))) = _ by simp), trivial⟩⟩ ?_
  intro i hi
  obtain ⟨hi, hall⟩ := hi
  refine Grd.intro (fun h6 => ?_) (fun h6 => ?_)
  · have hin : i < s.ts.length := by have := of_decide_eq_true h6; omega
    have hbad : tbOK s.seq (ix s.ts i) = false → s.ok = false := fun h => by
      have : s.ts.all (tbOK s.seq) = false := by
        rw [← Bool.not_eq_true]; intro h'
        rw [List.all_eq_true.1 h' _ (getD_mem hin)] at h; cases h
      unfold Sta.ok; rw [h1, h2, decide_eq_true h3, h4, this]; rfl
    refine And.intro (by omega) ?_
    conv => whnf
    refine CallC.sca _ (readDataKey_fn (ix s.ts i).key) ?_ ?_
    · exact rfl
    refine Grd.intro (fun h7 => ?_) (fun h7 => ?_)
    · rw [hbad (by unfold tbOK; rw [show kOk (ix s.ts i).key = false by simpa using (show (!kOk (ix s.ts i).key) = true from h7)]; rfl)]
      exact And.intro trivial (AVle.refl _)
    have h7 : kOk (ix s.ts i).key = true := by simpa using (show (!kOk (ix s.ts i).key) = false from h7)
    conv => whnf
    refine CallC.sca _ (within_fn (ix s.ts i).seq 1 s.seq) ?_ ?_
    · exact rfl
    refine Grd.intro (fun h8 => ?_) (fun h8 => ?_)
    · rw [hbad (by unfold tbOK; rw [show within (ix s.ts i).seq 1 s.seq = false by simpa using (show (!within (ix s.ts i).seq 1 s.seq) = true from h8)]; simp)]
      exact And.intro trivial (AVle.refl _)
    have h8 : within (ix s.ts i).seq 1 s.seq = true := by simpa using (show (!within (ix s.ts i).seq 1 s.seq) = false from h8)
    refine And.intro (inI64 (by omega) (by omega)) ?_
    refine ⟨i + 1, ⟨hin, fun j hj => ?_⟩, by omega, [(0, 0), (1, 1)], rfl, rfl, ⟨AVle.refl _, AVle.refl _, AVle.refl _, AVle.refl _, AVle.of_eq (congrArg (AV.int .i64) (by simp)), trivial⟩, ⟨MOle.refl _, MOle.of_eq (show MO.smap (if (B (ix s.ts i).key).data.toList ∈ ddk (s.es.map (·.key) ++ (s.ts.take i).map (·.key)) then ddk (s.es.map (·.key) ++ (s.ts.take i).map (·.key)) else ddk (s.es.map (·.key) ++ (s.ts.take i).map (·.key)) ++ [(B (ix s.ts i).key).data.toList]) = _ from ?_), trivial⟩⟩
    · rcases Nat.lt_or_ge j i with h' | h'
      · exact hall j h'
      · rw [show j = i by omega]; unfold tbOK; rw [h7, h8]; rfl
    · rw [map_take_snoc hin, ← List.append_assoc, ddk_snoc, B_data]; rfl
  have : i = s.ts.length := by have := of_decide_eq_false h6; omega
  subst this
  rw [List.take_of_length_le (Nat.le_refl _)]
  have h7 : s.ts.all (tbOK s.seq) = true := List.all_eq_true.2 fun x hx => by
    obtain ⟨j, hj, e⟩ := List.getElem_of_mem hx
    have := hall j hj
    rw [ix_lt hj, e] at this; exact this
  have hkl : s.keys.length = s.es.length + s.ts.length := by simp [Sta.keys]
  have hdd := ddk_len s.keys
  refine And.intro (inI64 (by omega) (by omega)) ?_
  refine Grd.intro (fun h8 => ?_) (fun h8 => ?_)
  · have h8 : ¬ s.keys.Nodup := fun hn => by
      have h : (!decide ((((ddk s.keys).length : Nat) : Int) = ((s.es.length : Nat) : Int) + ((s.ts.length : Nat) : Int))) = true := h8
      have := hdd.2.2 hn
      simp at h; omega
    have e : s.ok = false := by unfold Sta.ok; rw [h1, h2, decide_eq_true h3, h4, h7, decide_eq_false h8]; rfl
    rw [e]
    exact And.intro trivial (AVle.refl _)
  have h8 : s.keys.Nodup := by
    have h : (!decide ((((ddk s.keys).length : Nat) : Int) = ((s.es.length : Nat) : Int) + ((s.ts.length : Nat) : Int))) = false := h8
    simp at h
    exact hdd.2.1 (by omega)
  have hok : s.ok = (tierOK s.es s.l0 s.h0 0 && (tierOK s.es s.l1 s.h1 1 && tierOK s.es s.l2 s.h2 2)) := by
    unfold Sta.ok; rw [h1, h2, decide_eq_true h3, h4, h7, decide_eq_true h8]; rfl
  refine LoopC.rounds 4 ?_
  have hbad0 : tierOK s.es s.l0 s.h0 0 = false → s.ok = false := fun ht => by rw [hok, ht]; rfl
  refine And.intro ⟨by omega, by show (0 : Int) < ((3 : Nat) : Int); omega⟩ ?_
  conv => whnf
  refine CallC.sca _ (within_fn s.l0 0 100000) ?_ ?_
  · exact rfl
  refine Grd.intro (fun g1 => ?_) (fun g1 => ?_)
  · rw [hbad0 (by unfold tierOK; rw [show within s.l0 0 100000 = false by simpa using (show (!within s.l0 0 100000) = true from g1)]; rfl)]
    exact And.intro trivial (AVle.refl _)
  have w0 : within s.l0 0 100000 = true := by simpa using (show (!within s.l0 0 100000) = false from g1)
  conv => whnf
  refine CallC.nl _ (ofS_fn s hL 0) ?_ ?_
  · exact rfl
  obtain ⟨R0, hR0⟩ : ∃ R, R = ofT s.es 0 := ⟨_, rfl⟩
  rw [← hR0]
  have hRl0 : R0.length ≤ 1000000000 := by rw [hR0]; exact Nat.le_trans (ofT_len _ _) hL
  refine LoopC.mk (fun j : Nat => j ≤ R0.length ∧ runs R0 s.l0 = runs (R0.drop j) (atN s.l0 R0 j)) (fun j => [(1, .bptr 0 0), (12, .int .i64 0), (13, .int .i64 (atN s.l0 R0 j)), (93, .int .i64 0), (105, ents R0), (106, .int .i64 R0.length), (107, .int .i64 j)])
    (fun j => [(0, .box s.row)]) 1 (fun j => R0.length - j) 0
    ⟨⟨Nat.zero_le _, rfl⟩, [(0, 0)], rfl, rfl, ⟨AVle.refl _, AVle.refl _, AVle.refl _, AVle.refl _, AVle.refl _, AVle.refl _, AVle.refl _, trivial⟩, ⟨MOle.refl _, trivial⟩⟩ ?_
  intro j hj
  obtain ⟨hj, hrun⟩ := hj
  refine Grd.intro (fun g2 => ?_) (fun g2 => ?_)
  · have hjn : j < R0.length := by have := of_decide_eq_true g2; omega
    have hrun' := hrun
    rw [drop_ix hjn] at hrun'
    refine And.intro (by omega) ?_
    refine Grd.intro (fun g3 => ?_) (fun g3 => ?_)
    · have g3 : ¬ (ix R0 j).f = atN s.l0 R0 j := by simpa using (show (!decide ((ix R0 j).f = atN s.l0 R0 j)) = true from g3)
      rw [hbad0 (by unfold tierOK; rw [← hR0, hrun', runs, if_neg g3]; simp)]
      exact And.intro trivial (AVle.refl _)
    have g3 : (ix R0 j).f = atN s.l0 R0 j := by simpa using (show (!decide ((ix R0 j).f = atN s.l0 R0 j)) = false from g3)
    rw [runs, if_pos g3] at hrun'
    refine And.intro (inI64 (by omega) (by omega)) ?_
    exact ⟨j + 1, ⟨hjn, hrun'⟩, by omega, [(0, 0)], rfl, rfl, ⟨AVle.refl _, AVle.refl _, AVle.refl _, AVle.refl _, AVle.refl _, AVle.refl _, AVle.of_eq (congrArg (AV.int .i64) (by simp)), trivial⟩, ⟨MOle.refl _, trivial⟩⟩
  have : j = R0.length := by have := of_decide_eq_false g2; omega
  subst this
  rw [List.drop_length, runs] at hrun
  refine And.intro ⟨by omega, by show (0 : Int) < ((3 : Nat) : Int); omega⟩ ?_
  refine Grd.intro (fun g3 => ?_) (fun g3 => ?_)
  · have g3 : ¬ atN s.l0 R0 R0.length = s.h0 := by simpa using (show (!decide (atN s.l0 R0 R0.length = s.h0)) = true from g3)
    rw [hbad0 (by unfold tierOK; rw [← hR0, hrun]; simp [g3])]
    exact And.intro trivial (AVle.refl _)
  have g3 : atN s.l0 R0 R0.length = s.h0 := by simpa using (show (!decide (atN s.l0 R0 R0.length = s.h0)) = false from g3)
  have ht0 : tierOK s.es s.l0 s.h0 0 = true := by unfold tierOK; rw [w0, ← hR0, hrun, g3]; simp
  refine And.intro (inI64 (by omega) (by omega)) ?_
  clear g1 g2 g3 hrun hj
  have hbad1 : tierOK s.es s.l1 s.h1 1 = false → s.ok = false := fun ht => by rw [hok, ht0, ht]; rfl
  refine And.intro ⟨by omega, by show (1 : Int) < ((3 : Nat) : Int); omega⟩ ?_
  conv => whnf
  refine CallC.sca _ (within_fn s.l1 0 100000) ?_ ?_
  · exact rfl
  refine Grd.intro (fun g1 => ?_) (fun g1 => ?_)
  · rw [hbad1 (by unfold tierOK; rw [show within s.l1 0 100000 = false by simpa using (show (!within s.l1 0 100000) = true from g1)]; rfl)]
    exact And.intro trivial (AVle.refl _)
  have w1 : within s.l1 0 100000 = true := by simpa using (show (!within s.l1 0 100000) = false from g1)
  conv => whnf
  refine CallC.nl _ (ofS_fn s hL 1) ?_ ?_
  · exact rfl
  obtain ⟨R1, hR1⟩ : ∃ R, R = ofT s.es 1 := ⟨_, rfl⟩
  rw [← hR1]
  have hRl1 : R1.length ≤ 1000000000 := by rw [hR1]; exact Nat.le_trans (ofT_len _ _) hL
  refine LoopC.mk (fun j : Nat => j ≤ R1.length ∧ runs R1 s.l1 = runs (R1.drop j) (atN s.l1 R1 j)) (fun j => [(1, .bptr 0 0), (12, .int .i64 1), (13, .int .i64 (atN s.l1 R1 j)), (93, .int .i64 1), (105, ents R1), (106, .int .i64 R1.length), (107, .int .i64 j)])
    (fun j => [(0, .box s.row)]) 1 (fun j => R1.length - j) 0
    ⟨⟨Nat.zero_le _, rfl⟩, [(0, 0)], rfl, rfl, ⟨AVle.refl _, AVle.refl _, AVle.refl _, AVle.refl _, AVle.refl _, AVle.refl _, AVle.refl _, trivial⟩, ⟨MOle.refl _, trivial⟩⟩ ?_
  intro j hj
  obtain ⟨hj, hrun⟩ := hj
  refine Grd.intro (fun g2 => ?_) (fun g2 => ?_)
  · have hjn : j < R1.length := by have := of_decide_eq_true g2; omega
    have hrun' := hrun
    rw [drop_ix hjn] at hrun'
    refine And.intro (by omega) ?_
    refine Grd.intro (fun g3 => ?_) (fun g3 => ?_)
    · have g3 : ¬ (ix R1 j).f = atN s.l1 R1 j := by simpa using (show (!decide ((ix R1 j).f = atN s.l1 R1 j)) = true from g3)
      rw [hbad1 (by unfold tierOK; rw [← hR1, hrun', runs, if_neg g3]; simp)]
      exact And.intro trivial (AVle.refl _)
    have g3 : (ix R1 j).f = atN s.l1 R1 j := by simpa using (show (!decide ((ix R1 j).f = atN s.l1 R1 j)) = false from g3)
    rw [runs, if_pos g3] at hrun'
    refine And.intro (inI64 (by omega) (by omega)) ?_
    exact ⟨j + 1, ⟨hjn, hrun'⟩, by omega, [(0, 0)], rfl, rfl, ⟨AVle.refl _, AVle.refl _, AVle.refl _, AVle.refl _, AVle.refl _, AVle.refl _, AVle.of_eq (congrArg (AV.int .i64) (by simp)), trivial⟩, ⟨MOle.refl _, trivial⟩⟩
  have : j = R1.length := by have := of_decide_eq_false g2; omega
  subst this
  rw [List.drop_length, runs] at hrun
  refine And.intro ⟨by omega, by show (1 : Int) < ((3 : Nat) : Int); omega⟩ ?_
  refine Grd.intro (fun g3 => ?_) (fun g3 => ?_)
  · have g3 : ¬ atN s.l1 R1 R1.length = s.h1 := by simpa using (show (!decide (atN s.l1 R1 R1.length = s.h1)) = true from g3)
    rw [hbad1 (by unfold tierOK; rw [← hR1, hrun]; simp [g3])]
    exact And.intro trivial (AVle.refl _)
  have g3 : atN s.l1 R1 R1.length = s.h1 := by simpa using (show (!decide (atN s.l1 R1 R1.length = s.h1)) = false from g3)
  have ht1 : tierOK s.es s.l1 s.h1 1 = true := by unfold tierOK; rw [w1, ← hR1, hrun, g3]; simp
  refine And.intro (inI64 (by omega) (by omega)) ?_
  clear g1 g2 g3 hrun hj
  have hbad2 : tierOK s.es s.l2 s.h2 2 = false → s.ok = false := fun ht => by rw [hok, ht0, ht1, ht]; rfl
  refine And.intro ⟨by omega, by show (2 : Int) < ((3 : Nat) : Int); omega⟩ ?_
  conv => whnf
  refine CallC.sca _ (within_fn s.l2 0 100000) ?_ ?_
  · exact rfl
  refine Grd.intro (fun g1 => ?_) (fun g1 => ?_)
  · rw [hbad2 (by unfold tierOK; rw [show within s.l2 0 100000 = false by simpa using (show (!within s.l2 0 100000) = true from g1)]; rfl)]
    exact And.intro trivial (AVle.refl _)
  have w2 : within s.l2 0 100000 = true := by simpa using (show (!within s.l2 0 100000) = false from g1)
  conv => whnf
  refine CallC.nl _ (ofS_fn s hL 2) ?_ ?_
  · exact rfl
  obtain ⟨R2, hR2⟩ : ∃ R, R = ofT s.es 2 := ⟨_, rfl⟩
  rw [← hR2]
  have hRl2 : R2.length ≤ 1000000000 := by rw [hR2]; exact Nat.le_trans (ofT_len _ _) hL
  refine LoopC.mk (fun j : Nat => j ≤ R2.length ∧ runs R2 s.l2 = runs (R2.drop j) (atN s.l2 R2 j)) (fun j => [(1, .bptr 0 0), (12, .int .i64 2), (13, .int .i64 (atN s.l2 R2 j)), (93, .int .i64 2), (105, ents R2), (106, .int .i64 R2.length), (107, .int .i64 j)])
    (fun j => [(0, .box s.row)]) 1 (fun j => R2.length - j) 0
    ⟨⟨Nat.zero_le _, rfl⟩, [(0, 0)], rfl, rfl, ⟨AVle.refl _, AVle.refl _, AVle.refl _, AVle.refl _, AVle.refl _, AVle.refl _, AVle.refl _, trivial⟩, ⟨MOle.refl _, trivial⟩⟩ ?_
  intro j hj
  obtain ⟨hj, hrun⟩ := hj
  refine Grd.intro (fun g2 => ?_) (fun g2 => ?_)
  · have hjn : j < R2.length := by have := of_decide_eq_true g2; omega
    have hrun' := hrun
    rw [drop_ix hjn] at hrun'
    refine And.intro (by omega) ?_
    refine Grd.intro (fun g3 => ?_) (fun g3 => ?_)
    · have g3 : ¬ (ix R2 j).f = atN s.l2 R2 j := by simpa using (show (!decide ((ix R2 j).f = atN s.l2 R2 j)) = true from g3)
      rw [hbad2 (by unfold tierOK; rw [← hR2, hrun', runs, if_neg g3]; simp)]
      exact And.intro trivial (AVle.refl _)
    have g3 : (ix R2 j).f = atN s.l2 R2 j := by simpa using (show (!decide ((ix R2 j).f = atN s.l2 R2 j)) = false from g3)
    rw [runs, if_pos g3] at hrun'
    refine And.intro (inI64 (by omega) (by omega)) ?_
    exact ⟨j + 1, ⟨hjn, hrun'⟩, by omega, [(0, 0)], rfl, rfl, ⟨AVle.refl _, AVle.refl _, AVle.refl _, AVle.refl _, AVle.refl _, AVle.refl _, AVle.of_eq (congrArg (AV.int .i64) (by simp)), trivial⟩, ⟨MOle.refl _, trivial⟩⟩
  have : j = R2.length := by have := of_decide_eq_false g2; omega
  subst this
  rw [List.drop_length, runs] at hrun
  refine And.intro ⟨by omega, by show (2 : Int) < ((3 : Nat) : Int); omega⟩ ?_
  refine Grd.intro (fun g3 => ?_) (fun g3 => ?_)
  · have g3 : ¬ atN s.l2 R2 R2.length = s.h2 := by simpa using (show (!decide (atN s.l2 R2 R2.length = s.h2)) = true from g3)
    rw [hbad2 (by unfold tierOK; rw [← hR2, hrun]; simp [g3])]
    exact And.intro trivial (AVle.refl _)
  have g3 : atN s.l2 R2 R2.length = s.h2 := by simpa using (show (!decide (atN s.l2 R2 R2.length = s.h2)) = false from g3)
  have ht2 : tierOK s.es s.l2 s.h2 2 = true := by unfold tierOK; rw [w2, ← hR2, hrun, g3]; simp
  refine And.intro (inI64 (by omega) (by omega)) ?_
  clear g1 g2 g3 hrun hj
  rw [show s.ok = true by rw [hok, ht0, ht1, ht2]; rfl]
  exact And.intro trivial (AVle.refl _)
end Go.Proofs.YtlbnpndednhdaaaGreatDoor
set_option linter.unusedVariables false
set_option linter.constructorNameAsVariable false
set_option linter.unusedSimpArgs false
set_option maxRecDepth 20000
namespace Go.Proofs.YtlbnpndednhdaaaGreatDoor
open Go Go.Vw

def En.rc (e : En) : Rc := ⟨0, 0, e.tier, e.f, e.t, e.key⟩
theorem En.ok_tier {e : En} (h : e.ok = true) : e.tier = 0 ∨ e.tier = 1 ∨ e.tier = 2 := by
  unfold En.ok at h
  have h2 := kT_nat e.key
  simp at h
  omega
theorem tiered0_fn (e : En) (hk : e.key.length ≤ 1000000000) : VFn Tryz.prog 107 [e.rc.av, .int .i64 0] (.bool e.ok) := by
  have h0 := l06Tiered_fn e.rc hk 0
  have e0 : (e.rc.en.ok && decide (0 ≤ e.rc.tier)) = e.ok := by
    show (e.ok && decide (0 ≤ e.tier)) = e.ok
    cases h : e.ok
    · rfl
    · have := En.ok_tier h
      simp; omega
  rw [e0] at h0
  exact h0
/-- where a tier's entries end -/
def endE (L : List En) (lo : Int) (k : Int) : Int := match (ofT L k).getLast? with | some e => e.t | none => lo
theorem endE_snoc {L : List En} {i : Nat} (h : i < L.length) (lo k : Int) : endE (L.take (i + 1)) lo k = if (ix L i).tier = k then (ix L i).t else endE (L.take i) lo k := by
  unfold endE
  rw [ofT_snoc h]
  by_cases hk : (ix L i).tier = k
  · rw [if_pos hk, if_pos hk]; simp
  · rw [if_neg hk, if_neg hk]
def Sta.lo (s : Sta) (k : Int) : Int := if k = 0 then s.l0 else if k = 1 then s.l1 else s.l2
def Sta.hi (s : Sta) (k : Int) : Int := if k = 0 then s.h0 else if k = 1 then s.h1 else s.h2
def Sta.eOK (s : Sta) (i : Nat) : Bool := (ix s.es i).ok && (decide ((ix s.es i).f = endE (s.es.take i) (s.lo (ix s.es i).tier) (ix s.es i).tier) && !decide ((ix s.es i).key ∈ (s.es.take i).map (·.key)))
def Sta.tOK (s : Sta) (i : Nat) : Bool := tbOK s.seq (ix s.ts i) && !decide ((ix s.ts i).key ∈ s.es.map (·.key) ++ (s.ts.take i).map (·.key))
def Sta.ok' (s : Sta) : Bool :=
  within s.seq 0 999999 && (within s.fence 0 999999 && (decide (((s.es.length : Nat) : Int) + ((s.ts.length : Nat) : Int) ≤ 4096) && (allN s.es.length s.eOK && (allN s.ts.length s.tOK &&
    ((within s.l0 0 100000 && decide (s.h0 = endE s.es s.l0 0)) && ((within s.l1 0 100000 && decide (s.h1 = endE s.es s.l1 1)) && (within s.l2 0 100000 && decide (s.h2 = endE s.es s.l2 2))))))))
theorem specStateOK_fn (s : Sta) (hL : s.es.length ≤ 1000000000) (hT : s.ts.length ≤ 1000000000) (hk1 : ∀ e ∈ s.es, e.key.length ≤ 1000000000) (hk2 : ∀ e ∈ s.ts, e.key.length ≤ 1000000000) : VFn Tryz.prog 191 [s.av] (.bool s.ok') := by
  refine VFn.introC Tryz.call191 Tryz.func191 rfl rfl ?_
  conv => whnf
  refine CallC.sca _ (l01In_fn s.seq 0 999999) ?_ ?_
  · exact rfl
  refine Grd.intro (fun h1 => ?_) (fun h1 => ?_)
  · have h1 : within s.seq 0 999999 = false := by simpa using h1
    have e : s.ok' = false := by unfold Sta.ok'; rw [h1]; rfl
    rw [e]
    exact And.intro trivial (AVle.refl _)
  have h1 : within s.seq 0 999999 = true := by simpa using h1
  conv => whnf
  refine CallC.sca _ (l01In_fn s.fence 0 999999) ?_ ?_
  · exact rfl
  refine Grd.intro (fun h2 => ?_) (fun h2 => ?_)
  · have h2 : within s.fence 0 999999 = false := by simpa using h2
    have e : s.ok' = false := by unfold Sta.ok'; rw [h1, h2]; rfl
    rw [e]
    exact And.intro trivial (AVle.refl _)
  have h2 : within s.fence 0 999999 = true := by simpa using h2
  refine And.intro (inI64 (by omega) (by omega)) ?_
  refine Grd.intro (fun h3 => ?_) (fun h3 => ?_)
  · have h3 : ¬ ((s.es.length : Nat) : Int) + ((s.ts.length : Nat) : Int) ≤ 4096 := by
      have h : decide (4096 < ((s.es.length : Nat) : Int) + ((s.ts.length : Nat) : Int)) = true := h3
      have := of_decide_eq_true h; omega
    have e : s.ok' = false := by unfold Sta.ok'; rw [h1, h2, decide_eq_false h3]; rfl
    rw [e]
    exact And.intro trivial (AVle.refl _)
  have h3 : ((s.es.length : Nat) : Int) + ((s.ts.length : Nat) : Int) ≤ 4096 := by
    have h : decide (4096 < ((s.es.length : Nat) : Int) + ((s.ts.length : Nat) : Int)) = false := h3
    have := of_decide_eq_false h; omega
  refine LoopC.mk (fun i : Nat => i ≤ s.es.length ∧ ∀ j, j < i → s.eOK j = true) (fun i => [(1, .bptr 0 0), (3, .bptr 1 0), (4, .osl 2), (5, .int .i64 i)])
    (fun i => [(0, .box s.row), (1, .box [.int .i64 (endE (s.es.take i) s.l0 0), .int .i64 (endE (s.es.take i) s.l1 1), .int .i64 (endE (s.es.take i) s.l2 2)]), (2, .arr 9 1 ((s.es.take i).map (·.key)).length fun j => [.str (B (ix ((s.es.take i).map (·.key)) j))])]) 3 (fun i => s.es.length - i) 0
    ⟨⟨Nat.zero_le _, fun j hj => absurd hj (Nat.not_lt_zero j)⟩, [(0, 0), (1, 1), (2, 2)], rfl, rfl, ⟨AVle.refl _, AVle.refl _, AVle.refl _, AVle.refl _, trivial⟩, ⟨MOle.refl _, MOle.refl _, MOle.arr rfl fun i hi => absurd hi (Nat.not_lt_zero i), trivial⟩⟩ ?_
  intro i hi
  obtain ⟨hi, hall⟩ := hi
  refine Grd.intro (fun h4 => ?_) (fun h4 => ?_)
  · have hin : i < s.es.length := by have := of_decide_eq_true h4; omega
    have hmem := getD_mem hin
    have hbad : s.eOK i = false → s.ok' = false := fun h => by
      have : allN s.es.length s.eOK = false := by
        rw [← Bool.not_eq_true]; intro h'
        rw [List.all_eq_true.1 h' i (by simpa using hin)] at h; cases h
      unfold Sta.ok'; rw [h1, h2, decide_eq_true h3, this]; rfl
    refine And.intro (by omega) ?_
    refine DrawC.mk 26 rfl (by kernel_rfl) ?_
    refine PCallC.sca _ (tiered0_fn (ix s.es i) (hk1 _ hmem)) rfl ?_
    refine Grd.intro (fun h5 => ?_) (fun h5 => ?_)
    · rw [hbad (by unfold Sta.eOK; rw [show (ix s.es i).ok = false by simpa using (show (!(ix s.es i).ok) = true from h5)]; rfl)]
      exact And.intro trivial (AVle.refl _)
    have h5 : (ix s.es i).ok = true := by simpa using (show (!(ix s.es i).ok) = false from h5)
    have ht := En.ok_tier h5
    refine And.intro ⟨show 0 ≤ (ix s.es i).tier by omega, show (ix s.es i).tier < ((3 : Nat) : Int) by omega⟩ ?_
    have hx : (ix s.es (i : Int).toNat) = ix s.es i := rfl
    generalize (ix s.es (i : Int).toNat) = e at hx ⊢
    obtain ⟨tier, f, t, key⟩ := e
    have hend0 := endE_snoc hin s.l0 0
    have hend1 := endE_snoc hin s.l1 1
    have hend2 := endE_snoc hin s.l2 2
    rcases ht with ht | ht | ht
    · have h5t : tier = 0 := by rw [← hx] at ht; exact ht
      subst h5t
      refine Grd.intro (fun h6 => ?_) (fun h6 => ?_)
      · have h6 : ¬ f = endE (s.es.take i) s.l0 0 := by simpa using (show (!decide (f = endE (s.es.take i) s.l0 0)) = true from h6)
        rw [hbad (by unfold Sta.eOK; rw [← hx, show decide (f = endE (s.es.take i) (s.lo 0) 0) = false from decide_eq_false h6]; simp)]
        exact And.intro trivial (AVle.refl _)
      have h6 : f = endE (s.es.take i) s.l0 0 := by simpa using (show (!decide (f = endE (s.es.take i) s.l0 0)) = false from h6)
      refine PCallC.sca _ (l06In_fn ((s.es.take i).map (fun e : En => e.key)) (by simp; omega) key) rfl ?_
      refine Grd.intro (fun h7 => ?_) (fun h7 => ?_)
      · have h7 : decide (key ∈ (s.es.take i).map (·.key)) = true := h7
        rw [hbad (by unfold Sta.eOK; rw [← hx, show decide (key ∈ (s.es.take i).map (·.key)) = true from h7]; simp)]
        exact And.intro trivial (AVle.refl _)
      have h7 : decide (key ∈ (s.es.take i).map (·.key)) = false := h7
      have hgood : s.eOK i = true := by
        unfold Sta.eOK; rw [h5, ← hx, show decide (f = endE (s.es.take i) (s.lo 0) 0) = true from decide_eq_true h6, show decide (key ∈ (s.es.take i).map (·.key)) = false from h7]; rfl
      refine And.intro ⟨show (0 : Int) ≤ 0 by omega, show (0 : Int) < ((3 : Nat) : Int) by omega⟩ ?_
      refine And.intro ⟨show (((s.es.take i).map (·.key)).length + 1) * 16 ≤ 140737488355328 by simp; omega, all1 rfl⟩ ?_
      refine And.intro (inI64 (by omega) (by omega)) ?_
      refine ⟨i + 1, ⟨hin, fun j hj => ?_⟩, by omega, [(0, 0), (1, 1), (31, 2)], rfl, rfl, ⟨AVle.refl _, AVle.refl _, AVle.refl _, AVle.of_eq (congrArg (AV.int .i64) (by simp)), trivial⟩, ⟨MOle.refl _, MOle.box (AVsle.cons (AVle.of_eq (congrArg (AV.int .i64) (show t = _ by rw [hend0, if_pos (by rw [← hx]), ← hx]))) (AVsle.cons (AVle.of_eq (congrArg (AV.int .i64) (show endE (s.es.take i) s.l1 1 = _ by rw [hend1, if_neg (by rw [← hx]; exact (show ¬ ((0 : Int) = 1) by decide))]))) (AVsle.cons (AVle.of_eq (congrArg (AV.int .i64) (show endE (s.es.take i) s.l2 2 = _ by rw [hend2, if_neg (by rw [← hx]; exact (show ¬ ((0 : Int) = 2) by decide))]))) AVsle.nil))), arr_next (f := fun x => [.str (B x)]) (map_take_snoc hin) (show [AV.str (B key)] = _ by rw [← hx]), trivial⟩⟩
      rcases Nat.lt_or_ge j i with h' | h'
      · exact hall j h'
      · rw [show j = i by omega]; exact hgood
    · have h5t : tier = 1 := by rw [← hx] at ht; exact ht
      subst h5t
      refine Grd.intro (fun h6 => ?_) (fun h6 => ?_)
      · have h6 : ¬ f = endE (s.es.take i) s.l1 1 := by simpa using (show (!decide (f = endE (s.es.take i) s.l1 1)) = true from h6)
        rw [hbad (by unfold Sta.eOK; rw [← hx, show decide (f = endE (s.es.take i) (s.lo 1) 1) = false from decide_eq_false h6]; simp)]
        exact And.intro trivial (AVle.refl _)
      have h6 : f = endE (s.es.take i) s.l1 1 := by simpa using (show (!decide (f = endE (s.es.take i) s.l1 1)) = false from h6)
      refine PCallC.sca _ (l06In_fn ((s.es.take i).map (fun e : En => e.key)) (by simp; omega) key) rfl ?_
      refine Grd.intro (fun h7 => ?_) (fun h7 => ?_)
      · have h7 : decide (key ∈ (s.es.take i).map (·.key)) = true := h7
        rw [hbad (by unfold Sta.eOK; rw [← hx, show decide (key ∈ (s.es.take i).map (·.key)) = true from h7]; simp)]
        exact And.intro trivial (AVle.refl _)
      have h7 : decide (key ∈ (s.es.take i).map (·.key)) = false := h7
      have hgood : s.eOK i = true := by
        unfold Sta.eOK; rw [h5, ← hx, show decide (f = endE (s.es.take i) (s.lo 1) 1) = true from decide_eq_true h6, show decide (key ∈ (s.es.take i).map (·.key)) = false from h7]; rfl
      refine And.intro ⟨show (0 : Int) ≤ 1 by omega, show (1 : Int) < ((3 : Nat) : Int) by omega⟩ ?_
      refine And.intro ⟨show (((s.es.take i).map (·.key)).length + 1) * 16 ≤ 140737488355328 by simp; omega, all1 rfl⟩ ?_
      refine And.intro (inI64 (by omega) (by omega)) ?_
      refine ⟨i + 1, ⟨hin, fun j hj => ?_⟩, by omega, [(0, 0), (1, 1), (31, 2)], rfl, rfl, ⟨AVle.refl _, AVle.refl _, AVle.refl _, AVle.of_eq (congrArg (AV.int .i64) (by simp)), trivial⟩, ⟨MOle.refl _, MOle.box (AVsle.cons (AVle.of_eq (congrArg (AV.int .i64) (show endE (s.es.take i) s.l0 0 = _ by rw [hend0, if_neg (by rw [← hx]; exact (show ¬ ((1 : Int) = 0) by decide))]))) (AVsle.cons (AVle.of_eq (congrArg (AV.int .i64) (show t = _ by rw [hend1, if_pos (by rw [← hx]), ← hx]))) (AVsle.cons (AVle.of_eq (congrArg (AV.int .i64) (show endE (s.es.take i) s.l2 2 = _ by rw [hend2, if_neg (by rw [← hx]; exact (show ¬ ((1 : Int) = 2) by decide))]))) AVsle.nil))), arr_next (f := fun x => [.str (B x)]) (map_take_snoc hin) (show [AV.str (B key)] = _ by rw [← hx]), trivial⟩⟩
      rcases Nat.lt_or_ge j i with h' | h'
      · exact hall j h'
      · rw [show j = i by omega]; exact hgood
    · have h5t : tier = 2 := by rw [← hx] at ht; exact ht
      subst h5t
      refine Grd.intro (fun h6 => ?_) (fun h6 => ?_)
      · have h6 : ¬ f = endE (s.es.take i) s.l2 2 := by simpa using (show (!decide (f = endE (s.es.take i) s.l2 2)) = true from h6)
        rw [hbad (by unfold Sta.eOK; rw [← hx, show decide (f = endE (s.es.take i) (s.lo 2) 2) = false from decide_eq_false h6]; simp)]
        exact And.intro trivial (AVle.refl _)
      have h6 : f = endE (s.es.take i) s.l2 2 := by simpa using (show (!decide (f = endE (s.es.take i) s.l2 2)) = false from h6)
      refine PCallC.sca _ (l06In_fn ((s.es.take i).map (fun e : En => e.key)) (by simp; omega) key) rfl ?_
      refine Grd.intro (fun h7 => ?_) (fun h7 => ?_)
      · have h7 : decide (key ∈ (s.es.take i).map (·.key)) = true := h7
        rw [hbad (by unfold Sta.eOK; rw [← hx, show decide (key ∈ (s.es.take i).map (·.key)) = true from h7]; simp)]
        exact And.intro trivial (AVle.refl _)
      have h7 : decide (key ∈ (s.es.take i).map (·.key)) = false := h7
      have hgood : s.eOK i = true := by
        unfold Sta.eOK; rw [h5, ← hx, show decide (f = endE (s.es.take i) (s.lo 2) 2) = true from decide_eq_true h6, show decide (key ∈ (s.es.take i).map (·.key)) = false from h7]; rfl
      refine And.intro ⟨show (0 : Int) ≤ 2 by omega, show (2 : Int) < ((3 : Nat) : Int) by omega⟩ ?_
      refine And.intro ⟨show (((s.es.take i).map (·.key)).length + 1) * 16 ≤ 140737488355328 by simp; omega, all1 rfl⟩ ?_
      refine And.intro (inI64 (by omega) (by omega)) ?_
      refine ⟨i + 1, ⟨hin, fun j hj => ?_⟩, by omega, [(0, 0), (1, 1), (31, 2)], rfl, rfl, ⟨AVle.refl _, AVle.refl _, AVle.refl _, AVle.of_eq (congrArg (AV.int .i64) (by simp)), trivial⟩, ⟨MOle.refl _, MOle.box (AVsle.cons (AVle.of_eq (congrArg (AV.int .i64) (show endE (s.es.take i) s.l0 0 = _ by rw [hend0, if_neg (by rw [← hx]; exact (show ¬ ((2 : Int) = 0) by decide))]))) (AVsle.cons (AVle.of_eq (congrArg (AV.int .i64) (show endE (s.es.take i) s.l1 1 = _ by rw [hend1, if_neg (by rw [← hx]; exact (show ¬ ((2 : Int) = 1) by decide))]))) (AVsle.cons (AVle.of_eq (congrArg (AV.int .i64) (show t = _ by rw [hend2, if_pos (by rw [← hx]), ← hx]))) AVsle.nil))), arr_next (f := fun x => [.str (B x)]) (map_take_snoc hin) (show [AV.str (B key)] = _ by rw [← hx]), trivial⟩⟩
      rcases Nat.lt_or_ge j i with h' | h'
      · exact hall j h'
      · rw [show j = i by omega]; exact hgood
  have : i = s.es.length := by have := of_decide_eq_false h4; omega
  subst this
  rw [List.take_of_length_le (Nat.le_refl _)]
  have h6 : allN s.es.length s.eOK = true := List.all_eq_true.2 fun x hx => hall x (by simpa using hx)
  refine LoopC.mk (fun i : Nat => i ≤ s.ts.length ∧ ∀ j, j < i → s.tOK j = true) (fun i => [(1, .bptr 0 0), (3, .bptr 1 0), (4, .osl 2), (7, .int .i64 i)])
    (fun i => [(0, .box s.row), (1, .box [.int .i64 (endE s.es s.l0 0), .int .i64 (endE s.es s.l1 1), .int .i64 (endE s.es s.l2 2)]), (2, .arr 9 1 (s.es.map (·.key) ++ (s.ts.take i).map (·.key)).length fun j => [.str (B (ix (s.es.map (·.key) ++ (s.ts.take i).map (·.key)) j))])]) 3 (fun i => s.ts.length - i) 0
    ⟨⟨Nat.zero_le _, fun j hj => absurd hj (Nat.not_lt_zero j)⟩, [(0, 0), (1, 1), (2, 2)], rfl, rfl, ⟨AVle.refl _, AVle.refl _, AVle.refl _, AVle.refl _, trivial⟩, ⟨MOle.refl _, MOle.refl _, MOle.of_eq (show MO.arr 9 1 (s.es.map (·.key)).length (fun j => [.str (B (ix (s.es.map (·.key)) j))]) = _ by simp), trivial⟩⟩ ?_
  intro i hi2
  obtain ⟨hi2, hall2⟩ := hi2
  refine Grd.intro (fun h7 => ?_) (fun h7 => ?_)
  · have hin : i < s.ts.length := by have := of_decide_eq_true h7; omega
    have hmem := getD_mem hin
    have hbad : s.tOK i = false → s.ok' = false := fun h => by
      have : allN s.ts.length s.tOK = false := by
        rw [← Bool.not_eq_true]; intro h'
        rw [List.all_eq_true.1 h' i (by simpa using hin)] at h; cases h
      unfold Sta.ok'; rw [h1, h2, decide_eq_true h3, h6, this]; rfl
    refine And.intro (by omega) ?_
    conv => whnf
    refine CallC.sca _ (l03ToKey_fn (ix s.ts i).key (hk2 _ hmem)) ?_ ?_
    · exact rfl
    refine DrawC.mk 24 rfl (by kernel_rfl) ?_
    refine Grd.intro (fun h8 => ?_) (fun h8 => ?_)
    · rw [hbad (by unfold Sta.tOK tbOK; rw [show kOk (ix s.ts i).key = false by simpa using (show (!kOk (ix s.ts i).key) = true from h8)]; rfl)]
      exact And.intro trivial (AVle.refl _)
    have h8 : kOk (ix s.ts i).key = true := by simpa using (show (!kOk (ix s.ts i).key) = false from h8)
    refine And.intro (by omega) ?_
    refine PCallC.sca _ (l01In_fn (ix s.ts i).seq 1 s.seq) rfl ?_
    refine Grd.intro (fun h9 => ?_) (fun h9 => ?_)
    · rw [hbad (by unfold Sta.tOK tbOK; rw [show within (ix s.ts i).seq 1 s.seq = false by simpa using (show (!within (ix s.ts i).seq 1 s.seq) = true from h9)]; simp)]
      exact And.intro trivial (AVle.refl _)
    have h9 : within (ix s.ts i).seq 1 s.seq = true := by simpa using (show (!within (ix s.ts i).seq 1 s.seq) = false from h9)
    refine And.intro (by omega) ?_
    refine PCallC.sca _ (l06In_fn (s.es.map (fun e : En => e.key) ++ (s.ts.take i).map (fun e : Tb => e.key)) (by simp; omega) (ix s.ts i).key) rfl ?_
    refine Grd.intro (fun h10 => ?_) (fun h10 => ?_)
    · have h10 : decide ((ix s.ts i).key ∈ s.es.map (·.key) ++ (s.ts.take i).map (·.key)) = true := h10
      rw [hbad (by unfold Sta.tOK; rw [h10]; simp)]
      exact And.intro trivial (AVle.refl _)
    have h10 : decide ((ix s.ts i).key ∈ s.es.map (·.key) ++ (s.ts.take i).map (·.key)) = false := h10
    have hgood : s.tOK i = true := by unfold Sta.tOK tbOK; rw [h8, h9, h10]; rfl
    refine And.intro (by omega) ?_
    refine And.intro ⟨show ((s.es.map (fun e : En => e.key) ++ (s.ts.take i).map (fun e : Tb => e.key)).length + 1) * 16 ≤ 140737488355328 by simp; omega, all1 rfl⟩ ?_
    refine And.intro (inI64 (by omega) (by omega)) ?_
    refine ⟨i + 1, ⟨hin, fun j hj => ?_⟩, by omega, [(0, 0), (1, 1), (28, 2)], rfl, rfl, ⟨AVle.refl _, AVle.refl _, AVle.refl _, AVle.of_eq (congrArg (AV.int .i64) (by simp)), trivial⟩, ⟨MOle.refl _, MOle.refl _, arr_next (f := fun x => [.str (B x)]) (x := (ix s.ts i).key) (show s.es.map (fun e : En => e.key) ++ (s.ts.take (i + 1)).map (fun e : Tb => e.key) = (s.es.map (fun e : En => e.key) ++ (s.ts.take i).map (fun e : Tb => e.key)) ++ [(ix s.ts i).key] by rw [map_take_snoc hin, List.append_assoc]) rfl, trivial⟩⟩
    rcases Nat.lt_or_ge j i with h' | h'
    · exact hall2 j h'
    · rw [show j = i by omega]; exact hgood
  have : i = s.ts.length := by have := of_decide_eq_false h7; omega
  subst this
  have h8 : allN s.ts.length s.tOK = true := List.all_eq_true.2 fun x hx => hall2 x (by simpa using hx)
  have hok : s.ok' = ((within s.l0 0 100000 && decide (s.h0 = endE s.es s.l0 0)) && ((within s.l1 0 100000 && decide (s.h1 = endE s.es s.l1 1)) && (within s.l2 0 100000 && decide (s.h2 = endE s.es s.l2 2)))) := by
    unfold Sta.ok'; rw [h1, h2, decide_eq_true h3, h6, h8]; rfl
  refine LoopC.rounds 4 ?_
  refine DrawC.mk 16 rfl (by kernel_rfl) ?_
  refine And.intro ⟨by omega, by show (0 : Int) < ((3 : Nat) : Int); omega⟩ ?_
  refine PCallC.sca _ (l01In_fn s.l0 0 100000) rfl ?_
  refine Grd.intro (fun g1 => ?_) (fun g1 => ?_)
  · rw [show s.ok' = false by rw [hok, show within s.l0 0 100000 = false by simpa using (show (!within s.l0 0 100000) = true from g1)]; rfl]
    exact And.intro trivial (AVle.refl _)
  have g1 : within s.l0 0 100000 = true := by simpa using (show (!within s.l0 0 100000) = false from g1)
  refine And.intro ⟨by omega, by show (0 : Int) < ((3 : Nat) : Int); omega⟩ ?_
  refine And.intro ⟨by omega, by show (0 : Int) < ((3 : Nat) : Int); omega⟩ ?_
  refine Grd.intro (fun g2 => ?_) (fun g2 => ?_)
  · have g2 : ¬ s.h0 = endE s.es s.l0 0 := by simpa using (show (!decide (s.h0 = endE s.es s.l0 0)) = true from g2)
    rw [show s.ok' = false by rw [hok, g1, decide_eq_false g2]; rfl]
    exact And.intro trivial (AVle.refl _)
  have g2 : s.h0 = endE s.es s.l0 0 := by simpa using (show (!decide (s.h0 = endE s.es s.l0 0)) = false from g2)
  have r0 : (within s.l0 0 100000 && decide (s.h0 = endE s.es s.l0 0)) = true := by rw [g1, decide_eq_true g2]; rfl
  refine And.intro (inI64 (by omega) (by omega)) ?_
  clear g1 g2
  refine DrawC.mk 16 rfl (by kernel_rfl) ?_
  refine And.intro ⟨by omega, by show (1 : Int) < ((3 : Nat) : Int); omega⟩ ?_
  refine PCallC.sca _ (l01In_fn s.l1 0 100000) rfl ?_
  refine Grd.intro (fun g1 => ?_) (fun g1 => ?_)
  · rw [show s.ok' = false by rw [hok, r0, show within s.l1 0 100000 = false by simpa using (show (!within s.l1 0 100000) = true from g1)]; rfl]
    exact And.intro trivial (AVle.refl _)
  have g1 : within s.l1 0 100000 = true := by simpa using (show (!within s.l1 0 100000) = false from g1)
  refine And.intro ⟨by omega, by show (1 : Int) < ((3 : Nat) : Int); omega⟩ ?_
  refine And.intro ⟨by omega, by show (1 : Int) < ((3 : Nat) : Int); omega⟩ ?_
  refine Grd.intro (fun g2 => ?_) (fun g2 => ?_)
  · have g2 : ¬ s.h1 = endE s.es s.l1 1 := by simpa using (show (!decide (s.h1 = endE s.es s.l1 1)) = true from g2)
    rw [show s.ok' = false by rw [hok, r0, g1, decide_eq_false g2]; rfl]
    exact And.intro trivial (AVle.refl _)
  have g2 : s.h1 = endE s.es s.l1 1 := by simpa using (show (!decide (s.h1 = endE s.es s.l1 1)) = false from g2)
  have r1 : (within s.l1 0 100000 && decide (s.h1 = endE s.es s.l1 1)) = true := by rw [g1, decide_eq_true g2]; rfl
  refine And.intro (inI64 (by omega) (by omega)) ?_
  clear g1 g2
  refine DrawC.mk 16 rfl (by kernel_rfl) ?_
  refine And.intro ⟨by omega, by show (2 : Int) < ((3 : Nat) : Int); omega⟩ ?_
  refine PCallC.sca _ (l01In_fn s.l2 0 100000) rfl ?_
  refine Grd.intro (fun g1 => ?_) (fun g1 => ?_)
  · rw [show s.ok' = false by rw [hok, r0, r1, show within s.l2 0 100000 = false by simpa using (show (!within s.l2 0 100000) = true from g1)]; rfl]
    exact And.intro trivial (AVle.refl _)
  have g1 : within s.l2 0 100000 = true := by simpa using (show (!within s.l2 0 100000) = false from g1)
  refine And.intro ⟨by omega, by show (2 : Int) < ((3 : Nat) : Int); omega⟩ ?_
  refine And.intro ⟨by omega, by show (2 : Int) < ((3 : Nat) : Int); omega⟩ ?_
  refine Grd.intro (fun g2 => ?_) (fun g2 => ?_)
  · have g2 : ¬ s.h2 = endE s.es s.l2 2 := by simpa using (show (!decide (s.h2 = endE s.es s.l2 2)) = true from g2)
    rw [show s.ok' = false by rw [hok, r0, r1, g1, decide_eq_false g2]; rfl]
    exact And.intro trivial (AVle.refl _)
  have g2 : s.h2 = endE s.es s.l2 2 := by simpa using (show (!decide (s.h2 = endE s.es s.l2 2)) = false from g2)
  have r2 : (within s.l2 0 100000 && decide (s.h2 = endE s.es s.l2 2)) = true := by rw [g1, decide_eq_true g2]; rfl
  refine And.intro (inI64 (by omega) (by omega)) ?_
  clear g1 g2
  rw [show s.ok' = true by rw [hok, r0, r1, r2]; rfl]
  exact And.intro trivial (AVle.refl _)
end Go.Proofs.YtlbnpndednhdaaaGreatDoor
