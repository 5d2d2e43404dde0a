/- Contracts of functions that the claim reaches, and the plain law of what they compute; each theorem bears its own conditions. -/
import Derived.Test.YtnplgeogieoioaaGreatDoorQ3
import Derived.Test.YtnplgeogieoioaaGreatDoorV52
set_option linter.unusedVariables false
set_option linter.constructorNameAsVariable false
set_option linter.unusedSimpArgs false
set_option maxRecDepth 20000
namespace Go.Proofs.YtnplgeogieoioaaGreatDoor
open Go Go.Vw
structure Sta where
 seq : Int
 fence : Int
 es : List En
 ts : List Tb
 l0 : Int
 l1 : Int
 l2 : Int
 h0 : Int
 h1 : Int
 h2 : Int
 deriving Inhabited, DecidableEq
def Sta.row (s : Sta) : List AV := [.int .i64 s.seq, .int .i64 s.fence, ents s.es, tbs s.ts, .int .i64 s.l0, .int .i64 s.l1, .int .i64 s.l2, .int .i64 s.h0, .int .i64 s.h1, .int .i64 s.h2]
def Sta.av (s : Sta) : AV := .agg s.row
def ofT (L : List En) (k : Int) : List En := L.filter fun e => decide (e.tier = k)
theorem ofT_snoc {L : List En} {i : Nat} (h : i < L.length) (k : Int) : ofT (L.take (i + 1)) k = if (ix L i).tier = k then ofT (L.take i) k ++ [ix L i] else ofT (L.take i) k := by
 unfold ofT
 rw [take_snoc h, List.filter_append]
 by_cases hk : (ix L i).tier = k
 · rw [if_pos hk]; simp [hk]
 · rw [if_neg hk]; simp [hk]
theorem ofT_len (L : List En) (k : Int) : (ofT L k).length ≤ L.length := List.length_filter_le _ _
theorem ofS_fn (s : Sta) (hL : s.es.length ≤ 1000000000) (k : Int) : VFn Tryz.prog 69 [s.av, .int .i64 k] (ents (ofT s.es k)) := by
 obtain ⟨R, hR⟩ : ∃ R, R = ofT s.es k := ⟨_, rfl⟩
 rw [← hR]
 have hl := fun i => Nat.le_trans (ofT_len (s.es.take i) k) (by simp; omega : (s.es.take i).length ≤ i)
 refine VFn.introC Tryz.call69 Tryz.func69 rfl rfl ?_
 refine LoopC.mk (fun i : Nat => i ≤ s.es.length) (fun i => [(1, .int .i64 k), (5, .osl 0), (10, ents s.es), (11, .int .i64 s.es.length), (12, .int .i64 i)])
  (fun i => [(0, .arr 116 4 (ofT (s.es.take i) k).length fun j => (ix (ofT (s.es.take i) k) j).row)]) 1 (fun i => s.es.length - i) 0
  ⟨Nat.zero_le _, [(1, 0)], rfl, rfl, ⟨AVle.refl _, AVle.refl _, AVle.refl _, AVle.refl _, AVle.refl _, trivial⟩, ⟨MOle.arr rfl fun i hi => absurd hi (Nat.not_lt_zero i), trivial⟩⟩ ?_
 intro i hi
 refine Grd.intro (fun h2 => ?_) (fun h2 => ?_)
 · have hin : i < s.es.length := by have := of_decide_eq_true h2; omega
   have hs := ofT_snoc hin k
   refine And.intro (by omega) ?_
   refine Grd.intro (fun h3 => ?_) (fun h3 => ?_)
   · rw [if_pos (show (ix s.es i).tier = k from of_decide_eq_true h3)] at hs
     refine And.intro ⟨show ((ofT (s.es.take i) k).length + 1) * 40 ≤ 140737488355328 by have := hl i; omega, all1 rfl⟩ ?_
     refine And.intro (inI64 (by omega) (by omega)) ?_
     refine ⟨i + 1, hin, by omega, [(3, 0)], rfl, rfl, ⟨AVle.refl _, AVle.refl _, AVle.refl _, AVle.refl _, AVle.of_eq (congrArg (AV.int .i64) (by simp)), trivial⟩, ⟨?_, trivial⟩⟩
     exact arr_next (f := En.row) hs rfl
   · rw [if_neg (show ¬ (ix s.es i).tier = k from of_decide_eq_false h3)] at hs
     refine And.intro (inI64 (by omega) (by omega)) ?_
     exact ⟨i + 1, hin, by omega, [(0, 0)], rfl, rfl, ⟨AVle.refl _, AVle.refl _, AVle.refl _, AVle.refl _, AVle.of_eq (congrArg (AV.int .i64) (by simp)), trivial⟩, ⟨MOle.of_eq (show MO.arr 116 4 (ofT (s.es.take i) k).length (fun j => (ix (ofT (s.es.take i) k) j).row) = _ by rw [hs]), trivial⟩⟩
 · have : i = s.es.length := by have := of_decide_eq_false h2; omega
   subst this
   have e : ofT (s.es.take s.es.length) k = R := by rw [List.take_of_length_le (Nat.le_refl _), hR]
   subst e
   exact And.intro trivial (AVle.sl rfl fun j hj => rfl)
def addK (ks : List (List UInt8)) (k : List UInt8) : List (List UInt8) := if k ∈ ks then ks else ks ++ [k]
def ddk (L : List (List UInt8)) : List (List UInt8) := L.foldl addK []
theorem ddk_snoc (L : List (List UInt8)) (x : List UInt8) : ddk (L ++ [x]) = addK (ddk L) x := by unfold ddk; rw [List.foldl_append]; rfl
theorem addK_len (L : List (List UInt8)) : ∀ acc : List (List UInt8), (L.foldl addK acc).length ≤ acc.length + L.length ∧ ((L.foldl addK acc).length = acc.length + L.length ↔ (L.Nodup ∧ ∀ x ∈ L, x ∉ acc)) := by
 induction L with
 | nil => intro acc; simp
 | cons k r ih =>
   intro acc
   have h := ih (addK acc k)
   by_cases hk : k ∈ acc
   · have e : addK acc k = acc := if_pos hk
     rw [List.foldl_cons, e]
     rw [e] at h
     refine ⟨by simp; omega, ⟨fun hh => ?_, fun hh => absurd hk (hh.2 k (by simp))⟩⟩
     simp at hh; omega
   · have e : addK acc k = acc ++ [k] := if_neg hk
     rw [List.foldl_cons, e]
     rw [e] at h
     simp only [List.length_append, List.length_cons, List.length_nil, List.nodup_cons, List.mem_cons] at h ⊢
     refine ⟨by omega, ?_⟩
     rw [show acc.length + (r.length + 1) = acc.length + (0 + 1) + r.length by omega, h.2]
     constructor
     · rintro ⟨h1, h2⟩
       refine ⟨⟨fun hm => h2 k hm (by simp), h1⟩, fun x hx => ?_⟩
       rcases hx with rfl | hx
       · exact hk
       · exact fun hx' => h2 x hx (by simp [hx'])
     · rintro ⟨⟨h1, h2⟩, h3⟩
       refine ⟨h2, fun x hx => ?_⟩
       simp only [List.mem_append, List.mem_cons, List.not_mem_nil, or_false, not_or]
       exact ⟨h3 x (.inr hx), fun e => h1 (e ▸ hx)⟩
theorem ddk_len (L : List (List UInt8)) : (ddk L).length ≤ L.length ∧ ((ddk L).length = L.length ↔ L.Nodup) := by
 have := addK_len L []
 simpa [ddk] using this
def runs : List En → Int → Option Int
 | [], a => some a
 | e :: r, a => if e.f = a then runs r e.t else none
def atN (a : Int) (L : List En) : Nat → Int
 | 0 => a
 | i + 1 => (ix L i).t
def tierOK (L : List En) (lo hi : Int) (k : Int) : Bool := within lo 0 100000 && decide (runs (ofT L k) lo = some hi)
def tbOK (n : Int) (t : Tb) : Bool := kOk t.key && within t.seq 1 n
def Sta.keys (s : Sta) : List (List UInt8) := s.es.map (·.key) ++ s.ts.map (·.key)
def Sta.ok (s : Sta) : Bool :=
 within s.seq 0 999999 && (within s.fence 0 999999 && (decide (((s.es.length : Nat) : Int) + ((s.ts.length : Nat) : Int) ≤ 4096) && (s.es.all En.ok && (s.ts.all (tbOK s.seq) && (decide s.keys.Nodup &&
  (tierOK s.es s.l0 s.h0 0 && (tierOK s.es s.l1 s.h1 1 && tierOK s.es s.l2 s.h2 2)))))))
theorem StateOK_fn (s : Sta) (hL : s.es.length ≤ 1000000000) (hT : s.ts.length ≤ 1000000000) : VFn Tryz.prog 24 [s.av] (.bool s.ok) := by
 refine VFn.introC Tryz.call24 Tryz.func24 rfl rfl ?_
 conv => whnf
 refine CallC.sca _ (isSix_fn s.seq) ?_ ?_
 · exact rfl
 refine Grd.intro (fun h1 => ?_) (fun h1 => ?_)
 · have h1 : within s.seq 0 999999 = false := by simpa using h1
   have e : s.ok = false := by unfold Sta.ok; rw [h1]; rfl
   rw [e]
   exact And.intro trivial (AVle.refl _)
 have h1 : within s.seq 0 999999 = true := by simpa using h1
 conv => whnf
 refine CallC.sca _ (within_fn s.fence 0 999999) ?_ ?_
 · exact rfl
 refine Grd.intro (fun h2 => ?_) (fun h2 => ?_)
 · have h2 : within s.fence 0 999999 = false := by simpa using h2
   have e : s.ok = false := by unfold Sta.ok; rw [h1, h2]; rfl
   rw [e]
   exact And.intro trivial (AVle.refl _)
 have h2 : within s.fence 0 999999 = true := by simpa using h2
 refine And.intro (inI64 (by omega) (by omega)) ?_
 refine Grd.intro (fun h3 => ?_) (fun h3 => ?_)
 · have h3 : ¬ ((s.es.length : Nat) : Int) + ((s.ts.length : Nat) : Int) ≤ 4096 := by
    have h : decide (4096 < ((s.es.length : Nat) : Int) + ((s.ts.length : Nat) : Int)) = true := h3
    have := of_decide_eq_true h; omega
   have e : s.ok = false := by unfold Sta.ok; rw [h1, h2, decide_eq_false h3]; rfl
   rw [e]
   exact And.intro trivial (AVle.refl _)
 have h3 : ((s.es.length : Nat) : Int) + ((s.ts.length : Nat) : Int) ≤ 4096 := by
  have h : decide (4096 < ((s.es.length : Nat) : Int) + ((s.ts.length : Nat) : Int)) = false := h3
  have := of_decide_eq_false h; omega
 conv => whnf
 refine CallC.sca _ (allEn_fn s.es (by omega) 67 En.ok (fun e _ => entryOK_fn e)) ?_ ?_
 · exact rfl
 refine Grd.intro (fun h4 => ?_) (fun h4 => ?_)
 · have h4 : s.es.all En.ok = false := by simpa using (show (!s.es.all En.ok) = true from h4)
   have e : s.ok = false := by unfold Sta.ok; rw [h1, h2, decide_eq_true h3, h4]; rfl
   rw [e]
   exact And.intro trivial (AVle.refl _)
 have h4 : s.es.all En.ok = true := by simpa using (show (!s.es.all En.ok) = false from h4)
 refine LoopC.mk (fun i : Nat => i ≤ s.es.length) (fun i => [(1, .bptr 0 0), (3, .omap 1), (44, ents s.es), (45, .int .i64 s.es.length), (46, .int .i64 i)])
  (fun i => [(0, .box s.row), (1, .smap (ddk ((s.es.take i).map (·.key))))]) 2 (fun i => s.es.length - i) 0
  ⟨Nat.zero_le _, [(0, 0), (1, 1)], rfl, rfl, ⟨AVle.refl _, AVle.refl _, AVle.refl _, AVle.refl _, AVle.refl _, trivial⟩, ⟨MOle.refl _, MOle.refl _, trivial⟩⟩ ?_
 intro i hi
 refine Grd.intro (fun h5 => ?_) (fun h5 => ?_)
 · have hin : i < s.es.length := by have := of_decide_eq_true h5; omega
   refine And.intro (by omega) ?_
   refine And.intro (inI64 (by omega) (by omega)) ?_
   refine ⟨i + 1, hin, by omega, [(0, 0), (1, 1)], rfl, rfl, ⟨AVle.refl _, AVle.refl _, AVle.refl _, AVle.refl _, AVle.of_eq (congrArg (AV.int .i64) (by simp)), trivial⟩, ⟨MOle.refl _, MOle.of_eq (show MO.smap (if (B (ix s.es i).key).data.toList ∈ ddk ((s.es.take i).map (·.key)) then ddk ((s.es.take i).map (·.key)) else ddk ((s.es.take i).map (·.key)) ++ [(B (ix s.es i).key).data.toList]) = _ from ?_), trivial⟩⟩
   rw [map_take_snoc hin, ddk_snoc, B_data]; rfl
 have : i = s.es.length := by have := of_decide_eq_false h5; omega
 subst this
 rw [List.take_of_length_le (Nat.le_refl _)]
 refine LoopC.mk (fun i : Nat => i ≤ s.ts.length ∧ ∀ j, j < i → tbOK s.seq (ix s.ts j) = true) (fun i => [(1, .bptr 0 0), (3, .omap 1), (55, tbs s.ts), (56, .int .i64 s.ts.length), (57, .int .i64 i)])
  (fun i => [(0, .box s.row), (1, .smap (ddk (s.es.map (·.key) ++ (s.ts.take i).map (·.key))))]) 2 (fun i => s.ts.length - i) 0
  ⟨⟨Nat.zero_le _, fun j hj => absurd hj (Nat.not_lt_zero j)⟩, [(0, 0), (1, 1)], rfl, rfl, ⟨AVle.refl _, AVle.refl _, AVle.refl _, AVle.refl _, AVle.refl _, trivial⟩, ⟨MOle.refl _, MOle.of_eq (show MO.smap (ddk (s.es.map (·.key))) = _ by simp), trivial⟩⟩ ?_
 intro i hi
 obtain ⟨hi, hall⟩ := hi
 refine Grd.intro (fun h6 => ?_) (fun h6 => ?_)
 · have hin : i < s.ts.length := by have := of_decide_eq_true h6; omega
   have hbad : tbOK s.seq (ix s.ts i) = false → s.ok = false := fun h => by
    have : s.ts.all (tbOK s.seq) = false := by
     rw [← Bool.not_eq_true]; intro h'
     rw [List.all_eq_true.1 h' _ (getD_mem hin)] at h; cases h
    unfold Sta.ok; rw [h1, h2, decide_eq_true h3, h4, this]; rfl
   refine And.intro (by omega) ?_
   conv => whnf
   refine CallC.sca _ (readDataKey_fn (ix s.ts i).key) ?_ ?_
   · exact rfl
   refine Grd.intro (fun h7 => ?_) (fun h7 => ?_)
   · rw [hbad (by unfold tbOK; rw [show kOk (ix s.ts i).key = false by simpa using (show (!kOk (ix s.ts i).key) = true from h7)]; rfl)]
     exact And.intro trivial (AVle.refl _)
   have h7 : kOk (ix s.ts i).key = true := by simpa using (show (!kOk (ix s.ts i).key) = false from h7)
   conv => whnf
   refine CallC.sca _ (within_fn (ix s.ts i).seq 1 s.seq) ?_ ?_
   · exact rfl
   refine Grd.intro (fun h8 => ?_) (fun h8 => ?_)
   · rw [hbad (by unfold tbOK; rw [show within (ix s.ts i).seq 1 s.seq = false by simpa using (show (!within (ix s.ts i).seq 1 s.seq) = true from h8)]; simp)]
     exact And.intro trivial (AVle.refl _)
   have h8 : within (ix s.ts i).seq 1 s.seq = true := by simpa using (show (!within (ix s.ts i).seq 1 s.seq) = false from h8)
   refine And.intro (inI64 (by omega) (by omega)) ?_
   refine ⟨i + 1, ⟨hin, fun j hj => ?_⟩, by omega, [(0, 0), (1, 1)], rfl, rfl, ⟨AVle.refl _, AVle.refl _, AVle.refl _, AVle.refl _, AVle.of_eq (congrArg (AV.int .i64) (by simp)), trivial⟩, ⟨MOle.refl _, MOle.of_eq (show MO.smap (if (B (ix s.ts i).key).data.toList ∈ ddk (s.es.map (·.key) ++ (s.ts.take i).map (·.key)) then ddk (s.es.map (·.key) ++ (s.ts.take i).map (·.key)) else ddk (s.es.map (·.key) ++ (s.ts.take i).map (·.key)) ++ [(B (ix s.ts i).key).data.toList]) = _ from ?_), trivial⟩⟩
   · rcases Nat.lt_or_ge j i with h' | h'
     · exact hall j h'
     · rw [show j = i by omega]; unfold tbOK; rw [h7, h8]; rfl
   · rw [map_take_snoc hin, ← List.append_assoc, ddk_snoc, B_data]; rfl
 have : i = s.ts.length := by have := of_decide_eq_false h6; omega
 subst this
 rw [List.take_of_length_le (Nat.le_refl _)]
 have h7 : s.ts.all (tbOK s.seq) = true := List.all_eq_true.2 fun x hx => by
  obtain ⟨j, hj, e⟩ := List.getElem_of_mem hx
  have := hall j hj
  rw [ix_lt hj, e] at this; exact this
 have hkl : s.keys.length = s.es.length + s.ts.length := by simp [Sta.keys]
 have hdd := ddk_len s.keys
 refine And.intro (inI64 (by omega) (by omega)) ?_
 refine Grd.intro (fun h8 => ?_) (fun h8 => ?_)
 · have h8 : ¬ s.keys.Nodup := fun hn => by
    have h : (!decide ((((ddk s.keys).length : Nat) : Int) = ((s.es.length : Nat) : Int) + ((s.ts.length : Nat) : Int))) = true := h8
    have := hdd.2.2 hn
    simp at h; omega
   have e : s.ok = false := by unfold Sta.ok; rw [h1, h2, decide_eq_true h3, h4, h7, decide_eq_false h8]; rfl
   rw [e]
   exact And.intro trivial (AVle.refl _)
 have h8 : s.keys.Nodup := by
  have h : (!decide ((((ddk s.keys).length : Nat) : Int) = ((s.es.length : Nat) : Int) + ((s.ts.length : Nat) : Int))) = false := h8
  simp at h
  exact hdd.2.1 (by omega)
 have hok : s.ok = (tierOK s.es s.l0 s.h0 0 && (tierOK s.es s.l1 s.h1 1 && tierOK s.es s.l2 s.h2 2)) := by
  unfold Sta.ok; rw [h1, h2, decide_eq_true h3, h4, h7, decide_eq_true h8]; rfl
 refine LoopC.rounds 4 ?_
 have hbad0 : tierOK s.es s.l0 s.h0 0 = false → s.ok = false := fun ht => by rw [hok, ht]; rfl
 refine And.intro ⟨by omega, by show (0 : Int) < ((3 : Nat) : Int); omega⟩ ?_
 conv => whnf
 refine CallC.sca _ (within_fn s.l0 0 100000) ?_ ?_
 · exact rfl
 refine Grd.intro (fun g1 => ?_) (fun g1 => ?_)
 · rw [hbad0 (by unfold tierOK; rw [show within s.l0 0 100000 = false by simpa using (show (!within s.l0 0 100000) = true from g1)]; rfl)]
   exact And.intro trivial (AVle.refl _)
 have w0 : within s.l0 0 100000 = true := by simpa using (show (!within s.l0 0 100000) = false from g1)
 conv => whnf
 refine CallC.nl _ (ofS_fn s hL 0) ?_ ?_
 · exact rfl
 obtain ⟨R0, hR0⟩ : ∃ R, R = ofT s.es 0 := ⟨_, rfl⟩
 rw [← hR0]
 have hRl0 : R0.length ≤ 1000000000 := by rw [hR0]; exact Nat.le_trans (ofT_len _ _) hL
 refine LoopC.mk (fun j : Nat => j ≤ R0.length ∧ runs R0 s.l0 = runs (R0.drop j) (atN s.l0 R0 j)) (fun j => [(1, .bptr 0 0), (12, .int .i64 0), (13, .int .i64 (atN s.l0 R0 j)), (93, .int .i64 0), (105, ents R0), (106, .int .i64 R0.length), (107, .int .i64 j)])
  (fun j => [(0, .box s.row)]) 1 (fun j => R0.length - j) 0
  ⟨⟨Nat.zero_le _, rfl⟩, [(0, 0)], rfl, rfl, ⟨AVle.refl _, AVle.refl _, AVle.refl _, AVle.refl _, AVle.refl _, AVle.refl _, AVle.refl _, trivial⟩, ⟨MOle.refl _, trivial⟩⟩ ?_
 intro j hj
 obtain ⟨hj, hrun⟩ := hj
 refine Grd.intro (fun g2 => ?_) (fun g2 => ?_)
 · have hjn : j < R0.length := by have := of_decide_eq_true g2; omega
   have hrun' := hrun
   rw [drop_ix hjn] at hrun'
   refine And.intro (by omega) ?_
   refine Grd.intro (fun g3 => ?_) (fun g3 => ?_)
   · have g3 : ¬ (ix R0 j).f = atN s.l0 R0 j := by simpa using (show (!decide ((ix R0 j).f = atN s.l0 R0 j)) = true from g3)
     rw [hbad0 (by unfold tierOK; rw [← hR0, hrun', runs, if_neg g3]; simp)]
     exact And.intro trivial (AVle.refl _)
   have g3 : (ix R0 j).f = atN s.l0 R0 j := by simpa using (show (!decide ((ix R0 j).f = atN s.l0 R0 j)) = false from g3)
   rw [runs, if_pos g3] at hrun'
   refine And.intro (inI64 (by omega) (by omega)) ?_
   exact ⟨j + 1, ⟨hjn, hrun'⟩, by omega, [(0, 0)], rfl, rfl, ⟨AVle.refl _, AVle.refl _, AVle.refl _, AVle.refl _, AVle.refl _, AVle.refl _, AVle.of_eq (congrArg (AV.int .i64) (by simp)), trivial⟩, ⟨MOle.refl _, trivial⟩⟩
 have : j = R0.length := by have := of_decide_eq_false g2; omega
 subst this
 rw [List.drop_length, runs] at hrun
 refine And.intro ⟨by omega, by show (0 : Int) < ((3 : Nat) : Int); omega⟩ ?_
 refine Grd.intro (fun g3 => ?_) (fun g3 => ?_)
 · have g3 : ¬ atN s.l0 R0 R0.length = s.h0 := by simpa using (show (!decide (atN s.l0 R0 R0.length = s.h0)) = true from g3)
   rw [hbad0 (by unfold tierOK; rw [← hR0, hrun]; simp [g3])]
   exact And.intro trivial (AVle.refl _)
 have g3 : atN s.l0 R0 R0.length = s.h0 := by simpa using (show (!decide (atN s.l0 R0 R0.length = s.h0)) = false from g3)
 have ht0 : tierOK s.es s.l0 s.h0 0 = true := by unfold tierOK; rw [w0, ← hR0, hrun, g3]; simp
 refine And.intro (inI64 (by omega) (by omega)) ?_
 clear g1 g2 g3 hrun hj
 have hbad1 : tierOK s.es s.l1 s.h1 1 = false → s.ok = false := fun ht => by rw [hok, ht0, ht]; rfl
 refine And.intro ⟨by omega, by show (1 : Int) < ((3 : Nat) : Int); omega⟩ ?_
 conv => whnf
 refine CallC.sca _ (within_fn s.l1 0 100000) ?_ ?_
 · exact rfl
 refine Grd.intro (fun g1 => ?_) (fun g1 => ?_)
 · rw [hbad1 (by unfold tierOK; rw [show within s.l1 0 100000 = false by simpa using (show (!within s.l1 0 100000) = true from g1)]; rfl)]
   exact And.intro trivial (AVle.refl _)
 have w1 : within s.l1 0 100000 = true := by simpa using (show (!within s.l1 0 100000) = false from g1)
 conv => whnf
 refine CallC.nl _ (ofS_fn s hL 1) ?_ ?_
 · exact rfl
 obtain ⟨R1, hR1⟩ : ∃ R, R = ofT s.es 1 := ⟨_, rfl⟩
 rw [← hR1]
 have hRl1 : R1.length ≤ 1000000000 := by rw [hR1]; exact Nat.le_trans (ofT_len _ _) hL
 refine LoopC.mk (fun j : Nat => j ≤ R1.length ∧ runs R1 s.l1 = runs (R1.drop j) (atN s.l1 R1 j)) (fun j => [(1, .bptr 0 0), (12, .int .i64 1), (13, .int .i64 (atN s.l1 R1 j)), (93, .int .i64 1), (105, ents R1), (106, .int .i64 R1.length), (107, .int .i64 j)])
  (fun j => [(0, .box s.row)]) 1 (fun j => R1.length - j) 0
  ⟨⟨Nat.zero_le _, rfl⟩, [(0, 0)], rfl, rfl, ⟨AVle.refl _, AVle.refl _, AVle.refl _, AVle.refl _, AVle.refl _, AVle.refl _, AVle.refl _, trivial⟩, ⟨MOle.refl _, trivial⟩⟩ ?_
 intro j hj
 obtain ⟨hj, hrun⟩ := hj
 refine Grd.intro (fun g2 => ?_) (fun g2 => ?_)
 · have hjn : j < R1.length := by have := of_decide_eq_true g2; omega
   have hrun' := hrun
   rw [drop_ix hjn] at hrun'
   refine And.intro (by omega) ?_
   refine Grd.intro (fun g3 => ?_) (fun g3 => ?_)
   · have g3 : ¬ (ix R1 j).f = atN s.l1 R1 j := by simpa using (show (!decide ((ix R1 j).f = atN s.l1 R1 j)) = true from g3)
     rw [hbad1 (by unfold tierOK; rw [← hR1, hrun', runs, if_neg g3]; simp)]
     exact And.intro trivial (AVle.refl _)
   have g3 : (ix R1 j).f = atN s.l1 R1 j := by simpa using (show (!decide ((ix R1 j).f = atN s.l1 R1 j)) = false from g3)
   rw [runs, if_pos g3] at hrun'
   refine And.intro (inI64 (by omega) (by omega)) ?_
   exact ⟨j + 1, ⟨hjn, hrun'⟩, by omega, [(0, 0)], rfl, rfl, ⟨AVle.refl _, AVle.refl _, AVle.refl _, AVle.refl _, AVle.refl _, AVle.refl _, AVle.of_eq (congrArg (AV.int .i64) (by simp)), trivial⟩, ⟨MOle.refl _, trivial⟩⟩
 have : j = R1.length := by have := of_decide_eq_false g2; omega
 subst this
 rw [List.drop_length, runs] at hrun
 refine And.intro ⟨by omega, by show (1 : Int) < ((3 : Nat) : Int); omega⟩ ?_
 refine Grd.intro (fun g3 => ?_) (fun g3 => ?_)
 · have g3 : ¬ atN s.l1 R1 R1.length = s.h1 := by simpa using (show (!decide (atN s.l1 R1 R1.length = s.h1)) = true from g3)
   rw [hbad1 (by unfold tierOK; rw [← hR1, hrun]; simp [g3])]
   exact And.intro trivial (AVle.refl _)
 have g3 : atN s.l1 R1 R1.length = s.h1 := by simpa using (show (!decide (atN s.l1 R1 R1.length = s.h1)) = false from g3)
 have ht1 : tierOK s.es s.l1 s.h1 1 = true := by unfold tierOK; rw [w1, ← hR1, hrun, g3]; simp
 refine And.intro (inI64 (by omega) (by omega)) ?_
 clear g1 g2 g3 hrun hj
 have hbad2 : tierOK s.es s.l2 s.h2 2 = false → s.ok = false := fun ht => by rw [hok, ht0, ht1, ht]; rfl
 refine And.intro ⟨by omega, by show (2 : Int) < ((3 : Nat) : Int); omega⟩ ?_
 conv => whnf
 refine CallC.sca _ (within_fn s.l2 0 100000) ?_ ?_
 · exact rfl
 refine Grd.intro (fun g1 => ?_) (fun g1 => ?_)
 · rw [hbad2 (by unfold tierOK; rw [show within s.l2 0 100000 = false by simpa using (show (!within s.l2 0 100000) = true from g1)]; rfl)]
   exact And.intro trivial (AVle.refl _)
 have w2 : within s.l2 0 100000 = true := by simpa using (show (!within s.l2 0 100000) = false from g1)
 conv => whnf
 refine CallC.nl _ (ofS_fn s hL 2) ?_ ?_
 · exact rfl
 obtain ⟨R2, hR2⟩ : ∃ R, R = ofT s.es 2 := ⟨_, rfl⟩
 rw [← hR2]
 have hRl2 : R2.length ≤ 1000000000 := by rw [hR2]; exact Nat.le_trans (ofT_len _ _) hL
 refine LoopC.mk (fun j : Nat => j ≤ R2.length ∧ runs R2 s.l2 = runs (R2.drop j) (atN s.l2 R2 j)) (fun j => [(1, .bptr 0 0), (12, .int .i64 2), (13, .int .i64 (atN s.l2 R2 j)), (93, .int .i64 2), (105, ents R2), (106, .int .i64 R2.length), (107, .int .i64 j)])
  (fun j => [(0, .box s.row)]) 1 (fun j => R2.length - j) 0
  ⟨⟨Nat.zero_le _, rfl⟩, [(0, 0)], rfl, rfl, ⟨AVle.refl _, AVle.refl _, AVle.refl _, AVle.refl _, AVle.refl _, AVle.refl _, AVle.refl _, trivial⟩, ⟨MOle.refl _, trivial⟩⟩ ?_
 intro j hj
 obtain ⟨hj, hrun⟩ := hj
 refine Grd.intro (fun g2 => ?_) (fun g2 => ?_)
 · have hjn : j < R2.length := by have := of_decide_eq_true g2; omega
   have hrun' := hrun
   rw [drop_ix hjn] at hrun'
   refine And.intro (by omega) ?_
   refine Grd.intro (fun g3 => ?_) (fun g3 => ?_)
   · have g3 : ¬ (ix R2 j).f = atN s.l2 R2 j := by simpa using (show (!decide ((ix R2 j).f = atN s.l2 R2 j)) = true from g3)
     rw [hbad2 (by unfold tierOK; rw [← hR2, hrun', runs, if_neg g3]; simp)]
     exact And.intro trivial (AVle.refl _)
   have g3 : (ix R2 j).f = atN s.l2 R2 j := by simpa using (show (!decide ((ix R2 j).f = atN s.l2 R2 j)) = false from g3)
   rw [runs, if_pos g3] at hrun'
   refine And.intro (inI64 (by omega) (by omega)) ?_
   exact ⟨j + 1, ⟨hjn, hrun'⟩, by omega, [(0, 0)], rfl, rfl, ⟨AVle.refl _, AVle.refl _, AVle.refl _, AVle.refl _, AVle.refl _, AVle.refl _, AVle.of_eq (congrArg (AV.int .i64) (by simp)), trivial⟩, ⟨MOle.refl _, trivial⟩⟩
 have : j = R2.length := by have := of_decide_eq_false g2; omega
 subst this
 rw [List.drop_length, runs] at hrun
 refine And.intro ⟨by omega, by show (2 : Int) < ((3 : Nat) : Int); omega⟩ ?_
 refine Grd.intro (fun g3 => ?_) (fun g3 => ?_)
 · have g3 : ¬ atN s.l2 R2 R2.length = s.h2 := by simpa using (show (!decide (atN s.l2 R2 R2.length = s.h2)) = true from g3)
   rw [hbad2 (by unfold tierOK; rw [← hR2, hrun]; simp [g3])]
   exact And.intro trivial (AVle.refl _)
 have g3 : atN s.l2 R2 R2.length = s.h2 := by simpa using (show (!decide (atN s.l2 R2 R2.length = s.h2)) = false from g3)
 have ht2 : tierOK s.es s.l2 s.h2 2 = true := by unfold tierOK; rw [w2, ← hR2, hrun, g3]; simp
 refine And.intro (inI64 (by omega) (by omega)) ?_
 clear g1 g2 g3 hrun hj
 rw [show s.ok = true by rw [hok, ht0, ht1, ht2]; rfl]
 exact And.intro trivial (AVle.refl _)
def endE (L : List En) (lo : Int) (k : Int) : Int := match (ofT L k).getLast? with | some e => e.t | none => lo
def Sta.lo (s : Sta) (k : Int) : Int := if k = 0 then s.l0 else if k = 1 then s.l1 else s.l2
def Sta.hi (s : Sta) (k : Int) : Int := if k = 0 then s.h0 else if k = 1 then s.h1 else s.h2
theorem runs_end : ∀ (L : List En) (a b : Int), runs L a = some b → b = match L.getLast? with | some e => e.t | none => a
 | [], a, b, h => by cases h; rfl
 | x :: r, a, b, h => by
   unfold runs at h
   by_cases hx : x.f = a
   · rw [if_pos hx] at h
     have := runs_end r x.t b h
     cases r with
     | nil => exact this
     | cons y r => rw [this, List.getLast?_cons_cons]; cases hq : (y :: r).getLast? with
       | none => simp at hq
       | some z => rfl
   · rw [if_neg hx] at h; cases h
theorem runs_endE {L : List En} {k a b : Int} (h : runs (ofT L k) a = some b) : b = endE L a k := runs_end _ _ _ h
theorem IndexTb_1 (L : List Tb) (hL : L.length ≤ 9223372036854775807) (F : Nat) (row : List AV) (p : Tb → Bool) (hp : ∀ e ∈ L, VFn Tryz.prog F [e.av, .eptr row 0] (.bool (p e))) :
 VFn Tryz.prog 191 [tbs L, .fn (.func F) [] [.eptr row 0]] (.int .i64 (fi p L)) := by
 refine VFn.introC Tryz.call191 Tryz.func191 rfl rfl ?_
 refine LoopC.mk (fun i : Nat => i ≤ L.length ∧ ∀ j, j < i → p (ix L j) = false) (fun i => [(0, tbs L), (1, .fn (.func F) [] [.eptr row 0]), (7, .int .i64 L.length), (8, .int .i64 i)]) (fun _ => []) 0 (fun i => L.length - i) 0
  ⟨⟨Nat.zero_le _, fun j hj => absurd hj (Nat.not_lt_zero j)⟩, [], rfl, rfl, ⟨AVle.refl _, AVle.refl _, AVle.refl _, AVle.refl _, trivial⟩, trivial⟩ ?_
 intro i hi
 refine Grd.intro (fun h2 => ?_) (fun h2 => ?_)
 · have hin : i < L.length := by have := of_decide_eq_true h2; omega
   refine And.intro (by omega) ?_
   conv => whnf
   refine CallC.sca _ (hp (ix L i) (getD_mem hin)) ?_ ?_
   · exact rfl
   refine Grd.intro (fun h3 => ?_) (fun h3 => ?_)
   · exact And.intro trivial (AVle.of_eq (congrArg (AV.int .i64) (fi_at hin hi.2 h3).symm))
   · refine And.intro (inI64 (by omega) (by omega)) ?_
     exact ⟨i + 1, ⟨hin, fun j hj => by
      rcases Nat.lt_or_ge j i with h' | h'
      · exact hi.2 j h'
      · rw [show j = i by omega]; exact h3⟩, by omega, [], rfl, rfl, ⟨AVle.refl _, AVle.refl _, AVle.refl _, AVle.of_eq (congrArg (AV.int .i64) (by simp)), trivial⟩, trivial⟩
 · have : i = L.length := by have := of_decide_eq_false h2; omega
   subst this
   exact And.intro trivial (AVle.of_eq (congrArg (AV.int .i64) (fi_none hi.2).symm))
def Sta.tombAt (s : Sta) (k : List UInt8) : Int := fi (fun t : Tb => decide (t.key = k)) s.ts
def Sta.has (s : Sta) (k : List UInt8) : Bool := s.es.any (fun e => decide (e.key = k)) || decide (0 ≤ s.tombAt k)
theorem tomb1_fn (t : Tb) (k : List UInt8) : VFn Tryz.prog 218 [t.av, .eptr [.str (B k)] 0] (.bool (decide (t.key = k))) := by
 refine VFn.introC Tryz.call218 Tryz.func218 rfl rfl ?_
 exact And.intro trivial (AVle.of_eq (congrArg AV.bool (show ((B t.key).toList == (B k).toList) = _ from B_eq)))
theorem tomb_fn (s : Sta) (hT : s.ts.length ≤ 1000000000) (k : List UInt8) : VFn Tryz.prog 190 [s.av, .str (B k)] (.int .i64 (s.tombAt k)) := by
 refine VFn.introC Tryz.call190 Tryz.func190 rfl rfl ?_
 conv => whnf
 refine CallC.sca _ (IndexTb_1 s.ts (by omega) 218 [.str (B k)] (fun t => decide (t.key = k)) (fun t _ => tomb1_fn t k)) ?_ ?_
 · exact rfl
 exact And.intro trivial (AVle.refl _)
theorem hasKey1_fn (e : En) (k : List UInt8) : VFn Tryz.prog 217 [e.av, .eptr [.str (B k)] 0] (.bool (decide (e.key = k))) := by
 refine VFn.introC Tryz.call217 Tryz.func217 rfl rfl ?_
 exact And.intro trivial (AVle.of_eq (congrArg AV.bool (show ((B e.key).toList == (B k).toList) = _ from B_eq)))
theorem hasKey_fn (s : Sta) (hL : s.es.length ≤ 1000000000) (hT : s.ts.length ≤ 1000000000) (k : List UInt8) : VFn Tryz.prog 188 [s.av, .str (B k)] (.bool (s.has k)) := by
 refine VFn.introC Tryz.call188 Tryz.func188 rfl rfl ?_
 conv => whnf
 refine CallC.sca _ (ContainsEn_1 s.es (by omega) 217 [.str (B k)] (fun e => decide (e.key = k)) (fun e _ => hasKey1_fn e k)) ?_ ?_
 · exact rfl
 refine Grd.intro (fun g => ?_) (fun g => ?_)
 · refine And.intro trivial (AVle.of_eq (congrArg AV.bool (show true = _ from ?_)))
   unfold Sta.has; rw [g]; rfl
 · conv => whnf
   refine CallC.sca _ (tomb_fn s hT k) ?_ ?_
   · exact rfl
   refine And.intro trivial (AVle.of_eq (congrArg AV.bool (show decide (0 ≤ s.tombAt k) = _ from ?_)))
   unfold Sta.has; rw [g]; rfl
theorem l06First_fn (s : Sta) (hL : s.es.length ≤ 1000000000) (k : Int) : VFn Tryz.prog 133 [s.av, .int .i64 k] (.int .i64 (fi (fun e : En => decide (e.tier = k)) s.es)) := by
 refine VFn.introC Tryz.call133 Tryz.func133 rfl rfl ?_
 refine LoopC.mk (fun i : Nat => i ≤ s.es.length ∧ ∀ j, j < i → decide ((ix s.es j).tier = k) = false) (fun i => [(1, .int .i64 k), (2, .bptr 0 0), (5, .int .i64 i)]) (fun i => [(0, .box s.row)]) 1 (fun i => s.es.length - i) 0
  ⟨⟨Nat.zero_le _, fun j hj => absurd hj (Nat.not_lt_zero j)⟩, [(0, 0)], rfl, rfl, ⟨AVle.refl _, AVle.refl _, AVle.refl _, trivial⟩, ⟨MOle.refl _, trivial⟩⟩ ?_
 intro i hi
 refine Grd.intro (fun h2 => ?_) (fun h2 => ?_)
 · have hin : i < s.es.length := by have := of_decide_eq_true h2; omega
   refine And.intro (by omega) ?_
   refine Grd.intro (fun h3 => ?_) (fun h3 => ?_)
   · exact And.intro trivial (AVle.of_eq (congrArg (AV.int .i64) (show (i : Int) = _ from (fi_at hin hi.2 h3).symm)))
   · refine And.intro (inI64 (by omega) (by omega)) ?_
     exact ⟨i + 1, ⟨hin, fun j hj => by
      rcases Nat.lt_or_ge j i with h' | h'
      · exact hi.2 j h'
      · rw [show j = i by omega]; exact h3⟩, by omega, [(0, 0)], rfl, rfl, ⟨AVle.refl _, AVle.refl _, AVle.of_eq (congrArg (AV.int .i64) (by simp)), trivial⟩, ⟨MOle.refl _, trivial⟩⟩
 · have : i = s.es.length := by have := of_decide_eq_false h2; omega
   subst this
   exact And.intro trivial (AVle.of_eq (congrArg (AV.int .i64) (fi_none hi.2).symm))
theorem any_ix {α : Type} [Inhabited α] {L : List α} {p : α → Bool} {i : Nat} (hi : i < L.length) (h : p (ix L i) = true) : L.any p = true := List.any_eq_true.2 ⟨_, getD_mem hi, h⟩
theorem any_no {α : Type} [Inhabited α] {L : List α} {p : α → Bool} (h : ∀ i, i < L.length → p (ix L i) = false) : L.any p = false := by
 rw [← Bool.not_eq_true]; intro h'
 obtain ⟨x, hx, hp⟩ := List.any_eq_true.1 h'
 obtain ⟨j, hj, e⟩ := List.getElem_of_mem hx
 have := h j hj
 rw [ix_lt hj, e, hp] at this; cases this
theorem l06Named_fn (s : Sta) (hL : s.es.length ≤ 1000000000) (hT : s.ts.length ≤ 1000000000) (k : List UInt8) : VFn Tryz.prog 209 [s.av, .str (B k)] (.bool (s.has k)) := by
 have hh : s.has k = (s.es.any (fun e => decide (e.key = k)) || s.ts.any fun t => decide (t.key = k)) := by unfold Sta.has Sta.tombAt; rw [fi_any]
 refine VFn.introC Tryz.call209 Tryz.func209 rfl rfl ?_
 refine LoopC.mk (fun i : Nat => i ≤ s.es.length ∧ ∀ j, j < i → decide ((ix s.es j).key = k) = false) (fun i => [(1, .str (B k)), (2, .bptr 0 0), (5, .int .i64 i)]) (fun i => [(0, .box s.row)]) 1 (fun i => s.es.length - i) 0
  ⟨⟨Nat.zero_le _, fun j hj => absurd hj (Nat.not_lt_zero j)⟩, [(0, 0)], rfl, rfl, ⟨AVle.refl _, AVle.refl _, AVle.refl _, trivial⟩, ⟨MOle.refl _, trivial⟩⟩ ?_
 intro i hi
 refine Grd.intro (fun h2 => ?_) (fun h2 => ?_)
 · have hin : i < s.es.length := by have := of_decide_eq_true h2; omega
   refine And.intro (by omega) ?_
   refine Grd.intro (fun h3 => ?_) (fun h3 => ?_)
   · have h3 : ((B (ix s.es i).key).toList == (B k).toList) = true := h3
     rw [B_eq] at h3
     rw [show s.has k = true by rw [hh, any_ix (p := fun e : En => decide (e.key = k)) hin h3]; rfl]
     exact And.intro trivial (AVle.refl _)
   · have h3 : ((B (ix s.es i).key).toList == (B k).toList) = false := h3
     rw [B_eq] at h3
     refine And.intro (inI64 (by omega) (by omega)) ?_
     exact ⟨i + 1, ⟨hin, fun j hj => by
      rcases Nat.lt_or_ge j i with h' | h'
      · exact hi.2 j h'
      · rw [show j = i by omega]; exact h3⟩, by omega, [(0, 0)], rfl, rfl, ⟨AVle.refl _, AVle.refl _, AVle.of_eq (congrArg (AV.int .i64) (by simp)), trivial⟩, ⟨MOle.refl _, trivial⟩⟩
 have : i = s.es.length := by have := of_decide_eq_false h2; omega
 subst this
 have hno := any_no (p := fun e : En => decide (e.key = k)) hi.2
 refine LoopC.mk (fun i : Nat => i ≤ s.ts.length ∧ ∀ j, j < i → decide ((ix s.ts j).key = k) = false) (fun i => [(1, .str (B k)), (2, .bptr 0 0), (6, .int .i64 i)]) (fun i => [(0, .box s.row)]) 1 (fun i => s.ts.length - i) 0
  ⟨⟨Nat.zero_le _, fun j hj => absurd hj (Nat.not_lt_zero j)⟩, [(0, 0)], rfl, rfl, ⟨AVle.refl _, AVle.refl _, AVle.refl _, trivial⟩, ⟨MOle.refl _, trivial⟩⟩ ?_
 intro i hi2
 refine Grd.intro (fun h4 => ?_) (fun h4 => ?_)
 · have hin : i < s.ts.length := by have := of_decide_eq_true h4; omega
   refine And.intro (by omega) ?_
   refine Grd.intro (fun h3 => ?_) (fun h3 => ?_)
   · have h3 : ((B (ix s.ts i).key).toList == (B k).toList) = true := h3
     rw [B_eq] at h3
     rw [show s.has k = true by rw [hh, hno, any_ix (p := fun t : Tb => decide (t.key = k)) hin h3]; rfl]
     exact And.intro trivial (AVle.refl _)
   · have h3 : ((B (ix s.ts i).key).toList == (B k).toList) = false := h3
     rw [B_eq] at h3
     refine And.intro (inI64 (by omega) (by omega)) ?_
     exact ⟨i + 1, ⟨hin, fun j hj => by
      rcases Nat.lt_or_ge j i with h' | h'
      · exact hi2.2 j h'
      · rw [show j = i by omega]; exact h3⟩, by omega, [(0, 0)], rfl, rfl, ⟨AVle.refl _, AVle.refl _, AVle.of_eq (congrArg (AV.int .i64) (by simp)), trivial⟩, ⟨MOle.refl _, trivial⟩⟩
 · have : i = s.ts.length := by have := of_decide_eq_false h4; omega
   subst this
   rw [show s.has k = false by rw [hh, hno, any_no (p := fun t : Tb => decide (t.key = k)) hi2.2]; rfl]
   exact And.intro trivial (AVle.refl _)
def En.size (e : En) : Nat := e.key.length
def Tb.size (e : Tb) : Nat := e.key.length
def Sta.size (s : Sta) : Nat := (s.es.length + sumL En.size s.es) + (s.ts.length + sumL Tb.size s.ts)
def wd (k : Int) : Int := if k = 0 then 1 else if k = 1 then 5 else 20
theorem width_fn (k : Int) (h : k = 0 ∨ k = 1 ∨ k = 2) : VFn Tryz.prog 189 [.int .i64 k] (.int .i64 (wd k)) := by
 rcases h with rfl | rfl | rfl
 · refine VFn.introC Tryz.call189 Tryz.func189 rfl rfl ?_
   refine And.intro ⟨by omega, by show (0 : Int) < ((3 : Nat) : Int); omega⟩ ?_
   exact And.intro trivial (AVle.refl _)
 · refine VFn.introC Tryz.call189 Tryz.func189 rfl rfl ?_
   refine And.intro ⟨by omega, by show (1 : Int) < ((3 : Nat) : Int); omega⟩ ?_
   exact And.intro trivial (AVle.refl _)
 · refine VFn.introC Tryz.call189 Tryz.func189 rfl rfl ?_
   refine And.intro ⟨by omega, by show (2 : Int) < ((3 : Nat) : Int); omega⟩ ?_
   exact And.intro trivial (AVle.refl _)
theorem l04Width_fn (k : Int) (h : k = 0 ∨ k = 1 ∨ k = 2) : VFn Tryz.prog 132 [.int .i64 k] (.int .i64 (wd k)) := by
 rcases h with rfl | rfl | rfl
 · refine VFn.introC Tryz.call132 Tryz.func132 rfl rfl ?_
   refine And.intro ⟨by omega, by show (0 : Int) < ((3 : Nat) : Int); omega⟩ ?_
   exact And.intro trivial (AVle.refl _)
 · refine VFn.introC Tryz.call132 Tryz.func132 rfl rfl ?_
   refine And.intro ⟨by omega, by show (1 : Int) < ((3 : Nat) : Int); omega⟩ ?_
   exact And.intro trivial (AVle.refl _)
 · refine VFn.introC Tryz.call132 Tryz.func132 rfl rfl ?_
   refine And.intro ⟨by omega, by show (2 : Int) < ((3 : Nat) : Int); omega⟩ ?_
   exact And.intro trivial (AVle.refl _)
def Sta.h (s : Sta) (a b : Int) : Sta := { s with h1 := a, h2 := b }
theorem hi_b (L : List En) (hL : L.all En.ok = true) (lo hi k : Int) (h : tierOK L lo hi k = true) : 0 ≤ hi ∧ hi ≤ 100000 := by
 unfold tierOK at h
 simp only [Bool.and_eq_true, decide_eq_true_eq] at h
 have hl : 0 ≤ lo ∧ lo ≤ 100000 := by simpa [within] using h.1
 rw [runs_endE h.2]
 unfold endE
 cases hq : (ofT L k).getLast? with
 | none => exact hl
 | some e =>
   have he : e ∈ L := (List.mem_filter.1 (List.mem_of_getLast? hq)).1
   have := List.all_eq_true.1 hL e he
   unfold En.ok isRange at this
   simp [within] at this
   simp only; omega
theorem Sta.hi_b {s : Sta} (h : s.ok = true) : (0 ≤ s.h0 ∧ s.h0 ≤ 100000) ∧ (0 ≤ s.h1 ∧ s.h1 ≤ 100000) ∧ (0 ≤ s.h2 ∧ s.h2 ≤ 100000) := by
 unfold Sta.ok at h
 simp only [Bool.and_eq_true] at h
 obtain ⟨_, _, _, h4, _, _, t0, t1, t2⟩ := h
 exact ⟨Proofs.YtnplgeogieoioaaGreatDoor.hi_b s.es h4 _ _ _ t0, Proofs.YtnplgeogieoioaaGreatDoor.hi_b s.es h4 _ _ _ t1, Proofs.YtnplgeogieoioaaGreatDoor.hi_b s.es h4 _ _ _ t2⟩
def headIs (L : List En) (e : En) : Bool := match L with | x :: _ => decide (x = e) | [] => false
def Sta.takes (s : Sta) (r : Rc) : Bool :=
 if r.k = 1 then decide (r.f = s.h0) && (decide (kN r.key = s.seq + 1) && !s.has r.key)
 else if r.k = 2 then decide (s.fence < r.tok)
 else if r.k = 3 then decide (r.tok = s.fence) && (decide (r.f = s.hi r.tier) && (decide (kN r.key = r.f) && (decide (kW r.key = r.tok) && (decide (r.t = r.f + wd r.tier) && (decide (r.t ≤ s.hi (r.tier - 1)) && (decide (s.lo (r.tier - 1) ≤ r.f) && !s.has r.key))))))
 else if r.k = 4 then decide (r.tok = s.fence) && (headIs (ofT s.es r.tier) r.en && (decide (r.tier = 2) || decide (r.t ≤ s.hi (r.tier + 1))))
 else decide (0 ≤ s.tombAt r.key)
theorem takes1 (s : Sta) (hL : s.es.length ≤ 1000000000) (hT : s.ts.length ≤ 1000000000) (hq : 0 ≤ s.seq ∧ s.seq ≤ 999999) (tok tier f t : Int) (key : List UInt8) : VFn Tryz.prog 154 [s.av, (Rc.mk 1 tok tier f t key).av] (.bool (s.takes ⟨1, tok, tier, f, t, key⟩)) := by
 have e : s.takes ⟨1, tok, tier, f, t, key⟩ = (decide (f = s.h0) && (decide (kN key = s.seq + 1) && !s.has key)) := rfl
 rw [e]
 refine VFn.introC Tryz.call154 Tryz.func154 rfl rfl ?_
 conv => whnf
 refine CallC.sca _ (readDataKey_fn key) ?_ ?_
 · exact rfl
 refine And.intro ⟨by omega, by show (0 : Int) < ((3 : Nat) : Int); omega⟩ ?_
 repeat' (conv => whnf
          first
  | refine Grd.intro (fun h => ?_) (fun h => ?_)
  | (refine CallC.sca _ (hasKey_fn s hL hT key) ?_ ?_; exact rfl)
  | refine And.intro (inI64 (by omega) (by omega)) ?_
  | refine And.intro trivial (AVle.of_eq (congrArg AV.bool ?_)))
 all_goals (simp_all)
theorem takes2 (s : Sta) (tok tier f t : Int) (key : List UInt8) : VFn Tryz.prog 154 [s.av, (Rc.mk 2 tok tier f t key).av] (.bool (s.takes ⟨2, tok, tier, f, t, key⟩)) := by
 refine VFn.introC Tryz.call154 Tryz.func154 rfl rfl ?_
 exact And.intro trivial (AVle.of_eq (congrArg AV.bool (show decide (s.fence < tok) = _ from rfl)))
theorem takes5 (s : Sta) (hT : s.ts.length ≤ 1000000000) (tok tier f t : Int) (key : List UInt8) : VFn Tryz.prog 154 [s.av, (Rc.mk 5 tok tier f t key).av] (.bool (s.takes ⟨5, tok, tier, f, t, key⟩)) := by
 refine VFn.introC Tryz.call154 Tryz.func154 rfl rfl ?_
 conv => whnf
 refine CallC.sca _ (tomb_fn s hT key) ?_ ?_
 · exact rfl
 exact And.intro trivial (AVle.of_eq (congrArg AV.bool (show decide (0 ≤ s.tombAt key) = _ from rfl)))
set_option maxHeartbeats 4000000 in
theorem takes3_1 (s : Sta) (hL : s.es.length ≤ 1000000000) (hT : s.ts.length ≤ 1000000000) (tok f t : Int) (hf : 0 ≤ f ∧ f ≤ 1000000) (key : List UInt8) : VFn Tryz.prog 154 [s.av, (Rc.mk 3 tok 1 f t key).av] (.bool (s.takes ⟨3, tok, 1, f, t, key⟩)) := by
 have w1 : VFn Tryz.prog 189 [.int .i64 1] (.int .i64 5) := width_fn 1 (.inr (.inl rfl))
 have e : s.takes ⟨3, tok, 1, f, t, key⟩ = (decide (tok = s.fence) && (decide (f = s.h1) && (decide (kN key = f) && (decide (kW key = tok) && (decide (t = f + 5) && (decide (t ≤ s.h0) && (decide (s.l0 ≤ f) && !s.has key))))))) := rfl
 rw [e]
 refine VFn.introC Tryz.call154 Tryz.func154 rfl rfl ?_
 conv => whnf
 refine CallC.sca _ (readDataKey_fn key) ?_ ?_
 · exact rfl
 refine DrawC.mq 68 rfl (by kernel_rfl) ?_
 repeat' (first
  | refine Grd.intro (fun h => ?_) (fun h => ?_)
  | ((conv => whnf); refine Grd.intro (fun h => ?_) (fun h => ?_))
  | refine PCallQ.sca _ (w1) rfl ?_
  | refine PCallQ.sca _ (hasKey_fn s hL hT key) rfl ?_
  | refine And.intro (inI64 (by (try simp only); omega) (by (try simp only); omega)) ?_
  | refine And.intro ⟨show (0 : Int) ≤ 0 by omega, show (0 : Int) < ((3 : Nat) : Int) by omega⟩ ?_
  | refine And.intro ⟨show (0 : Int) ≤ 1 by omega, show (1 : Int) < ((3 : Nat) : Int) by omega⟩ ?_
  | refine And.intro ⟨show (0 : Int) ≤ 2 by omega, show (2 : Int) < ((3 : Nat) : Int) by omega⟩ ?_
  | refine And.intro trivial (AVle.of_eq (congrArg AV.bool ?_)))
 all_goals (first | (simp_all; done) | (simp_all; intros; omega))
set_option maxHeartbeats 4000000 in
theorem takes3_2 (s : Sta) (hL : s.es.length ≤ 1000000000) (hT : s.ts.length ≤ 1000000000) (tok f t : Int) (hf : 0 ≤ f ∧ f ≤ 1000000) (key : List UInt8) : VFn Tryz.prog 154 [s.av, (Rc.mk 3 tok 2 f t key).av] (.bool (s.takes ⟨3, tok, 2, f, t, key⟩)) := by
 have w1 : VFn Tryz.prog 189 [.int .i64 2] (.int .i64 20) := width_fn 2 (.inr (.inr rfl))
 have e : s.takes ⟨3, tok, 2, f, t, key⟩ = (decide (tok = s.fence) && (decide (f = s.h2) && (decide (kN key = f) && (decide (kW key = tok) && (decide (t = f + 20) && (decide (t ≤ s.h1) && (decide (s.l1 ≤ f) && !s.has key))))))) := rfl
 rw [e]
 refine VFn.introC Tryz.call154 Tryz.func154 rfl rfl ?_
 conv => whnf
 refine CallC.sca _ (readDataKey_fn key) ?_ ?_
 · exact rfl
 refine DrawC.mq 68 rfl (by kernel_rfl) ?_
 repeat' (first
  | refine Grd.intro (fun h => ?_) (fun h => ?_)
  | ((conv => whnf); refine Grd.intro (fun h => ?_) (fun h => ?_))
  | refine PCallQ.sca _ (w1) rfl ?_
  | refine PCallQ.sca _ (hasKey_fn s hL hT key) rfl ?_
  | refine And.intro (inI64 (by (try simp only); omega) (by (try simp only); omega)) ?_
  | refine And.intro ⟨show (0 : Int) ≤ 0 by omega, show (0 : Int) < ((3 : Nat) : Int) by omega⟩ ?_
  | refine And.intro ⟨show (0 : Int) ≤ 1 by omega, show (1 : Int) < ((3 : Nat) : Int) by omega⟩ ?_
  | refine And.intro ⟨show (0 : Int) ≤ 2 by omega, show (2 : Int) < ((3 : Nat) : Int) by omega⟩ ?_
  | refine And.intro trivial (AVle.of_eq (congrArg AV.bool ?_)))
 all_goals (first | (simp_all; done) | (simp_all; intros; omega))
def readP : List (List UInt8) → Option Rc
 | [a, b] => (match numsK 44 5 a with
   | some [k, tok, tier, f, e] => if Rc.ok ⟨k, tok, tier, f, e, b⟩ = true then some ⟨k, tok, tier, f, e, b⟩ else none
   | _ => none)
 | _ => none
def readR (t : List UInt8) : Option Rc := readP (cutP 32 [] t)
theorem readR_ok {t : List UInt8} {r : Rc} (h : readR t = some r) : r.ok = true := by
 unfold readR readP at h
 split at h
 · split at h
   · split at h
     · cases h; assumption
     · cases h
   · cases h
 · cases h
def Sta.tick (s : Sta) : Sta := { s with seq := s.seq + 1 }
def Sta.lift (s : Sta) (k v : Int) : Sta := if k = 0 then { s with h0 := v } else if k = 1 then { s with h1 := v } else { s with h2 := v }
def Sta.lower (s : Sta) (k v : Int) : Sta := if k = 0 then { s with l0 := v } else if k = 1 then { s with l1 := v } else { s with l2 := v }
def noE (k : List UInt8) (L : List En) : List En := L.filter fun e => !decide (e.key = k)
def noT (k : List UInt8) (L : List Tb) : List Tb := L.filter fun e => !decide (e.key = k)
def Sta.app (s : Sta) (r : Rc) : Sta :=
 if s.takes r = true then
  if r.k = 1 ∨ r.k = 3 then ({ s.tick with es := s.es ++ [r.en] } : Sta).lift r.tier r.t
  else if r.k = 2 then { s.tick with fence := r.tok }
  else if r.k = 4 then ({ s.tick with es := noE r.key s.es, ts := s.ts ++ [⟨s.seq + 1, r.key⟩] } : Sta).lower r.tier r.t
  else { s.tick with ts := noT r.key s.ts }
 else s.tick
theorem lift_es (s : Sta) (k v : Int) : (s.lift k v).es = s.es ∧ (s.lift k v).ts = s.ts ∧ (s.lift k v).seq = s.seq ∧ (s.lift k v).fence = s.fence := by
 unfold Sta.lift; split
 · exact ⟨rfl, rfl, rfl, rfl⟩
 · split <;> exact ⟨rfl, rfl, rfl, rfl⟩
theorem lower_es (s : Sta) (k v : Int) : (s.lower k v).es = s.es ∧ (s.lower k v).ts = s.ts ∧ (s.lower k v).seq = s.seq ∧ (s.lower k v).fence = s.fence := by
 unfold Sta.lower; split
 · exact ⟨rfl, rfl, rfl, rfl⟩
 · split <;> exact ⟨rfl, rfl, rfl, rfl⟩
theorem app_seq (s : Sta) (r : Rc) : (s.app r).seq = s.seq + 1 := by
 unfold Sta.app
 split
 · split
   · rw [(lift_es _ _ _).2.2.1]; rfl
   · split
     · rfl
     · split
       · rw [(lower_es _ _ _).2.2.1]; rfl
       · rfl
 · rfl
theorem noE_len (k : List UInt8) (L : List En) : (noE k L).length ≤ L.length := List.length_filter_le _ _
theorem noT_len (k : List UInt8) (L : List Tb) : (noT k L).length ≤ L.length := List.length_filter_le _ _
theorem has_iff (s : Sta) (k : List UInt8) : s.has k = true ↔ k ∈ s.keys := by
 unfold Sta.has Sta.tombAt Sta.keys
 rw [fi_any]
 simp only [Bool.or_eq_true, List.any_eq_true, decide_eq_true_eq, List.mem_append, List.mem_map]
theorem headIs_mem {L : List En} {k : Int} {e : En} (h : headIs (ofT L k) e = true) : e ∈ L := by
 unfold headIs at h
 cases hl : ofT L k with
 | nil => rw [hl] at h; cases h
 | cons x r =>
   rw [hl] at h
   have hx : x = e := of_decide_eq_true h
   have : x ∈ ofT L k := by rw [hl]; simp
   rw [← hx]
   exact (List.mem_filter.1 this).1
theorem takes_k {s : Sta} {r : Rc} (h : s.takes r = true) (hk : r.k = 1 ∨ r.k = 3) : s.has r.key = false := by
 unfold Sta.takes at h
 rcases hk with hk | hk
 · rw [if_pos hk] at h
   simp only [Bool.and_eq_true, Bool.not_eq_true'] at h
   exact h.2.2
 · rw [if_neg (by omega), if_neg (by omega), if_pos hk] at h
   simp only [Bool.and_eq_true, Bool.not_eq_true'] at h
   exact h.2.2.2.2.2.2.2
theorem takes_4 {s : Sta} {r : Rc} (h : s.takes r = true) (hk : r.k = 4) : headIs (ofT s.es r.tier) r.en = true := by
 unfold Sta.takes at h
 rw [if_neg (by omega), if_neg (by omega), if_neg (by omega), if_pos hk] at h
 simp only [Bool.and_eq_true] at h
 exact h.2.1
theorem appL_len (s : Sta) (r : Rc) : (s.app r).es.length + (s.app r).ts.length ≤ s.es.length + s.ts.length + 1 := by
 unfold Sta.app
 split
 · rename_i ht
   split
   · rw [(lift_es _ _ _).1, (lift_es _ _ _).2.1]
     show (s.es ++ [r.en]).length + s.ts.length ≤ _
     rw [List.length_append]; simp only [List.length_cons, List.length_nil]; omega
   · split
     · show s.es.length + s.ts.length ≤ _; omega
     · split
       · rw [(lower_es _ _ _).1, (lower_es _ _ _).2.1]
         show (noE r.key s.es).length + (s.ts ++ [(⟨s.seq + 1, r.key⟩ : Tb)]).length ≤ _
         have := noE_len r.key s.es
         rw [List.length_append]; simp only [List.length_cons, List.length_nil]; omega
       · show s.es.length + (noT r.key s.ts).length ≤ _
         have := noT_len r.key s.ts; omega
 · show s.es.length + s.ts.length ≤ _; omega
structure LogS (s : Sta) : Prop where
 nd : s.keys.Nodup
 kk : ∀ k ∈ s.keys, kOk k = true
theorem LogS.of {q : Sta} {K : List (List UInt8)} (e : q.keys = K) (h : K.Nodup ∧ ∀ k ∈ K, kOk k = true) : LogS q := ⟨e ▸ h.1, fun k hk => h.2 k (e ▸ hk)⟩
theorem nodup_snoc {α : Type} {L : List α} {a : α} (h : L.Nodup) (ha : a ∉ L) : (L ++ [a]).Nodup :=
 List.nodup_append.2 ⟨h, by simp, fun x hx y hy e => by
  have : y = a := by simpa using hy
  subst this; subst e; exact ha hx⟩
theorem noE_keys (k : List UInt8) (L : List En) : (noE k L).map (·.key) = (L.map (·.key)).filter fun x => !decide (x = k) := by
 unfold noE; rw [List.filter_map]; rfl
theorem noT_keys (k : List UInt8) (L : List Tb) : (noT k L).map (·.key) = (L.map (·.key)).filter fun x => !decide (x = k) := by
 unfold noT; rw [List.filter_map]; rfl
theorem app_log {s : Sta} {r : Rc} (h : LogS s) (hr : r.ok = true) : LogS (s.app r) := by
 obtain ⟨nd, kk⟩ := h
 have nd' := nd
 unfold Sta.keys at nd'
 have nda := List.nodup_append.1 nd'
 unfold Sta.app
 split
 · rename_i ht
   split
   · rename_i hk
     have hno := takes_k ht hk
     have hnk : r.key ∉ s.keys := fun h => by rw [(has_iff s r.key).2 h] at hno; cases hno
     have hok : kOk r.key = true := by
      unfold Rc.ok at hr
      rcases hk with hk | hk
      · rw [if_pos hk] at hr; simp [Rc.en, En.ok] at hr; exact hr.2.2.1
      · rw [if_neg (by omega), if_neg (by omega), if_pos hk] at hr; simp [Rc.en, En.ok] at hr; exact hr.2.2.1
     have e : ∀ q : Sta, q.es = s.es ++ [r.en] → q.ts = s.ts → q.keys = (s.es.map (·.key) ++ [r.key]) ++ s.ts.map (·.key) := fun q h1 h2 => by unfold Sta.keys; rw [h1, h2, List.map_append]; rfl
     refine LogS.of (e _ (lift_es _ _ _).1 (lift_es _ _ _).2.1) ?_
     have hm : r.key ∉ s.es.map (·.key) ∧ r.key ∉ s.ts.map (·.key) := ⟨fun h => hnk (List.mem_append.2 (.inl h)), fun h => hnk (List.mem_append.2 (.inr h))⟩
     refine ⟨List.nodup_append.2 ⟨nodup_snoc nda.1 hm.1, nda.2.1, fun x hx y hy => ?_⟩, fun k hk' => ?_⟩
     · rcases List.mem_append.1 hx with hx | hx
       · exact nda.2.2 x hx y hy
       · have : x = r.key := by simpa using hx
         subst this
         exact fun e => hm.2 (e ▸ hy)
     · rcases List.mem_append.1 hk' with hk' | hk'
       · rcases List.mem_append.1 hk' with hk' | hk'
         · exact kk k (List.mem_append.2 (.inl hk'))
         · have : k = r.key := by simpa using hk'
           rw [this]; exact hok
       · exact kk k (List.mem_append.2 (.inr hk'))
   · split
     · exact ⟨nd, kk⟩
     · split
       · rename_i hk1 hk2 hk4
         have hm := headIs_mem (takes_4 ht hk4)
         have hke : r.key ∈ s.es.map (·.key) := List.mem_map.2 ⟨_, hm, rfl⟩
         have hkt : r.key ∉ s.ts.map (·.key) := fun h => nda.2.2 _ hke _ h rfl
         have e : ∀ q : Sta, q.es = noE r.key s.es → q.ts = s.ts ++ [⟨s.seq + 1, r.key⟩] → q.keys = (s.es.map (·.key)).filter (fun x => !decide (x = r.key)) ++ (s.ts.map (·.key) ++ [r.key]) := fun q h1 h2 => by unfold Sta.keys; rw [h1, h2, List.map_append, noE_keys]; rfl
         refine LogS.of (e _ (lower_es _ _ _).1 (lower_es _ _ _).2.1) ?_
         refine ⟨List.nodup_append.2 ⟨nda.1.filter _, nodup_snoc nda.2.1 hkt, fun x hx y hy => ?_⟩, fun k hk' => ?_⟩
         · have hx' := List.mem_filter.1 hx
           rcases List.mem_append.1 hy with hy | hy
           · exact nda.2.2 x hx'.1 y hy
           · have : y = r.key := by simpa using hy
             subst this
             intro e; rw [e] at hx'; simp at hx'
         · rcases List.mem_append.1 hk' with hk' | hk'
           · exact kk k (List.mem_append.2 (.inl (List.mem_filter.1 hk').1))
           · rcases List.mem_append.1 hk' with hk' | hk'
             · exact kk k (List.mem_append.2 (.inr hk'))
             · have : k = r.key := by simpa using hk'
               rw [this]; exact kk _ (List.mem_append.2 (.inl hke))
       · have e : ∀ q : Sta, q.es = s.es → q.ts = noT r.key s.ts → q.keys = s.es.map (·.key) ++ (s.ts.map (·.key)).filter (fun x => !decide (x = r.key)) := fun q h1 h2 => by unfold Sta.keys; rw [h1, h2, noT_keys]
         refine LogS.of (e _ rfl rfl) ?_
         refine ⟨List.nodup_append.2 ⟨nda.1, nda.2.1.filter _, fun x hx y hy => nda.2.2 x hx y (List.mem_filter.1 hy).1⟩, fun k hk' => ?_⟩
         rcases List.mem_append.1 hk' with hk' | hk'
         · exact kk k (List.mem_append.2 (.inl hk'))
         · exact kk k (List.mem_append.2 (.inr (List.mem_filter.1 hk').1))
 · exact ⟨nd, kk⟩
theorem nodup_le {α : Type} [DecidableEq α] : ∀ (L M : List α), L.Nodup → (∀ x ∈ L, x ∈ M) → L.length ≤ M.length
 | [], _, _, _ => Nat.zero_le _
 | a :: l, M, h, hm => by
   have h' := List.nodup_cons.1 h
   have ha := hm a (by simp)
   have := nodup_le l (M.erase a) h'.2 fun x hx => (List.mem_erase_of_ne (fun e => h'.1 (by rw [← e]; exact hx))).2 (hm x (by simp [hx]))
   rw [List.length_erase_of_mem ha] at this
   have hp : 0 < M.length := List.length_pos_of_mem ha
   simp only [List.length_cons]; omega
theorem has_mem {x : Sto} {k : List UInt8} (h : x.has k = true) : k ∈ x.os.map (·.key) := by
 obtain ⟨h1, h2⟩ := hasK_at h
 exact List.mem_map.2 ⟨_, getD_mem h1, h2⟩
theorem manK_inj {a b : Nat} (ha : a ≤ 999999) (hb : b ≤ 999999) (h : manK (a : Int) = manK (b : Int)) : a = b := by
 unfold manK at h
 have := List.append_cancel_left h
 exact six6_inj (by omega) (by omega) (by simpa using this)
theorem log_len {x : Sto} {n : Nat} (hn : n ≤ 999998) (h : ∀ j, j < n → x.has (manK ((j + 1 : Nat) : Int)) = true) : n ≤ x.os.length := by
 have := nodup_le ((List.range n).map fun j => manK ((j + 1 : Nat) : Int)) (x.os.map (·.key)) ?_ ?_
 · simpa using this
 · refine List.pairwise_map.2 (List.Pairwise.imp_of_mem (fun {a b} ha hb hne e => ?_) (List.nodup_range (n := n)))
   have := List.mem_range.1 ha
   have := List.mem_range.1 hb
   have := manK_inj (by omega) (by omega) e
   exact hne (by omega)
 · intro k hk
   obtain ⟨j, hj, rfl⟩ := List.mem_map.1 hk
   exact has_mem (h j (List.mem_range.1 hj))
def sta0 : Sta := ⟨0, 0, [], [], 0, 0, 0, 0, 0, 0⟩
def recAt (x : Sto) (n : Int) : Option Rc := readR (x.get (manK n)).data
def stepL (x : Sto) (s : Sta) : Sta := match recAt x (s.seq + 1) with | none => s.tick | some r => s.app r
def logN (x : Sto) : Nat → Sta
 | 0 => sta0
 | n + 1 => stepL x (logN x n)
theorem logN_seq (x : Sto) : ∀ n, (logN x n).seq = (n : Int)
 | 0 => rfl
 | n + 1 => by
   have ih := logN_seq x n
   show (stepL x (logN x n)).seq = _
   unfold stepL
   split
   · show (logN x n).seq + 1 = _; rw [ih]; simp
   · rw [app_seq, ih]; simp
theorem logN_len (x : Sto) : ∀ n, (logN x n).es.length + (logN x n).ts.length ≤ n
 | 0 => Nat.le_refl _
 | n + 1 => by
   have ih := logN_len x n
   show (stepL x (logN x n)).es.length + (stepL x (logN x n)).ts.length ≤ _
   unfold stepL
   split
   · show (logN x n).es.length + (logN x n).ts.length ≤ _; omega
   · rename_i r _
     have := appL_len (logN x n) r; omega
theorem logN_log (x : Sto) : ∀ n, LogS (logN x n)
 | 0 => ⟨by simp [logN, sta0, Sta.keys], fun k hk => by simp [logN, sta0, Sta.keys] at hk⟩
 | n + 1 => by
   have ih := logN_log x n
   show LogS (stepL x (logN x n))
   unfold stepL
   split
   · exact ⟨ih.1, ih.2⟩
   · rename_i r hr
     exact app_log ih (readR_ok hr)
def firstNo (p : Nat → Bool) : Nat → Nat → Nat
 | 0, n => n
 | f + 1, n => if p n = true then firstNo p f (n + 1) else n
theorem firstNo_at {p : Nat → Bool} {i : Nat} (h0 : p i = false) : ∀ f n, n ≤ i → i ≤ n + f → (∀ j, n ≤ j → j < i → p j = true) → firstNo p f n = i
 | 0, n, h1, h2, _ => by show n = i; omega
 | f + 1, n, h1, h2, h => by
   unfold firstNo
   rcases Nat.lt_or_ge n i with h3 | h3
   · rw [if_pos (h n (Nat.le_refl _) h3)]
     exact firstNo_at h0 f (n + 1) h3 (by omega) fun j hj => h j (by omega)
   · have : n = i := by omega
     subst this
     rw [if_neg (by rw [h0]; simp)]
def logEnd (x : Sto) : Nat := firstNo (fun j => x.has (manK ((j + 1 : Nat) : Int))) 400 0
def logS (x : Sto) : Sta := logN x (logEnd x)
theorem log_end {x : Sto} (hs : x.ok = true) {i : Nat} (hi : i ≤ 300) (h : ∀ j, j < i → x.has (manK ((j + 1 : Nat) : Int)) = true) (h0 : x.has (manK ((i + 1 : Nat) : Int)) = false) : i = logEnd x :=
 (firstNo_at h0 400 0 (Nat.zero_le _) (by omega) fun j _ hj => h j hj).symm
theorem firstNo_le (p : Nat → Bool) : ∀ f n, firstNo p f n ≤ n + f
 | 0, n => Nat.le_refl _
 | f + 1, n => by
   unfold firstNo
   split
   · have := firstNo_le p f (n + 1); omega
   · omega
theorem log_b (x : Sto) : (logS x).seq = (logEnd x : Int) ∧ logEnd x ≤ 400 ∧ (logS x).es.length + (logS x).ts.length ≤ 400 ∧ LogS (logS x) := by
 have h1 := firstNo_le (fun j => x.has (manK ((j + 1 : Nat) : Int))) 400 0
 have h2 := logN_len x (logEnd x)
 have h3 : logEnd x ≤ 400 := by unfold logEnd; omega
 exact ⟨logN_seq x _, h3, by unfold logS; omega, logN_log x _⟩
end Go.Proofs.YtnplgeogieoioaaGreatDoor
