/- Contracts of functions that the claim reaches, and the plain law of what they compute; each theorem bears its own conditions. -/
import Derived.Test.YtfaffgneccjpbaaGreatDoorQ8
import Derived.Test.YtfaffgneccjpbaaGreatDoorQ6
import Derived.Test.YtfaffgneccjpbaaGreatDoorQ2
import Derived.Test.YtfaffgneccjpbaaGreatDoorQ4
import Derived.Test.YtfaffgneccjpbaaGreatDoorV50
import Derived.Test.YtfaffgneccjpbaaGreatDoorQ3
set_option linter.unusedVariables false
set_option linter.constructorNameAsVariable false
set_option linter.unusedSimpArgs false
set_option maxRecDepth 20000
namespace Go.Proofs.YtfaffgneccjpbaaGreatDoor
open Go Go.Vw

theorem nums6 {c : UInt8} {t : List UInt8} {N : List Int} (h : numsK c 6 t = some N) : ∃ a b d e f g, N = [a, b, d, e, f, g] := by
  unfold numsK at h
  split at h
  · rename_i hc
    injection h with h
    have : N.length = 6 := by rw [← h, List.length_map]; exact hc.1
    match N, this with
    | [a, b, d, e, f, g], _ => exact ⟨a, b, d, e, f, g, rfl⟩
  · cases h
def agV (t : List UInt8) : Ag := match numsK 44 6 t with | some [a, b, c, d, e, f] => ⟨a, b, c, d, e, f⟩ | _ => ⟨0, 0, 0, 0, 0, 0⟩
def agOk (t : List UInt8) : Bool := (numsK 44 6 t).isSome && (agV t).ok
theorem readAgg_fn (t : List UInt8) (hl : t.length ≤ 1048576) : VFn Tryz.prog 138 [.str (B t)] (.tup [(agV t).av, .bool (agOk t)]) := by
  unfold agOk agV
  cases hn : numsK 44 6 t with
  | none =>
    refine VFn.introC Tryz.call138 Tryz.func138 rfl rfl ?_
    conv => whnf
    refine CallC.nl _ (numbers_no t 44 6 (by omega) (by decide) hn) ?_ ?_
    · exact rfl
    exact And.intro trivial (AVle.refl _)
  | some N =>
    obtain ⟨a, b, c, d, e, f, rfl⟩ := nums6 hn
    refine VFn.introC Tryz.call138 Tryz.func138 rfl rfl ?_
    conv => whnf
    refine CallC.nl _ (numbers_yes t 44 6 (by omega) (by decide) hn) ?_ ?_
    · exact rfl
    refine DrawC.mk 20 rfl (by kernel_rfl) ?_
    iterate 6 (refine And.intro ⟨by decide, by show (_ : Int) < ((6 : Nat) : Int); decide⟩ ?_)
    refine DrawC.mk 3 rfl (by kernel_rfl) ?_
    refine PCallC.sca _ (AggOK_fn ⟨a, b, c, d, e, f⟩) rfl ?_
    exact And.intro trivial (AVle.refl _)
def bOk (w : List UInt8) : Bool := (Lib.cut w [58]).2.2 && (numOk (Lib.cut w [58]).1 && agOk (Lib.cut w [58]).2.1)
def bv (w : List UInt8) : Bk := ⟨atoiV (Lib.cut w [58]).1, agV (Lib.cut w [58]).2.1⟩
theorem cutP_has (c x : UInt8) (hx : x ≠ c) : ∀ (l cur : List UInt8), x ∈ cur ∨ x ∈ l → ∃ p ∈ cutP c cur l, x ∈ p
  | [], cur, h => ⟨cur, by simp [cutP], by rcases h with h | h; exact h; cases h⟩
  | y :: r, cur, h => by
    unfold cutP
    split
    · rename_i hy
      rcases h with h | h
      · exact ⟨cur, by simp, h⟩
      · rcases List.mem_cons.1 h with rfl | h
        · exact absurd (by simpa using hy) hx
        · obtain ⟨p, hp, q⟩ := cutP_has c x hx r [] (.inr h)
          exact ⟨p, List.mem_cons_of_mem _ hp, q⟩
    · obtain ⟨p, hp, q⟩ := cutP_has c x hx r (cur ++ [y]) (by
        rcases h with h | h
        · exact .inl (by simp [h])
        · rcases List.mem_cons.1 h with rfl | h
          · exact .inl (by simp)
          · exact .inr h)
      exact ⟨p, hp, q⟩
def rbOk (t : List UInt8) : Bool := (wds t).all bOk && bksOK ((wds t).map bv)
def rbV (t : List UInt8) : List Bk := (wds t).map bv
theorem bks_8 {L : List Bk} (h : bksOK L = true) : L.length ≤ 8 := by
  unfold bksOK at h
  rw [Bool.and_eq_true] at h
  exact of_decide_eq_true h.1
theorem rbOk_pts (t : List UInt8) : rbOk t = ((pts t).all bOk && bksOK ((pts t).map bv)) := by
  have h := pts_wds t
  unfold rbOk
  rcases Nat.lt_or_ge 8 (wds t).length with h8 | h8
  · have a : bksOK ((wds t).map bv) = false := by
      rw [Bool.eq_false_iff]; intro q; have := bks_8 q; simp at this; omega
    have b : bksOK ((pts t).map bv) = false := by
      rw [Bool.eq_false_iff]; intro q; have := bks_8 q; rw [List.length_map, h.2 h8] at this; omega
    rw [a, b]; simp
  · rw [h.1 h8]
theorem rbV_pts {t : List UInt8} (h : rbOk t = true) : rbV t = (pts t).map bv := by
  simp only [rbOk, Bool.and_eq_true] at h
  have := bks_8 h.2
  rw [List.length_map] at this
  unfold rbV
  rw [(pts_wds t).1 this]
theorem cut_len (w : List UInt8) : (Lib.cut w [58]).1.length ≤ w.length ∧ (Lib.cut w [58]).2.1.length ≤ w.length := by
  rcases first_c 58 w with h | ⟨a, b, rfl, ha⟩
  · rw [cut_none h]; simp
  · rw [cut_at ha]; simp; omega
theorem readBuckets_gen (t : List UInt8) (hl : t.length ≤ 1048576) (R : AV) (hy : rbOk t = true → R = .tup [bks (rbV t), .bool true]) (hn : rbOk t = false → R = .tup [.any, .bool false]) : VFn Tryz.prog 95 [.str (B t)] R := by
  have e0 := rbOk_pts t
  have e1 := fun h => rbV_pts (t := t) h
  have hpl := pts_piece t
  have hc := parts_fn t hl
  obtain ⟨P, hP⟩ : ∃ P, P = pts t := ⟨_, rfl⟩
  rw [← hP] at e0 e1 hpl hc
  have hPl : P.length ≤ 9 := by
    rw [hP]
    rcases Nat.lt_or_ge 8 (wds t).length with h8 | h8
    · rw [(pts_wds t).2 h8]; omega
    · rw [(pts_wds t).1 h8]; omega
  clear hP
  refine VFn.introC Tryz.call95 Tryz.func95 rfl rfl ?_
  conv => whnf
  refine CallC.nl _ (hc) ?_ ?_
  · exact rfl
  refine LoopC.mk (fun i : Nat => i ≤ P.length ∧ ∀ j, j < i → bOk (ix P j) = true) (fun i => [(4, .osl 0), (16, txts P), (17, .int .i64 P.length), (18, .int .i64 i)])
    (fun i => [(0, .arr 164 7 ((P.take i).map bv).length fun j => (ix ((P.take i).map bv) j).row)]) 1 (fun i => P.length - i) 0
    ⟨⟨Nat.zero_le _, fun j hj => absurd hj (Nat.not_lt_zero j)⟩, [(0, 0)], rfl, rfl, ⟨AVle.refl _, AVle.refl _, AVle.refl _, AVle.refl _, trivial⟩, ⟨MOle.arr rfl fun i hi => absurd hi (Nat.not_lt_zero i), trivial⟩⟩ ?_
  intro i hi
  obtain ⟨hi, hall⟩ := hi
  refine Grd.intro (fun h2 => ?_) (fun h2 => ?_)
  · have hin : i < P.length := by have := of_decide_eq_true h2; omega
    have hpi := hpl _ (getD_mem hin)
    have hcl := cut_len (ix P i)
    have c1 := Cut_fn (ix P i) 58 (by omega)
    obtain ⟨x, hcut⟩ : ∃ x, Lib.cut (ix P i) [58] = x := ⟨_, rfl⟩
    obtain ⟨a, b, r⟩ := x
    have e3 : bOk (ix P i) = (r && (numOk a && agOk b)) := by unfold bOk; rw [hcut]
    have e4 : bv (ix P i) = ⟨atoiV a, agV b⟩ := by unfold bv; rw [hcut]
    rw [hcut] at c1 hcl
    simp only at c1
    have hcl1 : a.length ≤ 1048576 := by have := hcl.1; simp only at this; omega
    have hcl2 : b.length ≤ 1048576 := by have := hcl.2; simp only at this; omega
    have c2 := number_fn a (by omega)
    have c3 := readAgg_fn b hcl2
    clear hcut hcl
    have cg : ∀ g : Bool, agOk b = g → VFn Tryz.prog 138 [.str (B b)] (.tup [(agV b).av, .bool g]) := fun g h => by rw [h] at c3; exact c3
    refine And.intro (by omega) ?_
    by_cases h3 : bOk (ix P i) = true
    · have q := h3
      rw [e3] at q
      simp only [Bool.and_eq_true] at q
      obtain ⟨q1, q2, q3⟩ := q
      rw [q1] at c1
      rw [q2] at c2
      have c3 := cg true q3
      conv => whnf
      refine CallC.sca _ (c1) ?_ ?_
      · exact rfl
      conv => whnf
      refine CallC.sca _ (c2) ?_ ?_
      · exact rfl
      conv => whnf
      refine CallC.sca _ (c3) ?_ ?_
      · exact rfl
      refine And.intro ⟨show (((P.take i).map bv).length + 1) * 56 ≤ 140737488355328 by simp; omega, all1 rfl⟩ ?_
      refine And.intro (inI64 (by omega) (by omega)) ?_
      refine ⟨i + 1, ⟨hin, fun j hj => ?_⟩, by omega, [(3, 0)], rfl, rfl, ⟨AVle.refl _, AVle.refl _, AVle.refl _, AVle.of_eq (congrArg (AV.int .i64) (by simp)), trivial⟩, ⟨arr_next (f := Bk.row) (map_take_snoc hin) (by rw [e4]; rfl), trivial⟩⟩
      rcases Nat.lt_or_ge j i with h' | h'
      · exact hall j h'
      · rw [show j = i by omega]; exact h3
    · have h3 : bOk (ix P i) = false := by simpa using h3
      rw [hn (by rw [e0, bad_all hin h3]; rfl)]
      rw [e3] at h3
      have c3 := cg _ rfl
      generalize numOk a = q2 at c2 h3
      generalize agOk b = q3 at c3 h3
      cases r <;> cases q2 <;> cases q3
      all_goals first | (exfalso; cases h3; done) | skip
      all_goals
        conv => whnf
        refine CallC.sca _ (c1) ?_ ?_
        · exact rfl
        conv => whnf
        refine CallC.sca _ (c2) ?_ ?_
        · exact rfl
        conv => whnf
        refine CallC.sca _ (c3) ?_ ?_
        · exact rfl
        exact And.intro trivial (AVle.tup (AVsle.cons (AVle.any _) (AVsle.cons (AVle.refl _) AVsle.nil)))
  · have : i = P.length := by have := of_decide_eq_false h2; omega
    subst this
    have e : P.take P.length = P := List.take_of_length_le (Nat.le_refl _)
    have hA : P.all bOk = true := pre_all hall
    rw [hA, Bool.true_and] at e0
    rw [e]
    have c := BucketsOK_fn (P.map bv)
    cases hq : bksOK (P.map bv)
    · rw [hq] at c e0
      rw [hn e0]
      conv => whnf
      refine CallC.sca _ (c) ?_ ?_
      · exact rfl
      exact And.intro trivial (AVle.tup (AVsle.cons (AVle.any _) (AVsle.cons (AVle.refl _) AVsle.nil)))
    · rw [hq] at c e0
      rw [hy e0, e1 e0]
      conv => whnf
      refine CallC.sca _ (c) ?_ ?_
      · exact rfl
      exact And.intro trivial (AVle.refl _)
theorem join_has {c x : UInt8} : ∀ {L : List (List UInt8)}, x ∈ Lib.join L [c] → x = c ∨ ∃ y ∈ L, x ∈ y
  | [], h => by simp [Lib.join, List.intercalate] at h
  | [a], h => by rw [Lib.join_one] at h; exact .inr ⟨a, by simp, h⟩
  | a :: b :: r, h => by
    have e : Lib.join (a :: b :: r) [c] = a ++ c :: Lib.join (b :: r) [c] := by simp [Lib.join, List.intercalate, List.intersperse]
    rw [e, List.mem_append, List.mem_cons] at h
    rcases h with h | rfl | h
    · exact .inr ⟨a, by simp, h⟩
    · exact .inl rfl
    · rcases join_has h with h | ⟨y, hy, q⟩
      · exact .inl h
      · exact .inr ⟨y, List.mem_cons_of_mem _ hy, q⟩
end Go.Proofs.YtfaffgneccjpbaaGreatDoor
set_option linter.unusedVariables false
set_option linter.constructorNameAsVariable false
set_option linter.unusedSimpArgs false
set_option maxRecDepth 20000
namespace Go.Proofs.YtfaffgneccjpbaaGreatDoor
open Go Go.Vw

def eqS {α : Type} [Inhabited α] (q : α → α → Bool) (L M : List α) : Bool := decide ((L.length : Int) = M.length) && allN L.length fun i => q (ix L i) (ix M i)
theorem eqS_len {α : Type} [Inhabited α] {q : α → α → Bool} {L M : List α} (h : ¬ (L.length : Int) = M.length) : eqS q L M = false := by
  unfold eqS; rw [decide_eq_false h]; rfl
theorem eqS_no {α : Type} [Inhabited α] {q : α → α → Bool} {L M : List α} {i : Nat} (hi : i < L.length) (h : q (ix L i) (ix M i) = false) : eqS q L M = false := by
  unfold eqS; rw [allN_no (q := fun i => q (ix L i) (ix M i)) hi h]; simp
theorem eqS_yes {α : Type} [Inhabited α] {q : α → α → Bool} {L M : List α} (hl : (L.length : Int) = M.length) (h : ∀ j, j < L.length → q (ix L j) (ix M j) = true) : eqS q L M = true := by
  unfold eqS; rw [decide_eq_true hl, allN_iff.2 h]; rfl
def Ob.eqb (x y : Ob) : Bool := ((B x.key).toList == (B y.key).toList) && (decide (x.ver = y.ver) && (((B x.data).toList == (B y.data).toList) && true))
def En.eqb (x y : En) : Bool := decide (x.tier = y.tier) && (decide (x.f = y.f) && (decide (x.t = y.t) && (((B x.key).toList == (B y.key).toList) && true)))
def Smp.eqb (x y : Smp) : Bool := decide (x.t = y.t) && (decide (x.v = y.v) && true)
def Rc.eqb (x y : Rc) : Bool := decide (x.k = y.k) && (decide (x.tok = y.tok) && (decide (x.tier = y.tier) && (decide (x.f = y.f) && (decide (x.t = y.t) && (((B x.key).toList == (B y.key).toList) && true)))))
def Bk.eqb (x y : Bk) : Bool := decide (x.t = y.t) && ((Ag.eqb x.a y.a) && true)
theorem EqualSmp2_fn (L M : List Smp) (hL : L.length ≤ 1048576) (hM : M.length ≤ 1048576) : VFn Tryz.prog 115 [smps L, smps M] (.bool (eqS Smp.eqb L M)) := by
  by_cases hl : (L.length : Int) = M.length
  · refine VFn.introC Tryz.call115 Tryz.func115 rfl rfl ?_
    refine Grd.intro (fun g => ?_) (fun _ => ?_)
    · exfalso; simp [hl] at g
    refine LoopC.mk (fun i : Nat => i ≤ L.length ∧ ∀ j, j < i → Smp.eqb (ix L j) (ix M j) = true) (fun i => [(0, smps L), (1, smps M), (12, .int .i64 L.length), (13, .int .i64 i)]) (fun i => []) 0 (fun i => L.length - i) 0
      ⟨⟨Nat.zero_le _, fun j hj => absurd hj (Nat.not_lt_zero j)⟩, [], rfl, rfl, ⟨AVle.refl _, AVle.refl _, AVle.refl _, AVle.refl _, trivial⟩, trivial⟩ ?_
    intro i hi
    obtain ⟨hi, h0⟩ := hi
    refine Grd.intro (fun h2 => ?_) (fun h2 => ?_)
    · have hin : i < L.length := by have := of_decide_eq_true h2; omega
      refine DrawC.mk 8 rfl (by kernel_rfl) ?_
      refine And.intro (by omega) ?_
      refine And.intro (by omega) ?_
      refine And.intro (by kernel_rfl) ?_
      refine Grd.intro (fun g => ?_) (fun g => ?_)
      · have g : (!Smp.eqb (ix L i) (ix M i)) = true := g
        rw [eqS_no hin (by simpa using g)]
        exact And.intro trivial (AVle.refl _)
      · have g : (!Smp.eqb (ix L i) (ix M i)) = false := g
        have g : Smp.eqb (ix L i) (ix M i) = true := by simpa using g
        refine And.intro (inI64 (by omega) (by omega)) ?_
        exact ⟨i + 1, ⟨hin, fun j hj => by
          rcases Nat.lt_or_ge j i with h' | h'
          · exact h0 j h'
          · rw [show j = i by omega]; exact g⟩, by omega, [], rfl, rfl, ⟨AVle.refl _, AVle.refl _, AVle.refl _, AVle.of_eq (congrArg (AV.int .i64) (by simp)), trivial⟩, trivial⟩
    · have : i = L.length := by have := of_decide_eq_false h2; omega
      subst this
      rw [eqS_yes hl h0]
      exact And.intro trivial (AVle.refl _)
  · rw [eqS_len hl]
    refine VFn.introC Tryz.call115 Tryz.func115 rfl rfl ?_
    refine Grd.intro (fun g => ?_) (fun g => ?_)
    · exact And.intro trivial (AVle.refl _)
    · exfalso; simp [hl] at g
theorem EqualBk2_fn (L M : List Bk) (hL : L.length ≤ 1048576) (hM : M.length ≤ 1048576) : VFn Tryz.prog 116 [bks L, bks M] (.bool (eqS Bk.eqb L M)) := by
  by_cases hl : (L.length : Int) = M.length
  · refine VFn.introC Tryz.call116 Tryz.func116 rfl rfl ?_
    refine Grd.intro (fun g => ?_) (fun _ => ?_)
    · exfalso; simp [hl] at g
    refine LoopC.mk (fun i : Nat => i ≤ L.length ∧ ∀ j, j < i → Bk.eqb (ix L j) (ix M j) = true) (fun i => [(0, bks L), (1, bks M), (12, .int .i64 L.length), (13, .int .i64 i)]) (fun i => []) 0 (fun i => L.length - i) 0
      ⟨⟨Nat.zero_le _, fun j hj => absurd hj (Nat.not_lt_zero j)⟩, [], rfl, rfl, ⟨AVle.refl _, AVle.refl _, AVle.refl _, AVle.refl _, trivial⟩, trivial⟩ ?_
    intro i hi
    obtain ⟨hi, h0⟩ := hi
    refine Grd.intro (fun h2 => ?_) (fun h2 => ?_)
    · have hin : i < L.length := by have := of_decide_eq_true h2; omega
      refine DrawC.mk 8 rfl (by kernel_rfl) ?_
      refine And.intro (by omega) ?_
      refine And.intro (by omega) ?_
      refine And.intro (by kernel_rfl) ?_
      refine Grd.intro (fun g => ?_) (fun g => ?_)
      · have g : (!Bk.eqb (ix L i) (ix M i)) = true := g
        rw [eqS_no hin (by simpa using g)]
        exact And.intro trivial (AVle.refl _)
      · have g : (!Bk.eqb (ix L i) (ix M i)) = false := g
        have g : Bk.eqb (ix L i) (ix M i) = true := by simpa using g
        refine And.intro (inI64 (by omega) (by omega)) ?_
        exact ⟨i + 1, ⟨hin, fun j hj => by
          rcases Nat.lt_or_ge j i with h' | h'
          · exact h0 j h'
          · rw [show j = i by omega]; exact g⟩, by omega, [], rfl, rfl, ⟨AVle.refl _, AVle.refl _, AVle.refl _, AVle.of_eq (congrArg (AV.int .i64) (by simp)), trivial⟩, trivial⟩
    · have : i = L.length := by have := of_decide_eq_false h2; omega
      subst this
      rw [eqS_yes hl h0]
      exact And.intro trivial (AVle.refl _)
  · rw [eqS_len hl]
    refine VFn.introC Tryz.call116 Tryz.func116 rfl rfl ?_
    refine Grd.intro (fun g => ?_) (fun g => ?_)
    · exact And.intro trivial (AVle.refl _)
    · exfalso; simp [hl] at g
end Go.Proofs.YtfaffgneccjpbaaGreatDoor
set_option linter.unusedVariables false
set_option linter.constructorNameAsVariable false
set_option linter.unusedSimpArgs false
set_option maxRecDepth 20000
namespace Go.Proofs.YtfaffgneccjpbaaGreatDoor
open Go Go.Vw

def bkt (f : Int) (a : Ag) : List Bk := if a.c = 0 then [] else [⟨f, a⟩]
theorem bucketOf_fn (f : Int) (a : Ag) : VFn Tryz.prog 117 [.int .i64 f, a.av] (bks (bkt f a)) := by
  obtain ⟨R, hR⟩ : ∃ R, R = bkt f a := ⟨_, rfl⟩
  rw [← hR]
  refine VFn.introC Tryz.call117 Tryz.func117 rfl rfl ?_
  refine Grd.intro (fun g => ?_) (fun g => ?_)
  · rw [bkt, if_pos (show a.c = 0 from of_decide_eq_true g)] at hR
    subst hR
    exact And.intro trivial (AVle.nilsl _ _ rfl)
  · rw [bkt, if_neg (show ¬ a.c = 0 from of_decide_eq_false g)] at hR
    subst hR
    exact And.intro trivial (AVle.sl1 rfl)
def sdat (s : Sto) (k : List UInt8) : List UInt8 := if s.has k = true then (s.get k).data else []
def truE (s : Sto) (e : En) (ac : List Smp) : Bool :=
  s.has e.key && (if e.tier = 0 then (rdOk (sdat s e.key) && eqS Smp.eqb (rdV (sdat s e.key)) (smpsIn ac e.f e.t)) else (rbOk (sdat s e.key) && eqS Bk.eqb (rbV (sdat s e.key)) (bkt e.f (aggL (smpsIn ac e.f e.t)))))
theorem sdat_len {s : Sto} (hs : s.ok = true) (k : List UInt8) : (sdat s k).length ≤ 600 := by
  unfold sdat
  split
  · rename_i h
    have hp := (hasK_at h).1
    have h3 := (Sto.ok_at hs).2.2 _ hp
    simp only [Sto.eOK, Bool.and_eq_true, decide_eq_true_eq] at h3
    exact h3.2.2.1
  · simp
theorem getD_fn (s : Sto) (hs : s.ok = true) (k : List UInt8) : VFn Tryz.prog 110 [s.av, .str (B k)] (.tup [.str (B (sdat s k)), .bool (s.has k)]) := by
  have c := get_fn s hs k
  unfold sdat
  cases h : s.has k
  · rw [h, if_neg (by simp)] at c
    rw [if_neg (by simp)]
    exact c
  · rw [h, if_pos rfl] at c
    rw [if_pos rfl]
    exact c
theorem bkt_len (f : Int) (a : Ag) : (bkt f a).length ≤ 1 := by
  unfold bkt; split <;> simp
theorem entryTrue_fn (s : Sto) (hs : s.ok = true) (e : En) (he : inI .i64 (e.t - 1)) (ac : List Smp) (hac : smpsOK ac = true) : VFn Tryz.prog 66 [s.av, e.av, smps ac] (.bool (truE s e ac)) := by
  obtain ⟨a1, a2⟩ := smps_bd hac
  have hl := smpsIn_len ac e.f e.t
  have c1 := getD_fn s hs e.key
  have hD := sdat_len hs e.key
  have c2 := samplesIn_fn ac (by omega) e.f e.t he
  have c3 := aggOf_fn (smpsIn ac e.f e.t) (by omega) (fun x hx => a2 x (smpsIn_mem hx))
  have c4 := bucketOf_fn e.f (aggL (smpsIn ac e.f e.t))
  have hb := bkt_len e.f (aggL (smpsIn ac e.f e.t))
  unfold truE
  generalize sdat s e.key = D at c1 hD ⊢
  generalize s.has e.key = h at c1 ⊢
  generalize smpsIn ac e.f e.t = W at c2 c3 c4 hl hb ⊢
  generalize aggL W = A at c3 c4 hb ⊢
  generalize bkt e.f A = K at c4 hb ⊢
  by_cases ht : e.tier = 0
  · rw [if_pos ht]
    cases hr : rdOk D
    · have cr := readSamples_gen D (by omega) (.tup [.any, .bool false]) (fun h => by rw [hr] at h; cases h) (fun _ => rfl)
      cases h
      all_goals
        refine VFn.introC Tryz.call66 Tryz.func66 rfl rfl ?_
        conv => whnf
        refine CallC.sca _ (c1) ?_ ?_
        · exact rfl
        conv => whnf
        refine CallC.nl _ (c2) ?_ ?_
        · exact rfl
        refine Grd.intro (fun g => ?_) (fun g => absurd ht (of_decide_eq_false g))
        conv => whnf
        refine CallC.nl _ (cr) ?_ ?_
        · exact rfl
        exact And.intro trivial (AVle.refl _)
    · have cr := readSamples_gen D (by omega) (.tup [smps (rdV D), .bool true]) (fun _ => rfl) (fun h => by rw [hr] at h; cases h)
      have hrl : (rdV D).length ≤ 1048576 := by
        simp only [rdOk, Bool.and_eq_true, decide_eq_true_eq] at hr
        unfold rdV; rw [List.length_map]; omega
      have c5 := EqualSmp2_fn (rdV D) W hrl (by omega)
      cases h
      · refine VFn.introC Tryz.call66 Tryz.func66 rfl rfl ?_
        conv => whnf
        refine CallC.sca _ (c1) ?_ ?_
        · exact rfl
        conv => whnf
        refine CallC.nl _ (c2) ?_ ?_
        · exact rfl
        refine Grd.intro (fun g => ?_) (fun g => absurd ht (of_decide_eq_false g))
        conv => whnf
        refine CallC.nl _ (cr) ?_ ?_
        · exact rfl
        exact And.intro trivial (AVle.refl _)
      · refine VFn.introC Tryz.call66 Tryz.func66 rfl rfl ?_
        conv => whnf
        refine CallC.sca _ (c1) ?_ ?_
        · exact rfl
        conv => whnf
        refine CallC.nl _ (c2) ?_ ?_
        · exact rfl
        refine Grd.intro (fun g => ?_) (fun g => absurd ht (of_decide_eq_false g))
        conv => whnf
        refine CallC.nl _ (cr) ?_ ?_
        · exact rfl
        conv => whnf
        refine CallC.sca _ (c5) ?_ ?_
        · exact rfl
        exact And.intro trivial (AVle.refl _)
  · rw [if_neg ht]
    cases hr : rbOk D
    · have cr := readBuckets_gen D (by omega) (.tup [.any, .bool false]) (fun h => by rw [hr] at h; cases h) (fun _ => rfl)
      cases h
      all_goals
        refine VFn.introC Tryz.call66 Tryz.func66 rfl rfl ?_
        conv => whnf
        refine CallC.sca _ (c1) ?_ ?_
        · exact rfl
        conv => whnf
        refine CallC.nl _ (c2) ?_ ?_
        · exact rfl
        refine Grd.intro (fun g => absurd (of_decide_eq_true g) ht) (fun g => ?_)
        conv => whnf
        refine CallC.nl _ (cr) ?_ ?_
        · exact rfl
        refine DrawC.mk 14 rfl (by kernel_rfl) ?_
        exact And.intro trivial (AVle.refl _)
    · have cr := readBuckets_gen D (by omega) (.tup [bks (rbV D), .bool true]) (fun _ => rfl) (fun h => by rw [hr] at h; cases h)
      have hrl : (rbV D).length ≤ 1048576 := by
        simp only [rbOk, Bool.and_eq_true] at hr
        have := bks_8 hr.2
        unfold rbV; omega
      have c5 := EqualBk2_fn (rbV D) K hrl (by omega)
      cases h
      · refine VFn.introC Tryz.call66 Tryz.func66 rfl rfl ?_
        conv => whnf
        refine CallC.sca _ (c1) ?_ ?_
        · exact rfl
        conv => whnf
        refine CallC.nl _ (c2) ?_ ?_
        · exact rfl
        refine Grd.intro (fun g => absurd (of_decide_eq_true g) ht) (fun g => ?_)
        conv => whnf
        refine CallC.nl _ (cr) ?_ ?_
        · exact rfl
        refine DrawC.mk 14 rfl (by kernel_rfl) ?_
        exact And.intro trivial (AVle.refl _)
      · refine VFn.introC Tryz.call66 Tryz.func66 rfl rfl ?_
        conv => whnf
        refine CallC.sca _ (c1) ?_ ?_
        · exact rfl
        conv => whnf
        refine CallC.nl _ (c2) ?_ ?_
        · exact rfl
        refine Grd.intro (fun g => absurd (of_decide_eq_true g) ht) (fun g => ?_)
        conv => whnf
        refine CallC.nl _ (cr) ?_ ?_
        · exact rfl
        refine DrawC.mk 14 rfl (by kernel_rfl) ?_
        refine PCallC.sca _ (c3) rfl ?_
        refine PCallC.nl _ (c4) rfl ?_
        refine PCallC.sca _ (c5) rfl ?_
        exact And.intro trivial (AVle.refl _)
end Go.Proofs.YtfaffgneccjpbaaGreatDoor
set_option linter.unusedVariables false
set_option linter.constructorNameAsVariable false
set_option linter.unusedSimpArgs false
set_option maxRecDepth 20000
namespace Go.Proofs.YtfaffgneccjpbaaGreatDoor
open Go Go.Vw

end Go.Proofs.YtfaffgneccjpbaaGreatDoor
set_option linter.unusedVariables false
set_option linter.constructorNameAsVariable false
set_option linter.unusedSimpArgs false
set_option maxRecDepth 20000
namespace Go.Proofs.YtfaffgneccjpbaaGreatDoor
open Go Go.Vw

theorem En.ok_b {e : En} (h : e.ok = true) : inI .i64 (e.t - 1) ∧ (-1000000000 ≤ e.f ∧ e.f ≤ 1000000000) := by
  simp [En.ok, isRange, within] at h
  exact ⟨inI64 (by omega) (by omega), by omega, by omega⟩
def truR (s : Sto) (e : En) (ac : List Smp) : AV := if 4096 < ac.length then .tup [.bool false, .int .i64 2] else if (s.ok && (e.ok && smpsOK ac)) = true then .tup [.bool (truE s e ac), .int .i64 0] else .tup [.bool false, .int .i64 1]
theorem smpsOK_no {L : List Smp} (h : 4096 < L.length) : smpsOK L = false := by
  unfold smpsOK; rw [decide_eq_false (by omega)]; rfl
theorem EntryTrue_fn (s : Sto) (hL : s.os.length ≤ 1000000000) (hk : ∀ o ∈ s.os, o.key.length ≤ 1000000000) (e : En) (ac : List Smp) : VFn Tryz.prog 28 [s.av, e.av, smps ac] (truR s e ac) := by
  have c1 := isLongSmp_fn ac
  have c2 := StoreOK_fn s hL hk
  have c3 := entryOK_fn e
  have c4 := SamplesOK_fn ac
  unfold truR
  by_cases hl : 4096 < ac.length
  · rw [if_pos hl]
    rw [decide_eq_true hl] at c1
    rw [smpsOK_no hl] at c4
    generalize s.ok = b2 at c2
    generalize e.ok = b3 at c3
    cases b2 <;> cases b3
    all_goals
      refine VFn.introC Tryz.call28 Tryz.func28 rfl rfl ?_
      refine DrawC.mk 22 rfl (by kernel_rfl) ?_
      refine PCallC.sca _ (c1) rfl ?_
      refine PCallC.sca _ (c2) rfl ?_
      try (refine PCallC.sca _ c3 rfl ?_)
      try (refine PCallC.sca _ c4 rfl ?_)
      refine PCallC.sca _ (first2_of _ _ _ _ ⟨rfl, rfl, rfl, rfl, trivial⟩ rfl (show (if true = true then (2 : Int) else if true = true then 1 else 0) = 2 by decide)) rfl ?_
      exact And.intro trivial (AVle.refl _)
  · rw [if_neg hl]
    rw [decide_eq_false hl] at c1
    by_cases hg : (s.ok && (e.ok && smpsOK ac)) = true
    · rw [if_pos hg]
      simp only [Bool.and_eq_true] at hg
      obtain ⟨g2, g3, g4⟩ := hg
      have c5 := entryTrue_fn s g2 e (En.ok_b g3).1 ac g4
      rw [g2] at c2
      rw [g3] at c3
      rw [g4] at c4
      refine VFn.introC Tryz.call28 Tryz.func28 rfl rfl ?_
      refine DrawC.mk 22 rfl (by kernel_rfl) ?_
      refine PCallC.sca _ (c1) rfl ?_
      refine PCallC.sca _ (c2) rfl ?_
      refine PCallC.sca _ (c3) rfl ?_
      refine PCallC.sca _ (c4) rfl ?_
      refine PCallC.sca _ (first2_of _ _ _ _ ⟨rfl, rfl, rfl, rfl, trivial⟩ rfl (show (if false = true then (2 : Int) else if false = true then 1 else 0) = 0 by decide)) rfl ?_
      conv => whnf
      refine CallC.sca _ (c5) ?_ ?_
      · exact rfl
      exact And.intro trivial (AVle.refl _)
    · rw [if_neg hg]
      generalize s.ok = b2 at c2 hg
      generalize e.ok = b3 at c3 hg
      generalize smpsOK ac = b4 at c4 hg
      cases b2 <;> cases b3 <;> cases b4
      all_goals first | (exfalso; exact hg rfl) | skip
      all_goals
        refine VFn.introC Tryz.call28 Tryz.func28 rfl rfl ?_
        refine DrawC.mk 22 rfl (by kernel_rfl) ?_
        refine PCallC.sca _ (c1) rfl ?_
        refine PCallC.sca _ (c2) rfl ?_
        try (refine PCallC.sca _ c3 rfl ?_)
        try (refine PCallC.sca _ c4 rfl ?_)
        refine PCallC.sca _ (first2_of _ _ _ _ ⟨rfl, rfl, rfl, rfl, trivial⟩ rfl (show (if false = true then (2 : Int) else if true = true then 1 else 0) = 1 by decide)) rfl ?_
        exact And.intro trivial (AVle.refl _)
end Go.Proofs.YtfaffgneccjpbaaGreatDoor
set_option linter.unusedVariables false
set_option linter.constructorNameAsVariable false
set_option linter.unusedSimpArgs false
set_option maxRecDepth 20000
namespace Go.Proofs.YtfaffgneccjpbaaGreatDoor
open Go Go.Vw

structure AddL (x y z : Sto) (m : Nat) (E : List En) (t' : Int) (A : Int) (K T : List UInt8) : Prop where
  log : logS z = ⟨((m + 1 : Nat) : Int), 0, E ++ [⟨0, A, t', K⟩], [], 0, 0, 0, t', 0, 0⟩
  fin : logEnd z = m + 1
  has : z.has K = true
  data : (z.get K).data = T
  log1 : logS y = logS x
  no : y.has (manK ((m + 1 : Nat) : Int)) = false
theorem add_log {x : Sto} (hx : x.ok = true) {m : Nat} (hm : m ≤ 200) (f1 : ∀ n : Nat, 1 ≤ n → n ≤ 999999 → x.has (manK (n : Int)) = decide (n ≤ m)) (f2 : logEnd x = m) {E : List En} {A : Int} (f3 : logS x = ⟨(m : Int), 0, E, [], 0, 0, 0, A, 0, 0⟩)
    (hE : ∀ e ∈ E, ∃ k w : Nat, k ≤ m ∧ w ≤ 999999 ∧ e.key = keyB 0 k w) {T : List UInt8} {w : Nat} (hw : w ≤ 9) {t' : Int} (hA : 0 ≤ A) (ht : A < t' ∧ t' ≤ 100000)
    (hy : (x.set (keyB 0 (m + 1) w) T).ok = true) (hz : ((x.set (keyB 0 (m + 1) w) T).set (manK ((m + 1 : Nat) : Int)) (Rc.text ⟨1, 0, 0, A, t', keyB 0 (m + 1) w⟩)).ok = true) :
    AddL x (x.set (keyB 0 (m + 1) w) T) ((x.set (keyB 0 (m + 1) w) T).set (manK ((m + 1 : Nat) : Int)) (Rc.text ⟨1, 0, 0, A, t', keyB 0 (m + 1) w⟩)) m E t' A (keyB 0 (m + 1) w) T := by
  have hrc : Rc.ok ⟨1, 0, 0, A, t', keyB 0 (m + 1) w⟩ = true := rcF_ok hA ht.1 ht.2 (by omega) (by omega) hw
  obtain ⟨K, hK⟩ : ∃ K, K = keyB 0 (m + 1) w := ⟨_, rfl⟩
  have hne : ∀ n : Int, manK n ≠ K := fun n => by rw [hK]; exact man_ne_key n
  rw [← hK] at hy hz hrc ⊢
  have c0 := set_at x K T
  obtain ⟨r, hr⟩ : ∃ r : Rc, r = ⟨1, 0, 0, A, t', K⟩ := ⟨_, rfl⟩
  rw [← hr] at hz hrc ⊢
  have a4 := set_at (x.set K T) (manK ((m + 1 : Nat) : Int)) r.text
  have a1 : ∀ k, k ≠ K → (x.set K T).has k = x.has k ∧ (x.has k = true → (x.set K T).get k = x.get k) := fun k hk => set_ne hx hy hk
  generalize hyy : x.set K T = y at *
  have a2 : ∀ k, k ≠ manK ((m + 1 : Nat) : Int) → (y.set (manK ((m + 1 : Nat) : Int)) r.text).has k = y.has k ∧ (y.has k = true → (y.set (manK ((m + 1 : Nat) : Int)) r.text).get k = y.get k) := fun k hk => set_ne hy hz hk
  generalize hzz : y.set (manK ((m + 1 : Nat) : Int)) r.text = z at *
  have g1 : ∀ n : Nat, 1 ≤ n → n ≤ 999999 → y.has (manK (n : Int)) = decide (n ≤ m) := fun n h1 h2 => (a1 _ (hne _)).1.trans (f1 n h1 h2)
  have gd : ∀ j, j < m → y.has (manK ((j + 1 : Nat) : Int)) = true ∧ (y.get (manK ((j + 1 : Nat) : Int))).data = (x.get (manK ((j + 1 : Nat) : Int))).data := fun j hj => by
    have hh : x.has (manK ((j + 1 : Nat) : Int)) = true := by rw [f1 _ (by omega) (by omega)]; exact decide_eq_true (by omega)
    obtain ⟨c1, c2⟩ := a1 (manK ((j + 1 : Nat) : Int)) (hne _)
    exact ⟨c1.trans hh, by rw [c2 hh]⟩
  have e1 : m = logEnd y := log_end hy (by omega) (fun j hj => (gd j hj).1) (by rw [g1 _ (by omega) (by omega)]; exact decide_eq_false (by omega))
  have hlog1 : logS y = logS x := by
    unfold logS
    rw [← e1, f2]
    exact logN_congr m fun j hj => (gd j hj).2
  have a6 : ∀ n : Nat, 1 ≤ n → n ≤ 999999 → z.has (manK (n : Int)) = decide (n ≤ m + 1) := fun n h1 h2 => by
    by_cases e : n = m + 1
    · subst e
      rw [a4.1, decide_eq_true (by omega)]
    · rw [(a2 _ fun e' => e (manK_inj h2 (by omega) e')).1, g1 n h1 h2]
      by_cases h3 : n ≤ m
      · rw [decide_eq_true h3, decide_eq_true (by omega)]
      · rw [decide_eq_false h3, decide_eq_false (by omega)]
  obtain ⟨q1, q2⟩ := log_grow (x := y) (y := z) hz (n := m) (by omega) (fun j hj => (gd j hj).1) e1.symm
    (fun j hj => by
      obtain ⟨c1, c2⟩ := a2 (manK ((j + 1 : Nat) : Int)) (fun e' => by have := manK_inj (by omega) (by omega) e'; omega)
      exact ⟨c1.trans (gd j hj).1, by rw [c2 (gd j hj).1]⟩)
    a4.1 (by rw [a6 _ (by omega) (by omega)]; exact decide_eq_false (by omega))
  rw [a4.2, hlog1, f3] at q2
  have hKz := a2 K (fun e => hne _ e.symm)
  refine ⟨?_, q1, hKz.1.trans c0.1, by rw [hKz.2 c0.1, c0.2], hlog1, by rw [g1 _ (by omega) (by omega)]; exact decide_eq_false (by omega)⟩
  rw [q2]
  unfold Sta.lay
  simp only
  rw [text_back hrc]
  have hk2 := (keyF_fields (t := 0) (n := m + 1) (w := w) (by omega) (by omega) (by omega)).2.2.1
  have hn : (⟨(m : Int), 0, E, [], 0, 0, 0, A, 0, 0⟩ : Sta).has K = false := by
    cases hh : (⟨(m : Int), 0, E, [], 0, 0, 0, A, 0, 0⟩ : Sta).has K with
    | false => rfl
    | true =>
      have := (has_iff _ _).1 hh
      simp [Sta.keys] at this
      obtain ⟨e, he, h'⟩ := this
      obtain ⟨k, w', k1, k2, k3⟩ := hE e he
      have k4 := (keyF_fields (t := 0) (n := k) (w := w') (by omega) (by omega) (by omega)).2.2.1
      rw [← k3, h', hK, hk2] at k4
      omega
  have htk : (⟨(m : Int), 0, E, [], 0, 0, 0, A, 0, 0⟩ : Sta).takes r = true := by
    rw [hr]
    unfold Sta.takes
    simp only [if_true]
    rw [hn, hK, hk2]
    simp
  show (Sta.app _ r) = _
  unfold Sta.app
  rw [if_pos htk, hr]
  simp [Sta.lift, Sta.tick, Rc.en]
def igL (id : Int) (L : List Smp) : Ig := ⟨id, 0, 0, 0, L, false⟩
theorem igL_ok {id : Int} (hid : 0 ≤ id ∧ id ≤ 9) {L : List Smp} (h : smpsOK L = true) (h8 : L.length ≤ 8) : (igL id L).ok = true := by
  unfold igL Ig.ok igOK
  simp only [h, decide_eq_false (show ¬ (8 : Int) < (L.length : Int) by omega)]
  simp [within]
  exact hid
theorem give_fn (id : Int) (L : List Smp) (hL : L.length ≤ 1000000) : VFn Tryz.prog 63 [(ingR id).av, smps L] (.tup [(igL id L).av, .int .i64 0]) := by
  have c : VFn Tryz.prog 113 [smps L] (smps L) := (CloneSm_own L hL).vfn
  refine VFn.introC Tryz.call63 Tryz.func63 rfl rfl ?_
  refine DrawC.mkK 7 [(.inl 1, 5)] rfl (by kernel_rfl) ?_
  refine And.intro rfl ?_
  refine PCallK.nl _ (c) rfl ?_
  exact And.intro trivial (AVle.refl _)
theorem GiveBatch_fn (id : Int) (hid : 0 ≤ id ∧ id ≤ 9) (L : List Smp) (h : smpsOK L = true) (h1 : 1 ≤ L.length) (h8 : L.length ≤ 8) : VFn Tryz.prog 24 [(ingR id).av, smps L] (.tup [(igL id L).av, .int .i64 0]) := by
  have c1 := isLongSmp_fn L
  have c2 := IngesterOK_fn (ingR id) (by show (0 : Nat) ≤ 1048576; omega)
  rw [ingR_ok hid] at c2
  have c3 := SamplesOK_fn L
  rw [h] at c3
  have c4 := within_fn (L.length : Int) 1 8
  rw [show within (L.length : Int) 1 8 = true by simp [within]; omega] at c4
  have c5 := give_fn id L (by omega)
  have c6 : VFn Tryz.prog 64 [(igL id L).av] (igL id L).av := (copiedI_own (igL id L) (by show L.length ≤ 1000000; omega)).vfn
  rw [decide_eq_false (show ¬ 4096 < L.length by omega)] at c1
  refine VFn.introC Tryz.call24 Tryz.func24 rfl rfl ?_
  refine DrawC.mk 23 rfl (by kernel_rfl) ?_
  refine PCallC.sca _ (c1) rfl ?_
  refine PCallC.sca _ (c2) rfl ?_
  refine PCallC.sca _ (c3) rfl ?_
  refine PCallC.sca _ (c4) rfl ?_
  refine PCallC.sca _ (first3_of false false false 2 1 8 ⟨rfl, rfl, rfl, rfl, rfl, rfl, trivial⟩ rfl (show (if false = true then (2 : Int) else if false = true then 1 else if false = true then 8 else 0) = 0 by decide)) rfl ?_
  conv => whnf
  refine CallC.nl _ (c5) ?_ ?_
  · exact rfl
  conv => whnf
  refine CallC.nl _ (c6) ?_ ?_
  · exact rfl
  exact And.intro trivial (AVle.refl _)
theorem FilledStore_fn (code : List UInt8) (h : code.length ≤ 1048576) : VFn Tryz.prog 6 [byts code] (srcOf code).filled.x.av := by
  have hs := wk (src_ok code h) (show (0 : Int) ≤ 100000 by decide)
  have c := filled_fn (srcOf code) hs
  refine VFn.introC Tryz.call6 Tryz.func6 rfl rfl ?_
  conv => whnf
  refine CallC.k [] (l00Source_fn code h) rfl rfl (AVsle.refl _) trivial rfl ?_
  conv => whnf
  refine CallC.k [(1, 0)] (filled_fn (srcOf code) hs) rfl rfl (AVsle.refl _) ⟨MOle.refl _, trivial⟩ rfl ?_
  exact And.intro trivial (AVle.refl _)
theorem SamplesOf_own0 (code : List UInt8) (hc : code.length ≤ 1048576) (f n : Int) (hf : 0 ≤ f ∧ f ≤ 90000) (hn : 0 ≤ n ∧ n ≤ 1000) : FnM Tryz.prog 23 0 [byts code, .int .i64 f, .int .i64 n] [] (.osl 0) [(0, .arr 73 2 ((srcOf code).samples f n).1.length fun i => (ix ((srcOf code).samples f n).1 i).row)] 1 := by
  refine FnM.introC Tryz.call23 Tryz.func23 rfl rfl ?_
  conv => whnf
  refine CallC.k [] (l00Source_fn code hc) rfl rfl (AVsle.refl _) trivial rfl ?_
  conv => whnf
  refine CallC.k [(0, 0)] (samples_fn (srcOf code) f n (wk (src_ok code hc) (by omega)) (by omega) hn) rfl rfl (AVsle.refl _) ⟨MOle.refl _, trivial⟩ rfl ?_
  exact And.intro trivial ⟨[(1, 0)], rfl, AVle.refl _, ⟨MOle.refl _, trivial⟩⟩
end Go.Proofs.YtfaffgneccjpbaaGreatDoor
set_option linter.unusedVariables false
set_option linter.constructorNameAsVariable false
set_option linter.unusedSimpArgs false
set_option maxRecDepth 20000
namespace Go.Proofs.YtfaffgneccjpbaaGreatDoor
open Go Go.Vw

theorem sameStore6_fn (s : Sto) (hL : s.os.length ≤ 1000000) : VFn Tryz.prog 26 [s.av, s.av] (.bool true) := by
  refine VFn.introC Tryz.call26 Tryz.func26 rfl rfl ?_
  refine Grd.intro (fun h => absurd h (by simp)) (fun _ => ?_)
  refine Grd.intro (fun h => absurd h (by simp)) (fun _ => ?_)
  refine LoopC.mk (fun i : Nat => i ≤ s.os.length) (fun i => [(2, .bptr 0 0), (3, .bptr 1 0), (5, .int .i64 i)]) (fun i => [(0, .box s.row), (1, .box s.row)]) 2 (fun i => s.os.length - i) 0
    ⟨Nat.zero_le _, [(0, 0), (1, 1)], rfl, rfl, ⟨AVle.refl _, AVle.refl _, AVle.refl _, trivial⟩, ⟨MOle.refl _, MOle.refl _, trivial⟩⟩ ?_
  intro i hi
  refine Grd.intro (fun h2 => ?_) (fun h2 => ?_)
  · have hin : i < s.os.length := by have := of_decide_eq_true h2; omega
    refine DrawC.mk 10 rfl (by kernel_rfl) ?_
    refine And.intro (by omega) ?_
    refine And.intro (by omega) ?_
    refine And.intro (by kernel_rfl) ?_
    refine Grd.intro (fun h => absurd h (by simp)) (fun _ => ?_)
    refine And.intro (inI64 (by omega) (by omega)) ?_
    exact ⟨i + 1, hin, by omega, [(0, 0), (1, 1)], rfl, rfl, ⟨AVle.refl _, AVle.refl _, AVle.of_eq (congrArg (AV.int .i64) (by simp)), trivial⟩, ⟨MOle.refl _, MOle.refl _, trivial⟩⟩
  · exact And.intro trivial (AVle.refl _)
theorem eqS_refl {α : Type} [Inhabited α] (f : α → α → Bool) (h : ∀ a, f a a = true) (L : List α) : eqS f L L = true := by
  unfold eqS
  rw [decide_eq_true rfl, Bool.true_and]
  exact allN_iff.2 fun i _ => h _
structure IngB (s : Src) : Prop where
  ok : s.ix2.ok = true
  ok2 : s.ix1.2.ok = true
theorem StoRd_ok {x : Sto} (h : x.ok = true) : StoRd x := by
  obtain ⟨a1, a2, a3, _, _⟩ := (stoOK_iff x).1 h
  refine ⟨by omega, fun o ho => ?_, by omega⟩
  have := (a3 o ho).1
  unfold keyOK at this
  simp only [Bool.and_eq_true, within, decide_eq_true_eq] at this
  omega
theorem NewIngester_fn (id : Int) (h : 0 ≤ id ∧ id ≤ 9) : VFn Tryz.prog 22 [.int .i64 id] (.tup [(ingR id).av, .int .i64 0]) := by
  have c := isId0 id
  rw [show within id 0 9 = true by simp [within]; omega] at c
  refine VFn.introC Tryz.call22 Tryz.func22 rfl rfl ?_
  conv => whnf
  refine CallC.sca _ (c) ?_ ?_
  · exact rfl
  refine And.intro trivial (AVle.tup (AVsle.cons (AVle.agg (AVsle.cons (AVle.refl _) (AVsle.cons (AVle.refl _) (AVsle.cons (AVle.refl _) (AVsle.cons (AVle.refl _) (AVsle.cons (AVle.nilsl _ _ rfl) (AVsle.refl _))))))) (AVsle.refl _)))
end Go.Proofs.YtfaffgneccjpbaaGreatDoor
set_option linter.unusedVariables false
set_option linter.constructorNameAsVariable false
set_option linter.unusedSimpArgs false
set_option maxRecDepth 20000
namespace Go.Proofs.YtfaffgneccjpbaaGreatDoor
open Go Go.Vw

structure IngF (x y z : Sto) (m : Nat) (E : List En) (A : Int) (LL : List Smp) (e : En) : Prop where
  h : smpsOK LL = true ∧ LL.length ≤ 8 ∧ 1 ≤ LL.length
  s1 : stI x (igL 7 LL) = (y, ⟨7, ((m + 1 : Nat) : Int), A, A + 61, LL, true⟩, false, 0)
  iok : (⟨7, ((m + 1 : Nat) : Int), A, A + 61, LL, true⟩ : Ig).ok = true
  yok : y.ok = true
  s2 : stI y ⟨7, ((m + 1 : Nat) : Int), A, A + 61, LL, true⟩ = (z, ingR 7, true, 0)
  zok : z.ok = true
  log : logS z = ⟨((m + 1 : Nat) : Int), 0, E ++ [e], [], 0, 0, 0, A + 61, 0, 0⟩
  ef : e.f = A
  tru : truR z e LL = .tup [.bool true, .int .i64 0]
theorem smps_snoc {L : List Smp} {f : Int} (h : smpsOK L = true) (h6 : L.length ≤ 6) (hf : 0 ≤ f ∧ f ≤ 90000) (ht : ∀ e ∈ L, e.t < f) : smpsOK (L ++ [⟨f, 1⟩]) = true := by
  unfold smpsOK at h ⊢
  rw [Bool.and_eq_true] at h
  have h2 := allN_iff.1 h.2
  rw [decide_eq_true (by simp; omega), Bool.true_and]
  refine allN_iff.2 fun i hi => ?_
  rw [List.length_append] at hi
  rcases Nat.lt_or_ge i L.length with h1 | h1
  · have := h2 i h1
    unfold smpAt at this ⊢
    rw [ix_app_l h1, ix_app_l (show i - 1 < L.length by omega)]
    exact this
  · have hi' : i = L.length := by simp at hi; omega
    subst hi'
    unfold smpAt
    rw [ix_app_r (Nat.le_refl _), Nat.sub_self]
    have e0 : ix [(⟨f, 1⟩ : Smp)] 0 = ⟨f, 1⟩ := rfl
    rw [e0]
    rcases Nat.eq_zero_or_pos L.length with h0 | h0
    · simp [within, h0]; omega
    · rw [ix_app_l (show L.length - 1 < L.length by omega)]
      have := ht _ (getD_mem (show L.length - 1 < L.length by omega))
      simp [within]
      exact ⟨by omega, .inr this⟩
theorem ing_f {s : Src} {m : Nat} {E : List En} (F : FF s m E) {S : List Smp} (hS : smpsOK S = true ∧ S.length ≤ 6 ∧ ∀ e ∈ S, s.filled.at_ ≤ e.t ∧ e.t < s.filled.at_ + 24) :
    ∃ y z e, IngF s.filled.x y z m E s.filled.at_ (S ++ [⟨s.filled.at_ + 60, 1⟩]) e := by
  obtain ⟨h1, h2, h3⟩ := hS
  have hA := F.at_
  have hm := F.rng
  have hlen := F.len
  have hnx := F.nxt
  have hx := F.ok
  have hlog := F.log
  have hE : ∀ e ∈ E, ∃ k w : Nat, k ≤ m ∧ w ≤ 999999 ∧ e.key = keyB 0 k w := fun e he => by
    obtain ⟨j, hj, e1⟩ := List.getElem_of_mem he
    obtain ⟨w', q1, q2⟩ := F.es.key j hj
    rw [ix_lt hj, e1] at q2
    exact ⟨j + 1, w', by have := F.el; omega, by omega, q2⟩
  have hLL : smpsOK (S ++ [⟨s.filled.at_ + 60, 1⟩]) = true := smps_snoc h1 h2 (by omega) (fun e he => by have := h3 e he; omega)
  have hl : (S ++ [(⟨s.filled.at_ + 60, 1⟩ : Smp)]).length = S.length + 1 := by simp
  have hlast : ix (S ++ [(⟨s.filled.at_ + 60, 1⟩ : Smp)]) ((S ++ [(⟨s.filled.at_ + 60, 1⟩ : Smp)]).length - 1) = ⟨s.filled.at_ + 60, 1⟩ := by
    rw [hl, Nat.add_sub_cancel, ix_app_r (Nat.le_refl _), Nat.sub_self]; rfl
  have hrng : ∀ e ∈ S ++ [(⟨s.filled.at_ + 60, 1⟩ : Smp)], s.filled.at_ ≤ e.t ∧ e.t ≤ s.filled.at_ + 60 := fun e he => by
    rcases List.mem_append.1 he with he | he
    · have := h3 e he; omega
    · simp at he; subst he; exact ⟨by show s.filled.at_ ≤ s.filled.at_ + 60; omega, by show s.filled.at_ + 60 ≤ s.filled.at_ + 60; omega⟩
  have fin := F.fin
  have hman := F.has
  generalize s.filled.x = x at *
  generalize s.filled.at_ = A at *
  generalize S ++ [(⟨A + 60, 1⟩ : Smp)] = LL at *
  have hnum := smpsOK_num hLL
  have htl := smpsText_len hnum
  have hfirst := hrng _ (getD_mem (show 0 < LL.length by omega))
  have hfirst : A ≤ (ix LL 0).t ∧ (ix LL 0).t ≤ A + 60 := hfirst
  have hseq : (logS x).seq = (m : Int) := by rw [hlog]
  have hh0 : (logS x).h0 = A := by rw [hlog]
  obtain ⟨r1, r2, r3, r4, r5⟩ := put_ok hx (keyF_ok (t := 0) (n := m + 1) (w := 7) (by omega)) (d := smpsText LL) (by omega) (by omega) (by omega)
  rw [r2] at r3 r4 r5
  have hrc : Rc.ok ⟨1, 0, 0, A, A + 61, keyB 0 (m + 1) 7⟩ = true := rcF_ok (by omega) (by omega) (by omega) (by omega) (by omega) (by omega)
  obtain ⟨p1, p2, p3, p4, p5⟩ := put_ok r3 (manK_keyOK ((m + 1 : Nat) : Int)) (d := Rc.text ⟨1, 0, 0, A, A + 61, keyB 0 (m + 1) 7⟩) (by have := Rc.txt_len hrc; omega) (by omega) (by omega)
  rw [p2] at p3
  have ad := add_log hx (by omega) hman fin hlog hE (w := 7) (by omega) (by omega) (t' := A + 61) ⟨by omega, by omega⟩ r3 p3
  have hig : (igL 7 LL).ok = true := igL_ok (by omega) hLL (by omega)
  have hK : ingK x (igL 7 LL) = keyB 0 (m + 1) 7 := by
    unfold ingK igL
    rw [hseq, show ((m : Int) + 1).toNat = m + 1 by omega]; rfl
  have hP : ingPut x (igL 7 LL) = ⟨7, ((m + 1 : Nat) : Int), A, A + 61, LL, true⟩ := by
    unfold ingPut igL
    simp only
    rw [hseq, hh0, hlast]
    simp
    omega
  have e1 : stI x (igL 7 LL) = (x.set (keyB 0 (m + 1) 7) (smpsText LL), ⟨7, ((m + 1 : Nat) : Int), A, A + 61, LL, true⟩, false, 0) := by
    have c1 : ¬ (igL 7 LL).b.length = 0 := by show ¬ LL.length = 0; omega
    have c2 : ¬ (igL 7 LL).put = true := by simp [igL]
    have c3 : ¬ (ix (igL 7 LL).b 0).t < (logS x).h0 := by rw [hh0]; show ¬ (ix LL 0).t < A; omega
    have c4 : ¬ (logS x).seq = 999999 := by rw [hseq]; omega
    have c5 : x.room (keyB 0 (m + 1) 7) (smpsText (igL 7 LL).b) = 0 := r1
    unfold stI
    rw [if_neg c1, if_neg c2, if_neg c3, if_neg c4, hK, if_pos c5, hP]
    rfl
  have iok := stI_ig hx hig
  rw [e1] at iok
  have e2 : stI (x.set (keyB 0 (m + 1) 7) (smpsText LL)) ⟨7, ((m + 1 : Nat) : Int), A, A + 61, LL, true⟩ = ((x.set (keyB 0 (m + 1) 7) (smpsText LL)).set (manK ((m + 1 : Nat) : Int)) (Rc.text ⟨1, 0, 0, A, A + 61, keyB 0 (m + 1) 7⟩), ingR 7, true, 0) := by
    have hr : ingRec ⟨7, ((m + 1 : Nat) : Int), A, A + 61, LL, true⟩ = ⟨1, 0, 0, A, A + 61, keyB 0 (m + 1) 7⟩ := rfl
    have ha : appS (x.set (keyB 0 (m + 1) 7) (smpsText LL)) ((m + 1 : Nat) : Int) ⟨1, 0, 0, A, A + 61, keyB 0 (m + 1) 7⟩ = ((x.set (keyB 0 (m + 1) 7) (smpsText LL)).set (manK ((m + 1 : Nat) : Int)) (Rc.text ⟨1, 0, 0, A, A + 61, keyB 0 (m + 1) 7⟩), 0) := by
      unfold appS Sto.putA
      rw [if_neg (by rw [ad.no]; simp), p2, p1]
    have c1 : ¬ LL.length = 0 := by omega
    unfold stI
    simp only [hr, ha]
    rw [if_neg c1]
    simp
  refine ⟨_, _, ⟨0, A, A + 61, keyB 0 (m + 1) 7⟩, ⟨hLL, by omega, by omega⟩, e1, iok, r3, e2, p3, ad.log, rfl, ?_⟩
  have hsd : sdat ((x.set (keyB 0 (m + 1) 7) (smpsText LL)).set (manK ((m + 1 : Nat) : Int)) (Rc.text ⟨1, 0, 0, A, A + 61, keyB 0 (m + 1) 7⟩)) (keyB 0 (m + 1) 7) = smpsText LL := by
    unfold sdat
    rw [if_pos ad.has]
    exact ad.data
  have hin : smpsIn LL A (A + 61) = LL := by
    unfold smpsIn
    refine List.filter_eq_self.2 fun e he => ?_
    have := hrng e he
    simp [within]; omega
  obtain ⟨k1, k2, k3, k4⟩ := keyF_fields (t := 0) (n := m + 1) (w := 7) (by omega) (by omega) (by omega)
  have heok : (⟨0, A, A + 61, keyB 0 (m + 1) 7⟩ : En).ok = true := by
    unfold En.ok
    simp [k1, k2, isRange, within]
    omega
  unfold truR
  rw [if_neg (by omega), p3, heok, hLL, if_pos (by rfl)]
  unfold truE
  simp only [ad.has, if_true, hsd, hin]
  rw [rdOk_text hnum hLL (by omega), rdV_text hnum, eqS_refl Smp.eqb (fun a => by unfold Smp.eqb; simp)]
  rfl
theorem lawIngest (code more : List UInt8) (h1 : code.length ≤ 9223372036854775807) (h2 : more.length ≤ 9223372036854775807) : VFn Tryz.prog 5 [byts code, byts more] (.bool true) := by
  by_cases hL1 : 1048576 < code.length
  · refine VFn.introC Tryz.call5 Tryz.func5 rfl rfl ?_
    refine Grd.intro (fun _ => ?_) (fun h => absurd (of_decide_eq_false h) (by omega))
    exact And.intro trivial (AVle.refl _)
  by_cases hL2 : 1048576 < more.length
  · refine VFn.introC Tryz.call5 Tryz.func5 rfl rfl ?_
    refine Grd.intro (fun h => absurd (of_decide_eq_true h) (by omega)) (fun _ => ?_)
    refine Grd.intro (fun _ => ?_) (fun h => absurd (of_decide_eq_false h) (by omega))
    exact And.intro trivial (AVle.refl _)
  obtain ⟨m, E, F⟩ := filled_facts (wk (src_ok code (by omega)) (show (0 : Int) ≤ 100000 by decide))
  have cF := FilledStore_fn code (by omega)
  have hA := F.at_
  have hm := F.rng
  have cS := SamplesOf_own0 more (by omega) (srcOf code).filled.at_ 6 (by omega) (by omega)
  have hS0 := samples_b (srcOf more) (srcOf code).filled.at_ 6 (wk (src_ok more (by omega)) (show (0 : Int) ≤ 90000 by decide)) (by omega) (by omega) (by omega) (by omega)
  have hS := hS0.1
  obtain ⟨S, hSe⟩ : ∃ S, S = ((srcOf more).samples (srcOf code).filled.at_ 6).1 := ⟨_, rfl⟩
  have hS6 : smpsOK S = true ∧ S.length ≤ 6 ∧ ∀ e ∈ S, (srcOf code).filled.at_ ≤ e.t ∧ e.t < (srcOf code).filled.at_ + 24 := by
    rw [hSe]
    exact ⟨hS.ok, hS.len, fun e he => by have := hS.tm e he; exact ⟨this.1, by omega⟩⟩
  have cS' : FnM Tryz.prog 23 0 [byts more, .int .i64 (srcOf code).filled.at_, .int .i64 6] [] (.osl 0) [(0, .arr 73 2 S.length fun i => (ix S i).row)] 1 := by rw [hSe]; exact cS
  obtain ⟨y, z, e, I⟩ := ing_f F hS6
  have hlog := F.log
  have hok := F.ok
  have hel := F.el
  have hlen := F.len
  clear cS hS0 hS hSe
  generalize (srcOf code).filled.x = x at *
  generalize (srcOf code).filled.at_ = A at *
  obtain ⟨LL, hLL⟩ : ∃ LL, LL = S ++ [(⟨A + 60, 1⟩ : Smp)] := ⟨_, rfl⟩
  rw [← hLL] at I
  have hr := StoRd_ok hok
  have hry := StoRd_ok I.yok
  have hrz := StoRd_ok I.zok
  have r1 : VFn Tryz.prog 7 [x.av] (.tup [(logS x).av, .int .i64 0]) := (ReplayLog_own x hr hok).vfn
  have r2 : VFn Tryz.prog 7 [z.av] (.tup [(logS z).av, .int .i64 0]) := (ReplayLog_own z hrz I.zok).vfn
  rw [hlog] at r1
  rw [I.log] at r2
  obtain ⟨EE, hEE⟩ : ∃ EE, EE = E ++ [e] := ⟨_, rfl⟩
  rw [← hEE] at r2
  have hEl : EE.length = m + 1 := by rw [hEE, List.length_append, hel]; rfl
  have hix : ix EE ((EE.length : Int) - 1).toNat = e := by
    rw [hEl, show (((m + 1 : Nat) : Int) - 1).toNat = m by omega, hEE, ix_app_r (by omega), hel, Nat.sub_self]; rfl
  have cN := NewIngester_fn 7 (by omega)
  have cG := GiveBatch_fn 7 (by omega) LL I.h.1 I.h.2.2 I.h.2.1
  have hl1 : smpsOK [(⟨A - 1, 2⟩ : Smp)] = true := by
    unfold smpsOK
    rw [decide_eq_true (by simp), Bool.true_and]
    refine allN_iff.2 fun i hi => ?_
    have : i = 0 := by simp at hi; omega
    subst this
    unfold smpAt
    have e0 : ix [(⟨A - 1, 2⟩ : Smp)] 0 = ⟨A - 1, 2⟩ := rfl
    rw [e0]
    simp [within]; omega
  have cG2 := GiveBatch_fn 7 (by omega) [(⟨A - 1, 2⟩ : Smp)] hl1 (by simp) (by simp)
  have g1 : (igL 7 LL).ok = true := igL_ok (by omega) I.h.1 I.h.2.1
  have g2 : (igL 7 [(⟨A - 1, 2⟩ : Smp)]).ok = true := igL_ok (by omega) hl1 (by simp)
  have l8 := I.h.2.1
  have s1 : VFn Tryz.prog 25 [x.av, (igL 7 LL).av] (.tup [y.av, (⟨7, ((m + 1 : Nat) : Int), A, A + 61, LL, true⟩ : Ig).av, .bool false, .int .i64 0]) := (StepIngester_own x hr _ (by show LL.length ≤ 1048576; omega) hok g1 _ _ _ _ I.s1).vfn
  have s2 : VFn Tryz.prog 25 [y.av, (⟨7, ((m + 1 : Nat) : Int), A, A + 61, LL, true⟩ : Ig).av] (.tup [z.av, (ingR 7).av, .bool true, .int .i64 0]) := (StepIngester_own y hry _ (by show LL.length ≤ 1048576; omega) I.yok I.iok _ _ _ _ I.s2).vfn
  have e3 : stI x (igL 7 [(⟨A - 1, 2⟩ : Smp)]) = (x, ingR 7, false, 14) := by
    have c1 : ¬ (igL 7 [(⟨A - 1, 2⟩ : Smp)]).b.length = 0 := by simp [igL]
    have c2 : ¬ (igL 7 [(⟨A - 1, 2⟩ : Smp)]).put = true := by simp [igL]
    have c3 : (ix (igL 7 [(⟨A - 1, 2⟩ : Smp)]).b 0).t < (logS x).h0 := by rw [hlog]; show A - 1 < A; omega
    unfold stI
    rw [if_neg c1, if_neg c2, if_pos c3]
    rfl
  have s3 : VFn Tryz.prog 25 [x.av, (igL 7 [(⟨A - 1, 2⟩ : Smp)]).av] (.tup [x.av, (ingR 7).av, .bool false, .int .i64 14]) := (StepIngester_own x hr _ (by simp [igL]) hok g2 _ _ _ _ e3).vfn
  have e4 : stI z (ingR 7) = (z, ingR 7, false, 18) := by
    unfold stI
    rw [if_pos (by rfl)]
  have s4 : VFn Tryz.prog 25 [z.av, (ingR 7).av] (.tup [z.av, (ingR 7).av, .bool false, .int .i64 18]) := (StepIngester_own z hrz _ (by simp [ingR]) I.zok (ingR_ok (by omega)) _ _ _ _ e4).vfn
  have q1 := sameStore6_fn x (by omega)
  have q2 := IngesterOK_fn ⟨7, ((m + 1 : Nat) : Int), A, A + 61, LL, true⟩ (by show LL.length ≤ 1048576; omega)
  rw [I.iok] at q2
  have q3 := EntryTrue_fn z (by have := hrz.len; omega) hrz.key e LL
  rw [I.tru] at q3
  have hef : (ix EE ((EE.length : Int) - 1).toNat).f = A := by rw [hix]; exact I.ef
  have hLl : LL.length = S.length + 1 := by rw [hLL]; simp
  have cG' : ∀ (n : Nat) (rows : Nat → List AV), n = S.length + 1 → (∀ i, i < n → rows i = (ix LL i).row) → VFn Tryz.prog 24 [(ingR 7).av, .sl 2 n rows] (.tup [(igL 7 LL).av, .int .i64 0]) := fun n rows hn hr =>
    cG.weak (AVsle.cons (AVle.refl _) (AVsle.cons (AVle.sl (hn.trans hLl.symm) hr) AVsle.nil)) (AVle.refl _)
  have q3' : ∀ (n : Nat) (rows : Nat → List AV), n = S.length + 1 → (∀ i, i < n → rows i = (ix LL i).row) → VFn Tryz.prog 28 [z.av, (ix EE ((EE.length : Int) - 1).toNat).av, .sl 2 n rows] (.tup [.bool true, .int .i64 0]) := fun n rows hn hr => by
    rw [hix]
    exact q3.weak (AVsle.cons (AVle.refl _) (AVsle.cons (AVle.refl _) (AVsle.cons (AVle.sl (hn.trans hLl.symm) hr) AVsle.nil))) (AVle.refl _)
  have cG2' : ∀ (n : Nat) (rows : Nat → List AV), n = 1 → rows 0 = [.int .i64 (A - 1), .int .i64 2] → VFn Tryz.prog 24 [(ingR 7).av, .sl 2 n rows] (.tup [(igL 7 [(⟨A - 1, 2⟩ : Smp)]).av, .int .i64 0]) := fun n rows hn hr =>
    cG2.weak (AVsle.cons (AVle.refl _) (AVsle.cons (AVle.sl hn (fun i hi => by
      have : i = 0 := by omega
      subst this; exact hr)) AVsle.nil)) (AVle.refl _)
  have hrows : ∀ r2 : Nat → List AV, r2 0 = [.int .i64 (A + 60), .int .i64 1] → ∀ i, i < S.length + 1 → appRows S.length (fun i => (ix S i).row) r2 i = (ix LL i).row := fun r2 h2 i hi => by
    rw [hLL]
    exact app_rowsL (f := Smp.row) (K := [⟨A + 60, 1⟩]) (fun j hj => by
      have : j = 0 := by simp at hj; omega
      subst this; exact h2) hi
  clear e3 e4 g1 g2 hl1 hr hry hrz I hok hlog F hS6
  refine VFn.introC Tryz.call5 Tryz.func5 rfl rfl ?_
  refine Grd.intro (fun h => absurd (of_decide_eq_true h) (by omega)) (fun _ => ?_)
  refine Grd.intro (fun h => absurd (of_decide_eq_true h) (by omega)) (fun _ => ?_)
  conv => whnf
  refine CallC.nl _ (cF) ?_ ?_
  · exact rfl
  conv => whnf
  refine CallC.nl _ (r1) ?_ ?_
  · exact rfl
  conv => whnf
  refine And.intro ⟨by omega, by omega⟩ ?_
  refine Grd.intro (fun h => absurd (show A < 1 from of_decide_eq_true h) (by omega)) (fun _ => ?_)
  conv => whnf
  refine CallC.nl _ (cN) ?_ ?_
  · exact rfl
  conv => whnf
  refine DrawC.mkK 13 [(.inr 4, 11)] rfl (by kernel_rfl) ?_
  refine And.intro rfl ?_
  refine And.intro ⟨by omega, by omega⟩ ?_
  conv => whnf
  refine PCallK.own cS' rfl (fun i hi => rfl) ?_
  conv => whnf
  refine And.intro ⟨by omega, by omega⟩ ?_
  refine And.intro (show inI .i64 (A + 60) from inI64 (by omega) (by omega)) ?_
  refine And.intro ⟨show (S.length + 1) * 16 ≤ 140737488355328 by omega, all1 rfl⟩ ?_
  conv => whnf
  refine CallC.nlf 14 _ rfl (cG' _ _ rfl (hrows _ rfl)) ?_ ?_
  · exact rfl
  conv => whnf
  refine CallC.nl _ (s1) ?_ ?_
  · exact rfl
  conv => whnf
  refine CallC.nl _ (s2) ?_ ?_
  · exact rfl
  conv => whnf
  refine CallC.nl _ (r2) ?_ ?_
  · exact rfl
  refine And.intro ⟨by omega, by omega⟩ ?_
  refine And.intro (show inI .i64 (A - 1) from inI64 (by omega) (by omega)) ?_
  conv => whnf
  refine CallC.nlf 22 _ rfl (cG2' _ _ rfl rfl) ?_ ?_
  · exact rfl
  conv => whnf
  refine CallC.nl _ (s3) ?_ ?_
  · exact rfl
  conv => whnf
  refine CallC.nl _ (s4) ?_ ?_
  · exact rfl
  clear cF r1 r2 cN cG cG' cG2 cG2' s1 s2 s3 s4 cS' q3
  repeat' (conv => whnf
           first
             | (refine Grd.intro (fun h => ?_) (fun h => ?_); rotate_left; focus (exfalso; simp_all; done))
             | (refine Grd.intro (fun h => ?_) (fun h => ?_); focus (exfalso; simp_all; done))
             | (refine CallC.sca _ q1 ?_ ?_; focus (exact rfl))
             | (refine CallC.sca _ q2 ?_ ?_; focus (exact rfl))
             | fail)
  clear hix hEE
  conv => whnf
  refine Grd.intro (fun h => absurd (show (EE.length : Int) = 0 from of_decide_eq_true h) (by omega)) (fun _ => ?_)
  refine And.intro (show inI .i64 ((EE.length : Int) - 1) from inI64 (by omega) (by omega)) ?_
  refine DrawC.mk 13 rfl (by kernel_rfl) ?_
  refine And.intro (show (0 : Int) ≤ (EE.length : Int) - 1 ∧ (EE.length : Int) - 1 < (EE.length : Int) by omega) ?_
  refine PCallC.sca _ ((q3' _ _ rfl (hrows _ rfl))) rfl ?_
  refine DrawC.mk 38 rfl (by kernel_rfl) ?_
  refine And.intro (show inI .i64 ((E.length : Int) + 1) from inI64 (by omega) (by omega)) ?_
  refine Grd.intro (fun _ => ?_) (fun h => absurd (show ¬ (EE.length : Int) = (E.length : Int) + 1 from of_decide_eq_false h) (by omega))
  refine And.intro ⟨by omega, by omega⟩ ?_
  refine And.intro ⟨by omega, by omega⟩ ?_
  refine And.intro (show inI .i64 (A + 61) from inI64 (by omega) (by omega)) ?_
  refine Grd.intro (fun _ => ?_) (fun h => absurd (show ¬ A + 61 = A + 61 from of_decide_eq_false h) (by omega))
  refine And.intro (show (0 : Int) ≤ (EE.length : Int) - 1 ∧ (EE.length : Int) - 1 < (EE.length : Int) by omega) ?_
  refine And.intro ⟨by omega, by omega⟩ ?_
  refine Grd.intro (fun _ => ?_) (fun h => absurd (show ¬ (ix EE ((EE.length : Int) - 1).toNat).f = A from of_decide_eq_false h) (fun g => g hef))
  exact And.intro trivial (AVle.refl _)
theorem law_Ingest (code : List UInt8) (hc : code.length ≤ 9223372036854775807) (more : List UInt8) (hm : more.length ≤ 9223372036854775807) : VFn Tryz.prog 5 [byts code, byts more] (.bool true) := lawIngest code more hc hm
end Go.Proofs.YtfaffgneccjpbaaGreatDoor
