/- Contracts of functions that the claim reaches, and the plain law of what they compute; each theorem bears its own conditions. -/
import Derived.Test.YtfaffgneccjpbaaGreatDoorQ6
import Derived.Test.YtfaffgneccjpbaaGreatDoorQ3
import Derived.Test.YtfaffgneccjpbaaGreatDoorQ5
import Derived.Test.YtfaffgneccjpbaaGreatDoorQ2
import Derived.Test.YtfaffgneccjpbaaGreatDoorQ4
import Derived.Test.YtfaffgneccjpbaaGreatDoorV50
import Derived.Test.YtfaffgneccjpbaaGreatDoorQ1
set_option linter.unusedVariables false
set_option linter.constructorNameAsVariable false
set_option linter.unusedSimpArgs false
set_option maxRecDepth 20000
namespace Go.Proofs.YtfaffgneccjpbaaGreatDoor
open Go Go.Vw

structure Fl where
  st : Sto
  clk : Int
  k0 : Int
  k1 : Int
  k2 : Int
  k3 : Int
  k4 : Int
  k5 : Int
  k6 : Int
  ws : List Wk
  gs : List Ig
  rs : List Rr
  ac : List Smp
  an : List An
def Fl.row (s : Fl) : List AV := [obs s.st.os, .int .i64 s.st.next, .int .i64 s.clk, .int .i64 s.k0, .int .i64 s.k1, .int .i64 s.k2, .int .i64 s.k3, .int .i64 s.k4, .int .i64 s.k5, .int .i64 s.k6, wks s.ws, igs s.gs, rrs s.rs, smps s.ac, ans s.an]
def Fl.av (s : Fl) : AV := .agg s.row
def Fl.sk (s : Fl) : List AV := [.int .i64 s.k0, .int .i64 s.k1, .int .i64 s.k2, .int .i64 s.k3, .int .i64 s.k4, .int .i64 s.k5, .int .i64 s.k6]
structure FlIn (s : Fl) : Prop where
  st : StoIn s.st
  ws : s.ws.length ≤ 9223372036854775807
  wr : ∀ e ∈ s.ws, Wk.rd e
  gs : s.gs.length ≤ 9223372036854775807
  gr : ∀ e ∈ s.gs, Ig.rd e
  rs : s.rs.length ≤ 9223372036854775807
  rr : ∀ e ∈ s.rs, Rr.rd e
  ac : s.ac.length ≤ 9223372036854775807
  an : s.an.length ≤ 9223372036854775807
  ck : IntKind.i64.min ≤ s.clk ∧ s.clk ≤ IntKind.i64.max
  k0 : IntKind.i64.min ≤ s.k0 ∧ s.k0 ≤ IntKind.i64.max
  k1 : IntKind.i64.min ≤ s.k1 ∧ s.k1 ≤ IntKind.i64.max
  k2 : IntKind.i64.min ≤ s.k2 ∧ s.k2 ≤ IntKind.i64.max
  k3 : IntKind.i64.min ≤ s.k3 ∧ s.k3 ≤ IntKind.i64.max
  k4 : IntKind.i64.min ≤ s.k4 ∧ s.k4 ≤ IntKind.i64.max
  k5 : IntKind.i64.min ≤ s.k5 ∧ s.k5 ≤ IntKind.i64.max
  k6 : IntKind.i64.min ≤ s.k6 ∧ s.k6 ≤ IntKind.i64.max
def flN (s : Fl) : Nat := stoN s.st + ((s.ws.length + sumL Wk.size s.ws) + ((s.gs.length + sumL Ig.size s.gs) + ((s.rs.length + sumL Rr.size s.rs) + (s.ac.length + s.an.length))))
structure Fl.small (s : Fl) : Prop where
  st : s.st.os.length ≤ 1048576
  sk : ∀ e ∈ s.st.os, e.key.length ≤ 1048576
  ws : s.ws.length ≤ 1048576
  wr : ∀ e ∈ s.ws, Wk.small e
  wk : ∀ e ∈ s.ws, e.job.key.length ≤ 1048576 ∧ ∀ x ∈ e.ins, x.key.length ≤ 1048576
  gs : s.gs.length ≤ 1048576
  gr : ∀ e ∈ s.gs, Ig.small e
  rs : s.rs.length ≤ 1048576
  rr : ∀ e ∈ s.rs, Rr.small e
  rk : ∀ e ∈ s.rs, ∀ x ∈ e.left, x.key.length ≤ 1048576
  ac : s.ac.length ≤ 1048576
  an : s.an.length ≤ 1048576
end Go.Proofs.YtfaffgneccjpbaaGreatDoor
set_option linter.unusedVariables false
set_option linter.constructorNameAsVariable false
set_option linter.unusedSimpArgs false
set_option maxRecDepth 20000
namespace Go.Proofs.YtfaffgneccjpbaaGreatDoor
open Go Go.Vw

abbrev nums (L : List Int) : AV := .sl 1 L.length fun i => [.int .i64 (ix L i)]
theorem isId0 (n : Int) : VFn Tryz.prog 41 [.int .i64 n] (.bool (within n 0 9)) := by
  refine VFn.introC Tryz.call41 Tryz.func41 rfl rfl ?_
  conv => whnf
  refine CallC.sca _ (within_fn _ _ _) ?_ ?_
  · exact rfl
  exact And.intro trivial (AVle.refl _)
theorem isUntil0 (n : Int) : VFn Tryz.prog 98 [.int .i64 n] (.bool (within n 0 200000)) := by
  refine VFn.introC Tryz.call98 Tryz.func98 rfl rfl ?_
  conv => whnf
  refine CallC.sca _ (within_fn _ _ _) ?_ ?_
  · exact rfl
  exact And.intro trivial (AVle.refl _)
theorem isCode0 (n : Int) : VFn Tryz.prog 99 [.int .i64 n] (.bool (within n 0 19)) := by
  refine VFn.introC Tryz.call99 Tryz.func99 rfl rfl ?_
  conv => whnf
  refine CallC.sca _ (within_fn _ _ _) ?_ ?_
  · exact rfl
  exact And.intro trivial (AVle.refl _)
def gotOK (a : Ag) : Bool := a.ok && decide (a.c ≤ 1000)
theorem isGot_fn (a : Ag) : VFn Tryz.prog 100 [a.av] (.bool (gotOK a)) := by
  refine VFn.introC Tryz.call100 Tryz.func100 rfl rfl ?_
  repeat' (conv => whnf
           first
             | (refine Grd.intro (fun h => ?_) (fun h => ?_); rotate_left; focus (exfalso; simp_all; done))
             | (refine Grd.intro (fun h => ?_) (fun h => ?_); focus (exfalso; simp_all; done))
             | refine Grd.intro (fun h => ?_) (fun h => ?_)
             | (refine CallC.sca _ (AggOK_fn a) ?_ ?_; focus (exact rfl))
             | (refine And.intro trivial (AVle.of_eq (congrArg AV.bool ?_)); focus (simp_all [gotOK]; done))
             | (refine And.intro trivial (AVle.of_eq (congrArg AV.bool ?_)); focus (simp only [gotOK, *, cond_true, cond_false, Bool.true_and, Bool.and_true, Bool.false_and, Bool.and_false, Bool.not_true, Bool.not_false, Bool.true_or, Bool.or_true, Bool.false_or, Bool.or_false, if_true, ite_true, reduceIte]; done))
             | (refine And.intro trivial (AVle.of_eq (congrArg AV.bool ?_)); focus (simp_all [gotOK]; intros; omega))
             | (refine And.intro trivial (AVle.of_eq (congrArg AV.bool ?_)); focus (simp only [cond_true, cond_false, Bool.not_eq_true', Bool.not_eq_false'] at *; simp only [gotOK, *, cond_true, cond_false, Bool.true_and, Bool.and_true, Bool.false_and, Bool.and_false, Bool.not_true, Bool.not_false, Bool.true_or, Bool.or_true, Bool.false_or, Bool.or_false, if_true, ite_true, reduceIte]; done))
             | fail)

def An.ok (a : An) : Bool := within a.tier 0 2 && (isRange a.f a.t && (within a.code 0 19 && a.a.ok))
theorem allEnC1_fn (e : En) (G : Nat) (row : List AV) (p : En → Bool) (hp : VFn Tryz.prog G [e.av, .eptr row 0] (.bool (p e))) : VFn Tryz.prog 141 [e.av, .eptr [.fn (.func G) [] [.eptr row 0]] 0] (.bool (!p e)) := by
  refine VFn.introC Tryz.call141 Tryz.func141 rfl rfl ?_
  conv => whnf
  refine CallC.sca _ (hp) ?_ ?_
  · exact rfl
  exact And.intro trivial (AVle.refl _)
theorem allEnC_fn (L : List En) (hL : L.length ≤ 9223372036854775807) (G : Nat) (row : List AV) (p : En → Bool) (hp : ∀ e ∈ L, VFn Tryz.prog G [e.av, .eptr row 0] (.bool (p e))) : VFn Tryz.prog 101 [ents L, .fn (.func G) [] [.eptr row 0]] (.bool (L.all p)) := by
  refine VFn.introC Tryz.call101 Tryz.func101 rfl rfl ?_
  conv => whnf
  refine CallC.sca _ (ContainsEn_1 L hL 141 [.fn (.func G) [] [.eptr row 0]] (fun e => !p e) (fun e he => allEnC1_fn e G row p (hp e he))) ?_ ?_
  · exact rfl
  exact And.intro trivial (AVle.of_eq (congrArg AV.bool (show (!L.any fun e => !p e) = _ by rw [Bool.eq_iff_iff]; simp)))
def Wk.ok (w : Wk) : Bool := within w.id 0 9 && (within w.ph 0 7 && (within w.tok 0 999999 && (!(decide (2 ≤ w.ph) && decide (w.tok = 0)) && ((!within w.ph 4 6 || (w.job.ok && (decide (w.job.tok = w.tok) && (decide (w.job.k = 3) || (decide (w.ph = 6) && decide (w.job.k = 4)))))) && (decide ((w.ins.length : Int) ≤ 300) && (w.ins.all En.ok && gotOK w.got))))))
end Go.Proofs.YtfaffgneccjpbaaGreatDoor
set_option linter.unusedVariables false
set_option linter.constructorNameAsVariable false
set_option linter.unusedSimpArgs false
set_option maxRecDepth 20000
namespace Go.Proofs.YtfaffgneccjpbaaGreatDoor
open Go Go.Vw

theorem IndexOb_1 (L : List Ob) (hL : L.length ≤ 9223372036854775807) (F : Nat) (row : List AV) (p : Ob → Bool) (hp : ∀ e ∈ L, VFn Tryz.prog F [e.av, .eptr row 0] (.bool (p e))) :
    VFn Tryz.prog 159 [obs L, .fn (.func F) [] [.eptr row 0]] (.int .i64 (fi p L)) := by
  refine VFn.introC Tryz.call159 Tryz.func159 rfl rfl ?_
  refine LoopC.mk (fun i : Nat => i ≤ L.length ∧ ∀ j, j < i → p (ix L j) = false) (fun i => [(0, obs L), (1, .fn (.func F) [] [.eptr row 0]), (7, .int .i64 L.length), (8, .int .i64 i)]) (fun _ => []) 0 (fun i => L.length - i) 0
    ⟨⟨Nat.zero_le _, fun j hj => absurd hj (Nat.not_lt_zero j)⟩, [], rfl, rfl, ⟨AVle.refl _, AVle.refl _, AVle.refl _, AVle.refl _, trivial⟩, trivial⟩ ?_
  intro i hi
  refine Grd.intro (fun h2 => ?_) (fun h2 => ?_)
  · have hin : i < L.length := by have := of_decide_eq_true h2; omega
    refine And.intro (by omega) ?_
    conv => whnf
    refine CallC.sca _ (hp (ix L i) (getD_mem hin)) ?_ ?_
    · exact rfl
    refine Grd.intro (fun h3 => ?_) (fun h3 => ?_)
    · exact And.intro trivial (AVle.of_eq (congrArg (AV.int .i64) (fi_at hin hi.2 h3).symm))
    · refine And.intro (inI64 (by omega) (by omega)) ?_
      exact ⟨i + 1, ⟨hin, fun j hj => by
        rcases Nat.lt_or_ge j i with h' | h'
        · exact hi.2 j h'
        · rw [show j = i by omega]; exact h3⟩, by omega, [], rfl, rfl, ⟨AVle.refl _, AVle.refl _, AVle.refl _, AVle.of_eq (congrArg (AV.int .i64) (by simp)), trivial⟩, trivial⟩
  · have : i = L.length := by have := of_decide_eq_false h2; omega
    subst this
    exact And.intro trivial (AVle.of_eq (congrArg (AV.int .i64) (fi_none hi.2).symm))
theorem DelOb_some (L : List Ob) (hL : L.length ≤ 1000000) (F : Nat) (row : List AV) (p : Ob → Bool) (hp : ∀ e ∈ L, VFn Tryz.prog F [e.av, .eptr row 0] (.bool (p e))) (hs : L.any p = true) :
    FnM Tryz.prog 132 1 [.osl 0, .fn (.func F) [] [.eptr row 0]] [(0, .arr 100 3 L.length fun i => (ix L i).row)] (.osl 1) [(1, .arr 100 3 (L.filter fun e => !p e).length fun i => (ix (L.filter fun e => !p e) i).row)] 2 := by
  have c := IndexOb_1 L (by omega) F row p hp
  obtain ⟨i0, hi0, hfi, hp0⟩ : ∃ i0 : Nat, i0 < L.length ∧ fi p L = (i0 : Int) ∧ p (ix L i0) = true ∧ ∀ j, j < i0 → p (ix L j) = false := by
    rcases fi_first p L with ⟨h, _⟩ | h
    · have := fi_any (p := p) (L := L)
      rw [h, hs] at this; simp at this
    · exact h
  rw [hfi] at c
  have hk0 : (L.take (i0 + 1)).filter (fun e => !p e) = L.take i0 := by
    rw [filter_snoc hi0, if_neg (by rw [hp0.1]; simp)]
    exact List.filter_eq_self.2 fun x hx => by
      obtain ⟨j, hj, rfl⟩ := List.getElem_of_mem hx
      have hj' : j < i0 := by simp at hj; omega
      have := hp0.2 j hj'
      rw [ix_lt (by omega)] at this
      simp [this]
  have hlt : ∀ j, i0 < j → j ≤ L.length → ((L.take j).filter fun e => !p e).length < j := fun j h1 h2 => filter_lt h1 h2 (by rw [hp0.1]; rfl)
  refine FnM.introC Tryz.call132 Tryz.func132 rfl rfl ?_
  conv => whnf
  refine CallC.sca _ (c) ?_ ?_
  · exact rfl
  refine And.intro (inI64 (by omega) (by omega)) ?_
  refine LoopC.mk (fun j : Nat => i0 < j ∧ j ≤ L.length) (fun j => [(0, .osl 0), (1, .fn (.func F) [] [.eptr row 0]), (5, .int .i64 ((L.take j).filter fun e => !p e).length), (6, .int .i64 j)])
    (fun j => [(0, .arr 100 3 L.length fun i => (ix (kept p L j) i).row)]) 1 (fun j => L.length - j) (i0 + 1)
    ⟨⟨by omega, hi0⟩, [(0, 0)], rfl, rfl, ⟨AVle.refl _, AVle.refl _, AVle.of_eq (congrArg (AV.int .i64) (by rw [hk0]; simp; omega)), AVle.of_eq (congrArg (AV.int .i64) (by simp)), trivial⟩, ⟨MOle.arr rfl fun i hi => by
      have e : kept p L (i0 + 1) = L := by unfold kept; rw [hk0]; simp only [List.length_take]; rw [Nat.min_eq_left (by omega)]; simp
      rw [e], trivial⟩⟩ ?_
  intro j hj
  obtain ⟨hj1, hj2⟩ := hj
  have hkl := hlt j hj1 hj2
  refine Grd.intro (fun h2 => ?_) (fun h2 => ?_)
  · have hjn : j < L.length := by have := of_decide_eq_true h2; omega
    have hsn := filter_snoc (p := fun e => !p e) hjn
    have e := kept_at (p := p) hjn (Nat.le_of_lt hkl)
    have cp := hp (ix L j) (getD_mem hjn)
    rw [← e] at cp
    refine And.intro (by omega) ?_
    conv => whnf
    refine CallC.sca _ (cp) ?_ ?_
    · exact rfl
    refine Grd.intro (fun h3 => ?_) (fun h3 => ?_)
    · have h3 : p (ix L j) = false := by rw [e] at h3; simpa using h3
      rw [h3] at hsn
      have hl := hlt (j + 1) (by omega) hjn
      rw [hsn] at hl
      simp at hl
      refine And.intro (by omega) ?_
      refine And.intro (inI64 (by omega) (by omega)) ?_
      refine And.intro (inI64 (by omega) (by omega)) ?_
      refine ⟨j + 1, ⟨by omega, hjn⟩, by omega, [(0, 0)], rfl, rfl, ⟨AVle.refl _, AVle.refl _, AVle.of_eq (congrArg (AV.int .i64) (by rw [hsn]; simp)), AVle.of_eq (congrArg (AV.int .i64) (by simp)), trivial⟩, ⟨MOle.arr rfl fun k hk => ?_, trivial⟩⟩
      have en := kept_next hjn h3 hkl k hk
      by_cases hkc : k = ((L.take j).filter fun e => !p e).length
      · rw [en, if_pos hkc, ← e]
        show (bif Nat.beq k ((L.take j).filter fun e => !p e).length then _ else _) = _
        rw [hkc, beq_t]; rfl
      · rw [en, if_neg hkc]
        show (bif Nat.beq k ((L.take j).filter fun e => !p e).length then _ else _) = _
        rw [beq_f hkc]; rfl
    · have h3 : p (ix L j) = true := by rw [e] at h3; simpa using h3
      rw [h3] at hsn
      refine And.intro (inI64 (by omega) (by omega)) ?_
      refine ⟨j + 1, ⟨by omega, hjn⟩, by omega, [(0, 0)], rfl, rfl, ⟨AVle.refl _, AVle.refl _, AVle.of_eq (congrArg (AV.int .i64) (by rw [hsn]; simp)), AVle.of_eq (congrArg (AV.int .i64) (by simp)), trivial⟩, ⟨MOle.arr rfl fun k hk => ?_, trivial⟩⟩
      have e2 : kept p L (j + 1) = kept p L j := by unfold kept; rw [hsn]; simp
      rw [e2]
  · have : j = L.length := by have := of_decide_eq_false h2; omega
    subst this
    have eT : L.take L.length = L := List.take_of_length_le (Nat.le_refl _)
    obtain ⟨c, hc⟩ : ∃ c, c = ((L.take L.length).filter fun e => !p e).length := ⟨_, rfl⟩
    have hk : ∀ k, k < c → ix (kept p L L.length) k = ix (L.filter fun e => !p e) k := fun k hk => by
      unfold kept
      rw [ix_app_l (by omega), eT]
    have hcl : c = (L.filter fun e => !p e).length := by rw [hc, eT]
    rw [← hc] at hkl
    rw [← hc]
    refine And.intro ⟨by omega, by omega⟩ ?_
    conv => whnf
    refine OpC.clear rfl rfl rfl rfl rfl rfl rfl (by show 1 ≤ L.length - ((c : Int)).toNat; omega) ?_
    conv => whnf
    refine OpC.head rfl rfl rfl rfl rfl rfl rfl ⟨by omega, by omega⟩ ?_
    refine And.intro trivial ⟨[(0, 0), (1, 1)], rfl, AVle.refl _, ⟨MOle.arr (by show ((c : Int)).toNat = _; omega) fun k hk' => ?_, trivial⟩⟩
    have hk' : k < c := by have : k < ((c : Int)).toNat := hk'; omega
    rw [← hk k hk']
    show (bif Nat.blt k ((c : Int)).toNat then _ else _) = _
    rw [blt_t (show k < ((c : Int)).toNat by omega)]; rfl
theorem has_of_mem {x : Sto} (hs : x.ok = true) {k : List UInt8} (h : k ∈ x.os.map (·.key)) : x.has k = true := by
  obtain ⟨o, ho, rfl⟩ := List.mem_map.1 h
  have h1 := Srt.fi (Sto.srt hs) o.key
  have h2 := fi_any (p := fun q : Ob => decide (q.key = o.key)) (L := x.os)
  rw [List.any_eq_true.2 ⟨o, ho, decide_eq_true rfl⟩, h1] at h2
  cases hh : hasK o.key x.os with
  | true => exact hh
  | false => rw [hh] at h2; simp at h2
theorem without1_fn (o : Ob) (k : List UInt8) : VFn Tryz.prog 133 [o.av, .eptr [.str (B k)] 0] (.bool (decide (o.key = k))) := by
  refine VFn.introC Tryz.call133 Tryz.func133 rfl rfl ?_
  exact And.intro trivial (AVle.of_eq (congrArg AV.bool (show ((B o.key).toList == (B k).toList) = _ from B_eq)))
theorem without_own (x : Sto) (hs : x.ok = true) (k : List UInt8) (hk : x.has k = true) : FnM Tryz.prog 88 0 [x.av, .str (B k)] [] (wo x k).own [(0, .arr 100 3 (wo x k).os.length fun i => (ix (wo x k).os i).row)] 1 := by
  have hL := (Sto.ok_at hs).2.1
  have hany : x.os.any (fun o => decide (o.key = k)) = true := by
    obtain ⟨h1, h2⟩ := hasK_at hk
    exact List.any_eq_true.2 ⟨_, getD_mem h1, decide_eq_true h2⟩
  have hd := DelOb_some x.os (by omega) 133 [.str (B k)] (fun o => decide (o.key = k)) (fun o _ => without1_fn o k) hany
  refine FnM.introC Tryz.call88 Tryz.func88 rfl rfl ?_
  conv => whnf
  refine CallC.k [] (copied_own x (by omega)) rfl rfl (AVsle.refl _) trivial rfl ?_
  conv => whnf
  refine CallC.m [(3, 0)] hd rfl rfl (AVsle.refl _) ⟨MOle.refl _, trivial⟩ rfl ⟨fun i hi => rfl, trivial⟩ rfl ?_
  exact And.intro trivial ⟨[(5, 0)], rfl, AVle.refl _, ⟨MOle.refl _, trivial⟩⟩
theorem without_fn (x : Sto) (hs : x.ok = true) (k : List UInt8) (hk : x.has k = true) : VFn Tryz.prog 88 [x.av, .str (B k)] (wo x k).av := (without_own x hs k hk).vfn
end Go.Proofs.YtfaffgneccjpbaaGreatDoor
set_option linter.unusedVariables false
set_option linter.constructorNameAsVariable false
set_option linter.unusedSimpArgs false
set_option maxRecDepth 20000
namespace Go.Proofs.YtfaffgneccjpbaaGreatDoor
open Go Go.Vw

def Sta.orow (s : Sta) (a b : Nat) : List AV := [.int .i64 s.seq, .int .i64 s.fence, .osl a, .osl b, .int .i64 s.l0, .int .i64 s.l1, .int .i64 s.l2, .int .i64 s.h0, .int .i64 s.h1, .int .i64 s.h2]
theorem logN_no {x : Sto} {i : Nat} {st : Sta} (h : logN x i = st) (hr : recAt x ((i : Int) + 1) = none) : logN x (i + 1) = st.tick := by
  show stepL x (logN x i) = _
  unfold stepL
  rw [logN_seq, hr, h]
theorem logN_yes {x : Sto} {i : Nat} {st : Sta} {r : Rc} (h : logN x i = st) (hr : recAt x ((i : Int) + 1) = some r) : logN x (i + 1) = st.app r := by
  show stepL x (logN x i) = _
  unfold stepL
  rw [logN_seq, hr, h]
theorem has_next {x : Sto} {i : Nat} (h : ∀ j, j < i → x.has (manK ((j + 1 : Nat) : Int)) = true) (h' : x.has (manK ((i : Int) + 1)) = true) : ∀ j, j < i + 1 → x.has (manK ((j + 1 : Nat) : Int)) = true := fun j hj => by
  rcases Nat.lt_or_ge j i with h1 | h1
  · exact h j h1
  · have : j = i := by omega
    subst this; exact h'
theorem replay_own (x : Sto) (hs : x.ok = true) (F : Nat) (hF : ∀ (r : Rc) (took : Bool), VFn Tryz.prog F [r.av, .bool took] (.tup [])) :
    FnM Tryz.prog 75 0 [x.av, .fn (.func F) [] []] [] (logS x).own (logS x).objs 2 := by
  have hL := (Sto.ok_at hs).2.1
  refine FnM.introC Tryz.call75 Tryz.func75 rfl rfl ?_
  refine LoopC.nilb 2 2 35 4 (fun _ => []) rfl rfl ?_
  conv => whnf
  refine LoopC.nilb 2 3 136 2 (fun _ => []) rfl rfl ?_
  conv => whnf
  refine LoopC.mk (fun i : Nat => ∀ j, j < i → x.has (manK ((j + 1 : Nat) : Int)) = true) (fun i => [(1, .fn (.func F) [] []), (2, .bptr 0 0), (4, .bptr 1 0), (5, .bptr 2 0)])
    (fun i => [(0, .box x.row), (1, .box sta0.nrow), (2, .box ((logN x i).orow 3 4)), (3, .arr 35 4 (logN x i).es.length fun j => (ix (logN x i).es j).row), (4, .arr 136 2 (logN x i).ts.length fun j => (ix (logN x i).ts j).row)]) 5 (fun i => 1000 - i) 0
    ⟨fun j hj => absurd hj (Nat.not_lt_zero j), [(0, 0), (1, 1), (2, 2), (3, 3), (4, 4)], rfl, rfl, ⟨AVle.refl _, AVle.refl _, AVle.refl _, AVle.refl _, trivial⟩, ⟨MOle.refl _, MOle.refl _, MOle.refl _, MOle.arr rfl fun i hi => absurd hi (Nat.not_lt_zero i), MOle.arr rfl fun i hi => absurd hi (Nat.not_lt_zero i), trivial⟩⟩ ?_
  intro i hi
  have hi3 : i ≤ 300 := by
    rcases Nat.lt_or_ge 300 i with h | h
    · have := log_len (x := x) (n := 301) (by omega) (fun j hj => hi j (by omega)); omega
    · exact h
  obtain ⟨st, hst⟩ : ∃ st, logN x i = st := ⟨_, rfl⟩
  have hseq := logN_seq x i
  have hlen := logN_len x i
  have hlog := logN_log x i
  rw [hst] at hseq hlen hlog ⊢
  refine Grd.intro (fun h2 => ?_) (fun h2 => absurd (of_decide_eq_false h2) (fun h => h (by omega)))
  have cg := get_fn x hs (manK (st.seq + 1))
  by_cases hh : x.has (manK (st.seq + 1)) = true
  · rw [if_pos hh] at cg
    refine DrawC.mk 12 rfl (by kernel_rfl) ?_
    refine And.intro (inI64 (by omega) (by omega)) ?_
    conv => whnf
    refine PCallC.sca _ (six_fn (st.seq + 1) (by simp [within]; omega)) rfl ?_
    conv => whnf
    refine And.intro (show ((4 + (B (six6 (st.seq + 1).toNat)).size : Nat) : Int) ≤ 9223372036854775807 by rw [B_size, six6_len]; decide) ?_
    refine force_to (congrArg AV.str (show B [109, 97, 110, 47] ++ B (six6 (st.seq + 1).toNat) = B (manK (st.seq + 1)) from B_app _ _)) ?_
    conv => whnf
    refine PCallC.sca _ (cg) rfl ?_
    have hd := (get_ok x hs _ hh).1
    have hh' : x.has (manK ((i : Int) + 1)) = true := by rw [← hseq]; exact hh
    cases hr : readR (x.get (manK (st.seq + 1))).data with
    | none =>
      obtain ⟨r, cr⟩ := readRecord_no _ (by omega) hr
      conv => whnf
      refine CallC.sca _ (cr) ?_ ?_
      · exact rfl
      refine And.intro (inI64 (by omega) (by omega)) ?_
      have e := logN_no hst (by unfold recAt; rw [← hseq]; exact hr)
      refine ⟨i + 1, has_next hi hh', by omega, [(0, 0), (1, 1), (2, 2), (3, 3), (4, 4)], rfl, rfl, ⟨AVle.refl _, AVle.refl _, AVle.refl _, AVle.refl _, trivial⟩, ⟨MOle.refl _, MOle.refl _, MOle.of_eq (show MO.box (st.tick.orow 3 4) = _ by rw [e]), MOle.of_eq (show MO.arr 35 4 st.tick.es.length (fun j => (ix st.tick.es j).row) = _ by rw [e]), MOle.of_eq (show MO.arr 136 2 st.tick.ts.length (fun j => (ix st.tick.ts j).row) = _ by rw [e]), trivial⟩⟩
    | some r =>
      have hrk := readR_ok hr
      conv => whnf
      refine CallC.sca _ (readRecord_yes _ (by omega) hr) ?_ ?_
      · exact rfl
      conv => whnf
      refine CallC.m [] (apply_fn st (by omega) (by omega) r hrk) rfl rfl (AVsle.refl _) trivial rfl ⟨fun i hi => rfl, fun i hi => rfl, trivial⟩ rfl ?_
      conv => whnf
      refine CallC.sca _ (hF r (st.takes r)) ?_ ?_
      · exact rfl
      have e := logN_yes hst (by unfold recAt; rw [← hseq]; exact hr)
      refine ⟨i + 1, has_next hi hh', by omega, [(0, 0), (1, 1), (2, 2), (18, 3), (19, 4)], rfl, rfl, ⟨AVle.refl _, AVle.refl _, AVle.refl _, AVle.refl _, trivial⟩, ⟨MOle.refl _, MOle.refl _, MOle.of_eq (show MO.box ((st.app r).orow 3 4) = _ by rw [e]), MOle.of_eq (show MO.arr 35 4 (st.app r).es.length (fun j => (ix (st.app r).es j).row) = _ by rw [e]), MOle.of_eq (show MO.arr 136 2 (st.app r).ts.length (fun j => (ix (st.app r).ts j).row) = _ by rw [e]), trivial⟩⟩
  · have hh : x.has (manK (st.seq + 1)) = false := by simpa using hh
    rw [if_neg (by rw [hh]; simp)] at cg
    have e : logS x = st := by
      have := log_end hs hi3 hi (by rw [hseq] at hh; exact hh)
      unfold logS; rw [← this]; exact hst
    rw [e]
    refine DrawC.mk 12 rfl (by kernel_rfl) ?_
    refine And.intro (inI64 (by omega) (by omega)) ?_
    conv => whnf
    refine PCallC.sca _ (six_fn (st.seq + 1) (by simp [within]; omega)) rfl ?_
    conv => whnf
    refine And.intro (show ((4 + (B (six6 (st.seq + 1).toNat)).size : Nat) : Int) ≤ 9223372036854775807 by rw [B_size, six6_len]; decide) ?_
    refine force_to (congrArg AV.str (show B [109, 97, 110, 47] ++ B (six6 (st.seq + 1).toNat) = B (manK (st.seq + 1)) from B_app _ _)) ?_
    conv => whnf
    refine PCallC.sca _ (cg) rfl ?_
    exact And.intro trivial ⟨[(3, 0), (4, 1)], rfl, AVle.refl _, ⟨MOle.refl _, MOle.refl _, trivial⟩⟩
theorem log1_fn (r : Rc) (took : Bool) : VFn Tryz.prog 76 [r.av, .bool took] (.tup []) := by
  refine VFn.introC Tryz.call76 Tryz.func76 rfl rfl ?_
  exact And.intro trivial (AVle.refl _)
theorem log_own (x : Sto) (hs : x.ok = true) : FnM Tryz.prog 32 0 [x.av] [] (logS x).own (logS x).objs 2 := by
  refine FnM.introC Tryz.call32 Tryz.func32 rfl rfl ?_
  conv => whnf
  refine CallC.k [] (replay_own x hs 76 log1_fn) rfl rfl (AVsle.refl _) trivial rfl ?_
  exact And.intro trivial ⟨[(2, 0), (3, 1)], rfl, AVle.refl _, ⟨MOle.refl _, MOle.refl _, trivial⟩⟩
theorem log_fn (x : Sto) (hs : x.ok = true) : VFn Tryz.prog 32 [x.av] (logS x).av := (log_own x hs).vfn
end Go.Proofs.YtfaffgneccjpbaaGreatDoor
set_option linter.unusedVariables false
set_option linter.constructorNameAsVariable false
set_option linter.unusedSimpArgs false
set_option maxRecDepth 20000
namespace Go.Proofs.YtfaffgneccjpbaaGreatDoor
open Go Go.Vw

def rlC (x : Sto) : Int := if x.ok = true then 0 else 1
def rlS (x : Sto) : Sta := if x.ok = true then logS x else sta0
theorem ReplayLog_own (x : Sto) (hr : StoRd x) (hs : x.ok = true) : FnM Tryz.prog 7 0 [x.av] [] (.tup [(logS x).own, .int .i64 0]) (logS x).objs 2 := by
  have c := StoreOK_fn x (by have := hr.len; omega) hr.key
  rw [hs] at c
  refine FnM.introC Tryz.call7 Tryz.func7 rfl rfl ?_
  conv => whnf
  refine CallC.sca _ (c) ?_ ?_
  · exact rfl
  conv => whnf
  refine CallC.k [] (log_own x hs) rfl rfl (AVsle.refl _) trivial rfl ?_
  exact And.intro trivial ⟨[(2, 0), (3, 1)], rfl, AVle.refl _, ⟨MOle.refl _, MOle.refl _, trivial⟩⟩
end Go.Proofs.YtfaffgneccjpbaaGreatDoor
set_option linter.unusedVariables false
set_option linter.constructorNameAsVariable false
set_option linter.unusedSimpArgs false
set_option maxRecDepth 20000
namespace Go.Proofs.YtfaffgneccjpbaaGreatDoor
open Go Go.Vw

theorem map_take_filter {α β : Type} [Inhabited α] {f : α → β} {p : β → Bool} {L : List α} {i : Nat} (h : i < L.length) : ((L.take (i + 1)).map f).filter p = if p (f (ix L i)) = true then ((L.take i).map f).filter p ++ [f (ix L i)] else ((L.take i).map f).filter p := by
  rw [take_snoc h, List.map_append, List.filter_append]
  by_cases hp : p (f (ix L i)) = true
  · rw [if_pos hp]; simp [hp]
  · rw [if_neg hp]; simp [hp]
end Go.Proofs.YtfaffgneccjpbaaGreatDoor
set_option linter.unusedVariables false
set_option linter.constructorNameAsVariable false
set_option linter.unusedSimpArgs false
set_option maxRecDepth 20000
namespace Go.Proofs.YtfaffgneccjpbaaGreatDoor
open Go Go.Vw

def ask (s : Sto) (who now : Int) : Int := if s.ok = true then (if within who 0 9 = true ∧ within now 0 101000 = true then 0 else 4) else 1
end Go.Proofs.YtfaffgneccjpbaaGreatDoor
set_option linter.unusedVariables false
set_option linter.constructorNameAsVariable false
set_option linter.unusedSimpArgs false
set_option maxRecDepth 20000
namespace Go.Proofs.YtfaffgneccjpbaaGreatDoor
open Go Go.Vw

end Go.Proofs.YtfaffgneccjpbaaGreatDoor
set_option linter.unusedVariables false
set_option linter.constructorNameAsVariable false
set_option linter.unusedSimpArgs false
set_option maxRecDepth 20000
namespace Go.Proofs.YtfaffgneccjpbaaGreatDoor
open Go Go.Vw

end Go.Proofs.YtfaffgneccjpbaaGreatDoor
set_option linter.unusedVariables false
set_option linter.constructorNameAsVariable false
set_option linter.unusedSimpArgs false
set_option maxRecDepth 20000
namespace Go.Proofs.YtfaffgneccjpbaaGreatDoor
open Go Go.Vw

theorem IndexStr_2 (L : List (List UInt8)) (hL : L.length ≤ 9223372036854775807) (F : Nat) (r1 r2 : List AV) (p : List UInt8 → Bool) (hp : ∀ e ∈ L, VFn Tryz.prog F [.str (B e), .eptr r1 0, .eptr r2 0] (.bool (p e))) :
    VFn Tryz.prog 144 [txts L, .fn (.func F) [] [.eptr r1 0, .eptr r2 0]] (.int .i64 (fi p L)) := by
  refine VFn.introC Tryz.call144 Tryz.func144 rfl rfl ?_
  refine LoopC.mk (fun i : Nat => i ≤ L.length ∧ ∀ j, j < i → p (ix L j) = false) (fun i => [(0, txts L), (1, .fn (.func F) [] [.eptr r1 0, .eptr r2 0]), (7, .int .i64 L.length), (8, .int .i64 i)]) (fun _ => []) 0 (fun i => L.length - i) 0
    ⟨⟨Nat.zero_le _, fun j hj => absurd hj (Nat.not_lt_zero j)⟩, [], rfl, rfl, ⟨AVle.refl _, AVle.refl _, AVle.refl _, AVle.refl _, trivial⟩, trivial⟩ ?_
  intro i hi
  refine Grd.intro (fun h2 => ?_) (fun h2 => ?_)
  · have hin : i < L.length := by have := of_decide_eq_true h2; omega
    refine And.intro (by omega) ?_
    conv => whnf
    refine CallC.sca _ (hp (ix L i) (getD_mem hin)) ?_ ?_
    · exact rfl
    refine Grd.intro (fun h3 => ?_) (fun h3 => ?_)
    · exact And.intro trivial (AVle.of_eq (congrArg (AV.int .i64) (fi_at hin hi.2 h3).symm))
    · refine And.intro (inI64 (by omega) (by omega)) ?_
      exact ⟨i + 1, ⟨hin, fun j hj => by
        rcases Nat.lt_or_ge j i with h' | h'
        · exact hi.2 j h'
        · rw [show j = i by omega]; exact h3⟩, by omega, [], rfl, rfl, ⟨AVle.refl _, AVle.refl _, AVle.refl _, AVle.of_eq (congrArg (AV.int .i64) (by simp)), trivial⟩, trivial⟩
  · have : i = L.length := by have := of_decide_eq_false h2; omega
    subst this
    exact And.intro trivial (AVle.of_eq (congrArg (AV.int .i64) (fi_none hi.2).symm))
theorem DelStr2_some (L : List (List UInt8)) (hL : L.length ≤ 1000000) (F : Nat) (r1 r2 : List AV) (p : (List UInt8) → Bool) (hp : ∀ e ∈ L, VFn Tryz.prog F [.str (B e), .eptr r1 0, .eptr r2 0] (.bool (p e))) (hs : L.any p = true) :
    FnM Tryz.prog 107 1 [.osl 0, .fn (.func F) [] [.eptr r1 0, .eptr r2 0]] [(0, .arr 9 1 L.length fun i => [.str (B (ix L i))])] (.osl 1) [(1, .arr 9 1 (L.filter fun e => !p e).length fun i => [.str (B (ix (L.filter fun e => !p e) i))])] 2 := by
  have c := IndexStr_2 L (by omega) F r1 r2 p hp
  obtain ⟨i0, hi0, hfi, hp0⟩ : ∃ i0 : Nat, i0 < L.length ∧ fi p L = (i0 : Int) ∧ p (ix L i0) = true ∧ ∀ j, j < i0 → p (ix L j) = false := by
    rcases fi_first p L with ⟨h, _⟩ | h
    · have := fi_any (p := p) (L := L)
      rw [h, hs] at this; simp at this
    · exact h
  rw [hfi] at c
  have hk0 : (L.take (i0 + 1)).filter (fun e => !p e) = L.take i0 := by
    rw [filter_snoc hi0, if_neg (by rw [hp0.1]; simp)]
    exact List.filter_eq_self.2 fun x hx => by
      obtain ⟨j, hj, rfl⟩ := List.getElem_of_mem hx
      have hj' : j < i0 := by simp at hj; omega
      have := hp0.2 j hj'
      rw [ix_lt (by omega)] at this
      simp [this]
  have hlt : ∀ j, i0 < j → j ≤ L.length → ((L.take j).filter fun e => !p e).length < j := fun j h1 h2 => filter_lt h1 h2 (by rw [hp0.1]; rfl)
  refine FnM.introC Tryz.call107 Tryz.func107 rfl rfl ?_
  conv => whnf
  refine CallC.sca _ (c) ?_ ?_
  · exact rfl
  refine And.intro (inI64 (by omega) (by omega)) ?_
  refine LoopC.mk (fun j : Nat => i0 < j ∧ j ≤ L.length) (fun j => [(0, .osl 0), (1, .fn (.func F) [] [.eptr r1 0, .eptr r2 0]), (5, .int .i64 ((L.take j).filter fun e => !p e).length), (6, .int .i64 j)])
    (fun j => [(0, .arr 9 1 L.length fun i => [.str (B (ix (kept p L j) i))])]) 1 (fun j => L.length - j) (i0 + 1)
    ⟨⟨by omega, hi0⟩, [(0, 0)], rfl, rfl, ⟨AVle.refl _, AVle.refl _, AVle.of_eq (congrArg (AV.int .i64) (by rw [hk0]; simp; omega)), AVle.of_eq (congrArg (AV.int .i64) (by simp)), trivial⟩, ⟨MOle.arr rfl fun i hi => by
      have e : kept p L (i0 + 1) = L := by unfold kept; rw [hk0]; simp only [List.length_take]; rw [Nat.min_eq_left (by omega)]; simp
      rw [e], trivial⟩⟩ ?_
  intro j hj
  obtain ⟨hj1, hj2⟩ := hj
  have hkl := hlt j hj1 hj2
  refine Grd.intro (fun h2 => ?_) (fun h2 => ?_)
  · have hjn : j < L.length := by have := of_decide_eq_true h2; omega
    have hsn := filter_snoc (p := fun e => !p e) hjn
    have e := kept_at (p := p) hjn (Nat.le_of_lt hkl)
    have cp := hp (ix L j) (getD_mem hjn)
    rw [← e] at cp
    refine And.intro (by omega) ?_
    conv => whnf
    refine CallC.sca _ (cp) ?_ ?_
    · exact rfl
    refine Grd.intro (fun h3 => ?_) (fun h3 => ?_)
    · have h3 : p (ix L j) = false := by rw [e] at h3; simpa using h3
      rw [h3] at hsn
      have hl := hlt (j + 1) (by omega) hjn
      rw [hsn] at hl
      simp at hl
      refine And.intro (by omega) ?_
      refine And.intro (inI64 (by omega) (by omega)) ?_
      refine And.intro (inI64 (by omega) (by omega)) ?_
      refine ⟨j + 1, ⟨by omega, hjn⟩, by omega, [(0, 0)], rfl, rfl, ⟨AVle.refl _, AVle.refl _, AVle.of_eq (congrArg (AV.int .i64) (by rw [hsn]; simp)), AVle.of_eq (congrArg (AV.int .i64) (by simp)), trivial⟩, ⟨MOle.arr rfl fun k hk => ?_, trivial⟩⟩
      have en := kept_next hjn h3 hkl k hk
      by_cases hkc : k = ((L.take j).filter fun e => !p e).length
      · rw [en, if_pos hkc, ← e]
        show (bif Nat.beq k ((L.take j).filter fun e => !p e).length then _ else _) = _
        rw [hkc, beq_t]; rfl
      · rw [en, if_neg hkc]
        show (bif Nat.beq k ((L.take j).filter fun e => !p e).length then _ else _) = _
        rw [beq_f hkc]; rfl
    · have h3 : p (ix L j) = true := by rw [e] at h3; simpa using h3
      rw [h3] at hsn
      refine And.intro (inI64 (by omega) (by omega)) ?_
      refine ⟨j + 1, ⟨by omega, hjn⟩, by omega, [(0, 0)], rfl, rfl, ⟨AVle.refl _, AVle.refl _, AVle.of_eq (congrArg (AV.int .i64) (by rw [hsn]; simp)), AVle.of_eq (congrArg (AV.int .i64) (by simp)), trivial⟩, ⟨MOle.arr rfl fun k hk => ?_, trivial⟩⟩
      have e2 : kept p L (j + 1) = kept p L j := by unfold kept; rw [hsn]; simp
      rw [e2]
  · have : j = L.length := by have := of_decide_eq_false h2; omega
    subst this
    have eT : L.take L.length = L := List.take_of_length_le (Nat.le_refl _)
    obtain ⟨c, hc⟩ : ∃ c, c = ((L.take L.length).filter fun e => !p e).length := ⟨_, rfl⟩
    have hk : ∀ k, k < c → ix (kept p L L.length) k = ix (L.filter fun e => !p e) k := fun k hk => by
      unfold kept
      rw [ix_app_l (by omega), eT]
    have hcl : c = (L.filter fun e => !p e).length := by rw [hc, eT]
    rw [← hc] at hkl
    rw [← hc]
    refine And.intro ⟨by omega, by omega⟩ ?_
    conv => whnf
    refine OpC.clear rfl rfl rfl rfl rfl rfl rfl (by show 1 ≤ L.length - ((c : Int)).toNat; omega) ?_
    conv => whnf
    refine OpC.head rfl rfl rfl rfl rfl rfl rfl ⟨by omega, by omega⟩ ?_
    refine And.intro trivial ⟨[(0, 0), (1, 1)], rfl, AVle.refl _, ⟨MOle.arr (by show ((c : Int)).toNat = _; omega) fun k hk' => ?_, trivial⟩⟩
    have hk' : k < c := by have : k < ((c : Int)).toNat := hk'; omega
    rw [← hk k hk']
    show (bif Nat.blt k ((c : Int)).toNat then _ else _) = _
    rw [blt_t (show k < ((c : Int)).toNat by omega)]; rfl
theorem DelStr2_none (L : List (List UInt8)) (hL : L.length ≤ 1000000) (F : Nat) (r1 r2 : List AV) (p : List UInt8 → Bool) (hp : ∀ e ∈ L, VFn Tryz.prog F [.str (B e), .eptr r1 0, .eptr r2 0] (.bool (p e))) (hs : L.any p = false) :
    FnM Tryz.prog 107 1 [.osl 0, .fn (.func F) [] [.eptr r1 0, .eptr r2 0]] [(0, .arr 9 1 L.length fun i => [.str (B (ix L i))])] (.osl 0) [(0, .arr 9 1 L.length fun i => [.str (B (ix L i))])] 1 := by
  have c := IndexStr_2 L (by omega) F r1 r2 p hp
  have h1 : fi p L = -1 := by
    rcases fi_first p L with ⟨h, _⟩ | ⟨i, hi, _, hp, _⟩
    · exact h
    · rw [List.any_eq_true.2 ⟨_, getD_mem hi, hp⟩] at hs; cases hs
  rw [h1] at c
  refine FnM.introC Tryz.call107 Tryz.func107 rfl rfl ?_
  conv => whnf
  refine CallC.sca _ (c) ?_ ?_
  · exact rfl
  exact And.intro trivial ⟨[(0, 0)], rfl, AVle.refl _, ⟨MOle.refl _, trivial⟩⟩
theorem HasPrefix_fn (s p : List UInt8) : VFn Tryz.prog 145 [.str (B s), .str (B p)] (.bool (Lib.hasPrefix s p)) := by
  refine VFn.lib Tryz.call145 fun w ok vs hJ hok hv => ?_
  obtain ⟨v, us, rfl, hv, v2, us2, rfl, hv2, hus⟩ := hv
  have e1 : v = .string (B s) := hv
  have e2 : v2 = .string (B p) := hv2
  have e3 : us2 = [] := hus
  subst e1 e2 e3
  refine (Tryz.strings_HasPrefix (B s) (B p) w).mono ?_
  rintro e w' ⟨rfl, rfl⟩
  refine ⟨_, rfl, Go.RowKit.Below.refl _ _, fun _ _ => ?_⟩
  show Value.bool _ = _
  rw [B_data, B_data]
theorem keys_own (x : Sto) (hL : x.os.length ≤ 1000000) (p : List UInt8) : FnM Tryz.prog 108 0 [x.av, .str (B p)] [] (.osl 0) [(0, .arr 9 1 ((x.os.map (·.key)).filter fun k => Lib.hasPrefix k p).length fun j => [.str (B (ix ((x.os.map (·.key)).filter fun k => Lib.hasPrefix k p) j))])] 1 := by
  have hle : ∀ i, (((x.os.take i).map (·.key)).filter fun k => Lib.hasPrefix k p).length ≤ i := fun i => Nat.le_trans (List.length_filter_le _ _) (by simp; omega)
  refine FnM.introC Tryz.call108 Tryz.func108 rfl rfl ?_
  refine LoopC.mk (fun i : Nat => i ≤ x.os.length) (fun i => [(1, .str (B p)), (5, .osl 1), (10, obs x.os), (11, .int .i64 x.os.length), (12, .int .i64 i)])
    (fun i => [(0, .box x.row), (1, .arr 9 1 (((x.os.take i).map (·.key)).filter fun k => Lib.hasPrefix k p).length fun j => [.str (B (ix (((x.os.take i).map (·.key)).filter fun k => Lib.hasPrefix k p) j))])]) 2 (fun i => x.os.length - i) 0
    ⟨Nat.zero_le _, [(0, 0), (1, 1)], rfl, rfl, ⟨AVle.refl _, AVle.refl _, AVle.refl _, AVle.refl _, AVle.refl _, trivial⟩, ⟨MOle.refl _, MOle.arr rfl fun i hi => absurd hi (Nat.not_lt_zero i), trivial⟩⟩ ?_
  intro i hi
  have hli := hle i
  refine Grd.intro (fun h2 => ?_) (fun h2 => ?_)
  · have hin : i < x.os.length := by have := of_decide_eq_true h2; omega
    have hs := map_take_filter (f := fun o : Ob => o.key) (p := fun k => Lib.hasPrefix k p) hin
    refine And.intro (by omega) ?_
    conv => whnf
    refine CallC.sca _ (HasPrefix_fn (ix x.os i).key p) ?_ ?_
    · exact rfl
    refine Grd.intro (fun h3 => ?_) (fun h3 => ?_)
    · rw [if_pos h3] at hs
      refine And.intro ⟨show ((((x.os.take i).map (·.key)).filter fun k => Lib.hasPrefix k p).length + 1) * 16 ≤ 140737488355328 by omega, all1 rfl⟩ ?_
      refine And.intro (inI64 (by omega) (by omega)) ?_
      exact ⟨i + 1, hin, by omega, [(0, 0), (4, 1)], rfl, rfl, ⟨AVle.refl _, AVle.refl _, AVle.refl _, AVle.refl _, AVle.of_eq (congrArg (AV.int .i64) (by simp)), trivial⟩, ⟨MOle.refl _, arr_next (f := fun s : List UInt8 => [.str (B s)]) hs rfl, trivial⟩⟩
    · rw [if_neg (by rw [h3]; simp)] at hs
      refine And.intro (inI64 (by omega) (by omega)) ?_
      exact ⟨i + 1, hin, by omega, [(0, 0), (1, 1)], rfl, rfl, ⟨AVle.refl _, AVle.refl _, AVle.refl _, AVle.refl _, AVle.of_eq (congrArg (AV.int .i64) (by simp)), trivial⟩, ⟨MOle.refl _, MOle.of_eq (show MO.arr 9 1 (((x.os.take i).map (·.key)).filter fun k => Lib.hasPrefix k p).length (fun j => [.str (B (ix (((x.os.take i).map (·.key)).filter fun k => Lib.hasPrefix k p) j))]) = _ by rw [hs]), trivial⟩⟩
  · have : i = x.os.length := by have := of_decide_eq_false h2; omega
    subst this
    have e : x.os.take x.os.length = x.os := List.take_of_length_le (Nat.le_refl _)
    exact And.intro trivial ⟨[(1, 0)], rfl, AVle.refl _, ⟨MOle.of_eq (show MO.arr 9 1 (((x.os.take x.os.length).map (·.key)).filter fun k => Lib.hasPrefix k p).length (fun j => [.str (B (ix (((x.os.take x.os.length).map (·.key)).filter fun k => Lib.hasPrefix k p) j))]) = _ by rw [e]), trivial⟩⟩
def pinP : List UInt8 := [112, 105, 110, 47]
def pinQ (d : List UInt8) (now : Int) : Bool := numOk d && decide (atoiV d + 6 < now)
def keepK (x : Sto) (now : Int) (k : List UInt8) : Bool := Lib.hasPrefix k pinP && !pinQ (x.get k).data now
def pinL (x : Sto) (now : Int) : List (List UInt8) := (x.os.map (·.key)).filter (keepK x now)
theorem pinL_two (x : Sto) (now : Int) : ((x.os.map (·.key)).filter fun k => Lib.hasPrefix k pinP).filter (fun k => !pinQ (x.get k).data now) = pinL x now := by
  unfold pinL
  rw [List.filter_filter]
  exact List.filter_congr fun k _ => by unfold keepK; rw [Bool.and_comm]
theorem pins1_fn (x : Sto) (hs : x.ok = true) (now : Int) (k : List UInt8) (hk : x.has k = true) : VFn Tryz.prog 109 [.str (B k), .eptr x.row 0, .eptr [.int .i64 now] 0] (.bool (pinQ (x.get k).data now)) := by
  have c := get_fn x hs k
  rw [if_pos hk] at c
  have hd := (get_ok x hs k hk).1
  have cn := number_fn (x.get k).data (by omega)
  unfold pinQ
  by_cases ho : numOk (x.get k).data = true
  · obtain ⟨n, e1, e2, h0, h1⟩ := num_of ho
    rw [ho] at cn ⊢
    refine VFn.introC Tryz.call109 Tryz.func109 rfl rfl ?_
    conv => whnf
    refine CallC.sca _ (c) ?_ ?_
    · exact rfl
    conv => whnf
    refine CallC.sca _ (cn) ?_ ?_
    · exact rfl
    refine And.intro (inI64 (by omega) (by omega)) ?_
    exact And.intro trivial (AVle.refl _)
  · have ho : numOk (x.get k).data = false := by simpa using ho
    rw [ho] at cn ⊢
    refine VFn.introC Tryz.call109 Tryz.func109 rfl rfl ?_
    conv => whnf
    refine CallC.sca _ (c) ?_ ?_
    · exact rfl
    conv => whnf
    refine CallC.sca _ (cn) ?_ ?_
    · exact rfl
    exact And.intro trivial (AVle.refl _)
theorem pins_fn (x : Sto) (hs : x.ok = true) (now : Int) : VFn Tryz.prog 59 [x.av, .int .i64 now] (txts (pinL x now)) := by
  have hL := (Sto.ok_at hs).2.1
  have ck := keys_own x (by omega) pinP
  obtain ⟨K, hK⟩ : ∃ K, K = (x.os.map (·.key)).filter fun k => Lib.hasPrefix k pinP := ⟨_, rfl⟩
  have hKl : K.length ≤ 1000000 := by rw [hK]; have := List.length_filter_le (fun k => Lib.hasPrefix k pinP) (x.os.map (·.key)); simp at this; omega
  have hp : ∀ e ∈ K, VFn Tryz.prog 109 [.str (B e), .eptr x.row 0, .eptr [.int .i64 now] 0] (.bool (pinQ (x.get e).data now)) := fun e he => pins1_fn x hs now e (has_of_mem hs (by rw [hK] at he; exact (List.mem_filter.1 he).1))
  have e2 : (K.filter fun k => !pinQ (x.get k).data now) = pinL x now := by rw [hK]; exact pinL_two x now
  rw [← hK] at ck
  by_cases ha : K.any (fun k => pinQ (x.get k).data now) = true
  · have hd := DelStr2_some K hKl 109 x.row [.int .i64 now] (fun k => pinQ (x.get k).data now) hp ha
    rw [e2] at hd
    refine VFn.introC Tryz.call59 Tryz.func59 rfl rfl ?_
    conv => whnf
    refine CallC.k [] ck rfl rfl (AVsle.refl _) trivial rfl ?_
    conv => whnf
    refine CallC.m [(2, 0)] hd rfl rfl (AVsle.refl _) ⟨MOle.refl _, trivial⟩ rfl ⟨fun i hi => rfl, trivial⟩ rfl ?_
    exact And.intro trivial (AVle.sl rfl fun j hj => rfl)
  · have ha : K.any (fun k => pinQ (x.get k).data now) = false := by simpa using ha
    have hd := DelStr2_none K hKl 109 x.row [.int .i64 now] (fun k => pinQ (x.get k).data now) hp ha
    have e3 : K = pinL x now := by
      rw [← e2]
      exact (List.filter_eq_self.2 fun k hk => by
        have := List.any_eq_false.1 ha k hk
        simpa using this).symm
    rw [e3] at hd ck
    refine VFn.introC Tryz.call59 Tryz.func59 rfl rfl ?_
    conv => whnf
    refine CallC.k [] ck rfl rfl (AVsle.refl _) trivial rfl ?_
    conv => whnf
    refine CallC.m [(2, 0)] hd rfl rfl (AVsle.refl _) ⟨MOle.refl _, trivial⟩ rfl ⟨fun i hi => rfl, trivial⟩ rfl ?_
    exact And.intro trivial (AVle.sl rfl fun j hj => rfl)
end Go.Proofs.YtfaffgneccjpbaaGreatDoor
set_option linter.unusedVariables false
set_option linter.constructorNameAsVariable false
set_option linter.unusedSimpArgs false
set_option maxRecDepth 20000
namespace Go.Proofs.YtfaffgneccjpbaaGreatDoor
open Go Go.Vw

theorem keyOK_len {k : List UInt8} (h : keyOK k = true) : k.length ≤ 30 := by
  unfold keyOK at h
  rw [Bool.and_eq_true] at h
  have := h.2
  simp [within] at this
  omega
theorem notLongP1 (t : List UInt8) (h : t.length ≤ 65536) {n : Nat} {rows : Nat → List AV} (hn : n = 1) (h0 : rows 0 = [.str (B t)]) : VFn Tryz.prog 43 [.sl 1 n rows] (.bool false) := by
  have c := isLong_fn [t] (by simp)
  have e : (!([t].all fun t => decide (t.length ≤ 65536))) = false := by simp; omega
  rw [e] at c
  exact c.weak (AVsle.cons (AVle.sl hn (fun i hi => by
    have : i = 0 := by omega
    subst this; exact h0)) AVsle.nil) (AVle.refl _)
theorem storeCode_fn (s : Sto) (hr : StoRd s) (hs : s.ok = true) (k : List UInt8) (hk : keyOK k = true) : VFn Tryz.prog 44 [s.av, .str (B k)] (.int .i64 0) := by
  have c := StoreOK_fn s (by have := hr.len; omega) hr.key
  rw [hs] at c
  have ck := KeyOK_fn k (by have := keyOK_len hk; omega)
  rw [hk] at ck
  refine VFn.introC Tryz.call44 Tryz.func44 rfl rfl ?_
  conv => whnf
  refine CallC.sca _ (c) ?_ ?_
  · exact rfl
  conv => whnf
  refine CallC.sca _ (ck) ?_ ?_
  · exact rfl
  conv => whnf
  refine CallC.sca _ (first2_of false false 1 19 ⟨rfl, rfl, rfl, rfl, trivial⟩ rfl (show _ = (0 : Int) from rfl)) ?_ ?_
  · exact rfl
  exact And.intro trivial (AVle.refl _)
theorem GetObject_yes (s : Sto) (hr : StoRd s) (hs : s.ok = true) (k : List UInt8) (hk : keyOK k = true) (hh : s.has k = true) : VFn Tryz.prog 15 [s.av, .str (B k)] (.tup [.str (B (s.get k).data), .int .i64 (s.get k).ver, .int .i64 0]) := by
  have c1 := storeCode_fn s hr hs k hk
  have hkl := keyOK_len hk
  have c2 := find_fn s hs k
  obtain ⟨h1, h2⟩ := hasK_at hh
  rw [hh] at c2
  refine VFn.introC Tryz.call15 Tryz.func15 rfl rfl ?_
  refine DrawC.mk 13 rfl (by kernel_rfl) ?_
  refine PCallC.sca _ (notLongP1 k (by omega) rfl rfl) rfl ?_
  refine PCallC.sca _ (c1) rfl ?_
  refine PCallC.sca _ (first2_of false true 2 0 ⟨rfl, rfl, rfl, rfl, trivial⟩ rfl (show _ = (0 : Int) from rfl)) rfl ?_
  conv => whnf
  refine CallC.sca _ (c2) ?_ ?_
  · exact rfl
  refine DrawC.mk 15 rfl (by kernel_rfl) ?_
  refine And.intro ⟨by omega, by have : s.pos k < s.os.length := h1; omega⟩ ?_
  refine And.intro ⟨by omega, by have : s.pos k < s.os.length := h1; omega⟩ ?_
  exact And.intro trivial (AVle.refl _)
def pinK (n : Int) : List UInt8 := [112, 105, 110, 47] ++ Lib.itoa n
theorem pinKey_fn (n : Int) (h : 0 ≤ n ∧ n ≤ 9) : VFn Tryz.prog 42 [.int .i64 n] (.str (B (pinK n))) := by
  have hl := itoa_len (n := n) (by omega) (by omega)
  refine VFn.introC Tryz.call42 Tryz.func42 rfl rfl ?_
  conv => whnf
  refine CallC.sca _ (Itoa_fn n (by omega) (by omega)) ?_ ?_
  · exact rfl
  refine And.intro (show (((B [112, 105, 110, 47]).size + (B (Lib.itoa n)).size : Nat) : Int) ≤ 9223372036854775807 by rw [B_size, B_size]; simp; omega) ?_
  exact And.intro trivial (AVle.of_eq (congrArg AV.str (show B [112, 105, 110, 47] ++ B (Lib.itoa n) = B (pinK n) from B_app _ _)))
end Go.Proofs.YtfaffgneccjpbaaGreatDoor
set_option linter.unusedVariables false
set_option linter.constructorNameAsVariable false
set_option linter.unusedSimpArgs false
set_option maxRecDepth 20000
namespace Go.Proofs.YtfaffgneccjpbaaGreatDoor
open Go Go.Vw

def orphL (x : Sto) : List (List UInt8) := (dataKs x).filter (logS x).orph
def swO (x : Sto) : Sto × Int := match orphL x with | [] => (x, 18) | k :: _ => (wo x k, 0)
end Go.Proofs.YtfaffgneccjpbaaGreatDoor
set_option linter.unusedVariables false
set_option linter.constructorNameAsVariable false
set_option linter.unusedSimpArgs false
set_option maxRecDepth 20000
namespace Go.Proofs.YtfaffgneccjpbaaGreatDoor
open Go Go.Vw

theorem mem_has {s : Sto} (h : Srt s.os) {o : Ob} (ho : o ∈ s.os) : s.has o.key = true ∧ s.get o.key = o := by
  obtain ⟨j, hj, e⟩ := List.getElem_of_mem ho
  have ej : ix s.os j = o := by rw [ix_lt hj]; exact e
  have hl := lb_le o.key s.os
  have h1 : lb o.key s.os ≤ j := by
    rcases Nat.lt_or_ge j (lb o.key s.os) with h1 | h1
    · have := lb_lt h1
      rw [ej] at this
      exact absurd this (List.lt_irrefl _)
    · exact h1
  have h2 : lb o.key s.os = j := by
    rcases Nat.lt_or_ge (lb o.key s.os) j with h2 | h2
    · have h3 := h.lt h2 hj
      rw [ej] at h3
      exact absurd h3 (lb_ge (by omega))
    · omega
  have h3 : ix s.os (lb o.key s.os) = o := by rw [h2]; exact ej
  refine ⟨?_, h3⟩
  unfold Sto.has hasK
  rw [h3, decide_eq_true (by omega : lb o.key s.os < s.os.length)]
  simp
theorem has_get {s : Sto} {k : List UInt8} (h : s.has k = true) : s.get k ∈ s.os ∧ (s.get k).key = k := by
  obtain ⟨h1, h2⟩ := hasK_at h
  exact ⟨getD_mem h1, h2⟩
theorem set_mem {s : Sto} (h : Srt s.os) (k d : List UInt8) (o : Ob) : o ∈ (s.set k d).os ↔ o = ⟨k, s.next, d⟩ ∨ (o ∈ s.os ∧ o.key ≠ k) := by
  have e : (s.set k d).os = s.os.take (lb k s.os) ++ (⟨k, s.next, d⟩ :: s.os.drop (if hasK k s.os = true then lb k s.os + 1 else lb k s.os)) := rfl
  have ht := lb_take (k := k) (L := s.os)
  have hd := lb_drop (k := k) h
  rw [e, List.mem_append, List.mem_cons]
  constructor
  · rintro (h1 | h1 | h1)
    · refine .inr ⟨List.mem_of_mem_take h1, fun e => ?_⟩
      have := ht o h1
      rw [e] at this
      exact List.lt_irrefl _ this
    · exact .inl h1
    · refine .inr ⟨List.mem_of_mem_drop h1, fun e => ?_⟩
      have := hd o h1
      rw [e] at this
      exact List.lt_irrefl _ this
  · rintro (h1 | ⟨h1, h2⟩)
    · exact .inr (.inl h1)
    · obtain ⟨j, hj, e1⟩ := List.getElem_of_mem h1
      rcases Nat.lt_or_ge j (lb k s.os) with h3 | h3
      · left
        exact List.mem_take_iff_getElem.2 ⟨j, by omega, e1⟩
      · right; right
        have hq : (if hasK k s.os = true then lb k s.os + 1 else lb k s.os) ≤ j := by
          split
          · rename_i hk
            obtain ⟨k1, k2⟩ := hasK_at hk
            rcases Nat.lt_or_ge (lb k s.os) j with h4 | h4
            · exact h4
            · have : j = lb k s.os := by omega
              subst this
              rw [ix_lt hj, e1] at k2
              exact absurd k2 h2
          · exact h3
        refine List.mem_iff_getElem.2 ⟨j - (if hasK k s.os = true then lb k s.os + 1 else lb k s.os), by rw [List.length_drop]; omega, ?_⟩
        rw [List.getElem_drop]
        simp only [show (if hasK k s.os = true then lb k s.os + 1 else lb k s.os) + (j - (if hasK k s.os = true then lb k s.os + 1 else lb k s.os)) = j by omega]
        exact e1
/-- what is put elsewhere changes nothing here -/
theorem set_ne {s : Sto} (hs : s.ok = true) {k d : List UInt8} (hy : (s.set k d).ok = true) {k' : List UInt8} (hk : k' ≠ k) : (s.set k d).has k' = s.has k' ∧ (s.has k' = true → (s.set k d).get k' = s.get k') := by
  have h1 := Sto.srt hs
  have h2 := Sto.srt hy
  have fw : (s.set k d).has k' = true → s.has k' = true := fun h => by
    obtain ⟨a1, a2⟩ := has_get h
    rcases (set_mem h1 k d _).1 a1 with e | ⟨e, _⟩
    · rw [e] at a2; exact absurd a2.symm hk
    · have := (mem_has h1 e).1
      rwa [a2] at this
  have bw : s.has k' = true → (s.set k d).has k' = true ∧ (s.set k d).get k' = s.get k' := fun h => by
    obtain ⟨a1, a2⟩ := has_get h
    have := mem_has h2 ((set_mem h1 k d _).2 (.inr ⟨a1, by rw [a2]; exact hk⟩))
    rw [a2] at this
    exact this
  refine ⟨?_, fun h => (bw h).2⟩
  cases h : s.has k' with
  | true => exact (bw h).1
  | false =>
    cases h' : (s.set k d).has k' with
    | false => rfl
    | true => rw [fw h'] at h; cases h
theorem logN_congr {x y : Sto} : ∀ n : Nat, (∀ j, j < n → (y.get (manK ((j + 1 : Nat) : Int))).data = (x.get (manK ((j + 1 : Nat) : Int))).data) → logN y n = logN x n
  | 0, _ => rfl
  | n + 1, h => by
    show stepL y (logN y n) = stepL x (logN x n)
    rw [logN_congr n fun j hj => h j (by omega)]
    unfold stepL recAt
    rw [logN_seq x n, show ((n : Nat) : Int) + 1 = ((n + 1 : Nat) : Int) by omega, h n (by omega)]
def Sta.lay (s : Sta) (t : List UInt8) : Sta := match readR t with | none => s.tick | some r => s.app r
/-- the log of a store in which the next record was laid -/
theorem log_grow {x y : Sto} (hy : y.ok = true) {n : Nat} (hn : n ≤ 299) (hh : ∀ j, j < n → x.has (manK ((j + 1 : Nat) : Int)) = true) (he : logEnd x = n)
    (h1 : ∀ j, j < n → y.has (manK ((j + 1 : Nat) : Int)) = true ∧ (y.get (manK ((j + 1 : Nat) : Int))).data = (x.get (manK ((j + 1 : Nat) : Int))).data)
    (h2 : y.has (manK ((n + 1 : Nat) : Int)) = true) (h3 : y.has (manK ((n + 2 : Nat) : Int)) = false) : logEnd y = n + 1 ∧ logS y = (logS x).lay (y.get (manK ((n + 1 : Nat) : Int))).data := by
  have e : n + 1 = logEnd y := log_end hy (by omega) (fun j hj => by
    rcases Nat.lt_or_ge j n with h | h
    · exact (h1 j h).1
    · have : j = n := by omega
      subst this; exact h2) h3
  refine ⟨e.symm, ?_⟩
  unfold logS
  rw [← e, he]
  show stepL y (logN y n) = _
  rw [logN_congr n fun j hj => (h1 j hj).2]
  unfold stepL recAt Sta.lay
  rw [logN_seq x n, show ((n : Nat) : Int) + 1 = ((n + 1 : Nat) : Int) by omega]
  generalize readR _ = o
  cases o <;> rfl
end Go.Proofs.YtfaffgneccjpbaaGreatDoor
