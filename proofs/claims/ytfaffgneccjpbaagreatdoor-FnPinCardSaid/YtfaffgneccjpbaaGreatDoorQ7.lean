/- Contracts of functions that the claim reaches, and the plain law of what they compute; each theorem bears its own conditions. -/
import Derived.Test.YtfaffgneccjpbaaGreatDoorQ6
import Derived.Test.YtfaffgneccjpbaaGreatDoorQ4
import Derived.Test.YtfaffgneccjpbaaGreatDoorV50
import Derived.Test.YtfaffgneccjpbaaGreatDoorQ5
import Derived.Test.YtfaffgneccjpbaaGreatDoorQ3
import Derived.Test.YtfaffgneccjpbaaGreatDoorQ2
set_option linter.unusedVariables false
set_option linter.constructorNameAsVariable false
set_option linter.unusedSimpArgs false
set_option maxRecDepth 20000
namespace Go.Proofs.YtfaffgneccjpbaaGreatDoor
open Go Go.Vw

def Sta.orow (s : Sta) (a b : Nat) : List AV := [.int .i64 s.seq, .int .i64 s.fence, .osl a, .osl b, .int .i64 s.l0, .int .i64 s.l1, .int .i64 s.l2, .int .i64 s.h0, .int .i64 s.h1, .int .i64 s.h2]
theorem logN_no {x : Sto} {i : Nat} {st : Sta} (h : logN x i = st) (hr : recAt x ((i : Int) + 1) = none) : logN x (i + 1) = st.tick := by
  show stepL x (logN x i) = _
  unfold stepL
  rw [logN_seq, hr, h]
theorem logN_yes {x : Sto} {i : Nat} {st : Sta} {r : Rc} (h : logN x i = st) (hr : recAt x ((i : Int) + 1) = some r) : logN x (i + 1) = st.app r := by
  show stepL x (logN x i) = _
  unfold stepL
  rw [logN_seq, hr, h]
theorem has_next {x : Sto} {i : Nat} (h : ∀ j, j < i → x.has (manK ((j + 1 : Nat) : Int)) = true) (h' : x.has (manK ((i : Int) + 1)) = true) : ∀ j, j < i + 1 → x.has (manK ((j + 1 : Nat) : Int)) = true := fun j hj => by
  rcases Nat.lt_or_ge j i with h1 | h1
  · exact h j h1
  · have : j = i := by omega
    subst this; exact h'
theorem replay_own (x : Sto) (hs : x.ok = true) (F : Nat) (hF : ∀ (r : Rc) (took : Bool), VFn Tryz.prog F [r.av, .bool took] (.tup [])) :
    FnM Tryz.prog 75 0 [x.av, .fn (.func F) [] []] [] (logS x).own (logS x).objs 2 := by
  have hL := (Sto.ok_at hs).2.1
  refine FnM.introC Tryz.call75 Tryz.func75 rfl rfl ?_
  refine LoopC.nilb 2 2 35 4 (fun _ => []) rfl rfl ?_
  conv => whnf
  refine LoopC.nilb 2 3 136 2 (fun _ => []) rfl rfl ?_
  conv => whnf
  refine LoopC.mk (fun i : Nat => ∀ j, j < i → x.has (manK ((j + 1 : Nat) : Int)) = true) (fun i => [(1, .fn (.func F) [] []), (2, .bptr 0 0), (4, .bptr 1 0), (5, .bptr 2 0)])
    (fun i => [(0, .box x.row), (1, .box sta0.nrow), (2, .box ((logN x i).orow 3 4)), (3, .arr 35 4 (logN x i).es.length fun j => (ix (logN x i).es j).row), (4, .arr 136 2 (logN x i).ts.length fun j => (ix (logN x i).ts j).row)]) 5 (fun i => 1000 - i) 0
    ⟨fun j hj => absurd hj (Nat.not_lt_zero j), [(0, 0), (1, 1), (2, 2), (3, 3), (4, 4)], rfl, rfl, ⟨AVle.refl _, AVle.refl _, AVle.refl _, AVle.refl _, trivial⟩, ⟨MOle.refl _, MOle.refl _, MOle.refl _, MOle.arr rfl fun i hi => absurd hi (Nat.not_lt_zero i), MOle.arr rfl fun i hi => absurd hi (Nat.not_lt_zero i), trivial⟩⟩ ?_
  intro i hi
  have hi3 : i ≤ 300 := by
    rcases Nat.lt_or_ge 300 i with h | h
    · have := log_len (x := x) (n := 301) (by omega) (fun j hj => hi j (by omega)); omega
    · exact h
  obtain ⟨st, hst⟩ : ∃ st, logN x i = st := ⟨_, rfl⟩
  have hseq := logN_seq x i
  have hlen := logN_len x i
  have hlog := logN_log x i
  rw [hst] at hseq hlen hlog ⊢
  refine Grd.intro (fun h2 => ?_) (fun h2 => absurd (of_decide_eq_false h2) (fun h => h (by omega)))
  have cg := get_fn x hs (manK (st.seq + 1))
  by_cases hh : x.has (manK (st.seq + 1)) = true
  · rw [if_pos hh] at cg
    refine DrawC.mk 12 rfl (by kernel_rfl) ?_
    refine And.intro (inI64 (by omega) (by omega)) ?_
    conv => whnf
    refine PCallC.sca _ (six_fn (st.seq + 1) (by simp [within]; omega)) rfl ?_
    conv => whnf
    refine And.intro (show ((4 + (B (six6 (st.seq + 1).toNat)).size : Nat) : Int) ≤ 9223372036854775807 by rw [B_size, six6_len]; decide) ?_
    refine force_to (congrArg AV.str (show B [109, 97, 110, 47] ++ B (six6 (st.seq + 1).toNat) = B (manK (st.seq + 1)) from B_app _ _)) ?_
    conv => whnf
    refine PCallC.sca _ (cg) rfl ?_
    have hd := (get_ok x hs _ hh).1
    have hh' : x.has (manK ((i : Int) + 1)) = true := by rw [← hseq]; exact hh
    cases hr : readR (x.get (manK (st.seq + 1))).data with
    | none =>
      obtain ⟨r, cr⟩ := readRecord_no _ (by omega) hr
      conv => whnf
      refine CallC.sca _ (cr) ?_ ?_
      · exact rfl
      refine And.intro (inI64 (by omega) (by omega)) ?_
      have e := logN_no hst (by unfold recAt; rw [← hseq]; exact hr)
      refine ⟨i + 1, has_next hi hh', by omega, [(0, 0), (1, 1), (2, 2), (3, 3), (4, 4)], rfl, rfl, ⟨AVle.refl _, AVle.refl _, AVle.refl _, AVle.refl _, trivial⟩, ⟨MOle.refl _, MOle.refl _, MOle.of_eq (show MO.box (st.tick.orow 3 4) = _ by rw [e]), MOle.of_eq (show MO.arr 35 4 st.tick.es.length (fun j => (ix st.tick.es j).row) = _ by rw [e]), MOle.of_eq (show MO.arr 136 2 st.tick.ts.length (fun j => (ix st.tick.ts j).row) = _ by rw [e]), trivial⟩⟩
    | some r =>
      have hrk := readR_ok hr
      conv => whnf
      refine CallC.sca _ (readRecord_yes _ (by omega) hr) ?_ ?_
      · exact rfl
      conv => whnf
      refine CallC.m [] (apply_fn st (by omega) (by omega) r hrk) rfl rfl (AVsle.refl _) trivial rfl ⟨fun i hi => rfl, fun i hi => rfl, trivial⟩ rfl ?_
      conv => whnf
      refine CallC.sca _ (hF r (st.takes r)) ?_ ?_
      · exact rfl
      have e := logN_yes hst (by unfold recAt; rw [← hseq]; exact hr)
      refine ⟨i + 1, has_next hi hh', by omega, [(0, 0), (1, 1), (2, 2), (18, 3), (19, 4)], rfl, rfl, ⟨AVle.refl _, AVle.refl _, AVle.refl _, AVle.refl _, trivial⟩, ⟨MOle.refl _, MOle.refl _, MOle.of_eq (show MO.box ((st.app r).orow 3 4) = _ by rw [e]), MOle.of_eq (show MO.arr 35 4 (st.app r).es.length (fun j => (ix (st.app r).es j).row) = _ by rw [e]), MOle.of_eq (show MO.arr 136 2 (st.app r).ts.length (fun j => (ix (st.app r).ts j).row) = _ by rw [e]), trivial⟩⟩
  · have hh : x.has (manK (st.seq + 1)) = false := by simpa using hh
    rw [if_neg (by rw [hh]; simp)] at cg
    have e : logS x = st := by
      have := log_end hs hi3 hi (by rw [hseq] at hh; exact hh)
      unfold logS; rw [← this]; exact hst
    rw [e]
    refine DrawC.mk 12 rfl (by kernel_rfl) ?_
    refine And.intro (inI64 (by omega) (by omega)) ?_
    conv => whnf
    refine PCallC.sca _ (six_fn (st.seq + 1) (by simp [within]; omega)) rfl ?_
    conv => whnf
    refine And.intro (show ((4 + (B (six6 (st.seq + 1).toNat)).size : Nat) : Int) ≤ 9223372036854775807 by rw [B_size, six6_len]; decide) ?_
    refine force_to (congrArg AV.str (show B [109, 97, 110, 47] ++ B (six6 (st.seq + 1).toNat) = B (manK (st.seq + 1)) from B_app _ _)) ?_
    conv => whnf
    refine PCallC.sca _ (cg) rfl ?_
    exact And.intro trivial ⟨[(3, 0), (4, 1)], rfl, AVle.refl _, ⟨MOle.refl _, MOle.refl _, trivial⟩⟩
theorem log1_fn (r : Rc) (took : Bool) : VFn Tryz.prog 76 [r.av, .bool took] (.tup []) := by
  refine VFn.introC Tryz.call76 Tryz.func76 rfl rfl ?_
  exact And.intro trivial (AVle.refl _)
theorem log_own (x : Sto) (hs : x.ok = true) : FnM Tryz.prog 32 0 [x.av] [] (logS x).own (logS x).objs 2 := by
  refine FnM.introC Tryz.call32 Tryz.func32 rfl rfl ?_
  conv => whnf
  refine CallC.k [] (replay_own x hs 76 log1_fn) rfl rfl (AVsle.refl _) trivial rfl ?_
  exact And.intro trivial ⟨[(2, 0), (3, 1)], rfl, AVle.refl _, ⟨MOle.refl _, MOle.refl _, trivial⟩⟩
theorem log_fn (x : Sto) (hs : x.ok = true) : VFn Tryz.prog 32 [x.av] (logS x).av := (log_own x hs).vfn
end Go.Proofs.YtfaffgneccjpbaaGreatDoor
set_option linter.unusedVariables false
set_option linter.constructorNameAsVariable false
set_option linter.unusedSimpArgs false
set_option maxRecDepth 20000
namespace Go.Proofs.YtfaffgneccjpbaaGreatDoor
open Go Go.Vw

def rlC (x : Sto) : Int := if x.ok = true then 0 else 1
def rlS (x : Sto) : Sta := if x.ok = true then logS x else sta0
theorem ReplayLog_own (x : Sto) (hr : StoRd x) (hs : x.ok = true) : FnM Tryz.prog 7 0 [x.av] [] (.tup [(logS x).own, .int .i64 0]) (logS x).objs 2 := by
  have c := StoreOK_fn x (by have := hr.len; omega) hr.key
  rw [hs] at c
  refine FnM.introC Tryz.call7 Tryz.func7 rfl rfl ?_
  conv => whnf
  refine CallC.sca _ (c) ?_ ?_
  · exact rfl
  conv => whnf
  refine CallC.k [] (log_own x hs) rfl rfl (AVsle.refl _) trivial rfl ?_
  exact And.intro trivial ⟨[(2, 0), (3, 1)], rfl, AVle.refl _, ⟨MOle.refl _, MOle.refl _, trivial⟩⟩
end Go.Proofs.YtfaffgneccjpbaaGreatDoor
set_option linter.unusedVariables false
set_option linter.constructorNameAsVariable false
set_option linter.unusedSimpArgs false
set_option maxRecDepth 20000
namespace Go.Proofs.YtfaffgneccjpbaaGreatDoor
open Go Go.Vw

theorem map_take_filter {α β : Type} [Inhabited α] {f : α → β} {p : β → Bool} {L : List α} {i : Nat} (h : i < L.length) : ((L.take (i + 1)).map f).filter p = if p (f (ix L i)) = true then ((L.take i).map f).filter p ++ [f (ix L i)] else ((L.take i).map f).filter p := by
  rw [take_snoc h, List.map_append, List.filter_append]
  by_cases hp : p (f (ix L i)) = true
  · rw [if_pos hp]; simp [hp]
  · rw [if_neg hp]; simp [hp]
end Go.Proofs.YtfaffgneccjpbaaGreatDoor
set_option linter.unusedVariables false
set_option linter.constructorNameAsVariable false
set_option linter.unusedSimpArgs false
set_option maxRecDepth 20000
namespace Go.Proofs.YtfaffgneccjpbaaGreatDoor
open Go Go.Vw

theorem IndexStr_2 (L : List (List UInt8)) (hL : L.length ≤ 9223372036854775807) (F : Nat) (r1 r2 : List AV) (p : List UInt8 → Bool) (hp : ∀ e ∈ L, VFn Tryz.prog F [.str (B e), .eptr r1 0, .eptr r2 0] (.bool (p e))) :
    VFn Tryz.prog 144 [txts L, .fn (.func F) [] [.eptr r1 0, .eptr r2 0]] (.int .i64 (fi p L)) := by
  refine VFn.introC Tryz.call144 Tryz.func144 rfl rfl ?_
  refine LoopC.mk (fun i : Nat => i ≤ L.length ∧ ∀ j, j < i → p (ix L j) = false) (fun i => [(0, txts L), (1, .fn (.func F) [] [.eptr r1 0, .eptr r2 0]), (7, .int .i64 L.length), (8, .int .i64 i)]) (fun _ => []) 0 (fun i => L.length - i) 0
    ⟨⟨Nat.zero_le _, fun j hj => absurd hj (Nat.not_lt_zero j)⟩, [], rfl, rfl, ⟨AVle.refl _, AVle.refl _, AVle.refl _, AVle.refl _, trivial⟩, trivial⟩ ?_
  intro i hi
  refine Grd.intro (fun h2 => ?_) (fun h2 => ?_)
  · have hin : i < L.length := by have := of_decide_eq_true h2; omega
    refine And.intro (by omega) ?_
    conv => whnf
    refine CallC.sca _ (hp (ix L i) (getD_mem hin)) ?_ ?_
    · exact rfl
    refine Grd.intro (fun h3 => ?_) (fun h3 => ?_)
    · exact And.intro trivial (AVle.of_eq (congrArg (AV.int .i64) (fi_at hin hi.2 h3).symm))
    · refine And.intro (inI64 (by omega) (by omega)) ?_
      exact ⟨i + 1, ⟨hin, fun j hj => by
        rcases Nat.lt_or_ge j i with h' | h'
        · exact hi.2 j h'
        · rw [show j = i by omega]; exact h3⟩, by omega, [], rfl, rfl, ⟨AVle.refl _, AVle.refl _, AVle.refl _, AVle.of_eq (congrArg (AV.int .i64) (by simp)), trivial⟩, trivial⟩
  · have : i = L.length := by have := of_decide_eq_false h2; omega
    subst this
    exact And.intro trivial (AVle.of_eq (congrArg (AV.int .i64) (fi_none hi.2).symm))
theorem DelStr2_some (L : List (List UInt8)) (hL : L.length ≤ 1000000) (F : Nat) (r1 r2 : List AV) (p : (List UInt8) → Bool) (hp : ∀ e ∈ L, VFn Tryz.prog F [.str (B e), .eptr r1 0, .eptr r2 0] (.bool (p e))) (hs : L.any p = true) :
    FnM Tryz.prog 107 1 [.osl 0, .fn (.func F) [] [.eptr r1 0, .eptr r2 0]] [(0, .arr 9 1 L.length fun i => [.str (B (ix L i))])] (.osl 1) [(1, .arr 9 1 (L.filter fun e => !p e).length fun i => [.str (B (ix (L.filter fun e => !p e) i))])] 2 := by
  have c := IndexStr_2 L (by omega) F r1 r2 p hp
  obtain ⟨i0, hi0, hfi, hp0⟩ : ∃ i0 : Nat, i0 < L.length ∧ fi p L = (i0 : Int) ∧ p (ix L i0) = true ∧ ∀ j, j < i0 → p (ix L j) = false := by
    rcases fi_first p L with ⟨h, _⟩ | h
    · have := fi_any (p := p) (L := L)
      rw [h, hs] at this; simp at this
    · exact h
  rw [hfi] at c
  have hk0 : (L.take (i0 + 1)).filter (fun e => !p e) = L.take i0 := by
    rw [filter_snoc hi0, if_neg (by rw [hp0.1]; simp)]
    exact List.filter_eq_self.2 fun x hx => by
      obtain ⟨j, hj, rfl⟩ := List.getElem_of_mem hx
      have hj' : j < i0 := by simp at hj; omega
      have := hp0.2 j hj'
      rw [ix_lt (by omega)] at this
      simp [this]
  have hlt : ∀ j, i0 < j → j ≤ L.length → ((L.take j).filter fun e => !p e).length < j := fun j h1 h2 => filter_lt h1 h2 (by rw [hp0.1]; rfl)
  refine FnM.introC Tryz.call107 Tryz.func107 rfl rfl ?_
  conv => whnf
  refine CallC.sca _ (c) ?_ ?_
  · exact rfl
  refine And.intro (inI64 (by omega) (by omega)) ?_
  refine LoopC.mk (fun j : Nat => i0 < j ∧ j ≤ L.length) (fun j => [(0, .osl 0), (1, .fn (.func F) [] [.eptr r1 0, .eptr r2 0]), (5, .int .i64 ((L.take j).filter fun e => !p e).length), (6, .int .i64 j)])
    (fun j => [(0, .arr 9 1 L.length fun i => [.str (B (ix (kept p L j) i))])]) 1 (fun j => L.length - j) (i0 + 1)
    ⟨⟨by omega, hi0⟩, [(0, 0)], rfl, rfl, ⟨AVle.refl _, AVle.refl _, AVle.of_eq (congrArg (AV.int .i64) (by rw [hk0]; simp; omega)), AVle.of_eq (congrArg (AV.int .i64) (by simp)), trivial⟩, ⟨MOle.arr rfl fun i hi => by
      have e : kept p L (i0 + 1) = L := by unfold kept; rw [hk0]; simp only [List.length_take]; rw [Nat.min_eq_left (by omega)]; simp
      rw [e], trivial⟩⟩ ?_
  intro j hj
  obtain ⟨hj1, hj2⟩ := hj
  have hkl := hlt j hj1 hj2
  refine Grd.intro (fun h2 => ?_) (fun h2 => ?_)
  · have hjn : j < L.length := by have := of_decide_eq_true h2; omega
    have hsn := filter_snoc (p := fun e => !p e) hjn
    have e := kept_at (p := p) hjn (Nat.le_of_lt hkl)
    have cp := hp (ix L j) (getD_mem hjn)
    rw [← e] at cp
    refine And.intro (by omega) ?_
    conv => whnf
    refine CallC.sca _ (cp) ?_ ?_
    · exact rfl
    refine Grd.intro (fun h3 => ?_) (fun h3 => ?_)
    · have h3 : p (ix L j) = false := by rw [e] at h3; simpa using h3
      rw [h3] at hsn
      have hl := hlt (j + 1) (by omega) hjn
      rw [hsn] at hl
      simp at hl
      refine And.intro (by omega) ?_
      refine And.intro (inI64 (by omega) (by omega)) ?_
      refine And.intro (inI64 (by omega) (by omega)) ?_
      refine ⟨j + 1, ⟨by omega, hjn⟩, by omega, [(0, 0)], rfl, rfl, ⟨AVle.refl _, AVle.refl _, AVle.of_eq (congrArg (AV.int .i64) (by rw [hsn]; simp)), AVle.of_eq (congrArg (AV.int .i64) (by simp)), trivial⟩, ⟨MOle.arr rfl fun k hk => ?_, trivial⟩⟩
      have en := kept_next hjn h3 hkl k hk
      by_cases hkc : k = ((L.take j).filter fun e => !p e).length
      · rw [en, if_pos hkc, ← e]
        show (bif Nat.beq k ((L.take j).filter fun e => !p e).length then _ else _) = _
        rw [hkc, beq_t]; rfl
      · rw [en, if_neg hkc]
        show (bif Nat.beq k ((L.take j).filter fun e => !p e).length then _ else _) = _
        rw [beq_f hkc]; rfl
    · have h3 : p (ix L j) = true := by rw [e] at h3; simpa using h3
      rw [h3] at hsn
      refine And.intro (inI64 (by omega) (by omega)) ?_
      refine ⟨j + 1, ⟨by omega, hjn⟩, by omega, [(0, 0)], rfl, rfl, ⟨AVle.refl _, AVle.refl _, AVle.of_eq (congrArg (AV.int .i64) (by rw [hsn]; simp)), AVle.of_eq (congrArg (AV.int .i64) (by simp)), trivial⟩, ⟨MOle.arr rfl fun k hk => ?_, trivial⟩⟩
      have e2 : kept p L (j + 1) = kept p L j := by unfold kept; rw [hsn]; simp
      rw [e2]
  · have : j = L.length := by have := of_decide_eq_false h2; omega
    subst this
    have eT : L.take L.length = L := List.take_of_length_le (Nat.le_refl _)
    obtain ⟨c, hc⟩ : ∃ c, c = ((L.take L.length).filter fun e => !p e).length := ⟨_, rfl⟩
    have hk : ∀ k, k < c → ix (kept p L L.length) k = ix (L.filter fun e => !p e) k := fun k hk => by
      unfold kept
      rw [ix_app_l (by omega), eT]
    have hcl : c = (L.filter fun e => !p e).length := by rw [hc, eT]
    rw [← hc] at hkl
    rw [← hc]
    refine And.intro ⟨by omega, by omega⟩ ?_
    conv => whnf
    refine OpC.clear rfl rfl rfl rfl rfl rfl rfl (by show 1 ≤ L.length - ((c : Int)).toNat; omega) ?_
    conv => whnf
    refine OpC.head rfl rfl rfl rfl rfl rfl rfl ⟨by omega, by omega⟩ ?_
    refine And.intro trivial ⟨[(0, 0), (1, 1)], rfl, AVle.refl _, ⟨MOle.arr (by show ((c : Int)).toNat = _; omega) fun k hk' => ?_, trivial⟩⟩
    have hk' : k < c := by have : k < ((c : Int)).toNat := hk'; omega
    rw [← hk k hk']
    show (bif Nat.blt k ((c : Int)).toNat then _ else _) = _
    rw [blt_t (show k < ((c : Int)).toNat by omega)]; rfl
theorem DelStr2_none (L : List (List UInt8)) (hL : L.length ≤ 1000000) (F : Nat) (r1 r2 : List AV) (p : List UInt8 → Bool) (hp : ∀ e ∈ L, VFn Tryz.prog F [.str (B e), .eptr r1 0, .eptr r2 0] (.bool (p e))) (hs : L.any p = false) :
    FnM Tryz.prog 107 1 [.osl 0, .fn (.func F) [] [.eptr r1 0, .eptr r2 0]] [(0, .arr 9 1 L.length fun i => [.str (B (ix L i))])] (.osl 0) [(0, .arr 9 1 L.length fun i => [.str (B (ix L i))])] 1 := by
  have c := IndexStr_2 L (by omega) F r1 r2 p hp
  have h1 : fi p L = -1 := by
    rcases fi_first p L with ⟨h, _⟩ | ⟨i, hi, _, hp, _⟩
    · exact h
    · rw [List.any_eq_true.2 ⟨_, getD_mem hi, hp⟩] at hs; cases hs
  rw [h1] at c
  refine FnM.introC Tryz.call107 Tryz.func107 rfl rfl ?_
  conv => whnf
  refine CallC.sca _ (c) ?_ ?_
  · exact rfl
  exact And.intro trivial ⟨[(0, 0)], rfl, AVle.refl _, ⟨MOle.refl _, trivial⟩⟩
theorem HasPrefix_fn (s p : List UInt8) : VFn Tryz.prog 145 [.str (B s), .str (B p)] (.bool (Lib.hasPrefix s p)) := by
  refine VFn.lib Tryz.call145 fun w ok vs hJ hok hv => ?_
  obtain ⟨v, us, rfl, hv, v2, us2, rfl, hv2, hus⟩ := hv
  have e1 : v = .string (B s) := hv
  have e2 : v2 = .string (B p) := hv2
  have e3 : us2 = [] := hus
  subst e1 e2 e3
  refine (Tryz.strings_HasPrefix (B s) (B p) w).mono ?_
  rintro e w' ⟨rfl, rfl⟩
  refine ⟨_, rfl, Go.RowKit.Below.refl _ _, fun _ _ => ?_⟩
  show Value.bool _ = _
  rw [B_data, B_data]
theorem keys_own (x : Sto) (hL : x.os.length ≤ 1000000) (p : List UInt8) : FnM Tryz.prog 108 0 [x.av, .str (B p)] [] (.osl 0) [(0, .arr 9 1 ((x.os.map (·.key)).filter fun k => Lib.hasPrefix k p).length fun j => [.str (B (ix ((x.os.map (·.key)).filter fun k => Lib.hasPrefix k p) j))])] 1 := by
  have hle : ∀ i, (((x.os.take i).map (·.key)).filter fun k => Lib.hasPrefix k p).length ≤ i := fun i => Nat.le_trans (List.length_filter_le _ _) (by simp; omega)
  refine FnM.introC Tryz.call108 Tryz.func108 rfl rfl ?_
  refine LoopC.mk (fun i : Nat => i ≤ x.os.length) (fun i => [(1, .str (B p)), (5, .osl 1), (10, obs x.os), (11, .int .i64 x.os.length), (12, .int .i64 i)])
    (fun i => [(0, .box x.row), (1, .arr 9 1 (((x.os.take i).map (·.key)).filter fun k => Lib.hasPrefix k p).length fun j => [.str (B (ix (((x.os.take i).map (·.key)).filter fun k => Lib.hasPrefix k p) j))])]) 2 (fun i => x.os.length - i) 0
    ⟨Nat.zero_le _, [(0, 0), (1, 1)], rfl, rfl, ⟨AVle.refl _, AVle.refl _, AVle.refl _, AVle.refl _, AVle.refl _, trivial⟩, ⟨MOle.refl _, MOle.arr rfl fun i hi => absurd hi (Nat.not_lt_zero i), trivial⟩⟩ ?_
  intro i hi
  have hli := hle i
  refine Grd.intro (fun h2 => ?_) (fun h2 => ?_)
  · have hin : i < x.os.length := by have := of_decide_eq_true h2; omega
    have hs := map_take_filter (f := fun o : Ob => o.key) (p := fun k => Lib.hasPrefix k p) hin
    refine And.intro (by omega) ?_
    conv => whnf
    refine CallC.sca _ (HasPrefix_fn (ix x.os i).key p) ?_ ?_
    · exact rfl
    refine Grd.intro (fun h3 => ?_) (fun h3 => ?_)
    · rw [if_pos h3] at hs
      refine And.intro ⟨show ((((x.os.take i).map (·.key)).filter fun k => Lib.hasPrefix k p).length + 1) * 16 ≤ 140737488355328 by omega, all1 rfl⟩ ?_
      refine And.intro (inI64 (by omega) (by omega)) ?_
      exact ⟨i + 1, hin, by omega, [(0, 0), (4, 1)], rfl, rfl, ⟨AVle.refl _, AVle.refl _, AVle.refl _, AVle.refl _, AVle.of_eq (congrArg (AV.int .i64) (by simp)), trivial⟩, ⟨MOle.refl _, arr_next (f := fun s : List UInt8 => [.str (B s)]) hs rfl, trivial⟩⟩
    · rw [if_neg (by rw [h3]; simp)] at hs
      refine And.intro (inI64 (by omega) (by omega)) ?_
      exact ⟨i + 1, hin, by omega, [(0, 0), (1, 1)], rfl, rfl, ⟨AVle.refl _, AVle.refl _, AVle.refl _, AVle.refl _, AVle.of_eq (congrArg (AV.int .i64) (by simp)), trivial⟩, ⟨MOle.refl _, MOle.of_eq (show MO.arr 9 1 (((x.os.take i).map (·.key)).filter fun k => Lib.hasPrefix k p).length (fun j => [.str (B (ix (((x.os.take i).map (·.key)).filter fun k => Lib.hasPrefix k p) j))]) = _ by rw [hs]), trivial⟩⟩
  · have : i = x.os.length := by have := of_decide_eq_false h2; omega
    subst this
    have e : x.os.take x.os.length = x.os := List.take_of_length_le (Nat.le_refl _)
    exact And.intro trivial ⟨[(1, 0)], rfl, AVle.refl _, ⟨MOle.of_eq (show MO.arr 9 1 (((x.os.take x.os.length).map (·.key)).filter fun k => Lib.hasPrefix k p).length (fun j => [.str (B (ix (((x.os.take x.os.length).map (·.key)).filter fun k => Lib.hasPrefix k p) j))]) = _ by rw [e]), trivial⟩⟩
def pinP : List UInt8 := [112, 105, 110, 47]
def pinQ (d : List UInt8) (now : Int) : Bool := numOk d && decide (atoiV d + 6 < now)
def keepK (x : Sto) (now : Int) (k : List UInt8) : Bool := Lib.hasPrefix k pinP && !pinQ (x.get k).data now
def pinL (x : Sto) (now : Int) : List (List UInt8) := (x.os.map (·.key)).filter (keepK x now)
theorem pinL_two (x : Sto) (now : Int) : ((x.os.map (·.key)).filter fun k => Lib.hasPrefix k pinP).filter (fun k => !pinQ (x.get k).data now) = pinL x now := by
  unfold pinL
  rw [List.filter_filter]
  exact List.filter_congr fun k _ => by unfold keepK; rw [Bool.and_comm]
theorem pins1_fn (x : Sto) (hs : x.ok = true) (now : Int) (k : List UInt8) (hk : x.has k = true) : VFn Tryz.prog 109 [.str (B k), .eptr x.row 0, .eptr [.int .i64 now] 0] (.bool (pinQ (x.get k).data now)) := by
  have c := get_fn x hs k
  rw [if_pos hk] at c
  have hd := (get_ok x hs k hk).1
  have cn := number_fn (x.get k).data (by omega)
  unfold pinQ
  by_cases ho : numOk (x.get k).data = true
  · obtain ⟨n, e1, e2, h0, h1⟩ := num_of ho
    rw [ho] at cn ⊢
    refine VFn.introC Tryz.call109 Tryz.func109 rfl rfl ?_
    conv => whnf
    refine CallC.sca _ (c) ?_ ?_
    · exact rfl
    conv => whnf
    refine CallC.sca _ (cn) ?_ ?_
    · exact rfl
    refine And.intro (inI64 (by omega) (by omega)) ?_
    exact And.intro trivial (AVle.refl _)
  · have ho : numOk (x.get k).data = false := by simpa using ho
    rw [ho] at cn ⊢
    refine VFn.introC Tryz.call109 Tryz.func109 rfl rfl ?_
    conv => whnf
    refine CallC.sca _ (c) ?_ ?_
    · exact rfl
    conv => whnf
    refine CallC.sca _ (cn) ?_ ?_
    · exact rfl
    exact And.intro trivial (AVle.refl _)
theorem pins_fn (x : Sto) (hs : x.ok = true) (now : Int) : VFn Tryz.prog 59 [x.av, .int .i64 now] (txts (pinL x now)) := by
  have hL := (Sto.ok_at hs).2.1
  have ck := keys_own x (by omega) pinP
  obtain ⟨K, hK⟩ : ∃ K, K = (x.os.map (·.key)).filter fun k => Lib.hasPrefix k pinP := ⟨_, rfl⟩
  have hKl : K.length ≤ 1000000 := by rw [hK]; have := List.length_filter_le (fun k => Lib.hasPrefix k pinP) (x.os.map (·.key)); simp at this; omega
  have hp : ∀ e ∈ K, VFn Tryz.prog 109 [.str (B e), .eptr x.row 0, .eptr [.int .i64 now] 0] (.bool (pinQ (x.get e).data now)) := fun e he => pins1_fn x hs now e (has_of_mem hs (by rw [hK] at he; exact (List.mem_filter.1 he).1))
  have e2 : (K.filter fun k => !pinQ (x.get k).data now) = pinL x now := by rw [hK]; exact pinL_two x now
  rw [← hK] at ck
  by_cases ha : K.any (fun k => pinQ (x.get k).data now) = true
  · have hd := DelStr2_some K hKl 109 x.row [.int .i64 now] (fun k => pinQ (x.get k).data now) hp ha
    rw [e2] at hd
    refine VFn.introC Tryz.call59 Tryz.func59 rfl rfl ?_
    conv => whnf
    refine CallC.k [] ck rfl rfl (AVsle.refl _) trivial rfl ?_
    conv => whnf
    refine CallC.m [(2, 0)] hd rfl rfl (AVsle.refl _) ⟨MOle.refl _, trivial⟩ rfl ⟨fun i hi => rfl, trivial⟩ rfl ?_
    exact And.intro trivial (AVle.sl rfl fun j hj => rfl)
  · have ha : K.any (fun k => pinQ (x.get k).data now) = false := by simpa using ha
    have hd := DelStr2_none K hKl 109 x.row [.int .i64 now] (fun k => pinQ (x.get k).data now) hp ha
    have e3 : K = pinL x now := by
      rw [← e2]
      exact (List.filter_eq_self.2 fun k hk => by
        have := List.any_eq_false.1 ha k hk
        simpa using this).symm
    rw [e3] at hd ck
    refine VFn.introC Tryz.call59 Tryz.func59 rfl rfl ?_
    conv => whnf
    refine CallC.k [] ck rfl rfl (AVsle.refl _) trivial rfl ?_
    conv => whnf
    refine CallC.m [(2, 0)] hd rfl rfl (AVsle.refl _) ⟨MOle.refl _, trivial⟩ rfl ⟨fun i hi => rfl, trivial⟩ rfl ?_
    exact And.intro trivial (AVle.sl rfl fun j hj => rfl)
end Go.Proofs.YtfaffgneccjpbaaGreatDoor
set_option linter.unusedVariables false
set_option linter.constructorNameAsVariable false
set_option linter.unusedSimpArgs false
set_option maxRecDepth 20000
namespace Go.Proofs.YtfaffgneccjpbaaGreatDoor
open Go Go.Vw

def noP (x : Sto) : Prop := ∀ o ∈ x.os, o.key.head? ≠ some 112
theorem noP.set {x : Sto} (h : noP x) (hs : Srt x.os) {k d : List UInt8} (hk : k.head? ≠ some 112) : noP (x.set k d) := fun o ho => by
  rcases (set_mem hs k d o).1 ho with rfl | ⟨h1, _⟩
  · exact hk
  · exact h o h1
theorem manK_head (n : Int) : (manK n).head? ≠ some 112 := by simp [manK]
theorem keyB_head {t n w : Nat} (ht : t ≤ 2) : (keyB t n w).head? ≠ some 112 := by
  have h : t = 0 ∨ t = 1 ∨ t = 2 := by omega
  rcases h with rfl | rfl | rfl <;> simp [keyB, pre]
theorem fill_noP {i : Nat} {q : FS} (h : FI i q) (hn : noP q.x) (hi : 1 ≤ i ∧ i ≤ 6) : noP (fiIt (7 - i) i q).x := by
  have hd := h.draw hi
  rw [fiIt_eq hi.2]
  split
  · rename_i g
    have hi5 : i ≤ 5 := by have := hd.1.2; omega
    have b := h.facts hd.2 hi
    have h1 : noP (q.draw.x1 i) := noP.set (show noP q.draw.x from hn) (Sto.srt h.ok) (keyB_head (by omega))
    exact fill_noP (h.step hd.2 hi) (noP.set h1 (Sto.srt b.ok1) (manK_head _)) ⟨by omega, by omega⟩
  · exact hn
termination_by 7 - i
theorem filled_noP {s : Src} (h : s.ok 100000) : noP s.filled.x := fill_noP (FI.zero h) (fun o ho => (by cases ho)) (by decide)
def pubE (i : Nat) : En := ⟨1, 5 * (i : Int), 5 * (i : Int) + 5, keyB 1 (5 * i) 1⟩
def pubs (c : Nat) : List En := (List.range c).map pubE
def pubR (i : Nat) : Rc := ⟨3, 1, 1, 5 * (i : Int), 5 * (i : Int) + 5, keyB 1 (5 * i) 1⟩
def stP (m j c : Nat) (E : List En) (A : Int) : Sta := ⟨((m + 1 + j : Nat) : Int), 1, E ++ pubs c, [], 0, 0, 0, A, 5 * (c : Int), 0⟩
def clm : Rc := ⟨2, 1, 0, 0, 0, []⟩
theorem clm_ok : clm.ok = true := by decide
theorem app_clm (m : Nat) (E : List En) (A : Int) : (⟨(m : Int), 0, E, [], 0, 0, 0, A, 0, 0⟩ : Sta).app clm = stP m 0 0 E A := by
  unfold Sta.app Sta.takes clm stP
  simp [Sta.tick, pubs]
theorem pubR_ok {i : Nat} (h : i ≤ 100) : (pubR i).ok = true := by
  obtain ⟨k1, k2, k3, k4⟩ := keyF_fields (t := 1) (n := 5 * i) (w := 1) (by omega) (by omega) (by omega)
  unfold Rc.ok pubR Rc.en En.ok
  simp only [k1, k2, isRange, within]
  simp
  omega
theorem app_pub {m j : Nat} {E : List En} {A : Int} (hj : j ≤ 100) (hE : ∀ e ∈ E, ∃ k w : Nat, k ≤ 999999 ∧ w ≤ 999999 ∧ e.key = keyB 0 k w) (hA : 0 ≤ A) :
    (stP m j j E A).app (pubR j) = if 5 * (j : Int) + 5 ≤ A then stP m (j + 1) (j + 1) E A else stP m (j + 1) j E A := by
  obtain ⟨k1, k2, k3, k4⟩ := keyF_fields (t := 1) (n := 5 * j) (w := 1) (by omega) (by omega) (by omega)
  have hn : (stP m j j E A).has (keyB 1 (5 * j) 1) = false := by
    cases hh : (stP m j j E A).has (keyB 1 (5 * j) 1) with
    | false => rfl
    | true =>
      have := (has_iff _ _).1 hh
      simp [Sta.keys, stP, pubs] at this
      rcases this with ⟨e, he, h'⟩ | ⟨i, hi, h'⟩
      · obtain ⟨k, w, q1, q2, q3⟩ := hE e he
        have q4 := (keyF_fields (t := 0) (n := k) (w := w) (by omega) q1 q2).2.1
        rw [← q3, h', k2] at q4
        omega
      · have q4 := (keyF_fields (t := 1) (n := 5 * i) (w := 1) (by omega) (by omega) (by omega)).2.2.1
        have h' : keyB 1 (5 * i) 1 = keyB 1 (5 * j) 1 := h'
        rw [h', k3] at q4
        omega
  split
  · rename_i h
    have ht : (stP m j j E A).takes (pubR j) = true := by
      unfold Sta.takes
      have e1 : ¬ (pubR j).k = 1 := (by decide : ¬ (3 : Int) = 1)
      have e2 : ¬ (pubR j).k = 2 := (by decide : ¬ (3 : Int) = 2)
      have e3 : (pubR j).k = 3 := rfl
      rw [if_neg e1, if_neg e2, if_pos e3]
      show (decide ((1 : Int) = 1) && (decide (5 * (j : Int) = (stP m j j E A).hi 1) && (decide (kN (keyB 1 (5 * j) 1) = 5 * (j : Int)) && (decide (kW (keyB 1 (5 * j) 1) = 1) && (decide (5 * (j : Int) + 5 = 5 * (j : Int) + wd 1) && (decide (5 * (j : Int) + 5 ≤ (stP m j j E A).hi (1 - 1)) && (decide ((stP m j j E A).lo (1 - 1) ≤ 5 * (j : Int)) && !(stP m j j E A).has (keyB 1 (5 * j) 1)))))))) = true
      rw [hn, k3, k4]
      have a1 : (stP m j j E A).hi 1 = 5 * (j : Int) := rfl
      have a2 : (stP m j j E A).hi (1 - 1) = A := rfl
      have a3 : (stP m j j E A).lo (1 - 1) = 0 := rfl
      have a4 : wd 1 = 5 := rfl
      rw [a1, a2, a3, a4]
      simp
      omega
    unfold Sta.app
    rw [if_pos ht]
    unfold stP pubR
    simp [Sta.lift, Sta.tick, Rc.en, pubs, List.range_succ, pubE]
    omega
  · rename_i h
    have ht : (stP m j j E A).takes (pubR j) = false := by
      unfold Sta.takes
      have e1 : ¬ (pubR j).k = 1 := (by decide : ¬ (3 : Int) = 1)
      have e2 : ¬ (pubR j).k = 2 := (by decide : ¬ (3 : Int) = 2)
      have e3 : (pubR j).k = 3 := rfl
      rw [if_neg e1, if_neg e2, if_pos e3]
      have a2 : (stP m j j E A).hi ((pubR j).tier - 1) = A := rfl
      have a5 : (pubR j).t = 5 * (j : Int) + 5 := rfl
      rw [a2, a5, decide_eq_false h]
      simp
    unfold Sta.app
    rw [ht]
    simp [Sta.tick, stP]
    omega
/-- laid to rest -/
def retR (e : En) : Rc := ⟨4, 1, 0, e.f, e.t, e.key⟩
theorem ofT_pubs (E : List En) (h : ∀ e ∈ E, e.tier = 0) (c : Nat) : ofT (E ++ pubs c) 0 = E := by
  unfold ofT
  rw [List.filter_append]
  have h1 : E.filter (fun e => decide (e.tier = 0)) = E := List.filter_eq_self.2 fun e he => decide_eq_true (h e he)
  have h2 : (pubs c).filter (fun e => decide (e.tier = 0)) = [] := List.filter_eq_nil_iff.2 fun e he => by
    simp [pubs] at he
    obtain ⟨i, _, rfl⟩ := he
    simp [pubE]
  rw [h1, h2, List.append_nil]
def resP (m j c : Nat) (E : List En) (A : Int) (e : En) : Sta := ⟨((m + 2 + j : Nat) : Int), 1, noE e.key (E ++ pubs c), [⟨((m + 2 + j : Nat) : Int), e.key⟩], e.t, 0, 0, A, 5 * (c : Int), 0⟩
def stQ (m j c : Nat) (E : List En) (A : Int) : Sta := ⟨((m + 2 + j : Nat) : Int), 1, E ++ pubs c, [], 0, 0, 0, A, 5 * (c : Int), 0⟩
theorem app_ret {m j c : Nat} {e : En} {r : List En} {A : Int} (ht : ∀ x ∈ e :: r, x.tier = 0) : (stP m j c (e :: r) A).app (retR e) = if e.t ≤ 5 * (c : Int) then resP m j c (e :: r) A e else stQ m j c (e :: r) A := by
  have e1 : ¬ (retR e).k = 1 := (by decide : ¬ (4 : Int) = 1)
  have e2 : ¬ (retR e).k = 2 := (by decide : ¬ (4 : Int) = 2)
  have e3 : ¬ (retR e).k = 3 := (by decide : ¬ (4 : Int) = 3)
  have e4 : (retR e).k = 4 := rfl
  have h0 : ofT (stP m j c (e :: r) A).es (retR e).tier = e :: r := ofT_pubs _ ht c
  have he0 : e.tier = 0 := ht e (by simp)
  have hen : (retR e).en = e := by
    obtain ⟨a, b, c', d⟩ := e
    have he0 : a = 0 := he0
    subst he0
    rfl
  have tk : (stP m j c (e :: r) A).takes (retR e) = decide (e.t ≤ 5 * (c : Int)) := by
    unfold Sta.takes
    rw [if_neg e1, if_neg e2, if_neg e3, if_pos e4, h0, hen]
    have a1 : (retR e).tok = 1 := rfl
    have a2 : (stP m j c (e :: r) A).fence = 1 := rfl
    have a3 : (retR e).tier = 0 := rfl
    have a4 : (retR e).t = e.t := rfl
    have a5 : (stP m j c (e :: r) A).hi (0 + 1) = 5 * (c : Int) := rfl
    rw [a1, a2, a3, a4, a5]
    simp [headIs]
  unfold Sta.app
  rw [tk]
  split
  · rename_i h
    have h := of_decide_eq_true h
    rw [if_pos h, if_neg (by rintro (h | h); exact e1 h; exact e3 h)]
    try rw [if_neg e2]
    try rw [if_pos e4]
    unfold stP retR resP
    simp [Sta.lower, Sta.tick]
    omega
  · rename_i h
    rw [if_neg (by simpa using h)]
    unfold stP stQ
    simp [Sta.tick]
    omega
def purR (k : List UInt8) : Rc := ⟨5, 0, 0, 0, 0, k⟩
theorem app_pur {m j c : Nat} {E : List En} {A : Int} {e : En} : (resP m j c E A e).app (purR e.key) = ⟨((m + 3 + j : Nat) : Int), 1, noE e.key (E ++ pubs c), [], e.t, 0, 0, A, 5 * (c : Int), 0⟩ := by
  have e1 : ¬ (purR e.key).k = 1 := (by decide : ¬ (5 : Int) = 1)
  have e2 : ¬ (purR e.key).k = 2 := (by decide : ¬ (5 : Int) = 2)
  have e3 : ¬ (purR e.key).k = 3 := (by decide : ¬ (5 : Int) = 3)
  have e4 : ¬ (purR e.key).k = 4 := (by decide : ¬ (5 : Int) = 4)
  have tk : (resP m j c E A e).takes (purR e.key) = true := by
    unfold Sta.takes
    rw [if_neg e1, if_neg e2, if_neg e3, if_neg e4]
    unfold Sta.tombAt resP purR
    simp [fi]
  unfold Sta.app
  rw [if_pos tk, if_neg (by rintro (h | h); exact e1 h; exact e3 h), if_neg e2, if_neg e4]
  unfold resP purR
  simp [Sta.tick, noT]
  omega
theorem wo_mem (x : Sto) (k : List UInt8) (o : Ob) : o ∈ (wo x k).os ↔ o ∈ x.os ∧ o.key ≠ k := by
  unfold wo
  rw [List.mem_filter]
  simp
theorem wo_ne {x : Sto} (hs : x.ok = true) {k k' : List UInt8} (hk : k' ≠ k) : (wo x k).has k' = x.has k' ∧ (x.has k' = true → (wo x k).get k' = x.get k') := by
  have h1 := Sto.srt hs
  have h2 := Sto.srt (wo_ok hs k)
  have fw : (wo x k).has k' = true → x.has k' = true := fun h => by
    obtain ⟨a1, a2⟩ := has_get h
    have := (mem_has h1 ((wo_mem x k _).1 a1).1).1
    rwa [a2] at this
  have bw : x.has k' = true → (wo x k).has k' = true ∧ (wo x k).get k' = x.get k' := fun h => by
    obtain ⟨a1, a2⟩ := has_get h
    have := mem_has h2 ((wo_mem x k _).2 ⟨a1, by rw [a2]; exact hk⟩)
    rw [a2] at this
    exact this
  refine ⟨?_, fun h => (bw h).2⟩
  cases h : x.has k' with
  | true => exact (bw h).1
  | false =>
    cases h' : (wo x k).has k' with
    | false => rfl
    | true => rw [fw h'] at h; cases h
/-- what leaves the log as it is -/
theorem LogX.same {x y : Sto} {n : Nat} {s : Sta} (h : LogX x n s) (hn : n ≤ 290) (hy : y.ok = true) (a1 : ∀ i : Int, y.has (manK i) = x.has (manK i) ∧ (x.has (manK i) = true → y.get (manK i) = x.get (manK i))) : LogX y n s := by
  have g1 : ∀ q : Nat, 1 ≤ q → q ≤ 999999 → y.has (manK (q : Int)) = decide (q ≤ n) := fun q h1 h2 => (a1 _).1.trans (h.has q h1 h2)
  have gd : ∀ j, j < n → y.has (manK ((j + 1 : Nat) : Int)) = true ∧ (y.get (manK ((j + 1 : Nat) : Int))).data = (x.get (manK ((j + 1 : Nat) : Int))).data := fun j hj => by
    have hh : x.has (manK ((j + 1 : Nat) : Int)) = true := by rw [h.has _ (by omega) (by omega)]; exact decide_eq_true (by omega)
    obtain ⟨c1, c2⟩ := a1 ((j + 1 : Nat) : Int)
    exact ⟨c1.trans hh, by rw [c2 hh]⟩
  have e1 : n = logEnd y := log_end hy (by omega) (fun j hj => (gd j hj).1) (by rw [g1 _ (by omega) (by omega)]; exact decide_eq_false (by omega))
  refine ⟨hy, g1, e1.symm, ?_⟩
  rw [← h.log]
  unfold logS
  rw [← e1, h.fin]
  exact logN_congr n fun j hj => (gd j hj).2
theorem LogX.wo {x : Sto} {n : Nat} {s : Sta} (h : LogX x n s) (hn : n ≤ 290) {k : List UInt8} (hk : ∀ i : Int, manK i ≠ k) : LogX (wo x k) n s := h.same hn (wo_ok h.ok k) fun i => wo_ne h.ok (hk i)
/-- nothing of that kind of name -/
def noPin (x : Sto) : Prop := ∀ k, Lib.hasPrefix k pinP = true → x.has k = false
theorem pin_head {k : List UInt8} (h : Lib.hasPrefix k pinP = true) : k.head? = some 112 := by
  unfold Lib.hasPrefix pinP at h
  cases k with
  | nil => simp at h
  | cons a r =>
    simp [List.isPrefixOf] at h
    simp [h.1]
theorem noP.pin {x : Sto} (h : noP x) : noPin x := fun k hk => by
  cases hh : x.has k with
  | false => rfl
  | true =>
    obtain ⟨a1, a2⟩ := has_get hh
    have := h _ a1
    rw [a2] at this
    exact absurd (pin_head hk) this
theorem noPin.pinL {x : Sto} (hs : x.ok = true) (h : noPin x) (now : Int) : pinL x now = [] := by
  unfold Go.Proofs.YtfaffgneccjpbaaGreatDoor.pinL
  refine List.filter_eq_nil_iff.2 fun k hk => ?_
  obtain ⟨o, ho, rfl⟩ := List.mem_map.1 hk
  have h1 := (mem_has (Sto.srt hs) ho).1
  unfold keepK
  cases hp : Lib.hasPrefix o.key pinP with
  | false => simp
  | true => rw [h _ hp] at h1; cases h1
theorem pin_ne_man {k : List UInt8} (h : Lib.hasPrefix k pinP = true) (i : Int) : k ≠ manK i := fun e => by
  have := pin_head h
  rw [e] at this
  exact manK_head i this
theorem pin_ne_key {k : List UInt8} (h : Lib.hasPrefix k pinP = true) {t n w : Nat} (ht : t ≤ 2) : k ≠ keyB t n w := fun e => by
  have := pin_head h
  rw [e] at this
  exact keyB_head ht this
/-- one pin that is alone -/
theorem pinL_one {x : Sto} (hs : x.ok = true) (hn : noPin x) {k d : List UInt8} (hk : Lib.hasPrefix k pinP = true) (hy : (x.set k d).ok = true) (now : Int) : Go.Proofs.YtfaffgneccjpbaaGreatDoor.pinL (x.set k d) now = if pinQ d now = true then [] else [k] := by
  have c := set_at x k d
  have hsy := Sto.srt hy
  have key : ∀ q, keepK (x.set k d) now q = true → (x.set k d).has q = true → q = k := fun q h1 h2 => by
    unfold keepK at h1
    rw [Bool.and_eq_true] at h1
    rcases Classical.em (q = k) with e | e
    · exact e
    · rw [(set_ne hs hy e).1, hn q h1.1] at h2; cases h2
  have hkk : keepK (x.set k d) now k = !pinQ d now := by
    unfold keepK
    rw [hk, c.2]
    simp
  have hmem : ∀ q ∈ Go.Proofs.YtfaffgneccjpbaaGreatDoor.pinL (x.set k d) now, q = k := fun q hq => by
    obtain ⟨h1, h2⟩ := List.mem_filter.1 hq
    obtain ⟨o, ho, rfl⟩ := List.mem_map.1 h1
    exact key _ h2 (mem_has hsy ho).1
  split
  · rename_i h
    refine List.eq_nil_iff_forall_not_mem.2 fun q hq => ?_
    have e := hmem q hq
    have := (List.mem_filter.1 hq).2
    rw [e, hkk, h] at this
    cases this
  · rename_i h
    have h : pinQ d now = false := by simpa using h
    have hin : k ∈ Go.Proofs.YtfaffgneccjpbaaGreatDoor.pinL (x.set k d) now := by
      refine List.mem_filter.2 ⟨?_, by rw [hkk, h]; rfl⟩
      obtain ⟨a1, a2⟩ := has_get c.1
      exact List.mem_map.2 ⟨_, a1, a2⟩
    have nd : (Go.Proofs.YtfaffgneccjpbaaGreatDoor.pinL (x.set k d) now).Nodup := (srt_nodup hsy).sublist List.filter_sublist
    generalize Go.Proofs.YtfaffgneccjpbaaGreatDoor.pinL (x.set k d) now = L at *
    cases L with
    | nil => cases hin
    | cons a r =>
      have ea := hmem a (by simp)
      cases r with
      | nil => rw [ea]
      | cons b r' =>
        have eb := hmem b (by simp)
        rw [ea, eb] at nd
        simp at nd
end Go.Proofs.YtfaffgneccjpbaaGreatDoor
set_option linter.unusedVariables false
set_option linter.constructorNameAsVariable false
set_option linter.unusedSimpArgs false
set_option maxRecDepth 20000
namespace Go.Proofs.YtfaffgneccjpbaaGreatDoor
open Go Go.Vw

def swC (x : Sto) (now : Int) : Int := if x.ok = true then (if within now 0 101000 = true then 0 else 4) else 1
def purge (k : List UInt8) : Rc := ⟨5, 0, 0, 0, 0, k⟩
def swT (x : Sto) (now : Int) : Sto × Int := match (logS x).ts with
  | [] => (x, 18)
  | t :: _ => match pinL x now with
    | _ :: _ => (x, 18)
    | [] => if x.has t.key = true then (wo x t.key, 0) else appS x ((logS x).seq + 1) (purge t.key)
theorem swT_len {x : Sto} (hs : x.ok = true) (now : Int) : (swT x now).1.os.length ≤ 301 := by
  have hL := (Sto.ok_at hs).2.1
  unfold swT
  split
  · show x.os.length ≤ 301; omega
  · split
    · show x.os.length ≤ 301; omega
    · split
      · have := wo_len x; exact Nat.le_trans (wo_len _ _) (by omega)
      · exact app_len x hs _ _
theorem first1_of (a : Bool) (x : Int) {n : Nat} {rows : Nat → List AV} (hr : FirstRows 4 3 rows 0 [(a, x)]) (hn : n = 2) {r : Int} (h : (if a = true then x else 0) = r) : VFn Tryz.prog 33 [.sl 1 n rows] (.int .i64 r) := by
  have e : firstC [(a, x)] = r := by
    rw [← h]
    unfold firstC firstC
    cases a <;> rfl
  rw [← e]
  exact first_of _ hr hn (show 1 ≤ 1000 by decide)
theorem sweepCode_fn (x : Sto) (hr : StoRd x) (now : Int) : VFn Tryz.prog 46 [x.av, .int .i64 now] (.int .i64 (swC x now)) := by
  have c := StoreOK_fn x (by have := hr.len; omega) hr.key
  unfold swC
  by_cases hs : x.ok = true
  · rw [hs] at c ⊢
    rw [if_pos rfl]
    refine VFn.introC Tryz.call46 Tryz.func46 rfl rfl ?_
    conv => whnf
    refine CallC.sca _ (c) ?_ ?_
    · exact rfl
    conv => whnf
    refine CallC.sca _ (isNow_fn now) ?_ ?_
    · exact rfl
    conv => whnf
    refine CallC.sca _ (first1_of (!within now 0 101000) 4 ⟨rfl, rfl, trivial⟩ rfl (show _ = (if within now 0 101000 = true then (0 : Int) else 4) by cases within now 0 101000 <;> rfl)) ?_ ?_
    · exact rfl
    exact And.intro trivial (AVle.refl _)
  · have hs : x.ok = false := by simpa using hs
    rw [hs] at c ⊢
    rw [if_neg (by simp)]
    refine VFn.introC Tryz.call46 Tryz.func46 rfl rfl ?_
    conv => whnf
    refine CallC.sca _ (c) ?_ ?_
    · exact rfl
    exact And.intro trivial (AVle.refl _)
theorem purge_ok {x : Sto} {t : Tb} {r : List Tb} (h : (logS x).ts = t :: r) : (purge t.key).ok = true := by
  have hk := (log_b x).2.2.2.kk t.key (List.mem_append.2 (.inr (List.mem_map.2 ⟨t, by rw [h]; simp, rfl⟩)))
  unfold Rc.ok purge
  dsimp only
  rw [if_neg (by decide), if_neg (by decide), if_neg (by decide), if_neg (by decide), if_pos rfl, hk]
  rfl
theorem sweepTombs_fn (x : Sto) (hs : x.ok = true) (now : Int) : VFn Tryz.prog 47 [x.av, .int .i64 now] (.tup [(swT x now).1.av, .int .i64 (swT x now).2]) := by
  obtain ⟨b1, b2, b3, b4⟩ := log_b x
  have cl := log_fn x hs
  have cp := pins_fn x hs now
  have hpu := @purge_ok x
  have hw : within ((logS x).seq + 1) 1 999999 = true := by rw [b1]; simp [within]; omega
  unfold swT
  generalize logS x = s at cl hpu b1 b3 hw
  cases hts : s.ts with
  | nil =>
    obtain ⟨a1, a2, a3, ts, a5, a6, a7, a8, a9, a10⟩ := s
    simp only at hts
    subst hts
    refine VFn.introC Tryz.call47 Tryz.func47 rfl rfl ?_
    conv => whnf
    refine CallC.nl _ (cl) ?_ ?_
    · exact rfl
    exact And.intro trivial (AVle.refl _)
  | cons t r =>
    have hok := hpu hts
    obtain ⟨a1, a2, a3, ts, a5, a6, a7, a8, a9, a10⟩ := s
    simp only at hts
    subst hts
    cases hp : pinL x now with
    | cons k q =>
      rw [hp] at cp
      refine VFn.introC Tryz.call47 Tryz.func47 rfl rfl ?_
      conv => whnf
      refine CallC.nl _ (cl) ?_ ?_
      · exact rfl
      conv => whnf
      refine CallC.nl _ (cp) ?_ ?_
      · exact rfl
      refine Grd.intro (fun _ => ?_) (fun h => absurd (show (0 : Int) < (((k :: q).length : Nat) : Int) by rw [List.length_cons]; omega) (of_decide_eq_false h))
      exact And.intro trivial (AVle.refl _)
    | nil =>
      rw [hp] at cp
      have cf := find_fn x hs t.key
      dsimp only
      by_cases hh : x.has t.key = true
      · rw [hh] at cf
        rw [if_pos hh]
        refine VFn.introC Tryz.call47 Tryz.func47 rfl rfl ?_
        conv => whnf
        refine CallC.nl _ (cl) ?_ ?_
        · exact rfl
        conv => whnf
        refine CallC.nl _ (cp) ?_ ?_
        · exact rfl
        refine And.intro ⟨Int.le_refl 0, show (0 : Int) < (((t :: r).length : Nat) : Int) by rw [List.length_cons]; omega⟩ ?_
        conv => whnf
        refine CallC.sca _ (cf) ?_ ?_
        · exact rfl
        conv => whnf
        refine CallC.nl _ (without_fn x hs t.key hh) ?_ ?_
        · exact rfl
        exact And.intro trivial (AVle.refl _)
      · have hh : x.has t.key = false := by simpa using hh
        rw [hh] at cf
        rw [if_neg (by rw [hh]; simp)]
        refine VFn.introC Tryz.call47 Tryz.func47 rfl rfl ?_
        conv => whnf
        refine CallC.nl _ (cl) ?_ ?_
        · exact rfl
        conv => whnf
        refine CallC.nl _ (cp) ?_ ?_
        · exact rfl
        refine And.intro ⟨Int.le_refl 0, show (0 : Int) < (((t :: r).length : Nat) : Int) by rw [List.length_cons]; omega⟩ ?_
        conv => whnf
        refine CallC.sca _ (cf) ?_ ?_
        · exact rfl
        refine And.intro (show inI .i64 (a1 + 1) from inI64 (by simp only at b1; omega) (by simp only at b1; omega)) ?_
        conv => whnf
        refine CallC.nl _ (lay_fn x hs (a1 + 1) hw (purge t.key) hok) ?_ ?_
        · exact rfl
        exact And.intro trivial (AVle.refl _)
theorem swC_ok {x : Sto} {now : Int} (h : swC x now = 0) : x.ok = true := by
  unfold swC at h
  split at h
  · assumption
  · cases h
theorem SweepTombs_own (x : Sto) (hr : StoRd x) (now : Int) (ha : swC x now = 0) : FnM Tryz.prog 14 0 [x.av, .int .i64 now] [] (.tup [(swT x now).1.own, .int .i64 (swT x now).2]) [(0, .arr 100 3 (swT x now).1.os.length fun i => (ix (swT x now).1.os i).row)] 1 := by
  have hs := swC_ok ha
  have c := sweepCode_fn x hr now
  rw [ha] at c
  have hl := swT_len hs now
  refine FnM.introC Tryz.call14 Tryz.func14 rfl rfl ?_
  conv => whnf
  refine CallC.sca _ (c) ?_ ?_
  · exact rfl
  conv => whnf
  refine CallC.nl _ (sweepTombs_fn x hs now) ?_ ?_
  · exact rfl
  conv => whnf
  refine CallC.k [] (copied_own (swT x now).1 (by omega)) rfl rfl (AVsle.refl _) trivial rfl ?_
  exact And.intro trivial ⟨[(3, 0)], rfl, AVle.refl _, ⟨MOle.refl _, trivial⟩⟩
end Go.Proofs.YtfaffgneccjpbaaGreatDoor
set_option linter.unusedVariables false
set_option linter.constructorNameAsVariable false
set_option linter.unusedSimpArgs false
set_option maxRecDepth 20000
namespace Go.Proofs.YtfaffgneccjpbaaGreatDoor
open Go Go.Vw

def laidS (x : Sto) (m : Nat) : Nat → Sto
  | 0 => (appS x ((m + 1 : Nat) : Int) clm).1
  | j + 1 => (appS (laidS x m j) ((m + 2 + j : Nat) : Int) (pubR j)).1
structure LaidF (x : Sto) (m : Nat) (E : List En) (A : Int) (j c : Nat) : Prop where
  lg : LogX (laidS x m j) (m + 1 + j) (stP m j c E A)
  len : (laidS x m j).os.length ≤ 11 + j
  nxt : (laidS x m j).next ≤ 12 + j
  ot : ∀ k, (∀ i : Int, k ≠ manK i) → (laidS x m j).has k = x.has k ∧ (x.has k = true → (laidS x m j).get k = x.get k)
theorem FF.lg {s : Src} {m : Nat} {E : List En} (F : FF s m E) : LogX s.filled.x m ⟨(m : Int), 0, E, [], 0, 0, 0, s.filled.at_, 0, 0⟩ := ⟨F.ok, F.has, F.fin, F.log⟩
theorem FF.keys {s : Src} {m : Nat} {E : List En} (F : FF s m E) : ∀ e ∈ E, ∃ k w : Nat, k ≤ 999999 ∧ w ≤ 999999 ∧ e.key = keyB 0 k w := fun e he => by
  obtain ⟨j, hj, e1⟩ := List.getElem_of_mem he
  obtain ⟨w', q1, q2⟩ := F.es.key j hj
  rw [ix_lt hj, e1] at q2
  have := F.rng
  exact ⟨j + 1, w', by have := F.el; omega, by omega, q2⟩
theorem laid0 {s : Src} {m : Nat} {E : List En} (F : FF s m E) : appS s.filled.x ((m + 1 : Nat) : Int) clm = (laidS s.filled.x m 0, 0) ∧ LaidF s.filled.x m E s.filled.at_ 0 0 := by
  have hm := F.rng
  have h1 := F.len
  have h2 := F.nxt
  obtain ⟨x', L⟩ := F.lg.lay (by omega) (by omega) (by omega) clm_ok
  have e : laidS s.filled.x m 0 = x' := by unfold laidS; rw [L.app]
  refine ⟨by rw [e]; exact L.app, ?_, ?_, ?_, ?_⟩
  · rw [e, ← app_clm m E s.filled.at_]; exact L.lg
  · rw [e]; have := L.len; omega
  · rw [e]; have := L.nxt; omega
  · intro k hk
    rw [e]
    exact L.ot k (hk _)
theorem laid1 {x : Sto} {m : Nat} {E : List En} {A : Int} {j : Nat} (hm : m ≤ 5) (hE : ∀ e ∈ E, ∃ k w : Nat, k ≤ 999999 ∧ w ≤ 999999 ∧ e.key = keyB 0 k w) (hA : 0 ≤ A) (h : LaidF x m E A j j) (hj : j ≤ 20) :
    appS (laidS x m j) ((m + 2 + j : Nat) : Int) (pubR j) = (laidS x m (j + 1), 0) ∧ LaidF x m E A (j + 1) (if 5 * (j : Int) + 5 ≤ A then j + 1 else j) := by
  have h1 := h.len
  have h2 := h.nxt
  obtain ⟨x', L⟩ := h.lg.lay (by omega) (by omega) (by omega) (pubR_ok (i := j) (by omega))
  have ea : m + 1 + j + 1 = m + 2 + j := by omega
  have La := L.app
  rw [ea] at La
  have e : laidS x m (j + 1) = x' := by
    show (appS (laidS x m j) ((m + 2 + j : Nat) : Int) (pubR j)).1 = x'
    rw [La]
  refine ⟨by rw [e]; exact La, ?_, ?_, ?_, ?_⟩
  · rw [e]
    have := L.lg
    rw [app_pub (by omega) hE hA, show m + 1 + j + 1 = m + 1 + (j + 1) by omega] at this
    split
    · rename_i g; rw [if_pos g] at this; exact this
    · rename_i g; rw [if_neg g] at this; exact this
  · rw [e]; have := L.len; omega
  · rw [e]; have := L.nxt; omega
  · intro k hk
    obtain ⟨c1, c2⟩ := h.ot k hk
    obtain ⟨d1, d2⟩ := L.ot k (hk _)
    rw [e]
    exact ⟨d1.trans c1, fun g => (d2 (c1.trans g)).trans (c2 g)⟩
def pc (A : Int) (j : Nat) : Nat := if 5 * (j : Int) ≤ A then j else j - 1
theorem laid_all {s : Src} {m : Nat} {E : List En} (F : FF s m E) {et : Int} (het : et ≤ s.filled.at_) {U : Nat} (hU20 : U ≤ 20) (hU : ∀ j : Nat, j < U → 5 * (j : Int) < et) : ∀ j : Nat, j ≤ U → LaidF s.filled.x m E s.filled.at_ j (pc s.filled.at_ j)
  | 0, _ => by
    have := (laid0 F).2
    have h := F.at_
    unfold pc
    split <;> exact this
  | j + 1, hj => by
    have ih := laid_all F het hU20 hU j (by omega)
    have h := F.at_
    have h2 := hU j (by omega)
    have ej : pc s.filled.at_ j = j := by unfold pc; rw [if_pos (by omega)]
    rw [ej] at ih
    have := (laid1 (by have := F.rng; omega) F.keys (by omega) ih (by omega)).2
    unfold pc
    by_cases g : 5 * (j : Int) + 5 ≤ s.filled.at_
    · rw [if_pos g] at this; rw [if_pos (by omega)]; exact this
    · rw [if_neg g] at this; rw [if_neg (by omega)]; exact this
/-- how many windows are begun ahead of a time -/
def upN (t : Int) : Nat := ((t + 4) / 5).toNat
theorem upN_lt {t : Int} {j : Nat} : j < upN t ↔ 5 * (j : Int) < t := by unfold upN; omega
structure PinE (s : Src) (m : Nat) (E : List En) (e : En) (r : List En) : Prop where
  hE : E = e :: r
  f : e.f = 0
  t : 1 ≤ e.t ∧ e.t ≤ 60 ∧ e.t ≤ s.filled.at_
  ok : e.ok = true
  tier : e.tier = 0
  key : ∃ w : Nat, w ≤ 1 ∧ e.key = keyB 0 1 w
  has : s.filled.x.has e.key = true
theorem pin_e {s : Src} {m : Nat} {E : List En} (F : FF s m E) : ∃ e r, PinE s m E e r := by
  have hm := F.rng
  have hl := F.el
  cases hE : E with
  | nil => rw [hE] at hl; simp at hl; omega
  | cons e r =>
    have hmem : e ∈ E := by rw [hE]; simp
    have h1 := F.es.tm e hmem
    have h2 := F.es.hd e r hE
    obtain ⟨w, h3, h4⟩ := F.es.key 0 (by omega)
    have e0 : ix E 0 = e := by rw [hE]; rfl
    rw [e0] at h4
    obtain ⟨L, _, _, _, h5, _⟩ := F.es.data e hmem
    obtain ⟨k1, k2, k3, k4⟩ := keyF_fields (t := 0) (n := 1) (w := w) (by omega) (by omega) (by omega)
    have hA := F.at_
    refine ⟨e, r, ⟨rfl, h2, ⟨by omega, by omega, by omega⟩, ?_, h1.1, ⟨w, h3, h4⟩, h5⟩⟩
    unfold En.ok
    rw [h4, k1, k2, h1.1]
    simp [isRange, within]
    omega
structure PinZ (x : Sto) (m : Nat) (E : List En) (A : Int) (e : En) (U : Nat) (z : Sto) : Prop where
  app : appS (laidS x m U) ((m + 2 + U : Nat) : Int) (retR e) = (z, 0)
  lg : LogX z (m + 2 + U) (if e.t ≤ 5 * (pc A U : Int) then resP m U (pc A U) E A e else stQ m U (pc A U) E A)
  len : z.os.length ≤ 12 + U
  nxt : z.next ≤ 13 + U
  has : z.has e.key = true
  nop : noPin z
theorem retR_ok {e : En} (h : e.ok = true) (h0 : e.tier = 0) : (retR e).ok = true := by
  have h2 : (retR e).en.ok = true := by
    unfold retR Rc.en
    rw [← h0]
    exact h
  unfold Rc.ok
  have e1 : ¬ (retR e).k = 1 := (by decide : ¬ (4 : Int) = 1)
  have e2 : ¬ (retR e).k = 2 := (by decide : ¬ (4 : Int) = 2)
  have e3 : ¬ (retR e).k = 3 := (by decide : ¬ (4 : Int) = 3)
  have e4 : (retR e).k = 4 := rfl
  rw [if_neg e1, if_neg e2, if_neg e3, if_pos e4, h2]
  rfl
theorem pin_z {s : Src} {m : Nat} {E : List En} (hs : s.ok 100000) (F : FF s m E) {e : En} {r : List En} (P : PinE s m E e r) : ∃ z, PinZ s.filled.x m E s.filled.at_ e (upN e.t) z := by
  obtain ⟨p1, p2, p3⟩ := P.t
  have hm := F.rng
  have hU : upN e.t ≤ 12 := by unfold upN; omega
  have L := laid_all F p3 (U := upN e.t) (by omega) (fun j hj => upN_lt.1 hj) (upN e.t) (Nat.le_refl _)
  obtain ⟨h1, h2, h3, h4⟩ := L
  obtain ⟨x', Q⟩ := h1.lay (by omega) (by omega) (by omega) (retR_ok P.ok P.tier)
  have ea : m + 1 + upN e.t + 1 = m + 2 + upN e.t := by omega
  have Qa := Q.app
  rw [ea] at Qa
  obtain ⟨w, k1, k2⟩ := P.key
  have hne : ∀ i : Int, e.key ≠ manK i := fun i h => by rw [k2] at h; exact man_ne_key i h.symm
  refine ⟨x', Qa, ?_, by have := Q.len; omega, by have := Q.nxt; omega, ?_, ?_⟩
  · have h := Q.lg
    have hE := P.hE
    have ht : ∀ y ∈ e :: r, y.tier = 0 := fun y hy => by
      rw [← hE] at hy
      exact (F.es.tm y hy).1
    rw [hE, app_ret ht, ea] at h
    rw [hE]
    exact h
  · exact (Q.ot _ (hne _)).1.trans ((h4 _ hne).1.trans P.has)
  · intro k hk
    have h5 : ∀ i : Int, k ≠ manK i := pin_ne_man hk
    rw [(Q.ot k (h5 _)).1, (h4 k h5).1]
    exact (filled_noP hs).pin k hk
def pinK4 : List UInt8 := [112, 105, 110, 47, 52]
structure PinW (z : Sto) (e : En) (now : Int) (u v w : Sto) (S : Sta) : Prop where
  put : z.putA pinK4 (Lib.itoa (now - 6)) = (u, 0)
  uok : u.ok = true
  s1 : swT u now = (u, 18)
  s2 : swT u (now + 1) = (v, 0)
  vok : v.ok = true
  vno : v.has e.key = false
  s3 : swT v (now + 1) = (w, 0)
  wok : w.ok = true
  log : logS w = S
theorem pin_w {z : Sto} {m c U : Nat} {E : List En} {A : Int} {e : En} (hm : m ≤ 5) (hU : U ≤ 12) (hz : LogX z (m + 2 + U) (resP m U c E A e)) (hl : z.os.length ≤ 12 + U) (hn : z.next ≤ 13 + U) (hh : z.has e.key = true) (hp : noPin z) (hk : ∃ w : Nat, w ≤ 1 ∧ e.key = keyB 0 1 w) {now : Int} (hnow : 50 ≤ now ∧ now ≤ 99) :
    ∃ u v w, PinW z e now u v w ⟨((m + 3 + U : Nat) : Int), 1, noE e.key (E ++ pubs c), [], e.t, 0, 0, A, 5 * (c : Int), 0⟩ := by
  obtain ⟨w, w1, w2⟩ := hk
  have hpk : Lib.hasPrefix pinK4 pinP = true := by decide
  have hno : z.has pinK4 = false := hp _ hpk
  have hlen : (Lib.itoa (now - 6)).length ≤ 600 := by
    have := itoa_len (n := now - 6) (by omega) (by omega)
    omega
  obtain ⟨p1, p2, p3, p4, p5⟩ := put_ok (k := pinK4) (d := Lib.itoa (now - 6)) hz.ok (by decide) hlen (by omega) (by omega)
  have hput : z.putA pinK4 (Lib.itoa (now - 6)) = (z.set pinK4 (Lib.itoa (now - 6)), 0) := by
    unfold Sto.putA
    rw [if_neg (by rw [hno]; simp), p2, p1]
  rw [p2] at p3 p4 p5
  have hne : ∀ i : Int, manK i ≠ pinK4 := fun i h => pin_ne_man hpk i h.symm
  have hnk : e.key ≠ pinK4 := fun h => pin_ne_key hpk (t := 0) (n := 1) (w := w) (by omega) (by rw [← w2]; exact h.symm)
  have L1 := hz.set (by omega) hne p3
  have q : ∀ t : Int, pinL (z.set pinK4 (Lib.itoa (now - 6))) t = if now < t then [] else [pinK4] := fun t => by
    rw [pinL_one hz.ok hp hpk p3 t]
    obtain ⟨b1, b2⟩ := num_back (n := now - 6) (by omega) (by omega)
    unfold pinQ
    rw [b1, b2, Bool.true_and]
    by_cases g : now < t
    · rw [if_pos g, decide_eq_true (by omega), if_pos rfl]
    · rw [if_neg g, decide_eq_false (by omega), if_neg (by simp)]
  have hh2 : (z.set pinK4 (Lib.itoa (now - 6))).has e.key = true := (set_ne hz.ok p3 hnk).1.trans hh
  generalize z.set pinK4 (Lib.itoa (now - 6)) = u at *
  have l1 : (logS u).ts = [⟨((m + 2 + U : Nat) : Int), e.key⟩] := by rw [L1.log]; rfl
  have hmk : ∀ i : Int, manK i ≠ e.key := fun i h => by rw [w2] at h; exact man_ne_key i h
  have L2 := L1.wo (by omega) hmk
  have hv := wo_has u e.key
  have l2 : (logS (wo u e.key)).ts = [⟨((m + 2 + U : Nat) : Int), e.key⟩] := by rw [L2.log]; rfl
  have hvl := wo_len u e.key
  have q2 : pinL (wo u e.key) (now + 1) = [] := by
    refine List.eq_nil_iff_forall_not_mem.2 fun k hk => ?_
    obtain ⟨a1, a2⟩ := List.mem_filter.1 hk
    obtain ⟨o, ho, rfl⟩ := List.mem_map.1 a1
    obtain ⟨b1, b2⟩ := (wo_mem u e.key o).1 ho
    have hsu := Sto.srt L1.ok
    have hsv := Sto.srt L2.ok
    have c1 := (mem_has hsu b1).2
    have c2 := (mem_has hsv ho).2
    have : o.key ∈ pinL u (now + 1) := by
      refine List.mem_filter.2 ⟨List.mem_map.2 ⟨o, b1, rfl⟩, ?_⟩
      unfold keepK at a2 ⊢
      rw [c2] at a2
      rw [c1]
      exact a2
    rw [q, if_pos (by omega)] at this
    cases this
  have hvn : (wo u e.key).next = u.next := rfl
  have hpr : (purR e.key).ok = true := by
    obtain ⟨k1, k2, k3, k4⟩ := keyF_fields (t := 0) (n := 1) (w := w) (by omega) (by omega) (by omega)
    unfold Rc.ok purR
    simp [Rc.bare]
    rw [w2]; exact k1
  obtain ⟨x', Q⟩ := L2.lay (by omega) (by omega) (by omega) hpr
  have s1 : swT u now = (u, 18) := by
    unfold swT
    rw [l1, q, if_neg (by omega)]
  have s2 : swT u (now + 1) = (wo u e.key, 0) := by
    unfold swT
    rw [l1, q, if_pos (by omega)]
    simp only
    rw [if_pos hh2]
  have s3 : swT (wo u e.key) (now + 1) = (x', 0) := by
    unfold swT
    rw [l2, q2]
    simp only
    rw [if_neg (by rw [hv]; simp)]
    have : (logS (wo u e.key)).seq + 1 = ((m + 2 + U + 1 : Nat) : Int) := by
      rw [L2.log]
      show ((m + 2 + U : Nat) : Int) + 1 = _
      omega
    rw [this]
    exact Q.app
  refine ⟨u, wo u e.key, x', hput, L1.ok, s1, s2, L2.ok, hv, s3, Q.lg.ok, ?_⟩
  have := Q.lg.log
  rw [this, app_pur]
end Go.Proofs.YtfaffgneccjpbaaGreatDoor
set_option linter.unusedVariables false
set_option linter.constructorNameAsVariable false
set_option linter.unusedSimpArgs false
set_option maxRecDepth 20000
namespace Go.Proofs.YtfaffgneccjpbaaGreatDoor
open Go Go.Vw

end Go.Proofs.YtfaffgneccjpbaaGreatDoor
set_option linter.unusedVariables false
set_option linter.constructorNameAsVariable false
set_option linter.unusedSimpArgs false
set_option maxRecDepth 20000
namespace Go.Proofs.YtfaffgneccjpbaaGreatDoor
open Go Go.Vw

end Go.Proofs.YtfaffgneccjpbaaGreatDoor
