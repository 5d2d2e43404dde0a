/- Contracts of functions that the claim reaches, and the plain law of what they compute; each theorem bears its own conditions. -/
import Derived.Test.YtnplgeogieoioaaGreatDoorQ15
import Derived.Test.YtnplgeogieoioaaGreatDoorQ6
import Derived.Test.YtnplgeogieoioaaGreatDoorQ3
import Derived.Test.YtnplgeogieoioaaGreatDoorV52
import Derived.Test.YtnplgeogieoioaaGreatDoorQ5
import Derived.Test.YtnplgeogieoioaaGreatDoorQ14
import Derived.Test.YtnplgeogieoioaaGreatDoorQ13
import Derived.Test.YtnplgeogieoioaaGreatDoorQ8
import Derived.Test.YtnplgeogieoioaaGreatDoorQ11
set_option linter.unusedVariables false
set_option linter.constructorNameAsVariable false
set_option linter.unusedSimpArgs false
set_option maxRecDepth 20000
set_option maxHeartbeats 1000000
namespace Go.Proofs.YtnplgeogieoioaaGreatDoor
open Go Go.Vw
def Act.cells (a : Act) : List AV := [.int .i64 a.k, .int .i64 a.who, .int .i64 a.n, .int .i64 a.tier, .int .i64 a.f, .int .i64 a.t, smps a.b]
instance : Inhabited Act := ⟨⟨0, 0, 0, 0, 0, 0, []⟩⟩
abbrev acts (L : List Act) : AV := .sl 7 L.length fun i => (ix L i).cells
theorem IndexAct_1 (L : List Act) (hL : L.length ≤ 9223372036854775807) (F : Nat) (row : List AV) (p : Act → Bool) (hp : ∀ e ∈ L, VFn Tryz.prog F [e.av, .eptr row 0] (.bool (p e))) :
 VFn Tryz.prog 161 [acts L, .fn (.func F) [] [.eptr row 0]] (.int .i64 (fi p L)) := by
 refine VFn.introC Tryz.call161 Tryz.func161 rfl rfl ?_
 refine LoopC.mk (fun i : Nat => i ≤ L.length ∧ ∀ j, j < i → p (ix L j) = false) (fun i => [(0, acts L), (1, .fn (.func F) [] [.eptr row 0]), (7, .int .i64 L.length), (8, .int .i64 i)]) (fun _ => []) 0 (fun i => L.length - i) 0
  ⟨⟨Nat.zero_le _, fun j hj => absurd hj (Nat.not_lt_zero j)⟩, [], rfl, rfl, ⟨AVle.refl _, AVle.refl _, AVle.refl _, AVle.refl _, trivial⟩, trivial⟩ ?_
 intro i hi
 refine Grd.intro (fun h2 => ?_) (fun h2 => ?_)
 · have hin : i < L.length := by have := of_decide_eq_true h2; omega
   refine And.intro (by omega) ?_
   conv => whnf
   refine CallC.sca _ (hp (ix L i) (getD_mem hin)) ?_ ?_
   · exact rfl
   refine Grd.intro (fun h3 => ?_) (fun h3 => ?_)
   · exact And.intro trivial (AVle.of_eq (congrArg (AV.int .i64) (fi_at hin hi.2 h3).symm))
   · refine And.intro (inI64 (by omega) (by omega)) ?_
     exact ⟨i + 1, ⟨hin, fun j hj => by
      rcases Nat.lt_or_ge j i with h' | h'
      · exact hi.2 j h'
      · rw [show j = i by omega]; exact h3⟩, by omega, [], rfl, rfl, ⟨AVle.refl _, AVle.refl _, AVle.refl _, AVle.of_eq (congrArg (AV.int .i64) (by simp)), trivial⟩, trivial⟩
 · have : i = L.length := by have := of_decide_eq_false h2; omega
   subst this
   exact And.intro trivial (AVle.of_eq (congrArg (AV.int .i64) (fi_none hi.2).symm))
theorem ContainsAct_1 (L : List Act) (hL : L.length ≤ 9223372036854775807) (F : Nat) (row : List AV) (p : Act → Bool) (hp : ∀ e ∈ L, VFn Tryz.prog F [e.av, .eptr row 0] (.bool (p e))) :
 VFn Tryz.prog 81 [acts L, .fn (.func F) [] [.eptr row 0]] (.bool (L.any p)) := by
 refine VFn.introC Tryz.call81 Tryz.func81 rfl rfl ?_
 conv => whnf
 refine CallC.sca _ (IndexAct_1 L hL F row p hp) ?_ ?_
 · exact rfl
 exact And.intro trivial (AVle.of_eq (congrArg AV.bool (show decide (0 ≤ fi p L) = _ from fi_any)))
theorem allAct1_fn (e : Act) (G : Nat) (p : Act → Bool) (hp : VFn Tryz.prog G [e.av] (.bool (p e))) : VFn Tryz.prog 82 [e.av, .eptr [.fn (.func G) [] []] 0] (.bool (!p e)) := by
 refine VFn.introC Tryz.call82 Tryz.func82 rfl rfl ?_
 conv => whnf
 refine CallC.sca _ (hp) ?_ ?_
 · exact rfl
 exact And.intro trivial (AVle.refl _)
theorem allAct_fn (L : List Act) (hL : L.length ≤ 9223372036854775807) (G : Nat) (p : Act → Bool) (hp : ∀ e ∈ L, VFn Tryz.prog G [e.av] (.bool (p e))) : VFn Tryz.prog 32 [acts L, .fn (.func G) [] []] (.bool (L.all p)) := by
 refine VFn.introC Tryz.call32 Tryz.func32 rfl rfl ?_
 conv => whnf
 refine CallC.sca _ (ContainsAct_1 L hL 82 [.fn (.func G) [] []] (fun e => !p e) (fun e he => allAct1_fn e G p (hp e he))) ?_ ?_
 · exact rfl
 exact And.intro trivial (AVle.of_eq (congrArg AV.bool (show (!L.any fun e => !p e) = _ by rw [Bool.eq_iff_iff]; simp)))
theorem isLongAct_fn (L : List Act) : VFn Tryz.prog 31 [acts L] (.bool (decide (4096 < L.length))) := by
 refine VFn.introC Tryz.call31 Tryz.func31 rfl rfl ?_
 exact And.intro trivial (AVle.of_eq (congrArg AV.bool (decide_eq_decide.2 (by omega))))
theorem FlI.sz {f : Fl} {M Q : Nat} (F : FlI f M Q) (hM : M ≤ 1000) (hQ : Q ≤ 100000) : FlSz f := by
 have hs := (stoOK_iff f.st).1 F.st.lg.ok
 have hac := F.acl
 have han := F.an.2
 obtain ⟨w0, w1, ew, ⟨i0, i1⟩, W0, W1⟩ := F.ws
 obtain ⟨g0, g1, eg, ⟨i2, i3⟩, ⟨G0, G1⟩, hcnt⟩ := F.gs
 obtain ⟨r0, r1, er, ⟨i4, i5⟩, R0, R1⟩ := F.rs
 refine ⟨by have := hs.len; omega, by rw [ew]; simp, by rw [eg]; simp, by rw [er]; simp, ?_, ?_, ?_, by omega, by omega⟩
 · intro w hw
   rw [ew] at hw
   have h : w.ok = true := by
    rcases List.mem_cons.1 hw with rfl | hw
    · exact W0.ok
    · rw [List.mem_singleton] at hw; subst hw; exact W1.ok
   have := ((wk_iff w).1 h).len
   omega
 · intro g hg
   rw [eg] at hg
   rcases List.mem_cons.1 hg with rfl | hg
   · omega
   · rw [List.mem_singleton] at hg; subst hg; omega
 · intro r hr
   rw [er] at hr
   have h : r.ok = true := by
    rcases List.mem_cons.1 hr with rfl | hr
    · exact R0.ok
    · rw [List.mem_singleton] at hr; subst hr; exact R1.ok
   have := ((rr_iff r).1 h).len
   omega
theorem copiedF_fn (f : Fl) (S : FlSz f) : VFn Tryz.prog 35 [f.av] f.av := (copiedF_own f S).vfn
abbrev Fl.objC (f : Fl) (p q : Nat × MO) : List (Nat × MO) := [(0, .box (f.orow 4 5)), (1, .arr 56 16 f.ws.length fun i => (ix f.ws i).row), (2, .arr 59 6 f.gs.length fun i => (ix f.gs i).row), (3, .arr 62 14 f.rs.length fun i => (ix f.rs i).row), (4, .arr 98 2 f.ac.length fun i => (ix f.ac i).row), (5, .arr 101 10 f.an.length fun i => (ix f.an i).row), p, q]
theorem take_acts (f : Fl) (L : List Act) {i : Nat} (h : i < L.length) : actsF f (L.take (i + 1)) = (doF (actsF f (L.take i)) (ix L i)).1 := by
 unfold actsF
 rw [List.take_add_one, List.getElem?_eq_getElem h, Option.toList_some, List.foldl_append, ix_lt h]
 rfl
def codeN (f : Fl) (L : List Act) (k : Nat) : Int := (doF (actsF f (L.take k)) (ix L k)).2
theorem ActsRun_own (L : List Act) (hL : L.length ≤ 64) (hok : ∀ a ∈ L, a.ok = true) (hI : ∀ a ∈ L, ActI a) : FnM Tryz.prog 6 0 [acts L] [] (.tup [(actsF newF L).av, .osl 0, .int .i64 0]) [(0, .arr 3 1 L.length fun k => [.int .i64 (codeN newF L k)])] 1 := by
 have c1 := isLongAct_fn L
 rw [decide_eq_false (show ¬ 4096 < L.length by omega)] at c1
 have c2 := allAct_fn L (by omega) 33 Act.ok (fun e _ => ActOK_fn e)
 rw [List.all_eq_true.2 hok] at c2
 have FI : ∀ i, i ≤ L.length → FlI (actsF newF (L.take i)) (8 * i) i := fun i hi => by
  have := FlI.acts (L.take i) newF_I (fun a ha => hI a (List.mem_of_mem_take ha)) (by rw [List.length_take]; omega)
  rw [List.length_take, Nat.min_eq_left hi, Nat.zero_add, Nat.zero_add] at this
  exact this
 rw [show actsF newF L = actsF newF (L.take L.length) by rw [List.take_length]]
 refine FnM.introC Tryz.call6 Tryz.func6 rfl rfl ?_
 conv => whnf
 conv => whnf
 refine CallC.nl _ (c1) ?_ ?_
 · exact rfl
 conv => whnf
 conv => whnf
 refine CallC.nl _ (c2) ?_ ?_
 · exact rfl
 conv => whnf
 conv => whnf
 refine CallC.sca _ (first3_of false (decide ((200 : Int) < (L.length : Int))) false 2 6 1 ⟨rfl, rfl, rfl, rfl, rfl, rfl, trivial⟩ rfl (r := 0) (by rw [decide_eq_false (show ¬ (200 : Int) < (L.length : Int) by omega)]; decide)) ?_ ?_
 · exact rfl
 conv => whnf
 refine CallC.k [] NewFleet_own rfl rfl (AVsle.refl _) trivial rfl ?_
 conv => whnf
 refine LoopC.nilb 6 13 98 2 (fun k => (ix newF.ac k).row) rfl rfl ?_
 conv => whnf
 refine LoopC.nilb 6 14 101 10 (fun k => (ix newF.an k).row) rfl rfl ?_
 conv => whnf
 refine LoopC.mk (fun i : Nat => i ≤ L.length) (fun i => [(2, .bptr 7 0), (6, .bptr 0 0), (7, .osl 6), (32, acts L), (33, .int .i64 L.length), (34, .int .i64 i)]) (fun i => (actsF newF (L.take i)).objC (6, .arr 3 1 i fun k => [.int .i64 (codeN newF L k)]) (7, .box [.nilsl, .int .i64 0, .int .i64 0, .int .i64 0, .int .i64 0, .int .i64 0, .int .i64 0, .int .i64 0, .int .i64 0, .int .i64 0, .nilsl, .nilsl, .nilsl, .nilsl, .nilsl])) 8 (fun i => L.length - i) 0
  ⟨Nat.zero_le _, [(6, 0), (2, 1), (3, 2), (4, 3), (7, 4), (8, 5), (5, 6), (0, 7)], rfl, rfl, ⟨AVle.refl _, AVle.refl _, AVle.refl _, AVle.refl _, AVle.refl _, AVle.refl _, trivial⟩, ⟨MOle.refl _, MOle.refl _, MOle.refl _, MOle.refl _, MOle.refl _, MOle.refl _, MOle.arr rfl (fun k hk => absurd hk (Nat.not_lt_zero k)), MOle.refl _, trivial⟩⟩ ?_
 intro i hi
 have Fi := FI i hi
 conv => whnf
 refine Grd.intro (fun h => ?_) (fun h => ?_)
 · have hlt : i < L.length := by have := of_decide_eq_true h; omega
   obtain ⟨a, m, hN, cs⟩ := do_fn Fi (by omega) (by omega) (hI _ (getD_mem hlt))
   have hc : (doF (actsF newF (L.take i)) (ix L i)).2 = codeN newF L i := rfl
   rw [← take_acts newF L hlt, hc] at cs
   conv => whnf
   refine And.intro ⟨by omega, by omega⟩ ?_
   conv => whnf
   rcases hN with ⟨rfl, rfl⟩ | ⟨rfl, rfl⟩ | ⟨rfl, rfl⟩
   · refine CallC.k [(0, 0), (1, 1), (2, 2), (3, 3), (4, 4), (5, 5)] cs rfl rfl (AVsle.refl _) ⟨MOle.refl _, MOle.refl _, MOle.refl _, MOle.refl _, MOle.refl _, MOle.refl _, trivial⟩ rfl ?_
     conv => whnf
     refine And.intro ⟨show (i + 1) * 8 ≤ 140737488355328 by omega, fun k hk => by (obtain rfl : k = 0 := by omega); rfl⟩ ?_
     conv => whnf
     refine And.intro (inI64 (by omega) (by omega)) ?_
     conv => whnf
     exact ⟨i + 1, hlt, by omega, [(0, 0), (1, 1), (2, 2), (3, 3), (4, 4), (5, 5), (17, 6), (7, 7)], rfl, rfl, ⟨AVle.refl _, AVle.refl _, AVle.refl _, AVle.refl _, AVle.refl _, AVle.refl _, trivial⟩, ⟨MOle.refl _, MOle.refl _, MOle.refl _, MOle.refl _, MOle.refl _, MOle.refl _, MOle.arr rfl (fun k hk => app_ix (i := i) (r1 := fun k => [.int .i64 (codeN newF L k)]) rfl hk), MOle.refl _, trivial⟩⟩
   · refine CallC.k [(0, 0), (1, 1), (2, 2), (3, 3), (4, 4), (5, 5)] cs rfl rfl (AVsle.refl _) ⟨MOle.refl _, MOle.refl _, MOle.refl _, MOle.refl _, MOle.refl _, MOle.refl _, trivial⟩ rfl ?_
     conv => whnf
     refine And.intro ⟨show (i + 1) * 8 ≤ 140737488355328 by omega, fun k hk => by (obtain rfl : k = 0 := by omega); rfl⟩ ?_
     conv => whnf
     refine And.intro (inI64 (by omega) (by omega)) ?_
     conv => whnf
     exact ⟨i + 1, hlt, by omega, [(0, 0), (1, 1), (2, 2), (3, 3), (9, 4), (5, 5), (17, 6), (7, 7)], rfl, rfl, ⟨AVle.refl _, AVle.refl _, AVle.refl _, AVle.refl _, AVle.refl _, AVle.refl _, trivial⟩, ⟨MOle.refl _, MOle.refl _, MOle.refl _, MOle.refl _, MOle.refl _, MOle.refl _, MOle.arr rfl (fun k hk => app_ix (i := i) (r1 := fun k => [.int .i64 (codeN newF L k)]) rfl hk), MOle.refl _, trivial⟩⟩
   · refine CallC.k [(0, 0), (1, 1), (2, 2), (3, 3), (4, 4), (5, 5)] cs rfl rfl (AVsle.refl _) ⟨MOle.refl _, MOle.refl _, MOle.refl _, MOle.refl _, MOle.refl _, MOle.refl _, trivial⟩ rfl ?_
     conv => whnf
     refine And.intro ⟨show (i + 1) * 8 ≤ 140737488355328 by omega, fun k hk => by (obtain rfl : k = 0 := by omega); rfl⟩ ?_
     conv => whnf
     refine And.intro (inI64 (by omega) (by omega)) ?_
     conv => whnf
     exact ⟨i + 1, hlt, by omega, [(0, 0), (1, 1), (2, 2), (3, 3), (4, 4), (9, 5), (17, 6), (7, 7)], rfl, rfl, ⟨AVle.refl _, AVle.refl _, AVle.refl _, AVle.refl _, AVle.refl _, AVle.refl _, trivial⟩, ⟨MOle.refl _, MOle.refl _, MOle.refl _, MOle.refl _, MOle.refl _, MOle.refl _, MOle.arr rfl (fun k hk => app_ix (i := i) (r1 := fun k => [.int .i64 (codeN newF L k)]) rfl hk), MOle.refl _, trivial⟩⟩
 · have he : i = L.length := by have := of_decide_eq_false h; omega
   subst he
   have cc := copiedF_fn (actsF newF (L.take L.length)) (Fi.sz (by omega) (by omega))
   conv => whnf
   refine CallN.c ?_
   refine CallN.frz 1 rfl ?_
   refine CallN.frz 2 rfl ?_
   refine CallN.frz 3 rfl ?_
   refine CallN.frz 4 rfl ?_
   refine CallN.frz 5 rfl ?_
   refine CallN.nl _ cc ?_ ?_
   · exact rfl
   conv => whnf
   exact And.intro trivial ⟨[(6, 0)], rfl, AVle.refl _, MOle.refl _, trivial⟩
theorem ActsRun_fn (L : List Act) (hL : L.length ≤ 64) (hok : ∀ a ∈ L, a.ok = true) (hI : ∀ a ∈ L, ActI a) : VFn Tryz.prog 6 [acts L] (.tup [(actsF newF L).av, .sl 1 L.length fun k => [.int .i64 (codeN newF L k)], .int .i64 0]) := (ActsRun_own L hL hok hI).vfn

theorem ActI.of_ok {a : Act} (h : a.ok = true) : ActI a := by
 obtain ⟨k, who, n, t, f, u, b⟩ := a
 unfold Act.ok at h
 simp only at h
 by_cases h1 : k = 1 ∨ k = 2
 · rw [if_pos h1] at h
   simp only [Bool.and_eq_true, within, decide_eq_true_eq] at h
   exact ⟨by show 1 ≤ k ∧ k ≤ 6; omega, by show 0 ≤ who ∧ who ≤ 6; omega, fun g => by have g : k = 3 := g; omega, fun g => by have g : k = 4 := g; omega, fun g => by have g : k = 5 := g; omega, fun g => by have g : k = 6 := g; omega⟩
 rw [if_neg h1] at h
 by_cases h3 : k = 3
 · rw [if_pos h3] at h
   simp only [Bool.and_eq_true, within, decide_eq_true_eq] at h
   exact ⟨by show 1 ≤ k ∧ k ≤ 6; omega, by show 0 ≤ who ∧ who ≤ 6; omega, fun g => by show 0 ≤ n ∧ n ≤ 1000; omega, fun g => by have g : k = 4 := g; omega, fun g => by have g : k = 5 := g; omega, fun g => by have g : k = 6 := g; omega⟩
 rw [if_neg h3] at h
 by_cases h4 : k = 4
 · rw [if_pos h4] at h
   simp only [Bool.and_eq_true, within, decide_eq_true_eq] at h
   exact ⟨by show 1 ≤ k ∧ k ≤ 6; omega, by show 0 ≤ who ∧ who ≤ 6; omega, fun g => by have g : k = 3 := g; omega, fun g => by show -3 ≤ n ∧ n ≤ 3; omega, fun g => by have g : k = 5 := g; omega, fun g => by have g : k = 6 := g; omega⟩
 rw [if_neg h4] at h
 by_cases h5 : k = 5
 · rw [if_pos h5] at h
   simp only [Bool.and_eq_true, within, decide_eq_true_eq] at h
   exact ⟨by show 1 ≤ k ∧ k ≤ 6; omega, by show 0 ≤ who ∧ who ≤ 6; omega, fun g => by have g : k = 3 := g; omega, fun g => by have g : k = 4 := g; omega, fun g => ⟨by show who = 2 ∨ who = 3; omega, h.2, by show 1 ≤ b.length ∧ b.length ≤ 8; omega⟩, fun g => by have g : k = 6 := g; omega⟩
 rw [if_neg h5] at h
 by_cases h6 : k = 6
 · rw [if_pos h6] at h
   simp only [Bool.and_eq_true, decide_eq_true_eq] at h
   obtain ⟨⟨⟨⟨a1, a2⟩, a3⟩, a4⟩, a5⟩ := h
   simp only [within, Bool.and_eq_true, decide_eq_true_eq] at a1
   exact ⟨by show 1 ≤ k ∧ k ≤ 6; omega, by show 0 ≤ who ∧ who ≤ 6; omega, fun g => by have g : k = 3 := g; omega, fun g => by have g : k = 4 := g; omega, fun g => by have g : k = 5 := g; omega, fun g => ⟨by show who = 4 ∨ who = 5; omega, a3, a4⟩⟩
 · rw [if_neg h6] at h; cases h
theorem drawn_last (s : Src) {k : Int} (f : Int) (h : s.ok k) (hk : 100000 ≤ k ∧ k ≤ 990000) (hf : 0 ≤ f ∧ f ≤ 80000) : smpsOK (s.samples f 7).1 = true ∧ (s.samples f 7).1.length ≤ 7 ∧ (s.samples f 7).2.2.ok (k + 90) ∧ ∀ e ∈ (s.samples f 7).1, f ≤ e.t ∧ e.t ≤ f + 28 := by
 have n0 := next_b s h (by omega) (7 + 1)
 have hm := n0.1.2 (by omega)
 have hm0 := n0.1.1
 have h0 : SSok ([], f, (s.next (7 + 1)).2) 0 (k + 3) := ⟨rfl, by simp, n0.2.1, by simp only; omega⟩
 have t0 : SSt ([], f, (s.next (7 + 1)).2) f 0 := ⟨⟨Int.le_refl _, by simp⟩, by simp, List.Pairwise.nil⟩
 have a := it_ok h0 (by omega) (s.next (7 + 1)).1.toNat
 have b := it_t h0 t0 (by omega) (s.next (7 + 1)).1.toNat
 have d := drawn_ok s f 7 (wk h (by omega)) (by omega) (by omega)
 refine ⟨d.1, by have := d.2; omega, ?_, ?_⟩
 · unfold Src.samples
   exact wk a.2.2.1 (by omega)
 · unfold Src.samples
   obtain ⟨⟨b1, b2⟩, b3, b4⟩ := b
   intro e he
   have := b3 e he
   omega
def AT (f : Int) (a : Act) : Prop := a.ok = true ∧ (a.k = 5 → 1 ≤ a.b.length ∧ f ≤ (ix a.b (a.b.length - 1)).t ∧ (ix a.b (a.b.length - 1)).t ≤ f + 28)
def Road (s : Src) (k : Int) (f : Int) : Prop := ∃ (a : Act) (q : Src), AT f a ∧ q.ok (k + 120) ∧ FnM Tryz.prog 99 1 [.bptr 0 0, .int .i64 f] [(0, .box s.row)] a.av [(0, .box q.row)] 1
theorem actLe (k w n t f u : Int) : AVle (.agg [.int .i64 k, .int .i64 w, .int .i64 n, .int .i64 t, .int .i64 f, .int .i64 u, .nilsl]) (Act.mk k w n t f u []).av :=
 AVle.agg (AVsle.cons (AVle.refl _) (AVsle.cons (AVle.refl _) (AVsle.cons (AVle.refl _) (AVsle.cons (AVle.refl _) (AVsle.cons (AVle.refl _) (AVsle.cons (AVle.refl _) (AVsle.cons (AVle.nilsl _ _ rfl) AVsle.nil)))))))
theorem at_of {f : Int} {a : Act} (h : a.ok = true) (h5 : a.k ≠ 5) : AT f a := ⟨h, fun g => absurd g h5⟩
theorem ok_step {w : Int} (h : 0 ≤ w ∧ w ≤ 6) : (Act.mk 1 w 0 0 0 0 []).ok = true := by simp [Act.ok, within, Act.noR, Act.noB]; omega
theorem ok_crash {w : Int} (h : 0 ≤ w ∧ w ≤ 6) : (Act.mk 2 w 0 0 0 0 []).ok = true := by simp [Act.ok, within, Act.noR, Act.noB]; omega
theorem ok_tick {n : Int} (h : 0 ≤ n ∧ n ≤ 1000) : (Act.mk 3 0 n 0 0 0 []).ok = true := by simp [Act.ok, within, Act.noR, Act.noB]; omega
theorem ok_skew {w n : Int} (h : 0 ≤ w ∧ w ≤ 6) (h2 : -3 ≤ n ∧ n ≤ 3) : (Act.mk 4 w n 0 0 0 []).ok = true := by simp [Act.ok, within, Act.noR, Act.noB]; omega
theorem ok_ing {w : Int} {b : List Smp} (h : 2 ≤ w ∧ w ≤ 3) (hb : smpsOK b = true) (h1 : 1 ≤ b.length ∧ b.length ≤ 8) : (Act.mk 5 w 0 0 0 0 b).ok = true := by simp [Act.ok, within, Act.noR, Act.noB, hb]; omega
theorem ok_ask {w t f u : Int} (h : 4 ≤ w ∧ w ≤ 5) (ht : 0 ≤ t ∧ t ≤ 2) (hr : isRange f u = true) : (Act.mk 6 w 0 t f u []).ok = true := by simp [Act.ok, within, Act.noR, Act.noB, hr]; omega
def lst (v : Int) : Int := if v = 0 ∨ v = 1 then 0 else if v = 2 then 1 else if v = 3 ∨ v = 4 then 2 else if v = 5 ∨ v = 6 then 3 else if v = 7 then 4 else if v = 8 then 5 else 6
theorem lst_b (v : Int) : 0 ≤ lst v ∧ lst v ≤ 6 := by
 unfold lst
 repeat' split
 all_goals omega
theorem act_step (s : Src) {k : Int} (h : s.ok k) (hk : 100000 ≤ k ∧ k ≤ 900000) (f : Int) (hf : 0 ≤ f ∧ f ≤ 80000) (d : Int) (hd : (s.next 16).1 = d) (h5 : 5 ≤ d) : Road s k f := by
 have n1 := next_b s h (by omega) 16
 have c1 := next_fn s 16 (wk h (by omega))
 rw [hd] at c1
 have n2 := next_b (s.next 16).2 n1.2.1 (by omega) 10
 have c2 := next_fn (s.next 16).2 10 (wk n1.2.1 (by omega))
 have b2 := n2.1.2 (by omega)
 have b2' := n2.1.1
 obtain ⟨v, hv⟩ : ∃ v, ((s.next 16).2.next 10).1 = v := ⟨_, rfl⟩
 rw [hv] at c2 b2 b2'
 refine ⟨⟨1, lst v, 0, 0, 0, 0, []⟩, ((s.next 16).2.next 10).2, at_of (ok_step (lst_b v)) (show (1 : Int) ≠ 5 by decide), wk n2.2.1 (by omega), ?_⟩
 have : v = 0 ∨ v = 1 ∨ v = 2 ∨ v = 3 ∨ v = 4 ∨ v = 5 ∨ v = 6 ∨ v = 7 ∨ v = 8 ∨ v = 9 := by omega
 rcases this with rfl | rfl | rfl | rfl | rfl | rfl | rfl | rfl | rfl | rfl
 all_goals
  refine FnM.introC Tryz.call99 Tryz.func99 rfl rfl ?_
  conv => whnf
  refine CallC.k [(0, 0)] (c1) rfl rfl (AVsle.refl _) ⟨MOle.refl _, trivial⟩ rfl ?_
  conv => whnf
  refine Grd.intro (fun g => absurd (of_decide_eq_true g) (by omega)) (fun _ => ?_)
  conv => whnf
  refine Grd.intro (fun g => absurd (of_decide_eq_true g) (by omega)) (fun _ => ?_)
  conv => whnf
  refine Grd.intro (fun g => absurd (of_decide_eq_true g) (by omega)) (fun _ => ?_)
  conv => whnf
  refine Grd.intro (fun g => absurd (of_decide_eq_true g) (by omega)) (fun _ => ?_)
  conv => whnf
  refine Grd.intro (fun g => absurd (of_decide_eq_true g) (by omega)) (fun _ => ?_)
  conv => whnf
  conv => whnf
  refine CallC.k [(0, 0)] (c2) rfl rfl (AVsle.refl _) ⟨MOle.refl _, trivial⟩ rfl ?_
  conv => whnf
  refine And.intro ⟨by decide, by decide⟩ ?_
  conv => whnf
  exact And.intro trivial ⟨[(0, 0)], rfl, actLe _ _ _ _ _ _, MOle.refl _, trivial⟩
theorem act_ing (s : Src) {k : Int} (h : s.ok k) (hk : 100000 ≤ k ∧ k ≤ 900000) (f : Int) (hf : 0 ≤ f ∧ f ≤ 80000) (d : Int) (hd : (s.next 16).1 = d) (h5 : d = 0 ∨ d = 1) : Road s k f := by
 have n1 := next_b s h (by omega) 16
 have c1 := next_fn s 16 (wk h (by omega))
 rw [hd] at c1
 have c2 := samples_fn (s.next 16).2 f 7 (wk n1.2.1 (by omega)) (by omega) (by omega)
 obtain ⟨d1, d2, d3, d4⟩ := drawn_last (s.next 16).2 f n1.2.1 (by omega) hf
 generalize (s.next 16).2.samples f 7 = X at *
 obtain ⟨L, fe, q2⟩ := X
 have d1 : smpsOK L = true := d1
 have d2 : L.length ≤ 7 := d2
 have d3 : q2.ok (k + 3 + 90) := d3
 have d4 : ∀ e ∈ L, f ≤ e.t ∧ e.t ≤ f + 28 := d4
 have c2 : FnM Tryz.prog 167 1 [.bptr 0 0, .int .i64 f, .int .i64 7] [(0, .box (s.next 16).2.row)] (.osl 1) [(0, .box q2.row), (1, .arr 98 2 L.length fun i => (ix L i).row)] 2 := c2
 by_cases h0 : L.length = 0
 · have n3 := next_b q2 d3 (by omega) 10
   have c3 := next_fn q2 10 (wk d3 (by omega))
   have b2 := n3.1.2 (by omega)
   have b2' := n3.1.1
   obtain ⟨v, hv⟩ : ∃ v, (q2.next 10).1 = v := ⟨_, rfl⟩
   rw [hv] at c3 b2 b2'
   refine ⟨⟨1, lst v, 0, 0, 0, 0, []⟩, (q2.next 10).2, at_of (ok_step (lst_b v)) (show (1 : Int) ≠ 5 by decide), wk n3.2.1 (by omega), ?_⟩
   have : v = 0 ∨ v = 1 ∨ v = 2 ∨ v = 3 ∨ v = 4 ∨ v = 5 ∨ v = 6 ∨ v = 7 ∨ v = 8 ∨ v = 9 := by omega
   rcases h5 with rfl | rfl <;> rcases this with rfl | rfl | rfl | rfl | rfl | rfl | rfl | rfl | rfl | rfl
   all_goals
    refine FnM.introC Tryz.call99 Tryz.func99 rfl rfl ?_
    conv => whnf
    refine CallC.k [(0, 0)] (c1) rfl rfl (AVsle.refl _) ⟨MOle.refl _, trivial⟩ rfl ?_
    conv => whnf
    conv => whnf
    refine CallC.k [(0, 0)] (c2) rfl rfl (AVsle.refl _) ⟨MOle.refl _, trivial⟩ rfl ?_
    conv => whnf
    refine Grd.intro (fun g => absurd (show (0 : Int) < (L.length : Int) from of_decide_eq_true g) (by omega)) (fun _ => ?_)
    conv => whnf
    conv => whnf
    refine CallC.k [(0, 0)] (c3) rfl rfl (AVsle.refl _) ⟨MOle.refl _, trivial⟩ rfl ?_
    conv => whnf
    refine And.intro ⟨by decide, by decide⟩ ?_
    conv => whnf
    exact And.intro trivial ⟨[(0, 0)], rfl, actLe _ _ _ _ _ _, MOle.refl _, trivial⟩
 · have n3 := next_b q2 d3 (by omega) 2
   have c3 := next_fn q2 2 (wk d3 (by omega))
   have b2 := n3.1.2 (by omega)
   have b2' := n3.1.1
   have hl := d4 _ (getD_mem (show L.length - 1 < L.length by omega))
   refine ⟨⟨5, 2 + (q2.next 2).1, 0, 0, 0, 0, L⟩, (q2.next 2).2, ⟨ok_ing (by omega) d1 (by omega), fun _ => ⟨by show 1 ≤ L.length; omega, hl.1, hl.2⟩⟩, wk n3.2.1 (by omega), ?_⟩
   rcases h5 with rfl | rfl
   all_goals
    refine FnM.introC Tryz.call99 Tryz.func99 rfl rfl ?_
    conv => whnf
    refine CallC.k [(0, 0)] (c1) rfl rfl (AVsle.refl _) ⟨MOle.refl _, trivial⟩ rfl ?_
    conv => whnf
    conv => whnf
    refine CallC.k [(0, 0)] (c2) rfl rfl (AVsle.refl _) ⟨MOle.refl _, trivial⟩ rfl ?_
    conv => whnf
    refine Grd.intro (fun _ => ?_) (fun g => absurd (show ¬ (0 : Int) < (L.length : Int) from of_decide_eq_false g) (by omega))
    conv => whnf
    conv => whnf
    refine CallC.k [(0, 0)] (c3) rfl rfl (AVsle.refl _) ⟨MOle.refl _, trivial⟩ rfl ?_
    conv => whnf
    refine And.intro (inI64 (by omega) (by omega)) ?_
    conv => whnf
    exact And.intro trivial ⟨[(0, 0)], rfl, AVle.refl _, MOle.refl _, trivial⟩
theorem act_tick (s : Src) {k : Int} (h : s.ok k) (hk : 100000 ≤ k ∧ k ≤ 900000) (f : Int) (hf : 0 ≤ f ∧ f ≤ 80000) (d : Int) (hd : (s.next 16).1 = d) (h5 : d = 3) : Road s k f := by
 have n1 := next_b s h (by omega) 16
 have c1 := next_fn s 16 (wk h (by omega))
 rw [hd] at c1
 have n2 := next_b (s.next 16).2 n1.2.1 (by omega) 5
 have c2 := next_fn (s.next 16).2 5 (wk n1.2.1 (by omega))
 have n3 := next_b ((s.next 16).2.next 5).2 n2.2.1 (by omega) 5
 have c3 := next_fn ((s.next 16).2.next 5).2 5 (wk n2.2.1 (by omega))
 have n4 := next_b (((s.next 16).2.next 5).2.next 5).2 n3.2.1 (by omega) 60
 have c4 := next_fn (((s.next 16).2.next 5).2.next 5).2 60 (wk n3.2.1 (by omega))
 have n5 := next_b ((((s.next 16).2.next 5).2.next 5).2.next 60).2 n4.2.1 (by omega) 3
 have c5 := next_fn ((((s.next 16).2.next 5).2.next 5).2.next 60).2 3 (wk n4.2.1 (by omega))
 have b2 := n2.1.2 (by omega)
 have b3 := n3.1.2 (by omega)
 have b4 := n4.1.2 (by omega)
 have b5 := n5.1.2 (by omega)
 generalize ((s.next 16).2.next 5).1 = x2 at *
 generalize (((s.next 16).2.next 5).2.next 5).1 = x3 at *
 generalize ((((s.next 16).2.next 5).2.next 5).2.next 60).1 = x4 at *
 obtain ⟨q, hq⟩ : ∃ q, (((((s.next 16).2.next 5).2.next 5).2.next 60).2.next 3).2 = q := ⟨_, rfl⟩
 obtain ⟨v, hv⟩ : ∃ v, (((((s.next 16).2.next 5).2.next 5).2.next 60).2.next 3).1 = v := ⟨_, rfl⟩
 rw [hv, hq] at c5
 rw [hv] at b5 n5
 rw [hq] at n5
 have b5' := n5.1.1
 have hn : 0 ≤ (if v = 0 then x2 else if v = 1 then x3 else x4) ∧ (if v = 0 then x2 else if v = 1 then x3 else x4) ≤ 1000 := by
  have := n2.1.1; have := n3.1.1; have := n4.1.1
  repeat' split
  all_goals omega
 refine ⟨⟨3, 0, if v = 0 then x2 else if v = 1 then x3 else x4, 0, 0, 0, []⟩, q, at_of (ok_tick hn) (show (3 : Int) ≠ 5 by decide), wk n5.2.1 (by omega), ?_⟩
 have : v = 0 ∨ v = 1 ∨ v = 2 := by omega
 subst h5
 clear hv hd
 rcases this with rfl | rfl | rfl
 all_goals
  refine FnM.introC Tryz.call99 Tryz.func99 rfl rfl ?_
  conv => whnf
  refine CallC.k [(0, 0)] (c1) rfl rfl (AVsle.refl _) ⟨MOle.refl _, trivial⟩ rfl ?_
  conv => whnf
  conv => whnf
  refine CallC.k [(0, 0)] (c2) rfl rfl (AVsle.refl _) ⟨MOle.refl _, trivial⟩ rfl ?_
  conv => whnf
  conv => whnf
  refine CallC.k [(0, 0)] (c3) rfl rfl (AVsle.refl _) ⟨MOle.refl _, trivial⟩ rfl ?_
  conv => whnf
  conv => whnf
  refine CallC.k [(0, 0)] (c4) rfl rfl (AVsle.refl _) ⟨MOle.refl _, trivial⟩ rfl ?_
  conv => whnf
  conv => whnf
  refine CallC.k [(0, 0)] (c5) rfl rfl (AVsle.refl _) ⟨MOle.refl _, trivial⟩ rfl ?_
  conv => whnf
  refine And.intro ⟨by decide, by decide⟩ ?_
  conv => whnf
  exact And.intro trivial ⟨[(0, 0)], rfl, actLe _ _ _ _ _ _, MOle.refl _, trivial⟩
theorem act_4 (s : Src) {k : Int} (h : s.ok k) (hk : 100000 ≤ k ∧ k ≤ 900000) (f : Int) (hf : 0 ≤ f ∧ f ≤ 80000) (d : Int) (hd : (s.next 16).1 = d) (h5 : d = 4) : Road s k f := by
 have n1 := next_b s h (by omega) 16
 have c1 := next_fn s 16 (wk h (by omega))
 rw [hd] at c1
 have n2 := next_b (s.next 16).2 n1.2.1 (by omega) 2
 have c2 := chance_fn (s.next 16).2 2 (wk n1.2.1 (by omega)) (by omega)
 have n3 := next_b ((s.next 16).2.next 2).2 n2.2.1 (by omega) 7
 have c3 := next_fn ((s.next 16).2.next 2).2 7 (wk n2.2.1 (by omega))
 have b3 := n3.1.2 (by omega)
 have b3' := n3.1.1
 have n4 := next_b (((s.next 16).2.next 2).2.next 7).2 n3.2.1 (by omega) 7
 have c4 := next_fn (((s.next 16).2.next 2).2.next 7).2 7 (wk n3.2.1 (by omega))
 have b4 := n4.1.2 (by omega)
 have b4' := n4.1.1
 subst h5
 by_cases hc : ((s.next 16).2.next 2).1 = 2 - 1
 · refine ⟨⟨2, (((s.next 16).2.next 2).2.next 7).1, 0, 0, 0, 0, []⟩, (((s.next 16).2.next 2).2.next 7).2, at_of (ok_crash (by omega)) (show (2 : Int) ≠ 5 by decide), wk n3.2.1 (by omega), ?_⟩
   rw [decide_eq_true hc] at c2
   refine FnM.introC Tryz.call99 Tryz.func99 rfl rfl ?_
   conv => whnf
   refine CallC.k [(0, 0)] (c1) rfl rfl (AVsle.refl _) ⟨MOle.refl _, trivial⟩ rfl ?_
   conv => whnf
   conv => whnf
   refine CallC.k [(0, 0)] (c2) rfl rfl (AVsle.refl _) ⟨MOle.refl _, trivial⟩ rfl ?_
   conv => whnf
   conv => whnf
   refine CallC.k [(0, 0)] (c3) rfl rfl (AVsle.refl _) ⟨MOle.refl _, trivial⟩ rfl ?_
   conv => whnf
   exact And.intro trivial ⟨[(0, 0)], rfl, actLe _ _ _ _ _ _, MOle.refl _, trivial⟩
 · refine ⟨⟨4, (((s.next 16).2.next 2).2.next 7).1, ((((s.next 16).2.next 2).2.next 7).2.next 7).1 - 3, 0, 0, 0, []⟩, ((((s.next 16).2.next 2).2.next 7).2.next 7).2, at_of (ok_skew (by omega) (by omega)) (show (4 : Int) ≠ 5 by decide), wk n4.2.1 (by omega), ?_⟩
   rw [decide_eq_false hc] at c2
   refine FnM.introC Tryz.call99 Tryz.func99 rfl rfl ?_
   conv => whnf
   refine CallC.k [(0, 0)] (c1) rfl rfl (AVsle.refl _) ⟨MOle.refl _, trivial⟩ rfl ?_
   conv => whnf
   conv => whnf
   refine CallC.k [(0, 0)] (c2) rfl rfl (AVsle.refl _) ⟨MOle.refl _, trivial⟩ rfl ?_
   conv => whnf
   conv => whnf
   refine CallC.k [(0, 0)] (c3) rfl rfl (AVsle.refl _) ⟨MOle.refl _, trivial⟩ rfl ?_
   conv => whnf
   conv => whnf
   refine CallC.k [(0, 0)] (c4) rfl rfl (AVsle.refl _) ⟨MOle.refl _, trivial⟩ rfl ?_
   conv => whnf
   refine And.intro (inI64 (by omega) (by omega)) ?_
   conv => whnf
   exact And.intro trivial ⟨[(0, 0)], rfl, actLe _ _ _ _ _ _, MOle.refl _, trivial⟩
theorem max_b {f w v : Int} (hw : w = 1 ∨ w = 5 ∨ w = 20) (hf : 0 ≤ f ∧ f ≤ 80000) (h0 : 0 ≤ v) (h : v < (if f.tdiv w + 1 > 1 then f.tdiv w + 1 else 1)) : 0 ≤ w * v ∧ w * v ≤ f := by
 rw [Int.tdiv_eq_ediv_of_nonneg hf.1] at h
 rcases hw with rfl | rfl | rfl <;> (split at h <;> omega)
theorem act_ask (s : Src) {k : Int} (h : s.ok k) (hk : 100000 ≤ k ∧ k ≤ 900000) (f : Int) (hf : 0 ≤ f ∧ f ≤ 80000) (d : Int) (hd : (s.next 16).1 = d) (h5 : d = 2) : Road s k f := by
 have n1 := next_b s h (by omega) 16
 have c1 := next_fn s 16 (wk h (by omega))
 rw [hd] at c1
 have n2 := next_b (s.next 16).2 n1.2.1 (by omega) 3
 have c2 := next_fn (s.next 16).2 3 (wk n1.2.1 (by omega))
 have b2 := n2.1.2 (by omega)
 have b2' := n2.1.1
 obtain ⟨v, hv⟩ : ∃ v, ((s.next 16).2.next 3).1 = v := ⟨_, rfl⟩
 rw [hv] at c2 b2 b2'
 generalize ((s.next 16).2.next 3).2 = q2 at *
 subst h5
 clear hv hd
 have : v = 0 ∨ v = 1 ∨ v = 2 := by omega
 have cw := l04Width_fn v this
 have hw : wd v = 1 ∨ wd v = 5 ∨ wd v = 20 := by rcases this with rfl | rfl | rfl; exact .inl rfl; exact .inr (.inl rfl); exact .inr (.inr rfl)
 generalize wd v = w at *
 have n3 := next_b q2 n2.2.1 (by omega) (if f.tdiv w + 1 > 1 then f.tdiv w + 1 else 1)
 have c3 := next_fn q2 (if f.tdiv w + 1 > 1 then f.tdiv w + 1 else 1) (wk n2.2.1 (by omega))
 have e1 := n3.1.2 (by split <;> omega)
 have e2 := max_b hw hf n3.1.1 e1
 generalize (q2.next (if f.tdiv w + 1 > 1 then f.tdiv w + 1 else 1)).1 = x3 at *
 generalize (q2.next (if f.tdiv w + 1 > 1 then f.tdiv w + 1 else 1)).2 = q3 at *
 have n4 := next_b q3 n3.2.1 (by omega) 2
 have c4 := next_fn q3 2 (wk n3.2.1 (by omega))
 have b4 := n4.1.2 (by omega)
 have b4' := n4.1.1
 generalize (q3.next 2).1 = x4 at *
 generalize (q3.next 2).2 = q4 at *
 have n5 := next_b q4 n4.2.1 (by omega) 4
 have c5 := next_fn q4 4 (wk n4.2.1 (by omega))
 have b5 := n5.1.2 (by omega)
 have b5' := n5.1.1
 generalize (q4.next 4).1 = x5 at *
 generalize (q4.next 4).2 = q5 at *
 have hf0 := tdiv_b (n := f) (m := w) hf.1 (by omega)
 have e5 : 0 ≤ w * x5 ∧ w * x5 ≤ 60 := by rcases hw with rfl | rfl | rfl <;> omega
 refine ⟨⟨6, 4 + x4, 0, v, w * x3, w * x3 + w * x5, []⟩, q5, at_of (ok_ask (by omega) (by omega) (by simp [isRange, within]; omega)) (show (6 : Int) ≠ 5 by decide), wk n5.2.1 (by omega), ?_⟩
 refine FnM.introC Tryz.call99 Tryz.func99 rfl rfl ?_
 conv => whnf
 refine CallC.k [(0, 0)] (c1) rfl rfl (AVsle.refl _) ⟨MOle.refl _, trivial⟩ rfl ?_
 conv => whnf
 conv => whnf
 refine CallC.k [(0, 0)] (c2) rfl rfl (AVsle.refl _) ⟨MOle.refl _, trivial⟩ rfl ?_
 conv => whnf
 conv => whnf
 refine CallC.nl _ (cw) ?_ ?_
 · exact rfl
 conv => whnf
 refine And.intro ⟨by omega, inI64 (by omega) (by omega)⟩ ?_
 conv => whnf
 refine And.intro (inI64 (by omega) (by omega)) ?_
 conv => whnf
 conv => whnf
 refine CallC.k [(0, 0)] (c3) rfl rfl (AVsle.refl _) ⟨MOle.refl _, trivial⟩ rfl ?_
 conv => whnf
 refine And.intro (inI64 (by omega) (by omega)) ?_
 conv => whnf
 conv => whnf
 refine CallC.k [(0, 0)] (c4) rfl rfl (AVsle.refl _) ⟨MOle.refl _, trivial⟩ rfl ?_
 conv => whnf
 refine And.intro (inI64 (by omega) (by omega)) ?_
 conv => whnf
 conv => whnf
 refine CallC.k [(0, 0)] (c5) rfl rfl (AVsle.refl _) ⟨MOle.refl _, trivial⟩ rfl ?_
 conv => whnf
 refine And.intro (inI64 (by omega) (by omega)) ?_
 conv => whnf
 refine And.intro (inI64 (by omega) (by omega)) ?_
 conv => whnf
 exact And.intro trivial ⟨[(0, 0)], rfl, actLe _ _ _ _ _ _, MOle.refl _, trivial⟩
theorem act_ex (s : Src) {k : Int} (h : s.ok k) (hk : 100000 ≤ k ∧ k ≤ 900000) (f : Int) (hf : 0 ≤ f ∧ f ≤ 80000) : Road s k f := by
 have n1 := next_b s h (by omega) 16
 have b1 := n1.1.2 (by omega)
 have b1' := n1.1.1
 obtain ⟨d, hd⟩ : ∃ d, (s.next 16).1 = d := ⟨_, rfl⟩
 rw [hd] at b1 b1'
 have : (d = 0 ∨ d = 1) ∨ d = 2 ∨ d = 3 ∨ d = 4 ∨ 5 ≤ d := by omega
 rcases this with g | g | g | g | g
 · exact act_ing s h hk f hf d hd g
 · exact act_ask s h hk f hf d hd g
 · exact act_tick s h hk f hf d hd g
 · exact act_4 s h hk f hf d hd g
 · exact act_step s h hk f hf d hd g
abbrev AS := List Act × Int × Src
def nextAt (f : Int) (x : Act) : Int := if x.k = 5 then (ix x.b (x.b.length - 1)).t + 1 else f
theorem acts_ex (s : Src) {k : Int} (h : s.ok k) (hk : 100000 ≤ k ∧ k ≤ 800000) : ∃ (L : List Act) (q : Src), (L.length ≤ 64 ∧ ∀ a ∈ L, a.ok = true) ∧ q.ok (k + 8000) ∧ FnM Tryz.prog 37 1 [.bptr 0 0] [(0, .box s.row)] (acts L) [(0, .box q.row)] 1 := by
 obtain ⟨z, hz, cz⟩ := size_fn s 55 (wk h (by omega)) (by decide)
 have n1 := next_b s h (by omega) (z + 10)
 have c1 := next_fn s (z + 10) (wk h (by omega))
 have b1 := n1.1.2 (by omega)
 obtain ⟨M, hM⟩ : ∃ M : Nat, (s.next (z + 10)).1 = M := ⟨(s.next (z + 10)).1.toNat, by have := n1.1.1; omega⟩
 rw [hM] at b1 c1
 obtain ⟨q0, hq0⟩ : ∃ q0, (s.next (z + 10)).2 = q0 := ⟨_, rfl⟩
 rw [hq0] at c1 n1
 obtain ⟨f, f0, fI, fT⟩ := seq_ex (α := AS) M (fun i y => (y.1.length = i ∧ ∀ a ∈ y.1, a.ok = true) ∧ (0 ≤ y.2.1 ∧ y.2.1 ≤ 29 * (i : Int)) ∧ y.2.2.ok (k + 3 + 120 * i))
  (fun a b => ∃ x : Act, AT a.2.1 x ∧ b.1 = a.1 ++ [x] ∧ b.2.1 = nextAt a.2.1 x ∧ FnM Tryz.prog 99 1 [.bptr 0 0, .int .i64 a.2.1] [(0, .box a.2.2.row)] x.av [(0, .box b.2.2.row)] 1)
  ([], 0, q0) ⟨⟨rfl, fun a ha => by cases ha⟩, by simp, wk n1.2.1 (by omega)⟩
  (fun n a hn ⟨⟨i1, i2⟩, i3, i4⟩ => by
   obtain ⟨x, q, hx, hq, c⟩ := act_ex a.2.2 i4 (by omega) a.2.1 (by omega)
   refine ⟨(a.1 ++ [x], nextAt a.2.1 x, q), ⟨x, hx, rfl, rfl, c⟩, ⟨by simp [i1], fun y hy => ?_⟩, ?_, wk hq (by omega)⟩
   · rcases List.mem_append.1 hy with hy | hy
     · exact i2 y hy
     · rw [List.mem_singleton] at hy; subst hy; exact hx.1
   · show 0 ≤ nextAt a.2.1 x ∧ nextAt a.2.1 x ≤ _
     unfold nextAt
     split
     · rename_i h5
       have := hx.2 h5
       omega
     · omega)
 obtain ⟨⟨g1, g2⟩, _, g4⟩ := fI M (Nat.le_refl _)
 refine ⟨(f M).1, (f M).2.2, ⟨by omega, g2⟩, wk g4 (by omega), ?_⟩
 refine FnM.introC Tryz.call37 Tryz.func37 rfl rfl ?_
 conv => whnf
 conv => whnf
 refine CallC.k [(0, 0)] (cz) rfl rfl (AVsle.refl _) ⟨MOle.refl _, trivial⟩ rfl ?_
 conv => whnf
 refine And.intro (inI64 (by omega) (by omega)) ?_
 conv => whnf
 conv => whnf
 refine CallC.k [(0, 0)] (c1) rfl rfl (AVsle.refl _) ⟨MOle.refl _, trivial⟩ rfl ?_
 conv => whnf
 refine LoopC.mk (fun i : Nat => i ≤ M) (fun i => [(0, .bptr 0 0), (3, .osl 1), (4, .int .i64 (f i).2.1), (5, .int .i64 ((M : Int) - i))])
  (fun i => [(0, .box (f i).2.2.row), (1, .arr 43 7 (f i).1.length fun k => (ix (f i).1 k).cells)]) 2 (fun i => M - i) 0
  ⟨Nat.zero_le _, [(0, 0), (1, 1)], rfl, rfl, ⟨AVle.refl _, AVle.refl _, AVle.of_eq (by rw [f0]; rfl), AVle.of_eq (congrArg (AV.int .i64) (by simp)), trivial⟩, ⟨MOle.of_eq (by rw [f0]; rfl), MOle.arr (by rw [f0]; rfl) (fun k hk => absurd hk (Nat.not_lt_zero k)), trivial⟩⟩ ?_
 intro i hi
 conv => whnf
 refine Grd.intro (fun j1 => ?_) (fun j1 => ?_)
 · have hiM : i < M := by have := of_decide_eq_true j1; omega
   obtain ⟨⟨y1, y2⟩, y3, y4⟩ := fI i hi
   obtain ⟨x, hx, e1, e2, c⟩ := fT i hiM
   conv => whnf
   conv => whnf
   refine CallC.k [(0, 0)] (c) rfl rfl (AVsle.refl _) ⟨MOle.refl _, trivial⟩ rfl ?_
   conv => whnf
   refine Grd.intro (fun j2 => ?_) (fun j2 => ?_)
   · have h5 : x.k = 5 := of_decide_eq_true j2
     have hl := hx.2 h5
     have hj : Int.toNat ((x.b.length : Int) - 1) = x.b.length - 1 := by omega
     rw [← hj] at hl
     have hb := ((ActI.of_ok hx.1).b h5).2.2
     conv => whnf
     refine And.intro (inI64 (by omega) (by omega)) ?_
     conv => whnf
     refine And.intro ⟨by omega, by omega⟩ ?_
     conv => whnf
     refine And.intro (inI64 (by omega) (by omega)) ?_
     conv => whnf
     refine And.intro ⟨show ((f i).1.length + 1) * 72 ≤ 140737488355328 by omega, fun k hk => by (obtain rfl : k = 0 := by omega); rfl⟩ ?_
     conv => whnf
     refine And.intro (inI64 (by omega) (by omega)) ?_
     conv => whnf
     exact ⟨i + 1, hiM, by omega, [(0, 0), (5, 1)], rfl, rfl, ⟨AVle.refl _, AVle.refl _, AVle.of_eq (by rw [e2]; unfold nextAt; rw [if_pos h5, ← hj]; rfl), AVle.of_eq (congrArg (AV.int .i64) (by push_cast; omega)), trivial⟩, ⟨MOle.refl _, MOle.arr (by rw [e1]; simp) (fun k hk => by rw [e1]; exact app_row1 (f := Act.cells) rfl hk), trivial⟩⟩
   · have h5 : ¬ x.k = 5 := of_decide_eq_false j2
     conv => whnf
     refine And.intro ⟨show ((f i).1.length + 1) * 72 ≤ 140737488355328 by omega, fun k hk => by (obtain rfl : k = 0 := by omega); rfl⟩ ?_
     conv => whnf
     refine And.intro (inI64 (by omega) (by omega)) ?_
     conv => whnf
     exact ⟨i + 1, hiM, by omega, [(0, 0), (5, 1)], rfl, rfl, ⟨AVle.refl _, AVle.refl _, AVle.of_eq (by rw [e2]; unfold nextAt; rw [if_neg h5]; rfl), AVle.of_eq (congrArg (AV.int .i64) (by push_cast; omega)), trivial⟩, ⟨MOle.refl _, MOle.arr (by rw [e1]; simp) (fun k hk => by rw [e1]; exact app_row1 (f := Act.cells) rfl hk), trivial⟩⟩
 · have he : i = M := by have := of_decide_eq_false j1; omega
   subst he
   conv => whnf
   exact And.intro trivial ⟨[(0, 0)], rfl, AVle.refl _, ⟨MOle.refl _, trivial⟩⟩
theorem ActsOf_fn (code : List UInt8) (hc : code.length ≤ 1048576) : ∃ L : List Act, (L.length ≤ 64 ∧ ∀ a ∈ L, a.ok = true) ∧ VFn Tryz.prog 7 [byts code] (acts L) := by
 obtain ⟨L, q, hL, hq, c⟩ := acts_ex (srcOf code) (wk (src_ok code hc) (show (0 : Int) ≤ 100000 by decide)) (by decide)
 refine ⟨L, hL, ?_⟩
 refine VFn.introC Tryz.call7 Tryz.func7 rfl rfl ?_
 conv => whnf
 refine CallC.k [] (l00Source_fn code hc) rfl rfl (AVsle.refl _) trivial rfl ?_
 conv => whnf
 refine CallC.k [(0, 0)] (c) rfl rfl (AVsle.refl _) ⟨MOle.refl _, trivial⟩ rfl ?_
 exact And.intro trivial (AVle.refl _)
structure Made (f : Fl) : Prop where
 i : FlI f 512 64
 j : FlJ f
theorem run_fn (code : List UInt8) (hc : code.length ≤ 1048576) : ∃ (L : List Act) (f : Fl), Made f ∧ VFn Tryz.prog 7 [byts code] (acts L) ∧ VFn Tryz.prog 6 [acts L] (.tup [f.av, .sl 1 L.length fun k => [.int .i64 (codeN newF L k)], .int .i64 0]) := by
 obtain ⟨L, ⟨h1, h2⟩, c⟩ := ActsOf_fn code hc
 have hI : ∀ a ∈ L, ActI a := fun a ha => ActI.of_ok (h2 a ha)
 refine ⟨L, actsF newF L, ⟨?_, FlJ.acts L newF_J⟩, c, ActsRun_fn L h1 h2 hI⟩
 have := FlI.acts L newF_I hI (by omega)
 exact this.more (by omega) (by omega)



theorem ActDo_fn {f : Fl} {M Q : Nat} (F : FlI f M Q) (J : FlJ f) (hM : M ≤ 900) (hQ : Q ≤ 1000) {a : Act} (ha : a.ok = true) : VFn Tryz.prog 9 [f.av, a.av] (.tup [(doF f a).1.av, .int .i64 (doF f a).2]) := by
 have A := ActI.of_ok ha
 have c1 := FleetOK_fn f (F.small J (by omega) (by omega))
 rw [F.ok (by omega)] at c1
 have c2 := ActOK_fn a
 rw [ha] at c2
 have c3 := copiedF_own f (F.sz (by omega) (by omega))
 obtain ⟨x, y, hN, c4⟩ := do_fn F (by omega) (by omega) A
 have c5 := copiedF_fn (doF f a).1 ((F.act A (by omega)).1.sz (by omega) (by omega))
 generalize doF f a = p at *
 rcases hN with ⟨rfl, rfl⟩ | ⟨rfl, rfl⟩ | ⟨rfl, rfl⟩
 all_goals
  refine VFn.introC Tryz.call9 Tryz.func9 rfl rfl ?_
  conv => whnf
  conv => whnf
  refine CallC.nl _ (c1) ?_ ?_
  · exact rfl
  conv => whnf
  conv => whnf
  refine CallC.nl _ (c2) ?_ ?_
  · exact rfl
  conv => whnf
  refine CallC.k [] c3 rfl rfl (AVsle.refl _) trivial rfl ?_
  conv => whnf
  refine CallC.k [(8, 0), (3, 1), (4, 2), (5, 3), (6, 4), (7, 5)] c4 rfl rfl (AVsle.refl _) ⟨MOle.refl _, MOle.refl _, MOle.refl _, MOle.refl _, MOle.refl _, MOle.refl _, trivial⟩ rfl ?_
  conv => whnf
  refine CallN.c ?_
  refine CallN.frz 3 rfl ?_
  refine CallN.frz 4 rfl ?_
  refine CallN.frz 5 rfl ?_
 · refine CallN.frz 6 rfl ?_
   refine CallN.frz 7 rfl ?_
   refine CallN.nl _ c5 ?_ ?_
   · exact rfl
   conv => whnf
   exact And.intro trivial (AVle.refl _)
 · refine CallN.frz 9 rfl ?_
   refine CallN.frz 7 rfl ?_
   refine CallN.nl _ c5 ?_ ?_
   · exact rfl
   conv => whnf
   exact And.intro trivial (AVle.refl _)
 · refine CallN.frz 6 rfl ?_
   refine CallN.frz 9 rfl ?_
   refine CallN.nl _ c5 ?_ ?_
   · exact rfl
   conv => whnf
   exact And.intro trivial (AVle.refl _)
theorem NewFleet_fn : VFn Tryz.prog 13 [] newF.av :=
 (NewFleet_own.vfn).weak (AVsle.refl _) (AVle.agg (AVsle.cons (AVle.refl _) (AVsle.cons (AVle.refl _) (AVsle.cons (AVle.refl _) (AVsle.cons (AVle.refl _) (AVsle.cons (AVle.refl _) (AVsle.cons (AVle.refl _) (AVsle.cons (AVle.refl _) (AVsle.cons (AVle.refl _) (AVsle.cons (AVle.refl _) (AVsle.cons (AVle.refl _) (AVsle.cons (AVle.refl _) (AVsle.cons (AVle.refl _) (AVsle.cons (AVle.refl _) (AVsle.cons (AVle.nilsl _ _ rfl) (AVsle.cons (AVle.nilsl _ _ rfl) AVsle.nil))))))))))))))))
def An.eqb (x y : An) : Bool := decide (x.tier = y.tier) && (decide (x.f = y.f) && (decide (x.t = y.t) && (decide (x.code = y.code) && ((Ag.eqb x.a y.a) && true))))
theorem EqualAn2_fn (L M : List An) (hL : L.length ≤ 1048576) (hM : M.length ≤ 1048576) : VFn Tryz.prog 43 [ans L, ans M] (.bool (eqS An.eqb L M)) := by
 by_cases hl : (L.length : Int) = M.length
 · refine VFn.introC Tryz.call43 Tryz.func43 rfl rfl ?_
   refine Grd.intro (fun g => ?_) (fun _ => ?_)
   · exfalso; simp [hl] at g
   refine LoopC.mk (fun i : Nat => i ≤ L.length ∧ ∀ j, j < i → An.eqb (ix L j) (ix M j) = true) (fun i => [(0, ans L), (1, ans M), (12, .int .i64 L.length), (13, .int .i64 i)]) (fun i => []) 0 (fun i => L.length - i) 0
    ⟨⟨Nat.zero_le _, fun j hj => absurd hj (Nat.not_lt_zero j)⟩, [], rfl, rfl, ⟨AVle.refl _, AVle.refl _, AVle.refl _, AVle.refl _, trivial⟩, trivial⟩ ?_
   intro i hi
   obtain ⟨hi, h0⟩ := hi
   refine Grd.intro (fun h2 => ?_) (fun h2 => ?_)
   · have hin : i < L.length := by have := of_decide_eq_true h2; omega
     refine DrawC.mq 8 rfl (by kernel_rfl) ?_
     refine And.intro (by omega) ?_
     refine And.intro (by omega) ?_
     refine And.intro (by kernel_rfl) ?_
     refine Grd.intro (fun g => ?_) (fun g => ?_)
     · have g : (!An.eqb (ix L i) (ix M i)) = true := g
       rw [eqS_no hin (by simpa using g)]
       exact And.intro trivial (AVle.refl _)
     · have g : (!An.eqb (ix L i) (ix M i)) = false := g
       have g : An.eqb (ix L i) (ix M i) = true := by simpa using g
       refine And.intro (inI64 (by omega) (by omega)) ?_
       exact ⟨i + 1, ⟨hin, fun j hj => by
        rcases Nat.lt_or_ge j i with h' | h'
        · exact h0 j h'
        · rw [show j = i by omega]; exact g⟩, by omega, [], rfl, rfl, ⟨AVle.refl _, AVle.refl _, AVle.refl _, AVle.of_eq (congrArg (AV.int .i64) (by simp)), trivial⟩, trivial⟩
   · have : i = L.length := by have := of_decide_eq_false h2; omega
     subst this
     rw [eqS_yes hl h0]
     exact And.intro trivial (AVle.refl _)
 · rw [eqS_len hl]
   refine VFn.introC Tryz.call43 Tryz.func43 rfl rfl ?_
   refine Grd.intro (fun g => ?_) (fun g => ?_)
   · exact And.intro trivial (AVle.refl _)
   · exfalso; simp [hl] at g
def Sto.eqb (x y : Sto) : Bool := eqS Ob.eqb x.os y.os && decide (x.next = y.next)
def Wk.eqb (x y : Wk) : Bool := decide (x.id = y.id) && (decide (x.ph = y.ph) && (decide (x.tok = y.tok) && (Rc.eqb x.job y.job && (eqS En.eqb x.ins y.ins && Ag.eqb x.got y.got))))
def Ig.eqb (x y : Ig) : Bool := decide (x.id = y.id) && (decide (x.seq = y.seq) && (decide (x.f = y.f) && (decide (x.t = y.t) && (eqS Smp.eqb x.b y.b && (x.put == y.put)))))
def Rr.eqb (x y : Rr) : Bool := eqS En.eqb x.left y.left && (decide (x.id = y.id) && (decide (x.ph = y.ph) && (decide (x.tier = y.tier) && (decide (x.f = y.f) && (decide (x.t = y.t) && (decide (x.til = y.til) && (decide (x.code = y.code) && Ag.eqb x.got y.got)))))))
theorem SameStore_fn (x y : Sto) (hx : x.os.length ≤ 1048576) (hy : y.os.length ≤ 1048576) : VFn Tryz.prog 38 [x.av, y.av] (.bool (Sto.eqb x y)) := by
 refine VFn.introC Tryz.call38 Tryz.func38 rfl rfl ?_
 repeat' (conv => whnf
          first
           | (refine Grd.intro (fun h => ?_) (fun h => ?_); rotate_left; focus (exfalso; simp_all; done))
           | (refine Grd.intro (fun h => ?_) (fun h => ?_); focus (exfalso; simp_all; done))
           | refine Grd.intro (fun h => ?_) (fun h => ?_)
           | (refine CallC.sca _ (EqualOb2_fn x.os y.os hx hy) ?_ ?_; focus (exact rfl))
           | (refine And.intro trivial (AVle.of_eq (congrArg AV.bool ?_)); focus (simp_all [Sto.eqb]; done))
           | (refine And.intro trivial (AVle.of_eq (congrArg AV.bool ?_)); focus (simp only [Sto.eqb, *, cond_true, cond_false, Bool.true_and, Bool.and_true, Bool.false_and, Bool.and_false, Bool.not_true, Bool.not_false, Bool.true_or, Bool.or_true, Bool.false_or, Bool.or_false, if_true, ite_true, reduceIte]; done))
           | (refine And.intro trivial (AVle.of_eq (congrArg AV.bool ?_)); focus (simp_all [Sto.eqb]; intros; omega))
           | (refine And.intro trivial (AVle.of_eq (congrArg AV.bool ?_)); focus (simp only [cond_true, cond_false, Bool.not_eq_true', Bool.not_eq_false'] at *; simp only [Sto.eqb, *, cond_true, cond_false, Bool.true_and, Bool.and_true, Bool.false_and, Bool.and_false, Bool.not_true, Bool.not_false, Bool.true_or, Bool.or_true, Bool.false_or, Bool.or_false, if_true, ite_true, reduceIte]; done))
           | fail)
theorem SameWorker_fn (x y : Wk) (hx : x.small) (hy : y.small) : VFn Tryz.prog 15 [x.av, y.av] (.bool (Wk.eqb x y)) := by
 refine VFn.introC Tryz.call15 Tryz.func15 rfl rfl ?_
 repeat' (conv => whnf
          first
           | (refine Grd.intro (fun (h : Rc.eqb x.job y.job = true) => ?_) (fun (h : Rc.eqb x.job y.job = false) => ?_))
           | (refine Grd.intro (fun (h : (!Rc.eqb x.job y.job) = true) => ?_) (fun (h : (!Rc.eqb x.job y.job) = false) => ?_))
           | (refine And.intro trivial (AVle.of_eq (congrArg AV.bool (show Rc.eqb x.job y.job = _ from ?_))); focus (simp_all [Wk.eqb]; done))
           | (refine And.intro trivial (AVle.of_eq (congrArg AV.bool (show (!Rc.eqb x.job y.job) = _ from ?_))); focus (simp_all [Wk.eqb]; done))
           | (refine Grd.intro (fun (h : Ag.eqb x.got y.got = true) => ?_) (fun (h : Ag.eqb x.got y.got = false) => ?_))
           | (refine Grd.intro (fun (h : (!Ag.eqb x.got y.got) = true) => ?_) (fun (h : (!Ag.eqb x.got y.got) = false) => ?_))
           | (refine And.intro trivial (AVle.of_eq (congrArg AV.bool (show Ag.eqb x.got y.got = _ from ?_))); focus (simp_all [Wk.eqb]; done))
           | (refine And.intro trivial (AVle.of_eq (congrArg AV.bool (show (!Ag.eqb x.got y.got) = _ from ?_))); focus (simp_all [Wk.eqb]; done))
           | (refine Grd.intro (fun h => ?_) (fun h => ?_); rotate_left; focus (exfalso; simp_all; done))
           | (refine Grd.intro (fun h => ?_) (fun h => ?_); focus (exfalso; simp_all; done))
           | refine Grd.intro (fun h => ?_) (fun h => ?_)
           | (refine CallC.sca _ (EqualEn2_fn x.ins y.ins hx hy) ?_ ?_; focus (exact rfl))
           | (refine And.intro trivial (AVle.of_eq (congrArg AV.bool ?_)); focus (simp_all [Wk.eqb]; done))
           | (refine And.intro trivial (AVle.of_eq (congrArg AV.bool ?_)); focus (simp only [Wk.eqb, *, cond_true, cond_false, Bool.true_and, Bool.and_true, Bool.false_and, Bool.and_false, Bool.not_true, Bool.not_false, Bool.true_or, Bool.or_true, Bool.false_or, Bool.or_false, if_true, ite_true, reduceIte]; done))
           | (refine And.intro trivial (AVle.of_eq (congrArg AV.bool ?_)); focus (simp_all [Wk.eqb]; intros; omega))
           | (refine And.intro trivial (AVle.of_eq (congrArg AV.bool ?_)); focus (simp only [cond_true, cond_false, Bool.not_eq_true', Bool.not_eq_false'] at *; simp only [Wk.eqb, *, cond_true, cond_false, Bool.true_and, Bool.and_true, Bool.false_and, Bool.and_false, Bool.not_true, Bool.not_false, Bool.true_or, Bool.or_true, Bool.false_or, Bool.or_false, if_true, ite_true, reduceIte]; done))
           | refine And.intro (by kernel_rfl) ?_
           | refine OpC.bneq rfl rfl rfl rfl rfl ?_
           | refine OpC.beql rfl rfl rfl rfl rfl ?_
           | fail)
theorem SameIngester_fn (x y : Ig) (hx : x.small) (hy : y.small) : VFn Tryz.prog 16 [x.av, y.av] (.bool (Ig.eqb x y)) := by
 refine VFn.introC Tryz.call16 Tryz.func16 rfl rfl ?_
 repeat' (conv => whnf
          first
           | (refine Grd.intro (fun h => ?_) (fun h => ?_); rotate_left; focus (exfalso; simp_all; done))
           | (refine Grd.intro (fun h => ?_) (fun h => ?_); focus (exfalso; simp_all; done))
           | refine Grd.intro (fun h => ?_) (fun h => ?_)
           | (refine CallC.sca _ (EqualSmp2_fn x.b y.b hx hy) ?_ ?_; focus (exact rfl))
           | (refine And.intro trivial (AVle.of_eq (congrArg AV.bool ?_)); focus (simp_all [Ig.eqb]; done))
           | (refine And.intro trivial (AVle.of_eq (congrArg AV.bool ?_)); focus (simp only [Ig.eqb, *, cond_true, cond_false, Bool.true_and, Bool.and_true, Bool.false_and, Bool.and_false, Bool.not_true, Bool.not_false, Bool.true_or, Bool.or_true, Bool.false_or, Bool.or_false, if_true, ite_true, reduceIte]; done))
           | (refine And.intro trivial (AVle.of_eq (congrArg AV.bool ?_)); focus (simp_all [Ig.eqb]; intros; omega))
           | (refine And.intro trivial (AVle.of_eq (congrArg AV.bool ?_)); focus (simp only [cond_true, cond_false, Bool.not_eq_true', Bool.not_eq_false'] at *; simp only [Ig.eqb, *, cond_true, cond_false, Bool.true_and, Bool.and_true, Bool.false_and, Bool.and_false, Bool.not_true, Bool.not_false, Bool.true_or, Bool.or_true, Bool.false_or, Bool.or_false, if_true, ite_true, reduceIte]; done))
           | refine And.intro (by kernel_rfl) ?_
           | refine OpC.bneq rfl rfl rfl rfl rfl ?_
           | refine OpC.beql rfl rfl rfl rfl rfl ?_
           | fail)
theorem SameReader_fn (x y : Rr) (hx : x.small) (hy : y.small) : VFn Tryz.prog 17 [x.av, y.av] (.bool (Rr.eqb x y)) := by
 refine VFn.introC Tryz.call17 Tryz.func17 rfl rfl ?_
 repeat' (conv => whnf
          first
           | (refine Grd.intro (fun (h : Ag.eqb x.got y.got = true) => ?_) (fun (h : Ag.eqb x.got y.got = false) => ?_))
           | (refine Grd.intro (fun (h : (!Ag.eqb x.got y.got) = true) => ?_) (fun (h : (!Ag.eqb x.got y.got) = false) => ?_))
           | (refine And.intro trivial (AVle.of_eq (congrArg AV.bool (show Ag.eqb x.got y.got = _ from ?_))); focus (simp_all [Rr.eqb]; done))
           | (refine And.intro trivial (AVle.of_eq (congrArg AV.bool (show (!Ag.eqb x.got y.got) = _ from ?_))); focus (simp_all [Rr.eqb]; done))
           | (refine Grd.intro (fun h => ?_) (fun h => ?_); rotate_left; focus (exfalso; simp_all; done))
           | (refine Grd.intro (fun h => ?_) (fun h => ?_); focus (exfalso; simp_all; done))
           | refine Grd.intro (fun h => ?_) (fun h => ?_)
           | (refine CallC.sca _ (EqualEn2_fn x.left y.left hx hy) ?_ ?_; focus (exact rfl))
           | (refine And.intro trivial (AVle.of_eq (congrArg AV.bool ?_)); focus (simp_all [Rr.eqb]; done))
           | (refine And.intro trivial (AVle.of_eq (congrArg AV.bool ?_)); focus (simp only [Rr.eqb, *, cond_true, cond_false, Bool.true_and, Bool.and_true, Bool.false_and, Bool.and_false, Bool.not_true, Bool.not_false, Bool.true_or, Bool.or_true, Bool.false_or, Bool.or_false, if_true, ite_true, reduceIte]; done))
           | (refine And.intro trivial (AVle.of_eq (congrArg AV.bool ?_)); focus (simp_all [Rr.eqb]; intros; omega))
           | (refine And.intro trivial (AVle.of_eq (congrArg AV.bool ?_)); focus (simp only [cond_true, cond_false, Bool.not_eq_true', Bool.not_eq_false'] at *; simp only [Rr.eqb, *, cond_true, cond_false, Bool.true_and, Bool.and_true, Bool.false_and, Bool.and_false, Bool.not_true, Bool.not_false, Bool.true_or, Bool.or_true, Bool.false_or, Bool.or_false, if_true, ite_true, reduceIte]; done))
           | refine And.intro (by kernel_rfl) ?_
           | refine OpC.bneq rfl rfl rfl rfl rfl ?_
           | refine OpC.beql rfl rfl rfl rfl rfl ?_
           | fail)
end Go.Proofs.YtnplgeogieoioaaGreatDoor
