/- Contracts of functions that the claim reaches, and the plain law of what they compute; each theorem bears its own conditions. -/
import Derived.Test.YtbhgcfhbhjcjhaaGreatDoorQ15
import Derived.Test.YtbhgcfhbhjcjhaaGreatDoorV52
import Derived.Test.YtbhgcfhbhjcjhaaGreatDoorQ6
import Derived.Test.YtbhgcfhbhjcjhaaGreatDoorQ3
import Derived.Test.YtbhgcfhbhjcjhaaGreatDoorQ5
import Derived.Test.YtbhgcfhbhjcjhaaGreatDoorQ13
set_option linter.unusedVariables false
set_option linter.constructorNameAsVariable false
set_option linter.unusedSimpArgs false
set_option maxRecDepth 20000
set_option maxHeartbeats 1000000
namespace Go.Proofs.YtbhgcfhbhjcjhaaGreatDoor
open Go Go.Vw
theorem NewStoreI_fn : VFn Tryz.prog 58 [] stoN0.av := by
 refine VFn.introC Tryz.call58 Tryz.func58 rfl rfl ?_
 conv => whnf
 refine And.intro trivial (AVle.agg (AVsle.cons (AVle.nilsl _ _ rfl) (AVsle.cons (AVle.refl _) AVsle.nil)))
theorem CloneAn_own (L : List An) (hL : L.length ≤ 1000000) : FnM Tryz.prog 71 0 [ans L] [] (.osl 0) [(0, .arr 49 10 L.length fun i => (ix L i).row)] 1 := by
 refine FnM.introN Tryz.call71 Tryz.func71 rfl rfl ?_
 conv => whnf
 refine OpC.isnil rfl rfl rfl rfl rfl (fun h0 => ?_) ?_
 · conv => whnf
   exact ⟨_, .inr ⟨2, 49, 10, fun i => (ix L i).row, rfl, rfl⟩, And.intro trivial ⟨[(0, 0)], rfl, AVle.refl _, ⟨MOle.arr h0.symm fun i hi => rfl, trivial⟩⟩⟩
 · conv => whnf
   refine And.intro ⟨show (0 + L.length) * 80 ≤ 140737488355328 by omega, fun i hi => rfl⟩ ?_
   conv => whnf
   exact ⟨_, .inl rfl, And.intro trivial ⟨[(1, 0)], rfl, AVle.refl _, ⟨MOle.arr (Nat.zero_add _) fun i hi => appRows_ge (Nat.zero_le _), trivial⟩⟩⟩
theorem copiedW_fn (w : Wk) (hL : w.ins.length ≤ 1000000) : VFn Tryz.prog 72 [w.av] w.av := by
 have c : VFn Tryz.prog 114 [ents w.ins] (ents w.ins) := (CloneEn_own w.ins hL).vfn
 refine VFn.introC Tryz.call72 Tryz.func72 rfl rfl ?_
 conv => whnf
 refine CallC.nl _ (c) ?_ ?_
 · exact rfl
 exact And.intro trivial (AVle.refl _)
theorem copiedIg_fn (g : Ig) (hL : g.b.length ≤ 1000000) : VFn Tryz.prog 73 [g.av] g.av := (copiedI_own g hL).vfn
def WN (id : Int) : List AV := [.int .i64 id, .int .i64 0, .int .i64 0, .int .i64 0, .int .i64 0, .int .i64 0, .int .i64 0, .int .i64 0, .str (B []), .nilsl, .int .i64 0, .int .i64 0, .int .i64 0, .int .i64 0, .int .i64 0, .int .i64 0]
def GN (id : Int) : List AV := [.int .i64 id, .int .i64 0, .int .i64 0, .int .i64 0, .nilsl, .bool false]
def RN (id : Int) : List AV := [.int .i64 id, .int .i64 0, .int .i64 0, .int .i64 0, .int .i64 0, .int .i64 0, .int .i64 0, .nilsl, .int .i64 0, .int .i64 0, .int .i64 0, .int .i64 0, .int .i64 0, .int .i64 0]
theorem two {P : Nat → Prop} (h0 : P 0) (h1 : P 1) (i : Nat) (h : i < 2) : P i := by
 have : i = 0 ∨ i = 1 := by omega
 rcases this with rfl | rfl
 · exact h0
 · exact h1
theorem NewFleet_own : FnM Tryz.prog 19 0 [] [] (.agg [obs [], .int .i64 1, .int .i64 10, .int .i64 0, .int .i64 0, .int .i64 0, .int .i64 0, .int .i64 0, .int .i64 0, .int .i64 0, .osl 0, .osl 1, .osl 2, .nilsl, .nilsl])
 [(0, .arr 86 16 2 fun i => (ix newF.ws i).row), (1, .arr 88 6 2 fun i => (ix newF.gs i).row), (2, .arr 90 14 2 fun i => (ix newF.rs i).row)] 3 := by
 refine FnM.introC Tryz.call19 Tryz.func19 rfl rfl ?_
 conv => whnf
 conv => whnf
 refine CallC.nl _ (NewStoreI_fn) ?_ ?_
 · exact rfl
 conv => whnf
 exact And.intro trivial ⟨[(1, 0), (2, 1), (3, 2)], rfl, AVle.refl _,
  MOle.arrLe rfl (fun i hi => two (P := fun i => AVsle (List.take 16 (List.drop (i * 16) (WN 0 ++ WN 1))) (ix newF.ws i).row) (rowW0 0) (rowW0 1) i hi),
  MOle.arrLe rfl (fun i hi => two (P := fun i => AVsle (List.take 6 (List.drop (i * 6) (GN 2 ++ GN 3))) (ix newF.gs i).row) (rowG0 2) (rowG0 3) i hi),
  MOle.arrLe rfl (fun i hi => two (P := fun i => AVsle (List.take 14 (List.drop (i * 14) (RN 4 ++ RN 5))) (ix newF.rs i).row) (rowR0 4) (rowR0 5) i hi), trivial⟩
def Fl.ownA (f : Fl) : AV := .agg [obs f.st.os, .int .i64 f.st.next, .int .i64 f.clk, .int .i64 f.k0, .int .i64 f.k1, .int .i64 f.k2, .int .i64 f.k3, .int .i64 f.k4, .int .i64 f.k5, .int .i64 f.k6, .osl 0, .osl 1, .osl 2, .osl 3, .osl 4]
theorem app_ix {i : Nat} {r1 r2 : Nat → List AV} (h : r2 0 = r1 i) {k : Nat} (hk : k < i + 1) : appRows i r1 r2 k = r1 k := by
 unfold appRows
 rcases Nat.lt_or_ge k i with h' | h'
 · rw [blt_t h', cond_true]
 · rw [blt_f h', cond_false]
   obtain rfl : k = i := by omega
   rw [show k - k = 0 by omega]; exact h
structure FlSz (f : Fl) : Prop where
 st : f.st.os.length ≤ 1000000
 ws : f.ws.length ≤ 1000
 gs : f.gs.length ≤ 1000
 rs : f.rs.length ≤ 1000
 wi : ∀ w ∈ f.ws, w.ins.length ≤ 1000000
 gi : ∀ g ∈ f.gs, g.b.length ≤ 1000000
 ri : ∀ r ∈ f.rs, r.left.length ≤ 1000000
 ac : f.ac.length ≤ 1000000
 an : f.an.length ≤ 1000000
theorem copiedF_own (f : Fl) (S : FlSz f) : FnM Tryz.prog 27 0 [f.av] [] f.ownA
 [(0, .arr 86 16 f.ws.length fun i => (ix f.ws i).row), (1, .arr 88 6 f.gs.length fun i => (ix f.gs i).row), (2, .arr 90 14 f.rs.length fun i => (ix f.rs i).row), (3, .arr 96 2 f.ac.length fun i => (ix f.ac i).row), (4, .arr 49 10 f.an.length fun i => (ix f.an i).row)] 5 := by
 have cst : VFn Tryz.prog 69 [f.st.av] f.st.av := (copied_own f.st S.st).vfn
 refine FnM.introC Tryz.call27 Tryz.func27 rfl rfl ?_
 conv => whnf
 refine DrawC.mkQ 16 [(.inr 14, 15)] rfl (by kernel_rfl) ?_
 refine And.intro rfl ?_
 refine PCallQ.nl _ (cst) rfl ?_
 conv => whnf
 refine PCallQ.own (CloneSm_own f.ac S.ac) rfl (fun i hi => rfl) ?_
 conv => whnf
 refine PCallQ.own (CloneAn_own f.an S.an) rfl (fun i hi => rfl) ?_
 conv => whnf
 refine LoopC.nilb 16 10 86 16 (fun k => (ix f.ws k).row) rfl rfl ?_
 conv => whnf
 refine LoopC.mk (fun i : Nat => i ≤ f.ws.length) (fun i => [(1, .bptr 0 0), (2, .bptr 1 0), (3, .bptr 2 0), (25, wks f.ws), (26, .int .i64 f.ws.length), (27, .int .i64 i)]) (fun i => [(0, .box f.row), (1, .box [.nilsl, .int .i64 0, .int .i64 0, .int .i64 0, .int .i64 0, .int .i64 0, .int .i64 0, .int .i64 0, .int .i64 0, .int .i64 0, .nilsl, .nilsl, .nilsl, .nilsl, .nilsl]), (2, .box [obs f.st.os, .int .i64 f.st.next, .int .i64 f.clk, .int .i64 f.k0, .int .i64 f.k1, .int .i64 f.k2, .int .i64 f.k3, .int .i64 f.k4, .int .i64 f.k5, .int .i64 f.k6, .osl 5, .nilsl, .nilsl, .osl 3, .osl 4]), (3, .arr 96 2 f.ac.length fun k => (ix f.ac k).row), (4, .arr 49 10 f.an.length fun k => (ix f.an k).row), (5, .arr 86 16 i fun k => (ix f.ws k).row)]) 6 (fun i => f.ws.length - i) 0
  ⟨Nat.zero_le _, [(0, 0), (1, 1), (16, 2), (11, 3), (14, 4), (18, 5)], rfl, rfl, ⟨AVle.refl _, AVle.refl _, AVle.refl _, AVle.refl _, AVle.refl _, AVle.refl _, trivial⟩, ⟨MOle.refl _, MOle.refl _, MOle.refl _, MOle.refl _, MOle.refl _, MOle.refl _, trivial⟩⟩ ?_
 intro i hi
 conv => whnf
 refine Grd.intro (fun h => ?_) (fun h => ?_)
 · have hlt : i < f.ws.length := by have := of_decide_eq_true h; omega
   have cw := copiedW_fn (ix f.ws i) (S.wi _ (getD_mem hlt))
   have hsz := S.ws
   conv => whnf
   refine And.intro ⟨by omega, by omega⟩ ?_
   conv => whnf
   refine DrawC.mkR 8 [(.inl 5, 5), (.inl 2, 7)] [(2, 1)] rfl (by kernel_rfl) ?_
   refine And.intro (And.intro (by kernel_rfl) (by kernel_rfl)) ?_
   conv => whnf
   refine PCallQ.nl _ (cw) rfl ?_
   conv => whnf
   refine And.intro ⟨Nat.le_trans (Nat.mul_le_mul_right _ (show i + 1 ≤ 1000 by omega)) (by decide), fun k hk => by (obtain rfl : k = 0 := by omega); rfl⟩ ?_
   conv => whnf
   refine And.intro (inI64 (by omega) (by omega)) ?_
   conv => whnf
   exact ⟨i + 1, hlt, by omega, [(0, 0), (1, 1), (2, 2), (3, 3), (4, 4), (12, 5)], rfl, rfl, ⟨AVle.refl _, AVle.refl _, AVle.refl _, AVle.refl _, AVle.refl _, AVle.refl _, trivial⟩, ⟨MOle.refl _, MOle.refl _, MOle.refl _, MOle.refl _, MOle.refl _, MOle.arr rfl (fun k hk => app_ix (i := i) (r1 := fun k => (ix f.ws k).row) rfl hk), trivial⟩⟩
 have he : i = f.ws.length := by have := of_decide_eq_false h; omega
 subst he
 clear hi h
 conv => whnf
 refine LoopC.nilb 2 11 88 6 (fun k => (ix f.gs k).row) rfl rfl ?_
 conv => whnf
 refine LoopC.mk (fun i : Nat => i ≤ f.gs.length) (fun i => [(1, .bptr 0 0), (2, .bptr 1 0), (3, .bptr 2 0), (40, igs f.gs), (41, .int .i64 f.gs.length), (42, .int .i64 i)]) (fun i => [(0, .box f.row), (1, .box [.nilsl, .int .i64 0, .int .i64 0, .int .i64 0, .int .i64 0, .int .i64 0, .int .i64 0, .int .i64 0, .int .i64 0, .int .i64 0, .nilsl, .nilsl, .nilsl, .nilsl, .nilsl]), (2, .box [obs f.st.os, .int .i64 f.st.next, .int .i64 f.clk, .int .i64 f.k0, .int .i64 f.k1, .int .i64 f.k2, .int .i64 f.k3, .int .i64 f.k4, .int .i64 f.k5, .int .i64 f.k6, .osl 5, .osl 6, .nilsl, .osl 3, .osl 4]), (3, .arr 96 2 f.ac.length fun k => (ix f.ac k).row), (4, .arr 49 10 f.an.length fun k => (ix f.an k).row), (5, .arr 86 16 f.ws.length fun k => (ix f.ws k).row), (6, .arr 88 6 i fun k => (ix f.gs k).row)]) 7 (fun i => f.gs.length - i) 0
  ⟨Nat.zero_le _, [(0, 0), (1, 1), (2, 2), (3, 3), (4, 4), (5, 5), (6, 6)], rfl, rfl, ⟨AVle.refl _, AVle.refl _, AVle.refl _, AVle.refl _, AVle.refl _, AVle.refl _, trivial⟩, ⟨MOle.refl _, MOle.refl _, MOle.refl _, MOle.refl _, MOle.refl _, MOle.refl _, MOle.refl _, trivial⟩⟩ ?_
 intro i hi
 conv => whnf
 refine Grd.intro (fun h => ?_) (fun h => ?_)
 · have hlt : i < f.gs.length := by have := of_decide_eq_true h; omega
   have cw := copiedIg_fn (ix f.gs i) (S.gi _ (getD_mem hlt))
   have hsz := S.gs
   conv => whnf
   refine And.intro ⟨by omega, by omega⟩ ?_
   conv => whnf
   refine DrawC.mkR 8 [(.inl 6, 5), (.inl 2, 7)] [(2, 1)] rfl (by kernel_rfl) ?_
   refine And.intro (And.intro (by kernel_rfl) (by kernel_rfl)) ?_
   conv => whnf
   refine PCallQ.nl _ (cw) rfl ?_
   conv => whnf
   refine And.intro ⟨Nat.le_trans (Nat.mul_le_mul_right _ (show i + 1 ≤ 1000 by omega)) (by decide), fun k hk => by (obtain rfl : k = 0 := by omega); rfl⟩ ?_
   conv => whnf
   refine And.intro (inI64 (by omega) (by omega)) ?_
   conv => whnf
   exact ⟨i + 1, hlt, by omega, [(0, 0), (1, 1), (2, 2), (3, 3), (4, 4), (5, 5), (13, 6)], rfl, rfl, ⟨AVle.refl _, AVle.refl _, AVle.refl _, AVle.refl _, AVle.refl _, AVle.refl _, trivial⟩, ⟨MOle.refl _, MOle.refl _, MOle.refl _, MOle.refl _, MOle.refl _, MOle.refl _, MOle.arr rfl (fun k hk => app_ix (i := i) (r1 := fun k => (ix f.gs k).row) rfl hk), trivial⟩⟩
 have he : i = f.gs.length := by have := of_decide_eq_false h; omega
 subst he
 clear hi h
 conv => whnf
 refine LoopC.nilb 2 12 90 14 (fun k => (ix f.rs k).row) rfl rfl ?_
 conv => whnf
 refine LoopC.mk (fun i : Nat => i ≤ f.rs.length) (fun i => [(1, .bptr 0 0), (2, .bptr 1 0), (3, .bptr 2 0), (55, rrs f.rs), (56, .int .i64 f.rs.length), (57, .int .i64 i)]) (fun i => [(0, .box f.row), (1, .box [.nilsl, .int .i64 0, .int .i64 0, .int .i64 0, .int .i64 0, .int .i64 0, .int .i64 0, .int .i64 0, .int .i64 0, .int .i64 0, .nilsl, .nilsl, .nilsl, .nilsl, .nilsl]), (2, .box [obs f.st.os, .int .i64 f.st.next, .int .i64 f.clk, .int .i64 f.k0, .int .i64 f.k1, .int .i64 f.k2, .int .i64 f.k3, .int .i64 f.k4, .int .i64 f.k5, .int .i64 f.k6, .osl 5, .osl 6, .osl 7, .osl 3, .osl 4]), (3, .arr 96 2 f.ac.length fun k => (ix f.ac k).row), (4, .arr 49 10 f.an.length fun k => (ix f.an k).row), (5, .arr 86 16 f.ws.length fun k => (ix f.ws k).row), (6, .arr 88 6 f.gs.length fun k => (ix f.gs k).row), (7, .arr 90 14 i fun k => (ix f.rs k).row)]) 8 (fun i => f.rs.length - i) 0
  ⟨Nat.zero_le _, [(0, 0), (1, 1), (2, 2), (3, 3), (4, 4), (5, 5), (6, 6), (7, 7)], rfl, rfl, ⟨AVle.refl _, AVle.refl _, AVle.refl _, AVle.refl _, AVle.refl _, AVle.refl _, trivial⟩, ⟨MOle.refl _, MOle.refl _, MOle.refl _, MOle.refl _, MOle.refl _, MOle.refl _, MOle.refl _, MOle.refl _, trivial⟩⟩ ?_
 intro i hi
 conv => whnf
 refine Grd.intro (fun h => ?_) (fun h => ?_)
 · have hlt : i < f.rs.length := by have := of_decide_eq_true h; omega
   have cw := copiedR_fn (ix f.rs i) (S.ri _ (getD_mem hlt))
   have hsz := S.rs
   conv => whnf
   refine And.intro ⟨by omega, by omega⟩ ?_
   conv => whnf
   refine DrawC.mkR 8 [(.inl 7, 5), (.inl 2, 7)] [(2, 1)] rfl (by kernel_rfl) ?_
   refine And.intro (And.intro (by kernel_rfl) (by kernel_rfl)) ?_
   conv => whnf
   refine PCallQ.nl _ (cw) rfl ?_
   conv => whnf
   refine And.intro ⟨Nat.le_trans (Nat.mul_le_mul_right _ (show i + 1 ≤ 1000 by omega)) (by decide), fun k hk => by (obtain rfl : k = 0 := by omega); rfl⟩ ?_
   conv => whnf
   refine And.intro (inI64 (by omega) (by omega)) ?_
   conv => whnf
   exact ⟨i + 1, hlt, by omega, [(0, 0), (1, 1), (2, 2), (3, 3), (4, 4), (5, 5), (6, 6), (14, 7)], rfl, rfl, ⟨AVle.refl _, AVle.refl _, AVle.refl _, AVle.refl _, AVle.refl _, AVle.refl _, trivial⟩, ⟨MOle.refl _, MOle.refl _, MOle.refl _, MOle.refl _, MOle.refl _, MOle.refl _, MOle.refl _, MOle.arr rfl (fun k hk => app_ix (i := i) (r1 := fun k => (ix f.rs k).row) rfl hk), trivial⟩⟩
 have he : i = f.rs.length := by have := of_decide_eq_false h; omega
 subst he
 clear hi h
 conv => whnf
 exact And.intro trivial ⟨[(5, 0), (6, 1), (7, 2), (3, 3), (4, 4)], rfl, AVle.refl _, MOle.refl _, MOle.refl _, MOle.refl _, MOle.refl _, MOle.refl _, trivial⟩
def Act.cells (a : Act) : List AV := [.int .i64 a.k, .int .i64 a.who, .int .i64 a.n, .int .i64 a.tier, .int .i64 a.f, .int .i64 a.t, smps a.b]
instance : Inhabited Act := ⟨⟨0, 0, 0, 0, 0, 0, []⟩⟩
abbrev acts (L : List Act) : AV := .sl 7 L.length fun i => (ix L i).cells
theorem IndexAct_1 (L : List Act) (hL : L.length ≤ 9223372036854775807) (F : Nat) (row : List AV) (p : Act → Bool) (hp : ∀ e ∈ L, VFn Tryz.prog F [e.av, .eptr row 0] (.bool (p e))) :
 VFn Tryz.prog 108 [acts L, .fn (.func F) [] [.eptr row 0]] (.int .i64 (fi p L)) := by
 refine VFn.introC Tryz.call108 Tryz.func108 rfl rfl ?_
 refine LoopC.mk (fun i : Nat => i ≤ L.length ∧ ∀ j, j < i → p (ix L j) = false) (fun i => [(0, acts L), (1, .fn (.func F) [] [.eptr row 0]), (7, .int .i64 L.length), (8, .int .i64 i)]) (fun _ => []) 0 (fun i => L.length - i) 0
  ⟨⟨Nat.zero_le _, fun j hj => absurd hj (Nat.not_lt_zero j)⟩, [], rfl, rfl, ⟨AVle.refl _, AVle.refl _, AVle.refl _, AVle.refl _, trivial⟩, trivial⟩ ?_
 intro i hi
 refine Grd.intro (fun h2 => ?_) (fun h2 => ?_)
 · have hin : i < L.length := by have := of_decide_eq_true h2; omega
   refine And.intro (by omega) ?_
   conv => whnf
   refine CallC.sca _ (hp (ix L i) (getD_mem hin)) ?_ ?_
   · exact rfl
   refine Grd.intro (fun h3 => ?_) (fun h3 => ?_)
   · exact And.intro trivial (AVle.of_eq (congrArg (AV.int .i64) (fi_at hin hi.2 h3).symm))
   · refine And.intro (inI64 (by omega) (by omega)) ?_
     exact ⟨i + 1, ⟨hin, fun j hj => by
      rcases Nat.lt_or_ge j i with h' | h'
      · exact hi.2 j h'
      · rw [show j = i by omega]; exact h3⟩, by omega, [], rfl, rfl, ⟨AVle.refl _, AVle.refl _, AVle.refl _, AVle.of_eq (congrArg (AV.int .i64) (by simp)), trivial⟩, trivial⟩
 · have : i = L.length := by have := of_decide_eq_false h2; omega
   subst this
   exact And.intro trivial (AVle.of_eq (congrArg (AV.int .i64) (fi_none hi.2).symm))
theorem ContainsAct_1 (L : List Act) (hL : L.length ≤ 9223372036854775807) (F : Nat) (row : List AV) (p : Act → Bool) (hp : ∀ e ∈ L, VFn Tryz.prog F [e.av, .eptr row 0] (.bool (p e))) :
 VFn Tryz.prog 60 [acts L, .fn (.func F) [] [.eptr row 0]] (.bool (L.any p)) := by
 refine VFn.introC Tryz.call60 Tryz.func60 rfl rfl ?_
 conv => whnf
 refine CallC.sca _ (IndexAct_1 L hL F row p hp) ?_ ?_
 · exact rfl
 exact And.intro trivial (AVle.of_eq (congrArg AV.bool (show decide (0 ≤ fi p L) = _ from fi_any)))
theorem allAct1_fn (e : Act) (G : Nat) (p : Act → Bool) (hp : VFn Tryz.prog G [e.av] (.bool (p e))) : VFn Tryz.prog 61 [e.av, .eptr [.fn (.func G) [] []] 0] (.bool (!p e)) := by
 refine VFn.introC Tryz.call61 Tryz.func61 rfl rfl ?_
 conv => whnf
 refine CallC.sca _ (hp) ?_ ?_
 · exact rfl
 exact And.intro trivial (AVle.refl _)
theorem allAct_fn (L : List Act) (hL : L.length ≤ 9223372036854775807) (G : Nat) (p : Act → Bool) (hp : ∀ e ∈ L, VFn Tryz.prog G [e.av] (.bool (p e))) : VFn Tryz.prog 24 [acts L, .fn (.func G) [] []] (.bool (L.all p)) := by
 refine VFn.introC Tryz.call24 Tryz.func24 rfl rfl ?_
 conv => whnf
 refine CallC.sca _ (ContainsAct_1 L hL 61 [.fn (.func G) [] []] (fun e => !p e) (fun e he => allAct1_fn e G p (hp e he))) ?_ ?_
 · exact rfl
 exact And.intro trivial (AVle.of_eq (congrArg AV.bool (show (!L.any fun e => !p e) = _ by rw [Bool.eq_iff_iff]; simp)))
theorem isLongAct_fn (L : List Act) : VFn Tryz.prog 23 [acts L] (.bool (decide (4096 < L.length))) := by
 refine VFn.introC Tryz.call23 Tryz.func23 rfl rfl ?_
 exact And.intro trivial (AVle.of_eq (congrArg AV.bool (decide_eq_decide.2 (by omega))))
theorem FlI.sz {f : Fl} {M Q : Nat} (F : FlI f M Q) (hM : M ≤ 1000) (hQ : Q ≤ 100000) : FlSz f := by
 have hs := (stoOK_iff f.st).1 F.st.lg.ok
 have hac := F.acl
 have han := F.an.2
 obtain ⟨w0, w1, ew, ⟨i0, i1⟩, W0, W1⟩ := F.ws
 obtain ⟨g0, g1, eg, ⟨i2, i3⟩, ⟨G0, G1⟩, hcnt⟩ := F.gs
 obtain ⟨r0, r1, er, ⟨i4, i5⟩, R0, R1⟩ := F.rs
 refine ⟨by have := hs.len; omega, by rw [ew]; simp, by rw [eg]; simp, by rw [er]; simp, ?_, ?_, ?_, by omega, by omega⟩
 · intro w hw
   rw [ew] at hw
   have h : w.ok = true := by
    rcases List.mem_cons.1 hw with rfl | hw
    · exact W0.ok
    · rw [List.mem_singleton] at hw; subst hw; exact W1.ok
   have := ((wk_iff w).1 h).len
   omega
 · intro g hg
   rw [eg] at hg
   rcases List.mem_cons.1 hg with rfl | hg
   · omega
   · rw [List.mem_singleton] at hg; subst hg; omega
 · intro r hr
   rw [er] at hr
   have h : r.ok = true := by
    rcases List.mem_cons.1 hr with rfl | hr
    · exact R0.ok
    · rw [List.mem_singleton] at hr; subst hr; exact R1.ok
   have := ((rr_iff r).1 h).len
   omega
theorem copiedF_fn (f : Fl) (S : FlSz f) : VFn Tryz.prog 27 [f.av] f.av := (copiedF_own f S).vfn
abbrev Fl.objC (f : Fl) (p q : Nat × MO) : List (Nat × MO) := [(0, .box (f.orow 4 5)), (1, .arr 86 16 f.ws.length fun i => (ix f.ws i).row), (2, .arr 88 6 f.gs.length fun i => (ix f.gs i).row), (3, .arr 90 14 f.rs.length fun i => (ix f.rs i).row), (4, .arr 96 2 f.ac.length fun i => (ix f.ac i).row), (5, .arr 49 10 f.an.length fun i => (ix f.an i).row), p, q]
theorem take_acts (f : Fl) (L : List Act) {i : Nat} (h : i < L.length) : actsF f (L.take (i + 1)) = (doF (actsF f (L.take i)) (ix L i)).1 := by
 unfold actsF
 rw [List.take_add_one, List.getElem?_eq_getElem h, Option.toList_some, List.foldl_append, ix_lt h]
 rfl
def codeN (f : Fl) (L : List Act) (k : Nat) : Int := (doF (actsF f (L.take k)) (ix L k)).2
theorem ActsRun_own (L : List Act) (hL : L.length ≤ 64) (hok : ∀ a ∈ L, a.ok = true) (hI : ∀ a ∈ L, ActI a) : FnM Tryz.prog 7 0 [acts L] [] (.tup [(actsF newF L).av, .osl 0, .int .i64 0]) [(0, .arr 3 1 L.length fun k => [.int .i64 (codeN newF L k)])] 1 := by
 have c1 := isLongAct_fn L
 rw [decide_eq_false (show ¬ 4096 < L.length by omega)] at c1
 have c2 := allAct_fn L (by omega) 25 Act.ok (fun e _ => ActOK_fn e)
 rw [List.all_eq_true.2 hok] at c2
 have FI : ∀ i, i ≤ L.length → FlI (actsF newF (L.take i)) (8 * i) i := fun i hi => by
  have := FlI.acts (L.take i) newF_I (fun a ha => hI a (List.mem_of_mem_take ha)) (by rw [List.length_take]; omega)
  rw [List.length_take, Nat.min_eq_left hi, Nat.zero_add, Nat.zero_add] at this
  exact this
 rw [show actsF newF L = actsF newF (L.take L.length) by rw [List.take_length]]
 refine FnM.introC Tryz.call7 Tryz.func7 rfl rfl ?_
 conv => whnf
 conv => whnf
 refine CallC.nl _ (c1) ?_ ?_
 · exact rfl
 conv => whnf
 conv => whnf
 refine CallC.nl _ (c2) ?_ ?_
 · exact rfl
 conv => whnf
 conv => whnf
 refine CallC.sca _ (first3_of false (decide ((200 : Int) < (L.length : Int))) false 2 6 1 ⟨rfl, rfl, rfl, rfl, rfl, rfl, trivial⟩ rfl (r := 0) (by rw [decide_eq_false (show ¬ (200 : Int) < (L.length : Int) by omega)]; decide)) ?_ ?_
 · exact rfl
 conv => whnf
 refine CallC.k [] NewFleet_own rfl rfl (AVsle.refl _) trivial rfl ?_
 conv => whnf
 refine LoopC.nilb 6 13 96 2 (fun k => (ix newF.ac k).row) rfl rfl ?_
 conv => whnf
 refine LoopC.nilb 6 14 49 10 (fun k => (ix newF.an k).row) rfl rfl ?_
 conv => whnf
 refine LoopC.mk (fun i : Nat => i ≤ L.length) (fun i => [(2, .bptr 7 0), (6, .bptr 0 0), (7, .osl 6), (32, acts L), (33, .int .i64 L.length), (34, .int .i64 i)]) (fun i => (actsF newF (L.take i)).objC (6, .arr 3 1 i fun k => [.int .i64 (codeN newF L k)]) (7, .box [.nilsl, .int .i64 0, .int .i64 0, .int .i64 0, .int .i64 0, .int .i64 0, .int .i64 0, .int .i64 0, .int .i64 0, .int .i64 0, .nilsl, .nilsl, .nilsl, .nilsl, .nilsl])) 8 (fun i => L.length - i) 0
  ⟨Nat.zero_le _, [(6, 0), (2, 1), (3, 2), (4, 3), (7, 4), (8, 5), (5, 6), (0, 7)], rfl, rfl, ⟨AVle.refl _, AVle.refl _, AVle.refl _, AVle.refl _, AVle.refl _, AVle.refl _, trivial⟩, ⟨MOle.refl _, MOle.refl _, MOle.refl _, MOle.refl _, MOle.refl _, MOle.refl _, MOle.arr rfl (fun k hk => absurd hk (Nat.not_lt_zero k)), MOle.refl _, trivial⟩⟩ ?_
 intro i hi
 have Fi := FI i hi
 conv => whnf
 refine Grd.intro (fun h => ?_) (fun h => ?_)
 · have hlt : i < L.length := by have := of_decide_eq_true h; omega
   obtain ⟨a, m, hN, cs⟩ := do_fn Fi (by omega) (by omega) (hI _ (getD_mem hlt))
   have hc : (doF (actsF newF (L.take i)) (ix L i)).2 = codeN newF L i := rfl
   rw [← take_acts newF L hlt, hc] at cs
   conv => whnf
   refine And.intro ⟨by omega, by omega⟩ ?_
   conv => whnf
   rcases hN with ⟨rfl, rfl⟩ | ⟨rfl, rfl⟩ | ⟨rfl, rfl⟩
   · refine CallC.k [(0, 0), (1, 1), (2, 2), (3, 3), (4, 4), (5, 5)] cs rfl rfl (AVsle.refl _) ⟨MOle.refl _, MOle.refl _, MOle.refl _, MOle.refl _, MOle.refl _, MOle.refl _, trivial⟩ rfl ?_
     conv => whnf
     refine And.intro ⟨show (i + 1) * 8 ≤ 140737488355328 by omega, fun k hk => by (obtain rfl : k = 0 := by omega); rfl⟩ ?_
     conv => whnf
     refine And.intro (inI64 (by omega) (by omega)) ?_
     conv => whnf
     exact ⟨i + 1, hlt, by omega, [(0, 0), (1, 1), (2, 2), (3, 3), (4, 4), (5, 5), (17, 6), (7, 7)], rfl, rfl, ⟨AVle.refl _, AVle.refl _, AVle.refl _, AVle.refl _, AVle.refl _, AVle.refl _, trivial⟩, ⟨MOle.refl _, MOle.refl _, MOle.refl _, MOle.refl _, MOle.refl _, MOle.refl _, MOle.arr rfl (fun k hk => app_ix (i := i) (r1 := fun k => [.int .i64 (codeN newF L k)]) rfl hk), MOle.refl _, trivial⟩⟩
   · refine CallC.k [(0, 0), (1, 1), (2, 2), (3, 3), (4, 4), (5, 5)] cs rfl rfl (AVsle.refl _) ⟨MOle.refl _, MOle.refl _, MOle.refl _, MOle.refl _, MOle.refl _, MOle.refl _, trivial⟩ rfl ?_
     conv => whnf
     refine And.intro ⟨show (i + 1) * 8 ≤ 140737488355328 by omega, fun k hk => by (obtain rfl : k = 0 := by omega); rfl⟩ ?_
     conv => whnf
     refine And.intro (inI64 (by omega) (by omega)) ?_
     conv => whnf
     exact ⟨i + 1, hlt, by omega, [(0, 0), (1, 1), (2, 2), (3, 3), (9, 4), (5, 5), (17, 6), (7, 7)], rfl, rfl, ⟨AVle.refl _, AVle.refl _, AVle.refl _, AVle.refl _, AVle.refl _, AVle.refl _, trivial⟩, ⟨MOle.refl _, MOle.refl _, MOle.refl _, MOle.refl _, MOle.refl _, MOle.refl _, MOle.arr rfl (fun k hk => app_ix (i := i) (r1 := fun k => [.int .i64 (codeN newF L k)]) rfl hk), MOle.refl _, trivial⟩⟩
   · refine CallC.k [(0, 0), (1, 1), (2, 2), (3, 3), (4, 4), (5, 5)] cs rfl rfl (AVsle.refl _) ⟨MOle.refl _, MOle.refl _, MOle.refl _, MOle.refl _, MOle.refl _, MOle.refl _, trivial⟩ rfl ?_
     conv => whnf
     refine And.intro ⟨show (i + 1) * 8 ≤ 140737488355328 by omega, fun k hk => by (obtain rfl : k = 0 := by omega); rfl⟩ ?_
     conv => whnf
     refine And.intro (inI64 (by omega) (by omega)) ?_
     conv => whnf
     exact ⟨i + 1, hlt, by omega, [(0, 0), (1, 1), (2, 2), (3, 3), (4, 4), (9, 5), (17, 6), (7, 7)], rfl, rfl, ⟨AVle.refl _, AVle.refl _, AVle.refl _, AVle.refl _, AVle.refl _, AVle.refl _, trivial⟩, ⟨MOle.refl _, MOle.refl _, MOle.refl _, MOle.refl _, MOle.refl _, MOle.refl _, MOle.arr rfl (fun k hk => app_ix (i := i) (r1 := fun k => [.int .i64 (codeN newF L k)]) rfl hk), MOle.refl _, trivial⟩⟩
 · have he : i = L.length := by have := of_decide_eq_false h; omega
   subst he
   have cc := copiedF_fn (actsF newF (L.take L.length)) (Fi.sz (by omega) (by omega))
   conv => whnf
   refine CallN.c ?_
   refine CallN.frz 1 rfl ?_
   refine CallN.frz 2 rfl ?_
   refine CallN.frz 3 rfl ?_
   refine CallN.frz 4 rfl ?_
   refine CallN.frz 5 rfl ?_
   refine CallN.nl _ cc ?_ ?_
   · exact rfl
   conv => whnf
   exact And.intro trivial ⟨[(6, 0)], rfl, AVle.refl _, MOle.refl _, trivial⟩
theorem ActsRun_fn (L : List Act) (hL : L.length ≤ 64) (hok : ∀ a ∈ L, a.ok = true) (hI : ∀ a ∈ L, ActI a) : VFn Tryz.prog 7 [acts L] (.tup [(actsF newF L).av, .sl 1 L.length fun k => [.int .i64 (codeN newF L k)], .int .i64 0]) := (ActsRun_own L hL hok hI).vfn
theorem DrainFleet_fn {f : Fl} {M Q : Nat} (F : FlI f M Q) (J : FlJ f) (hM : M ≤ 1000) {n : Nat} (hn : n ≤ 100) (hQ : Q ≤ 1000) : VFn Tryz.prog 9 [f.av, .int .i64 n] (.tup [(drainF f n).av, .int .i64 0]) := by
 have c1 := FleetOK_fn f (F.small J hM (by omega))
 rw [F.ok (by omega)] at c1
 have c2 := within_fn (n : Int) 0 1000
 rw [show within (n : Int) 0 1000 = true by simp [within]; omega] at c2
 have c3 := copiedF_own f (F.sz hM (by omega))
 have c4 := drain_fn F hM (n := n) (by omega) (by omega)
 have c5 := copiedF_fn (drainF f n) ((F.drain hM n).sz hM (by omega))
 refine VFn.introC Tryz.call9 Tryz.func9 rfl rfl ?_
 conv => whnf
 conv => whnf
 refine CallC.nl _ (c1) ?_ ?_
 · exact rfl
 conv => whnf
 conv => whnf
 refine CallC.nl _ (c2) ?_ ?_
 · exact rfl
 conv => whnf
 conv => whnf
 refine CallC.sca _ (first2_of false false 1 4 ⟨rfl, rfl, rfl, rfl, trivial⟩ rfl (r := 0) (by decide)) ?_ ?_
 · exact rfl
 conv => whnf
 refine CallC.k [] c3 rfl rfl (AVsle.refl _) trivial rfl ?_
 conv => whnf
 refine CallC.k [(8, 0), (3, 1), (4, 2), (5, 3), (6, 4), (7, 5)] c4 rfl rfl (AVsle.refl _) ⟨MOle.refl _, MOle.refl _, MOle.refl _, MOle.refl _, MOle.refl _, MOle.refl _, trivial⟩ rfl ?_
 conv => whnf
 refine CallN.c ?_
 refine CallN.frz 3 rfl ?_
 refine CallN.frz 4 rfl ?_
 refine CallN.frz 5 rfl ?_
 refine CallN.frz 9 rfl ?_
 refine CallN.frz 10 rfl ?_
 refine CallN.nl _ c5 ?_ ?_
 · exact rfl
 conv => whnf
 exact And.intro trivial (AVle.refl _)

theorem ActI.of_ok {a : Act} (h : a.ok = true) : ActI a := by
 obtain ⟨k, who, n, t, f, u, b⟩ := a
 unfold Act.ok at h
 simp only at h
 by_cases h1 : k = 1 ∨ k = 2
 · rw [if_pos h1] at h
   simp only [Bool.and_eq_true, within, decide_eq_true_eq] at h
   exact ⟨by show 1 ≤ k ∧ k ≤ 6; omega, by show 0 ≤ who ∧ who ≤ 6; omega, fun g => by have g : k = 3 := g; omega, fun g => by have g : k = 4 := g; omega, fun g => by have g : k = 5 := g; omega, fun g => by have g : k = 6 := g; omega⟩
 rw [if_neg h1] at h
 by_cases h3 : k = 3
 · rw [if_pos h3] at h
   simp only [Bool.and_eq_true, within, decide_eq_true_eq] at h
   exact ⟨by show 1 ≤ k ∧ k ≤ 6; omega, by show 0 ≤ who ∧ who ≤ 6; omega, fun g => by show 0 ≤ n ∧ n ≤ 1000; omega, fun g => by have g : k = 4 := g; omega, fun g => by have g : k = 5 := g; omega, fun g => by have g : k = 6 := g; omega⟩
 rw [if_neg h3] at h
 by_cases h4 : k = 4
 · rw [if_pos h4] at h
   simp only [Bool.and_eq_true, within, decide_eq_true_eq] at h
   exact ⟨by show 1 ≤ k ∧ k ≤ 6; omega, by show 0 ≤ who ∧ who ≤ 6; omega, fun g => by have g : k = 3 := g; omega, fun g => by show -3 ≤ n ∧ n ≤ 3; omega, fun g => by have g : k = 5 := g; omega, fun g => by have g : k = 6 := g; omega⟩
 rw [if_neg h4] at h
 by_cases h5 : k = 5
 · rw [if_pos h5] at h
   simp only [Bool.and_eq_true, within, decide_eq_true_eq] at h
   exact ⟨by show 1 ≤ k ∧ k ≤ 6; omega, by show 0 ≤ who ∧ who ≤ 6; omega, fun g => by have g : k = 3 := g; omega, fun g => by have g : k = 4 := g; omega, fun g => ⟨by show who = 2 ∨ who = 3; omega, h.2, by show 1 ≤ b.length ∧ b.length ≤ 8; omega⟩, fun g => by have g : k = 6 := g; omega⟩
 rw [if_neg h5] at h
 by_cases h6 : k = 6
 · rw [if_pos h6] at h
   simp only [Bool.and_eq_true, decide_eq_true_eq] at h
   obtain ⟨⟨⟨⟨a1, a2⟩, a3⟩, a4⟩, a5⟩ := h
   simp only [within, Bool.and_eq_true, decide_eq_true_eq] at a1
   exact ⟨by show 1 ≤ k ∧ k ≤ 6; omega, by show 0 ≤ who ∧ who ≤ 6; omega, fun g => by have g : k = 3 := g; omega, fun g => by have g : k = 4 := g; omega, fun g => by have g : k = 5 := g; omega, fun g => ⟨by show who = 4 ∨ who = 5; omega, a3, a4⟩⟩
 · rw [if_neg h6] at h; cases h
theorem drawn_last (s : Src) {k : Int} (f : Int) (h : s.ok k) (hk : 100000 ≤ k ∧ k ≤ 990000) (hf : 0 ≤ f ∧ f ≤ 80000) : smpsOK (s.samples f 7).1 = true ∧ (s.samples f 7).1.length ≤ 7 ∧ (s.samples f 7).2.2.ok (k + 90) ∧ ∀ e ∈ (s.samples f 7).1, f ≤ e.t ∧ e.t ≤ f + 28 := by
 have n0 := next_b s h (by omega) (7 + 1)
 have hm := n0.1.2 (by omega)
 have hm0 := n0.1.1
 have h0 : SSok ([], f, (s.next (7 + 1)).2) 0 (k + 3) := ⟨rfl, by simp, n0.2.1, by simp only; omega⟩
 have t0 : SSt ([], f, (s.next (7 + 1)).2) f 0 := ⟨⟨Int.le_refl _, by simp⟩, by simp, List.Pairwise.nil⟩
 have a := it_ok h0 (by omega) (s.next (7 + 1)).1.toNat
 have b := it_t h0 t0 (by omega) (s.next (7 + 1)).1.toNat
 have d := drawn_ok s f 7 (wk h (by omega)) (by omega) (by omega)
 refine ⟨d.1, by have := d.2; omega, ?_, ?_⟩
 · unfold Src.samples
   exact wk a.2.2.1 (by omega)
 · unfold Src.samples
   obtain ⟨⟨b1, b2⟩, b3, b4⟩ := b
   intro e he
   have := b3 e he
   omega
def AT (f : Int) (a : Act) : Prop := a.ok = true ∧ (a.k = 5 → 1 ≤ a.b.length ∧ f ≤ (ix a.b (a.b.length - 1)).t ∧ (ix a.b (a.b.length - 1)).t ≤ f + 28)
def Road (s : Src) (k : Int) (f : Int) : Prop := ∃ (a : Act) (q : Src), AT f a ∧ q.ok (k + 120) ∧ FnM Tryz.prog 77 1 [.bptr 0 0, .int .i64 f] [(0, .box s.row)] a.av [(0, .box q.row)] 1
theorem actLe (k w n t f u : Int) : AVle (.agg [.int .i64 k, .int .i64 w, .int .i64 n, .int .i64 t, .int .i64 f, .int .i64 u, .nilsl]) (Act.mk k w n t f u []).av :=
 AVle.agg (AVsle.cons (AVle.refl _) (AVsle.cons (AVle.refl _) (AVsle.cons (AVle.refl _) (AVsle.cons (AVle.refl _) (AVsle.cons (AVle.refl _) (AVsle.cons (AVle.refl _) (AVsle.cons (AVle.nilsl _ _ rfl) AVsle.nil)))))))
theorem at_of {f : Int} {a : Act} (h : a.ok = true) (h5 : a.k ≠ 5) : AT f a := ⟨h, fun g => absurd g h5⟩
theorem ok_step {w : Int} (h : 0 ≤ w ∧ w ≤ 6) : (Act.mk 1 w 0 0 0 0 []).ok = true := by simp [Act.ok, within, Act.noR, Act.noB]; omega
theorem ok_crash {w : Int} (h : 0 ≤ w ∧ w ≤ 6) : (Act.mk 2 w 0 0 0 0 []).ok = true := by simp [Act.ok, within, Act.noR, Act.noB]; omega
theorem ok_tick {n : Int} (h : 0 ≤ n ∧ n ≤ 1000) : (Act.mk 3 0 n 0 0 0 []).ok = true := by simp [Act.ok, within, Act.noR, Act.noB]; omega
theorem ok_skew {w n : Int} (h : 0 ≤ w ∧ w ≤ 6) (h2 : -3 ≤ n ∧ n ≤ 3) : (Act.mk 4 w n 0 0 0 []).ok = true := by simp [Act.ok, within, Act.noR, Act.noB]; omega
theorem ok_ing {w : Int} {b : List Smp} (h : 2 ≤ w ∧ w ≤ 3) (hb : smpsOK b = true) (h1 : 1 ≤ b.length ∧ b.length ≤ 8) : (Act.mk 5 w 0 0 0 0 b).ok = true := by simp [Act.ok, within, Act.noR, Act.noB, hb]; omega
theorem ok_ask {w t f u : Int} (h : 4 ≤ w ∧ w ≤ 5) (ht : 0 ≤ t ∧ t ≤ 2) (hr : isRange f u = true) : (Act.mk 6 w 0 t f u []).ok = true := by simp [Act.ok, within, Act.noR, Act.noB, hr]; omega
def lst (v : Int) : Int := if v = 0 ∨ v = 1 then 0 else if v = 2 then 1 else if v = 3 ∨ v = 4 then 2 else if v = 5 ∨ v = 6 then 3 else if v = 7 then 4 else if v = 8 then 5 else 6
theorem lst_b (v : Int) : 0 ≤ lst v ∧ lst v ≤ 6 := by
 unfold lst
 repeat' split
 all_goals omega
theorem act_step (s : Src) {k : Int} (h : s.ok k) (hk : 100000 ≤ k ∧ k ≤ 900000) (f : Int) (hf : 0 ≤ f ∧ f ≤ 80000) (d : Int) (hd : (s.next 16).1 = d) (h5 : 5 ≤ d) : Road s k f := by
 have n1 := next_b s h (by omega) 16
 have c1 := next_fn s 16 (wk h (by omega))
 rw [hd] at c1
 have n2 := next_b (s.next 16).2 n1.2.1 (by omega) 10
 have c2 := next_fn (s.next 16).2 10 (wk n1.2.1 (by omega))
 have b2 := n2.1.2 (by omega)
 have b2' := n2.1.1
 obtain ⟨v, hv⟩ : ∃ v, ((s.next 16).2.next 10).1 = v := ⟨_, rfl⟩
 rw [hv] at c2 b2 b2'
 refine ⟨⟨1, lst v, 0, 0, 0, 0, []⟩, ((s.next 16).2.next 10).2, at_of (ok_step (lst_b v)) (show (1 : Int) ≠ 5 by decide), wk n2.2.1 (by omega), ?_⟩
 have : v = 0 ∨ v = 1 ∨ v = 2 ∨ v = 3 ∨ v = 4 ∨ v = 5 ∨ v = 6 ∨ v = 7 ∨ v = 8 ∨ v = 9 := by omega
 rcases this with rfl | rfl | rfl | rfl | rfl | rfl | rfl | rfl | rfl | rfl
 all_goals
  refine FnM.introC Tryz.call77 Tryz.func77 rfl rfl ?_
  conv => whnf
  refine CallC.k [(0, 0)] (c1) rfl rfl (AVsle.refl _) ⟨MOle.refl _, trivial⟩ rfl ?_
  conv => whnf
  refine Grd.intro (fun g => absurd (of_decide_eq_true g) (by omega)) (fun _ => ?_)
  conv => whnf
  refine Grd.intro (fun g => absurd (of_decide_eq_true g) (by omega)) (fun _ => ?_)
  conv => whnf
  refine Grd.intro (fun g => absurd (of_decide_eq_true g) (by omega)) (fun _ => ?_)
  conv => whnf
  refine Grd.intro (fun g => absurd (of_decide_eq_true g) (by omega)) (fun _ => ?_)
  conv => whnf
  refine Grd.intro (fun g => absurd (of_decide_eq_true g) (by omega)) (fun _ => ?_)
  conv => whnf
  conv => whnf
  refine CallC.k [(0, 0)] (c2) rfl rfl (AVsle.refl _) ⟨MOle.refl _, trivial⟩ rfl ?_
  conv => whnf
  refine And.intro ⟨by decide, by decide⟩ ?_
  conv => whnf
  exact And.intro trivial ⟨[(0, 0)], rfl, actLe _ _ _ _ _ _, MOle.refl _, trivial⟩
theorem act_ing (s : Src) {k : Int} (h : s.ok k) (hk : 100000 ≤ k ∧ k ≤ 900000) (f : Int) (hf : 0 ≤ f ∧ f ≤ 80000) (d : Int) (hd : (s.next 16).1 = d) (h5 : d = 0 ∨ d = 1) : Road s k f := by
 have n1 := next_b s h (by omega) 16
 have c1 := next_fn s 16 (wk h (by omega))
 rw [hd] at c1
 have c2 := samples_fn (s.next 16).2 f 7 (wk n1.2.1 (by omega)) (by omega) (by omega)
 obtain ⟨d1, d2, d3, d4⟩ := drawn_last (s.next 16).2 f n1.2.1 (by omega) hf
 generalize (s.next 16).2.samples f 7 = X at *
 obtain ⟨L, fe, q2⟩ := X
 have d1 : smpsOK L = true := d1
 have d2 : L.length ≤ 7 := d2
 have d3 : q2.ok (k + 3 + 90) := d3
 have d4 : ∀ e ∈ L, f ≤ e.t ∧ e.t ≤ f + 28 := d4
 have c2 : FnM Tryz.prog 116 1 [.bptr 0 0, .int .i64 f, .int .i64 7] [(0, .box (s.next 16).2.row)] (.osl 1) [(0, .box q2.row), (1, .arr 96 2 L.length fun i => (ix L i).row)] 2 := c2
 by_cases h0 : L.length = 0
 · have n3 := next_b q2 d3 (by omega) 10
   have c3 := next_fn q2 10 (wk d3 (by omega))
   have b2 := n3.1.2 (by omega)
   have b2' := n3.1.1
   obtain ⟨v, hv⟩ : ∃ v, (q2.next 10).1 = v := ⟨_, rfl⟩
   rw [hv] at c3 b2 b2'
   refine ⟨⟨1, lst v, 0, 0, 0, 0, []⟩, (q2.next 10).2, at_of (ok_step (lst_b v)) (show (1 : Int) ≠ 5 by decide), wk n3.2.1 (by omega), ?_⟩
   have : v = 0 ∨ v = 1 ∨ v = 2 ∨ v = 3 ∨ v = 4 ∨ v = 5 ∨ v = 6 ∨ v = 7 ∨ v = 8 ∨ v = 9 := by omega
   rcases h5 with rfl | rfl <;> rcases this with rfl | rfl | rfl | rfl | rfl | rfl | rfl | rfl | rfl | rfl
   all_goals
    refine FnM.introC Tryz.call77 Tryz.func77 rfl rfl ?_
    conv => whnf
    refine CallC.k [(0, 0)] (c1) rfl rfl (AVsle.refl _) ⟨MOle.refl _, trivial⟩ rfl ?_
    conv => whnf
    conv => whnf
    refine CallC.k [(0, 0)] (c2) rfl rfl (AVsle.refl _) ⟨MOle.refl _, trivial⟩ rfl ?_
    conv => whnf
    refine Grd.intro (fun g => absurd (show (0 : Int) < (L.length : Int) from of_decide_eq_true g) (by omega)) (fun _ => ?_)
    conv => whnf
    conv => whnf
    refine CallC.k [(0, 0)] (c3) rfl rfl (AVsle.refl _) ⟨MOle.refl _, trivial⟩ rfl ?_
    conv => whnf
    refine And.intro ⟨by decide, by decide⟩ ?_
    conv => whnf
    exact And.intro trivial ⟨[(0, 0)], rfl, actLe _ _ _ _ _ _, MOle.refl _, trivial⟩
 · have n3 := next_b q2 d3 (by omega) 2
   have c3 := next_fn q2 2 (wk d3 (by omega))
   have b2 := n3.1.2 (by omega)
   have b2' := n3.1.1
   have hl := d4 _ (getD_mem (show L.length - 1 < L.length by omega))
   refine ⟨⟨5, 2 + (q2.next 2).1, 0, 0, 0, 0, L⟩, (q2.next 2).2, ⟨ok_ing (by omega) d1 (by omega), fun _ => ⟨by show 1 ≤ L.length; omega, hl.1, hl.2⟩⟩, wk n3.2.1 (by omega), ?_⟩
   rcases h5 with rfl | rfl
   all_goals
    refine FnM.introC Tryz.call77 Tryz.func77 rfl rfl ?_
    conv => whnf
    refine CallC.k [(0, 0)] (c1) rfl rfl (AVsle.refl _) ⟨MOle.refl _, trivial⟩ rfl ?_
    conv => whnf
    conv => whnf
    refine CallC.k [(0, 0)] (c2) rfl rfl (AVsle.refl _) ⟨MOle.refl _, trivial⟩ rfl ?_
    conv => whnf
    refine Grd.intro (fun _ => ?_) (fun g => absurd (show ¬ (0 : Int) < (L.length : Int) from of_decide_eq_false g) (by omega))
    conv => whnf
    conv => whnf
    refine CallC.k [(0, 0)] (c3) rfl rfl (AVsle.refl _) ⟨MOle.refl _, trivial⟩ rfl ?_
    conv => whnf
    refine And.intro (inI64 (by omega) (by omega)) ?_
    conv => whnf
    exact And.intro trivial ⟨[(0, 0)], rfl, AVle.refl _, MOle.refl _, trivial⟩
theorem act_tick (s : Src) {k : Int} (h : s.ok k) (hk : 100000 ≤ k ∧ k ≤ 900000) (f : Int) (hf : 0 ≤ f ∧ f ≤ 80000) (d : Int) (hd : (s.next 16).1 = d) (h5 : d = 3) : Road s k f := by
 have n1 := next_b s h (by omega) 16
 have c1 := next_fn s 16 (wk h (by omega))
 rw [hd] at c1
 have n2 := next_b (s.next 16).2 n1.2.1 (by omega) 5
 have c2 := next_fn (s.next 16).2 5 (wk n1.2.1 (by omega))
 have n3 := next_b ((s.next 16).2.next 5).2 n2.2.1 (by omega) 5
 have c3 := next_fn ((s.next 16).2.next 5).2 5 (wk n2.2.1 (by omega))
 have n4 := next_b (((s.next 16).2.next 5).2.next 5).2 n3.2.1 (by omega) 60
 have c4 := next_fn (((s.next 16).2.next 5).2.next 5).2 60 (wk n3.2.1 (by omega))
 have n5 := next_b ((((s.next 16).2.next 5).2.next 5).2.next 60).2 n4.2.1 (by omega) 3
 have c5 := next_fn ((((s.next 16).2.next 5).2.next 5).2.next 60).2 3 (wk n4.2.1 (by omega))
 have b2 := n2.1.2 (by omega)
 have b3 := n3.1.2 (by omega)
 have b4 := n4.1.2 (by omega)
 have b5 := n5.1.2 (by omega)
 generalize ((s.next 16).2.next 5).1 = x2 at *
 generalize (((s.next 16).2.next 5).2.next 5).1 = x3 at *
 generalize ((((s.next 16).2.next 5).2.next 5).2.next 60).1 = x4 at *
 obtain ⟨q, hq⟩ : ∃ q, (((((s.next 16).2.next 5).2.next 5).2.next 60).2.next 3).2 = q := ⟨_, rfl⟩
 obtain ⟨v, hv⟩ : ∃ v, (((((s.next 16).2.next 5).2.next 5).2.next 60).2.next 3).1 = v := ⟨_, rfl⟩
 rw [hv, hq] at c5
 rw [hv] at b5 n5
 rw [hq] at n5
 have b5' := n5.1.1
 have hn : 0 ≤ (if v = 0 then x2 else if v = 1 then x3 else x4) ∧ (if v = 0 then x2 else if v = 1 then x3 else x4) ≤ 1000 := by
  have := n2.1.1; have := n3.1.1; have := n4.1.1
  repeat' split
  all_goals omega
 refine ⟨⟨3, 0, if v = 0 then x2 else if v = 1 then x3 else x4, 0, 0, 0, []⟩, q, at_of (ok_tick hn) (show (3 : Int) ≠ 5 by decide), wk n5.2.1 (by omega), ?_⟩
 have : v = 0 ∨ v = 1 ∨ v = 2 := by omega
 subst h5
 clear hv hd
 rcases this with rfl | rfl | rfl
 all_goals
  refine FnM.introC Tryz.call77 Tryz.func77 rfl rfl ?_
  conv => whnf
  refine CallC.k [(0, 0)] (c1) rfl rfl (AVsle.refl _) ⟨MOle.refl _, trivial⟩ rfl ?_
  conv => whnf
  conv => whnf
  refine CallC.k [(0, 0)] (c2) rfl rfl (AVsle.refl _) ⟨MOle.refl _, trivial⟩ rfl ?_
  conv => whnf
  conv => whnf
  refine CallC.k [(0, 0)] (c3) rfl rfl (AVsle.refl _) ⟨MOle.refl _, trivial⟩ rfl ?_
  conv => whnf
  conv => whnf
  refine CallC.k [(0, 0)] (c4) rfl rfl (AVsle.refl _) ⟨MOle.refl _, trivial⟩ rfl ?_
  conv => whnf
  conv => whnf
  refine CallC.k [(0, 0)] (c5) rfl rfl (AVsle.refl _) ⟨MOle.refl _, trivial⟩ rfl ?_
  conv => whnf
  refine And.intro ⟨by decide, by decide⟩ ?_
  conv => whnf
  exact And.intro trivial ⟨[(0, 0)], rfl, actLe _ _ _ _ _ _, MOle.refl _, trivial⟩
theorem act_4 (s : Src) {k : Int} (h : s.ok k) (hk : 100000 ≤ k ∧ k ≤ 900000) (f : Int) (hf : 0 ≤ f ∧ f ≤ 80000) (d : Int) (hd : (s.next 16).1 = d) (h5 : d = 4) : Road s k f := by
 have n1 := next_b s h (by omega) 16
 have c1 := next_fn s 16 (wk h (by omega))
 rw [hd] at c1
 have n2 := next_b (s.next 16).2 n1.2.1 (by omega) 2
 have c2 := chance_fn (s.next 16).2 2 (wk n1.2.1 (by omega)) (by omega)
 have n3 := next_b ((s.next 16).2.next 2).2 n2.2.1 (by omega) 7
 have c3 := next_fn ((s.next 16).2.next 2).2 7 (wk n2.2.1 (by omega))
 have b3 := n3.1.2 (by omega)
 have b3' := n3.1.1
 have n4 := next_b (((s.next 16).2.next 2).2.next 7).2 n3.2.1 (by omega) 7
 have c4 := next_fn (((s.next 16).2.next 2).2.next 7).2 7 (wk n3.2.1 (by omega))
 have b4 := n4.1.2 (by omega)
 have b4' := n4.1.1
 subst h5
 by_cases hc : ((s.next 16).2.next 2).1 = 2 - 1
 · refine ⟨⟨2, (((s.next 16).2.next 2).2.next 7).1, 0, 0, 0, 0, []⟩, (((s.next 16).2.next 2).2.next 7).2, at_of (ok_crash (by omega)) (show (2 : Int) ≠ 5 by decide), wk n3.2.1 (by omega), ?_⟩
   rw [decide_eq_true hc] at c2
   refine FnM.introC Tryz.call77 Tryz.func77 rfl rfl ?_
   conv => whnf
   refine CallC.k [(0, 0)] (c1) rfl rfl (AVsle.refl _) ⟨MOle.refl _, trivial⟩ rfl ?_
   conv => whnf
   conv => whnf
   refine CallC.k [(0, 0)] (c2) rfl rfl (AVsle.refl _) ⟨MOle.refl _, trivial⟩ rfl ?_
   conv => whnf
   conv => whnf
   refine CallC.k [(0, 0)] (c3) rfl rfl (AVsle.refl _) ⟨MOle.refl _, trivial⟩ rfl ?_
   conv => whnf
   exact And.intro trivial ⟨[(0, 0)], rfl, actLe _ _ _ _ _ _, MOle.refl _, trivial⟩
 · refine ⟨⟨4, (((s.next 16).2.next 2).2.next 7).1, ((((s.next 16).2.next 2).2.next 7).2.next 7).1 - 3, 0, 0, 0, []⟩, ((((s.next 16).2.next 2).2.next 7).2.next 7).2, at_of (ok_skew (by omega) (by omega)) (show (4 : Int) ≠ 5 by decide), wk n4.2.1 (by omega), ?_⟩
   rw [decide_eq_false hc] at c2
   refine FnM.introC Tryz.call77 Tryz.func77 rfl rfl ?_
   conv => whnf
   refine CallC.k [(0, 0)] (c1) rfl rfl (AVsle.refl _) ⟨MOle.refl _, trivial⟩ rfl ?_
   conv => whnf
   conv => whnf
   refine CallC.k [(0, 0)] (c2) rfl rfl (AVsle.refl _) ⟨MOle.refl _, trivial⟩ rfl ?_
   conv => whnf
   conv => whnf
   refine CallC.k [(0, 0)] (c3) rfl rfl (AVsle.refl _) ⟨MOle.refl _, trivial⟩ rfl ?_
   conv => whnf
   conv => whnf
   refine CallC.k [(0, 0)] (c4) rfl rfl (AVsle.refl _) ⟨MOle.refl _, trivial⟩ rfl ?_
   conv => whnf
   refine And.intro (inI64 (by omega) (by omega)) ?_
   conv => whnf
   exact And.intro trivial ⟨[(0, 0)], rfl, actLe _ _ _ _ _ _, MOle.refl _, trivial⟩
theorem max_b {f w v : Int} (hw : w = 1 ∨ w = 5 ∨ w = 20) (hf : 0 ≤ f ∧ f ≤ 80000) (h0 : 0 ≤ v) (h : v < (if f.tdiv w + 1 > 1 then f.tdiv w + 1 else 1)) : 0 ≤ w * v ∧ w * v ≤ f := by
 rw [Int.tdiv_eq_ediv_of_nonneg hf.1] at h
 rcases hw with rfl | rfl | rfl <;> (split at h <;> omega)
theorem act_ask (s : Src) {k : Int} (h : s.ok k) (hk : 100000 ≤ k ∧ k ≤ 900000) (f : Int) (hf : 0 ≤ f ∧ f ≤ 80000) (d : Int) (hd : (s.next 16).1 = d) (h5 : d = 2) : Road s k f := by
 have n1 := next_b s h (by omega) 16
 have c1 := next_fn s 16 (wk h (by omega))
 rw [hd] at c1
 have n2 := next_b (s.next 16).2 n1.2.1 (by omega) 3
 have c2 := next_fn (s.next 16).2 3 (wk n1.2.1 (by omega))
 have b2 := n2.1.2 (by omega)
 have b2' := n2.1.1
 obtain ⟨v, hv⟩ : ∃ v, ((s.next 16).2.next 3).1 = v := ⟨_, rfl⟩
 rw [hv] at c2 b2 b2'
 generalize ((s.next 16).2.next 3).2 = q2 at *
 subst h5
 clear hv hd
 have : v = 0 ∨ v = 1 ∨ v = 2 := by omega
 have cw := l04Width_fn v this
 have hw : wd v = 1 ∨ wd v = 5 ∨ wd v = 20 := by rcases this with rfl | rfl | rfl; exact .inl rfl; exact .inr (.inl rfl); exact .inr (.inr rfl)
 generalize wd v = w at *
 have n3 := next_b q2 n2.2.1 (by omega) (if f.tdiv w + 1 > 1 then f.tdiv w + 1 else 1)
 have c3 := next_fn q2 (if f.tdiv w + 1 > 1 then f.tdiv w + 1 else 1) (wk n2.2.1 (by omega))
 have e1 := n3.1.2 (by split <;> omega)
 have e2 := max_b hw hf n3.1.1 e1
 generalize (q2.next (if f.tdiv w + 1 > 1 then f.tdiv w + 1 else 1)).1 = x3 at *
 generalize (q2.next (if f.tdiv w + 1 > 1 then f.tdiv w + 1 else 1)).2 = q3 at *
 have n4 := next_b q3 n3.2.1 (by omega) 2
 have c4 := next_fn q3 2 (wk n3.2.1 (by omega))
 have b4 := n4.1.2 (by omega)
 have b4' := n4.1.1
 generalize (q3.next 2).1 = x4 at *
 generalize (q3.next 2).2 = q4 at *
 have n5 := next_b q4 n4.2.1 (by omega) 4
 have c5 := next_fn q4 4 (wk n4.2.1 (by omega))
 have b5 := n5.1.2 (by omega)
 have b5' := n5.1.1
 generalize (q4.next 4).1 = x5 at *
 generalize (q4.next 4).2 = q5 at *
 have hf0 := tdiv_b (n := f) (m := w) hf.1 (by omega)
 have e5 : 0 ≤ w * x5 ∧ w * x5 ≤ 60 := by rcases hw with rfl | rfl | rfl <;> omega
 refine ⟨⟨6, 4 + x4, 0, v, w * x3, w * x3 + w * x5, []⟩, q5, at_of (ok_ask (by omega) (by omega) (by simp [isRange, within]; omega)) (show (6 : Int) ≠ 5 by decide), wk n5.2.1 (by omega), ?_⟩
 refine FnM.introC Tryz.call77 Tryz.func77 rfl rfl ?_
 conv => whnf
 refine CallC.k [(0, 0)] (c1) rfl rfl (AVsle.refl _) ⟨MOle.refl _, trivial⟩ rfl ?_
 conv => whnf
 conv => whnf
 refine CallC.k [(0, 0)] (c2) rfl rfl (AVsle.refl _) ⟨MOle.refl _, trivial⟩ rfl ?_
 conv => whnf
 conv => whnf
 refine CallC.nl _ (cw) ?_ ?_
 · exact rfl
 conv => whnf
 refine And.intro ⟨by omega, inI64 (by omega) (by omega)⟩ ?_
 conv => whnf
 refine And.intro (inI64 (by omega) (by omega)) ?_
 conv => whnf
 conv => whnf
 refine CallC.k [(0, 0)] (c3) rfl rfl (AVsle.refl _) ⟨MOle.refl _, trivial⟩ rfl ?_
 conv => whnf
 refine And.intro (inI64 (by omega) (by omega)) ?_
 conv => whnf
 conv => whnf
 refine CallC.k [(0, 0)] (c4) rfl rfl (AVsle.refl _) ⟨MOle.refl _, trivial⟩ rfl ?_
 conv => whnf
 refine And.intro (inI64 (by omega) (by omega)) ?_
 conv => whnf
 conv => whnf
 refine CallC.k [(0, 0)] (c5) rfl rfl (AVsle.refl _) ⟨MOle.refl _, trivial⟩ rfl ?_
 conv => whnf
 refine And.intro (inI64 (by omega) (by omega)) ?_
 conv => whnf
 refine And.intro (inI64 (by omega) (by omega)) ?_
 conv => whnf
 exact And.intro trivial ⟨[(0, 0)], rfl, actLe _ _ _ _ _ _, MOle.refl _, trivial⟩
theorem act_ex (s : Src) {k : Int} (h : s.ok k) (hk : 100000 ≤ k ∧ k ≤ 900000) (f : Int) (hf : 0 ≤ f ∧ f ≤ 80000) : Road s k f := by
 have n1 := next_b s h (by omega) 16
 have b1 := n1.1.2 (by omega)
 have b1' := n1.1.1
 obtain ⟨d, hd⟩ : ∃ d, (s.next 16).1 = d := ⟨_, rfl⟩
 rw [hd] at b1 b1'
 have : (d = 0 ∨ d = 1) ∨ d = 2 ∨ d = 3 ∨ d = 4 ∨ 5 ≤ d := by omega
 rcases this with g | g | g | g | g
 · exact act_ing s h hk f hf d hd g
 · exact act_ask s h hk f hf d hd g
 · exact act_tick s h hk f hf d hd g
 · exact act_4 s h hk f hf d hd g
 · exact act_step s h hk f hf d hd g
abbrev AS := List Act × Int × Src
def nextAt (f : Int) (x : Act) : Int := if x.k = 5 then (ix x.b (x.b.length - 1)).t + 1 else f
theorem acts_ex (s : Src) {k : Int} (h : s.ok k) (hk : 100000 ≤ k ∧ k ≤ 800000) : ∃ (L : List Act) (q : Src), (L.length ≤ 64 ∧ ∀ a ∈ L, a.ok = true) ∧ q.ok (k + 8000) ∧ FnM Tryz.prog 29 1 [.bptr 0 0] [(0, .box s.row)] (acts L) [(0, .box q.row)] 1 := by
 obtain ⟨z, hz, cz⟩ := size_fn s 55 (wk h (by omega)) (by decide)
 have n1 := next_b s h (by omega) (z + 10)
 have c1 := next_fn s (z + 10) (wk h (by omega))
 have b1 := n1.1.2 (by omega)
 obtain ⟨M, hM⟩ : ∃ M : Nat, (s.next (z + 10)).1 = M := ⟨(s.next (z + 10)).1.toNat, by have := n1.1.1; omega⟩
 rw [hM] at b1 c1
 obtain ⟨q0, hq0⟩ : ∃ q0, (s.next (z + 10)).2 = q0 := ⟨_, rfl⟩
 rw [hq0] at c1 n1
 obtain ⟨f, f0, fI, fT⟩ := seq_ex (α := AS) M (fun i y => (y.1.length = i ∧ ∀ a ∈ y.1, a.ok = true) ∧ (0 ≤ y.2.1 ∧ y.2.1 ≤ 29 * (i : Int)) ∧ y.2.2.ok (k + 3 + 120 * i))
  (fun a b => ∃ x : Act, AT a.2.1 x ∧ b.1 = a.1 ++ [x] ∧ b.2.1 = nextAt a.2.1 x ∧ FnM Tryz.prog 77 1 [.bptr 0 0, .int .i64 a.2.1] [(0, .box a.2.2.row)] x.av [(0, .box b.2.2.row)] 1)
  ([], 0, q0) ⟨⟨rfl, fun a ha => by cases ha⟩, by simp, wk n1.2.1 (by omega)⟩
  (fun n a hn ⟨⟨i1, i2⟩, i3, i4⟩ => by
   obtain ⟨x, q, hx, hq, c⟩ := act_ex a.2.2 i4 (by omega) a.2.1 (by omega)
   refine ⟨(a.1 ++ [x], nextAt a.2.1 x, q), ⟨x, hx, rfl, rfl, c⟩, ⟨by simp [i1], fun y hy => ?_⟩, ?_, wk hq (by omega)⟩
   · rcases List.mem_append.1 hy with hy | hy
     · exact i2 y hy
     · rw [List.mem_singleton] at hy; subst hy; exact hx.1
   · show 0 ≤ nextAt a.2.1 x ∧ nextAt a.2.1 x ≤ _
     unfold nextAt
     split
     · rename_i h5
       have := hx.2 h5
       omega
     · omega)
 obtain ⟨⟨g1, g2⟩, _, g4⟩ := fI M (Nat.le_refl _)
 refine ⟨(f M).1, (f M).2.2, ⟨by omega, g2⟩, wk g4 (by omega), ?_⟩
 refine FnM.introC Tryz.call29 Tryz.func29 rfl rfl ?_
 conv => whnf
 conv => whnf
 refine CallC.k [(0, 0)] (cz) rfl rfl (AVsle.refl _) ⟨MOle.refl _, trivial⟩ rfl ?_
 conv => whnf
 refine And.intro (inI64 (by omega) (by omega)) ?_
 conv => whnf
 conv => whnf
 refine CallC.k [(0, 0)] (c1) rfl rfl (AVsle.refl _) ⟨MOle.refl _, trivial⟩ rfl ?_
 conv => whnf
 refine LoopC.mk (fun i : Nat => i ≤ M) (fun i => [(0, .bptr 0 0), (3, .osl 1), (4, .int .i64 (f i).2.1), (5, .int .i64 ((M : Int) - i))])
  (fun i => [(0, .box (f i).2.2.row), (1, .arr 65 7 (f i).1.length fun k => (ix (f i).1 k).cells)]) 2 (fun i => M - i) 0
  ⟨Nat.zero_le _, [(0, 0), (1, 1)], rfl, rfl, ⟨AVle.refl _, AVle.refl _, AVle.of_eq (by rw [f0]; rfl), AVle.of_eq (congrArg (AV.int .i64) (by simp)), trivial⟩, ⟨MOle.of_eq (by rw [f0]; rfl), MOle.arr (by rw [f0]; rfl) (fun k hk => absurd hk (Nat.not_lt_zero k)), trivial⟩⟩ ?_
 intro i hi
 conv => whnf
 refine Grd.intro (fun j1 => ?_) (fun j1 => ?_)
 · have hiM : i < M := by have := of_decide_eq_true j1; omega
   obtain ⟨⟨y1, y2⟩, y3, y4⟩ := fI i hi
   obtain ⟨x, hx, e1, e2, c⟩ := fT i hiM
   conv => whnf
   conv => whnf
   refine CallC.k [(0, 0)] (c) rfl rfl (AVsle.refl _) ⟨MOle.refl _, trivial⟩ rfl ?_
   conv => whnf
   refine Grd.intro (fun j2 => ?_) (fun j2 => ?_)
   · have h5 : x.k = 5 := of_decide_eq_true j2
     have hl := hx.2 h5
     have hj : Int.toNat ((x.b.length : Int) - 1) = x.b.length - 1 := by omega
     rw [← hj] at hl
     have hb := ((ActI.of_ok hx.1).b h5).2.2
     conv => whnf
     refine And.intro (inI64 (by omega) (by omega)) ?_
     conv => whnf
     refine And.intro ⟨by omega, by omega⟩ ?_
     conv => whnf
     refine And.intro (inI64 (by omega) (by omega)) ?_
     conv => whnf
     refine And.intro ⟨show ((f i).1.length + 1) * 72 ≤ 140737488355328 by omega, fun k hk => by (obtain rfl : k = 0 := by omega); rfl⟩ ?_
     conv => whnf
     refine And.intro (inI64 (by omega) (by omega)) ?_
     conv => whnf
     exact ⟨i + 1, hiM, by omega, [(0, 0), (5, 1)], rfl, rfl, ⟨AVle.refl _, AVle.refl _, AVle.of_eq (by rw [e2]; unfold nextAt; rw [if_pos h5, ← hj]; rfl), AVle.of_eq (congrArg (AV.int .i64) (by push_cast; omega)), trivial⟩, ⟨MOle.refl _, MOle.arr (by rw [e1]; simp) (fun k hk => by rw [e1]; exact app_row1 (f := Act.cells) rfl hk), trivial⟩⟩
   · have h5 : ¬ x.k = 5 := of_decide_eq_false j2
     conv => whnf
     refine And.intro ⟨show ((f i).1.length + 1) * 72 ≤ 140737488355328 by omega, fun k hk => by (obtain rfl : k = 0 := by omega); rfl⟩ ?_
     conv => whnf
     refine And.intro (inI64 (by omega) (by omega)) ?_
     conv => whnf
     exact ⟨i + 1, hiM, by omega, [(0, 0), (5, 1)], rfl, rfl, ⟨AVle.refl _, AVle.refl _, AVle.of_eq (by rw [e2]; unfold nextAt; rw [if_neg h5]; rfl), AVle.of_eq (congrArg (AV.int .i64) (by push_cast; omega)), trivial⟩, ⟨MOle.refl _, MOle.arr (by rw [e1]; simp) (fun k hk => by rw [e1]; exact app_row1 (f := Act.cells) rfl hk), trivial⟩⟩
 · have he : i = M := by have := of_decide_eq_false j1; omega
   subst he
   conv => whnf
   exact And.intro trivial ⟨[(0, 0)], rfl, AVle.refl _, ⟨MOle.refl _, trivial⟩⟩
theorem ActsOf_fn (code : List UInt8) (hc : code.length ≤ 1048576) : ∃ L : List Act, (L.length ≤ 64 ∧ ∀ a ∈ L, a.ok = true) ∧ VFn Tryz.prog 8 [byts code] (acts L) := by
 obtain ⟨L, q, hL, hq, c⟩ := acts_ex (srcOf code) (wk (src_ok code hc) (show (0 : Int) ≤ 100000 by decide)) (by decide)
 refine ⟨L, hL, ?_⟩
 refine VFn.introC Tryz.call8 Tryz.func8 rfl rfl ?_
 conv => whnf
 refine CallC.k [] (l00Source_fn code hc) rfl rfl (AVsle.refl _) trivial rfl ?_
 conv => whnf
 refine CallC.k [(0, 0)] (c) rfl rfl (AVsle.refl _) ⟨MOle.refl _, trivial⟩ rfl ?_
 exact And.intro trivial (AVle.refl _)
structure Made (f : Fl) : Prop where
 i : FlI f 512 64
 j : FlJ f
theorem run_fn (code : List UInt8) (hc : code.length ≤ 1048576) : ∃ (L : List Act) (f : Fl), Made f ∧ VFn Tryz.prog 8 [byts code] (acts L) ∧ VFn Tryz.prog 7 [acts L] (.tup [f.av, .sl 1 L.length fun k => [.int .i64 (codeN newF L k)], .int .i64 0]) := by
 obtain ⟨L, ⟨h1, h2⟩, c⟩ := ActsOf_fn code hc
 have hI : ∀ a ∈ L, ActI a := fun a ha => ActI.of_ok (h2 a ha)
 refine ⟨L, actsF newF L, ⟨?_, FlJ.acts L newF_J⟩, c, ActsRun_fn L h1 h2 hI⟩
 have := FlI.acts L newF_I hI (by omega)
 exact this.more (by omega) (by omega)
theorem law_Gone (code : List UInt8) (hc : code.length ≤ 9223372036854775807) (more : List UInt8) (hm : more.length ≤ 9223372036854775807) : VFn Tryz.prog 3 [byts code, byts more] (.bool true) := by
 by_cases hL1 : 1048576 < code.length
 · refine VFn.introC Tryz.call3 Tryz.func3 rfl rfl ?_
   refine Grd.intro (fun _ => ?_) (fun h => absurd (of_decide_eq_false h) (by omega))
   exact And.intro trivial (AVle.refl _)
 by_cases hL2 : 1048576 < more.length
 · refine VFn.introC Tryz.call3 Tryz.func3 rfl rfl ?_
   refine Grd.intro (fun h => absurd (of_decide_eq_true h) (by omega)) (fun _ => ?_)
   refine Grd.intro (fun _ => ?_) (fun h => absurd (of_decide_eq_false h) (by omega))
   exact And.intro trivial (AVle.refl _)
 obtain ⟨L, f, W, ca, cr⟩ := run_fn code (by omega)
 have cd := DrainFleet_fn W.i W.j (by omega) (n := 20) (by omega) (by omega)
 have F := W.i.drain (by omega) 20
 have J := W.j.drain 20
 have cn := NothingGone_fn (drainF f 20) (F.small J (by omega) (by omega))
 rw [F.ok (by omega), F.here] at cn
 refine VFn.introC Tryz.call3 Tryz.func3 rfl rfl ?_
 refine Grd.intro (fun h => absurd (of_decide_eq_true h) (by omega)) (fun _ => ?_)
 refine Grd.intro (fun h => absurd (of_decide_eq_true h) (by omega)) (fun _ => ?_)
 conv => whnf
 refine CallC.nl _ (ca) ?_ ?_
 · exact rfl
 conv => whnf
 refine CallC.nl _ (cr) ?_ ?_
 · exact rfl
 conv => whnf
 conv => whnf
 refine CallC.nl _ (cd) ?_ ?_
 · exact rfl
 conv => whnf
 conv => whnf
 refine CallC.nl _ (cn) ?_ ?_
 · exact rfl
 conv => whnf
 exact And.intro trivial (AVle.refl _)
end Go.Proofs.YtbhgcfhbhjcjhaaGreatDoor
