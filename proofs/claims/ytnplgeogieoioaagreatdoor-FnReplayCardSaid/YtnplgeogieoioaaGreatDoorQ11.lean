/- Contracts of functions that the claim reaches, and the plain law of what they compute; each theorem bears its own conditions. -/
import Derived.Test.YtnplgeogieoioaaGreatDoorQ10
import Derived.Test.YtnplgeogieoioaaGreatDoorQ3
import Derived.Test.YtnplgeogieoioaaGreatDoorV52
import Derived.Test.YtnplgeogieoioaaGreatDoorQ5
import Derived.Test.YtnplgeogieoioaaGreatDoorQ6
import Derived.Test.YtnplgeogieoioaaGreatDoorQ1
import Derived.Test.YtnplgeogieoioaaGreatDoorQ4
import Derived.Test.YtnplgeogieoioaaGreatDoorQ2
import Derived.Test.YtnplgeogieoioaaGreatDoorQ9
set_option linter.unusedVariables false
set_option linter.constructorNameAsVariable false
set_option linter.unusedSimpArgs false
set_option maxRecDepth 20000
set_option maxHeartbeats 1000000
namespace Go.Proofs.YtnplgeogieoioaaGreatDoor
open Go Go.Vw
theorem keyOK_len {k : List UInt8} (h : keyOK k = true) : k.length ≤ 30 := by
 unfold keyOK at h
 rw [Bool.and_eq_true] at h
 have := h.2
 simp [within] at this
 omega
theorem notLongP1 (t : List UInt8) (h : t.length ≤ 65536) {n : Nat} {rows : Nat → List AV} (hn : n = 1) (h0 : rows 0 = [.str (B t)]) : VFn Tryz.prog 73 [.sl 1 n rows] (.bool false) := by
 have c := isLong_fn [t] (by simp)
 have e : (!([t].all fun t => decide (t.length ≤ 65536))) = false := by simp; omega
 rw [e] at c
 exact c.weak (AVsle.cons (AVle.sl hn (fun i hi => by
  have : i = 0 := by omega
  subst this; exact h0)) AVsle.nil) (AVle.refl _)
theorem storeCode_fn (s : Sto) (hr : StoRd s) (hs : s.ok = true) (k : List UInt8) (hk : keyOK k = true) : VFn Tryz.prog 74 [s.av, .str (B k)] (.int .i64 0) := by
 have c := StoreOK_fn s (by have := hr.len; omega) hr.key
 rw [hs] at c
 have ck := KeyOK_fn k (by have := keyOK_len hk; omega)
 rw [hk] at ck
 refine VFn.introC Tryz.call74 Tryz.func74 rfl rfl ?_
 conv => whnf
 refine CallC.sca _ (c) ?_ ?_
 · exact rfl
 conv => whnf
 refine CallC.sca _ (ck) ?_ ?_
 · exact rfl
 conv => whnf
 refine CallC.sca _ (first2_of false false 1 19 ⟨rfl, rfl, rfl, rfl, trivial⟩ rfl (show _ = (0 : Int) from rfl)) ?_ ?_
 · exact rfl
 exact And.intro trivial (AVle.refl _)
theorem GetObject_no (s : Sto) (hr : StoRd s) (hs : s.ok = true) (k : List UInt8) (hk : keyOK k = true) (hh : s.has k = false) : VFn Tryz.prog 27 [s.av, .str (B k)] (.tup [.str (B []), .int .i64 0, .int .i64 5]) := by
 have c1 := storeCode_fn s hr hs k hk
 have hkl := keyOK_len hk
 have c2 := find_fn s hs k
 rw [hh] at c2
 refine VFn.introC Tryz.call27 Tryz.func27 rfl rfl ?_
 refine DrawC.mq 13 rfl (by kernel_rfl) ?_
 refine PCallQ.sca _ (notLongP1 k (by omega) rfl rfl) rfl ?_
 refine PCallQ.sca _ (c1) rfl ?_
 refine PCallQ.sca _ (first2_of false true 2 0 ⟨rfl, rfl, rfl, rfl, trivial⟩ rfl (show _ = (0 : Int) from rfl)) rfl ?_
 conv => whnf
 refine CallC.sca _ (c2) ?_ ?_
 · exact rfl
 exact And.intro trivial (AVle.refl _)
theorem lawDigits_fn (u : Nat) (h : u ≤ 1000000000) : VFn Tryz.prog 26 [.int .i64 (u : Int)] (.str (B (Lib.itoa (u : Int)))) := by
 rw [Lib.itoa_nonneg]
 have hl := dd_len 19 u (by simp; omega)
 refine VFn.introC Tryz.call26 Tryz.func26 rfl rfl ?_
 refine LoopC.mk (fun q : Nat × List UInt8 => Lib.decDigits q.1 ++ q.2 = Lib.decDigits u ∧ q.1 ≤ u) (fun q => [(0, .int .i64 (q.1 : Int)), (3, .str (B q.2))]) (fun _ => []) 0 (fun q => q.1) (u, [])
  ⟨⟨by simp, Nat.le_refl _⟩, [], rfl, rfl, ⟨AVle.refl _, AVle.refl _, trivial⟩, trivial⟩ ?_
 rintro ⟨w, a⟩ ⟨h1, h2⟩
 have h1 : Lib.decDigits w ++ a = Lib.decDigits u := h1
 have h2 : w ≤ u := h2
 have hal : a.length ≤ 20 := by
  have := congrArg List.length h1
  rw [List.length_append] at this
  omega
 have hd : (w : Int).tdiv 10 = ((w / 10 : Nat) : Int) := by rw [Int.tdiv_eq_ediv_of_nonneg (by omega)]; simp
 have hm : (w : Int).tmod 10 = ((w % 10 : Nat) : Int) := by rw [Int.tmod_eq_emod_of_nonneg (by omega)]; simp
 refine And.intro (by decide) ?_
 refine And.intro (show inI .i64 (48 + (w : Int).tmod 10) from inI64 (by omega) (by omega)) ?_
 refine And.intro (show inI .u8 (48 + (w : Int).tmod 10) from ⟨show (0 : Int) ≤ _ by omega, show _ ≤ (255 : Int) by omega⟩) ?_
 refine And.intro (fun i hi => ?_) ?_
 · have : i = 0 := by omega
   subst this; rfl
 have e1 : strOfNums [48 + (w : Int).tmod 10] ++ B a = B (UInt8.ofNat (48 + w % 10) :: a) := by
  rw [one_digit (k := w % 10) (by rw [hm]) (by omega), B_app]; rfl
 refine And.intro (show (((strOfNums [48 + (w : Int).tmod 10]).size + (B a).size : Nat) : Int) ≤ 9223372036854775807 by rw [B_size, strOfNums_size]; simp; omega) ?_
 refine And.intro ⟨by decide, by rw [hd]; exact inI64 (by omega) (by omega)⟩ ?_
 by_cases h10 : w < 10
 · refine Grd.intro (fun _ => ?_) (fun h => absurd (show ¬ (w : Int).tdiv 10 = 0 from of_decide_eq_false h) (by rw [hd]; omega))
   refine And.intro trivial (AVle.of_eq (congrArg AV.str ?_))
   show strOfNums [48 + (w : Int).tmod 10] ++ B a = _
   rw [e1, ← h1, Lib.decDigits, dif_pos h10, Nat.mod_eq_of_lt h10]
   rfl
 · refine Grd.intro (fun h => absurd (show (w : Int).tdiv 10 = 0 from of_decide_eq_true h) (by rw [hd]; omega)) (fun _ => ?_)
   refine ⟨(w / 10, UInt8.ofNat (48 + w % 10) :: a), ⟨?_, by show w / 10 ≤ u; omega⟩, by show w / 10 < w; omega, [], rfl, rfl, ⟨AVle.of_eq (congrArg (AV.int .i64) hd), AVle.of_eq (congrArg AV.str e1), trivial⟩, trivial⟩
   show Lib.decDigits (w / 10) ++ (UInt8.ofNat (48 + w % 10) :: a) = _
   rw [← h1]
   conv => rhs; rw [Lib.decDigits, dif_neg h10]
   simp









abbrev agI (ac : List Smp) (a b : Int) : Ag := aggL (smpsIn ac a b)
def valE (ac : List Smp) (a b : Int) (e : En) : Ag := agI ac (if a > e.f then a else e.f) (if b < e.t then b else e.t)
def gfold (ac : List Smp) (a b : Int) (g : Ag) (L : List En) : Ag := L.foldl (fun g e => g.mrg (valE ac a b e)) g




structure KnS (s : Sta) (ac : List Smp) (e : En) : Prop where
 ok : e.ok = true
 th : e.t ≤ s.hi e.tier
 t0 : e.tier = 0 → (1 ≤ kN e.key ∧ kN e.key ≤ s.seq) ∧ (smpsIn ac e.f e.t).length ≤ 8
 t1 : e.tier ≠ 0 → e.f = kN e.key ∧ e.t = e.f + wd e.tier ∧ e.f % wd e.tier = 0
structure KnE (x : Sto) (s : Sta) (ac : List Smp) (e : En) : Prop where
 st : KnS s ac e
 dt : e.tier = 0 → x.has e.key = true → (x.get e.key).data = smpsText (smpsIn ac e.f e.t)
structure JobI (s : Sta) (tok : Int) (j : Rc) : Prop where
 tier : j.tier = 1 ∨ j.tier = 2
 f0 : 0 ≤ j.f
 t : j.t = j.f + wd j.tier
 th : j.t ≤ s.h0
 fh : j.f ≤ s.hi j.tier
 key : kOk j.key = true ∧ kT j.key = j.tier ∧ kN j.key = j.f ∧ kW j.key = tok
structure InI (x : Sto) (s : Sta) (ac : List Smp) (a b : Int) (e : En) : Prop where
 kn : KnE x s ac e
 al : e.tier ≠ 0 → a ≤ e.f ∧ e.t ≤ b
structure WkI (x : Sto) (s : Sta) (ac : List Smp) (w : Wk) : Prop where
 ok : w.ok = true
 tok : 3 ≤ w.ph → w.tok ≤ s.fence
 job : (w.ph = 4 ∨ w.ph = 5 ∨ w.ph = 6) → w.job.k = 3 → JobI s w.tok w.job
 p4 : w.ph = 4 → gfold ac w.job.f w.job.t w.got w.ins = agI ac w.job.f w.job.t ∧ ∀ e ∈ w.ins, InI x s ac w.job.f w.job.t e
 p5 : w.ph = 5 → w.got = agI ac w.job.f w.job.t
 p6 : w.ph = 6 → w.job.k = 3 → s.fence = w.tok → w.job.f = s.hi w.job.tier → x.has w.job.key = true
section grow
variable {me : Int} {x y : Sto} {s s' : Sta} {ac ac' : List Smp}
end grow
section chg
variable {x y : Sto} {n : Nat} {s : Sta} {ac : List Smp}
end chg
section lay
variable {x y : Sto} {n : Nat} {s : Sta} {ac ac' : List Smp} {r : Rc}
end lay
theorem WkI.plain {x : Sto} {s : Sta} {ac : List Smp} {w : Wk} (h : w.ok = true) (ht : 3 ≤ w.ph → w.tok ≤ s.fence) (h4 : w.ph ≠ 4 ∧ w.ph ≠ 5 ∧ w.ph ≠ 6) : WkI x s ac w :=
 ⟨h, ht, fun g => by omega, fun g => absurd g h4.1, fun g => absurd g h4.2.1, fun g => absurd g h4.2.2⟩
section vals
variable {x : Sto} {n : Nat} {s : Sta} {ac : List Smp}
end vals
section
variable {x : Sto} {w : Wk} {now : Int}
end
section wk
variable {x : Sto} {n : Nat} {s : Sta} {ac : List Smp} {me C : Int}
end wk





section ig
variable {x : Sto} {n : Nat} {s : Sta} {ac : List Smp} {me C : Int}
end ig
section rd
variable {x : Sto} {n : Nat} {s : Sta} {ac : List Smp} {C : Int}
end rd
section sw
variable {x : Sto} {n : Nat} {s : Sta} {ac : List Smp} {C : Int}
end sw


section fl
variable {f : Fl} {M Q : Nat}
end fl
section fl2
variable {f : Fl} {M Q : Nat}
end fl2





section conseq
variable {f : Fl} {M Q : Nat}
end conseq

theorem beq_f {j k : Nat} (h : j ≠ k) : j.beq k = false := by
 cases e : j.beq k with
 | false => rfl
 | true => exact absurd (Nat.eq_of_beq_eq_true e) h







instance : Inhabited Act := ⟨⟨0, 0, 0, 0, 0, 0, []⟩⟩

def AT (f : Int) (a : Act) : Prop := a.ok = true ∧ (a.k = 5 → 1 ≤ a.b.length ∧ f ≤ (ix a.b (a.b.length - 1)).t ∧ (ix a.b (a.b.length - 1)).t ≤ f + 28)
def Road (s : Src) (k : Int) (f : Int) : Prop := ∃ (a : Act) (q : Src), AT f a ∧ q.ok (k + 120) ∧ FnM Tryz.prog 99 1 [.bptr 0 0, .int .i64 f] [(0, .box s.row)] a.av [(0, .box q.row)] 1




theorem StoRdE {x : Sto} (h : x.ok = true) : StoRd x := by
 obtain ⟨a1, a2, a3, _, _⟩ := (stoOK_iff x).1 h
 refine ⟨by omega, fun o ho => ?_, by omega⟩
 have := (a3 o ho).1
 unfold keyOK at this
 simp only [Bool.and_eq_true, within, decide_eq_true_eq] at this
 omega

theorem LoggedStore_fn (code : List UInt8) (h : code.length ≤ 1048576) : ∃ (y : Sto) (n : Nat), n ≤ 26 ∧ LgF n y ∧ VFn Tryz.prog 19 [byts code] y.av := by
 obtain ⟨y, n, q, hn, hy, c⟩ := logged_fn (srcOf code) (wk (src_ok code h) (show (0 : Int) ≤ 100000 by decide)) (by decide)
 refine ⟨y, n, hn, hy, ?_⟩
 refine VFn.introC Tryz.call19 Tryz.func19 rfl rfl ?_
 conv => whnf
 refine CallC.k [] (l00Source_fn code h) rfl rfl (AVsle.refl _) trivial rfl ?_
 conv => whnf
 refine CallC.k [(1, 0)] (c) rfl rfl (AVsle.refl _) ⟨MOle.refl _, trivial⟩ rfl ?_
 exact And.intro trivial (AVle.refl _)


theorem sameStore_fn (s : Sto) (hL : s.os.length ≤ 1000000) : VFn Tryz.prog 10 [s.av, s.av] (.bool true) := by
 refine VFn.introC Tryz.call10 Tryz.func10 rfl rfl ?_
 refine Grd.intro (fun h => absurd h (by simp)) (fun _ => ?_)
 refine Grd.intro (fun h => absurd h (by simp)) (fun _ => ?_)
 refine LoopC.mk (fun i : Nat => i ≤ s.os.length) (fun i => [(2, .bptr 0 0), (3, .bptr 1 0), (5, .int .i64 i)]) (fun i => [(0, .box s.row), (1, .box s.row)]) 2 (fun i => s.os.length - i) 0
  ⟨Nat.zero_le _, [(0, 0), (1, 1)], rfl, rfl, ⟨AVle.refl _, AVle.refl _, AVle.refl _, trivial⟩, ⟨MOle.refl _, MOle.refl _, trivial⟩⟩ ?_
 intro i hi
 refine Grd.intro (fun h2 => ?_) (fun h2 => ?_)
 · have hin : i < s.os.length := by have := of_decide_eq_true h2; omega
   refine DrawC.mq 10 rfl (by kernel_rfl) ?_
   refine And.intro (by omega) ?_
   refine And.intro (by omega) ?_
   refine And.intro (by kernel_rfl) ?_
   refine Grd.intro (fun h => absurd h (by simp)) (fun _ => ?_)
   refine And.intro (inI64 (by omega) (by omega)) ?_
   exact ⟨i + 1, hin, by omega, [(0, 0), (1, 1)], rfl, rfl, ⟨AVle.refl _, AVle.refl _, AVle.of_eq (congrArg (AV.int .i64) (by simp)), trivial⟩, ⟨MOle.refl _, MOle.refl _, trivial⟩⟩
 · exact And.intro trivial (AVle.refl _)
theorem appV {x y : Sto} {c : Int} (hx : x.ok = true) {n : Nat} (hn : 1 ≤ n ∧ n ≤ 999999) {r : Rc} (hr : r.ok = true) (h : appS x (n : Int) r = (y, c)) : VFn Tryz.prog 28 [x.av, .int .i64 (n : Int), r.av] (.tup [y.av, .int .i64 c]) := by
 have ha : appC x (n : Int) r = 0 := by
  unfold appC
  rw [if_pos ⟨hx, hr⟩, if_pos (by simp [within]; omega)]
 have c := (Append_own x (StoRdE hx) (n : Int) r ha).vfn
 rw [h] at c
 exact c
theorem logV {x : Sto} (hx : x.ok = true) {s : Sta} (h : logS x = s) : VFn Tryz.prog 20 [x.av] (.tup [s.av, .int .i64 0]) := by
 have c := (ReplayLog_own x (StoRdE hx) hx).vfn
 rw [h] at c
 exact c
theorem slogV {x : Sto} (hx : x.ok = true) {s : Sta} (h : logS x = s) : VFn Tryz.prog 21 [x.av] (.tup [s.av, .int .i64 0]) := by
 have c := specReplayLog_yes x (StoRdE hx) hx
 rw [h] at c
 exact c
theorem man28 : ∀ m : Nat, m ≤ 28 → (Lib.decDigits m).length ≤ 2 ∧ 1 ≤ (Lib.decDigits m).length ∧ [109, 97, 110, 47] ++ (List.take (6 - (Lib.decDigits m).length) [48, 48, 48, 48, 48, 48] ++ Lib.decDigits m) = manK (m : Int) := by
 intro m hm
 have h1 : ∀ k : Nat, k < 10 → Lib.decDigits k = [UInt8.ofNat (48 + k)] := fun k hk => by
  rw [Lib.decDigits, dif_pos hk]
 have hd : Lib.decDigits m = if m < 10 then [UInt8.ofNat (48 + m)] else [UInt8.ofNat (48 + m / 10), UInt8.ofNat (48 + m % 10)] := by
  split
  · exact h1 m (by omega)
  · rw [Lib.decDigits, dif_neg (by omega), h1 (m / 10) (by omega)]; rfl
 rw [hd]
 have key : ∀ m : Fin 29, let d := if m.val < 10 then [UInt8.ofNat (48 + m.val)] else [UInt8.ofNat (48 + m.val / 10), UInt8.ofNat (48 + m.val % 10)]
  d.length ≤ 2 ∧ 1 ≤ d.length ∧ [109, 97, 110, 47] ++ (List.take (6 - d.length) [48, 48, 48, 48, 48, 48] ++ d) = manK (m.val : Int) := by decide
 exact key ⟨m, by omega⟩
theorem law_Replay (code : List UInt8) (hc : code.length ≤ 9223372036854775807) (more : List UInt8) (hm : more.length ≤ 9223372036854775807) : VFn Tryz.prog 5 [byts code, byts more] (.bool true) := by
 by_cases hL1 : 1048576 < code.length
 · refine VFn.introC Tryz.call5 Tryz.func5 rfl rfl ?_
   refine Grd.intro (fun _ => ?_) (fun h => absurd (of_decide_eq_false h) (by omega))
   exact And.intro trivial (AVle.refl _)
 by_cases hL2 : 1048576 < more.length
 · refine VFn.introC Tryz.call5 Tryz.func5 rfl rfl ?_
   refine Grd.intro (fun h => absurd (of_decide_eq_true h) (by omega)) (fun _ => ?_)
   refine Grd.intro (fun _ => ?_) (fun h => absurd (of_decide_eq_false h) (by omega))
   exact And.intro trivial (AVle.refl _)
 obtain ⟨y, n, hn, hy, cl⟩ := LoggedStore_fn code (by omega)
 have c1 := logV hy.ok rfl
 have c2 := slogV hy.ok rfl
 have lb := log_b y
 have hq : (logS y).seq = (n : Int) := by rw [lb.1, hy.en]
 have hD : Dr 400 (logS y) := ⟨logS_ok y, by omega, by have := hy.fe; omega, by omega⟩
 obtain ⟨r, hr1, hr2, cr⟩ := RecordFor_fn more (by omega) hD (by omega)
 have cs := sameState_fn (logS y) (by omega) (by omega)
 have co := StateOK_fn (logS y) (by omega) (by omega)
 rw [logS_ok y] at co
 have cR := specRecordOK_fn r (by omega)
 by_cases hr : r.ok = true
 · have ht : r.text.length ≤ 600 := by have := Rc.txt_len hr; omega
   have hl := hy.len
   have hx := hy.nxt
   obtain ⟨⟨p1, p2, p3⟩, p4, p5, p6⟩ := log_app hy.ok (by omega) hy.en hy.has hy.n2 ht (by omega) (by omega)
   obtain ⟨q1, q2, _⟩ := put_ok hy.ok (manK_keyOK ((n + 1 : Nat) : Int)) (d := r.text) ht (by omega) (by omega)
   have e1 : appS y ((n + 1 : Nat) : Int) r = (y.set (manK ((n + 1 : Nat) : Int)) r.text, 0) := by
    unfold appS Sto.putA
    rw [if_neg (by rw [hy.n1]; decide), q1, q2]
   have e2 : appS (y.set (manK ((n + 1 : Nat) : Int)) r.text) ((n + 1 : Nat) : Int) r = (y.set (manK ((n + 1 : Nat) : Int)) r.text, 9) := by
    unfold appS Sto.putA
    rw [if_pos (p4 n (by omega))]
   have c3 := appV hy.ok (by omega) hr e1
   have c4 := appV p1 (by omega) hr e2
   have c5 := logV p1 p6
   have hlay : (logS y).lay r.text = (logS y).app r := by unfold Sta.lay; rw [text_back hr]
   rw [hlay] at c5
   have c6 := ApplyRecordF (logS y) r hD (by omega) hr
   have al := appL_len (logS y) r
   have c7 := sameState_fn ((logS y).app r) (by omega) (by omega)
   have c8 := sameStore_fn (y.set (manK ((n + 1 : Nat) : Int)) r.text) (by omega)
   have cg := GetObject_no y (StoRdE hy.ok) hy.ok (manK ((n + 2 : Nat) : Int)) (manK_keyOK _) hy.n2
   have cd := lawDigits_fn (n + 2) (by omega)
   have hE : ((n + 1 : Nat) : Int) = (logS y).seq + 1 := by rw [hq]; push_cast; rfl
   have hE2 : ((n + 2 : Nat) : Int) = (logS y).seq + 2 := by rw [hq]; push_cast; rfl
   generalize y.set (manK ((n + 1 : Nat) : Int)) r.text = z at *
   rw [hE] at c3 c4
   rw [hE2] at cd
   rw [hr] at cR
   have hL8 : (∀ m : Nat, m ≤ 28 → (Lib.decDigits m).length ≤ 2 ∧ 1 ≤ (Lib.decDigits m).length ∧ [109, 97, 110, 47] ++ (List.take (6 - (Lib.decDigits m).length) [48, 48, 48, 48, 48, 48] ++ Lib.decDigits m) = manK (m : Int)) := man28
   have hL9 := hL8 (n + 2) (by omega)
   rw [← Lib.itoa_nonneg, hE2] at hL9
   clear hL8
   obtain ⟨D, hDe⟩ : ∃ D, D = Lib.itoa ((logS y).seq + 2) := ⟨_, rfl⟩
   rw [← hDe] at hL9 cd
   rw [hE2] at cg
   obtain ⟨d1, d2, d3⟩ := hL9
   refine VFn.introC Tryz.call5 Tryz.func5 rfl rfl ?_
   refine Grd.intro (fun h => absurd (of_decide_eq_true h) (by omega)) (fun _ => ?_)
   refine Grd.intro (fun h => absurd (of_decide_eq_true h) (by omega)) (fun _ => ?_)
   conv => whnf
   refine CallC.nl _ (cl) ?_ ?_
   · exact rfl
   conv => whnf
   refine CallC.nl _ (c1) ?_ ?_
   · exact rfl
   conv => whnf
   conv => whnf
   refine CallC.nl _ (c2) ?_ ?_
   · exact rfl
   conv => whnf
   conv => whnf
   refine CallC.nl _ (cr) ?_ ?_
   · exact rfl
   conv => whnf
   conv => whnf
   refine CallC.nl _ (cs) ?_ ?_
   · exact rfl
   conv => whnf
   conv => whnf
   refine CallC.nl _ (co) ?_ ?_
   · exact rfl
   conv => whnf
   conv => whnf
   refine CallC.nl _ (cR) ?_ ?_
   · exact rfl
   conv => whnf
   refine DrawC.mq 14 rfl (by kernel_rfl) ?_
   refine And.intro (show inI .i64 ((logS y).seq + 2) from inI64 (by omega) (by omega)) ?_
   conv => whnf
   refine PCallQ.sca _ (cd) rfl ?_
   refine And.intro (show inI .i64 (6 - ((B D).size : Int)) from inI64 (by rw [B_size]; omega) (by rw [B_size]; omega)) ?_
   conv => whnf
   refine And.intro ⟨by rw [B_size]; omega, show 6 - ((B D).size : Int) ≤ 6 by omega⟩ ?_
   refine force_to (congrArg AV.str (show (B [48, 48, 48, 48, 48, 48]).extract 0 (6 - ((B D).size : Int)).toNat = B (List.take (6 - D.length) [48, 48, 48, 48, 48, 48]) by rw [B_extract, B_size, List.drop_zero, show (6 - (D.length : Int)).toNat - 0 = 6 - D.length by omega])) ?_
   have hT : (List.take (6 - D.length) [48, 48, 48, 48, 48, (48 : UInt8)]).length ≤ 6 := by rw [List.length_take]; exact Nat.min_le_right _ _
   generalize List.take (6 - D.length) [48, 48, 48, 48, 48, (48 : UInt8)] = Z at *
   refine And.intro (show (((B [109, 97, 110, 47]).size + (B Z).size : Nat) : Int) ≤ 9223372036854775807 by rw [B_size, B_size]; simp; omega) ?_
   refine force_to (congrArg AV.str (show B [109, 97, 110, 47] ++ B Z = B ([109, 97, 110, 47] ++ Z) from B_app _ _)) ?_
   refine And.intro (show inI .i64 ((logS y).seq + 2) from inI64 (by omega) (by omega)) ?_
   conv => whnf
   refine PCallQ.sca _ (cd) rfl ?_
   refine And.intro (show (((B ([109, 97, 110, 47] ++ Z)).size + (B D).size : Nat) : Int) ≤ 9223372036854775807 by rw [B_size, B_size]; simp; omega) ?_
   refine force_to (congrArg AV.str (show B ([109, 97, 110, 47] ++ Z) ++ B D = B (manK ((logS y).seq + 2)) by rw [B_app, List.append_assoc, d3])) ?_
   conv => whnf
   refine CallC.nl _ (cg) ?_ ?_
   · exact rfl
   conv => whnf
   refine And.intro (show inI .i64 ((logS y).seq + 1) from inI64 (by omega) (by omega)) ?_
   conv => whnf
   refine CallC.nl _ (c3) ?_ ?_
   · exact rfl
   conv => whnf
   conv => whnf
   refine CallC.nl _ (c5) ?_ ?_
   · exact rfl
   conv => whnf
   conv => whnf
   refine CallC.nl _ (c6) ?_ ?_
   · exact rfl
   conv => whnf
   refine And.intro (show inI .i64 ((logS y).seq + 1) from inI64 (by omega) (by omega)) ?_
   conv => whnf
   refine CallC.nl _ (c4) ?_ ?_
   · exact rfl
   conv => whnf
   conv => whnf
   refine CallC.nl _ (c7) ?_ ?_
   · exact rfl
   conv => whnf
   conv => whnf
   refine CallC.nl _ (c8) ?_ ?_
   · exact rfl
   conv => whnf
   exact And.intro trivial (AVle.refl _)
 · rw [show r.ok = false by simpa using hr] at cR
   refine VFn.introC Tryz.call5 Tryz.func5 rfl rfl ?_
   refine Grd.intro (fun h => absurd (of_decide_eq_true h) (by omega)) (fun _ => ?_)
   refine Grd.intro (fun h => absurd (of_decide_eq_true h) (by omega)) (fun _ => ?_)
   conv => whnf
   refine CallC.nl _ (cl) ?_ ?_
   · exact rfl
   conv => whnf
   refine CallC.nl _ (c1) ?_ ?_
   · exact rfl
   conv => whnf
   conv => whnf
   refine CallC.nl _ (c2) ?_ ?_
   · exact rfl
   conv => whnf
   conv => whnf
   refine CallC.nl _ (cr) ?_ ?_
   · exact rfl
   conv => whnf
   conv => whnf
   refine CallC.nl _ (cs) ?_ ?_
   · exact rfl
   conv => whnf
   conv => whnf
   refine CallC.nl _ (co) ?_ ?_
   · exact rfl
   conv => whnf
   conv => whnf
   refine CallC.nl _ (cR) ?_ ?_
   · exact rfl
   conv => whnf
   exact And.intro trivial (AVle.refl _)
end Go.Proofs.YtnplgeogieoioaaGreatDoor
