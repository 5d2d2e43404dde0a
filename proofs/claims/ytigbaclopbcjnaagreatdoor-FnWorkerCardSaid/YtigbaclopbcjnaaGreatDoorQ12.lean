/- Contracts of functions that the claim reaches, and the plain law of what they compute; each theorem bears its own conditions. -/
import Derived.Test.YtigbaclopbcjnaaGreatDoorQ5
import Derived.Test.YtigbaclopbcjnaaGreatDoorQ4
import Derived.Test.YtigbaclopbcjnaaGreatDoorV52
import Derived.Test.YtigbaclopbcjnaaGreatDoorQ2
import Derived.Test.YtigbaclopbcjnaaGreatDoorQ11
import Derived.Test.YtigbaclopbcjnaaGreatDoorQ7
import Derived.Test.YtigbaclopbcjnaaGreatDoorQ8
import Derived.Test.YtigbaclopbcjnaaGreatDoorQ6
set_option linter.unusedVariables false
set_option linter.constructorNameAsVariable false
set_option linter.unusedSimpArgs false
set_option maxRecDepth 20000
namespace Go.Proofs.YtigbaclopbcjnaaGreatDoor
open Go Go.Vw
theorem l05Now_fn (n : Int) : VFn Tryz.prog 22 [.int .i64 n] (.bool (within n 0 101000)) := by
 refine VFn.introC Tryz.call22 Tryz.func22 rfl rfl ?_
 conv => whnf
 refine CallC.sca _ (l01In_fn _ _ _) ?_ ?_
 · exact rfl
 exact And.intro trivial (AVle.refl _)
theorem l01Over_fn (s : Sto) (hs : s.ok = true) (k d : List UInt8) (hk : s.has k = true) : VFn Tryz.prog 99 [s.av, .str (B k), .int .i64 (s.get k).ver, .str (B d)] (.tup [(s.put k d).av, .int .i64 (s.room k d)]) := by
 have hL := (Sto.ok_at hs).2.1
 have hn : 1 ≤ s.next ∧ s.next ≤ 1000000000 := by simpa [within] using (Sto.ok_at hs).1
 have hv := get_ok s hs k hk
 have c := l01Get_fn s hs k
 rw [if_pos hk] at c
 refine VFn.introC Tryz.call99 Tryz.func99 rfl rfl ?_
 conv => whnf
 refine CallC.sca _ (c) ?_ ?_
 · exact rfl
 refine Grd.intro (fun h => absurd (of_decide_eq_true (p := (s.get k).ver = 0) h) (by omega)) (fun _ => ?_)
 refine Grd.intro (fun h => (wyes' h (decide_eq_true rfl)).elim) (fun _ => ?_)
 conv => whnf
 refine CallC.sca _ (l01Room_fn s hs k d) ?_ ?_
 · exact rfl
 refine Grd.intro (fun h => ?_) (fun h => ?_)
 · have h : s.room k d ≠ 0 := by simpa using h
   unfold Sto.put
   rw [if_neg h]
   exact And.intro trivial (AVle.refl _)
 · have h : s.room k d = 0 := by simpa using h
   unfold Sto.put
   rw [if_pos h, h]
   conv => whnf
   refine CallC.nl _ (l01Set_fn s (by omega) ⟨by omega, by omega⟩ k d) ?_ ?_
   · exact rfl
   exact And.intro trivial (AVle.refl _)
theorem chgC_cases (s : Sto) (who tok : Int) {l : Lea} (h : s.lea = (l, 0)) : s.chgC who tok = if l.who ≠ who ∨ l.tok ≠ tok ∨ l.til = 0 then 13 else 0 := by
 unfold Sto.chgC
 rw [h]
 simp
theorem l05Change_fn (s : Sto) (hs : s.ok = true) (who tok til : Int) (ht : -9223372036854775807 ≤ til ∧ til ≤ 9223372036854775807) : VFn Tryz.prog 56 [s.av, .int .i64 who, .int .i64 tok, .int .i64 til] (.tup [(s.chg who tok til).1.av, .int .i64 (s.chg who tok til).2]) := by
 have c := l05Of_fn s hs
 unfold Sto.chg
 rcases s.lea_cases with ⟨e, h⟩ | ⟨e, h, hr⟩ | ⟨l, e, h, hr, hl⟩
 · have e1 : s.chgC who tok = 13 := by unfold Sto.chgC; rw [e]; simp
   rw [e1, if_neg (by decide)]
   unfold Sto.leaV at c
   rw [e] at c
   refine VFn.introC Tryz.call56 Tryz.func56 rfl rfl ?_
   conv => whnf
   refine CallC.sca _ (c) ?_ ?_
   · exact rfl
   exact And.intro trivial (AVle.refl _)
 · have e1 : s.chgC who tok = 17 := by unfold Sto.chgC; rw [e]; simp
   rw [e1, if_neg (by decide)]
   unfold Sto.leaV at c
   rw [e] at c
   refine VFn.introC Tryz.call56 Tryz.func56 rfl rfl ?_
   conv => whnf
   refine CallC.sca _ (c) ?_ ?_
   · exact rfl
   exact And.intro trivial (AVle.refl _)
 · have e1 := chgC_cases s who tok e
   have e2 : s.chgL til = ⟨l.tok, l.who, til⟩ := by unfold Sto.chgL; rw [e]
   have hv := get_ok s hs leaK h
   unfold Sto.leaV at c
   rw [e] at c
   have c : VFn Tryz.prog 96 [s.av] (.tup [l.av, .int .i64 (s.get leaK).ver, .int .i64 0]) := c
   have hb : ∀ x ∈ [l.tok, l.who, til], -9223372036854775807 ≤ x ∧ x ≤ 9223372036854775807 := by
    simp [Lea.ok, within] at hl
    intro x hx
    simp at hx
    omega
   have ct := l05Text_fn ⟨l.tok, l.who, til⟩ hb
   have co := l01Over_fn s hs leaK (Lea.text ⟨l.tok, l.who, til⟩) h
   refine VFn.introC Tryz.call56 Tryz.func56 rfl rfl ?_
   conv => whnf
   refine CallC.sca _ (c) ?_ ?_
   · exact rfl
   refine Grd.intro (fun h => absurd (of_decide_eq_true (p := (s.get leaK).ver = 0) h) (by omega)) (fun _ => ?_)
   refine Grd.intro (fun h1 => ?_) (fun h1 => ?_)
   · have h1 : l.tok ≠ tok := by simpa using h1
     have e3 : s.chgC who tok = 13 := by rw [e1, if_pos (.inr (.inl h1))]
     rw [e3, if_neg (by decide)]
     exact And.intro trivial (AVle.refl _)
   have h1 : l.tok = tok := by simpa using h1
   refine Grd.intro (fun h2 => ?_) (fun h2 => ?_)
   · have h2 : l.who ≠ who := by simpa using h2
     have e3 : s.chgC who tok = 13 := by rw [e1, if_pos (.inl h2)]
     rw [e3, if_neg (by decide)]
     exact And.intro trivial (AVle.refl _)
   have h2 : l.who = who := by simpa using h2
   refine Grd.intro (fun h3 => ?_) (fun h3 => ?_)
   · have h3 : l.til = 0 := by simpa using h3
     have e3 : s.chgC who tok = 13 := by rw [e1, if_pos (.inr (.inr h3))]
     rw [e3, if_neg (by decide)]
     exact And.intro trivial (AVle.refl _)
   have h3 : ¬ l.til = 0 := by simpa using h3
   have e3 : s.chgC who tok = 0 := by rw [e1, if_neg (fun q => by rcases q with q | q | q; exact q h2; exact q h1; exact h3 q)]
   rw [e3, if_pos rfl, e2]
   refine DrawC.mkQ 9 [(.inl 1, 7)] rfl (by kernel_rfl) ?_
   refine And.intro rfl ?_
   conv => whnf
   refine PCallQ.sca _ (ct) rfl ?_
   conv => whnf
   refine PCallQ.nl _ (co) rfl ?_
   exact And.intro trivial (AVle.refl _)
theorem till_fn (s : Sto) (hs : s.ok = true) (who tok til : Int) (ht : -9223372036854775807 ≤ til ∧ til ≤ 9223372036854775807) : VFn Tryz.prog 84 [s.av, .int .i64 who, .int .i64 tok, .int .i64 til] (.tup [(s.chg who tok til).1.av, .int .i64 (s.chg who tok til).2]) := by
 have c := lease_fn s hs
 unfold Sto.chg
 rcases s.lea_cases with ⟨e, h⟩ | ⟨e, h, hr⟩ | ⟨l, e, h, hr, hl⟩
 · have e1 : s.chgC who tok = 13 := by unfold Sto.chgC; rw [e]; simp
   rw [e1, if_neg (by decide)]
   rw [e] at c
   refine VFn.introC Tryz.call84 Tryz.func84 rfl rfl ?_
   conv => whnf
   refine CallC.sca _ (c) ?_ ?_
   · exact rfl
   conv => whnf
   refine CallC.sca _ (first2_of _ _ _ _ ⟨rfl, rfl, rfl, rfl, trivial⟩ rfl (show (if decide ((5 : Int) = 17) = true then (5 : Int) else if true = true then 13 else 0) = 13 by decide)) ?_ ?_
   · exact rfl
   exact And.intro trivial (AVle.refl _)
 · have e1 : s.chgC who tok = 17 := by unfold Sto.chgC; rw [e]; simp
   rw [e1, if_neg (by decide)]
   rw [e] at c
   refine VFn.introC Tryz.call84 Tryz.func84 rfl rfl ?_
   conv => whnf
   refine CallC.sca _ (c) ?_ ?_
   · exact rfl
   conv => whnf
   refine CallC.sca _ (first2_of _ _ _ _ ⟨rfl, rfl, rfl, rfl, trivial⟩ rfl (show (if decide ((17 : Int) = 17) = true then (17 : Int) else if true = true then 13 else 0) = 17 by decide)) ?_ ?_
   · exact rfl
   exact And.intro trivial (AVle.refl _)
 · have e1 := chgC_cases s who tok e
   have e2 : s.chgL til = ⟨l.tok, l.who, til⟩ := by unfold Sto.chgL; rw [e]
   rw [e] at c
   have hb : ∀ x ∈ [l.tok, l.who, til], -9223372036854775807 ≤ x ∧ x ≤ 9223372036854775807 := by
    simp [Lea.ok, within] at hl
    intro x hx
    simp at hx
    omega
   have ct := leaText_fn ⟨l.tok, l.who, til⟩ hb
   have hlen := Lea.text_len ⟨l.tok, l.who, til⟩ hb
   have co := put_fn s hs leaK (Lea.text ⟨l.tok, l.who, til⟩) (by omega)
   have f0 : ∀ b : Bool, (if decide ((0 : Int) = 17) = true then (0 : Int) else if b = true then 13 else 0) = if b = true then 13 else 0 := fun b => by rw [if_neg (by decide)]
   refine VFn.introC Tryz.call84 Tryz.func84 rfl rfl ?_
   conv => whnf
   refine CallC.sca _ (c) ?_ ?_
   · exact rfl
   refine Grd.intro (fun h1 => ?_) (fun h1 => ?_)
   · have h1 : l.who ≠ who := by simpa using h1
     have e3 : s.chgC who tok = 13 := by rw [e1, if_pos (.inl h1)]
     rw [e3, if_neg (by decide)]
     conv => whnf
     refine CallC.sca _ (first2_of _ true _ _ ⟨rfl, rfl, rfl, rfl, trivial⟩ rfl (f0 true)) ?_ ?_
     · exact rfl
     exact And.intro trivial (AVle.refl _)
   have h1 : l.who = who := by simpa using h1
   refine Grd.intro (fun h2 => ?_) (fun h2 => ?_)
   · have h2 : l.tok ≠ tok := by simpa using h2
     have e3 : s.chgC who tok = 13 := by rw [e1, if_pos (.inr (.inl h2))]
     rw [e3, if_neg (by decide)]
     conv => whnf
     refine CallC.sca _ (first2_of _ true _ _ ⟨rfl, rfl, rfl, rfl, trivial⟩ rfl (f0 true)) ?_ ?_
     · exact rfl
     exact And.intro trivial (AVle.refl _)
   have h2 : l.tok = tok := by simpa using h2
   by_cases h3 : l.til = 0
   · have e3 : s.chgC who tok = 13 := by rw [e1, if_pos (.inr (.inr h3))]
     rw [e3, if_neg (by decide)]
     conv => whnf
     refine CallC.sca _ (first2_of _ (decide (l.til = 0)) _ _ ⟨rfl, rfl, rfl, rfl, trivial⟩ rfl ((f0 _).trans (show _ = (13 : Int) by rw [if_pos (decide_eq_true h3)]))) ?_ ?_
     · exact rfl
     exact And.intro trivial (AVle.refl _)
   have e3 : s.chgC who tok = 0 := by rw [e1, if_neg (fun q => by rcases q with q | q | q; exact q h1; exact q h2; exact h3 q)]
   rw [e3, if_pos rfl, e2]
   conv => whnf
   refine CallC.sca _ (first2_of _ (decide (l.til = 0)) _ _ ⟨rfl, rfl, rfl, rfl, trivial⟩ rfl ((f0 _).trans (show _ = (0 : Int) by rw [if_neg (by simpa using h3)]))) ?_ ?_
   · exact rfl
   refine DrawC.mkQ 12 [(.inr 8, 9)] rfl (by kernel_rfl) ?_
   refine And.intro rfl ?_
   conv => whnf
   refine PCallQ.sca _ (ct) rfl ?_
   conv => whnf
   by_cases hroom : s.room leaK (Lea.text ⟨l.tok, l.who, til⟩) = 0
   · rw [if_pos hroom] at co
     unfold Sto.put
     rw [if_pos hroom, hroom]
     refine PCallQ.nl _ (co) rfl ?_
     exact And.intro trivial (AVle.refl _)
   · rw [if_neg hroom] at co
     unfold Sto.put
     rw [if_neg hroom]
     refine PCallQ.nl _ (co) rfl ?_
     exact And.intro trivial (AVle.refl _)

theorem isNow_fn (n : Int) : VFn Tryz.prog 16 [.int .i64 n] (.bool (within n 0 101000)) := by
 refine VFn.introC Tryz.call16 Tryz.func16 rfl rfl ?_
 conv => whnf
 refine CallC.sca _ (within_fn _ _ _) ?_ ?_
 · exact rfl
 exact And.intro trivial (AVle.refl _)
def pinP : List UInt8 := [112, 105, 110, 47]
def pinK (n : Int) : List UInt8 := [112, 105, 110, 47] ++ Lib.itoa n

theorem mem_has {s : Sto} (h : Srt s.os) {o : Ob} (ho : o ∈ s.os) : s.has o.key = true ∧ s.get o.key = o := by
 obtain ⟨j, hj, e⟩ := List.getElem_of_mem ho
 have ej : ix s.os j = o := by rw [ix_lt hj]; exact e
 have hl := lb_le o.key s.os
 have h1 : lb o.key s.os ≤ j := by
  rcases Nat.lt_or_ge j (lb o.key s.os) with h1 | h1
  · have := lb_lt h1
    rw [ej] at this
    exact absurd this (List.lt_irrefl _)
  · exact h1
 have h2 : lb o.key s.os = j := by
  rcases Nat.lt_or_ge (lb o.key s.os) j with h2 | h2
  · have h3 := h.lt h2 hj
    rw [ej] at h3
    exact absurd h3 (lb_ge (by omega))
  · omega
 have h3 : ix s.os (lb o.key s.os) = o := by rw [h2]; exact ej
 refine ⟨?_, h3⟩
 unfold Sto.has hasK
 rw [h3, decide_eq_true (by omega : lb o.key s.os < s.os.length)]
 simp
theorem has_get {s : Sto} {k : List UInt8} (h : s.has k = true) : s.get k ∈ s.os ∧ (s.get k).key = k := by
 obtain ⟨h1, h2⟩ := hasK_at h
 exact ⟨getD_mem h1, h2⟩
theorem set_mem {s : Sto} (h : Srt s.os) (k d : List UInt8) (o : Ob) : o ∈ (s.set k d).os ↔ o = ⟨k, s.next, d⟩ ∨ (o ∈ s.os ∧ o.key ≠ k) := by
 have e : (s.set k d).os = s.os.take (lb k s.os) ++ (⟨k, s.next, d⟩ :: s.os.drop (if hasK k s.os = true then lb k s.os + 1 else lb k s.os)) := rfl
 have ht := lb_take (k := k) (L := s.os)
 have hd := lb_drop (k := k) h
 rw [e, List.mem_append, List.mem_cons]
 constructor
 · rintro (h1 | h1 | h1)
   · refine .inr ⟨List.mem_of_mem_take h1, fun e => ?_⟩
     have := ht o h1
     rw [e] at this
     exact List.lt_irrefl _ this
   · exact .inl h1
   · refine .inr ⟨List.mem_of_mem_drop h1, fun e => ?_⟩
     have := hd o h1
     rw [e] at this
     exact List.lt_irrefl _ this
 · rintro (h1 | ⟨h1, h2⟩)
   · exact .inr (.inl h1)
   · obtain ⟨j, hj, e1⟩ := List.getElem_of_mem h1
     rcases Nat.lt_or_ge j (lb k s.os) with h3 | h3
     · left
       exact List.mem_take_iff_getElem.2 ⟨j, by omega, e1⟩
     · right; right
       have hq : (if hasK k s.os = true then lb k s.os + 1 else lb k s.os) ≤ j := by
        split
        · rename_i hk
          obtain ⟨k1, k2⟩ := hasK_at hk
          rcases Nat.lt_or_ge (lb k s.os) j with h4 | h4
          · exact h4
          · have : j = lb k s.os := by omega
            subst this
            rw [ix_lt hj, e1] at k2
            exact absurd k2 h2
        · exact h3
       refine List.mem_iff_getElem.2 ⟨j - (if hasK k s.os = true then lb k s.os + 1 else lb k s.os), by rw [List.length_drop]; omega, ?_⟩
       rw [List.getElem_drop]
       simp only [show (if hasK k s.os = true then lb k s.os + 1 else lb k s.os) + (j - (if hasK k s.os = true then lb k s.os + 1 else lb k s.os)) = j by omega]
       exact e1
theorem set_ne {s : Sto} (hs : s.ok = true) {k d : List UInt8} (hy : (s.set k d).ok = true) {k' : List UInt8} (hk : k' ≠ k) : (s.set k d).has k' = s.has k' ∧ (s.has k' = true → (s.set k d).get k' = s.get k') := by
 have h1 := Sto.srt hs
 have h2 := Sto.srt hy
 have fw : (s.set k d).has k' = true → s.has k' = true := fun h => by
  obtain ⟨a1, a2⟩ := has_get h
  rcases (set_mem h1 k d _).1 a1 with e | ⟨e, _⟩
  · rw [e] at a2; exact absurd a2.symm hk
  · have := (mem_has h1 e).1
    rwa [a2] at this
 have bw : s.has k' = true → (s.set k d).has k' = true ∧ (s.set k d).get k' = s.get k' := fun h => by
  obtain ⟨a1, a2⟩ := has_get h
  have := mem_has h2 ((set_mem h1 k d _).2 (.inr ⟨a1, by rw [a2]; exact hk⟩))
  rw [a2] at this
  exact this
 refine ⟨?_, fun h => (bw h).2⟩
 cases h : s.has k' with
 | true => exact (bw h).1
 | false =>
   cases h' : (s.set k d).has k' with
   | false => rfl
   | true => rw [fw h'] at h; cases h
theorem logN_congr {x y : Sto} : ∀ n : Nat, (∀ j, j < n → (y.get (manK ((j + 1 : Nat) : Int))).data = (x.get (manK ((j + 1 : Nat) : Int))).data) → logN y n = logN x n
 | 0, _ => rfl
 | n + 1, h => by
   show stepL y (logN y n) = stepL x (logN x n)
   rw [logN_congr n fun j hj => h j (by omega)]
   unfold stepL recAt
   rw [logN_seq x n, show ((n : Nat) : Int) + 1 = ((n + 1 : Nat) : Int) by omega, h n (by omega)]
def Sta.lay (s : Sta) (t : List UInt8) : Sta := match readR t with | none => s.tick | some r => s.app r
theorem log_grow {x y : Sto} (hy : y.ok = true) {n : Nat} (hn : n ≤ 299) (hh : ∀ j, j < n → x.has (manK ((j + 1 : Nat) : Int)) = true) (he : logEnd x = n)
 (h1 : ∀ j, j < n → y.has (manK ((j + 1 : Nat) : Int)) = true ∧ (y.get (manK ((j + 1 : Nat) : Int))).data = (x.get (manK ((j + 1 : Nat) : Int))).data)
 (h2 : y.has (manK ((n + 1 : Nat) : Int)) = true) (h3 : y.has (manK ((n + 2 : Nat) : Int)) = false) : logEnd y = n + 1 ∧ logS y = (logS x).lay (y.get (manK ((n + 1 : Nat) : Int))).data := by
 have e : n + 1 = logEnd y := log_end hy (by omega) (fun j hj => by
  rcases Nat.lt_or_ge j n with h | h
  · exact (h1 j h).1
  · have : j = n := by omega
    subst this; exact h2) h3
 refine ⟨e.symm, ?_⟩
 unfold logS
 rw [← e, he]
 show stepL y (logN y n) = _
 rw [logN_congr n fun j hj => (h1 j hj).2]
 unfold stepL recAt Sta.lay
 rw [logN_seq x n, show ((n : Nat) : Int) + 1 = ((n + 1 : Nat) : Int) by omega]
 generalize readR _ = o
 cases o <;> rfl
def inB (P : List Bk) (a b : Int) : List Bk := P.filter fun x => within x.t a (b - 1)
def foldB (P : List Bk) : Ag := P.foldl (fun x b => x.mrg b.a) default
def cntB (P : List Bk) : Int := P.foldl (fun n b => n + b.a.c) 0
theorem cntB_snoc {P : List Bk} {i : Nat} (h : i < P.length) : cntB (P.take (i + 1)) = cntB (P.take i) + (ix P i).a.c := by
 unfold cntB; rw [take_snoc h, List.foldl_append]; rfl
theorem foldB_in {P : List Bk} {a b : Int} {i : Nat} (h : i < P.length) : foldB (inB (P.take (i + 1)) a b) = if within (ix P i).t a (b - 1) = true then (foldB (inB (P.take i) a b)).mrg (ix P i).a else foldB (inB (P.take i) a b) := by
 unfold foldB inB
 rw [take_snoc h, List.filter_append, List.foldl_append]
 cases hw : within (ix P i).t a (b - 1) with
 | true => simp [hw]
 | false => simp [hw]
structure FoldBd (P : List Bk) (a b : Int) (i : Nat) : Prop where
 c : -100000000000 * (i : Int) ≤ (foldB (inB (P.take i) a b)).c ∧ (foldB (inB (P.take i) a b)).c ≤ 100000000000 * i
 s : -100000000000 * (i : Int) ≤ (foldB (inB (P.take i) a b)).s ∧ (foldB (inB (P.take i) a b)).s ≤ 100000000000 * i
 n : -100000000000 * (i : Int) ≤ cntB (P.take i) ∧ cntB (P.take i) ≤ 100000000000 * i
theorem foldB_b {P : List Bk} (hP : ∀ b ∈ P, b.a.ok = true) (a b : Int) : ∀ i : Nat, i ≤ P.length → FoldBd P a b i
 | 0, _ => by constructor <;> simp [foldB, cntB, inB, default]
 | i + 1, h => by
   obtain ⟨h1, h2, h3⟩ := foldB_b hP a b i (by omega)
   have hb := Ag.bounds (hP _ (getD_mem (L := P) h))
   obtain ⟨b1, b2, _⟩ := hb
   have b1 : -100000000000 ≤ (ix P i).a.c ∧ (ix P i).a.c ≤ 100000000000 := b1
   have b2 : -100000000000 ≤ (ix P i).a.s ∧ (ix P i).a.s ≤ 100000000000 := b2
   refine ⟨?_, ?_, ?_⟩
   · rw [foldB_in h]
     unfold Ag.mrg
     split
     · split
       · omega
       · split
         · omega
         · simp only; omega
     · omega
   · rw [foldB_in h]
     unfold Ag.mrg
     split
     · split
       · omega
       · split
         · omega
         · simp only; omega
     · omega
   · rw [cntB_snoc h]; omega
theorem foldG_fn (P : List Bk) (hl : P.length ≤ 8) (hP : ∀ b ∈ P, b.a.ok = true) (a b : Int) (hb : inI .i64 (b - 1)) (hn : cntB P ≤ 100000) : VFn Tryz.prog 156 [bks P, .int .i64 a, .int .i64 b] (.tup [(foldB (inB P a b)).av, .int .i64 0]) := by
 have hB := foldB_b hP a b
 refine VFn.introC Tryz.call156 Tryz.func156 rfl rfl ?_
 refine LoopC.mk (fun i : Nat => i ≤ P.length) (fun i => [(1, .int .i64 a), (2, .int .i64 b), (6, .bptr 0 0), (7, .int .i64 0), (8, .bptr 1 0), (9, .int .i64 (cntB (P.take i))), (13, bks P), (14, .int .i64 P.length), (15, .int .i64 i)])
  (fun i => [(0, .box [.int .i64 0, .int .i64 0, .int .i64 0, .int .i64 0, .int .i64 0, .int .i64 0]), (1, .box (foldB (inB (P.take i) a b)).cells)]) 2 (fun i => P.length - i) 0
  ⟨Nat.zero_le _, [(0, 0), (1, 1)], rfl, rfl, ⟨AVle.refl _, AVle.refl _, AVle.refl _, AVle.refl _, AVle.refl _, AVle.refl _, AVle.refl _, AVle.refl _, AVle.refl _, trivial⟩, ⟨MOle.refl _, MOle.refl _, trivial⟩⟩ ?_
 intro i hi
 refine Grd.intro (fun g => ?_) (fun g => ?_)
 · have hi2 : i < P.length := by have := of_decide_eq_true g; omega
   obtain ⟨q1, q2, q3⟩ := hB i hi
   obtain ⟨b1, b2, _⟩ := Ag.bounds (hP _ (getD_mem (L := P) hi2))
   have b1 : -100000000000 ≤ (ix P i).a.c ∧ (ix P i).a.c ≤ 100000000000 := b1
   have b2 : -100000000000 ≤ (ix P i).a.s ∧ (ix P i).a.s ≤ 100000000000 := b2
   have cw := within_fn (ix P i).t a (b - 1)
   refine And.intro (by omega) ?_
   refine And.intro (show inI .i64 (cntB (P.take i) + (ix P i).a.c) from inI64 (by omega) (by omega)) ?_
   refine And.intro hb ?_
   have ef := foldB_in (a := a) (b := b) hi2
   cases hw : within (ix P i).t a (b - 1) with
   | true =>
     rw [hw] at cw
     rw [hw, if_pos rfl] at ef
     conv => whnf
     refine CallC.sca _ (cw) ?_ ?_
     · exact rfl
     conv => whnf
     refine CallC.sca _ (merged_fn (foldB (inB (P.take i) a b)) (ix P i).a (inI64 (by omega) (by omega)) (inI64 (by omega) (by omega))) ?_ ?_
     · exact rfl
     refine And.intro (inI64 (by omega) (by omega)) ?_
     exact ⟨i + 1, hi2, by omega, [(0, 0), (1, 1)], rfl, rfl, ⟨AVle.refl _, AVle.refl _, AVle.refl _, AVle.refl _, AVle.refl _, AVle.of_eq (congrArg (AV.int .i64) (cntB_snoc hi2).symm), AVle.refl _, AVle.refl _, AVle.of_eq (congrArg (AV.int .i64) (by simp)), trivial⟩, ⟨MOle.refl _, MOle.of_eq (show MO.box ((foldB (inB (P.take i) a b)).mrg (ix P i).a).cells = _ by rw [ef]), trivial⟩⟩
   | false =>
     rw [hw] at cw
     rw [hw, if_neg (by simp)] at ef
     conv => whnf
     refine CallC.sca _ (cw) ?_ ?_
     · exact rfl
     refine And.intro (inI64 (by omega) (by omega)) ?_
     exact ⟨i + 1, hi2, by omega, [(0, 0), (1, 1)], rfl, rfl, ⟨AVle.refl _, AVle.refl _, AVle.refl _, AVle.refl _, AVle.refl _, AVle.of_eq (congrArg (AV.int .i64) (cntB_snoc hi2).symm), AVle.refl _, AVle.refl _, AVle.of_eq (congrArg (AV.int .i64) (by simp)), trivial⟩, ⟨MOle.refl _, MOle.of_eq (show MO.box (foldB (inB (P.take i) a b)).cells = _ by rw [ef]), trivial⟩⟩
 · have : i = P.length := by have := of_decide_eq_false g; omega
   subst this
   have e : P.take P.length = P := List.take_of_length_le (Nat.le_refl _)
   rw [e]
   refine Grd.intro (fun g2 => absurd (of_decide_eq_true g2) (by omega)) (fun _ => ?_)
   exact And.intro trivial (AVle.refl _)
def winV (e : En) (d : List UInt8) (a b : Int) : Ag := if e.tier = 0 then aggL (smpsIn (rdV d) a b) else foldB (inB (rbV d) a b)
def goodD (e : En) (d : List UInt8) : Bool := if e.tier = 0 then rdOk d else rbOk d && decide (cntB (rbV d) ≤ 100000)
theorem windowG_fn (e : En) (d : List UInt8) (hl : d.length ≤ 1048576) (a b : Int) (hb : inI .i64 (b - 1)) (hg : goodD e d = true) : VFn Tryz.prog 123 [e.av, .str (B d), .int .i64 a, .int .i64 b] (.tup [(winV e d a b).av, .int .i64 0]) := by
 unfold goodD at hg
 unfold winV
 by_cases he : e.tier = 0
 · rw [if_pos he] at hg ⊢
   exact windowOf_yes e he d hl a b hb hg
 rw [if_neg he] at hg ⊢
 rw [Bool.and_eq_true] at hg
 have cr := readBuckets_gen d hl (.tup [bks (rbV d), .bool true]) (fun _ => rfl) (fun h => by rw [hg.1] at h; cases h)
 have h2 := hg.1
 simp only [rbOk, Bool.and_eq_true] at h2
 have h8 := bks_8 h2.2
 have hok := bksOK_ok h2.2
 have cf := foldG_fn (rbV d) h8 (fun x hx => (hok x hx).2) a b hb (of_decide_eq_true hg.2)
 refine VFn.introC Tryz.call123 Tryz.func123 rfl rfl ?_
 refine Grd.intro (fun g => absurd (of_decide_eq_true g) he) (fun g => ?_)
 conv => whnf
 refine CallC.nl _ (cr) ?_ ?_
 · exact rfl
 conv => whnf
 refine CallC.sca _ (cf) ?_ ?_
 · exact rfl
 exact And.intro trivial (AVle.refl _)
theorem MergeAgg_fn (a b : Ag) (ha : a.ok = true) (hb : b.ok = true) (hc : a.c + b.c ≤ 100000) : VFn Tryz.prog 124 [a.av, b.av] (.tup [(a.mrg b).av, .int .i64 0]) := by
 have c1 := AggOK_fn a
 have c2 := AggOK_fn b
 rw [ha] at c1
 rw [hb] at c2
 obtain ⟨a1, a2, _⟩ := Ag.bounds ha
 obtain ⟨b1, b2, _⟩ := Ag.bounds hb
 have cm := merged_fn a b (inI64 (by omega) (by omega)) (inI64 (by omega) (by omega))
 have cf := fun {n : Nat} {rows : Nat → List AV} (hr : FirstRows 4 3 rows 0 [(false, 1), (decide (100000 < a.c + b.c), 6)]) (hn : n = 4) => first2_of false (decide (100000 < a.c + b.c)) 1 6 hr hn (r := 0) (by rw [decide_eq_false (by omega)]; rfl)
 refine VFn.introC Tryz.call124 Tryz.func124 rfl rfl ?_
 refine DrawC.mq 21 rfl (by kernel_rfl) ?_
 refine PCallQ.sca _ (c1) rfl ?_
 refine PCallQ.sca _ (c2) rfl ?_
 refine And.intro (show inI .i64 (a.c + b.c) from inI64 (by omega) (by omega)) ?_
 refine PCallQ.sca _ (cf ⟨rfl, rfl, rfl, rfl, trivial⟩ rfl) rfl ?_
 conv => whnf
 refine CallC.sca _ (cm) ?_ ?_
 · exact rfl
 exact And.intro trivial (AVle.refl _)
def winR (x : Sto) (e : En) (a b : Int) (g : Ag) : Ag × Int := if x.has e.key = true then (g.mrg (winV e (x.get e.key).data a b), 0) else (g, 5)
structure WinOK (x : Sto) (e : En) (a b : Int) (g : Ag) : Prop where
 good : goodD e (x.get e.key).data = true
 gk : g.ok = true
 w : (winV e (x.get e.key).data a b).ok = true
 c : g.c + (winV e (x.get e.key).data a b).c ≤ 100000
theorem window_fn (x : Sto) (hs : x.ok = true) (e : En) (a b : Int) (hb : inI .i64 (b - 1)) (g : Ag) (h : x.has e.key = true → WinOK x e a b g) : VFn Tryz.prog 80 [x.av, e.av, .int .i64 a, .int .i64 b, g.av] (.tup [(winR x e a b g).1.av, .int .i64 (winR x e a b g).2]) := by
 have cg := get_fn x hs e.key
 unfold winR
 cases hh : x.has e.key with
 | false =>
   rw [hh, if_neg (by simp)] at cg
   rw [if_neg (by simp)]
   refine VFn.introC Tryz.call80 Tryz.func80 rfl rfl ?_
   conv => whnf
   refine CallC.sca _ (cg) ?_ ?_
   · exact rfl
   exact And.intro trivial (AVle.refl _)
 | true =>
   rw [hh, if_pos rfl] at cg
   rw [if_pos rfl]
   obtain ⟨w1, w2, w3, w4⟩ := h hh
   have hdl : (x.get e.key).data.length ≤ 600 := by
    have := ((stoOK_iff x).1 hs).el _ (has_get hh).1
    exact this.2.2
   have cw := windowG_fn e (x.get e.key).data (by omega) a b hb w1
   have cm := MergeAgg_fn g _ w2 w3 w4
   generalize winV e (x.get e.key).data a b = W at *
   generalize (x.get e.key).data = d at *
   refine VFn.introC Tryz.call80 Tryz.func80 rfl rfl ?_
   conv => whnf
   refine CallC.sca _ (cg) ?_ ?_
   · exact rfl
   conv => whnf
   refine CallC.sca _ (cw) ?_ ?_
   · exact rfl
   conv => whnf
   refine CallC.sca _ (cm) ?_ ?_
   · exact rfl
   exact And.intro trivial (AVle.refl _)
def covL (s : Sta) (k a b : Int) : List En := (ofT s.es k).filter (tch a b)
theorem en_tier0 {e : En} (h : e.ok = true) : 0 ≤ e.tier := by
 simp [En.ok] at h
 have := kT_nat e.key
 omega
theorem tier0 (e : En) : (e.ok && decide (0 ≤ e.tier)) = e.ok := by
 cases h : e.ok
 · rfl
 · rw [decide_eq_true (en_tier0 h)]; rfl
theorem tiered0 (e : En) (hk : e.key.length ≤ 1000000000) : VFn Tryz.prog 42 [.agg [.int .i64 0, .int .i64 0, .int .i64 e.tier, .int .i64 e.f, .int .i64 e.t, .str (B e.key)], .int .i64 0] (.bool e.ok) := by
 have c := l06Tiered_fn ⟨0, 0, e.tier, e.f, e.t, e.key⟩ hk 0
 have h : ((Rc.mk 0 0 e.tier e.f e.t e.key).en.ok && decide ((0 : Int) ≤ (Rc.mk 0 0 e.tier e.f e.t e.key).tier)) = e.ok := tier0 e
 rw [h] at c
 exact c
def Wk.ok2 (w : Wk) : Bool := w.ins.all En.ok && (within w.id 0 9 && (within w.ph 0 7 && (within w.tok (if decide (1 < w.ph) = true then 1 else 0) 999999 && ((!within w.ph 4 6 || (w.job.ok && (decide (w.job.tok = w.tok) && (decide (w.job.k = 3) || (decide (w.ph = 6) && decide (w.job.k = 4)))))) && (w.got.ok && (decide (w.got.c ≤ 1000) && decide ((w.ins.length : Int) ≤ 300)))))))
theorem Wk.ok2_ok (w : Wk) : w.ok2 = w.ok := by
 have e : within w.tok (if decide (1 < w.ph) = true then 1 else 0) 999999 = (within w.tok 0 999999 && !(decide (2 ≤ w.ph) && decide (w.tok = 0))) := by
  rw [Bool.eq_iff_iff]
  simp only [within, Bool.and_eq_true, decide_eq_true_eq, Bool.not_eq_true', Bool.and_eq_false_iff, decide_eq_false_iff_not]
  split <;> omega
 unfold Wk.ok2 Wk.ok gotOK
 rw [e]
 generalize w.ins.all En.ok = a
 generalize within w.id 0 9 = b
 generalize within w.ph 0 7 = c
 generalize within w.tok 0 999999 = d
 generalize (!(decide (2 ≤ w.ph) && decide (w.tok = 0))) = f
 generalize (!within w.ph 4 6 || (w.job.ok && (decide (w.job.tok = w.tok) && (decide (w.job.k = 3) || (decide (w.ph = 6) && decide (w.job.k = 4)))))) = g
 generalize w.got.ok = i
 generalize decide (w.got.c ≤ 1000) = j
 generalize decide ((w.ins.length : Int) ≤ 300) = k
 cases a <;> cases b <;> cases c <;> cases d <;> cases f <;> cases g <;> cases i <;> cases j <;> cases k <;> rfl
theorem all_pre {α : Type} [Inhabited α] {L : List α} {p : α → Bool} (h : ∀ j, j < L.length → p (ix L j) = true) : L.all p = true := List.all_eq_true.2 fun x hx => by
 obtain ⟨j, hj, rfl⟩ := List.getElem_of_mem hx
 have := h j hj
 rwa [ix_lt hj] at this
theorem all_bad {α : Type} [Inhabited α] {L : List α} {p : α → Bool} {j : Nat} (hj : j < L.length) (h : p (ix L j) = false) : L.all p = false := by
 cases hq : L.all p
 · rfl
 · have := List.all_eq_true.1 hq _ (getD_mem hj)
   have this : p (ix L j) = true := this
   rw [h] at this; cases this
theorem specWorkerOK_fn (w : Wk) (h : w.ins.length ≤ 1048576) (hj : w.job.key.length ≤ 1000000000) (hk : ∀ x ∈ w.ins, x.key.length ≤ 1000000000) : VFn Tryz.prog 21 [w.av] (.bool w.ok) := by
 rw [← Wk.ok2_ok]
 refine VFn.introC Tryz.call21 Tryz.func21 rfl rfl ?_
 refine LoopC.mk (fun i : Nat => i ≤ w.ins.length ∧ ∀ j, j < i → En.ok (ix w.ins j) = true) (fun i => [(1, .bptr 0 0), (3, .int .i64 i)]) (fun i => [(0, .box w.row)]) 1 (fun i => w.ins.length - i) 0
  ⟨⟨Nat.zero_le _, fun j hj => absurd hj (Nat.not_lt_zero j)⟩, [(0, 0)], rfl, rfl, ⟨AVle.refl _, AVle.refl _, trivial⟩, ⟨MOle.refl _, trivial⟩⟩ ?_
 intro i hi
 obtain ⟨hi, h0⟩ := hi
 refine Grd.intro (fun g => ?_) (fun g => ?_)
 · have hin : i < w.ins.length := by have := of_decide_eq_true g; omega
   refine And.intro (by omega) ?_
   by_cases ho : En.ok (ix w.ins i) = true
   · have c := tiered0 (ix w.ins i) (hk _ (getD_mem hin))
     rw [ho] at c
     conv => whnf
     refine CallC.sca _ (c) ?_ ?_
     · exact rfl
     refine And.intro (inI64 (by omega) (by omega)) ?_
     exact ⟨i + 1, ⟨hin, fun j hj => by
      rcases Nat.lt_or_ge j i with h' | h'
      · exact h0 j h'
      · rw [show j = i by omega]; exact ho⟩, by omega, [(0, 0)], rfl, rfl, ⟨AVle.refl _, AVle.of_eq (congrArg (AV.int .i64) (by simp)), trivial⟩, ⟨MOle.refl _, trivial⟩⟩
   · have ho : En.ok (ix w.ins i) = false := by simpa using ho
     have c := tiered0 (ix w.ins i) (hk _ (getD_mem hin))
     rw [ho] at c
     conv => whnf
     refine CallC.sca _ (c) ?_ ?_
     · exact rfl
     rw [show w.ok2 = false by unfold Wk.ok2; rw [all_bad hin ho]; rfl]
     exact And.intro trivial (AVle.refl _)
 · have : i = w.ins.length := by have := of_decide_eq_false g; omega
   subst this
   have hall : w.ins.all En.ok = true := all_pre h0
   clear g h0
   conv => whnf
   refine CallC.sca _ (l01In_fn w.ph 4 6) ?_ ?_
   · exact rfl
   refine DrawC.mkQ 69 [] rfl (by kernel_rfl) ?_; refine And.intro (by kernel_rfl) ?_
   repeat' (conv => whnf
            first
             | (refine Grd.intro (fun h => ?_) (fun h => ?_); rotate_left; focus (exfalso; simp_all; done))
             | (refine Grd.intro (fun h => ?_) (fun h => ?_); focus (exfalso; simp_all; done))
             | refine Grd.intro (fun h => ?_) (fun h => ?_)
             | (refine CallC.sca _ (l01In_fn w.id 0 9) ?_ ?_; focus (exact rfl))
             | (refine CallC.sca _ (l01In_fn w.ph 0 7) ?_ ?_; focus (exact rfl))
             | (refine CallC.sca _ (l01Bit_fn _) ?_ ?_; focus (exact rfl))
             | (refine CallC.sca _ (l01In_fn w.tok _ 999999) ?_ ?_; focus (exact rfl))
             | (refine CallC.sca _ (specRecordOK_fn w.job hj) ?_ ?_; focus (exact rfl))
             | (refine CallC.sca _ (specAggOK_fn w.got) ?_ ?_; focus (exact rfl))
             | refine PCallQ.sca _ (l01In_fn w.id 0 9) rfl ?_
             | refine PCallQ.sca _ (l01In_fn w.ph 0 7) rfl ?_
             | refine PCallQ.sca _ (l01Bit_fn _) rfl ?_
             | refine PCallQ.sca _ (l01In_fn w.tok _ 999999) rfl ?_
             | refine PCallQ.sca _ (specRecordOK_fn w.job hj) rfl ?_
             | refine PCallQ.sca _ (specAggOK_fn w.got) rfl ?_
             | (refine And.intro trivial (AVle.of_eq (congrArg AV.bool ?_)); focus (simp_all [Wk.ok2, -List.all_eq_true, -List.all_eq_false]; done))
             | (refine And.intro trivial (AVle.of_eq (congrArg AV.bool ?_)); focus (simp only [Wk.ok2, *, cond_true, cond_false, Bool.true_and, Bool.and_true, Bool.false_and, Bool.and_false, Bool.not_true, Bool.not_false, Bool.true_or, Bool.or_true, Bool.false_or, Bool.or_false, if_true, ite_true, reduceIte]; done))
             | (refine And.intro trivial (AVle.of_eq (congrArg AV.bool ?_)); focus (simp_all [Wk.ok2, -List.all_eq_true, -List.all_eq_false]; intros; omega))
             | fail)
def igOK (id seq f t : Int) (b : List Smp) (put : Bool) : Bool := within id 0 9 && (smpsOK b && (!decide (8 < (b.length : Int)) && (if put = true then decide (0 < (b.length : Int)) && (within seq 1 999999 && (within f 0 (ix b (Int.toNat 0)).t && decide (t = (ix b ((b.length : Int) - 1).toNat).t + 1))) else decide (seq = 0) && (decide (f = 0) && decide (t = 0)))))
def Ig.ok (e : Ig) : Bool := igOK e.id e.seq e.f e.t e.b e.put
def atTier (k : Int) (x : En) : Bool := x.ok && decide (x.tier = k)
def Rr.ok (r : Rr) : Bool := within r.id 0 9 && (within r.ph 0 4 && (within r.tier 0 2 && (isRange r.f r.t && (within r.til 0 200000 && (within r.code 0 19 && (gotOK r.got && (decide ((r.left.length : Int) ≤ 300) && r.left.all (atTier r.tier))))))))
theorem tick_staOK {s : Sta} (h : StaOK s) (hq : s.seq < 999999) : StaOK s.tick :=
 ⟨by have := h.q; exact ⟨show 0 ≤ s.seq + 1 by omega, show s.seq + 1 ≤ 999999 by omega⟩, h.f, h.len, h.es, fun t ht => by have := h.ts t ht; exact ⟨this.1, this.2.1, show t.seq ≤ s.seq + 1 by omega⟩, h.nd, h.lo, h.runs⟩
theorem logN_staOK (x : Sto) : ∀ n : Nat, n ≤ 400 → StaOK (logN x n)
 | 0, _ => staOK0
 | n + 1, hn => by
   have ih := logN_staOK x n (by omega)
   have hs := logN_seq x n
   have hl := logN_len x n
   show StaOK (stepL x (logN x n))
   unfold stepL
   split
   · exact tick_staOK ih (by omega)
   · rename_i r hr
     exact app_staOK ih (readR_ok hr) (by omega) (by omega)
theorem logS_ok (x : Sto) : (logS x).ok = true := (staOK_iff _).2 (logN_staOK x _ (log_b x).2.1)

theorem ag_some {a : Ag} (h : a.some = true) : (1 ≤ a.c ∧ a.c ≤ 100000) ∧ (-1000000 ≤ a.mn ∧ a.mn ≤ 1000000) ∧ (-1000000 ≤ a.mx ∧ a.mx ≤ 1000000) ∧ (a.mn ≤ a.f ∧ a.f ≤ a.mx) ∧ (a.mn ≤ a.l ∧ a.l ≤ a.mx) ∧ (a.c * a.mn ≤ a.s ∧ a.s ≤ a.c * a.mx) := by
 unfold Ag.some at h
 simp only [Bool.and_eq_true, within, decide_eq_true_eq] at h
 obtain ⟨⟨⟨⟨⟨h1, h2⟩, h3⟩, h4⟩, h5⟩, h6⟩ := h
 exact ⟨h1, h2, h3, h4, h5, h6⟩
theorem ag_nul {a : Ag} (h : a.nul = true) : a = default := by
 unfold Ag.nul at h
 simp only [Bool.and_eq_true, decide_eq_true_eq, and_true] at h
 obtain ⟨c, s, mn, mx, f, l⟩ := a
 obtain ⟨rfl, rfl, rfl, rfl, rfl, rfl⟩ := h
 rfl
theorem ag_cases {a : Ag} (h : a.ok = true) : a = default ∨ a.some = true := by
 unfold Ag.ok at h
 rw [Bool.or_eq_true] at h
 exact h.imp ag_nul id
theorem ag_c {a : Ag} (h : a.ok = true) : 0 ≤ a.c ∧ a.c ≤ 100000 ∧ (a.c = 0 → a = default) := by
 rcases ag_cases h with rfl | h
 · exact ⟨Int.le_refl _, by decide, fun _ => rfl⟩
 · have := (ag_some h).1
   exact ⟨by omega, by omega, fun e => by omega⟩
theorem mrg_def (a : Ag) (h : a.c = 0 → a = default) : a.mrg default = a := by
 unfold Ag.mrg
 split
 · rename_i g; exact (h g).symm
 · rw [if_pos (by rfl)]
theorem def_mrg (a : Ag) : Ag.mrg default a = a := by
 unfold Ag.mrg
 rw [if_pos (by rfl)]
theorem mrg_ok {a b : Ag} (ha : a.ok = true) (hb : b.ok = true) (hc : a.c + b.c ≤ 100000) : (a.mrg b).ok = true ∧ (a.mrg b).c = a.c + b.c := by
 rcases ag_cases ha with rfl | h1
 · rw [def_mrg]; exact ⟨hb, (Int.zero_add _).symm⟩
 rcases ag_cases hb with rfl | h2
 · rw [mrg_def a (ag_c ha).2.2]; exact ⟨ha, (Int.add_zero _).symm⟩
 obtain ⟨a1, a2, a3, a4, a5, a6⟩ := ag_some h1
 obtain ⟨b1, b2, b3, b4, b5, b6⟩ := ag_some h2
 unfold Ag.mrg
 rw [if_neg (by omega), if_neg (by omega)]
 refine ⟨?_, rfl⟩
 have hmn : ∃ m, m = (if b.mn < a.mn then b.mn else a.mn) ∧ m ≤ a.mn ∧ m ≤ b.mn ∧ -1000000 ≤ m := ⟨_, rfl, by split <;> omega, by split <;> omega, by split <;> omega⟩
 have hmx : ∃ m, m = (if a.mx < b.mx then b.mx else a.mx) ∧ a.mx ≤ m ∧ b.mx ≤ m ∧ m ≤ 1000000 := ⟨_, rfl, by split <;> omega, by split <;> omega, by split <;> omega⟩
 obtain ⟨m, em, m1, m2, m3⟩ := hmn
 obtain ⟨M, eM, M1, M2, M3⟩ := hmx
 rw [← em, ← eM]
 have p1 : a.c * m ≤ a.c * a.mn := Int.mul_le_mul_of_nonneg_left m1 (by omega)
 have p2 : b.c * m ≤ b.c * b.mn := Int.mul_le_mul_of_nonneg_left m2 (by omega)
 have p3 : a.c * a.mx ≤ a.c * M := Int.mul_le_mul_of_nonneg_left M1 (by omega)
 have p4 : b.c * b.mx ≤ b.c * M := Int.mul_le_mul_of_nonneg_left M2 (by omega)
 have e1 : (a.c + b.c) * m = a.c * m + b.c * m := Int.add_mul _ _ _
 have e2 : (a.c + b.c) * M = a.c * M + b.c * M := Int.add_mul _ _ _
 unfold Ag.ok
 rw [Bool.or_eq_true]
 right
 unfold Ag.some
 simp only [Bool.and_eq_true, within, decide_eq_true_eq]
 rw [e1, e2]
 generalize a.c * m = x1 at *
 generalize b.c * m = x2 at *
 generalize a.c * M = x3 at *
 generalize b.c * M = x4 at *
 generalize a.c * a.mn = x5 at *
 generalize b.c * b.mn = x6 at *
 generalize a.c * a.mx = x7 at *
 generalize b.c * b.mx = x8 at *
 refine ⟨⟨⟨⟨⟨⟨by omega, by omega⟩, by omega, by omega⟩, by omega, by omega⟩, by omega, by omega⟩, by omega, by omega⟩, by omega, by omega⟩
theorem aggL_ok' {L : List Smp} (hl : L.length ≤ 100000) (hv : ∀ e ∈ L, -1000000 ≤ e.v ∧ e.v ≤ 1000000) : (aggL L).ok = true ∧ (aggL L).c = L.length := by
 have := aggL_B (L := L) hl hv L.length (Nat.le_refl _)
 rw [List.take_of_length_le (Nat.le_refl _)] at this
 exact ⟨B_ok this (by omega), this.1⟩
def rd0 (id : Int) : Rr := ⟨id, 0, 0, 0, 0, 0, 0, [], default⟩
end Go.Proofs.YtigbaclopbcjnaaGreatDoor
