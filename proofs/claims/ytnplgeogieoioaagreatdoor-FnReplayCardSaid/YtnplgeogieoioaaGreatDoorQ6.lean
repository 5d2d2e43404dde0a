/- Contracts of functions that the claim reaches, and the plain law of what they compute; each theorem bears its own conditions. -/
import Derived.Test.YtnplgeogieoioaaGreatDoorQ5
import Derived.Test.YtnplgeogieoioaaGreatDoorQ2
import Derived.Test.YtnplgeogieoioaaGreatDoorV52
import Derived.Test.YtnplgeogieoioaaGreatDoorQ3
import Derived.Test.YtnplgeogieoioaaGreatDoorQ1
import Derived.Test.YtnplgeogieoioaaGreatDoorQ4
set_option linter.unusedVariables false
set_option linter.constructorNameAsVariable false
set_option linter.unusedSimpArgs false
set_option maxRecDepth 20000
namespace Go.Proofs.YtnplgeogieoioaaGreatDoor
open Go Go.Vw
theorem l02Number_fn (t : List UInt8) (hl : t.length ≤ 1000000000) : VFn Tryz.prog 208 [.str (B t)] (.tup [.int .i64 (if numOk t = true then atoiV t else 0), .bool (numOk t)]) := by
 have c := l00Number_fn t hl
 by_cases h : numOk t = true
 · rw [h, if_pos rfl] at c ⊢
   obtain ⟨n, e1, e2, h0, h1⟩ := num_of h
   refine VFn.introC Tryz.call208 Tryz.func208 rfl rfl ?_
   conv => whnf
   refine CallC.sca _ (c) ?_ ?_
   · exact rfl
   conv => whnf
   refine CallC.sca _ (digits_fn (atoiV t) (by omega) (by omega)) ?_ ?_
   · exact rfl
   refine And.intro trivial (AVle.of_eq (show AV.tup [.int .i64 (atoiV t), .bool ((B (Lib.itoa (atoiV t))).toList == (B t).toList)] = _ from ?_))
   rw [B_eq, e2, ← e1, decide_eq_true rfl]
 · have h : numOk t = false := by simpa using h
   rw [h, if_neg (by simp)] at c ⊢
   refine VFn.introC Tryz.call208 Tryz.func208 rfl rfl ?_
   conv => whnf
   refine CallC.sca _ (c) ?_ ?_
   · exact rfl
   exact And.intro trivial (AVle.refl _)
theorem l02Numbers_gen (t : List UInt8) (c : UInt8) (m : Nat) (hl : t.length ≤ 1000000) (R : AV) (hy : ∀ N, numsK c m t = some N → R = .tup [ints N, .bool true]) (hn : numsK c m t = none → R = .tup [.any, .bool false]) :
 VFn Tryz.prog 177 [.str (B t), .int .u8 c.toNat, .int .i64 (m : Int)] R := by
 have hcl := cutP_len c t []
 have hpl : ∀ x ∈ cutP c [] t, x.length ≤ t.length := fun x hx => by have := cutP_piece c t [] x hx; simpa using this
 obtain ⟨P, hP⟩ : ∃ P, P = cutP c [] t := ⟨_, rfl⟩
 have hK : numsK c m t = if P.length = m ∧ P.all numOk = true then some (P.map atoiV) else none := by unfold numsK; rw [← hP]
 have cut := l00Cut_fn t c (by omega)
 rw [← hP] at hcl hpl cut
 refine VFn.introC Tryz.call177 Tryz.func177 rfl rfl ?_
 conv => whnf
 refine CallC.nl _ (cut) ?_ ?_
 · exact rfl
 refine LoopC.mk (fun i : Nat => i ≤ P.length ∧ ∀ j, j < i → numOk (ix P j) = true) (fun i => [(2, .int .i64 (m : Int)), (8, txts P), (9, .osl 0), (10, .int .i64 i)])
  (fun i => [(0, .arr 3 1 ((P.take i).map atoiV).length fun j => [.int .i64 (ix ((P.take i).map atoiV) j)])]) 1 (fun i => P.length - i) 0
  ⟨⟨Nat.zero_le _, fun j hj => absurd hj (Nat.not_lt_zero j)⟩, [(0, 0)], rfl, rfl, ⟨AVle.refl _, AVle.refl _, AVle.refl _, AVle.refl _, trivial⟩, ⟨MOle.arr rfl fun i hi => absurd hi (Nat.not_lt_zero i), trivial⟩⟩ ?_
 intro i hi
 obtain ⟨hi, hall⟩ := hi
 refine Grd.intro (fun h2 => ?_) (fun h2 => ?_)
 · have hin : i < P.length := by have := of_decide_eq_true h2; omega
   refine And.intro (by omega) ?_
   conv => whnf
   refine CallC.sca _ (l02Number_fn (ix P i) (by have := hpl _ (getD_mem hin); omega)) ?_ ?_
   · exact rfl
   refine Grd.intro (fun h3 => ?_) (fun h3 => ?_)
   · have h3 : numOk (ix P i) = false := by simpa using (show (!numOk (ix P i)) = true from h3)
     have : ¬ P.all numOk = true := fun h => by rw [List.all_eq_true.1 h _ (getD_mem hin)] at h3; cases h3
     rw [hn (by rw [hK, if_neg (fun h => this h.2)])]
     exact And.intro trivial (AVle.tup (AVsle.cons (AVle.any _) (AVsle.cons (AVle.refl _) AVsle.nil)))
   have h3 : numOk (ix P i) = true := by simpa using (show (!numOk (ix P i)) = false from h3)
   refine And.intro ⟨show (((P.take i).map atoiV).length + 1) * 8 ≤ 140737488355328 by simp; omega, all1 rfl⟩ ?_
   refine And.intro (inI64 (by omega) (by omega)) ?_
   refine ⟨i + 1, ⟨hin, fun j hj => ?_⟩, by omega, [(2, 0)], rfl, rfl, ⟨AVle.refl _, AVle.refl _, AVle.refl _, AVle.of_eq (congrArg (AV.int .i64) (by simp)), trivial⟩, ⟨arr_next (f := fun x => [.int .i64 x]) (map_take_snoc hin) (by rw [h3, if_pos rfl]; rfl), trivial⟩⟩
   rcases Nat.lt_or_ge j i with h' | h'
   · exact hall j h'
   · rw [show j = i by omega]; exact h3
 · have : i = P.length := by have := of_decide_eq_false h2; omega
   subst this
   have hall' : P.all numOk = true := List.all_eq_true.2 fun x hx => by
    obtain ⟨j, hj, q⟩ := List.getElem_of_mem hx
    have := hall j hj
    rw [ix_lt hj, q] at this; exact this
   have e : P.take P.length = P := List.take_of_length_le (Nat.le_refl _)
   have el : ((((P.take P.length).map atoiV).length : Nat) : Int) = P.length := by rw [e, List.length_map]
   by_cases hm : P.length = m
   · rw [hy _ (by rw [hK, if_pos ⟨hm, hall'⟩])]
     exact And.intro trivial (AVle.tup (AVsle.cons (AVle.of_eq (congrArg ints (congrArg (List.map atoiV) e))) (AVsle.cons (AVle.of_eq (congrArg AV.bool (decide_eq_true (el.trans (by omega))))) AVsle.nil)))
   · rw [hn (by rw [hK, if_neg (fun h => hm h.1)])]
     exact And.intro trivial (AVle.tup (AVsle.cons (AVle.any _) (AVsle.cons (AVle.of_eq (congrArg AV.bool (decide_eq_false (fun h => hm (by have h := el.symm.trans h; omega))))) AVsle.nil)))
theorem get_ok (s : Sto) (hs : s.ok = true) (k : List UInt8) (h : s.has k = true) : (s.get k).data.length ≤ 600 ∧ 1 ≤ (s.get k).ver ∧ (s.get k).ver ≤ 1000000000 := by
 have h1 : s.eOK (s.pos k) = true := (Sto.ok_at hs).2.2 _ (hasK_at h).1
 have h2 := (Sto.ok_at hs).1
 simp [within] at h2
 simp [Sto.eOK, within] at h1
 unfold Sto.get
 omega





structure Src where
 code : List UInt8
 at_ : Int
 seed : Int
abbrev byts (L : List UInt8) : AV := .sl 1 L.length fun i => [.int .u8 ((ix L i).toNat : Int)]
def Src.row (s : Src) : List AV := [byts s.code, .int .i64 s.at_, .int .i64 s.seed]
def Src.ok (s : Src) (k : Int) : Prop := (0 ≤ s.at_ ∧ s.at_ ≤ k) ∧ (0 ≤ s.seed ∧ s.seed < 2147483648) ∧ s.code.length ≤ 1000000000
def Src.chr (s : Src) : Int := (ix s.code (s.at_ + 1 - 1).toNat).toNat
def Src.sd (s : Src) : Int := (s.seed * 1103515245 + 12345).tmod 2147483648
def Src.byte (s : Src) : Int × Src :=
 if s.at_ + 1 ≤ s.code.length then (s.chr, { s with at_ := s.at_ + 1, seed := (s.seed * 31 + s.chr + 7).tmod 2147483648 })
 else if 3000 < s.at_ + 1 then (0, { s with at_ := s.at_ + 1 })
 else ((s.sd.tdiv 65536).tmod 256, { s with at_ := s.at_ + 1, seed := s.sd })
theorem tmod_b {n m : Int} (h : 0 ≤ n) (hm : 0 < m) : 0 ≤ n.tmod m ∧ n.tmod m < m := by
 rw [Int.tmod_eq_emod_of_nonneg h]
 exact ⟨Int.emod_nonneg _ (by omega), Int.emod_lt_of_pos _ hm⟩
theorem tdiv_b {n : Int} {m : Int} (h : 0 ≤ n) (hm : 0 < m) : 0 ≤ n.tdiv m ∧ n.tdiv m ≤ n := by
 rw [Int.tdiv_eq_ediv_of_nonneg h]
 exact ⟨Int.ediv_nonneg h (by omega), Int.ediv_le_self _ h⟩
theorem chr_b (s : Src) : 0 ≤ s.chr ∧ s.chr ≤ 255 := by
 unfold Src.chr
 have := (ix s.code (s.at_ + 1 - 1).toNat).toNat_lt
 omega
theorem byte_b (s : Src) {k : Int} (h : s.ok k) : (0 ≤ s.byte.1 ∧ s.byte.1 ≤ 255) ∧ s.byte.2.ok (k + 1) ∧ s.byte.2.code = s.code := by
 obtain ⟨⟨a0, a1⟩, ⟨s0, s1⟩, hc⟩ := h
 have hch := chr_b s
 have hsd := tmod_b (n := s.seed * 1103515245 + 12345) (m := 2147483648) (by omega) (by omega)
 unfold Src.byte
 split
 · refine ⟨hch, ⟨⟨by simp only; omega, by simp only; omega⟩, ?_, hc⟩, rfl⟩
   exact tmod_b (by omega) (by omega)
 · split
   · exact ⟨by simp, ⟨⟨by simp only; omega, by simp only; omega⟩, ⟨s0, s1⟩, hc⟩, rfl⟩
   · refine ⟨?_, ⟨⟨by simp only; omega, by simp only; omega⟩, hsd, hc⟩, rfl⟩
     have h1 := tdiv_b (n := s.sd) (m := 65536) hsd.1 (by omega)
     have h2 := tmod_b (n := s.sd.tdiv 65536) (m := 256) h1.1 (by omega)
     simp only; omega
theorem byte_fn (s : Src) (h : s.ok 1000000000) : FnM Tryz.prog 166 1 [.bptr 0 0] [(0, .box s.row)] (.int .i64 s.byte.1) [(0, .box s.byte.2.row)] 1 := by
 have h' := h
 obtain ⟨⟨a0, a1⟩, ⟨s0, s1⟩, hc⟩ := h
 have hch := chr_b s
 have hsd := tmod_b (n := s.seed * 1103515245 + 12345) (m := 2147483648) (by omega) (by omega)
 obtain ⟨R, hR⟩ : ∃ R, R = s.byte := ⟨_, rfl⟩
 rw [← hR]
 refine FnM.introC Tryz.call166 Tryz.func166 rfl rfl ?_
 refine And.intro (inI64 (by omega) (by omega)) ?_
 refine DrawC.mq 10 rfl (by kernel_rfl) ?_
 refine Grd.intro (fun g1 => ?_) (fun g1 => ?_)
 · have g1 : s.at_ + 1 ≤ s.code.length := of_decide_eq_true g1
   have hR' : R = (s.chr, { s with at_ := s.at_ + 1, seed := (s.seed * 31 + s.chr + 7).tmod 2147483648 }) := by rw [hR, Src.byte, if_pos g1]
   refine DrawC.mq 23 rfl (by kernel_rfl) ?_
   refine And.intro (inI64 (by omega) (by omega)) ?_
   refine And.intro (inI64 (by omega) (by omega)) ?_
   refine And.intro ⟨by omega, by omega⟩ ?_
   refine And.intro (show inI .i64 s.chr from inI64 (by omega) (by omega)) ?_
   refine And.intro (show inI .i64 (s.seed * 31 + s.chr) from inI64 (by omega) (by omega)) ?_
   refine And.intro (show inI .i64 (s.seed * 31 + s.chr + 7) from inI64 (by omega) (by omega)) ?_
   refine And.intro (by decide) ?_
   refine DrawC.mq 13 rfl (by kernel_rfl) ?_
   refine And.intro (inI64 (by omega) (by omega)) ?_
   refine And.intro ⟨by omega, by omega⟩ ?_
   refine And.intro (show inI .i64 s.chr from inI64 (by omega) (by omega)) ?_
   subst hR'
   exact And.intro trivial ⟨[(0, 0)], rfl, AVle.refl _, ⟨MOle.refl _, trivial⟩⟩
 · have g1 : ¬ s.at_ + 1 ≤ s.code.length := of_decide_eq_false g1
   refine Grd.intro (fun g2 => ?_) (fun g2 => ?_)
   · have g2 : 3000 < s.at_ + 1 := of_decide_eq_true g2
     have hR' : R = (0, { s with at_ := s.at_ + 1 }) := by rw [hR, Src.byte, if_neg g1, if_pos g2]
     subst hR'
     exact And.intro trivial ⟨[(0, 0)], rfl, AVle.refl _, ⟨MOle.refl _, trivial⟩⟩
   · have g2 : ¬ 3000 < s.at_ + 1 := of_decide_eq_false g2
     have hR' : R = ((s.sd.tdiv 65536).tmod 256, { s with at_ := s.at_ + 1, seed := s.sd }) := by rw [hR, Src.byte, if_neg g1, if_neg g2]
     refine And.intro (inI64 (by omega) (by omega)) ?_
     refine And.intro (inI64 (by omega) (by omega)) ?_
     refine And.intro (by decide) ?_
     have h1 := tdiv_b (n := s.sd) (m := 65536) hsd.1 (by omega)
     have hsd' : 0 ≤ s.sd ∧ s.sd < 2147483648 := hsd
     refine And.intro ⟨by decide, show inI .i64 (s.sd.tdiv 65536) from inI64 (by omega) (by omega)⟩ ?_
     refine And.intro (by decide) ?_
     subst hR'
     exact And.intro trivial ⟨[(0, 0)], rfl, AVle.refl _, ⟨MOle.refl _, trivial⟩⟩
def Src.next (s : Src) (n : Int) : Int × Src :=
 if n ≤ 1 then (0, s)
 else if n ≤ 256 then (s.byte.1.tmod n, s.byte.2)
 else ((s.byte.1 * 65536 + s.byte.2.byte.1 * 256 + s.byte.2.byte.2.byte.1).tmod n, s.byte.2.byte.2.byte.2)
theorem next_b (s : Src) {k : Int} (h : s.ok k) (hk : 0 ≤ k) (n : Int) : (0 ≤ (s.next n).1 ∧ (1 ≤ n → (s.next n).1 < n)) ∧ (s.next n).2.ok (k + 3) ∧ (s.next n).2.code = s.code := by
 have h1 := byte_b s h
 have h2 := byte_b s.byte.2 h1.2.1
 have h3 := byte_b s.byte.2.byte.2 h2.2.1
 have w : ∀ (x : Src) (a b : Int), x.ok a → a ≤ b → x.ok b := fun x a b hx hab => ⟨⟨hx.1.1, by have := hx.1.2; omega⟩, hx.2⟩
 unfold Src.next
 split
 · exact ⟨⟨by simp, fun _ => by simp only; omega⟩, w s k _ h (by omega), rfl⟩
 · split
   · have := tmod_b (n := s.byte.1) (m := n) h1.1.1 (by omega)
     exact ⟨⟨this.1, fun _ => this.2⟩, w _ _ _ h1.2.1 (by omega), h1.2.2⟩
   · have := tmod_b (n := s.byte.1 * 65536 + s.byte.2.byte.1 * 256 + s.byte.2.byte.2.byte.1) (m := n) (by omega) (by omega)
     exact ⟨⟨this.1, fun _ => this.2⟩, w _ _ _ h3.2.1 (by omega), h3.2.2.trans (h2.2.2.trans h1.2.2)⟩
theorem next_fn (s : Src) (n : Int) (h : s.ok 100000000) : FnM Tryz.prog 97 1 [.bptr 0 0, .int .i64 n] [(0, .box s.row)] (.int .i64 (s.next n).1) [(0, .box (s.next n).2.row)] 1 := by
 have h1 := byte_b s h
 have h2 := byte_b s.byte.2 h1.2.1
 have h3 := byte_b s.byte.2.byte.2 h2.2.1
 have w : ∀ (x : Src) (a : Int), x.ok a → a ≤ 1000000000 → x.ok 1000000000 := fun x a hx hab => ⟨⟨hx.1.1, by have := hx.1.2; omega⟩, hx.2⟩
 obtain ⟨R, hR⟩ : ∃ R, R = s.next n := ⟨_, rfl⟩
 rw [← hR]
 refine FnM.introC Tryz.call97 Tryz.func97 rfl rfl ?_
 refine Grd.intro (fun g1 => ?_) (fun g1 => ?_)
 · have g1 : n ≤ 1 := of_decide_eq_true g1
   rw [Src.next, if_pos g1] at hR
   subst hR
   exact And.intro trivial ⟨[(0, 0)], rfl, AVle.refl _, ⟨MOle.refl _, trivial⟩⟩
 have g1 : ¬ n ≤ 1 := of_decide_eq_false g1
 refine Grd.intro (fun g2 => ?_) (fun g2 => ?_)
 · have g2 : n ≤ 256 := of_decide_eq_true g2
   rw [Src.next, if_neg g1, if_pos g2] at hR
   conv => whnf
   refine CallC.k [(0, 0)] (byte_fn s (w _ _ h (by omega))) rfl rfl (AVsle.refl _) ⟨MOle.refl _, trivial⟩ rfl ?_
   refine And.intro (show n ≠ 0 by omega) ?_
   subst hR
   exact And.intro trivial ⟨[(0, 0)], rfl, AVle.refl _, ⟨MOle.refl _, trivial⟩⟩
 have g2 : ¬ n ≤ 256 := of_decide_eq_false g2
 rw [Src.next, if_neg g1, if_neg g2] at hR
 conv => whnf
 refine CallC.k [(0, 0)] (byte_fn s (w _ _ h (by omega))) rfl rfl (AVsle.refl _) ⟨MOle.refl _, trivial⟩ rfl ?_
 conv => whnf
 refine CallC.k [(0, 0)] (byte_fn s.byte.2 (w _ _ h1.2.1 (by omega))) rfl rfl (AVsle.refl _) ⟨MOle.refl _, trivial⟩ rfl ?_
 conv => whnf
 refine CallC.k [(0, 0)] (byte_fn s.byte.2.byte.2 (w _ _ h2.2.1 (by omega))) rfl rfl (AVsle.refl _) ⟨MOle.refl _, trivial⟩ rfl ?_
 refine And.intro (inI64 (by omega) (by omega)) ?_
 refine And.intro (inI64 (by omega) (by omega)) ?_
 refine And.intro (inI64 (by omega) (by omega)) ?_
 refine And.intro (inI64 (by omega) (by omega)) ?_
 refine And.intro (show n ≠ 0 by omega) ?_
 subst hR
 exact And.intro trivial ⟨[(0, 0)], rfl, AVle.refl _, ⟨MOle.refl _, trivial⟩⟩
theorem wk {x : Src} {a b : Int} (hx : x.ok a) (h : a ≤ b) : x.ok b := ⟨⟨hx.1.1, by have := hx.1.2; omega⟩, hx.2⟩
def Ag.mrg (a b : Ag) : Ag := if a.c = 0 then b else if b.c = 0 then a else ⟨a.c + b.c, a.s + b.s, if b.mn < a.mn then b.mn else a.mn, if a.mx < b.mx then b.mx else a.mx, a.f, b.l⟩
def one (v : Int) : Ag := ⟨1, v, v, v, v, v⟩
def aggL (L : List Smp) : Ag := L.foldl (fun a s => a.mrg (one s.v)) default
def smpsIn (L : List Smp) (a b : Int) : List Smp := L.filter fun e => within e.t a (b - 1)
def srcOf (code : List UInt8) : Src := ⟨code, 0, (code.length : Int).tmod 1000⟩
theorem src_ok (code : List UInt8) (h : code.length ≤ 1048576) : (srcOf code).ok 0 := by
 have := tmod_b (n := (code.length : Int)) (m := 1000) (by omega) (by omega)
 exact ⟨⟨by simp [srcOf], by simp [srcOf]⟩, ⟨this.1, by have := this.2; simp only [srcOf]; omega⟩, by simp only [srcOf]; omega⟩
theorem l00Source_fn (code : List UInt8) (h : code.length ≤ 1048576) : FnM Tryz.prog 36 0 [byts code] [] (.bptr 0 0) [(0, .box (srcOf code).row)] 1 := by
 refine FnM.introC Tryz.call36 Tryz.func36 rfl rfl ?_
 refine And.intro (by decide) ?_
 exact And.intro trivial ⟨[(0, 0)], rfl, AVle.refl _, ⟨MOle.refl _, trivial⟩⟩
theorem put_ok {s : Sto} {k d : List UInt8} (hs : s.ok = true) (hk : keyOK k = true) (hd : d.length ≤ 600) (h1 : s.os.length < 300) (h2 : s.next < 1000000000) :
 s.room k d = 0 ∧ s.put k d = s.set k d ∧ (s.put k d).ok = true ∧ (s.put k d).next = s.next + 1 ∧ (s.put k d).os.length ≤ s.os.length + 1 := by
 have hr := room_yes (s := s) (k := k) (d := d) hd h1 h2
 have e : s.put k d = s.set k d := by unfold Sto.put; rw [if_pos hr]
 rw [e]
 exact ⟨hr, rfl, set_ok hs hk hr, rfl, set_len_le _ _ _⟩
def stoN0 : Sto := ⟨[], 1⟩
theorem filter_snoc {α : Type} [Inhabited α] {L : List α} {p : α → Bool} {i : Nat} (h : i < L.length) : (L.take (i + 1)).filter p = if p (ix L i) = true then (L.take i).filter p ++ [ix L i] else (L.take i).filter p := by
 rw [take_snoc h, List.filter_append]
 by_cases hp : p (ix L i) = true
 · rw [if_pos hp]; simp [hp]
 · rw [if_neg hp]; simp [hp]
def kept {α : Type} (p : α → Bool) (L : List α) (j : Nat) : List α := ((L.take j).filter fun e => !p e) ++ L.drop ((L.take j).filter fun e => !p e).length
theorem kept_at {α : Type} [Inhabited α] {L : List α} {p : α → Bool} {j : Nat} (h : j < L.length) (hk : ((L.take j).filter fun e => !p e).length ≤ j) : ix (kept p L j) j = ix L j := by
 unfold kept
 rw [ix_app_r hk, ix_drop]
 congr 1; omega
theorem kept_next {α : Type} [Inhabited α] {L : List α} {p : α → Bool} {j : Nat} (h : j < L.length) (hp : p (ix L j) = false) (hk : ((L.take j).filter fun e => !p e).length < j) : ∀ k, k < L.length → ix (kept p L (j + 1)) k = if k = ((L.take j).filter fun e => !p e).length then ix L j else ix (kept p L j) k := by
 intro k hkL
 have hsn := filter_snoc (p := fun e => !p e) h
 rw [if_pos (by rw [hp]; rfl)] at hsn
 unfold kept
 rw [hsn]
 generalize (L.take j).filter (fun e => !p e) = K at hk
 have e1 : (K ++ [ix L j]).length = K.length + 1 := by simp
 split
 · rename_i hc
   subst hc
   rw [ix_app_l (by omega), ix_app_r (Nat.le_refl _), Nat.sub_self]; rfl
 · rename_i hc
   rcases Nat.lt_or_ge k K.length with h1 | h1
   · rw [ix_app_l (by omega), ix_app_l h1, ix_app_l h1]
   · rw [ix_app_r (by omega), ix_app_r h1, ix_drop, ix_drop, e1]
     congr 1; omega
theorem filter_lt {α : Type} [Inhabited α] {L : List α} {p : α → Bool} {i j : Nat} (hij : i < j) (hj : j ≤ L.length) (h : p (ix L i) = false) : ((L.take j).filter p).length < j := by
 have hi : i < L.length := by omega
 have e : L.take j = L.take i ++ (ix L i :: (L.drop (i + 1)).take (j - (i + 1))) := by
  have h1 : L = L.take i ++ (ix L i :: L.drop (i + 1)) := by rw [ix_lt hi]; simp
  have h2 := congrArg (List.take j) h1
  rw [h2, List.take_append, List.take_of_length_le (by simp; omega)]
  congr 1
  have : j - (L.take i).length = (j - (i + 1)) + 1 := by simp; omega
  rw [this, List.take_succ_cons]
 rw [e, List.filter_append, List.filter_cons_of_neg (by rw [h]; simp), List.length_append]
 have a := List.length_filter_le p (L.take i)
 have b := List.length_filter_le p ((L.drop (i + 1)).take (j - (i + 1)))
 simp only [List.length_take, List.length_drop] at a b
 omega
theorem DelEn_some (L : List En) (hL : L.length ≤ 1000000) (F : Nat) (row : List AV) (p : En → Bool) (hp : ∀ e ∈ L, VFn Tryz.prog F [e.av, .eptr row 0] (.bool (p e))) (hs : L.any p = true) :
 FnM Tryz.prog 155 1 [.osl 0, .fn (.func F) [] [.eptr row 0]] [(0, .arr 116 4 L.length fun i => (ix L i).row)] (.osl 1) [(1, .arr 116 4 (L.filter fun e => !p e).length fun i => (ix (L.filter fun e => !p e) i).row)] 2 := by
 have c := IndexEn_1 L (by omega) F row p hp
 obtain ⟨i0, hi0, hfi, hp0⟩ : ∃ i0 : Nat, i0 < L.length ∧ fi p L = (i0 : Int) ∧ p (ix L i0) = true ∧ ∀ j, j < i0 → p (ix L j) = false := by
  rcases fi_first p L with ⟨h, _⟩ | h
  · have := fi_any (p := p) (L := L)
    rw [h, hs] at this; simp at this
  · exact h
 rw [hfi] at c
 have hk0 : (L.take (i0 + 1)).filter (fun e => !p e) = L.take i0 := by
  rw [filter_snoc hi0, if_neg (by rw [hp0.1]; simp)]
  exact List.filter_eq_self.2 fun x hx => by
   obtain ⟨j, hj, rfl⟩ := List.getElem_of_mem hx
   have hj' : j < i0 := by simp at hj; omega
   have := hp0.2 j hj'
   rw [ix_lt (by omega)] at this
   simp [this]
 have hlt : ∀ j, i0 < j → j ≤ L.length → ((L.take j).filter fun e => !p e).length < j := fun j h1 h2 => filter_lt h1 h2 (by rw [hp0.1]; rfl)
 refine FnM.introC Tryz.call155 Tryz.func155 rfl rfl ?_
 conv => whnf
 refine CallC.sca _ (c) ?_ ?_
 · exact rfl
 refine And.intro (inI64 (by omega) (by omega)) ?_
 refine LoopC.mk (fun j : Nat => i0 < j ∧ j ≤ L.length) (fun j => [(0, .osl 0), (1, .fn (.func F) [] [.eptr row 0]), (5, .int .i64 ((L.take j).filter fun e => !p e).length), (6, .int .i64 j)])
  (fun j => [(0, .arr 116 4 L.length fun i => (ix (kept p L j) i).row)]) 1 (fun j => L.length - j) (i0 + 1)
  ⟨⟨by omega, hi0⟩, [(0, 0)], rfl, rfl, ⟨AVle.refl _, AVle.refl _, AVle.of_eq (congrArg (AV.int .i64) (by rw [hk0]; simp; omega)), AVle.of_eq (congrArg (AV.int .i64) (by simp)), trivial⟩, ⟨MOle.arr rfl fun i hi => by
    have e : kept p L (i0 + 1) = L := by unfold kept; rw [hk0]; simp only [List.length_take]; rw [Nat.min_eq_left (by omega)]; simp
    rw [e], trivial⟩⟩ ?_
 intro j hj
 obtain ⟨hj1, hj2⟩ := hj
 have hkl := hlt j hj1 hj2
 refine Grd.intro (fun h2 => ?_) (fun h2 => ?_)
 · have hjn : j < L.length := by have := of_decide_eq_true h2; omega
   have hsn := filter_snoc (p := fun e => !p e) hjn
   have e := kept_at (p := p) hjn (Nat.le_of_lt hkl)
   have cp := hp (ix L j) (getD_mem hjn)
   rw [← e] at cp
   refine And.intro (by omega) ?_
   conv => whnf
   refine CallC.sca _ (cp) ?_ ?_
   · exact rfl
   refine Grd.intro (fun h3 => ?_) (fun h3 => ?_)
   · have h3 : p (ix L j) = false := by rw [e] at h3; simpa using h3
     rw [h3] at hsn
     have hl := hlt (j + 1) (by omega) hjn
     rw [hsn] at hl
     simp at hl
     refine And.intro (by omega) ?_
     refine And.intro (inI64 (by omega) (by omega)) ?_
     refine And.intro (inI64 (by omega) (by omega)) ?_
     refine ⟨j + 1, ⟨by omega, hjn⟩, by omega, [(0, 0)], rfl, rfl, ⟨AVle.refl _, AVle.refl _, AVle.of_eq (congrArg (AV.int .i64) (by rw [hsn]; simp)), AVle.of_eq (congrArg (AV.int .i64) (by simp)), trivial⟩, ⟨MOle.arr rfl fun k hk => ?_, trivial⟩⟩
     have en := kept_next hjn h3 hkl k hk
     by_cases hkc : k = ((L.take j).filter fun e => !p e).length
     · rw [en, if_pos hkc, ← e]
       show (bif Nat.beq k ((L.take j).filter fun e => !p e).length then _ else _) = _
       rw [hkc, beq_t]; rfl
     · rw [en, if_neg hkc]
       show (bif Nat.beq k ((L.take j).filter fun e => !p e).length then _ else _) = _
       rw [beq_f hkc]; rfl
   · have h3 : p (ix L j) = true := by rw [e] at h3; simpa using h3
     rw [h3] at hsn
     refine And.intro (inI64 (by omega) (by omega)) ?_
     refine ⟨j + 1, ⟨by omega, hjn⟩, by omega, [(0, 0)], rfl, rfl, ⟨AVle.refl _, AVle.refl _, AVle.of_eq (congrArg (AV.int .i64) (by rw [hsn]; simp)), AVle.of_eq (congrArg (AV.int .i64) (by simp)), trivial⟩, ⟨MOle.arr rfl fun k hk => ?_, trivial⟩⟩
     have e2 : kept p L (j + 1) = kept p L j := by unfold kept; rw [hsn]; simp
     rw [e2]
 · have : j = L.length := by have := of_decide_eq_false h2; omega
   subst this
   have eT : L.take L.length = L := List.take_of_length_le (Nat.le_refl _)
   obtain ⟨c, hc⟩ : ∃ c, c = ((L.take L.length).filter fun e => !p e).length := ⟨_, rfl⟩
   have hk : ∀ k, k < c → ix (kept p L L.length) k = ix (L.filter fun e => !p e) k := fun k hk => by
    unfold kept
    rw [ix_app_l (by omega), eT]
   have hcl : c = (L.filter fun e => !p e).length := by rw [hc, eT]
   rw [← hc] at hkl
   rw [← hc]
   refine And.intro ⟨by omega, by omega⟩ ?_
   conv => whnf
   refine OpC.clear rfl rfl rfl rfl rfl rfl rfl (by show 1 ≤ L.length - ((c : Int)).toNat; omega) ?_
   conv => whnf
   refine OpC.head rfl rfl rfl rfl rfl rfl rfl ⟨by omega, by omega⟩ ?_
   refine And.intro trivial ⟨[(0, 0), (1, 1)], rfl, AVle.refl _, ⟨MOle.arr (by show ((c : Int)).toNat = _; omega) fun k hk' => ?_, trivial⟩⟩
   have hk' : k < c := by have : k < ((c : Int)).toNat := hk'; omega
   rw [← hk k hk']
   show (bif Nat.blt k ((c : Int)).toNat then _ else _) = _
   rw [blt_t (show k < ((c : Int)).toNat by omega)]; rfl
theorem DelTb_some (L : List Tb) (hL : L.length ≤ 1000000) (F : Nat) (row : List AV) (p : Tb → Bool) (hp : ∀ e ∈ L, VFn Tryz.prog F [e.av, .eptr row 0] (.bool (p e))) (hs : L.any p = true) :
 FnM Tryz.prog 157 1 [.osl 0, .fn (.func F) [] [.eptr row 0]] [(0, .arr 123 2 L.length fun i => (ix L i).row)] (.osl 1) [(1, .arr 123 2 (L.filter fun e => !p e).length fun i => (ix (L.filter fun e => !p e) i).row)] 2 := by
 have c := IndexTb_1 L (by omega) F row p hp
 obtain ⟨i0, hi0, hfi, hp0⟩ : ∃ i0 : Nat, i0 < L.length ∧ fi p L = (i0 : Int) ∧ p (ix L i0) = true ∧ ∀ j, j < i0 → p (ix L j) = false := by
  rcases fi_first p L with ⟨h, _⟩ | h
  · have := fi_any (p := p) (L := L)
    rw [h, hs] at this; simp at this
  · exact h
 rw [hfi] at c
 have hk0 : (L.take (i0 + 1)).filter (fun e => !p e) = L.take i0 := by
  rw [filter_snoc hi0, if_neg (by rw [hp0.1]; simp)]
  exact List.filter_eq_self.2 fun x hx => by
   obtain ⟨j, hj, rfl⟩ := List.getElem_of_mem hx
   have hj' : j < i0 := by simp at hj; omega
   have := hp0.2 j hj'
   rw [ix_lt (by omega)] at this
   simp [this]
 have hlt : ∀ j, i0 < j → j ≤ L.length → ((L.take j).filter fun e => !p e).length < j := fun j h1 h2 => filter_lt h1 h2 (by rw [hp0.1]; rfl)
 refine FnM.introC Tryz.call157 Tryz.func157 rfl rfl ?_
 conv => whnf
 refine CallC.sca _ (c) ?_ ?_
 · exact rfl
 refine And.intro (inI64 (by omega) (by omega)) ?_
 refine LoopC.mk (fun j : Nat => i0 < j ∧ j ≤ L.length) (fun j => [(0, .osl 0), (1, .fn (.func F) [] [.eptr row 0]), (5, .int .i64 ((L.take j).filter fun e => !p e).length), (6, .int .i64 j)])
  (fun j => [(0, .arr 123 2 L.length fun i => (ix (kept p L j) i).row)]) 1 (fun j => L.length - j) (i0 + 1)
  ⟨⟨by omega, hi0⟩, [(0, 0)], rfl, rfl, ⟨AVle.refl _, AVle.refl _, AVle.of_eq (congrArg (AV.int .i64) (by rw [hk0]; simp; omega)), AVle.of_eq (congrArg (AV.int .i64) (by simp)), trivial⟩, ⟨MOle.arr rfl fun i hi => by
    have e : kept p L (i0 + 1) = L := by unfold kept; rw [hk0]; simp only [List.length_take]; rw [Nat.min_eq_left (by omega)]; simp
    rw [e], trivial⟩⟩ ?_
 intro j hj
 obtain ⟨hj1, hj2⟩ := hj
 have hkl := hlt j hj1 hj2
 refine Grd.intro (fun h2 => ?_) (fun h2 => ?_)
 · have hjn : j < L.length := by have := of_decide_eq_true h2; omega
   have hsn := filter_snoc (p := fun e => !p e) hjn
   have e := kept_at (p := p) hjn (Nat.le_of_lt hkl)
   have cp := hp (ix L j) (getD_mem hjn)
   rw [← e] at cp
   refine And.intro (by omega) ?_
   conv => whnf
   refine CallC.sca _ (cp) ?_ ?_
   · exact rfl
   refine Grd.intro (fun h3 => ?_) (fun h3 => ?_)
   · have h3 : p (ix L j) = false := by rw [e] at h3; simpa using h3
     rw [h3] at hsn
     have hl := hlt (j + 1) (by omega) hjn
     rw [hsn] at hl
     simp at hl
     refine And.intro (by omega) ?_
     refine And.intro (inI64 (by omega) (by omega)) ?_
     refine And.intro (inI64 (by omega) (by omega)) ?_
     refine ⟨j + 1, ⟨by omega, hjn⟩, by omega, [(0, 0)], rfl, rfl, ⟨AVle.refl _, AVle.refl _, AVle.of_eq (congrArg (AV.int .i64) (by rw [hsn]; simp)), AVle.of_eq (congrArg (AV.int .i64) (by simp)), trivial⟩, ⟨MOle.arr rfl fun k hk => ?_, trivial⟩⟩
     have en := kept_next hjn h3 hkl k hk
     by_cases hkc : k = ((L.take j).filter fun e => !p e).length
     · rw [en, if_pos hkc, ← e]
       show (bif Nat.beq k ((L.take j).filter fun e => !p e).length then _ else _) = _
       rw [hkc, beq_t]; rfl
     · rw [en, if_neg hkc]
       show (bif Nat.beq k ((L.take j).filter fun e => !p e).length then _ else _) = _
       rw [beq_f hkc]; rfl
   · have h3 : p (ix L j) = true := by rw [e] at h3; simpa using h3
     rw [h3] at hsn
     refine And.intro (inI64 (by omega) (by omega)) ?_
     refine ⟨j + 1, ⟨by omega, hjn⟩, by omega, [(0, 0)], rfl, rfl, ⟨AVle.refl _, AVle.refl _, AVle.of_eq (congrArg (AV.int .i64) (by rw [hsn]; simp)), AVle.of_eq (congrArg (AV.int .i64) (by simp)), trivial⟩, ⟨MOle.arr rfl fun k hk => ?_, trivial⟩⟩
     have e2 : kept p L (j + 1) = kept p L j := by unfold kept; rw [hsn]; simp
     rw [e2]
 · have : j = L.length := by have := of_decide_eq_false h2; omega
   subst this
   have eT : L.take L.length = L := List.take_of_length_le (Nat.le_refl _)
   obtain ⟨c, hc⟩ : ∃ c, c = ((L.take L.length).filter fun e => !p e).length := ⟨_, rfl⟩
   have hk : ∀ k, k < c → ix (kept p L L.length) k = ix (L.filter fun e => !p e) k := fun k hk => by
    unfold kept
    rw [ix_app_l (by omega), eT]
   have hcl : c = (L.filter fun e => !p e).length := by rw [hc, eT]
   rw [← hc] at hkl
   rw [← hc]
   refine And.intro ⟨by omega, by omega⟩ ?_
   conv => whnf
   refine OpC.clear rfl rfl rfl rfl rfl rfl rfl (by show 1 ≤ L.length - ((c : Int)).toNat; omega) ?_
   conv => whnf
   refine OpC.head rfl rfl rfl rfl rfl rfl rfl ⟨by omega, by omega⟩ ?_
   refine And.intro trivial ⟨[(0, 0), (1, 1)], rfl, AVle.refl _, ⟨MOle.arr (by show ((c : Int)).toNat = _; omega) fun k hk' => ?_, trivial⟩⟩
   have hk' : k < c := by have : k < ((c : Int)).toNat := hk'; omega
   rw [← hk k hk']
   show (bif Nat.blt k ((c : Int)).toNat then _ else _) = _
   rw [blt_t (show k < ((c : Int)).toNat by omega)]; rfl


theorem chance_fn (s : Src) (n : Int) (h : s.ok 100000000) (hn : -1000000 ≤ n ∧ n ≤ 1000000) : FnM Tryz.prog 121 1 [.bptr 0 0, .int .i64 n] [(0, .box s.row)] (.bool (decide ((s.next n).1 = n - 1))) [(0, .box (s.next n).2.row)] 1 := by
 refine FnM.introC Tryz.call121 Tryz.func121 rfl rfl ?_
 conv => whnf
 refine CallC.k [(0, 0)] (next_fn s n h) rfl rfl (AVsle.refl _) ⟨MOle.refl _, trivial⟩ rfl ?_
 refine And.intro (inI64 (by omega) (by omega)) ?_
 exact And.intro trivial ⟨[(0, 0)], rfl, AVle.refl _, ⟨MOle.refl _, trivial⟩⟩
theorem pick_fn (s : Src) (L : List (List UInt8)) (h : s.ok 100000000) (h0 : 0 < L.length) (h1 : L.length ≤ 1000) : FnM Tryz.prog 122 2 [.bptr 0 0, .osl 1] [(0, .box s.row), (1, .arr 9 1 L.length fun i => [.str (B (ix L i))])] (.str (B (ix L (s.next L.length).1.toNat))) [(0, .box (s.next L.length).2.row), (1, .arr 9 1 L.length fun i => [.str (B (ix L i))])] 2 := by
 have n1 := next_b s (k := 100000000) h (by omega) L.length
 have n2 := n1.1.2 (by omega)
 refine FnM.introC Tryz.call122 Tryz.func122 rfl rfl ?_
 refine Grd.intro (fun h2 => absurd (of_decide_eq_true h2) (by omega)) (fun h2 => ?_)
 conv => whnf
 refine CallC.k [(0, 0)] (next_fn s L.length h) rfl rfl (AVsle.refl _) ⟨MOle.refl _, trivial⟩ rfl ?_
 refine And.intro ⟨n1.1.1, n2⟩ ?_
 exact And.intro trivial ⟨[(0, 0), (1, 1)], rfl, AVle.refl _, ⟨MOle.refl _, MOle.refl _, trivial⟩⟩
theorem manK_keyOK (n : Int) : keyOK (manK n) = true := by
 have hs : (manK n).length = 10 := by simp [manK, six6]
 have e : (manK n).all keyC = true := by
  unfold manK
  rw [List.all_append]
  have : (six6 n.toNat).all keyC = true := List.all_eq_true.2 fun x hx => by
   have := List.all_eq_true.1 (six6_dig n.toNat) x hx
   have := of_decide_eq_true this
   unfold keyC
   simp only [Bool.or_eq_true, Bool.and_eq_true, decide_eq_true_eq]
   left; left; right
   omega
  rw [this]
  decide
 unfold keyOK
 rw [e, hs]
 decide
theorem Rc.txt_len {r : Rc} (h : r.ok = true) : r.text.length ≤ 130 := by
 have hk := (Rc.okN h).2
 have hh := Rc.head_len h
 unfold Rc.text; simp only [List.length_append, List.length_cons, List.length_nil]; omega
theorem NewStoreF_fn : VFn Tryz.prog 118 [] stoN0.av := by
 refine VFn.introC Tryz.call118 Tryz.func118 rfl rfl ?_
 conv => whnf
 refine And.intro trivial (AVle.agg (AVsle.cons (AVle.sl rfl fun i hi => absurd hi (Nat.not_lt_zero i)) (AVsle.cons (AVle.refl _) AVsle.nil)))
def Sta.own (s : Sta) : AV := .agg [.int .i64 s.seq, .int .i64 s.fence, .osl 0, .osl 1, .int .i64 s.l0, .int .i64 s.l1, .int .i64 s.l2, .int .i64 s.h0, .int .i64 s.h1, .int .i64 s.h2]

theorem CloneEn_own (L : List En) (hL : L.length ≤ 1000000) : FnM Tryz.prog 159 0 [ents L] [] (.osl 0) [(0, .arr 116 4 L.length fun i => (ix L i).row)] 1 := by
 refine FnM.introN Tryz.call159 Tryz.func159 rfl rfl ?_
 conv => whnf
 refine OpC.isnil rfl rfl rfl rfl rfl (fun h0 => ?_) ?_
 · conv => whnf
   exact ⟨_, .inr ⟨2, 116, 4, fun i => (ix L i).row, rfl, rfl⟩, And.intro trivial ⟨[(0, 0)], rfl, AVle.refl _, ⟨MOle.arr h0.symm fun i hi => rfl, trivial⟩⟩⟩
 · conv => whnf
   refine And.intro ⟨show (0 + L.length) * 40 ≤ 140737488355328 by omega, fun i hi => rfl⟩ ?_
   conv => whnf
   exact ⟨_, .inl rfl, And.intro trivial ⟨[(1, 0)], rfl, AVle.refl _, ⟨MOle.arr (Nat.zero_add _) fun i hi => appRows_ge (Nat.zero_le _), trivial⟩⟩⟩
theorem CloneTb_own (L : List Tb) (hL : L.length ≤ 1000000) : FnM Tryz.prog 160 0 [tbs L] [] (.osl 0) [(0, .arr 123 2 L.length fun i => (ix L i).row)] 1 := by
 refine FnM.introN Tryz.call160 Tryz.func160 rfl rfl ?_
 conv => whnf
 refine OpC.isnil rfl rfl rfl rfl rfl (fun h0 => ?_) ?_
 · conv => whnf
   exact ⟨_, .inr ⟨2, 123, 2, fun i => (ix L i).row, rfl, rfl⟩, And.intro trivial ⟨[(0, 0)], rfl, AVle.refl _, ⟨MOle.arr h0.symm fun i hi => rfl, trivial⟩⟩⟩
 · conv => whnf
   refine And.intro ⟨show (0 + L.length) * 24 ≤ 140737488355328 by omega, fun i hi => rfl⟩ ?_
   conv => whnf
   exact ⟨_, .inl rfl, And.intro trivial ⟨[(1, 0)], rfl, AVle.refl _, ⟨MOle.arr (Nat.zero_add _) fun i hi => appRows_ge (Nat.zero_le _), trivial⟩⟩⟩
abbrev Sta.objs (s : Sta) : List (Nat × MO) := [(0, .arr 116 4 s.es.length fun i => (ix s.es i).row), (1, .arr 123 2 s.ts.length fun i => (ix s.ts i).row)]
theorem copiedS_own (s : Sta) (hL : s.es.length ≤ 1000000) (hT : s.ts.length ≤ 1000000) : FnM Tryz.prog 80 0 [s.av] [] s.own s.objs 2 := by
 refine FnM.introC Tryz.call80 Tryz.func80 rfl rfl ?_
 refine DrawC.mq 7 rfl (by kernel_rfl) ?_
 conv => whnf
 refine PCallQ.own (CloneEn_own s.es hL) rfl (fun i hi => rfl) ?_
 conv => whnf
 refine PCallQ.own (CloneTb_own s.ts hT) rfl (fun i hi => rfl) ?_
 exact And.intro trivial ⟨[(4, 0), (7, 1)], rfl, AVle.refl _, ⟨MOle.refl _, MOle.refl _, trivial⟩⟩
theorem headIs_cells (x : En) (r : List En) (k f t : Int) (key : List UInt8) : headIs (x :: r) ⟨k, f, t, key⟩ = (decide (x.tier = k) && (decide (x.f = f) && (decide (x.t = t) && (((B x.key).toList == (B key).toList) && true)))) := by
 rw [B_eq, Bool.and_true]
 show decide (x = ⟨k, f, t, key⟩) = _
 obtain ⟨a, b, c, d⟩ := x
 rw [Bool.eq_iff_iff]
 simp
set_option maxHeartbeats 1000000 in
theorem takes4_0 (s : Sta) (hL : s.es.length ≤ 1000000000) (tok f t : Int) (key : List UInt8) : VFn Tryz.prog 154 [s.av, (Rc.mk 4 tok 0 f t key).av] (.bool (s.takes ⟨4, tok, 0, f, t, key⟩)) := by
 obtain ⟨R, hR⟩ : ∃ R, R = ofT s.es 0 := ⟨_, rfl⟩
 have e : s.takes ⟨4, tok, 0, f, t, key⟩ = (decide (tok = s.fence) && (headIs R ⟨0, f, t, key⟩ && decide (t ≤ s.h1))) := by rw [hR]; exact rfl
 rw [e]
 have c := ofS_fn s hL 0
 rw [← hR] at c
 have ce := entry_fn ⟨4, tok, 0, f, t, key⟩
 refine VFn.introC Tryz.call154 Tryz.func154 rfl rfl ?_
 conv => whnf
 refine CallC.nl _ (c) ?_ ?_
 · exact rfl
 cases R with
 | nil =>
   refine DrawC.mq 36 rfl (by kernel_rfl) ?_
   repeat' (first
    | refine Grd.intro (fun h => ?_) (fun h => ?_)
    | ((conv => whnf); refine Grd.intro (fun h => ?_) (fun h => ?_))
    | refine And.intro (inI64 (by (try simp only); omega) (by (try simp only); omega)) ?_
    | refine And.intro trivial (AVle.of_eq (congrArg AV.bool ?_)))
   all_goals (show false = (_ && (false&& _)); simp)
 | cons x r =>
   have hH : headIs (x :: r) ⟨0, f, t, key⟩ = (decide ((ix (x :: r) (Int.toNat 0)).tier = 0) && (decide ((ix (x :: r) (Int.toNat 0)).f = f) && (decide ((ix (x :: r) (Int.toNat 0)).t = t) && (((B (ix (x :: r) (Int.toNat 0)).key).toList == (B key).toList) && true)))) := headIs_cells x r 0 f t key
   refine DrawC.mq 36 rfl (by kernel_rfl) ?_
   repeat' (first
    | refine Grd.intro (fun h => ?_) (fun h => ?_)
    | ((conv => whnf); refine Grd.intro (fun h => ?_) (fun h => ?_))
    | refine PCallQ.sca _ ce rfl ?_
    | refine And.intro ⟨Int.le_refl 0, show (0 : Int) < (((x :: r).length : Nat) : Int) by rw [List.length_cons]; omega⟩ ?_
    | refine And.intro (show eqGB _ _ = true from by kernel_rfl) ?_
    | refine And.intro (inI64 (by (try simp only); omega) (by (try simp only); omega)) ?_
    | refine And.intro ⟨show (0 : Int) ≤ 1 by omega, show (1 : Int) < ((3 : Nat) : Int) by omega⟩ ?_
    | refine And.intro ⟨show (0 : Int) ≤ 2 by omega, show (2 : Int) < ((3 : Nat) : Int) by omega⟩ ?_
    | refine And.intro trivial (AVle.of_eq (congrArg AV.bool ?_)))
   all_goals (clear hR e c ce; rw [hH]; simp_all)
set_option maxHeartbeats 1000000 in
theorem takes4_1 (s : Sta) (hL : s.es.length ≤ 1000000000) (tok f t : Int) (key : List UInt8) : VFn Tryz.prog 154 [s.av, (Rc.mk 4 tok 1 f t key).av] (.bool (s.takes ⟨4, tok, 1, f, t, key⟩)) := by
 obtain ⟨R, hR⟩ : ∃ R, R = ofT s.es 1 := ⟨_, rfl⟩
 have e : s.takes ⟨4, tok, 1, f, t, key⟩ = (decide (tok = s.fence) && (headIs R ⟨1, f, t, key⟩ && decide (t ≤ s.h2))) := by rw [hR]; exact rfl
 rw [e]
 have c := ofS_fn s hL 1
 rw [← hR] at c
 have ce := entry_fn ⟨4, tok, 1, f, t, key⟩
 refine VFn.introC Tryz.call154 Tryz.func154 rfl rfl ?_
 conv => whnf
 refine CallC.nl _ (c) ?_ ?_
 · exact rfl
 cases R with
 | nil =>
   refine DrawC.mq 36 rfl (by kernel_rfl) ?_
   repeat' (first
    | refine Grd.intro (fun h => ?_) (fun h => ?_)
    | ((conv => whnf); refine Grd.intro (fun h => ?_) (fun h => ?_))
    | refine And.intro (inI64 (by (try simp only); omega) (by (try simp only); omega)) ?_
    | refine And.intro trivial (AVle.of_eq (congrArg AV.bool ?_)))
   all_goals (show false = (_ && (false&& _)); simp)
 | cons x r =>
   have hH : headIs (x :: r) ⟨1, f, t, key⟩ = (decide ((ix (x :: r) (Int.toNat 0)).tier = 1) && (decide ((ix (x :: r) (Int.toNat 0)).f = f) && (decide ((ix (x :: r) (Int.toNat 0)).t = t) && (((B (ix (x :: r) (Int.toNat 0)).key).toList == (B key).toList) && true)))) := headIs_cells x r 1 f t key
   refine DrawC.mq 36 rfl (by kernel_rfl) ?_
   repeat' (first
    | refine Grd.intro (fun h => ?_) (fun h => ?_)
    | ((conv => whnf); refine Grd.intro (fun h => ?_) (fun h => ?_))
    | refine PCallQ.sca _ ce rfl ?_
    | refine And.intro ⟨Int.le_refl 0, show (0 : Int) < (((x :: r).length : Nat) : Int) by rw [List.length_cons]; omega⟩ ?_
    | refine And.intro (show eqGB _ _ = true from by kernel_rfl) ?_
    | refine And.intro (inI64 (by (try simp only); omega) (by (try simp only); omega)) ?_
    | refine And.intro ⟨show (0 : Int) ≤ 1 by omega, show (1 : Int) < ((3 : Nat) : Int) by omega⟩ ?_
    | refine And.intro ⟨show (0 : Int) ≤ 2 by omega, show (2 : Int) < ((3 : Nat) : Int) by omega⟩ ?_
    | refine And.intro trivial (AVle.of_eq (congrArg AV.bool ?_)))
   all_goals (clear hR e c ce; rw [hH]; simp_all)
set_option maxHeartbeats 1000000 in
theorem takes4_2 (s : Sta) (hL : s.es.length ≤ 1000000000) (tok f t : Int) (key : List UInt8) : VFn Tryz.prog 154 [s.av, (Rc.mk 4 tok 2 f t key).av] (.bool (s.takes ⟨4, tok, 2, f, t, key⟩)) := by
 obtain ⟨R, hR⟩ : ∃ R, R = ofT s.es 2 := ⟨_, rfl⟩
 have e : s.takes ⟨4, tok, 2, f, t, key⟩ = (decide (tok = s.fence) && (headIs R ⟨2, f, t, key⟩)) := by rw [hR]; exact (show (decide (tok = s.fence) && (headIs (ofT s.es 2) ⟨2, f, t, key⟩ && true)) = _ by rw [Bool.and_true])
 rw [e]
 have c := ofS_fn s hL 2
 rw [← hR] at c
 have ce := entry_fn ⟨4, tok, 2, f, t, key⟩
 refine VFn.introC Tryz.call154 Tryz.func154 rfl rfl ?_
 conv => whnf
 refine CallC.nl _ (c) ?_ ?_
 · exact rfl
 cases R with
 | nil =>
   refine DrawC.mq 36 rfl (by kernel_rfl) ?_
   repeat' (first
    | refine Grd.intro (fun h => ?_) (fun h => ?_)
    | ((conv => whnf); refine Grd.intro (fun h => ?_) (fun h => ?_))
    | refine And.intro (inI64 (by (try simp only); omega) (by (try simp only); omega)) ?_
    | refine And.intro trivial (AVle.of_eq (congrArg AV.bool ?_)))
   all_goals (show false = (_ && (false)); simp)
 | cons x r =>
   have hH : headIs (x :: r) ⟨2, f, t, key⟩ = (decide ((ix (x :: r) (Int.toNat 0)).tier = 2) && (decide ((ix (x :: r) (Int.toNat 0)).f = f) && (decide ((ix (x :: r) (Int.toNat 0)).t = t) && (((B (ix (x :: r) (Int.toNat 0)).key).toList == (B key).toList) && true)))) := headIs_cells x r 2 f t key
   refine DrawC.mq 36 rfl (by kernel_rfl) ?_
   repeat' (first
    | refine Grd.intro (fun h => ?_) (fun h => ?_)
    | ((conv => whnf); refine Grd.intro (fun h => ?_) (fun h => ?_))
    | refine PCallQ.sca _ ce rfl ?_
    | refine And.intro ⟨Int.le_refl 0, show (0 : Int) < (((x :: r).length : Nat) : Int) by rw [List.length_cons]; omega⟩ ?_
    | refine And.intro (show eqGB _ _ = true from by kernel_rfl) ?_
    | refine And.intro (inI64 (by (try simp only); omega) (by (try simp only); omega)) ?_
    | refine And.intro ⟨show (0 : Int) ≤ 1 by omega, show (1 : Int) < ((3 : Nat) : Int) by omega⟩ ?_
    | refine And.intro ⟨show (0 : Int) ≤ 2 by omega, show (2 : Int) < ((3 : Nat) : Int) by omega⟩ ?_
    | refine And.intro trivial (AVle.of_eq (congrArg AV.bool ?_)))
   all_goals (clear hR e c ce; rw [hH]; simp_all)
end Go.Proofs.YtnplgeogieoioaaGreatDoor
