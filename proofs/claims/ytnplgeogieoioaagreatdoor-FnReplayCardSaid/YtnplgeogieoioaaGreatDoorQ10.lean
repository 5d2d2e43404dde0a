/- Contracts of functions that the claim reaches, and the plain law of what they compute; each theorem bears its own conditions. -/
import Derived.Test.YtnplgeogieoioaaGreatDoorQ5
import Derived.Test.YtnplgeogieoioaaGreatDoorQ1
import Derived.Test.YtnplgeogieoioaaGreatDoorQ6
import Derived.WalkSmall
import Derived.Test.YtnplgeogieoioaaGreatDoorV52
import Derived.Test.YtnplgeogieoioaaGreatDoorQ8
import Derived.Test.YtnplgeogieoioaaGreatDoorQ9
import Derived.Test.YtnplgeogieoioaaGreatDoorQ3
import Derived.Test.YtnplgeogieoioaaGreatDoorQ2
import Derived.Test.YtnplgeogieoioaaGreatDoorQ4
set_option linter.unusedVariables false
set_option linter.constructorNameAsVariable false
set_option linter.unusedSimpArgs false
set_option maxRecDepth 20000
set_option maxHeartbeats 1000000
namespace Go.Proofs.YtnplgeogieoioaaGreatDoor
open Go Go.Vw
theorem Cut_fn (s : List UInt8) (c : UInt8) (hl : s.length ≤ 1000000000) : VFn Tryz.prog 171 [.str (B s), .str (B [c])] (.tup [.str (B (Lib.cut s [c]).1), .str (B (Lib.cut s [c]).2.1), .bool (Lib.cut s [c]).2.2]) := by
 refine VFn.lib Tryz.call171 fun w ok vs hJ hok hv => ?_
 obtain ⟨v, us, rfl, hv, v2, us2, rfl, hv2, hus⟩ := hv
 have e1 : v = .string (B s) := hv
 have e2 : v2 = .string (B [c]) := hv2
 have e3 : us2 = [] := hus
 subst e1 e2 e3
 obtain ⟨mv, hmv⟩ := tab_maxlen hJ
 refine (Tryz.strings_Cut (B s) (B [c]) mv w (by rw [B_size]; omega) hmv).mono ?_
 rintro e w' ⟨rfl, n, rfl⟩
 refine ⟨_, rfl, ⟨rfl, rfl, rfl, Nat.le_refl _, fun _ _ => rfl⟩, fun _ _ => ⟨[_, _, _], rfl, _, _, rfl, ?_, _, _, rfl, ?_, _, _, rfl, ?_, rfl⟩⟩
 · show Value.string _ = _
   rw [B_data, B_data]; rfl
 · show Value.string _ = _
   rw [B_data, B_data]; rfl
 · show Value.bool _ = _
   rw [B_data, B_data]
theorem cut_none {s : List UInt8} {c : UInt8} (h : ∀ x ∈ s, x ≠ c) : Lib.cut s [c] = (s, [], false) := by
 unfold Lib.cut; rw [index_none c s h]; rfl
theorem cut_at {a b : List UInt8} {c : UInt8} (h : ∀ x ∈ a, x ≠ c) : Lib.cut (a ++ c :: b) [c] = (a, b, true) := by
 unfold Lib.cut; rw [index_at c a b h]
 rw [if_pos (by omega)]
 simp
theorem readRecord_none (t : List UInt8) (hl : t.length ≤ 1000000) (h : ∀ x ∈ t, x ≠ 32) : VFn Tryz.prog 117 [.str (B t)] (.tup [(default : Rc).av, .bool false]) := by
 have c := Cut_fn t 32 (by omega)
 rw [cut_none h] at c
 refine VFn.introC Tryz.call117 Tryz.func117 rfl rfl ?_
 conv => whnf
 refine CallC.sca _ (c) ?_ ?_
 · exact rfl
 cases hn : numsK 44 5 t with
 | none =>
   conv => whnf
   refine CallC.nl _ (numbers_no t 44 5 (by omega) (by decide) hn) ?_ ?_
   · exact rfl
   exact And.intro trivial (AVle.refl _)
 | some N =>
   conv => whnf
   refine CallC.nl _ (numbers_yes t 44 5 (by omega) (by decide) hn) ?_ ?_
   · exact rfl
   exact And.intro trivial (AVle.refl _)
theorem readRecord_cut (a b : List UInt8) (hl : (a ++ 32 :: b).length ≤ 1000000) (ha : ∀ x ∈ a, x ≠ 32) : (∀ k tok tier f e, numsK 44 5 a = some [k, tok, tier, f, e] → VFn Tryz.prog 117 [.str (B (a ++ 32 :: b))] (.tup [(Rc.mk k tok tier f e b).av, .bool (Rc.ok ⟨k, tok, tier, f, e, b⟩)])) ∧
 (numsK 44 5 a = none → VFn Tryz.prog 117 [.str (B (a ++ 32 :: b))] (.tup [(default : Rc).av, .bool false])) := by
 have c := Cut_fn (a ++ 32 :: b) 32 (by omega)
 rw [cut_at ha] at c
 have hal : a.length ≤ 1000000 := by rw [List.length_append] at hl; omega
 constructor
 · intro k tok tier f e hn
   have ct := RecordOK_fn ⟨k, tok, tier, f, e, b⟩
   refine VFn.introC Tryz.call117 Tryz.func117 rfl rfl ?_
   conv => whnf
   refine CallC.sca _ (c) ?_ ?_
   · exact rfl
   conv => whnf
   refine CallC.nl _ (numbers_yes a 44 5 (by omega) (by decide) hn) ?_ ?_
   · exact rfl
   refine DrawC.mkQ 19 [(.inr 17, 18)] rfl (by kernel_rfl) ?_
   refine And.intro rfl ?_
   refine And.intro ⟨by decide, show (0 : Int) < 5 by decide⟩ ?_
   refine And.intro ⟨by decide, show (1 : Int) < 5 by decide⟩ ?_
   refine And.intro ⟨by decide, show (2 : Int) < 5 by decide⟩ ?_
   refine And.intro ⟨by decide, show (3 : Int) < 5 by decide⟩ ?_
   refine And.intro ⟨by decide, show (4 : Int) < 5 by decide⟩ ?_
   refine DrawC.mkQ 5 [(.inl 0, 3)] rfl (by kernel_rfl) ?_
   refine And.intro rfl ?_
   conv => whnf
   refine PCallQ.sca _ (ct) rfl ?_
   exact And.intro trivial (AVle.refl _)
 · intro hn
   refine VFn.introC Tryz.call117 Tryz.func117 rfl rfl ?_
   conv => whnf
   refine CallC.sca _ (c) ?_ ?_
   · exact rfl
   conv => whnf
   refine CallC.nl _ (numbers_no a 44 5 (by omega) (by decide) hn) ?_ ?_
   · exact rfl
   exact And.intro trivial (AVle.refl _)
theorem readRecord_yes (t : List UInt8) (hl : t.length ≤ 1000000) {r : Rc} (h : readR t = some r) : VFn Tryz.prog 117 [.str (B t)] (.tup [r.av, .bool true]) := by
 rcases first_c 32 t with h1 | ⟨a, b, rfl, ha⟩
 · rw [readR_none h1] at h; cases h
 · obtain ⟨r1, r2⟩ := readR_at (b := b) ha
   obtain ⟨c1, c2⟩ := readRecord_cut a b hl ha
   cases hn : numsK 44 5 a with
   | none => rw [r2 hn] at h; cases h
   | some N =>
     obtain ⟨k, tok, tier, f, e, rfl⟩ := nums5 hn
     rw [r1 _ _ _ _ _ hn] at h
     split at h
     · rename_i hok
       cases h
       have := c1 _ _ _ _ _ hn
       rw [hok] at this; exact this
     · cases h
theorem readRecord_no (t : List UInt8) (hl : t.length ≤ 1000000) (h : readR t = none) : ∃ r : Rc, VFn Tryz.prog 117 [.str (B t)] (.tup [r.av, .bool false]) := by
 rcases first_c 32 t with h1 | ⟨a, b, rfl, ha⟩
 · exact ⟨_, readRecord_none t hl h1⟩
 · obtain ⟨r1, r2⟩ := readR_at (b := b) ha
   obtain ⟨c1, c2⟩ := readRecord_cut a b hl ha
   cases hn : numsK 44 5 a with
   | none => exact ⟨_, c2 hn⟩
   | some N =>
     obtain ⟨k, tok, tier, f, e, rfl⟩ := nums5 hn
     rw [r1 _ _ _ _ _ hn] at h
     split at h
     · cases h
     · rename_i hok
       have := c1 _ _ _ _ _ hn
       rw [show Rc.ok ⟨k, tok, tier, f, e, b⟩ = false by simpa using hok] at this
       exact ⟨_, this⟩
theorem l06Read_gen (t : List UInt8) (hl : t.length ≤ 1000000) (R : AV) (hy : ∀ r, readR t = some r → R = .tup [r.av, .bool true]) (hn : readR t = none → R = .tup [(default : Rc).av, .bool false]) : VFn Tryz.prog 129 [.str (B t)] R := by
 have cc := l00Cut_fn t 32 (by omega)
 have hpl : ∀ x ∈ cutP 32 [] t, x.length ≤ t.length := fun x hx => by have := cutP_piece 32 t [] x hx; simpa using this
 have hR : readR t = readP (cutP 32 [] t) := rfl
 generalize cutP 32 [] t = P at cc hpl hR
 by_cases h2 : P.length = 2
 case neg =>
  have hr : readR t = none := by
   match P, h2 with
   | [], _ => exact hR
   | [_], _ => exact hR
   | [_, _], h => exact absurd rfl h
   | _ :: _ :: _ :: _, _ => exact hR
  rw [hn hr]
  refine VFn.introC Tryz.call129 Tryz.func129 rfl rfl ?_
  conv => whnf
  refine CallC.nl _ (cc) ?_ ?_
  · exact rfl
  refine Grd.intro (fun g => ?_) (fun g => absurd (show ((P.length : Nat) : Int) = 2 by simpa using g) (by omega))
  exact And.intro trivial (AVle.refl _)
 case pos =>
  obtain ⟨a, b, rfl⟩ : ∃ a b, P = [a, b] := by
   match P, h2 with
   | [a, b], _ => exact ⟨a, b, rfl⟩
  have hR : readR t = (match numsK 44 5 a with
   | some [k, tok, tier, f, e] => if Rc.ok ⟨k, tok, tier, f, e, b⟩ = true then some ⟨k, tok, tier, f, e, b⟩ else none
   | _ => none) := hR
  have hal := hpl a (by simp)
  have hbl := hpl b (by simp)
  cases hN : numsK 44 5 a with
  | none =>
    rw [hN] at hR
    rw [hn hR]
    refine VFn.introC Tryz.call129 Tryz.func129 rfl rfl ?_
    conv => whnf
    refine CallC.nl _ (cc) ?_ ?_
    · exact rfl
    refine And.intro ⟨by decide, show (0 : Int) < 2 by decide⟩ ?_
    conv => whnf
    refine CallC.nl _ (l02Numbers_gen a 44 5 (by omega) _ (fun N h => by rw [hN] at h; cases h) (fun h => rfl)) ?_ ?_
    · exact rfl
    exact And.intro trivial (AVle.refl _)
  | some N =>
    obtain ⟨k, tok, tier, f, e, rfl⟩ := nums5 hN
    rw [hN] at hR
    have hR : readR t = if Rc.ok ⟨k, tok, tier, f, e, b⟩ = true then some ⟨k, tok, tier, f, e, b⟩ else none := hR
    have ct := specRecordOK_fn ⟨k, tok, tier, f, e, b⟩ (by show b.length ≤ _; omega)
    by_cases hok : Rc.ok ⟨k, tok, tier, f, e, b⟩ = true
    · rw [if_pos hok] at hR
      rw [hy _ hR]
      rw [hok] at ct
      refine VFn.introC Tryz.call129 Tryz.func129 rfl rfl ?_
      conv => whnf
      refine CallC.nl _ (cc) ?_ ?_
      · exact rfl
      refine And.intro ⟨by decide, show (0 : Int) < 2 by decide⟩ ?_
      conv => whnf
      refine CallC.nl _ (l02Numbers_gen a 44 5 (by omega) _ (fun N h => by rw [hN] at h; cases h; rfl) (fun h => by rw [hN] at h; cases h)) ?_ ?_
      · exact rfl
      refine DrawC.mkQ 21 [(.inr 19, 20)] rfl (by kernel_rfl) ?_
      refine And.intro rfl ?_
      refine And.intro ⟨by decide, show (0 : Int) < 5 by decide⟩ ?_
      refine And.intro ⟨by decide, show (1 : Int) < 5 by decide⟩ ?_
      refine And.intro ⟨by decide, show (2 : Int) < 5 by decide⟩ ?_
      refine And.intro ⟨by decide, show (3 : Int) < 5 by decide⟩ ?_
      refine And.intro ⟨by decide, show (4 : Int) < 5 by decide⟩ ?_
      refine And.intro ⟨by decide, show (1 : Int) < 2 by decide⟩ ?_
      conv => whnf
      refine CallC.sca _ (ct) ?_ ?_
      · exact rfl
      exact And.intro trivial (AVle.refl _)
    · have hok : Rc.ok ⟨k, tok, tier, f, e, b⟩ = false := by simpa using hok
      rw [if_neg (by rw [hok]; simp)] at hR
      rw [hn hR]
      rw [hok] at ct
      refine VFn.introC Tryz.call129 Tryz.func129 rfl rfl ?_
      conv => whnf
      refine CallC.nl _ (cc) ?_ ?_
      · exact rfl
      refine And.intro ⟨by decide, show (0 : Int) < 2 by decide⟩ ?_
      conv => whnf
      refine CallC.nl _ (l02Numbers_gen a 44 5 (by omega) _ (fun N h => by rw [hN] at h; cases h; rfl) (fun h => by rw [hN] at h; cases h)) ?_ ?_
      · exact rfl
      refine DrawC.mkQ 21 [(.inr 19, 20)] rfl (by kernel_rfl) ?_
      refine And.intro rfl ?_
      refine And.intro ⟨by decide, show (0 : Int) < 5 by decide⟩ ?_
      refine And.intro ⟨by decide, show (1 : Int) < 5 by decide⟩ ?_
      refine And.intro ⟨by decide, show (2 : Int) < 5 by decide⟩ ?_
      refine And.intro ⟨by decide, show (3 : Int) < 5 by decide⟩ ?_
      refine And.intro ⟨by decide, show (4 : Int) < 5 by decide⟩ ?_
      refine And.intro ⟨by decide, show (1 : Int) < 2 by decide⟩ ?_
      conv => whnf
      refine CallC.sca _ (ct) ?_ ?_
      · exact rfl
      exact And.intro trivial (AVle.refl _)
theorem l06Read_yes (t : List UInt8) (hl : t.length ≤ 1000000) {r : Rc} (h : readR t = some r) : VFn Tryz.prog 129 [.str (B t)] (.tup [r.av, .bool true]) := l06Read_gen t hl _ (fun r' h' => by rw [h] at h'; cases h'; rfl) (fun h' => by rw [h] at h'; cases h')
theorem l06Read_no (t : List UInt8) (hl : t.length ≤ 1000000) (h : readR t = none) : VFn Tryz.prog 129 [.str (B t)] (.tup [(default : Rc).av, .bool false]) := l06Read_gen t hl _ (fun r' h' => by rw [h] at h'; cases h') (fun h' => rfl)
theorem IndexStr_1 (L : List (List UInt8)) (hL : L.length ≤ 9223372036854775807) (F : Nat) (row : List AV) (p : List UInt8 → Bool) (hp : ∀ e ∈ L, VFn Tryz.prog F [.str (B e), .eptr row 0] (.bool (p e))) :
 VFn Tryz.prog 213 [txts L, .fn (.func F) [] [.eptr row 0]] (.int .i64 (fi p L)) := by
 refine VFn.introC Tryz.call213 Tryz.func213 rfl rfl ?_
 refine LoopC.mk (fun i : Nat => i ≤ L.length ∧ ∀ j, j < i → p (ix L j) = false) (fun i => [(0, txts L), (1, .fn (.func F) [] [.eptr row 0]), (7, .int .i64 L.length), (8, .int .i64 i)]) (fun _ => []) 0 (fun i => L.length - i) 0
  ⟨⟨Nat.zero_le _, fun j hj => absurd hj (Nat.not_lt_zero j)⟩, [], rfl, rfl, ⟨AVle.refl _, AVle.refl _, AVle.refl _, AVle.refl _, trivial⟩, trivial⟩ ?_
 intro i hi
 refine Grd.intro (fun h2 => ?_) (fun h2 => ?_)
 · have hin : i < L.length := by have := of_decide_eq_true h2; omega
   refine And.intro (by omega) ?_
   conv => whnf
   refine CallC.sca _ (hp (ix L i) (getD_mem hin)) ?_ ?_
   · exact rfl
   refine Grd.intro (fun h3 => ?_) (fun h3 => ?_)
   · exact And.intro trivial (AVle.of_eq (congrArg (AV.int .i64) (fi_at hin hi.2 h3).symm))
   · refine And.intro (inI64 (by omega) (by omega)) ?_
     exact ⟨i + 1, ⟨hin, fun j hj => by
      rcases Nat.lt_or_ge j i with h' | h'
      · exact hi.2 j h'
      · rw [show j = i by omega]; exact h3⟩, by omega, [], rfl, rfl, ⟨AVle.refl _, AVle.refl _, AVle.refl _, AVle.of_eq (congrArg (AV.int .i64) (by simp)), trivial⟩, trivial⟩
 · have : i = L.length := by have := of_decide_eq_false h2; omega
   subst this
   exact And.intro trivial (AVle.of_eq (congrArg (AV.int .i64) (fi_none hi.2).symm))
theorem ContainsStr_1 (L : List (List UInt8)) (hL : L.length ≤ 9223372036854775807) (F : Nat) (row : List AV) (p : List UInt8 → Bool) (hp : ∀ e ∈ L, VFn Tryz.prog F [.str (B e), .eptr row 0] (.bool (p e))) :
 VFn Tryz.prog 183 [txts L, .fn (.func F) [] [.eptr row 0]] (.bool (L.any p)) := by
 refine VFn.introC Tryz.call183 Tryz.func183 rfl rfl ?_
 conv => whnf
 refine CallC.sca _ (IndexStr_1 L hL F row p hp) ?_ ?_
 · exact rfl
 exact And.intro trivial (AVle.of_eq (congrArg AV.bool (show decide (0 ≤ fi p L) = _ from fi_any)))
theorem allStr1_fn (e : List UInt8) (G : Nat) (p : List UInt8 → Bool) (hp : VFn Tryz.prog G [.str (B e)] (.bool (p e))) : VFn Tryz.prog 184 [.str (B e), .eptr [.fn (.func G) [] []] 0] (.bool (!p e)) := by
 refine VFn.introC Tryz.call184 Tryz.func184 rfl rfl ?_
 conv => whnf
 refine CallC.sca _ (hp) ?_ ?_
 · exact rfl
 exact And.intro trivial (AVle.refl _)
theorem allStr_fn (L : List (List UInt8)) (hL : L.length ≤ 9223372036854775807) (G : Nat) (p : List UInt8 → Bool) (hp : ∀ e ∈ L, VFn Tryz.prog G [.str (B e)] (.bool (p e))) : VFn Tryz.prog 144 [txts L, .fn (.func G) [] []] (.bool (L.all p)) := by
 refine VFn.introC Tryz.call144 Tryz.func144 rfl rfl ?_
 conv => whnf
 refine CallC.sca _ (ContainsStr_1 L hL 184 [.fn (.func G) [] []] (fun e => !p e) (fun e he => allStr1_fn e G p (hp e he))) ?_ ?_
 · exact rfl
 exact And.intro trivial (AVle.of_eq (congrArg AV.bool (show (!L.any fun e => !p e) = _ by rw [Bool.eq_iff_iff]; simp)))
theorem isLong1_fn (t : List UInt8) : VFn Tryz.prog 145 [.str (B t)] (.bool (decide (t.length ≤ 65536))) := by
 refine VFn.introC Tryz.call145 Tryz.func145 rfl rfl ?_
 exact And.intro trivial (AVle.of_eq (congrArg AV.bool (show decide (((B t).size : Int) ≤ 65536) = _ by rw [B_size]; exact decide_eq_decide.2 (by omega))))
theorem isLong_fn (L : List (List UInt8)) (hL : L.length ≤ 9223372036854775807) : VFn Tryz.prog 73 [txts L] (.bool (!L.all fun t => decide (t.length ≤ 65536))) := by
 refine VFn.introC Tryz.call73 Tryz.func73 rfl rfl ?_
 conv => whnf
 refine CallC.sca _ (allStr_fn L hL 145 (fun t => decide (t.length ≤ 65536)) (fun t _ => isLong1_fn t)) ?_ ?_
 · exact rfl
 exact And.intro trivial (AVle.refl _)
theorem join_no32 : ∀ L : List Int, ∀ x ∈ Lib.join (L.map Lib.itoa) [44], x ≠ (32 : UInt8)
 | [], x, hx => by simp [Lib.join] at hx
 | [a], x, hx => itoa_ne (by decide) (by decide) x (by simpa [Lib.join] using hx)
 | a :: b :: r, x, hx => by
   have e : Lib.join ((a :: b :: r).map Lib.itoa) [44] = Lib.itoa a ++ [44] ++ Lib.join ((b :: r).map Lib.itoa) [44] := by simp [Lib.join, List.intercalate, List.intersperse]
   rw [e] at hx
   rcases List.mem_append.1 hx with hx | hx
   · rcases List.mem_append.1 hx with hx | hx
     · exact itoa_ne (by decide) (by decide) x hx
     · simp at hx; rw [hx]; decide
   · exact join_no32 (b :: r) x hx
theorem text_nums {r : Rc} (h : r.ok = true) : numsK 44 5 (Lib.join (r.nums.map Lib.itoa) [44]) = some [r.k, r.tok, r.tier, r.f, r.t] :=
 nums_back (c := 44) (by decide) (by decide) (N := r.nums) (by simp [Rc.nums]) (fun n hn => by have := (Rc.okN h).1 n hn; unfold mid at this; omega)
theorem text_back {r : Rc} (h : r.ok = true) : readR r.text = some r := by
 have := (readR_at (b := r.key) (join_no32 r.nums)).1 _ _ _ _ _ (text_nums h)
 show readR (Lib.join (r.nums.map Lib.itoa) [44] ++ 32 :: r.key) = _
 rw [this, if_pos h]
def Sta.orow (s : Sta) (a b : Nat) : List AV := [.int .i64 s.seq, .int .i64 s.fence, .osl a, .osl b, .int .i64 s.l0, .int .i64 s.l1, .int .i64 s.l2, .int .i64 s.h0, .int .i64 s.h1, .int .i64 s.h2]
theorem logN_no {x : Sto} {i : Nat} {st : Sta} (h : logN x i = st) (hr : recAt x ((i : Int) + 1) = none) : logN x (i + 1) = st.tick := by
 show stepL x (logN x i) = _
 unfold stepL
 rw [logN_seq, hr, h]
theorem logN_yes {x : Sto} {i : Nat} {st : Sta} {r : Rc} (h : logN x i = st) (hr : recAt x ((i : Int) + 1) = some r) : logN x (i + 1) = st.app r := by
 show stepL x (logN x i) = _
 unfold stepL
 rw [logN_seq, hr, h]
theorem has_next {x : Sto} {i : Nat} (h : ∀ j, j < i → x.has (manK ((j + 1 : Nat) : Int)) = true) (h' : x.has (manK ((i : Int) + 1)) = true) : ∀ j, j < i + 1 → x.has (manK ((j + 1 : Nat) : Int)) = true := fun j hj => by
 rcases Nat.lt_or_ge j i with h1 | h1
 · exact h j h1
 · have : j = i := by omega
   subst this; exact h'
theorem replay_own (x : Sto) (hs : x.ok = true) (F : Nat) (hF : ∀ (r : Rc) (took : Bool), VFn Tryz.prog F [r.av, .bool took] (.tup [])) :
 FnM Tryz.prog 57 0 [x.av, .fn (.func F) [] []] [] (logS x).own (logS x).objs 2 := by
 have hL := (Sto.ok_at hs).2.1
 refine FnM.introC Tryz.call57 Tryz.func57 rfl rfl ?_
 refine LoopC.nilb 2 2 116 4 (fun _ => []) rfl rfl ?_
 conv => whnf
 refine LoopC.nilb 2 3 123 2 (fun _ => []) rfl rfl ?_
 conv => whnf
 refine LoopC.mk (fun i : Nat => ∀ j, j < i → x.has (manK ((j + 1 : Nat) : Int)) = true) (fun i => [(1, .fn (.func F) [] []), (2, .bptr 0 0), (4, .bptr 1 0), (5, .bptr 2 0)])
  (fun i => [(0, .box x.row), (1, .box sta0.nrow), (2, .box ((logN x i).orow 3 4)), (3, .arr 116 4 (logN x i).es.length fun j => (ix (logN x i).es j).row), (4, .arr 123 2 (logN x i).ts.length fun j => (ix (logN x i).ts j).row)]) 5 (fun i => 1000 - i) 0
  ⟨fun j hj => absurd hj (Nat.not_lt_zero j), [(0, 0), (1, 1), (2, 2), (3, 3), (4, 4)], rfl, rfl, ⟨AVle.refl _, AVle.refl _, AVle.refl _, AVle.refl _, trivial⟩, ⟨MOle.refl _, MOle.refl _, MOle.refl _, MOle.arr rfl fun i hi => absurd hi (Nat.not_lt_zero i), MOle.arr rfl fun i hi => absurd hi (Nat.not_lt_zero i), trivial⟩⟩ ?_
 intro i hi
 have hi3 : i ≤ 300 := by
  rcases Nat.lt_or_ge 300 i with h | h
  · have := log_len (x := x) (n := 301) (by omega) (fun j hj => hi j (by omega)); omega
  · exact h
 obtain ⟨st, hst⟩ : ∃ st, logN x i = st := ⟨_, rfl⟩
 have hseq := logN_seq x i
 have hlen := logN_len x i
 have hlog := logN_log x i
 rw [hst] at hseq hlen hlog ⊢
 refine Grd.intro (fun h2 => ?_) (fun h2 => absurd (of_decide_eq_false h2) (fun h => h (by omega)))
 have cg := get_fn x hs (manK (st.seq + 1))
 by_cases hh : x.has (manK (st.seq + 1)) = true
 · rw [if_pos hh] at cg
   refine DrawC.mq 12 rfl (by kernel_rfl) ?_
   refine And.intro (inI64 (by omega) (by omega)) ?_
   conv => whnf
   refine PCallQ.sca _ (six_fn (st.seq + 1) (by simp [within]; omega)) rfl ?_
   conv => whnf
   refine And.intro (show ((4 + (B (six6 (st.seq + 1).toNat)).size : Nat) : Int) ≤ 9223372036854775807 by rw [B_size, six6_len]; decide) ?_
   refine force_to (congrArg AV.str (show B [109, 97, 110, 47] ++ B (six6 (st.seq + 1).toNat) = B (manK (st.seq + 1)) from B_app _ _)) ?_
   conv => whnf
   refine PCallQ.sca _ (cg) rfl ?_
   have hd := (get_ok x hs _ hh).1
   have hh' : x.has (manK ((i : Int) + 1)) = true := by rw [← hseq]; exact hh
   cases hr : readR (x.get (manK (st.seq + 1))).data with
   | none =>
     obtain ⟨r, cr⟩ := readRecord_no _ (by omega) hr
     conv => whnf
     refine CallC.sca _ (cr) ?_ ?_
     · exact rfl
     refine And.intro (inI64 (by omega) (by omega)) ?_
     have e := logN_no hst (by unfold recAt; rw [← hseq]; exact hr)
     refine ⟨i + 1, has_next hi hh', by omega, [(0, 0), (1, 1), (2, 2), (3, 3), (4, 4)], rfl, rfl, ⟨AVle.refl _, AVle.refl _, AVle.refl _, AVle.refl _, trivial⟩, ⟨MOle.refl _, MOle.refl _, MOle.of_eq (show MO.box (st.tick.orow 3 4) = _ by rw [e]), MOle.of_eq (show MO.arr 116 4 st.tick.es.length (fun j => (ix st.tick.es j).row) = _ by rw [e]), MOle.of_eq (show MO.arr 123 2 st.tick.ts.length (fun j => (ix st.tick.ts j).row) = _ by rw [e]), trivial⟩⟩
   | some r =>
     have hrk := readR_ok hr
     conv => whnf
     refine CallC.sca _ (readRecord_yes _ (by omega) hr) ?_ ?_
     · exact rfl
     conv => whnf
     refine CallC.m [] (apply_fn st (by omega) (by omega) r hrk) rfl rfl (AVsle.refl _) trivial rfl ⟨fun i hi => rfl, fun i hi => rfl, trivial⟩ rfl ?_
     conv => whnf
     refine CallC.sca _ (hF r (st.takes r)) ?_ ?_
     · exact rfl
     have e := logN_yes hst (by unfold recAt; rw [← hseq]; exact hr)
     refine ⟨i + 1, has_next hi hh', by omega, [(0, 0), (1, 1), (2, 2), (18, 3), (19, 4)], rfl, rfl, ⟨AVle.refl _, AVle.refl _, AVle.refl _, AVle.refl _, trivial⟩, ⟨MOle.refl _, MOle.refl _, MOle.of_eq (show MO.box ((st.app r).orow 3 4) = _ by rw [e]), MOle.of_eq (show MO.arr 116 4 (st.app r).es.length (fun j => (ix (st.app r).es j).row) = _ by rw [e]), MOle.of_eq (show MO.arr 123 2 (st.app r).ts.length (fun j => (ix (st.app r).ts j).row) = _ by rw [e]), trivial⟩⟩
 · have hh : x.has (manK (st.seq + 1)) = false := by simpa using hh
   rw [if_neg (by rw [hh]; simp)] at cg
   have e : logS x = st := by
    have := log_end hs hi3 hi (by rw [hseq] at hh; exact hh)
    unfold logS; rw [← this]; exact hst
   rw [e]
   refine DrawC.mq 12 rfl (by kernel_rfl) ?_
   refine And.intro (inI64 (by omega) (by omega)) ?_
   conv => whnf
   refine PCallQ.sca _ (six_fn (st.seq + 1) (by simp [within]; omega)) rfl ?_
   conv => whnf
   refine And.intro (show ((4 + (B (six6 (st.seq + 1).toNat)).size : Nat) : Int) ≤ 9223372036854775807 by rw [B_size, six6_len]; decide) ?_
   refine force_to (congrArg AV.str (show B [109, 97, 110, 47] ++ B (six6 (st.seq + 1).toNat) = B (manK (st.seq + 1)) from B_app _ _)) ?_
   conv => whnf
   refine PCallQ.sca _ (cg) rfl ?_
   exact And.intro trivial ⟨[(3, 0), (4, 1)], rfl, AVle.refl _, ⟨MOle.refl _, MOle.refl _, trivial⟩⟩
theorem log1_fn (r : Rc) (took : Bool) : VFn Tryz.prog 126 [r.av, .bool took] (.tup []) := by
 refine VFn.introC Tryz.call126 Tryz.func126 rfl rfl ?_
 exact And.intro trivial (AVle.refl _)
theorem log_own (x : Sto) (hs : x.ok = true) : FnM Tryz.prog 60 0 [x.av] [] (logS x).own (logS x).objs 2 := by
 refine FnM.introC Tryz.call60 Tryz.func60 rfl rfl ?_
 conv => whnf
 refine CallC.k [] (replay_own x hs 126 log1_fn) rfl rfl (AVsle.refl _) trivial rfl ?_
 exact And.intro trivial ⟨[(2, 0), (3, 1)], rfl, AVle.refl _, ⟨MOle.refl _, MOle.refl _, trivial⟩⟩
theorem l06Empty_fn : VFn Tryz.prog 119 [] sta0.av := by
 refine VFn.introC Tryz.call119 Tryz.func119 rfl rfl ?_
 exact And.intro trivial (AVle.agg (AVsle.cons (AVle.refl _) (AVsle.cons (AVle.refl _) (AVsle.cons (AVle.sl rfl fun i hi => absurd hi (Nat.not_lt_zero i)) (AVsle.cons (AVle.sl rfl fun i hi => absurd hi (Nat.not_lt_zero i)) (AVsle.refl _))))))
theorem l06Key_at (n : Int) (h : 0 ≤ n ∧ n ≤ 999998) : VFn Tryz.prog 124 [.int .i64 (n + 1)] (.str (B (manK (n + 1)))) := l06Key_fn (n + 1) (by simp [within]; omega)
theorem l06Replay_fn (x : Sto) (hs : x.ok = true) : VFn Tryz.prog 62 [x.av] (logS x).av := by
 have hL := (Sto.ok_at hs).2.1
 refine VFn.introC Tryz.call62 Tryz.func62 rfl rfl ?_
 conv => whnf
 refine CallC.nl _ (l06Empty_fn) ?_ ?_
 · exact rfl
 refine LoopC.mk (fun i : Nat => ∀ j, j < i → x.has (manK ((j + 1 : Nat) : Int)) = true) (fun i => [(1, .bptr 0 0), (2, .bptr 1 0), (3, .bptr 2 0)])
  (fun i => [(0, .box x.row), (1, .box sta0.nrow), (2, .box (logN x i).row)]) 3 (fun i => 1000 - i) 0
  ⟨fun j hj => absurd hj (Nat.not_lt_zero j), [(0, 0), (1, 1), (2, 2)], rfl, rfl, ⟨AVle.refl _, AVle.refl _, AVle.refl _, trivial⟩, ⟨MOle.refl _, MOle.refl _, MOle.refl _, trivial⟩⟩ ?_
 intro i hi
 have hi3 : i ≤ 300 := by
  rcases Nat.lt_or_ge 300 i with h | h
  · have := log_len (x := x) (n := 301) (by omega) (fun j hj => hi j (by omega)); omega
  · exact h
 obtain ⟨st, hst⟩ : ∃ st, logN x i = st := ⟨_, rfl⟩
 have hseq := logN_seq x i
 have hlen := logN_len x i
 have hlog := logN_log x i
 rw [hst] at hseq hlen hlog ⊢
 have cg := l01Get_fn x hs (manK (st.seq + 1))
 have ck := l06Key_at st.seq (by omega)
 by_cases hh : x.has (manK (st.seq + 1)) = true
 · rw [if_pos hh] at cg
   have hd := get_ok x hs _ hh
   refine DrawC.mq 11 rfl (by kernel_rfl) ?_
   refine And.intro (inI64 (by omega) (by omega)) ?_
   conv => whnf
   refine PCallQ.sca _ (ck) rfl ?_
   conv => whnf
   refine PCallQ.sca _ (cg) rfl ?_
   refine Grd.intro (fun h => absurd (of_decide_eq_true (p := (x.get (manK (st.seq + 1))).ver = 0) h) (by omega)) (fun _ => ?_)
   have hh' : x.has (manK ((i : Int) + 1)) = true := by rw [← hseq]; exact hh
   cases hr : readR (x.get (manK (st.seq + 1))).data with
   | none =>
     conv => whnf
     refine CallC.sca _ (l06Read_no _ (by omega) hr) ?_ ?_
     · exact rfl
     refine And.intro (inI64 (by omega) (by omega)) ?_
     have e := logN_no hst (by unfold recAt; rw [← hseq]; exact hr)
     exact ⟨i + 1, has_next hi hh', by omega, [(0, 0), (1, 1), (2, 2)], rfl, rfl, ⟨AVle.refl _, AVle.refl _, AVle.refl _, trivial⟩, ⟨MOle.refl _, MOle.refl _, MOle.of_eq (show MO.box st.tick.row = _ by rw [e]), trivial⟩⟩
   | some r =>
     have hrk := readR_ok hr
     conv => whnf
     refine CallC.sca _ (l06Read_yes _ (by omega) hr) ?_ ?_
     · exact rfl
     conv => whnf
     refine CallC.nl _ (l06Apply_fn st (by omega) (by omega) hlog.nd r hrk) ?_ ?_
     · exact rfl
     have e := logN_yes hst (by unfold recAt; rw [← hseq]; exact hr)
     exact ⟨i + 1, has_next hi hh', by omega, [(0, 0), (1, 1), (2, 2)], rfl, rfl, ⟨AVle.refl _, AVle.refl _, AVle.refl _, trivial⟩, ⟨MOle.refl _, MOle.refl _, MOle.of_eq (show MO.box (st.app r).row = _ by rw [e]), trivial⟩⟩
 · have hh : x.has (manK (st.seq + 1)) = false := by simpa using hh
   rw [if_neg (by rw [hh]; simp)] at cg
   have e : logS x = st := by
    have := log_end hs hi3 hi (by rw [hseq] at hh; exact hh)
    unfold logS; rw [← this]; exact hst
   rw [e]
   refine DrawC.mq 11 rfl (by kernel_rfl) ?_
   refine And.intro (inI64 (by omega) (by omega)) ?_
   conv => whnf
   refine PCallQ.sca _ (ck) rfl ?_
   conv => whnf
   refine PCallQ.sca _ (cg) rfl ?_
   exact And.intro trivial (AVle.refl _)
theorem specReplayLog_yes (x : Sto) (hr : StoRd x) (hs : x.ok = true) : VFn Tryz.prog 21 [x.av] (.tup [(logS x).av, .int .i64 0]) := by
 have c := specStoreOK_ok x (by have := hr.len; omega) hr.key hr.nxt
 rw [hs] at c
 refine VFn.introC Tryz.call21 Tryz.func21 rfl rfl ?_
 conv => whnf
 refine CallC.sca _ (c) ?_ ?_
 · exact rfl
 conv => whnf
 refine CallC.nl _ (l06Replay_fn x hs) ?_ ?_
 · exact rfl
 exact And.intro trivial (AVle.refl _)
theorem ReplayLog_own (x : Sto) (hr : StoRd x) (hs : x.ok = true) : FnM Tryz.prog 20 0 [x.av] [] (.tup [(logS x).own, .int .i64 0]) (logS x).objs 2 := by
 have c := StoreOK_fn x (by have := hr.len; omega) hr.key
 rw [hs] at c
 refine FnM.introC Tryz.call20 Tryz.func20 rfl rfl ?_
 conv => whnf
 refine CallC.sca _ (c) ?_ ?_
 · exact rfl
 conv => whnf
 refine CallC.k [] (log_own x hs) rfl rfl (AVsle.refl _) trivial rfl ?_
 exact And.intro trivial ⟨[(2, 0), (3, 1)], rfl, AVle.refl _, ⟨MOle.refl _, MOle.refl _, trivial⟩⟩
theorem head_lenM {r : Rc} (hm : ∀ n ∈ r.nums, mid n) : (Lib.join (r.nums.map Lib.itoa) [44]).length ≤ 110 := by
 have := join_len (m := 21) (c := 1) (L := r.nums.map Lib.itoa) (s := [44]) (fun x hx => by
  obtain ⟨n, hn, rfl⟩ := List.mem_map.1 hx
  exact mid_len (hm n hn)) (by simp)
 exact Nat.le_trans this (by simp [Rc.nums])
theorem l06TextM_fn (r : Rc) (hm : ∀ n ∈ r.nums, mid n) (hk : r.key.length ≤ 30) : VFn Tryz.prog 120 [r.av] (.str (B r.text)) := by
 have hl := head_lenM hm
 refine VFn.introC Tryz.call120 Tryz.func120 rfl rfl ?_
 refine DrawC.mq 17 rfl (by kernel_rfl) ?_
 refine PCallQ.sca (.str (B (Lib.join (r.nums.map Lib.itoa) [44]))) ((l02Join_fn r.nums (show 5 ≤ 100000000 by decide) (fun x hx => by have := hm x hx; unfold mid at this; omega)).weak (AVsle.cons (RowsAre.le (f := fun n : Int => [AV.int .i64 n]) rfl ⟨rfl, rfl, rfl, rfl, rfl, trivial⟩) AVsle.nil) (AVle.refl _)) rfl ?_
 have add : ∀ (x y : List UInt8), (x.length + y.length : Nat) ≤ 100000 → (((B x).size + (B y).size : Nat) : Int) ≤ 9223372036854775807 := fun x y h => by rw [B_size, B_size]; omega
 refine And.intro (add (Lib.join (r.nums.map Lib.itoa) [44]) [32] (by simp; omega)) ?_
 refine And.intro (show (((B (Lib.join (r.nums.map Lib.itoa) [44]) ++ B [32]).size + (B r.key).size : Nat) : Int) ≤ 9223372036854775807 by rw [B_app]; exact add _ _ (by simp; omega)) ?_
 exact And.intro trivial (AVle.of_eq (congrArg AV.str (show B (Lib.join (r.nums.map Lib.itoa) [44]) ++ B [32] ++ B r.key = B r.text by rw [B_app, B_app, List.append_assoc]; rfl)))
theorem read_text {r : Rc} (hm : ∀ n ∈ r.nums, mid n) : readR r.text = if r.ok = true then some r else none := by
 have hn : numsK 44 5 (Lib.join (r.nums.map Lib.itoa) [44]) = some [r.k, r.tok, r.tier, r.f, r.t] :=
  nums_back (c := 44) (by decide) (by decide) (N := r.nums) (by simp [Rc.nums]) (fun n hn => by have := hm n hn; unfold mid at this; omega)
 have := (readR_at (b := r.key) (join_no32 r.nums)).1 _ _ _ _ _ hn
 show readR (Lib.join (r.nums.map Lib.itoa) [44] ++ 32 :: r.key) = _
 rw [this]
def oddT : List (List UInt8) := [[], [120], [50, 44, 49, 44, 48, 44, 48, 44, 48, 32, 120]]
theorem odd_none {t : List UInt8} (h : t ∈ oddT) : readR t = none ∧ t.length ≤ 11 := by
 simp only [oddT, List.mem_cons, List.not_mem_nil, or_false] at h
 rcases h with rfl | rfl | rfl
 · exact ⟨by rfl, by decide⟩
 · exact ⟨by rfl, by decide⟩
 · exact ⟨by kernel_rfl, by decide⟩
def lgT (r : Rc) (q : Src) : List UInt8 := if (q.next 12).1 = 12 - 1 then ix oddT ((q.next 12).2.next 3).1.toNat else r.text
def lgQ (q : Src) : Src := if (q.next 12).1 = 12 - 1 then ((q.next 12).2.next 3).2 else (q.next 12).2
theorem lgT_b {r : Rc} {q : Src} {k : Int} (hq : q.ok k) (hk : 0 ≤ k ∧ k ≤ 1000000) (hm : ∀ n ∈ r.nums, mid n) (hl : r.key.length ≤ 30) : ((lgT r q).length ≤ 600 ∧ ∀ r', readR (lgT r q) = some r' → r' = r) ∧ (lgQ q).ok (k + 6) := by
 have n1 := next_b q hq (by omega) 12
 have n2 := next_b (q.next 12).2 n1.2.1 (by omega) 3
 unfold lgT lgQ
 split
 · have hb : ((q.next 12).2.next 3).1.toNat < oddT.length := by have := n2.1.2 (by omega); have := n2.1.1; show _ < 3; omega
   obtain ⟨a, b⟩ := odd_none (ix_in hb)
   exact ⟨⟨by omega, fun r' h => by rw [a] at h; cases h⟩, wk n2.2.1 (by omega)⟩
 · refine ⟨⟨?_, fun r' h => ?_⟩, wk n1.2.1 (by omega)⟩
   · have := head_lenM hm
     unfold Rc.text; simp only [List.length_append, List.length_cons, List.length_nil]; omega
   · rw [read_text hm] at h
     split at h
     · cases h; rfl
     · cases h
theorem logged_fn (s : Src) {k : Int} (h : s.ok k) (hk : 0 ≤ k ∧ k ≤ 100000) : ∃ (y : Sto) (n : Nat) (q : Src), n ≤ 26 ∧ LgF n y ∧ FnM Tryz.prog 59 1 [.bptr 0 0] [(0, .box s.row)] y.av [(0, .box q.row)] 1 := by
 obtain ⟨z, hz, cz⟩ := size_fn s 20 (wk h (by omega)) (by decide)
 obtain ⟨M, s1, hM, k1, c1⟩ := draw s h (by omega) (z + 6) (by omega)
 obtain ⟨f, f0, fI, fT⟩ := seq_ex (α := Sto × Src) M (fun i y => LgI i y.1 ∧ y.2.ok (k + 3 + 40 * i))
  (fun a b => ∃ (r : Rc) (q : Src), (∀ n ∈ r.nums, mid n) ∧ r.key.length ≤ 30 ∧ q.ok 1000000 ∧ FnM Tryz.prog 63 1 [.bptr 0 0, (logS a.1).av] [(0, .box a.2.row)] r.av [(0, .box q.row)] 1 ∧ b = (a.1.set (manK ((logS a.1).seq + 1)) (lgT r q), lgQ q)) (stoN0, s1)
  ⟨LgI.zero, wk k1 (by omega)⟩ (fun i a hi hI => by
   obtain ⟨hl, hs⟩ := hI
   have hq : (logS a.1).seq = (i : Int) := by rw [(log_b a.1).1, hl.en]
   have hf := hl.fe
   obtain ⟨r, q, k2, hr, ⟨ht, hm⟩, c⟩ := recordM_fn a.2 (logS a.1) hs (by omega) (logS_ok a.1) (by omega) (by omega)
   obtain ⟨⟨b1, b2⟩, b3⟩ := lgT_b (r := r) k2 (by omega) hm hr
   refine ⟨_, ⟨r, q, hm, hr, wk k2 (by omega), c, rfl⟩, ?_, wk b3 (by push_cast; omega)⟩
   have := hl.lay (by omega) b1 (fun r' e => by rw [b2 r' e]; omega)
   rw [show ((i + 1 : Nat) : Int) = (logS a.1).seq + 1 by rw [hq]; push_cast; rfl] at this
   exact this)
 obtain ⟨gl, gs⟩ := fI M (Nat.le_refl _)
 have n6 := next_b (f M).2 gs (by omega) 6
 refine ⟨if ((f M).2.next 6).1 = 6 - 1 then (f M).1.set (manK ((M + 3 : Nat) : Int)) [50, 44, 57, 44, 48, 44, 48, 44, 48, 32] else (f M).1, M, ((f M).2.next 6).2, by omega, ?_, ?_⟩
 · split
   · exact gl.fin3 (by omega) (by decide)
   · exact gl.fin (by omega)
 have e0 : logS stoN0 = sta0 := by
  unfold logS
  rw [LgI.zero.en]; rfl
 refine FnM.introC Tryz.call59 Tryz.func59 rfl rfl ?_
 conv => whnf
 refine CallC.nl _ (NewStoreF_fn) ?_ ?_
 · exact rfl
 conv => whnf
 refine CallC.nl _ (l06Empty0) ?_ ?_
 · exact rfl
 conv => whnf
 refine CallC.k [(0, 0)] (cz) rfl rfl (AVsle.refl _) ⟨MOle.refl _, trivial⟩ rfl ?_
 refine And.intro (inI64 (by omega) (by omega)) ?_
 conv => whnf
 refine CallC.k [(0, 0)] (c1) rfl rfl (AVsle.refl _) ⟨MOle.refl _, trivial⟩ rfl ?_
 refine LoopC.mk (fun i : Nat => i ≤ M) (fun i => [(0, .bptr 0 0), (2, .bptr 1 0), (3, .bptr 2 0), (4, .bptr 3 0), (5, .int .i64 ((M : Int) - i))])
  (fun i => [(0, .box (f i).2.row), (1, .box [.nilsl, .int .i64 0]), (2, .box (f i).1.row), (3, .box (logS (f i).1).row)]) 4 (fun i => M - i) 0
  ⟨Nat.zero_le _, [(0, 0), (1, 1), (2, 2), (3, 3)], rfl, rfl, ⟨AVle.refl _, AVle.refl _, AVle.refl _, AVle.refl _, AVle.of_eq (congrArg (AV.int .i64) (by simp)), trivial⟩, ⟨MOle.of_eq (by rw [f0]; rfl), MOle.refl _, MOle.of_eq (by rw [f0]; rfl), MOle.of_eq (by rw [f0]; show _ = MO.box (logS stoN0).row; rw [e0]; rfl), trivial⟩⟩ ?_
 intro i hi
 refine Grd.intro (fun j1 => ?_) (fun j1 => ?_)
 · have hiM : i < M := by have := of_decide_eq_true j1; omega
   obtain ⟨yl, ys⟩ := fI i hi
   obtain ⟨nl, ns⟩ := fI (i + 1) hiM
   obtain ⟨r, q, hm, hr, hq, c, hn⟩ := fT i hiM
   have ct := l06TextM_fn r hm hr
   have n12 := next_b q hq (by omega) 12
   have hsq : (logS (f i).1).seq = (i : Int) := by rw [(log_b (f i).1).1, yl.en]
   have ln := yl.len
   have nx := yl.nxt
   have n0 := ((stoOK_iff _).1 yl.ok).nx
   have ck := l06Key_fn ((logS (f i).1).seq + 1) (by simp [within]; omega)
   have cr := l06Replay_fn (f (i + 1)).1 nl.ok
   have cs := fun t => l01Set_fn (f i).1 (by omega) ⟨by omega, by omega⟩ (manK ((logS (f i).1).seq + 1)) t
   rw [hn] at cr
   conv => whnf
   refine CallC.k [(0, 0)] (c) rfl rfl (AVsle.refl _) ⟨MOle.refl _, trivial⟩ rfl ?_
   conv => whnf
   refine CallC.sca _ (ct) ?_ ?_
   · exact rfl
   conv => whnf
   refine CallC.k [(0, 0)] (chance_fn q 12 (wk hq (by omega)) (by decide)) rfl rfl (AVsle.refl _) ⟨MOle.refl _, trivial⟩ rfl ?_
   conv => whnf
   refine Grd.intro (fun g => ?_) (fun g => ?_)
   · have g : (q.next 12).1 = 12 - 1 := of_decide_eq_true g
     have eT : lgT r q = ix oddT ((q.next 12).2.next 3).1.toNat := by unfold lgT; rw [if_pos g]
     have eQ : lgQ q = ((q.next 12).2.next 3).2 := by unfold lgQ; rw [if_pos g]
     rw [eT, eQ] at hn
     rw [eT, eQ] at cr
     conv => whnf
     refine CallC.k [(0, 0), (7, 1)] (pick_fn (q.next 12).2 oddT (wk n12.2.1 (by omega)) (by decide) (by decide)) rfl rfl (AVsle.refl _) ⟨MOle.refl _, MOle.arr rfl fun i hi => ?_, trivial⟩ rfl ?_
     · have hi : i < 3 := hi
       rcases (show i = 0 ∨ i = 1 ∨ i = 2 by omega) with rfl | rfl | rfl <;> rfl
     conv => whnf
     refine DrawC.mq 7 rfl (by kernel_rfl) ?_
     refine And.intro (show inI .i64 ((logS (f i).1).seq + 1) from inI64 (by omega) (by omega)) ?_
     refine PCallQ.sca _ (ck) rfl ?_
     refine PCallQ.nl _ (cs _) rfl ?_
     conv => whnf
     conv => whnf
     refine CallC.nl _ (cr) ?_ ?_
     · exact rfl
     conv => whnf
     refine And.intro (inI64 (by omega) (by omega)) ?_
     exact ⟨i + 1, hiM, by omega, [(0, 0), (1, 1), (2, 2), (3, 3)], rfl, rfl, ⟨AVle.refl _, AVle.refl _, AVle.refl _, AVle.refl _, AVle.of_eq (congrArg (AV.int .i64) (show (M : Int) - i - 1 = _ by omega)), trivial⟩, ⟨MOle.of_eq (by rw [hn]; rfl), MOle.refl _, MOle.of_eq (by rw [hn]; rfl), MOle.of_eq (by rw [hn]; rfl), trivial⟩⟩
   · have g : ¬ (q.next 12).1 = 12 - 1 := of_decide_eq_false g
     have eT : lgT r q = r.text := by unfold lgT; rw [if_neg g]
     have eQ : lgQ q = (q.next 12).2 := by unfold lgQ; rw [if_neg g]
     rw [eT, eQ] at hn
     rw [eT, eQ] at cr
     conv => whnf
     refine DrawC.mq 7 rfl (by kernel_rfl) ?_
     refine And.intro (show inI .i64 ((logS (f i).1).seq + 1) from inI64 (by omega) (by omega)) ?_
     refine PCallQ.sca _ (ck) rfl ?_
     refine PCallQ.nl _ (cs _) rfl ?_
     conv => whnf
     conv => whnf
     refine CallC.nl _ (cr) ?_ ?_
     · exact rfl
     conv => whnf
     refine And.intro (inI64 (by omega) (by omega)) ?_
     exact ⟨i + 1, hiM, by omega, [(0, 0), (1, 1), (2, 2), (3, 3)], rfl, rfl, ⟨AVle.refl _, AVle.refl _, AVle.refl _, AVle.refl _, AVle.of_eq (congrArg (AV.int .i64) (show (M : Int) - i - 1 = _ by omega)), trivial⟩, ⟨MOle.of_eq (by rw [hn]; rfl), MOle.refl _, MOle.of_eq (by rw [hn]; rfl), MOle.of_eq (by rw [hn]; rfl), trivial⟩⟩
 · have : i = M := by have := of_decide_eq_false j1; omega
   subst this
   have hsq : (logS (f i).1).seq = (i : Int) := by rw [(log_b (f i).1).1, gl.en]
   have ln := gl.len
   have nx := gl.nxt
   have n0 := ((stoOK_iff _).1 gl.ok).nx
   have ck := l06Key_fn ((logS (f i).1).seq + 3) (by simp [within]; omega)
   rw [show manK ((logS (f i).1).seq + 3) = manK ((i + 3 : Nat) : Int) by rw [hsq]; push_cast; rfl] at ck
   have cs := fun t => l01Set_fn (f i).1 (by omega) ⟨by omega, by omega⟩ (manK ((i + 3 : Nat) : Int)) t
   conv => whnf
   refine CallC.k [(0, 0)] (chance_fn (f i).2 6 (wk gs (by omega)) (by decide)) rfl rfl (AVsle.refl _) ⟨MOle.refl _, trivial⟩ rfl ?_
   conv => whnf
   refine Grd.intro (fun g => ?_) (fun g => ?_)
   · have g : ((f i).2.next 6).1 = 6 - 1 := of_decide_eq_true g
     rw [if_pos g]
     have co := l01Own_fn ((f i).1.set (manK ((i + 3 : Nat) : Int)) [50, 44, 57, 44, 48, 44, 48, 44, 48, 32]) (by have := (gl.fin3 (by omega) (t := [50, 44, 57, 44, 48, 44, 48, 44, 48, 32]) (by decide)).len; omega)
     conv => whnf
     refine DrawC.mq 6 rfl (by kernel_rfl) ?_
     refine And.intro (show inI .i64 ((logS (f i).1).seq + 3) from inI64 (by omega) (by omega)) ?_
     refine PCallQ.sca _ (ck) rfl ?_
     refine PCallQ.nl _ (cs _) rfl ?_
     conv => whnf
     conv => whnf
     refine CallC.nl _ (co) ?_ ?_
     · exact rfl
     exact And.intro trivial ⟨[(0, 0)], rfl, AVle.refl _, ⟨MOle.refl _, trivial⟩⟩
   · have g : ¬ ((f i).2.next 6).1 = 6 - 1 := of_decide_eq_false g
     rw [if_neg g]
     have co := l01Own_fn (f i).1 (by omega)
     conv => whnf
     conv => whnf
     refine CallC.nl _ (co) ?_ ?_
     · exact rfl
     exact And.intro trivial ⟨[(0, 0)], rfl, AVle.refl _, ⟨MOle.refl _, trivial⟩⟩




theorem sameEntries_fn (L : List En) (hL : L.length ≤ 1000000) : VFn Tryz.prog 64 [ents L, ents L] (.bool true) := by
 refine VFn.introC Tryz.call64 Tryz.func64 rfl rfl ?_
 refine Grd.intro (fun h => absurd h (by simp)) (fun _ => ?_)
 refine LoopC.mk (fun i : Nat => i ≤ L.length) (fun i => [(0, ents L), (1, ents L), (5, .int .i64 i)]) (fun i => []) 0 (fun i => L.length - i) 0
  ⟨Nat.zero_le _, [], rfl, rfl, ⟨AVle.refl _, AVle.refl _, AVle.refl _, trivial⟩, trivial⟩ ?_
 intro i hi
 refine Grd.intro (fun h2 => ?_) (fun h2 => ?_)
 · have hin : i < L.length := by have := of_decide_eq_true h2; omega
   refine DrawC.mq 8 rfl (by kernel_rfl) ?_
   refine And.intro (by omega) ?_
   refine And.intro (by omega) ?_
   refine And.intro (by kernel_rfl) ?_
   refine Grd.intro (fun h => absurd h (by simp)) (fun _ => ?_)
   refine And.intro (inI64 (by omega) (by omega)) ?_
   exact ⟨i + 1, hin, by omega, [], rfl, rfl, ⟨AVle.refl _, AVle.refl _, AVle.of_eq (congrArg (AV.int .i64) (by simp)), trivial⟩, trivial⟩
 · exact And.intro trivial (AVle.refl _)
theorem sameState_fn (s : Sta) (h1 : s.es.length ≤ 1000000) (h2 : s.ts.length ≤ 1000000) : VFn Tryz.prog 23 [s.av, s.av] (.bool true) := by
 refine VFn.introC Tryz.call23 Tryz.func23 rfl rfl ?_
 refine Grd.intro (fun h => absurd h (by simp)) (fun _ => ?_)
 refine Grd.intro (fun h => absurd h (by simp)) (fun _ => ?_)
 conv => whnf
 refine OpC.a3neq rfl (by kernel_rfl) rfl rfl rfl ?_
 refine Grd.intro (fun h => absurd h (by simp)) (fun _ => ?_)
 conv => whnf
 refine OpC.a3neq rfl (by kernel_rfl) rfl rfl rfl ?_
 refine Grd.intro (fun h => absurd h (by simp)) (fun _ => ?_)
 conv => whnf
 refine CallC.sca _ (sameEntries_fn s.es h1) ?_ ?_
 · exact rfl
 refine Grd.intro (fun h => absurd h (by simp)) (fun _ => ?_)
 refine LoopC.mk (fun i : Nat => i ≤ s.ts.length) (fun i => [(2, .bptr 0 0), (3, .bptr 1 0), (5, .int .i64 i)]) (fun i => [(0, .box s.row), (1, .box s.row)]) 2 (fun i => s.ts.length - i) 0
  ⟨Nat.zero_le _, [(0, 0), (1, 1)], rfl, rfl, ⟨AVle.refl _, AVle.refl _, AVle.refl _, trivial⟩, ⟨MOle.refl _, MOle.refl _, trivial⟩⟩ ?_
 intro i hi
 refine Grd.intro (fun g2 => ?_) (fun g2 => ?_)
 · have hin : i < s.ts.length := by have := of_decide_eq_true g2; omega
   refine DrawC.mq 10 rfl (by kernel_rfl) ?_
   refine And.intro (by omega) ?_
   refine And.intro (by omega) ?_
   refine And.intro (by kernel_rfl) ?_
   refine Grd.intro (fun h => absurd h (by simp)) (fun _ => ?_)
   refine And.intro (inI64 (by omega) (by omega)) ?_
   exact ⟨i + 1, hin, by omega, [(0, 0), (1, 1)], rfl, rfl, ⟨AVle.refl _, AVle.refl _, AVle.of_eq (congrArg (AV.int .i64) (by simp)), trivial⟩, ⟨MOle.refl _, MOle.refl _, trivial⟩⟩
 · exact And.intro trivial (AVle.refl _)
theorem ApplyRecordF (s : Sta) (r : Rc) {i : Nat} (h : Dr i s) (hi : i ≤ 4000) (hr : r.ok = true) : VFn Tryz.prog 29 [s.av, r.av] (.tup [(s.app r).av, .bool (s.takes r), .int .i64 0]) := by
 obtain ⟨k1, k2, k3, k4⟩ := h
 have hO := (staOK_iff s).1 k1
 have hl := appL_len s r
 have c1 := StateOK_fn s (by omega) (by omega)
 have c2 := RecordOK_fn r
 rw [k1] at c1
 rw [hr] at c2
 refine VFn.introC Tryz.call29 Tryz.func29 rfl rfl ?_
 conv => whnf
 refine CallC.sca _ (c1) ?_ ?_
 · exact rfl
 conv => whnf
 refine CallC.sca _ (c2) ?_ ?_
 · exact rfl
 conv => whnf
 refine CallC.nl _ (apply_frz s (by omega) ⟨hO.q.1, by omega⟩ r hr) ?_ ?_
 · exact rfl
 conv => whnf
 refine CallC.nl _ ((copiedS_own (s.app r) (by omega) (by omega)).vfn) ?_ ?_
 · exact rfl
 exact And.intro trivial (AVle.refl _)




instance : Inhabited Ag := ⟨⟨0, 0, 0, 0, 0, 0⟩⟩
structure Wk where
 id : Int
 ph : Int
 tok : Int
 job : Rc
 ins : List En
 got : Ag
instance : Inhabited Wk := ⟨⟨0, 0, 0, default, [], default⟩⟩
def Wk.size (e : Wk) : Nat := e.job.key.length + (e.ins.length + sumL En.size e.ins)
structure Ig where
 id : Int
 seq : Int
 f : Int
 t : Int
 b : List Smp
 put : Bool
instance : Inhabited Ig := ⟨⟨0, 0, 0, 0, [], false⟩⟩
def Ig.size (e : Ig) : Nat := e.b.length
structure Rr where
 id : Int
 ph : Int
 tier : Int
 f : Int
 t : Int
 til : Int
 code : Int
 left : List En
 got : Ag
instance : Inhabited Rr := ⟨⟨0, 0, 0, 0, 0, 0, 0, [], default⟩⟩
def Rr.size (e : Rr) : Nat := e.left.length + sumL En.size e.left
structure An where
 tier : Int
 f : Int
 t : Int
 code : Int
 a : Ag
instance : Inhabited An := ⟨⟨0, 0, 0, 0, default⟩⟩
structure Fl where
 st : Sto
 clk : Int
 k0 : Int
 k1 : Int
 k2 : Int
 k3 : Int
 k4 : Int
 k5 : Int
 k6 : Int
 ws : List Wk
 gs : List Ig
 rs : List Rr
 ac : List Smp
 an : List An
def gotOK (a : Ag) : Bool := a.ok && decide (a.c ≤ 1000)
def Wk.ok (w : Wk) : Bool := within w.id 0 9 && (within w.ph 0 7 && (within w.tok 0 999999 && (!(decide (2 ≤ w.ph) && decide (w.tok = 0)) && ((!within w.ph 4 6 || (w.job.ok && (decide (w.job.tok = w.tok) && (decide (w.job.k = 3) || (decide (w.ph = 6) && decide (w.job.k = 4)))))) && (decide ((w.ins.length : Int) ≤ 300) && (w.ins.all En.ok && gotOK w.got))))))


end Go.Proofs.YtnplgeogieoioaaGreatDoor
