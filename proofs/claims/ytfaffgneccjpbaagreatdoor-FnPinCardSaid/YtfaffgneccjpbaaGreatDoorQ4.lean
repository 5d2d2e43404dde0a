/- Contracts of functions that the claim reaches, and the plain law of what they compute; each theorem bears its own conditions. -/
import Derived.Test.YtfaffgneccjpbaaGreatDoorQ3
import Derived.Test.YtfaffgneccjpbaaGreatDoorQ1
import Derived.WalkSmall
import Derived.Test.YtfaffgneccjpbaaGreatDoorQ2
import Derived.Test.YtfaffgneccjpbaaGreatDoorV50
set_option linter.unusedVariables false
set_option linter.constructorNameAsVariable false
set_option linter.unusedSimpArgs false
set_option maxRecDepth 20000
namespace Go.Proofs.YtfaffgneccjpbaaGreatDoor
open Go Go.Vw

theorem fi_first {α : Type} [Inhabited α] (p : α → Bool) (L : List α) : (fi p L = -1 ∧ ∀ j, j < L.length → p (ix L j) = false) ∨ ∃ i : Nat, i < L.length ∧ fi p L = (i : Int) ∧ p (ix L i) = true ∧ ∀ j, j < i → p (ix L j) = false := by
  by_cases h : ∃ i, i < L.length ∧ p (ix L i) = true
  · obtain ⟨i, hi, hp⟩ := h
    have : ∃ i, (i < L.length ∧ p (ix L i) = true) ∧ ∀ j, j < i → p (ix L j) = false := by
      induction i using Nat.strongRecOn with
      | _ i ih =>
        by_cases h' : ∃ j, j < i ∧ p (ix L j) = true
        · obtain ⟨j, hj, hq⟩ := h'
          exact ih j hj (by omega) hq
        · exact ⟨i, ⟨hi, hp⟩, fun j hj => by
            cases hq : p (ix L j)
            · rfl
            · exact absurd ⟨j, hj, hq⟩ h'⟩
    obtain ⟨i, ⟨hi, hp⟩, hl⟩ := this
    exact .inr ⟨i, hi, fi_at hi hl hp, hp, hl⟩
  · have hn : ∀ i, i < L.length → p (ix L i) = false := fun i hi => by
      cases hq : p (ix L i)
      · rfl
      · exact absurd ⟨i, hi, hq⟩ h
    exact .inl ⟨fi_none hn, hn⟩
/-- a text without the sign, or cut at the first one -/
theorem readR_none {t : List UInt8} (h : ∀ x ∈ t, x ≠ 32) : readR t = none := by
  unfold readR
  rw [cutP_none 32 t [] h]; rfl
theorem readR_at {a b : List UInt8} (ha : ∀ x ∈ a, x ≠ 32) : (∀ k tok tier f e, numsK 44 5 a = some [k, tok, tier, f, e] → readR (a ++ 32 :: b) = if Rc.ok ⟨k, tok, tier, f, e, b⟩ = true then some ⟨k, tok, tier, f, e, b⟩ else none) ∧ (numsK 44 5 a = none → readR (a ++ 32 :: b) = none) := by
  have hc := cutP_app 32 a [] b ha
  have hb := first_c 32 b
  unfold readR readP
  rw [hc]
  constructor
  · intro k tok tier f e hN
    rcases hb with hb | ⟨c, d, rfl, hcn⟩
    · rw [cutP_none 32 b [] hb]
      simp only [List.nil_append]
      rw [hN]
    · rw [cutP_app 32 c [] d hcn]
      obtain ⟨q, qs, hq⟩ : ∃ q qs, cutP 32 [] d = q :: qs := by
        have := (cutP_len 32 d []).1
        cases h : cutP 32 [] d with
        | nil => rw [h] at this; simp at this
        | cons q qs => exact ⟨q, qs, rfl⟩
      rw [hq]
      have hno : ¬ Rc.ok ⟨k, tok, tier, f, e, c ++ 32 :: d⟩ = true := fun h => by
        have hk : kOk (c ++ 32 :: d) = true := by
          unfold Rc.ok at h
          split at h
          · simp [Rc.en, En.ok] at h; exact h.2.2.1
          split at h
          · simp at h
          split at h
          · simp [Rc.en, En.ok] at h; exact h.2.2.1
          split at h
          · simp [Rc.en, En.ok] at h; exact h.2.1
          split at h
          · simp at h; exact h.2.2
          · cases h
        unfold kOk at hk
        cases hp : parseKey (c ++ 32 :: d) with
        | none => rw [hp] at hk; cases hk
        | some z =>
          obtain ⟨u, n, w⟩ := z
          obtain ⟨e1, ht, hn, hw⟩ := key_parse hp
          have : (32 : UInt8) ∈ keyB u n w := by rw [← e1]; simp
          have h3 : u = 0 ∨ u = 1 ∨ u = 2 := by omega
          have hd : ∀ m, (32 : UInt8) ∉ six6 m := fun m hm => six6_ne (n := m) (c := 32) (by decide) 32 hm rfl
          have hs : ∀ p : List UInt8, (32 : UInt8) ∉ p → (32 : UInt8) ∈ p ++ (six6 n ++ 45 :: six6 w) → False := fun p h1 h2 => by
            rcases List.mem_append.1 h2 with h | h
            · exact h1 h
            rcases List.mem_append.1 h with h | h
            · exact hd n h
            rcases List.mem_cons.1 h with h | h
            · exact absurd h (by decide)
            · exact hd w h
          unfold keyB at this
          rcases h3 with rfl | rfl | rfl <;> exact hs _ (by decide) this
      rw [if_neg hno]
  · intro hN
    rcases hb with hb | ⟨c, d, rfl, hcn⟩
    · rw [cutP_none 32 b [] hb]
      simp only [List.nil_append]
      rw [hN]
    · rw [cutP_app 32 c [] d hcn]
      obtain ⟨q, qs, hq⟩ : ∃ q qs, cutP 32 [] d = q :: qs := by
        have := (cutP_len 32 d []).1
        cases h : cutP 32 [] d with
        | nil => rw [h] at this; simp at this
        | cons q qs => exact ⟨q, qs, rfl⟩
      rw [hq]
theorem nums5 {t : List UInt8} {N : List Int} (h : numsK 44 5 t = some N) : ∃ a b c d e, N = [a, b, c, d, e] := by
  unfold numsK at h
  split at h
  · rename_i h1
    cases h
    have hl : ((cutP 44 [] t).map atoiV).length = 5 := by rw [List.length_map]; exact h1.1
    generalize (cutP 44 [] t).map atoiV = L at hl
    match L, hl with
    | [a, b, c, d, e], _ => exact ⟨a, b, c, d, e, rfl⟩
  · cases h
end Go.Proofs.YtfaffgneccjpbaaGreatDoor
set_option linter.unusedVariables false
set_option linter.constructorNameAsVariable false
set_option linter.unusedSimpArgs false
set_option maxRecDepth 20000
namespace Go.Proofs.YtfaffgneccjpbaaGreatDoor
open Go Go.Vw

theorem Cut_fn (s : List UInt8) (c : UInt8) (hl : s.length ≤ 1000000000) : VFn Tryz.prog 137 [.str (B s), .str (B [c])] (.tup [.str (B (Lib.cut s [c]).1), .str (B (Lib.cut s [c]).2.1), .bool (Lib.cut s [c]).2.2]) := by
  refine VFn.lib Tryz.call137 fun w ok vs hJ hok hv => ?_
  obtain ⟨v, us, rfl, hv, v2, us2, rfl, hv2, hus⟩ := hv
  have e1 : v = .string (B s) := hv
  have e2 : v2 = .string (B [c]) := hv2
  have e3 : us2 = [] := hus
  subst e1 e2 e3
  obtain ⟨mv, hmv⟩ := tab_maxlen hJ
  refine (Tryz.strings_Cut (B s) (B [c]) mv w (by rw [B_size]; omega) hmv).mono ?_
  rintro e w' ⟨rfl, n, rfl⟩
  refine ⟨_, rfl, ⟨rfl, rfl, rfl, Nat.le_refl _, fun _ _ => rfl⟩, fun _ _ => ⟨[_, _, _], rfl, _, _, rfl, ?_, _, _, rfl, ?_, _, _, rfl, ?_, rfl⟩⟩
  · show Value.string _ = _
    rw [B_data, B_data]; rfl
  · show Value.string _ = _
    rw [B_data, B_data]; rfl
  · show Value.bool _ = _
    rw [B_data, B_data]
theorem cut_none {s : List UInt8} {c : UInt8} (h : ∀ x ∈ s, x ≠ c) : Lib.cut s [c] = (s, [], false) := by
  unfold Lib.cut; rw [index_none c s h]; rfl
theorem cut_at {a b : List UInt8} {c : UInt8} (h : ∀ x ∈ a, x ≠ c) : Lib.cut (a ++ c :: b) [c] = (a, b, true) := by
  unfold Lib.cut; rw [index_at c a b h]
  rw [if_pos (by omega)]
  simp
theorem readRecord_none (t : List UInt8) (hl : t.length ≤ 1000000) (h : ∀ x ∈ t, x ≠ 32) : VFn Tryz.prog 123 [.str (B t)] (.tup [(default : Rc).av, .bool false]) := by
  have c := Cut_fn t 32 (by omega)
  rw [cut_none h] at c
  refine VFn.introC Tryz.call123 Tryz.func123 rfl rfl ?_
  conv => whnf
  refine CallC.sca _ (c) ?_ ?_
  · exact rfl
  cases hn : numsK 44 5 t with
  | none =>
    conv => whnf
    refine CallC.nl _ (numbers_no t 44 5 (by omega) (by decide) hn) ?_ ?_
    · exact rfl
    exact And.intro trivial (AVle.refl _)
  | some N =>
    conv => whnf
    refine CallC.nl _ (numbers_yes t 44 5 (by omega) (by decide) hn) ?_ ?_
    · exact rfl
    exact And.intro trivial (AVle.refl _)
theorem readRecord_cut (a b : List UInt8) (hl : (a ++ 32 :: b).length ≤ 1000000) (ha : ∀ x ∈ a, x ≠ 32) : (∀ k tok tier f e, numsK 44 5 a = some [k, tok, tier, f, e] → VFn Tryz.prog 123 [.str (B (a ++ 32 :: b))] (.tup [(Rc.mk k tok tier f e b).av, .bool (Rc.ok ⟨k, tok, tier, f, e, b⟩)])) ∧
    (numsK 44 5 a = none → VFn Tryz.prog 123 [.str (B (a ++ 32 :: b))] (.tup [(default : Rc).av, .bool false])) := by
  have c := Cut_fn (a ++ 32 :: b) 32 (by omega)
  rw [cut_at ha] at c
  have hal : a.length ≤ 1000000 := by rw [List.length_append] at hl; omega
  constructor
  · intro k tok tier f e hn
    have ct := RecordOK_fn ⟨k, tok, tier, f, e, b⟩
    refine VFn.introC Tryz.call123 Tryz.func123 rfl rfl ?_
    conv => whnf
    refine CallC.sca _ (c) ?_ ?_
    · exact rfl
    conv => whnf
    refine CallC.nl _ (numbers_yes a 44 5 (by omega) (by decide) hn) ?_ ?_
    · exact rfl
    refine DrawC.mkK 19 [(.inr 17, 18)] rfl (by kernel_rfl) ?_
    refine And.intro rfl ?_
    refine And.intro ⟨by decide, show (0 : Int) < 5 by decide⟩ ?_
    refine And.intro ⟨by decide, show (1 : Int) < 5 by decide⟩ ?_
    refine And.intro ⟨by decide, show (2 : Int) < 5 by decide⟩ ?_
    refine And.intro ⟨by decide, show (3 : Int) < 5 by decide⟩ ?_
    refine And.intro ⟨by decide, show (4 : Int) < 5 by decide⟩ ?_
    refine DrawC.mkK 5 [(.inl 0, 3)] rfl (by kernel_rfl) ?_
    refine And.intro rfl ?_
    conv => whnf
    refine PCallK.sca _ (ct) rfl ?_
    exact And.intro trivial (AVle.refl _)
  · intro hn
    refine VFn.introC Tryz.call123 Tryz.func123 rfl rfl ?_
    conv => whnf
    refine CallC.sca _ (c) ?_ ?_
    · exact rfl
    conv => whnf
    refine CallC.nl _ (numbers_no a 44 5 (by omega) (by decide) hn) ?_ ?_
    · exact rfl
    exact And.intro trivial (AVle.refl _)
theorem readRecord_yes (t : List UInt8) (hl : t.length ≤ 1000000) {r : Rc} (h : readR t = some r) : VFn Tryz.prog 123 [.str (B t)] (.tup [r.av, .bool true]) := by
  rcases first_c 32 t with h1 | ⟨a, b, rfl, ha⟩
  · rw [readR_none h1] at h; cases h
  · obtain ⟨r1, r2⟩ := readR_at (b := b) ha
    obtain ⟨c1, c2⟩ := readRecord_cut a b hl ha
    cases hn : numsK 44 5 a with
    | none => rw [r2 hn] at h; cases h
    | some N =>
      obtain ⟨k, tok, tier, f, e, rfl⟩ := nums5 hn
      rw [r1 _ _ _ _ _ hn] at h
      split at h
      · rename_i hok
        cases h
        have := c1 _ _ _ _ _ hn
        rw [hok] at this; exact this
      · cases h
theorem readRecord_no (t : List UInt8) (hl : t.length ≤ 1000000) (h : readR t = none) : ∃ r : Rc, VFn Tryz.prog 123 [.str (B t)] (.tup [r.av, .bool false]) := by
  rcases first_c 32 t with h1 | ⟨a, b, rfl, ha⟩
  · exact ⟨_, readRecord_none t hl h1⟩
  · obtain ⟨r1, r2⟩ := readR_at (b := b) ha
    obtain ⟨c1, c2⟩ := readRecord_cut a b hl ha
    cases hn : numsK 44 5 a with
    | none => exact ⟨_, c2 hn⟩
    | some N =>
      obtain ⟨k, tok, tier, f, e, rfl⟩ := nums5 hn
      rw [r1 _ _ _ _ _ hn] at h
      split at h
      · cases h
      · rename_i hok
        have := c1 _ _ _ _ _ hn
        rw [show Rc.ok ⟨k, tok, tier, f, e, b⟩ = false by simpa using hok] at this
        exact ⟨_, this⟩
end Go.Proofs.YtfaffgneccjpbaaGreatDoor
set_option linter.unusedVariables false
set_option linter.constructorNameAsVariable false
set_option linter.unusedSimpArgs false
set_option maxRecDepth 20000
namespace Go.Proofs.YtfaffgneccjpbaaGreatDoor
open Go Go.Vw

theorem nums6 {c : UInt8} {t : List UInt8} {N : List Int} (h : numsK c 6 t = some N) : ∃ a b d e f g, N = [a, b, d, e, f, g] := by
  unfold numsK at h
  split at h
  · rename_i hc
    injection h with h
    have : N.length = 6 := by rw [← h, List.length_map]; exact hc.1
    match N, this with
    | [a, b, d, e, f, g], _ => exact ⟨a, b, d, e, f, g, rfl⟩
  · cases h
def agV (t : List UInt8) : Ag := match numsK 44 6 t with | some [a, b, c, d, e, f] => ⟨a, b, c, d, e, f⟩ | _ => ⟨0, 0, 0, 0, 0, 0⟩
def agOk (t : List UInt8) : Bool := (numsK 44 6 t).isSome && (agV t).ok
def bOk (w : List UInt8) : Bool := (Lib.cut w [58]).2.2 && (numOk (Lib.cut w [58]).1 && agOk (Lib.cut w [58]).2.1)
def bv (w : List UInt8) : Bk := ⟨atoiV (Lib.cut w [58]).1, agV (Lib.cut w [58]).2.1⟩
theorem cutP_has (c x : UInt8) (hx : x ≠ c) : ∀ (l cur : List UInt8), x ∈ cur ∨ x ∈ l → ∃ p ∈ cutP c cur l, x ∈ p
  | [], cur, h => ⟨cur, by simp [cutP], by rcases h with h | h; exact h; cases h⟩
  | y :: r, cur, h => by
    unfold cutP
    split
    · rename_i hy
      rcases h with h | h
      · exact ⟨cur, by simp, h⟩
      · rcases List.mem_cons.1 h with rfl | h
        · exact absurd (by simpa using hy) hx
        · obtain ⟨p, hp, q⟩ := cutP_has c x hx r [] (.inr h)
          exact ⟨p, List.mem_cons_of_mem _ hp, q⟩
    · obtain ⟨p, hp, q⟩ := cutP_has c x hx r (cur ++ [y]) (by
        rcases h with h | h
        · exact .inl (by simp [h])
        · rcases List.mem_cons.1 h with rfl | h
          · exact .inl (by simp)
          · exact .inr h)
      exact ⟨p, hp, q⟩
def rbOk (t : List UInt8) : Bool := (wds t).all bOk && bksOK ((wds t).map bv)
def rbV (t : List UInt8) : List Bk := (wds t).map bv
theorem join_has {c x : UInt8} : ∀ {L : List (List UInt8)}, x ∈ Lib.join L [c] → x = c ∨ ∃ y ∈ L, x ∈ y
  | [], h => by simp [Lib.join, List.intercalate] at h
  | [a], h => by rw [Lib.join_one] at h; exact .inr ⟨a, by simp, h⟩
  | a :: b :: r, h => by
    have e : Lib.join (a :: b :: r) [c] = a ++ c :: Lib.join (b :: r) [c] := by simp [Lib.join, List.intercalate, List.intersperse]
    rw [e, List.mem_append, List.mem_cons] at h
    rcases h with h | rfl | h
    · exact .inr ⟨a, by simp, h⟩
    · exact .inl rfl
    · rcases join_has h with h | ⟨y, hy, q⟩
      · exact .inl h
      · exact .inr ⟨y, List.mem_cons_of_mem _ hy, q⟩
end Go.Proofs.YtfaffgneccjpbaaGreatDoor
set_option linter.unusedVariables false
set_option linter.constructorNameAsVariable false
set_option linter.unusedSimpArgs false
set_option maxRecDepth 20000
namespace Go.Proofs.YtfaffgneccjpbaaGreatDoor
open Go Go.Vw

structure Src where
  code : List UInt8
  at_ : Int
  seed : Int
abbrev byts (L : List UInt8) : AV := .sl 1 L.length fun i => [.int .u8 ((ix L i).toNat : Int)]
def Src.row (s : Src) : List AV := [byts s.code, .int .i64 s.at_, .int .i64 s.seed]
def Src.ok (s : Src) (k : Int) : Prop := (0 ≤ s.at_ ∧ s.at_ ≤ k) ∧ (0 ≤ s.seed ∧ s.seed < 2147483648) ∧ s.code.length ≤ 1000000000
def Src.chr (s : Src) : Int := (ix s.code (s.at_ + 1 - 1).toNat).toNat
def Src.sd (s : Src) : Int := (s.seed * 1103515245 + 12345).tmod 2147483648
def Src.byte (s : Src) : Int × Src :=
  if s.at_ + 1 ≤ s.code.length then (s.chr, { s with at_ := s.at_ + 1, seed := (s.seed * 31 + s.chr + 7).tmod 2147483648 })
  else if 3000 < s.at_ + 1 then (0, { s with at_ := s.at_ + 1 })
  else ((s.sd.tdiv 65536).tmod 256, { s with at_ := s.at_ + 1, seed := s.sd })
theorem tmod_b {n m : Int} (h : 0 ≤ n) (hm : 0 < m) : 0 ≤ n.tmod m ∧ n.tmod m < m := by
  rw [Int.tmod_eq_emod_of_nonneg h]
  exact ⟨Int.emod_nonneg _ (by omega), Int.emod_lt_of_pos _ hm⟩
theorem tdiv_b {n : Int} {m : Int} (h : 0 ≤ n) (hm : 0 < m) : 0 ≤ n.tdiv m ∧ n.tdiv m ≤ n := by
  rw [Int.tdiv_eq_ediv_of_nonneg h]
  exact ⟨Int.ediv_nonneg h (by omega), Int.ediv_le_self _ h⟩
theorem chr_b (s : Src) : 0 ≤ s.chr ∧ s.chr ≤ 255 := by
  unfold Src.chr
  have := (ix s.code (s.at_ + 1 - 1).toNat).toNat_lt
  omega
theorem byte_b (s : Src) {k : Int} (h : s.ok k) : (0 ≤ s.byte.1 ∧ s.byte.1 ≤ 255) ∧ s.byte.2.ok (k + 1) ∧ s.byte.2.code = s.code := by
  obtain ⟨⟨a0, a1⟩, ⟨s0, s1⟩, hc⟩ := h
  have hch := chr_b s
  have hsd := tmod_b (n := s.seed * 1103515245 + 12345) (m := 2147483648) (by omega) (by omega)
  unfold Src.byte
  split
  · refine ⟨hch, ⟨⟨by simp only; omega, by simp only; omega⟩, ?_, hc⟩, rfl⟩
    exact tmod_b (by omega) (by omega)
  · split
    · exact ⟨by simp, ⟨⟨by simp only; omega, by simp only; omega⟩, ⟨s0, s1⟩, hc⟩, rfl⟩
    · refine ⟨?_, ⟨⟨by simp only; omega, by simp only; omega⟩, hsd, hc⟩, rfl⟩
      have h1 := tdiv_b (n := s.sd) (m := 65536) hsd.1 (by omega)
      have h2 := tmod_b (n := s.sd.tdiv 65536) (m := 256) h1.1 (by omega)
      simp only; omega
theorem byte_fn (s : Src) (h : s.ok 1000000000) : FnM Tryz.prog 118 1 [.bptr 0 0] [(0, .box s.row)] (.int .i64 s.byte.1) [(0, .box s.byte.2.row)] 1 := by
  have h' := h
  obtain ⟨⟨a0, a1⟩, ⟨s0, s1⟩, hc⟩ := h
  have hch := chr_b s
  have hsd := tmod_b (n := s.seed * 1103515245 + 12345) (m := 2147483648) (by omega) (by omega)
  obtain ⟨R, hR⟩ : ∃ R, R = s.byte := ⟨_, rfl⟩
  rw [← hR]
  refine FnM.introC Tryz.call118 Tryz.func118 rfl rfl ?_
  refine And.intro (inI64 (by omega) (by omega)) ?_
  refine DrawC.mk 10 rfl (by kernel_rfl) ?_
  refine Grd.intro (fun g1 => ?_) (fun g1 => ?_)
  · have g1 : s.at_ + 1 ≤ s.code.length := of_decide_eq_true g1
    have hR' : R = (s.chr, { s with at_ := s.at_ + 1, seed := (s.seed * 31 + s.chr + 7).tmod 2147483648 }) := by rw [hR, Src.byte, if_pos g1]
    refine DrawC.mk 23 rfl (by kernel_rfl) ?_
    refine And.intro (inI64 (by omega) (by omega)) ?_
    refine And.intro (inI64 (by omega) (by omega)) ?_
    refine And.intro ⟨by omega, by omega⟩ ?_
    refine And.intro (show inI .i64 s.chr from inI64 (by omega) (by omega)) ?_
    refine And.intro (show inI .i64 (s.seed * 31 + s.chr) from inI64 (by omega) (by omega)) ?_
    refine And.intro (show inI .i64 (s.seed * 31 + s.chr + 7) from inI64 (by omega) (by omega)) ?_
    refine And.intro (by decide) ?_
    refine DrawC.mk 13 rfl (by kernel_rfl) ?_
    refine And.intro (inI64 (by omega) (by omega)) ?_
    refine And.intro ⟨by omega, by omega⟩ ?_
    refine And.intro (show inI .i64 s.chr from inI64 (by omega) (by omega)) ?_
    subst hR'
    exact And.intro trivial ⟨[(0, 0)], rfl, AVle.refl _, ⟨MOle.refl _, trivial⟩⟩
  · have g1 : ¬ s.at_ + 1 ≤ s.code.length := of_decide_eq_false g1
    refine Grd.intro (fun g2 => ?_) (fun g2 => ?_)
    · have g2 : 3000 < s.at_ + 1 := of_decide_eq_true g2
      have hR' : R = (0, { s with at_ := s.at_ + 1 }) := by rw [hR, Src.byte, if_neg g1, if_pos g2]
      subst hR'
      exact And.intro trivial ⟨[(0, 0)], rfl, AVle.refl _, ⟨MOle.refl _, trivial⟩⟩
    · have g2 : ¬ 3000 < s.at_ + 1 := of_decide_eq_false g2
      have hR' : R = ((s.sd.tdiv 65536).tmod 256, { s with at_ := s.at_ + 1, seed := s.sd }) := by rw [hR, Src.byte, if_neg g1, if_neg g2]
      refine And.intro (inI64 (by omega) (by omega)) ?_
      refine And.intro (inI64 (by omega) (by omega)) ?_
      refine And.intro (by decide) ?_
      have h1 := tdiv_b (n := s.sd) (m := 65536) hsd.1 (by omega)
      have hsd' : 0 ≤ s.sd ∧ s.sd < 2147483648 := hsd
      refine And.intro ⟨by decide, show inI .i64 (s.sd.tdiv 65536) from inI64 (by omega) (by omega)⟩ ?_
      refine And.intro (by decide) ?_
      subst hR'
      exact And.intro trivial ⟨[(0, 0)], rfl, AVle.refl _, ⟨MOle.refl _, trivial⟩⟩
def Src.next (s : Src) (n : Int) : Int × Src :=
  if n ≤ 1 then (0, s)
  else if n ≤ 256 then (s.byte.1.tmod n, s.byte.2)
  else ((s.byte.1 * 65536 + s.byte.2.byte.1 * 256 + s.byte.2.byte.2.byte.1).tmod n, s.byte.2.byte.2.byte.2)
theorem next_b (s : Src) {k : Int} (h : s.ok k) (hk : 0 ≤ k) (n : Int) : (0 ≤ (s.next n).1 ∧ (1 ≤ n → (s.next n).1 < n)) ∧ (s.next n).2.ok (k + 3) ∧ (s.next n).2.code = s.code := by
  have h1 := byte_b s h
  have h2 := byte_b s.byte.2 h1.2.1
  have h3 := byte_b s.byte.2.byte.2 h2.2.1
  have w : ∀ (x : Src) (a b : Int), x.ok a → a ≤ b → x.ok b := fun x a b hx hab => ⟨⟨hx.1.1, by have := hx.1.2; omega⟩, hx.2⟩
  unfold Src.next
  split
  · exact ⟨⟨by simp, fun _ => by simp only; omega⟩, w s k _ h (by omega), rfl⟩
  · split
    · have := tmod_b (n := s.byte.1) (m := n) h1.1.1 (by omega)
      exact ⟨⟨this.1, fun _ => this.2⟩, w _ _ _ h1.2.1 (by omega), h1.2.2⟩
    · have := tmod_b (n := s.byte.1 * 65536 + s.byte.2.byte.1 * 256 + s.byte.2.byte.2.byte.1) (m := n) (by omega) (by omega)
      exact ⟨⟨this.1, fun _ => this.2⟩, w _ _ _ h3.2.1 (by omega), h3.2.2.trans (h2.2.2.trans h1.2.2)⟩
theorem next_fn (s : Src) (n : Int) (h : s.ok 100000000) : FnM Tryz.prog 68 1 [.bptr 0 0, .int .i64 n] [(0, .box s.row)] (.int .i64 (s.next n).1) [(0, .box (s.next n).2.row)] 1 := by
  have h1 := byte_b s h
  have h2 := byte_b s.byte.2 h1.2.1
  have h3 := byte_b s.byte.2.byte.2 h2.2.1
  have w : ∀ (x : Src) (a : Int), x.ok a → a ≤ 1000000000 → x.ok 1000000000 := fun x a hx hab => ⟨⟨hx.1.1, by have := hx.1.2; omega⟩, hx.2⟩
  obtain ⟨R, hR⟩ : ∃ R, R = s.next n := ⟨_, rfl⟩
  rw [← hR]
  refine FnM.introC Tryz.call68 Tryz.func68 rfl rfl ?_
  refine Grd.intro (fun g1 => ?_) (fun g1 => ?_)
  · have g1 : n ≤ 1 := of_decide_eq_true g1
    rw [Src.next, if_pos g1] at hR
    subst hR
    exact And.intro trivial ⟨[(0, 0)], rfl, AVle.refl _, ⟨MOle.refl _, trivial⟩⟩
  have g1 : ¬ n ≤ 1 := of_decide_eq_false g1
  refine Grd.intro (fun g2 => ?_) (fun g2 => ?_)
  · have g2 : n ≤ 256 := of_decide_eq_true g2
    rw [Src.next, if_neg g1, if_pos g2] at hR
    conv => whnf
    refine CallC.k [(0, 0)] (byte_fn s (w _ _ h (by omega))) rfl rfl (AVsle.refl _) ⟨MOle.refl _, trivial⟩ rfl ?_
    refine And.intro (show n ≠ 0 by omega) ?_
    subst hR
    exact And.intro trivial ⟨[(0, 0)], rfl, AVle.refl _, ⟨MOle.refl _, trivial⟩⟩
  have g2 : ¬ n ≤ 256 := of_decide_eq_false g2
  rw [Src.next, if_neg g1, if_neg g2] at hR
  conv => whnf
  refine CallC.k [(0, 0)] (byte_fn s (w _ _ h (by omega))) rfl rfl (AVsle.refl _) ⟨MOle.refl _, trivial⟩ rfl ?_
  conv => whnf
  refine CallC.k [(0, 0)] (byte_fn s.byte.2 (w _ _ h1.2.1 (by omega))) rfl rfl (AVsle.refl _) ⟨MOle.refl _, trivial⟩ rfl ?_
  conv => whnf
  refine CallC.k [(0, 0)] (byte_fn s.byte.2.byte.2 (w _ _ h2.2.1 (by omega))) rfl rfl (AVsle.refl _) ⟨MOle.refl _, trivial⟩ rfl ?_
  refine And.intro (inI64 (by omega) (by omega)) ?_
  refine And.intro (inI64 (by omega) (by omega)) ?_
  refine And.intro (inI64 (by omega) (by omega)) ?_
  refine And.intro (inI64 (by omega) (by omega)) ?_
  refine And.intro (show n ≠ 0 by omega) ?_
  subst hR
  exact And.intro trivial ⟨[(0, 0)], rfl, AVle.refl _, ⟨MOle.refl _, trivial⟩⟩
end Go.Proofs.YtfaffgneccjpbaaGreatDoor
set_option linter.unusedVariables false
set_option linter.constructorNameAsVariable false
set_option linter.unusedSimpArgs false
set_option maxRecDepth 20000
namespace Go.Proofs.YtfaffgneccjpbaaGreatDoor
open Go Go.Vw

abbrev SS := List Smp × Int × Src
def smpStep (x : SS) : SS :=
  let f := x.2.1 + (x.2.2.next 4).1
  let a := (x.2.2.next 4).2.next 40
  let b := a.2.next 12
  let c := b.2.next 2
  let v := if b.1.tdiv 10 * (1 + c.1) = 0 then a.1 - 10 else if b.1.tdiv 10 * (1 + c.1) = 1 then 1000000 else -1000000
  (x.1 ++ [⟨f, v⟩], f + 1, c.2)
def smpIt : Nat → SS → SS
  | 0, x => x
  | k + 1, x => smpStep (smpIt k x)
def SSok (x : SS) (n : Nat) (k : Int) : Prop := x.1.length = n ∧ (∀ e ∈ x.1, -1000000 ≤ e.v ∧ e.v ≤ 1000000) ∧ x.2.2.ok k ∧ (0 ≤ x.2.1 ∧ x.2.1 ≤ k)
theorem wk {x : Src} {a b : Int} (hx : x.ok a) (h : a ≤ b) : x.ok b := ⟨⟨hx.1.1, by have := hx.1.2; omega⟩, hx.2⟩
theorem step_ok {x : SS} {n : Nat} {k : Int} (h : SSok x n k) (hk : 0 ≤ k) : SSok (smpStep x) (n + 1) (k + 12) := by
  obtain ⟨h1, h2, h3, h4⟩ := h
  have n1 := next_b x.2.2 h3 hk 4
  have n2 := next_b (x.2.2.next 4).2 n1.2.1 (by omega) 40
  have n3 := next_b ((x.2.2.next 4).2.next 40).2 n2.2.1 (by omega) 12
  have n4 := next_b (((x.2.2.next 4).2.next 40).2.next 12).2 n3.2.1 (by omega) 2
  have a1 := n1.1.2 (by omega)
  have a2 := n2.1.2 (by omega)
  unfold smpStep
  refine ⟨by simp [h1], fun e he => ?_, wk n4.2.1 (by omega), by simp only; omega⟩
  simp only [List.mem_append, List.mem_cons, List.not_mem_nil, or_false] at he
  rcases he with he | he
  · exact h2 e he
  · subst he
    simp only
    have := n2.1.1
    split
    · omega
    · split <;> omega
theorem it_ok {x : SS} {k : Int} (h : SSok x 0 k) (hk : 0 ≤ k) : ∀ n, SSok (smpIt n x) n (k + 12 * n)
  | 0 => by simpa [smpIt] using h
  | n + 1 => by
    have := step_ok (it_ok h hk n) (by omega)
    have e : k + 12 * ((n + 1 : Nat) : Int) = k + 12 * (n : Int) + 12 := by omega
    rw [e]; exact this
def Src.samples (s : Src) (f n : Int) : SS := smpIt (s.next (n + 1)).1.toNat ([], f, (s.next (n + 1)).2)
theorem samples_fn (s : Src) (f n : Int) (h : s.ok 1000000) (hf : 0 ≤ f ∧ f ≤ 1000000) (hn : 0 ≤ n ∧ n ≤ 1000) :
    FnM Tryz.prog 60 1 [.bptr 0 0, .int .i64 f, .int .i64 n] [(0, .box s.row)] (.osl 1) [(0, .box (s.samples f n).2.2.row), (1, .arr 73 2 (s.samples f n).1.length fun i => (ix (s.samples f n).1 i).row)] 2 := by
  have n0 := next_b s h (by omega) (n + 1)
  have hm := n0.1.2 (by omega)
  have h0 : SSok ([], f, (s.next (n + 1)).2) 0 1000003 := ⟨rfl, by simp, n0.2.1, by simp only; omega⟩
  have hit := it_ok h0 (by omega)
  obtain ⟨R, hR⟩ : ∃ R, R = s.samples f n := ⟨_, rfl⟩
  rw [← hR]
  refine FnM.introC Tryz.call60 Tryz.func60 rfl rfl ?_
  refine And.intro (inI64 (by omega) (by omega)) ?_
  conv => whnf
  refine CallC.k [(0, 0)] (next_fn s (n + 1) (wk h (by omega))) rfl rfl (AVsle.refl _) ⟨MOle.refl _, trivial⟩ rfl ?_
  obtain ⟨M, hM⟩ : ∃ M : Nat, (s.next (n + 1)).1 = M := ⟨(s.next (n + 1)).1.toNat, by omega⟩
  have hR2 : R = smpIt M ([], f, (s.next (n + 1)).2) := by rw [hR, Src.samples, hM]; rfl
  obtain ⟨x0, hx0⟩ : ∃ x0 : SS, x0 = ([], f, (s.next (n + 1)).2) := ⟨_, rfl⟩
  rw [← hx0] at hit hR2
  rw [hM]
  refine LoopC.mk (fun k : Nat => k ≤ M) (fun k => [(0, .bptr 0 0), (1, .int .i64 (smpIt k x0).2.1), (7, .osl 1), (8, .int .i64 ((M : Int) - k))])
    (fun k => [(0, .box (smpIt k x0).2.2.row), (1, .arr 73 2 (smpIt k x0).1.length fun i => (ix (smpIt k x0).1 i).row)]) 2 (fun k => M - k) 0
    ⟨Nat.zero_le _, [(0, 0), (1, 1)], rfl, rfl, ⟨AVle.refl _, AVle.of_eq (congrArg (AV.int .i64) (show f = _ by rw [hx0]; rfl)), AVle.refl _, AVle.of_eq (congrArg (AV.int .i64) (by simp)), trivial⟩, ⟨MOle.of_eq (show MO.box (s.next (n + 1)).2.row = _ by rw [hx0]; rfl), MOle.arr (by rw [hx0]; rfl) fun i hi => absurd hi (Nat.not_lt_zero i), trivial⟩⟩ ?_
  intro k hk
  refine Grd.intro (fun g1 => ?_) (fun g1 => ?_)
  · have hkM : k < M := by have := of_decide_eq_true g1; omega
    obtain ⟨h1, h2, h3, h4⟩ := hit k
    have hstep : smpIt (k + 1) x0 = smpStep (smpIt k x0) := rfl
    generalize smpIt k x0 = x at h1 h2 h3 h4 hstep
    have n1 := next_b x.2.2 h3 (by omega) 4
    have n2 := next_b (x.2.2.next 4).2 n1.2.1 (by omega) 40
    have n3 := next_b ((x.2.2.next 4).2.next 40).2 n2.2.1 (by omega) 12
    have n4 := next_b (((x.2.2.next 4).2.next 40).2.next 12).2 n3.2.1 (by omega) 2
    have a1 := n1.1.2 (by omega)
    have a2 := n2.1.2 (by omega)
    have a3 := n3.1.2 (by omega)
    have a4 := n4.1.2 (by omega)
    conv => whnf
    refine CallC.k [(0, 0)] (next_fn x.2.2 4 (wk h3 (by omega))) rfl rfl (AVsle.refl _) ⟨MOle.refl _, trivial⟩ rfl ?_
    refine And.intro (show inI .i64 (x.2.1 + (x.2.2.next 4).1) from inI64 (by omega) (by omega)) ?_
    conv => whnf
    refine CallC.k [(0, 0)] (next_fn (x.2.2.next 4).2 40 (wk n1.2.1 (by omega))) rfl rfl (AVsle.refl _) ⟨MOle.refl _, trivial⟩ rfl ?_
    refine And.intro (inI64 (by omega) (by omega)) ?_
    conv => whnf
    refine CallC.k [(0, 0)] (next_fn ((x.2.2.next 4).2.next 40).2 12 (wk n2.2.1 (by omega))) rfl rfl (AVsle.refl _) ⟨MOle.refl _, trivial⟩ rfl ?_
    have hq : (((x.2.2.next 4).2.next 40).2.next 12).1.tdiv 10 = (((x.2.2.next 4).2.next 40).2.next 12).1 / 10 := Int.tdiv_eq_ediv_of_nonneg n3.1.1
    have hq01 : (((x.2.2.next 4).2.next 40).2.next 12).1.tdiv 10 = 0 ∨ (((x.2.2.next 4).2.next 40).2.next 12).1.tdiv 10 = 1 := by omega
    have hd01 : ((((x.2.2.next 4).2.next 40).2.next 12).2.next 2).1 = 0 ∨ ((((x.2.2.next 4).2.next 40).2.next 12).2.next 2).1 = 1 := by omega
    have hrow : ∀ v, v = (if (((x.2.2.next 4).2.next 40).2.next 12).1.tdiv 10 * (1 + ((((x.2.2.next 4).2.next 40).2.next 12).2.next 2).1) = 0 then ((x.2.2.next 4).2.next 40).1 - 10 else if (((x.2.2.next 4).2.next 40).2.next 12).1.tdiv 10 * (1 + ((((x.2.2.next 4).2.next 40).2.next 12).2.next 2).1) = 1 then 1000000 else -1000000) →
        (smpIt (k + 1) x0).1 = x.1 ++ [⟨x.2.1 + (x.2.2.next 4).1, v⟩] ∧ (smpIt (k + 1) x0).2.1 = x.2.1 + (x.2.2.next 4).1 + 1 ∧ (smpIt (k + 1) x0).2.2 = ((((x.2.2.next 4).2.next 40).2.next 12).2.next 2).2 := fun v hv => by
      rw [hstep, hv]; exact ⟨rfl, rfl, rfl⟩
    refine And.intro ⟨by decide, show inI .i64 ((((x.2.2.next 4).2.next 40).2.next 12).1.tdiv 10) from inI64 (by omega) (by omega)⟩ ?_
    conv => whnf
    refine CallC.k [(0, 0)] (next_fn (((x.2.2.next 4).2.next 40).2.next 12).2 2 (wk n3.2.1 (by omega))) rfl rfl (AVsle.refl _) ⟨MOle.refl _, trivial⟩ rfl ?_
    rcases hq01 with hq0 | hq0
    · rw [hq0]
      rw [hq0] at hrow
      refine And.intro (show inI .i64 (1 + ((((x.2.2.next 4).2.next 40).2.next 12).2.next 2).1) from inI64 (by omega) (by omega)) ?_
      rcases hd01 with hd | hd
      · rw [hd]
        rw [hd] at hrow
        obtain ⟨w1, w2, w3⟩ := hrow (((x.2.2.next 4).2.next 40).1 - 10) (by simp)
        refine And.intro (inI64 (by omega) (by omega)) ?_
        refine And.intro ⟨by decide, by decide⟩ ?_
        refine And.intro ⟨show (x.1.length + 1) * 16 ≤ 140737488355328 by omega, all1 rfl⟩ ?_
        refine And.intro (show inI .i64 (x.2.1 + (x.2.2.next 4).1 + 1) from inI64 (by omega) (by omega)) ?_
        refine And.intro (inI64 (by omega) (by omega)) ?_
        exact ⟨k + 1, hkM, by omega, [(0, 0), (8, 1)], rfl, rfl, ⟨AVle.refl _, AVle.of_eq (congrArg (AV.int .i64) w2.symm), AVle.refl _, AVle.of_eq (congrArg (AV.int .i64) (show (M : Int) - k - 1 = _ by omega)), trivial⟩, ⟨MOle.of_eq (show MO.box ((((x.2.2.next 4).2.next 40).2.next 12).2.next 2).2.row = _ by rw [w3]), arr_next (f := Smp.row) w1 rfl, trivial⟩⟩
      · rw [hd]
        rw [hd] at hrow
        obtain ⟨w1, w2, w3⟩ := hrow (((x.2.2.next 4).2.next 40).1 - 10) (by simp)
        refine And.intro (inI64 (by omega) (by omega)) ?_
        refine And.intro ⟨by decide, by decide⟩ ?_
        refine And.intro ⟨show (x.1.length + 1) * 16 ≤ 140737488355328 by omega, all1 rfl⟩ ?_
        refine And.intro (show inI .i64 (x.2.1 + (x.2.2.next 4).1 + 1) from inI64 (by omega) (by omega)) ?_
        refine And.intro (inI64 (by omega) (by omega)) ?_
        exact ⟨k + 1, hkM, by omega, [(0, 0), (8, 1)], rfl, rfl, ⟨AVle.refl _, AVle.of_eq (congrArg (AV.int .i64) w2.symm), AVle.refl _, AVle.of_eq (congrArg (AV.int .i64) (show (M : Int) - k - 1 = _ by omega)), trivial⟩, ⟨MOle.of_eq (show MO.box ((((x.2.2.next 4).2.next 40).2.next 12).2.next 2).2.row = _ by rw [w3]), arr_next (f := Smp.row) w1 rfl, trivial⟩⟩
    · rw [hq0]
      rw [hq0] at hrow
      refine And.intro (show inI .i64 (1 + ((((x.2.2.next 4).2.next 40).2.next 12).2.next 2).1) from inI64 (by omega) (by omega)) ?_
      rcases hd01 with hd | hd
      · rw [hd]
        rw [hd] at hrow
        obtain ⟨w1, w2, w3⟩ := hrow (1000000) (by simp)
        refine And.intro (inI64 (by omega) (by omega)) ?_
        refine And.intro ⟨by decide, by decide⟩ ?_
        refine And.intro ⟨show (x.1.length + 1) * 16 ≤ 140737488355328 by omega, all1 rfl⟩ ?_
        refine And.intro (show inI .i64 (x.2.1 + (x.2.2.next 4).1 + 1) from inI64 (by omega) (by omega)) ?_
        refine And.intro (inI64 (by omega) (by omega)) ?_
        exact ⟨k + 1, hkM, by omega, [(0, 0), (8, 1)], rfl, rfl, ⟨AVle.refl _, AVle.of_eq (congrArg (AV.int .i64) w2.symm), AVle.refl _, AVle.of_eq (congrArg (AV.int .i64) (show (M : Int) - k - 1 = _ by omega)), trivial⟩, ⟨MOle.of_eq (show MO.box ((((x.2.2.next 4).2.next 40).2.next 12).2.next 2).2.row = _ by rw [w3]), arr_next (f := Smp.row) w1 rfl, trivial⟩⟩
      · rw [hd]
        rw [hd] at hrow
        obtain ⟨w1, w2, w3⟩ := hrow (-1000000) (by simp)
        refine And.intro (inI64 (by omega) (by omega)) ?_
        refine And.intro ⟨by decide, by decide⟩ ?_
        refine And.intro ⟨show (x.1.length + 1) * 16 ≤ 140737488355328 by omega, all1 rfl⟩ ?_
        refine And.intro (show inI .i64 (x.2.1 + (x.2.2.next 4).1 + 1) from inI64 (by omega) (by omega)) ?_
        refine And.intro (inI64 (by omega) (by omega)) ?_
        exact ⟨k + 1, hkM, by omega, [(0, 0), (8, 1)], rfl, rfl, ⟨AVle.refl _, AVle.of_eq (congrArg (AV.int .i64) w2.symm), AVle.refl _, AVle.of_eq (congrArg (AV.int .i64) (show (M : Int) - k - 1 = _ by omega)), trivial⟩, ⟨MOle.of_eq (show MO.box ((((x.2.2.next 4).2.next 40).2.next 12).2.next 2).2.row = _ by rw [w3]), arr_next (f := Smp.row) w1 rfl, trivial⟩⟩
  · have : k = M := by have := of_decide_eq_false g1; omega
    subst this
    rw [hR2]
    exact And.intro trivial ⟨[(0, 0), (1, 1)], rfl, AVle.refl _, ⟨MOle.refl _, MOle.refl _, trivial⟩⟩
end Go.Proofs.YtfaffgneccjpbaaGreatDoor
set_option linter.unusedVariables false
set_option linter.constructorNameAsVariable false
set_option linter.unusedSimpArgs false
set_option maxRecDepth 20000
namespace Go.Proofs.YtfaffgneccjpbaaGreatDoor
open Go Go.Vw

def Src.agg (s : Src) : Ag := aggL (s.samples 0 6).1
def srcOf (code : List UInt8) : Src := ⟨code, 0, (code.length : Int).tmod 1000⟩
theorem src_ok (code : List UInt8) (h : code.length ≤ 1048576) : (srcOf code).ok 0 := by
  have := tmod_b (n := (code.length : Int)) (m := 1000) (by omega) (by omega)
  exact ⟨⟨by simp [srcOf], by simp [srcOf]⟩, ⟨this.1, by have := this.2; simp only [srcOf]; omega⟩, by simp only [srcOf]; omega⟩
theorem l00Source_fn (code : List UInt8) (h : code.length ≤ 1048576) : FnM Tryz.prog 29 0 [byts code] [] (.bptr 0 0) [(0, .box (srcOf code).row)] 1 := by
  refine FnM.introC Tryz.call29 Tryz.func29 rfl rfl ?_
  refine And.intro (by decide) ?_
  exact And.intro trivial ⟨[(0, 0)], rfl, AVle.refl _, ⟨MOle.refl _, trivial⟩⟩
end Go.Proofs.YtfaffgneccjpbaaGreatDoor
set_option linter.unusedVariables false
set_option linter.constructorNameAsVariable false
set_option linter.unusedSimpArgs false
set_option maxRecDepth 20000
namespace Go.Proofs.YtfaffgneccjpbaaGreatDoor
open Go Go.Vw

theorem IndexStr_1 (L : List (List UInt8)) (hL : L.length ≤ 9223372036854775807) (F : Nat) (row : List AV) (p : List UInt8 → Bool) (hp : ∀ e ∈ L, VFn Tryz.prog F [.str (B e), .eptr row 0] (.bool (p e))) :
    VFn Tryz.prog 144 [txts L, .fn (.func F) [] [.eptr row 0]] (.int .i64 (fi p L)) := by
  refine VFn.introC Tryz.call144 Tryz.func144 rfl rfl ?_
  refine LoopC.mk (fun i : Nat => i ≤ L.length ∧ ∀ j, j < i → p (ix L j) = false) (fun i => [(0, txts L), (1, .fn (.func F) [] [.eptr row 0]), (7, .int .i64 L.length), (8, .int .i64 i)]) (fun _ => []) 0 (fun i => L.length - i) 0
    ⟨⟨Nat.zero_le _, fun j hj => absurd hj (Nat.not_lt_zero j)⟩, [], rfl, rfl, ⟨AVle.refl _, AVle.refl _, AVle.refl _, AVle.refl _, trivial⟩, trivial⟩ ?_
  intro i hi
  refine Grd.intro (fun h2 => ?_) (fun h2 => ?_)
  · have hin : i < L.length := by have := of_decide_eq_true h2; omega
    refine And.intro (by omega) ?_
    conv => whnf
    refine CallC.sca _ (hp (ix L i) (getD_mem hin)) ?_ ?_
    · exact rfl
    refine Grd.intro (fun h3 => ?_) (fun h3 => ?_)
    · exact And.intro trivial (AVle.of_eq (congrArg (AV.int .i64) (fi_at hin hi.2 h3).symm))
    · refine And.intro (inI64 (by omega) (by omega)) ?_
      exact ⟨i + 1, ⟨hin, fun j hj => by
        rcases Nat.lt_or_ge j i with h' | h'
        · exact hi.2 j h'
        · rw [show j = i by omega]; exact h3⟩, by omega, [], rfl, rfl, ⟨AVle.refl _, AVle.refl _, AVle.refl _, AVle.of_eq (congrArg (AV.int .i64) (by simp)), trivial⟩, trivial⟩
  · have : i = L.length := by have := of_decide_eq_false h2; omega
    subst this
    exact And.intro trivial (AVle.of_eq (congrArg (AV.int .i64) (fi_none hi.2).symm))
theorem ContainsStr_1 (L : List (List UInt8)) (hL : L.length ≤ 9223372036854775807) (F : Nat) (row : List AV) (p : List UInt8 → Bool) (hp : ∀ e ∈ L, VFn Tryz.prog F [.str (B e), .eptr row 0] (.bool (p e))) :
    VFn Tryz.prog 129 [txts L, .fn (.func F) [] [.eptr row 0]] (.bool (L.any p)) := by
  refine VFn.introC Tryz.call129 Tryz.func129 rfl rfl ?_
  conv => whnf
  refine CallC.sca _ (IndexStr_1 L hL F row p hp) ?_ ?_
  · exact rfl
  exact And.intro trivial (AVle.of_eq (congrArg AV.bool (show decide (0 ≤ fi p L) = _ from fi_any)))
theorem allStr1_fn (e : List UInt8) (G : Nat) (p : List UInt8 → Bool) (hp : VFn Tryz.prog G [.str (B e)] (.bool (p e))) : VFn Tryz.prog 130 [.str (B e), .eptr [.fn (.func G) [] []] 0] (.bool (!p e)) := by
  refine VFn.introC Tryz.call130 Tryz.func130 rfl rfl ?_
  conv => whnf
  refine CallC.sca _ (hp) ?_ ?_
  · exact rfl
  exact And.intro trivial (AVle.refl _)
theorem allStr_fn (L : List (List UInt8)) (hL : L.length ≤ 9223372036854775807) (G : Nat) (p : List UInt8 → Bool) (hp : ∀ e ∈ L, VFn Tryz.prog G [.str (B e)] (.bool (p e))) : VFn Tryz.prog 85 [txts L, .fn (.func G) [] []] (.bool (L.all p)) := by
  refine VFn.introC Tryz.call85 Tryz.func85 rfl rfl ?_
  conv => whnf
  refine CallC.sca _ (ContainsStr_1 L hL 130 [.fn (.func G) [] []] (fun e => !p e) (fun e he => allStr1_fn e G p (hp e he))) ?_ ?_
  · exact rfl
  exact And.intro trivial (AVle.of_eq (congrArg AV.bool (show (!L.any fun e => !p e) = _ by rw [Bool.eq_iff_iff]; simp)))
theorem isLong1_fn (t : List UInt8) : VFn Tryz.prog 86 [.str (B t)] (.bool (decide (t.length ≤ 65536))) := by
  refine VFn.introC Tryz.call86 Tryz.func86 rfl rfl ?_
  exact And.intro trivial (AVle.of_eq (congrArg AV.bool (show decide (((B t).size : Int) ≤ 65536) = _ by rw [B_size]; exact decide_eq_decide.2 (by omega))))
theorem isLong_fn (L : List (List UInt8)) (hL : L.length ≤ 9223372036854775807) : VFn Tryz.prog 43 [txts L] (.bool (!L.all fun t => decide (t.length ≤ 65536))) := by
  refine VFn.introC Tryz.call43 Tryz.func43 rfl rfl ?_
  conv => whnf
  refine CallC.sca _ (allStr_fn L hL 86 (fun t => decide (t.length ≤ 65536)) (fun t _ => isLong1_fn t)) ?_ ?_
  · exact rfl
  exact And.intro trivial (AVle.refl _)
end Go.Proofs.YtfaffgneccjpbaaGreatDoor
set_option linter.unusedVariables false
set_option linter.constructorNameAsVariable false
set_option linter.unusedSimpArgs false
set_option maxRecDepth 20000
namespace Go.Proofs.YtfaffgneccjpbaaGreatDoor
open Go Go.Vw

def SSt (x : SS) (f : Int) (n : Nat) : Prop := (f ≤ x.2.1 ∧ x.2.1 ≤ f + 4 * n) ∧ (∀ e ∈ x.1, f ≤ e.t ∧ e.t < x.2.1) ∧ x.1.Pairwise (fun a b => a.t < b.t)
theorem step_t {x : SS} {f : Int} {n : Nat} {k : Int} (h : SSt x f n) (hs : x.2.2.ok k) (hk : 0 ≤ k) : SSt (smpStep x) f (n + 1) := by
  obtain ⟨⟨h1, h2⟩, h3, h4⟩ := h
  have n1 := next_b x.2.2 hs hk 4
  have a1 := n1.1.2 (by omega)
  have a0 := n1.1.1
  unfold smpStep
  refine ⟨⟨by simp only; omega, by simp only; omega⟩, fun e he => ?_, ?_⟩
  · simp only [List.mem_append, List.mem_cons, List.not_mem_nil, or_false] at he
    rcases he with he | he
    · have := h3 e he
      simp only; omega
    · subst he
      simp only; omega
  · refine List.pairwise_append.2 ⟨h4, List.pairwise_singleton _ _, fun a ha b hb => ?_⟩
    simp only [List.mem_cons, List.not_mem_nil, or_false] at hb
    subst hb
    have := h3 a ha
    simp only; omega
theorem it_t {x : SS} {f : Int} {k : Int} (h : SSok x 0 k) (ht : SSt x f 0) (hk : 0 ≤ k) : ∀ n, SSt (smpIt n x) f n
  | 0 => by simpa [smpIt] using ht
  | n + 1 => step_t (it_t h ht hk n) (it_ok h hk n).2.2.1 (by omega)
theorem at_fn5 (L : List UInt8) (i n : Int) (hm : L.length ≤ 1048576) (hi : 0 ≤ i ∧ i ≤ 1000) (hn : 1 < n ∧ n ≤ 1000) : ∃ v, (0 ≤ v ∧ v < n) ∧ VFn Tryz.prog 11 [byts L, .int .i64 i, .int .i64 n] (.int .i64 v) := by
  by_cases h0 : L.length = 0
  · refine ⟨(i * 7).tmod n, tmod_b (by omega) (by omega), ?_⟩
    refine VFn.introC Tryz.call11 Tryz.func11 rfl rfl ?_
    refine Grd.intro (fun h => absurd (of_decide_eq_true h) (by omega)) (fun _ => ?_)
    refine Grd.intro (fun h => ?_) (fun h => absurd (of_decide_eq_false h) (by omega))
    refine And.intro (inI64 (by omega) (by omega)) ?_
    refine And.intro (show n ≠ 0 by omega) ?_
    exact And.intro trivial (AVle.refl _)
  · have q1 := tmod_b (n := i) (m := L.length) (by omega) (by omega)
    have q2 := tmod_b (n := i + 1) (m := L.length) (by omega) (by omega)
    have q3 := tdiv_b (n := i) (m := L.length) (by omega) (by omega)
    have b1 := (ix L (i.tmod L.length).toNat).toNat_lt
    have b2 := (ix L ((i + 1).tmod L.length).toNat).toNat_lt
    refine ⟨(((ix L (i.tmod L.length).toNat).toNat : Int) * 31 + ((ix L ((i + 1).tmod L.length).toNat).toNat : Int) + i.tdiv L.length).tmod n, tmod_b (by omega) (by omega), ?_⟩
    refine VFn.introC Tryz.call11 Tryz.func11 rfl rfl ?_
    refine Grd.intro (fun h => absurd (of_decide_eq_true h) (by omega)) (fun _ => ?_)
    refine Grd.intro (fun h => absurd (of_decide_eq_true h) (by omega)) (fun h => ?_)
    refine DrawC.mk 25 rfl (by kernel_rfl) ?_
    refine And.intro (show (L.length : Int) ≠ 0 by omega) ?_
    refine And.intro q1 ?_
    refine And.intro (show inI .i64 _ from inI64 (by omega) (by omega)) ?_
    refine And.intro (show inI .i64 _ from inI64 (by omega) (by omega)) ?_
    refine And.intro (show inI .i64 (i + 1) from inI64 (by omega) (by omega)) ?_
    refine And.intro (show (L.length : Int) ≠ 0 by omega) ?_
    refine And.intro q2 ?_
    refine And.intro (show inI .i64 _ from inI64 (by omega) (by omega)) ?_
    refine And.intro (show inI .i64 _ from inI64 (by omega) (by omega)) ?_
    refine And.intro ⟨show (L.length : Int) ≠ 0 by omega, show inI .i64 (i.tdiv L.length) from inI64 (by omega) (by omega)⟩ ?_
    refine And.intro (show inI .i64 _ from inI64 (by omega) (by omega)) ?_
    refine And.intro (show n ≠ 0 by omega) ?_
    exact And.intro trivial (AVle.refl _)
theorem dataKey_fn (t : Nat) (n w : Int) (ht : t ≤ 2) (hn : within n 0 999999 = true) (hw : within w 0 999999 = true) : VFn Tryz.prog 40 [.int .i64 (t : Int), .int .i64 n, .int .i64 w] (.str (B (keyB t n.toNat w.toNat))) := by
  have e : keyB t n.toNat w.toNat = pre t ++ six6 n.toNat ++ [45] ++ six6 w.toNat := by unfold keyB; simp
  have h : t = 0 ∨ t = 1 ∨ t = 2 := by omega
  rcases h with rfl | rfl | rfl
  all_goals
    refine VFn.introC Tryz.call40 Tryz.func40 rfl rfl ?_
    refine DrawC.mk 12 rfl (by kernel_rfl) ?_
    refine PCallC.nl _ (dataPrefixes_fn) rfl ?_
    refine And.intro ⟨by decide, by decide⟩ ?_
    refine PCallC.sca _ (six_fn n hn) rfl ?_
    refine And.intro (show (_ : Int) ≤ 9223372036854775807 by rw [B_size, B_size]; simp [six6, pre]) ?_
    refine And.intro (show (((B _ ++ B _).size + (B [45]).size : Nat) : Int) ≤ 9223372036854775807 by rw [B_app, B_size, B_size]; simp [six6, pre]) ?_
    refine PCallC.sca _ (six_fn w hw) rfl ?_
    refine And.intro (show (((B _ ++ B _ ++ B [45]).size + (B _).size : Nat) : Int) ≤ 9223372036854775807 by rw [B_app, B_app, B_size, B_size]; simp [six6, pre]) ?_
    exact And.intro trivial (AVle.of_eq (congrArg AV.str (show B _ ++ B _ ++ B [45] ++ B _ = _ by rw [e, B_app, B_app, B_app]; rfl)))
theorem DataKey_fn (t : Nat) (n w : Int) (ht : t ≤ 2) (hn : within n 0 999999 = true) (hw : within w 0 999999 = true) : VFn Tryz.prog 9 [.int .i64 (t : Int), .int .i64 n, .int .i64 w] (.tup [.str (B (keyB t n.toNat w.toNat)), .int .i64 0]) := by
  have c1 := isTier_fn (t : Int)
  rw [show within (t : Int) 0 2 = true by simp [within]; omega] at c1
  have c2 := isSix_fn n
  rw [hn] at c2
  have c3 := isSix_fn w
  rw [hw] at c3
  refine VFn.introC Tryz.call9 Tryz.func9 rfl rfl ?_
  conv => whnf
  refine CallC.sca _ (c1) ?_ ?_
  · exact rfl
  conv => whnf
  refine CallC.sca _ (c2) ?_ ?_
  · exact rfl
  conv => whnf
  refine CallC.sca _ (c3) ?_ ?_
  · exact rfl
  conv => whnf
  refine CallC.sca _ (dataKey_fn t n w ht hn hw) ?_ ?_
  · exact rfl
  exact And.intro trivial (AVle.refl _)
end Go.Proofs.YtfaffgneccjpbaaGreatDoor
set_option linter.unusedVariables false
set_option linter.constructorNameAsVariable false
set_option linter.unusedSimpArgs false
set_option maxRecDepth 20000
namespace Go.Proofs.YtfaffgneccjpbaaGreatDoor
open Go Go.Vw

structure StoOK (s : Sto) : Prop where
  nx : 1 ≤ s.next ∧ s.next ≤ 1000000000
  len : s.os.length ≤ 300
  el : ∀ o ∈ s.os, keyOK o.key = true ∧ (1 ≤ o.ver ∧ o.ver ≤ s.next - 1) ∧ o.data.length ≤ 600
  vs : (s.os.map (·.ver)).Nodup
  ks : s.os.Pairwise fun a b => a.key < b.key
theorem pw_srt {L : List Ob} : (L.Pairwise fun a b => a.key < b.key) ↔ Srt L := by
  constructor
  · intro h i hi
    have := List.pairwise_iff_getElem.1 h i (i + 1) (by omega) hi (by omega)
    rw [ix_lt (by omega), ix_lt hi]; exact this
  · intro h
    refine List.pairwise_iff_getElem.2 fun i j hi hj hij => ?_
    have := h.lt hij hj
    rw [ix_lt hi, ix_lt hj] at this; exact this
theorem nodup_take {L : List Int} : L.Nodup ↔ ∀ i, i < L.length → ix L i ∉ L.take i := by
  constructor
  · intro h i hi hm
    obtain ⟨j, hj, e⟩ := List.getElem_of_mem hm
    have hj' : j < i := by simp at hj; omega
    have := List.pairwise_iff_getElem.1 h j i (by omega) hi hj'
    rw [ix_lt hi] at e
    simp at e
    exact this e
  · intro h
    refine List.pairwise_iff_getElem.2 fun i j hi hj hij e => ?_
    refine h j hj ?_
    rw [ix_lt hj, ← e]
    exact List.mem_take_iff_getElem.2 ⟨i, by omega, rfl⟩
theorem stoOK_iff (s : Sto) : s.ok = true ↔ StoOK s := by
  have hv : ∀ i, i < s.os.length → ix (s.os.map (·.ver)) i = (ix s.os i).ver := fun i hi => by rw [ix_lt (by simpa using hi), ix_lt hi, List.getElem_map]
  constructor
  · intro h
    obtain ⟨h1, h2, h3⟩ := Sto.ok_at h
    have h3' : ∀ i, i < s.os.length → keyOK (ix s.os i).key = true ∧ (1 ≤ (ix s.os i).ver ∧ (ix s.os i).ver ≤ s.next - 1) ∧ (ix s.os i).data.length ≤ 600 ∧ (ix s.os i).ver ∉ (s.os.take i).map (·.ver) := fun i hi => by
      have := h3 i hi
      simp only [Sto.eOK, Bool.and_eq_true, decide_eq_true_eq, within, Bool.not_eq_true', decide_eq_false_iff_not] at this
      exact ⟨this.1, this.2.1, this.2.2.1, this.2.2.2.1⟩
    refine ⟨by simpa [within] using h1, h2, fun o ho => ?_, nodup_take.2 fun i hi => ?_, pw_srt.2 (Sto.srt h)⟩
    · obtain ⟨i, hi, rfl⟩ := List.getElem_of_mem ho
      have := h3' i hi
      rw [ix_lt hi] at this
      exact ⟨this.1, this.2.1, this.2.2.1⟩
    · have hi' : i < s.os.length := by simpa using hi
      rw [hv i hi', ← List.map_take]
      exact (h3' i hi').2.2.2
  · rintro ⟨h1, h2, h3, h4, h5⟩
    refine Sto.ok_yes (by simpa [within] using h1) h2 fun i hi => ?_
    have h6 := h3 (ix s.os i) (getD_mem hi)
    have h7 := nodup_take.1 h4 i (by simpa using hi)
    rw [hv i hi, ← List.map_take] at h7
    have h8 : i = 0 ∨ (ix s.os (i - 1)).key < (ix s.os i).key := by
      rcases Nat.eq_zero_or_pos i with h | h
      · exact .inl h
      · have := pw_srt.1 h5 (i - 1) (by omega)
        rw [show i - 1 + 1 = i by omega] at this
        exact .inr this
    simp only [Sto.eOK, Bool.and_eq_true, decide_eq_true_eq, within, Bool.not_eq_true', decide_eq_false_iff_not, Bool.or_eq_true]
    exact ⟨h6.1, h6.2.1, h6.2.2, h7, h8⟩
theorem lb_take {k : List UInt8} {L : List Ob} : ∀ o ∈ L.take (lb k L), o.key < k := fun o ho => by
  obtain ⟨j, hj, rfl⟩ := List.getElem_of_mem ho
  have hj' : j < lb k L := by simp at hj; omega
  have hl := lb_le k L
  have := lb_lt hj'
  rw [ix_lt (by omega)] at this
  simpa using this
theorem lb_drop {k : List UInt8} {L : List Ob} (h : Srt L) : ∀ o ∈ L.drop (if hasK k L = true then lb k L + 1 else lb k L), k < o.key := fun o ho => by
  obtain ⟨j, hj, rfl⟩ := List.getElem_of_mem ho
  rw [List.getElem_drop]
  split at hj <;> rename_i hk
  all_goals (rw [List.length_drop] at hj)
  · obtain ⟨h1, h2⟩ := hasK_at hk
    have := h.lt (i := lb k L) (j := lb k L + 1 + j) (by omega) (by omega)
    rw [h2, ix_lt (by omega)] at this
    simp only [if_pos hk]; exact this
  · have h1 := h.ge (k := k) (j := lb k L + j) (by omega) (by omega)
    have h2 : (ix L (lb k L + j)).key ≠ k := fun e => by
      rcases Nat.eq_zero_or_pos j with h0 | h0
      · subst h0
        apply hk
        unfold hasK
        rw [decide_eq_true (by omega : lb k L < L.length), decide_eq_true (by simpa using e)]; rfl
      · have h3 := h.lt (i := lb k L) (j := lb k L + j) (by omega) (by omega)
        rw [e] at h3
        exact lb_ge (by omega) h3
    have := lt_tri h1 h2
    rw [ix_lt (by omega)] at this
    simp only [if_neg hk]; exact this
/-- room for it -/
theorem room_ok {s : Sto} {k d : List UInt8} (h : s.room k d = 0) : d.length ≤ 600 ∧ (s.has k = false → s.os.length ≠ 300) ∧ s.next ≠ 1000000000 := by
  unfold Sto.room at h
  split at h
  · cases h
  · split at h
    · cases h
    · rename_i h1 h2
      simp only [Bool.or_eq_true, Bool.and_eq_true, Bool.not_eq_true', decide_eq_true_eq, not_or, not_and] at h2
      exact ⟨by omega, h2.1, h2.2⟩
theorem room_yes {s : Sto} {k d : List UInt8} (h1 : d.length ≤ 600) (h2 : s.os.length < 300) (h3 : s.next < 1000000000) : s.room k d = 0 := by
  unfold Sto.room
  rw [if_neg (by omega), if_neg (by simp only [Bool.or_eq_true, Bool.and_eq_true, decide_eq_true_eq]; omega)]
theorem set_ok {s : Sto} (hs : s.ok = true) {k d : List UInt8} (hk : keyOK k = true) (hr : s.room k d = 0) : (s.set k d).ok = true := by
  have h := (stoOK_iff s).1 hs
  have hsr := Sto.srt hs
  obtain ⟨r1, r2, r3⟩ := room_ok hr
  have hl := s.set_len k d
  have e : (s.set k d).os = s.os.take (lb k s.os) ++ (⟨k, s.next, d⟩ :: s.os.drop (if hasK k s.os = true then lb k s.os + 1 else lb k s.os)) := rfl
  have hsub : ∀ q, lb k s.os ≤ q → (s.os.take (lb k s.os) ++ s.os.drop q).Sublist s.os := fun q hq => by
    have h1 : (s.os.drop q).Sublist (s.os.drop (lb k s.os)) := by
      obtain ⟨c, rfl⟩ : ∃ c, q = lb k s.os + c := ⟨q - lb k s.os, by omega⟩
      rw [← List.drop_drop]; exact List.drop_sublist _ _
    have := List.Sublist.append (List.Sublist.refl (s.os.take (lb k s.os))) h1
    rwa [List.take_append_drop] at this
  have hsub' := hsub (if hasK k s.os = true then lb k s.os + 1 else lb k s.os) (by split <;> omega)
  have hd := lb_drop (k := k) hsr
  have ht := lb_take (k := k) (L := s.os)
  generalize hq : (if hasK k s.os = true then lb k s.os + 1 else lb k s.os) = q at *
  refine (stoOK_iff _).2 ⟨by show 1 ≤ s.next + 1 ∧ s.next + 1 ≤ 1000000000; have := h.nx; omega, ?_, fun o ho => ?_, ?_, ?_⟩
  · rw [hl]
    have := h.len
    split
    · omega
    · rename_i hn
      have := r2 (by simpa using hn); omega
  · have hold : ∀ o ∈ s.os, keyOK o.key = true ∧ (1 ≤ o.ver ∧ o.ver ≤ s.next + 1 - 1) ∧ o.data.length ≤ 600 := fun o ho => by have := h.el o ho; exact ⟨this.1, ⟨this.2.1.1, by omega⟩, this.2.2⟩
    rw [e] at ho
    rcases List.mem_append.1 ho with ho | ho
    · exact hold o (List.mem_of_mem_take ho)
    · rcases List.mem_cons.1 ho with rfl | ho
      · exact ⟨hk, ⟨h.nx.1, by show s.next ≤ s.next + 1 - 1; omega⟩, r1⟩
      · exact hold o (List.mem_of_mem_drop ho)
  · rw [e, List.map_append, List.map_cons]
    have hn : ((s.os.take (lb k s.os) ++ s.os.drop q).map (·.ver)).Nodup := (hsub'.map _).nodup h.vs
    rw [List.map_append] at hn
    have h1 := List.nodup_append.1 hn
    have hne : ∀ o ∈ s.os, o.ver ≠ s.next := fun o ho => by have := (h.el o ho).2.1; omega
    refine List.nodup_append.2 ⟨h1.1, List.nodup_cons.2 ⟨fun hm => ?_, h1.2.1⟩, fun a ha b hb => ?_⟩
    · obtain ⟨o, ho, e⟩ := List.mem_map.1 hm
      exact hne o (List.mem_of_mem_drop ho) e
    · rcases List.mem_cons.1 hb with rfl | hb
      · obtain ⟨o, ho, rfl⟩ := List.mem_map.1 ha
        exact hne o (List.mem_of_mem_take ho)
      · exact h1.2.2 a ha b hb
  · rw [e]
    have hp : (s.os.take (lb k s.os) ++ s.os.drop q).Pairwise fun a b => a.key < b.key := h.ks.sublist hsub'
    have h1 := List.pairwise_append.1 hp
    refine List.pairwise_append.2 ⟨h1.1, List.pairwise_cons.2 ⟨hd, h1.2.1⟩, fun a ha b hb => ?_⟩
    rcases List.mem_cons.1 hb with rfl | hb
    · exact ht a ha
    · exact h1.2.2 a ha b hb
theorem lb_set (s : Sto) (k d : List UInt8) : lb k (s.set k d).os = lb k s.os := by
  have hl := lb_le k s.os
  have e : (s.set k d).os = s.os.take (lb k s.os) ++ (⟨k, s.next, d⟩ :: s.os.drop (if hasK k s.os = true then lb k s.os + 1 else lb k s.os)) := rfl
  rw [e]
  have key : ∀ (A B : List Ob), (∀ o ∈ A, o.key < k) → lb k (A ++ ⟨k, s.next, d⟩ :: B) = A.length := by
    intro A B
    induction A with
    | nil => intro _; show (if k < k then _ else 0) = 0; rw [if_neg (List.lt_irrefl _)]
    | cons x r ih =>
      intro h
      show (if x.key < k then lb k (r ++ _ :: B) + 1 else 0) = _
      rw [if_pos (h x (by simp)), ih fun o ho => h o (by simp [ho])]; rfl
  rw [key _ _ lb_take]
  simp; omega
theorem set_at (s : Sto) (k d : List UInt8) : (s.set k d).has k = true ∧ (s.set k d).get k = ⟨k, s.next, d⟩ := by
  have hl := lb_le k s.os
  have e : (s.set k d).os = s.os.take (lb k s.os) ++ (⟨k, s.next, d⟩ :: s.os.drop (if hasK k s.os = true then lb k s.os + 1 else lb k s.os)) := rfl
  have h1 := lb_set s k d
  have hlen : (s.os.take (lb k s.os)).length = lb k s.os := by simp; omega
  have h2 : ix (s.set k d).os (lb k s.os) = ⟨k, s.next, d⟩ := by
    rw [e, ix_app_r (by omega), hlen, Nat.sub_self]; rfl
  have h3 : lb k s.os < (s.set k d).os.length := by rw [e]; simp; omega
  refine ⟨?_, ?_⟩
  · unfold Sto.has hasK
    rw [h1, h2, decide_eq_true h3]; simp
  · unfold Sto.get Sto.pos
    rw [h1, h2]
theorem leaText_back {l : Lea} (h : l.ok = true) : readL l.text = some l := by
  have hb : ∀ n ∈ [l.tok, l.who, l.til], -999999999999999999 ≤ n ∧ n ≤ 999999999999999999 := by
    simp [Lea.ok, within] at h
    intro x hx
    simp at hx
    omega
  have := nums_back (c := 44) (by decide) (by decide) (N := [l.tok, l.who, l.til]) (by simp) hb
  unfold readL
  have e : l.text = Lib.join ([l.tok, l.who, l.til].map Lib.itoa) [44] := rfl
  rw [e, show (3 : Nat) = [l.tok, l.who, l.til].length from rfl, this]
  show (if Lea.ok ⟨l.tok, l.who, l.til⟩ = true then some (⟨l.tok, l.who, l.til⟩ : Lea) else none) = some l
  have h' : Lea.ok ⟨l.tok, l.who, l.til⟩ = true := h
  rw [if_pos h']
theorem srt_nodup {L : List Ob} (h : Srt L) : (L.map (·.key)).Nodup := by
  refine List.pairwise_map.2 (List.pairwise_iff_getElem.2 fun i j hi hj hij e => ?_)
  have := h.lt hij hj
  rw [ix_lt hi, ix_lt hj, e] at this
  exact List.lt_irrefl _ this
/-- a store without a key -/
def wo (x : Sto) (k : List UInt8) : Sto := ⟨x.os.filter fun o => !decide (o.key = k), x.next⟩
theorem wo_len (x : Sto) (k : List UInt8) : (wo x k).os.length ≤ x.os.length := List.length_filter_le _ _
theorem wo_ok {x : Sto} (hs : x.ok = true) (k : List UInt8) : (wo x k).ok = true := by
  have h := (stoOK_iff x).1 hs
  have hsub : (wo x k).os.Sublist x.os := List.filter_sublist
  exact (stoOK_iff _).2 ⟨h.nx, Nat.le_trans (wo_len x k) h.len, fun o ho => h.el o (hsub.subset ho), (hsub.map _).nodup h.vs, h.ks.sublist hsub⟩
theorem wo_has (x : Sto) (k : List UInt8) : (wo x k).has k = false := by
  rw [← Bool.not_eq_true]
  intro h
  obtain ⟨h1, h2⟩ := hasK_at h
  have hm : ix (wo x k).os (lb k (wo x k).os) ∈ (wo x k).os := getD_mem h1
  have := (List.mem_filter.1 hm).2
  rw [h2] at this
  simp at this
end Go.Proofs.YtfaffgneccjpbaaGreatDoor
set_option linter.unusedVariables false
set_option linter.constructorNameAsVariable false
set_option linter.unusedSimpArgs false
set_option maxRecDepth 20000
namespace Go.Proofs.YtfaffgneccjpbaaGreatDoor
open Go Go.Vw

def ask (s : Sto) (who now : Int) : Int := if s.ok = true then (if within who 0 9 = true ∧ within now 0 101000 = true then 0 else 4) else 1
end Go.Proofs.YtfaffgneccjpbaaGreatDoor
set_option linter.unusedVariables false
set_option linter.constructorNameAsVariable false
set_option linter.unusedSimpArgs false
set_option maxRecDepth 20000
namespace Go.Proofs.YtfaffgneccjpbaaGreatDoor
open Go Go.Vw

end Go.Proofs.YtfaffgneccjpbaaGreatDoor
set_option linter.unusedVariables false
set_option linter.constructorNameAsVariable false
set_option linter.unusedSimpArgs false
set_option maxRecDepth 20000
namespace Go.Proofs.YtfaffgneccjpbaaGreatDoor
open Go Go.Vw

theorem isNow_fn (n : Int) : VFn Tryz.prog 57 [.int .i64 n] (.bool (within n 0 101000)) := by
  refine VFn.introC Tryz.call57 Tryz.func57 rfl rfl ?_
  conv => whnf
  refine CallC.sca _ (within_fn _ _ _) ?_ ?_
  · exact rfl
  exact And.intro trivial (AVle.refl _)
end Go.Proofs.YtfaffgneccjpbaaGreatDoor
set_option linter.unusedVariables false
set_option linter.constructorNameAsVariable false
set_option linter.unusedSimpArgs false
set_option maxRecDepth 20000
namespace Go.Proofs.YtfaffgneccjpbaaGreatDoor
open Go Go.Vw

def acqC (s : Sto) (now : Int) : Int := if s.lea.2 = 17 then 17 else if s.lea.2 = 0 ∧ s.lea.1.til ≠ 0 ∧ now ≤ s.lea.1.til + 6 then 12 else if s.lea.1.tok = 999999 then 7 else 0
def acqL (s : Sto) (who now : Int) : Lea := ⟨s.lea.1.tok + 1, who, now + 20⟩
def acqS (s : Sto) (who now : Int) : Sto := if acqC s now = 0 then s.put leaK (acqL s who now).text else s
def acqT (s : Sto) (who now : Int) : Int := if acqC s now = 0 ∧ s.room leaK (acqL s who now).text = 0 then s.lea.1.tok + 1 else 0
def acqR (s : Sto) (who now : Int) : Int := if acqC s now = 0 then s.room leaK (acqL s who now).text else acqC s now
end Go.Proofs.YtfaffgneccjpbaaGreatDoor
