/- Contracts of functions that the claim reaches, and the plain law of what they compute; each theorem bears its own conditions. -/
import Derived.Test.YtlbnpndednhdaaaGreatDoorQ6
import Derived.Test.YtlbnpndednhdaaaGreatDoorQ1
import Derived.Test.YtlbnpndednhdaaaGreatDoorQ4
import Derived.WalkSmall
import Derived.Test.YtlbnpndednhdaaaGreatDoorQ2
import Derived.Test.YtlbnpndednhdaaaGreatDoorQ5
import Derived.Test.YtlbnpndednhdaaaGreatDoorV49
set_option linter.unusedVariables false
set_option linter.constructorNameAsVariable false
set_option linter.unusedSimpArgs false
set_option maxRecDepth 20000
namespace Go.Proofs.YtlbnpndednhdaaaGreatDoor
open Go Go.Vw

theorem Cut_fn (s : List UInt8) (c : UInt8) (hl : s.length ≤ 1000000000) : VFn Tryz.prog 260 [.str (B s), .str (B [c])] (.tup [.str (B (Lib.cut s [c]).1), .str (B (Lib.cut s [c]).2.1), .bool (Lib.cut s [c]).2.2]) := by
  refine VFn.lib Tryz.call260 fun w ok vs hJ hok hv => ?_
  obtain ⟨v, us, rfl, hv, v2, us2, rfl, hv2, hus⟩ := hv
  have e1 : v = .string (B s) := hv
  have e2 : v2 = .string (B [c]) := hv2
  have e3 : us2 = [] := hus
  subst e1 e2 e3
  obtain ⟨mv, hmv⟩ := tab_maxlen hJ
  refine (Tryz.strings_Cut (B s) (B [c]) mv w (by rw [B_size]; omega) hmv).mono ?_
  rintro e w' ⟨rfl, n, rfl⟩
  refine ⟨_, rfl, ⟨rfl, rfl, rfl, Nat.le_refl _, fun _ _ => rfl⟩, fun _ _ => ⟨[_, _, _], rfl, _, _, rfl, ?_, _, _, rfl, ?_, _, _, rfl, ?_, rfl⟩⟩
  · show Value.string _ = _
    rw [B_data, B_data]; rfl
  · show Value.string _ = _
    rw [B_data, B_data]; rfl
  · show Value.bool _ = _
    rw [B_data, B_data]
theorem cut_none {s : List UInt8} {c : UInt8} (h : ∀ x ∈ s, x ≠ c) : Lib.cut s [c] = (s, [], false) := by
  unfold Lib.cut; rw [index_none c s h]; rfl
theorem cut_at {a b : List UInt8} {c : UInt8} (h : ∀ x ∈ a, x ≠ c) : Lib.cut (a ++ c :: b) [c] = (a, b, true) := by
  unfold Lib.cut; rw [index_at c a b h]
  rw [if_pos (by omega)]
  simp
theorem readRecord_none (t : List UInt8) (hl : t.length ≤ 1000000) (h : ∀ x ∈ t, x ≠ 32) : VFn Tryz.prog 285 [.str (B t)] (.tup [(default : Rc).av, .bool false]) := by
  have c := Cut_fn t 32 (by omega)
  rw [cut_none h] at c
  refine VFn.introC Tryz.call285 Tryz.func285 rfl rfl ?_
  conv => whnf
  refine CallC.sca _ (c) ?_ ?_
  · exact rfl
  cases hn : numsK 44 5 t with
  | none =>
    conv => whnf
    refine CallC.nl _ (numbers_no t 44 5 (by omega) (by decide) hn) ?_ ?_
    · exact rfl
    exact And.intro trivial (AVle.refl _)
  | some N =>
    conv => whnf
    refine CallC.nl _ (numbers_yes t 44 5 (by omega) (by decide) hn) ?_ ?_
    · exact rfl
    exact And.intro trivial (AVle.refl _)
theorem readRecord_cut (a b : List UInt8) (hl : (a ++ 32 :: b).length ≤ 1000000) (ha : ∀ x ∈ a, x ≠ 32) : (∀ k tok tier f e, numsK 44 5 a = some [k, tok, tier, f, e] → VFn Tryz.prog 285 [.str (B (a ++ 32 :: b))] (.tup [(Rc.mk k tok tier f e b).av, .bool (Rc.ok ⟨k, tok, tier, f, e, b⟩)])) ∧
    (numsK 44 5 a = none → VFn Tryz.prog 285 [.str (B (a ++ 32 :: b))] (.tup [(default : Rc).av, .bool false])) := by
  have c := Cut_fn (a ++ 32 :: b) 32 (by omega)
  rw [cut_at ha] at c
  have hal : a.length ≤ 1000000 := by rw [List.length_append] at hl; omega
  constructor
  · intro k tok tier f e hn
    have ct := RecordOK_fn ⟨k, tok, tier, f, e, b⟩
    refine VFn.introC Tryz.call285 Tryz.func285 rfl rfl ?_
    conv => whnf
    refine CallC.sca _ (c) ?_ ?_
    · exact rfl
    conv => whnf
    refine CallC.nl _ (numbers_yes a 44 5 (by omega) (by decide) hn) ?_ ?_
    · exact rfl
    refine DrawC.mkK 19 [(.inr 17, 18)] rfl (by kernel_rfl) ?_
    refine And.intro rfl ?_
    refine And.intro ⟨by decide, show (0 : Int) < 5 by decide⟩ ?_
    refine And.intro ⟨by decide, show (1 : Int) < 5 by decide⟩ ?_
    refine And.intro ⟨by decide, show (2 : Int) < 5 by decide⟩ ?_
    refine And.intro ⟨by decide, show (3 : Int) < 5 by decide⟩ ?_
    refine And.intro ⟨by decide, show (4 : Int) < 5 by decide⟩ ?_
    refine DrawC.mkK 5 [(.inl 0, 3)] rfl (by kernel_rfl) ?_
    refine And.intro rfl ?_
    conv => whnf
    refine PCallK.sca _ (ct) rfl ?_
    exact And.intro trivial (AVle.refl _)
  · intro hn
    refine VFn.introC Tryz.call285 Tryz.func285 rfl rfl ?_
    conv => whnf
    refine CallC.sca _ (c) ?_ ?_
    · exact rfl
    conv => whnf
    refine CallC.nl _ (numbers_no a 44 5 (by omega) (by decide) hn) ?_ ?_
    · exact rfl
    exact And.intro trivial (AVle.refl _)
theorem readRecord_yes (t : List UInt8) (hl : t.length ≤ 1000000) {r : Rc} (h : readR t = some r) : VFn Tryz.prog 285 [.str (B t)] (.tup [r.av, .bool true]) := by
  rcases first_c 32 t with h1 | ⟨a, b, rfl, ha⟩
  · rw [readR_none h1] at h; cases h
  · obtain ⟨r1, r2⟩ := readR_at (b := b) ha
    obtain ⟨c1, c2⟩ := readRecord_cut a b hl ha
    cases hn : numsK 44 5 a with
    | none => rw [r2 hn] at h; cases h
    | some N =>
      obtain ⟨k, tok, tier, f, e, rfl⟩ := nums5 hn
      rw [r1 _ _ _ _ _ hn] at h
      split at h
      · rename_i hok
        cases h
        have := c1 _ _ _ _ _ hn
        rw [hok] at this; exact this
      · cases h
theorem readRecord_no (t : List UInt8) (hl : t.length ≤ 1000000) (h : readR t = none) : ∃ r : Rc, VFn Tryz.prog 285 [.str (B t)] (.tup [r.av, .bool false]) := by
  rcases first_c 32 t with h1 | ⟨a, b, rfl, ha⟩
  · exact ⟨_, readRecord_none t hl h1⟩
  · obtain ⟨r1, r2⟩ := readR_at (b := b) ha
    obtain ⟨c1, c2⟩ := readRecord_cut a b hl ha
    cases hn : numsK 44 5 a with
    | none => exact ⟨_, c2 hn⟩
    | some N =>
      obtain ⟨k, tok, tier, f, e, rfl⟩ := nums5 hn
      rw [r1 _ _ _ _ _ hn] at h
      split at h
      · cases h
      · rename_i hok
        have := c1 _ _ _ _ _ hn
        rw [show Rc.ok ⟨k, tok, tier, f, e, b⟩ = false by simpa using hok] at this
        exact ⟨_, this⟩
theorem l06Read_gen (t : List UInt8) (hl : t.length ≤ 1000000) (R : AV) (hy : ∀ r, readR t = some r → R = .tup [r.av, .bool true]) (hn : readR t = none → R = .tup [(default : Rc).av, .bool false]) : VFn Tryz.prog 264 [.str (B t)] R := by
  have cc := l00Cut_fn t 32 (by omega)
  have hpl : ∀ x ∈ cutP 32 [] t, x.length ≤ t.length := fun x hx => by have := cutP_piece 32 t [] x hx; simpa using this
  have hR : readR t = readP (cutP 32 [] t) := rfl
  generalize cutP 32 [] t = P at cc hpl hR
  by_cases h2 : P.length = 2
  case neg =>
    have hr : readR t = none := by
      match P, h2 with
      | [], _ => exact hR
      | [_], _ => exact hR
      | [_, _], h => exact absurd rfl h
      | _ :: _ :: _ :: _, _ => exact hR
    rw [hn hr]
    refine VFn.introC Tryz.call264 Tryz.func264 rfl rfl ?_
    conv => whnf
    refine CallC.nl _ (cc) ?_ ?_
    · exact rfl
    refine Grd.intro (fun g => ?_) (fun g => absurd (show ((P.length : Nat) : Int) = 2 by simpa using g) (by omega))
    exact And.intro trivial (AVle.refl _)
  case pos =>
    obtain ⟨a, b, rfl⟩ : ∃ a b, P = [a, b] := by
      match P, h2 with
      | [a, b], _ => exact ⟨a, b, rfl⟩
    have hR : readR t = (match numsK 44 5 a with
      | some [k, tok, tier, f, e] => if Rc.ok ⟨k, tok, tier, f, e, b⟩ = true then some ⟨k, tok, tier, f, e, b⟩ else none
      | _ => none) := hR
    have hal := hpl a (by simp)
    have hbl := hpl b (by simp)
    cases hN : numsK 44 5 a with
    | none =>
      rw [hN] at hR
      rw [hn hR]
      refine VFn.introC Tryz.call264 Tryz.func264 rfl rfl ?_
      conv => whnf
      refine CallC.nl _ (cc) ?_ ?_
      · exact rfl
      refine And.intro ⟨by decide, show (0 : Int) < 2 by decide⟩ ?_
      conv => whnf
      refine CallC.nl _ (l02Numbers_gen a 44 5 (by omega) _ (fun N h => by rw [hN] at h; cases h) (fun h => rfl)) ?_ ?_
      · exact rfl
      exact And.intro trivial (AVle.refl _)
    | some N =>
      obtain ⟨k, tok, tier, f, e, rfl⟩ := nums5 hN
      rw [hN] at hR
      have hR : readR t = if Rc.ok ⟨k, tok, tier, f, e, b⟩ = true then some ⟨k, tok, tier, f, e, b⟩ else none := hR
      have ct := specRecordOK_fn ⟨k, tok, tier, f, e, b⟩ (by show b.length ≤ _; omega)
      by_cases hok : Rc.ok ⟨k, tok, tier, f, e, b⟩ = true
      · rw [if_pos hok] at hR
        rw [hy _ hR]
        rw [hok] at ct
        refine VFn.introC Tryz.call264 Tryz.func264 rfl rfl ?_
        conv => whnf
        refine CallC.nl _ (cc) ?_ ?_
        · exact rfl
        refine And.intro ⟨by decide, show (0 : Int) < 2 by decide⟩ ?_
        conv => whnf
        refine CallC.nl _ (l02Numbers_gen a 44 5 (by omega) _ (fun N h => by rw [hN] at h; cases h; rfl) (fun h => by rw [hN] at h; cases h)) ?_ ?_
        · exact rfl
        refine DrawC.mkK 21 [(.inr 19, 20)] rfl (by kernel_rfl) ?_
        refine And.intro rfl ?_
        refine And.intro ⟨by decide, show (0 : Int) < 5 by decide⟩ ?_
        refine And.intro ⟨by decide, show (1 : Int) < 5 by decide⟩ ?_
        refine And.intro ⟨by decide, show (2 : Int) < 5 by decide⟩ ?_
        refine And.intro ⟨by decide, show (3 : Int) < 5 by decide⟩ ?_
        refine And.intro ⟨by decide, show (4 : Int) < 5 by decide⟩ ?_
        refine And.intro ⟨by decide, show (1 : Int) < 2 by decide⟩ ?_
        conv => whnf
        refine CallC.sca _ (ct) ?_ ?_
        · exact rfl
        exact And.intro trivial (AVle.refl _)
      · have hok : Rc.ok ⟨k, tok, tier, f, e, b⟩ = false := by simpa using hok
        rw [if_neg (by rw [hok]; simp)] at hR
        rw [hn hR]
        rw [hok] at ct
        refine VFn.introC Tryz.call264 Tryz.func264 rfl rfl ?_
        conv => whnf
        refine CallC.nl _ (cc) ?_ ?_
        · exact rfl
        refine And.intro ⟨by decide, show (0 : Int) < 2 by decide⟩ ?_
        conv => whnf
        refine CallC.nl _ (l02Numbers_gen a 44 5 (by omega) _ (fun N h => by rw [hN] at h; cases h; rfl) (fun h => by rw [hN] at h; cases h)) ?_ ?_
        · exact rfl
        refine DrawC.mkK 21 [(.inr 19, 20)] rfl (by kernel_rfl) ?_
        refine And.intro rfl ?_
        refine And.intro ⟨by decide, show (0 : Int) < 5 by decide⟩ ?_
        refine And.intro ⟨by decide, show (1 : Int) < 5 by decide⟩ ?_
        refine And.intro ⟨by decide, show (2 : Int) < 5 by decide⟩ ?_
        refine And.intro ⟨by decide, show (3 : Int) < 5 by decide⟩ ?_
        refine And.intro ⟨by decide, show (4 : Int) < 5 by decide⟩ ?_
        refine And.intro ⟨by decide, show (1 : Int) < 2 by decide⟩ ?_
        conv => whnf
        refine CallC.sca _ (ct) ?_ ?_
        · exact rfl
        exact And.intro trivial (AVle.refl _)
theorem l06Read_yes (t : List UInt8) (hl : t.length ≤ 1000000) {r : Rc} (h : readR t = some r) : VFn Tryz.prog 264 [.str (B t)] (.tup [r.av, .bool true]) := l06Read_gen t hl _ (fun r' h' => by rw [h] at h'; cases h'; rfl) (fun h' => by rw [h] at h'; cases h')
theorem l06Read_no (t : List UInt8) (hl : t.length ≤ 1000000) (h : readR t = none) : VFn Tryz.prog 264 [.str (B t)] (.tup [(default : Rc).av, .bool false]) := l06Read_gen t hl _ (fun r' h' => by rw [h] at h'; cases h') (fun h' => rfl)
end Go.Proofs.YtlbnpndednhdaaaGreatDoor
set_option linter.unusedVariables false
set_option linter.constructorNameAsVariable false
set_option linter.unusedSimpArgs false
set_option maxRecDepth 20000
namespace Go.Proofs.YtlbnpndednhdaaaGreatDoor
open Go Go.Vw

theorem nums6 {c : UInt8} {t : List UInt8} {N : List Int} (h : numsK c 6 t = some N) : ∃ a b d e f g, N = [a, b, d, e, f, g] := by
  unfold numsK at h
  split at h
  · rename_i hc
    injection h with h
    have : N.length = 6 := by rw [← h, List.length_map]; exact hc.1
    match N, this with
    | [a, b, d, e, f, g], _ => exact ⟨a, b, d, e, f, g, rfl⟩
  · cases h
def agV (t : List UInt8) : Ag := match numsK 44 6 t with | some [a, b, c, d, e, f] => ⟨a, b, c, d, e, f⟩ | _ => ⟨0, 0, 0, 0, 0, 0⟩
def agOk (t : List UInt8) : Bool := (numsK 44 6 t).isSome && (agV t).ok
theorem readAgg_fn (t : List UInt8) (hl : t.length ≤ 1048576) : VFn Tryz.prog 261 [.str (B t)] (.tup [(agV t).av, .bool (agOk t)]) := by
  unfold agOk agV
  cases hn : numsK 44 6 t with
  | none =>
    refine VFn.introC Tryz.call261 Tryz.func261 rfl rfl ?_
    conv => whnf
    refine CallC.nl _ (numbers_no t 44 6 (by omega) (by decide) hn) ?_ ?_
    · exact rfl
    exact And.intro trivial (AVle.refl _)
  | some N =>
    obtain ⟨a, b, c, d, e, f, rfl⟩ := nums6 hn
    refine VFn.introC Tryz.call261 Tryz.func261 rfl rfl ?_
    conv => whnf
    refine CallC.nl _ (numbers_yes t 44 6 (by omega) (by decide) hn) ?_ ?_
    · exact rfl
    refine DrawC.mk 20 rfl (by kernel_rfl) ?_
    iterate 6 (refine And.intro ⟨by decide, by show (_ : Int) < ((6 : Nat) : Int); decide⟩ ?_)
    refine DrawC.mk 3 rfl (by kernel_rfl) ?_
    refine PCallC.sca _ (AggOK_fn ⟨a, b, c, d, e, f⟩) rfl ?_
    exact And.intro trivial (AVle.refl _)
theorem l02Read_fn (t : List UInt8) (hl : t.length ≤ 1000000) : VFn Tryz.prog 254 [.str (B t)] (.tup [(if agOk t = true then agV t else ⟨0, 0, 0, 0, 0, 0⟩ : Ag).av, .bool (agOk t)]) := by
  unfold agOk agV
  cases hn : numsK 44 6 t with
  | none =>
    refine VFn.introC Tryz.call254 Tryz.func254 rfl rfl ?_
    conv => whnf
    refine CallC.nl _ (l02Numbers_gen t 44 6 hl _ (fun N h => by rw [hn] at h; cases h) (fun h => rfl)) ?_ ?_
    · exact rfl
    exact And.intro trivial (AVle.refl _)
  | some N =>
    obtain ⟨a, b, c, d, e, f, rfl⟩ := nums6 hn
    have k := specAggOK_fn ⟨a, b, c, d, e, f⟩
    show VFn _ _ _ (.tup [(if (Ag.mk a b c d e f).ok = true then Ag.mk a b c d e f else ⟨0, 0, 0, 0, 0, 0⟩ : Ag).av, .bool (Ag.mk a b c d e f).ok])
    by_cases ho : (Ag.mk a b c d e f).ok = true
    · rw [ho] at k ⊢
      refine VFn.introC Tryz.call254 Tryz.func254 rfl rfl ?_
      conv => whnf
      refine CallC.nl _ (l02Numbers_gen t 44 6 hl _ (fun N h => by rw [hn] at h; cases h; rfl) (fun h => by rw [hn] at h; cases h)) ?_ ?_
      · exact rfl
      refine DrawC.mk 20 rfl (by kernel_rfl) ?_
      iterate 6 (refine And.intro ⟨by decide, by show (_ : Int) < ((6 : Nat) : Int); decide⟩ ?_)
      conv => whnf
      refine CallC.sca _ (k) ?_ ?_
      · exact rfl
      exact And.intro trivial (AVle.refl _)
    · have ho : (Ag.mk a b c d e f).ok = false := by simpa using ho
      rw [ho] at k ⊢
      refine VFn.introC Tryz.call254 Tryz.func254 rfl rfl ?_
      conv => whnf
      refine CallC.nl _ (l02Numbers_gen t 44 6 hl _ (fun N h => by rw [hn] at h; cases h; rfl) (fun h => by rw [hn] at h; cases h)) ?_ ?_
      · exact rfl
      refine DrawC.mk 20 rfl (by kernel_rfl) ?_
      iterate 6 (refine And.intro ⟨by decide, by show (_ : Int) < ((6 : Nat) : Int); decide⟩ ?_)
      conv => whnf
      refine CallC.sca _ (k) ?_ ?_
      · exact rfl
      exact And.intro trivial (AVle.refl _)
def bOk (w : List UInt8) : Bool := (Lib.cut w [58]).2.2 && (numOk (Lib.cut w [58]).1 && agOk (Lib.cut w [58]).2.1)
def bv (w : List UInt8) : Bk := ⟨atoiV (Lib.cut w [58]).1, agV (Lib.cut w [58]).2.1⟩
theorem numOk_58 {t : List UInt8} {c : UInt8} (h45 : c ≠ 45) (hc : c.toNat < 48 ∨ 57 < c.toNat) (h : c ∈ t) : numOk t = false := by
  cases hb : numOk t
  · rfl
  · obtain ⟨n, rfl, _⟩ := num_of hb
    exact absurd rfl (itoa_ne h45 hc c h)
theorem cutP_has (c x : UInt8) (hx : x ≠ c) : ∀ (l cur : List UInt8), x ∈ cur ∨ x ∈ l → ∃ p ∈ cutP c cur l, x ∈ p
  | [], cur, h => ⟨cur, by simp [cutP], by rcases h with h | h; exact h; cases h⟩
  | y :: r, cur, h => by
    unfold cutP
    split
    · rename_i hy
      rcases h with h | h
      · exact ⟨cur, by simp, h⟩
      · rcases List.mem_cons.1 h with rfl | h
        · exact absurd (by simpa using hy) hx
        · obtain ⟨p, hp, q⟩ := cutP_has c x hx r [] (.inr h)
          exact ⟨p, List.mem_cons_of_mem _ hp, q⟩
    · obtain ⟨p, hp, q⟩ := cutP_has c x hx r (cur ++ [y]) (by
        rcases h with h | h
        · exact .inl (by simp [h])
        · rcases List.mem_cons.1 h with rfl | h
          · exact .inl (by simp)
          · exact .inr h)
      exact ⟨p, hp, q⟩
theorem agOk_58 {t : List UInt8} (h : 58 ∈ t) : agOk t = false := by
  have : numsK 44 6 t = none := by
    unfold numsK
    rw [if_neg]
    rintro ⟨_, h2⟩
    obtain ⟨p, hp, q⟩ := cutP_has 44 58 (by decide) t [] (.inr h)
    have := List.all_eq_true.1 h2 p hp
    rw [numOk_58 (by decide) (by decide) q] at this
    cases this
  unfold agOk; rw [this]; rfl
/-- a word of a bucket by the reference's cut -/
theorem bOk_cut (w : List UInt8) : (∃ a b, cutP 58 [] w = [a, b] ∧ bOk w = (numOk a && agOk b) ∧ bv w = ⟨atoiV a, agV b⟩ ∧ a.length ≤ w.length ∧ b.length ≤ w.length) ∨ ((cutP 58 [] w).length ≠ 2 ∧ bOk w = false) := by
  rcases first_c 58 w with h | ⟨a, b, rfl, ha⟩
  · right
    refine ⟨by rw [cutP_none 58 w [] h]; simp, ?_⟩
    unfold bOk; rw [cut_none h]; rfl
  · rcases first_c 58 b with h | ⟨a2, b2, rfl, ha2⟩
    · left
      refine ⟨a, b, by rw [cutP_app 58 a [] b ha, cutP_none 58 b [] h]; simp, ?_, ?_, by simp, by simp <;> omega⟩
      · unfold bOk; rw [cut_at ha]; simp
      · unfold bv; rw [cut_at ha]
    · right
      have := cutP_len 58 b2 []
      refine ⟨by rw [cutP_app 58 a [] _ ha, cutP_app 58 a2 [] b2 ha2]; simp only [List.nil_append, List.length_cons]; omega, ?_⟩
      unfold bOk; rw [cut_at ha]
      simp only
      rw [agOk_58 (t := a2 ++ 58 :: b2) (by simp)]
      simp
def rbOk (t : List UInt8) : Bool := (wds t).all bOk && bksOK ((wds t).map bv)
def rbV (t : List UInt8) : List Bk := (wds t).map bv
theorem bks_8 {L : List Bk} (h : bksOK L = true) : L.length ≤ 8 := by
  unfold bksOK at h
  rw [Bool.and_eq_true] at h
  exact of_decide_eq_true h.1
theorem rbOk_pts (t : List UInt8) : rbOk t = ((pts t).all bOk && bksOK ((pts t).map bv)) := by
  have h := pts_wds t
  unfold rbOk
  rcases Nat.lt_or_ge 8 (wds t).length with h8 | h8
  · have a : bksOK ((wds t).map bv) = false := by
      rw [Bool.eq_false_iff]; intro q; have := bks_8 q; simp at this; omega
    have b : bksOK ((pts t).map bv) = false := by
      rw [Bool.eq_false_iff]; intro q; have := bks_8 q; rw [List.length_map, h.2 h8] at this; omega
    rw [a, b]; simp
  · rw [h.1 h8]
theorem rbV_pts {t : List UInt8} (h : rbOk t = true) : rbV t = (pts t).map bv := by
  simp only [rbOk, Bool.and_eq_true] at h
  have := bks_8 h.2
  rw [List.length_map] at this
  unfold rbV
  rw [(pts_wds t).1 this]
theorem cut_len (w : List UInt8) : (Lib.cut w [58]).1.length ≤ w.length ∧ (Lib.cut w [58]).2.1.length ≤ w.length := by
  rcases first_c 58 w with h | ⟨a, b, rfl, ha⟩
  · rw [cut_none h]; simp
  · rw [cut_at ha]; simp; omega
theorem readBuckets_gen (t : List UInt8) (hl : t.length ≤ 1048576) (R : AV) (hy : rbOk t = true → R = .tup [bks (rbV t), .bool true]) (hn : rbOk t = false → R = .tup [.any, .bool false]) : VFn Tryz.prog 186 [.str (B t)] R := by
  have e0 := rbOk_pts t
  have e1 := fun h => rbV_pts (t := t) h
  have hpl := pts_piece t
  have hc := parts_fn t hl
  obtain ⟨P, hP⟩ : ∃ P, P = pts t := ⟨_, rfl⟩
  rw [← hP] at e0 e1 hpl hc
  have hPl : P.length ≤ 9 := by
    rw [hP]
    rcases Nat.lt_or_ge 8 (wds t).length with h8 | h8
    · rw [(pts_wds t).2 h8]; omega
    · rw [(pts_wds t).1 h8]; omega
  clear hP
  refine VFn.introC Tryz.call186 Tryz.func186 rfl rfl ?_
  conv => whnf
  refine CallC.nl _ (hc) ?_ ?_
  · exact rfl
  refine LoopC.mk (fun i : Nat => i ≤ P.length ∧ ∀ j, j < i → bOk (ix P j) = true) (fun i => [(4, .osl 0), (16, txts P), (17, .int .i64 P.length), (18, .int .i64 i)])
    (fun i => [(0, .arr 223 7 ((P.take i).map bv).length fun j => (ix ((P.take i).map bv) j).row)]) 1 (fun i => P.length - i) 0
    ⟨⟨Nat.zero_le _, fun j hj => absurd hj (Nat.not_lt_zero j)⟩, [(0, 0)], rfl, rfl, ⟨AVle.refl _, AVle.refl _, AVle.refl _, AVle.refl _, trivial⟩, ⟨MOle.arr rfl fun i hi => absurd hi (Nat.not_lt_zero i), trivial⟩⟩ ?_
  intro i hi
  obtain ⟨hi, hall⟩ := hi
  refine Grd.intro (fun h2 => ?_) (fun h2 => ?_)
  · have hin : i < P.length := by have := of_decide_eq_true h2; omega
    have hpi := hpl _ (getD_mem hin)
    have hcl := cut_len (ix P i)
    have c1 := Cut_fn (ix P i) 58 (by omega)
    obtain ⟨x, hcut⟩ : ∃ x, Lib.cut (ix P i) [58] = x := ⟨_, rfl⟩
    obtain ⟨a, b, r⟩ := x
    have e3 : bOk (ix P i) = (r && (numOk a && agOk b)) := by unfold bOk; rw [hcut]
    have e4 : bv (ix P i) = ⟨atoiV a, agV b⟩ := by unfold bv; rw [hcut]
    rw [hcut] at c1 hcl
    simp only at c1
    have hcl1 : a.length ≤ 1048576 := by have := hcl.1; simp only at this; omega
    have hcl2 : b.length ≤ 1048576 := by have := hcl.2; simp only at this; omega
    have c2 := number_fn a (by omega)
    have c3 := readAgg_fn b hcl2
    clear hcut hcl
    have cg : ∀ g : Bool, agOk b = g → VFn Tryz.prog 261 [.str (B b)] (.tup [(agV b).av, .bool g]) := fun g h => by rw [h] at c3; exact c3
    refine And.intro (by omega) ?_
    by_cases h3 : bOk (ix P i) = true
    · have q := h3
      rw [e3] at q
      simp only [Bool.and_eq_true] at q
      obtain ⟨q1, q2, q3⟩ := q
      rw [q1] at c1
      rw [q2] at c2
      have c3 := cg true q3
      conv => whnf
      refine CallC.sca _ (c1) ?_ ?_
      · exact rfl
      conv => whnf
      refine CallC.sca _ (c2) ?_ ?_
      · exact rfl
      conv => whnf
      refine CallC.sca _ (c3) ?_ ?_
      · exact rfl
      refine And.intro ⟨show (((P.take i).map bv).length + 1) * 56 ≤ 140737488355328 by simp; omega, all1 rfl⟩ ?_
      refine And.intro (inI64 (by omega) (by omega)) ?_
      refine ⟨i + 1, ⟨hin, fun j hj => ?_⟩, by omega, [(3, 0)], rfl, rfl, ⟨AVle.refl _, AVle.refl _, AVle.refl _, AVle.of_eq (congrArg (AV.int .i64) (by simp)), trivial⟩, ⟨arr_next (f := Bk.row) (map_take_snoc hin) (by rw [e4]; rfl), trivial⟩⟩
      rcases Nat.lt_or_ge j i with h' | h'
      · exact hall j h'
      · rw [show j = i by omega]; exact h3
    · have h3 : bOk (ix P i) = false := by simpa using h3
      rw [hn (by rw [e0, bad_all hin h3]; rfl)]
      rw [e3] at h3
      have c3 := cg _ rfl
      generalize numOk a = q2 at c2 h3
      generalize agOk b = q3 at c3 h3
      cases r <;> cases q2 <;> cases q3
      all_goals first | (exfalso; cases h3; done) | skip
      all_goals
        conv => whnf
        refine CallC.sca _ (c1) ?_ ?_
        · exact rfl
        conv => whnf
        refine CallC.sca _ (c2) ?_ ?_
        · exact rfl
        conv => whnf
        refine CallC.sca _ (c3) ?_ ?_
        · exact rfl
        exact And.intro trivial (AVle.tup (AVsle.cons (AVle.any _) (AVsle.cons (AVle.refl _) AVsle.nil)))
  · have : i = P.length := by have := of_decide_eq_false h2; omega
    subst this
    have e : P.take P.length = P := List.take_of_length_le (Nat.le_refl _)
    have hA : P.all bOk = true := pre_all hall
    rw [hA, Bool.true_and] at e0
    rw [e]
    have c := BucketsOK_fn (P.map bv)
    cases hq : bksOK (P.map bv)
    · rw [hq] at c e0
      rw [hn e0]
      conv => whnf
      refine CallC.sca _ (c) ?_ ?_
      · exact rfl
      exact And.intro trivial (AVle.tup (AVsle.cons (AVle.any _) (AVsle.cons (AVle.refl _) AVsle.nil)))
    · rw [hq] at c e0
      rw [hy e0, e1 e0]
      conv => whnf
      refine CallC.sca _ (c) ?_ ?_
      · exact rfl
      exact And.intro trivial (AVle.refl _)
theorem l03ToBuckets_gen (t : List UInt8) (hl : t.length ≤ 1000000) (R : AV) (hy : rbOk t = true → R = .tup [bks (rbV t), .bool true]) (hn : rbOk t = false → R = .tup [.any, .bool false]) : VFn Tryz.prog 180 [.str (B t)] R := by
  have hb := B_nil t
  by_cases h0 : t = []
  · have e1 : rbOk t = true := by rw [h0]; rfl
    have e2 : rbV t = [] := by rw [h0]; rfl
    rw [hy e1, e2]
    refine VFn.introC Tryz.call180 Tryz.func180 rfl rfl ?_
    refine Grd.intro (fun g => ?_) (fun g => ?_)
    · exact And.intro trivial (AVle.tup (AVsle.cons (AVle.sl rfl fun j hj => absurd hj (Nat.not_lt_zero j)) (AVsle.cons (AVle.refl _) AVsle.nil)))
    · exact absurd h0 (of_decide_eq_false (hb.symm.trans g))
  have hpl := wds_piece t
  have hwl := wds_len t
  have hc := l00Cut_fn t 32 (by omega)
  have ew : wds t = cutP 32 [] t := by unfold wds; rw [if_neg h0]
  rw [← ew] at hc
  have e0 : rbOk t = ((wds t).all bOk && bksOK ((wds t).map bv)) := rfl
  have e1 : rbV t = (wds t).map bv := rfl
  obtain ⟨P, hP⟩ : ∃ P, P = wds t := ⟨_, rfl⟩
  rw [← hP] at e0 e1 hpl hwl hc
  clear hP ew
  refine VFn.introC Tryz.call180 Tryz.func180 rfl rfl ?_
  refine Grd.intro (fun g => ?_) (fun g => ?_)
  · exact absurd (of_decide_eq_true (hb.symm.trans g)) h0
  conv => whnf
  refine CallC.nl _ (hc) ?_ ?_
  · exact rfl
  refine LoopC.mk (fun i : Nat => i ≤ P.length ∧ ∀ j, j < i → bOk (ix P j) = true) (fun i => [(4, .osl 0), (5, txts P), (6, .int .i64 i)])
    (fun i => [(0, .arr 223 7 ((P.take i).map bv).length fun j => (ix ((P.take i).map bv) j).row)]) 1 (fun i => P.length - i) 0
    ⟨⟨Nat.zero_le _, fun j hj => absurd hj (Nat.not_lt_zero j)⟩, [(0, 0)], rfl, rfl, ⟨AVle.refl _, AVle.refl _, AVle.refl _, trivial⟩, ⟨MOle.arr rfl fun i hi => absurd hi (Nat.not_lt_zero i), trivial⟩⟩ ?_
  intro i hi
  obtain ⟨hi, hall⟩ := hi
  refine Grd.intro (fun h2 => ?_) (fun h2 => ?_)
  · have hin : i < P.length := by have := of_decide_eq_true h2; omega
    have hpi := hpl _ (getD_mem hin)
    have c1 := l00Cut_fn (ix P i) 58 (by omega)
    refine And.intro (by omega) ?_
    rcases bOk_cut (ix P i) with ⟨a, b, hcut, e3, e4, la, lb⟩ | ⟨hcut, e3⟩
    · rw [hcut] at c1
      have c2 := l02Number_fn a (by omega)
      have c3 := l02Read_fn b (by omega)
      have cg : ∀ g : Bool, agOk b = g → VFn Tryz.prog 254 [.str (B b)] (.tup [(if g = true then agV b else ⟨0, 0, 0, 0, 0, 0⟩ : Ag).av, .bool g]) := fun g h => by rw [h] at c3; exact c3
      by_cases h3 : bOk (ix P i) = true
      · have q := h3
        rw [e3] at q
        simp only [Bool.and_eq_true] at q
        obtain ⟨q2, q3⟩ := q
        rw [q2] at c2
        have c3 := cg true q3
        rw [if_pos rfl] at c2 c3
        conv => whnf
        refine CallC.nl _ (c1) ?_ ?_
        · exact rfl
        refine And.intro ⟨by decide, by show (0 : Int) < ((2 : Nat) : Int); decide⟩ ?_
        conv => whnf
        refine CallC.sca _ (c2) ?_ ?_
        · exact rfl
        refine And.intro ⟨by decide, by show (1 : Int) < ((2 : Nat) : Int); decide⟩ ?_
        conv => whnf
        refine CallC.sca _ (c3) ?_ ?_
        · exact rfl
        refine And.intro ⟨show (((P.take i).map bv).length + 1) * 56 ≤ 140737488355328 by simp; omega, all1 rfl⟩ ?_
        refine And.intro (inI64 (by omega) (by omega)) ?_
        refine ⟨i + 1, ⟨hin, fun j hj => ?_⟩, by omega, [(3, 0)], rfl, rfl, ⟨AVle.refl _, AVle.refl _, AVle.of_eq (congrArg (AV.int .i64) (by simp)), trivial⟩, ⟨arr_next (f := Bk.row) (map_take_snoc hin) (by rw [e4]; rfl), trivial⟩⟩
        rcases Nat.lt_or_ge j i with h' | h'
        · exact hall j h'
        · rw [show j = i by omega]; exact h3
      · have h3 : bOk (ix P i) = false := by simpa using h3
        rw [hn (by rw [e0, bad_all hin h3]; rfl)]
        rw [e3] at h3
        have c3 := cg _ rfl
        clear cg
        generalize numOk a = q2 at c2 h3
        generalize agOk b = q3 at c3 h3
        cases q2 <;> cases q3
        all_goals first | (exfalso; cases h3; done) | skip
        all_goals
          simp only [if_true, Bool.false_eq_true, if_false] at c2 c3
          conv => whnf
          refine CallC.nl _ (c1) ?_ ?_
          · exact rfl
          refine And.intro ⟨by decide, by show (0 : Int) < ((2 : Nat) : Int); decide⟩ ?_
          conv => whnf
          refine CallC.sca _ (c2) ?_ ?_
          · exact rfl
          refine And.intro ⟨by decide, by show (1 : Int) < ((2 : Nat) : Int); decide⟩ ?_
          conv => whnf
          refine CallC.sca _ (c3) ?_ ?_
          · exact rfl
          exact And.intro trivial (AVle.tup (AVsle.cons (AVle.any _) (AVsle.cons (AVle.refl _) AVsle.nil)))
    · rw [hn (by rw [e0, bad_all hin e3]; rfl)]
      obtain ⟨Q, hQ⟩ : ∃ Q, Q = cutP 58 [] (ix P i) := ⟨_, rfl⟩
      rw [← hQ] at c1 hcut
      conv => whnf
      refine CallC.nl _ (c1) ?_ ?_
      · exact rfl
      refine Grd.intro (fun g2 => ?_) (fun g2 => ?_)
      · exact And.intro trivial (AVle.tup (AVsle.cons (AVle.any _) (AVsle.cons (AVle.refl _) AVsle.nil)))
      · exfalso
        have g2 : (!decide ((Q.length : Int) = 2)) = false := g2
        simp at g2; omega
  · have : i = P.length := by have := of_decide_eq_false h2; omega
    subst this
    have e : P.take P.length = P := List.take_of_length_le (Nat.le_refl _)
    have hA : P.all bOk = true := pre_all hall
    rw [hA, Bool.true_and] at e0
    rw [e]
    have c := specBucketsOK_fn (P.map bv)
    cases hq : bksOK (P.map bv)
    · rw [hq] at c e0
      rw [hn e0]
      conv => whnf
      refine CallC.sca _ (c) ?_ ?_
      · exact rfl
      exact And.intro trivial (AVle.tup (AVsle.cons (AVle.any _) (AVsle.cons (AVle.refl _) AVsle.nil)))
    · rw [hq] at c e0
      rw [hy e0, e1]
      conv => whnf
      refine CallC.sca _ (c) ?_ ?_
      · exact rfl
      exact And.intro trivial (AVle.refl _)
theorem join_has {c x : UInt8} : ∀ {L : List (List UInt8)}, x ∈ Lib.join L [c] → x = c ∨ ∃ y ∈ L, x ∈ y
  | [], h => by simp [Lib.join, List.intercalate] at h
  | [a], h => by rw [Lib.join_one] at h; exact .inr ⟨a, by simp, h⟩
  | a :: b :: r, h => by
    have e : Lib.join (a :: b :: r) [c] = a ++ c :: Lib.join (b :: r) [c] := by simp [Lib.join, List.intercalate, List.intersperse]
    rw [e, List.mem_append, List.mem_cons] at h
    rcases h with h | rfl | h
    · exact .inr ⟨a, by simp, h⟩
    · exact .inl rfl
    · rcases join_has h with h | ⟨y, hy, q⟩
      · exact .inl h
      · exact .inr ⟨y, List.mem_cons_of_mem _ hy, q⟩
theorem atext_has {a : Ag} {x c : UInt8} (h45 : c ≠ 45) (h44 : c ≠ 44) (hc : c.toNat < 48 ∨ 57 < c.toNat) (h : x ∈ atext a) : x ≠ c := by
  rcases join_has h with rfl | ⟨y, hy, q⟩
  · exact fun e => h44 e.symm
  · obtain ⟨n, _, rfl⟩ := List.mem_map.1 hy
    exact itoa_ne h45 hc x q
theorem bkText_eq (b : Bk) : bkText b = Lib.itoa b.t ++ 58 :: atext b.a := by unfold bkText; rw [join2]; simp
theorem bkText_32 (b : Bk) : ∀ x ∈ bkText b, x ≠ 32 := by
  intro x hx
  rw [bkText_eq, List.mem_append, List.mem_cons] at hx
  rcases hx with hx | rfl | hx
  · exact itoa_ne (by decide) (by decide) x hx
  · decide
  · exact atext_has (by decide) (by decide) (by decide) hx
theorem bkText_ne (b : Bk) : bkText b ≠ [] := by rw [bkText_eq]; simp
theorem bv_text {b : Bk} (h : b.ok) : bOk (bkText b) = true ∧ bv (bkText b) = b := by
  have e : Lib.cut (bkText b) [58] = (Lib.itoa b.t, atext b.a, true) := by
    rw [bkText_eq]; exact cut_at (itoa_ne (by decide) (by decide))
  have hn := num_back (n := b.t) (by have := h.1; omega) (by have := h.1; omega)
  have ha : numsK 44 6 (atext b.a) = some b.a.six := nums_back (c := 44) (N := b.a.six) (by decide) (by decide) (by simp [Ag.six]) (fun n hn => by have := six_b h.2 n hn; omega)
  have hv : agV (atext b.a) = b.a := by unfold agV; rw [ha]; rfl
  unfold bOk bv agOk
  rw [e]
  simp only
  rw [hn.1, hn.2, ha, hv, h.2]
  exact ⟨rfl, rfl⟩
theorem wds_bks (L : List Bk) : wds (bksText L) = L.map bkText := by
  unfold bksText
  exact wds_join (fun x hx => by obtain ⟨s, _, rfl⟩ := List.mem_map.1 hx; exact bkText_ne s) (fun x hx => by obtain ⟨s, _, rfl⟩ := List.mem_map.1 hx; exact bkText_32 s)
theorem rbV_text {L : List Bk} (h : ∀ b ∈ L, b.ok) : rbV (bksText L) = L := by
  unfold rbV
  rw [wds_bks, List.map_map]
  exact (List.map_congr_left fun s hs => (bv_text (h s hs)).2).trans (List.map_id' L)
theorem bksText_inj {L M : List Bk} (hL : ∀ b ∈ L, b.ok) (hM : ∀ b ∈ M, b.ok) (h : bksText L = bksText M) : L = M := by
  rw [← rbV_text hL, ← rbV_text hM, h]
end Go.Proofs.YtlbnpndednhdaaaGreatDoor
set_option linter.unusedVariables false
set_option linter.constructorNameAsVariable false
set_option linter.unusedSimpArgs false
set_option maxRecDepth 20000
namespace Go.Proofs.YtlbnpndednhdaaaGreatDoor
open Go Go.Vw

def eqS {α : Type} [Inhabited α] (q : α → α → Bool) (L M : List α) : Bool := decide ((L.length : Int) = M.length) && allN L.length fun i => q (ix L i) (ix M i)
theorem eqS_len {α : Type} [Inhabited α] {q : α → α → Bool} {L M : List α} (h : ¬ (L.length : Int) = M.length) : eqS q L M = false := by
  unfold eqS; rw [decide_eq_false h]; rfl
theorem eqS_no {α : Type} [Inhabited α] {q : α → α → Bool} {L M : List α} {i : Nat} (hi : i < L.length) (h : q (ix L i) (ix M i) = false) : eqS q L M = false := by
  unfold eqS; rw [allN_no (q := fun i => q (ix L i) (ix M i)) hi h]; simp
theorem eqS_yes {α : Type} [Inhabited α] {q : α → α → Bool} {L M : List α} (hl : (L.length : Int) = M.length) (h : ∀ j, j < L.length → q (ix L j) (ix M j) = true) : eqS q L M = true := by
  unfold eqS; rw [decide_eq_true hl, allN_iff.2 h]; rfl
def Ob.eqb (x y : Ob) : Bool := ((B x.key).toList == (B y.key).toList) && (decide (x.ver = y.ver) && (((B x.data).toList == (B y.data).toList) && true))
def En.eqb (x y : En) : Bool := decide (x.tier = y.tier) && (decide (x.f = y.f) && (decide (x.t = y.t) && (((B x.key).toList == (B y.key).toList) && true)))
def Smp.eqb (x y : Smp) : Bool := decide (x.t = y.t) && (decide (x.v = y.v) && true)
def Rc.eqb (x y : Rc) : Bool := decide (x.k = y.k) && (decide (x.tok = y.tok) && (decide (x.tier = y.tier) && (decide (x.f = y.f) && (decide (x.t = y.t) && (((B x.key).toList == (B y.key).toList) && true)))))
def Bk.eqb (x y : Bk) : Bool := decide (x.t = y.t) && ((Ag.eqb x.a y.a) && true)
theorem EqualSmp2_fn (L M : List Smp) (hL : L.length ≤ 1048576) (hM : M.length ≤ 1048576) : VFn Tryz.prog 101 [smps L, smps M] (.bool (eqS Smp.eqb L M)) := by
  by_cases hl : (L.length : Int) = M.length
  · refine VFn.introC Tryz.call101 Tryz.func101 rfl rfl ?_
    refine Grd.intro (fun g => ?_) (fun _ => ?_)
    · exfalso; simp [hl] at g
    refine LoopC.mk (fun i : Nat => i ≤ L.length ∧ ∀ j, j < i → Smp.eqb (ix L j) (ix M j) = true) (fun i => [(0, smps L), (1, smps M), (12, .int .i64 L.length), (13, .int .i64 i)]) (fun i => []) 0 (fun i => L.length - i) 0
      ⟨⟨Nat.zero_le _, fun j hj => absurd hj (Nat.not_lt_zero j)⟩, [], rfl, rfl, ⟨AVle.refl _, AVle.refl _, AVle.refl _, AVle.refl _, trivial⟩, trivial⟩ ?_
    intro i hi
    obtain ⟨hi, h0⟩ := hi
    refine Grd.intro (fun h2 => ?_) (fun h2 => ?_)
    · have hin : i < L.length := by have := of_decide_eq_true h2; omega
      refine DrawC.mk 8 rfl (by kernel_rfl) ?_
      refine And.intro (by omega) ?_
      refine And.intro (by omega) ?_
      refine And.intro (by kernel_rfl) ?_
      refine Grd.intro (fun g => ?_) (fun g => ?_)
      · have g : (!Smp.eqb (ix L i) (ix M i)) = true := g
        rw [eqS_no hin (by simpa using g)]
        exact And.intro trivial (AVle.refl _)
      · have g : (!Smp.eqb (ix L i) (ix M i)) = false := g
        have g : Smp.eqb (ix L i) (ix M i) = true := by simpa using g
        refine And.intro (inI64 (by omega) (by omega)) ?_
        exact ⟨i + 1, ⟨hin, fun j hj => by
          rcases Nat.lt_or_ge j i with h' | h'
          · exact h0 j h'
          · rw [show j = i by omega]; exact g⟩, by omega, [], rfl, rfl, ⟨AVle.refl _, AVle.refl _, AVle.refl _, AVle.of_eq (congrArg (AV.int .i64) (by simp)), trivial⟩, trivial⟩
    · have : i = L.length := by have := of_decide_eq_false h2; omega
      subst this
      rw [eqS_yes hl h0]
      exact And.intro trivial (AVle.refl _)
  · rw [eqS_len hl]
    refine VFn.introC Tryz.call101 Tryz.func101 rfl rfl ?_
    refine Grd.intro (fun g => ?_) (fun g => ?_)
    · exact And.intro trivial (AVle.refl _)
    · exfalso; simp [hl] at g
theorem EqualBk2_fn (L M : List Bk) (hL : L.length ≤ 1048576) (hM : M.length ≤ 1048576) : VFn Tryz.prog 187 [bks L, bks M] (.bool (eqS Bk.eqb L M)) := by
  by_cases hl : (L.length : Int) = M.length
  · refine VFn.introC Tryz.call187 Tryz.func187 rfl rfl ?_
    refine Grd.intro (fun g => ?_) (fun _ => ?_)
    · exfalso; simp [hl] at g
    refine LoopC.mk (fun i : Nat => i ≤ L.length ∧ ∀ j, j < i → Bk.eqb (ix L j) (ix M j) = true) (fun i => [(0, bks L), (1, bks M), (12, .int .i64 L.length), (13, .int .i64 i)]) (fun i => []) 0 (fun i => L.length - i) 0
      ⟨⟨Nat.zero_le _, fun j hj => absurd hj (Nat.not_lt_zero j)⟩, [], rfl, rfl, ⟨AVle.refl _, AVle.refl _, AVle.refl _, AVle.refl _, trivial⟩, trivial⟩ ?_
    intro i hi
    obtain ⟨hi, h0⟩ := hi
    refine Grd.intro (fun h2 => ?_) (fun h2 => ?_)
    · have hin : i < L.length := by have := of_decide_eq_true h2; omega
      refine DrawC.mk 8 rfl (by kernel_rfl) ?_
      refine And.intro (by omega) ?_
      refine And.intro (by omega) ?_
      refine And.intro (by kernel_rfl) ?_
      refine Grd.intro (fun g => ?_) (fun g => ?_)
      · have g : (!Bk.eqb (ix L i) (ix M i)) = true := g
        rw [eqS_no hin (by simpa using g)]
        exact And.intro trivial (AVle.refl _)
      · have g : (!Bk.eqb (ix L i) (ix M i)) = false := g
        have g : Bk.eqb (ix L i) (ix M i) = true := by simpa using g
        refine And.intro (inI64 (by omega) (by omega)) ?_
        exact ⟨i + 1, ⟨hin, fun j hj => by
          rcases Nat.lt_or_ge j i with h' | h'
          · exact h0 j h'
          · rw [show j = i by omega]; exact g⟩, by omega, [], rfl, rfl, ⟨AVle.refl _, AVle.refl _, AVle.refl _, AVle.of_eq (congrArg (AV.int .i64) (by simp)), trivial⟩, trivial⟩
    · have : i = L.length := by have := of_decide_eq_false h2; omega
      subst this
      rw [eqS_yes hl h0]
      exact And.intro trivial (AVle.refl _)
  · rw [eqS_len hl]
    refine VFn.introC Tryz.call187 Tryz.func187 rfl rfl ?_
    refine Grd.intro (fun g => ?_) (fun g => ?_)
    · exact And.intro trivial (AVle.refl _)
    · exfalso; simp [hl] at g
theorem eqS_iff {α : Type} [Inhabited α] {q : α → α → Bool} (hq : ∀ x y, q x y = true ↔ x = y) {L M : List α} : eqS q L M = true ↔ L = M := by
  unfold eqS
  rw [Bool.and_eq_true, decide_eq_true_eq, allN_iff]
  constructor
  · rintro ⟨h1, h2⟩
    refine List.ext_getElem (by omega) fun i hi hj => ?_
    have := (hq _ _).1 (h2 i hi)
    rwa [ix_lt hi, ix_lt hj] at this
  · rintro rfl
    exact ⟨rfl, fun i _ => (hq _ _).2 rfl⟩
theorem Smp.eqb_iff (x y : Smp) : Smp.eqb x y = true ↔ x = y := by
  obtain ⟨a, b⟩ := x
  obtain ⟨c, d⟩ := y
  simp [Smp.eqb]
theorem Ag.eqb_iff (x y : Ag) : Ag.eqb x y = true ↔ x = y := by
  obtain ⟨a, b, c, d, e, f⟩ := x
  obtain ⟨a', b', c', d', e', f'⟩ := y
  simp [Ag.eqb]
theorem Bk.eqb_iff (x y : Bk) : Bk.eqb x y = true ↔ x = y := by
  obtain ⟨a, b⟩ := x
  obtain ⟨c, d⟩ := y
  simp [Bk.eqb, Ag.eqb_iff]
end Go.Proofs.YtlbnpndednhdaaaGreatDoor
set_option linter.unusedVariables false
set_option linter.constructorNameAsVariable false
set_option linter.unusedSimpArgs false
set_option maxRecDepth 20000
namespace Go.Proofs.YtlbnpndednhdaaaGreatDoor
open Go Go.Vw

def bkt (f : Int) (a : Ag) : List Bk := if a.c = 0 then [] else [⟨f, a⟩]
theorem bucketOf_fn (f : Int) (a : Ag) : VFn Tryz.prog 188 [.int .i64 f, a.av] (bks (bkt f a)) := by
  obtain ⟨R, hR⟩ : ∃ R, R = bkt f a := ⟨_, rfl⟩
  rw [← hR]
  refine VFn.introC Tryz.call188 Tryz.func188 rfl rfl ?_
  refine Grd.intro (fun g => ?_) (fun g => ?_)
  · rw [bkt, if_pos (show a.c = 0 from of_decide_eq_true g)] at hR
    subst hR
    exact And.intro trivial (AVle.nilsl _ _ rfl)
  · rw [bkt, if_neg (show ¬ a.c = 0 from of_decide_eq_false g)] at hR
    subst hR
    exact And.intro trivial (AVle.sl1 rfl)
def sdat (s : Sto) (k : List UInt8) : List UInt8 := if s.has k = true then (s.get k).data else []
def truE (s : Sto) (e : En) (ac : List Smp) : Bool :=
  s.has e.key && (if e.tier = 0 then (rdOk (sdat s e.key) && eqS Smp.eqb (rdV (sdat s e.key)) (smpsIn ac e.f e.t)) else (rbOk (sdat s e.key) && eqS Bk.eqb (rbV (sdat s e.key)) (bkt e.f (aggL (smpsIn ac e.f e.t)))))
theorem sdat_len {s : Sto} (hs : s.ok = true) (k : List UInt8) : (sdat s k).length ≤ 600 := by
  unfold sdat
  split
  · rename_i h
    have hp := (hasK_at h).1
    have h3 := (Sto.ok_at hs).2.2 _ hp
    simp only [Sto.eOK, Bool.and_eq_true, decide_eq_true_eq] at h3
    exact h3.2.2.1
  · simp
theorem getD_fn (s : Sto) (hs : s.ok = true) (k : List UInt8) : VFn Tryz.prog 184 [s.av, .str (B k)] (.tup [.str (B (sdat s k)), .bool (s.has k)]) := by
  have c := get_fn s hs k
  unfold sdat
  cases h : s.has k
  · rw [h, if_neg (by simp)] at c
    rw [if_neg (by simp)]
    exact c
  · rw [h, if_pos rfl] at c
    rw [if_pos rfl]
    exact c
theorem l01GetD_fn (s : Sto) (hs : s.ok = true) (k : List UInt8) : VFn Tryz.prog 177 [s.av, .str (B k)] (.tup [.str (B (sdat s k)), .int .i64 (if s.has k = true then (s.get k).ver else 0)]) := by
  have c := l01Get_fn s hs k
  unfold sdat
  cases h : s.has k
  · rw [h, if_neg (by simp)] at c
    rw [if_neg (by simp), if_neg (by simp)]
    exact c
  · rw [h, if_pos rfl] at c
    rw [if_pos rfl, if_pos rfl]
    exact c
theorem bkt_len (f : Int) (a : Ag) : (bkt f a).length ≤ 1 := by
  unfold bkt; split <;> simp
theorem entryTrue_fn (s : Sto) (hs : s.ok = true) (e : En) (he : inI .i64 (e.t - 1)) (ac : List Smp) (hac : smpsOK ac = true) : VFn Tryz.prog 113 [s.av, e.av, smps ac] (.bool (truE s e ac)) := by
  obtain ⟨a1, a2⟩ := smps_bd hac
  have hl := smpsIn_len ac e.f e.t
  have c1 := getD_fn s hs e.key
  have hD := sdat_len hs e.key
  have c2 := samplesIn_fn ac (by omega) e.f e.t he
  have c3 := aggOf_fn (smpsIn ac e.f e.t) (by omega) (fun x hx => a2 x (smpsIn_mem hx))
  have c4 := bucketOf_fn e.f (aggL (smpsIn ac e.f e.t))
  have hb := bkt_len e.f (aggL (smpsIn ac e.f e.t))
  unfold truE
  generalize sdat s e.key = D at c1 hD ⊢
  generalize s.has e.key = h at c1 ⊢
  generalize smpsIn ac e.f e.t = W at c2 c3 c4 hl hb ⊢
  generalize aggL W = A at c3 c4 hb ⊢
  generalize bkt e.f A = K at c4 hb ⊢
  by_cases ht : e.tier = 0
  · rw [if_pos ht]
    cases hr : rdOk D
    · have cr := readSamples_gen D (by omega) (.tup [.any, .bool false]) (fun h => by rw [hr] at h; cases h) (fun _ => rfl)
      cases h
      all_goals
        refine VFn.introC Tryz.call113 Tryz.func113 rfl rfl ?_
        conv => whnf
        refine CallC.sca _ (c1) ?_ ?_
        · exact rfl
        conv => whnf
        refine CallC.nl _ (c2) ?_ ?_
        · exact rfl
        refine Grd.intro (fun g => ?_) (fun g => absurd ht (of_decide_eq_false g))
        conv => whnf
        refine CallC.nl _ (cr) ?_ ?_
        · exact rfl
        exact And.intro trivial (AVle.refl _)
    · have cr := readSamples_gen D (by omega) (.tup [smps (rdV D), .bool true]) (fun _ => rfl) (fun h => by rw [hr] at h; cases h)
      have hrl : (rdV D).length ≤ 1048576 := by
        simp only [rdOk, Bool.and_eq_true, decide_eq_true_eq] at hr
        unfold rdV; rw [List.length_map]; omega
      have c5 := EqualSmp2_fn (rdV D) W hrl (by omega)
      cases h
      · refine VFn.introC Tryz.call113 Tryz.func113 rfl rfl ?_
        conv => whnf
        refine CallC.sca _ (c1) ?_ ?_
        · exact rfl
        conv => whnf
        refine CallC.nl _ (c2) ?_ ?_
        · exact rfl
        refine Grd.intro (fun g => ?_) (fun g => absurd ht (of_decide_eq_false g))
        conv => whnf
        refine CallC.nl _ (cr) ?_ ?_
        · exact rfl
        exact And.intro trivial (AVle.refl _)
      · refine VFn.introC Tryz.call113 Tryz.func113 rfl rfl ?_
        conv => whnf
        refine CallC.sca _ (c1) ?_ ?_
        · exact rfl
        conv => whnf
        refine CallC.nl _ (c2) ?_ ?_
        · exact rfl
        refine Grd.intro (fun g => ?_) (fun g => absurd ht (of_decide_eq_false g))
        conv => whnf
        refine CallC.nl _ (cr) ?_ ?_
        · exact rfl
        conv => whnf
        refine CallC.sca _ (c5) ?_ ?_
        · exact rfl
        exact And.intro trivial (AVle.refl _)
  · rw [if_neg ht]
    cases hr : rbOk D
    · have cr := readBuckets_gen D (by omega) (.tup [.any, .bool false]) (fun h => by rw [hr] at h; cases h) (fun _ => rfl)
      cases h
      all_goals
        refine VFn.introC Tryz.call113 Tryz.func113 rfl rfl ?_
        conv => whnf
        refine CallC.sca _ (c1) ?_ ?_
        · exact rfl
        conv => whnf
        refine CallC.nl _ (c2) ?_ ?_
        · exact rfl
        refine Grd.intro (fun g => absurd (of_decide_eq_true g) ht) (fun g => ?_)
        conv => whnf
        refine CallC.nl _ (cr) ?_ ?_
        · exact rfl
        refine DrawC.mk 14 rfl (by kernel_rfl) ?_
        exact And.intro trivial (AVle.refl _)
    · have cr := readBuckets_gen D (by omega) (.tup [bks (rbV D), .bool true]) (fun _ => rfl) (fun h => by rw [hr] at h; cases h)
      have hrl : (rbV D).length ≤ 1048576 := by
        simp only [rbOk, Bool.and_eq_true] at hr
        have := bks_8 hr.2
        unfold rbV; omega
      have c5 := EqualBk2_fn (rbV D) K hrl (by omega)
      cases h
      · refine VFn.introC Tryz.call113 Tryz.func113 rfl rfl ?_
        conv => whnf
        refine CallC.sca _ (c1) ?_ ?_
        · exact rfl
        conv => whnf
        refine CallC.nl _ (c2) ?_ ?_
        · exact rfl
        refine Grd.intro (fun g => absurd (of_decide_eq_true g) ht) (fun g => ?_)
        conv => whnf
        refine CallC.nl _ (cr) ?_ ?_
        · exact rfl
        refine DrawC.mk 14 rfl (by kernel_rfl) ?_
        exact And.intro trivial (AVle.refl _)
      · refine VFn.introC Tryz.call113 Tryz.func113 rfl rfl ?_
        conv => whnf
        refine CallC.sca _ (c1) ?_ ?_
        · exact rfl
        conv => whnf
        refine CallC.nl _ (c2) ?_ ?_
        · exact rfl
        refine Grd.intro (fun g => absurd (of_decide_eq_true g) ht) (fun g => ?_)
        conv => whnf
        refine CallC.nl _ (cr) ?_ ?_
        · exact rfl
        refine DrawC.mk 14 rfl (by kernel_rfl) ?_
        refine PCallC.sca _ (c3) rfl ?_
        refine PCallC.nl _ (c4) rfl ?_
        refine PCallC.sca _ (c5) rfl ?_
        exact And.intro trivial (AVle.refl _)
end Go.Proofs.YtlbnpndednhdaaaGreatDoor
set_option linter.unusedVariables false
set_option linter.constructorNameAsVariable false
set_option linter.unusedSimpArgs false
set_option maxRecDepth 20000
namespace Go.Proofs.YtlbnpndednhdaaaGreatDoor
open Go Go.Vw

end Go.Proofs.YtlbnpndednhdaaaGreatDoor
set_option linter.unusedVariables false
set_option linter.constructorNameAsVariable false
set_option linter.unusedSimpArgs false
set_option maxRecDepth 20000
namespace Go.Proofs.YtlbnpndednhdaaaGreatDoor
open Go Go.Vw

theorem toSample_fn (s : Smp) : VFn Tryz.prog 110 [.agg s.row] (.agg s.row) := by
  refine VFn.introC Tryz.call110 Tryz.func110 rfl rfl ?_
  exact And.intro trivial (AVle.refl _)
theorem eqSample_fn (s : Smp) : VFn Tryz.prog 115 [.agg s.row, .agg s.row] (.bool true) := by
  refine VFn.introC Tryz.call115 Tryz.func115 rfl rfl ?_
  iterate 2 (refine Grd.intro (fun h => absurd h (by simp)) (fun _ => ?_))
  exact And.intro trivial (AVle.refl _)
theorem toSampleS_fn (L : List Smp) (hL : L.length ≤ 1048576) : VFn Tryz.prog 31 [smps L] (smps L) := by
  refine VFn.introC Tryz.call31 Tryz.func31 rfl rfl ?_
  refine And.intro ⟨by omega, rfl, (show (16 : Int) * L.length ≤ 140737488355328 by omega), by omega⟩ ?_
  refine LoopC.mk (fun i : Nat => i ≤ L.length) (fun i => [(0, smps L), (3, .osl 0), (4, .int .i64 i)])
    (fun i => [(0, .arr 144 2 L.length (wr (fun i => (ix L i).row) (fun _ => (default : Smp).row) i))]) 1 (fun i => L.length - i) 0
    ⟨Nat.zero_le _, [(0, 0)], rfl, rfl, ⟨AVle.refl _, AVle.refl _, AVle.refl _, trivial⟩, ⟨MOle.arr rfl fun i hi => by rw [wr_ge (Nat.zero_le i)]; rfl, trivial⟩⟩ ?_
  intro i hi
  refine Grd.intro (fun h2 => ?_) (fun h2 => ?_)
  · have hin : i < L.length := by have := of_decide_eq_true h2; omega
    refine And.intro (by omega) ?_
    conv => whnf
    refine CallC.sca _ (toSample_fn (ix L i)) ?_ ?_
    · exact rfl
    refine And.intro (by omega) ?_
    refine And.intro (inI64 (by omega) (by omega)) ?_
    exact ⟨i + 1, hin, by omega, [(0, 0)], rfl, rfl, ⟨AVle.refl _, AVle.refl _, AVle.of_eq (congrArg (AV.int .i64) (by simp)), trivial⟩, ⟨MOle.arr rfl fun k hk => wr_next fun e => by subst e; rw [wr_ge (Nat.le_refl _)]; rfl, trivial⟩⟩
  · have : i = L.length := by have := of_decide_eq_false h2; omega
    subst this
    exact And.intro trivial (AVle.sl rfl fun k hk => wr_lt hk)
theorem eqSampleS_fn (L : List Smp) (hL : L.length ≤ 1048576) : VFn Tryz.prog 34 [smps L, smps L] (.bool true) := by
  refine VFn.introC Tryz.call34 Tryz.func34 rfl rfl ?_
  refine Grd.intro (fun h => absurd h (by simp)) (fun _ => ?_)
  refine LoopC.mk (fun i : Nat => i ≤ L.length) (fun i => [(0, smps L), (1, smps L), (5, .int .i64 i)]) (fun _ => []) 0 (fun i => L.length - i) 0
    ⟨Nat.zero_le _, [], rfl, rfl, ⟨AVle.refl _, AVle.refl _, AVle.refl _, trivial⟩, trivial⟩ ?_
  intro i hi
  refine Grd.intro (fun h2 => ?_) (fun h2 => ?_)
  · have hin : i < L.length := by have := of_decide_eq_true h2; omega
    refine DrawC.mk 10 rfl (by kernel_rfl) ?_
    refine And.intro (by omega) ?_
    refine And.intro (by omega) ?_
    refine PCallC.sca _ (eqSample_fn (ix L i)) rfl ?_
    refine And.intro (inI64 (by omega) (by omega)) ?_
    exact ⟨i + 1, hin, by omega, [], rfl, rfl, ⟨AVle.refl _, AVle.refl _, AVle.of_eq (congrArg (AV.int .i64) (by simp)), trivial⟩, trivial⟩
  · exact And.intro trivial (AVle.refl _)
end Go.Proofs.YtlbnpndednhdaaaGreatDoor
