/- Contracts of functions that the claim reaches, and the plain law of what they compute; each theorem bears its own conditions. -/
import Derived.Test.YtfaffgneccjpbaaGreatDoorQ2
import Derived.Test.YtfaffgneccjpbaaGreatDoorQ1
import Derived.Test.YtfaffgneccjpbaaGreatDoorV50
set_option linter.unusedVariables false
set_option linter.constructorNameAsVariable false
set_option linter.unusedSimpArgs false
set_option maxRecDepth 20000
namespace Go.Proofs.YtfaffgneccjpbaaGreatDoor
open Go Go.Vw

theorem Lea.text_len (l : Lea) (h : ∀ x ∈ [l.tok, l.who, l.til], -9223372036854775807 ≤ x ∧ x ≤ 9223372036854775807) : l.text.length ≤ 65 := by
  have h1 := h l.tok (by simp)
  have h2 := h l.who (by simp)
  have h3 := h l.til (by simp)
  have l1 := itoa_len (n := l.tok) (by omega) h1.2
  have l2 := itoa_len (n := l.who) (by omega) h2.2
  have l3 := itoa_len (n := l.til) (by omega) h3.2
  show (Lib.join [Lib.itoa l.tok, Lib.itoa l.who, Lib.itoa l.til] [44]).length ≤ 65
  simp [Lib.join]
  omega
theorem get_ok (s : Sto) (hs : s.ok = true) (k : List UInt8) (h : s.has k = true) : (s.get k).data.length ≤ 600 ∧ 1 ≤ (s.get k).ver ∧ (s.get k).ver ≤ 1000000000 := by
  have h1 : s.eOK (s.pos k) = true := (Sto.ok_at hs).2.2 _ (hasK_at h).1
  have h2 := (Sto.ok_at hs).1
  simp [within] at h2
  simp [Sto.eOK, within] at h1
  unfold Sto.get
  omega
end Go.Proofs.YtfaffgneccjpbaaGreatDoor
set_option linter.unusedVariables false
set_option linter.constructorNameAsVariable false
set_option linter.unusedSimpArgs false
set_option maxRecDepth 20000
namespace Go.Proofs.YtfaffgneccjpbaaGreatDoor
open Go Go.Vw

theorem nums2 {c : UInt8} {t : List UInt8} {N : List Int} (h : numsK c 2 t = some N) : ∃ a b, N = [a, b] := by
  unfold numsK at h
  split at h
  · rename_i hc
    injection h with h
    have : N.length = 2 := by rw [← h, List.length_map]; exact hc.1
    match N, this with
    | [a, b], _ => exact ⟨a, b, rfl⟩
  · cases h
def pOk (w : List UInt8) : Bool := (numsK 61 2 w).isSome
def pv (w : List UInt8) : Smp := match numsK 61 2 w with | some [a, b] => ⟨a, b⟩ | _ => default
def wds (t : List UInt8) : List (List UInt8) := if t = [] then [] else cutP 32 [] t
def pts (t : List UInt8) : List (List UInt8) := if t = [] then [] else Lib.splitN t [32] 9
theorem splitK_piece (c : UInt8) : ∀ (k : Nat) (l : List UInt8), ∀ x ∈ Lib.splitK [c] 0 k l, x.length ≤ l.length
  | 0, l, x, hx => by
    simp [Lib.splitK] at hx
    rw [hx]; exact Nat.le_refl _
  | k + 1, l, x, hx => by
    rcases first_c c l with h | ⟨a, b, rfl, ha⟩
    · unfold Lib.splitK at hx
      rw [index_none c l h] at hx
      simp at hx
      rw [hx]; exact Nat.le_refl _
    · have e : Lib.splitK [c] 0 (k + 1) (a ++ c :: b) = a :: Lib.splitK [c] 0 k b := by
        rw [Lib.splitK, index_at c a b ha, if_neg (by simp <;> omega)]
        simp
      rw [e] at hx
      rcases List.mem_cons.1 hx with rfl | hx
      · simp
      · have := splitK_piece c k b x hx
        simp; omega
def rdOk (t : List UInt8) : Bool := (wds t).all pOk && (smpsOK ((wds t).map pv) && decide (((wds t).length : Int) ≤ 8))
def rdV (t : List UInt8) : List Smp := (wds t).map pv
theorem join_nil {L : List (List UInt8)} {c : UInt8} (h : ∀ x ∈ L, x ≠ []) (hL : L ≠ []) : Lib.join L [c] ≠ [] := by
  match L, hL with
  | [a], _ => rw [Lib.join_one]; exact h a (by simp)
  | a :: b :: r, _ =>
    have e : Lib.join (a :: b :: r) [c] = a ++ c :: Lib.join (b :: r) [c] := by simp [Lib.join, List.intercalate, List.intersperse]
    rw [e]; simp
end Go.Proofs.YtfaffgneccjpbaaGreatDoor
set_option linter.unusedVariables false
set_option linter.constructorNameAsVariable false
set_option linter.unusedSimpArgs false
set_option maxRecDepth 20000
namespace Go.Proofs.YtfaffgneccjpbaaGreatDoor
open Go Go.Vw

theorem putAbsent_fn (s : Sto) (hs : s.ok = true) (k d : List UInt8) (hd : d.length ≤ 1000000000) : VFn Tryz.prog 45 [s.av, .str (B k), .str (B d)] (.tup [(s.putA k d).1.av, .int .i64 (if s.has k = true ∨ s.room k d ≠ 0 then 0 else s.next), .int .i64 (s.putA k d).2]) := by
  have c := find_fn s hs k
  have cp := put_fn s hs k d hd
  unfold Sto.putA
  by_cases hk : s.has k = true
  · rw [hk] at c ⊢
    rw [if_pos rfl, if_pos (.inl rfl)]
    refine VFn.introC Tryz.call45 Tryz.func45 rfl rfl ?_
    conv => whnf
    refine CallC.sca _ (c) ?_ ?_
    · exact rfl
    exact And.intro trivial (AVle.refl _)
  · have hk : s.has k = false := by simpa using hk
    rw [hk] at c ⊢
    rw [if_neg (by simp)]
    unfold Sto.put
    by_cases hr : s.room k d = 0
    · rw [if_pos hr] at cp
      rw [if_pos hr, hr, if_neg (by simp)]
      refine VFn.introC Tryz.call45 Tryz.func45 rfl rfl ?_
      conv => whnf
      refine CallC.sca _ (c) ?_ ?_
      · exact rfl
      conv => whnf
      refine CallC.nl _ (cp) ?_ ?_
      · exact rfl
      exact And.intro trivial (AVle.refl _)
    · rw [if_neg hr] at cp
      rw [if_neg hr, if_pos (.inr hr)]
      refine VFn.introC Tryz.call45 Tryz.func45 rfl rfl ?_
      conv => whnf
      refine CallC.sca _ (c) ?_ ?_
      · exact rfl
      conv => whnf
      refine CallC.nl _ (cp) ?_ ?_
      · exact rfl
      exact And.intro trivial (AVle.refl _)
end Go.Proofs.YtfaffgneccjpbaaGreatDoor
set_option linter.unusedVariables false
set_option linter.constructorNameAsVariable false
set_option linter.unusedSimpArgs false
set_option maxRecDepth 20000
namespace Go.Proofs.YtfaffgneccjpbaaGreatDoor
open Go Go.Vw

/-- the digits of a positive number, none of 0 -/
def posD : Nat → List UInt8
  | 0 => []
  | n + 1 => posD ((n + 1) / 10) ++ [d1 (n + 1)]
decreasing_by omega
def markT (k : Int) : List UInt8 := if k ≤ 0 then [109, 48] else 109 :: posD k.toNat
theorem posD_len : ∀ (k n : Nat), n < 10 ^ k → (posD n).length ≤ k
  | 0, n, h => by
    have : n = 0 := by simpa using h
    subst this; simp [posD]
  | k + 1, 0, h => by simp [posD]
  | k + 1, n + 1, h => by
    rw [posD]
    have := posD_len k ((n + 1) / 10) (by rw [Nat.pow_succ] at h; omega)
    simp; omega
/-- texts marked from a number on -/
def mkT (k : Int) (n : Nat) : List (List UInt8) := (List.range n).map fun j : Nat => markT (k + (j : Int))
end Go.Proofs.YtfaffgneccjpbaaGreatDoor
set_option linter.unusedVariables false
set_option linter.constructorNameAsVariable false
set_option linter.unusedSimpArgs false
set_option maxRecDepth 20000
namespace Go.Proofs.YtfaffgneccjpbaaGreatDoor
open Go Go.Vw

def Ob.size (e : Ob) : Nat := e.key.length + e.data.length
def mkO (k : Int) (i : Nat) : List AV := [.str (B (markT (k + 3 * i))), .int .i64 (k + 3 * i + 1), .str (B (markT (k + 3 * i + 1 + 1)))]
def stoN (s : Sto) : Nat := s.os.length + sumL Ob.size s.os
structure StoIn (s : Sto) : Prop where
  len : s.os.length ≤ 9223372036854775807
  sz : ∀ e ∈ s.os, e.key.length ≤ 9223372036854775807 ∧ e.data.length ≤ 9223372036854775807
  nxt : -9223372036854775808 ≤ s.next ∧ s.next ≤ 9223372036854775807
/-- no store -/
def sto0 : AV := .agg [.nilsl, .int .i64 0]
end Go.Proofs.YtfaffgneccjpbaaGreatDoor
set_option linter.unusedVariables false
set_option linter.constructorNameAsVariable false
set_option linter.unusedSimpArgs false
set_option maxRecDepth 20000
namespace Go.Proofs.YtfaffgneccjpbaaGreatDoor
open Go Go.Vw

def Rc.res (r : Rc) : List UInt8 := if r.ok = true then r.text else []
def Rc.code (r : Rc) : Int := if r.ok = true then 0 else 1
theorem recText_fn (r : Rc) (h : r.ok = true) : VFn Tryz.prog 81 [r.av] (.str (B r.text)) := by
  have hm := (Rc.okN h).1
  have hk := (Rc.okN h).2
  have hl := Rc.head_len h
  have e : (r.nums.map It.n).map It.txt = r.nums.map Lib.itoa := by rw [List.map_map]; rfl
  refine VFn.introC Tryz.call81 Tryz.func81 rfl rfl ?_
  refine DrawC.mk 22 rfl (by kernel_rfl) ?_
  refine PCallC.sca _ (joined_of (r.nums.map It.n) (n := 5) ⟨rfl, rfl, rfl, rfl, rfl, trivial⟩ rfl [44] (show 5 ≤ 100000000 by decide) (fun x hx => by
    obtain ⟨n, hn, rfl⟩ := List.mem_map.1 hx
    have := hm n hn; unfold mid at this; exact ⟨by omega, by omega⟩) (by rw [e]; omega)) rfl ?_
  rw [e]
  have add : ∀ (x y : List UInt8), (x.length + y.length : Nat) ≤ 100000 → (((B x).size + (B y).size : Nat) : Int) ≤ 9223372036854775807 := fun x y h => by rw [B_size, B_size]; omega
  refine And.intro (add (Lib.join (r.nums.map Lib.itoa) [44]) [32] (by simp; omega)) ?_
  refine And.intro (show (((B (Lib.join (r.nums.map Lib.itoa) [44]) ++ B [32]).size + (B r.key).size : Nat) : Int) ≤ 9223372036854775807 by rw [B_app]; exact add _ _ (by simp; omega)) ?_
  exact And.intro trivial (AVle.of_eq (congrArg AV.str (show B (Lib.join (r.nums.map Lib.itoa) [44]) ++ B [32] ++ B r.key = B r.text by rw [B_app, B_app, List.append_assoc]; rfl)))
theorem l06Text_fn (r : Rc) (h : r.ok = true) : VFn Tryz.prog 73 [r.av] (.str (B r.text)) := by
  have hm := (Rc.okN h).1
  have hk := (Rc.okN h).2
  have hl := Rc.head_len h
  refine VFn.introC Tryz.call73 Tryz.func73 rfl rfl ?_
  refine DrawC.mk 17 rfl (by kernel_rfl) ?_
  refine PCallC.sca (.str (B (Lib.join (r.nums.map Lib.itoa) [44]))) ((l02Join_fn r.nums (show 5 ≤ 100000000 by decide) (fun x hx => by have := hm x hx; unfold mid at this; omega)).weak (AVsle.cons (RowsAre.le (f := fun n : Int => [AV.int .i64 n]) rfl ⟨rfl, rfl, rfl, rfl, rfl, trivial⟩) AVsle.nil) (AVle.refl _)) rfl ?_
  have add : ∀ (x y : List UInt8), (x.length + y.length : Nat) ≤ 100000 → (((B x).size + (B y).size : Nat) : Int) ≤ 9223372036854775807 := fun x y h => by rw [B_size, B_size]; omega
  refine And.intro (add (Lib.join (r.nums.map Lib.itoa) [44]) [32] (by simp; omega)) ?_
  refine And.intro (show (((B (Lib.join (r.nums.map Lib.itoa) [44]) ++ B [32]).size + (B r.key).size : Nat) : Int) ≤ 9223372036854775807 by rw [B_app]; exact add _ _ (by simp; omega)) ?_
  exact And.intro trivial (AVle.of_eq (congrArg AV.str (show B (Lib.join (r.nums.map Lib.itoa) [44]) ++ B [32] ++ B r.key = B r.text by rw [B_app, B_app, List.append_assoc]; rfl)))
end Go.Proofs.YtfaffgneccjpbaaGreatDoor
set_option linter.unusedVariables false
set_option linter.constructorNameAsVariable false
set_option linter.unusedSimpArgs false
set_option maxRecDepth 20000
namespace Go.Proofs.YtfaffgneccjpbaaGreatDoor
open Go Go.Vw

def manK (n : Int) : List UInt8 := [109, 97, 110, 47] ++ six6 n.toNat
def appS (s : Sto) (n : Int) (r : Rc) : Sto × Int := s.putA (manK n) r.text
def appC (s : Sto) (n : Int) (r : Rc) : Int := if s.ok = true ∧ r.ok = true then (if within n 1 999999 = true then 0 else 4) else 1
theorem app_ok {s : Sto} {n : Int} {r : Rc} (h : appC s n r = 0) : s.ok = true ∧ r.ok = true ∧ within n 1 999999 = true := by
  unfold appC at h
  split at h
  · rename_i h1
    split at h
    · rename_i h2; exact ⟨h1.1, h1.2, h2⟩
    · cases h
  · cases h
theorem app_len (s : Sto) (hs : s.ok = true) (n : Int) (r : Rc) : (appS s n r).1.os.length ≤ 301 := by
  have hL := (Sto.ok_at hs).2.1
  unfold appS Sto.putA
  split
  · show s.os.length ≤ 301; omega
  · show (s.put _ _).os.length ≤ 301
    unfold Sto.put
    split
    · have := set_len_le s (manK n) r.text; omega
    · omega
theorem text_len {r : Rc} (h : r.ok = true) : r.text.length ≤ 1000000 := by
  have hl := Rc.head_len h
  have hk := (Rc.okN h).2
  unfold Rc.text
  simp only [List.length_append, List.length_cons, List.length_nil]
  omega
theorem l06Key_fn (n : Int) (h : within n 1 999999 = true) : VFn Tryz.prog 72 [.int .i64 n] (.str (B (manK n))) := by
  have hb : 1 ≤ n ∧ n ≤ 999999 := by simpa [within] using h
  have c := l03Wide_fn n.toNat (by omega)
  rw [show ((n.toNat : Nat) : Int) = n by omega] at c
  refine VFn.introC Tryz.call72 Tryz.func72 rfl rfl ?_
  conv => whnf
  refine CallC.sca _ (c) ?_ ?_
  · exact rfl
  refine And.intro (show ((4 + (B (six6 n.toNat)).size : Nat) : Int) ≤ 9223372036854775807 by rw [B_size, six6_len]; decide) ?_
  refine force_to (congrArg AV.str (show B [109, 97, 110, 47] ++ B (six6 n.toNat) = B (manK n) from B_app _ _)) ?_
  exact And.intro trivial (AVle.refl _)
theorem lay_fn (s : Sto) (hs : s.ok = true) (n : Int) (h : within n 1 999999 = true) (r : Rc) (hr : r.ok = true) : VFn Tryz.prog 36 [s.av, .int .i64 n, r.av] (.tup [(appS s n r).1.av, .int .i64 (appS s n r).2]) := by
  have hb : 1 ≤ n ∧ n ≤ 999999 := by simpa [within] using h
  have co := putAbsent_fn s hs (manK n) r.text (by have := text_len hr; omega)
  have cw := within_fn n 1 999999
  rw [h] at cw
  refine VFn.introC Tryz.call36 Tryz.func36 rfl rfl ?_
  conv => whnf
  refine CallC.sca _ (cw) ?_ ?_
  · exact rfl
  refine DrawC.mkK 15 [(.inr 11, 12)] rfl (by kernel_rfl) ?_
  refine And.intro rfl ?_
  conv => whnf
  refine PCallK.sca _ (six_fn n (by simp [within]; omega)) rfl ?_
  conv => whnf
  refine And.intro (show ((4 + (B (six6 n.toNat)).size : Nat) : Int) ≤ 9223372036854775807 by rw [B_size, six6_len]; decide) ?_
  refine force_to (congrArg AV.str (show B [109, 97, 110, 47] ++ B (six6 n.toNat) = B (manK n) from B_app _ _)) ?_
  conv => whnf
  refine PCallK.sca _ (recText_fn r hr) rfl ?_
  conv => whnf
  refine PCallK.nl _ (co) rfl ?_
  exact And.intro trivial (AVle.refl _)
theorem Append_own (s : Sto) (hr : StoRd s) (n : Int) (r : Rc) (ha : appC s n r = 0) : FnM Tryz.prog 8 0 [s.av, .int .i64 n, r.av] [] (.tup [(appS s n r).1.own, .int .i64 (appS s n r).2]) [(0, .arr 100 3 (appS s n r).1.os.length fun i => (ix (appS s n r).1.os i).row)] 1 := by
  obtain ⟨hs, ho, hw⟩ := app_ok ha
  have hl := app_len s hs n r
  have c := StoreOK_fn s (by have := hr.len; omega) hr.key
  have cr := RecordOK_fn r
  have cw := within_fn n 1 999999
  rw [hs] at c
  rw [ho] at cr
  rw [hw] at cw
  refine FnM.introC Tryz.call8 Tryz.func8 rfl rfl ?_
  conv => whnf
  refine CallC.sca _ (c) ?_ ?_
  · exact rfl
  conv => whnf
  refine CallC.sca _ (cr) ?_ ?_
  · exact rfl
  conv => whnf
  refine CallC.sca _ (cw) ?_ ?_
  · exact rfl
  conv => whnf
  refine CallC.sca _ (first2_of false false _ _ ⟨rfl, rfl, rfl, rfl, trivial⟩ rfl (show _ = (0 : Int) from rfl)) ?_ ?_
  · exact rfl
  conv => whnf
  refine CallC.nl _ (lay_fn s hs n hw r ho) ?_ ?_
  · exact rfl
  conv => whnf
  refine CallC.k [] (copied_own (appS s n r).1 (by omega)) rfl rfl (AVsle.refl _) trivial rfl ?_
  exact And.intro trivial ⟨[(5, 0)], rfl, AVle.refl _, ⟨MOle.refl _, trivial⟩⟩
end Go.Proofs.YtfaffgneccjpbaaGreatDoor
set_option linter.unusedVariables false
set_option linter.constructorNameAsVariable false
set_option linter.unusedSimpArgs false
set_option maxRecDepth 20000
namespace Go.Proofs.YtfaffgneccjpbaaGreatDoor
open Go Go.Vw

structure Tb where
  seq : Int
  key : List UInt8
  deriving Inhabited, DecidableEq
def Tb.row (e : Tb) : List AV := [.int .i64 e.seq, .str (B e.key)]
def Tb.av (e : Tb) : AV := .agg e.row
abbrev ents (L : List En) : AV := .sl 4 L.length fun i => (ix L i).row
abbrev tbs (L : List Tb) : AV := .sl 2 L.length fun i => (ix L i).row

theorem IndexEn_1 (L : List En) (hL : L.length ≤ 9223372036854775807) (F : Nat) (row : List AV) (p : En → Bool) (hp : ∀ e ∈ L, VFn Tryz.prog F [e.av, .eptr row 0] (.bool (p e))) :
    VFn Tryz.prog 163 [ents L, .fn (.func F) [] [.eptr row 0]] (.int .i64 (fi p L)) := by
  refine VFn.introC Tryz.call163 Tryz.func163 rfl rfl ?_
  refine LoopC.mk (fun i : Nat => i ≤ L.length ∧ ∀ j, j < i → p (ix L j) = false) (fun i => [(0, ents L), (1, .fn (.func F) [] [.eptr row 0]), (7, .int .i64 L.length), (8, .int .i64 i)]) (fun _ => []) 0 (fun i => L.length - i) 0
    ⟨⟨Nat.zero_le _, fun j hj => absurd hj (Nat.not_lt_zero j)⟩, [], rfl, rfl, ⟨AVle.refl _, AVle.refl _, AVle.refl _, AVle.refl _, trivial⟩, trivial⟩ ?_
  intro i hi
  refine Grd.intro (fun h2 => ?_) (fun h2 => ?_)
  · have hin : i < L.length := by have := of_decide_eq_true h2; omega
    refine And.intro (by omega) ?_
    conv => whnf
    refine CallC.sca _ (hp (ix L i) (getD_mem hin)) ?_ ?_
    · exact rfl
    refine Grd.intro (fun h3 => ?_) (fun h3 => ?_)
    · exact And.intro trivial (AVle.of_eq (congrArg (AV.int .i64) (fi_at hin hi.2 h3).symm))
    · refine And.intro (inI64 (by omega) (by omega)) ?_
      exact ⟨i + 1, ⟨hin, fun j hj => by
        rcases Nat.lt_or_ge j i with h' | h'
        · exact hi.2 j h'
        · rw [show j = i by omega]; exact h3⟩, by omega, [], rfl, rfl, ⟨AVle.refl _, AVle.refl _, AVle.refl _, AVle.of_eq (congrArg (AV.int .i64) (by simp)), trivial⟩, trivial⟩
  · have : i = L.length := by have := of_decide_eq_false h2; omega
    subst this
    exact And.intro trivial (AVle.of_eq (congrArg (AV.int .i64) (fi_none hi.2).symm))
theorem ContainsEn_1 (L : List En) (hL : L.length ≤ 9223372036854775807) (F : Nat) (row : List AV) (p : En → Bool) (hp : ∀ e ∈ L, VFn Tryz.prog F [e.av, .eptr row 0] (.bool (p e))) :
    VFn Tryz.prog 140 [ents L, .fn (.func F) [] [.eptr row 0]] (.bool (L.any p)) := by
  refine VFn.introC Tryz.call140 Tryz.func140 rfl rfl ?_
  conv => whnf
  refine CallC.sca _ (IndexEn_1 L hL F row p hp) ?_ ?_
  · exact rfl
  exact And.intro trivial (AVle.of_eq (congrArg AV.bool (show decide (0 ≤ fi p L) = _ from fi_any)))
end Go.Proofs.YtfaffgneccjpbaaGreatDoor
set_option linter.unusedVariables false
set_option linter.constructorNameAsVariable false
set_option linter.unusedSimpArgs false
set_option maxRecDepth 20000
namespace Go.Proofs.YtfaffgneccjpbaaGreatDoor
open Go Go.Vw

structure Sta where
  seq : Int
  fence : Int
  es : List En
  ts : List Tb
  l0 : Int
  l1 : Int
  l2 : Int
  h0 : Int
  h1 : Int
  h2 : Int
  deriving Inhabited, DecidableEq
def Sta.row (s : Sta) : List AV := [.int .i64 s.seq, .int .i64 s.fence, ents s.es, tbs s.ts, .int .i64 s.l0, .int .i64 s.l1, .int .i64 s.l2, .int .i64 s.h0, .int .i64 s.h1, .int .i64 s.h2]
def Sta.av (s : Sta) : AV := .agg s.row
def ofT (L : List En) (k : Int) : List En := L.filter fun e => decide (e.tier = k)
theorem ofT_snoc {L : List En} {i : Nat} (h : i < L.length) (k : Int) : ofT (L.take (i + 1)) k = if (ix L i).tier = k then ofT (L.take i) k ++ [ix L i] else ofT (L.take i) k := by
  unfold ofT
  rw [take_snoc h, List.filter_append]
  by_cases hk : (ix L i).tier = k
  · rw [if_pos hk]; simp [hk]
  · rw [if_neg hk]; simp [hk]
theorem ofT_len (L : List En) (k : Int) : (ofT L k).length ≤ L.length := List.length_filter_le _ _
theorem ofS_fn (s : Sta) (hL : s.es.length ≤ 1000000000) (k : Int) : VFn Tryz.prog 164 [s.av, .int .i64 k] (ents (ofT s.es k)) := by
  obtain ⟨R, hR⟩ : ∃ R, R = ofT s.es k := ⟨_, rfl⟩
  rw [← hR]
  have hl := fun i => Nat.le_trans (ofT_len (s.es.take i) k) (by simp; omega : (s.es.take i).length ≤ i)
  refine VFn.introC Tryz.call164 Tryz.func164 rfl rfl ?_
  refine LoopC.mk (fun i : Nat => i ≤ s.es.length) (fun i => [(1, .int .i64 k), (5, .osl 0), (10, ents s.es), (11, .int .i64 s.es.length), (12, .int .i64 i)])
    (fun i => [(0, .arr 35 4 (ofT (s.es.take i) k).length fun j => (ix (ofT (s.es.take i) k) j).row)]) 1 (fun i => s.es.length - i) 0
    ⟨Nat.zero_le _, [(1, 0)], rfl, rfl, ⟨AVle.refl _, AVle.refl _, AVle.refl _, AVle.refl _, AVle.refl _, trivial⟩, ⟨MOle.arr rfl fun i hi => absurd hi (Nat.not_lt_zero i), trivial⟩⟩ ?_
  intro i hi
  refine Grd.intro (fun h2 => ?_) (fun h2 => ?_)
  · have hin : i < s.es.length := by have := of_decide_eq_true h2; omega
    have hs := ofT_snoc hin k
    refine And.intro (by omega) ?_
    refine Grd.intro (fun h3 => ?_) (fun h3 => ?_)
    · rw [if_pos (show (ix s.es i).tier = k from of_decide_eq_true h3)] at hs
      refine And.intro ⟨show ((ofT (s.es.take i) k).length + 1) * 40 ≤ 140737488355328 by have := hl i; omega, all1 rfl⟩ ?_
      refine And.intro (inI64 (by omega) (by omega)) ?_
      refine ⟨i + 1, hin, by omega, [(3, 0)], rfl, rfl, ⟨AVle.refl _, AVle.refl _, AVle.refl _, AVle.refl _, AVle.of_eq (congrArg (AV.int .i64) (by simp)), trivial⟩, ⟨?_, trivial⟩⟩
      exact arr_next (f := En.row) hs rfl
    · rw [if_neg (show ¬ (ix s.es i).tier = k from of_decide_eq_false h3)] at hs
      refine And.intro (inI64 (by omega) (by omega)) ?_
      exact ⟨i + 1, hin, by omega, [(0, 0)], rfl, rfl, ⟨AVle.refl _, AVle.refl _, AVle.refl _, AVle.refl _, AVle.of_eq (congrArg (AV.int .i64) (by simp)), trivial⟩, ⟨MOle.of_eq (show MO.arr 35 4 (ofT (s.es.take i) k).length (fun j => (ix (ofT (s.es.take i) k) j).row) = _ by rw [hs]), trivial⟩⟩
  · have : i = s.es.length := by have := of_decide_eq_false h2; omega
    subst this
    have e : ofT (s.es.take s.es.length) k = R := by rw [List.take_of_length_le (Nat.le_refl _), hR]
    subst e
    exact And.intro trivial (AVle.sl rfl fun j hj => rfl)
/-- keys met, each once -/
def addK (ks : List (List UInt8)) (k : List UInt8) : List (List UInt8) := if k ∈ ks then ks else ks ++ [k]
def ddk (L : List (List UInt8)) : List (List UInt8) := L.foldl addK []
/-- entries one beside the other, from a moment on: where they end -/
def runs : List En → Int → Option Int
  | [], a => some a
  | e :: r, a => if e.f = a then runs r e.t else none
def atN (a : Int) (L : List En) : Nat → Int
  | 0 => a
  | i + 1 => (ix L i).t
def tierOK (L : List En) (lo hi : Int) (k : Int) : Bool := within lo 0 100000 && decide (runs (ofT L k) lo = some hi)
def tbOK (n : Int) (t : Tb) : Bool := kOk t.key && within t.seq 1 n
def Sta.keys (s : Sta) : List (List UInt8) := s.es.map (·.key) ++ s.ts.map (·.key)
def Sta.ok (s : Sta) : Bool :=
  within s.seq 0 999999 && (within s.fence 0 999999 && (decide (((s.es.length : Nat) : Int) + ((s.ts.length : Nat) : Int) ≤ 4096) && (s.es.all En.ok && (s.ts.all (tbOK s.seq) && (decide s.keys.Nodup &&
    (tierOK s.es s.l0 s.h0 0 && (tierOK s.es s.l1 s.h1 1 && tierOK s.es s.l2 s.h2 2)))))))
end Go.Proofs.YtfaffgneccjpbaaGreatDoor
set_option linter.unusedVariables false
set_option linter.constructorNameAsVariable false
set_option linter.unusedSimpArgs false
set_option maxRecDepth 20000
namespace Go.Proofs.YtfaffgneccjpbaaGreatDoor
open Go Go.Vw

def En.rc (e : En) : Rc := ⟨0, 0, e.tier, e.f, e.t, e.key⟩
/-- where a tier's entries end -/
def endE (L : List En) (lo : Int) (k : Int) : Int := match (ofT L k).getLast? with | some e => e.t | none => lo
theorem endE_snoc {L : List En} {i : Nat} (h : i < L.length) (lo k : Int) : endE (L.take (i + 1)) lo k = if (ix L i).tier = k then (ix L i).t else endE (L.take i) lo k := by
  unfold endE
  rw [ofT_snoc h]
  by_cases hk : (ix L i).tier = k
  · rw [if_pos hk, if_pos hk]; simp
  · rw [if_neg hk, if_neg hk]
def Sta.lo (s : Sta) (k : Int) : Int := if k = 0 then s.l0 else if k = 1 then s.l1 else s.l2
def Sta.hi (s : Sta) (k : Int) : Int := if k = 0 then s.h0 else if k = 1 then s.h1 else s.h2
def Sta.eOK (s : Sta) (i : Nat) : Bool := (ix s.es i).ok && (decide ((ix s.es i).f = endE (s.es.take i) (s.lo (ix s.es i).tier) (ix s.es i).tier) && !decide ((ix s.es i).key ∈ (s.es.take i).map (·.key)))
def Sta.tOK (s : Sta) (i : Nat) : Bool := tbOK s.seq (ix s.ts i) && !decide ((ix s.ts i).key ∈ s.es.map (·.key) ++ (s.ts.take i).map (·.key))
def Sta.ok' (s : Sta) : Bool :=
  within s.seq 0 999999 && (within s.fence 0 999999 && (decide (((s.es.length : Nat) : Int) + ((s.ts.length : Nat) : Int) ≤ 4096) && (allN s.es.length s.eOK && (allN s.ts.length s.tOK &&
    ((within s.l0 0 100000 && decide (s.h0 = endE s.es s.l0 0)) && ((within s.l1 0 100000 && decide (s.h1 = endE s.es s.l1 1)) && (within s.l2 0 100000 && decide (s.h2 = endE s.es s.l2 2))))))))
end Go.Proofs.YtfaffgneccjpbaaGreatDoor
set_option linter.unusedVariables false
set_option linter.constructorNameAsVariable false
set_option linter.unusedSimpArgs false
set_option maxRecDepth 20000
namespace Go.Proofs.YtfaffgneccjpbaaGreatDoor
open Go Go.Vw

theorem runs_snoc : ∀ (L : List En) (e : En) (a : Int), runs (L ++ [e]) a = (runs L a).bind fun b => if e.f = b then some e.t else none
  | [], e, a => by simp [runs]
  | x :: r, e, a => by
    rw [List.cons_append]; unfold runs
    by_cases h : x.f = a
    · rw [if_pos h, if_pos h]; exact runs_snoc r e x.t
    · rw [if_neg h, if_neg h]; rfl
theorem runs_end : ∀ (L : List En) (a b : Int), runs L a = some b → b = match L.getLast? with | some e => e.t | none => a
  | [], a, b, h => by cases h; rfl
  | x :: r, a, b, h => by
    unfold runs at h
    by_cases hx : x.f = a
    · rw [if_pos hx] at h
      have := runs_end r x.t b h
      cases r with
      | nil => exact this
      | cons y r => rw [this, List.getLast?_cons_cons]; cases hq : (y :: r).getLast? with
        | none => simp at hq
        | some z => rfl
    · rw [if_neg hx] at h; cases h
theorem runs_endE {L : List En} {k a b : Int} (h : runs (ofT L k) a = some b) : b = endE L a k := runs_end _ _ _ h
def sideBy (s : Sta) (m : Nat) : Prop := ∀ k, (k = 0 ∨ k = 1 ∨ k = 2) → runs (ofT (s.es.take m) k) (s.lo k) = some (endE (s.es.take m) (s.lo k) k)
theorem sideBy_iff (s : Sta) (ht : ∀ e ∈ s.es, e.tier = 0 ∨ e.tier = 1 ∨ e.tier = 2) : ∀ m, m ≤ s.es.length →
    ((∀ i, i < m → (ix s.es i).f = endE (s.es.take i) (s.lo (ix s.es i).tier) (ix s.es i).tier) ↔ sideBy s m)
  | 0, _ => ⟨fun _ k _ => rfl, fun _ i hi => absurd hi (Nat.not_lt_zero i)⟩
  | m + 1, hm => by
    have hin : m < s.es.length := hm
    have ih := sideBy_iff s ht m (by omega)
    have hs := fun k => ofT_snoc hin k
    have he := fun lo k => endE_snoc hin lo k
    have hte := ht _ (getD_mem hin)
    constructor
    · intro h k hk
      have h0 := ih.1 (fun i hi => h i (by omega)) k hk
      rw [hs, he]
      by_cases hkt : (ix s.es m).tier = k
      · rw [if_pos hkt, if_pos hkt, runs_snoc, h0]
        have := h m (by omega)
        rw [hkt] at this
        simp [this]
      · rw [if_neg hkt, if_neg hkt]; exact h0
    · intro h
      have hprev : sideBy s m := fun k hk => by
        have h1 := h k hk
        rw [hs] at h1
        by_cases hkt : (ix s.es m).tier = k
        · rw [if_pos hkt, runs_snoc] at h1
          cases hr : runs (ofT (s.es.take m) k) (s.lo k) with
          | none => rw [hr] at h1; cases h1
          | some b => rw [runs_endE hr]
        · rw [if_neg hkt] at h1
          rw [h1, runs_endE h1]
      intro i hi
      rcases Nat.lt_or_ge i m with h' | h'
      · exact ih.2 hprev i h'
      · have : i = m := by omega
        subst this
        have h1 := h _ hte
        rw [hs, if_pos rfl, runs_snoc, hprev _ hte] at h1
        simp only [Option.bind_some] at h1
        by_cases hf : (ix s.es i).f = endE (s.es.take i) (s.lo (ix s.es i).tier) (ix s.es i).tier
        · exact hf
        · rw [if_neg hf] at h1; cases h1
theorem allN_iff {n : Nat} {p : Nat → Bool} : allN n p = true ↔ ∀ i, i < n → p i = true := by
  unfold allN; rw [List.all_eq_true]; simp
end Go.Proofs.YtfaffgneccjpbaaGreatDoor
set_option linter.unusedVariables false
set_option linter.constructorNameAsVariable false
set_option linter.unusedSimpArgs false
set_option maxRecDepth 20000
namespace Go.Proofs.YtfaffgneccjpbaaGreatDoor
open Go Go.Vw

theorem IndexTb_1 (L : List Tb) (hL : L.length ≤ 9223372036854775807) (F : Nat) (row : List AV) (p : Tb → Bool) (hp : ∀ e ∈ L, VFn Tryz.prog F [e.av, .eptr row 0] (.bool (p e))) :
    VFn Tryz.prog 171 [tbs L, .fn (.func F) [] [.eptr row 0]] (.int .i64 (fi p L)) := by
  refine VFn.introC Tryz.call171 Tryz.func171 rfl rfl ?_
  refine LoopC.mk (fun i : Nat => i ≤ L.length ∧ ∀ j, j < i → p (ix L j) = false) (fun i => [(0, tbs L), (1, .fn (.func F) [] [.eptr row 0]), (7, .int .i64 L.length), (8, .int .i64 i)]) (fun _ => []) 0 (fun i => L.length - i) 0
    ⟨⟨Nat.zero_le _, fun j hj => absurd hj (Nat.not_lt_zero j)⟩, [], rfl, rfl, ⟨AVle.refl _, AVle.refl _, AVle.refl _, AVle.refl _, trivial⟩, trivial⟩ ?_
  intro i hi
  refine Grd.intro (fun h2 => ?_) (fun h2 => ?_)
  · have hin : i < L.length := by have := of_decide_eq_true h2; omega
    refine And.intro (by omega) ?_
    conv => whnf
    refine CallC.sca _ (hp (ix L i) (getD_mem hin)) ?_ ?_
    · exact rfl
    refine Grd.intro (fun h3 => ?_) (fun h3 => ?_)
    · exact And.intro trivial (AVle.of_eq (congrArg (AV.int .i64) (fi_at hin hi.2 h3).symm))
    · refine And.intro (inI64 (by omega) (by omega)) ?_
      exact ⟨i + 1, ⟨hin, fun j hj => by
        rcases Nat.lt_or_ge j i with h' | h'
        · exact hi.2 j h'
        · rw [show j = i by omega]; exact h3⟩, by omega, [], rfl, rfl, ⟨AVle.refl _, AVle.refl _, AVle.refl _, AVle.of_eq (congrArg (AV.int .i64) (by simp)), trivial⟩, trivial⟩
  · have : i = L.length := by have := of_decide_eq_false h2; omega
    subst this
    exact And.intro trivial (AVle.of_eq (congrArg (AV.int .i64) (fi_none hi.2).symm))
def Sta.tombAt (s : Sta) (k : List UInt8) : Int := fi (fun t : Tb => decide (t.key = k)) s.ts
def Sta.has (s : Sta) (k : List UInt8) : Bool := s.es.any (fun e => decide (e.key = k)) || decide (0 ≤ s.tombAt k)
theorem tomb1_fn (t : Tb) (k : List UInt8) : VFn Tryz.prog 188 [t.av, .eptr [.str (B k)] 0] (.bool (decide (t.key = k))) := by
  refine VFn.introC Tryz.call188 Tryz.func188 rfl rfl ?_
  exact And.intro trivial (AVle.of_eq (congrArg AV.bool (show ((B t.key).toList == (B k).toList) = _ from B_eq)))
theorem tomb_fn (s : Sta) (hT : s.ts.length ≤ 1000000000) (k : List UInt8) : VFn Tryz.prog 169 [s.av, .str (B k)] (.int .i64 (s.tombAt k)) := by
  refine VFn.introC Tryz.call169 Tryz.func169 rfl rfl ?_
  conv => whnf
  refine CallC.sca _ (IndexTb_1 s.ts (by omega) 188 [.str (B k)] (fun t => decide (t.key = k)) (fun t _ => tomb1_fn t k)) ?_ ?_
  · exact rfl
  exact And.intro trivial (AVle.refl _)
theorem hasKey1_fn (e : En) (k : List UInt8) : VFn Tryz.prog 187 [e.av, .eptr [.str (B k)] 0] (.bool (decide (e.key = k))) := by
  refine VFn.introC Tryz.call187 Tryz.func187 rfl rfl ?_
  exact And.intro trivial (AVle.of_eq (congrArg AV.bool (show ((B e.key).toList == (B k).toList) = _ from B_eq)))
theorem hasKey_fn (s : Sta) (hL : s.es.length ≤ 1000000000) (hT : s.ts.length ≤ 1000000000) (k : List UInt8) : VFn Tryz.prog 168 [s.av, .str (B k)] (.bool (s.has k)) := by
  refine VFn.introC Tryz.call168 Tryz.func168 rfl rfl ?_
  conv => whnf
  refine CallC.sca _ (ContainsEn_1 s.es (by omega) 187 [.str (B k)] (fun e => decide (e.key = k)) (fun e _ => hasKey1_fn e k)) ?_ ?_
  · exact rfl
  refine Grd.intro (fun g => ?_) (fun g => ?_)
  · refine And.intro trivial (AVle.of_eq (congrArg AV.bool (show true = _ from ?_)))
    unfold Sta.has; rw [g]; rfl
  · conv => whnf
    refine CallC.sca _ (tomb_fn s hT k) ?_ ?_
    · exact rfl
    refine And.intro trivial (AVle.of_eq (congrArg AV.bool (show decide (0 ≤ s.tombAt k) = _ from ?_)))
    unfold Sta.has; rw [g]; rfl
end Go.Proofs.YtfaffgneccjpbaaGreatDoor
set_option linter.unusedVariables false
set_option linter.constructorNameAsVariable false
set_option linter.unusedSimpArgs false
set_option maxRecDepth 20000
namespace Go.Proofs.YtfaffgneccjpbaaGreatDoor
open Go Go.Vw

end Go.Proofs.YtfaffgneccjpbaaGreatDoor
set_option linter.unusedVariables false
set_option linter.constructorNameAsVariable false
set_option linter.unusedSimpArgs false
set_option maxRecDepth 20000
namespace Go.Proofs.YtfaffgneccjpbaaGreatDoor
open Go Go.Vw

def En.size (e : En) : Nat := e.key.length
def Tb.size (e : Tb) : Nat := e.key.length
def Sta.size (s : Sta) : Nat := (s.es.length + sumL En.size s.es) + (s.ts.length + sumL Tb.size s.ts)
/-- what is read of a state -/
def Sta.read (s : Sta) : Prop := s.es.length ≤ 9223372036854775807 ∧ s.ts.length ≤ 9223372036854775807 ∧ (∀ e ∈ s.es, e.size ≤ 9223372036854775807) ∧ ∀ e ∈ s.ts, e.size ≤ 9223372036854775807
theorem Sta.small {s : Sta} (h : (s.size : Int) ≤ 1048576) : s.es.length ≤ 1048576 ∧ s.ts.length ≤ 1048576 ∧ (∀ e ∈ s.es, e.key.length ≤ 1048576) ∧ ∀ e ∈ s.ts, e.key.length ≤ 1048576 := by
  unfold Sta.size at h
  refine ⟨by omega, by omega, fun e he => ?_, fun e he => ?_⟩
  · have := sum_mem (f := En.size) he
    have e' : e.size = e.key.length := rfl
    omega
  · have := sum_mem (f := Tb.size) he
    have e' : e.size = e.key.length := rfl
    omega
end Go.Proofs.YtfaffgneccjpbaaGreatDoor
set_option linter.unusedVariables false
set_option linter.constructorNameAsVariable false
set_option linter.unusedSimpArgs false
set_option maxRecDepth 20000
namespace Go.Proofs.YtfaffgneccjpbaaGreatDoor
open Go Go.Vw

def wd (k : Int) : Int := if k = 0 then 1 else if k = 1 then 5 else 20
theorem width_fn (k : Int) (h : k = 0 ∨ k = 1 ∨ k = 2) : VFn Tryz.prog 142 [.int .i64 k] (.int .i64 (wd k)) := by
  rcases h with rfl | rfl | rfl
  · refine VFn.introC Tryz.call142 Tryz.func142 rfl rfl ?_
    refine And.intro ⟨by omega, by show (0 : Int) < ((3 : Nat) : Int); omega⟩ ?_
    exact And.intro trivial (AVle.refl _)
  · refine VFn.introC Tryz.call142 Tryz.func142 rfl rfl ?_
    refine And.intro ⟨by omega, by show (1 : Int) < ((3 : Nat) : Int); omega⟩ ?_
    exact And.intro trivial (AVle.refl _)
  · refine VFn.introC Tryz.call142 Tryz.func142 rfl rfl ?_
    refine And.intro ⟨by omega, by show (2 : Int) < ((3 : Nat) : Int); omega⟩ ?_
    exact And.intro trivial (AVle.refl _)
/-- the tier whose next window is due: 0, none -/
def dueT (h0 h1 h2 : Int) : Int := if h1 + 5 ≤ h0 then 1 else if h2 + 20 ≤ h1 then 2 else 0
def dueF (h0 h1 h2 : Int) : Int := if h1 + 5 ≤ h0 then h1 else if h2 + 20 ≤ h1 then h2 else 0
/-- how many windows are due -/
def dueN : Nat → Int → Int → Int → Int
  | 0, _, _, _ => 0
  | f + 1, h0, h1, h2 => if h1 + 5 ≤ h0 then 1 + dueN f h0 (h1 + 5) h2 else if h2 + 20 ≤ h1 then 1 + dueN f h0 h1 (h2 + 20) else 0
theorem dueN_b : ∀ f h0 h1 h2, 0 ≤ dueN f h0 h1 h2 ∧ dueN f h0 h1 h2 ≤ f
  | 0, _, _, _ => by simp [dueN]
  | f + 1, h0, h1, h2 => by
    have a := dueN_b f h0 (h1 + 5) h2
    have b := dueN_b f h0 h1 (h2 + 20)
    unfold dueN
    split
    · omega
    · split <;> omega
def Sta.h (s : Sta) (a b : Int) : Sta := { s with h1 := a, h2 := b }
def Sta.due (s : Sta) : Int := dueN 300000 s.h0 s.h1 s.h2
end Go.Proofs.YtfaffgneccjpbaaGreatDoor
set_option linter.unusedVariables false
set_option linter.constructorNameAsVariable false
set_option linter.unusedSimpArgs false
set_option maxRecDepth 20000
namespace Go.Proofs.YtfaffgneccjpbaaGreatDoor
open Go Go.Vw

def headIs (L : List En) (e : En) : Bool := match L with | x :: _ => decide (x = e) | [] => false
def Sta.takes (s : Sta) (r : Rc) : Bool :=
  if r.k = 1 then decide (r.f = s.h0) && (decide (kN r.key = s.seq + 1) && !s.has r.key)
  else if r.k = 2 then decide (s.fence < r.tok)
  else if r.k = 3 then decide (r.tok = s.fence) && (decide (r.f = s.hi r.tier) && (decide (kN r.key = r.f) && (decide (kW r.key = r.tok) && (decide (r.t = r.f + wd r.tier) && (decide (r.t ≤ s.hi (r.tier - 1)) && (decide (s.lo (r.tier - 1) ≤ r.f) && !s.has r.key))))))
  else if r.k = 4 then decide (r.tok = s.fence) && (headIs (ofT s.es r.tier) r.en && (decide (r.tier = 2) || decide (r.t ≤ s.hi (r.tier + 1))))
  else decide (0 ≤ s.tombAt r.key)
theorem takes1 (s : Sta) (hL : s.es.length ≤ 1000000000) (hT : s.ts.length ≤ 1000000000) (hq : 0 ≤ s.seq ∧ s.seq ≤ 999999) (tok tier f t : Int) (key : List UInt8) : VFn Tryz.prog 148 [s.av, (Rc.mk 1 tok tier f t key).av] (.bool (s.takes ⟨1, tok, tier, f, t, key⟩)) := by
  have e : s.takes ⟨1, tok, tier, f, t, key⟩ = (decide (f = s.h0) && (decide (kN key = s.seq + 1) && !s.has key)) := rfl
  rw [e]
  refine VFn.introC Tryz.call148 Tryz.func148 rfl rfl ?_
  conv => whnf
  refine CallC.sca _ (readDataKey_fn key) ?_ ?_
  · exact rfl
  refine And.intro ⟨by omega, by show (0 : Int) < ((3 : Nat) : Int); omega⟩ ?_
  repeat' (conv => whnf
           first
      | refine Grd.intro (fun h => ?_) (fun h => ?_)
      | (refine CallC.sca _ (hasKey_fn s hL hT key) ?_ ?_; exact rfl)
      | refine And.intro (inI64 (by omega) (by omega)) ?_
      | refine And.intro trivial (AVle.of_eq (congrArg AV.bool ?_)))
  all_goals (simp_all)
theorem takes2 (s : Sta) (tok tier f t : Int) (key : List UInt8) : VFn Tryz.prog 148 [s.av, (Rc.mk 2 tok tier f t key).av] (.bool (s.takes ⟨2, tok, tier, f, t, key⟩)) := by
  refine VFn.introC Tryz.call148 Tryz.func148 rfl rfl ?_
  exact And.intro trivial (AVle.of_eq (congrArg AV.bool (show decide (s.fence < tok) = _ from rfl)))
theorem takes5 (s : Sta) (hT : s.ts.length ≤ 1000000000) (tok tier f t : Int) (key : List UInt8) : VFn Tryz.prog 148 [s.av, (Rc.mk 5 tok tier f t key).av] (.bool (s.takes ⟨5, tok, tier, f, t, key⟩)) := by
  refine VFn.introC Tryz.call148 Tryz.func148 rfl rfl ?_
  conv => whnf
  refine CallC.sca _ (tomb_fn s hT key) ?_ ?_
  · exact rfl
  exact And.intro trivial (AVle.of_eq (congrArg AV.bool (show decide (0 ≤ s.tombAt key) = _ from rfl)))
set_option maxHeartbeats 4000000 in
theorem takes3_1 (s : Sta) (hL : s.es.length ≤ 1000000000) (hT : s.ts.length ≤ 1000000000) (tok f t : Int) (hf : 0 ≤ f ∧ f ≤ 1000000) (key : List UInt8) : VFn Tryz.prog 148 [s.av, (Rc.mk 3 tok 1 f t key).av] (.bool (s.takes ⟨3, tok, 1, f, t, key⟩)) := by
  have w1 : VFn Tryz.prog 142 [.int .i64 1] (.int .i64 5) := width_fn 1 (.inr (.inl rfl))
  have e : s.takes ⟨3, tok, 1, f, t, key⟩ = (decide (tok = s.fence) && (decide (f = s.h1) && (decide (kN key = f) && (decide (kW key = tok) && (decide (t = f + 5) && (decide (t ≤ s.h0) && (decide (s.l0 ≤ f) && !s.has key))))))) := rfl
  rw [e]
  refine VFn.introC Tryz.call148 Tryz.func148 rfl rfl ?_
  conv => whnf
  refine CallC.sca _ (readDataKey_fn key) ?_ ?_
  · exact rfl
  refine DrawC.mk 68 rfl (by kernel_rfl) ?_
  repeat' (first
    | refine Grd.intro (fun h => ?_) (fun h => ?_)
    | ((conv => whnf); refine Grd.intro (fun h => ?_) (fun h => ?_))
    | refine PCallC.sca _ (w1) rfl ?_
    | refine PCallC.sca _ (hasKey_fn s hL hT key) rfl ?_
    | refine And.intro (inI64 (by (try simp only); omega) (by (try simp only); omega)) ?_
    | refine And.intro ⟨show (0 : Int) ≤ 0 by omega, show (0 : Int) < ((3 : Nat) : Int) by omega⟩ ?_
    | refine And.intro ⟨show (0 : Int) ≤ 1 by omega, show (1 : Int) < ((3 : Nat) : Int) by omega⟩ ?_
    | refine And.intro ⟨show (0 : Int) ≤ 2 by omega, show (2 : Int) < ((3 : Nat) : Int) by omega⟩ ?_
    | refine And.intro trivial (AVle.of_eq (congrArg AV.bool ?_)))
  all_goals (first | (simp_all; done) | (simp_all; intros; omega))
set_option maxHeartbeats 4000000 in
theorem takes3_2 (s : Sta) (hL : s.es.length ≤ 1000000000) (hT : s.ts.length ≤ 1000000000) (tok f t : Int) (hf : 0 ≤ f ∧ f ≤ 1000000) (key : List UInt8) : VFn Tryz.prog 148 [s.av, (Rc.mk 3 tok 2 f t key).av] (.bool (s.takes ⟨3, tok, 2, f, t, key⟩)) := by
  have w1 : VFn Tryz.prog 142 [.int .i64 2] (.int .i64 20) := width_fn 2 (.inr (.inr rfl))
  have e : s.takes ⟨3, tok, 2, f, t, key⟩ = (decide (tok = s.fence) && (decide (f = s.h2) && (decide (kN key = f) && (decide (kW key = tok) && (decide (t = f + 20) && (decide (t ≤ s.h1) && (decide (s.l1 ≤ f) && !s.has key))))))) := rfl
  rw [e]
  refine VFn.introC Tryz.call148 Tryz.func148 rfl rfl ?_
  conv => whnf
  refine CallC.sca _ (readDataKey_fn key) ?_ ?_
  · exact rfl
  refine DrawC.mk 68 rfl (by kernel_rfl) ?_
  repeat' (first
    | refine Grd.intro (fun h => ?_) (fun h => ?_)
    | ((conv => whnf); refine Grd.intro (fun h => ?_) (fun h => ?_))
    | refine PCallC.sca _ (w1) rfl ?_
    | refine PCallC.sca _ (hasKey_fn s hL hT key) rfl ?_
    | refine And.intro (inI64 (by (try simp only); omega) (by (try simp only); omega)) ?_
    | refine And.intro ⟨show (0 : Int) ≤ 0 by omega, show (0 : Int) < ((3 : Nat) : Int) by omega⟩ ?_
    | refine And.intro ⟨show (0 : Int) ≤ 1 by omega, show (1 : Int) < ((3 : Nat) : Int) by omega⟩ ?_
    | refine And.intro ⟨show (0 : Int) ≤ 2 by omega, show (2 : Int) < ((3 : Nat) : Int) by omega⟩ ?_
    | refine And.intro trivial (AVle.of_eq (congrArg AV.bool ?_)))
  all_goals (first | (simp_all; done) | (simp_all; intros; omega))
end Go.Proofs.YtfaffgneccjpbaaGreatDoor
set_option linter.unusedVariables false
set_option linter.constructorNameAsVariable false
set_option linter.unusedSimpArgs false
set_option maxRecDepth 20000
namespace Go.Proofs.YtfaffgneccjpbaaGreatDoor
open Go Go.Vw

def readP : List (List UInt8) → Option Rc
  | [a, b] => (match numsK 44 5 a with
    | some [k, tok, tier, f, e] => if Rc.ok ⟨k, tok, tier, f, e, b⟩ = true then some ⟨k, tok, tier, f, e, b⟩ else none
    | _ => none)
  | _ => none
def readR (t : List UInt8) : Option Rc := readP (cutP 32 [] t)
theorem readR_ok {t : List UInt8} {r : Rc} (h : readR t = some r) : r.ok = true := by
  unfold readR readP at h
  split at h
  · split at h
    · split at h
      · cases h; assumption
      · cases h
    · cases h
  · cases h
def Sta.tick (s : Sta) : Sta := { s with seq := s.seq + 1 }
def Sta.lift (s : Sta) (k v : Int) : Sta := if k = 0 then { s with h0 := v } else if k = 1 then { s with h1 := v } else { s with h2 := v }
def Sta.lower (s : Sta) (k v : Int) : Sta := if k = 0 then { s with l0 := v } else if k = 1 then { s with l1 := v } else { s with l2 := v }
def noE (k : List UInt8) (L : List En) : List En := L.filter fun e => !decide (e.key = k)
def noT (k : List UInt8) (L : List Tb) : List Tb := L.filter fun e => !decide (e.key = k)
def Sta.app (s : Sta) (r : Rc) : Sta :=
  if s.takes r = true then
    if r.k = 1 ∨ r.k = 3 then ({ s.tick with es := s.es ++ [r.en] } : Sta).lift r.tier r.t
    else if r.k = 2 then { s.tick with fence := r.tok }
    else if r.k = 4 then ({ s.tick with es := noE r.key s.es, ts := s.ts ++ [⟨s.seq + 1, r.key⟩] } : Sta).lower r.tier r.t
    else { s.tick with ts := noT r.key s.ts }
  else s.tick
theorem lift_es (s : Sta) (k v : Int) : (s.lift k v).es = s.es ∧ (s.lift k v).ts = s.ts ∧ (s.lift k v).seq = s.seq ∧ (s.lift k v).fence = s.fence := by
  unfold Sta.lift; split
  · exact ⟨rfl, rfl, rfl, rfl⟩
  · split <;> exact ⟨rfl, rfl, rfl, rfl⟩
theorem lower_es (s : Sta) (k v : Int) : (s.lower k v).es = s.es ∧ (s.lower k v).ts = s.ts ∧ (s.lower k v).seq = s.seq ∧ (s.lower k v).fence = s.fence := by
  unfold Sta.lower; split
  · exact ⟨rfl, rfl, rfl, rfl⟩
  · split <;> exact ⟨rfl, rfl, rfl, rfl⟩
theorem app_seq (s : Sta) (r : Rc) : (s.app r).seq = s.seq + 1 := by
  unfold Sta.app
  split
  · split
    · rw [(lift_es _ _ _).2.2.1]; rfl
    · split
      · rfl
      · split
        · rw [(lower_es _ _ _).2.2.1]; rfl
        · rfl
  · rfl
theorem noE_len (k : List UInt8) (L : List En) : (noE k L).length ≤ L.length := List.length_filter_le _ _
theorem noT_len (k : List UInt8) (L : List Tb) : (noT k L).length ≤ L.length := List.length_filter_le _ _
theorem has_iff (s : Sta) (k : List UInt8) : s.has k = true ↔ k ∈ s.keys := by
  unfold Sta.has Sta.tombAt Sta.keys
  rw [fi_any]
  simp only [Bool.or_eq_true, List.any_eq_true, decide_eq_true_eq, List.mem_append, List.mem_map]
/-- the first of a tier is an entry -/
theorem headIs_mem {L : List En} {k : Int} {e : En} (h : headIs (ofT L k) e = true) : e ∈ L := by
  unfold headIs at h
  cases hl : ofT L k with
  | nil => rw [hl] at h; cases h
  | cons x r =>
    rw [hl] at h
    have hx : x = e := of_decide_eq_true h
    have : x ∈ ofT L k := by rw [hl]; simp
    rw [← hx]
    exact (List.mem_filter.1 this).1
theorem takes_k {s : Sta} {r : Rc} (h : s.takes r = true) (hk : r.k = 1 ∨ r.k = 3) : s.has r.key = false := by
  unfold Sta.takes at h
  rcases hk with hk | hk
  · rw [if_pos hk] at h
    simp only [Bool.and_eq_true, Bool.not_eq_true'] at h
    exact h.2.2
  · rw [if_neg (by omega), if_neg (by omega), if_pos hk] at h
    simp only [Bool.and_eq_true, Bool.not_eq_true'] at h
    exact h.2.2.2.2.2.2.2
theorem takes_4 {s : Sta} {r : Rc} (h : s.takes r = true) (hk : r.k = 4) : headIs (ofT s.es r.tier) r.en = true := by
  unfold Sta.takes at h
  rw [if_neg (by omega), if_neg (by omega), if_neg (by omega), if_pos hk] at h
  simp only [Bool.and_eq_true] at h
  exact h.2.1
theorem appL_len (s : Sta) (r : Rc) : (s.app r).es.length + (s.app r).ts.length ≤ s.es.length + s.ts.length + 1 := by
  unfold Sta.app
  split
  · rename_i ht
    split
    · rw [(lift_es _ _ _).1, (lift_es _ _ _).2.1]
      show (s.es ++ [r.en]).length + s.ts.length ≤ _
      rw [List.length_append]; simp only [List.length_cons, List.length_nil]; omega
    · split
      · show s.es.length + s.ts.length ≤ _; omega
      · split
        · rw [(lower_es _ _ _).1, (lower_es _ _ _).2.1]
          show (noE r.key s.es).length + (s.ts ++ [(⟨s.seq + 1, r.key⟩ : Tb)]).length ≤ _
          have := noE_len r.key s.es
          rw [List.length_append]; simp only [List.length_cons, List.length_nil]; omega
        · show s.es.length + (noT r.key s.ts).length ≤ _
          have := noT_len r.key s.ts; omega
  · show s.es.length + s.ts.length ≤ _; omega
/-- what a log makes has each key once, and each is one of data -/
structure LogS (s : Sta) : Prop where
  nd : s.keys.Nodup
  kk : ∀ k ∈ s.keys, kOk k = true
theorem LogS.of {q : Sta} {K : List (List UInt8)} (e : q.keys = K) (h : K.Nodup ∧ ∀ k ∈ K, kOk k = true) : LogS q := ⟨e ▸ h.1, fun k hk => h.2 k (e ▸ hk)⟩
theorem nodup_snoc {α : Type} {L : List α} {a : α} (h : L.Nodup) (ha : a ∉ L) : (L ++ [a]).Nodup :=
  List.nodup_append.2 ⟨h, by simp, fun x hx y hy e => by
    have : y = a := by simpa using hy
    subst this; subst e; exact ha hx⟩
theorem noE_keys (k : List UInt8) (L : List En) : (noE k L).map (·.key) = (L.map (·.key)).filter fun x => !decide (x = k) := by
  unfold noE; rw [List.filter_map]; rfl
theorem noT_keys (k : List UInt8) (L : List Tb) : (noT k L).map (·.key) = (L.map (·.key)).filter fun x => !decide (x = k) := by
  unfold noT; rw [List.filter_map]; rfl
theorem app_log {s : Sta} {r : Rc} (h : LogS s) (hr : r.ok = true) : LogS (s.app r) := by
  obtain ⟨nd, kk⟩ := h
  have nd' := nd
  unfold Sta.keys at nd'
  have nda := List.nodup_append.1 nd'
  unfold Sta.app
  split
  · rename_i ht
    split
    · rename_i hk
      have hno := takes_k ht hk
      have hnk : r.key ∉ s.keys := fun h => by rw [(has_iff s r.key).2 h] at hno; cases hno
      have hok : kOk r.key = true := by
        unfold Rc.ok at hr
        rcases hk with hk | hk
        · rw [if_pos hk] at hr; simp [Rc.en, En.ok] at hr; exact hr.2.2.1
        · rw [if_neg (by omega), if_neg (by omega), if_pos hk] at hr; simp [Rc.en, En.ok] at hr; exact hr.2.2.1
      have e : ∀ q : Sta, q.es = s.es ++ [r.en] → q.ts = s.ts → q.keys = (s.es.map (·.key) ++ [r.key]) ++ s.ts.map (·.key) := fun q h1 h2 => by unfold Sta.keys; rw [h1, h2, List.map_append]; rfl
      refine LogS.of (e _ (lift_es _ _ _).1 (lift_es _ _ _).2.1) ?_
      have hm : r.key ∉ s.es.map (·.key) ∧ r.key ∉ s.ts.map (·.key) := ⟨fun h => hnk (List.mem_append.2 (.inl h)), fun h => hnk (List.mem_append.2 (.inr h))⟩
      refine ⟨List.nodup_append.2 ⟨nodup_snoc nda.1 hm.1, nda.2.1, fun x hx y hy => ?_⟩, fun k hk' => ?_⟩
      · rcases List.mem_append.1 hx with hx | hx
        · exact nda.2.2 x hx y hy
        · have : x = r.key := by simpa using hx
          subst this
          exact fun e => hm.2 (e ▸ hy)
      · rcases List.mem_append.1 hk' with hk' | hk'
        · rcases List.mem_append.1 hk' with hk' | hk'
          · exact kk k (List.mem_append.2 (.inl hk'))
          · have : k = r.key := by simpa using hk'
            rw [this]; exact hok
        · exact kk k (List.mem_append.2 (.inr hk'))
    · split
      · exact ⟨nd, kk⟩
      · split
        · rename_i hk1 hk2 hk4
          have hm := headIs_mem (takes_4 ht hk4)
          have hke : r.key ∈ s.es.map (·.key) := List.mem_map.2 ⟨_, hm, rfl⟩
          have hkt : r.key ∉ s.ts.map (·.key) := fun h => nda.2.2 _ hke _ h rfl
          have e : ∀ q : Sta, q.es = noE r.key s.es → q.ts = s.ts ++ [⟨s.seq + 1, r.key⟩] → q.keys = (s.es.map (·.key)).filter (fun x => !decide (x = r.key)) ++ (s.ts.map (·.key) ++ [r.key]) := fun q h1 h2 => by unfold Sta.keys; rw [h1, h2, List.map_append, noE_keys]; rfl
          refine LogS.of (e _ (lower_es _ _ _).1 (lower_es _ _ _).2.1) ?_
          refine ⟨List.nodup_append.2 ⟨nda.1.filter _, nodup_snoc nda.2.1 hkt, fun x hx y hy => ?_⟩, fun k hk' => ?_⟩
          · have hx' := List.mem_filter.1 hx
            rcases List.mem_append.1 hy with hy | hy
            · exact nda.2.2 x hx'.1 y hy
            · have : y = r.key := by simpa using hy
              subst this
              intro e; rw [e] at hx'; simp at hx'
          · rcases List.mem_append.1 hk' with hk' | hk'
            · exact kk k (List.mem_append.2 (.inl (List.mem_filter.1 hk').1))
            · rcases List.mem_append.1 hk' with hk' | hk'
              · exact kk k (List.mem_append.2 (.inr hk'))
              · have : k = r.key := by simpa using hk'
                rw [this]; exact kk _ (List.mem_append.2 (.inl hke))
        · have e : ∀ q : Sta, q.es = s.es → q.ts = noT r.key s.ts → q.keys = s.es.map (·.key) ++ (s.ts.map (·.key)).filter (fun x => !decide (x = r.key)) := fun q h1 h2 => by unfold Sta.keys; rw [h1, h2, noT_keys]
          refine LogS.of (e _ rfl rfl) ?_
          refine ⟨List.nodup_append.2 ⟨nda.1, nda.2.1.filter _, fun x hx y hy => nda.2.2 x hx y (List.mem_filter.1 hy).1⟩, fun k hk' => ?_⟩
          rcases List.mem_append.1 hk' with hk' | hk'
          · exact kk k (List.mem_append.2 (.inl hk'))
          · exact kk k (List.mem_append.2 (.inr (List.mem_filter.1 hk').1))
  · exact ⟨nd, kk⟩
/-- so many different ones in a list, so long it is -/
theorem nodup_le {α : Type} [DecidableEq α] : ∀ (L M : List α), L.Nodup → (∀ x ∈ L, x ∈ M) → L.length ≤ M.length
  | [], _, _, _ => Nat.zero_le _
  | a :: l, M, h, hm => by
    have h' := List.nodup_cons.1 h
    have ha := hm a (by simp)
    have := nodup_le l (M.erase a) h'.2 fun x hx => (List.mem_erase_of_ne (fun e => h'.1 (by rw [← e]; exact hx))).2 (hm x (by simp [hx]))
    rw [List.length_erase_of_mem ha] at this
    have hp : 0 < M.length := List.length_pos_of_mem ha
    simp only [List.length_cons]; omega
theorem has_mem {x : Sto} {k : List UInt8} (h : x.has k = true) : k ∈ x.os.map (·.key) := by
  obtain ⟨h1, h2⟩ := hasK_at h
  exact List.mem_map.2 ⟨_, getD_mem h1, h2⟩
theorem manK_inj {a b : Nat} (ha : a ≤ 999999) (hb : b ≤ 999999) (h : manK (a : Int) = manK (b : Int)) : a = b := by
  unfold manK at h
  have := List.append_cancel_left h
  exact six6_inj (by omega) (by omega) (by simpa using this)
theorem log_len {x : Sto} {n : Nat} (hn : n ≤ 999998) (h : ∀ j, j < n → x.has (manK ((j + 1 : Nat) : Int)) = true) : n ≤ x.os.length := by
  have := nodup_le ((List.range n).map fun j => manK ((j + 1 : Nat) : Int)) (x.os.map (·.key)) ?_ ?_
  · simpa using this
  · refine List.pairwise_map.2 (List.Pairwise.imp_of_mem (fun {a b} ha hb hne e => ?_) (List.nodup_range (n := n)))
    have := List.mem_range.1 ha
    have := List.mem_range.1 hb
    have := manK_inj (by omega) (by omega) e
    exact hne (by omega)
  · intro k hk
    obtain ⟨j, hj, rfl⟩ := List.mem_map.1 hk
    exact has_mem (h j (List.mem_range.1 hj))
def sta0 : Sta := ⟨0, 0, [], [], 0, 0, 0, 0, 0, 0⟩
def recAt (x : Sto) (n : Int) : Option Rc := readR (x.get (manK n)).data
def stepL (x : Sto) (s : Sta) : Sta := match recAt x (s.seq + 1) with | none => s.tick | some r => s.app r
def logN (x : Sto) : Nat → Sta
  | 0 => sta0
  | n + 1 => stepL x (logN x n)
theorem logN_seq (x : Sto) : ∀ n, (logN x n).seq = (n : Int)
  | 0 => rfl
  | n + 1 => by
    have ih := logN_seq x n
    show (stepL x (logN x n)).seq = _
    unfold stepL
    split
    · show (logN x n).seq + 1 = _; rw [ih]; simp
    · rw [app_seq, ih]; simp
theorem logN_len (x : Sto) : ∀ n, (logN x n).es.length + (logN x n).ts.length ≤ n
  | 0 => Nat.le_refl _
  | n + 1 => by
    have ih := logN_len x n
    show (stepL x (logN x n)).es.length + (stepL x (logN x n)).ts.length ≤ _
    unfold stepL
    split
    · show (logN x n).es.length + (logN x n).ts.length ≤ _; omega
    · rename_i r _
      have := appL_len (logN x n) r; omega
theorem logN_log (x : Sto) : ∀ n, LogS (logN x n)
  | 0 => ⟨by simp [logN, sta0, Sta.keys], fun k hk => by simp [logN, sta0, Sta.keys] at hk⟩
  | n + 1 => by
    have ih := logN_log x n
    show LogS (stepL x (logN x n))
    unfold stepL
    split
    · exact ⟨ih.1, ih.2⟩
    · rename_i r hr
      exact app_log ih (readR_ok hr)
def firstNo (p : Nat → Bool) : Nat → Nat → Nat
  | 0, n => n
  | f + 1, n => if p n = true then firstNo p f (n + 1) else n
theorem firstNo_at {p : Nat → Bool} {i : Nat} (h0 : p i = false) : ∀ f n, n ≤ i → i ≤ n + f → (∀ j, n ≤ j → j < i → p j = true) → firstNo p f n = i
  | 0, n, h1, h2, _ => by show n = i; omega
  | f + 1, n, h1, h2, h => by
    unfold firstNo
    rcases Nat.lt_or_ge n i with h3 | h3
    · rw [if_pos (h n (Nat.le_refl _) h3)]
      exact firstNo_at h0 f (n + 1) h3 (by omega) fun j hj => h j (by omega)
    · have : n = i := by omega
      subst this
      rw [if_neg (by rw [h0]; simp)]
def logEnd (x : Sto) : Nat := firstNo (fun j => x.has (manK ((j + 1 : Nat) : Int))) 400 0
def logS (x : Sto) : Sta := logN x (logEnd x)
theorem log_end {x : Sto} (hs : x.ok = true) {i : Nat} (hi : i ≤ 300) (h : ∀ j, j < i → x.has (manK ((j + 1 : Nat) : Int)) = true) (h0 : x.has (manK ((i + 1 : Nat) : Int)) = false) : i = logEnd x :=
  (firstNo_at h0 400 0 (Nat.zero_le _) (by omega) fun j _ hj => h j hj).symm
theorem firstNo_le (p : Nat → Bool) : ∀ f n, firstNo p f n ≤ n + f
  | 0, n => Nat.le_refl _
  | f + 1, n => by
    unfold firstNo
    split
    · have := firstNo_le p f (n + 1); omega
    · omega
theorem log_b (x : Sto) : (logS x).seq = (logEnd x : Int) ∧ logEnd x ≤ 400 ∧ (logS x).es.length + (logS x).ts.length ≤ 400 ∧ LogS (logS x) := by
  have h1 := firstNo_le (fun j => x.has (manK ((j + 1 : Nat) : Int))) 400 0
  have h2 := logN_len x (logEnd x)
  have h3 : logEnd x ≤ 400 := by unfold logEnd; omega
  exact ⟨logN_seq x _, h3, by unfold logS; omega, logN_log x _⟩
end Go.Proofs.YtfaffgneccjpbaaGreatDoor
