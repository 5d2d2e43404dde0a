/- Contracts of functions that the claim reaches, and the plain law of what they compute; each theorem bears its own conditions. -/
import Derived.Test.YtopfpmcakoeloaaGreatDoorQ1
import Derived.Test.YtopfpmcakoeloaaGreatDoorV50
import Derived.Test.YtopfpmcakoeloaaGreatDoorQ3
import Derived.Test.YtopfpmcakoeloaaGreatDoorQ2
set_option linter.unusedVariables false
set_option linter.constructorNameAsVariable false
set_option linter.unusedSimpArgs false
set_option maxRecDepth 20000
namespace Go.Proofs.YtopfpmcakoeloaaGreatDoor
open Go Go.Vw

/-- the digits of a positive number, none of 0 -/
def posD : Nat → List UInt8
  | 0 => []
  | n + 1 => posD ((n + 1) / 10) ++ [d1 (n + 1)]
decreasing_by omega
def markT (k : Int) : List UInt8 := if k ≤ 0 then [109, 48] else 109 :: posD k.toNat
theorem posD_len : ∀ (k n : Nat), n < 10 ^ k → (posD n).length ≤ k
  | 0, n, h => by
    have : n = 0 := by simpa using h
    subst this; simp [posD]
  | k + 1, 0, h => by simp [posD]
  | k + 1, n + 1, h => by
    rw [posD]
    have := posD_len k ((n + 1) / 10) (by rw [Nat.pow_succ] at h; omega)
    simp; omega
theorem markText_fn (k : Int) (hk : k ≤ 9223372036854775807) : VFn Tryz.prog 75 [.int .i64 k] (.str (B (markT k))) := by
  obtain ⟨R, hR⟩ : ∃ R, R = markT k := ⟨_, rfl⟩
  rw [← hR]
  refine VFn.introC Tryz.call75 Tryz.func75 rfl rfl ?_
  refine Grd.intro (fun g => ?_) (fun g => ?_)
  · rw [hR, markT, if_pos (of_decide_eq_true g)]
    exact And.intro trivial (AVle.refl _)
  have g : ¬ k ≤ 0 := of_decide_eq_false g
  obtain ⟨n, rfl⟩ : ∃ n : Nat, k = n := ⟨k.toNat, by omega⟩
  have hR' : R = 109 :: posD n := by rw [hR, markT, if_neg g]; rfl
  have hlen : ∀ m : Nat, m ≤ n → (posD m).length ≤ 19 := fun m hm => posD_len 19 m (by simp; omega)
  refine LoopC.mk (fun x : Nat × List UInt8 => x.1 ≤ n ∧ posD x.1 ++ x.2 = posD n) (fun x => [(0, .int .i64 x.1), (3, .str (B x.2))]) (fun _ => []) 0 (fun x => x.1) (n, [])
    ⟨⟨Nat.le_refl _, by simp⟩, [], rfl, rfl, ⟨AVle.refl _, AVle.refl _, trivial⟩, trivial⟩ ?_
  rintro ⟨m, out⟩ hx
  obtain ⟨hm, he⟩ := hx
  simp only at hm he
  refine Grd.intro (fun g1 => ?_) (fun g1 => ?_)
  · have g1 : 0 < m := by have := of_decide_eq_true g1; omega
    have ht : (m : Int).tmod 10 = ((m % 10 : Nat) : Int) := by rw [Int.tmod_eq_emod_of_nonneg (by omega)]; simp
    have hd : (m : Int).tdiv 10 = ((m / 10 : Nat) : Int) := by rw [Int.tdiv_eq_ediv_of_nonneg (by omega)]; simp
    have hp : posD m = posD (m / 10) ++ [d1 m] := by
      obtain ⟨j, rfl⟩ : ∃ j, m = j + 1 := ⟨m - 1, by omega⟩
      rw [posD]
    have hol : out.length ≤ 19 := by
      have := congrArg List.length he
      have := hlen n (Nat.le_refl _)
      simp at *; omega
    refine And.intro (by decide) ?_
    refine And.intro (show inI .i64 (48 + (m : Int).tmod 10) from inI64 (by omega) (by omega)) ?_
    refine And.intro (show inI .u8 (48 + (m : Int).tmod 10) from ⟨show (0 : Int) ≤ _ by omega, show _ ≤ (255 : Int) by omega⟩) ?_
    refine And.intro (fun i hi => ?_) ?_
    · have : i = 0 := by omega
      subst this; rfl
    have h1 : strOfNums [48 + (m : Int).tmod 10] = B [d1 m] := one_digit (k := m % 10) (by rw [ht]) (by omega)
    refine And.intro (show (((strOfNums [48 + (m : Int).tmod 10]).size + (B out).size : Nat) : Int) ≤ 9223372036854775807 by rw [h1, B_size, B_size]; simp; omega) ?_
    refine And.intro ⟨by decide, show inI .i64 ((m : Int).tdiv 10) from inI64 (by omega) (by omega)⟩ ?_
    exact ⟨(m / 10, d1 m :: out), ⟨by simp only; omega, by simp only; rw [← he, hp]; simp⟩, by simp only; omega, [], rfl, rfl, ⟨AVle.of_eq (congrArg (AV.int .i64) (show (m : Int).tdiv 10 = _ by rw [hd])), AVle.of_eq (congrArg AV.str (show strOfNums [48 + (m : Int).tmod 10] ++ B out = _ by rw [h1, B_app]; rfl)), trivial⟩, trivial⟩
  · have : m = 0 := by have := of_decide_eq_false g1; omega
    subst this
    have he : out = posD n := by simpa [posD] using he
    have hol := hlen n (Nat.le_refl _)
    subst he
    refine And.intro (show (((B [109]).size + (B (posD n)).size : Nat) : Int) ≤ 9223372036854775807 by rw [B_size, B_size]; simp; omega) ?_
    exact And.intro trivial (AVle.of_eq (congrArg AV.str (show B [109] ++ B (posD n) = _ by rw [B_app, hR']; rfl)))
/-- texts marked from a number on -/
def mkT (k : Int) (n : Nat) : List (List UInt8) := (List.range n).map fun j : Nat => markT (k + (j : Int))
end Go.Proofs.YtopfpmcakoeloaaGreatDoor
set_option linter.unusedVariables false
set_option linter.constructorNameAsVariable false
set_option linter.unusedSimpArgs false
set_option maxRecDepth 20000
namespace Go.Proofs.YtopfpmcakoeloaaGreatDoor
open Go Go.Vw

def Ob.size (e : Ob) : Nat := e.key.length + e.data.length
theorem szObject_fn (e : Ob) (n : Int) (h0 : 0 ≤ n) (h1 : n ≤ 1048576) (hk : e.key.length ≤ 9223372036854775807 ∧ e.data.length ≤ 9223372036854775807) : VFn Tryz.prog 50 [e.av, .int .i64 n] (.int .i64 (szr (Ob.size e) n)) := by
  have hk1 := hk.1
  have hk2 := hk.2
  refine VFn.introC Tryz.call50 Tryz.func50 rfl rfl ?_
  refine And.intro (show inI .i64 (n - ((B e.key).size : Int)) by rw [B_size]; exact inI64 (by omega) (by omega)) ?_
  refine Grd.intro (fun h2 => ?_) (fun h2 => ?_)
  · have h2 : n - ((B e.key).size : Int) < 0 := of_decide_eq_true h2
    rw [B_size] at h2
    rw [szr_no (k := Ob.size e) (show ¬ ((e.key.length + e.data.length : Nat) : Int) ≤ n by omega)]
    exact And.intro trivial (AVle.refl _)
  have h2 : ¬ n - ((B e.key).size : Int) < 0 := of_decide_eq_false h2
  rw [B_size] at h2
  refine And.intro (show inI .i64 (n - ((B e.key).size : Int) - ((B e.data).size : Int)) by rw [B_size, B_size]; exact inI64 (by omega) (by omega)) ?_
  refine Grd.intro (fun h3 => ?_) (fun h3 => ?_)
  · have h3 : n - ((B e.key).size : Int) - ((B e.data).size : Int) < 0 := of_decide_eq_true h3
    rw [B_size, B_size] at h3
    rw [szr_no (k := Ob.size e) (show ¬ ((e.key.length + e.data.length : Nat) : Int) ≤ n by omega)]
    exact And.intro trivial (AVle.refl _)
  · have h3 : ¬ n - ((B e.key).size : Int) - ((B e.data).size : Int) < 0 := of_decide_eq_false h3
    rw [B_size, B_size] at h3
    rw [szr_yes (k := Ob.size e) (show ((e.key.length + e.data.length : Nat) : Int) ≤ n by omega)]
    exact And.intro trivial (AVle.of_eq (congrArg (AV.int .i64) (show n - ((B e.key).size : Int) - ((B e.data).size : Int) = n - ((e.key.length + e.data.length : Nat) : Int) by rw [B_size, B_size]; omega)))
theorem toObject_fn (e : Ob) : VFn Tryz.prog 62 [e.av] e.av := by
  refine VFn.introC Tryz.call62 Tryz.func62 rfl rfl ?_
  exact And.intro trivial (AVle.refl _)
theorem eqObject_fn (e : Ob) : VFn Tryz.prog 73 [e.av, e.av] (.bool true) := by
  refine VFn.introC Tryz.call73 Tryz.func73 rfl rfl ?_
  refine Grd.intro (fun h => absurd h (by simp)) (fun _ => ?_)
  refine Grd.intro (fun h => absurd h (by simp)) (fun _ => ?_)
  refine Grd.intro (fun h => absurd h (by simp)) (fun _ => ?_)
  exact And.intro trivial (AVle.refl _)
theorem szObjectS_fn (L : List Ob) (n : Int) (h0 : 0 ≤ n) (h1 : n ≤ 1048576) (hL : L.length ≤ 9223372036854775807) (hk : ∀ e ∈ L, e.key.length ≤ 9223372036854775807 ∧ e.data.length ≤ 9223372036854775807) : VFn Tryz.prog 25 [obs L, .int .i64 n] (.int .i64 (szr (L.length + sumL Ob.size L) n)) := by
  refine VFn.introC Tryz.call25 Tryz.func25 rfl rfl ?_
  refine And.intro (inI64 (by omega) (by omega)) ?_
  refine Grd.intro (fun h2 => ?_) (fun h2 => ?_)
  · have h2 : n - (L.length : Int) < 0 := of_decide_eq_true h2
    rw [szr_no (by omega)]
    exact And.intro trivial (AVle.refl _)
  have h2 : ¬ n - (L.length : Int) < 0 := of_decide_eq_false h2
  refine LoopC.mk (fun i : Nat => i ≤ L.length ∧ ((L.length + sumL Ob.size (L.take i) : Nat) : Int) ≤ n) (fun i => [(0, obs L), (1, .int .i64 (n - ((L.length + sumL Ob.size (L.take i) : Nat) : Int))), (5, .int .i64 i)]) (fun _ => []) 0 (fun i => L.length - i) 0
    ⟨⟨Nat.zero_le _, by simp [sumL]; omega⟩, [], rfl, rfl, ⟨AVle.refl _, AVle.of_eq (congrArg (AV.int .i64) (by simp [sumL])), AVle.refl _, trivial⟩, trivial⟩ ?_
  intro i hi
  obtain ⟨hi, hs⟩ := hi
  refine Grd.intro (fun h3 => ?_) (fun h3 => ?_)
  · have hin : i < L.length := by have := of_decide_eq_true h3; omega
    have hsn := sum_snoc (f := Ob.size) hin
    have hle := sum_take_le (f := Ob.size) (L := L) (k := L.length - (i + 1)) (i := i + 1) (by omega)
    refine And.intro (by omega) ?_
    conv => whnf
    refine CallC.sca _ (szObject_fn (ix L i) (n - ((L.length + sumL Ob.size (L.take i) : Nat) : Int)) (by omega) (by omega) (hk _ (getD_mem hin))) ?_ ?_
    · exact rfl
    by_cases hfit : ((Ob.size (ix L i) : Nat) : Int) ≤ n - ((L.length + sumL Ob.size (L.take i) : Nat) : Int)
    · rw [szr_yes hfit]
      refine Grd.intro (fun h4 => absurd (of_decide_eq_true h4) (by omega)) (fun _ => ?_)
      refine And.intro (inI64 (by omega) (by omega)) ?_
      exact ⟨i + 1, ⟨hin, by omega⟩, by omega, [], rfl, rfl, ⟨AVle.refl _, AVle.of_eq (congrArg (AV.int .i64) (by omega)), AVle.of_eq (congrArg (AV.int .i64) (by simp)), trivial⟩, trivial⟩
    · rw [szr_no hfit, szr_no (by omega)]
      exact And.intro trivial (AVle.refl _)
  · have : i = L.length := by have := of_decide_eq_false h3; omega
    subst this
    have e : L.take L.length = L := List.take_of_length_le (Nat.le_refl _)
    have hs' := hs
    rw [e] at hs'
    rw [szr_yes hs']
    exact And.intro trivial (AVle.of_eq (congrArg (AV.int .i64) (show n - ((L.length + sumL Ob.size (L.take L.length) : Nat) : Int) = _ by rw [e])))
theorem toObjectS_fn (L : List Ob) (hL : L.length ≤ 1048576) : VFn Tryz.prog 32 [obs L] (obs L) := by
  refine VFn.introC Tryz.call32 Tryz.func32 rfl rfl ?_
  refine And.intro ⟨by omega, rfl, (show (40 : Int) * L.length ≤ 140737488355328 by omega), by omega⟩ ?_
  refine LoopC.mk (fun i : Nat => i ≤ L.length) (fun i => [(0, obs L), (3, .osl 0), (4, .int .i64 i)])
    (fun i => [(0, .arr 72 3 L.length (wr (fun i => (ix L i).row) (fun _ => (default : Ob).row) i))]) 1 (fun i => L.length - i) 0
    ⟨Nat.zero_le _, [(0, 0)], rfl, rfl, ⟨AVle.refl _, AVle.refl _, AVle.refl _, trivial⟩, ⟨MOle.arr rfl fun i hi => by rw [wr_ge (Nat.zero_le i)]; rfl, trivial⟩⟩ ?_
  intro i hi
  refine Grd.intro (fun h2 => ?_) (fun h2 => ?_)
  · have hin : i < L.length := by have := of_decide_eq_true h2; omega
    refine And.intro (by omega) ?_
    conv => whnf
    refine CallC.sca _ (toObject_fn (ix L i)) ?_ ?_
    · exact rfl
    refine And.intro (by omega) ?_
    refine And.intro (inI64 (by omega) (by omega)) ?_
    exact ⟨i + 1, hin, by omega, [(0, 0)], rfl, rfl, ⟨AVle.refl _, AVle.refl _, AVle.of_eq (congrArg (AV.int .i64) (by simp)), trivial⟩, ⟨MOle.arr rfl fun k hk => wr_next fun e => by subst e; rw [wr_ge (Nat.le_refl _)]; rfl, trivial⟩⟩
  · have : i = L.length := by have := of_decide_eq_false h2; omega
    subst this
    exact And.intro trivial (AVle.sl rfl fun k hk => wr_lt hk)
theorem eqObjectS_fn (L : List Ob) (hL : L.length ≤ 1048576) : VFn Tryz.prog 38 [obs L, obs L] (.bool true) := by
  refine VFn.introC Tryz.call38 Tryz.func38 rfl rfl ?_
  refine Grd.intro (fun h => absurd h (by simp)) (fun _ => ?_)
  refine LoopC.mk (fun i : Nat => i ≤ L.length) (fun i => [(0, obs L), (1, obs L), (5, .int .i64 i)]) (fun _ => []) 0 (fun i => L.length - i) 0
    ⟨Nat.zero_le _, [], rfl, rfl, ⟨AVle.refl _, AVle.refl _, AVle.refl _, trivial⟩, trivial⟩ ?_
  intro i hi
  refine Grd.intro (fun h2 => ?_) (fun h2 => ?_)
  · have hin : i < L.length := by have := of_decide_eq_true h2; omega
    refine DrawC.mk 10 rfl (by kernel_rfl) ?_
    refine And.intro (by omega) ?_
    refine And.intro (by omega) ?_
    refine PCallC.sca _ (eqObject_fn (ix L i)) rfl ?_
    refine And.intro (inI64 (by omega) (by omega)) ?_
    exact ⟨i + 1, hin, by omega, [], rfl, rfl, ⟨AVle.refl _, AVle.refl _, AVle.of_eq (congrArg (AV.int .i64) (by simp)), trivial⟩, trivial⟩
  · exact And.intro trivial (AVle.refl _)
theorem toObjectS_own (L : List Ob) (hL : L.length ≤ 1048576) : FnM Tryz.prog 32 0 [obs L] [] (.osl 0) [(0, .arr 72 3 L.length fun i => (ix L i).row)] 1 := by
  refine FnM.introC Tryz.call32 Tryz.func32 rfl rfl ?_
  refine And.intro ⟨by omega, rfl, (show (40 : Int) * L.length ≤ 140737488355328 by omega), by omega⟩ ?_
  refine LoopC.mk (fun i : Nat => i ≤ L.length) (fun i => [(0, obs L), (3, .osl 0), (4, .int .i64 i)])
    (fun i => [(0, .arr 72 3 L.length (wr (fun i => (ix L i).row) (fun _ => (default : Ob).row) i))]) 1 (fun i => L.length - i) 0
    ⟨Nat.zero_le _, [(0, 0)], rfl, rfl, ⟨AVle.refl _, AVle.refl _, AVle.refl _, trivial⟩, ⟨MOle.arr rfl fun i hi => by rw [wr_ge (Nat.zero_le i)]; rfl, trivial⟩⟩ ?_
  intro i hi
  refine Grd.intro (fun h2 => ?_) (fun h2 => ?_)
  · have hin : i < L.length := by have := of_decide_eq_true h2; omega
    refine And.intro (by omega) ?_
    conv => whnf
    refine CallC.sca _ (toObject_fn (ix L i)) ?_ ?_
    · exact rfl
    refine And.intro (by omega) ?_
    refine And.intro (inI64 (by omega) (by omega)) ?_
    exact ⟨i + 1, hin, by omega, [(0, 0)], rfl, rfl, ⟨AVle.refl _, AVle.refl _, AVle.of_eq (congrArg (AV.int .i64) (by simp)), trivial⟩, ⟨MOle.arr rfl fun k hk => wr_next fun e => by subst e; rw [wr_ge (Nat.le_refl _)]; rfl, trivial⟩⟩
  · have : i = L.length := by have := of_decide_eq_false h2; omega
    subst this
    exact And.intro trivial ⟨[(0, 0)], rfl, AVle.refl _, ⟨MOle.arr rfl fun k hk => wr_lt hk, trivial⟩⟩

def mkO (k : Int) (i : Nat) : List AV := [.str (B (markT (k + 3 * i))), .int .i64 (k + 3 * i + 1), .str (B (markT (k + 3 * i + 1 + 1)))]
theorem markObjectS_fn (n : Nat) (rows : Nat → List AV) (hr : ∀ i, i < n → ∃ a b c, rows i = [a, b, c]) (hn : n ≤ 1048576) (k : Int) (hk : 0 ≤ k ∧ k ≤ 1000000000) :
    FnM Tryz.prog 40 1 [.osl 0, .int .i64 k] [(0, .arr 72 3 n rows)] (.int .i64 (k + 3 * n)) [(0, .arr 72 3 n (mkO k))] 1 := by
  refine FnM.introC Tryz.call40 Tryz.func40 rfl rfl ?_
  refine LoopC.mk (fun i : Nat => i ≤ n) (fun i => [(0, .osl 0), (1, .int .i64 (k + 3 * i)), (5, .int .i64 i)]) (fun i => [(0, .arr 72 3 n (wr (mkO k) rows i))]) 1 (fun i => n - i) 0
    ⟨Nat.zero_le _, [(0, 0)], rfl, rfl, ⟨AVle.refl _, AVle.of_eq (congrArg (AV.int .i64) (by simp)), AVle.refl _, trivial⟩, ⟨MOle.arr rfl fun i hi => by rw [wr_ge (Nat.zero_le i)], trivial⟩⟩ ?_
  intro i hi
  refine Grd.intro (fun h2 => ?_) (fun h2 => ?_)
  · have hin : i < n := by have := of_decide_eq_true h2; omega
    conv => whnf
    refine CallC.sca _ (markText_fn (k + 3 * i) (by omega)) ?_ ?_
    · exact rfl
    refine And.intro (by omega) ?_
    refine And.intro (show inI .i64 (k + 3 * i + 1) from inI64 (by omega) (by omega)) ?_
    refine And.intro (by omega) ?_
    refine And.intro (show inI .i64 (k + 3 * i + 1 + 1) from inI64 (by omega) (by omega)) ?_
    conv => whnf
    refine CallC.sca _ (markText_fn (k + 3 * i + 1 + 1) (by omega)) ?_ ?_
    · exact rfl
    refine And.intro (by omega) ?_
    refine And.intro (show inI .i64 (k + 3 * i + 1 + 1 + 1) from inI64 (by omega) (by omega)) ?_
    refine And.intro (inI64 (by omega) (by omega)) ?_
    refine ⟨i + 1, hin, by omega, [(0, 0)], rfl, rfl, ⟨AVle.refl _, AVle.of_eq (congrArg (AV.int .i64) (show k + 3 * i + 1 + 1 + 1 = _ by simp; omega)), AVle.of_eq (congrArg (AV.int .i64) (by simp)), trivial⟩, ⟨MOle.arr rfl fun j hj => ?_, trivial⟩⟩
    by_cases hji : j = i
    · subst hji
      obtain ⟨a, b, c, e⟩ := hr j hin
      have hb : Nat.beq j ((j : Nat) : Int).toNat = true := beq_t j
      have e1 : wr (mkO k) rows j j = [a, b, c] := by rw [wr_ge (Nat.le_refl _)]; exact e
      simp only [hb, cond_true, e1]
      rw [wr_lt (Nat.lt_succ_self _)]
      unfold mkO
      generalize B (markT (k + 3 * ((j : Nat) : Int))) = m1
      generalize B (markT (k + 3 * ((j : Nat) : Int) + 1 + 1)) = m2
      rfl
    · have hb : Nat.beq j ((i : Nat) : Int).toNat = false := beq_f hji
      simp only [hb, cond_false]
      rcases Nat.lt_or_ge j i with h | h
      · rw [wr_lt h, wr_lt (by omega)]
      · rw [wr_ge h, wr_ge (by omega)]
  · have : i = n := by have := of_decide_eq_false h2; omega
    subst this
    exact And.intro trivial ⟨[(0, 0)], rfl, AVle.refl _, ⟨MOle.arr rfl fun j hj => wr_lt hj, trivial⟩⟩
theorem heldObjectS_fn (n : Nat) (hn : n ≤ 1048576) (k : Int) (hk : 0 ≤ k ∧ k ≤ 1000000000) : VFn Tryz.prog 42 [.sl 3 n (mkO k), .int .i64 k] (.int .i64 (k + 3 * n)) := by
  refine VFn.introC Tryz.call42 Tryz.func42 rfl rfl ?_
  refine LoopC.mk (fun i : Nat => i ≤ n) (fun i => [(0, .sl 3 n (mkO k)), (1, .int .i64 (k + 3 * i)), (5, .int .i64 i)]) (fun _ => []) 0 (fun i => n - i) 0
    ⟨Nat.zero_le _, [], rfl, rfl, ⟨AVle.refl _, AVle.of_eq (congrArg (AV.int .i64) (by simp)), AVle.refl _, trivial⟩, trivial⟩ ?_
  intro i hi
  refine Grd.intro (fun h2 => ?_) (fun h2 => ?_)
  · have hin : i < n := by have := of_decide_eq_true h2; omega
    refine DrawC.mk 8 rfl (by kernel_rfl) ?_
    refine And.intro (by omega) ?_
    refine PCallC.sca _ (markText_fn (k + 3 * i) (by omega)) rfl ?_
    refine Grd.intro (fun h => absurd h (by simp)) (fun _ => ?_)
    refine And.intro (show inI .i64 (k + 3 * i + 1) from inI64 (by omega) (by omega)) ?_
    refine And.intro (by omega) ?_
    refine Grd.intro (fun h => absurd h (by simp)) (fun _ => ?_)
    refine And.intro (show inI .i64 (k + 3 * i + 1 + 1) from inI64 (by omega) (by omega)) ?_
    refine DrawC.mk 8 rfl (by kernel_rfl) ?_
    refine And.intro (by omega) ?_
    refine PCallC.sca _ (markText_fn (k + 3 * i + 1 + 1) (by omega)) rfl ?_
    refine Grd.intro (fun h => absurd h (by simp)) (fun _ => ?_)
    refine And.intro (show inI .i64 (k + 3 * i + 1 + 1 + 1) from inI64 (by omega) (by omega)) ?_
    refine And.intro (inI64 (by omega) (by omega)) ?_
    exact ⟨i + 1, hin, by omega, [], rfl, rfl, ⟨AVle.refl _, AVle.of_eq (congrArg (AV.int .i64) (show k + 3 * i + 1 + 1 + 1 = _ by simp; omega)), AVle.of_eq (congrArg (AV.int .i64) (by simp)), trivial⟩, trivial⟩
  · have : i = n := by have := of_decide_eq_false h2; omega
    subst this
    exact And.intro trivial (AVle.refl _)
def stoN (s : Sto) : Nat := s.os.length + sumL Ob.size s.os
structure StoIn (s : Sto) : Prop where
  len : s.os.length ≤ 9223372036854775807
  sz : ∀ e ∈ s.os, e.key.length ≤ 9223372036854775807 ∧ e.data.length ≤ 9223372036854775807
  nxt : -9223372036854775808 ≤ s.next ∧ s.next ≤ 9223372036854775807
theorem szStore_fn (s : Sto) (h : StoIn s) : VFn Tryz.prog 5 [s.av, .int .i64 1048576] (.int .i64 (szr (stoN s) 1048576)) := by
  unfold stoN
  refine VFn.introC Tryz.call5 Tryz.func5 rfl rfl ?_
  conv => whnf
  refine CallC.sca _ (szObjectS_fn s.os 1048576 (by decide) (by decide) h.len h.sz) ?_ ?_
  · exact rfl
  by_cases f1 : ((s.os.length + sumL Ob.size s.os : Nat) : Int) ≤ 1048576
  · rw [szr_yes f1]
    refine Grd.intro (fun h2 => absurd (of_decide_eq_true h2) (by omega)) (fun _ => ?_)
    exact And.intro trivial (AVle.refl _)
  · rw [szr_no f1]
    exact And.intro trivial (AVle.refl _)
theorem Sto_small {s : Sto} (h : (stoN s : Int) ≤ 1048576) : s.os.length ≤ 1048576 ∧ (∀ e ∈ s.os, e.key.length ≤ 1048576) ∧ ∀ e ∈ s.os, e.data.length ≤ 1048576 := by
  unfold stoN at h
  refine ⟨by omega, fun e he => ?_, fun e he => ?_⟩
  all_goals
    have := sum_mem (f := Ob.size) he
    have e' : Ob.size e = e.key.length + e.data.length := rfl
    omega
theorem toStore_fn (s : Sto) (h1 : s.os.length ≤ 1048576) : VFn Tryz.prog 8 [s.av] s.av := by
  refine VFn.introC Tryz.call8 Tryz.func8 rfl rfl ?_
  conv => whnf
  refine CallC.nl _ (toObjectS_fn s.os h1) ?_ ?_
  · exact rfl
  exact And.intro trivial (AVle.refl _)
theorem toStore_own (s : Sto) (h1 : s.os.length ≤ 1048576) : FnM Tryz.prog 8 0 [s.av] [] s.own [(0, .arr 72 3 s.os.length fun i => (ix s.os i).row)] 1 := by
  refine FnM.introC Tryz.call8 Tryz.func8 rfl rfl ?_
  conv => whnf
  refine CallC.k [] (toObjectS_own s.os h1) rfl rfl (AVsle.refl _) trivial rfl ?_
  exact And.intro trivial ⟨[(3, 0)], rfl, AVle.refl _, ⟨MOle.refl _, trivial⟩⟩
theorem eqStore_fn (s : Sto) (h1 : s.os.length ≤ 1048576) : VFn Tryz.prog 11 [s.av, s.av] (.bool true) := by
  refine VFn.introC Tryz.call11 Tryz.func11 rfl rfl ?_
  conv => whnf
  refine CallC.sca _ (eqObjectS_fn s.os h1) ?_ ?_
  · exact rfl
  refine Grd.intro (fun h => absurd h (by simp)) (fun _ => ?_)
  exact And.intro trivial (AVle.refl _)
theorem markStore_fn (n : Nat) (rows : Nat → List AV) (nx : Int) (hr : ∀ i, i < n → ∃ a b c, rows i = [a, b, c]) (hn : n ≤ 1048576) (k : Int) (hk : 0 ≤ k ∧ k ≤ 1000000000) :
    FnM Tryz.prog 13 1 [.agg [.osl 0, .int .i64 nx], .int .i64 k] [(0, .arr 72 3 n rows)] (.int .i64 (k + 3 * n)) [(0, .arr 72 3 n (mkO k))] 1 := by
  refine FnM.introC Tryz.call13 Tryz.func13 rfl rfl ?_
  conv => whnf
  refine CallC.k [(0, 0)] (markObjectS_fn n rows hr hn k hk) rfl rfl (AVsle.refl _) ⟨MOle.refl _, trivial⟩ rfl ?_
  exact And.intro trivial ⟨[(0, 0)], rfl, AVle.refl _, ⟨MOle.refl _, trivial⟩⟩
theorem heldStore_fn (n : Nat) (nx : Int) (hn : n ≤ 1048576) (k : Int) (hk : 0 ≤ k ∧ k ≤ 1000000000) : VFn Tryz.prog 15 [.agg [.sl 3 n (mkO k), .int .i64 nx], .int .i64 k] (.int .i64 (k + 3 * n)) := by
  refine VFn.introC Tryz.call15 Tryz.func15 rfl rfl ?_
  conv => whnf
  refine CallC.sca _ (heldObjectS_fn n hn k hk) ?_ ?_
  · exact rfl
  refine Grd.intro (fun h2 => absurd (of_decide_eq_true h2) (by omega)) (fun _ => ?_)
  exact And.intro trivial (AVle.refl _)
/-- no store -/
def sto0 : AV := .agg [.nilsl, .int .i64 0]
theorem eqStore0_fn : VFn Tryz.prog 11 [sto0, sto0] (.bool true) := by
  have c : VFn Tryz.prog 38 [.nilsl, .nilsl] (.bool true) := by
    refine VFn.introC Tryz.call38 Tryz.func38 rfl rfl ?_
    refine LoopC.rounds 1 ?_
    exact And.intro trivial (AVle.refl _)
  refine VFn.introC Tryz.call11 Tryz.func11 rfl rfl ?_
  conv => whnf
  refine CallC.sca _ (c) ?_ ?_
  · exact rfl
  exact And.intro trivial (AVle.refl _)
theorem markStore0_fn (k : Int) : VFn Tryz.prog 13 [sto0, .int .i64 k] (.int .i64 k) := by
  have c : VFn Tryz.prog 40 [.nilsl, .int .i64 k] (.int .i64 k) := by
    refine VFn.introC Tryz.call40 Tryz.func40 rfl rfl ?_
    refine LoopC.rounds 1 ?_
    exact And.intro trivial (AVle.refl _)
  refine VFn.introC Tryz.call13 Tryz.func13 rfl rfl ?_
  conv => whnf
  refine CallC.sca _ (c) ?_ ?_
  · exact rfl
  exact And.intro trivial (AVle.refl _)
theorem heldStore0_fn : VFn Tryz.prog 15 [sto0, .int .i64 1] (.int .i64 1) := by
  have c : VFn Tryz.prog 42 [.nilsl, .int .i64 1] (.int .i64 1) := by
    refine VFn.introC Tryz.call42 Tryz.func42 rfl rfl ?_
    refine LoopC.rounds 1 ?_
    exact And.intro trivial (AVle.refl _)
  refine VFn.introC Tryz.call15 Tryz.func15 rfl rfl ?_
  conv => whnf
  refine CallC.sca _ (c) ?_ ?_
  · exact rfl
  exact And.intro trivial (AVle.refl _)
end Go.Proofs.YtopfpmcakoeloaaGreatDoor
set_option linter.unusedVariables false
set_option linter.constructorNameAsVariable false
set_option linter.unusedSimpArgs false
set_option maxRecDepth 20000
namespace Go.Proofs.YtopfpmcakoeloaaGreatDoor
open Go Go.Vw

def Rc.res (r : Rc) : List UInt8 := if r.ok = true then r.text else []
def Rc.code (r : Rc) : Int := if r.ok = true then 0 else 1
theorem recText_fn (r : Rc) (h : r.ok = true) : VFn Tryz.prog 98 [r.av] (.str (B r.text)) := by
  have hm := (Rc.okN h).1
  have hk := (Rc.okN h).2
  have hl := Rc.head_len h
  have e : (r.nums.map It.n).map It.txt = r.nums.map Lib.itoa := by rw [List.map_map]; rfl
  refine VFn.introC Tryz.call98 Tryz.func98 rfl rfl ?_
  refine DrawC.mk 22 rfl (by kernel_rfl) ?_
  refine PCallC.sca _ (joined_of (r.nums.map It.n) (n := 5) ⟨rfl, rfl, rfl, rfl, rfl, trivial⟩ rfl [44] (show 5 ≤ 100000000 by decide) (fun x hx => by
    obtain ⟨n, hn, rfl⟩ := List.mem_map.1 hx
    have := hm n hn; unfold mid at this; exact ⟨by omega, by omega⟩) (by rw [e]; omega)) rfl ?_
  rw [e]
  have add : ∀ (x y : List UInt8), (x.length + y.length : Nat) ≤ 100000 → (((B x).size + (B y).size : Nat) : Int) ≤ 9223372036854775807 := fun x y h => by rw [B_size, B_size]; omega
  refine And.intro (add (Lib.join (r.nums.map Lib.itoa) [44]) [32] (by simp; omega)) ?_
  refine And.intro (show (((B (Lib.join (r.nums.map Lib.itoa) [44]) ++ B [32]).size + (B r.key).size : Nat) : Int) ≤ 9223372036854775807 by rw [B_app]; exact add _ _ (by simp; omega)) ?_
  exact And.intro trivial (AVle.of_eq (congrArg AV.str (show B (Lib.join (r.nums.map Lib.itoa) [44]) ++ B [32] ++ B r.key = B r.text by rw [B_app, B_app, List.append_assoc]; rfl)))
theorem l06Text_fn (r : Rc) (h : r.ok = true) : VFn Tryz.prog 88 [r.av] (.str (B r.text)) := by
  have hm := (Rc.okN h).1
  have hk := (Rc.okN h).2
  have hl := Rc.head_len h
  refine VFn.introC Tryz.call88 Tryz.func88 rfl rfl ?_
  refine DrawC.mk 17 rfl (by kernel_rfl) ?_
  refine PCallC.sca (.str (B (Lib.join (r.nums.map Lib.itoa) [44]))) ((l02Join_fn r.nums (show 5 ≤ 100000000 by decide) (fun x hx => by have := hm x hx; unfold mid at this; omega)).weak (AVsle.cons (RowsAre.le (f := fun n : Int => [AV.int .i64 n]) rfl ⟨rfl, rfl, rfl, rfl, rfl, trivial⟩) AVsle.nil) (AVle.refl _)) rfl ?_
  have add : ∀ (x y : List UInt8), (x.length + y.length : Nat) ≤ 100000 → (((B x).size + (B y).size : Nat) : Int) ≤ 9223372036854775807 := fun x y h => by rw [B_size, B_size]; omega
  refine And.intro (add (Lib.join (r.nums.map Lib.itoa) [44]) [32] (by simp; omega)) ?_
  refine And.intro (show (((B (Lib.join (r.nums.map Lib.itoa) [44]) ++ B [32]).size + (B r.key).size : Nat) : Int) ≤ 9223372036854775807 by rw [B_app]; exact add _ _ (by simp; omega)) ?_
  exact And.intro trivial (AVle.of_eq (congrArg AV.str (show B (Lib.join (r.nums.map Lib.itoa) [44]) ++ B [32] ++ B r.key = B r.text by rw [B_app, B_app, List.append_assoc]; rfl)))
end Go.Proofs.YtopfpmcakoeloaaGreatDoor
set_option linter.unusedVariables false
set_option linter.constructorNameAsVariable false
set_option linter.unusedSimpArgs false
set_option maxRecDepth 20000
namespace Go.Proofs.YtopfpmcakoeloaaGreatDoor
open Go Go.Vw

def manK (n : Int) : List UInt8 := [109, 97, 110, 47] ++ six6 n.toNat
def appS (s : Sto) (n : Int) (r : Rc) : Sto × Int := s.putA (manK n) r.text
def appC (s : Sto) (n : Int) (r : Rc) : Int := if s.ok = true ∧ r.ok = true then (if within n 1 999999 = true then 0 else 4) else 1
theorem app_len (s : Sto) (hs : s.ok = true) (n : Int) (r : Rc) : (appS s n r).1.os.length ≤ 301 := by
  have hL := (Sto.ok_at hs).2.1
  unfold appS Sto.putA
  split
  · show s.os.length ≤ 301; omega
  · show (s.put _ _).os.length ≤ 301
    unfold Sto.put
    split
    · have := set_len_le s (manK n) r.text; omega
    · omega
theorem text_len {r : Rc} (h : r.ok = true) : r.text.length ≤ 1000000 := by
  have hl := Rc.head_len h
  have hk := (Rc.okN h).2
  unfold Rc.text
  simp only [List.length_append, List.length_cons, List.length_nil]
  omega
theorem l06Key_fn (n : Int) (h : within n 1 999999 = true) : VFn Tryz.prog 81 [.int .i64 n] (.str (B (manK n))) := by
  have hb : 1 ≤ n ∧ n ≤ 999999 := by simpa [within] using h
  have c := l03Wide_fn n.toNat (by omega)
  rw [show ((n.toNat : Nat) : Int) = n by omega] at c
  refine VFn.introC Tryz.call81 Tryz.func81 rfl rfl ?_
  conv => whnf
  refine CallC.sca _ (c) ?_ ?_
  · exact rfl
  refine And.intro (show ((4 + (B (six6 n.toNat)).size : Nat) : Int) ≤ 9223372036854775807 by rw [B_size, six6_len]; decide) ?_
  refine force_to (congrArg AV.str (show B [109, 97, 110, 47] ++ B (six6 n.toNat) = B (manK n) from B_app _ _)) ?_
  exact And.intro trivial (AVle.refl _)
theorem l06Append_fn (s : Sto) (hs : s.ok = true) (n : Int) (h : within n 1 999999 = true) (r : Rc) (hr : r.ok = true) : VFn Tryz.prog 55 [s.av, .int .i64 n, r.av] (.tup [(appS s n r).1.av, .int .i64 (appS s n r).2]) := by
  have co := l01Absent_fn s hs (manK n) r.text
  refine VFn.introC Tryz.call55 Tryz.func55 rfl rfl ?_
  refine DrawC.mkK 10 [(.inl 2, 8)] rfl (by kernel_rfl) ?_
  refine And.intro rfl ?_
  conv => whnf
  refine PCallK.sca _ (l06Key_fn n h) rfl ?_
  conv => whnf
  refine PCallK.sca _ (l06Text_fn r hr) rfl ?_
  conv => whnf
  refine PCallK.nl _ (co) rfl ?_
  exact And.intro trivial (AVle.refl _)
theorem lay_fn (s : Sto) (hs : s.ok = true) (n : Int) (h : within n 1 999999 = true) (r : Rc) (hr : r.ok = true) : VFn Tryz.prog 65 [s.av, .int .i64 n, r.av] (.tup [(appS s n r).1.av, .int .i64 (appS s n r).2]) := by
  have hb : 1 ≤ n ∧ n ≤ 999999 := by simpa [within] using h
  have co := putAbsent_fn s hs (manK n) r.text (by have := text_len hr; omega)
  have cw := within_fn n 1 999999
  rw [h] at cw
  refine VFn.introC Tryz.call65 Tryz.func65 rfl rfl ?_
  conv => whnf
  refine CallC.sca _ (cw) ?_ ?_
  · exact rfl
  refine DrawC.mkK 15 [(.inr 11, 12)] rfl (by kernel_rfl) ?_
  refine And.intro rfl ?_
  conv => whnf
  refine PCallK.sca _ (six_fn n (by simp [within]; omega)) rfl ?_
  conv => whnf
  refine And.intro (show ((4 + (B (six6 n.toNat)).size : Nat) : Int) ≤ 9223372036854775807 by rw [B_size, six6_len]; decide) ?_
  refine force_to (congrArg AV.str (show B [109, 97, 110, 47] ++ B (six6 n.toNat) = B (manK n) from B_app _ _)) ?_
  conv => whnf
  refine PCallK.sca _ (recText_fn r hr) rfl ?_
  conv => whnf
  refine PCallK.nl _ (co) rfl ?_
  exact And.intro trivial (AVle.refl _)
end Go.Proofs.YtopfpmcakoeloaaGreatDoor
set_option linter.unusedVariables false
set_option linter.constructorNameAsVariable false
set_option linter.unusedSimpArgs false
set_option maxRecDepth 20000
namespace Go.Proofs.YtopfpmcakoeloaaGreatDoor
open Go Go.Vw

end Go.Proofs.YtopfpmcakoeloaaGreatDoor
set_option linter.unusedVariables false
set_option linter.constructorNameAsVariable false
set_option linter.unusedSimpArgs false
set_option maxRecDepth 20000
namespace Go.Proofs.YtopfpmcakoeloaaGreatDoor
open Go Go.Vw

theorem toSample_fn (s : Smp) : VFn Tryz.prog 63 [.agg s.row] (.agg s.row) := by
  refine VFn.introC Tryz.call63 Tryz.func63 rfl rfl ?_
  exact And.intro trivial (AVle.refl _)
theorem eqSample_fn (s : Smp) : VFn Tryz.prog 74 [.agg s.row, .agg s.row] (.bool true) := by
  refine VFn.introC Tryz.call74 Tryz.func74 rfl rfl ?_
  iterate 2 (refine Grd.intro (fun h => absurd h (by simp)) (fun _ => ?_))
  exact And.intro trivial (AVle.refl _)
theorem toSampleS_fn (L : List Smp) (hL : L.length ≤ 1048576) : VFn Tryz.prog 33 [smps L] (smps L) := by
  refine VFn.introC Tryz.call33 Tryz.func33 rfl rfl ?_
  refine And.intro ⟨by omega, rfl, (show (16 : Int) * L.length ≤ 140737488355328 by omega), by omega⟩ ?_
  refine LoopC.mk (fun i : Nat => i ≤ L.length) (fun i => [(0, smps L), (3, .osl 0), (4, .int .i64 i)])
    (fun i => [(0, .arr 74 2 L.length (wr (fun i => (ix L i).row) (fun _ => (default : Smp).row) i))]) 1 (fun i => L.length - i) 0
    ⟨Nat.zero_le _, [(0, 0)], rfl, rfl, ⟨AVle.refl _, AVle.refl _, AVle.refl _, trivial⟩, ⟨MOle.arr rfl fun i hi => by rw [wr_ge (Nat.zero_le i)]; rfl, trivial⟩⟩ ?_
  intro i hi
  refine Grd.intro (fun h2 => ?_) (fun h2 => ?_)
  · have hin : i < L.length := by have := of_decide_eq_true h2; omega
    refine And.intro (by omega) ?_
    conv => whnf
    refine CallC.sca _ (toSample_fn (ix L i)) ?_ ?_
    · exact rfl
    refine And.intro (by omega) ?_
    refine And.intro (inI64 (by omega) (by omega)) ?_
    exact ⟨i + 1, hin, by omega, [(0, 0)], rfl, rfl, ⟨AVle.refl _, AVle.refl _, AVle.of_eq (congrArg (AV.int .i64) (by simp)), trivial⟩, ⟨MOle.arr rfl fun k hk => wr_next fun e => by subst e; rw [wr_ge (Nat.le_refl _)]; rfl, trivial⟩⟩
  · have : i = L.length := by have := of_decide_eq_false h2; omega
    subst this
    exact And.intro trivial (AVle.sl rfl fun k hk => wr_lt hk)
theorem eqSampleS_fn (L : List Smp) (hL : L.length ≤ 1048576) : VFn Tryz.prog 39 [smps L, smps L] (.bool true) := by
  refine VFn.introC Tryz.call39 Tryz.func39 rfl rfl ?_
  refine Grd.intro (fun h => absurd h (by simp)) (fun _ => ?_)
  refine LoopC.mk (fun i : Nat => i ≤ L.length) (fun i => [(0, smps L), (1, smps L), (5, .int .i64 i)]) (fun _ => []) 0 (fun i => L.length - i) 0
    ⟨Nat.zero_le _, [], rfl, rfl, ⟨AVle.refl _, AVle.refl _, AVle.refl _, trivial⟩, trivial⟩ ?_
  intro i hi
  refine Grd.intro (fun h2 => ?_) (fun h2 => ?_)
  · have hin : i < L.length := by have := of_decide_eq_true h2; omega
    refine DrawC.mk 10 rfl (by kernel_rfl) ?_
    refine And.intro (by omega) ?_
    refine And.intro (by omega) ?_
    refine PCallC.sca _ (eqSample_fn (ix L i)) rfl ?_
    refine And.intro (inI64 (by omega) (by omega)) ?_
    exact ⟨i + 1, hin, by omega, [], rfl, rfl, ⟨AVle.refl _, AVle.refl _, AVle.of_eq (congrArg (AV.int .i64) (by simp)), trivial⟩, trivial⟩
  · exact And.intro trivial (AVle.refl _)
end Go.Proofs.YtopfpmcakoeloaaGreatDoor
set_option linter.unusedVariables false
set_option linter.constructorNameAsVariable false
set_option linter.unusedSimpArgs false
set_option maxRecDepth 20000
namespace Go.Proofs.YtopfpmcakoeloaaGreatDoor
open Go Go.Vw

def Ag.cl (a : Ag) : List AV := [.int .i64 a.c, .int .i64 a.s, .int .i64 a.mn, .int .i64 a.mx, .int .i64 a.f, .int .i64 a.l]
instance : Inhabited Ag := ⟨⟨0, 0, 0, 0, 0, 0⟩⟩
structure Wk where
  id : Int
  ph : Int
  tok : Int
  job : Rc
  ins : List En
  got : Ag
instance : Inhabited Wk := ⟨⟨0, 0, 0, default, [], default⟩⟩
def Wk.row (e : Wk) : List AV := [.int .i64 e.id, .int .i64 e.ph, .int .i64 e.tok, .int .i64 e.job.k, .int .i64 e.job.tok, .int .i64 e.job.tier, .int .i64 e.job.f, .int .i64 e.job.t, .str (B e.job.key), ents e.ins, .int .i64 e.got.c, .int .i64 e.got.s, .int .i64 e.got.mn, .int .i64 e.got.mx, .int .i64 e.got.f, .int .i64 e.got.l]
def Wk.av (e : Wk) : AV := .agg e.row
abbrev wks (L : List Wk) : AV := .sl 16 L.length fun i => (ix L i).row
def Wk.size (e : Wk) : Nat := e.job.key.length + (e.ins.length + sumL En.size e.ins)
structure Wk.rd (e : Wk) : Prop where
  key : e.job.key.length ≤ 9223372036854775807
  ins : e.ins.length ≤ 9223372036854775807
  es : ∀ x ∈ e.ins, En.size x ≤ 9223372036854775807
def Wk.small (e : Wk) : Prop := e.ins.length ≤ 1048576
structure Ig where
  id : Int
  seq : Int
  f : Int
  t : Int
  b : List Smp
  put : Bool
instance : Inhabited Ig := ⟨⟨0, 0, 0, 0, [], false⟩⟩
def Ig.row (e : Ig) : List AV := [.int .i64 e.id, .int .i64 e.seq, .int .i64 e.f, .int .i64 e.t, smps e.b, .bool e.put]
def Ig.av (e : Ig) : AV := .agg e.row
abbrev igs (L : List Ig) : AV := .sl 6 L.length fun i => (ix L i).row
def Ig.size (e : Ig) : Nat := e.b.length
def Ig.rd (e : Ig) : Prop := e.b.length ≤ 9223372036854775807
def Ig.small (e : Ig) : Prop := e.b.length ≤ 1048576
structure Rr where
  id : Int
  ph : Int
  tier : Int
  f : Int
  t : Int
  til : Int
  code : Int
  left : List En
  got : Ag
instance : Inhabited Rr := ⟨⟨0, 0, 0, 0, 0, 0, 0, [], default⟩⟩
def Rr.row (e : Rr) : List AV := [.int .i64 e.id, .int .i64 e.ph, .int .i64 e.tier, .int .i64 e.f, .int .i64 e.t, .int .i64 e.til, .int .i64 e.code, ents e.left, .int .i64 e.got.c, .int .i64 e.got.s, .int .i64 e.got.mn, .int .i64 e.got.mx, .int .i64 e.got.f, .int .i64 e.got.l]
def Rr.av (e : Rr) : AV := .agg e.row
abbrev rrs (L : List Rr) : AV := .sl 14 L.length fun i => (ix L i).row
def Rr.size (e : Rr) : Nat := e.left.length + sumL En.size e.left
structure Rr.rd (e : Rr) : Prop where
  left : e.left.length ≤ 9223372036854775807
  es : ∀ x ∈ e.left, En.size x ≤ 9223372036854775807
def Rr.small (e : Rr) : Prop := e.left.length ≤ 1048576
structure An where
  tier : Int
  f : Int
  t : Int
  code : Int
  a : Ag
instance : Inhabited An := ⟨⟨0, 0, 0, 0, default⟩⟩
def An.row (e : An) : List AV := [.int .i64 e.tier, .int .i64 e.f, .int .i64 e.t, .int .i64 e.code, .int .i64 e.a.c, .int .i64 e.a.s, .int .i64 e.a.mn, .int .i64 e.a.mx, .int .i64 e.a.f, .int .i64 e.a.l]
def An.av (e : An) : AV := .agg e.row
abbrev ans (L : List An) : AV := .sl 10 L.length fun i => (ix L i).row
def An.small (e : An) : Prop := True
theorem szSampleSN_fn (L : List Smp) (n : Int) (h0 : 0 ≤ n) (h1 : n ≤ 1048576) (hL : L.length ≤ 9223372036854775807) : VFn Tryz.prog 26 [smps L, .int .i64 n] (.int .i64 (szr L.length n)) := by
  refine VFn.introC Tryz.call26 Tryz.func26 rfl rfl ?_
  refine And.intro (inI64 (by omega) (by omega)) ?_
  by_cases f : ((L.length : Nat) : Int) ≤ n
  · rw [szr_yes f]
    refine Grd.intro (fun h2 => absurd (of_decide_eq_true h2) (by omega)) (fun _ => ?_)
    exact And.intro trivial (AVle.refl _)
  · rw [szr_no f]
    refine Grd.intro (fun _ => ?_) (fun h2 => absurd (of_decide_eq_false h2) (by omega))
    exact And.intro trivial (AVle.refl _)
theorem szIngester_fn (e : Ig) (n : Int) (h0 : 0 ≤ n) (h1 : n ≤ 1048576) (h : e.rd) : VFn Tryz.prog 6 [e.av, .int .i64 n] (.int .i64 (szr e.size n)) := by
  refine VFn.introC Tryz.call6 Tryz.func6 rfl rfl ?_
  conv => whnf
  refine CallC.sca _ (szSampleSN_fn e.b n h0 h1 h) ?_ ?_
  · exact rfl
  unfold Ig.size
  by_cases f : ((e.b.length : Nat) : Int) ≤ n
  · rw [szr_yes f]
    refine Grd.intro (fun h2 => absurd (of_decide_eq_true h2) (by omega)) (fun _ => ?_)
    exact And.intro trivial (AVle.refl _)
  · rw [szr_no f]
    exact And.intro trivial (AVle.refl _)
theorem toIngester_fn (e : Ig) (h : e.small) : VFn Tryz.prog 9 [e.av] e.av := by
  refine VFn.introC Tryz.call9 Tryz.func9 rfl rfl ?_
  conv => whnf
  refine CallC.nl _ (toSampleS_fn e.b h) ?_ ?_
  · exact rfl
  exact And.intro trivial (AVle.refl _)
theorem eqIngester_fn (e : Ig) (h : e.small) : VFn Tryz.prog 12 [e.av, e.av] (.bool true) := by
  refine VFn.introC Tryz.call12 Tryz.func12 rfl rfl ?_
  refine Grd.intro (fun h => absurd h (by simp)) (fun _ => ?_)
  refine Grd.intro (fun h => absurd h (by simp)) (fun _ => ?_)
  refine Grd.intro (fun h => absurd h (by simp)) (fun _ => ?_)
  refine Grd.intro (fun h => absurd h (by simp)) (fun _ => ?_)
  conv => whnf
  refine CallC.sca _ (eqSampleS_fn e.b h) ?_ ?_
  · exact rfl
  conv => whnf
  refine OpC.bneq rfl rfl rfl rfl rfl ?_
  refine Grd.intro (fun h => absurd h (by simp)) (fun _ => ?_)
  exact And.intro trivial (AVle.refl _)
end Go.Proofs.YtopfpmcakoeloaaGreatDoor
set_option linter.unusedVariables false
set_option linter.constructorNameAsVariable false
set_option linter.unusedSimpArgs false
set_option maxRecDepth 20000
namespace Go.Proofs.YtopfpmcakoeloaaGreatDoor
open Go Go.Vw

structure Fl where
  st : Sto
  clk : Int
  k0 : Int
  k1 : Int
  k2 : Int
  k3 : Int
  k4 : Int
  k5 : Int
  k6 : Int
  ws : List Wk
  gs : List Ig
  rs : List Rr
  ac : List Smp
  an : List An
def Fl.row (s : Fl) : List AV := [obs s.st.os, .int .i64 s.st.next, .int .i64 s.clk, .int .i64 s.k0, .int .i64 s.k1, .int .i64 s.k2, .int .i64 s.k3, .int .i64 s.k4, .int .i64 s.k5, .int .i64 s.k6, wks s.ws, igs s.gs, rrs s.rs, smps s.ac, ans s.an]
def Fl.av (s : Fl) : AV := .agg s.row
def Fl.sk (s : Fl) : List AV := [.int .i64 s.k0, .int .i64 s.k1, .int .i64 s.k2, .int .i64 s.k3, .int .i64 s.k4, .int .i64 s.k5, .int .i64 s.k6]
structure FlIn (s : Fl) : Prop where
  st : StoIn s.st
  ws : s.ws.length ≤ 9223372036854775807
  wr : ∀ e ∈ s.ws, Wk.rd e
  gs : s.gs.length ≤ 9223372036854775807
  gr : ∀ e ∈ s.gs, Ig.rd e
  rs : s.rs.length ≤ 9223372036854775807
  rr : ∀ e ∈ s.rs, Rr.rd e
  ac : s.ac.length ≤ 9223372036854775807
  an : s.an.length ≤ 9223372036854775807
  ck : IntKind.i64.min ≤ s.clk ∧ s.clk ≤ IntKind.i64.max
  k0 : IntKind.i64.min ≤ s.k0 ∧ s.k0 ≤ IntKind.i64.max
  k1 : IntKind.i64.min ≤ s.k1 ∧ s.k1 ≤ IntKind.i64.max
  k2 : IntKind.i64.min ≤ s.k2 ∧ s.k2 ≤ IntKind.i64.max
  k3 : IntKind.i64.min ≤ s.k3 ∧ s.k3 ≤ IntKind.i64.max
  k4 : IntKind.i64.min ≤ s.k4 ∧ s.k4 ≤ IntKind.i64.max
  k5 : IntKind.i64.min ≤ s.k5 ∧ s.k5 ≤ IntKind.i64.max
  k6 : IntKind.i64.min ≤ s.k6 ∧ s.k6 ≤ IntKind.i64.max
def flN (s : Fl) : Nat := stoN s.st + ((s.ws.length + sumL Wk.size s.ws) + ((s.gs.length + sumL Ig.size s.gs) + ((s.rs.length + sumL Rr.size s.rs) + (s.ac.length + s.an.length))))
structure Fl.small (s : Fl) : Prop where
  st : s.st.os.length ≤ 1048576
  sk : ∀ e ∈ s.st.os, e.key.length ≤ 1048576
  ws : s.ws.length ≤ 1048576
  wr : ∀ e ∈ s.ws, Wk.small e
  wk : ∀ e ∈ s.ws, e.job.key.length ≤ 1048576 ∧ ∀ x ∈ e.ins, x.key.length ≤ 1048576
  gs : s.gs.length ≤ 1048576
  gr : ∀ e ∈ s.gs, Ig.small e
  rs : s.rs.length ≤ 1048576
  rr : ∀ e ∈ s.rs, Rr.small e
  rk : ∀ e ∈ s.rs, ∀ x ∈ e.left, x.key.length ≤ 1048576
  ac : s.ac.length ≤ 1048576
  an : s.an.length ≤ 1048576
end Go.Proofs.YtopfpmcakoeloaaGreatDoor
set_option linter.unusedVariables false
set_option linter.constructorNameAsVariable false
set_option linter.unusedSimpArgs false
set_option maxRecDepth 20000
namespace Go.Proofs.YtopfpmcakoeloaaGreatDoor
open Go Go.Vw

abbrev nums (L : List Int) : AV := .sl 1 L.length fun i => [.int .i64 (ix L i)]
theorem isId0 (n : Int) : VFn Tryz.prog 47 [.int .i64 n] (.bool (within n 0 9)) := by
  refine VFn.introC Tryz.call47 Tryz.func47 rfl rfl ?_
  conv => whnf
  refine CallC.sca _ (within_fn _ _ _) ?_ ?_
  · exact rfl
  exact And.intro trivial (AVle.refl _)
def gotOK (a : Ag) : Bool := a.ok && decide (a.c ≤ 1000)
def An.ok (a : An) : Bool := within a.tier 0 2 && (isRange a.f a.t && (within a.code 0 19 && a.a.ok))
def Wk.ok (w : Wk) : Bool := within w.id 0 9 && (within w.ph 0 7 && (within w.tok 0 999999 && (!(decide (2 ≤ w.ph) && decide (w.tok = 0)) && ((!within w.ph 4 6 || (w.job.ok && (decide (w.job.tok = w.tok) && (decide (w.job.k = 3) || (decide (w.ph = 6) && decide (w.job.k = 4)))))) && (decide ((w.ins.length : Int) ≤ 300) && (w.ins.all En.ok && gotOK w.got))))))
end Go.Proofs.YtopfpmcakoeloaaGreatDoor
set_option linter.unusedVariables false
set_option linter.constructorNameAsVariable false
set_option linter.unusedSimpArgs false
set_option maxRecDepth 20000
namespace Go.Proofs.YtopfpmcakoeloaaGreatDoor
open Go Go.Vw

def Wk.ok2 (w : Wk) : Bool := w.ins.all En.ok && (within w.id 0 9 && (within w.ph 0 7 && (within w.tok (if decide (1 < w.ph) = true then 1 else 0) 999999 && ((!within w.ph 4 6 || (w.job.ok && (decide (w.job.tok = w.tok) && (decide (w.job.k = 3) || (decide (w.ph = 6) && decide (w.job.k = 4)))))) && (w.got.ok && (decide (w.got.c ≤ 1000) && decide ((w.ins.length : Int) ≤ 300)))))))
def igOK (id seq f t : Int) (b : List Smp) (put : Bool) : Bool := within id 0 9 && (smpsOK b && (!decide (8 < (b.length : Int)) && (if put = true then decide (0 < (b.length : Int)) && (within seq 1 999999 && (within f 0 (ix b (Int.toNat 0)).t && decide (t = (ix b ((b.length : Int) - 1).toNat).t + 1))) else decide (seq = 0) && (decide (f = 0) && decide (t = 0)))))
def Ig.ok (e : Ig) : Bool := igOK e.id e.seq e.f e.t e.b e.put
theorem smps_b {L : List Smp} (h : smpsOK L = true) {i : Nat} (hi : i < L.length) : 0 ≤ (ix L i).t ∧ (ix L i).t ≤ 99999 := by
  unfold smpsOK at h
  simp only [Bool.and_eq_true] at h
  have := Go.Vw.allN_iff.1 h.2 i hi
  simp [smpAt, within] at this
  omega
theorem IngesterOK_fn0 (id seq f t : Int) (b : List Smp) (put : Bool) (h : b.length ≤ 1048576) : VFn Tryz.prog 22 [.agg [.int .i64 id, .int .i64 seq, .int .i64 f, .int .i64 t, smps b, .bool put]] (.bool (igOK id seq f t b put)) := by
  cases hs : smpsOK b
  · have cs := SamplesOK_fn b
    rw [hs] at cs
    have ho : igOK id seq f t b put = false := by unfold igOK; rw [hs]; simp
    rw [ho]
    refine VFn.introC Tryz.call22 Tryz.func22 rfl rfl ?_
    conv => whnf
    refine CallC.sca _ (isId0 id) ?_ ?_
    · exact rfl
    refine Grd.intro (fun h => ?_) (fun h => ?_)
    · exact And.intro trivial (AVle.refl _)
    · conv => whnf
      refine CallC.sca _ (cs) ?_ ?_
      · exact rfl
      exact And.intro trivial (AVle.refl _)
  · have cs := SamplesOK_fn b
    rw [hs] at cs
    cases put
    · refine VFn.introC Tryz.call22 Tryz.func22 rfl rfl ?_
      repeat' (conv => whnf
               first
                 | (refine Grd.intro (fun h => ?_) (fun h => ?_); rotate_left; focus (exfalso; simp_all; done))
                 | (refine Grd.intro (fun h => ?_) (fun h => ?_); focus (exfalso; simp_all; done))
                 | refine Grd.intro (fun h => ?_) (fun h => ?_)
                 | (refine CallC.sca _ (isId0 id) ?_ ?_; focus (exact rfl))
                 | (refine CallC.sca _ (cs) ?_ ?_; focus (exact rfl))
                 | (refine And.intro trivial (AVle.of_eq (congrArg AV.bool ?_)); focus (simp_all [igOK]; done))
                 | (refine And.intro trivial (AVle.of_eq (congrArg AV.bool ?_)); focus (simp only [igOK, *, cond_true, cond_false, Bool.true_and, Bool.and_true, Bool.false_and, Bool.and_false, Bool.not_true, Bool.not_false, Bool.true_or, Bool.or_true, Bool.false_or, Bool.or_false, if_true, ite_true, reduceIte]; done))
                 | (refine And.intro trivial (AVle.of_eq (congrArg AV.bool ?_)); focus (simp_all [igOK]; intros; omega))
                 | fail)
    by_cases hl : b.length = 0
    · refine VFn.introC Tryz.call22 Tryz.func22 rfl rfl ?_
      conv => whnf
      refine CallC.sca _ (isId0 id) ?_ ?_
      · exact rfl
      refine Grd.intro (fun h1 => ?_) (fun h1 => ?_)
      · rw [show igOK id seq f t b true = false by unfold igOK; simp_all]
        exact And.intro trivial (AVle.refl _)
      conv => whnf
      refine CallC.sca _ (cs) ?_ ?_
      · exact rfl
      refine Grd.intro (fun h2 => ?_) (fun h2 => ?_)
      · rw [show igOK id seq f t b true = false by unfold igOK; simp_all]
        exact And.intro trivial (AVle.refl _)
      refine DrawC.mkQ 32 [] rfl (by kernel_rfl) ?_; refine And.intro (by kernel_rfl) ?_
      repeat' (conv => whnf
               first
                 | (refine Grd.intro (fun h => ?_) (fun h => ?_); rotate_left; focus (exfalso; simp_all; done))
                 | (refine Grd.intro (fun h => ?_) (fun h => ?_); focus (exfalso; simp_all; done))
                 | refine Grd.intro (fun h => ?_) (fun h => ?_)
                 | (refine And.intro trivial (AVle.of_eq (congrArg AV.bool ?_)); focus (simp_all [igOK]; done))
                 | (refine And.intro trivial (AVle.of_eq (congrArg AV.bool ?_)); focus (simp only [igOK, *, cond_true, cond_false, Bool.true_and, Bool.and_true, Bool.false_and, Bool.and_false, Bool.not_true, Bool.not_false, Bool.true_or, Bool.or_true, Bool.false_or, Bool.or_false, if_true, ite_true, reduceIte]; done))
                 | (refine And.intro trivial (AVle.of_eq (congrArg AV.bool ?_)); focus (simp_all [igOK]; intros; omega))
                 | fail)
    · have b0 := smps_b hs (i := 0) (by omega)
      have bl := smps_b hs (i := ((b.length : Int) - 1).toNat) (by omega)
      refine VFn.introC Tryz.call22 Tryz.func22 rfl rfl ?_
      conv => whnf
      refine CallC.sca _ (isId0 id) ?_ ?_
      · exact rfl
      refine Grd.intro (fun h1 => ?_) (fun h1 => ?_)
      · rw [show igOK id seq f t b true = false by unfold igOK; simp_all]
        exact And.intro trivial (AVle.refl _)
      conv => whnf
      refine CallC.sca _ (cs) ?_ ?_
      · exact rfl
      clear cs
      refine Grd.intro (fun h2 => ?_) (fun h2 => ?_)
      · rw [show igOK id seq f t b true = false by unfold igOK; simp_all]
        exact And.intro trivial (AVle.refl _)
      refine DrawC.mkQ 32 [] rfl (by kernel_rfl) ?_; refine And.intro (by kernel_rfl) ?_
      repeat' (conv => whnf
               first
                 | (refine Grd.intro (fun h => ?_) (fun h => ?_); rotate_left; focus (exfalso; simp_all; done))
                 | (refine Grd.intro (fun h => ?_) (fun h => ?_); focus (exfalso; simp_all; done))
                 | refine Grd.intro (fun h => ?_) (fun h => ?_)
                 | (refine CallC.sca _ (within_fn seq 1 999999) ?_ ?_; focus (exact rfl))
                 | (refine CallC.sca _ (within_fn f 0 _) ?_ ?_; focus (exact rfl))
                 | refine PCallQ.sca _ (within_fn seq 1 999999) rfl ?_
                 | refine PCallQ.sca _ (within_fn f 0 _) rfl ?_
                 | (refine And.intro trivial (AVle.of_eq (congrArg AV.bool ?_)); focus (simp_all [igOK]; done))
                 | (refine And.intro trivial (AVle.of_eq (congrArg AV.bool ?_)); focus (simp only [igOK, *, cond_true, cond_false, Bool.true_and, Bool.and_true, Bool.false_and, Bool.and_false, Bool.not_true, Bool.not_false, Bool.true_or, Bool.or_true, Bool.false_or, Bool.or_false, if_true, ite_true, reduceIte]; done))
                 | (refine And.intro trivial (AVle.of_eq (congrArg AV.bool ?_)); focus (simp_all [igOK]; intros; omega))
                 | (refine And.intro ?_ ?_; focus (apply inI64 <;> omega))
                 | (refine And.intro ?_ ?_; focus (constructor <;> omega))
                 | fail)
theorem IngesterOK_fn (e : Ig) (h : e.b.length ≤ 1048576) : VFn Tryz.prog 22 [e.av] (.bool e.ok) := IngesterOK_fn0 e.id e.seq e.f e.t e.b e.put h
theorem specIngesterOK_fn0 (id seq f t : Int) (b : List Smp) (put : Bool) (h : b.length ≤ 1048576) : VFn Tryz.prog 28 [.agg [.int .i64 id, .int .i64 seq, .int .i64 f, .int .i64 t, smps b, .bool put]] (.bool (igOK id seq f t b put)) := by
  cases hs : smpsOK b
  · have cs := specSamplesOK_fn b
    rw [hs] at cs
    have ho : igOK id seq f t b put = false := by unfold igOK; rw [hs]; simp
    rw [ho]
    refine VFn.introC Tryz.call28 Tryz.func28 rfl rfl ?_
    conv => whnf
    refine CallC.sca _ (l01In_fn id 0 9) ?_ ?_
    · exact rfl
    refine Grd.intro (fun h => ?_) (fun h => ?_)
    · exact And.intro trivial (AVle.refl _)
    · conv => whnf
      refine CallC.sca _ (cs) ?_ ?_
      · exact rfl
      exact And.intro trivial (AVle.refl _)
  · have cs := specSamplesOK_fn b
    rw [hs] at cs
    cases put
    · refine VFn.introC Tryz.call28 Tryz.func28 rfl rfl ?_
      repeat' (conv => whnf
               first
                 | (refine Grd.intro (fun h => ?_) (fun h => ?_); rotate_left; focus (exfalso; simp_all; done))
                 | (refine Grd.intro (fun h => ?_) (fun h => ?_); focus (exfalso; simp_all; done))
                 | refine Grd.intro (fun h => ?_) (fun h => ?_)
                 | (refine CallC.sca _ (l01In_fn id 0 9) ?_ ?_; focus (exact rfl))
                 | (refine CallC.sca _ (cs) ?_ ?_; focus (exact rfl))
                 | (refine And.intro trivial (AVle.of_eq (congrArg AV.bool ?_)); focus (simp_all [igOK]; done))
                 | (refine And.intro trivial (AVle.of_eq (congrArg AV.bool ?_)); focus (simp only [igOK, *, cond_true, cond_false, Bool.true_and, Bool.and_true, Bool.false_and, Bool.and_false, Bool.not_true, Bool.not_false, Bool.true_or, Bool.or_true, Bool.false_or, Bool.or_false, if_true, ite_true, reduceIte]; done))
                 | (refine And.intro trivial (AVle.of_eq (congrArg AV.bool ?_)); focus (simp_all [igOK]; intros; omega))
                 | fail)
    by_cases hl : b.length = 0
    · refine VFn.introC Tryz.call28 Tryz.func28 rfl rfl ?_
      conv => whnf
      refine CallC.sca _ (l01In_fn id 0 9) ?_ ?_
      · exact rfl
      refine Grd.intro (fun h1 => ?_) (fun h1 => ?_)
      · rw [show igOK id seq f t b true = false by unfold igOK; simp_all]
        exact And.intro trivial (AVle.refl _)
      conv => whnf
      refine CallC.sca _ (cs) ?_ ?_
      · exact rfl
      refine Grd.intro (fun h2 => ?_) (fun h2 => ?_)
      · rw [show igOK id seq f t b true = false by unfold igOK; simp_all]
        exact And.intro trivial (AVle.refl _)
      refine DrawC.mkQ 32 [] rfl (by kernel_rfl) ?_; refine And.intro (by kernel_rfl) ?_
      repeat' (conv => whnf
               first
                 | (refine Grd.intro (fun h => ?_) (fun h => ?_); rotate_left; focus (exfalso; simp_all; done))
                 | (refine Grd.intro (fun h => ?_) (fun h => ?_); focus (exfalso; simp_all; done))
                 | refine Grd.intro (fun h => ?_) (fun h => ?_)
                 | (refine And.intro trivial (AVle.of_eq (congrArg AV.bool ?_)); focus (simp_all [igOK]; done))
                 | (refine And.intro trivial (AVle.of_eq (congrArg AV.bool ?_)); focus (simp only [igOK, *, cond_true, cond_false, Bool.true_and, Bool.and_true, Bool.false_and, Bool.and_false, Bool.not_true, Bool.not_false, Bool.true_or, Bool.or_true, Bool.false_or, Bool.or_false, if_true, ite_true, reduceIte]; done))
                 | (refine And.intro trivial (AVle.of_eq (congrArg AV.bool ?_)); focus (simp_all [igOK]; intros; omega))
                 | fail)
    · have b0 := smps_b hs (i := 0) (by omega)
      have bl := smps_b hs (i := ((b.length : Int) - 1).toNat) (by omega)
      refine VFn.introC Tryz.call28 Tryz.func28 rfl rfl ?_
      conv => whnf
      refine CallC.sca _ (l01In_fn id 0 9) ?_ ?_
      · exact rfl
      refine Grd.intro (fun h1 => ?_) (fun h1 => ?_)
      · rw [show igOK id seq f t b true = false by unfold igOK; simp_all]
        exact And.intro trivial (AVle.refl _)
      conv => whnf
      refine CallC.sca _ (cs) ?_ ?_
      · exact rfl
      clear cs
      refine Grd.intro (fun h2 => ?_) (fun h2 => ?_)
      · rw [show igOK id seq f t b true = false by unfold igOK; simp_all]
        exact And.intro trivial (AVle.refl _)
      refine DrawC.mkQ 32 [] rfl (by kernel_rfl) ?_; refine And.intro (by kernel_rfl) ?_
      repeat' (conv => whnf
               first
                 | (refine Grd.intro (fun h => ?_) (fun h => ?_); rotate_left; focus (exfalso; simp_all; done))
                 | (refine Grd.intro (fun h => ?_) (fun h => ?_); focus (exfalso; simp_all; done))
                 | refine Grd.intro (fun h => ?_) (fun h => ?_)
                 | (refine CallC.sca _ (l01In_fn seq 1 999999) ?_ ?_; focus (exact rfl))
                 | (refine CallC.sca _ (l01In_fn f 0 _) ?_ ?_; focus (exact rfl))
                 | refine PCallQ.sca _ (l01In_fn seq 1 999999) rfl ?_
                 | refine PCallQ.sca _ (l01In_fn f 0 _) rfl ?_
                 | (refine And.intro trivial (AVle.of_eq (congrArg AV.bool ?_)); focus (simp_all [igOK]; done))
                 | (refine And.intro trivial (AVle.of_eq (congrArg AV.bool ?_)); focus (simp only [igOK, *, cond_true, cond_false, Bool.true_and, Bool.and_true, Bool.false_and, Bool.and_false, Bool.not_true, Bool.not_false, Bool.true_or, Bool.or_true, Bool.false_or, Bool.or_false, if_true, ite_true, reduceIte]; done))
                 | (refine And.intro trivial (AVle.of_eq (congrArg AV.bool ?_)); focus (simp_all [igOK]; intros; omega))
                 | (refine And.intro ?_ ?_; focus (apply inI64 <;> omega))
                 | (refine And.intro ?_ ?_; focus (constructor <;> omega))
                 | fail)
theorem specIngesterOK_fn (e : Ig) (h : e.b.length ≤ 1048576) : VFn Tryz.prog 28 [e.av] (.bool e.ok) := specIngesterOK_fn0 e.id e.seq e.f e.t e.b e.put h
end Go.Proofs.YtopfpmcakoeloaaGreatDoor
