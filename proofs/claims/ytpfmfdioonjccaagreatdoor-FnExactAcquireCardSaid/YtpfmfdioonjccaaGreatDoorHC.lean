/- Marks, laid down and met: contracts; the conditions are the theorems' own. -/
import Derived.Test.YtpfmfdioonjccaaGreatDoorGA
import Derived.Test.YtpfmfdioonjccaaGreatDoorV41
set_option linter.unusedVariables false
set_option linter.constructorNameAsVariable false
set_option linter.unusedSimpArgs false
set_option maxRecDepth 20000
namespace Go.Proofs.YtpfmfdioonjccaaGreatDoor
open Go Go.Vw

/-- the digits of a positive number, none of 0 -/
def posD : Nat → List UInt8
  | 0 => []
  | n + 1 => posD ((n + 1) / 10) ++ [d1 (n + 1)]
decreasing_by omega
def markT (k : Int) : List UInt8 := if k ≤ 0 then [109, 48] else 109 :: posD k.toNat
theorem posD_len : ∀ (k n : Nat), n < 10 ^ k → (posD n).length ≤ k
  | 0, n, h => by
    have : n = 0 := by simpa using h
    subst this; simp [posD]
  | k + 1, 0, h => by simp [posD]
  | k + 1, n + 1, h => by
    rw [posD]
    have := posD_len k ((n + 1) / 10) (by rw [Nat.pow_succ] at h; omega)
    simp; omega
theorem markText_fn (k : Int) (hk : k ≤ 9223372036854775807) : VFn Tryz.prog 150 [.int .i64 k] (.str (B (markT k))) := by
  obtain ⟨R, hR⟩ : ∃ R, R = markT k := ⟨_, rfl⟩
  rw [← hR]
  refine VFn.introC Tryz.call150 Tryz.func150 rfl rfl ?_
  refine Grd.intro (fun g => ?_) (fun g => ?_)
  · rw [hR, markT, if_pos (of_decide_eq_true g)]
    exact And.intro trivial (AVle.refl _)
  have g : ¬ k ≤ 0 := of_decide_eq_false g
  obtain ⟨n, rfl⟩ : ∃ n : Nat, k = n := ⟨k.toNat, by omega⟩
  have hR' : R = 109 :: posD n := by rw [hR, markT, if_neg g]; rfl
  have hlen : ∀ m : Nat, m ≤ n → (posD m).length ≤ 19 := fun m hm => posD_len 19 m (by simp; omega)
  refine LoopC.mk (fun x : Nat × List UInt8 => x.1 ≤ n ∧ posD x.1 ++ x.2 = posD n) (fun x => [(0, .int .i64 x.1), (3, .str (B x.2))]) (fun _ => []) 0 (fun x => x.1) (n, [])
    ⟨⟨Nat.le_refl _, by simp⟩, [], rfl, rfl, ⟨AVle.refl _, AVle.refl _, trivial⟩, trivial⟩ ?_
  rintro ⟨m, out⟩ hx
  obtain ⟨hm, he⟩ := hx
  simp only at hm he
  refine Grd.intro (fun g1 => ?_) (fun g1 => ?_)
  · have g1 : 0 < m := by have := of_decide_eq_true g1; omega
    have ht : (m : Int).tmod 10 = ((m % 10 : Nat) : Int) := by rw [Int.tmod_eq_emod_of_nonneg (by omega)]; simp
    have hd : (m : Int).tdiv 10 = ((m / 10 : Nat) : Int) := by rw [Int.tdiv_eq_ediv_of_nonneg (by omega)]; simp
    have hp : posD m = posD (m / 10) ++ [d1 m] := by
      obtain ⟨j, rfl⟩ : ∃ j, m = j + 1 := ⟨m - 1, by omega⟩
      rw [posD]
    have hol : out.length ≤ 19 := by
      have := congrArg List.length he
      have := hlen n (Nat.le_refl _)
      simp at *; omega
    refine And.intro (by decide) ?_
    refine And.intro (show inI .i64 (48 + (m : Int).tmod 10) from inI64 (by omega) (by omega)) ?_
    refine And.intro (show inI .u8 (48 + (m : Int).tmod 10) from ⟨show (0 : Int) ≤ _ by omega, show _ ≤ (255 : Int) by omega⟩) ?_
    refine And.intro (fun i hi => ?_) ?_
    · have : i = 0 := by omega
      subst this; rfl
    have h1 : strOfNums [48 + (m : Int).tmod 10] = B [d1 m] := one_digit (k := m % 10) (by rw [ht]) (by omega)
    refine And.intro (show (((strOfNums [48 + (m : Int).tmod 10]).size + (B out).size : Nat) : Int) ≤ 9223372036854775807 by rw [h1, B_size, B_size]; simp; omega) ?_
    refine And.intro ⟨by decide, show inI .i64 ((m : Int).tdiv 10) from inI64 (by omega) (by omega)⟩ ?_
    exact ⟨(m / 10, d1 m :: out), ⟨by simp only; omega, by simp only; rw [← he, hp]; simp⟩, by simp only; omega, [], rfl, rfl, ⟨AVle.of_eq (congrArg (AV.int .i64) (show (m : Int).tdiv 10 = _ by rw [hd])), AVle.of_eq (congrArg AV.str (show strOfNums [48 + (m : Int).tmod 10] ++ B out = _ by rw [h1, B_app]; rfl)), trivial⟩, trivial⟩
  · have : m = 0 := by have := of_decide_eq_false g1; omega
    subst this
    have he : out = posD n := by simpa [posD] using he
    have hol := hlen n (Nat.le_refl _)
    subst he
    refine And.intro (show (((B [109]).size + (B (posD n)).size : Nat) : Int) ≤ 9223372036854775807 by rw [B_size, B_size]; simp; omega) ?_
    exact And.intro trivial (AVle.of_eq (congrArg AV.str (show B [109] ++ B (posD n) = _ by rw [B_app, hR']; rfl)))
/-- texts marked from a number on -/
def mkT (k : Int) (n : Nat) : List (List UInt8) := (List.range n).map fun j : Nat => markT (k + (j : Int))
theorem mkT_len (k : Int) (n : Nat) : (mkT k n).length = n := by simp [mkT]
theorem mkT_ix (k : Int) {n i : Nat} (h : i < n) : ix (mkT k n) i = markT (k + i) := by
  rw [ix_lt (by rw [mkT_len]; exact h)]; simp [mkT]
theorem eqStringS_fn (L : List (List UInt8)) (hL : L.length ≤ 1048576) : VFn Tryz.prog 51 [txts L, txts L] (.bool true) := by
  refine VFn.introC Tryz.call51 Tryz.func51 rfl rfl ?_
  refine Grd.intro (fun h => absurd h (by simp)) (fun _ => ?_)
  refine LoopC.mk (fun i : Nat => i ≤ L.length) (fun i => [(0, txts L), (1, txts L), (5, .int .i64 i)]) (fun _ => []) 0 (fun i => L.length - i) 0
    ⟨Nat.zero_le _, [], rfl, rfl, ⟨AVle.refl _, AVle.refl _, AVle.refl _, trivial⟩, trivial⟩ ?_
  intro i hi
  refine Grd.intro (fun h2 => ?_) (fun h2 => ?_)
  · have hin : i < L.length := by have := of_decide_eq_true h2; omega
    refine DrawC.mk 9 rfl (by kernel_rfl) ?_
    refine And.intro (by omega) ?_
    refine And.intro (by omega) ?_
    refine Grd.intro (fun h => absurd h (by simp)) (fun _ => ?_)
    refine And.intro (inI64 (by omega) (by omega)) ?_
    exact ⟨i + 1, hin, by omega, [], rfl, rfl, ⟨AVle.refl _, AVle.refl _, AVle.of_eq (congrArg (AV.int .i64) (by simp)), trivial⟩, trivial⟩
  · exact And.intro trivial (AVle.refl _)
theorem markStringS_fn (L : List (List UInt8)) (hn : L.length ≤ 1048576) (k : Int) (hk : 0 ≤ k ∧ k ≤ 1000000000) :
    FnM Tryz.prog 53 1 [.osl 0, .int .i64 k] [(0, .arr 9 1 L.length fun i => [.str (B (ix L i))])] (.int .i64 (k + L.length)) [(0, .arr 9 1 L.length fun i => [.str (B (markT (k + i)))])] 1 := by
  refine FnM.introC Tryz.call53 Tryz.func53 rfl rfl ?_
  refine LoopC.mk (fun i : Nat => i ≤ L.length) (fun i => [(0, .osl 0), (1, .int .i64 (k + i)), (5, .int .i64 i)]) (fun i => [(0, .arr 9 1 L.length (wr (fun i => [.str (B (markT (k + i)))]) (fun i => [.str (B (ix L i))]) i))]) 1 (fun i => L.length - i) 0
    ⟨Nat.zero_le _, [(0, 0)], rfl, rfl, ⟨AVle.refl _, AVle.of_eq (congrArg (AV.int .i64) (by simp)), AVle.refl _, trivial⟩, ⟨MOle.arr rfl fun i hi => by rw [wr_ge (Nat.zero_le i)], trivial⟩⟩ ?_
  intro i hi
  refine Grd.intro (fun h2 => ?_) (fun h2 => ?_)
  · have hin : i < L.length := by have := of_decide_eq_true h2; omega
    conv => whnf
    refine CallC.sca _ (markText_fn (k + i) (by omega)) ?_ ?_
    · exact rfl
    refine And.intro (by omega) ?_
    refine And.intro (show inI .i64 (k + i + 1) from inI64 (by omega) (by omega)) ?_
    refine And.intro (inI64 (by omega) (by omega)) ?_
    exact ⟨i + 1, hin, by omega, [(0, 0)], rfl, rfl, ⟨AVle.refl _, AVle.of_eq (congrArg (AV.int .i64) (show k + i + 1 = _ by simp; omega)), AVle.of_eq (congrArg (AV.int .i64) (by simp)), trivial⟩, ⟨MOle.arr rfl fun j hj => wr_next fun e => by subst e; rw [wr_ge (Nat.le_refl _)]; rfl, trivial⟩⟩
  · have : i = L.length := by have := of_decide_eq_false h2; omega
    subst this
    exact And.intro trivial ⟨[(0, 0)], rfl, AVle.refl _, ⟨MOle.arr rfl fun j hj => wr_lt hj, trivial⟩⟩
theorem heldStringS_fn (n : Nat) (hn : n ≤ 1048576) (k : Int) (hk : 0 ≤ k ∧ k ≤ 1000000000) : VFn Tryz.prog 54 [.sl 1 n fun i => [.str (B (markT (k + i)))], .int .i64 k] (.int .i64 (k + n)) := by
  refine VFn.introC Tryz.call54 Tryz.func54 rfl rfl ?_
  refine LoopC.mk (fun i : Nat => i ≤ n) (fun i => [(0, .sl 1 n fun i => [.str (B (markT (k + i)))]), (1, .int .i64 (k + i)), (5, .int .i64 i)]) (fun _ => []) 0 (fun i => n - i) 0
    ⟨Nat.zero_le _, [], rfl, rfl, ⟨AVle.refl _, AVle.of_eq (congrArg (AV.int .i64) (by simp)), AVle.refl _, trivial⟩, trivial⟩ ?_
  intro i hi
  refine Grd.intro (fun h2 => ?_) (fun h2 => ?_)
  · have hin : i < n := by have := of_decide_eq_true h2; omega
    refine DrawC.mk 7 rfl (by kernel_rfl) ?_
    refine And.intro (by omega) ?_
    refine PCallC.sca _ (markText_fn (k + i) (by omega)) rfl ?_
    refine Grd.intro (fun h => absurd h (by simp)) (fun _ => ?_)
    refine And.intro (show inI .i64 (k + i + 1) from inI64 (by omega) (by omega)) ?_
    refine And.intro (inI64 (by omega) (by omega)) ?_
    exact ⟨i + 1, hin, by omega, [], rfl, rfl, ⟨AVle.refl _, AVle.of_eq (congrArg (AV.int .i64) (show k + i + 1 = _ by simp; omega)), AVle.of_eq (congrArg (AV.int .i64) (by simp)), trivial⟩, trivial⟩
  · have : i = n := by have := of_decide_eq_false h2; omega
    subst this
    exact And.intro trivial (AVle.refl _)
end Go.Proofs.YtpfmfdioonjccaaGreatDoor
