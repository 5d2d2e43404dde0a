/- Stores, handed over, compared, marked: contracts; the conditions are the theorems' own. -/
import Derived.Test.YtpfmfdioonjccaaGreatDoorKI
import Derived.Test.YtpfmfdioonjccaaGreatDoorHC
set_option linter.unusedVariables false
set_option linter.constructorNameAsVariable false
set_option linter.unusedSimpArgs false
set_option maxRecDepth 20000
namespace Go.Proofs.YtpfmfdioonjccaaGreatDoor
open Go Go.Vw

def Ob.size (e : Ob) : Nat := e.key.length + e.data.length
theorem szObject_fn (e : Ob) (n : Int) (h0 : 0 ≤ n) (h1 : n ≤ 1048576) (hk : e.key.length ≤ 9223372036854775807 ∧ e.data.length ≤ 9223372036854775807) : VFn Tryz.prog 157 [e.av, .int .i64 n] (.int .i64 (szr (Ob.size e) n)) := by
  have hk1 := hk.1
  have hk2 := hk.2
  refine VFn.introC Tryz.call157 Tryz.func157 rfl rfl ?_
  refine And.intro (show inI .i64 (n - ((B e.key).size : Int)) by rw [B_size]; exact inI64 (by omega) (by omega)) ?_
  refine Grd.intro (fun h2 => ?_) (fun h2 => ?_)
  · have h2 : n - ((B e.key).size : Int) < 0 := of_decide_eq_true h2
    rw [B_size] at h2
    rw [szr_no (k := Ob.size e) (show ¬ ((e.key.length + e.data.length : Nat) : Int) ≤ n by omega)]
    exact And.intro trivial (AVle.refl _)
  have h2 : ¬ n - ((B e.key).size : Int) < 0 := of_decide_eq_false h2
  rw [B_size] at h2
  refine And.intro (show inI .i64 (n - ((B e.key).size : Int) - ((B e.data).size : Int)) by rw [B_size, B_size]; exact inI64 (by omega) (by omega)) ?_
  refine Grd.intro (fun h3 => ?_) (fun h3 => ?_)
  · have h3 : n - ((B e.key).size : Int) - ((B e.data).size : Int) < 0 := of_decide_eq_true h3
    rw [B_size, B_size] at h3
    rw [szr_no (k := Ob.size e) (show ¬ ((e.key.length + e.data.length : Nat) : Int) ≤ n by omega)]
    exact And.intro trivial (AVle.refl _)
  · have h3 : ¬ n - ((B e.key).size : Int) - ((B e.data).size : Int) < 0 := of_decide_eq_false h3
    rw [B_size, B_size] at h3
    rw [szr_yes (k := Ob.size e) (show ((e.key.length + e.data.length : Nat) : Int) ≤ n by omega)]
    exact And.intro trivial (AVle.of_eq (congrArg (AV.int .i64) (show n - ((B e.key).size : Int) - ((B e.data).size : Int) = n - ((e.key.length + e.data.length : Nat) : Int) by rw [B_size, B_size]; omega)))
theorem toObject_fn (e : Ob) : VFn Tryz.prog 164 [e.av] e.av := by
  refine VFn.introC Tryz.call164 Tryz.func164 rfl rfl ?_
  exact And.intro trivial (AVle.refl _)
theorem eqObject_fn (e : Ob) : VFn Tryz.prog 170 [e.av, e.av] (.bool true) := by
  refine VFn.introC Tryz.call170 Tryz.func170 rfl rfl ?_
  refine Grd.intro (fun h => absurd h (by simp)) (fun _ => ?_)
  refine Grd.intro (fun h => absurd h (by simp)) (fun _ => ?_)
  refine Grd.intro (fun h => absurd h (by simp)) (fun _ => ?_)
  exact And.intro trivial (AVle.refl _)
theorem szObjectS_fn (L : List Ob) (n : Int) (h0 : 0 ≤ n) (h1 : n ≤ 1048576) (hL : L.length ≤ 9223372036854775807) (hk : ∀ e ∈ L, e.key.length ≤ 9223372036854775807 ∧ e.data.length ≤ 9223372036854775807) : VFn Tryz.prog 59 [obs L, .int .i64 n] (.int .i64 (szr (L.length + sumL Ob.size L) n)) := by
  refine VFn.introC Tryz.call59 Tryz.func59 rfl rfl ?_
  refine And.intro (inI64 (by omega) (by omega)) ?_
  refine Grd.intro (fun h2 => ?_) (fun h2 => ?_)
  · have h2 : n - (L.length : Int) < 0 := of_decide_eq_true h2
    rw [szr_no (by omega)]
    exact And.intro trivial (AVle.refl _)
  have h2 : ¬ n - (L.length : Int) < 0 := of_decide_eq_false h2
  refine LoopC.mk (fun i : Nat => i ≤ L.length ∧ ((L.length + sumL Ob.size (L.take i) : Nat) : Int) ≤ n) (fun i => [(0, obs L), (1, .int .i64 (n - ((L.length + sumL Ob.size (L.take i) : Nat) : Int))), (5, .int .i64 i)]) (fun _ => []) 0 (fun i => L.length - i) 0
    ⟨⟨Nat.zero_le _, by simp [sumL]; omega⟩, [], rfl, rfl, ⟨AVle.refl _, AVle.of_eq (congrArg (AV.int .i64) (by simp [sumL])), AVle.refl _, trivial⟩, trivial⟩ ?_
  intro i hi
  obtain ⟨hi, hs⟩ := hi
  refine Grd.intro (fun h3 => ?_) (fun h3 => ?_)
  · have hin : i < L.length := by have := of_decide_eq_true h3; omega
    have hsn := sum_snoc (f := Ob.size) hin
    have hle := sum_take_le (f := Ob.size) (L := L) (k := L.length - (i + 1)) (i := i + 1) (by omega)
    refine And.intro (by omega) ?_
    conv => whnf
    refine CallC.sca _ (szObject_fn (ix L i) (n - ((L.length + sumL Ob.size (L.take i) : Nat) : Int)) (by omega) (by omega) (hk _ (getD_mem hin))) ?_ ?_
    · exact rfl
    by_cases hfit : ((Ob.size (ix L i) : Nat) : Int) ≤ n - ((L.length + sumL Ob.size (L.take i) : Nat) : Int)
    · rw [szr_yes hfit]
      refine Grd.intro (fun h4 => absurd (of_decide_eq_true h4) (by omega)) (fun _ => ?_)
      refine And.intro (inI64 (by omega) (by omega)) ?_
      exact ⟨i + 1, ⟨hin, by omega⟩, by omega, [], rfl, rfl, ⟨AVle.refl _, AVle.of_eq (congrArg (AV.int .i64) (by omega)), AVle.of_eq (congrArg (AV.int .i64) (by simp)), trivial⟩, trivial⟩
    · rw [szr_no hfit, szr_no (by omega)]
      exact And.intro trivial (AVle.refl _)
  · have : i = L.length := by have := of_decide_eq_false h3; omega
    subst this
    have e : L.take L.length = L := List.take_of_length_le (Nat.le_refl _)
    have hs' := hs
    rw [e] at hs'
    rw [szr_yes hs']
    exact And.intro trivial (AVle.of_eq (congrArg (AV.int .i64) (show n - ((L.length + sumL Ob.size (L.take L.length) : Nat) : Int) = _ by rw [e])))
theorem toObjectS_fn (L : List Ob) (hL : L.length ≤ 1048576) : VFn Tryz.prog 63 [obs L] (obs L) := by
  refine VFn.introC Tryz.call63 Tryz.func63 rfl rfl ?_
  refine And.intro ⟨by omega, rfl, (show (40 : Int) * L.length ≤ 140737488355328 by omega), by omega⟩ ?_
  refine LoopC.mk (fun i : Nat => i ≤ L.length) (fun i => [(0, obs L), (3, .osl 0), (4, .int .i64 i)])
    (fun i => [(0, .arr 187 3 L.length (wr (fun i => (ix L i).row) (fun _ => (default : Ob).row) i))]) 1 (fun i => L.length - i) 0
    ⟨Nat.zero_le _, [(0, 0)], rfl, rfl, ⟨AVle.refl _, AVle.refl _, AVle.refl _, trivial⟩, ⟨MOle.arr rfl fun i hi => by rw [wr_ge (Nat.zero_le i)]; rfl, trivial⟩⟩ ?_
  intro i hi
  refine Grd.intro (fun h2 => ?_) (fun h2 => ?_)
  · have hin : i < L.length := by have := of_decide_eq_true h2; omega
    refine And.intro (by omega) ?_
    conv => whnf
    refine CallC.sca _ (toObject_fn (ix L i)) ?_ ?_
    · exact rfl
    refine And.intro (by omega) ?_
    refine And.intro (inI64 (by omega) (by omega)) ?_
    exact ⟨i + 1, hin, by omega, [(0, 0)], rfl, rfl, ⟨AVle.refl _, AVle.refl _, AVle.of_eq (congrArg (AV.int .i64) (by simp)), trivial⟩, ⟨MOle.arr rfl fun k hk => wr_next fun e => by subst e; rw [wr_ge (Nat.le_refl _)]; rfl, trivial⟩⟩
  · have : i = L.length := by have := of_decide_eq_false h2; omega
    subst this
    exact And.intro trivial (AVle.sl rfl fun k hk => wr_lt hk)
theorem eqObjectS_fn (L : List Ob) (hL : L.length ≤ 1048576) : VFn Tryz.prog 70 [obs L, obs L] (.bool true) := by
  refine VFn.introC Tryz.call70 Tryz.func70 rfl rfl ?_
  refine Grd.intro (fun h => absurd h (by simp)) (fun _ => ?_)
  refine LoopC.mk (fun i : Nat => i ≤ L.length) (fun i => [(0, obs L), (1, obs L), (5, .int .i64 i)]) (fun _ => []) 0 (fun i => L.length - i) 0
    ⟨Nat.zero_le _, [], rfl, rfl, ⟨AVle.refl _, AVle.refl _, AVle.refl _, trivial⟩, trivial⟩ ?_
  intro i hi
  refine Grd.intro (fun h2 => ?_) (fun h2 => ?_)
  · have hin : i < L.length := by have := of_decide_eq_true h2; omega
    refine DrawC.mk 10 rfl (by kernel_rfl) ?_
    refine And.intro (by omega) ?_
    refine And.intro (by omega) ?_
    refine PCallC.sca _ (eqObject_fn (ix L i)) rfl ?_
    refine And.intro (inI64 (by omega) (by omega)) ?_
    exact ⟨i + 1, hin, by omega, [], rfl, rfl, ⟨AVle.refl _, AVle.refl _, AVle.of_eq (congrArg (AV.int .i64) (by simp)), trivial⟩, trivial⟩
  · exact And.intro trivial (AVle.refl _)
theorem toObjectS_own (L : List Ob) (hL : L.length ≤ 1048576) : FnM Tryz.prog 63 0 [obs L] [] (.osl 0) [(0, .arr 187 3 L.length fun i => (ix L i).row)] 1 := by
  refine FnM.introC Tryz.call63 Tryz.func63 rfl rfl ?_
  refine And.intro ⟨by omega, rfl, (show (40 : Int) * L.length ≤ 140737488355328 by omega), by omega⟩ ?_
  refine LoopC.mk (fun i : Nat => i ≤ L.length) (fun i => [(0, obs L), (3, .osl 0), (4, .int .i64 i)])
    (fun i => [(0, .arr 187 3 L.length (wr (fun i => (ix L i).row) (fun _ => (default : Ob).row) i))]) 1 (fun i => L.length - i) 0
    ⟨Nat.zero_le _, [(0, 0)], rfl, rfl, ⟨AVle.refl _, AVle.refl _, AVle.refl _, trivial⟩, ⟨MOle.arr rfl fun i hi => by rw [wr_ge (Nat.zero_le i)]; rfl, trivial⟩⟩ ?_
  intro i hi
  refine Grd.intro (fun h2 => ?_) (fun h2 => ?_)
  · have hin : i < L.length := by have := of_decide_eq_true h2; omega
    refine And.intro (by omega) ?_
    conv => whnf
    refine CallC.sca _ (toObject_fn (ix L i)) ?_ ?_
    · exact rfl
    refine And.intro (by omega) ?_
    refine And.intro (inI64 (by omega) (by omega)) ?_
    exact ⟨i + 1, hin, by omega, [(0, 0)], rfl, rfl, ⟨AVle.refl _, AVle.refl _, AVle.of_eq (congrArg (AV.int .i64) (by simp)), trivial⟩, ⟨MOle.arr rfl fun k hk => wr_next fun e => by subst e; rw [wr_ge (Nat.le_refl _)]; rfl, trivial⟩⟩
  · have : i = L.length := by have := of_decide_eq_false h2; omega
    subst this
    exact And.intro trivial ⟨[(0, 0)], rfl, AVle.refl _, ⟨MOle.arr rfl fun k hk => wr_lt hk, trivial⟩⟩

def mkO (k : Int) (i : Nat) : List AV := [.str (B (markT (k + 3 * i))), .int .i64 (k + 3 * i + 1), .str (B (markT (k + 3 * i + 1 + 1)))]
theorem markObjectS_fn (n : Nat) (rows : Nat → List AV) (hr : ∀ i, i < n → ∃ a b c, rows i = [a, b, c]) (hn : n ≤ 1048576) (k : Int) (hk : 0 ≤ k ∧ k ≤ 1000000000) :
    FnM Tryz.prog 71 1 [.osl 0, .int .i64 k] [(0, .arr 187 3 n rows)] (.int .i64 (k + 3 * n)) [(0, .arr 187 3 n (mkO k))] 1 := by
  refine FnM.introC Tryz.call71 Tryz.func71 rfl rfl ?_
  refine LoopC.mk (fun i : Nat => i ≤ n) (fun i => [(0, .osl 0), (1, .int .i64 (k + 3 * i)), (5, .int .i64 i)]) (fun i => [(0, .arr 187 3 n (wr (mkO k) rows i))]) 1 (fun i => n - i) 0
    ⟨Nat.zero_le _, [(0, 0)], rfl, rfl, ⟨AVle.refl _, AVle.of_eq (congrArg (AV.int .i64) (by simp)), AVle.refl _, trivial⟩, ⟨MOle.arr rfl fun i hi => by rw [wr_ge (Nat.zero_le i)], trivial⟩⟩ ?_
  intro i hi
  refine Grd.intro (fun h2 => ?_) (fun h2 => ?_)
  · have hin : i < n := by have := of_decide_eq_true h2; omega
    conv => whnf
    refine CallC.sca _ (markText_fn (k + 3 * i) (by omega)) ?_ ?_
    · exact rfl
    refine And.intro (by omega) ?_
    refine And.intro (show inI .i64 (k + 3 * i + 1) from inI64 (by omega) (by omega)) ?_
    refine And.intro (by omega) ?_
    refine And.intro (show inI .i64 (k + 3 * i + 1 + 1) from inI64 (by omega) (by omega)) ?_
    conv => whnf
    refine CallC.sca _ (markText_fn (k + 3 * i + 1 + 1) (by omega)) ?_ ?_
    · exact rfl
    refine And.intro (by omega) ?_
    refine And.intro (show inI .i64 (k + 3 * i + 1 + 1 + 1) from inI64 (by omega) (by omega)) ?_
    refine And.intro (inI64 (by omega) (by omega)) ?_
    refine ⟨i + 1, hin, by omega, [(0, 0)], rfl, rfl, ⟨AVle.refl _, AVle.of_eq (congrArg (AV.int .i64) (show k + 3 * i + 1 + 1 + 1 = _ by simp; omega)), AVle.of_eq (congrArg (AV.int .i64) (by simp)), trivial⟩, ⟨MOle.arr rfl fun j hj => ?_, trivial⟩⟩
    by_cases hji : j = i
    · subst hji
      obtain ⟨a, b, c, e⟩ := hr j hin
      have hb : Nat.beq j ((j : Nat) : Int).toNat = true := beq_t j
      have e1 : wr (mkO k) rows j j = [a, b, c] := by rw [wr_ge (Nat.le_refl _)]; exact e
      simp only [hb, cond_true, e1]
      rw [wr_lt (Nat.lt_succ_self _)]
      unfold mkO
      generalize B (markT (k + 3 * ((j : Nat) : Int))) = m1
      generalize B (markT (k + 3 * ((j : Nat) : Int) + 1 + 1)) = m2
      rfl
    · have hb : Nat.beq j ((i : Nat) : Int).toNat = false := beq_f hji
      simp only [hb, cond_false]
      rcases Nat.lt_or_ge j i with h | h
      · rw [wr_lt h, wr_lt (by omega)]
      · rw [wr_ge h, wr_ge (by omega)]
  · have : i = n := by have := of_decide_eq_false h2; omega
    subst this
    exact And.intro trivial ⟨[(0, 0)], rfl, AVle.refl _, ⟨MOle.arr rfl fun j hj => wr_lt hj, trivial⟩⟩
theorem heldObjectS_fn (n : Nat) (hn : n ≤ 1048576) (k : Int) (hk : 0 ≤ k ∧ k ≤ 1000000000) : VFn Tryz.prog 72 [.sl 3 n (mkO k), .int .i64 k] (.int .i64 (k + 3 * n)) := by
  refine VFn.introC Tryz.call72 Tryz.func72 rfl rfl ?_
  refine LoopC.mk (fun i : Nat => i ≤ n) (fun i => [(0, .sl 3 n (mkO k)), (1, .int .i64 (k + 3 * i)), (5, .int .i64 i)]) (fun _ => []) 0 (fun i => n - i) 0
    ⟨Nat.zero_le _, [], rfl, rfl, ⟨AVle.refl _, AVle.of_eq (congrArg (AV.int .i64) (by simp)), AVle.refl _, trivial⟩, trivial⟩ ?_
  intro i hi
  refine Grd.intro (fun h2 => ?_) (fun h2 => ?_)
  · have hin : i < n := by have := of_decide_eq_true h2; omega
    refine DrawC.mk 8 rfl (by kernel_rfl) ?_
    refine And.intro (by omega) ?_
    refine PCallC.sca _ (markText_fn (k + 3 * i) (by omega)) rfl ?_
    refine Grd.intro (fun h => absurd h (by simp)) (fun _ => ?_)
    refine And.intro (show inI .i64 (k + 3 * i + 1) from inI64 (by omega) (by omega)) ?_
    refine And.intro (by omega) ?_
    refine Grd.intro (fun h => absurd h (by simp)) (fun _ => ?_)
    refine And.intro (show inI .i64 (k + 3 * i + 1 + 1) from inI64 (by omega) (by omega)) ?_
    refine DrawC.mk 8 rfl (by kernel_rfl) ?_
    refine And.intro (by omega) ?_
    refine PCallC.sca _ (markText_fn (k + 3 * i + 1 + 1) (by omega)) rfl ?_
    refine Grd.intro (fun h => absurd h (by simp)) (fun _ => ?_)
    refine And.intro (show inI .i64 (k + 3 * i + 1 + 1 + 1) from inI64 (by omega) (by omega)) ?_
    refine And.intro (inI64 (by omega) (by omega)) ?_
    exact ⟨i + 1, hin, by omega, [], rfl, rfl, ⟨AVle.refl _, AVle.of_eq (congrArg (AV.int .i64) (show k + 3 * i + 1 + 1 + 1 = _ by simp; omega)), AVle.of_eq (congrArg (AV.int .i64) (by simp)), trivial⟩, trivial⟩
  · have : i = n := by have := of_decide_eq_false h2; omega
    subst this
    exact And.intro trivial (AVle.refl _)
def stoN (s : Sto) : Nat := s.os.length + sumL Ob.size s.os
structure StoIn (s : Sto) : Prop where
  len : s.os.length ≤ 9223372036854775807
  sz : ∀ e ∈ s.os, e.key.length ≤ 9223372036854775807 ∧ e.data.length ≤ 9223372036854775807
  nxt : -9223372036854775808 ≤ s.next ∧ s.next ≤ 9223372036854775807
theorem szStore_fn (s : Sto) (h : StoIn s) : VFn Tryz.prog 15 [s.av, .int .i64 1048576] (.int .i64 (szr (stoN s) 1048576)) := by
  unfold stoN
  refine VFn.introC Tryz.call15 Tryz.func15 rfl rfl ?_
  conv => whnf
  refine CallC.sca _ (szObjectS_fn s.os 1048576 (by decide) (by decide) h.len h.sz) ?_ ?_
  · exact rfl
  by_cases f1 : ((s.os.length + sumL Ob.size s.os : Nat) : Int) ≤ 1048576
  · rw [szr_yes f1]
    refine Grd.intro (fun h2 => absurd (of_decide_eq_true h2) (by omega)) (fun _ => ?_)
    exact And.intro trivial (AVle.refl _)
  · rw [szr_no f1]
    exact And.intro trivial (AVle.refl _)
theorem Sto_small {s : Sto} (h : (stoN s : Int) ≤ 1048576) : s.os.length ≤ 1048576 ∧ (∀ e ∈ s.os, e.key.length ≤ 1048576) ∧ ∀ e ∈ s.os, e.data.length ≤ 1048576 := by
  unfold stoN at h
  refine ⟨by omega, fun e he => ?_, fun e he => ?_⟩
  all_goals
    have := sum_mem (f := Ob.size) he
    have e' : Ob.size e = e.key.length + e.data.length := rfl
    omega
theorem toStore_fn (s : Sto) (h1 : s.os.length ≤ 1048576) : VFn Tryz.prog 17 [s.av] s.av := by
  refine VFn.introC Tryz.call17 Tryz.func17 rfl rfl ?_
  conv => whnf
  refine CallC.nl _ (toObjectS_fn s.os h1) ?_ ?_
  · exact rfl
  exact And.intro trivial (AVle.refl _)
theorem toStore_own (s : Sto) (h1 : s.os.length ≤ 1048576) : FnM Tryz.prog 17 0 [s.av] [] s.own [(0, .arr 187 3 s.os.length fun i => (ix s.os i).row)] 1 := by
  refine FnM.introC Tryz.call17 Tryz.func17 rfl rfl ?_
  conv => whnf
  refine CallC.k [] (toObjectS_own s.os h1) rfl rfl (AVsle.refl _) trivial rfl ?_
  exact And.intro trivial ⟨[(3, 0)], rfl, AVle.refl _, ⟨MOle.refl _, trivial⟩⟩
theorem eqStore_fn (s : Sto) (h1 : s.os.length ≤ 1048576) : VFn Tryz.prog 19 [s.av, s.av] (.bool true) := by
  refine VFn.introC Tryz.call19 Tryz.func19 rfl rfl ?_
  conv => whnf
  refine CallC.sca _ (eqObjectS_fn s.os h1) ?_ ?_
  · exact rfl
  refine Grd.intro (fun h => absurd h (by simp)) (fun _ => ?_)
  exact And.intro trivial (AVle.refl _)
theorem markStore_fn (n : Nat) (rows : Nat → List AV) (nx : Int) (hr : ∀ i, i < n → ∃ a b c, rows i = [a, b, c]) (hn : n ≤ 1048576) (k : Int) (hk : 0 ≤ k ∧ k ≤ 1000000000) :
    FnM Tryz.prog 20 1 [.agg [.osl 0, .int .i64 nx], .int .i64 k] [(0, .arr 187 3 n rows)] (.int .i64 (k + 3 * n)) [(0, .arr 187 3 n (mkO k))] 1 := by
  refine FnM.introC Tryz.call20 Tryz.func20 rfl rfl ?_
  conv => whnf
  refine CallC.k [(0, 0)] (markObjectS_fn n rows hr hn k hk) rfl rfl (AVsle.refl _) ⟨MOle.refl _, trivial⟩ rfl ?_
  exact And.intro trivial ⟨[(0, 0)], rfl, AVle.refl _, ⟨MOle.refl _, trivial⟩⟩
theorem heldStore_fn (n : Nat) (nx : Int) (hn : n ≤ 1048576) (k : Int) (hk : 0 ≤ k ∧ k ≤ 1000000000) : VFn Tryz.prog 21 [.agg [.sl 3 n (mkO k), .int .i64 nx], .int .i64 k] (.int .i64 (k + 3 * n)) := by
  refine VFn.introC Tryz.call21 Tryz.func21 rfl rfl ?_
  conv => whnf
  refine CallC.sca _ (heldObjectS_fn n hn k hk) ?_ ?_
  · exact rfl
  refine Grd.intro (fun h2 => absurd (of_decide_eq_true h2) (by omega)) (fun _ => ?_)
  exact And.intro trivial (AVle.refl _)
/-- no store -/
def sto0 : AV := .agg [.nilsl, .int .i64 0]
theorem eqStore0_fn : VFn Tryz.prog 19 [sto0, sto0] (.bool true) := by
  have c : VFn Tryz.prog 70 [.nilsl, .nilsl] (.bool true) := by
    refine VFn.introC Tryz.call70 Tryz.func70 rfl rfl ?_
    refine LoopC.rounds 1 ?_
    exact And.intro trivial (AVle.refl _)
  refine VFn.introC Tryz.call19 Tryz.func19 rfl rfl ?_
  conv => whnf
  refine CallC.sca _ (c) ?_ ?_
  · exact rfl
  exact And.intro trivial (AVle.refl _)
theorem markStore0_fn (k : Int) : VFn Tryz.prog 20 [sto0, .int .i64 k] (.int .i64 k) := by
  have c : VFn Tryz.prog 71 [.nilsl, .int .i64 k] (.int .i64 k) := by
    refine VFn.introC Tryz.call71 Tryz.func71 rfl rfl ?_
    refine LoopC.rounds 1 ?_
    exact And.intro trivial (AVle.refl _)
  refine VFn.introC Tryz.call20 Tryz.func20 rfl rfl ?_
  conv => whnf
  refine CallC.sca _ (c) ?_ ?_
  · exact rfl
  exact And.intro trivial (AVle.refl _)
theorem heldStore0_fn : VFn Tryz.prog 21 [sto0, .int .i64 1] (.int .i64 1) := by
  have c : VFn Tryz.prog 72 [.nilsl, .int .i64 1] (.int .i64 1) := by
    refine VFn.introC Tryz.call72 Tryz.func72 rfl rfl ?_
    refine LoopC.rounds 1 ?_
    exact And.intro trivial (AVle.refl _)
  refine VFn.introC Tryz.call21 Tryz.func21 rfl rfl ?_
  conv => whnf
  refine CallC.sca _ (c) ?_ ?_
  · exact rfl
  exact And.intro trivial (AVle.refl _)
end Go.Proofs.YtpfmfdioonjccaaGreatDoor
