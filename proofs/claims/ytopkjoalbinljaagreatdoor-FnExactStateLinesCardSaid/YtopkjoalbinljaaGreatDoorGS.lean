/- States, handed over and compared: contracts; the conditions are the theorems' own. -/
import Derived.Test.YtopkjoalbinljaaGreatDoorGQ
import Derived.Test.YtopkjoalbinljaaGreatDoorV33
set_option linter.unusedVariables false
set_option linter.unusedSimpArgs false
set_option maxRecDepth 20000
namespace Go.Proofs.YtopkjoalbinljaaGreatDoor
open Go Go.Vw

def En.size (e : En) : Nat := e.key.length
def Tb.size (e : Tb) : Nat := e.key.length
theorem szEntry_fn (e : En) (n : Int) (h0 : 0 ≤ n) (h1 : n ≤ 1048576) (hk : En.size e ≤ 9223372036854775807) : VFn Tryz.prog 130 [e.av, .int .i64 n] (.int .i64 (szr (En.size e) n)) := by
  have hk' : e.key.length ≤ 9223372036854775807 := hk
  refine VFn.introC Tryz.call130 Tryz.func130 rfl rfl ?_
  refine And.intro (show inI .i64 (n - ((B e.key).size : Int)) by rw [B_size]; exact inI64 (by omega) (by omega)) ?_
  refine Grd.intro (fun h2 => ?_) (fun h2 => ?_)
  · have h2 : n - ((B e.key).size : Int) < 0 := of_decide_eq_true h2
    rw [B_size] at h2
    rw [szr_no (k := En.size e) (show ¬ ((e.key.length : Nat) : Int) ≤ n by omega)]
    exact And.intro trivial (AVle.refl _)
  · have h2 : ¬ n - ((B e.key).size : Int) < 0 := of_decide_eq_false h2
    rw [B_size] at h2
    rw [szr_yes (k := En.size e) (show ((e.key.length : Nat) : Int) ≤ n by omega)]
    exact And.intro trivial (AVle.of_eq (congrArg (AV.int .i64) (show n - ((B e.key).size : Int) = _ by rw [B_size]; rfl)))
theorem toEntry_fn (e : En) : VFn Tryz.prog 133 [e.av] e.av := by
  refine VFn.introC Tryz.call133 Tryz.func133 rfl rfl ?_
  exact And.intro trivial (AVle.refl _)
theorem eqEntry_fn (e : En) : VFn Tryz.prog 136 [e.av, e.av] (.bool true) := by
  refine VFn.introC Tryz.call136 Tryz.func136 rfl rfl ?_
  refine Grd.intro (fun h => absurd h (by simp)) (fun _ => ?_)
  refine Grd.intro (fun h => absurd h (by simp)) (fun _ => ?_)
  refine Grd.intro (fun h => absurd h (by simp)) (fun _ => ?_)
  refine Grd.intro (fun h => absurd h (by simp)) (fun _ => ?_)
  exact And.intro trivial (AVle.refl _)
theorem szTomb_fn (e : Tb) (n : Int) (h0 : 0 ≤ n) (h1 : n ≤ 1048576) (hk : Tb.size e ≤ 9223372036854775807) : VFn Tryz.prog 131 [e.av, .int .i64 n] (.int .i64 (szr (Tb.size e) n)) := by
  have hk' : e.key.length ≤ 9223372036854775807 := hk
  refine VFn.introC Tryz.call131 Tryz.func131 rfl rfl ?_
  refine And.intro (show inI .i64 (n - ((B e.key).size : Int)) by rw [B_size]; exact inI64 (by omega) (by omega)) ?_
  refine Grd.intro (fun h2 => ?_) (fun h2 => ?_)
  · have h2 : n - ((B e.key).size : Int) < 0 := of_decide_eq_true h2
    rw [B_size] at h2
    rw [szr_no (k := Tb.size e) (show ¬ ((e.key.length : Nat) : Int) ≤ n by omega)]
    exact And.intro trivial (AVle.refl _)
  · have h2 : ¬ n - ((B e.key).size : Int) < 0 := of_decide_eq_false h2
    rw [B_size] at h2
    rw [szr_yes (k := Tb.size e) (show ((e.key.length : Nat) : Int) ≤ n by omega)]
    exact And.intro trivial (AVle.of_eq (congrArg (AV.int .i64) (show n - ((B e.key).size : Int) = _ by rw [B_size]; rfl)))
theorem toTomb_fn (e : Tb) : VFn Tryz.prog 134 [e.av] e.av := by
  refine VFn.introC Tryz.call134 Tryz.func134 rfl rfl ?_
  exact And.intro trivial (AVle.refl _)
theorem eqTomb_fn (e : Tb) : VFn Tryz.prog 137 [e.av, e.av] (.bool true) := by
  refine VFn.introC Tryz.call137 Tryz.func137 rfl rfl ?_
  refine Grd.intro (fun h => absurd h (by simp)) (fun _ => ?_)
  refine Grd.intro (fun h => absurd h (by simp)) (fun _ => ?_)
  exact And.intro trivial (AVle.refl _)
theorem szEntryS_fn (L : List En) (n : Int) (h0 : 0 ≤ n) (h1 : n ≤ 1048576) (hL : L.length ≤ 9223372036854775807) (hk : ∀ e ∈ L, En.size e ≤ 9223372036854775807) : VFn Tryz.prog 77 [ents L, .int .i64 n] (.int .i64 (szr (L.length + sumL En.size L) n)) := by
  refine VFn.introC Tryz.call77 Tryz.func77 rfl rfl ?_
  refine And.intro (inI64 (by omega) (by omega)) ?_
  refine Grd.intro (fun h2 => ?_) (fun h2 => ?_)
  · have h2 : n - (L.length : Int) < 0 := of_decide_eq_true h2
    rw [szr_no (by omega)]
    exact And.intro trivial (AVle.refl _)
  have h2 : ¬ n - (L.length : Int) < 0 := of_decide_eq_false h2
  refine LoopC.mk (fun i : Nat => i ≤ L.length ∧ ((L.length + sumL En.size (L.take i) : Nat) : Int) ≤ n) (fun i => [(0, ents L), (1, .int .i64 (n - ((L.length + sumL En.size (L.take i) : Nat) : Int))), (5, .int .i64 i)]) (fun _ => []) 0 (fun i => L.length - i) 0
    ⟨⟨Nat.zero_le _, by simp [sumL]; omega⟩, [], rfl, rfl, ⟨AVle.refl _, AVle.of_eq (congrArg (AV.int .i64) (by simp [sumL])), AVle.refl _, trivial⟩, trivial⟩ ?_
  intro i hi
  obtain ⟨hi, hs⟩ := hi
  refine Grd.intro (fun h3 => ?_) (fun h3 => ?_)
  · have hin : i < L.length := by have := of_decide_eq_true h3; omega
    have hsn := sum_snoc (f := En.size) hin
    have hle := sum_take_le (f := En.size) (L := L) (k := L.length - (i + 1)) (i := i + 1) (by omega)
    refine And.intro (by omega) ?_
    conv => whnf
    refine CallC.sca _ (szEntry_fn (ix L i) (n - ((L.length + sumL En.size (L.take i) : Nat) : Int)) (by omega) (by omega) (hk _ (getD_mem hin))) ?_ ?_
    · exact rfl
    by_cases hfit : ((En.size (ix L i) : Nat) : Int) ≤ n - ((L.length + sumL En.size (L.take i) : Nat) : Int)
    · rw [szr_yes hfit]
      refine Grd.intro (fun h4 => absurd (of_decide_eq_true h4) (by omega)) (fun _ => ?_)
      refine And.intro (inI64 (by omega) (by omega)) ?_
      exact ⟨i + 1, ⟨hin, by omega⟩, by omega, [], rfl, rfl, ⟨AVle.refl _, AVle.of_eq (congrArg (AV.int .i64) (by omega)), AVle.of_eq (congrArg (AV.int .i64) (by simp)), trivial⟩, trivial⟩
    · rw [szr_no hfit, szr_no (by omega)]
      exact And.intro trivial (AVle.refl _)
  · have : i = L.length := by have := of_decide_eq_false h3; omega
    subst this
    have e : L.take L.length = L := List.take_of_length_le (Nat.le_refl _)
    have hs' := hs
    rw [e] at hs'
    rw [szr_yes hs']
    exact And.intro trivial (AVle.of_eq (congrArg (AV.int .i64) (show n - ((L.length + sumL En.size (L.take L.length) : Nat) : Int) = _ by rw [e])))
theorem toEntryS_fn (L : List En) (hL : L.length ≤ 1048576) : VFn Tryz.prog 80 [ents L] (ents L) := by
  refine VFn.introC Tryz.call80 Tryz.func80 rfl rfl ?_
  refine And.intro ⟨by omega, rfl, (show (40 : Int) * L.length ≤ 140737488355328 by omega), by omega⟩ ?_
  refine LoopC.mk (fun i : Nat => i ≤ L.length) (fun i => [(0, ents L), (3, .osl 0), (4, .int .i64 i)])
    (fun i => [(0, .arr 33 4 L.length (wr (fun i => (ix L i).row) (fun _ => (default : En).row) i))]) 1 (fun i => L.length - i) 0
    ⟨Nat.zero_le _, [(0, 0)], rfl, rfl, ⟨AVle.refl _, AVle.refl _, AVle.refl _, trivial⟩, ⟨MOle.arr rfl fun i hi => by rw [wr_ge (Nat.zero_le i)]; rfl, trivial⟩⟩ ?_
  intro i hi
  refine Grd.intro (fun h2 => ?_) (fun h2 => ?_)
  · have hin : i < L.length := by have := of_decide_eq_true h2; omega
    refine And.intro (by omega) ?_
    conv => whnf
    refine CallC.sca _ (toEntry_fn (ix L i)) ?_ ?_
    · exact rfl
    refine And.intro (by omega) ?_
    refine And.intro (inI64 (by omega) (by omega)) ?_
    exact ⟨i + 1, hin, by omega, [(0, 0)], rfl, rfl, ⟨AVle.refl _, AVle.refl _, AVle.of_eq (congrArg (AV.int .i64) (by simp)), trivial⟩, ⟨MOle.arr rfl fun k hk => wr_next fun e => by subst e; rw [wr_ge (Nat.le_refl _)]; rfl, trivial⟩⟩
  · have : i = L.length := by have := of_decide_eq_false h2; omega
    subst this
    exact And.intro trivial (AVle.sl rfl fun k hk => wr_lt hk)
theorem eqEntryS_fn (L : List En) (hL : L.length ≤ 1048576) : VFn Tryz.prog 84 [ents L, ents L] (.bool true) := by
  refine VFn.introC Tryz.call84 Tryz.func84 rfl rfl ?_
  refine Grd.intro (fun h => absurd h (by simp)) (fun _ => ?_)
  refine LoopC.mk (fun i : Nat => i ≤ L.length) (fun i => [(0, ents L), (1, ents L), (5, .int .i64 i)]) (fun _ => []) 0 (fun i => L.length - i) 0
    ⟨Nat.zero_le _, [], rfl, rfl, ⟨AVle.refl _, AVle.refl _, AVle.refl _, trivial⟩, trivial⟩ ?_
  intro i hi
  refine Grd.intro (fun h2 => ?_) (fun h2 => ?_)
  · have hin : i < L.length := by have := of_decide_eq_true h2; omega
    refine DrawC.mk 10 rfl (by kernel_rfl) ?_
    refine And.intro (by omega) ?_
    refine And.intro (by omega) ?_
    refine PCallC.sca _ (eqEntry_fn (ix L i)) rfl ?_
    refine And.intro (inI64 (by omega) (by omega)) ?_
    exact ⟨i + 1, hin, by omega, [], rfl, rfl, ⟨AVle.refl _, AVle.refl _, AVle.of_eq (congrArg (AV.int .i64) (by simp)), trivial⟩, trivial⟩
  · exact And.intro trivial (AVle.refl _)
theorem szTombS_fn (L : List Tb) (n : Int) (h0 : 0 ≤ n) (h1 : n ≤ 1048576) (hL : L.length ≤ 9223372036854775807) (hk : ∀ e ∈ L, Tb.size e ≤ 9223372036854775807) : VFn Tryz.prog 78 [tbs L, .int .i64 n] (.int .i64 (szr (L.length + sumL Tb.size L) n)) := by
  refine VFn.introC Tryz.call78 Tryz.func78 rfl rfl ?_
  refine And.intro (inI64 (by omega) (by omega)) ?_
  refine Grd.intro (fun h2 => ?_) (fun h2 => ?_)
  · have h2 : n - (L.length : Int) < 0 := of_decide_eq_true h2
    rw [szr_no (by omega)]
    exact And.intro trivial (AVle.refl _)
  have h2 : ¬ n - (L.length : Int) < 0 := of_decide_eq_false h2
  refine LoopC.mk (fun i : Nat => i ≤ L.length ∧ ((L.length + sumL Tb.size (L.take i) : Nat) : Int) ≤ n) (fun i => [(0, tbs L), (1, .int .i64 (n - ((L.length + sumL Tb.size (L.take i) : Nat) : Int))), (5, .int .i64 i)]) (fun _ => []) 0 (fun i => L.length - i) 0
    ⟨⟨Nat.zero_le _, by simp [sumL]; omega⟩, [], rfl, rfl, ⟨AVle.refl _, AVle.of_eq (congrArg (AV.int .i64) (by simp [sumL])), AVle.refl _, trivial⟩, trivial⟩ ?_
  intro i hi
  obtain ⟨hi, hs⟩ := hi
  refine Grd.intro (fun h3 => ?_) (fun h3 => ?_)
  · have hin : i < L.length := by have := of_decide_eq_true h3; omega
    have hsn := sum_snoc (f := Tb.size) hin
    have hle := sum_take_le (f := Tb.size) (L := L) (k := L.length - (i + 1)) (i := i + 1) (by omega)
    refine And.intro (by omega) ?_
    conv => whnf
    refine CallC.sca _ (szTomb_fn (ix L i) (n - ((L.length + sumL Tb.size (L.take i) : Nat) : Int)) (by omega) (by omega) (hk _ (getD_mem hin))) ?_ ?_
    · exact rfl
    by_cases hfit : ((Tb.size (ix L i) : Nat) : Int) ≤ n - ((L.length + sumL Tb.size (L.take i) : Nat) : Int)
    · rw [szr_yes hfit]
      refine Grd.intro (fun h4 => absurd (of_decide_eq_true h4) (by omega)) (fun _ => ?_)
      refine And.intro (inI64 (by omega) (by omega)) ?_
      exact ⟨i + 1, ⟨hin, by omega⟩, by omega, [], rfl, rfl, ⟨AVle.refl _, AVle.of_eq (congrArg (AV.int .i64) (by omega)), AVle.of_eq (congrArg (AV.int .i64) (by simp)), trivial⟩, trivial⟩
    · rw [szr_no hfit, szr_no (by omega)]
      exact And.intro trivial (AVle.refl _)
  · have : i = L.length := by have := of_decide_eq_false h3; omega
    subst this
    have e : L.take L.length = L := List.take_of_length_le (Nat.le_refl _)
    have hs' := hs
    rw [e] at hs'
    rw [szr_yes hs']
    exact And.intro trivial (AVle.of_eq (congrArg (AV.int .i64) (show n - ((L.length + sumL Tb.size (L.take L.length) : Nat) : Int) = _ by rw [e])))
theorem toTombS_fn (L : List Tb) (hL : L.length ≤ 1048576) : VFn Tryz.prog 81 [tbs L] (tbs L) := by
  refine VFn.introC Tryz.call81 Tryz.func81 rfl rfl ?_
  refine And.intro ⟨by omega, rfl, (show (24 : Int) * L.length ≤ 140737488355328 by omega), by omega⟩ ?_
  refine LoopC.mk (fun i : Nat => i ≤ L.length) (fun i => [(0, tbs L), (3, .osl 0), (4, .int .i64 i)])
    (fun i => [(0, .arr 104 2 L.length (wr (fun i => (ix L i).row) (fun _ => (default : Tb).row) i))]) 1 (fun i => L.length - i) 0
    ⟨Nat.zero_le _, [(0, 0)], rfl, rfl, ⟨AVle.refl _, AVle.refl _, AVle.refl _, trivial⟩, ⟨MOle.arr rfl fun i hi => by rw [wr_ge (Nat.zero_le i)]; rfl, trivial⟩⟩ ?_
  intro i hi
  refine Grd.intro (fun h2 => ?_) (fun h2 => ?_)
  · have hin : i < L.length := by have := of_decide_eq_true h2; omega
    refine And.intro (by omega) ?_
    conv => whnf
    refine CallC.sca _ (toTomb_fn (ix L i)) ?_ ?_
    · exact rfl
    refine And.intro (by omega) ?_
    refine And.intro (inI64 (by omega) (by omega)) ?_
    exact ⟨i + 1, hin, by omega, [(0, 0)], rfl, rfl, ⟨AVle.refl _, AVle.refl _, AVle.of_eq (congrArg (AV.int .i64) (by simp)), trivial⟩, ⟨MOle.arr rfl fun k hk => wr_next fun e => by subst e; rw [wr_ge (Nat.le_refl _)]; rfl, trivial⟩⟩
  · have : i = L.length := by have := of_decide_eq_false h2; omega
    subst this
    exact And.intro trivial (AVle.sl rfl fun k hk => wr_lt hk)
theorem eqTombS_fn (L : List Tb) (hL : L.length ≤ 1048576) : VFn Tryz.prog 85 [tbs L, tbs L] (.bool true) := by
  refine VFn.introC Tryz.call85 Tryz.func85 rfl rfl ?_
  refine Grd.intro (fun h => absurd h (by simp)) (fun _ => ?_)
  refine LoopC.mk (fun i : Nat => i ≤ L.length) (fun i => [(0, tbs L), (1, tbs L), (5, .int .i64 i)]) (fun _ => []) 0 (fun i => L.length - i) 0
    ⟨Nat.zero_le _, [], rfl, rfl, ⟨AVle.refl _, AVle.refl _, AVle.refl _, trivial⟩, trivial⟩ ?_
  intro i hi
  refine Grd.intro (fun h2 => ?_) (fun h2 => ?_)
  · have hin : i < L.length := by have := of_decide_eq_true h2; omega
    refine DrawC.mk 10 rfl (by kernel_rfl) ?_
    refine And.intro (by omega) ?_
    refine And.intro (by omega) ?_
    refine PCallC.sca _ (eqTomb_fn (ix L i)) rfl ?_
    refine And.intro (inI64 (by omega) (by omega)) ?_
    exact ⟨i + 1, hin, by omega, [], rfl, rfl, ⟨AVle.refl _, AVle.refl _, AVle.of_eq (congrArg (AV.int .i64) (by simp)), trivial⟩, trivial⟩
  · exact And.intro trivial (AVle.refl _)
theorem toIntA3_fn (a b c : Int) : VFn Tryz.prog 82 [.agg [.int .i64 a, .int .i64 b, .int .i64 c]] (.agg [.int .i64 a, .int .i64 b, .int .i64 c]) := by
  refine VFn.introC Tryz.call82 Tryz.func82 rfl rfl ?_
  refine LoopC.rounds 4 ?_
  iterate 3 (refine And.intro ⟨by omega, by first | (show (0 : Int) < ((3 : Nat) : Int); omega) | (show (1 : Int) < ((3 : Nat) : Int); omega) | (show (2 : Int) < ((3 : Nat) : Int); omega)⟩ ?_; refine And.intro ⟨by omega, by first | (show (0 : Int) < ((3 : Nat) : Int); omega) | (show (1 : Int) < ((3 : Nat) : Int); omega) | (show (2 : Int) < ((3 : Nat) : Int); omega)⟩ ?_; refine And.intro (inI64 (by omega) (by omega)) ?_)
  exact And.intro trivial (AVle.refl _)
theorem eqIntA3_fn (a b c : Int) : VFn Tryz.prog 86 [.agg [.int .i64 a, .int .i64 b, .int .i64 c], .agg [.int .i64 a, .int .i64 b, .int .i64 c]] (.bool true) := by
  refine VFn.introC Tryz.call86 Tryz.func86 rfl rfl ?_
  refine LoopC.rounds 4 ?_
  iterate 3 (refine DrawC.mk 7 rfl (by kernel_rfl) ?_; refine And.intro ⟨by omega, by first | (show (0 : Int) < ((3 : Nat) : Int); omega) | (show (1 : Int) < ((3 : Nat) : Int); omega) | (show (2 : Int) < ((3 : Nat) : Int); omega)⟩ ?_; refine And.intro ⟨by omega, by first | (show (0 : Int) < ((3 : Nat) : Int); omega) | (show (1 : Int) < ((3 : Nat) : Int); omega) | (show (2 : Int) < ((3 : Nat) : Int); omega)⟩ ?_; refine Grd.intro (fun h => absurd h (by simp)) (fun _ => ?_); refine And.intro (inI64 (by omega) (by omega)) ?_)
  exact And.intro trivial (AVle.refl _)
def Sta.size (s : Sta) : Nat := (s.es.length + sumL En.size s.es) + (s.ts.length + sumL Tb.size s.ts)
/-- what is read of a state -/
def Sta.read (s : Sta) : Prop := s.es.length ≤ 9223372036854775807 ∧ s.ts.length ≤ 9223372036854775807 ∧ (∀ e ∈ s.es, e.size ≤ 9223372036854775807) ∧ ∀ e ∈ s.ts, e.size ≤ 9223372036854775807
theorem szState_fn (s : Sta) (n : Int) (h0 : 0 ≤ n) (h1 : n ≤ 1048576) (h : s.read) : VFn Tryz.prog 26 [s.av, .int .i64 n] (.int .i64 (szr s.size n)) := by
  obtain ⟨a1, a2, a3, a4⟩ := h
  have e : s.size = (s.es.length + sumL En.size s.es) + (s.ts.length + sumL Tb.size s.ts) := rfl
  refine VFn.introC Tryz.call26 Tryz.func26 rfl rfl ?_
  conv => whnf
  refine CallC.sca _ (szEntryS_fn s.es n h0 h1 a1 a3) ?_ ?_
  · exact rfl
  by_cases f1 : ((s.es.length + sumL En.size s.es : Nat) : Int) ≤ n
  · rw [szr_yes f1]
    refine Grd.intro (fun h2 => absurd (of_decide_eq_true h2) (by omega)) (fun _ => ?_)
    conv => whnf
    refine CallC.sca _ (szTombS_fn s.ts (n - ((s.es.length + sumL En.size s.es : Nat) : Int)) (by omega) (by omega) a2 a4) ?_ ?_
    · exact rfl
    by_cases f2 : ((s.ts.length + sumL Tb.size s.ts : Nat) : Int) ≤ n - ((s.es.length + sumL En.size s.es : Nat) : Int)
    · rw [szr_yes f2, szr_yes (by omega)]
      refine Grd.intro (fun h2 => absurd (of_decide_eq_true h2) (by omega)) (fun _ => ?_)
      exact And.intro trivial (AVle.of_eq (congrArg (AV.int .i64) (by omega)))
    · rw [szr_no f2, szr_no (by omega)]
      exact And.intro trivial (AVle.refl _)
  · rw [szr_no f1, szr_no (by omega)]
    exact And.intro trivial (AVle.refl _)
theorem Sta.small {s : Sta} (h : (s.size : Int) ≤ 1048576) : s.es.length ≤ 1048576 ∧ s.ts.length ≤ 1048576 ∧ (∀ e ∈ s.es, e.key.length ≤ 1048576) ∧ ∀ e ∈ s.ts, e.key.length ≤ 1048576 := by
  unfold Sta.size at h
  refine ⟨by omega, by omega, fun e he => ?_, fun e he => ?_⟩
  · have := sum_mem (f := En.size) he
    have e' : e.size = e.key.length := rfl
    omega
  · have := sum_mem (f := Tb.size) he
    have e' : e.size = e.key.length := rfl
    omega
theorem toState_fn (s : Sta) (h1 : s.es.length ≤ 1048576) (h2 : s.ts.length ≤ 1048576) : VFn Tryz.prog 28 [s.av] s.av := by
  refine VFn.introC Tryz.call28 Tryz.func28 rfl rfl ?_
  conv => whnf
  refine CallC.nl _ (toEntryS_fn s.es h1) ?_ ?_
  · exact rfl
  conv => whnf
  refine CallC.nl _ (toTombS_fn s.ts h2) ?_ ?_
  · exact rfl
  conv => whnf
  refine CallC.sca _ (toIntA3_fn s.l0 s.l1 s.l2) ?_ ?_
  · exact rfl
  conv => whnf
  refine CallC.sca _ (toIntA3_fn s.h0 s.h1 s.h2) ?_ ?_
  · exact rfl
  exact And.intro trivial (AVle.refl _)
theorem eqState_fn (s : Sta) (h1 : s.es.length ≤ 1048576) (h2 : s.ts.length ≤ 1048576) : VFn Tryz.prog 31 [s.av, s.av] (.bool true) := by
  refine VFn.introC Tryz.call31 Tryz.func31 rfl rfl ?_
  refine Grd.intro (fun h => absurd h (by simp)) (fun _ => ?_)
  refine Grd.intro (fun h => absurd h (by simp)) (fun _ => ?_)
  conv => whnf
  refine CallC.sca _ (eqEntryS_fn s.es h1) ?_ ?_
  · exact rfl
  conv => whnf
  refine CallC.sca _ (eqTombS_fn s.ts h2) ?_ ?_
  · exact rfl
  conv => whnf
  refine CallC.sca _ (eqIntA3_fn s.l0 s.l1 s.l2) ?_ ?_
  · exact rfl
  conv => whnf
  refine CallC.sca _ (eqIntA3_fn s.h0 s.h1 s.h2) ?_ ?_
  · exact rfl
  exact And.intro trivial (AVle.refl _)
end Go.Proofs.YtopkjoalbinljaaGreatDoor
