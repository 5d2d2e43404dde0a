/- Contracts of functions that the claim reaches, and the plain law of what they compute; each theorem bears its own conditions. -/
import Derived.Test.YtopfpmcakoeloaaGreatDoorQ9
import Derived.Test.YtopfpmcakoeloaaGreatDoorQ4
set_option linter.unusedVariables false
set_option linter.constructorNameAsVariable false
set_option linter.unusedSimpArgs false
set_option maxRecDepth 20000
namespace Go.Proofs.YtopfpmcakoeloaaGreatDoor
open Go Go.Vw

def mkS (k : Int) (i : Nat) : List AV := [.int .i64 (k + 2 * i), .int .i64 (k + 2 * i + 1)]
theorem markSampleS_fn (n : Nat) (rows : Nat → List AV) (hr : ∀ i, i < n → ∃ a b, rows i = [a, b]) (hn : n ≤ 1048576) (k : Int) (hk : 0 ≤ k ∧ k ≤ 1000000000) :
    FnM Tryz.prog 41 1 [.osl 0, .int .i64 k] [(0, .arr 74 2 n rows)] (.int .i64 (k + 2 * n)) [(0, .arr 74 2 n (mkS k))] 1 := by
  refine FnM.introC Tryz.call41 Tryz.func41 rfl rfl ?_
  refine LoopC.mk (fun i : Nat => i ≤ n) (fun i => [(0, .osl 0), (1, .int .i64 (k + 2 * i)), (5, .int .i64 i)]) (fun i => [(0, .arr 74 2 n (wr (mkS k) rows i))]) 1 (fun i => n - i) 0
    ⟨Nat.zero_le _, [(0, 0)], rfl, rfl, ⟨AVle.refl _, AVle.of_eq (congrArg (AV.int .i64) (by simp)), AVle.refl _, trivial⟩, ⟨MOle.arr rfl fun i hi => by rw [wr_ge (Nat.zero_le i)], trivial⟩⟩ ?_
  intro i hi
  refine Grd.intro (fun h2 => ?_) (fun h2 => ?_)
  · have hin : i < n := by have := of_decide_eq_true h2; omega
    refine And.intro (by omega) ?_
    refine And.intro (show inI .i64 (k + 2 * i + 1) from inI64 (by omega) (by omega)) ?_
    refine And.intro (by omega) ?_
    refine And.intro (show inI .i64 (k + 2 * i + 1 + 1) from inI64 (by omega) (by omega)) ?_
    refine And.intro (inI64 (by omega) (by omega)) ?_
    refine ⟨i + 1, hin, by omega, [(0, 0)], rfl, rfl, ⟨AVle.refl _, AVle.of_eq (congrArg (AV.int .i64) (show k + 2 * i + 1 + 1 = _ by simp; omega)), AVle.of_eq (congrArg (AV.int .i64) (by simp)), trivial⟩, ⟨MOle.arr rfl fun j hj => ?_, trivial⟩⟩
    by_cases hji : j = i
    · subst hji
      obtain ⟨a, b, e⟩ := hr j hin
      have hb : Nat.beq j ((j : Nat) : Int).toNat = true := beq_t j
      have e1 : wr (mkS k) rows j j = [a, b] := by rw [wr_ge (Nat.le_refl _)]; exact e
      simp only [hb, cond_true, e1]
      rw [wr_lt (Nat.lt_succ_self _)]
      rfl
    · have hb : Nat.beq j ((i : Nat) : Int).toNat = false := beq_f hji
      simp only [hb, cond_false]
      rcases Nat.lt_or_ge j i with h | h
      · rw [wr_lt h, wr_lt (by omega)]
      · rw [wr_ge h, wr_ge (by omega)]
  · have : i = n := by have := of_decide_eq_false h2; omega
    subst this
    exact And.intro trivial ⟨[(0, 0)], rfl, AVle.refl _, ⟨MOle.arr rfl fun j hj => wr_lt hj, trivial⟩⟩
theorem heldSampleS_fn (n : Nat) (hn : n ≤ 1048576) (k : Int) (hk : 0 ≤ k ∧ k ≤ 1000000000) : VFn Tryz.prog 43 [.sl 2 n (mkS k), .int .i64 k] (.int .i64 (k + 2 * n)) := by
  refine VFn.introC Tryz.call43 Tryz.func43 rfl rfl ?_
  refine LoopC.mk (fun i : Nat => i ≤ n) (fun i => [(0, .sl 2 n (mkS k)), (1, .int .i64 (k + 2 * i)), (5, .int .i64 i)]) (fun _ => []) 0 (fun i => n - i) 0
    ⟨Nat.zero_le _, [], rfl, rfl, ⟨AVle.refl _, AVle.of_eq (congrArg (AV.int .i64) (by simp)), AVle.refl _, trivial⟩, trivial⟩ ?_
  intro i hi
  refine Grd.intro (fun h2 => ?_) (fun h2 => ?_)
  · have hin : i < n := by have := of_decide_eq_true h2; omega
    refine And.intro (by omega) ?_
    refine Grd.intro (fun h => absurd h (by simp)) (fun _ => ?_)
    refine And.intro (show inI .i64 (k + 2 * i + 1) from inI64 (by omega) (by omega)) ?_
    refine And.intro (by omega) ?_
    refine Grd.intro (fun h => absurd h (by simp)) (fun _ => ?_)
    refine And.intro (show inI .i64 (k + 2 * i + 1 + 1) from inI64 (by omega) (by omega)) ?_
    refine And.intro (inI64 (by omega) (by omega)) ?_
    exact ⟨i + 1, hin, by omega, [], rfl, rfl, ⟨AVle.refl _, AVle.of_eq (congrArg (AV.int .i64) (show k + 2 * i + 1 + 1 = _ by simp; omega)), AVle.of_eq (congrArg (AV.int .i64) (by simp)), trivial⟩, trivial⟩
  · have : i = n := by have := of_decide_eq_false h2; omega
    subst this
    exact And.intro trivial (AVle.refl _)
def Ig.own (g : Ig) (m : Nat) : AV := .agg [.int .i64 g.id, .int .i64 g.seq, .int .i64 g.f, .int .i64 g.t, .osl m, .bool g.put]
theorem markIngester_fn (g : Ig) (n : Nat) (rows : Nat → List AV) (hr : ∀ i, i < n → ∃ a b, rows i = [a, b]) (hn : n ≤ 1048576) (k : Int) (hk : 0 ≤ k ∧ k ≤ 1000000000) :
    FnM Tryz.prog 14 1 [g.own 0, .int .i64 k] [(0, .arr 74 2 n rows)] (.int .i64 (k + 2 * n)) [(0, .arr 74 2 n (mkS k))] 1 := by
  refine FnM.introC Tryz.call14 Tryz.func14 rfl rfl ?_
  conv => whnf
  refine CallC.k [(0, 0)] (markSampleS_fn n rows hr hn k hk) rfl rfl (AVsle.refl _) ⟨MOle.refl _, trivial⟩ rfl ?_
  exact And.intro trivial ⟨[(0, 0)], rfl, AVle.refl _, ⟨MOle.refl _, trivial⟩⟩
theorem heldIngester_fn (g : Ig) (n : Nat) (hn : n ≤ 1048576) (k : Int) (hk : 0 ≤ k ∧ k ≤ 1000000000) : VFn Tryz.prog 16 [.agg [.int .i64 g.id, .int .i64 g.seq, .int .i64 g.f, .int .i64 g.t, .sl 2 n (mkS k), .bool g.put], .int .i64 k] (.int .i64 (k + 2 * n)) := by
  refine VFn.introC Tryz.call16 Tryz.func16 rfl rfl ?_
  conv => whnf
  refine CallC.sca _ (heldSampleS_fn n hn k hk) ?_ ?_
  · exact rfl
  refine Grd.intro (fun h => absurd (of_decide_eq_true h) (by omega)) (fun _ => ?_)
  exact And.intro trivial (AVle.refl _)
theorem toSampleS_own (L : List Smp) (hL : L.length ≤ 1048576) : FnM Tryz.prog 33 0 [smps L] [] (.osl 0) [(0, .arr 74 2 L.length fun i => (ix L i).row)] 1 := by
  refine FnM.introC Tryz.call33 Tryz.func33 rfl rfl ?_
  refine And.intro ⟨by omega, rfl, (show (16 : Int) * L.length ≤ 140737488355328 by omega), by omega⟩ ?_
  refine LoopC.mk (fun i : Nat => i ≤ L.length) (fun i => [(0, smps L), (3, .osl 0), (4, .int .i64 i)])
    (fun i => [(0, .arr 74 2 L.length (wr (fun i => (ix L i).row) (fun _ => (default : Smp).row) i))]) 1 (fun i => L.length - i) 0
    ⟨Nat.zero_le _, [(0, 0)], rfl, rfl, ⟨AVle.refl _, AVle.refl _, AVle.refl _, trivial⟩, ⟨MOle.arr rfl fun i hi => by rw [wr_ge (Nat.zero_le i)]; rfl, trivial⟩⟩ ?_
  intro i hi
  refine Grd.intro (fun h2 => ?_) (fun h2 => ?_)
  · have hin : i < L.length := by have := of_decide_eq_true h2; omega
    refine And.intro (by omega) ?_
    conv => whnf
    refine CallC.sca _ (toSample_fn (ix L i)) ?_ ?_
    · exact rfl
    refine And.intro (by omega) ?_
    refine And.intro (inI64 (by omega) (by omega)) ?_
    exact ⟨i + 1, hin, by omega, [(0, 0)], rfl, rfl, ⟨AVle.refl _, AVle.refl _, AVle.of_eq (congrArg (AV.int .i64) (by simp)), trivial⟩, ⟨MOle.arr rfl fun k hk => wr_next fun e => by subst e; rw [wr_ge (Nat.le_refl _)]; rfl, trivial⟩⟩
  · have : i = L.length := by have := of_decide_eq_false h2; omega
    subst this
    exact And.intro trivial ⟨[(0, 0)], rfl, AVle.refl _, ⟨MOle.arr rfl fun k hk => wr_lt hk, trivial⟩⟩

theorem toIngester_own (g : Ig) (h : g.small) : FnM Tryz.prog 9 0 [g.av] [] (g.own 0) [(0, .arr 74 2 g.b.length fun i => (ix g.b i).row)] 1 := by
  refine FnM.introC Tryz.call9 Tryz.func9 rfl rfl ?_
  conv => whnf
  refine CallC.k [] (toSampleS_own g.b h) rfl rfl (AVsle.refl _) trivial rfl ?_
  exact And.intro trivial ⟨[(3, 0)], rfl, AVle.refl _, ⟨MOle.refl _, trivial⟩⟩
theorem CloneSm_own (L : List Smp) (hL : L.length ≤ 1000000) : FnM Tryz.prog 72 0 [smps L] [] (.osl 0) [(0, .arr 74 2 L.length fun i => (ix L i).row)] 1 := by
  refine FnM.introN Tryz.call72 Tryz.func72 rfl rfl ?_
  conv => whnf
  refine OpC.isnil rfl rfl rfl rfl rfl (fun h0 => ?_) ?_
  · conv => whnf
    exact ⟨_, .inr ⟨2, 74, 2, fun i => (ix L i).row, rfl, rfl⟩, And.intro trivial ⟨[(0, 0)], rfl, AVle.refl _, ⟨MOle.arr h0.symm fun i hi => rfl, trivial⟩⟩⟩
  · conv => whnf
    refine And.intro ⟨show (0 + L.length) * 16 ≤ 140737488355328 by omega, fun i hi => rfl⟩ ?_
    conv => whnf
    exact ⟨_, .inl rfl, And.intro trivial ⟨[(1, 0)], rfl, AVle.refl _, ⟨MOle.arr (Nat.zero_add _) fun i hi => appRows_ge (Nat.zero_le _), trivial⟩⟩⟩
theorem copiedI_own (g : Ig) (hL : g.b.length ≤ 1000000) : FnM Tryz.prog 37 0 [g.av] [] (g.own 0) [(0, .arr 74 2 g.b.length fun i => (ix g.b i).row)] 1 := by
  refine FnM.introC Tryz.call37 Tryz.func37 rfl rfl ?_
  conv => whnf
  refine CallC.k [] (CloneSm_own g.b hL) rfl rfl (AVsle.refl _) trivial rfl ?_
  conv => whnf
  exact And.intro trivial ⟨[(2, 0)], rfl, AVle.refl _, ⟨MOle.refl _, trivial⟩⟩
theorem l09Own_fn (g : Ig) (hL : g.b.length ≤ 1000000) : VFn Tryz.prog 31 [g.av] g.av := by
  refine VFn.introC Tryz.call31 Tryz.func31 rfl rfl ?_
  refine And.intro ⟨show (0 + g.b.length) * 16 ≤ 140737488355328 by omega, fun i hi => rfl⟩ ?_
  refine And.intro trivial (AVle.agg (AVsle.cons (AVle.refl _) (AVsle.cons (AVle.refl _) (AVsle.cons (AVle.refl _) (AVsle.cons (AVle.refl _) (AVsle.cons (AVle.sl (Nat.zero_add _) fun i hi => ?_) (AVsle.refl _)))))))
  rw [appRows_ge (Nat.zero_le _), Nat.sub_zero]
/-- no ingester -/
def ig0 : AV := .agg [.int .i64 0, .int .i64 0, .int .i64 0, .int .i64 0, .nilsl, .bool false]
theorem eqIngester0_fn : VFn Tryz.prog 12 [ig0, ig0] (.bool true) := by
  have c : VFn Tryz.prog 39 [.nilsl, .nilsl] (.bool true) := by
    refine VFn.introC Tryz.call39 Tryz.func39 rfl rfl ?_
    refine LoopC.rounds 1 ?_
    exact And.intro trivial (AVle.refl _)
  refine VFn.introC Tryz.call12 Tryz.func12 rfl rfl ?_
  conv => whnf
  refine CallC.sca _ (c) ?_ ?_
  · exact rfl
  conv => whnf
  refine OpC.bneq rfl rfl rfl rfl rfl ?_
  exact And.intro trivial (AVle.refl _)
theorem markIngester0_fn (k : Int) : VFn Tryz.prog 14 [ig0, .int .i64 k] (.int .i64 k) := by
  have c : VFn Tryz.prog 41 [.nilsl, .int .i64 k] (.int .i64 k) := by
    refine VFn.introC Tryz.call41 Tryz.func41 rfl rfl ?_
    refine LoopC.rounds 1 ?_
    exact And.intro trivial (AVle.refl _)
  refine VFn.introC Tryz.call14 Tryz.func14 rfl rfl ?_
  conv => whnf
  refine CallC.sca _ (c) ?_ ?_
  · exact rfl
  exact And.intro trivial (AVle.refl _)
theorem heldIngester0_fn : VFn Tryz.prog 16 [ig0, .int .i64 1] (.int .i64 1) := by
  have c : VFn Tryz.prog 43 [.nilsl, .int .i64 1] (.int .i64 1) := by
    refine VFn.introC Tryz.call43 Tryz.func43 rfl rfl ?_
    refine LoopC.rounds 1 ?_
    exact And.intro trivial (AVle.refl _)
  refine VFn.introC Tryz.call16 Tryz.func16 rfl rfl ?_
  conv => whnf
  refine CallC.sca _ (c) ?_ ?_
  · exact rfl
  exact And.intro trivial (AVle.refl _)
end Go.Proofs.YtopfpmcakoeloaaGreatDoor
set_option linter.unusedVariables false
set_option linter.constructorNameAsVariable false
set_option linter.unusedSimpArgs false
set_option maxRecDepth 20000
namespace Go.Proofs.YtopfpmcakoeloaaGreatDoor
open Go Go.Vw

theorem istep_fn (x : Sto) (hs : x.ok = true) (g : Ig) (hg : g.ok = true) : VFn Tryz.prog 35 [g.av, x.av] (.tup [(stI x g).1.av, (stI x g).2.1.av, .bool (stI x g).2.2.1, .int .i64 (stI x g).2.2.2]) := by
  have f := Ig.facts hg
  by_cases h0 : g.b.length = 0
  · have c := step_idle x g h0
    unfold stI
    rw [if_pos h0]
    exact c
  · have h0' : 0 < g.b.length := by omega
    by_cases hp : g.put = true
    · obtain ⟨p1, p2, p3, p4⟩ := f.put hp
      have c := step_put x hs g h0' hp f.id p2 (ingRec_ok f hp) (appS x g.seq (ingRec g)).1 (appS x g.seq (ingRec g)).2 rfl
      unfold stI
      rw [if_neg h0, if_pos hp]
      by_cases h1 : (appS x g.seq (ingRec g)).2 = 0
      · rw [if_pos h1]
        rw [h1] at c
        exact c
      · rw [if_neg h1]
        rw [if_neg h1, decide_eq_false h1] at c
        by_cases h9 : (appS x g.seq (ingRec g)).2 = 9
        · rw [if_pos h9]
          rw [if_pos h9, if_pos h9] at c
          exact c
        · rw [if_neg h9]
          rw [if_neg h9, if_neg h9] at c
          exact c
    · have hp' : g.put = false := by simpa using hp
      have hb := log_b x
      by_cases h1 : (ix g.b 0).t < (logS x).h0
      · have c := step_late x hs g h0' hp' f.id f.sm 14 (by rw [if_pos h1]) (by decide)
        unfold stI
        rw [if_neg h0, if_neg hp, if_pos h1]
        exact c
      · by_cases h2 : (logS x).seq = 999999
        · have c := step_late x hs g h0' hp' f.id f.sm 7 (by rw [if_neg h1, if_pos h2]) (by decide)
          unfold stI
          rw [if_neg h0, if_neg hp, if_neg h1, if_pos h2]
          exact c
        · unfold stI
          rw [if_neg h0, if_neg hp, if_neg h1, if_neg h2]
          by_cases h3 : x.room (ingK x g) (smpsText g.b) = 0
          · have c := step_new x hs g h0' f.len hp' f.id f.sm h1 h2 (by omega) (x.set (ingK x g) (smpsText g.b)) x.next 0 (by rw [if_pos h3])
            rw [if_pos h3]
            exact c
          · have c := step_new x hs g h0' f.len hp' f.id f.sm h1 h2 (by omega) x 0 (x.room (ingK x g) (smpsText g.b)) (by rw [if_neg h3])
            rw [if_neg h3]
            rw [if_neg h3, if_neg h3] at c
            exact c
theorem room_ne9 (x : Sto) (k d : List UInt8) : x.room k d ≠ 9 := by
  unfold Sto.room
  split
  · decide
  · split <;> decide
theorem sstep_fn (x : Sto) (hs : x.ok = true) (g : Ig) (hg : g.ok = true) : VFn Tryz.prog 29 [x.av, g.av] (.tup [(stI x g).1.av, (stI x g).2.1.av, .bool (stI x g).2.2.1, .int .i64 (stI x g).2.2.2]) := by
  have f := Ig.facts hg
  by_cases h0 : g.b.length = 0
  · have c := sstep_idle x g h0
    unfold stI
    rw [if_pos h0]
    exact c
  · have h0' : 0 < g.b.length := by omega
    by_cases hp : g.put = true
    · obtain ⟨p1, p2, p3, p4⟩ := f.put hp
      have c := sstep_put x hs g h0' hp f.id p2 (ingRec_ok f hp) (appS x g.seq (ingRec g)).1 (appS x g.seq (ingRec g)).2 rfl
      unfold stI
      rw [if_neg h0, if_pos hp]
      by_cases h1 : (appS x g.seq (ingRec g)).2 = 0
      · rw [if_pos h1]
        rw [h1] at c
        exact c
      · rw [if_neg h1]
        rw [if_neg h1, decide_eq_false h1] at c
        by_cases h9 : (appS x g.seq (ingRec g)).2 = 9
        · rw [if_pos h9]
          rw [if_pos h9, if_pos h9] at c
          exact c
        · rw [if_neg h9]
          rw [if_neg h9, if_neg h9] at c
          exact c
    · have hp' : g.put = false := by simpa using hp
      have hb := log_b x
      by_cases h1 : (ix g.b 0).t < (logS x).h0
      · have c := sstep_late x hs g h0' hp' h1
        unfold stI
        rw [if_neg h0, if_neg hp, if_pos h1]
        exact c
      · by_cases h2 : (logS x).seq = 999999
        · have c := sstep_full x hs g h0' hp' h1 h2
          unfold stI
          rw [if_neg h0, if_neg hp, if_neg h1, if_pos h2]
          exact c
        · have c : VFn Tryz.prog 29 [x.av, g.av] (.tup [(if x.room (ingK x g) (smpsText g.b) = 0 then x.put (ingK x g) (smpsText g.b) else x).av, (if x.room (ingK x g) (smpsText g.b) = 0 then ingPut x g else ingR g.id : Ig).av, .bool false, .int .i64 (x.room (ingK x g) (smpsText g.b))]) := by
            by_cases h4 : x.has (ingK x g) = true
            · have ca := l01Absent_fn x hs (ingK x g) (smpsText g.b)
              have cg := l01Get_fn x hs (ingK x g)
              rw [Sto.putA, if_pos h4] at ca
              rw [if_pos h4] at cg
              exact sstep_newO x hs g h0' f.len hp' f.id f.sm h1 h2 (by omega) _ _ _ _ ca cg (l01Over_fn x hs (ingK x g) (smpsText g.b) h4)
            · have ca := l01Absent_fn x hs (ingK x g) (smpsText g.b)
              rw [Sto.putA, if_neg h4] at ca
              exact sstep_newA x hs g h0' f.len hp' f.id f.sm h1 h2 (by omega) _ _ (room_ne9 _ _ _) ca
          unfold stI
          rw [if_neg h0, if_neg hp, if_neg h1, if_neg h2]
          by_cases h3 : x.room (ingK x g) (smpsText g.b) = 0
          · rw [if_pos h3]
            rw [if_pos h3, if_pos h3, Sto.put, if_pos h3, h3] at c
            exact c
          · rw [if_neg h3]
            rw [if_neg h3, if_neg h3] at c
            exact c
theorem stI_len {x : Sto} (hs : x.ok = true) {g : Ig} (hg : g.ok = true) : (stI x g).1.os.length ≤ 301 ∧ (stI x g).2.1.b.length ≤ 8 := by
  have f := (Ig.facts hg).len
  have hL := (Sto.ok_at hs).2.1
  have a1 := app_len x hs g.seq (ingRec g)
  have a2 := set_len_le x (ingK x g) (smpsText g.b)
  unfold stI ingPut ingR
  refine ⟨?_, ?_⟩
  · repeat' split
    all_goals first | exact Nat.le_trans hL (by decide) | exact a1 | exact Nat.le_trans a2 (by omega)
  · repeat' split
    all_goals first | exact f | exact Nat.zero_le _
theorem StepIngester_own (x : Sto) (hr : StoRd x) (g : Ig) (hb : g.b.length ≤ 1048576) (hs : x.ok = true) (hg : g.ok = true) (y : Sto) (z : Ig) (d : Bool) (c : Int) (he : stI x g = (y, z, d, c)) :
    FnM Tryz.prog 10 0 [x.av, g.av] [] (.tup [y.own, z.own 1, .bool d, .int .i64 c]) [(0, .arr 72 3 y.os.length fun i => (ix y.os i).row), (1, .arr 74 2 z.b.length fun i => (ix z.b i).row)] 2 := by
  have c1 := StoreOK_fn x (by have := hr.len; omega) hr.key
  have c2 := IngesterOK_fn g hb
  have c3 := istep_fn x hs g hg
  have hl := stI_len hs hg
  rw [he] at c3 hl
  rw [hs] at c1
  rw [hg] at c2
  simp only at c3 hl
  refine FnM.introC Tryz.call10 Tryz.func10 rfl rfl ?_
  repeat' (conv => whnf
           first
             | (refine CallC.sca _ c1 ?_ ?_; focus (exact rfl))
             | (refine CallC.sca _ c2 ?_ ?_; focus (exact rfl))
             | (refine CallC.nl _ c3 ?_ ?_; focus (exact rfl))
             | fail)
  conv => whnf
  refine DrawC.mkK 10 [(.inl 2, 6), (.inl 3, 7)] rfl (by kernel_rfl) ?_
  refine And.intro rfl ?_
  conv => whnf
  refine PCallK.own (copied_own y (by omega)) rfl (fun i hi => rfl) ?_
  conv => whnf
  refine PCallK.own (copiedI_own z (by omega)) rfl (fun i hi => rfl) ?_
  conv => whnf
  exact And.intro trivial ⟨[(7, 0), (9, 1)], rfl, AVle.refl _, ⟨MOle.refl _, MOle.refl _, trivial⟩⟩
theorem StepIngester_no (x : Sto) (hr : StoRd x) (g : Ig) (hb : g.b.length ≤ 1048576) (h : ¬ (x.ok = true ∧ g.ok = true)) :
    VFn Tryz.prog 10 [x.av, g.av] (.tup [sto0, ig0, .bool false, .int .i64 1]) := by
  have c1 := StoreOK_fn x (by have := hr.len; omega) hr.key
  have c2 := IngesterOK_fn g hb
  cases h1 : x.ok
  · rw [h1] at c1
    refine VFn.introC Tryz.call10 Tryz.func10 rfl rfl ?_
    conv => whnf
    refine CallC.sca _ (c1) ?_ ?_
    · exact rfl
    exact And.intro trivial (AVle.refl _)
  · have h2 : g.ok = false := by simpa [h1] using h
    rw [h1] at c1
    rw [h2] at c2
    refine VFn.introC Tryz.call10 Tryz.func10 rfl rfl ?_
    conv => whnf
    refine CallC.sca _ (c1) ?_ ?_
    · exact rfl
    conv => whnf
    refine CallC.sca _ (c2) ?_ ?_
    · exact rfl
    exact And.intro trivial (AVle.refl _)
theorem specStepIngester_no (x : Sto) (hr : StoRd x) (g : Ig) (hb : g.b.length ≤ 1048576) (h : ¬ (x.ok = true ∧ g.ok = true)) :
    VFn Tryz.prog 7 [x.av, g.av] (.tup [sto0, ig0, .bool false, .int .i64 1]) := by
  have c1 := specStoreOK_ok x (by have := hr.len; omega) hr.key hr.nxt
  have c2 := specIngesterOK_fn g hb
  cases h1 : x.ok
  · rw [h1] at c1
    refine VFn.introC Tryz.call7 Tryz.func7 rfl rfl ?_
    conv => whnf
    refine CallC.sca _ (c1) ?_ ?_
    · exact rfl
    exact And.intro trivial (AVle.refl _)
  · have h2 : g.ok = false := by simpa [h1] using h
    rw [h1] at c1
    rw [h2] at c2
    refine VFn.introC Tryz.call7 Tryz.func7 rfl rfl ?_
    conv => whnf
    refine CallC.sca _ (c1) ?_ ?_
    · exact rfl
    conv => whnf
    refine CallC.sca _ (c2) ?_ ?_
    · exact rfl
    exact And.intro trivial (AVle.refl _)
theorem specStepIngester_yes (x : Sto) (hr : StoRd x) (g : Ig) (hb : g.b.length ≤ 1048576) (hs : x.ok = true) (hg : g.ok = true) (y : Sto) (z : Ig) (d : Bool) (c : Int) (he : stI x g = (y, z, d, c)) :
    VFn Tryz.prog 7 [x.av, g.av] (.tup [y.av, z.av, .bool d, .int .i64 c]) := by
  have c1 := specStoreOK_ok x (by have := hr.len; omega) hr.key hr.nxt
  have c2 := specIngesterOK_fn g hb
  have c3 := sstep_fn x hs g hg
  have hl := stI_len hs hg
  rw [he] at c3 hl
  rw [hs] at c1
  rw [hg] at c2
  simp only at c3 hl
  refine VFn.introC Tryz.call7 Tryz.func7 rfl rfl ?_
  repeat' (conv => whnf
           first
             | (refine CallC.sca _ c1 ?_ ?_; focus (exact rfl))
             | (refine CallC.sca _ c2 ?_ ?_; focus (exact rfl))
             | (refine CallC.nl _ c3 ?_ ?_; focus (exact rfl))
             | fail)
  conv => whnf
  refine DrawC.mkK 10 [(.inl 2, 6), (.inl 3, 7)] rfl (by kernel_rfl) ?_
  refine And.intro rfl ?_
  refine PCallK.nl _ (l01Own_fn y (by omega)) rfl ?_
  refine PCallK.nl _ (l09Own_fn z (by omega)) rfl ?_
  exact And.intro trivial (AVle.refl _)
theorem lawStepIngester (s : Sto) (h : StoIn s) (g : Ig) (hg : Ig.rd g) : VFn Tryz.prog 3 [s.av, g.av] (.bool true) := by
  refine VFn.introC Tryz.call3 Tryz.func3 rfl rfl ?_
  conv => whnf
  refine CallC.sca _ (szStore_fn s h) ?_ ?_
  · exact rfl
  by_cases hl : (stoN s : Int) ≤ 1048576
  case neg =>
    rw [szr_no hl]
    exact And.intro trivial (AVle.refl _)
  rw [szr_yes hl]
  refine Grd.intro (fun h2 => absurd (of_decide_eq_true h2) (by omega)) (fun _ => ?_)
  conv => whnf
  refine CallC.sca _ (szIngester_fn g (1048576 - (stoN s : Int)) (by omega) (by omega) hg) ?_ ?_
  · exact rfl
  by_cases hl2 : (g.size : Int) ≤ 1048576 - (stoN s : Int)
  case neg =>
    rw [szr_no hl2]
    exact And.intro trivial (AVle.refl _)
  rw [szr_yes hl2]
  refine Grd.intro (fun h2 => absurd (of_decide_eq_true h2) (by omega)) (fun _ => ?_)
  have hb : g.b.length ≤ 1048576 := by have : (g.b.length : Int) ≤ 1048576 - (stoN s : Int) := hl2; omega
  have hsm : g.small := hb
  obtain ⟨m1, m2, m3⟩ := Sto_small hl
  have hr : StoRd s := ⟨m1, fun o ho => Nat.le_trans (m2 o ho) (by decide), h.nxt⟩
  clear hl hl2
  by_cases ha : s.ok = true ∧ g.ok = true
  · obtain ⟨ha1, ha2⟩ := ha
    have hlen := stI_len ha1 ha2
    obtain ⟨y, z, d, c, he⟩ : ∃ y z d c, stI s g = (y, z, d, c) := ⟨_, _, _, _, rfl⟩
    rw [he] at hlen
    have c1 := specStepIngester_yes s hr g hb ha1 ha2 y z d c he
    have c2 := StepIngester_own s hr g hb ha1 ha2 y z d c he
    have c3 := c2.vfn
    clear he ha1 ha2 hr
    have hy : y.os.length ≤ 301 := hlen.1
    have hz : z.small := Nat.le_trans hlen.2 (by decide)
    have hz' : z.b.length ≤ 8 := hlen.2
    conv => whnf
    refine DrawC.mkK 16 [(.inr 10, 12), (.inr 11, 13)] rfl (by kernel_rfl) ?_
    refine And.intro rfl ?_
    refine PCallK.nl _ (toStore_fn s m1) rfl ?_
    refine PCallK.nl _ (toIngester_fn g hsm) rfl ?_
    refine PCallK.nl _ (c1) rfl ?_
    conv => whnf
    refine CallC.k [] (toStore_own s m1) rfl rfl (AVsle.refl _) trivial rfl ?_
    conv => whnf
    refine CallC.k [] (toIngester_own g hsm) rfl rfl (AVsle.refl _) trivial rfl ?_
    conv => whnf
    refine CallC.m [] c2 rfl rfl (AVsle.refl _) trivial rfl ⟨fun i hi => rfl, fun i hi => rfl, trivial⟩ rfl ?_
    repeat' (conv => whnf
             first
               | (refine Grd.intro (fun h => ?_) (fun h => ?_); rotate_left; focus (exfalso; simp_all; done))
               | (refine Grd.intro (fun h => ?_) (fun h => ?_); focus (exfalso; simp_all; done))
               | refine OpC.bneq rfl rfl rfl rfl rfl ?_
               | (refine CallC.sca _ (eqStore_fn y (by omega)) ?_ ?_; focus (exact rfl))
               | (refine CallC.sca _ (eqIngester_fn z hz) ?_ ?_; focus (exact rfl))
               | fail)
    refine DrawC.mk 5 rfl (by kernel_rfl) ?_
    refine PCallC.nl _ (toStore_fn s m1) rfl ?_
    refine PCallC.sca _ (eqStore_fn s m1) rfl ?_
    conv => whnf
    refine DrawC.mk 5 rfl (by kernel_rfl) ?_
    refine PCallC.nl _ (toIngester_fn g hsm) rfl ?_
    refine PCallC.sca _ (eqIngester_fn g hsm) rfl ?_
    conv => whnf
    refine CallC.k [(18, 0)] (markStore_fn s.os.length _ s.next (fun i hi => ⟨_, _, _, rfl⟩) m1 1 (by omega)) rfl rfl (AVsle.refl _) ⟨MOle.refl _, trivial⟩ rfl ?_
    conv => whnf
    refine CallC.k [(20, 0)] (markIngester_fn g g.b.length _ (fun i hi => ⟨_, _, rfl⟩) hb (1 + 3 * s.os.length) (by omega)) rfl rfl (AVsle.refl _) ⟨MOle.refl _, trivial⟩ rfl ?_
    repeat' (conv => whnf
             first
               | (refine Grd.intro (fun h => ?_) (fun h => ?_); rotate_left; focus (exfalso; simp_all; done))
               | (refine Grd.intro (fun h => ?_) (fun h => ?_); focus (exfalso; simp_all; done))
               | refine OpC.bneq rfl rfl rfl rfl rfl ?_
               | (refine CallC.sca _ (eqStore_fn y (by omega)) ?_ ?_; focus (exact rfl))
               | (refine CallC.sca _ (eqIngester_fn z hz) ?_ ?_; focus (exact rfl))
               | fail)
    conv => whnf
    refine CallC.k [(22, 0)] (markStore_fn y.os.length _ y.next (fun i hi => ⟨_, _, _, rfl⟩) (by omega) 1 (by omega)) rfl rfl (AVsle.refl _) ⟨MOle.refl _, trivial⟩ rfl ?_
    conv => whnf
    refine CallC.k [(23, 0)] (markIngester_fn z z.b.length _ (fun i hi => ⟨_, _, rfl⟩) (by omega) (1 + 3 * y.os.length) (by omega)) rfl rfl (AVsle.refl _) ⟨MOle.refl _, trivial⟩ rfl ?_
    conv => whnf
    refine CallC.sca _ (heldStore_fn y.os.length y.next (by omega) 1 (by omega)) ?_ ?_
    · exact rfl
    conv => whnf
    refine CallC.sca _ (heldIngester_fn z z.b.length (by omega) (1 + 3 * y.os.length) (by omega)) ?_ ?_
    · exact rfl
    refine Grd.intro (fun h => absurd h (by simp)) (fun _ => ?_)
    conv => whnf
    refine DrawC.mkK 16 [(.inr 10, 12), (.inr 11, 13)] rfl (by kernel_rfl) ?_
    refine And.intro rfl ?_
    refine PCallK.nl _ (toStore_fn s m1) rfl ?_
    refine PCallK.nl _ (toIngester_fn g hsm) rfl ?_
    refine PCallK.nl _ (c3) rfl ?_
    repeat' (conv => whnf
             first
               | (refine Grd.intro (fun h => ?_) (fun h => ?_); rotate_left; focus (exfalso; simp_all; done))
               | (refine Grd.intro (fun h => ?_) (fun h => ?_); focus (exfalso; simp_all; done))
               | refine OpC.bneq rfl rfl rfl rfl rfl ?_
               | (refine CallC.sca _ (eqStore_fn y (by omega)) ?_ ?_; focus (exact rfl))
               | (refine CallC.sca _ (eqIngester_fn z hz) ?_ ?_; focus (exact rfl))
               | fail)
    conv => whnf
    refine CallC.sca _ (heldStore_fn y.os.length y.next (by omega) 1 (by omega)) ?_ ?_
    · exact rfl
    conv => whnf
    refine CallC.sca _ (heldIngester_fn z z.b.length (by omega) (1 + 3 * y.os.length) (by omega)) ?_ ?_
    · exact rfl
    refine Grd.intro (fun h => absurd h (by simp)) (fun _ => ?_)
    exact And.intro trivial (AVle.refl _)
  · have c1 := specStepIngester_no s hr g hb ha
    have c2 := StepIngester_no s hr g hb ha
    clear ha hr
    conv => whnf
    refine DrawC.mkK 16 [(.inr 10, 12), (.inr 11, 13)] rfl (by kernel_rfl) ?_
    refine And.intro rfl ?_
    refine PCallK.nl _ (toStore_fn s m1) rfl ?_
    refine PCallK.nl _ (toIngester_fn g hsm) rfl ?_
    refine PCallK.nl _ (c1) rfl ?_
    conv => whnf
    refine CallC.k [] (toStore_own s m1) rfl rfl (AVsle.refl _) trivial rfl ?_
    conv => whnf
    refine CallC.k [] (toIngester_own g hsm) rfl rfl (AVsle.refl _) trivial rfl ?_
    conv => whnf
    conv => whnf
    refine CallC.sca _ (c2) ?_ ?_
    · exact rfl
    repeat' (conv => whnf
             first
               | (refine Grd.intro (fun h => ?_) (fun h => ?_); rotate_left; focus (exfalso; simp_all; done))
               | (refine Grd.intro (fun h => ?_) (fun h => ?_); focus (exfalso; simp_all; done))
               | refine OpC.bneq rfl rfl rfl rfl rfl ?_
               | (refine CallC.sca _ eqStore0_fn ?_ ?_; focus (exact rfl))
               | (refine CallC.sca _ eqIngester0_fn ?_ ?_; focus (exact rfl))
               | fail)
    refine DrawC.mk 5 rfl (by kernel_rfl) ?_
    refine PCallC.nl _ (toStore_fn s m1) rfl ?_
    refine PCallC.sca _ (eqStore_fn s m1) rfl ?_
    conv => whnf
    refine DrawC.mk 5 rfl (by kernel_rfl) ?_
    refine PCallC.nl _ (toIngester_fn g hsm) rfl ?_
    refine PCallC.sca _ (eqIngester_fn g hsm) rfl ?_
    conv => whnf
    refine CallC.k [(18, 0)] (markStore_fn s.os.length _ s.next (fun i hi => ⟨_, _, _, rfl⟩) m1 1 (by omega)) rfl rfl (AVsle.refl _) ⟨MOle.refl _, trivial⟩ rfl ?_
    conv => whnf
    refine CallC.k [(20, 0)] (markIngester_fn g g.b.length _ (fun i hi => ⟨_, _, rfl⟩) hb (1 + 3 * s.os.length) (by omega)) rfl rfl (AVsle.refl _) ⟨MOle.refl _, trivial⟩ rfl ?_
    repeat' (conv => whnf
             first
               | (refine Grd.intro (fun h => ?_) (fun h => ?_); rotate_left; focus (exfalso; simp_all; done))
               | (refine Grd.intro (fun h => ?_) (fun h => ?_); focus (exfalso; simp_all; done))
               | refine OpC.bneq rfl rfl rfl rfl rfl ?_
               | (refine CallC.sca _ eqStore0_fn ?_ ?_; focus (exact rfl))
               | (refine CallC.sca _ eqIngester0_fn ?_ ?_; focus (exact rfl))
               | fail)
    conv => whnf
    refine CallC.sca _ (markStore0_fn 1) ?_ ?_
    · exact rfl
    conv => whnf
    refine CallC.sca _ (markIngester0_fn 1) ?_ ?_
    · exact rfl
    conv => whnf
    refine CallC.sca _ (heldStore0_fn) ?_ ?_
    · exact rfl
    conv => whnf
    refine CallC.sca _ (heldIngester0_fn) ?_ ?_
    · exact rfl
    conv => whnf
    refine DrawC.mkK 16 [(.inr 10, 12), (.inr 11, 13)] rfl (by kernel_rfl) ?_
    refine And.intro rfl ?_
    refine PCallK.nl _ (toStore_fn s m1) rfl ?_
    refine PCallK.nl _ (toIngester_fn g hsm) rfl ?_
    refine PCallK.nl _ (c2) rfl ?_
    repeat' (conv => whnf
             first
               | (refine Grd.intro (fun h => ?_) (fun h => ?_); rotate_left; focus (exfalso; simp_all; done))
               | (refine Grd.intro (fun h => ?_) (fun h => ?_); focus (exfalso; simp_all; done))
               | refine OpC.bneq rfl rfl rfl rfl rfl ?_
               | (refine CallC.sca _ eqStore0_fn ?_ ?_; focus (exact rfl))
               | (refine CallC.sca _ eqIngester0_fn ?_ ?_; focus (exact rfl))
               | fail)
    conv => whnf
    refine CallC.sca _ (heldStore0_fn) ?_ ?_
    · exact rfl
    conv => whnf
    refine CallC.sca _ (heldIngester0_fn) ?_ ?_
    · exact rfl
    exact And.intro trivial (AVle.refl _)
theorem law_StepIngester (s : Sto) (h : StoIn s) (g : Ig) (hg : Ig.rd g) : VFn Tryz.prog 3 [s.av, g.av] (.bool true) := lawStepIngester s h g hg
end Go.Proofs.YtopfpmcakoeloaaGreatDoor
