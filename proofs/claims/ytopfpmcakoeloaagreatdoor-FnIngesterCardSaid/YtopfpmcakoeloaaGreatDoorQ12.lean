/- Contracts of functions that the claim reaches, and the plain law of what they compute; each theorem bears its own conditions. -/
import Derived.Test.YtopfpmcakoeloaaGreatDoorQ7
import Derived.Test.YtopfpmcakoeloaaGreatDoorQ11
import Derived.Test.YtopfpmcakoeloaaGreatDoorV50
import Derived.Test.YtopfpmcakoeloaaGreatDoorQ5
set_option linter.unusedVariables false
set_option linter.constructorNameAsVariable false
set_option linter.unusedSimpArgs false
set_option maxRecDepth 20000
namespace Go.Proofs.YtopfpmcakoeloaaGreatDoor
open Go Go.Vw

def SSk (x : SS) (n : Nat) (k : Int) : Prop := x.1.length = n ∧ (∀ e ∈ x.1, -1000000 ≤ e.v ∧ e.v ≤ 1000000) ∧ x.2.2.ok k ∧ (-10 ≤ x.2.1 ∧ x.2.1 ≤ k)
theorem stepk_ok {x : SS} {n : Nat} {k : Int} (h : SSk x n k) (hk : 0 ≤ k) : SSk (smpStep x) (n + 1) (k + 12) := by
  obtain ⟨h1, h2, h3, h4⟩ := h
  have n1 := next_b x.2.2 h3 hk 4
  have n2 := next_b (x.2.2.next 4).2 n1.2.1 (by omega) 40
  have n3 := next_b ((x.2.2.next 4).2.next 40).2 n2.2.1 (by omega) 12
  have n4 := next_b (((x.2.2.next 4).2.next 40).2.next 12).2 n3.2.1 (by omega) 2
  have a1 := n1.1.2 (by omega)
  have a2 := n2.1.2 (by omega)
  unfold smpStep
  refine ⟨by simp [h1], fun e he => ?_, wk n4.2.1 (by omega), by simp only; omega⟩
  simp only [List.mem_append, List.mem_cons, List.not_mem_nil, or_false] at he
  rcases he with he | he
  · exact h2 e he
  · subst he
    simp only
    have := n2.1.1
    split
    · omega
    · split <;> omega
theorem itk_ok {x : SS} {k : Int} (h : SSk x 0 k) (hk : 0 ≤ k) : ∀ n, SSk (smpIt n x) n (k + 12 * n)
  | 0 => by simpa [smpIt] using h
  | n + 1 => by
    have := stepk_ok (itk_ok h hk n) (by omega)
    have e : k + 12 * ((n + 1 : Nat) : Int) = k + 12 * (n : Int) + 12 := by omega
    rw [e]; exact this
theorem samplesZ_fn (s : Src) (f n : Int) (h : s.ok 1000000) (hf : -10 ≤ f ∧ f ≤ 1000000) (hn : 0 ≤ n ∧ n ≤ 1000) :
    FnM Tryz.prog 78 1 [.bptr 0 0, .int .i64 f, .int .i64 n] [(0, .box s.row)] (smps (s.samples f n).1) [(0, .box (s.samples f n).2.2.row)] 1 := by
  have n0 := next_b s h (by omega) (n + 1)
  have hm := n0.1.2 (by omega)
  have h0 : SSk ([], f, (s.next (n + 1)).2) 0 1000003 := ⟨rfl, by simp, n0.2.1, by simp only; omega⟩
  have hit := itk_ok h0 (by omega)
  obtain ⟨R, hR⟩ : ∃ R, R = s.samples f n := ⟨_, rfl⟩
  rw [← hR]
  refine FnM.introC Tryz.call78 Tryz.func78 rfl rfl ?_
  refine And.intro (inI64 (by omega) (by omega)) ?_
  conv => whnf
  refine CallC.k [(0, 0)] (next_fn s (n + 1) (wk h (by omega))) rfl rfl (AVsle.refl _) ⟨MOle.refl _, trivial⟩ rfl ?_
  obtain ⟨M, hM⟩ : ∃ M : Nat, (s.next (n + 1)).1 = M := ⟨(s.next (n + 1)).1.toNat, by omega⟩
  have hR2 : R = smpIt M ([], f, (s.next (n + 1)).2) := by rw [hR, Src.samples, hM]; rfl
  obtain ⟨x0, hx0⟩ : ∃ x0 : SS, x0 = ([], f, (s.next (n + 1)).2) := ⟨_, rfl⟩
  rw [← hx0] at hit hR2
  rw [hM]
  refine LoopC.mk (fun k : Nat => k ≤ M) (fun k => [(0, .bptr 0 0), (1, .int .i64 (smpIt k x0).2.1), (7, .osl 1), (8, .int .i64 ((M : Int) - k))])
    (fun k => [(0, .box (smpIt k x0).2.2.row), (1, .arr 74 2 (smpIt k x0).1.length fun i => (ix (smpIt k x0).1 i).row)]) 2 (fun k => M - k) 0
    ⟨Nat.zero_le _, [(0, 0), (1, 1)], rfl, rfl, ⟨AVle.refl _, AVle.of_eq (congrArg (AV.int .i64) (show f = _ by rw [hx0]; rfl)), AVle.refl _, AVle.of_eq (congrArg (AV.int .i64) (by simp)), trivial⟩, ⟨MOle.of_eq (show MO.box (s.next (n + 1)).2.row = _ by rw [hx0]; rfl), MOle.arr (by rw [hx0]; rfl) fun i hi => absurd hi (Nat.not_lt_zero i), trivial⟩⟩ ?_
  intro k hk
  refine Grd.intro (fun g1 => ?_) (fun g1 => ?_)
  · have hkM : k < M := by have := of_decide_eq_true g1; omega
    obtain ⟨h1, h2, h3, h4⟩ := hit k
    have hstep : smpIt (k + 1) x0 = smpStep (smpIt k x0) := rfl
    generalize smpIt k x0 = x at h1 h2 h3 h4 hstep
    have n1 := next_b x.2.2 h3 (by omega) 4
    have n2 := next_b (x.2.2.next 4).2 n1.2.1 (by omega) 40
    have n3 := next_b ((x.2.2.next 4).2.next 40).2 n2.2.1 (by omega) 12
    have n4 := next_b (((x.2.2.next 4).2.next 40).2.next 12).2 n3.2.1 (by omega) 2
    have a1 := n1.1.2 (by omega)
    have a2 := n2.1.2 (by omega)
    have a3 := n3.1.2 (by omega)
    have a4 := n4.1.2 (by omega)
    conv => whnf
    refine CallC.k [(0, 0)] (next_fn x.2.2 4 (wk h3 (by omega))) rfl rfl (AVsle.refl _) ⟨MOle.refl _, trivial⟩ rfl ?_
    refine And.intro (show inI .i64 (x.2.1 + (x.2.2.next 4).1) from inI64 (by omega) (by omega)) ?_
    conv => whnf
    refine CallC.k [(0, 0)] (next_fn (x.2.2.next 4).2 40 (wk n1.2.1 (by omega))) rfl rfl (AVsle.refl _) ⟨MOle.refl _, trivial⟩ rfl ?_
    refine And.intro (inI64 (by omega) (by omega)) ?_
    conv => whnf
    refine CallC.k [(0, 0)] (next_fn ((x.2.2.next 4).2.next 40).2 12 (wk n2.2.1 (by omega))) rfl rfl (AVsle.refl _) ⟨MOle.refl _, trivial⟩ rfl ?_
    have hq : (((x.2.2.next 4).2.next 40).2.next 12).1.tdiv 10 = (((x.2.2.next 4).2.next 40).2.next 12).1 / 10 := Int.tdiv_eq_ediv_of_nonneg n3.1.1
    have hq01 : (((x.2.2.next 4).2.next 40).2.next 12).1.tdiv 10 = 0 ∨ (((x.2.2.next 4).2.next 40).2.next 12).1.tdiv 10 = 1 := by omega
    have hd01 : ((((x.2.2.next 4).2.next 40).2.next 12).2.next 2).1 = 0 ∨ ((((x.2.2.next 4).2.next 40).2.next 12).2.next 2).1 = 1 := by omega
    have hrow : ∀ v, v = (if (((x.2.2.next 4).2.next 40).2.next 12).1.tdiv 10 * (1 + ((((x.2.2.next 4).2.next 40).2.next 12).2.next 2).1) = 0 then ((x.2.2.next 4).2.next 40).1 - 10 else if (((x.2.2.next 4).2.next 40).2.next 12).1.tdiv 10 * (1 + ((((x.2.2.next 4).2.next 40).2.next 12).2.next 2).1) = 1 then 1000000 else -1000000) →
        (smpIt (k + 1) x0).1 = x.1 ++ [⟨x.2.1 + (x.2.2.next 4).1, v⟩] ∧ (smpIt (k + 1) x0).2.1 = x.2.1 + (x.2.2.next 4).1 + 1 ∧ (smpIt (k + 1) x0).2.2 = ((((x.2.2.next 4).2.next 40).2.next 12).2.next 2).2 := fun v hv => by
      rw [hstep, hv]; exact ⟨rfl, rfl, rfl⟩
    refine And.intro ⟨by decide, show inI .i64 ((((x.2.2.next 4).2.next 40).2.next 12).1.tdiv 10) from inI64 (by omega) (by omega)⟩ ?_
    conv => whnf
    refine CallC.k [(0, 0)] (next_fn (((x.2.2.next 4).2.next 40).2.next 12).2 2 (wk n3.2.1 (by omega))) rfl rfl (AVsle.refl _) ⟨MOle.refl _, trivial⟩ rfl ?_
    rcases hq01 with hq0 | hq0
    · rw [hq0]
      rw [hq0] at hrow
      refine And.intro (show inI .i64 (1 + ((((x.2.2.next 4).2.next 40).2.next 12).2.next 2).1) from inI64 (by omega) (by omega)) ?_
      rcases hd01 with hd | hd
      · rw [hd]
        rw [hd] at hrow
        obtain ⟨w1, w2, w3⟩ := hrow (((x.2.2.next 4).2.next 40).1 - 10) (by simp)
        refine And.intro (inI64 (by omega) (by omega)) ?_
        refine And.intro ⟨by decide, by decide⟩ ?_
        refine And.intro ⟨show (x.1.length + 1) * 16 ≤ 140737488355328 by omega, all1 rfl⟩ ?_
        refine And.intro (show inI .i64 (x.2.1 + (x.2.2.next 4).1 + 1) from inI64 (by omega) (by omega)) ?_
        refine And.intro (inI64 (by omega) (by omega)) ?_
        exact ⟨k + 1, hkM, by omega, [(0, 0), (8, 1)], rfl, rfl, ⟨AVle.refl _, AVle.of_eq (congrArg (AV.int .i64) w2.symm), AVle.refl _, AVle.of_eq (congrArg (AV.int .i64) (show (M : Int) - k - 1 = _ by omega)), trivial⟩, ⟨MOle.of_eq (show MO.box ((((x.2.2.next 4).2.next 40).2.next 12).2.next 2).2.row = _ by rw [w3]), arr_next (f := Smp.row) w1 rfl, trivial⟩⟩
      · rw [hd]
        rw [hd] at hrow
        obtain ⟨w1, w2, w3⟩ := hrow (((x.2.2.next 4).2.next 40).1 - 10) (by simp)
        refine And.intro (inI64 (by omega) (by omega)) ?_
        refine And.intro ⟨by decide, by decide⟩ ?_
        refine And.intro ⟨show (x.1.length + 1) * 16 ≤ 140737488355328 by omega, all1 rfl⟩ ?_
        refine And.intro (show inI .i64 (x.2.1 + (x.2.2.next 4).1 + 1) from inI64 (by omega) (by omega)) ?_
        refine And.intro (inI64 (by omega) (by omega)) ?_
        exact ⟨k + 1, hkM, by omega, [(0, 0), (8, 1)], rfl, rfl, ⟨AVle.refl _, AVle.of_eq (congrArg (AV.int .i64) w2.symm), AVle.refl _, AVle.of_eq (congrArg (AV.int .i64) (show (M : Int) - k - 1 = _ by omega)), trivial⟩, ⟨MOle.of_eq (show MO.box ((((x.2.2.next 4).2.next 40).2.next 12).2.next 2).2.row = _ by rw [w3]), arr_next (f := Smp.row) w1 rfl, trivial⟩⟩
    · rw [hq0]
      rw [hq0] at hrow
      refine And.intro (show inI .i64 (1 + ((((x.2.2.next 4).2.next 40).2.next 12).2.next 2).1) from inI64 (by omega) (by omega)) ?_
      rcases hd01 with hd | hd
      · rw [hd]
        rw [hd] at hrow
        obtain ⟨w1, w2, w3⟩ := hrow (1000000) (by simp)
        refine And.intro (inI64 (by omega) (by omega)) ?_
        refine And.intro ⟨by decide, by decide⟩ ?_
        refine And.intro ⟨show (x.1.length + 1) * 16 ≤ 140737488355328 by omega, all1 rfl⟩ ?_
        refine And.intro (show inI .i64 (x.2.1 + (x.2.2.next 4).1 + 1) from inI64 (by omega) (by omega)) ?_
        refine And.intro (inI64 (by omega) (by omega)) ?_
        exact ⟨k + 1, hkM, by omega, [(0, 0), (8, 1)], rfl, rfl, ⟨AVle.refl _, AVle.of_eq (congrArg (AV.int .i64) w2.symm), AVle.refl _, AVle.of_eq (congrArg (AV.int .i64) (show (M : Int) - k - 1 = _ by omega)), trivial⟩, ⟨MOle.of_eq (show MO.box ((((x.2.2.next 4).2.next 40).2.next 12).2.next 2).2.row = _ by rw [w3]), arr_next (f := Smp.row) w1 rfl, trivial⟩⟩
      · rw [hd]
        rw [hd] at hrow
        obtain ⟨w1, w2, w3⟩ := hrow (-1000000) (by simp)
        refine And.intro (inI64 (by omega) (by omega)) ?_
        refine And.intro ⟨by decide, by decide⟩ ?_
        refine And.intro ⟨show (x.1.length + 1) * 16 ≤ 140737488355328 by omega, all1 rfl⟩ ?_
        refine And.intro (show inI .i64 (x.2.1 + (x.2.2.next 4).1 + 1) from inI64 (by omega) (by omega)) ?_
        refine And.intro (inI64 (by omega) (by omega)) ?_
        exact ⟨k + 1, hkM, by omega, [(0, 0), (8, 1)], rfl, rfl, ⟨AVle.refl _, AVle.of_eq (congrArg (AV.int .i64) w2.symm), AVle.refl _, AVle.of_eq (congrArg (AV.int .i64) (show (M : Int) - k - 1 = _ by omega)), trivial⟩, ⟨MOle.of_eq (show MO.box ((((x.2.2.next 4).2.next 40).2.next 12).2.next 2).2.row = _ by rw [w3]), arr_next (f := Smp.row) w1 rfl, trivial⟩⟩
  · have : k = M := by have := of_decide_eq_false g1; omega
    subst this
    rw [hR2]
    exact And.intro trivial ⟨[(0, 0)], rfl, AVle.refl _, ⟨MOle.refl _, trivial⟩⟩
theorem tickI_staOK {s : Sta} (h : StaOK s) (hq : s.seq < 999999) : StaOK s.tick :=
  ⟨by have := h.q; exact ⟨show 0 ≤ s.seq + 1 by omega, show s.seq + 1 ≤ 999999 by omega⟩, h.f, h.len, h.es, fun t ht => by have := h.ts t ht; exact ⟨this.1, this.2.1, show t.seq ≤ s.seq + 1 by omega⟩, h.nd, h.lo, h.runs⟩
theorem logI_staOK (x : Sto) : ∀ n : Nat, n ≤ 400 → StaOK (logN x n)
  | 0, _ => staOK0
  | n + 1, hn => by
    have ih := logI_staOK x n (by omega)
    have hs := logN_seq x n
    have hl := logN_len x n
    show StaOK (stepL x (logN x n))
    unfold stepL
    split
    · exact tickI_staOK ih (by omega)
    · rename_i r hr
      exact app_staOK ih (readR_ok hr) (by omega) (by omega)
theorem logI_ok (x : Sto) : (logS x).ok = true := (staOK_iff _).2 (logI_staOK x _ (log_b x).2.1)
structure StP (x y : Sto) : Prop where
  ok : y.ok = true
  len : y.os.length ≤ x.os.length + 1
  nxt : y.next ≤ x.next + 1
theorem StP.refl {x : Sto} (hx : x.ok = true) : StP x x := ⟨hx, by omega, by omega⟩
theorem putA_p {x : Sto} (hx : x.ok = true) {k d : List UInt8} (hk : keyOK k = true) : StP x (x.putA k d).1 := by
  unfold Sto.putA
  split
  · exact StP.refl hx
  · unfold Sto.put
    split
    · rename_i h
      exact ⟨set_ok hx hk h, set_len_le x k d, Int.le_refl _⟩
    · exact StP.refl hx
theorem stI_st {x : Sto} (hx : x.ok = true) (g : Ig) : StP x (stI x g).1 := by
  have h0 : StP x x := ⟨hx, by omega, by omega⟩
  have ha : StP x (appS x g.seq (ingRec g)).1 := putA_p hx (manK_keyOK _)
  unfold stI
  split
  · exact h0
  · split
    · split
      · exact ha
      · split <;> exact h0
    · split
      · exact h0
      · split
        · exact h0
        · split
          · rename_i h
            exact ⟨set_ok hx (keyF_ok (by omega)) h, set_len_le x _ _, Int.le_refl _⟩
          · exact h0
theorem ingR_ok {id : Int} (h : 0 ≤ id ∧ id ≤ 9) : (ingR id).ok = true := by
  unfold Ig.ok ingR igOK
  simp [within, smpsOK_nil]
  exact h
theorem stI_ig {x : Sto} (hx : x.ok = true) {g : Ig} (hg : g.ok = true) : (stI x g).2.1.ok = true := by
  have f := Ig.facts hg
  have hid := f.id
  have hR := ingR_ok hid
  have hl := logI_ok x
  have hb := log_b x
  have hh := Sta.hi_b hl
  unfold stI
  split
  · exact hg
  · rename_i h0
    split
    · split
      · exact hR
      · split
        · unfold Ig.ok igOK
          have := f.len
          have h8 : decide (8 < (g.b.length : Int)) = false := decide_eq_false (by omega)
          simp only [f.sm, h8]
          simp [within]
          exact hid
        · exact hR
    · split
      · exact hR
      · rename_i h1
        split
        · exact hR
        · rename_i h2
          split
          · have b0 := smps_b f.sm (i := 0) (by omega)
            have h8 := f.len
            have e1 : (Int.toNat 0) = 0 := rfl
            have e2 : ((g.b.length : Int) - 1).toNat = g.b.length - 1 := by omega
            unfold Ig.ok igOK ingPut
            simp only [f.sm, e1, e2]
            simp [within]
            omega
          · exact hR
def igB (L : List Smp) : List Smp := if 0 < L.length ∧ (ix L 0).t < 0 then [] else L
def Src.i1 (s : Src) : Int × Src := s.filled.s.next 3
def Src.i2 (s : Src) : Int × Src := s.i1.2.next 9
def Src.i3 (s : Src) : SS := s.i2.2.samples ((logS s.filled.x).h0 - s.i2.1.tdiv 8) 6
def Src.i4 (s : Src) : Int × Src := s.i3.2.2.next 3
def Src.i5 (s : Src) : Int × Src := s.i4.2.next 4
def ingIt : Nat → Sto × Ig → Sto × Ig
  | 0, q => q
  | k + 1, q => ((stI (ingIt k q).1 (ingIt k q).2).1, (stI (ingIt k q).1 (ingIt k q).2).2.1)
def Src.ig (s : Src) : Ig := ⟨s.i1.1, 0, 0, 0, igB s.i3.1, false⟩
def Src.ix1 (s : Src) : Sto × Ig := ingIt s.i4.1.toNat (s.filled.x, s.ig)
def txtC : List UInt8 := [50, 44, 57, 44, 48, 44, 48, 44, 48, 32]
def Src.ix2 (s : Src) : Sto := if s.i5.1 = 3 then s.ix1.1.set (manK ((logS s.ix1.1).seq + 1)) txtC else s.ix1.1
structure IgP (s : Src) : Prop where
  s1 : s.i1.2.ok 101310
  s2 : s.i2.2.ok 101320
  s3 : s.i3.2.2.ok 101420
  s4 : s.i4.2.ok 101430
  s5 : s.i5.2.ok 101440
  v1 : 0 ≤ s.i1.1 ∧ s.i1.1 < 3
  v2 : 0 ≤ s.i2.1 ∧ s.i2.1 < 9
  v2' : 0 ≤ s.i2.1.tdiv 8 ∧ s.i2.1.tdiv 8 ≤ 1
  v4 : 0 ≤ s.i4.1 ∧ s.i4.1 < 3
  v5 : 0 ≤ s.i5.1 ∧ s.i5.1 < 4
  h0 : 0 ≤ (logS s.filled.x).h0 ∧ (logS s.filled.x).h0 ≤ 500
  len : s.i3.1.length ≤ 6
  t0 : 0 < s.i3.1.length → (0 ≤ (ix s.i3.1 0).t ∨ (ix s.i3.1 0).t < 0)
  t : (0 < s.i3.1.length → ¬ (ix s.i3.1 0).t < 0) → ∀ e ∈ s.i3.1, 0 ≤ e.t
  num : ∀ e ∈ s.i3.1, -100 ≤ e.t ∧ e.t ≤ 600
  ok : s.ig.ok = true
theorem ig_p {s : Src} (h : s.ok 100000) : IgP s := by
  obtain ⟨m, E, f⟩ := filled_facts h
  have hh : 0 ≤ (logS s.filled.x).h0 ∧ (logS s.filled.x).h0 ≤ 500 := by rw [f.log]; have := f.at_; exact ⟨by show 0 ≤ s.filled.at_; omega, this.2⟩
  have n1 := next_b s.filled.s f.src (by omega) 3
  have v1 : 0 ≤ s.i1.1 ∧ s.i1.1 < 3 := ⟨n1.1.1, n1.1.2 (by omega)⟩
  have n1 : s.i1.2.ok 101303 := n1.2.1
  have n2 := next_b s.i1.2 n1 (by omega) 9
  have v2 : 0 ≤ s.i2.1 ∧ s.i2.1 < 9 := ⟨n2.1.1, n2.1.2 (by omega)⟩
  have n2 : s.i2.2.ok 101306 := n2.2.1
  have v3 : 0 ≤ s.i2.1.tdiv 8 ∧ s.i2.1.tdiv 8 ≤ 1 := by rw [Int.tdiv_eq_ediv_of_nonneg v2.1]; omega
  -- the samples
  have hf : -1 ≤ (logS s.filled.x).h0 - s.i2.1.tdiv 8 ∧ (logS s.filled.x).h0 - s.i2.1.tdiv 8 ≤ 500 := by omega
  have key : s.i3 = s.i2.2.samples ((logS s.filled.x).h0 - s.i2.1.tdiv 8) 6 := rfl
  generalize (logS s.filled.x).h0 - s.i2.1.tdiv 8 = f0 at hf key
  have n0 := next_b s.i2.2 n2 (by omega) (6 + 1)
  have hm := n0.1.2 (by omega)
  have hm0 := n0.1.1
  have s0 : SSk ([], f0, (s.i2.2.next (6 + 1)).2) 0 101309 := ⟨rfl, by simp, n0.2.1, by simp only; omega⟩
  have t0 : SSf ([], f0, (s.i2.2.next (6 + 1)).2) f0 0 := ⟨⟨Int.le_refl _, by simp⟩, by simp, List.Pairwise.nil⟩
  have itf : ∀ n, SSf (smpIt n ([], f0, (s.i2.2.next (6 + 1)).2)) f0 n := fun n => by
    induction n with
    | zero => exact t0
    | succ n ih => exact stepf_t ih (itk_ok s0 (by omega) n).2.2.1 (by omega)
  have a := itk_ok s0 (by omega) (s.i2.2.next (6 + 1)).1.toNat
  have b := itf (s.i2.2.next (6 + 1)).1.toNat
  have e3 : s.i3 = smpIt (s.i2.2.next (6 + 1)).1.toNat ([], f0, (s.i2.2.next (6 + 1)).2) := key
  rw [← e3] at a b
  obtain ⟨a1, a2, a3, _⟩ := a
  obtain ⟨⟨b1, b2⟩, b3, b4⟩ := b
  have hlen : s.i3.1.length ≤ 6 := by omega
  have hnum : ∀ e ∈ s.i3.1, -100 ≤ e.t ∧ e.t ≤ 600 := fun e he => by have := b3 e he; omega
  have hpos : (0 < s.i3.1.length → ¬ (ix s.i3.1 0).t < 0) → ∀ e ∈ s.i3.1, 0 ≤ e.t := fun h0 e he => by
    obtain ⟨j, hj, e1⟩ := List.getElem_of_mem he
    have h1 := h0 (by omega)
    rw [ix_lt (by omega)] at h1
    rcases Nat.eq_zero_or_pos j with hj0 | hj0
    · subst hj0; rw [e1] at h1; omega
    · have := (List.pairwise_iff_getElem.1 b4) 0 j (by omega) hj hj0
      rw [e1] at this
      omega
  have hs3 : s.i3.2.2.ok 101420 := wk a3 (by omega)
  have n4 := next_b s.i3.2.2 hs3 (by omega) 3
  have v4 : 0 ≤ s.i4.1 ∧ s.i4.1 < 3 := ⟨n4.1.1, n4.1.2 (by omega)⟩
  have n4 : s.i4.2.ok 101423 := n4.2.1
  have n5 := next_b s.i4.2 n4 (by omega) 4
  have v5 : 0 ≤ s.i5.1 ∧ s.i5.1 < 4 := ⟨n5.1.1, n5.1.2 (by omega)⟩
  have n5 : s.i5.2.ok 101426 := n5.2.1
  refine ⟨wk n1 (by omega), wk n2 (by omega), hs3, wk n4 (by omega), wk n5 (by omega), v1, v2, v3, v4, v5, hh, hlen, fun _ => by omega, hpos, hnum, ?_⟩
  have hB : smpsOK (igB s.i3.1) = true ∧ (igB s.i3.1).length ≤ 6 := by
    unfold igB
    split
    · exact ⟨by decide, by decide⟩
    · rename_i hno
      exact ⟨pairf_smps b4 (fun e he => ⟨hpos (fun h1 h2 => hno ⟨h1, h2⟩) e he, by have := hnum e he; omega⟩) a2 (by omega), hlen⟩
  unfold Src.ig Ig.ok igOK
  simp only [hB.1, decide_eq_false (show ¬ (8 : Int) < ((igB s.i3.1).length : Int) by have := hB.2; omega)]
  simp [within]
  omega
theorem ingIt_ok {x : Sto} {g : Ig} (hx : x.ok = true) (hg : g.ok = true) : ∀ k, (ingIt k (x, g)).1.ok = true ∧ (ingIt k (x, g)).2.ok = true ∧ (ingIt k (x, g)).1.os.length ≤ x.os.length + k ∧ (ingIt k (x, g)).1.next ≤ x.next + k
  | 0 => ⟨hx, hg, Nat.le_refl _, by simp [ingIt]⟩
  | k + 1 => by
    obtain ⟨h1, h2, h3, h4⟩ := ingIt_ok hx hg k
    have a := stI_st h1 (ingIt k (x, g)).2
    have b := stI_ig h1 h2
    have a2 := a.len
    have a3 := a.nxt
    exact ⟨a.ok, b, by show (stI _ _).1.os.length ≤ _; omega, by show (stI _ _).1.next ≤ _; omega⟩
set_option maxHeartbeats 4000000 in
theorem ingesting_fn (s : Src) (h : s.ok 100000) : FnM Tryz.prog 45 1 [.bptr 0 0] [(0, .box s.row)] (.tup [s.ix2.av, s.ix1.2.av]) [(0, .box s.i5.2.row)] 1 := by
  obtain ⟨m, E, F⟩ := filled_facts h
  have P := ig_p h
  have hl := ingIt_ok F.ok P.ok
  have c0 := filled_fn s h
  have c1 := l06Replay_fn s.filled.x F.ok
  have p1 := next_fn s.filled.s 3 (wk F.src (by omega))
  have p2 := next_fn s.i1.2 9 (wk P.s1 (by omega))
  have v1 := P.v1
  have v2 := P.v2
  have v3 := P.v2'
  have v4 := P.v4
  have v5 := P.v5
  have hh := P.h0
  have p3 := samplesZ_fn s.i2.2 ((logS s.filled.x).h0 - s.i2.1.tdiv 8) 6 (wk P.s2 (by omega)) (by omega) (by omega)
  have p4 := next_fn s.i3.2.2 3 (wk P.s3 (by omega))
  have p5 := chance_fn s.i4.2 4 (wk P.s4 (by omega)) (by omega)
  refine FnM.introC Tryz.call45 Tryz.func45 rfl rfl ?_
  conv => whnf
  refine CallC.k [(0, 0)] c0 rfl rfl (AVsle.refl _) ⟨MOle.refl _, trivial⟩ rfl ?_
  conv => whnf
  refine CallC.nl _ (c1) ?_ ?_
  · exact rfl
  conv => whnf
  refine DrawC.mkQ 14 [(.inl 0, 1), (.inl 0, 7), (.inl 0, 10), (.inr 12, 13)] rfl (by kernel_rfl) ?_
  refine And.intro (by kernel_rfl) ?_
  conv => whnf
  refine PCallQ.m 0 (p1) rfl rfl rfl rfl ?_
  conv => whnf
  refine And.intro (by omega) ?_
  conv => whnf
  refine PCallQ.m 0 (p2) rfl rfl rfl rfl ?_
  refine And.intro ⟨by decide, show inI .i64 (s.i2.1.tdiv 8) from inI64 (by omega) (by omega)⟩ ?_
  refine And.intro (show inI .i64 ((logS s.filled.x).h0 - s.i2.1.tdiv 8) from inI64 (by omega) (by omega)) ?_
  conv => whnf
  refine PCallQ.m 0 (p3) rfl rfl rfl rfl ?_
  conv => whnf
  -- the first loop
  by_cases hneg : 0 < s.i3.1.length ∧ (ix s.i3.1 0).t < 0
  case neg =>
    have hB : igB s.i3.1 = s.i3.1 := by unfold igB; rw [if_neg hneg]
    have hpos := P.t fun h1 h2 => hneg ⟨h1, h2⟩
    have hlen := P.len
    refine LoopC.mk (fun i : Nat => i ≤ s.i3.1.length) (fun i => [(0, .bptr 0 0), (2, .bptr 1 0), (3, .bptr 2 0), (4, .bptr 3 0), (5, .bptr 4 0), (6, .bptr 5 0), (7, .int .i64 i)])
      (fun i => [(0, .box s.i3.2.2.row), (1, .box [.nilsl, .int .i64 0]), (2, .box [.int .i64 0, .int .i64 0, .int .i64 0, .int .i64 0, .nilsl, .bool false]), (3, .box s.filled.x.row), (4, .box (logS s.filled.x).row), (5, .box s.ig.row)]) 6 (fun i => s.i3.1.length - i) 0
      ⟨Nat.zero_le _, [(0, 0), (1, 1), (2, 2), (4, 3), (5, 4), (18, 5)], rfl, rfl, ⟨AVle.refl _, AVle.refl _, AVle.refl _, AVle.refl _, AVle.refl _, AVle.refl _, AVle.refl _, trivial⟩, ⟨MOle.refl _, MOle.refl _, MOle.refl _, MOle.refl _, MOle.refl _, MOle.of_eq (by unfold Src.ig; rw [hB]; rfl), trivial⟩⟩ ?_
    unfold Src.ig
    rw [hB]
    intro i hi
    refine Grd.intro (fun g1 => ?_) (fun g1 => ?_)
    case _ =>
      have hin : i < s.i3.1.length := by have : (i : Int) < (s.i3.1.length : Int) := of_decide_eq_true g1; omega
      have h0 := hpos _ (getD_mem hin)
      refine And.intro (show (0 : Int) ≤ (i : Int) ∧ (i : Int) < (s.i3.1.length : Int) by omega) ?_
      refine Grd.intro (fun g2 => absurd (show (ix s.i3.1 ((i : Nat) : Int).toNat).t < 0 from of_decide_eq_true g2) (by have h0 : 0 ≤ (ix s.i3.1 ((i : Nat) : Int).toNat).t := h0; omega)) (fun _ => ?_)
      refine And.intro (inI64 (by omega) (by omega)) ?_
      exact ⟨i + 1, hin, by omega, [(0, 0), (1, 1), (2, 2), (3, 3), (4, 4), (5, 5)], rfl, rfl, ⟨AVle.refl _, AVle.refl _, AVle.refl _, AVle.refl _, AVle.refl _, AVle.refl _, AVle.of_eq (congrArg (AV.int .i64) (by simp)), trivial⟩, ⟨MOle.refl _, MOle.refl _, MOle.refl _, MOle.refl _, MOle.refl _, MOle.refl _, trivial⟩⟩
    clear g1
    conv => whnf
    refine CallC.k [(0, 0)] p4 rfl rfl (AVsle.refl _) ⟨MOle.refl _, trivial⟩ rfl ?_
    conv => whnf
    skip
    obtain ⟨M, hM⟩ : ∃ M : Nat, s.i4.1 = M := ⟨s.i4.1.toNat, by omega⟩
    have hM' : (s.i3.2.2.next 3).1 = (M : Int) := hM
    have ex1 : s.ix1 = ingIt M (s.filled.x, s.ig) := by unfold Src.ix1; rw [hM]; rfl
    rw [hM']
    refine LoopC.mk (fun k : Nat => k ≤ M) (fun k => [(0, .bptr 0 0), (2, .bptr 1 0), (3, .bptr 2 0), (4, .bptr 3 0), (5, .bptr 4 0), (6, .bptr 5 0), (8, .int .i64 ((M : Int) - k))])
      (fun k => [(0, .box s.i4.2.row), (1, .box [.nilsl, .int .i64 0]), (2, .box [.int .i64 0, .int .i64 0, .int .i64 0, .int .i64 0, .nilsl, .bool false]), (3, .box (ingIt k (s.filled.x, s.ig)).1.row), (4, .box (logS s.filled.x).row), (5, .box (ingIt k (s.filled.x, s.ig)).2.row)]) 6 (fun k => M - k) 0
      ⟨Nat.zero_le _, [(0, 0), (1, 1), (2, 2), (3, 3), (4, 4), (5, 5)], rfl, rfl, ⟨AVle.refl _, AVle.refl _, AVle.refl _, AVle.refl _, AVle.refl _, AVle.refl _, AVle.of_eq (congrArg (AV.int .i64) (by simp)), trivial⟩, ⟨MOle.refl _, MOle.refl _, MOle.refl _, MOle.refl _, MOle.refl _, MOle.of_eq (by show MO.box _ = MO.box s.ig.row; unfold Src.ig; rw [hB]; rfl), trivial⟩⟩ ?_
    intro k hk
    refine Grd.intro (fun g1 => ?_) (fun g1 => ?_)
    case _ =>
      have hkM : k < M := by have := of_decide_eq_true g1; omega
      obtain ⟨h1, h2, h3, h4⟩ := hl k
      have cs := sstep_fn (ingIt k (s.filled.x, s.ig)).1 h1 (ingIt k (s.filled.x, s.ig)).2 h2
      conv => whnf
      refine CallC.nl _ (cs) ?_ ?_
      · exact rfl
      refine And.intro (inI64 (by omega) (by omega)) ?_
      exact ⟨k + 1, hkM, by omega, [(0, 0), (1, 1), (2, 2), (3, 3), (4, 4), (5, 5)], rfl, rfl, ⟨AVle.refl _, AVle.refl _, AVle.refl _, AVle.refl _, AVle.refl _, AVle.refl _, AVle.of_eq (congrArg (AV.int .i64) (show (M : Int) - k - 1 = _ by omega)), trivial⟩, ⟨MOle.refl _, MOle.refl _, MOle.refl _, MOle.refl _, MOle.refl _, MOle.refl _, trivial⟩⟩
    case _ =>
      have hk' : k = M := by have := of_decide_eq_false g1; omega
      subst hk'
      rw [← ex1]
      have hx := hl k
      rw [← ex1] at hx
      obtain ⟨h1, h2, h3, h4⟩ := hx
      have hl1 := F.len
      have hl2 := F.nxt
      have hn1 := ((stoOK_iff _).1 h1).nx
      have hlb := log_b s.ix1.1
      have cr := l06Replay_fn s.ix1.1 h1
      have ck := l06Key_at (logS s.ix1.1).seq (by omega)
      have cs := l01Set_fn s.ix1.1 (by omega) ⟨by omega, by omega⟩ (manK ((logS s.ix1.1).seq + 1)) txtC
      have hg8 := (Ig.facts h2).len
      have co2 := l09Own_fn s.ix1.2 (by omega)
      conv => whnf
      refine CallC.k [(0, 0)] p5 rfl rfl (AVsle.refl _) ⟨MOle.refl _, trivial⟩ rfl ?_
      refine Grd.intro (fun g2 => ?_) (fun g2 => ?_)
      case _ =>
        have g2 : s.i5.1 = 3 := of_decide_eq_true g2
        have e2 : s.ix2 = s.ix1.1.set (manK ((logS s.ix1.1).seq + 1)) txtC := by unfold Src.ix2; rw [if_pos g2]
        rw [← e2] at cs
        have hl3 : s.ix2.os.length ≤ 1000000 := by rw [e2]; have := set_len_le s.ix1.1 (manK ((logS s.ix1.1).seq + 1)) txtC; omega
        have co1 := l01Own_fn s.ix2 hl3
        conv => whnf
        refine CallC.nl _ (cr) ?_ ?_
        · exact rfl
        conv => whnf
        refine DrawC.mk 6 rfl (by kernel_rfl) ?_
        refine And.intro (inI64 (by omega) (by omega)) ?_
        refine PCallC.sca _ (ck) rfl ?_
        refine PCallC.nl _ (cs) rfl ?_
        refine DrawC.mk 4 rfl (by kernel_rfl) ?_
        refine PCallC.nl _ (co1) rfl ?_
        refine PCallC.nl _ (co2) rfl ?_
        exact And.intro trivial ⟨[(0, 0)], rfl, AVle.refl _, ⟨MOle.refl _, trivial⟩⟩
      case _ =>
        have g2 : ¬ s.i5.1 = 3 := of_decide_eq_false g2
        have e2 : s.ix2 = s.ix1.1 := by unfold Src.ix2; rw [if_neg g2]
        rw [e2]
        have co1 := l01Own_fn s.ix1.1 (by omega)
        refine DrawC.mk 4 rfl (by kernel_rfl) ?_
        refine PCallC.nl _ (co1) rfl ?_
        refine PCallC.nl _ (co2) rfl ?_
        exact And.intro trivial ⟨[(0, 0)], rfl, AVle.refl _, ⟨MOle.refl _, trivial⟩⟩
  case pos =>
    have hB : igB s.i3.1 = [] := by unfold igB; rw [if_pos hneg]
    have hlen := P.len
    obtain ⟨hn1, hn2⟩ := hneg
    have hrow : ∀ rows : Nat → List AV, AVsle [.int .i64 s.i1.1, .int .i64 0, .int .i64 0, .int .i64 0, .sl 2 0 rows, .bool false] s.ig.row := fun rows => by
      unfold Src.ig
      rw [hB]
      exact AVsle.cons (AVle.refl _) (AVsle.cons (AVle.refl _) (AVsle.cons (AVle.refl _) (AVsle.cons (AVle.refl _) (AVsle.cons (AVle.sl rfl fun i hi => absurd hi (Nat.not_lt_zero i)) (AVsle.refl _)))))
    refine LoopC.rounds 2 ?_
    refine Grd.intro (fun g1 => ?_) (fun g1 => absurd (show ¬ (0 : Int) < (s.i3.1.length : Int) from of_decide_eq_false g1) (by omega))
    refine And.intro (show (0 : Int) ≤ 0 ∧ (0 : Int) < (s.i3.1.length : Int) by omega) ?_
    refine Grd.intro (fun g2 => ?_) (fun g2 => absurd (show ¬ (ix s.i3.1 0).t < 0 from of_decide_eq_false g2) (by omega))
    clear g1 g2
    refine And.intro (inI64 (by decide) (by decide)) ?_
    conv => whnf
    refine CallC.k [(0, 0)] p4 rfl rfl (AVsle.refl _) ⟨MOle.refl _, trivial⟩ rfl ?_
    conv => whnf
    skip
    obtain ⟨M, hM⟩ : ∃ M : Nat, s.i4.1 = M := ⟨s.i4.1.toNat, by omega⟩
    have hM' : (s.i3.2.2.next 3).1 = (M : Int) := hM
    have ex1 : s.ix1 = ingIt M (s.filled.x, s.ig) := by unfold Src.ix1; rw [hM]; rfl
    rw [hM']
    refine LoopC.mk (fun k : Nat => k ≤ M) (fun k => [(0, .bptr 0 0), (2, .bptr 1 0), (3, .bptr 2 0), (4, .bptr 3 0), (5, .bptr 4 0), (6, .bptr 5 0), (8, .int .i64 ((M : Int) - k))])
      (fun k => [(0, .box s.i4.2.row), (1, .box [.nilsl, .int .i64 0]), (2, .box [.int .i64 0, .int .i64 0, .int .i64 0, .int .i64 0, .nilsl, .bool false]), (3, .box (ingIt k (s.filled.x, s.ig)).1.row), (4, .box (logS s.filled.x).row), (5, .box (ingIt k (s.filled.x, s.ig)).2.row)]) 6 (fun k => M - k) 0
      ⟨Nat.zero_le _, [(0, 0), (1, 1), (2, 2), (4, 3), (5, 4), (18, 5)], rfl, rfl, ⟨AVle.refl _, AVle.refl _, AVle.refl _, AVle.refl _, AVle.refl _, AVle.refl _, AVle.of_eq (congrArg (AV.int .i64) (by simp)), trivial⟩, ⟨MOle.refl _, MOle.refl _, MOle.refl _, MOle.refl _, MOle.refl _, MOle.box (hrow _), trivial⟩⟩ ?_
    intro k hk
    refine Grd.intro (fun g1 => ?_) (fun g1 => ?_)
    case _ =>
      have hkM : k < M := by have := of_decide_eq_true g1; omega
      obtain ⟨h1, h2, h3, h4⟩ := hl k
      have cs := sstep_fn (ingIt k (s.filled.x, s.ig)).1 h1 (ingIt k (s.filled.x, s.ig)).2 h2
      conv => whnf
      refine CallC.nl _ (cs) ?_ ?_
      · exact rfl
      refine And.intro (inI64 (by omega) (by omega)) ?_
      exact ⟨k + 1, hkM, by omega, [(0, 0), (1, 1), (2, 2), (3, 3), (4, 4), (5, 5)], rfl, rfl, ⟨AVle.refl _, AVle.refl _, AVle.refl _, AVle.refl _, AVle.refl _, AVle.refl _, AVle.of_eq (congrArg (AV.int .i64) (show (M : Int) - k - 1 = _ by omega)), trivial⟩, ⟨MOle.refl _, MOle.refl _, MOle.refl _, MOle.refl _, MOle.refl _, MOle.refl _, trivial⟩⟩
    case _ =>
      have hk' : k = M := by have := of_decide_eq_false g1; omega
      subst hk'
      rw [← ex1]
      have hx := hl k
      rw [← ex1] at hx
      obtain ⟨h1, h2, h3, h4⟩ := hx
      have hl1 := F.len
      have hl2 := F.nxt
      have hn1 := ((stoOK_iff _).1 h1).nx
      have hlb := log_b s.ix1.1
      have cr := l06Replay_fn s.ix1.1 h1
      have ck := l06Key_at (logS s.ix1.1).seq (by omega)
      have cs := l01Set_fn s.ix1.1 (by omega) ⟨by omega, by omega⟩ (manK ((logS s.ix1.1).seq + 1)) txtC
      have hg8 := (Ig.facts h2).len
      have co2 := l09Own_fn s.ix1.2 (by omega)
      conv => whnf
      refine CallC.k [(0, 0)] p5 rfl rfl (AVsle.refl _) ⟨MOle.refl _, trivial⟩ rfl ?_
      refine Grd.intro (fun g2 => ?_) (fun g2 => ?_)
      case _ =>
        have g2 : s.i5.1 = 3 := of_decide_eq_true g2
        have e2 : s.ix2 = s.ix1.1.set (manK ((logS s.ix1.1).seq + 1)) txtC := by unfold Src.ix2; rw [if_pos g2]
        rw [← e2] at cs
        have hl3 : s.ix2.os.length ≤ 1000000 := by rw [e2]; have := set_len_le s.ix1.1 (manK ((logS s.ix1.1).seq + 1)) txtC; omega
        have co1 := l01Own_fn s.ix2 hl3
        conv => whnf
        refine CallC.nl _ (cr) ?_ ?_
        · exact rfl
        conv => whnf
        refine DrawC.mk 6 rfl (by kernel_rfl) ?_
        refine And.intro (inI64 (by omega) (by omega)) ?_
        refine PCallC.sca _ (ck) rfl ?_
        refine PCallC.nl _ (cs) rfl ?_
        refine DrawC.mk 4 rfl (by kernel_rfl) ?_
        refine PCallC.nl _ (co1) rfl ?_
        refine PCallC.nl _ (co2) rfl ?_
        exact And.intro trivial ⟨[(0, 0)], rfl, AVle.refl _, ⟨MOle.refl _, trivial⟩⟩
      case _ =>
        have g2 : ¬ s.i5.1 = 3 := of_decide_eq_false g2
        have e2 : s.ix2 = s.ix1.1 := by unfold Src.ix2; rw [if_neg g2]
        rw [e2]
        have co1 := l01Own_fn s.ix1.1 (by omega)
        refine DrawC.mk 4 rfl (by kernel_rfl) ?_
        refine PCallC.nl _ (co1) rfl ?_
        refine PCallC.nl _ (co2) rfl ?_
        exact And.intro trivial ⟨[(0, 0)], rfl, AVle.refl _, ⟨MOle.refl _, trivial⟩⟩
end Go.Proofs.YtopfpmcakoeloaaGreatDoor
set_option linter.unusedVariables false
set_option linter.constructorNameAsVariable false
set_option linter.unusedSimpArgs false
set_option maxRecDepth 20000
namespace Go.Proofs.YtopfpmcakoeloaaGreatDoor
open Go Go.Vw

def eqS {α : Type} [Inhabited α] (q : α → α → Bool) (L M : List α) : Bool := decide ((L.length : Int) = M.length) && allN L.length fun i => q (ix L i) (ix M i)
theorem eqS_len {α : Type} [Inhabited α] {q : α → α → Bool} {L M : List α} (h : ¬ (L.length : Int) = M.length) : eqS q L M = false := by
  unfold eqS; rw [decide_eq_false h]; rfl
theorem eqS_no {α : Type} [Inhabited α] {q : α → α → Bool} {L M : List α} {i : Nat} (hi : i < L.length) (h : q (ix L i) (ix M i) = false) : eqS q L M = false := by
  unfold eqS; rw [allN_no (q := fun i => q (ix L i) (ix M i)) hi h]; simp
theorem eqS_yes {α : Type} [Inhabited α] {q : α → α → Bool} {L M : List α} (hl : (L.length : Int) = M.length) (h : ∀ j, j < L.length → q (ix L j) (ix M j) = true) : eqS q L M = true := by
  unfold eqS; rw [decide_eq_true hl, allN_iff.2 h]; rfl
def Ob.eqb (x y : Ob) : Bool := ((B x.key).toList == (B y.key).toList) && (decide (x.ver = y.ver) && (((B x.data).toList == (B y.data).toList) && true))
def En.eqb (x y : En) : Bool := decide (x.tier = y.tier) && (decide (x.f = y.f) && (decide (x.t = y.t) && (((B x.key).toList == (B y.key).toList) && true)))
def Smp.eqb (x y : Smp) : Bool := decide (x.t = y.t) && (decide (x.v = y.v) && true)
def Rc.eqb (x y : Rc) : Bool := decide (x.k = y.k) && (decide (x.tok = y.tok) && (decide (x.tier = y.tier) && (decide (x.f = y.f) && (decide (x.t = y.t) && (((B x.key).toList == (B y.key).toList) && true)))))
def Bk.eqb (x y : Bk) : Bool := decide (x.t = y.t) && ((Ag.eqb x.a y.a) && true)
theorem EqualSmp2_fn (L M : List Smp) (hL : L.length ≤ 1048576) (hM : M.length ≤ 1048576) : VFn Tryz.prog 46 [smps L, smps M] (.bool (eqS Smp.eqb L M)) := by
  by_cases hl : (L.length : Int) = M.length
  · refine VFn.introC Tryz.call46 Tryz.func46 rfl rfl ?_
    refine Grd.intro (fun g => ?_) (fun _ => ?_)
    · exfalso; simp [hl] at g
    refine LoopC.mk (fun i : Nat => i ≤ L.length ∧ ∀ j, j < i → Smp.eqb (ix L j) (ix M j) = true) (fun i => [(0, smps L), (1, smps M), (12, .int .i64 L.length), (13, .int .i64 i)]) (fun i => []) 0 (fun i => L.length - i) 0
      ⟨⟨Nat.zero_le _, fun j hj => absurd hj (Nat.not_lt_zero j)⟩, [], rfl, rfl, ⟨AVle.refl _, AVle.refl _, AVle.refl _, AVle.refl _, trivial⟩, trivial⟩ ?_
    intro i hi
    obtain ⟨hi, h0⟩ := hi
    refine Grd.intro (fun h2 => ?_) (fun h2 => ?_)
    · have hin : i < L.length := by have := of_decide_eq_true h2; omega
      refine DrawC.mk 8 rfl (by kernel_rfl) ?_
      refine And.intro (by omega) ?_
      refine And.intro (by omega) ?_
      refine And.intro (by kernel_rfl) ?_
      refine Grd.intro (fun g => ?_) (fun g => ?_)
      · have g : (!Smp.eqb (ix L i) (ix M i)) = true := g
        rw [eqS_no hin (by simpa using g)]
        exact And.intro trivial (AVle.refl _)
      · have g : (!Smp.eqb (ix L i) (ix M i)) = false := g
        have g : Smp.eqb (ix L i) (ix M i) = true := by simpa using g
        refine And.intro (inI64 (by omega) (by omega)) ?_
        exact ⟨i + 1, ⟨hin, fun j hj => by
          rcases Nat.lt_or_ge j i with h' | h'
          · exact h0 j h'
          · rw [show j = i by omega]; exact g⟩, by omega, [], rfl, rfl, ⟨AVle.refl _, AVle.refl _, AVle.refl _, AVle.of_eq (congrArg (AV.int .i64) (by simp)), trivial⟩, trivial⟩
    · have : i = L.length := by have := of_decide_eq_false h2; omega
      subst this
      rw [eqS_yes hl h0]
      exact And.intro trivial (AVle.refl _)
  · rw [eqS_len hl]
    refine VFn.introC Tryz.call46 Tryz.func46 rfl rfl ?_
    refine Grd.intro (fun g => ?_) (fun g => ?_)
    · exact And.intro trivial (AVle.refl _)
    · exfalso; simp [hl] at g
end Go.Proofs.YtopfpmcakoeloaaGreatDoor
set_option linter.unusedVariables false
set_option linter.constructorNameAsVariable false
set_option linter.unusedSimpArgs false
set_option maxRecDepth 20000
namespace Go.Proofs.YtopfpmcakoeloaaGreatDoor
open Go Go.Vw

theorem at_fn6 (L : List UInt8) (i n : Int) (hm : L.length ≤ 1048576) (hi : 0 ≤ i ∧ i ≤ 1000) (hn : 1 < n ∧ n ≤ 1000) : ∃ v, (0 ≤ v ∧ v < n) ∧ VFn Tryz.prog 24 [byts L, .int .i64 i, .int .i64 n] (.int .i64 v) := by
  by_cases h0 : L.length = 0
  · refine ⟨(i * 7).tmod n, tmod_b (by omega) (by omega), ?_⟩
    refine VFn.introC Tryz.call24 Tryz.func24 rfl rfl ?_
    refine Grd.intro (fun h => absurd (of_decide_eq_true h) (by omega)) (fun _ => ?_)
    refine Grd.intro (fun h => ?_) (fun h => absurd (of_decide_eq_false h) (by omega))
    refine And.intro (inI64 (by omega) (by omega)) ?_
    refine And.intro (show n ≠ 0 by omega) ?_
    exact And.intro trivial (AVle.refl _)
  · have q1 := tmod_b (n := i) (m := L.length) (by omega) (by omega)
    have q2 := tmod_b (n := i + 1) (m := L.length) (by omega) (by omega)
    have q3 := tdiv_b (n := i) (m := L.length) (by omega) (by omega)
    have b1 := (ix L (i.tmod L.length).toNat).toNat_lt
    have b2 := (ix L ((i + 1).tmod L.length).toNat).toNat_lt
    refine ⟨(((ix L (i.tmod L.length).toNat).toNat : Int) * 31 + ((ix L ((i + 1).tmod L.length).toNat).toNat : Int) + i.tdiv L.length).tmod n, tmod_b (by omega) (by omega), ?_⟩
    refine VFn.introC Tryz.call24 Tryz.func24 rfl rfl ?_
    refine Grd.intro (fun h => absurd (of_decide_eq_true h) (by omega)) (fun _ => ?_)
    refine Grd.intro (fun h => absurd (of_decide_eq_true h) (by omega)) (fun h => ?_)
    refine DrawC.mk 25 rfl (by kernel_rfl) ?_
    refine And.intro (show (L.length : Int) ≠ 0 by omega) ?_
    refine And.intro q1 ?_
    refine And.intro (show inI .i64 _ from inI64 (by omega) (by omega)) ?_
    refine And.intro (show inI .i64 _ from inI64 (by omega) (by omega)) ?_
    refine And.intro (show inI .i64 (i + 1) from inI64 (by omega) (by omega)) ?_
    refine And.intro (show (L.length : Int) ≠ 0 by omega) ?_
    refine And.intro q2 ?_
    refine And.intro (show inI .i64 _ from inI64 (by omega) (by omega)) ?_
    refine And.intro (show inI .i64 _ from inI64 (by omega) (by omega)) ?_
    refine And.intro ⟨show (L.length : Int) ≠ 0 by omega, show inI .i64 (i.tdiv L.length) from inI64 (by omega) (by omega)⟩ ?_
    refine And.intro (show inI .i64 _ from inI64 (by omega) (by omega)) ?_
    refine And.intro (show n ≠ 0 by omega) ?_
    exact And.intro trivial (AVle.refl _)
theorem sameStore6_fn (s : Sto) (hL : s.os.length ≤ 1000000) : VFn Tryz.prog 19 [s.av, s.av] (.bool true) := by
  refine VFn.introC Tryz.call19 Tryz.func19 rfl rfl ?_
  refine Grd.intro (fun h => absurd h (by simp)) (fun _ => ?_)
  refine Grd.intro (fun h => absurd h (by simp)) (fun _ => ?_)
  refine LoopC.mk (fun i : Nat => i ≤ s.os.length) (fun i => [(2, .bptr 0 0), (3, .bptr 1 0), (5, .int .i64 i)]) (fun i => [(0, .box s.row), (1, .box s.row)]) 2 (fun i => s.os.length - i) 0
    ⟨Nat.zero_le _, [(0, 0), (1, 1)], rfl, rfl, ⟨AVle.refl _, AVle.refl _, AVle.refl _, trivial⟩, ⟨MOle.refl _, MOle.refl _, trivial⟩⟩ ?_
  intro i hi
  refine Grd.intro (fun h2 => ?_) (fun h2 => ?_)
  · have hin : i < s.os.length := by have := of_decide_eq_true h2; omega
    refine DrawC.mk 10 rfl (by kernel_rfl) ?_
    refine And.intro (by omega) ?_
    refine And.intro (by omega) ?_
    refine And.intro (by kernel_rfl) ?_
    refine Grd.intro (fun h => absurd h (by simp)) (fun _ => ?_)
    refine And.intro (inI64 (by omega) (by omega)) ?_
    exact ⟨i + 1, hin, by omega, [(0, 0), (1, 1)], rfl, rfl, ⟨AVle.refl _, AVle.refl _, AVle.of_eq (congrArg (AV.int .i64) (by simp)), trivial⟩, ⟨MOle.refl _, MOle.refl _, trivial⟩⟩
  · exact And.intro trivial (AVle.refl _)
theorem sameSamples6_fn (L : List Smp) (hL : L.length ≤ 1000000) : VFn Tryz.prog 21 [smps L, smps L] (.bool true) := by
  refine VFn.introC Tryz.call21 Tryz.func21 rfl rfl ?_
  refine Grd.intro (fun h => absurd h (by simp)) (fun _ => ?_)
  refine LoopC.mk (fun i : Nat => i ≤ L.length) (fun i => [(0, smps L), (1, smps L), (5, .int .i64 i)]) (fun i => []) 0 (fun i => L.length - i) 0
    ⟨Nat.zero_le _, [], rfl, rfl, ⟨AVle.refl _, AVle.refl _, AVle.refl _, trivial⟩, trivial⟩ ?_
  intro i hi
  refine Grd.intro (fun h2 => ?_) (fun h2 => ?_)
  · have hin : i < L.length := by have := of_decide_eq_true h2; omega
    refine DrawC.mk 9 rfl (by kernel_rfl) ?_
    refine And.intro (by omega) ?_
    refine And.intro (by omega) ?_
    refine And.intro (by kernel_rfl) ?_
    refine Grd.intro (fun h => absurd h (by simp)) (fun _ => ?_)
    refine And.intro (inI64 (by omega) (by omega)) ?_
    exact ⟨i + 1, hin, by omega, [], rfl, rfl, ⟨AVle.refl _, AVle.refl _, AVle.of_eq (congrArg (AV.int .i64) (by simp)), trivial⟩, trivial⟩
  · exact And.intro trivial (AVle.refl _)
theorem eqS_refl {α : Type} [Inhabited α] (f : α → α → Bool) (h : ∀ a, f a a = true) (L : List α) : eqS f L L = true := by
  unfold eqS
  rw [decide_eq_true rfl, Bool.true_and]
  exact allN_iff.2 fun i _ => h _
theorem SameIngester6_fn (z : Ig) (hz : z.b.length ≤ 1048576) : VFn Tryz.prog 20 [z.av, z.av] (.bool true) := by
  have c := EqualSmp2_fn z.b z.b hz hz
  rw [eqS_refl Smp.eqb (fun a => by unfold Smp.eqb; simp)] at c
  refine VFn.introC Tryz.call20 Tryz.func20 rfl rfl ?_
  repeat' (conv => whnf
           first
             | (refine Grd.intro (fun h => ?_) (fun h => ?_); rotate_left; focus (exfalso; simp_all; done))
             | (refine Grd.intro (fun h => ?_) (fun h => ?_); focus (exfalso; simp_all; done))
             | refine OpC.bneq rfl rfl rfl rfl rfl ?_
             | refine OpC.beql rfl rfl rfl rfl rfl ?_
             | (refine CallC.sca _ c ?_ ?_; focus (exact rfl))
             | fail)
  all_goals first
    | exact And.intro trivial (AVle.refl _)
    | exact And.intro trivial (AVle.of_eq (congrArg AV.bool (by simp)))
structure IngB (s : Src) : Prop where
  ok : s.ix2.ok = true
  ok2 : s.ix1.2.ok = true
theorem ing_b {s : Src} (h : s.ok 100000) : IngB s := by
  obtain ⟨m, E, F⟩ := filled_facts h
  have P := ig_p h
  obtain ⟨h1, h2, h3, h4⟩ := ingIt_ok F.ok P.ok s.i4.1.toNat
  have v4 := P.v4
  have h3 : s.ix1.1.os.length ≤ s.filled.x.os.length + s.i4.1.toNat := h3
  have h4 : s.ix1.1.next ≤ s.filled.x.next + s.i4.1.toNat := h4
  have hl := F.len
  have hn := F.nxt
  refine ⟨?_, h2⟩
  unfold Src.ix2
  split
  · exact set_ok h1 (manK_keyOK _) (room_yes (by decide) (by omega) (by omega))
  · exact h1
theorem StoRd_ok {x : Sto} (h : x.ok = true) : StoRd x := by
  obtain ⟨a1, a2, a3, _, _⟩ := (stoOK_iff x).1 h
  refine ⟨by omega, fun o ho => ?_, by omega⟩
  have := (a3 o ho).1
  unfold keyOK at this
  simp only [Bool.and_eq_true, within, decide_eq_true_eq] at this
  omega
theorem IngestingStore_fn (code : List UInt8) (h : code.length ≤ 1048576) : VFn Tryz.prog 17 [byts code] (srcOf code).ix2.av := by
  have hs := wk (src_ok code h) (show (0 : Int) ≤ 100000 by decide)
  have c := ingesting_fn (srcOf code) hs
  refine VFn.introC Tryz.call17 Tryz.func17 rfl rfl ?_
  conv => whnf
  refine CallC.k [] (l00Source_fn code h) rfl rfl (AVsle.refl _) trivial rfl ?_
  conv => whnf
  refine CallC.k [(1, 0)] c rfl rfl (AVsle.refl _) ⟨MOle.refl _, trivial⟩ rfl ?_
  exact And.intro trivial (AVle.refl _)
theorem IngestingOne_fn (code : List UInt8) (h : code.length ≤ 1048576) : VFn Tryz.prog 18 [byts code] (srcOf code).ix1.2.av := by
  have hs := wk (src_ok code h) (show (0 : Int) ≤ 100000 by decide)
  have c := ingesting_fn (srcOf code) hs
  refine VFn.introC Tryz.call18 Tryz.func18 rfl rfl ?_
  conv => whnf
  refine CallC.k [] (l00Source_fn code h) rfl rfl (AVsle.refl _) trivial rfl ?_
  conv => whnf
  refine CallC.k [(1, 0)] c rfl rfl (AVsle.refl _) ⟨MOle.refl _, trivial⟩ rfl ?_
  exact And.intro trivial (AVle.refl _)
theorem NewIngester_fn (id : Int) (h : 0 ≤ id ∧ id ≤ 9) : VFn Tryz.prog 23 [.int .i64 id] (.tup [(ingR id).av, .int .i64 0]) := by
  have c := isId0 id
  rw [show within id 0 9 = true by simp [within]; omega] at c
  refine VFn.introC Tryz.call23 Tryz.func23 rfl rfl ?_
  conv => whnf
  refine CallC.sca _ (c) ?_ ?_
  · exact rfl
  refine And.intro trivial (AVle.tup (AVsle.cons (AVle.agg (AVsle.cons (AVle.refl _) (AVsle.cons (AVle.refl _) (AVsle.cons (AVle.refl _) (AVsle.cons (AVle.refl _) (AVsle.cons (AVle.nilsl _ _ rfl) (AVsle.refl _))))))) (AVsle.refl _)))
theorem lawIngester (code more : List UInt8) (h1 : code.length ≤ 9223372036854775807) (h2 : more.length ≤ 9223372036854775807) : VFn Tryz.prog 4 [byts code, byts more] (.bool true) := by
  by_cases hL1 : 1048576 < code.length
  · refine VFn.introC Tryz.call4 Tryz.func4 rfl rfl ?_
    refine Grd.intro (fun _ => ?_) (fun h => absurd (of_decide_eq_false h) (by omega))
    exact And.intro trivial (AVle.refl _)
  by_cases hL2 : 1048576 < more.length
  · refine VFn.introC Tryz.call4 Tryz.func4 rfl rfl ?_
    refine Grd.intro (fun h => absurd (of_decide_eq_true h) (by omega)) (fun _ => ?_)
    refine Grd.intro (fun _ => ?_) (fun h => absurd (of_decide_eq_false h) (by omega))
    exact And.intro trivial (AVle.refl _)
  have hb := ing_b (wk (src_ok code (by omega)) (show (0 : Int) ≤ 100000 by decide))
  obtain ⟨v, hv, cv⟩ := at_fn6 more 0 10 (by omega) (by omega) (by omega)
  have cn := NewIngester_fn v (by omega)
  have cst := IngestingStore_fn code (by omega)
  have cig := IngestingOne_fn code (by omega)
  obtain ⟨hb1, hb2⟩ := hb
  generalize (srcOf code).ix2 = x at *
  generalize (srcOf code).ix1.2 = g at *
  have hl := ingIt_ok hb1 hb2
  refine VFn.introC Tryz.call4 Tryz.func4 rfl rfl ?_
  refine Grd.intro (fun h => absurd (of_decide_eq_true h) (by omega)) (fun _ => ?_)
  refine Grd.intro (fun h => absurd (of_decide_eq_true h) (by omega)) (fun _ => ?_)
  conv => whnf
  refine CallC.nl _ (cst) ?_ ?_
  · exact rfl
  conv => whnf
  refine CallC.nl _ (cig) ?_ ?_
  · exact rfl
  clear cst cig
  refine LoopC.mk (fun i : Nat => i ≤ 3) (fun i => [(1, byts more), (5, .bptr 0 0), (6, .bptr 1 0), (7, .int .i64 i)])
    (fun i => [(0, .box (ingIt i (x, g)).1.row), (1, .box (ingIt i (x, g)).2.row)]) 2 (fun i => 3 - i) 0
    ⟨Nat.zero_le _, [(0, 0), (1, 1)], rfl, rfl, ⟨AVle.refl _, AVle.refl _, AVle.refl _, AVle.refl _, trivial⟩, ⟨MOle.refl _, MOle.refl _, trivial⟩⟩ ?_
  intro i hi
  refine Grd.intro (fun q1 => ?_) (fun q1 => ?_)
  · have hi3 : i < 3 := by have : (i : Int) < 3 := of_decide_eq_true q1; omega
    obtain ⟨k1, k2, _, _⟩ := hl i
    have e1 : (ingIt (i + 1) (x, g)).1 = (stI (ingIt i (x, g)).1 (ingIt i (x, g)).2).1 := rfl
    have e2 : (ingIt (i + 1) (x, g)).2 = (stI (ingIt i (x, g)).1 (ingIt i (x, g)).2).2.1 := rfl
    generalize (ingIt i (x, g)).1 = X at k1 e1 e2 ⊢
    generalize (ingIt i (x, g)).2 = G at k2 e1 e2 ⊢
    have hr := StoRd_ok k1
    have hlen := stI_len k1 k2
    have hg := stI_ig k1 k2
    have hgb := (Ig.facts k2).len
    obtain ⟨y, z, d, c, he⟩ : ∃ y z d c, stI X G = (y, z, d, c) := ⟨_, _, _, _, rfl⟩
    rw [he] at hlen hg e1 e2
    simp only at hlen hg e1 e2
    have c1 : VFn Tryz.prog 10 [X.av, G.av] (.tup [y.av, z.av, .bool d, .int .i64 c]) := (StepIngester_own X hr G (by omega) k1 k2 y z d c he).vfn
    have c2 := specStepIngester_yes X hr G (by omega) k1 k2 y z d c he
    have c3 := sameStore6_fn y (by omega)
    have c4 := SameIngester6_fn z (by omega)
    have c5 := sameSamples6_fn z.b (by omega)
    have c6 := IngesterOK_fn z (by omega)
    rw [hg] at c6
    clear he hr k1 k2 hl
    conv => whnf
    refine CallC.nl _ (c1) ?_ ?_
    · exact rfl
    conv => whnf
    refine CallC.nl _ (c2) ?_ ?_
    · exact rfl
    repeat' (conv => whnf
             first
               | (refine Grd.intro (fun h => ?_) (fun h => ?_); rotate_left; focus (exfalso; simp_all; done))
               | (refine Grd.intro (fun h => ?_) (fun h => ?_); focus (exfalso; simp_all; done))
               | refine OpC.bneq rfl rfl rfl rfl rfl ?_
               | (refine CallC.sca _ c3 ?_ ?_; focus (exact rfl))
               | (refine CallC.sca _ c4 ?_ ?_; focus (exact rfl))
               | (refine CallC.sca _ c5 ?_ ?_; focus (exact rfl))
               | (refine CallC.sca _ c6 ?_ ?_; focus (exact rfl))
               | refine And.intro (inI64 (by omega) (by omega)) ?_
               | fail)
    exact ⟨i + 1, hi3, by omega, [(0, 0), (1, 1)], rfl, rfl, ⟨AVle.refl _, AVle.refl _, AVle.refl _, AVle.of_eq (congrArg (AV.int .i64) (by simp)), trivial⟩, ⟨MOle.of_eq (by rw [e1]; rfl), MOle.of_eq (by rw [e2]; rfl), trivial⟩⟩
  · clear hl
    conv => whnf
    refine CallC.sca _ (cv) ?_ ?_
    · exact rfl
    conv => whnf
    refine CallC.nl _ (cn) ?_ ?_
    · exact rfl
    refine DrawC.mk 10 rfl (by kernel_rfl) ?_
    refine PCallC.sca _ (cv) rfl ?_
    exact And.intro trivial (AVle.of_eq (congrArg AV.bool (by simp [ingR])))
theorem law_Ingester (code : List UInt8) (hc : code.length ≤ 9223372036854775807) (more : List UInt8) (hm : more.length ≤ 9223372036854775807) : VFn Tryz.prog 4 [byts code, byts more] (.bool true) := lawIngester code more hc hm
end Go.Proofs.YtopfpmcakoeloaaGreatDoor
