/- Contracts of functions that the claim reaches, and the plain law of what they compute; each theorem bears its own conditions. -/
import Derived.Test.YtopfpmcakoeloaaGreatDoorQ7
import Derived.Test.YtopfpmcakoeloaaGreatDoorQ9
import Derived.Test.YtopfpmcakoeloaaGreatDoorQ5
import Derived.Test.YtopfpmcakoeloaaGreatDoorQ4
import Derived.Test.YtopfpmcakoeloaaGreatDoorQ1
import Derived.Test.YtopfpmcakoeloaaGreatDoorQ3
set_option linter.unusedVariables false
set_option linter.constructorNameAsVariable false
set_option linter.unusedSimpArgs false
set_option maxRecDepth 20000
namespace Go.Proofs.YtopfpmcakoeloaaGreatDoor
open Go Go.Vw

theorem key_fields {t n w : Nat} (ht : t ≤ 2) (hn : n ≤ 999999) (hw : w ≤ 999999) : kOk (keyB t n w) = true ∧ kT (keyB t n w) = t ∧ kN (keyB t n w) = n ∧ kW (keyB t n w) = w := by
  have h := parse_key ht hn hw
  unfold kOk kT kN kW
  rw [h]
  exact ⟨rfl, rfl, rfl, rfl⟩
theorem dataKey_fn (t : Nat) (n w : Int) (ht : t ≤ 2) (hn : within n 0 999999 = true) (hw : within w 0 999999 = true) : VFn Tryz.prog 66 [.int .i64 (t : Int), .int .i64 n, .int .i64 w] (.str (B (keyB t n.toNat w.toNat))) := by
  have e : keyB t n.toNat w.toNat = pre t ++ six6 n.toNat ++ [45] ++ six6 w.toNat := by unfold keyB; simp
  have h : t = 0 ∨ t = 1 ∨ t = 2 := by omega
  rcases h with rfl | rfl | rfl
  all_goals
    refine VFn.introC Tryz.call66 Tryz.func66 rfl rfl ?_
    refine DrawC.mk 12 rfl (by kernel_rfl) ?_
    refine PCallC.nl _ (dataPrefixes_fn) rfl ?_
    refine And.intro ⟨by decide, by decide⟩ ?_
    refine PCallC.sca _ (six_fn n hn) rfl ?_
    refine And.intro (show (_ : Int) ≤ 9223372036854775807 by rw [B_size, B_size]; simp [six6, pre]) ?_
    refine And.intro (show (((B _ ++ B _).size + (B [45]).size : Nat) : Int) ≤ 9223372036854775807 by rw [B_app, B_size, B_size]; simp [six6, pre]) ?_
    refine PCallC.sca _ (six_fn w hw) rfl ?_
    refine And.intro (show (((B _ ++ B _ ++ B [45]).size + (B _).size : Nat) : Int) ≤ 9223372036854775807 by rw [B_app, B_app, B_size, B_size]; simp [six6, pre]) ?_
    exact And.intro trivial (AVle.of_eq (congrArg AV.str (show B _ ++ B _ ++ B [45] ++ B _ = _ by rw [e, B_app, B_app, B_app]; rfl)))
def ingR (id : Int) : Ig := ⟨id, 0, 0, 0, [], false⟩
def ingRec (g : Ig) : Rc := ⟨1, 0, 0, g.f, g.t, keyB 0 g.seq.toNat g.id.toNat⟩
def ingK (x : Sto) (g : Ig) : List UInt8 := keyB 0 ((logS x).seq + 1).toNat g.id.toNat
def ingPut (x : Sto) (g : Ig) : Ig := ⟨g.id, (logS x).seq + 1, (logS x).h0, (ix g.b (g.b.length - 1)).t + 1, g.b, true⟩
def stI (x : Sto) (g : Ig) : Sto × Ig × Bool × Int :=
  if g.b.length = 0 then (x, g, false, 18)
  else if g.put = true then
    if (appS x g.seq (ingRec g)).2 = 0 then ((appS x g.seq (ingRec g)).1, ingR g.id, true, 0)
    else if (appS x g.seq (ingRec g)).2 = 9 then (x, ⟨g.id, 0, 0, 0, g.b, false⟩, false, 0)
    else (x, ingR g.id, false, (appS x g.seq (ingRec g)).2)
  else if (ix g.b 0).t < (logS x).h0 then (x, ingR g.id, false, 14)
  else if (logS x).seq = 999999 then (x, ingR g.id, false, 7)
  else if x.room (ingK x g) (smpsText g.b) = 0 then (x.set (ingK x g) (smpsText g.b), ingPut x g, false, 0)
  else (x, ingR g.id, false, x.room (ingK x g) (smpsText g.b))
structure IgF (g : Ig) : Prop where
  id : 0 ≤ g.id ∧ g.id ≤ 9
  sm : smpsOK g.b = true
  len : g.b.length ≤ 8
  put : g.put = true → 0 < g.b.length ∧ (1 ≤ g.seq ∧ g.seq ≤ 999999) ∧ (0 ≤ g.f ∧ g.f ≤ (ix g.b 0).t) ∧ g.t = (ix g.b (g.b.length - 1)).t + 1
theorem Ig.facts {g : Ig} (h : g.ok = true) : IgF g := by
  obtain ⟨id, seq, f, t, b, put⟩ := g
  unfold Ig.ok igOK at h
  simp only [Bool.and_eq_true, Bool.not_eq_true', decide_eq_false_iff_not] at h
  obtain ⟨h1, h2, h3, h4⟩ := h
  refine ⟨by simpa [within] using h1, h2, by simp only; omega, fun hp => ?_⟩
  have hp : put = true := hp
  subst hp
  simp only [if_true, Bool.and_eq_true, decide_eq_true_eq, within] at h4
  obtain ⟨a1, ⟨a2, a3⟩, ⟨a4, a5⟩, a6⟩ := h4
  have e : ((b.length : Int) - 1).toNat = b.length - 1 := by omega
  rw [e] at a6
  have a5 : f ≤ (ix b 0).t := a5
  show 0 < b.length ∧ (1 ≤ seq ∧ seq ≤ 999999) ∧ (0 ≤ f ∧ f ≤ (ix b 0).t) ∧ t = (ix b (b.length - 1)).t + 1
  exact ⟨by omega, ⟨a2, a3⟩, ⟨a4, a5⟩, a6⟩
theorem smps_srt {L : List Smp} (h : smpsOK L = true) : ∀ i j, i ≤ j → j < L.length → (ix L i).t ≤ (ix L j).t := by
  have hh : ∀ i, i < L.length → smpAt L i = true := by
    unfold smpsOK at h
    rw [Bool.and_eq_true] at h
    exact allN_iff.1 h.2
  intro i j hij
  induction j with
  | zero => intro _; rw [show i = 0 by omega]; exact Int.le_refl _
  | succ j ih =>
    intro hj
    rcases Nat.lt_or_ge i (j + 1) with h1 | h1
    · have a := ih (by omega) (by omega)
      have b := hh (j + 1) hj
      simp [smpAt] at b
      omega
    · rw [show i = j + 1 by omega]; exact Int.le_refl _
theorem ingRec_ok {g : Ig} (h : IgF g) (hp : g.put = true) : (ingRec g).ok = true := by
  obtain ⟨p1, p2, p3, p4⟩ := h.put hp
  have b0 := smps_b h.sm (i := 0) (by omega)
  have b1 := smps_b h.sm (i := g.b.length - 1) (by omega)
  have hs : (ix g.b 0).t ≤ (ix g.b (g.b.length - 1)).t := by
    exact smps_srt h.sm 0 (g.b.length - 1) (by omega) (by omega)
  have hid := h.id
  obtain ⟨k1, k2, k3, k4⟩ := key_fields (t := 0) (n := g.seq.toNat) (w := g.id.toNat) (by omega) (by omega) (by omega)
  unfold Rc.ok ingRec Rc.en En.ok
  simp only [if_true, k1, k2, isRange, within]
  simp
  omega
theorem step_idle (x : Sto) (g : Ig) (h0 : g.b.length = 0) : VFn Tryz.prog 35 [g.av, x.av] (.tup [x.av, g.av, .bool false, .int .i64 18]) := by
  have e0 : decide ((g.b.length : Int) = 0) = true := decide_eq_true (by omega)
  refine VFn.introC Tryz.call35 Tryz.func35 rfl rfl ?_
  repeat' (conv => whnf
           first
             | (refine Grd.intro (fun h => ?_) (fun h => ?_); rotate_left; focus (exfalso; simp_all; done))
             | (refine Grd.intro (fun h => ?_) (fun h => ?_); focus (exfalso; simp_all; done))
             | (refine Grd.intro (fun h => ?_) (fun h => ?_); focus (exact absurd (h.symm.trans e1) (by decide)))
             | refine And.intro (inI64 (by omega) (by omega)) ?_
             | refine And.intro (by omega) ?_
             | (refine And.intro trivial (AVle.refl _); done)
             | fail)
  refine DrawC.mkK 6 [(.inl 2, 2), (.inl 3, 3)] rfl (by kernel_rfl) ?_
  refine And.intro rfl ?_
  repeat' (conv => whnf
           first
             | (refine Grd.intro (fun h => ?_) (fun h => ?_); rotate_left; focus (exfalso; simp_all; done))
             | (refine Grd.intro (fun h => ?_) (fun h => ?_); focus (exfalso; simp_all; done))
             | (refine Grd.intro (fun h => ?_) (fun h => ?_); focus (exact absurd (h.symm.trans e1) (by decide)))
             | refine And.intro (inI64 (by omega) (by omega)) ?_
             | refine And.intro (by omega) ?_
             | (refine And.intro trivial (AVle.refl _); done)
             | fail)
theorem step_put (x : Sto) (hs : x.ok = true) (g : Ig) (h0 : 0 < g.b.length) (hp : g.put = true) (hid : 0 ≤ g.id ∧ g.id ≤ 9) (hsq : 1 ≤ g.seq ∧ g.seq ≤ 999999) (hr : (ingRec g).ok = true) (y : Sto) (c : Int) (hc : appS x g.seq (ingRec g) = (y, c)) :
    VFn Tryz.prog 35 [g.av, x.av] (.tup [(if c = 0 then y else x).av, (if c = 9 then ⟨g.id, 0, 0, 0, g.b, false⟩ else ingR g.id : Ig).av, .bool (decide (c = 0)), .int .i64 (if c = 9 then 0 else c)]) := by
  have e0 : decide ((g.b.length : Int) = 0) = false := decide_eq_false (by omega)
  have dk : VFn Tryz.prog 66 [.int .i64 0, .int .i64 g.seq, .int .i64 g.id] (.str (B (keyB 0 g.seq.toNat g.id.toNat))) := dataKey_fn 0 g.seq g.id (by omega) (by simp [within]; omega) (by simp [within]; omega)
  have cl := lay_fn x hs g.seq (by simp [within]; omega) (ingRec g) hr
  rw [hc] at cl
  simp only at cl
  unfold ingRec at cl
  by_cases h1 : c = 0
  · subst h1
    refine VFn.introC Tryz.call35 Tryz.func35 rfl rfl ?_
    repeat' (conv => whnf
             first
               | (refine Grd.intro (fun h => ?_) (fun h => ?_); rotate_left; focus (exfalso; simp_all; done))
               | (refine Grd.intro (fun h => ?_) (fun h => ?_); focus (exfalso; simp_all; done))
               | (refine Grd.intro (fun h => ?_) (fun h => ?_); focus (exact absurd (h.symm.trans e1) (by decide)))
               | refine And.intro (inI64 (by omega) (by omega)) ?_
               | refine And.intro (by omega) ?_
               | refine PCallK.sca _ (dk) rfl ?_
               | refine PCallK.nl _ (cl) rfl ?_
               | (refine And.intro trivial (AVle.tup (AVsle.cons (AVle.refl _) (AVsle.cons (AVle.agg (AVsle.cons (AVle.refl _) (AVsle.cons (AVle.refl _) (AVsle.cons (AVle.refl _) (AVsle.cons (AVle.refl _) (AVsle.cons (AVle.nilsl _ _ rfl) (AVsle.refl _))))))) (AVsle.refl _)))); done)
               | (refine And.intro trivial (AVle.refl _); done)
               | fail)
    refine DrawC.mkK 20 [(.inr 17, 18)] rfl (by kernel_rfl) ?_
    refine And.intro rfl ?_
    repeat' (conv => whnf
             first
               | (refine Grd.intro (fun h => ?_) (fun h => ?_); rotate_left; focus (exfalso; simp_all; done))
               | (refine Grd.intro (fun h => ?_) (fun h => ?_); focus (exfalso; simp_all; done))
               | (refine Grd.intro (fun h => ?_) (fun h => ?_); focus (exact absurd (h.symm.trans e1) (by decide)))
               | refine And.intro (inI64 (by omega) (by omega)) ?_
               | refine And.intro (by omega) ?_
               | refine PCallK.sca _ (dk) rfl ?_
               | refine PCallK.nl _ (cl) rfl ?_
               | (refine And.intro trivial (AVle.tup (AVsle.cons (AVle.refl _) (AVsle.cons (AVle.agg (AVsle.cons (AVle.refl _) (AVsle.cons (AVle.refl _) (AVsle.cons (AVle.refl _) (AVsle.cons (AVle.refl _) (AVsle.cons (AVle.nilsl _ _ rfl) (AVsle.refl _))))))) (AVsle.refl _)))); done)
               | (refine And.intro trivial (AVle.refl _); done)
               | fail)
    refine DrawC.mkK 8 [(.inl 2, 4), (.inl 3, 5)] rfl (by kernel_rfl) ?_
    refine And.intro rfl ?_
    repeat' (conv => whnf
             first
               | (refine Grd.intro (fun h => ?_) (fun h => ?_); rotate_left; focus (exfalso; simp_all; done))
               | (refine Grd.intro (fun h => ?_) (fun h => ?_); focus (exfalso; simp_all; done))
               | (refine Grd.intro (fun h => ?_) (fun h => ?_); focus (exact absurd (h.symm.trans e1) (by decide)))
               | refine And.intro (inI64 (by omega) (by omega)) ?_
               | refine And.intro (by omega) ?_
               | refine PCallK.sca _ (dk) rfl ?_
               | refine PCallK.nl _ (cl) rfl ?_
               | (refine And.intro trivial (AVle.tup (AVsle.cons (AVle.refl _) (AVsle.cons (AVle.agg (AVsle.cons (AVle.refl _) (AVsle.cons (AVle.refl _) (AVsle.cons (AVle.refl _) (AVsle.cons (AVle.refl _) (AVsle.cons (AVle.nilsl _ _ rfl) (AVsle.refl _))))))) (AVsle.refl _)))); done)
               | (refine And.intro trivial (AVle.refl _); done)
               | fail)
  · by_cases h9 : c = 9
    · subst h9
      refine VFn.introC Tryz.call35 Tryz.func35 rfl rfl ?_
      repeat' (conv => whnf
               first
                 | (refine Grd.intro (fun h => ?_) (fun h => ?_); rotate_left; focus (exfalso; simp_all; done))
                 | (refine Grd.intro (fun h => ?_) (fun h => ?_); focus (exfalso; simp_all; done))
                 | (refine Grd.intro (fun h => ?_) (fun h => ?_); focus (exact absurd (h.symm.trans e1) (by decide)))
                 | refine And.intro (inI64 (by omega) (by omega)) ?_
                 | refine And.intro (by omega) ?_
                 | refine PCallK.sca _ (dk) rfl ?_
                 | refine PCallK.nl _ (cl) rfl ?_
                 | (refine And.intro trivial (AVle.tup (AVsle.cons (AVle.refl _) (AVsle.cons (AVle.agg (AVsle.cons (AVle.refl _) (AVsle.cons (AVle.refl _) (AVsle.cons (AVle.refl _) (AVsle.cons (AVle.refl _) (AVsle.cons (AVle.nilsl _ _ rfl) (AVsle.refl _))))))) (AVsle.refl _)))); done)
                 | (refine And.intro trivial (AVle.refl _); done)
                 | fail)
      refine DrawC.mkK 20 [(.inr 17, 18)] rfl (by kernel_rfl) ?_
      refine And.intro rfl ?_
      repeat' (conv => whnf
               first
                 | (refine Grd.intro (fun h => ?_) (fun h => ?_); rotate_left; focus (exfalso; simp_all; done))
                 | (refine Grd.intro (fun h => ?_) (fun h => ?_); focus (exfalso; simp_all; done))
                 | (refine Grd.intro (fun h => ?_) (fun h => ?_); focus (exact absurd (h.symm.trans e1) (by decide)))
                 | refine And.intro (inI64 (by omega) (by omega)) ?_
                 | refine And.intro (by omega) ?_
                 | refine PCallK.sca _ (dk) rfl ?_
                 | refine PCallK.nl _ (cl) rfl ?_
                 | (refine And.intro trivial (AVle.tup (AVsle.cons (AVle.refl _) (AVsle.cons (AVle.agg (AVsle.cons (AVle.refl _) (AVsle.cons (AVle.refl _) (AVsle.cons (AVle.refl _) (AVsle.cons (AVle.refl _) (AVsle.cons (AVle.nilsl _ _ rfl) (AVsle.refl _))))))) (AVsle.refl _)))); done)
                 | (refine And.intro trivial (AVle.refl _); done)
                 | fail)
      refine DrawC.mkK 10 [(.inl 2, 6), (.inl 3, 7)] rfl (by kernel_rfl) ?_
      refine And.intro rfl ?_
      repeat' (conv => whnf
               first
                 | (refine Grd.intro (fun h => ?_) (fun h => ?_); rotate_left; focus (exfalso; simp_all; done))
                 | (refine Grd.intro (fun h => ?_) (fun h => ?_); focus (exfalso; simp_all; done))
                 | (refine Grd.intro (fun h => ?_) (fun h => ?_); focus (exact absurd (h.symm.trans e1) (by decide)))
                 | refine And.intro (inI64 (by omega) (by omega)) ?_
                 | refine And.intro (by omega) ?_
                 | refine PCallK.sca _ (dk) rfl ?_
                 | refine PCallK.nl _ (cl) rfl ?_
                 | (refine And.intro trivial (AVle.tup (AVsle.cons (AVle.refl _) (AVsle.cons (AVle.agg (AVsle.cons (AVle.refl _) (AVsle.cons (AVle.refl _) (AVsle.cons (AVle.refl _) (AVsle.cons (AVle.refl _) (AVsle.cons (AVle.nilsl _ _ rfl) (AVsle.refl _))))))) (AVsle.refl _)))); done)
                 | (refine And.intro trivial (AVle.refl _); done)
                 | fail)
    · have e1 : decide (c = 0) = false := decide_eq_false h1
      have e9 : decide (c = 9) = false := decide_eq_false h9
      rw [if_neg h1, if_neg h9, if_neg h9, e1]
      refine VFn.introC Tryz.call35 Tryz.func35 rfl rfl ?_
      repeat' (conv => whnf
               first
                 | (refine Grd.intro (fun h => ?_) (fun h => ?_); rotate_left; focus (exfalso; simp_all; done))
                 | (refine Grd.intro (fun h => ?_) (fun h => ?_); focus (exfalso; simp_all; done))
                 | (refine Grd.intro (fun h => ?_) (fun h => ?_); focus (exact absurd (h.symm.trans e1) (by decide)))
                 | refine And.intro (inI64 (by omega) (by omega)) ?_
                 | refine And.intro (by omega) ?_
                 | refine PCallK.sca _ (dk) rfl ?_
                 | refine PCallK.nl _ (cl) rfl ?_
                 | (refine And.intro trivial (AVle.tup (AVsle.cons (AVle.refl _) (AVsle.cons (AVle.agg (AVsle.cons (AVle.refl _) (AVsle.cons (AVle.refl _) (AVsle.cons (AVle.refl _) (AVsle.cons (AVle.refl _) (AVsle.cons (AVle.nilsl _ _ rfl) (AVsle.refl _))))))) (AVsle.refl _)))); done)
                 | (refine And.intro trivial (AVle.refl _); done)
                 | fail)
      refine DrawC.mkK 20 [(.inr 17, 18)] rfl (by kernel_rfl) ?_
      refine And.intro rfl ?_
      repeat' (conv => whnf
               first
                 | (refine Grd.intro (fun h => ?_) (fun h => ?_); rotate_left; focus (exfalso; simp_all; done))
                 | (refine Grd.intro (fun h => ?_) (fun h => ?_); focus (exfalso; simp_all; done))
                 | (refine Grd.intro (fun h => ?_) (fun h => ?_); focus (exact absurd (h.symm.trans e1) (by decide)))
                 | refine And.intro (inI64 (by omega) (by omega)) ?_
                 | refine And.intro (by omega) ?_
                 | refine PCallK.sca _ (dk) rfl ?_
                 | refine PCallK.nl _ (cl) rfl ?_
                 | (refine And.intro trivial (AVle.tup (AVsle.cons (AVle.refl _) (AVsle.cons (AVle.agg (AVsle.cons (AVle.refl _) (AVsle.cons (AVle.refl _) (AVsle.cons (AVle.refl _) (AVsle.cons (AVle.refl _) (AVsle.cons (AVle.nilsl _ _ rfl) (AVsle.refl _))))))) (AVsle.refl _)))); done)
                 | (refine And.intro trivial (AVle.refl _); done)
                 | fail)
      refine DrawC.mkK 9 [(.inl 2, 5), (.inl 3, 6)] rfl (by kernel_rfl) ?_
      refine And.intro rfl ?_
      repeat' (conv => whnf
               first
                 | (refine Grd.intro (fun h => ?_) (fun h => ?_); rotate_left; focus (exfalso; simp_all; done))
                 | (refine Grd.intro (fun h => ?_) (fun h => ?_); focus (exfalso; simp_all; done))
                 | (refine Grd.intro (fun h => ?_) (fun h => ?_); focus (exact absurd (h.symm.trans e1) (by decide)))
                 | refine And.intro (inI64 (by omega) (by omega)) ?_
                 | refine And.intro (by omega) ?_
                 | refine PCallK.sca _ (dk) rfl ?_
                 | refine PCallK.nl _ (cl) rfl ?_
                 | (refine And.intro trivial (AVle.tup (AVsle.cons (AVle.refl _) (AVsle.cons (AVle.agg (AVsle.cons (AVle.refl _) (AVsle.cons (AVle.refl _) (AVsle.cons (AVle.refl _) (AVsle.cons (AVle.refl _) (AVsle.cons (AVle.nilsl _ _ rfl) (AVsle.refl _))))))) (AVsle.refl _)))); done)
                 | (refine And.intro trivial (AVle.refl _); done)
                 | fail)
theorem step_late (x : Sto) (hs : x.ok = true) (g : Ig) (h0 : 0 < g.b.length) (hp : g.put = false) (hid : 0 ≤ g.id ∧ g.id ≤ 9) (hv : smpsOK g.b = true) (k : Int) (hk : (if (ix g.b 0).t < (logS x).h0 then (14 : Int) else if (logS x).seq = 999999 then 7 else 0) = k) (hk0 : k ≠ 0) :
    VFn Tryz.prog 35 [g.av, x.av] (.tup [x.av, (ingR g.id).av, .bool false, .int .i64 k]) := by
  have e0 : decide ((g.b.length : Int) = 0) = false := decide_eq_false (by omega)
  have ek : decide (k = 0) = false := decide_eq_false hk0
  have c2 := log_fn x hs
  have c3 : ∀ (n : Nat) (rows : Nat → List AV), FirstRows 4 3 rows 0 [(decide ((ix g.b 0).t < (logS x).h0), 14), (decide ((logS x).seq = 999999), 7)] → n = 4 → VFn Tryz.prog 68 [.sl 1 n rows] (.int .i64 k) := fun n rows hr hn => first2_of _ _ _ _ hr hn (by simpa using hk)
  refine VFn.introC Tryz.call35 Tryz.func35 rfl rfl ?_
  repeat' (conv => whnf
           first
             | (refine Grd.intro (fun h => ?_) (fun h => ?_); rotate_left; focus (exfalso; simp_all; done))
             | (refine Grd.intro (fun h => ?_) (fun h => ?_); focus (exfalso; simp_all; done))
             | (refine Grd.intro (fun h => ?_) (fun h => ?_); focus (exact absurd (h.symm.trans e1) (by decide)))
             | refine And.intro (inI64 (by omega) (by omega)) ?_
             | refine And.intro (by omega) ?_
             | (refine CallC.nl _ (c2) ?_ ?_; focus (exact rfl))
             | refine PCallC.sca _ (c3 _ _ ⟨rfl, rfl, rfl, rfl, trivial⟩ rfl) rfl ?_
             | (refine And.intro trivial (AVle.tup (AVsle.cons (AVle.refl _) (AVsle.cons (AVle.agg (AVsle.cons (AVle.refl _) (AVsle.cons (AVle.refl _) (AVsle.cons (AVle.refl _) (AVsle.cons (AVle.refl _) (AVsle.cons (AVle.nilsl _ _ rfl) (AVsle.refl _))))))) (AVsle.refl _)))); done)
             | (refine And.intro trivial (AVle.refl _); done)
             | fail)
  refine DrawC.mk 19 rfl (by kernel_rfl) ?_
  repeat' (conv => whnf
           first
             | (refine Grd.intro (fun h => ?_) (fun h => ?_); rotate_left; focus (exfalso; simp_all; done))
             | (refine Grd.intro (fun h => ?_) (fun h => ?_); focus (exfalso; simp_all; done))
             | (refine Grd.intro (fun h => ?_) (fun h => ?_); focus (exact absurd (h.symm.trans e1) (by decide)))
             | refine And.intro (inI64 (by omega) (by omega)) ?_
             | refine And.intro (by omega) ?_
             | (refine CallC.nl _ (c2) ?_ ?_; focus (exact rfl))
             | refine PCallC.sca _ (c3 _ _ ⟨rfl, rfl, rfl, rfl, trivial⟩ rfl) rfl ?_
             | (refine And.intro trivial (AVle.tup (AVsle.cons (AVle.refl _) (AVsle.cons (AVle.agg (AVsle.cons (AVle.refl _) (AVsle.cons (AVle.refl _) (AVsle.cons (AVle.refl _) (AVsle.cons (AVle.refl _) (AVsle.cons (AVle.nilsl _ _ rfl) (AVsle.refl _))))))) (AVsle.refl _)))); done)
             | (refine And.intro trivial (AVle.refl _); done)
             | fail)
  refine DrawC.mkK 9 [(.inl 2, 5), (.inl 3, 6)] rfl (by kernel_rfl) ?_
  refine And.intro rfl ?_
  repeat' (conv => whnf
           first
             | (refine Grd.intro (fun h => ?_) (fun h => ?_); rotate_left; focus (exfalso; simp_all; done))
             | (refine Grd.intro (fun h => ?_) (fun h => ?_); focus (exfalso; simp_all; done))
             | (refine Grd.intro (fun h => ?_) (fun h => ?_); focus (exact absurd (h.symm.trans e1) (by decide)))
             | refine And.intro (inI64 (by omega) (by omega)) ?_
             | refine And.intro (by omega) ?_
             | (refine CallC.nl _ (c2) ?_ ?_; focus (exact rfl))
             | refine PCallC.sca _ (c3 _ _ ⟨rfl, rfl, rfl, rfl, trivial⟩ rfl) rfl ?_
             | (refine And.intro trivial (AVle.tup (AVsle.cons (AVle.refl _) (AVsle.cons (AVle.agg (AVsle.cons (AVle.refl _) (AVsle.cons (AVle.refl _) (AVsle.cons (AVle.refl _) (AVsle.cons (AVle.refl _) (AVsle.cons (AVle.nilsl _ _ rfl) (AVsle.refl _))))))) (AVsle.refl _)))); done)
             | (refine And.intro trivial (AVle.refl _); done)
             | fail)
theorem step_new (x : Sto) (hs : x.ok = true) (g : Ig) (h0 : 0 < g.b.length) (h8 : g.b.length ≤ 8) (hp : g.put = false) (hid : 0 ≤ g.id ∧ g.id ≤ 9) (hv : smpsOK g.b = true) (hl1 : ¬ (ix g.b 0).t < (logS x).h0) (hl2 : ¬ (logS x).seq = 999999) (hl3 : 0 ≤ (logS x).seq ∧ (logS x).seq ≤ 999999) (y : Sto) (n c : Int) (hy : (if x.room (ingK x g) (smpsText g.b) = 0 then AV.tup [(x.set (ingK x g) (smpsText g.b)).av, .int .i64 x.next, .int .i64 0] else .tup [x.av, .int .i64 0, .int .i64 (x.room (ingK x g) (smpsText g.b))]) = .tup [y.av, .int .i64 n, .int .i64 c]) :
    VFn Tryz.prog 35 [g.av, x.av] (.tup [(if c = 0 then y else x).av, (if c = 0 then ingPut x g else ingR g.id : Ig).av, .bool false, .int .i64 c]) := by
  have e0 : decide ((g.b.length : Int) = 0) = false := decide_eq_false (by omega)
  have hnum := smpsOK_num hv
  have hlen := smpsText_len hnum
  have b1 := smps_b hv (i := ((g.b.length : Int) - 1).toNat) (by omega)
  have et : ((g.b.length : Int) - 1).toNat = g.b.length - 1 := by omega
  have c2 := log_fn x hs
  have c3 : ∀ (n : Nat) (rows : Nat → List AV), FirstRows 4 3 rows 0 [(decide ((ix g.b 0).t < (logS x).h0), 14), (decide ((logS x).seq = 999999), 7)] → n = 4 → VFn Tryz.prog 68 [.sl 1 n rows] (.int .i64 0) := fun n rows hr hn => first2_of _ _ _ _ hr hn (by simp [hl1, hl2])
  have dk : VFn Tryz.prog 66 [.int .i64 0, .int .i64 ((logS x).seq + 1), .int .i64 g.id] (.str (B (ingK x g))) := dataKey_fn 0 ((logS x).seq + 1) g.id (by omega) (by simp [within]; omega) (by simp [within]; omega)
  have ct := samplesText_fn g.b (by omega) hnum
  have cp := put_fn x hs (ingK x g) (smpsText g.b) (by omega)
  rw [hy] at cp
  clear hy
  unfold ingPut
  rw [← et]
  clear et
  generalize ingK x g = K at dk cp
  generalize smpsText g.b = T at ct cp
  by_cases h1 : c = 0
  · subst h1
    rw [if_pos rfl, if_pos rfl]
    refine VFn.introC Tryz.call35 Tryz.func35 rfl rfl ?_
    repeat' (conv => whnf
             first
               | (refine Grd.intro (fun h => ?_) (fun h => ?_); rotate_left; focus (exfalso; simp_all; done))
               | (refine Grd.intro (fun h => ?_) (fun h => ?_); focus (exfalso; simp_all; done))
               | (refine Grd.intro (fun h => ?_) (fun h => ?_); focus (exact absurd (h.symm.trans e1) (by decide)))
               | refine And.intro (inI64 (by omega) (by omega)) ?_
               | refine And.intro (by omega) ?_
               | (refine CallC.nl _ (c2) ?_ ?_; focus (exact rfl))
               | refine PCallK.sca _ (dk) rfl ?_
               | refine PCallK.sca _ (ct) rfl ?_
               | refine PCallK.nl _ (cp) rfl ?_
               | refine PCallC.sca _ (c3 _ _ ⟨rfl, rfl, rfl, rfl, trivial⟩ rfl) rfl ?_
               | (refine And.intro trivial (AVle.tup (AVsle.cons (AVle.refl _) (AVsle.cons (AVle.agg (AVsle.cons (AVle.refl _) (AVsle.cons (AVle.refl _) (AVsle.cons (AVle.refl _) (AVsle.cons (AVle.refl _) (AVsle.cons (AVle.nilsl _ _ rfl) (AVsle.refl _))))))) (AVsle.refl _)))); done)
               | (refine And.intro trivial (AVle.refl _); done)
               | fail)
    refine DrawC.mk 19 rfl (by kernel_rfl) ?_
    repeat' (conv => whnf
             first
               | (refine Grd.intro (fun h => ?_) (fun h => ?_); rotate_left; focus (exfalso; simp_all; done))
               | (refine Grd.intro (fun h => ?_) (fun h => ?_); focus (exfalso; simp_all; done))
               | (refine Grd.intro (fun h => ?_) (fun h => ?_); focus (exact absurd (h.symm.trans e1) (by decide)))
               | refine And.intro (inI64 (by omega) (by omega)) ?_
               | refine And.intro (by omega) ?_
               | (refine CallC.nl _ (c2) ?_ ?_; focus (exact rfl))
               | refine PCallK.sca _ (dk) rfl ?_
               | refine PCallK.sca _ (ct) rfl ?_
               | refine PCallK.nl _ (cp) rfl ?_
               | refine PCallC.sca _ (c3 _ _ ⟨rfl, rfl, rfl, rfl, trivial⟩ rfl) rfl ?_
               | (refine And.intro trivial (AVle.tup (AVsle.cons (AVle.refl _) (AVsle.cons (AVle.agg (AVsle.cons (AVle.refl _) (AVsle.cons (AVle.refl _) (AVsle.cons (AVle.refl _) (AVsle.cons (AVle.refl _) (AVsle.cons (AVle.nilsl _ _ rfl) (AVsle.refl _))))))) (AVsle.refl _)))); done)
               | (refine And.intro trivial (AVle.refl _); done)
               | fail)
    refine DrawC.mkK 17 [(.inl 24, 15)] rfl (by kernel_rfl) ?_
    refine And.intro rfl ?_
    repeat' (conv => whnf
             first
               | (refine Grd.intro (fun h => ?_) (fun h => ?_); rotate_left; focus (exfalso; simp_all; done))
               | (refine Grd.intro (fun h => ?_) (fun h => ?_); focus (exfalso; simp_all; done))
               | (refine Grd.intro (fun h => ?_) (fun h => ?_); focus (exact absurd (h.symm.trans e1) (by decide)))
               | refine And.intro (inI64 (by omega) (by omega)) ?_
               | refine And.intro (by omega) ?_
               | (refine CallC.nl _ (c2) ?_ ?_; focus (exact rfl))
               | refine PCallK.sca _ (dk) rfl ?_
               | refine PCallK.sca _ (ct) rfl ?_
               | refine PCallK.nl _ (cp) rfl ?_
               | refine PCallC.sca _ (c3 _ _ ⟨rfl, rfl, rfl, rfl, trivial⟩ rfl) rfl ?_
               | (refine And.intro trivial (AVle.tup (AVsle.cons (AVle.refl _) (AVsle.cons (AVle.agg (AVsle.cons (AVle.refl _) (AVsle.cons (AVle.refl _) (AVsle.cons (AVle.refl _) (AVsle.cons (AVle.refl _) (AVsle.cons (AVle.nilsl _ _ rfl) (AVsle.refl _))))))) (AVsle.refl _)))); done)
               | (refine And.intro trivial (AVle.refl _); done)
               | fail)
    refine DrawC.mkK 26 [(.inl 2, 22), (.inl 3, 23)] rfl (by kernel_rfl) ?_
    refine And.intro rfl ?_
    repeat' (conv => whnf
             first
               | (refine Grd.intro (fun h => ?_) (fun h => ?_); rotate_left; focus (exfalso; simp_all; done))
               | (refine Grd.intro (fun h => ?_) (fun h => ?_); focus (exfalso; simp_all; done))
               | (refine Grd.intro (fun h => ?_) (fun h => ?_); focus (exact absurd (h.symm.trans e1) (by decide)))
               | refine And.intro (inI64 (by omega) (by omega)) ?_
               | refine And.intro (by omega) ?_
               | (refine CallC.nl _ (c2) ?_ ?_; focus (exact rfl))
               | refine PCallK.sca _ (dk) rfl ?_
               | refine PCallK.sca _ (ct) rfl ?_
               | refine PCallK.nl _ (cp) rfl ?_
               | refine PCallC.sca _ (c3 _ _ ⟨rfl, rfl, rfl, rfl, trivial⟩ rfl) rfl ?_
               | (refine And.intro trivial (AVle.tup (AVsle.cons (AVle.refl _) (AVsle.cons (AVle.agg (AVsle.cons (AVle.refl _) (AVsle.cons (AVle.refl _) (AVsle.cons (AVle.refl _) (AVsle.cons (AVle.refl _) (AVsle.cons (AVle.nilsl _ _ rfl) (AVsle.refl _))))))) (AVsle.refl _)))); done)
               | (refine And.intro trivial (AVle.refl _); done)
               | fail)
  · have ek : decide (c = 0) = false := decide_eq_false h1
    rw [if_neg h1, if_neg h1]
    refine VFn.introC Tryz.call35 Tryz.func35 rfl rfl ?_
    repeat' (conv => whnf
             first
               | (refine Grd.intro (fun h => ?_) (fun h => ?_); rotate_left; focus (exfalso; simp_all; done))
               | (refine Grd.intro (fun h => ?_) (fun h => ?_); focus (exfalso; simp_all; done))
               | (refine Grd.intro (fun h => ?_) (fun h => ?_); focus (exact absurd (h.symm.trans e1) (by decide)))
               | refine And.intro (inI64 (by omega) (by omega)) ?_
               | refine And.intro (by omega) ?_
               | (refine CallC.nl _ (c2) ?_ ?_; focus (exact rfl))
               | refine PCallK.sca _ (dk) rfl ?_
               | refine PCallK.sca _ (ct) rfl ?_
               | refine PCallK.nl _ (cp) rfl ?_
               | refine PCallC.sca _ (c3 _ _ ⟨rfl, rfl, rfl, rfl, trivial⟩ rfl) rfl ?_
               | (refine And.intro trivial (AVle.tup (AVsle.cons (AVle.refl _) (AVsle.cons (AVle.agg (AVsle.cons (AVle.refl _) (AVsle.cons (AVle.refl _) (AVsle.cons (AVle.refl _) (AVsle.cons (AVle.refl _) (AVsle.cons (AVle.nilsl _ _ rfl) (AVsle.refl _))))))) (AVsle.refl _)))); done)
               | (refine And.intro trivial (AVle.refl _); done)
               | fail)
    refine DrawC.mk 19 rfl (by kernel_rfl) ?_
    repeat' (conv => whnf
             first
               | (refine Grd.intro (fun h => ?_) (fun h => ?_); rotate_left; focus (exfalso; simp_all; done))
               | (refine Grd.intro (fun h => ?_) (fun h => ?_); focus (exfalso; simp_all; done))
               | (refine Grd.intro (fun h => ?_) (fun h => ?_); focus (exact absurd (h.symm.trans e1) (by decide)))
               | refine And.intro (inI64 (by omega) (by omega)) ?_
               | refine And.intro (by omega) ?_
               | (refine CallC.nl _ (c2) ?_ ?_; focus (exact rfl))
               | refine PCallK.sca _ (dk) rfl ?_
               | refine PCallK.sca _ (ct) rfl ?_
               | refine PCallK.nl _ (cp) rfl ?_
               | refine PCallC.sca _ (c3 _ _ ⟨rfl, rfl, rfl, rfl, trivial⟩ rfl) rfl ?_
               | (refine And.intro trivial (AVle.tup (AVsle.cons (AVle.refl _) (AVsle.cons (AVle.agg (AVsle.cons (AVle.refl _) (AVsle.cons (AVle.refl _) (AVsle.cons (AVle.refl _) (AVsle.cons (AVle.refl _) (AVsle.cons (AVle.nilsl _ _ rfl) (AVsle.refl _))))))) (AVsle.refl _)))); done)
               | (refine And.intro trivial (AVle.refl _); done)
               | fail)
    refine DrawC.mkK 17 [(.inl 24, 15)] rfl (by kernel_rfl) ?_
    refine And.intro rfl ?_
    repeat' (conv => whnf
             first
               | (refine Grd.intro (fun h => ?_) (fun h => ?_); rotate_left; focus (exfalso; simp_all; done))
               | (refine Grd.intro (fun h => ?_) (fun h => ?_); focus (exfalso; simp_all; done))
               | (refine Grd.intro (fun h => ?_) (fun h => ?_); focus (exact absurd (h.symm.trans e1) (by decide)))
               | refine And.intro (inI64 (by omega) (by omega)) ?_
               | refine And.intro (by omega) ?_
               | (refine CallC.nl _ (c2) ?_ ?_; focus (exact rfl))
               | refine PCallK.sca _ (dk) rfl ?_
               | refine PCallK.sca _ (ct) rfl ?_
               | refine PCallK.nl _ (cp) rfl ?_
               | refine PCallC.sca _ (c3 _ _ ⟨rfl, rfl, rfl, rfl, trivial⟩ rfl) rfl ?_
               | (refine And.intro trivial (AVle.tup (AVsle.cons (AVle.refl _) (AVsle.cons (AVle.agg (AVsle.cons (AVle.refl _) (AVsle.cons (AVle.refl _) (AVsle.cons (AVle.refl _) (AVsle.cons (AVle.refl _) (AVsle.cons (AVle.nilsl _ _ rfl) (AVsle.refl _))))))) (AVsle.refl _)))); done)
               | (refine And.intro trivial (AVle.refl _); done)
               | fail)
    refine DrawC.mkK 9 [(.inl 2, 5), (.inl 3, 6)] rfl (by kernel_rfl) ?_
    refine And.intro rfl ?_
    repeat' (conv => whnf
             first
               | (refine Grd.intro (fun h => ?_) (fun h => ?_); rotate_left; focus (exfalso; simp_all; done))
               | (refine Grd.intro (fun h => ?_) (fun h => ?_); focus (exfalso; simp_all; done))
               | (refine Grd.intro (fun h => ?_) (fun h => ?_); focus (exact absurd (h.symm.trans e1) (by decide)))
               | refine And.intro (inI64 (by omega) (by omega)) ?_
               | refine And.intro (by omega) ?_
               | (refine CallC.nl _ (c2) ?_ ?_; focus (exact rfl))
               | refine PCallK.sca _ (dk) rfl ?_
               | refine PCallK.sca _ (ct) rfl ?_
               | refine PCallK.nl _ (cp) rfl ?_
               | refine PCallC.sca _ (c3 _ _ ⟨rfl, rfl, rfl, rfl, trivial⟩ rfl) rfl ?_
               | (refine And.intro trivial (AVle.tup (AVsle.cons (AVle.refl _) (AVsle.cons (AVle.agg (AVsle.cons (AVle.refl _) (AVsle.cons (AVle.refl _) (AVsle.cons (AVle.refl _) (AVsle.cons (AVle.refl _) (AVsle.cons (AVle.nilsl _ _ rfl) (AVsle.refl _))))))) (AVsle.refl _)))); done)
               | (refine And.intro trivial (AVle.refl _); done)
               | fail)
theorem l09Rest_fn (g : Ig) : VFn Tryz.prog 56 [g.av] (ingR g.id).av := by
  refine VFn.introC Tryz.call56 Tryz.func56 rfl rfl ?_
  refine And.intro trivial (AVle.agg (AVsle.cons (AVle.refl _) (AVsle.cons (AVle.refl _) (AVsle.cons (AVle.refl _) (AVsle.cons (AVle.refl _) (AVsle.cons (AVle.sl rfl fun i hi => absurd hi (Nat.not_lt_zero i)) (AVsle.refl _)))))))
theorem sstep_idle (x : Sto) (g : Ig) (h0 : g.b.length = 0) : VFn Tryz.prog 29 [x.av, g.av] (.tup [x.av, g.av, .bool false, .int .i64 18]) := by
  have e0 : decide ((g.b.length : Int) = 0) = true := decide_eq_true (by omega)
  refine VFn.introC Tryz.call29 Tryz.func29 rfl rfl ?_
  repeat' (conv => whnf
           first
             | (refine Grd.intro (fun h => ?_) (fun h => ?_); rotate_left; focus (exfalso; simp_all; done))
             | (refine Grd.intro (fun h => ?_) (fun h => ?_); focus (exfalso; simp_all; done))
             | (refine Grd.intro (fun h => ?_) (fun h => ?_); focus (exact absurd (h.symm.trans e1) (by decide)))
             | refine And.intro (inI64 (by omega) (by omega)) ?_
             | refine And.intro (by omega) ?_
             | (refine And.intro trivial (AVle.refl _); done)
             | fail)
  refine DrawC.mkK 6 [(.inl 2, 2), (.inl 3, 3)] rfl (by kernel_rfl) ?_
  refine And.intro rfl ?_
  repeat' (conv => whnf
           first
             | (refine Grd.intro (fun h => ?_) (fun h => ?_); rotate_left; focus (exfalso; simp_all; done))
             | (refine Grd.intro (fun h => ?_) (fun h => ?_); focus (exfalso; simp_all; done))
             | (refine Grd.intro (fun h => ?_) (fun h => ?_); focus (exact absurd (h.symm.trans e1) (by decide)))
             | refine And.intro (inI64 (by omega) (by omega)) ?_
             | refine And.intro (by omega) ?_
             | (refine And.intro trivial (AVle.refl _); done)
             | fail)
theorem sstep_put (x : Sto) (hs : x.ok = true) (g : Ig) (h0 : 0 < g.b.length) (hp : g.put = true) (hid : 0 ≤ g.id ∧ g.id ≤ 9) (hsq : 1 ≤ g.seq ∧ g.seq ≤ 999999) (hr : (ingRec g).ok = true) (y : Sto) (c : Int) (hc : appS x g.seq (ingRec g) = (y, c)) :
    VFn Tryz.prog 29 [x.av, g.av] (.tup [(if c = 0 then y else x).av, (if c = 9 then ⟨g.id, 0, 0, 0, g.b, false⟩ else ingR g.id : Ig).av, .bool (decide (c = 0)), .int .i64 (if c = 9 then 0 else c)]) := by
  have e0 : decide ((g.b.length : Int) = 0) = false := decide_eq_false (by omega)
  have dk : VFn Tryz.prog 54 [.int .i64 0, .int .i64 g.seq, .int .i64 g.id] (.str (B (keyB 0 g.seq.toNat g.id.toNat))) := l03Key_at (t := 0) (n := g.seq.toNat) (w := g.id.toNat) rfl (by omega) (by omega) (by omega) (by omega) (by omega)
  have cl := l06Append_fn x hs g.seq (by simp [within]; omega) (ingRec g) hr
  have cr := l09Rest_fn g
  rw [hc] at cl
  simp only at cl
  unfold ingRec at cl
  by_cases h1 : c = 0
  · subst h1
    refine VFn.introC Tryz.call29 Tryz.func29 rfl rfl ?_
    repeat' (conv => whnf
             first
               | (refine Grd.intro (fun h => ?_) (fun h => ?_); rotate_left; focus (exfalso; simp_all; done))
               | (refine Grd.intro (fun h => ?_) (fun h => ?_); focus (exfalso; simp_all; done))
               | (refine Grd.intro (fun h => ?_) (fun h => ?_); focus (exact absurd (h.symm.trans e1) (by decide)))
               | refine And.intro (inI64 (by omega) (by omega)) ?_
               | refine And.intro (by omega) ?_
               | (refine CallC.nl _ (cl) ?_ ?_; focus (exact rfl))
               | refine PCallK.sca _ (dk) rfl ?_
               | refine PCallK.nl _ (cr) rfl ?_
               | (refine And.intro trivial (AVle.tup (AVsle.cons (AVle.refl _) (AVsle.cons (AVle.agg (AVsle.cons (AVle.refl _) (AVsle.cons (AVle.refl _) (AVsle.cons (AVle.refl _) (AVsle.cons (AVle.refl _) (AVsle.cons (AVle.nilsl _ _ rfl) (AVsle.refl _))))))) (AVsle.refl _)))); done)
               | (refine And.intro trivial (AVle.refl _); done)
               | fail)
    refine DrawC.mkK 12 [(.inr 10, 11)] rfl (by kernel_rfl) ?_
    refine And.intro rfl ?_
    repeat' (conv => whnf
             first
               | (refine Grd.intro (fun h => ?_) (fun h => ?_); rotate_left; focus (exfalso; simp_all; done))
               | (refine Grd.intro (fun h => ?_) (fun h => ?_); focus (exfalso; simp_all; done))
               | (refine Grd.intro (fun h => ?_) (fun h => ?_); focus (exact absurd (h.symm.trans e1) (by decide)))
               | refine And.intro (inI64 (by omega) (by omega)) ?_
               | refine And.intro (by omega) ?_
               | (refine CallC.nl _ (cl) ?_ ?_; focus (exact rfl))
               | refine PCallK.sca _ (dk) rfl ?_
               | refine PCallK.nl _ (cr) rfl ?_
               | (refine And.intro trivial (AVle.tup (AVsle.cons (AVle.refl _) (AVsle.cons (AVle.agg (AVsle.cons (AVle.refl _) (AVsle.cons (AVle.refl _) (AVsle.cons (AVle.refl _) (AVsle.cons (AVle.refl _) (AVsle.cons (AVle.nilsl _ _ rfl) (AVsle.refl _))))))) (AVsle.refl _)))); done)
               | (refine And.intro trivial (AVle.refl _); done)
               | fail)
    refine DrawC.mkK 7 [(.inl 2, 3), (.inl 3, 4)] rfl (by kernel_rfl) ?_
    refine And.intro rfl ?_
    repeat' (conv => whnf
             first
               | (refine Grd.intro (fun h => ?_) (fun h => ?_); rotate_left; focus (exfalso; simp_all; done))
               | (refine Grd.intro (fun h => ?_) (fun h => ?_); focus (exfalso; simp_all; done))
               | (refine Grd.intro (fun h => ?_) (fun h => ?_); focus (exact absurd (h.symm.trans e1) (by decide)))
               | refine And.intro (inI64 (by omega) (by omega)) ?_
               | refine And.intro (by omega) ?_
               | (refine CallC.nl _ (cl) ?_ ?_; focus (exact rfl))
               | refine PCallK.sca _ (dk) rfl ?_
               | refine PCallK.nl _ (cr) rfl ?_
               | (refine And.intro trivial (AVle.tup (AVsle.cons (AVle.refl _) (AVsle.cons (AVle.agg (AVsle.cons (AVle.refl _) (AVsle.cons (AVle.refl _) (AVsle.cons (AVle.refl _) (AVsle.cons (AVle.refl _) (AVsle.cons (AVle.nilsl _ _ rfl) (AVsle.refl _))))))) (AVsle.refl _)))); done)
               | (refine And.intro trivial (AVle.refl _); done)
               | fail)
  · by_cases h9 : c = 9
    · subst h9
      refine VFn.introC Tryz.call29 Tryz.func29 rfl rfl ?_
      repeat' (conv => whnf
               first
                 | (refine Grd.intro (fun h => ?_) (fun h => ?_); rotate_left; focus (exfalso; simp_all; done))
                 | (refine Grd.intro (fun h => ?_) (fun h => ?_); focus (exfalso; simp_all; done))
                 | (refine Grd.intro (fun h => ?_) (fun h => ?_); focus (exact absurd (h.symm.trans e1) (by decide)))
                 | refine And.intro (inI64 (by omega) (by omega)) ?_
                 | refine And.intro (by omega) ?_
                 | (refine CallC.nl _ (cl) ?_ ?_; focus (exact rfl))
                 | refine PCallK.sca _ (dk) rfl ?_
                 | refine PCallK.nl _ (cr) rfl ?_
                 | (refine And.intro trivial (AVle.tup (AVsle.cons (AVle.refl _) (AVsle.cons (AVle.agg (AVsle.cons (AVle.refl _) (AVsle.cons (AVle.refl _) (AVsle.cons (AVle.refl _) (AVsle.cons (AVle.refl _) (AVsle.cons (AVle.nilsl _ _ rfl) (AVsle.refl _))))))) (AVsle.refl _)))); done)
                 | (refine And.intro trivial (AVle.refl _); done)
                 | fail)
      refine DrawC.mkK 12 [(.inr 10, 11)] rfl (by kernel_rfl) ?_
      refine And.intro rfl ?_
      repeat' (conv => whnf
               first
                 | (refine Grd.intro (fun h => ?_) (fun h => ?_); rotate_left; focus (exfalso; simp_all; done))
                 | (refine Grd.intro (fun h => ?_) (fun h => ?_); focus (exfalso; simp_all; done))
                 | (refine Grd.intro (fun h => ?_) (fun h => ?_); focus (exact absurd (h.symm.trans e1) (by decide)))
                 | refine And.intro (inI64 (by omega) (by omega)) ?_
                 | refine And.intro (by omega) ?_
                 | (refine CallC.nl _ (cl) ?_ ?_; focus (exact rfl))
                 | refine PCallK.sca _ (dk) rfl ?_
                 | refine PCallK.nl _ (cr) rfl ?_
                 | (refine And.intro trivial (AVle.tup (AVsle.cons (AVle.refl _) (AVsle.cons (AVle.agg (AVsle.cons (AVle.refl _) (AVsle.cons (AVle.refl _) (AVsle.cons (AVle.refl _) (AVsle.cons (AVle.refl _) (AVsle.cons (AVle.nilsl _ _ rfl) (AVsle.refl _))))))) (AVsle.refl _)))); done)
                 | (refine And.intro trivial (AVle.refl _); done)
                 | fail)
      refine DrawC.mkK 10 [(.inl 2, 6), (.inl 3, 7)] rfl (by kernel_rfl) ?_
      refine And.intro rfl ?_
      repeat' (conv => whnf
               first
                 | (refine Grd.intro (fun h => ?_) (fun h => ?_); rotate_left; focus (exfalso; simp_all; done))
                 | (refine Grd.intro (fun h => ?_) (fun h => ?_); focus (exfalso; simp_all; done))
                 | (refine Grd.intro (fun h => ?_) (fun h => ?_); focus (exact absurd (h.symm.trans e1) (by decide)))
                 | refine And.intro (inI64 (by omega) (by omega)) ?_
                 | refine And.intro (by omega) ?_
                 | (refine CallC.nl _ (cl) ?_ ?_; focus (exact rfl))
                 | refine PCallK.sca _ (dk) rfl ?_
                 | refine PCallK.nl _ (cr) rfl ?_
                 | (refine And.intro trivial (AVle.tup (AVsle.cons (AVle.refl _) (AVsle.cons (AVle.agg (AVsle.cons (AVle.refl _) (AVsle.cons (AVle.refl _) (AVsle.cons (AVle.refl _) (AVsle.cons (AVle.refl _) (AVsle.cons (AVle.nilsl _ _ rfl) (AVsle.refl _))))))) (AVsle.refl _)))); done)
                 | (refine And.intro trivial (AVle.refl _); done)
                 | fail)
    · have e1 : decide (c = 0) = false := decide_eq_false h1
      have e9 : decide (c = 9) = false := decide_eq_false h9
      rw [if_neg h1, if_neg h9, if_neg h9, e1]
      refine VFn.introC Tryz.call29 Tryz.func29 rfl rfl ?_
      repeat' (conv => whnf
               first
                 | (refine Grd.intro (fun h => ?_) (fun h => ?_); rotate_left; focus (exfalso; simp_all; done))
                 | (refine Grd.intro (fun h => ?_) (fun h => ?_); focus (exfalso; simp_all; done))
                 | (refine Grd.intro (fun h => ?_) (fun h => ?_); focus (exact absurd (h.symm.trans e1) (by decide)))
                 | refine And.intro (inI64 (by omega) (by omega)) ?_
                 | refine And.intro (by omega) ?_
                 | (refine CallC.nl _ (cl) ?_ ?_; focus (exact rfl))
                 | refine PCallK.sca _ (dk) rfl ?_
                 | refine PCallK.nl _ (cr) rfl ?_
                 | (refine And.intro trivial (AVle.tup (AVsle.cons (AVle.refl _) (AVsle.cons (AVle.agg (AVsle.cons (AVle.refl _) (AVsle.cons (AVle.refl _) (AVsle.cons (AVle.refl _) (AVsle.cons (AVle.refl _) (AVsle.cons (AVle.nilsl _ _ rfl) (AVsle.refl _))))))) (AVsle.refl _)))); done)
                 | (refine And.intro trivial (AVle.refl _); done)
                 | fail)
      refine DrawC.mkK 12 [(.inr 10, 11)] rfl (by kernel_rfl) ?_
      refine And.intro rfl ?_
      repeat' (conv => whnf
               first
                 | (refine Grd.intro (fun h => ?_) (fun h => ?_); rotate_left; focus (exfalso; simp_all; done))
                 | (refine Grd.intro (fun h => ?_) (fun h => ?_); focus (exfalso; simp_all; done))
                 | (refine Grd.intro (fun h => ?_) (fun h => ?_); focus (exact absurd (h.symm.trans e1) (by decide)))
                 | refine And.intro (inI64 (by omega) (by omega)) ?_
                 | refine And.intro (by omega) ?_
                 | (refine CallC.nl _ (cl) ?_ ?_; focus (exact rfl))
                 | refine PCallK.sca _ (dk) rfl ?_
                 | refine PCallK.nl _ (cr) rfl ?_
                 | (refine And.intro trivial (AVle.tup (AVsle.cons (AVle.refl _) (AVsle.cons (AVle.agg (AVsle.cons (AVle.refl _) (AVsle.cons (AVle.refl _) (AVsle.cons (AVle.refl _) (AVsle.cons (AVle.refl _) (AVsle.cons (AVle.nilsl _ _ rfl) (AVsle.refl _))))))) (AVsle.refl _)))); done)
                 | (refine And.intro trivial (AVle.refl _); done)
                 | fail)
      refine DrawC.mkK 8 [(.inl 2, 4), (.inl 3, 5)] rfl (by kernel_rfl) ?_
      refine And.intro rfl ?_
      repeat' (conv => whnf
               first
                 | (refine Grd.intro (fun h => ?_) (fun h => ?_); rotate_left; focus (exfalso; simp_all; done))
                 | (refine Grd.intro (fun h => ?_) (fun h => ?_); focus (exfalso; simp_all; done))
                 | (refine Grd.intro (fun h => ?_) (fun h => ?_); focus (exact absurd (h.symm.trans e1) (by decide)))
                 | refine And.intro (inI64 (by omega) (by omega)) ?_
                 | refine And.intro (by omega) ?_
                 | (refine CallC.nl _ (cl) ?_ ?_; focus (exact rfl))
                 | refine PCallK.sca _ (dk) rfl ?_
                 | refine PCallK.nl _ (cr) rfl ?_
                 | (refine And.intro trivial (AVle.tup (AVsle.cons (AVle.refl _) (AVsle.cons (AVle.agg (AVsle.cons (AVle.refl _) (AVsle.cons (AVle.refl _) (AVsle.cons (AVle.refl _) (AVsle.cons (AVle.refl _) (AVsle.cons (AVle.nilsl _ _ rfl) (AVsle.refl _))))))) (AVsle.refl _)))); done)
                 | (refine And.intro trivial (AVle.refl _); done)
                 | fail)
theorem sstep_late (x : Sto) (hs : x.ok = true) (g : Ig) (h0 : 0 < g.b.length) (hp : g.put = false) (h : (ix g.b 0).t < (logS x).h0) :
    VFn Tryz.prog 29 [x.av, g.av] (.tup [x.av, (ingR g.id).av, .bool false, .int .i64 14]) := by
  have e0 : decide ((g.b.length : Int) = 0) = false := decide_eq_false (by omega)
  have c2 := l06Replay_fn x hs
  have cr := l09Rest_fn g
  have e1 : decide ((ix g.b 0).t < (logS x).h0) = true := decide_eq_true h
  clear h
  refine VFn.introC Tryz.call29 Tryz.func29 rfl rfl ?_
  repeat' (conv => whnf
           first
             | (refine Grd.intro (fun h => ?_) (fun h => ?_); rotate_left; focus (exfalso; simp_all; done))
             | (refine Grd.intro (fun h => ?_) (fun h => ?_); focus (exfalso; simp_all; done))
             | (refine Grd.intro (fun h => ?_) (fun h => ?_); focus (exact absurd (h.symm.trans e1) (by decide)))
             | refine And.intro (inI64 (by omega) (by omega)) ?_
             | refine And.intro (by omega) ?_
             | (refine CallC.nl _ (c2) ?_ ?_; focus (exact rfl))
             | refine PCallK.nl _ (cr) rfl ?_
             | (refine And.intro trivial (AVle.tup (AVsle.cons (AVle.refl _) (AVsle.cons (AVle.agg (AVsle.cons (AVle.refl _) (AVsle.cons (AVle.refl _) (AVsle.cons (AVle.refl _) (AVsle.cons (AVle.refl _) (AVsle.cons (AVle.nilsl _ _ rfl) (AVsle.refl _))))))) (AVsle.refl _)))); done)
             | (refine And.intro trivial (AVle.refl _); done)
             | fail)
  refine DrawC.mk 9 rfl (by kernel_rfl) ?_
  repeat' (conv => whnf
           first
             | (refine Grd.intro (fun h => ?_) (fun h => ?_); rotate_left; focus (exfalso; simp_all; done))
             | (refine Grd.intro (fun h => ?_) (fun h => ?_); focus (exfalso; simp_all; done))
             | (refine Grd.intro (fun h => ?_) (fun h => ?_); focus (exact absurd (h.symm.trans e1) (by decide)))
             | refine And.intro (inI64 (by omega) (by omega)) ?_
             | refine And.intro (by omega) ?_
             | (refine CallC.nl _ (c2) ?_ ?_; focus (exact rfl))
             | refine PCallK.nl _ (cr) rfl ?_
             | (refine And.intro trivial (AVle.tup (AVsle.cons (AVle.refl _) (AVsle.cons (AVle.agg (AVsle.cons (AVle.refl _) (AVsle.cons (AVle.refl _) (AVsle.cons (AVle.refl _) (AVsle.cons (AVle.refl _) (AVsle.cons (AVle.nilsl _ _ rfl) (AVsle.refl _))))))) (AVsle.refl _)))); done)
             | (refine And.intro trivial (AVle.refl _); done)
             | fail)
  refine DrawC.mkK 7 [(.inl 2, 3), (.inl 3, 4)] rfl (by kernel_rfl) ?_
  refine And.intro rfl ?_
  repeat' (conv => whnf
           first
             | (refine Grd.intro (fun h => ?_) (fun h => ?_); rotate_left; focus (exfalso; simp_all; done))
             | (refine Grd.intro (fun h => ?_) (fun h => ?_); focus (exfalso; simp_all; done))
             | (refine Grd.intro (fun h => ?_) (fun h => ?_); focus (exact absurd (h.symm.trans e1) (by decide)))
             | refine And.intro (inI64 (by omega) (by omega)) ?_
             | refine And.intro (by omega) ?_
             | (refine CallC.nl _ (c2) ?_ ?_; focus (exact rfl))
             | refine PCallK.nl _ (cr) rfl ?_
             | (refine And.intro trivial (AVle.tup (AVsle.cons (AVle.refl _) (AVsle.cons (AVle.agg (AVsle.cons (AVle.refl _) (AVsle.cons (AVle.refl _) (AVsle.cons (AVle.refl _) (AVsle.cons (AVle.refl _) (AVsle.cons (AVle.nilsl _ _ rfl) (AVsle.refl _))))))) (AVsle.refl _)))); done)
             | (refine And.intro trivial (AVle.refl _); done)
             | fail)
theorem sstep_full (x : Sto) (hs : x.ok = true) (g : Ig) (h0 : 0 < g.b.length) (hp : g.put = false) (h : ¬ (ix g.b 0).t < (logS x).h0) (h' : (logS x).seq = 999999) :
    VFn Tryz.prog 29 [x.av, g.av] (.tup [x.av, (ingR g.id).av, .bool false, .int .i64 7]) := by
  have e0 : decide ((g.b.length : Int) = 0) = false := decide_eq_false (by omega)
  have c2 := l06Replay_fn x hs
  have cr := l09Rest_fn g
  have e1 : decide ((ix g.b 0).t < (logS x).h0) = false := decide_eq_false h
  have e2 : decide ((logS x).seq = 999999) = true := decide_eq_true h'
  clear h h'
  refine VFn.introC Tryz.call29 Tryz.func29 rfl rfl ?_
  repeat' (conv => whnf
           first
             | (refine Grd.intro (fun h => ?_) (fun h => ?_); rotate_left; focus (exfalso; simp_all; done))
             | (refine Grd.intro (fun h => ?_) (fun h => ?_); focus (exfalso; simp_all; done))
             | (refine Grd.intro (fun h => ?_) (fun h => ?_); focus (exact absurd (h.symm.trans e1) (by decide)))
             | refine And.intro (inI64 (by omega) (by omega)) ?_
             | refine And.intro (by omega) ?_
             | (refine CallC.nl _ (c2) ?_ ?_; focus (exact rfl))
             | refine PCallK.nl _ (cr) rfl ?_
             | (refine And.intro trivial (AVle.tup (AVsle.cons (AVle.refl _) (AVsle.cons (AVle.agg (AVsle.cons (AVle.refl _) (AVsle.cons (AVle.refl _) (AVsle.cons (AVle.refl _) (AVsle.cons (AVle.refl _) (AVsle.cons (AVle.nilsl _ _ rfl) (AVsle.refl _))))))) (AVsle.refl _)))); done)
             | (refine And.intro trivial (AVle.refl _); done)
             | fail)
  refine DrawC.mk 9 rfl (by kernel_rfl) ?_
  repeat' (conv => whnf
           first
             | (refine Grd.intro (fun h => ?_) (fun h => ?_); rotate_left; focus (exfalso; simp_all; done))
             | (refine Grd.intro (fun h => ?_) (fun h => ?_); focus (exfalso; simp_all; done))
             | (refine Grd.intro (fun h => ?_) (fun h => ?_); focus (exact absurd (h.symm.trans e1) (by decide)))
             | refine And.intro (inI64 (by omega) (by omega)) ?_
             | refine And.intro (by omega) ?_
             | (refine CallC.nl _ (c2) ?_ ?_; focus (exact rfl))
             | refine PCallK.nl _ (cr) rfl ?_
             | (refine And.intro trivial (AVle.tup (AVsle.cons (AVle.refl _) (AVsle.cons (AVle.agg (AVsle.cons (AVle.refl _) (AVsle.cons (AVle.refl _) (AVsle.cons (AVle.refl _) (AVsle.cons (AVle.refl _) (AVsle.cons (AVle.nilsl _ _ rfl) (AVsle.refl _))))))) (AVsle.refl _)))); done)
             | (refine And.intro trivial (AVle.refl _); done)
             | fail)
  refine DrawC.mkK 7 [(.inl 2, 3), (.inl 3, 4)] rfl (by kernel_rfl) ?_
  refine And.intro rfl ?_
  repeat' (conv => whnf
           first
             | (refine Grd.intro (fun h => ?_) (fun h => ?_); rotate_left; focus (exfalso; simp_all; done))
             | (refine Grd.intro (fun h => ?_) (fun h => ?_); focus (exfalso; simp_all; done))
             | (refine Grd.intro (fun h => ?_) (fun h => ?_); focus (exact absurd (h.symm.trans e1) (by decide)))
             | refine And.intro (inI64 (by omega) (by omega)) ?_
             | refine And.intro (by omega) ?_
             | (refine CallC.nl _ (c2) ?_ ?_; focus (exact rfl))
             | refine PCallK.nl _ (cr) rfl ?_
             | (refine And.intro trivial (AVle.tup (AVsle.cons (AVle.refl _) (AVsle.cons (AVle.agg (AVsle.cons (AVle.refl _) (AVsle.cons (AVle.refl _) (AVsle.cons (AVle.refl _) (AVsle.cons (AVle.refl _) (AVsle.cons (AVle.nilsl _ _ rfl) (AVsle.refl _))))))) (AVsle.refl _)))); done)
             | (refine And.intro trivial (AVle.refl _); done)
             | fail)
theorem sstep_newA (x : Sto) (hs : x.ok = true) (g : Ig) (h0 : 0 < g.b.length) (h8 : g.b.length ≤ 8) (hp : g.put = false) (hid : 0 ≤ g.id ∧ g.id ≤ 9) (hv : smpsOK g.b = true) (hl1 : ¬ (ix g.b 0).t < (logS x).h0) (hl2 : ¬ (logS x).seq = 999999) (hl3 : 0 ≤ (logS x).seq ∧ (logS x).seq ≤ 999999) (y : Sto) (c : Int) (hc9 : c ≠ 9) (ca : VFn Tryz.prog 58 [x.av, .str (B (ingK x g)), .str (B (smpsText g.b))] (.tup [y.av, .int .i64 c])) :
    VFn Tryz.prog 29 [x.av, g.av] (.tup [(if c = 0 then y else x).av, (if c = 0 then ingPut x g else ingR g.id : Ig).av, .bool false, .int .i64 c]) := by
  have e0 : decide ((g.b.length : Int) = 0) = false := decide_eq_false (by omega)
  have hnum := smpsOK_num hv
  have b1 := smps_b hv (i := ((g.b.length : Int) - 1).toNat) (by omega)
  have et : ((g.b.length : Int) - 1).toNat = g.b.length - 1 := by omega
  have c2 := l06Replay_fn x hs
  have cr := l09Rest_fn g
  have dk : VFn Tryz.prog 54 [.int .i64 0, .int .i64 ((logS x).seq + 1), .int .i64 g.id] (.str (B (ingK x g))) := l03Key_at (t := 0) (n := ((logS x).seq + 1).toNat) (w := g.id.toNat) rfl (by omega) (by omega) (by omega) (by omega) (by omega)
  have ct := l03Samples_fn g.b (by omega) hnum
  have e1 : decide ((ix g.b 0).t < (logS x).h0) = false := decide_eq_false hl1
  have e2 : decide ((logS x).seq = 999999) = false := decide_eq_false hl2
  unfold ingPut
  rw [← et]
  clear et
  have e9 : decide (c = 9) = false := decide_eq_false hc9
  generalize ingK x g = K at dk ca
  generalize smpsText g.b = T at ct ca
  by_cases h1 : c = 0
  · subst h1
    rw [if_pos rfl, if_pos rfl]
    refine VFn.introC Tryz.call29 Tryz.func29 rfl rfl ?_
    repeat' (conv => whnf
             first
               | (refine Grd.intro (fun h => ?_) (fun h => ?_); rotate_left; focus (exfalso; simp_all; done))
               | (refine Grd.intro (fun h => ?_) (fun h => ?_); focus (exfalso; simp_all; done))
               | (refine Grd.intro (fun h => ?_) (fun h => ?_); focus (exact absurd (h.symm.trans e1) (by decide)))
               | refine And.intro (inI64 (by omega) (by omega)) ?_
               | refine And.intro (by omega) ?_
               | (refine CallC.sca _ (dk) ?_ ?_; focus (exact rfl))
               | (refine CallC.nl _ (c2) ?_ ?_; focus (exact rfl))
               | refine PCallK.sca _ (ct) rfl ?_
               | refine PCallK.nl _ (ca) rfl ?_
               | refine PCallK.nl _ (cr) rfl ?_
               | (refine And.intro trivial (AVle.tup (AVsle.cons (AVle.refl _) (AVsle.cons (AVle.agg (AVsle.cons (AVle.refl _) (AVsle.cons (AVle.refl _) (AVsle.cons (AVle.refl _) (AVsle.cons (AVle.refl _) (AVsle.cons (AVle.nilsl _ _ rfl) (AVsle.refl _))))))) (AVsle.refl _)))); done)
               | (refine And.intro trivial (AVle.refl _); done)
               | fail)
    refine DrawC.mk 9 rfl (by kernel_rfl) ?_
    repeat' (conv => whnf
             first
               | (refine Grd.intro (fun h => ?_) (fun h => ?_); rotate_left; focus (exfalso; simp_all; done))
               | (refine Grd.intro (fun h => ?_) (fun h => ?_); focus (exfalso; simp_all; done))
               | (refine Grd.intro (fun h => ?_) (fun h => ?_); focus (exact absurd (h.symm.trans e1) (by decide)))
               | refine And.intro (inI64 (by omega) (by omega)) ?_
               | refine And.intro (by omega) ?_
               | (refine CallC.sca _ (dk) ?_ ?_; focus (exact rfl))
               | (refine CallC.nl _ (c2) ?_ ?_; focus (exact rfl))
               | refine PCallK.sca _ (ct) rfl ?_
               | refine PCallK.nl _ (ca) rfl ?_
               | refine PCallK.nl _ (cr) rfl ?_
               | (refine And.intro trivial (AVle.tup (AVsle.cons (AVle.refl _) (AVsle.cons (AVle.agg (AVsle.cons (AVle.refl _) (AVsle.cons (AVle.refl _) (AVsle.cons (AVle.refl _) (AVsle.cons (AVle.refl _) (AVsle.cons (AVle.nilsl _ _ rfl) (AVsle.refl _))))))) (AVsle.refl _)))); done)
               | (refine And.intro trivial (AVle.refl _); done)
               | fail)
    refine DrawC.mkK 12 [(.inr 9, 10)] rfl (by kernel_rfl) ?_
    refine And.intro rfl ?_
    repeat' (conv => whnf
             first
               | (refine Grd.intro (fun h => ?_) (fun h => ?_); rotate_left; focus (exfalso; simp_all; done))
               | (refine Grd.intro (fun h => ?_) (fun h => ?_); focus (exfalso; simp_all; done))
               | (refine Grd.intro (fun h => ?_) (fun h => ?_); focus (exact absurd (h.symm.trans e1) (by decide)))
               | refine And.intro (inI64 (by omega) (by omega)) ?_
               | refine And.intro (by omega) ?_
               | (refine CallC.sca _ (dk) ?_ ?_; focus (exact rfl))
               | (refine CallC.nl _ (c2) ?_ ?_; focus (exact rfl))
               | refine PCallK.sca _ (ct) rfl ?_
               | refine PCallK.nl _ (ca) rfl ?_
               | refine PCallK.nl _ (cr) rfl ?_
               | (refine And.intro trivial (AVle.tup (AVsle.cons (AVle.refl _) (AVsle.cons (AVle.agg (AVsle.cons (AVle.refl _) (AVsle.cons (AVle.refl _) (AVsle.cons (AVle.refl _) (AVsle.cons (AVle.refl _) (AVsle.cons (AVle.nilsl _ _ rfl) (AVsle.refl _))))))) (AVsle.refl _)))); done)
               | (refine And.intro trivial (AVle.refl _); done)
               | fail)
    refine DrawC.mkK 6 [(.inl 2, 2), (.inl 3, 3)] rfl (by kernel_rfl) ?_
    refine And.intro rfl ?_
    repeat' (conv => whnf
             first
               | (refine Grd.intro (fun h => ?_) (fun h => ?_); rotate_left; focus (exfalso; simp_all; done))
               | (refine Grd.intro (fun h => ?_) (fun h => ?_); focus (exfalso; simp_all; done))
               | (refine Grd.intro (fun h => ?_) (fun h => ?_); focus (exact absurd (h.symm.trans e1) (by decide)))
               | refine And.intro (inI64 (by omega) (by omega)) ?_
               | refine And.intro (by omega) ?_
               | (refine CallC.sca _ (dk) ?_ ?_; focus (exact rfl))
               | (refine CallC.nl _ (c2) ?_ ?_; focus (exact rfl))
               | refine PCallK.sca _ (ct) rfl ?_
               | refine PCallK.nl _ (ca) rfl ?_
               | refine PCallK.nl _ (cr) rfl ?_
               | (refine And.intro trivial (AVle.tup (AVsle.cons (AVle.refl _) (AVsle.cons (AVle.agg (AVsle.cons (AVle.refl _) (AVsle.cons (AVle.refl _) (AVsle.cons (AVle.refl _) (AVsle.cons (AVle.refl _) (AVsle.cons (AVle.nilsl _ _ rfl) (AVsle.refl _))))))) (AVsle.refl _)))); done)
               | (refine And.intro trivial (AVle.refl _); done)
               | fail)
  · have ek : decide (c = 0) = false := decide_eq_false h1
    rw [if_neg h1, if_neg h1]
    refine VFn.introC Tryz.call29 Tryz.func29 rfl rfl ?_
    repeat' (conv => whnf
             first
               | (refine Grd.intro (fun h => ?_) (fun h => ?_); rotate_left; focus (exfalso; simp_all; done))
               | (refine Grd.intro (fun h => ?_) (fun h => ?_); focus (exfalso; simp_all; done))
               | (refine Grd.intro (fun h => ?_) (fun h => ?_); focus (exact absurd (h.symm.trans e1) (by decide)))
               | refine And.intro (inI64 (by omega) (by omega)) ?_
               | refine And.intro (by omega) ?_
               | (refine CallC.sca _ (dk) ?_ ?_; focus (exact rfl))
               | (refine CallC.nl _ (c2) ?_ ?_; focus (exact rfl))
               | refine PCallK.sca _ (ct) rfl ?_
               | refine PCallK.nl _ (ca) rfl ?_
               | refine PCallK.nl _ (cr) rfl ?_
               | (refine And.intro trivial (AVle.tup (AVsle.cons (AVle.refl _) (AVsle.cons (AVle.agg (AVsle.cons (AVle.refl _) (AVsle.cons (AVle.refl _) (AVsle.cons (AVle.refl _) (AVsle.cons (AVle.refl _) (AVsle.cons (AVle.nilsl _ _ rfl) (AVsle.refl _))))))) (AVsle.refl _)))); done)
               | (refine And.intro trivial (AVle.refl _); done)
               | fail)
    refine DrawC.mk 9 rfl (by kernel_rfl) ?_
    repeat' (conv => whnf
             first
               | (refine Grd.intro (fun h => ?_) (fun h => ?_); rotate_left; focus (exfalso; simp_all; done))
               | (refine Grd.intro (fun h => ?_) (fun h => ?_); focus (exfalso; simp_all; done))
               | (refine Grd.intro (fun h => ?_) (fun h => ?_); focus (exact absurd (h.symm.trans e1) (by decide)))
               | refine And.intro (inI64 (by omega) (by omega)) ?_
               | refine And.intro (by omega) ?_
               | (refine CallC.sca _ (dk) ?_ ?_; focus (exact rfl))
               | (refine CallC.nl _ (c2) ?_ ?_; focus (exact rfl))
               | refine PCallK.sca _ (ct) rfl ?_
               | refine PCallK.nl _ (ca) rfl ?_
               | refine PCallK.nl _ (cr) rfl ?_
               | (refine And.intro trivial (AVle.tup (AVsle.cons (AVle.refl _) (AVsle.cons (AVle.agg (AVsle.cons (AVle.refl _) (AVsle.cons (AVle.refl _) (AVsle.cons (AVle.refl _) (AVsle.cons (AVle.refl _) (AVsle.cons (AVle.nilsl _ _ rfl) (AVsle.refl _))))))) (AVsle.refl _)))); done)
               | (refine And.intro trivial (AVle.refl _); done)
               | fail)
    refine DrawC.mkK 12 [(.inr 9, 10)] rfl (by kernel_rfl) ?_
    refine And.intro rfl ?_
    repeat' (conv => whnf
             first
               | (refine Grd.intro (fun h => ?_) (fun h => ?_); rotate_left; focus (exfalso; simp_all; done))
               | (refine Grd.intro (fun h => ?_) (fun h => ?_); focus (exfalso; simp_all; done))
               | (refine Grd.intro (fun h => ?_) (fun h => ?_); focus (exact absurd (h.symm.trans e1) (by decide)))
               | refine And.intro (inI64 (by omega) (by omega)) ?_
               | refine And.intro (by omega) ?_
               | (refine CallC.sca _ (dk) ?_ ?_; focus (exact rfl))
               | (refine CallC.nl _ (c2) ?_ ?_; focus (exact rfl))
               | refine PCallK.sca _ (ct) rfl ?_
               | refine PCallK.nl _ (ca) rfl ?_
               | refine PCallK.nl _ (cr) rfl ?_
               | (refine And.intro trivial (AVle.tup (AVsle.cons (AVle.refl _) (AVsle.cons (AVle.agg (AVsle.cons (AVle.refl _) (AVsle.cons (AVle.refl _) (AVsle.cons (AVle.refl _) (AVsle.cons (AVle.refl _) (AVsle.cons (AVle.nilsl _ _ rfl) (AVsle.refl _))))))) (AVsle.refl _)))); done)
               | (refine And.intro trivial (AVle.refl _); done)
               | fail)
    refine DrawC.mkK 8 [(.inl 2, 4), (.inl 3, 5)] rfl (by kernel_rfl) ?_
    refine And.intro rfl ?_
    repeat' (conv => whnf
             first
               | (refine Grd.intro (fun h => ?_) (fun h => ?_); rotate_left; focus (exfalso; simp_all; done))
               | (refine Grd.intro (fun h => ?_) (fun h => ?_); focus (exfalso; simp_all; done))
               | (refine Grd.intro (fun h => ?_) (fun h => ?_); focus (exact absurd (h.symm.trans e1) (by decide)))
               | refine And.intro (inI64 (by omega) (by omega)) ?_
               | refine And.intro (by omega) ?_
               | (refine CallC.sca _ (dk) ?_ ?_; focus (exact rfl))
               | (refine CallC.nl _ (c2) ?_ ?_; focus (exact rfl))
               | refine PCallK.sca _ (ct) rfl ?_
               | refine PCallK.nl _ (ca) rfl ?_
               | refine PCallK.nl _ (cr) rfl ?_
               | (refine And.intro trivial (AVle.tup (AVsle.cons (AVle.refl _) (AVsle.cons (AVle.agg (AVsle.cons (AVle.refl _) (AVsle.cons (AVle.refl _) (AVsle.cons (AVle.refl _) (AVsle.cons (AVle.refl _) (AVsle.cons (AVle.nilsl _ _ rfl) (AVsle.refl _))))))) (AVsle.refl _)))); done)
               | (refine And.intro trivial (AVle.refl _); done)
               | fail)
theorem sstep_newO (x : Sto) (hs : x.ok = true) (g : Ig) (h0 : 0 < g.b.length) (h8 : g.b.length ≤ 8) (hp : g.put = false) (hid : 0 ≤ g.id ∧ g.id ≤ 9) (hv : smpsOK g.b = true) (hl1 : ¬ (ix g.b 0).t < (logS x).h0) (hl2 : ¬ (logS x).seq = 999999) (hl3 : 0 ≤ (logS x).seq ∧ (logS x).seq ≤ 999999) (y : Sto) (c : Int) (v : Int) (D : ByteArray) (ca : VFn Tryz.prog 58 [x.av, .str (B (ingK x g)), .str (B (smpsText g.b))] (.tup [x.av, .int .i64 9])) (cg : VFn Tryz.prog 60 [x.av, .str (B (ingK x g))] (.tup [.str D, .int .i64 v])) (co : VFn Tryz.prog 61 [x.av, .str (B (ingK x g)), .int .i64 v, .str (B (smpsText g.b))] (.tup [y.av, .int .i64 c])) :
    VFn Tryz.prog 29 [x.av, g.av] (.tup [(if c = 0 then y else x).av, (if c = 0 then ingPut x g else ingR g.id : Ig).av, .bool false, .int .i64 c]) := by
  have e0 : decide ((g.b.length : Int) = 0) = false := decide_eq_false (by omega)
  have hnum := smpsOK_num hv
  have b1 := smps_b hv (i := ((g.b.length : Int) - 1).toNat) (by omega)
  have et : ((g.b.length : Int) - 1).toNat = g.b.length - 1 := by omega
  have c2 := l06Replay_fn x hs
  have cr := l09Rest_fn g
  have dk : VFn Tryz.prog 54 [.int .i64 0, .int .i64 ((logS x).seq + 1), .int .i64 g.id] (.str (B (ingK x g))) := l03Key_at (t := 0) (n := ((logS x).seq + 1).toNat) (w := g.id.toNat) rfl (by omega) (by omega) (by omega) (by omega) (by omega)
  have ct := l03Samples_fn g.b (by omega) hnum
  have e1 : decide ((ix g.b 0).t < (logS x).h0) = false := decide_eq_false hl1
  have e2 : decide ((logS x).seq = 999999) = false := decide_eq_false hl2
  unfold ingPut
  rw [← et]
  clear et
  generalize ingK x g = K at dk ca cg co
  generalize smpsText g.b = T at ct ca co
  by_cases h1 : c = 0
  · subst h1
    rw [if_pos rfl, if_pos rfl]
    refine VFn.introC Tryz.call29 Tryz.func29 rfl rfl ?_
    repeat' (conv => whnf
             first
               | (refine Grd.intro (fun h => ?_) (fun h => ?_); rotate_left; focus (exfalso; simp_all; done))
               | (refine Grd.intro (fun h => ?_) (fun h => ?_); focus (exfalso; simp_all; done))
               | (refine Grd.intro (fun h => ?_) (fun h => ?_); focus (exact absurd (h.symm.trans e1) (by decide)))
               | refine And.intro (inI64 (by omega) (by omega)) ?_
               | refine And.intro (by omega) ?_
               | (refine CallC.sca _ (dk) ?_ ?_; focus (exact rfl))
               | (refine CallC.sca _ (cg) ?_ ?_; focus (exact rfl))
               | (refine CallC.nl _ (c2) ?_ ?_; focus (exact rfl))
               | refine PCallK.sca _ (ct) rfl ?_
               | refine PCallK.nl _ (ca) rfl ?_
               | refine PCallK.nl _ (co) rfl ?_
               | refine PCallK.nl _ (cr) rfl ?_
               | (refine And.intro trivial (AVle.tup (AVsle.cons (AVle.refl _) (AVsle.cons (AVle.agg (AVsle.cons (AVle.refl _) (AVsle.cons (AVle.refl _) (AVsle.cons (AVle.refl _) (AVsle.cons (AVle.refl _) (AVsle.cons (AVle.nilsl _ _ rfl) (AVsle.refl _))))))) (AVsle.refl _)))); done)
               | (refine And.intro trivial (AVle.refl _); done)
               | fail)
    refine DrawC.mk 9 rfl (by kernel_rfl) ?_
    repeat' (conv => whnf
             first
               | (refine Grd.intro (fun h => ?_) (fun h => ?_); rotate_left; focus (exfalso; simp_all; done))
               | (refine Grd.intro (fun h => ?_) (fun h => ?_); focus (exfalso; simp_all; done))
               | (refine Grd.intro (fun h => ?_) (fun h => ?_); focus (exact absurd (h.symm.trans e1) (by decide)))
               | refine And.intro (inI64 (by omega) (by omega)) ?_
               | refine And.intro (by omega) ?_
               | (refine CallC.sca _ (dk) ?_ ?_; focus (exact rfl))
               | (refine CallC.sca _ (cg) ?_ ?_; focus (exact rfl))
               | (refine CallC.nl _ (c2) ?_ ?_; focus (exact rfl))
               | refine PCallK.sca _ (ct) rfl ?_
               | refine PCallK.nl _ (ca) rfl ?_
               | refine PCallK.nl _ (co) rfl ?_
               | refine PCallK.nl _ (cr) rfl ?_
               | (refine And.intro trivial (AVle.tup (AVsle.cons (AVle.refl _) (AVsle.cons (AVle.agg (AVsle.cons (AVle.refl _) (AVsle.cons (AVle.refl _) (AVsle.cons (AVle.refl _) (AVsle.cons (AVle.refl _) (AVsle.cons (AVle.nilsl _ _ rfl) (AVsle.refl _))))))) (AVsle.refl _)))); done)
               | (refine And.intro trivial (AVle.refl _); done)
               | fail)
    refine DrawC.mkK 12 [(.inr 9, 10)] rfl (by kernel_rfl) ?_
    refine And.intro rfl ?_
    repeat' (conv => whnf
             first
               | (refine Grd.intro (fun h => ?_) (fun h => ?_); rotate_left; focus (exfalso; simp_all; done))
               | (refine Grd.intro (fun h => ?_) (fun h => ?_); focus (exfalso; simp_all; done))
               | (refine Grd.intro (fun h => ?_) (fun h => ?_); focus (exact absurd (h.symm.trans e1) (by decide)))
               | refine And.intro (inI64 (by omega) (by omega)) ?_
               | refine And.intro (by omega) ?_
               | (refine CallC.sca _ (dk) ?_ ?_; focus (exact rfl))
               | (refine CallC.sca _ (cg) ?_ ?_; focus (exact rfl))
               | (refine CallC.nl _ (c2) ?_ ?_; focus (exact rfl))
               | refine PCallK.sca _ (ct) rfl ?_
               | refine PCallK.nl _ (ca) rfl ?_
               | refine PCallK.nl _ (co) rfl ?_
               | refine PCallK.nl _ (cr) rfl ?_
               | (refine And.intro trivial (AVle.tup (AVsle.cons (AVle.refl _) (AVsle.cons (AVle.agg (AVsle.cons (AVle.refl _) (AVsle.cons (AVle.refl _) (AVsle.cons (AVle.refl _) (AVsle.cons (AVle.refl _) (AVsle.cons (AVle.nilsl _ _ rfl) (AVsle.refl _))))))) (AVsle.refl _)))); done)
               | (refine And.intro trivial (AVle.refl _); done)
               | fail)
    refine DrawC.mkK 12 [(.inl 23, 10)] rfl (by kernel_rfl) ?_
    refine And.intro rfl ?_
    repeat' (conv => whnf
             first
               | (refine Grd.intro (fun h => ?_) (fun h => ?_); rotate_left; focus (exfalso; simp_all; done))
               | (refine Grd.intro (fun h => ?_) (fun h => ?_); focus (exfalso; simp_all; done))
               | (refine Grd.intro (fun h => ?_) (fun h => ?_); focus (exact absurd (h.symm.trans e1) (by decide)))
               | refine And.intro (inI64 (by omega) (by omega)) ?_
               | refine And.intro (by omega) ?_
               | (refine CallC.sca _ (dk) ?_ ?_; focus (exact rfl))
               | (refine CallC.sca _ (cg) ?_ ?_; focus (exact rfl))
               | (refine CallC.nl _ (c2) ?_ ?_; focus (exact rfl))
               | refine PCallK.sca _ (ct) rfl ?_
               | refine PCallK.nl _ (ca) rfl ?_
               | refine PCallK.nl _ (co) rfl ?_
               | refine PCallK.nl _ (cr) rfl ?_
               | (refine And.intro trivial (AVle.tup (AVsle.cons (AVle.refl _) (AVsle.cons (AVle.agg (AVsle.cons (AVle.refl _) (AVsle.cons (AVle.refl _) (AVsle.cons (AVle.refl _) (AVsle.cons (AVle.refl _) (AVsle.cons (AVle.nilsl _ _ rfl) (AVsle.refl _))))))) (AVsle.refl _)))); done)
               | (refine And.intro trivial (AVle.refl _); done)
               | fail)
    refine DrawC.mkK 6 [(.inl 2, 2), (.inl 3, 3)] rfl (by kernel_rfl) ?_
    refine And.intro rfl ?_
    repeat' (conv => whnf
             first
               | (refine Grd.intro (fun h => ?_) (fun h => ?_); rotate_left; focus (exfalso; simp_all; done))
               | (refine Grd.intro (fun h => ?_) (fun h => ?_); focus (exfalso; simp_all; done))
               | (refine Grd.intro (fun h => ?_) (fun h => ?_); focus (exact absurd (h.symm.trans e1) (by decide)))
               | refine And.intro (inI64 (by omega) (by omega)) ?_
               | refine And.intro (by omega) ?_
               | (refine CallC.sca _ (dk) ?_ ?_; focus (exact rfl))
               | (refine CallC.sca _ (cg) ?_ ?_; focus (exact rfl))
               | (refine CallC.nl _ (c2) ?_ ?_; focus (exact rfl))
               | refine PCallK.sca _ (ct) rfl ?_
               | refine PCallK.nl _ (ca) rfl ?_
               | refine PCallK.nl _ (co) rfl ?_
               | refine PCallK.nl _ (cr) rfl ?_
               | (refine And.intro trivial (AVle.tup (AVsle.cons (AVle.refl _) (AVsle.cons (AVle.agg (AVsle.cons (AVle.refl _) (AVsle.cons (AVle.refl _) (AVsle.cons (AVle.refl _) (AVsle.cons (AVle.refl _) (AVsle.cons (AVle.nilsl _ _ rfl) (AVsle.refl _))))))) (AVsle.refl _)))); done)
               | (refine And.intro trivial (AVle.refl _); done)
               | fail)
  · have ek : decide (c = 0) = false := decide_eq_false h1
    rw [if_neg h1, if_neg h1]
    refine VFn.introC Tryz.call29 Tryz.func29 rfl rfl ?_
    repeat' (conv => whnf
             first
               | (refine Grd.intro (fun h => ?_) (fun h => ?_); rotate_left; focus (exfalso; simp_all; done))
               | (refine Grd.intro (fun h => ?_) (fun h => ?_); focus (exfalso; simp_all; done))
               | (refine Grd.intro (fun h => ?_) (fun h => ?_); focus (exact absurd (h.symm.trans e1) (by decide)))
               | refine And.intro (inI64 (by omega) (by omega)) ?_
               | refine And.intro (by omega) ?_
               | (refine CallC.sca _ (dk) ?_ ?_; focus (exact rfl))
               | (refine CallC.sca _ (cg) ?_ ?_; focus (exact rfl))
               | (refine CallC.nl _ (c2) ?_ ?_; focus (exact rfl))
               | refine PCallK.sca _ (ct) rfl ?_
               | refine PCallK.nl _ (ca) rfl ?_
               | refine PCallK.nl _ (co) rfl ?_
               | refine PCallK.nl _ (cr) rfl ?_
               | (refine And.intro trivial (AVle.tup (AVsle.cons (AVle.refl _) (AVsle.cons (AVle.agg (AVsle.cons (AVle.refl _) (AVsle.cons (AVle.refl _) (AVsle.cons (AVle.refl _) (AVsle.cons (AVle.refl _) (AVsle.cons (AVle.nilsl _ _ rfl) (AVsle.refl _))))))) (AVsle.refl _)))); done)
               | (refine And.intro trivial (AVle.refl _); done)
               | fail)
    refine DrawC.mk 9 rfl (by kernel_rfl) ?_
    repeat' (conv => whnf
             first
               | (refine Grd.intro (fun h => ?_) (fun h => ?_); rotate_left; focus (exfalso; simp_all; done))
               | (refine Grd.intro (fun h => ?_) (fun h => ?_); focus (exfalso; simp_all; done))
               | (refine Grd.intro (fun h => ?_) (fun h => ?_); focus (exact absurd (h.symm.trans e1) (by decide)))
               | refine And.intro (inI64 (by omega) (by omega)) ?_
               | refine And.intro (by omega) ?_
               | (refine CallC.sca _ (dk) ?_ ?_; focus (exact rfl))
               | (refine CallC.sca _ (cg) ?_ ?_; focus (exact rfl))
               | (refine CallC.nl _ (c2) ?_ ?_; focus (exact rfl))
               | refine PCallK.sca _ (ct) rfl ?_
               | refine PCallK.nl _ (ca) rfl ?_
               | refine PCallK.nl _ (co) rfl ?_
               | refine PCallK.nl _ (cr) rfl ?_
               | (refine And.intro trivial (AVle.tup (AVsle.cons (AVle.refl _) (AVsle.cons (AVle.agg (AVsle.cons (AVle.refl _) (AVsle.cons (AVle.refl _) (AVsle.cons (AVle.refl _) (AVsle.cons (AVle.refl _) (AVsle.cons (AVle.nilsl _ _ rfl) (AVsle.refl _))))))) (AVsle.refl _)))); done)
               | (refine And.intro trivial (AVle.refl _); done)
               | fail)
    refine DrawC.mkK 12 [(.inr 9, 10)] rfl (by kernel_rfl) ?_
    refine And.intro rfl ?_
    repeat' (conv => whnf
             first
               | (refine Grd.intro (fun h => ?_) (fun h => ?_); rotate_left; focus (exfalso; simp_all; done))
               | (refine Grd.intro (fun h => ?_) (fun h => ?_); focus (exfalso; simp_all; done))
               | (refine Grd.intro (fun h => ?_) (fun h => ?_); focus (exact absurd (h.symm.trans e1) (by decide)))
               | refine And.intro (inI64 (by omega) (by omega)) ?_
               | refine And.intro (by omega) ?_
               | (refine CallC.sca _ (dk) ?_ ?_; focus (exact rfl))
               | (refine CallC.sca _ (cg) ?_ ?_; focus (exact rfl))
               | (refine CallC.nl _ (c2) ?_ ?_; focus (exact rfl))
               | refine PCallK.sca _ (ct) rfl ?_
               | refine PCallK.nl _ (ca) rfl ?_
               | refine PCallK.nl _ (co) rfl ?_
               | refine PCallK.nl _ (cr) rfl ?_
               | (refine And.intro trivial (AVle.tup (AVsle.cons (AVle.refl _) (AVsle.cons (AVle.agg (AVsle.cons (AVle.refl _) (AVsle.cons (AVle.refl _) (AVsle.cons (AVle.refl _) (AVsle.cons (AVle.refl _) (AVsle.cons (AVle.nilsl _ _ rfl) (AVsle.refl _))))))) (AVsle.refl _)))); done)
               | (refine And.intro trivial (AVle.refl _); done)
               | fail)
    refine DrawC.mkK 12 [(.inl 23, 10)] rfl (by kernel_rfl) ?_
    refine And.intro rfl ?_
    repeat' (conv => whnf
             first
               | (refine Grd.intro (fun h => ?_) (fun h => ?_); rotate_left; focus (exfalso; simp_all; done))
               | (refine Grd.intro (fun h => ?_) (fun h => ?_); focus (exfalso; simp_all; done))
               | (refine Grd.intro (fun h => ?_) (fun h => ?_); focus (exact absurd (h.symm.trans e1) (by decide)))
               | refine And.intro (inI64 (by omega) (by omega)) ?_
               | refine And.intro (by omega) ?_
               | (refine CallC.sca _ (dk) ?_ ?_; focus (exact rfl))
               | (refine CallC.sca _ (cg) ?_ ?_; focus (exact rfl))
               | (refine CallC.nl _ (c2) ?_ ?_; focus (exact rfl))
               | refine PCallK.sca _ (ct) rfl ?_
               | refine PCallK.nl _ (ca) rfl ?_
               | refine PCallK.nl _ (co) rfl ?_
               | refine PCallK.nl _ (cr) rfl ?_
               | (refine And.intro trivial (AVle.tup (AVsle.cons (AVle.refl _) (AVsle.cons (AVle.agg (AVsle.cons (AVle.refl _) (AVsle.cons (AVle.refl _) (AVsle.cons (AVle.refl _) (AVsle.cons (AVle.refl _) (AVsle.cons (AVle.nilsl _ _ rfl) (AVsle.refl _))))))) (AVsle.refl _)))); done)
               | (refine And.intro trivial (AVle.refl _); done)
               | fail)
    refine DrawC.mkK 8 [(.inl 2, 4), (.inl 3, 5)] rfl (by kernel_rfl) ?_
    refine And.intro rfl ?_
    repeat' (conv => whnf
             first
               | (refine Grd.intro (fun h => ?_) (fun h => ?_); rotate_left; focus (exfalso; simp_all; done))
               | (refine Grd.intro (fun h => ?_) (fun h => ?_); focus (exfalso; simp_all; done))
               | (refine Grd.intro (fun h => ?_) (fun h => ?_); focus (exact absurd (h.symm.trans e1) (by decide)))
               | refine And.intro (inI64 (by omega) (by omega)) ?_
               | refine And.intro (by omega) ?_
               | (refine CallC.sca _ (dk) ?_ ?_; focus (exact rfl))
               | (refine CallC.sca _ (cg) ?_ ?_; focus (exact rfl))
               | (refine CallC.nl _ (c2) ?_ ?_; focus (exact rfl))
               | refine PCallK.sca _ (ct) rfl ?_
               | refine PCallK.nl _ (ca) rfl ?_
               | refine PCallK.nl _ (co) rfl ?_
               | refine PCallK.nl _ (cr) rfl ?_
               | (refine And.intro trivial (AVle.tup (AVsle.cons (AVle.refl _) (AVsle.cons (AVle.agg (AVsle.cons (AVle.refl _) (AVsle.cons (AVle.refl _) (AVsle.cons (AVle.refl _) (AVsle.cons (AVle.refl _) (AVsle.cons (AVle.nilsl _ _ rfl) (AVsle.refl _))))))) (AVsle.refl _)))); done)
               | (refine And.intro trivial (AVle.refl _); done)
               | fail)
end Go.Proofs.YtopfpmcakoeloaaGreatDoor
