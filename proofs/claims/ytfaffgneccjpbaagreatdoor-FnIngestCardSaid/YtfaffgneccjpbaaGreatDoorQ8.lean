/- Contracts of functions that the claim reaches, and the plain law of what they compute; each theorem bears its own conditions. -/
import Derived.Test.YtfaffgneccjpbaaGreatDoorQ6
import Derived.Test.YtfaffgneccjpbaaGreatDoorQ7
import Derived.Test.YtfaffgneccjpbaaGreatDoorQ4
import Derived.Test.YtfaffgneccjpbaaGreatDoorQ3
import Derived.Test.YtfaffgneccjpbaaGreatDoorQ1
import Derived.Test.YtfaffgneccjpbaaGreatDoorQ2
import Derived.Test.YtfaffgneccjpbaaGreatDoorQ5
import Derived.Test.YtfaffgneccjpbaaGreatDoorV50
set_option linter.unusedVariables false
set_option linter.constructorNameAsVariable false
set_option linter.unusedSimpArgs false
set_option maxRecDepth 20000
namespace Go.Proofs.YtfaffgneccjpbaaGreatDoor
open Go Go.Vw

theorem key_fields {t n w : Nat} (ht : t ≤ 2) (hn : n ≤ 999999) (hw : w ≤ 999999) : kOk (keyB t n w) = true ∧ kT (keyB t n w) = t ∧ kN (keyB t n w) = n ∧ kW (keyB t n w) = w := by
  have h := parse_key ht hn hw
  unfold kOk kT kN kW
  rw [h]
  exact ⟨rfl, rfl, rfl, rfl⟩
theorem dataKey_fn (t : Nat) (n w : Int) (ht : t ≤ 2) (hn : within n 0 999999 = true) (hw : within w 0 999999 = true) : VFn Tryz.prog 40 [.int .i64 (t : Int), .int .i64 n, .int .i64 w] (.str (B (keyB t n.toNat w.toNat))) := by
  have e : keyB t n.toNat w.toNat = pre t ++ six6 n.toNat ++ [45] ++ six6 w.toNat := by unfold keyB; simp
  have h : t = 0 ∨ t = 1 ∨ t = 2 := by omega
  rcases h with rfl | rfl | rfl
  all_goals
    refine VFn.introC Tryz.call40 Tryz.func40 rfl rfl ?_
    refine DrawC.mk 12 rfl (by kernel_rfl) ?_
    refine PCallC.nl _ (dataPrefixes_fn) rfl ?_
    refine And.intro ⟨by decide, by decide⟩ ?_
    refine PCallC.sca _ (six_fn n hn) rfl ?_
    refine And.intro (show (_ : Int) ≤ 9223372036854775807 by rw [B_size, B_size]; simp [six6, pre]) ?_
    refine And.intro (show (((B _ ++ B _).size + (B [45]).size : Nat) : Int) ≤ 9223372036854775807 by rw [B_app, B_size, B_size]; simp [six6, pre]) ?_
    refine PCallC.sca _ (six_fn w hw) rfl ?_
    refine And.intro (show (((B _ ++ B _ ++ B [45]).size + (B _).size : Nat) : Int) ≤ 9223372036854775807 by rw [B_app, B_app, B_size, B_size]; simp [six6, pre]) ?_
    exact And.intro trivial (AVle.of_eq (congrArg AV.str (show B _ ++ B _ ++ B [45] ++ B _ = _ by rw [e, B_app, B_app, B_app]; rfl)))
def ingR (id : Int) : Ig := ⟨id, 0, 0, 0, [], false⟩
def ingRec (g : Ig) : Rc := ⟨1, 0, 0, g.f, g.t, keyB 0 g.seq.toNat g.id.toNat⟩
def ingK (x : Sto) (g : Ig) : List UInt8 := keyB 0 ((logS x).seq + 1).toNat g.id.toNat
def ingPut (x : Sto) (g : Ig) : Ig := ⟨g.id, (logS x).seq + 1, (logS x).h0, (ix g.b (g.b.length - 1)).t + 1, g.b, true⟩
def stI (x : Sto) (g : Ig) : Sto × Ig × Bool × Int :=
  if g.b.length = 0 then (x, g, false, 18)
  else if g.put = true then
    if (appS x g.seq (ingRec g)).2 = 0 then ((appS x g.seq (ingRec g)).1, ingR g.id, true, 0)
    else if (appS x g.seq (ingRec g)).2 = 9 then (x, ⟨g.id, 0, 0, 0, g.b, false⟩, false, 0)
    else (x, ingR g.id, false, (appS x g.seq (ingRec g)).2)
  else if (ix g.b 0).t < (logS x).h0 then (x, ingR g.id, false, 14)
  else if (logS x).seq = 999999 then (x, ingR g.id, false, 7)
  else if x.room (ingK x g) (smpsText g.b) = 0 then (x.set (ingK x g) (smpsText g.b), ingPut x g, false, 0)
  else (x, ingR g.id, false, x.room (ingK x g) (smpsText g.b))
structure IgF (g : Ig) : Prop where
  id : 0 ≤ g.id ∧ g.id ≤ 9
  sm : smpsOK g.b = true
  len : g.b.length ≤ 8
  put : g.put = true → 0 < g.b.length ∧ (1 ≤ g.seq ∧ g.seq ≤ 999999) ∧ (0 ≤ g.f ∧ g.f ≤ (ix g.b 0).t) ∧ g.t = (ix g.b (g.b.length - 1)).t + 1
theorem Ig.facts {g : Ig} (h : g.ok = true) : IgF g := by
  obtain ⟨id, seq, f, t, b, put⟩ := g
  unfold Ig.ok igOK at h
  simp only [Bool.and_eq_true, Bool.not_eq_true', decide_eq_false_iff_not] at h
  obtain ⟨h1, h2, h3, h4⟩ := h
  refine ⟨by simpa [within] using h1, h2, by simp only; omega, fun hp => ?_⟩
  have hp : put = true := hp
  subst hp
  simp only [if_true, Bool.and_eq_true, decide_eq_true_eq, within] at h4
  obtain ⟨a1, ⟨a2, a3⟩, ⟨a4, a5⟩, a6⟩ := h4
  have e : ((b.length : Int) - 1).toNat = b.length - 1 := by omega
  rw [e] at a6
  have a5 : f ≤ (ix b 0).t := a5
  show 0 < b.length ∧ (1 ≤ seq ∧ seq ≤ 999999) ∧ (0 ≤ f ∧ f ≤ (ix b 0).t) ∧ t = (ix b (b.length - 1)).t + 1
  exact ⟨by omega, ⟨a2, a3⟩, ⟨a4, a5⟩, a6⟩
theorem smps_srt {L : List Smp} (h : smpsOK L = true) : ∀ i j, i ≤ j → j < L.length → (ix L i).t ≤ (ix L j).t := by
  have hh : ∀ i, i < L.length → smpAt L i = true := by
    unfold smpsOK at h
    rw [Bool.and_eq_true] at h
    exact allN_iff.1 h.2
  intro i j hij
  induction j with
  | zero => intro _; rw [show i = 0 by omega]; exact Int.le_refl _
  | succ j ih =>
    intro hj
    rcases Nat.lt_or_ge i (j + 1) with h1 | h1
    · have a := ih (by omega) (by omega)
      have b := hh (j + 1) hj
      simp [smpAt] at b
      omega
    · rw [show i = j + 1 by omega]; exact Int.le_refl _
theorem ingRec_ok {g : Ig} (h : IgF g) (hp : g.put = true) : (ingRec g).ok = true := by
  obtain ⟨p1, p2, p3, p4⟩ := h.put hp
  have b0 := smps_b h.sm (i := 0) (by omega)
  have b1 := smps_b h.sm (i := g.b.length - 1) (by omega)
  have hs : (ix g.b 0).t ≤ (ix g.b (g.b.length - 1)).t := by
    exact smps_srt h.sm 0 (g.b.length - 1) (by omega) (by omega)
  have hid := h.id
  obtain ⟨k1, k2, k3, k4⟩ := key_fields (t := 0) (n := g.seq.toNat) (w := g.id.toNat) (by omega) (by omega) (by omega)
  unfold Rc.ok ingRec Rc.en En.ok
  simp only [if_true, k1, k2, isRange, within]
  simp
  omega
theorem step_idle (x : Sto) (g : Ig) (h0 : g.b.length = 0) : VFn Tryz.prog 65 [g.av, x.av] (.tup [x.av, g.av, .bool false, .int .i64 18]) := by
  have e0 : decide ((g.b.length : Int) = 0) = true := decide_eq_true (by omega)
  refine VFn.introC Tryz.call65 Tryz.func65 rfl rfl ?_
  repeat' (conv => whnf
           first
             | (refine Grd.intro (fun h => ?_) (fun h => ?_); rotate_left; focus (exfalso; simp_all; done))
             | (refine Grd.intro (fun h => ?_) (fun h => ?_); focus (exfalso; simp_all; done))
             | (refine Grd.intro (fun h => ?_) (fun h => ?_); focus (exact absurd (h.symm.trans e1) (by decide)))
             | refine And.intro (inI64 (by omega) (by omega)) ?_
             | refine And.intro (by omega) ?_
             | (refine And.intro trivial (AVle.refl _); done)
             | fail)
  refine DrawC.mkK 6 [(.inl 2, 2), (.inl 3, 3)] rfl (by kernel_rfl) ?_
  refine And.intro rfl ?_
  repeat' (conv => whnf
           first
             | (refine Grd.intro (fun h => ?_) (fun h => ?_); rotate_left; focus (exfalso; simp_all; done))
             | (refine Grd.intro (fun h => ?_) (fun h => ?_); focus (exfalso; simp_all; done))
             | (refine Grd.intro (fun h => ?_) (fun h => ?_); focus (exact absurd (h.symm.trans e1) (by decide)))
             | refine And.intro (inI64 (by omega) (by omega)) ?_
             | refine And.intro (by omega) ?_
             | (refine And.intro trivial (AVle.refl _); done)
             | fail)
theorem step_put (x : Sto) (hs : x.ok = true) (g : Ig) (h0 : 0 < g.b.length) (hp : g.put = true) (hid : 0 ≤ g.id ∧ g.id ≤ 9) (hsq : 1 ≤ g.seq ∧ g.seq ≤ 999999) (hr : (ingRec g).ok = true) (y : Sto) (c : Int) (hc : appS x g.seq (ingRec g) = (y, c)) :
    VFn Tryz.prog 65 [g.av, x.av] (.tup [(if c = 0 then y else x).av, (if c = 9 then ⟨g.id, 0, 0, 0, g.b, false⟩ else ingR g.id : Ig).av, .bool (decide (c = 0)), .int .i64 (if c = 9 then 0 else c)]) := by
  have e0 : decide ((g.b.length : Int) = 0) = false := decide_eq_false (by omega)
  have dk : VFn Tryz.prog 40 [.int .i64 0, .int .i64 g.seq, .int .i64 g.id] (.str (B (keyB 0 g.seq.toNat g.id.toNat))) := dataKey_fn 0 g.seq g.id (by omega) (by simp [within]; omega) (by simp [within]; omega)
  have cl := lay_fn x hs g.seq (by simp [within]; omega) (ingRec g) hr
  rw [hc] at cl
  simp only at cl
  unfold ingRec at cl
  by_cases h1 : c = 0
  · subst h1
    refine VFn.introC Tryz.call65 Tryz.func65 rfl rfl ?_
    repeat' (conv => whnf
             first
               | (refine Grd.intro (fun h => ?_) (fun h => ?_); rotate_left; focus (exfalso; simp_all; done))
               | (refine Grd.intro (fun h => ?_) (fun h => ?_); focus (exfalso; simp_all; done))
               | (refine Grd.intro (fun h => ?_) (fun h => ?_); focus (exact absurd (h.symm.trans e1) (by decide)))
               | refine And.intro (inI64 (by omega) (by omega)) ?_
               | refine And.intro (by omega) ?_
               | refine PCallK.sca _ (dk) rfl ?_
               | refine PCallK.nl _ (cl) rfl ?_
               | (refine And.intro trivial (AVle.tup (AVsle.cons (AVle.refl _) (AVsle.cons (AVle.agg (AVsle.cons (AVle.refl _) (AVsle.cons (AVle.refl _) (AVsle.cons (AVle.refl _) (AVsle.cons (AVle.refl _) (AVsle.cons (AVle.nilsl _ _ rfl) (AVsle.refl _))))))) (AVsle.refl _)))); done)
               | (refine And.intro trivial (AVle.refl _); done)
               | fail)
    refine DrawC.mkK 20 [(.inr 17, 18)] rfl (by kernel_rfl) ?_
    refine And.intro rfl ?_
    repeat' (conv => whnf
             first
               | (refine Grd.intro (fun h => ?_) (fun h => ?_); rotate_left; focus (exfalso; simp_all; done))
               | (refine Grd.intro (fun h => ?_) (fun h => ?_); focus (exfalso; simp_all; done))
               | (refine Grd.intro (fun h => ?_) (fun h => ?_); focus (exact absurd (h.symm.trans e1) (by decide)))
               | refine And.intro (inI64 (by omega) (by omega)) ?_
               | refine And.intro (by omega) ?_
               | refine PCallK.sca _ (dk) rfl ?_
               | refine PCallK.nl _ (cl) rfl ?_
               | (refine And.intro trivial (AVle.tup (AVsle.cons (AVle.refl _) (AVsle.cons (AVle.agg (AVsle.cons (AVle.refl _) (AVsle.cons (AVle.refl _) (AVsle.cons (AVle.refl _) (AVsle.cons (AVle.refl _) (AVsle.cons (AVle.nilsl _ _ rfl) (AVsle.refl _))))))) (AVsle.refl _)))); done)
               | (refine And.intro trivial (AVle.refl _); done)
               | fail)
    refine DrawC.mkK 8 [(.inl 2, 4), (.inl 3, 5)] rfl (by kernel_rfl) ?_
    refine And.intro rfl ?_
    repeat' (conv => whnf
             first
               | (refine Grd.intro (fun h => ?_) (fun h => ?_); rotate_left; focus (exfalso; simp_all; done))
               | (refine Grd.intro (fun h => ?_) (fun h => ?_); focus (exfalso; simp_all; done))
               | (refine Grd.intro (fun h => ?_) (fun h => ?_); focus (exact absurd (h.symm.trans e1) (by decide)))
               | refine And.intro (inI64 (by omega) (by omega)) ?_
               | refine And.intro (by omega) ?_
               | refine PCallK.sca _ (dk) rfl ?_
               | refine PCallK.nl _ (cl) rfl ?_
               | (refine And.intro trivial (AVle.tup (AVsle.cons (AVle.refl _) (AVsle.cons (AVle.agg (AVsle.cons (AVle.refl _) (AVsle.cons (AVle.refl _) (AVsle.cons (AVle.refl _) (AVsle.cons (AVle.refl _) (AVsle.cons (AVle.nilsl _ _ rfl) (AVsle.refl _))))))) (AVsle.refl _)))); done)
               | (refine And.intro trivial (AVle.refl _); done)
               | fail)
  · by_cases h9 : c = 9
    · subst h9
      refine VFn.introC Tryz.call65 Tryz.func65 rfl rfl ?_
      repeat' (conv => whnf
               first
                 | (refine Grd.intro (fun h => ?_) (fun h => ?_); rotate_left; focus (exfalso; simp_all; done))
                 | (refine Grd.intro (fun h => ?_) (fun h => ?_); focus (exfalso; simp_all; done))
                 | (refine Grd.intro (fun h => ?_) (fun h => ?_); focus (exact absurd (h.symm.trans e1) (by decide)))
                 | refine And.intro (inI64 (by omega) (by omega)) ?_
                 | refine And.intro (by omega) ?_
                 | refine PCallK.sca _ (dk) rfl ?_
                 | refine PCallK.nl _ (cl) rfl ?_
                 | (refine And.intro trivial (AVle.tup (AVsle.cons (AVle.refl _) (AVsle.cons (AVle.agg (AVsle.cons (AVle.refl _) (AVsle.cons (AVle.refl _) (AVsle.cons (AVle.refl _) (AVsle.cons (AVle.refl _) (AVsle.cons (AVle.nilsl _ _ rfl) (AVsle.refl _))))))) (AVsle.refl _)))); done)
                 | (refine And.intro trivial (AVle.refl _); done)
                 | fail)
      refine DrawC.mkK 20 [(.inr 17, 18)] rfl (by kernel_rfl) ?_
      refine And.intro rfl ?_
      repeat' (conv => whnf
               first
                 | (refine Grd.intro (fun h => ?_) (fun h => ?_); rotate_left; focus (exfalso; simp_all; done))
                 | (refine Grd.intro (fun h => ?_) (fun h => ?_); focus (exfalso; simp_all; done))
                 | (refine Grd.intro (fun h => ?_) (fun h => ?_); focus (exact absurd (h.symm.trans e1) (by decide)))
                 | refine And.intro (inI64 (by omega) (by omega)) ?_
                 | refine And.intro (by omega) ?_
                 | refine PCallK.sca _ (dk) rfl ?_
                 | refine PCallK.nl _ (cl) rfl ?_
                 | (refine And.intro trivial (AVle.tup (AVsle.cons (AVle.refl _) (AVsle.cons (AVle.agg (AVsle.cons (AVle.refl _) (AVsle.cons (AVle.refl _) (AVsle.cons (AVle.refl _) (AVsle.cons (AVle.refl _) (AVsle.cons (AVle.nilsl _ _ rfl) (AVsle.refl _))))))) (AVsle.refl _)))); done)
                 | (refine And.intro trivial (AVle.refl _); done)
                 | fail)
      refine DrawC.mkK 10 [(.inl 2, 6), (.inl 3, 7)] rfl (by kernel_rfl) ?_
      refine And.intro rfl ?_
      repeat' (conv => whnf
               first
                 | (refine Grd.intro (fun h => ?_) (fun h => ?_); rotate_left; focus (exfalso; simp_all; done))
                 | (refine Grd.intro (fun h => ?_) (fun h => ?_); focus (exfalso; simp_all; done))
                 | (refine Grd.intro (fun h => ?_) (fun h => ?_); focus (exact absurd (h.symm.trans e1) (by decide)))
                 | refine And.intro (inI64 (by omega) (by omega)) ?_
                 | refine And.intro (by omega) ?_
                 | refine PCallK.sca _ (dk) rfl ?_
                 | refine PCallK.nl _ (cl) rfl ?_
                 | (refine And.intro trivial (AVle.tup (AVsle.cons (AVle.refl _) (AVsle.cons (AVle.agg (AVsle.cons (AVle.refl _) (AVsle.cons (AVle.refl _) (AVsle.cons (AVle.refl _) (AVsle.cons (AVle.refl _) (AVsle.cons (AVle.nilsl _ _ rfl) (AVsle.refl _))))))) (AVsle.refl _)))); done)
                 | (refine And.intro trivial (AVle.refl _); done)
                 | fail)
    · have e1 : decide (c = 0) = false := decide_eq_false h1
      have e9 : decide (c = 9) = false := decide_eq_false h9
      rw [if_neg h1, if_neg h9, if_neg h9, e1]
      refine VFn.introC Tryz.call65 Tryz.func65 rfl rfl ?_
      repeat' (conv => whnf
               first
                 | (refine Grd.intro (fun h => ?_) (fun h => ?_); rotate_left; focus (exfalso; simp_all; done))
                 | (refine Grd.intro (fun h => ?_) (fun h => ?_); focus (exfalso; simp_all; done))
                 | (refine Grd.intro (fun h => ?_) (fun h => ?_); focus (exact absurd (h.symm.trans e1) (by decide)))
                 | refine And.intro (inI64 (by omega) (by omega)) ?_
                 | refine And.intro (by omega) ?_
                 | refine PCallK.sca _ (dk) rfl ?_
                 | refine PCallK.nl _ (cl) rfl ?_
                 | (refine And.intro trivial (AVle.tup (AVsle.cons (AVle.refl _) (AVsle.cons (AVle.agg (AVsle.cons (AVle.refl _) (AVsle.cons (AVle.refl _) (AVsle.cons (AVle.refl _) (AVsle.cons (AVle.refl _) (AVsle.cons (AVle.nilsl _ _ rfl) (AVsle.refl _))))))) (AVsle.refl _)))); done)
                 | (refine And.intro trivial (AVle.refl _); done)
                 | fail)
      refine DrawC.mkK 20 [(.inr 17, 18)] rfl (by kernel_rfl) ?_
      refine And.intro rfl ?_
      repeat' (conv => whnf
               first
                 | (refine Grd.intro (fun h => ?_) (fun h => ?_); rotate_left; focus (exfalso; simp_all; done))
                 | (refine Grd.intro (fun h => ?_) (fun h => ?_); focus (exfalso; simp_all; done))
                 | (refine Grd.intro (fun h => ?_) (fun h => ?_); focus (exact absurd (h.symm.trans e1) (by decide)))
                 | refine And.intro (inI64 (by omega) (by omega)) ?_
                 | refine And.intro (by omega) ?_
                 | refine PCallK.sca _ (dk) rfl ?_
                 | refine PCallK.nl _ (cl) rfl ?_
                 | (refine And.intro trivial (AVle.tup (AVsle.cons (AVle.refl _) (AVsle.cons (AVle.agg (AVsle.cons (AVle.refl _) (AVsle.cons (AVle.refl _) (AVsle.cons (AVle.refl _) (AVsle.cons (AVle.refl _) (AVsle.cons (AVle.nilsl _ _ rfl) (AVsle.refl _))))))) (AVsle.refl _)))); done)
                 | (refine And.intro trivial (AVle.refl _); done)
                 | fail)
      refine DrawC.mkK 9 [(.inl 2, 5), (.inl 3, 6)] rfl (by kernel_rfl) ?_
      refine And.intro rfl ?_
      repeat' (conv => whnf
               first
                 | (refine Grd.intro (fun h => ?_) (fun h => ?_); rotate_left; focus (exfalso; simp_all; done))
                 | (refine Grd.intro (fun h => ?_) (fun h => ?_); focus (exfalso; simp_all; done))
                 | (refine Grd.intro (fun h => ?_) (fun h => ?_); focus (exact absurd (h.symm.trans e1) (by decide)))
                 | refine And.intro (inI64 (by omega) (by omega)) ?_
                 | refine And.intro (by omega) ?_
                 | refine PCallK.sca _ (dk) rfl ?_
                 | refine PCallK.nl _ (cl) rfl ?_
                 | (refine And.intro trivial (AVle.tup (AVsle.cons (AVle.refl _) (AVsle.cons (AVle.agg (AVsle.cons (AVle.refl _) (AVsle.cons (AVle.refl _) (AVsle.cons (AVle.refl _) (AVsle.cons (AVle.refl _) (AVsle.cons (AVle.nilsl _ _ rfl) (AVsle.refl _))))))) (AVsle.refl _)))); done)
                 | (refine And.intro trivial (AVle.refl _); done)
                 | fail)
theorem step_late (x : Sto) (hs : x.ok = true) (g : Ig) (h0 : 0 < g.b.length) (hp : g.put = false) (hid : 0 ≤ g.id ∧ g.id ≤ 9) (hv : smpsOK g.b = true) (k : Int) (hk : (if (ix g.b 0).t < (logS x).h0 then (14 : Int) else if (logS x).seq = 999999 then 7 else 0) = k) (hk0 : k ≠ 0) :
    VFn Tryz.prog 65 [g.av, x.av] (.tup [x.av, (ingR g.id).av, .bool false, .int .i64 k]) := by
  have e0 : decide ((g.b.length : Int) = 0) = false := decide_eq_false (by omega)
  have ek : decide (k = 0) = false := decide_eq_false hk0
  have c2 := log_fn x hs
  have c3 : ∀ (n : Nat) (rows : Nat → List AV), FirstRows 4 3 rows 0 [(decide ((ix g.b 0).t < (logS x).h0), 14), (decide ((logS x).seq = 999999), 7)] → n = 4 → VFn Tryz.prog 33 [.sl 1 n rows] (.int .i64 k) := fun n rows hr hn => first2_of _ _ _ _ hr hn (by simpa using hk)
  refine VFn.introC Tryz.call65 Tryz.func65 rfl rfl ?_
  repeat' (conv => whnf
           first
             | (refine Grd.intro (fun h => ?_) (fun h => ?_); rotate_left; focus (exfalso; simp_all; done))
             | (refine Grd.intro (fun h => ?_) (fun h => ?_); focus (exfalso; simp_all; done))
             | (refine Grd.intro (fun h => ?_) (fun h => ?_); focus (exact absurd (h.symm.trans e1) (by decide)))
             | refine And.intro (inI64 (by omega) (by omega)) ?_
             | refine And.intro (by omega) ?_
             | (refine CallC.nl _ (c2) ?_ ?_; focus (exact rfl))
             | refine PCallC.sca _ (c3 _ _ ⟨rfl, rfl, rfl, rfl, trivial⟩ rfl) rfl ?_
             | (refine And.intro trivial (AVle.tup (AVsle.cons (AVle.refl _) (AVsle.cons (AVle.agg (AVsle.cons (AVle.refl _) (AVsle.cons (AVle.refl _) (AVsle.cons (AVle.refl _) (AVsle.cons (AVle.refl _) (AVsle.cons (AVle.nilsl _ _ rfl) (AVsle.refl _))))))) (AVsle.refl _)))); done)
             | (refine And.intro trivial (AVle.refl _); done)
             | fail)
  refine DrawC.mk 19 rfl (by kernel_rfl) ?_
  repeat' (conv => whnf
           first
             | (refine Grd.intro (fun h => ?_) (fun h => ?_); rotate_left; focus (exfalso; simp_all; done))
             | (refine Grd.intro (fun h => ?_) (fun h => ?_); focus (exfalso; simp_all; done))
             | (refine Grd.intro (fun h => ?_) (fun h => ?_); focus (exact absurd (h.symm.trans e1) (by decide)))
             | refine And.intro (inI64 (by omega) (by omega)) ?_
             | refine And.intro (by omega) ?_
             | (refine CallC.nl _ (c2) ?_ ?_; focus (exact rfl))
             | refine PCallC.sca _ (c3 _ _ ⟨rfl, rfl, rfl, rfl, trivial⟩ rfl) rfl ?_
             | (refine And.intro trivial (AVle.tup (AVsle.cons (AVle.refl _) (AVsle.cons (AVle.agg (AVsle.cons (AVle.refl _) (AVsle.cons (AVle.refl _) (AVsle.cons (AVle.refl _) (AVsle.cons (AVle.refl _) (AVsle.cons (AVle.nilsl _ _ rfl) (AVsle.refl _))))))) (AVsle.refl _)))); done)
             | (refine And.intro trivial (AVle.refl _); done)
             | fail)
  refine DrawC.mkK 9 [(.inl 2, 5), (.inl 3, 6)] rfl (by kernel_rfl) ?_
  refine And.intro rfl ?_
  repeat' (conv => whnf
           first
             | (refine Grd.intro (fun h => ?_) (fun h => ?_); rotate_left; focus (exfalso; simp_all; done))
             | (refine Grd.intro (fun h => ?_) (fun h => ?_); focus (exfalso; simp_all; done))
             | (refine Grd.intro (fun h => ?_) (fun h => ?_); focus (exact absurd (h.symm.trans e1) (by decide)))
             | refine And.intro (inI64 (by omega) (by omega)) ?_
             | refine And.intro (by omega) ?_
             | (refine CallC.nl _ (c2) ?_ ?_; focus (exact rfl))
             | refine PCallC.sca _ (c3 _ _ ⟨rfl, rfl, rfl, rfl, trivial⟩ rfl) rfl ?_
             | (refine And.intro trivial (AVle.tup (AVsle.cons (AVle.refl _) (AVsle.cons (AVle.agg (AVsle.cons (AVle.refl _) (AVsle.cons (AVle.refl _) (AVsle.cons (AVle.refl _) (AVsle.cons (AVle.refl _) (AVsle.cons (AVle.nilsl _ _ rfl) (AVsle.refl _))))))) (AVsle.refl _)))); done)
             | (refine And.intro trivial (AVle.refl _); done)
             | fail)
theorem step_new (x : Sto) (hs : x.ok = true) (g : Ig) (h0 : 0 < g.b.length) (h8 : g.b.length ≤ 8) (hp : g.put = false) (hid : 0 ≤ g.id ∧ g.id ≤ 9) (hv : smpsOK g.b = true) (hl1 : ¬ (ix g.b 0).t < (logS x).h0) (hl2 : ¬ (logS x).seq = 999999) (hl3 : 0 ≤ (logS x).seq ∧ (logS x).seq ≤ 999999) (y : Sto) (n c : Int) (hy : (if x.room (ingK x g) (smpsText g.b) = 0 then AV.tup [(x.set (ingK x g) (smpsText g.b)).av, .int .i64 x.next, .int .i64 0] else .tup [x.av, .int .i64 0, .int .i64 (x.room (ingK x g) (smpsText g.b))]) = .tup [y.av, .int .i64 n, .int .i64 c]) :
    VFn Tryz.prog 65 [g.av, x.av] (.tup [(if c = 0 then y else x).av, (if c = 0 then ingPut x g else ingR g.id : Ig).av, .bool false, .int .i64 c]) := by
  have e0 : decide ((g.b.length : Int) = 0) = false := decide_eq_false (by omega)
  have hnum := smpsOK_num hv
  have hlen := smpsText_len hnum
  have b1 := smps_b hv (i := ((g.b.length : Int) - 1).toNat) (by omega)
  have et : ((g.b.length : Int) - 1).toNat = g.b.length - 1 := by omega
  have c2 := log_fn x hs
  have c3 : ∀ (n : Nat) (rows : Nat → List AV), FirstRows 4 3 rows 0 [(decide ((ix g.b 0).t < (logS x).h0), 14), (decide ((logS x).seq = 999999), 7)] → n = 4 → VFn Tryz.prog 33 [.sl 1 n rows] (.int .i64 0) := fun n rows hr hn => first2_of _ _ _ _ hr hn (by simp [hl1, hl2])
  have dk : VFn Tryz.prog 40 [.int .i64 0, .int .i64 ((logS x).seq + 1), .int .i64 g.id] (.str (B (ingK x g))) := dataKey_fn 0 ((logS x).seq + 1) g.id (by omega) (by simp [within]; omega) (by simp [within]; omega)
  have ct := samplesText_fn g.b (by omega) hnum
  have cp := put_fn x hs (ingK x g) (smpsText g.b) (by omega)
  rw [hy] at cp
  clear hy
  unfold ingPut
  rw [← et]
  clear et
  generalize ingK x g = K at dk cp
  generalize smpsText g.b = T at ct cp
  by_cases h1 : c = 0
  · subst h1
    rw [if_pos rfl, if_pos rfl]
    refine VFn.introC Tryz.call65 Tryz.func65 rfl rfl ?_
    repeat' (conv => whnf
             first
               | (refine Grd.intro (fun h => ?_) (fun h => ?_); rotate_left; focus (exfalso; simp_all; done))
               | (refine Grd.intro (fun h => ?_) (fun h => ?_); focus (exfalso; simp_all; done))
               | (refine Grd.intro (fun h => ?_) (fun h => ?_); focus (exact absurd (h.symm.trans e1) (by decide)))
               | refine And.intro (inI64 (by omega) (by omega)) ?_
               | refine And.intro (by omega) ?_
               | (refine CallC.nl _ (c2) ?_ ?_; focus (exact rfl))
               | refine PCallK.sca _ (dk) rfl ?_
               | refine PCallK.sca _ (ct) rfl ?_
               | refine PCallK.nl _ (cp) rfl ?_
               | refine PCallC.sca _ (c3 _ _ ⟨rfl, rfl, rfl, rfl, trivial⟩ rfl) rfl ?_
               | (refine And.intro trivial (AVle.tup (AVsle.cons (AVle.refl _) (AVsle.cons (AVle.agg (AVsle.cons (AVle.refl _) (AVsle.cons (AVle.refl _) (AVsle.cons (AVle.refl _) (AVsle.cons (AVle.refl _) (AVsle.cons (AVle.nilsl _ _ rfl) (AVsle.refl _))))))) (AVsle.refl _)))); done)
               | (refine And.intro trivial (AVle.refl _); done)
               | fail)
    refine DrawC.mk 19 rfl (by kernel_rfl) ?_
    repeat' (conv => whnf
             first
               | (refine Grd.intro (fun h => ?_) (fun h => ?_); rotate_left; focus (exfalso; simp_all; done))
               | (refine Grd.intro (fun h => ?_) (fun h => ?_); focus (exfalso; simp_all; done))
               | (refine Grd.intro (fun h => ?_) (fun h => ?_); focus (exact absurd (h.symm.trans e1) (by decide)))
               | refine And.intro (inI64 (by omega) (by omega)) ?_
               | refine And.intro (by omega) ?_
               | (refine CallC.nl _ (c2) ?_ ?_; focus (exact rfl))
               | refine PCallK.sca _ (dk) rfl ?_
               | refine PCallK.sca _ (ct) rfl ?_
               | refine PCallK.nl _ (cp) rfl ?_
               | refine PCallC.sca _ (c3 _ _ ⟨rfl, rfl, rfl, rfl, trivial⟩ rfl) rfl ?_
               | (refine And.intro trivial (AVle.tup (AVsle.cons (AVle.refl _) (AVsle.cons (AVle.agg (AVsle.cons (AVle.refl _) (AVsle.cons (AVle.refl _) (AVsle.cons (AVle.refl _) (AVsle.cons (AVle.refl _) (AVsle.cons (AVle.nilsl _ _ rfl) (AVsle.refl _))))))) (AVsle.refl _)))); done)
               | (refine And.intro trivial (AVle.refl _); done)
               | fail)
    refine DrawC.mkK 17 [(.inl 24, 15)] rfl (by kernel_rfl) ?_
    refine And.intro rfl ?_
    repeat' (conv => whnf
             first
               | (refine Grd.intro (fun h => ?_) (fun h => ?_); rotate_left; focus (exfalso; simp_all; done))
               | (refine Grd.intro (fun h => ?_) (fun h => ?_); focus (exfalso; simp_all; done))
               | (refine Grd.intro (fun h => ?_) (fun h => ?_); focus (exact absurd (h.symm.trans e1) (by decide)))
               | refine And.intro (inI64 (by omega) (by omega)) ?_
               | refine And.intro (by omega) ?_
               | (refine CallC.nl _ (c2) ?_ ?_; focus (exact rfl))
               | refine PCallK.sca _ (dk) rfl ?_
               | refine PCallK.sca _ (ct) rfl ?_
               | refine PCallK.nl _ (cp) rfl ?_
               | refine PCallC.sca _ (c3 _ _ ⟨rfl, rfl, rfl, rfl, trivial⟩ rfl) rfl ?_
               | (refine And.intro trivial (AVle.tup (AVsle.cons (AVle.refl _) (AVsle.cons (AVle.agg (AVsle.cons (AVle.refl _) (AVsle.cons (AVle.refl _) (AVsle.cons (AVle.refl _) (AVsle.cons (AVle.refl _) (AVsle.cons (AVle.nilsl _ _ rfl) (AVsle.refl _))))))) (AVsle.refl _)))); done)
               | (refine And.intro trivial (AVle.refl _); done)
               | fail)
    refine DrawC.mkK 26 [(.inl 2, 22), (.inl 3, 23)] rfl (by kernel_rfl) ?_
    refine And.intro rfl ?_
    repeat' (conv => whnf
             first
               | (refine Grd.intro (fun h => ?_) (fun h => ?_); rotate_left; focus (exfalso; simp_all; done))
               | (refine Grd.intro (fun h => ?_) (fun h => ?_); focus (exfalso; simp_all; done))
               | (refine Grd.intro (fun h => ?_) (fun h => ?_); focus (exact absurd (h.symm.trans e1) (by decide)))
               | refine And.intro (inI64 (by omega) (by omega)) ?_
               | refine And.intro (by omega) ?_
               | (refine CallC.nl _ (c2) ?_ ?_; focus (exact rfl))
               | refine PCallK.sca _ (dk) rfl ?_
               | refine PCallK.sca _ (ct) rfl ?_
               | refine PCallK.nl _ (cp) rfl ?_
               | refine PCallC.sca _ (c3 _ _ ⟨rfl, rfl, rfl, rfl, trivial⟩ rfl) rfl ?_
               | (refine And.intro trivial (AVle.tup (AVsle.cons (AVle.refl _) (AVsle.cons (AVle.agg (AVsle.cons (AVle.refl _) (AVsle.cons (AVle.refl _) (AVsle.cons (AVle.refl _) (AVsle.cons (AVle.refl _) (AVsle.cons (AVle.nilsl _ _ rfl) (AVsle.refl _))))))) (AVsle.refl _)))); done)
               | (refine And.intro trivial (AVle.refl _); done)
               | fail)
  · have ek : decide (c = 0) = false := decide_eq_false h1
    rw [if_neg h1, if_neg h1]
    refine VFn.introC Tryz.call65 Tryz.func65 rfl rfl ?_
    repeat' (conv => whnf
             first
               | (refine Grd.intro (fun h => ?_) (fun h => ?_); rotate_left; focus (exfalso; simp_all; done))
               | (refine Grd.intro (fun h => ?_) (fun h => ?_); focus (exfalso; simp_all; done))
               | (refine Grd.intro (fun h => ?_) (fun h => ?_); focus (exact absurd (h.symm.trans e1) (by decide)))
               | refine And.intro (inI64 (by omega) (by omega)) ?_
               | refine And.intro (by omega) ?_
               | (refine CallC.nl _ (c2) ?_ ?_; focus (exact rfl))
               | refine PCallK.sca _ (dk) rfl ?_
               | refine PCallK.sca _ (ct) rfl ?_
               | refine PCallK.nl _ (cp) rfl ?_
               | refine PCallC.sca _ (c3 _ _ ⟨rfl, rfl, rfl, rfl, trivial⟩ rfl) rfl ?_
               | (refine And.intro trivial (AVle.tup (AVsle.cons (AVle.refl _) (AVsle.cons (AVle.agg (AVsle.cons (AVle.refl _) (AVsle.cons (AVle.refl _) (AVsle.cons (AVle.refl _) (AVsle.cons (AVle.refl _) (AVsle.cons (AVle.nilsl _ _ rfl) (AVsle.refl _))))))) (AVsle.refl _)))); done)
               | (refine And.intro trivial (AVle.refl _); done)
               | fail)
    refine DrawC.mk 19 rfl (by kernel_rfl) ?_
    repeat' (conv => whnf
             first
               | (refine Grd.intro (fun h => ?_) (fun h => ?_); rotate_left; focus (exfalso; simp_all; done))
               | (refine Grd.intro (fun h => ?_) (fun h => ?_); focus (exfalso; simp_all; done))
               | (refine Grd.intro (fun h => ?_) (fun h => ?_); focus (exact absurd (h.symm.trans e1) (by decide)))
               | refine And.intro (inI64 (by omega) (by omega)) ?_
               | refine And.intro (by omega) ?_
               | (refine CallC.nl _ (c2) ?_ ?_; focus (exact rfl))
               | refine PCallK.sca _ (dk) rfl ?_
               | refine PCallK.sca _ (ct) rfl ?_
               | refine PCallK.nl _ (cp) rfl ?_
               | refine PCallC.sca _ (c3 _ _ ⟨rfl, rfl, rfl, rfl, trivial⟩ rfl) rfl ?_
               | (refine And.intro trivial (AVle.tup (AVsle.cons (AVle.refl _) (AVsle.cons (AVle.agg (AVsle.cons (AVle.refl _) (AVsle.cons (AVle.refl _) (AVsle.cons (AVle.refl _) (AVsle.cons (AVle.refl _) (AVsle.cons (AVle.nilsl _ _ rfl) (AVsle.refl _))))))) (AVsle.refl _)))); done)
               | (refine And.intro trivial (AVle.refl _); done)
               | fail)
    refine DrawC.mkK 17 [(.inl 24, 15)] rfl (by kernel_rfl) ?_
    refine And.intro rfl ?_
    repeat' (conv => whnf
             first
               | (refine Grd.intro (fun h => ?_) (fun h => ?_); rotate_left; focus (exfalso; simp_all; done))
               | (refine Grd.intro (fun h => ?_) (fun h => ?_); focus (exfalso; simp_all; done))
               | (refine Grd.intro (fun h => ?_) (fun h => ?_); focus (exact absurd (h.symm.trans e1) (by decide)))
               | refine And.intro (inI64 (by omega) (by omega)) ?_
               | refine And.intro (by omega) ?_
               | (refine CallC.nl _ (c2) ?_ ?_; focus (exact rfl))
               | refine PCallK.sca _ (dk) rfl ?_
               | refine PCallK.sca _ (ct) rfl ?_
               | refine PCallK.nl _ (cp) rfl ?_
               | refine PCallC.sca _ (c3 _ _ ⟨rfl, rfl, rfl, rfl, trivial⟩ rfl) rfl ?_
               | (refine And.intro trivial (AVle.tup (AVsle.cons (AVle.refl _) (AVsle.cons (AVle.agg (AVsle.cons (AVle.refl _) (AVsle.cons (AVle.refl _) (AVsle.cons (AVle.refl _) (AVsle.cons (AVle.refl _) (AVsle.cons (AVle.nilsl _ _ rfl) (AVsle.refl _))))))) (AVsle.refl _)))); done)
               | (refine And.intro trivial (AVle.refl _); done)
               | fail)
    refine DrawC.mkK 9 [(.inl 2, 5), (.inl 3, 6)] rfl (by kernel_rfl) ?_
    refine And.intro rfl ?_
    repeat' (conv => whnf
             first
               | (refine Grd.intro (fun h => ?_) (fun h => ?_); rotate_left; focus (exfalso; simp_all; done))
               | (refine Grd.intro (fun h => ?_) (fun h => ?_); focus (exfalso; simp_all; done))
               | (refine Grd.intro (fun h => ?_) (fun h => ?_); focus (exact absurd (h.symm.trans e1) (by decide)))
               | refine And.intro (inI64 (by omega) (by omega)) ?_
               | refine And.intro (by omega) ?_
               | (refine CallC.nl _ (c2) ?_ ?_; focus (exact rfl))
               | refine PCallK.sca _ (dk) rfl ?_
               | refine PCallK.sca _ (ct) rfl ?_
               | refine PCallK.nl _ (cp) rfl ?_
               | refine PCallC.sca _ (c3 _ _ ⟨rfl, rfl, rfl, rfl, trivial⟩ rfl) rfl ?_
               | (refine And.intro trivial (AVle.tup (AVsle.cons (AVle.refl _) (AVsle.cons (AVle.agg (AVsle.cons (AVle.refl _) (AVsle.cons (AVle.refl _) (AVsle.cons (AVle.refl _) (AVsle.cons (AVle.refl _) (AVsle.cons (AVle.nilsl _ _ rfl) (AVsle.refl _))))))) (AVsle.refl _)))); done)
               | (refine And.intro trivial (AVle.refl _); done)
               | fail)
end Go.Proofs.YtfaffgneccjpbaaGreatDoor
set_option linter.unusedVariables false
set_option linter.constructorNameAsVariable false
set_option linter.unusedSimpArgs false
set_option maxRecDepth 20000
namespace Go.Proofs.YtfaffgneccjpbaaGreatDoor
open Go Go.Vw

def mkS (k : Int) (i : Nat) : List AV := [.int .i64 (k + 2 * i), .int .i64 (k + 2 * i + 1)]
def Ig.own (g : Ig) (m : Nat) : AV := .agg [.int .i64 g.id, .int .i64 g.seq, .int .i64 g.f, .int .i64 g.t, .osl m, .bool g.put]
theorem CloneSm_own (L : List Smp) (hL : L.length ≤ 1000000) : FnM Tryz.prog 113 0 [smps L] [] (.osl 0) [(0, .arr 73 2 L.length fun i => (ix L i).row)] 1 := by
  refine FnM.introN Tryz.call113 Tryz.func113 rfl rfl ?_
  conv => whnf
  refine OpC.isnil rfl rfl rfl rfl rfl (fun h0 => ?_) ?_
  · conv => whnf
    exact ⟨_, .inr ⟨2, 73, 2, fun i => (ix L i).row, rfl, rfl⟩, And.intro trivial ⟨[(0, 0)], rfl, AVle.refl _, ⟨MOle.arr h0.symm fun i hi => rfl, trivial⟩⟩⟩
  · conv => whnf
    refine And.intro ⟨show (0 + L.length) * 16 ≤ 140737488355328 by omega, fun i hi => rfl⟩ ?_
    conv => whnf
    exact ⟨_, .inl rfl, And.intro trivial ⟨[(1, 0)], rfl, AVle.refl _, ⟨MOle.arr (Nat.zero_add _) fun i hi => appRows_ge (Nat.zero_le _), trivial⟩⟩⟩
theorem copiedI_own (g : Ig) (hL : g.b.length ≤ 1000000) : FnM Tryz.prog 64 0 [g.av] [] (g.own 0) [(0, .arr 73 2 g.b.length fun i => (ix g.b i).row)] 1 := by
  refine FnM.introC Tryz.call64 Tryz.func64 rfl rfl ?_
  conv => whnf
  refine CallC.k [] (CloneSm_own g.b hL) rfl rfl (AVsle.refl _) trivial rfl ?_
  conv => whnf
  exact And.intro trivial ⟨[(2, 0)], rfl, AVle.refl _, ⟨MOle.refl _, trivial⟩⟩
/-- no ingester -/
def ig0 : AV := .agg [.int .i64 0, .int .i64 0, .int .i64 0, .int .i64 0, .nilsl, .bool false]
end Go.Proofs.YtfaffgneccjpbaaGreatDoor
set_option linter.unusedVariables false
set_option linter.constructorNameAsVariable false
set_option linter.unusedSimpArgs false
set_option maxRecDepth 20000
namespace Go.Proofs.YtfaffgneccjpbaaGreatDoor
open Go Go.Vw

theorem istep_fn (x : Sto) (hs : x.ok = true) (g : Ig) (hg : g.ok = true) : VFn Tryz.prog 65 [g.av, x.av] (.tup [(stI x g).1.av, (stI x g).2.1.av, .bool (stI x g).2.2.1, .int .i64 (stI x g).2.2.2]) := by
  have f := Ig.facts hg
  by_cases h0 : g.b.length = 0
  · have c := step_idle x g h0
    unfold stI
    rw [if_pos h0]
    exact c
  · have h0' : 0 < g.b.length := by omega
    by_cases hp : g.put = true
    · obtain ⟨p1, p2, p3, p4⟩ := f.put hp
      have c := step_put x hs g h0' hp f.id p2 (ingRec_ok f hp) (appS x g.seq (ingRec g)).1 (appS x g.seq (ingRec g)).2 rfl
      unfold stI
      rw [if_neg h0, if_pos hp]
      by_cases h1 : (appS x g.seq (ingRec g)).2 = 0
      · rw [if_pos h1]
        rw [h1] at c
        exact c
      · rw [if_neg h1]
        rw [if_neg h1, decide_eq_false h1] at c
        by_cases h9 : (appS x g.seq (ingRec g)).2 = 9
        · rw [if_pos h9]
          rw [if_pos h9, if_pos h9] at c
          exact c
        · rw [if_neg h9]
          rw [if_neg h9, if_neg h9] at c
          exact c
    · have hp' : g.put = false := by simpa using hp
      have hb := log_b x
      by_cases h1 : (ix g.b 0).t < (logS x).h0
      · have c := step_late x hs g h0' hp' f.id f.sm 14 (by rw [if_pos h1]) (by decide)
        unfold stI
        rw [if_neg h0, if_neg hp, if_pos h1]
        exact c
      · by_cases h2 : (logS x).seq = 999999
        · have c := step_late x hs g h0' hp' f.id f.sm 7 (by rw [if_neg h1, if_pos h2]) (by decide)
          unfold stI
          rw [if_neg h0, if_neg hp, if_neg h1, if_pos h2]
          exact c
        · unfold stI
          rw [if_neg h0, if_neg hp, if_neg h1, if_neg h2]
          by_cases h3 : x.room (ingK x g) (smpsText g.b) = 0
          · have c := step_new x hs g h0' f.len hp' f.id f.sm h1 h2 (by omega) (x.set (ingK x g) (smpsText g.b)) x.next 0 (by rw [if_pos h3])
            rw [if_pos h3]
            exact c
          · have c := step_new x hs g h0' f.len hp' f.id f.sm h1 h2 (by omega) x 0 (x.room (ingK x g) (smpsText g.b)) (by rw [if_neg h3])
            rw [if_neg h3]
            rw [if_neg h3, if_neg h3] at c
            exact c
theorem stI_len {x : Sto} (hs : x.ok = true) {g : Ig} (hg : g.ok = true) : (stI x g).1.os.length ≤ 301 ∧ (stI x g).2.1.b.length ≤ 8 := by
  have f := (Ig.facts hg).len
  have hL := (Sto.ok_at hs).2.1
  have a1 := app_len x hs g.seq (ingRec g)
  have a2 := set_len_le x (ingK x g) (smpsText g.b)
  unfold stI ingPut ingR
  refine ⟨?_, ?_⟩
  · repeat' split
    all_goals first | exact Nat.le_trans hL (by decide) | exact a1 | exact Nat.le_trans a2 (by omega)
  · repeat' split
    all_goals first | exact f | exact Nat.zero_le _
theorem StepIngester_own (x : Sto) (hr : StoRd x) (g : Ig) (hb : g.b.length ≤ 1048576) (hs : x.ok = true) (hg : g.ok = true) (y : Sto) (z : Ig) (d : Bool) (c : Int) (he : stI x g = (y, z, d, c)) :
    FnM Tryz.prog 25 0 [x.av, g.av] [] (.tup [y.own, z.own 1, .bool d, .int .i64 c]) [(0, .arr 100 3 y.os.length fun i => (ix y.os i).row), (1, .arr 73 2 z.b.length fun i => (ix z.b i).row)] 2 := by
  have c1 := StoreOK_fn x (by have := hr.len; omega) hr.key
  have c2 := IngesterOK_fn g hb
  have c3 := istep_fn x hs g hg
  have hl := stI_len hs hg
  rw [he] at c3 hl
  rw [hs] at c1
  rw [hg] at c2
  simp only at c3 hl
  refine FnM.introC Tryz.call25 Tryz.func25 rfl rfl ?_
  repeat' (conv => whnf
           first
             | (refine CallC.sca _ c1 ?_ ?_; focus (exact rfl))
             | (refine CallC.sca _ c2 ?_ ?_; focus (exact rfl))
             | (refine CallC.nl _ c3 ?_ ?_; focus (exact rfl))
             | fail)
  conv => whnf
  refine DrawC.mkK 10 [(.inl 2, 6), (.inl 3, 7)] rfl (by kernel_rfl) ?_
  refine And.intro rfl ?_
  conv => whnf
  refine PCallK.own (copied_own y (by omega)) rfl (fun i hi => rfl) ?_
  conv => whnf
  refine PCallK.own (copiedI_own z (by omega)) rfl (fun i hi => rfl) ?_
  conv => whnf
  exact And.intro trivial ⟨[(7, 0), (9, 1)], rfl, AVle.refl _, ⟨MOle.refl _, MOle.refl _, trivial⟩⟩
end Go.Proofs.YtfaffgneccjpbaaGreatDoor
set_option linter.unusedVariables false
set_option linter.constructorNameAsVariable false
set_option linter.unusedSimpArgs false
set_option maxRecDepth 20000
namespace Go.Proofs.YtfaffgneccjpbaaGreatDoor
open Go Go.Vw

def SSk (x : SS) (n : Nat) (k : Int) : Prop := x.1.length = n ∧ (∀ e ∈ x.1, -1000000 ≤ e.v ∧ e.v ≤ 1000000) ∧ x.2.2.ok k ∧ (-10 ≤ x.2.1 ∧ x.2.1 ≤ k)
theorem stepk_ok {x : SS} {n : Nat} {k : Int} (h : SSk x n k) (hk : 0 ≤ k) : SSk (smpStep x) (n + 1) (k + 12) := by
  obtain ⟨h1, h2, h3, h4⟩ := h
  have n1 := next_b x.2.2 h3 hk 4
  have n2 := next_b (x.2.2.next 4).2 n1.2.1 (by omega) 40
  have n3 := next_b ((x.2.2.next 4).2.next 40).2 n2.2.1 (by omega) 12
  have n4 := next_b (((x.2.2.next 4).2.next 40).2.next 12).2 n3.2.1 (by omega) 2
  have a1 := n1.1.2 (by omega)
  have a2 := n2.1.2 (by omega)
  unfold smpStep
  refine ⟨by simp [h1], fun e he => ?_, wk n4.2.1 (by omega), by simp only; omega⟩
  simp only [List.mem_append, List.mem_cons, List.not_mem_nil, or_false] at he
  rcases he with he | he
  · exact h2 e he
  · subst he
    simp only
    have := n2.1.1
    split
    · omega
    · split <;> omega
theorem itk_ok {x : SS} {k : Int} (h : SSk x 0 k) (hk : 0 ≤ k) : ∀ n, SSk (smpIt n x) n (k + 12 * n)
  | 0 => by simpa [smpIt] using h
  | n + 1 => by
    have := stepk_ok (itk_ok h hk n) (by omega)
    have e : k + 12 * ((n + 1 : Nat) : Int) = k + 12 * (n : Int) + 12 := by omega
    rw [e]; exact this
theorem tickI_staOK {s : Sta} (h : StaOK s) (hq : s.seq < 999999) : StaOK s.tick :=
  ⟨by have := h.q; exact ⟨show 0 ≤ s.seq + 1 by omega, show s.seq + 1 ≤ 999999 by omega⟩, h.f, h.len, h.es, fun t ht => by have := h.ts t ht; exact ⟨this.1, this.2.1, show t.seq ≤ s.seq + 1 by omega⟩, h.nd, h.lo, h.runs⟩
theorem logI_staOK (x : Sto) : ∀ n : Nat, n ≤ 400 → StaOK (logN x n)
  | 0, _ => staOK0
  | n + 1, hn => by
    have ih := logI_staOK x n (by omega)
    have hs := logN_seq x n
    have hl := logN_len x n
    show StaOK (stepL x (logN x n))
    unfold stepL
    split
    · exact tickI_staOK ih (by omega)
    · rename_i r hr
      exact app_staOK ih (readR_ok hr) (by omega) (by omega)
theorem logI_ok (x : Sto) : (logS x).ok = true := (staOK_iff _).2 (logI_staOK x _ (log_b x).2.1)
structure StP (x y : Sto) : Prop where
  ok : y.ok = true
  len : y.os.length ≤ x.os.length + 1
  nxt : y.next ≤ x.next + 1
theorem StP.refl {x : Sto} (hx : x.ok = true) : StP x x := ⟨hx, by omega, by omega⟩
theorem putA_p {x : Sto} (hx : x.ok = true) {k d : List UInt8} (hk : keyOK k = true) : StP x (x.putA k d).1 := by
  unfold Sto.putA
  split
  · exact StP.refl hx
  · unfold Sto.put
    split
    · rename_i h
      exact ⟨set_ok hx hk h, set_len_le x k d, Int.le_refl _⟩
    · exact StP.refl hx
theorem stI_st {x : Sto} (hx : x.ok = true) (g : Ig) : StP x (stI x g).1 := by
  have h0 : StP x x := ⟨hx, by omega, by omega⟩
  have ha : StP x (appS x g.seq (ingRec g)).1 := putA_p hx (manK_keyOK _)
  unfold stI
  split
  · exact h0
  · split
    · split
      · exact ha
      · split <;> exact h0
    · split
      · exact h0
      · split
        · exact h0
        · split
          · rename_i h
            exact ⟨set_ok hx (keyF_ok (by omega)) h, set_len_le x _ _, Int.le_refl _⟩
          · exact h0
theorem ingR_ok {id : Int} (h : 0 ≤ id ∧ id ≤ 9) : (ingR id).ok = true := by
  unfold Ig.ok ingR igOK
  simp [within, smpsOK_nil]
  exact h
theorem stI_ig {x : Sto} (hx : x.ok = true) {g : Ig} (hg : g.ok = true) : (stI x g).2.1.ok = true := by
  have f := Ig.facts hg
  have hid := f.id
  have hR := ingR_ok hid
  have hl := logI_ok x
  have hb := log_b x
  have hh := Sta.hi_b hl
  unfold stI
  split
  · exact hg
  · rename_i h0
    split
    · split
      · exact hR
      · split
        · unfold Ig.ok igOK
          have := f.len
          have h8 : decide (8 < (g.b.length : Int)) = false := decide_eq_false (by omega)
          simp only [f.sm, h8]
          simp [within]
          exact hid
        · exact hR
    · split
      · exact hR
      · rename_i h1
        split
        · exact hR
        · rename_i h2
          split
          · have b0 := smps_b f.sm (i := 0) (by omega)
            have h8 := f.len
            have e1 : (Int.toNat 0) = 0 := rfl
            have e2 : ((g.b.length : Int) - 1).toNat = g.b.length - 1 := by omega
            unfold Ig.ok igOK ingPut
            simp only [f.sm, e1, e2]
            simp [within]
            omega
          · exact hR
def igB (L : List Smp) : List Smp := if 0 < L.length ∧ (ix L 0).t < 0 then [] else L
def Src.i1 (s : Src) : Int × Src := s.filled.s.next 3
def Src.i2 (s : Src) : Int × Src := s.i1.2.next 9
def Src.i3 (s : Src) : SS := s.i2.2.samples ((logS s.filled.x).h0 - s.i2.1.tdiv 8) 6
def Src.i4 (s : Src) : Int × Src := s.i3.2.2.next 3
def Src.i5 (s : Src) : Int × Src := s.i4.2.next 4
def ingIt : Nat → Sto × Ig → Sto × Ig
  | 0, q => q
  | k + 1, q => ((stI (ingIt k q).1 (ingIt k q).2).1, (stI (ingIt k q).1 (ingIt k q).2).2.1)
def Src.ig (s : Src) : Ig := ⟨s.i1.1, 0, 0, 0, igB s.i3.1, false⟩
def Src.ix1 (s : Src) : Sto × Ig := ingIt s.i4.1.toNat (s.filled.x, s.ig)
def txtC : List UInt8 := [50, 44, 57, 44, 48, 44, 48, 44, 48, 32]
def Src.ix2 (s : Src) : Sto := if s.i5.1 = 3 then s.ix1.1.set (manK ((logS s.ix1.1).seq + 1)) txtC else s.ix1.1
structure IgP (s : Src) : Prop where
  s1 : s.i1.2.ok 101310
  s2 : s.i2.2.ok 101320
  s3 : s.i3.2.2.ok 101420
  s4 : s.i4.2.ok 101430
  s5 : s.i5.2.ok 101440
  v1 : 0 ≤ s.i1.1 ∧ s.i1.1 < 3
  v2 : 0 ≤ s.i2.1 ∧ s.i2.1 < 9
  v2' : 0 ≤ s.i2.1.tdiv 8 ∧ s.i2.1.tdiv 8 ≤ 1
  v4 : 0 ≤ s.i4.1 ∧ s.i4.1 < 3
  v5 : 0 ≤ s.i5.1 ∧ s.i5.1 < 4
  h0 : 0 ≤ (logS s.filled.x).h0 ∧ (logS s.filled.x).h0 ≤ 500
  len : s.i3.1.length ≤ 6
  t0 : 0 < s.i3.1.length → (0 ≤ (ix s.i3.1 0).t ∨ (ix s.i3.1 0).t < 0)
  t : (0 < s.i3.1.length → ¬ (ix s.i3.1 0).t < 0) → ∀ e ∈ s.i3.1, 0 ≤ e.t
  num : ∀ e ∈ s.i3.1, -100 ≤ e.t ∧ e.t ≤ 600
  ok : s.ig.ok = true
theorem ingIt_ok {x : Sto} {g : Ig} (hx : x.ok = true) (hg : g.ok = true) : ∀ k, (ingIt k (x, g)).1.ok = true ∧ (ingIt k (x, g)).2.ok = true ∧ (ingIt k (x, g)).1.os.length ≤ x.os.length + k ∧ (ingIt k (x, g)).1.next ≤ x.next + k
  | 0 => ⟨hx, hg, Nat.le_refl _, by simp [ingIt]⟩
  | k + 1 => by
    obtain ⟨h1, h2, h3, h4⟩ := ingIt_ok hx hg k
    have a := stI_st h1 (ingIt k (x, g)).2
    have b := stI_ig h1 h2
    have a2 := a.len
    have a3 := a.nxt
    exact ⟨a.ok, b, by show (stI _ _).1.os.length ≤ _; omega, by show (stI _ _).1.next ≤ _; omega⟩
end Go.Proofs.YtfaffgneccjpbaaGreatDoor
set_option linter.unusedVariables false
set_option linter.constructorNameAsVariable false
set_option linter.unusedSimpArgs false
set_option maxRecDepth 20000
namespace Go.Proofs.YtfaffgneccjpbaaGreatDoor
open Go Go.Vw

theorem pre_all {α : Type} [Inhabited α] {L : List α} {p : α → Bool} (h : ∀ j, j < L.length → p (ix L j) = true) : L.all p = true := List.all_eq_true.2 fun x hx => by
  obtain ⟨j, hj, rfl⟩ := List.getElem_of_mem hx
  have := h j hj
  rwa [ix_lt hj] at this
theorem bad_all {α : Type} [Inhabited α] {L : List α} {p : α → Bool} {j : Nat} (hj : j < L.length) (h : p (ix L j) = false) : L.all p = false := by
  cases hq : L.all p
  · rfl
  · have := List.all_eq_true.1 hq _ (getD_mem hj)
    have this : p (ix L j) = true := this
    rw [h] at this; cases this
theorem nums2 {c : UInt8} {t : List UInt8} {N : List Int} (h : numsK c 2 t = some N) : ∃ a b, N = [a, b] := by
  unfold numsK at h
  split at h
  · rename_i hc
    injection h with h
    have : N.length = 2 := by rw [← h, List.length_map]; exact hc.1
    match N, this with
    | [a, b], _ => exact ⟨a, b, rfl⟩
  · cases h
def pOk (w : List UInt8) : Bool := (numsK 61 2 w).isSome
def pv (w : List UInt8) : Smp := match numsK 61 2 w with | some [a, b] => ⟨a, b⟩ | _ => default
theorem pv_some {w : List UInt8} (h : pOk w = true) : numsK 61 2 w = some [(pv w).t, (pv w).v] := by
  unfold pOk at h
  obtain ⟨N, hN⟩ := Option.isSome_iff_exists.1 h
  obtain ⟨a, b, rfl⟩ := nums2 hN
  unfold pv
  rw [hN]
theorem pv_none {w : List UInt8} (h : pOk w = false) : numsK 61 2 w = none := by
  unfold pOk at h
  cases hN : numsK 61 2 w
  · rfl
  · rw [hN] at h; cases h
def wds (t : List UInt8) : List (List UInt8) := if t = [] then [] else cutP 32 [] t
def pts (t : List UInt8) : List (List UInt8) := if t = [] then [] else Lib.splitN t [32] 9
theorem splitN_9 (t : List UInt8) : ((cutP 32 [] t).length ≤ 8 → Lib.splitN t [32] 9 = cutP 32 [] t) ∧ (8 < (cutP 32 [] t).length → (Lib.splitN t [32] 9).length = 9) := by
  have h1 := cutP_len 32 t []
  have h := splitK_cut 32 (min 9 (t.length + 1) - 1) t
  have e : Lib.splitN t [32] 9 = Lib.splitK [32] 0 (min 9 (t.length + 1) - 1) t := rfl
  rw [e]
  refine ⟨fun h2 => h.1 (by omega), fun h2 => ?_⟩
  rcases Nat.lt_or_ge 9 (cutP 32 [] t).length with h3 | h3
  · rw [h.2 (by omega)]; omega
  · rw [h.1 (by omega)]; omega
theorem splitK_piece (c : UInt8) : ∀ (k : Nat) (l : List UInt8), ∀ x ∈ Lib.splitK [c] 0 k l, x.length ≤ l.length
  | 0, l, x, hx => by
    simp [Lib.splitK] at hx
    rw [hx]; exact Nat.le_refl _
  | k + 1, l, x, hx => by
    rcases first_c c l with h | ⟨a, b, rfl, ha⟩
    · unfold Lib.splitK at hx
      rw [index_none c l h] at hx
      simp at hx
      rw [hx]; exact Nat.le_refl _
    · have e : Lib.splitK [c] 0 (k + 1) (a ++ c :: b) = a :: Lib.splitK [c] 0 k b := by
        rw [Lib.splitK, index_at c a b ha, if_neg (by simp <;> omega)]
        simp
      rw [e] at hx
      rcases List.mem_cons.1 hx with rfl | hx
      · simp
      · have := splitK_piece c k b x hx
        simp; omega
theorem pts_piece (t : List UInt8) : ∀ x ∈ pts t, x.length ≤ t.length := by
  intro x hx
  unfold pts at hx
  split at hx
  · cases hx
  · exact splitK_piece 32 _ t x hx
theorem pts_wds (t : List UInt8) : ((wds t).length ≤ 8 → pts t = wds t) ∧ (8 < (wds t).length → (pts t).length = 9) := by
  unfold pts wds
  split
  · exact ⟨fun _ => rfl, fun h => absurd h (by simp)⟩
  · exact splitN_9 t
theorem parts_fn (t : List UInt8) (hl : t.length ≤ 1048576) : VFn Tryz.prog 135 [.str (B t)] (txts (pts t)) := by
  have hb := B_nil t
  obtain ⟨R, hR⟩ : ∃ R, R = txts (pts t) := ⟨_, rfl⟩
  rw [← hR]
  refine VFn.introC Tryz.call135 Tryz.func135 rfl rfl ?_
  refine Grd.intro (fun g => ?_) (fun g => ?_)
  · have h : t = [] := of_decide_eq_true (hb.symm.trans g)
    have e : pts t = [] := by unfold pts; rw [if_pos h]
    rw [e] at hR
    subst hR
    exact And.intro trivial (AVle.nilsl _ _ rfl)
  · have h : ¬ t = [] := of_decide_eq_false (hb.symm.trans g)
    have e : pts t = Lib.splitN t [32] 9 := by unfold pts; rw [if_neg h]
    rw [e] at hR
    conv => whnf
    refine CallC.nl _ (SplitN_fn t 32 8 (by omega) (by decide)) ?_ ?_
    · exact rfl
    subst hR
    exact And.intro trivial (AVle.refl _)
def rdOk (t : List UInt8) : Bool := (wds t).all pOk && (smpsOK ((wds t).map pv) && decide (((wds t).length : Int) ≤ 8))
def rdV (t : List UInt8) : List Smp := (wds t).map pv
theorem rdOk_pts (t : List UInt8) : rdOk t = ((pts t).all pOk && (smpsOK ((pts t).map pv) && decide (((pts t).length : Int) ≤ 8))) := by
  have h := pts_wds t
  unfold rdOk
  rcases Nat.lt_or_ge 8 (wds t).length with h8 | h8
  · rw [decide_eq_false (show ¬ ((wds t).length : Int) ≤ 8 by omega), decide_eq_false (show ¬ ((pts t).length : Int) ≤ 8 by rw [h.2 h8]; decide)]
    simp
  · rw [h.1 h8]
theorem rdV_pts {t : List UInt8} (h : rdOk t = true) : rdV t = (pts t).map pv := by
  simp only [rdOk, Bool.and_eq_true, decide_eq_true_eq] at h
  unfold rdV
  rw [(pts_wds t).1 (by omega)]
theorem readSamples_gen (t : List UInt8) (hl : t.length ≤ 1048576) (R : AV) (hy : rdOk t = true → R = .tup [smps (rdV t), .bool true]) (hn : rdOk t = false → R = .tup [.any, .bool false]) : VFn Tryz.prog 92 [.str (B t)] R := by
  have e0 := rdOk_pts t
  have e1 := fun h => rdV_pts (t := t) h
  have hpl := pts_piece t
  have hc := parts_fn t hl
  obtain ⟨P, hP⟩ : ∃ P, P = pts t := ⟨_, rfl⟩
  rw [← hP] at e0 e1 hpl hc
  have hPl : P.length ≤ 9 := by
    rw [hP]
    rcases Nat.lt_or_ge 8 (wds t).length with h8 | h8
    · rw [(pts_wds t).2 h8]; omega
    · rw [(pts_wds t).1 h8]; omega
  clear hP
  refine VFn.introC Tryz.call92 Tryz.func92 rfl rfl ?_
  conv => whnf
  refine CallC.nl _ (hc) ?_ ?_
  · exact rfl
  refine LoopC.mk (fun i : Nat => i ≤ P.length ∧ ∀ j, j < i → pOk (ix P j) = true) (fun i => [(4, .osl 0), (11, txts P), (12, .int .i64 P.length), (13, .int .i64 i)])
    (fun i => [(0, .arr 73 2 ((P.take i).map pv).length fun j => (ix ((P.take i).map pv) j).row)]) 1 (fun i => P.length - i) 0
    ⟨⟨Nat.zero_le _, fun j hj => absurd hj (Nat.not_lt_zero j)⟩, [(0, 0)], rfl, rfl, ⟨AVle.refl _, AVle.refl _, AVle.refl _, AVle.refl _, trivial⟩, ⟨MOle.arr rfl fun i hi => absurd hi (Nat.not_lt_zero i), trivial⟩⟩ ?_
  intro i hi
  obtain ⟨hi, hall⟩ := hi
  refine Grd.intro (fun h2 => ?_) (fun h2 => ?_)
  · have hin : i < P.length := by have := of_decide_eq_true h2; omega
    have hpi := hpl _ (getD_mem hin)
    refine And.intro (by omega) ?_
    by_cases h3 : pOk (ix P i) = true
    · conv => whnf
      refine CallC.nl _ (numbers_yes (ix P i) 61 2 (by omega) (by decide) (pv_some h3)) ?_ ?_
      · exact rfl
      refine DrawC.mk 9 rfl (by kernel_rfl) ?_
      refine And.intro (by simp) ?_
      refine And.intro (by simp) ?_
      refine And.intro ⟨show (((P.take i).map pv).length + 1) * 16 ≤ 140737488355328 by simp; omega, all1 rfl⟩ ?_
      refine And.intro (inI64 (by omega) (by omega)) ?_
      refine ⟨i + 1, ⟨hin, fun j hj => ?_⟩, by omega, [(10, 0)], rfl, rfl, ⟨AVle.refl _, AVle.refl _, AVle.refl _, AVle.of_eq (congrArg (AV.int .i64) (by simp)), trivial⟩, ⟨arr_next (f := Smp.row) (map_take_snoc hin) rfl, trivial⟩⟩
      rcases Nat.lt_or_ge j i with h' | h'
      · exact hall j h'
      · rw [show j = i by omega]; exact h3
    · have h3 : pOk (ix P i) = false := by simpa using h3
      rw [hn (by rw [e0, bad_all hin h3]; rfl)]
      conv => whnf
      refine CallC.nl _ (numbers_no (ix P i) 61 2 (by omega) (by decide) (pv_none h3)) ?_ ?_
      · exact rfl
      exact And.intro trivial (AVle.tup (AVsle.cons (AVle.any _) (AVsle.cons (AVle.refl _) AVsle.nil)))
  · have : i = P.length := by have := of_decide_eq_false h2; omega
    subst this
    have e : P.take P.length = P := List.take_of_length_le (Nat.le_refl _)
    have hA : P.all pOk = true := pre_all hall
    rw [hA, Bool.true_and] at e0
    rw [e]
    cases hq : smpsOK (P.map pv)
    · have c := SamplesOK_fn (P.map pv)
      rw [hq] at c e0
      rw [hn e0]
      conv => whnf
      refine CallC.sca _ (c) ?_ ?_
      · exact rfl
      exact And.intro trivial (AVle.tup (AVsle.cons (AVle.any _) (AVsle.cons (AVle.refl _) AVsle.nil)))
    · have c := SamplesOK_fn (P.map pv)
      rw [hq, Bool.true_and] at e0
      rw [hq] at c
      conv => whnf
      refine CallC.sca _ (c) ?_ ?_
      · exact rfl
      rcases Int.lt_or_le 8 (P.length : Int) with h8 | h8
      · rw [hn (by rw [e0]; exact decide_eq_false (by omega))]
        conv => whnf
        exact And.intro trivial (AVle.tup (AVsle.cons (AVle.any _) (AVsle.cons (AVle.of_eq (congrArg AV.bool (decide_eq_false (by simp; omega)))) AVsle.nil)))
      · rw [hy (by rw [e0]; exact decide_eq_true h8), e1 (by rw [e0]; exact decide_eq_true h8)]
        conv => whnf
        exact And.intro trivial (AVle.tup (AVsle.cons (AVle.refl _) (AVsle.cons (AVle.of_eq (congrArg AV.bool (decide_eq_true (by simp; omega)))) AVsle.nil)))
theorem smpText_32 (s : Smp) : ∀ x ∈ smpText s, x ≠ 32 := by
  intro x hx
  unfold smpText at hx
  rw [join2] at hx
  simp only [List.mem_append, List.mem_singleton] at hx
  rcases hx with (hx | rfl) | hx
  · exact itoa_ne (by decide) (by decide) x hx
  · decide
  · exact itoa_ne (by decide) (by decide) x hx
theorem pv_text {s : Smp} (h : s.num) : pOk (smpText s) = true ∧ pv (smpText s) = s := by
  have e : numsK 61 2 (smpText s) = some [s.t, s.v] := nums_back (c := 61) (N := [s.t, s.v]) (by decide) (by decide) (by simp) (fun n hn => by
    obtain ⟨h1, h2⟩ := h
    simp only [List.mem_cons, List.not_mem_nil, or_false] at hn
    rcases hn with rfl | rfl <;> omega)
  unfold pOk pv
  rw [e]
  exact ⟨rfl, rfl⟩
theorem smpText_ne (s : Smp) : smpText s ≠ [] := by
  unfold smpText; rw [join2]; simp
theorem join_nil {L : List (List UInt8)} {c : UInt8} (h : ∀ x ∈ L, x ≠ []) (hL : L ≠ []) : Lib.join L [c] ≠ [] := by
  match L, hL with
  | [a], _ => rw [Lib.join_one]; exact h a (by simp)
  | a :: b :: r, _ =>
    have e : Lib.join (a :: b :: r) [c] = a ++ c :: Lib.join (b :: r) [c] := by simp [Lib.join, List.intercalate, List.intersperse]
    rw [e]; simp
theorem wds_join {L : List (List UInt8)} (h : ∀ x ∈ L, x ≠ []) (h2 : ∀ x ∈ L, ∀ b ∈ x, b ≠ 32) : wds (Lib.join L [32]) = L := by
  unfold wds
  by_cases hL : L = []
  · subst hL; rfl
  · rw [if_neg (join_nil h hL), cut_join 32 L hL h2]
theorem wds_smps (L : List Smp) : wds (smpsText L) = L.map smpText := by
  unfold smpsText
  exact wds_join (fun x hx => by obtain ⟨s, _, rfl⟩ := List.mem_map.1 hx; exact smpText_ne s) (fun x hx => by obtain ⟨s, _, rfl⟩ := List.mem_map.1 hx; exact smpText_32 s)
theorem rdV_text {L : List Smp} (h : ∀ s ∈ L, s.num) : rdV (smpsText L) = L := by
  unfold rdV
  rw [wds_smps, List.map_map]
  exact (List.map_congr_left fun s hs => (pv_text (h s hs)).2).trans (List.map_id' L)
theorem rdOk_text {L : List Smp} (h : ∀ s ∈ L, s.num) (hk : smpsOK L = true) (h8 : L.length ≤ 8) : rdOk (smpsText L) = true := by
  have e := rdV_text h
  unfold rdV at e
  unfold rdOk
  rw [e, hk, wds_smps, List.length_map, decide_eq_true (by omega)]
  simp only [Bool.and_true, List.all_map]
  exact List.all_eq_true.2 fun s hs => (pv_text (h s hs)).1
end Go.Proofs.YtfaffgneccjpbaaGreatDoor
