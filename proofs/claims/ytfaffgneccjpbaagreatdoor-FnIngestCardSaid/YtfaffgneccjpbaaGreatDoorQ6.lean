/- Contracts of functions that the claim reaches, and the plain law of what they compute; each theorem bears its own conditions. -/
import Derived.Test.YtfaffgneccjpbaaGreatDoorQ5
import Derived.Test.YtfaffgneccjpbaaGreatDoorQ4
import Derived.Test.YtfaffgneccjpbaaGreatDoorQ3
import Derived.Test.YtfaffgneccjpbaaGreatDoorQ1
import Derived.WalkSmall
import Derived.Test.YtfaffgneccjpbaaGreatDoorV50
import Derived.Test.YtfaffgneccjpbaaGreatDoorQ2
set_option linter.unusedVariables false
set_option linter.constructorNameAsVariable false
set_option linter.unusedSimpArgs false
set_option maxRecDepth 20000
namespace Go.Proofs.YtfaffgneccjpbaaGreatDoor
open Go Go.Vw

def SSf (x : SS) (f : Int) (n : Nat) : Prop := (f ≤ x.2.1 ∧ x.2.1 ≤ f + 4 * n) ∧ (∀ e ∈ x.1, f ≤ e.t ∧ e.t < x.2.1) ∧ x.1.Pairwise (fun a b => a.t < b.t)
theorem stepf_t {x : SS} {f : Int} {n : Nat} {k : Int} (h : SSf x f n) (hs : x.2.2.ok k) (hk : 0 ≤ k) : SSf (smpStep x) f (n + 1) := by
  obtain ⟨⟨h1, h2⟩, h3, h4⟩ := h
  have n1 := next_b x.2.2 hs hk 4
  have a1 := n1.1.2 (by omega)
  have a0 := n1.1.1
  unfold smpStep
  refine ⟨⟨by simp only; omega, by simp only; omega⟩, fun e he => ?_, ?_⟩
  · simp only [List.mem_append, List.mem_cons, List.not_mem_nil, or_false] at he
    rcases he with he | he
    · have := h3 e he
      simp only; omega
    · subst he
      simp only; omega
  · refine List.pairwise_append.2 ⟨h4, List.pairwise_singleton _ _, fun a ha b hb => ?_⟩
    simp only [List.mem_cons, List.not_mem_nil, or_false] at hb
    subst hb
    have := h3 a ha
    simp only; omega
theorem itf_t {x : SS} {f : Int} {k : Int} (h : SSok x 0 k) (ht : SSf x f 0) (hk : 0 ≤ k) : ∀ n, SSf (smpIt n x) f n
  | 0 => by simpa [smpIt] using ht
  | n + 1 => stepf_t (itf_t h ht hk n) (it_ok h hk n).2.2.1 (by omega)
theorem pairf_smps {L : List Smp} (h : L.Pairwise (fun a b => a.t < b.t)) (ht : ∀ e ∈ L, 0 ≤ e.t ∧ e.t ≤ 99999) (hv : ∀ e ∈ L, -1000000 ≤ e.v ∧ e.v ≤ 1000000) (hl : L.length ≤ 4096) : smpsOK L = true := by
  unfold smpsOK
  rw [decide_eq_true hl, Bool.true_and, allN_iff]
  intro i hi
  have a := ht _ (getD_mem hi)
  have b := hv _ (getD_mem hi)
  unfold smpAt
  simp only [Bool.and_eq_true, Bool.or_eq_true, decide_eq_true_eq, within]
  refine ⟨⟨⟨a.1, a.2⟩, ⟨b.1, b.2⟩⟩, ?_⟩
  rcases Nat.eq_zero_or_pos i with h0 | h0
  · exact .inl h0
  · right
    have := (List.pairwise_iff_getElem.1 h) (i - 1) i (by omega) hi (by omega)
    rw [ix_lt hi, ix_lt (by omega : i - 1 < L.length)]
    exact this
structure SmpF (S : SS) (f : Int) (n : Nat) : Prop where
  ok : smpsOK S.1 = true
  len : S.1.length ≤ n
  tm : ∀ e ∈ S.1, f ≤ e.t ∧ e.t < f + 4 * n
theorem samples_b (s : Src) (f : Int) (n : Nat) {k : Int} (h : s.ok k) (hf : -10 ≤ f ∧ f ≤ 90000) (hk : 90000 ≤ k ∧ k ≤ 900000) (hn : n ≤ 10) (h0 : 0 ≤ f) : SmpF (s.samples f n) f n ∧ (s.samples f n).2.2.ok (k + 3 + 12 * n) := by
  have n0 := next_b s h (by omega) (n + 1)
  have hm := n0.1.2 (by omega)
  have hm0 := n0.1.1
  have s0 : SSok ([], f, (s.next (n + 1)).2) 0 (k + 3) := ⟨rfl, by simp, n0.2.1, by simp only; omega⟩
  have t0 : SSf ([], f, (s.next (n + 1)).2) f 0 := ⟨⟨Int.le_refl _, by simp⟩, by simp, List.Pairwise.nil⟩
  have a := it_ok s0 (by omega) (s.next (n + 1)).1.toNat
  have b := itf_t s0 t0 (by omega) (s.next (n + 1)).1.toNat
  unfold Src.samples
  obtain ⟨a1, a2, a3, _⟩ := a
  obtain ⟨⟨b1, b2⟩, b3, b4⟩ := b
  refine ⟨⟨pairf_smps b4 (fun e he => ?_) a2 (by omega), by omega, fun e he => ?_⟩, wk a3 (by omega)⟩
  · have := b3 e he
    omega
  · have := b3 e he
    omega
theorem keyF_ok {t n w : Nat} (ht : t ≤ 2) : keyOK (keyB t n w) = true := by
  have hs : (keyB t n w).length ≤ 17 ∧ 13 ≤ (keyB t n w).length := by
    unfold keyB pre
    split <;> simp [six6]
  unfold keyOK
  have e : (keyB t n w).all keyC = true := by
    have hd : ∀ m, (six6 m).all keyC = true := fun m => List.all_eq_true.2 fun x hx => by
      have := List.all_eq_true.1 (six6_dig m) x hx
      have := of_decide_eq_true this
      unfold keyC
      simp only [Bool.or_eq_true, Bool.and_eq_true, decide_eq_true_eq]
      left; left; right
      omega
    unfold keyB
    rw [List.all_append, List.all_append, List.all_cons, hd, hd]
    have h : t = 0 ∨ t = 1 ∨ t = 2 := by omega
    rcases h with rfl | rfl | rfl <;> decide
  rw [e]
  simp [within]; omega
structure FS where
  x : Sto
  at_ : Int
  s : Src
def FS.L (q : FS) : SS := q.s.samples q.at_ 6
def FS.D (q : FS) : Int × Src := q.L.2.2.next 6
def FS.to (q : FS) : Int := if q.L.1.length = 0 then q.at_ + 1 + q.D.1 else (ix q.L.1 (q.L.1.length - 1)).t + 1
def FS.W (q : FS) : Int × Src := q.D.2.next 2
def FS.key (q : FS) (i : Nat) : List UInt8 := keyB 0 i q.W.1.toNat
def FS.rc (q : FS) (i : Nat) : Rc := ⟨1, 0, 0, q.at_, q.to, q.key i⟩
def FS.x1 (q : FS) (i : Nat) : Sto := q.x.set (q.key i) (smpsText q.L.1)
def FS.step (q : FS) (i : Nat) : FS := ⟨(q.x1 i).set (manK i) (q.rc i).text, q.to, q.W.2⟩
def FS.draw (q : FS) : FS := ⟨q.x, q.at_, (q.s.next 5).2⟩
def fiIt : Nat → Nat → FS → FS
  | 0, _, q => q
  | f + 1, i, q => if (i : Int) ≤ 1 + (q.s.next 5).1 then fiIt f (i + 1) (q.draw.step i) else q.draw
def Src.filled (s : Src) : FS := fiIt 6 1 ⟨stoN0, 0, s⟩
structure FI (i : Nat) (q : FS) : Prop where
  ok : q.x.ok = true
  len : q.x.os.length ≤ 2 * (i - 1)
  nxt : q.x.next ≤ 1 + 2 * ((i : Int) - 1)
  at_ : 0 ≤ q.at_ ∧ q.at_ ≤ 100 * ((i : Int) - 1)
  s : q.s.ok (100000 + 200 * i)
theorem FI.zero {s : Src} (h : s.ok 100000) : FI 1 ⟨stoN0, 0, s⟩ := ⟨(by decide : stoN0.ok = true), (by decide : stoN0.os.length ≤ 0), (by decide : stoN0.next ≤ 1), by simp only; omega, wk h (by omega)⟩
structure FB (i : Nat) (q : FS) : Prop where
  m : SmpF q.L q.at_ 6
  s1 : q.L.2.2.ok (100075 + 200 * i + 10)
  s2 : q.D.2.ok (100078 + 200 * i + 10)
  s3 : q.W.2.ok (100081 + 200 * i + 10)
  d : 0 ≤ q.D.1 ∧ q.D.1 < 6
  w : 0 ≤ q.W.1 ∧ q.W.1 < 2
  tb : q.at_ < q.to ∧ q.to ≤ q.at_ + 60
  rc : (q.rc i).ok = true
  k1 : keyOK (q.key i) = true
  k2 : keyOK (manK i) = true
  ln : (smpsText q.L.1).length ≤ 300
  ok1 : (q.x1 i).ok = true
  len1 : (q.x1 i).os.length ≤ 2 * (i - 1) + 1
  nxt1 : (q.x1 i).next ≤ 2 + 2 * ((i : Int) - 1)
theorem FI.draw {i : Nat} {q : FS} (h : FI i q) (hi : 1 ≤ i ∧ i ≤ 6) : ((0 ≤ (q.s.next 5).1 ∧ (q.s.next 5).1 < 5) ∧ q.draw.s.ok (100003 + 200 * i)) := by
  have n1 := next_b q.s h.s (by omega) 5
  exact ⟨⟨n1.1.1, n1.1.2 (by omega)⟩, wk n1.2.1 (by omega)⟩
theorem manK_keyOK (n : Int) : keyOK (manK n) = true := by
  have hs : (manK n).length = 10 := by simp [manK, six6]
  have e : (manK n).all keyC = true := by
    unfold manK
    rw [List.all_append]
    have : (six6 n.toNat).all keyC = true := List.all_eq_true.2 fun x hx => by
      have := List.all_eq_true.1 (six6_dig n.toNat) x hx
      have := of_decide_eq_true this
      unfold keyC
      simp only [Bool.or_eq_true, Bool.and_eq_true, decide_eq_true_eq]
      left; left; right
      omega
    rw [this]
    decide
  unfold keyOK
  rw [e, hs]
  decide
theorem keyF_fields {t n w : Nat} (ht : t ≤ 2) (hn : n ≤ 999999) (hw : w ≤ 999999) : kOk (keyB t n w) = true ∧ kT (keyB t n w) = t ∧ kN (keyB t n w) = n ∧ kW (keyB t n w) = w := by
  have h := parse_key ht hn hw
  unfold kOk kT kN kW
  rw [h]
  exact ⟨rfl, rfl, rfl, rfl⟩
theorem rcF_ok {f t : Int} {n w : Nat} (hf : 0 ≤ f) (hft : f < t) (ht : t ≤ 100000) (hn : n ≤ 999999) (hn1 : 1 ≤ n) (hw : w ≤ 9) : Rc.ok ⟨1, 0, 0, f, t, keyB 0 n w⟩ = true := by
  obtain ⟨k1, k2, k3, k4⟩ := keyF_fields (t := 0) (n := n) (w := w) (by omega) (by omega) (by omega)
  unfold Rc.ok Rc.en En.ok
  simp only [if_true, k1, k2, isRange, within]
  simp
  omega
theorem Rc.txt_len {r : Rc} (h : r.ok = true) : r.text.length ≤ 130 := by
  have hk := (Rc.okN h).2
  have hh := Rc.head_len h
  unfold Rc.text; simp only [List.length_append, List.length_cons, List.length_nil]; omega
theorem FI.facts {i : Nat} {q : FS} (h : FI i q) (hs : q.draw.s.ok (100003 + 200 * i)) (hi : 1 ≤ i ∧ i ≤ 6) : FB i q.draw := by
  obtain ⟨h1, h2, h3, h4, h5⟩ := h
  have h1 : q.draw.x.ok = true := h1
  have h2 : q.draw.x.os.length ≤ 2 * (i - 1) := h2
  have h3 : q.draw.x.next ≤ 1 + 2 * ((i : Int) - 1) := h3
  have h4 : 0 ≤ q.draw.at_ ∧ q.draw.at_ ≤ 100 * ((i : Int) - 1) := h4
  generalize q.draw = q at *
  obtain ⟨m1, m2⟩ := samples_b q.s q.at_ 6 hs (by omega) (by omega) (by omega) h4.1
  have m1 : SmpF q.L q.at_ 6 := m1
  have m2 : q.L.2.2.ok (100003 + 200 * i + 3 + 12 * 6) := by have := m2; exact wk this (by omega)
  have n1 := next_b q.L.2.2 m2 (by omega) 6
  have d1 : 0 ≤ q.D.1 ∧ q.D.1 < 6 := ⟨n1.1.1, n1.1.2 (by omega)⟩
  have n1 : q.D.2.ok (100003 + 200 * i + 3 + 12 * 6 + 3) := n1.2.1
  have n2 := next_b q.D.2 n1 (by omega) 2
  have w1 : 0 ≤ q.W.1 ∧ q.W.1 < 2 := ⟨n2.1.1, n2.1.2 (by omega)⟩
  have n2 : q.W.2.ok (100003 + 200 * i + 3 + 12 * 6 + 3 + 3) := n2.2.1
  have hto : q.at_ < q.to ∧ q.to ≤ q.at_ + 60 := by
    unfold FS.to
    split
    · omega
    · have := m1.tm _ (getD_mem (show q.L.1.length - 1 < q.L.1.length by omega))
      exact ⟨by have := this.1; omega, by have := this.2; omega⟩
  have hrc : (q.rc i).ok = true := rcF_ok h4.1 hto.1 (by omega) (by omega) (by omega) (by omega)
  have hln := smpsText_len (smpsOK_num m1.ok)
  have hlen := m1.len
  have hl3 : (smpsText q.L.1).length ≤ 300 := by omega
  have hk : keyOK (q.key i) = true := keyF_ok (by omega)
  obtain ⟨p1, p2, p3, p4, p5⟩ := put_ok h1 hk (d := smpsText q.L.1) (by omega) (by omega) (by omega)
  rw [p2] at p3 p4 p5
  exact ⟨m1, wk m2 (by omega), wk n1 (by omega), wk n2 (by omega), d1, w1, hto, hrc, hk, manK_keyOK _, hl3, p3, by show (q.x.set _ _).os.length ≤ _; omega, by show (q.x.set _ _).next ≤ _; omega⟩
theorem FI.step {i : Nat} {q : FS} (h : FI i q) (hs : q.draw.s.ok (100003 + 200 * i)) (hi : 1 ≤ i ∧ i ≤ 6) : FI (i + 1) (q.draw.step i) := by
  have b := h.facts hs hi
  have hat := h.at_
  have hat : 0 ≤ q.draw.at_ ∧ q.draw.at_ ≤ 100 * ((i : Int) - 1) := hat
  obtain ⟨p1, p2, p3, p4, p5⟩ := put_ok b.ok1 b.k2 (d := (q.draw.rc i).text) (by have := Rc.txt_len b.rc; omega) (by have := b.len1; omega) (by have := b.nxt1; omega)
  rw [p2] at p3 p4 p5
  have l1 := b.len1
  have l2 := b.nxt1
  have l3 := b.tb
  exact ⟨p3, by show ((q.draw.x1 i).set _ _).os.length ≤ _; omega, by show ((q.draw.x1 i).set _ _).next ≤ _; omega, by show 0 ≤ q.draw.to ∧ q.draw.to ≤ _; omega, wk b.s3 (by omega)⟩
theorem fiIt_eq {i : Nat} (hi : i ≤ 6) (q : FS) : fiIt (7 - i) i q = if (i : Int) ≤ 1 + (q.s.next 5).1 then fiIt (7 - (i + 1)) (i + 1) (q.draw.step i) else q.draw := by
  rw [show 7 - i = (7 - (i + 1)) + 1 by omega]
  rfl
theorem NewStoreF_fn : VFn Tryz.prog 67 [] stoN0.av := by
  refine VFn.introC Tryz.call67 Tryz.func67 rfl rfl ?_
  conv => whnf
  refine And.intro trivial (AVle.agg (AVsle.cons (AVle.sl rfl fun i hi => absurd hi (Nat.not_lt_zero i)) (AVsle.cons (AVle.refl _) AVsle.nil)))
theorem filled_fn (s : Src) (h : s.ok 100000) : FnM Tryz.prog 30 1 [.bptr 0 0] [(0, .box s.row)] s.filled.x.av [(0, .box s.filled.s.row)] 1 := by
  obtain ⟨R, hR⟩ : ∃ R, R = s.filled := ⟨_, rfl⟩
  rw [← hR]
  refine FnM.introC Tryz.call30 Tryz.func30 rfl rfl ?_
  conv => whnf
  refine CallC.nl _ (NewStoreF_fn) ?_ ?_
  · exact rfl
  refine LoopC.mk (fun a : Nat × FS => (1 ≤ a.1 ∧ a.1 ≤ 6) ∧ FI a.1 a.2 ∧ fiIt (7 - a.1) a.1 a.2 = R) (fun a => [(0, .bptr 0 0), (2, .bptr 1 0), (3, .bptr 2 0), (4, .int .i64 a.2.at_), (5, .int .i64 a.1)])
    (fun a => [(0, .box a.2.s.row), (1, .box [.nilsl, .int .i64 0]), (2, .box a.2.x.row)]) 3 (fun a => 7 - a.1) (1, ⟨stoN0, 0, s⟩)
    ⟨⟨⟨Nat.le_refl _, (by decide : 1 ≤ 6)⟩, FI.zero h, hR.symm⟩, [(0, 0), (1, 1), (2, 2)], rfl, rfl, ⟨AVle.refl _, AVle.refl _, AVle.refl _, AVle.refl _, AVle.refl _, trivial⟩, ⟨MOle.refl _, MOle.refl _, MOle.refl _, trivial⟩⟩ ?_
  intro a ha
  obtain ⟨i, q⟩ := a
  obtain ⟨hi, hq, he⟩ := ha
  simp only at hi hq he
  have hd := hq.draw hi
  have hb := hq.facts hd.2 hi
  have hn := hq.step hd.2 hi
  rw [fiIt_eq hi.2] at he
  have hnx := hq.nxt
  have hln := hq.len
  conv => whnf
  refine CallC.k [(0, 0)] (next_fn q.s 5 (wk hq.s (by omega))) rfl rfl (AVsle.refl _) ⟨MOle.refl _, trivial⟩ rfl ?_
  refine And.intro (inI64 (by omega) (by omega)) ?_
  refine Grd.intro (fun g1 => ?_) (fun g1 => ?_)
  case _ =>
    have g1 : (i : Int) ≤ 1 + (q.s.next 5).1 := of_decide_eq_true g1
    rw [if_pos g1] at he
    have hi5 : i ≤ 5 := by have := hd.1.2; omega
    have hat : 0 ≤ q.draw.at_ ∧ q.draw.at_ ≤ 100 * ((i : Int) - 1) := hq.at_
    have hdl := hb.m.len
    have hd6 := hb.d
    have hw2 := hb.w
    have hto := hb.tb
    obtain ⟨w, hw⟩ : ∃ w : Nat, q.draw.W.1 = w := ⟨q.draw.W.1.toNat, by omega⟩
    have ck : VFn Tryz.prog 69 [.int .i64 0, .int .i64 i, .int .i64 q.draw.W.1] (.str (B (q.draw.key i))) := by
      have hk : q.draw.key i = keyB 0 i w := by unfold FS.key; rw [hw]; rfl
      rw [hk, hw]
      exact l03Key_at (t := 0) (n := i) (w := w) rfl rfl rfl (by omega) (by omega) (by omega)
    have ct := l03Samples_fn q.draw.L.1 (by omega) (smpsOK_num hb.m.ok)
    have cs1 := l01Set_fn q.draw.x (by show q.x.os.length ≤ _; omega) ⟨by show q.x.next ≤ _; omega, by have := ((stoOK_iff _).1 hq.ok).nx; show 0 ≤ q.x.next; omega⟩ (q.draw.key i) (smpsText q.draw.L.1)
    have ckm := l06Key_fn (i : Int) (by simp [within]; omega)
    have crt := l06Text_fn (q.draw.rc i) hb.rc
    have cs2 := l01Set_fn (q.draw.x1 i) (by have := hb.len1; omega) ⟨by have := hb.nxt1; omega, by have := ((stoOK_iff _).1 hb.ok1).nx; omega⟩ (manK i) (q.draw.rc i).text
    conv => whnf
    refine CallC.k [(0, 0)] (samples_fn q.draw.s q.draw.at_ 6 (wk hd.2 (by omega)) (by omega) (by omega)) rfl rfl (AVsle.refl _) ⟨MOle.refl _, trivial⟩ rfl ?_
    refine And.intro (show inI .i64 (q.draw.at_ + 1) from inI64 (by omega) (by omega)) ?_
    conv => whnf
    refine CallC.k [(0, 0)] (next_fn q.draw.L.2.2 6 (wk hb.s1 (by omega))) rfl rfl (AVsle.refl _) ⟨MOle.refl _, trivial⟩ rfl ?_
    refine And.intro (show inI .i64 (q.draw.at_ + 1 + q.draw.D.1) from inI64 (by omega) (by omega)) ?_
    refine Grd.intro (fun g2 => ?_) (fun g2 => ?_)
    case _ =>
      have g2 : 0 < q.draw.L.1.length := by have : (0 : Int) < (q.draw.L.1.length : Int) := of_decide_eq_true g2; omega
      have hb9 := hb.m.tm _ (getD_mem (show ((q.draw.L.1.length : Int) - 1).toNat < q.draw.L.1.length by omega))
      have e9 : ((q.draw.L.1.length : Int) - 1).toNat = q.draw.L.1.length - 1 := by omega
      have eto : q.draw.to = (ix q.draw.L.1 ((q.draw.L.1.length : Int) - 1).toNat).t + 1 := by unfold FS.to; rw [if_neg (by omega), e9]
      refine And.intro (show inI .i64 ((q.draw.L.1.length : Int) - 1) from inI64 (by omega) (by omega)) ?_
      refine And.intro (show (0 : Int) ≤ (q.draw.L.1.length : Int) - 1 ∧ (q.draw.L.1.length : Int) - 1 < (q.draw.L.1.length : Int) by omega) ?_
      refine And.intro (show inI .i64 ((ix q.draw.L.1 ((q.draw.L.1.length : Int) - 1).toNat).t + 1) from inI64 (by have := hb9.1; omega) (by have := hb9.2; omega)) ?_
      conv => whnf
      refine CallC.k [(0, 0)] (next_fn q.draw.D.2 2 (wk hb.s2 (by omega))) rfl rfl (AVsle.refl _) ⟨MOle.refl _, trivial⟩ rfl ?_
      have crt' : VFn Tryz.prog 73 [.agg [.int .i64 1, .int .i64 0, .int .i64 0, .int .i64 q.draw.at_, .int .i64 ((ix q.draw.L.1 ((q.draw.L.1.length : Int) - 1).toNat).t + 1), .str (B (q.draw.key i))]] (.str (B (q.draw.rc i).text)) := by rw [← eto]; exact crt
      conv => whnf
      refine CallC.sca _ (ck) ?_ ?_
      · exact rfl
      conv => whnf
      refine DrawC.mk 5 rfl (by kernel_rfl) ?_
      refine PCallC.sca _ (ct) rfl ?_
      refine PCallC.nl _ (cs1) rfl ?_
      conv => whnf
      refine DrawC.mk 9 rfl (by kernel_rfl) ?_
      refine PCallC.sca _ (ckm) rfl ?_
      refine PCallC.sca _ (crt') rfl ?_
      refine PCallC.nl _ (cs2) rfl ?_
      refine And.intro (inI64 (by omega) (by omega)) ?_
      exact ⟨(i + 1, q.draw.step i), ⟨⟨by omega, by omega⟩, hn, he⟩, (by show 7 - (i + 1) < 7 - i; omega), [(0, 0), (1, 1), (2, 2)], rfl, rfl, ⟨AVle.refl _, AVle.refl _, AVle.refl _, AVle.of_eq (congrArg (AV.int .i64) eto.symm), AVle.of_eq (congrArg (AV.int .i64) (by simp)), trivial⟩, ⟨MOle.refl _, MOle.refl _, MOle.refl _, trivial⟩⟩
    case _ =>
      have g2 : q.draw.L.1.length = 0 := by have : ¬ (0 : Int) < (q.draw.L.1.length : Int) := of_decide_eq_false g2; omega
      have eto : q.draw.to = q.draw.at_ + 1 + q.draw.D.1 := by unfold FS.to; rw [if_pos g2]
      conv => whnf
      refine CallC.k [(0, 0)] (next_fn q.draw.D.2 2 (wk hb.s2 (by omega))) rfl rfl (AVsle.refl _) ⟨MOle.refl _, trivial⟩ rfl ?_
      have crt' : VFn Tryz.prog 73 [.agg [.int .i64 1, .int .i64 0, .int .i64 0, .int .i64 q.draw.at_, .int .i64 (q.draw.at_ + 1 + q.draw.D.1), .str (B (q.draw.key i))]] (.str (B (q.draw.rc i).text)) := by rw [← eto]; exact crt
      conv => whnf
      refine CallC.sca _ (ck) ?_ ?_
      · exact rfl
      conv => whnf
      refine DrawC.mk 5 rfl (by kernel_rfl) ?_
      refine PCallC.sca _ (ct) rfl ?_
      refine PCallC.nl _ (cs1) rfl ?_
      conv => whnf
      refine DrawC.mk 9 rfl (by kernel_rfl) ?_
      refine PCallC.sca _ (ckm) rfl ?_
      refine PCallC.sca _ (crt') rfl ?_
      refine PCallC.nl _ (cs2) rfl ?_
      refine And.intro (inI64 (by omega) (by omega)) ?_
      exact ⟨(i + 1, q.draw.step i), ⟨⟨by omega, by omega⟩, hn, he⟩, (by show 7 - (i + 1) < 7 - i; omega), [(0, 0), (1, 1), (2, 2)], rfl, rfl, ⟨AVle.refl _, AVle.refl _, AVle.refl _, AVle.of_eq (congrArg (AV.int .i64) eto.symm), AVle.of_eq (congrArg (AV.int .i64) (by simp)), trivial⟩, ⟨MOle.refl _, MOle.refl _, MOle.refl _, trivial⟩⟩
  case _ =>
    have g1 : ¬ (i : Int) ≤ 1 + (q.s.next 5).1 := of_decide_eq_false g1
    rw [if_neg g1] at he
    subst he
    exact And.intro trivial ⟨[(0, 0)], rfl, AVle.refl _, ⟨MOle.refl _, trivial⟩⟩
end Go.Proofs.YtfaffgneccjpbaaGreatDoor
set_option linter.unusedVariables false
set_option linter.constructorNameAsVariable false
set_option linter.unusedSimpArgs false
set_option maxRecDepth 20000
namespace Go.Proofs.YtfaffgneccjpbaaGreatDoor
open Go Go.Vw

theorem mem_has {s : Sto} (h : Srt s.os) {o : Ob} (ho : o ∈ s.os) : s.has o.key = true ∧ s.get o.key = o := by
  obtain ⟨j, hj, e⟩ := List.getElem_of_mem ho
  have ej : ix s.os j = o := by rw [ix_lt hj]; exact e
  have hl := lb_le o.key s.os
  have h1 : lb o.key s.os ≤ j := by
    rcases Nat.lt_or_ge j (lb o.key s.os) with h1 | h1
    · have := lb_lt h1
      rw [ej] at this
      exact absurd this (List.lt_irrefl _)
    · exact h1
  have h2 : lb o.key s.os = j := by
    rcases Nat.lt_or_ge (lb o.key s.os) j with h2 | h2
    · have h3 := h.lt h2 hj
      rw [ej] at h3
      exact absurd h3 (lb_ge (by omega))
    · omega
  have h3 : ix s.os (lb o.key s.os) = o := by rw [h2]; exact ej
  refine ⟨?_, h3⟩
  unfold Sto.has hasK
  rw [h3, decide_eq_true (by omega : lb o.key s.os < s.os.length)]
  simp
theorem has_get {s : Sto} {k : List UInt8} (h : s.has k = true) : s.get k ∈ s.os ∧ (s.get k).key = k := by
  obtain ⟨h1, h2⟩ := hasK_at h
  exact ⟨getD_mem h1, h2⟩
theorem set_mem {s : Sto} (h : Srt s.os) (k d : List UInt8) (o : Ob) : o ∈ (s.set k d).os ↔ o = ⟨k, s.next, d⟩ ∨ (o ∈ s.os ∧ o.key ≠ k) := by
  have e : (s.set k d).os = s.os.take (lb k s.os) ++ (⟨k, s.next, d⟩ :: s.os.drop (if hasK k s.os = true then lb k s.os + 1 else lb k s.os)) := rfl
  have ht := lb_take (k := k) (L := s.os)
  have hd := lb_drop (k := k) h
  rw [e, List.mem_append, List.mem_cons]
  constructor
  · rintro (h1 | h1 | h1)
    · refine .inr ⟨List.mem_of_mem_take h1, fun e => ?_⟩
      have := ht o h1
      rw [e] at this
      exact List.lt_irrefl _ this
    · exact .inl h1
    · refine .inr ⟨List.mem_of_mem_drop h1, fun e => ?_⟩
      have := hd o h1
      rw [e] at this
      exact List.lt_irrefl _ this
  · rintro (h1 | ⟨h1, h2⟩)
    · exact .inr (.inl h1)
    · obtain ⟨j, hj, e1⟩ := List.getElem_of_mem h1
      rcases Nat.lt_or_ge j (lb k s.os) with h3 | h3
      · left
        exact List.mem_take_iff_getElem.2 ⟨j, by omega, e1⟩
      · right; right
        have hq : (if hasK k s.os = true then lb k s.os + 1 else lb k s.os) ≤ j := by
          split
          · rename_i hk
            obtain ⟨k1, k2⟩ := hasK_at hk
            rcases Nat.lt_or_ge (lb k s.os) j with h4 | h4
            · exact h4
            · have : j = lb k s.os := by omega
              subst this
              rw [ix_lt hj, e1] at k2
              exact absurd k2 h2
          · exact h3
        refine List.mem_iff_getElem.2 ⟨j - (if hasK k s.os = true then lb k s.os + 1 else lb k s.os), by rw [List.length_drop]; omega, ?_⟩
        rw [List.getElem_drop]
        simp only [show (if hasK k s.os = true then lb k s.os + 1 else lb k s.os) + (j - (if hasK k s.os = true then lb k s.os + 1 else lb k s.os)) = j by omega]
        exact e1
/-- what is put elsewhere changes nothing here -/
theorem set_ne {s : Sto} (hs : s.ok = true) {k d : List UInt8} (hy : (s.set k d).ok = true) {k' : List UInt8} (hk : k' ≠ k) : (s.set k d).has k' = s.has k' ∧ (s.has k' = true → (s.set k d).get k' = s.get k') := by
  have h1 := Sto.srt hs
  have h2 := Sto.srt hy
  have fw : (s.set k d).has k' = true → s.has k' = true := fun h => by
    obtain ⟨a1, a2⟩ := has_get h
    rcases (set_mem h1 k d _).1 a1 with e | ⟨e, _⟩
    · rw [e] at a2; exact absurd a2.symm hk
    · have := (mem_has h1 e).1
      rwa [a2] at this
  have bw : s.has k' = true → (s.set k d).has k' = true ∧ (s.set k d).get k' = s.get k' := fun h => by
    obtain ⟨a1, a2⟩ := has_get h
    have := mem_has h2 ((set_mem h1 k d _).2 (.inr ⟨a1, by rw [a2]; exact hk⟩))
    rw [a2] at this
    exact this
  refine ⟨?_, fun h => (bw h).2⟩
  cases h : s.has k' with
  | true => exact (bw h).1
  | false =>
    cases h' : (s.set k d).has k' with
    | false => rfl
    | true => rw [fw h'] at h; cases h
theorem logN_congr {x y : Sto} : ∀ n : Nat, (∀ j, j < n → (y.get (manK ((j + 1 : Nat) : Int))).data = (x.get (manK ((j + 1 : Nat) : Int))).data) → logN y n = logN x n
  | 0, _ => rfl
  | n + 1, h => by
    show stepL y (logN y n) = stepL x (logN x n)
    rw [logN_congr n fun j hj => h j (by omega)]
    unfold stepL recAt
    rw [logN_seq x n, show ((n : Nat) : Int) + 1 = ((n + 1 : Nat) : Int) by omega, h n (by omega)]
def Sta.lay (s : Sta) (t : List UInt8) : Sta := match readR t with | none => s.tick | some r => s.app r
/-- the log of a store in which the next record was laid -/
theorem log_grow {x y : Sto} (hy : y.ok = true) {n : Nat} (hn : n ≤ 299) (hh : ∀ j, j < n → x.has (manK ((j + 1 : Nat) : Int)) = true) (he : logEnd x = n)
    (h1 : ∀ j, j < n → y.has (manK ((j + 1 : Nat) : Int)) = true ∧ (y.get (manK ((j + 1 : Nat) : Int))).data = (x.get (manK ((j + 1 : Nat) : Int))).data)
    (h2 : y.has (manK ((n + 1 : Nat) : Int)) = true) (h3 : y.has (manK ((n + 2 : Nat) : Int)) = false) : logEnd y = n + 1 ∧ logS y = (logS x).lay (y.get (manK ((n + 1 : Nat) : Int))).data := by
  have e : n + 1 = logEnd y := log_end hy (by omega) (fun j hj => by
    rcases Nat.lt_or_ge j n with h | h
    · exact (h1 j h).1
    · have : j = n := by omega
      subst this; exact h2) h3
  refine ⟨e.symm, ?_⟩
  unfold logS
  rw [← e, he]
  show stepL y (logN y n) = _
  rw [logN_congr n fun j hj => (h1 j hj).2]
  unfold stepL recAt Sta.lay
  rw [logN_seq x n, show ((n : Nat) : Int) + 1 = ((n + 1 : Nat) : Int) by omega]
  generalize readR _ = o
  cases o <;> rfl
end Go.Proofs.YtfaffgneccjpbaaGreatDoor
set_option linter.unusedVariables false
set_option linter.constructorNameAsVariable false
set_option linter.unusedSimpArgs false
set_option maxRecDepth 20000
namespace Go.Proofs.YtfaffgneccjpbaaGreatDoor
open Go Go.Vw

theorem Cut_fn (s : List UInt8) (c : UInt8) (hl : s.length ≤ 1000000000) : VFn Tryz.prog 137 [.str (B s), .str (B [c])] (.tup [.str (B (Lib.cut s [c]).1), .str (B (Lib.cut s [c]).2.1), .bool (Lib.cut s [c]).2.2]) := by
  refine VFn.lib Tryz.call137 fun w ok vs hJ hok hv => ?_
  obtain ⟨v, us, rfl, hv, v2, us2, rfl, hv2, hus⟩ := hv
  have e1 : v = .string (B s) := hv
  have e2 : v2 = .string (B [c]) := hv2
  have e3 : us2 = [] := hus
  subst e1 e2 e3
  obtain ⟨mv, hmv⟩ := tab_maxlen hJ
  refine (Tryz.strings_Cut (B s) (B [c]) mv w (by rw [B_size]; omega) hmv).mono ?_
  rintro e w' ⟨rfl, n, rfl⟩
  refine ⟨_, rfl, ⟨rfl, rfl, rfl, Nat.le_refl _, fun _ _ => rfl⟩, fun _ _ => ⟨[_, _, _], rfl, _, _, rfl, ?_, _, _, rfl, ?_, _, _, rfl, ?_, rfl⟩⟩
  · show Value.string _ = _
    rw [B_data, B_data]; rfl
  · show Value.string _ = _
    rw [B_data, B_data]; rfl
  · show Value.bool _ = _
    rw [B_data, B_data]
theorem cut_none {s : List UInt8} {c : UInt8} (h : ∀ x ∈ s, x ≠ c) : Lib.cut s [c] = (s, [], false) := by
  unfold Lib.cut; rw [index_none c s h]; rfl
theorem cut_at {a b : List UInt8} {c : UInt8} (h : ∀ x ∈ a, x ≠ c) : Lib.cut (a ++ c :: b) [c] = (a, b, true) := by
  unfold Lib.cut; rw [index_at c a b h]
  rw [if_pos (by omega)]
  simp
theorem readRecord_none (t : List UInt8) (hl : t.length ≤ 1000000) (h : ∀ x ∈ t, x ≠ 32) : VFn Tryz.prog 123 [.str (B t)] (.tup [(default : Rc).av, .bool false]) := by
  have c := Cut_fn t 32 (by omega)
  rw [cut_none h] at c
  refine VFn.introC Tryz.call123 Tryz.func123 rfl rfl ?_
  conv => whnf
  refine CallC.sca _ (c) ?_ ?_
  · exact rfl
  cases hn : numsK 44 5 t with
  | none =>
    conv => whnf
    refine CallC.nl _ (numbers_no t 44 5 (by omega) (by decide) hn) ?_ ?_
    · exact rfl
    exact And.intro trivial (AVle.refl _)
  | some N =>
    conv => whnf
    refine CallC.nl _ (numbers_yes t 44 5 (by omega) (by decide) hn) ?_ ?_
    · exact rfl
    exact And.intro trivial (AVle.refl _)
theorem readRecord_cut (a b : List UInt8) (hl : (a ++ 32 :: b).length ≤ 1000000) (ha : ∀ x ∈ a, x ≠ 32) : (∀ k tok tier f e, numsK 44 5 a = some [k, tok, tier, f, e] → VFn Tryz.prog 123 [.str (B (a ++ 32 :: b))] (.tup [(Rc.mk k tok tier f e b).av, .bool (Rc.ok ⟨k, tok, tier, f, e, b⟩)])) ∧
    (numsK 44 5 a = none → VFn Tryz.prog 123 [.str (B (a ++ 32 :: b))] (.tup [(default : Rc).av, .bool false])) := by
  have c := Cut_fn (a ++ 32 :: b) 32 (by omega)
  rw [cut_at ha] at c
  have hal : a.length ≤ 1000000 := by rw [List.length_append] at hl; omega
  constructor
  · intro k tok tier f e hn
    have ct := RecordOK_fn ⟨k, tok, tier, f, e, b⟩
    refine VFn.introC Tryz.call123 Tryz.func123 rfl rfl ?_
    conv => whnf
    refine CallC.sca _ (c) ?_ ?_
    · exact rfl
    conv => whnf
    refine CallC.nl _ (numbers_yes a 44 5 (by omega) (by decide) hn) ?_ ?_
    · exact rfl
    refine DrawC.mkK 19 [(.inr 17, 18)] rfl (by kernel_rfl) ?_
    refine And.intro rfl ?_
    refine And.intro ⟨by decide, show (0 : Int) < 5 by decide⟩ ?_
    refine And.intro ⟨by decide, show (1 : Int) < 5 by decide⟩ ?_
    refine And.intro ⟨by decide, show (2 : Int) < 5 by decide⟩ ?_
    refine And.intro ⟨by decide, show (3 : Int) < 5 by decide⟩ ?_
    refine And.intro ⟨by decide, show (4 : Int) < 5 by decide⟩ ?_
    refine DrawC.mkK 5 [(.inl 0, 3)] rfl (by kernel_rfl) ?_
    refine And.intro rfl ?_
    conv => whnf
    refine PCallK.sca _ (ct) rfl ?_
    exact And.intro trivial (AVle.refl _)
  · intro hn
    refine VFn.introC Tryz.call123 Tryz.func123 rfl rfl ?_
    conv => whnf
    refine CallC.sca _ (c) ?_ ?_
    · exact rfl
    conv => whnf
    refine CallC.nl _ (numbers_no a 44 5 (by omega) (by decide) hn) ?_ ?_
    · exact rfl
    exact And.intro trivial (AVle.refl _)
theorem readRecord_yes (t : List UInt8) (hl : t.length ≤ 1000000) {r : Rc} (h : readR t = some r) : VFn Tryz.prog 123 [.str (B t)] (.tup [r.av, .bool true]) := by
  rcases first_c 32 t with h1 | ⟨a, b, rfl, ha⟩
  · rw [readR_none h1] at h; cases h
  · obtain ⟨r1, r2⟩ := readR_at (b := b) ha
    obtain ⟨c1, c2⟩ := readRecord_cut a b hl ha
    cases hn : numsK 44 5 a with
    | none => rw [r2 hn] at h; cases h
    | some N =>
      obtain ⟨k, tok, tier, f, e, rfl⟩ := nums5 hn
      rw [r1 _ _ _ _ _ hn] at h
      split at h
      · rename_i hok
        cases h
        have := c1 _ _ _ _ _ hn
        rw [hok] at this; exact this
      · cases h
theorem readRecord_no (t : List UInt8) (hl : t.length ≤ 1000000) (h : readR t = none) : ∃ r : Rc, VFn Tryz.prog 123 [.str (B t)] (.tup [r.av, .bool false]) := by
  rcases first_c 32 t with h1 | ⟨a, b, rfl, ha⟩
  · exact ⟨_, readRecord_none t hl h1⟩
  · obtain ⟨r1, r2⟩ := readR_at (b := b) ha
    obtain ⟨c1, c2⟩ := readRecord_cut a b hl ha
    cases hn : numsK 44 5 a with
    | none => exact ⟨_, c2 hn⟩
    | some N =>
      obtain ⟨k, tok, tier, f, e, rfl⟩ := nums5 hn
      rw [r1 _ _ _ _ _ hn] at h
      split at h
      · cases h
      · rename_i hok
        have := c1 _ _ _ _ _ hn
        rw [show Rc.ok ⟨k, tok, tier, f, e, b⟩ = false by simpa using hok] at this
        exact ⟨_, this⟩
end Go.Proofs.YtfaffgneccjpbaaGreatDoor
set_option linter.unusedVariables false
set_option linter.constructorNameAsVariable false
set_option linter.unusedSimpArgs false
set_option maxRecDepth 20000
namespace Go.Proofs.YtfaffgneccjpbaaGreatDoor
open Go Go.Vw

end Go.Proofs.YtfaffgneccjpbaaGreatDoor
set_option linter.unusedVariables false
set_option linter.constructorNameAsVariable false
set_option linter.unusedSimpArgs false
set_option maxRecDepth 20000
namespace Go.Proofs.YtfaffgneccjpbaaGreatDoor
open Go Go.Vw

theorem join_no32 : ∀ L : List Int, ∀ x ∈ Lib.join (L.map Lib.itoa) [44], x ≠ (32 : UInt8)
  | [], x, hx => by simp [Lib.join] at hx
  | [a], x, hx => itoa_ne (by decide) (by decide) x (by simpa [Lib.join] using hx)
  | a :: b :: r, x, hx => by
    have e : Lib.join ((a :: b :: r).map Lib.itoa) [44] = Lib.itoa a ++ [44] ++ Lib.join ((b :: r).map Lib.itoa) [44] := by simp [Lib.join, List.intercalate, List.intersperse]
    rw [e] at hx
    rcases List.mem_append.1 hx with hx | hx
    · rcases List.mem_append.1 hx with hx | hx
      · exact itoa_ne (by decide) (by decide) x hx
      · simp at hx; rw [hx]; decide
    · exact join_no32 (b :: r) x hx
theorem text_nums {r : Rc} (h : r.ok = true) : numsK 44 5 (Lib.join (r.nums.map Lib.itoa) [44]) = some [r.k, r.tok, r.tier, r.f, r.t] :=
  nums_back (c := 44) (by decide) (by decide) (N := r.nums) (by simp [Rc.nums]) (fun n hn => by have := (Rc.okN h).1 n hn; unfold mid at this; omega)
theorem text_back {r : Rc} (h : r.ok = true) : readR r.text = some r := by
  have := (readR_at (b := r.key) (join_no32 r.nums)).1 _ _ _ _ _ (text_nums h)
  show readR (Lib.join (r.nums.map Lib.itoa) [44] ++ 32 :: r.key) = _
  rw [this, if_pos h]
end Go.Proofs.YtfaffgneccjpbaaGreatDoor
set_option linter.unusedVariables false
set_option linter.constructorNameAsVariable false
set_option linter.unusedSimpArgs false
set_option maxRecDepth 20000
namespace Go.Proofs.YtfaffgneccjpbaaGreatDoor
open Go Go.Vw

theorem smpsF_srt {L : List Smp} (h : smpsOK L = true) : ∀ i j, i ≤ j → j < L.length → (ix L i).t ≤ (ix L j).t := by
  have hh : ∀ i, i < L.length → smpAt L i = true := by
    unfold smpsOK at h
    rw [Bool.and_eq_true] at h
    exact allN_iff.1 h.2
  intro i j hij
  induction j with
  | zero => intro _; rw [show i = 0 by omega]; exact Int.le_refl _
  | succ j ih =>
    intro hj
    rcases Nat.lt_or_ge i (j + 1) with h1 | h1
    · have a := ih (by omega) (by omega)
      have b := hh (j + 1) hj
      simp [smpAt] at b
      omega
    · rw [show i = j + 1 by omega]; exact Int.le_refl _
structure FE (x : Sto) (E : List En) (at_ : Int) : Prop where
  tm : ∀ e ∈ E, e.tier = 0 ∧ 0 ≤ e.f ∧ e.f < e.t ∧ e.t ≤ at_ ∧ e.t ≤ e.f + 60
  key : ∀ j, j < E.length → ∃ w : Nat, w ≤ 1 ∧ (ix E j).key = keyB 0 (j + 1) w
  hd : ∀ e r, E = e :: r → e.f = 0
  last : at_ = match E.getLast? with | none => 0 | some e => e.t
  data : ∀ e ∈ E, ∃ L : List Smp, smpsOK L = true ∧ L.length ≤ 6 ∧ (∀ s ∈ L, e.f ≤ s.t ∧ s.t < e.t) ∧ x.has e.key = true ∧ (x.get e.key).data = smpsText L
structure FL (i : Nat) (q : FS) : Prop where
  has : ∀ n : Nat, 1 ≤ n → n ≤ 999999 → q.x.has (manK (n : Int)) = decide (n < i)
  fin : logEnd q.x = i - 1
  st : ∃ E : List En, logS q.x = ⟨((i - 1 : Nat) : Int), 0, E, [], 0, 0, 0, q.at_, 0, 0⟩ ∧ E.length = i - 1 ∧ FE q.x E q.at_
theorem FL.zero {s : Src} : FL 1 ⟨stoN0, 0, s⟩ :=
  ⟨fun n h1 h2 => by rw [decide_eq_false (by omega)]; rfl, rfl, [], rfl, rfl, ⟨by simp, fun j hj => absurd hj (Nat.not_lt_zero j), fun e r h => (by cases h), rfl, by simp⟩⟩
theorem man_ne_key (n : Int) {t m w : Nat} : manK n ≠ keyB t m w := fun h => by
  have h1 : (manK n).length = 10 := by simp [manK, six6]
  have h2 : 13 ≤ (keyB t m w).length := by
    unfold keyB pre
    split <;> simp [six6]
  rw [h] at h1
  omega
theorem FL.step {i : Nat} {q : FS} (h : FI i q) (hf : FL i q) (hs : q.draw.s.ok (100003 + 200 * i)) (hi : 1 ≤ i ∧ i ≤ 6) : FL (i + 1) (q.draw.step i) := by
  have b := h.facts hs hi
  have hst := h.step hs hi
  have hok : q.draw.x.ok = true := h.ok
  obtain ⟨f1, f2, E, f3, f4, f5⟩ := hf
  have hat : 0 ≤ q.draw.at_ ∧ q.draw.at_ ≤ 100 * ((i : Int) - 1) := h.at_
  have f1 : ∀ n : Nat, 1 ≤ n → n ≤ 999999 → q.draw.x.has (manK (n : Int)) = decide (n < i) := f1
  have f2 : logEnd q.draw.x = i - 1 := f2
  have f3 : logS q.draw.x = ⟨((i - 1 : Nat) : Int), 0, E, [], 0, 0, 0, q.draw.at_, 0, 0⟩ := f3
  have f5 : FE q.draw.x E q.draw.at_ := f5
  have hok2 : (q.draw.step i).x.ok = true := hst.ok
  generalize q.draw = q at *
  obtain ⟨w, hw⟩ : ∃ w : Nat, q.W.1 = w := ⟨q.W.1.toNat, by have := b.w; omega⟩
  have hw1 : w ≤ 1 := by have := b.w; omega
  have hkey : q.key i = keyB 0 i w := by unfold FS.key; rw [hw]; rfl
  have hne : ∀ n : Int, manK n ≠ q.key i := fun n => by rw [hkey]; exact man_ne_key n
  -- the first change
  have a1 : ∀ k, k ≠ q.key i → (q.x1 i).has k = q.x.has k ∧ (q.x.has k = true → (q.x1 i).get k = q.x.get k) := fun k hk => set_ne hok b.ok1 hk
  have a2 : ∀ k, k ≠ manK (i : Int) → (q.step i).x.has k = (q.x1 i).has k ∧ ((q.x1 i).has k = true → (q.step i).x.get k = (q.x1 i).get k) := fun k hk => set_ne b.ok1 hok2 hk
  have a3 : ∀ k, k ≠ q.key i → k ≠ manK (i : Int) → (q.step i).x.has k = q.x.has k ∧ (q.x.has k = true → (q.step i).x.get k = q.x.get k) := fun k h1 h2 => by
    obtain ⟨c1, c2⟩ := a1 k h1
    obtain ⟨d1, d2⟩ := a2 k h2
    exact ⟨d1.trans c1, fun h => (d2 (c1.trans h)).trans (c2 h)⟩
  have a4 : (q.step i).x.has (manK (i : Int)) = true ∧ (q.step i).x.get (manK (i : Int)) = ⟨manK (i : Int), (q.x1 i).next, (q.rc i).text⟩ := set_at _ _ _
  have a5 : (q.step i).x.has (q.key i) = true ∧ ((q.step i).x.get (q.key i)).data = smpsText q.L.1 := by
    obtain ⟨d1, d2⟩ := a2 (q.key i) (fun e => hne i e.symm)
    have c := set_at q.x (q.key i) (smpsText q.L.1)
    have c1 : (q.x1 i).has (q.key i) = true := c.1
    have c2 : (q.x1 i).get (q.key i) = ⟨q.key i, q.x.next, smpsText q.L.1⟩ := c.2
    exact ⟨d1.trans c1, by rw [d2 c1, c2]⟩
  have a6 : ∀ n : Nat, 1 ≤ n → n ≤ 999999 → (q.step i).x.has (manK (n : Int)) = decide (n < i + 1) := fun n h1 h2 => by
    by_cases e : n = i
    · subst e
      rw [a4.1, decide_eq_true (by omega)]
    · rw [(a3 _ (hne n) fun e' => e (manK_inj h2 (by omega) e')).1, f1 n h1 h2]
      by_cases h3 : n < i
      · rw [decide_eq_true h3, decide_eq_true (by omega)]
      · rw [decide_eq_false h3, decide_eq_false (by omega)]
  have hi1 : i - 1 + 1 = i := by omega
  obtain ⟨g1, g2⟩ := log_grow (x := q.x) (y := (q.step i).x) hok2 (n := i - 1) (by omega) (fun j hj => by rw [f1 _ (by omega) (by omega)]; exact decide_eq_true (by omega)) f2
    (fun j hj => by
      have hh : q.x.has (manK ((j + 1 : Nat) : Int)) = true := by rw [f1 _ (by omega) (by omega)]; exact decide_eq_true (by omega)
      obtain ⟨c1, c2⟩ := a3 (manK ((j + 1 : Nat) : Int)) (hne _) (fun e' => by have := manK_inj (by omega) (by omega) e'; omega)
      exact ⟨c1.trans hh, by rw [c2 hh]⟩)
    (by rw [hi1]; exact a4.1) (by rw [a6 _ (by omega) (by omega)]; exact decide_eq_false (by omega))
  rw [hi1, a4.2] at g2
  have hE : ∀ e ∈ E, ∃ (m w' : Nat), m < i ∧ 1 ≤ m ∧ w' ≤ 1 ∧ e.key = keyB 0 m w' := fun e he => by
    obtain ⟨j, hj, e1⟩ := List.getElem_of_mem he
    obtain ⟨w', h1, h2⟩ := f5.key j hj
    rw [ix_lt hj, e1] at h2
    exact ⟨j + 1, w', by omega, by omega, h1, h2⟩
  have hEk : ∀ e ∈ E, e.key ≠ q.key i := fun e he h' => by
    obtain ⟨m, w', h1, h2, h3, h4⟩ := hE e he
    rw [h4, hkey] at h'
    have k1 := (keyF_fields (t := 0) (n := m) (w := w') (by omega) (by omega) (by omega)).2.2.1
    have k2 := (keyF_fields (t := 0) (n := i) (w := w) (by omega) (by omega) (by omega)).2.2.1
    rw [h', k2] at k1
    omega
  have hlay : logS (q.step i).x = ⟨((i : Nat) : Int), 0, E ++ [⟨0, q.at_, q.to, q.key i⟩], [], 0, 0, 0, q.to, 0, 0⟩ := by
    rw [g2, f3]
    unfold Sta.lay
    simp only
    rw [text_back b.rc]
    have hk2 := (keyF_fields (t := 0) (n := i) (w := w) (by omega) (by omega) (by omega)).2.2.1
    have htk : (⟨((i - 1 : Nat) : Int), 0, E, [], 0, 0, 0, q.at_, 0, 0⟩ : Sta).takes (q.rc i) = true := by
      unfold Sta.takes FS.rc
      simp only [if_true, hkey, hk2]
      have hn : (⟨((i - 1 : Nat) : Int), 0, E, [], 0, 0, 0, q.at_, 0, 0⟩ : Sta).has (keyB 0 i w) = false := by
        cases hh : (⟨((i - 1 : Nat) : Int), 0, E, [], 0, 0, 0, q.at_, 0, 0⟩ : Sta).has (keyB 0 i w) with
        | false => rfl
        | true =>
          have := (has_iff _ _).1 hh
          simp [Sta.keys] at this
          obtain ⟨e, he, h'⟩ := this
          exact absurd (h'.trans hkey.symm) (hEk e he)
      rw [hn, decide_eq_true (by omega : ((i : Nat) : Int) = ((i - 1 : Nat) : Int) + 1)]
      simp
    show (Sta.app _ (q.rc i)) = _
    unfold Sta.app
    rw [if_pos htk]
    unfold FS.rc
    simp [Sta.lift, Sta.tick, Rc.en]
    omega
  refine ⟨a6, by rw [g1]; omega, E ++ [⟨0, q.at_, q.to, q.key i⟩], by rw [hlay]; rfl, by rw [List.length_append, f4]; simp; omega, ?_⟩
  have hto := b.tb
  refine ⟨fun e he => ?_, fun j hj => ?_, fun e r he => ?_, ?_, fun e he => ?_⟩
  · rcases List.mem_append.1 he with he | he
    · have := f5.tm e he
      exact ⟨this.1, this.2.1, this.2.2.1, by show e.t ≤ q.to; omega, this.2.2.2.2⟩
    · simp at he
      subst he
      exact ⟨rfl, hat.1, hto.1, Int.le_refl _, hto.2⟩
  · rw [List.length_append] at hj
    rcases Nat.lt_or_ge j E.length with h1 | h1
    · rw [ix_app_l h1]; exact f5.key j h1
    · have : j = E.length := by simp at hj; omega
      subst this
      rw [ix_app_r (Nat.le_refl _), Nat.sub_self]
      exact ⟨w, hw1, by show q.key i = _; rw [hkey, f4, hi1]⟩
  · cases E with
    | nil =>
      simp at he
      rw [← he.1]
      have := f5.last
      exact this
    | cons a l =>
      simp at he
      rw [← he.1]
      exact f5.hd a l rfl
  · simp
    rfl
  · rcases List.mem_append.1 he with he | he
    · obtain ⟨L, l1, l2, l3, l4, l5⟩ := f5.data e he
      obtain ⟨m, w', h1, h2, h3, h4⟩ := hE e he
      obtain ⟨c1, c2⟩ := a3 e.key (hEk e he) (fun e' => by rw [h4] at e'; exact man_ne_key _ e'.symm)
      exact ⟨L, l1, l2, l3, c1.trans l4, by rw [c2 l4]; exact l5⟩
    · simp at he
      subst he
      refine ⟨q.L.1, b.m.ok, b.m.len, fun s hs => ?_, a5.1, a5.2⟩
      have := b.m.tm s hs
      refine ⟨this.1, ?_⟩
      obtain ⟨j, hj, e1⟩ := List.getElem_of_mem hs
      have e2 := smpsF_srt b.m.ok j (q.L.1.length - 1) (by omega) (by omega)
      rw [ix_lt hj, e1] at e2
      show s.t < q.to
      unfold FS.to
      rw [if_neg (by omega)]
      omega
theorem fill_log {i : Nat} {q : FS} (h : FI i q) (hf : FL i q) (hi : 1 ≤ i ∧ i ≤ 6) : ∃ j, i ≤ j ∧ j ≤ 6 ∧ ∃ q', FI j q' ∧ FL j q' ∧ q'.draw.s.ok (100003 + 200 * j) ∧ fiIt (7 - i) i q = q'.draw := by
  have hd := h.draw hi
  rw [fiIt_eq hi.2]
  split
  · rename_i g
    have hi5 : i ≤ 5 := by have := hd.1.2; omega
    obtain ⟨j, j1, j2, r⟩ := fill_log (h.step hd.2 hi) (FL.step h hf hd.2 hi) ⟨by omega, by omega⟩
    exact ⟨j, by omega, j2, r⟩
  · exact ⟨i, Nat.le_refl _, hi.2, q, h, hf, hd.2, rfl⟩
termination_by 7 - i
structure FF (s : Src) (m : Nat) (E : List En) : Prop where
  rng : 1 ≤ m ∧ m ≤ 5
  ok : s.filled.x.ok = true
  len : s.filled.x.os.length ≤ 10
  nxt : s.filled.x.next ≤ 11
  src : s.filled.s.ok 101300
  at_ : 0 < s.filled.at_ ∧ s.filled.at_ ≤ 500
  has : ∀ n : Nat, 1 ≤ n → n ≤ 999999 → s.filled.x.has (manK (n : Int)) = decide (n ≤ m)
  fin : logEnd s.filled.x = m
  log : logS s.filled.x = ⟨(m : Int), 0, E, [], 0, 0, 0, s.filled.at_, 0, 0⟩
  el : E.length = m
  es : FE s.filled.x E s.filled.at_
theorem filled_facts {s : Src} (h : s.ok 100000) : ∃ m E, FF s m E := by
  have h0 := FI.zero h
  have hd := h0.draw (by decide)
  have e0 : s.filled = fiIt (7 - 1) 1 ⟨stoN0, 0, s⟩ := rfl
  rw [fiIt_eq (by decide), if_pos (by have := hd.1.1; omega)] at e0
  obtain ⟨j, j1, j2, q, hq, hl, hs, e⟩ := fill_log (h0.step hd.2 (by decide)) (FL.step h0 FL.zero hd.2 (by decide)) ⟨by decide, by decide⟩
  have e : s.filled = q.draw := e0.trans e
  obtain ⟨f1, f2, E, f3, f4, f5⟩ := hl
  have l1 := hq.len
  have l2 := hq.nxt
  have l3 := hq.at_
  have hat : 0 < q.at_ := by
    have := f5.last
    cases hE : E.getLast? with
    | none =>
      rw [List.getLast?_eq_none_iff] at hE
      rw [hE] at f4
      simp at f4
      omega
    | some a =>
      rw [hE] at this
      have h1 := f5.tm a (List.mem_of_getLast? hE)
      simp only at this
      omega
  have hj : (j - 1 : Nat) + 1 = j := by omega
  refine ⟨j - 1, E, ?_⟩
  constructor
  · omega
  all_goals try rw [e]
  · exact hq.ok
  · show q.x.os.length ≤ _; omega
  · show q.x.next ≤ _; omega
  · exact wk hs (by omega)
  · exact ⟨hat, by show q.at_ ≤ _; omega⟩
  · intro n h1 h2
    show q.x.has _ = _
    rw [f1 n h1 h2]
    by_cases h3 : n < j
    · rw [decide_eq_true h3, decide_eq_true (by omega)]
    · rw [decide_eq_false h3, decide_eq_false (by omega)]
  · exact f2
  · exact f3
  · exact f4
  · exact f5
end Go.Proofs.YtfaffgneccjpbaaGreatDoor
set_option linter.unusedVariables false
set_option linter.constructorNameAsVariable false
set_option linter.unusedSimpArgs false
set_option maxRecDepth 20000
namespace Go.Proofs.YtfaffgneccjpbaaGreatDoor
open Go Go.Vw

end Go.Proofs.YtfaffgneccjpbaaGreatDoor
set_option linter.unusedVariables false
set_option linter.constructorNameAsVariable false
set_option linter.unusedSimpArgs false
set_option maxRecDepth 20000
namespace Go.Proofs.YtfaffgneccjpbaaGreatDoor
open Go Go.Vw

end Go.Proofs.YtfaffgneccjpbaaGreatDoor
set_option linter.unusedVariables false
set_option linter.constructorNameAsVariable false
set_option linter.unusedSimpArgs false
set_option maxRecDepth 20000
namespace Go.Proofs.YtfaffgneccjpbaaGreatDoor
open Go Go.Vw

def Ag.cl (a : Ag) : List AV := [.int .i64 a.c, .int .i64 a.s, .int .i64 a.mn, .int .i64 a.mx, .int .i64 a.f, .int .i64 a.l]
instance : Inhabited Ag := ⟨⟨0, 0, 0, 0, 0, 0⟩⟩
structure Wk where
  id : Int
  ph : Int
  tok : Int
  job : Rc
  ins : List En
  got : Ag
instance : Inhabited Wk := ⟨⟨0, 0, 0, default, [], default⟩⟩
def Wk.row (e : Wk) : List AV := [.int .i64 e.id, .int .i64 e.ph, .int .i64 e.tok, .int .i64 e.job.k, .int .i64 e.job.tok, .int .i64 e.job.tier, .int .i64 e.job.f, .int .i64 e.job.t, .str (B e.job.key), ents e.ins, .int .i64 e.got.c, .int .i64 e.got.s, .int .i64 e.got.mn, .int .i64 e.got.mx, .int .i64 e.got.f, .int .i64 e.got.l]
def Wk.av (e : Wk) : AV := .agg e.row
abbrev wks (L : List Wk) : AV := .sl 16 L.length fun i => (ix L i).row
def Wk.size (e : Wk) : Nat := e.job.key.length + (e.ins.length + sumL En.size e.ins)
structure Wk.rd (e : Wk) : Prop where
  key : e.job.key.length ≤ 9223372036854775807
  ins : e.ins.length ≤ 9223372036854775807
  es : ∀ x ∈ e.ins, En.size x ≤ 9223372036854775807
def Wk.small (e : Wk) : Prop := e.ins.length ≤ 1048576
structure Ig where
  id : Int
  seq : Int
  f : Int
  t : Int
  b : List Smp
  put : Bool
instance : Inhabited Ig := ⟨⟨0, 0, 0, 0, [], false⟩⟩
def Ig.row (e : Ig) : List AV := [.int .i64 e.id, .int .i64 e.seq, .int .i64 e.f, .int .i64 e.t, smps e.b, .bool e.put]
def Ig.av (e : Ig) : AV := .agg e.row
abbrev igs (L : List Ig) : AV := .sl 6 L.length fun i => (ix L i).row
def Ig.size (e : Ig) : Nat := e.b.length
def Ig.rd (e : Ig) : Prop := e.b.length ≤ 9223372036854775807
def Ig.small (e : Ig) : Prop := e.b.length ≤ 1048576
structure Rr where
  id : Int
  ph : Int
  tier : Int
  f : Int
  t : Int
  til : Int
  code : Int
  left : List En
  got : Ag
instance : Inhabited Rr := ⟨⟨0, 0, 0, 0, 0, 0, 0, [], default⟩⟩
def Rr.row (e : Rr) : List AV := [.int .i64 e.id, .int .i64 e.ph, .int .i64 e.tier, .int .i64 e.f, .int .i64 e.t, .int .i64 e.til, .int .i64 e.code, ents e.left, .int .i64 e.got.c, .int .i64 e.got.s, .int .i64 e.got.mn, .int .i64 e.got.mx, .int .i64 e.got.f, .int .i64 e.got.l]
def Rr.av (e : Rr) : AV := .agg e.row
abbrev rrs (L : List Rr) : AV := .sl 14 L.length fun i => (ix L i).row
def Rr.size (e : Rr) : Nat := e.left.length + sumL En.size e.left
structure Rr.rd (e : Rr) : Prop where
  left : e.left.length ≤ 9223372036854775807
  es : ∀ x ∈ e.left, En.size x ≤ 9223372036854775807
def Rr.small (e : Rr) : Prop := e.left.length ≤ 1048576
structure An where
  tier : Int
  f : Int
  t : Int
  code : Int
  a : Ag
instance : Inhabited An := ⟨⟨0, 0, 0, 0, default⟩⟩
def An.row (e : An) : List AV := [.int .i64 e.tier, .int .i64 e.f, .int .i64 e.t, .int .i64 e.code, .int .i64 e.a.c, .int .i64 e.a.s, .int .i64 e.a.mn, .int .i64 e.a.mx, .int .i64 e.a.f, .int .i64 e.a.l]
def An.av (e : An) : AV := .agg e.row
abbrev ans (L : List An) : AV := .sl 10 L.length fun i => (ix L i).row
def An.small (e : An) : Prop := True
end Go.Proofs.YtfaffgneccjpbaaGreatDoor
set_option linter.unusedVariables false
set_option linter.constructorNameAsVariable false
set_option linter.unusedSimpArgs false
set_option maxRecDepth 20000
namespace Go.Proofs.YtfaffgneccjpbaaGreatDoor
open Go Go.Vw

structure Fl where
  st : Sto
  clk : Int
  k0 : Int
  k1 : Int
  k2 : Int
  k3 : Int
  k4 : Int
  k5 : Int
  k6 : Int
  ws : List Wk
  gs : List Ig
  rs : List Rr
  ac : List Smp
  an : List An
def Fl.row (s : Fl) : List AV := [obs s.st.os, .int .i64 s.st.next, .int .i64 s.clk, .int .i64 s.k0, .int .i64 s.k1, .int .i64 s.k2, .int .i64 s.k3, .int .i64 s.k4, .int .i64 s.k5, .int .i64 s.k6, wks s.ws, igs s.gs, rrs s.rs, smps s.ac, ans s.an]
def Fl.av (s : Fl) : AV := .agg s.row
def Fl.sk (s : Fl) : List AV := [.int .i64 s.k0, .int .i64 s.k1, .int .i64 s.k2, .int .i64 s.k3, .int .i64 s.k4, .int .i64 s.k5, .int .i64 s.k6]
structure FlIn (s : Fl) : Prop where
  st : StoIn s.st
  ws : s.ws.length ≤ 9223372036854775807
  wr : ∀ e ∈ s.ws, Wk.rd e
  gs : s.gs.length ≤ 9223372036854775807
  gr : ∀ e ∈ s.gs, Ig.rd e
  rs : s.rs.length ≤ 9223372036854775807
  rr : ∀ e ∈ s.rs, Rr.rd e
  ac : s.ac.length ≤ 9223372036854775807
  an : s.an.length ≤ 9223372036854775807
  ck : IntKind.i64.min ≤ s.clk ∧ s.clk ≤ IntKind.i64.max
  k0 : IntKind.i64.min ≤ s.k0 ∧ s.k0 ≤ IntKind.i64.max
  k1 : IntKind.i64.min ≤ s.k1 ∧ s.k1 ≤ IntKind.i64.max
  k2 : IntKind.i64.min ≤ s.k2 ∧ s.k2 ≤ IntKind.i64.max
  k3 : IntKind.i64.min ≤ s.k3 ∧ s.k3 ≤ IntKind.i64.max
  k4 : IntKind.i64.min ≤ s.k4 ∧ s.k4 ≤ IntKind.i64.max
  k5 : IntKind.i64.min ≤ s.k5 ∧ s.k5 ≤ IntKind.i64.max
  k6 : IntKind.i64.min ≤ s.k6 ∧ s.k6 ≤ IntKind.i64.max
def flN (s : Fl) : Nat := stoN s.st + ((s.ws.length + sumL Wk.size s.ws) + ((s.gs.length + sumL Ig.size s.gs) + ((s.rs.length + sumL Rr.size s.rs) + (s.ac.length + s.an.length))))
structure Fl.small (s : Fl) : Prop where
  st : s.st.os.length ≤ 1048576
  sk : ∀ e ∈ s.st.os, e.key.length ≤ 1048576
  ws : s.ws.length ≤ 1048576
  wr : ∀ e ∈ s.ws, Wk.small e
  wk : ∀ e ∈ s.ws, e.job.key.length ≤ 1048576 ∧ ∀ x ∈ e.ins, x.key.length ≤ 1048576
  gs : s.gs.length ≤ 1048576
  gr : ∀ e ∈ s.gs, Ig.small e
  rs : s.rs.length ≤ 1048576
  rr : ∀ e ∈ s.rs, Rr.small e
  rk : ∀ e ∈ s.rs, ∀ x ∈ e.left, x.key.length ≤ 1048576
  ac : s.ac.length ≤ 1048576
  an : s.an.length ≤ 1048576
end Go.Proofs.YtfaffgneccjpbaaGreatDoor
set_option linter.unusedVariables false
set_option linter.constructorNameAsVariable false
set_option linter.unusedSimpArgs false
set_option maxRecDepth 20000
namespace Go.Proofs.YtfaffgneccjpbaaGreatDoor
open Go Go.Vw

abbrev nums (L : List Int) : AV := .sl 1 L.length fun i => [.int .i64 (ix L i)]
theorem isId0 (n : Int) : VFn Tryz.prog 41 [.int .i64 n] (.bool (within n 0 9)) := by
  refine VFn.introC Tryz.call41 Tryz.func41 rfl rfl ?_
  conv => whnf
  refine CallC.sca _ (within_fn _ _ _) ?_ ?_
  · exact rfl
  exact And.intro trivial (AVle.refl _)
def gotOK (a : Ag) : Bool := a.ok && decide (a.c ≤ 1000)
def An.ok (a : An) : Bool := within a.tier 0 2 && (isRange a.f a.t && (within a.code 0 19 && a.a.ok))
def Wk.ok (w : Wk) : Bool := within w.id 0 9 && (within w.ph 0 7 && (within w.tok 0 999999 && (!(decide (2 ≤ w.ph) && decide (w.tok = 0)) && ((!within w.ph 4 6 || (w.job.ok && (decide (w.job.tok = w.tok) && (decide (w.job.k = 3) || (decide (w.ph = 6) && decide (w.job.k = 4)))))) && (decide ((w.ins.length : Int) ≤ 300) && (w.ins.all En.ok && gotOK w.got))))))
end Go.Proofs.YtfaffgneccjpbaaGreatDoor
set_option linter.unusedVariables false
set_option linter.constructorNameAsVariable false
set_option linter.unusedSimpArgs false
set_option maxRecDepth 20000
namespace Go.Proofs.YtfaffgneccjpbaaGreatDoor
open Go Go.Vw

def Wk.ok2 (w : Wk) : Bool := w.ins.all En.ok && (within w.id 0 9 && (within w.ph 0 7 && (within w.tok (if decide (1 < w.ph) = true then 1 else 0) 999999 && ((!within w.ph 4 6 || (w.job.ok && (decide (w.job.tok = w.tok) && (decide (w.job.k = 3) || (decide (w.ph = 6) && decide (w.job.k = 4)))))) && (w.got.ok && (decide (w.got.c ≤ 1000) && decide ((w.ins.length : Int) ≤ 300)))))))
def igOK (id seq f t : Int) (b : List Smp) (put : Bool) : Bool := within id 0 9 && (smpsOK b && (!decide (8 < (b.length : Int)) && (if put = true then decide (0 < (b.length : Int)) && (within seq 1 999999 && (within f 0 (ix b (Int.toNat 0)).t && decide (t = (ix b ((b.length : Int) - 1).toNat).t + 1))) else decide (seq = 0) && (decide (f = 0) && decide (t = 0)))))
def Ig.ok (e : Ig) : Bool := igOK e.id e.seq e.f e.t e.b e.put
theorem smps_b {L : List Smp} (h : smpsOK L = true) {i : Nat} (hi : i < L.length) : 0 ≤ (ix L i).t ∧ (ix L i).t ≤ 99999 := by
  unfold smpsOK at h
  simp only [Bool.and_eq_true] at h
  have := Go.Vw.allN_iff.1 h.2 i hi
  simp [smpAt, within] at this
  omega
theorem IngesterOK_fn0 (id seq f t : Int) (b : List Smp) (put : Bool) (h : b.length ≤ 1048576) : VFn Tryz.prog 27 [.agg [.int .i64 id, .int .i64 seq, .int .i64 f, .int .i64 t, smps b, .bool put]] (.bool (igOK id seq f t b put)) := by
  cases hs : smpsOK b
  · have cs := SamplesOK_fn b
    rw [hs] at cs
    have ho : igOK id seq f t b put = false := by unfold igOK; rw [hs]; simp
    rw [ho]
    refine VFn.introC Tryz.call27 Tryz.func27 rfl rfl ?_
    conv => whnf
    refine CallC.sca _ (isId0 id) ?_ ?_
    · exact rfl
    refine Grd.intro (fun h => ?_) (fun h => ?_)
    · exact And.intro trivial (AVle.refl _)
    · conv => whnf
      refine CallC.sca _ (cs) ?_ ?_
      · exact rfl
      exact And.intro trivial (AVle.refl _)
  · have cs := SamplesOK_fn b
    rw [hs] at cs
    cases put
    · refine VFn.introC Tryz.call27 Tryz.func27 rfl rfl ?_
      repeat' (conv => whnf
               first
                 | (refine Grd.intro (fun h => ?_) (fun h => ?_); rotate_left; focus (exfalso; simp_all; done))
                 | (refine Grd.intro (fun h => ?_) (fun h => ?_); focus (exfalso; simp_all; done))
                 | refine Grd.intro (fun h => ?_) (fun h => ?_)
                 | (refine CallC.sca _ (isId0 id) ?_ ?_; focus (exact rfl))
                 | (refine CallC.sca _ (cs) ?_ ?_; focus (exact rfl))
                 | (refine And.intro trivial (AVle.of_eq (congrArg AV.bool ?_)); focus (simp_all [igOK]; done))
                 | (refine And.intro trivial (AVle.of_eq (congrArg AV.bool ?_)); focus (simp only [igOK, *, cond_true, cond_false, Bool.true_and, Bool.and_true, Bool.false_and, Bool.and_false, Bool.not_true, Bool.not_false, Bool.true_or, Bool.or_true, Bool.false_or, Bool.or_false, if_true, ite_true, reduceIte]; done))
                 | (refine And.intro trivial (AVle.of_eq (congrArg AV.bool ?_)); focus (simp_all [igOK]; intros; omega))
                 | fail)
    by_cases hl : b.length = 0
    · refine VFn.introC Tryz.call27 Tryz.func27 rfl rfl ?_
      conv => whnf
      refine CallC.sca _ (isId0 id) ?_ ?_
      · exact rfl
      refine Grd.intro (fun h1 => ?_) (fun h1 => ?_)
      · rw [show igOK id seq f t b true = false by unfold igOK; simp_all]
        exact And.intro trivial (AVle.refl _)
      conv => whnf
      refine CallC.sca _ (cs) ?_ ?_
      · exact rfl
      refine Grd.intro (fun h2 => ?_) (fun h2 => ?_)
      · rw [show igOK id seq f t b true = false by unfold igOK; simp_all]
        exact And.intro trivial (AVle.refl _)
      refine DrawC.mkQ 32 [] rfl (by kernel_rfl) ?_; refine And.intro (by kernel_rfl) ?_
      repeat' (conv => whnf
               first
                 | (refine Grd.intro (fun h => ?_) (fun h => ?_); rotate_left; focus (exfalso; simp_all; done))
                 | (refine Grd.intro (fun h => ?_) (fun h => ?_); focus (exfalso; simp_all; done))
                 | refine Grd.intro (fun h => ?_) (fun h => ?_)
                 | (refine And.intro trivial (AVle.of_eq (congrArg AV.bool ?_)); focus (simp_all [igOK]; done))
                 | (refine And.intro trivial (AVle.of_eq (congrArg AV.bool ?_)); focus (simp only [igOK, *, cond_true, cond_false, Bool.true_and, Bool.and_true, Bool.false_and, Bool.and_false, Bool.not_true, Bool.not_false, Bool.true_or, Bool.or_true, Bool.false_or, Bool.or_false, if_true, ite_true, reduceIte]; done))
                 | (refine And.intro trivial (AVle.of_eq (congrArg AV.bool ?_)); focus (simp_all [igOK]; intros; omega))
                 | fail)
    · have b0 := smps_b hs (i := 0) (by omega)
      have bl := smps_b hs (i := ((b.length : Int) - 1).toNat) (by omega)
      refine VFn.introC Tryz.call27 Tryz.func27 rfl rfl ?_
      conv => whnf
      refine CallC.sca _ (isId0 id) ?_ ?_
      · exact rfl
      refine Grd.intro (fun h1 => ?_) (fun h1 => ?_)
      · rw [show igOK id seq f t b true = false by unfold igOK; simp_all]
        exact And.intro trivial (AVle.refl _)
      conv => whnf
      refine CallC.sca _ (cs) ?_ ?_
      · exact rfl
      clear cs
      refine Grd.intro (fun h2 => ?_) (fun h2 => ?_)
      · rw [show igOK id seq f t b true = false by unfold igOK; simp_all]
        exact And.intro trivial (AVle.refl _)
      refine DrawC.mkQ 32 [] rfl (by kernel_rfl) ?_; refine And.intro (by kernel_rfl) ?_
      repeat' (conv => whnf
               first
                 | (refine Grd.intro (fun h => ?_) (fun h => ?_); rotate_left; focus (exfalso; simp_all; done))
                 | (refine Grd.intro (fun h => ?_) (fun h => ?_); focus (exfalso; simp_all; done))
                 | refine Grd.intro (fun h => ?_) (fun h => ?_)
                 | (refine CallC.sca _ (within_fn seq 1 999999) ?_ ?_; focus (exact rfl))
                 | (refine CallC.sca _ (within_fn f 0 _) ?_ ?_; focus (exact rfl))
                 | refine PCallQ.sca _ (within_fn seq 1 999999) rfl ?_
                 | refine PCallQ.sca _ (within_fn f 0 _) rfl ?_
                 | (refine And.intro trivial (AVle.of_eq (congrArg AV.bool ?_)); focus (simp_all [igOK]; done))
                 | (refine And.intro trivial (AVle.of_eq (congrArg AV.bool ?_)); focus (simp only [igOK, *, cond_true, cond_false, Bool.true_and, Bool.and_true, Bool.false_and, Bool.and_false, Bool.not_true, Bool.not_false, Bool.true_or, Bool.or_true, Bool.false_or, Bool.or_false, if_true, ite_true, reduceIte]; done))
                 | (refine And.intro trivial (AVle.of_eq (congrArg AV.bool ?_)); focus (simp_all [igOK]; intros; omega))
                 | (refine And.intro ?_ ?_; focus (apply inI64 <;> omega))
                 | (refine And.intro ?_ ?_; focus (constructor <;> omega))
                 | fail)
theorem IngesterOK_fn (e : Ig) (h : e.b.length ≤ 1048576) : VFn Tryz.prog 27 [e.av] (.bool e.ok) := IngesterOK_fn0 e.id e.seq e.f e.t e.b e.put h
end Go.Proofs.YtfaffgneccjpbaaGreatDoor
set_option linter.unusedVariables false
set_option linter.constructorNameAsVariable false
set_option linter.unusedSimpArgs false
set_option maxRecDepth 20000
namespace Go.Proofs.YtfaffgneccjpbaaGreatDoor
open Go Go.Vw

def Sta.own (s : Sta) : AV := .agg [.int .i64 s.seq, .int .i64 s.fence, .osl 0, .osl 1, .int .i64 s.l0, .int .i64 s.l1, .int .i64 s.l2, .int .i64 s.h0, .int .i64 s.h1, .int .i64 s.h2]
end Go.Proofs.YtfaffgneccjpbaaGreatDoor
