/- Contracts of functions that the claim reaches, and the plain law of what they compute; each theorem bears its own conditions. -/
import Derived.Test.YtfaffgneccjpbaaGreatDoorQ8
import Derived.Test.YtfaffgneccjpbaaGreatDoorQ3
import Derived.Test.YtfaffgneccjpbaaGreatDoorQ5
import Derived.Test.YtfaffgneccjpbaaGreatDoorQ7
import Derived.Test.YtfaffgneccjpbaaGreatDoorQ6
import Derived.Test.YtfaffgneccjpbaaGreatDoorQ4
set_option linter.unusedVariables false
set_option linter.constructorNameAsVariable false
set_option linter.unusedSimpArgs false
set_option maxRecDepth 20000
namespace Go.Proofs.YtfaffgneccjpbaaGreatDoor
open Go Go.Vw

def SSf (x : SS) (f : Int) (n : Nat) : Prop := (f ≤ x.2.1 ∧ x.2.1 ≤ f + 4 * n) ∧ (∀ e ∈ x.1, f ≤ e.t ∧ e.t < x.2.1) ∧ x.1.Pairwise (fun a b => a.t < b.t)
theorem stepf_t {x : SS} {f : Int} {n : Nat} {k : Int} (h : SSf x f n) (hs : x.2.2.ok k) (hk : 0 ≤ k) : SSf (smpStep x) f (n + 1) := by
  obtain ⟨⟨h1, h2⟩, h3, h4⟩ := h
  have n1 := next_b x.2.2 hs hk 4
  have a1 := n1.1.2 (by omega)
  have a0 := n1.1.1
  unfold smpStep
  refine ⟨⟨by simp only; omega, by simp only; omega⟩, fun e he => ?_, ?_⟩
  · simp only [List.mem_append, List.mem_cons, List.not_mem_nil, or_false] at he
    rcases he with he | he
    · have := h3 e he
      simp only; omega
    · subst he
      simp only; omega
  · refine List.pairwise_append.2 ⟨h4, List.pairwise_singleton _ _, fun a ha b hb => ?_⟩
    simp only [List.mem_cons, List.not_mem_nil, or_false] at hb
    subst hb
    have := h3 a ha
    simp only; omega
theorem itf_t {x : SS} {f : Int} {k : Int} (h : SSok x 0 k) (ht : SSf x f 0) (hk : 0 ≤ k) : ∀ n, SSf (smpIt n x) f n
  | 0 => by simpa [smpIt] using ht
  | n + 1 => stepf_t (itf_t h ht hk n) (it_ok h hk n).2.2.1 (by omega)
theorem pairf_smps {L : List Smp} (h : L.Pairwise (fun a b => a.t < b.t)) (ht : ∀ e ∈ L, 0 ≤ e.t ∧ e.t ≤ 99999) (hv : ∀ e ∈ L, -1000000 ≤ e.v ∧ e.v ≤ 1000000) (hl : L.length ≤ 4096) : smpsOK L = true := by
  unfold smpsOK
  rw [decide_eq_true hl, Bool.true_and, allN_iff]
  intro i hi
  have a := ht _ (getD_mem hi)
  have b := hv _ (getD_mem hi)
  unfold smpAt
  simp only [Bool.and_eq_true, Bool.or_eq_true, decide_eq_true_eq, within]
  refine ⟨⟨⟨a.1, a.2⟩, ⟨b.1, b.2⟩⟩, ?_⟩
  rcases Nat.eq_zero_or_pos i with h0 | h0
  · exact .inl h0
  · right
    have := (List.pairwise_iff_getElem.1 h) (i - 1) i (by omega) hi (by omega)
    rw [ix_lt hi, ix_lt (by omega : i - 1 < L.length)]
    exact this
structure SmpF (S : SS) (f : Int) (n : Nat) : Prop where
  ok : smpsOK S.1 = true
  len : S.1.length ≤ n
  tm : ∀ e ∈ S.1, f ≤ e.t ∧ e.t < f + 4 * n
theorem samples_b (s : Src) (f : Int) (n : Nat) {k : Int} (h : s.ok k) (hf : -10 ≤ f ∧ f ≤ 90000) (hk : 90000 ≤ k ∧ k ≤ 900000) (hn : n ≤ 10) (h0 : 0 ≤ f) : SmpF (s.samples f n) f n ∧ (s.samples f n).2.2.ok (k + 3 + 12 * n) := by
  have n0 := next_b s h (by omega) (n + 1)
  have hm := n0.1.2 (by omega)
  have hm0 := n0.1.1
  have s0 : SSok ([], f, (s.next (n + 1)).2) 0 (k + 3) := ⟨rfl, by simp, n0.2.1, by simp only; omega⟩
  have t0 : SSf ([], f, (s.next (n + 1)).2) f 0 := ⟨⟨Int.le_refl _, by simp⟩, by simp, List.Pairwise.nil⟩
  have a := it_ok s0 (by omega) (s.next (n + 1)).1.toNat
  have b := itf_t s0 t0 (by omega) (s.next (n + 1)).1.toNat
  unfold Src.samples
  obtain ⟨a1, a2, a3, _⟩ := a
  obtain ⟨⟨b1, b2⟩, b3, b4⟩ := b
  refine ⟨⟨pairf_smps b4 (fun e he => ?_) a2 (by omega), by omega, fun e he => ?_⟩, wk a3 (by omega)⟩
  · have := b3 e he
    omega
  · have := b3 e he
    omega
theorem keyF_ok {t n w : Nat} (ht : t ≤ 2) : keyOK (keyB t n w) = true := by
  have hs : (keyB t n w).length ≤ 17 ∧ 13 ≤ (keyB t n w).length := by
    unfold keyB pre
    split <;> simp [six6]
  unfold keyOK
  have e : (keyB t n w).all keyC = true := by
    have hd : ∀ m, (six6 m).all keyC = true := fun m => List.all_eq_true.2 fun x hx => by
      have := List.all_eq_true.1 (six6_dig m) x hx
      have := of_decide_eq_true this
      unfold keyC
      simp only [Bool.or_eq_true, Bool.and_eq_true, decide_eq_true_eq]
      left; left; right
      omega
    unfold keyB
    rw [List.all_append, List.all_append, List.all_cons, hd, hd]
    have h : t = 0 ∨ t = 1 ∨ t = 2 := by omega
    rcases h with rfl | rfl | rfl <;> decide
  rw [e]
  simp [within]; omega
structure FS where
  x : Sto
  at_ : Int
  s : Src
def FS.L (q : FS) : SS := q.s.samples q.at_ 6
def FS.D (q : FS) : Int × Src := q.L.2.2.next 6
def FS.to (q : FS) : Int := if q.L.1.length = 0 then q.at_ + 1 + q.D.1 else (ix q.L.1 (q.L.1.length - 1)).t + 1
def FS.W (q : FS) : Int × Src := q.D.2.next 2
def FS.key (q : FS) (i : Nat) : List UInt8 := keyB 0 i q.W.1.toNat
def FS.rc (q : FS) (i : Nat) : Rc := ⟨1, 0, 0, q.at_, q.to, q.key i⟩
def FS.x1 (q : FS) (i : Nat) : Sto := q.x.set (q.key i) (smpsText q.L.1)
def FS.step (q : FS) (i : Nat) : FS := ⟨(q.x1 i).set (manK i) (q.rc i).text, q.to, q.W.2⟩
def FS.draw (q : FS) : FS := ⟨q.x, q.at_, (q.s.next 5).2⟩
def fiIt : Nat → Nat → FS → FS
  | 0, _, q => q
  | f + 1, i, q => if (i : Int) ≤ 1 + (q.s.next 5).1 then fiIt f (i + 1) (q.draw.step i) else q.draw
def Src.filled (s : Src) : FS := fiIt 6 1 ⟨stoN0, 0, s⟩
structure FI (i : Nat) (q : FS) : Prop where
  ok : q.x.ok = true
  len : q.x.os.length ≤ 2 * (i - 1)
  nxt : q.x.next ≤ 1 + 2 * ((i : Int) - 1)
  at_ : 0 ≤ q.at_ ∧ q.at_ ≤ 100 * ((i : Int) - 1)
  s : q.s.ok (100000 + 200 * i)
theorem FI.zero {s : Src} (h : s.ok 100000) : FI 1 ⟨stoN0, 0, s⟩ := ⟨(by decide : stoN0.ok = true), (by decide : stoN0.os.length ≤ 0), (by decide : stoN0.next ≤ 1), by simp only; omega, wk h (by omega)⟩
structure FB (i : Nat) (q : FS) : Prop where
  m : SmpF q.L q.at_ 6
  s1 : q.L.2.2.ok (100075 + 200 * i + 10)
  s2 : q.D.2.ok (100078 + 200 * i + 10)
  s3 : q.W.2.ok (100081 + 200 * i + 10)
  d : 0 ≤ q.D.1 ∧ q.D.1 < 6
  w : 0 ≤ q.W.1 ∧ q.W.1 < 2
  tb : q.at_ < q.to ∧ q.to ≤ q.at_ + 60
  rc : (q.rc i).ok = true
  k1 : keyOK (q.key i) = true
  k2 : keyOK (manK i) = true
  ln : (smpsText q.L.1).length ≤ 300
  ok1 : (q.x1 i).ok = true
  len1 : (q.x1 i).os.length ≤ 2 * (i - 1) + 1
  nxt1 : (q.x1 i).next ≤ 2 + 2 * ((i : Int) - 1)
theorem FI.draw {i : Nat} {q : FS} (h : FI i q) (hi : 1 ≤ i ∧ i ≤ 6) : ((0 ≤ (q.s.next 5).1 ∧ (q.s.next 5).1 < 5) ∧ q.draw.s.ok (100003 + 200 * i)) := by
  have n1 := next_b q.s h.s (by omega) 5
  exact ⟨⟨n1.1.1, n1.1.2 (by omega)⟩, wk n1.2.1 (by omega)⟩
theorem manK_keyOK (n : Int) : keyOK (manK n) = true := by
  have hs : (manK n).length = 10 := by simp [manK, six6]
  have e : (manK n).all keyC = true := by
    unfold manK
    rw [List.all_append]
    have : (six6 n.toNat).all keyC = true := List.all_eq_true.2 fun x hx => by
      have := List.all_eq_true.1 (six6_dig n.toNat) x hx
      have := of_decide_eq_true this
      unfold keyC
      simp only [Bool.or_eq_true, Bool.and_eq_true, decide_eq_true_eq]
      left; left; right
      omega
    rw [this]
    decide
  unfold keyOK
  rw [e, hs]
  decide
theorem keyF_fields {t n w : Nat} (ht : t ≤ 2) (hn : n ≤ 999999) (hw : w ≤ 999999) : kOk (keyB t n w) = true ∧ kT (keyB t n w) = t ∧ kN (keyB t n w) = n ∧ kW (keyB t n w) = w := by
  have h := parse_key ht hn hw
  unfold kOk kT kN kW
  rw [h]
  exact ⟨rfl, rfl, rfl, rfl⟩
theorem rcF_ok {f t : Int} {n w : Nat} (hf : 0 ≤ f) (hft : f < t) (ht : t ≤ 100000) (hn : n ≤ 999999) (hn1 : 1 ≤ n) (hw : w ≤ 9) : Rc.ok ⟨1, 0, 0, f, t, keyB 0 n w⟩ = true := by
  obtain ⟨k1, k2, k3, k4⟩ := keyF_fields (t := 0) (n := n) (w := w) (by omega) (by omega) (by omega)
  unfold Rc.ok Rc.en En.ok
  simp only [if_true, k1, k2, isRange, within]
  simp
  omega
theorem Rc.txt_len {r : Rc} (h : r.ok = true) : r.text.length ≤ 130 := by
  have hk := (Rc.okN h).2
  have hh := Rc.head_len h
  unfold Rc.text; simp only [List.length_append, List.length_cons, List.length_nil]; omega
theorem FI.facts {i : Nat} {q : FS} (h : FI i q) (hs : q.draw.s.ok (100003 + 200 * i)) (hi : 1 ≤ i ∧ i ≤ 6) : FB i q.draw := by
  obtain ⟨h1, h2, h3, h4, h5⟩ := h
  have h1 : q.draw.x.ok = true := h1
  have h2 : q.draw.x.os.length ≤ 2 * (i - 1) := h2
  have h3 : q.draw.x.next ≤ 1 + 2 * ((i : Int) - 1) := h3
  have h4 : 0 ≤ q.draw.at_ ∧ q.draw.at_ ≤ 100 * ((i : Int) - 1) := h4
  generalize q.draw = q at *
  obtain ⟨m1, m2⟩ := samples_b q.s q.at_ 6 hs (by omega) (by omega) (by omega) h4.1
  have m1 : SmpF q.L q.at_ 6 := m1
  have m2 : q.L.2.2.ok (100003 + 200 * i + 3 + 12 * 6) := by have := m2; exact wk this (by omega)
  have n1 := next_b q.L.2.2 m2 (by omega) 6
  have d1 : 0 ≤ q.D.1 ∧ q.D.1 < 6 := ⟨n1.1.1, n1.1.2 (by omega)⟩
  have n1 : q.D.2.ok (100003 + 200 * i + 3 + 12 * 6 + 3) := n1.2.1
  have n2 := next_b q.D.2 n1 (by omega) 2
  have w1 : 0 ≤ q.W.1 ∧ q.W.1 < 2 := ⟨n2.1.1, n2.1.2 (by omega)⟩
  have n2 : q.W.2.ok (100003 + 200 * i + 3 + 12 * 6 + 3 + 3) := n2.2.1
  have hto : q.at_ < q.to ∧ q.to ≤ q.at_ + 60 := by
    unfold FS.to
    split
    · omega
    · have := m1.tm _ (getD_mem (show q.L.1.length - 1 < q.L.1.length by omega))
      exact ⟨by have := this.1; omega, by have := this.2; omega⟩
  have hrc : (q.rc i).ok = true := rcF_ok h4.1 hto.1 (by omega) (by omega) (by omega) (by omega)
  have hln := smpsText_len (smpsOK_num m1.ok)
  have hlen := m1.len
  have hl3 : (smpsText q.L.1).length ≤ 300 := by omega
  have hk : keyOK (q.key i) = true := keyF_ok (by omega)
  obtain ⟨p1, p2, p3, p4, p5⟩ := put_ok h1 hk (d := smpsText q.L.1) (by omega) (by omega) (by omega)
  rw [p2] at p3 p4 p5
  exact ⟨m1, wk m2 (by omega), wk n1 (by omega), wk n2 (by omega), d1, w1, hto, hrc, hk, manK_keyOK _, hl3, p3, by show (q.x.set _ _).os.length ≤ _; omega, by show (q.x.set _ _).next ≤ _; omega⟩
theorem FI.step {i : Nat} {q : FS} (h : FI i q) (hs : q.draw.s.ok (100003 + 200 * i)) (hi : 1 ≤ i ∧ i ≤ 6) : FI (i + 1) (q.draw.step i) := by
  have b := h.facts hs hi
  have hat := h.at_
  have hat : 0 ≤ q.draw.at_ ∧ q.draw.at_ ≤ 100 * ((i : Int) - 1) := hat
  obtain ⟨p1, p2, p3, p4, p5⟩ := put_ok b.ok1 b.k2 (d := (q.draw.rc i).text) (by have := Rc.txt_len b.rc; omega) (by have := b.len1; omega) (by have := b.nxt1; omega)
  rw [p2] at p3 p4 p5
  have l1 := b.len1
  have l2 := b.nxt1
  have l3 := b.tb
  exact ⟨p3, by show ((q.draw.x1 i).set _ _).os.length ≤ _; omega, by show ((q.draw.x1 i).set _ _).next ≤ _; omega, by show 0 ≤ q.draw.to ∧ q.draw.to ≤ _; omega, wk b.s3 (by omega)⟩
theorem fiIt_eq {i : Nat} (hi : i ≤ 6) (q : FS) : fiIt (7 - i) i q = if (i : Int) ≤ 1 + (q.s.next 5).1 then fiIt (7 - (i + 1)) (i + 1) (q.draw.step i) else q.draw := by
  rw [show 7 - i = (7 - (i + 1)) + 1 by omega]
  rfl
theorem NewStoreF_fn : VFn Tryz.prog 67 [] stoN0.av := by
  refine VFn.introC Tryz.call67 Tryz.func67 rfl rfl ?_
  conv => whnf
  refine And.intro trivial (AVle.agg (AVsle.cons (AVle.sl rfl fun i hi => absurd hi (Nat.not_lt_zero i)) (AVsle.cons (AVle.refl _) AVsle.nil)))
theorem filled_fn (s : Src) (h : s.ok 100000) : FnM Tryz.prog 30 1 [.bptr 0 0] [(0, .box s.row)] s.filled.x.av [(0, .box s.filled.s.row)] 1 := by
  obtain ⟨R, hR⟩ : ∃ R, R = s.filled := ⟨_, rfl⟩
  rw [← hR]
  refine FnM.introC Tryz.call30 Tryz.func30 rfl rfl ?_
  conv => whnf
  refine CallC.nl _ (NewStoreF_fn) ?_ ?_
  · exact rfl
  refine LoopC.mk (fun a : Nat × FS => (1 ≤ a.1 ∧ a.1 ≤ 6) ∧ FI a.1 a.2 ∧ fiIt (7 - a.1) a.1 a.2 = R) (fun a => [(0, .bptr 0 0), (2, .bptr 1 0), (3, .bptr 2 0), (4, .int .i64 a.2.at_), (5, .int .i64 a.1)])
    (fun a => [(0, .box a.2.s.row), (1, .box [.nilsl, .int .i64 0]), (2, .box a.2.x.row)]) 3 (fun a => 7 - a.1) (1, ⟨stoN0, 0, s⟩)
    ⟨⟨⟨Nat.le_refl _, (by decide : 1 ≤ 6)⟩, FI.zero h, hR.symm⟩, [(0, 0), (1, 1), (2, 2)], rfl, rfl, ⟨AVle.refl _, AVle.refl _, AVle.refl _, AVle.refl _, AVle.refl _, trivial⟩, ⟨MOle.refl _, MOle.refl _, MOle.refl _, trivial⟩⟩ ?_
  intro a ha
  obtain ⟨i, q⟩ := a
  obtain ⟨hi, hq, he⟩ := ha
  simp only at hi hq he
  have hd := hq.draw hi
  have hb := hq.facts hd.2 hi
  have hn := hq.step hd.2 hi
  rw [fiIt_eq hi.2] at he
  have hnx := hq.nxt
  have hln := hq.len
  conv => whnf
  refine CallC.k [(0, 0)] (next_fn q.s 5 (wk hq.s (by omega))) rfl rfl (AVsle.refl _) ⟨MOle.refl _, trivial⟩ rfl ?_
  refine And.intro (inI64 (by omega) (by omega)) ?_
  refine Grd.intro (fun g1 => ?_) (fun g1 => ?_)
  case _ =>
    have g1 : (i : Int) ≤ 1 + (q.s.next 5).1 := of_decide_eq_true g1
    rw [if_pos g1] at he
    have hi5 : i ≤ 5 := by have := hd.1.2; omega
    have hat : 0 ≤ q.draw.at_ ∧ q.draw.at_ ≤ 100 * ((i : Int) - 1) := hq.at_
    have hdl := hb.m.len
    have hd6 := hb.d
    have hw2 := hb.w
    have hto := hb.tb
    obtain ⟨w, hw⟩ : ∃ w : Nat, q.draw.W.1 = w := ⟨q.draw.W.1.toNat, by omega⟩
    have ck : VFn Tryz.prog 69 [.int .i64 0, .int .i64 i, .int .i64 q.draw.W.1] (.str (B (q.draw.key i))) := by
      have hk : q.draw.key i = keyB 0 i w := by unfold FS.key; rw [hw]; rfl
      rw [hk, hw]
      exact l03Key_at (t := 0) (n := i) (w := w) rfl rfl rfl (by omega) (by omega) (by omega)
    have ct := l03Samples_fn q.draw.L.1 (by omega) (smpsOK_num hb.m.ok)
    have cs1 := l01Set_fn q.draw.x (by show q.x.os.length ≤ _; omega) ⟨by show q.x.next ≤ _; omega, by have := ((stoOK_iff _).1 hq.ok).nx; show 0 ≤ q.x.next; omega⟩ (q.draw.key i) (smpsText q.draw.L.1)
    have ckm := l06Key_fn (i : Int) (by simp [within]; omega)
    have crt := l06Text_fn (q.draw.rc i) hb.rc
    have cs2 := l01Set_fn (q.draw.x1 i) (by have := hb.len1; omega) ⟨by have := hb.nxt1; omega, by have := ((stoOK_iff _).1 hb.ok1).nx; omega⟩ (manK i) (q.draw.rc i).text
    conv => whnf
    refine CallC.k [(0, 0)] (samples_fn q.draw.s q.draw.at_ 6 (wk hd.2 (by omega)) (by omega) (by omega)) rfl rfl (AVsle.refl _) ⟨MOle.refl _, trivial⟩ rfl ?_
    refine And.intro (show inI .i64 (q.draw.at_ + 1) from inI64 (by omega) (by omega)) ?_
    conv => whnf
    refine CallC.k [(0, 0)] (next_fn q.draw.L.2.2 6 (wk hb.s1 (by omega))) rfl rfl (AVsle.refl _) ⟨MOle.refl _, trivial⟩ rfl ?_
    refine And.intro (show inI .i64 (q.draw.at_ + 1 + q.draw.D.1) from inI64 (by omega) (by omega)) ?_
    refine Grd.intro (fun g2 => ?_) (fun g2 => ?_)
    case _ =>
      have g2 : 0 < q.draw.L.1.length := by have : (0 : Int) < (q.draw.L.1.length : Int) := of_decide_eq_true g2; omega
      have hb9 := hb.m.tm _ (getD_mem (show ((q.draw.L.1.length : Int) - 1).toNat < q.draw.L.1.length by omega))
      have e9 : ((q.draw.L.1.length : Int) - 1).toNat = q.draw.L.1.length - 1 := by omega
      have eto : q.draw.to = (ix q.draw.L.1 ((q.draw.L.1.length : Int) - 1).toNat).t + 1 := by unfold FS.to; rw [if_neg (by omega), e9]
      refine And.intro (show inI .i64 ((q.draw.L.1.length : Int) - 1) from inI64 (by omega) (by omega)) ?_
      refine And.intro (show (0 : Int) ≤ (q.draw.L.1.length : Int) - 1 ∧ (q.draw.L.1.length : Int) - 1 < (q.draw.L.1.length : Int) by omega) ?_
      refine And.intro (show inI .i64 ((ix q.draw.L.1 ((q.draw.L.1.length : Int) - 1).toNat).t + 1) from inI64 (by have := hb9.1; omega) (by have := hb9.2; omega)) ?_
      conv => whnf
      refine CallC.k [(0, 0)] (next_fn q.draw.D.2 2 (wk hb.s2 (by omega))) rfl rfl (AVsle.refl _) ⟨MOle.refl _, trivial⟩ rfl ?_
      have crt' : VFn Tryz.prog 73 [.agg [.int .i64 1, .int .i64 0, .int .i64 0, .int .i64 q.draw.at_, .int .i64 ((ix q.draw.L.1 ((q.draw.L.1.length : Int) - 1).toNat).t + 1), .str (B (q.draw.key i))]] (.str (B (q.draw.rc i).text)) := by rw [← eto]; exact crt
      conv => whnf
      refine CallC.sca _ (ck) ?_ ?_
      · exact rfl
      conv => whnf
      refine DrawC.mk 5 rfl (by kernel_rfl) ?_
      refine PCallC.sca _ (ct) rfl ?_
      refine PCallC.nl _ (cs1) rfl ?_
      conv => whnf
      refine DrawC.mk 9 rfl (by kernel_rfl) ?_
      refine PCallC.sca _ (ckm) rfl ?_
      refine PCallC.sca _ (crt') rfl ?_
      refine PCallC.nl _ (cs2) rfl ?_
      refine And.intro (inI64 (by omega) (by omega)) ?_
      exact ⟨(i + 1, q.draw.step i), ⟨⟨by omega, by omega⟩, hn, he⟩, (by show 7 - (i + 1) < 7 - i; omega), [(0, 0), (1, 1), (2, 2)], rfl, rfl, ⟨AVle.refl _, AVle.refl _, AVle.refl _, AVle.of_eq (congrArg (AV.int .i64) eto.symm), AVle.of_eq (congrArg (AV.int .i64) (by simp)), trivial⟩, ⟨MOle.refl _, MOle.refl _, MOle.refl _, trivial⟩⟩
    case _ =>
      have g2 : q.draw.L.1.length = 0 := by have : ¬ (0 : Int) < (q.draw.L.1.length : Int) := of_decide_eq_false g2; omega
      have eto : q.draw.to = q.draw.at_ + 1 + q.draw.D.1 := by unfold FS.to; rw [if_pos g2]
      conv => whnf
      refine CallC.k [(0, 0)] (next_fn q.draw.D.2 2 (wk hb.s2 (by omega))) rfl rfl (AVsle.refl _) ⟨MOle.refl _, trivial⟩ rfl ?_
      have crt' : VFn Tryz.prog 73 [.agg [.int .i64 1, .int .i64 0, .int .i64 0, .int .i64 q.draw.at_, .int .i64 (q.draw.at_ + 1 + q.draw.D.1), .str (B (q.draw.key i))]] (.str (B (q.draw.rc i).text)) := by rw [← eto]; exact crt
      conv => whnf
      refine CallC.sca _ (ck) ?_ ?_
      · exact rfl
      conv => whnf
      refine DrawC.mk 5 rfl (by kernel_rfl) ?_
      refine PCallC.sca _ (ct) rfl ?_
      refine PCallC.nl _ (cs1) rfl ?_
      conv => whnf
      refine DrawC.mk 9 rfl (by kernel_rfl) ?_
      refine PCallC.sca _ (ckm) rfl ?_
      refine PCallC.sca _ (crt') rfl ?_
      refine PCallC.nl _ (cs2) rfl ?_
      refine And.intro (inI64 (by omega) (by omega)) ?_
      exact ⟨(i + 1, q.draw.step i), ⟨⟨by omega, by omega⟩, hn, he⟩, (by show 7 - (i + 1) < 7 - i; omega), [(0, 0), (1, 1), (2, 2)], rfl, rfl, ⟨AVle.refl _, AVle.refl _, AVle.refl _, AVle.of_eq (congrArg (AV.int .i64) eto.symm), AVle.of_eq (congrArg (AV.int .i64) (by simp)), trivial⟩, ⟨MOle.refl _, MOle.refl _, MOle.refl _, trivial⟩⟩
  case _ =>
    have g1 : ¬ (i : Int) ≤ 1 + (q.s.next 5).1 := of_decide_eq_false g1
    rw [if_neg g1] at he
    subst he
    exact And.intro trivial ⟨[(0, 0)], rfl, AVle.refl _, ⟨MOle.refl _, trivial⟩⟩
end Go.Proofs.YtfaffgneccjpbaaGreatDoor
set_option linter.unusedVariables false
set_option linter.constructorNameAsVariable false
set_option linter.unusedSimpArgs false
set_option maxRecDepth 20000
namespace Go.Proofs.YtfaffgneccjpbaaGreatDoor
open Go Go.Vw

theorem join_no32 : ∀ L : List Int, ∀ x ∈ Lib.join (L.map Lib.itoa) [44], x ≠ (32 : UInt8)
  | [], x, hx => by simp [Lib.join] at hx
  | [a], x, hx => itoa_ne (by decide) (by decide) x (by simpa [Lib.join] using hx)
  | a :: b :: r, x, hx => by
    have e : Lib.join ((a :: b :: r).map Lib.itoa) [44] = Lib.itoa a ++ [44] ++ Lib.join ((b :: r).map Lib.itoa) [44] := by simp [Lib.join, List.intercalate, List.intersperse]
    rw [e] at hx
    rcases List.mem_append.1 hx with hx | hx
    · rcases List.mem_append.1 hx with hx | hx
      · exact itoa_ne (by decide) (by decide) x hx
      · simp at hx; rw [hx]; decide
    · exact join_no32 (b :: r) x hx
theorem text_nums {r : Rc} (h : r.ok = true) : numsK 44 5 (Lib.join (r.nums.map Lib.itoa) [44]) = some [r.k, r.tok, r.tier, r.f, r.t] :=
  nums_back (c := 44) (by decide) (by decide) (N := r.nums) (by simp [Rc.nums]) (fun n hn => by have := (Rc.okN h).1 n hn; unfold mid at this; omega)
theorem text_back {r : Rc} (h : r.ok = true) : readR r.text = some r := by
  have := (readR_at (b := r.key) (join_no32 r.nums)).1 _ _ _ _ _ (text_nums h)
  show readR (Lib.join (r.nums.map Lib.itoa) [44] ++ 32 :: r.key) = _
  rw [this, if_pos h]
end Go.Proofs.YtfaffgneccjpbaaGreatDoor
set_option linter.unusedVariables false
set_option linter.constructorNameAsVariable false
set_option linter.unusedSimpArgs false
set_option maxRecDepth 20000
namespace Go.Proofs.YtfaffgneccjpbaaGreatDoor
open Go Go.Vw

theorem smpsF_srt {L : List Smp} (h : smpsOK L = true) : ∀ i j, i ≤ j → j < L.length → (ix L i).t ≤ (ix L j).t := by
  have hh : ∀ i, i < L.length → smpAt L i = true := by
    unfold smpsOK at h
    rw [Bool.and_eq_true] at h
    exact allN_iff.1 h.2
  intro i j hij
  induction j with
  | zero => intro _; rw [show i = 0 by omega]; exact Int.le_refl _
  | succ j ih =>
    intro hj
    rcases Nat.lt_or_ge i (j + 1) with h1 | h1
    · have a := ih (by omega) (by omega)
      have b := hh (j + 1) hj
      simp [smpAt] at b
      omega
    · rw [show i = j + 1 by omega]; exact Int.le_refl _
structure FE (x : Sto) (E : List En) (at_ : Int) : Prop where
  tm : ∀ e ∈ E, e.tier = 0 ∧ 0 ≤ e.f ∧ e.f < e.t ∧ e.t ≤ at_ ∧ e.t ≤ e.f + 60
  key : ∀ j, j < E.length → ∃ w : Nat, w ≤ 1 ∧ (ix E j).key = keyB 0 (j + 1) w
  hd : ∀ e r, E = e :: r → e.f = 0
  last : at_ = match E.getLast? with | none => 0 | some e => e.t
  data : ∀ e ∈ E, ∃ L : List Smp, smpsOK L = true ∧ L.length ≤ 6 ∧ (∀ s ∈ L, e.f ≤ s.t ∧ s.t < e.t) ∧ x.has e.key = true ∧ (x.get e.key).data = smpsText L
structure FL (i : Nat) (q : FS) : Prop where
  has : ∀ n : Nat, 1 ≤ n → n ≤ 999999 → q.x.has (manK (n : Int)) = decide (n < i)
  fin : logEnd q.x = i - 1
  st : ∃ E : List En, logS q.x = ⟨((i - 1 : Nat) : Int), 0, E, [], 0, 0, 0, q.at_, 0, 0⟩ ∧ E.length = i - 1 ∧ FE q.x E q.at_
theorem FL.zero {s : Src} : FL 1 ⟨stoN0, 0, s⟩ :=
  ⟨fun n h1 h2 => by rw [decide_eq_false (by omega)]; rfl, rfl, [], rfl, rfl, ⟨by simp, fun j hj => absurd hj (Nat.not_lt_zero j), fun e r h => (by cases h), rfl, by simp⟩⟩
theorem man_ne_key (n : Int) {t m w : Nat} : manK n ≠ keyB t m w := fun h => by
  have h1 : (manK n).length = 10 := by simp [manK, six6]
  have h2 : 13 ≤ (keyB t m w).length := by
    unfold keyB pre
    split <;> simp [six6]
  rw [h] at h1
  omega
theorem FL.step {i : Nat} {q : FS} (h : FI i q) (hf : FL i q) (hs : q.draw.s.ok (100003 + 200 * i)) (hi : 1 ≤ i ∧ i ≤ 6) : FL (i + 1) (q.draw.step i) := by
  have b := h.facts hs hi
  have hst := h.step hs hi
  have hok : q.draw.x.ok = true := h.ok
  obtain ⟨f1, f2, E, f3, f4, f5⟩ := hf
  have hat : 0 ≤ q.draw.at_ ∧ q.draw.at_ ≤ 100 * ((i : Int) - 1) := h.at_
  have f1 : ∀ n : Nat, 1 ≤ n → n ≤ 999999 → q.draw.x.has (manK (n : Int)) = decide (n < i) := f1
  have f2 : logEnd q.draw.x = i - 1 := f2
  have f3 : logS q.draw.x = ⟨((i - 1 : Nat) : Int), 0, E, [], 0, 0, 0, q.draw.at_, 0, 0⟩ := f3
  have f5 : FE q.draw.x E q.draw.at_ := f5
  have hok2 : (q.draw.step i).x.ok = true := hst.ok
  generalize q.draw = q at *
  obtain ⟨w, hw⟩ : ∃ w : Nat, q.W.1 = w := ⟨q.W.1.toNat, by have := b.w; omega⟩
  have hw1 : w ≤ 1 := by have := b.w; omega
  have hkey : q.key i = keyB 0 i w := by unfold FS.key; rw [hw]; rfl
  have hne : ∀ n : Int, manK n ≠ q.key i := fun n => by rw [hkey]; exact man_ne_key n
  -- the first change
  have a1 : ∀ k, k ≠ q.key i → (q.x1 i).has k = q.x.has k ∧ (q.x.has k = true → (q.x1 i).get k = q.x.get k) := fun k hk => set_ne hok b.ok1 hk
  have a2 : ∀ k, k ≠ manK (i : Int) → (q.step i).x.has k = (q.x1 i).has k ∧ ((q.x1 i).has k = true → (q.step i).x.get k = (q.x1 i).get k) := fun k hk => set_ne b.ok1 hok2 hk
  have a3 : ∀ k, k ≠ q.key i → k ≠ manK (i : Int) → (q.step i).x.has k = q.x.has k ∧ (q.x.has k = true → (q.step i).x.get k = q.x.get k) := fun k h1 h2 => by
    obtain ⟨c1, c2⟩ := a1 k h1
    obtain ⟨d1, d2⟩ := a2 k h2
    exact ⟨d1.trans c1, fun h => (d2 (c1.trans h)).trans (c2 h)⟩
  have a4 : (q.step i).x.has (manK (i : Int)) = true ∧ (q.step i).x.get (manK (i : Int)) = ⟨manK (i : Int), (q.x1 i).next, (q.rc i).text⟩ := set_at _ _ _
  have a5 : (q.step i).x.has (q.key i) = true ∧ ((q.step i).x.get (q.key i)).data = smpsText q.L.1 := by
    obtain ⟨d1, d2⟩ := a2 (q.key i) (fun e => hne i e.symm)
    have c := set_at q.x (q.key i) (smpsText q.L.1)
    have c1 : (q.x1 i).has (q.key i) = true := c.1
    have c2 : (q.x1 i).get (q.key i) = ⟨q.key i, q.x.next, smpsText q.L.1⟩ := c.2
    exact ⟨d1.trans c1, by rw [d2 c1, c2]⟩
  have a6 : ∀ n : Nat, 1 ≤ n → n ≤ 999999 → (q.step i).x.has (manK (n : Int)) = decide (n < i + 1) := fun n h1 h2 => by
    by_cases e : n = i
    · subst e
      rw [a4.1, decide_eq_true (by omega)]
    · rw [(a3 _ (hne n) fun e' => e (manK_inj h2 (by omega) e')).1, f1 n h1 h2]
      by_cases h3 : n < i
      · rw [decide_eq_true h3, decide_eq_true (by omega)]
      · rw [decide_eq_false h3, decide_eq_false (by omega)]
  have hi1 : i - 1 + 1 = i := by omega
  obtain ⟨g1, g2⟩ := log_grow (x := q.x) (y := (q.step i).x) hok2 (n := i - 1) (by omega) (fun j hj => by rw [f1 _ (by omega) (by omega)]; exact decide_eq_true (by omega)) f2
    (fun j hj => by
      have hh : q.x.has (manK ((j + 1 : Nat) : Int)) = true := by rw [f1 _ (by omega) (by omega)]; exact decide_eq_true (by omega)
      obtain ⟨c1, c2⟩ := a3 (manK ((j + 1 : Nat) : Int)) (hne _) (fun e' => by have := manK_inj (by omega) (by omega) e'; omega)
      exact ⟨c1.trans hh, by rw [c2 hh]⟩)
    (by rw [hi1]; exact a4.1) (by rw [a6 _ (by omega) (by omega)]; exact decide_eq_false (by omega))
  rw [hi1, a4.2] at g2
  have hE : ∀ e ∈ E, ∃ (m w' : Nat), m < i ∧ 1 ≤ m ∧ w' ≤ 1 ∧ e.key = keyB 0 m w' := fun e he => by
    obtain ⟨j, hj, e1⟩ := List.getElem_of_mem he
    obtain ⟨w', h1, h2⟩ := f5.key j hj
    rw [ix_lt hj, e1] at h2
    exact ⟨j + 1, w', by omega, by omega, h1, h2⟩
  have hEk : ∀ e ∈ E, e.key ≠ q.key i := fun e he h' => by
    obtain ⟨m, w', h1, h2, h3, h4⟩ := hE e he
    rw [h4, hkey] at h'
    have k1 := (keyF_fields (t := 0) (n := m) (w := w') (by omega) (by omega) (by omega)).2.2.1
    have k2 := (keyF_fields (t := 0) (n := i) (w := w) (by omega) (by omega) (by omega)).2.2.1
    rw [h', k2] at k1
    omega
  have hlay : logS (q.step i).x = ⟨((i : Nat) : Int), 0, E ++ [⟨0, q.at_, q.to, q.key i⟩], [], 0, 0, 0, q.to, 0, 0⟩ := by
    rw [g2, f3]
    unfold Sta.lay
    simp only
    rw [text_back b.rc]
    have hk2 := (keyF_fields (t := 0) (n := i) (w := w) (by omega) (by omega) (by omega)).2.2.1
    have htk : (⟨((i - 1 : Nat) : Int), 0, E, [], 0, 0, 0, q.at_, 0, 0⟩ : Sta).takes (q.rc i) = true := by
      unfold Sta.takes FS.rc
      simp only [if_true, hkey, hk2]
      have hn : (⟨((i - 1 : Nat) : Int), 0, E, [], 0, 0, 0, q.at_, 0, 0⟩ : Sta).has (keyB 0 i w) = false := by
        cases hh : (⟨((i - 1 : Nat) : Int), 0, E, [], 0, 0, 0, q.at_, 0, 0⟩ : Sta).has (keyB 0 i w) with
        | false => rfl
        | true =>
          have := (has_iff _ _).1 hh
          simp [Sta.keys] at this
          obtain ⟨e, he, h'⟩ := this
          exact absurd (h'.trans hkey.symm) (hEk e he)
      rw [hn, decide_eq_true (by omega : ((i : Nat) : Int) = ((i - 1 : Nat) : Int) + 1)]
      simp
    show (Sta.app _ (q.rc i)) = _
    unfold Sta.app
    rw [if_pos htk]
    unfold FS.rc
    simp [Sta.lift, Sta.tick, Rc.en]
    omega
  refine ⟨a6, by rw [g1]; omega, E ++ [⟨0, q.at_, q.to, q.key i⟩], by rw [hlay]; rfl, by rw [List.length_append, f4]; simp; omega, ?_⟩
  have hto := b.tb
  refine ⟨fun e he => ?_, fun j hj => ?_, fun e r he => ?_, ?_, fun e he => ?_⟩
  · rcases List.mem_append.1 he with he | he
    · have := f5.tm e he
      exact ⟨this.1, this.2.1, this.2.2.1, by show e.t ≤ q.to; omega, this.2.2.2.2⟩
    · simp at he
      subst he
      exact ⟨rfl, hat.1, hto.1, Int.le_refl _, hto.2⟩
  · rw [List.length_append] at hj
    rcases Nat.lt_or_ge j E.length with h1 | h1
    · rw [ix_app_l h1]; exact f5.key j h1
    · have : j = E.length := by simp at hj; omega
      subst this
      rw [ix_app_r (Nat.le_refl _), Nat.sub_self]
      exact ⟨w, hw1, by show q.key i = _; rw [hkey, f4, hi1]⟩
  · cases E with
    | nil =>
      simp at he
      rw [← he.1]
      have := f5.last
      exact this
    | cons a l =>
      simp at he
      rw [← he.1]
      exact f5.hd a l rfl
  · simp
    rfl
  · rcases List.mem_append.1 he with he | he
    · obtain ⟨L, l1, l2, l3, l4, l5⟩ := f5.data e he
      obtain ⟨m, w', h1, h2, h3, h4⟩ := hE e he
      obtain ⟨c1, c2⟩ := a3 e.key (hEk e he) (fun e' => by rw [h4] at e'; exact man_ne_key _ e'.symm)
      exact ⟨L, l1, l2, l3, c1.trans l4, by rw [c2 l4]; exact l5⟩
    · simp at he
      subst he
      refine ⟨q.L.1, b.m.ok, b.m.len, fun s hs => ?_, a5.1, a5.2⟩
      have := b.m.tm s hs
      refine ⟨this.1, ?_⟩
      obtain ⟨j, hj, e1⟩ := List.getElem_of_mem hs
      have e2 := smpsF_srt b.m.ok j (q.L.1.length - 1) (by omega) (by omega)
      rw [ix_lt hj, e1] at e2
      show s.t < q.to
      unfold FS.to
      rw [if_neg (by omega)]
      omega
theorem fill_log {i : Nat} {q : FS} (h : FI i q) (hf : FL i q) (hi : 1 ≤ i ∧ i ≤ 6) : ∃ j, i ≤ j ∧ j ≤ 6 ∧ ∃ q', FI j q' ∧ FL j q' ∧ q'.draw.s.ok (100003 + 200 * j) ∧ fiIt (7 - i) i q = q'.draw := by
  have hd := h.draw hi
  rw [fiIt_eq hi.2]
  split
  · rename_i g
    have hi5 : i ≤ 5 := by have := hd.1.2; omega
    obtain ⟨j, j1, j2, r⟩ := fill_log (h.step hd.2 hi) (FL.step h hf hd.2 hi) ⟨by omega, by omega⟩
    exact ⟨j, by omega, j2, r⟩
  · exact ⟨i, Nat.le_refl _, hi.2, q, h, hf, hd.2, rfl⟩
termination_by 7 - i
structure FF (s : Src) (m : Nat) (E : List En) : Prop where
  rng : 1 ≤ m ∧ m ≤ 5
  ok : s.filled.x.ok = true
  len : s.filled.x.os.length ≤ 10
  nxt : s.filled.x.next ≤ 11
  src : s.filled.s.ok 101300
  at_ : 0 < s.filled.at_ ∧ s.filled.at_ ≤ 500
  has : ∀ n : Nat, 1 ≤ n → n ≤ 999999 → s.filled.x.has (manK (n : Int)) = decide (n ≤ m)
  fin : logEnd s.filled.x = m
  log : logS s.filled.x = ⟨(m : Int), 0, E, [], 0, 0, 0, s.filled.at_, 0, 0⟩
  el : E.length = m
  es : FE s.filled.x E s.filled.at_
theorem filled_facts {s : Src} (h : s.ok 100000) : ∃ m E, FF s m E := by
  have h0 := FI.zero h
  have hd := h0.draw (by decide)
  have e0 : s.filled = fiIt (7 - 1) 1 ⟨stoN0, 0, s⟩ := rfl
  rw [fiIt_eq (by decide), if_pos (by have := hd.1.1; omega)] at e0
  obtain ⟨j, j1, j2, q, hq, hl, hs, e⟩ := fill_log (h0.step hd.2 (by decide)) (FL.step h0 FL.zero hd.2 (by decide)) ⟨by decide, by decide⟩
  have e : s.filled = q.draw := e0.trans e
  obtain ⟨f1, f2, E, f3, f4, f5⟩ := hl
  have l1 := hq.len
  have l2 := hq.nxt
  have l3 := hq.at_
  have hat : 0 < q.at_ := by
    have := f5.last
    cases hE : E.getLast? with
    | none =>
      rw [List.getLast?_eq_none_iff] at hE
      rw [hE] at f4
      simp at f4
      omega
    | some a =>
      rw [hE] at this
      have h1 := f5.tm a (List.mem_of_getLast? hE)
      simp only at this
      omega
  have hj : (j - 1 : Nat) + 1 = j := by omega
  refine ⟨j - 1, E, ?_⟩
  constructor
  · omega
  all_goals try rw [e]
  · exact hq.ok
  · show q.x.os.length ≤ _; omega
  · show q.x.next ≤ _; omega
  · exact wk hs (by omega)
  · exact ⟨hat, by show q.at_ ≤ _; omega⟩
  · intro n h1 h2
    show q.x.has _ = _
    rw [f1 n h1 h2]
    by_cases h3 : n < j
    · rw [decide_eq_true h3, decide_eq_true (by omega)]
    · rw [decide_eq_false h3, decide_eq_false (by omega)]
  · exact f2
  · exact f3
  · exact f4
  · exact f5
end Go.Proofs.YtfaffgneccjpbaaGreatDoor
set_option linter.unusedVariables false
set_option linter.constructorNameAsVariable false
set_option linter.unusedSimpArgs false
set_option maxRecDepth 20000
namespace Go.Proofs.YtfaffgneccjpbaaGreatDoor
open Go Go.Vw

structure LogX (x : Sto) (n : Nat) (s : Sta) : Prop where
  ok : x.ok = true
  has : ∀ k : Nat, 1 ≤ k → k ≤ 999999 → x.has (manK (k : Int)) = decide (k ≤ n)
  fin : logEnd x = n
  log : logS x = s
/-- what is set elsewhere leaves the log -/
theorem LogX.set {x : Sto} {n : Nat} {s : Sta} (h : LogX x n s) (hn : n ≤ 290) {k d : List UInt8} (hk : ∀ i : Int, manK i ≠ k) (hy : (x.set k d).ok = true) : LogX (x.set k d) n s := by
  have a1 : ∀ q, q ≠ k → (x.set k d).has q = x.has q ∧ (x.has q = true → (x.set k d).get q = x.get q) := fun q hq => set_ne h.ok hy hq
  have g1 : ∀ q : Nat, 1 ≤ q → q ≤ 999999 → (x.set k d).has (manK (q : Int)) = decide (q ≤ n) := fun q h1 h2 => (a1 _ (hk _)).1.trans (h.has q h1 h2)
  have gd : ∀ j, j < n → (x.set k d).has (manK ((j + 1 : Nat) : Int)) = true ∧ ((x.set k d).get (manK ((j + 1 : Nat) : Int))).data = (x.get (manK ((j + 1 : Nat) : Int))).data := fun j hj => by
    have hh : x.has (manK ((j + 1 : Nat) : Int)) = true := by rw [h.has _ (by omega) (by omega)]; exact decide_eq_true (by omega)
    obtain ⟨c1, c2⟩ := a1 (manK ((j + 1 : Nat) : Int)) (hk _)
    exact ⟨c1.trans hh, by rw [c2 hh]⟩
  have e1 : n = logEnd (x.set k d) := log_end hy (by omega) (fun j hj => (gd j hj).1) (by rw [g1 _ (by omega) (by omega)]; exact decide_eq_false (by omega))
  refine ⟨hy, g1, e1.symm, ?_⟩
  rw [← h.log]
  unfold logS
  rw [← e1, h.fin]
  exact logN_congr n fun j hj => (gd j hj).2
structure Laid (x : Sto) (n : Nat) (s : Sta) (r : Rc) (x' : Sto) : Prop where
  app : appS x ((n + 1 : Nat) : Int) r = (x', 0)
  lg : LogX x' (n + 1) (s.app r)
  len : x'.os.length ≤ x.os.length + 1
  nxt : x'.next = x.next + 1
  ot : ∀ k, k ≠ manK ((n + 1 : Nat) : Int) → x'.has k = x.has k ∧ (x.has k = true → x'.get k = x.get k)
/-- the next record laid down -/
theorem LogX.lay {x : Sto} {n : Nat} {s : Sta} (h : LogX x n s) (hn : n ≤ 290) (hl : x.os.length < 300) (hx : x.next < 1000000000) {r : Rc} (hr : r.ok = true) : ∃ x', Laid x n s r x' := by
  obtain ⟨p1, p2, p3, p4, p5⟩ := put_ok h.ok (manK_keyOK ((n + 1 : Nat) : Int)) (d := r.text) (by have := Rc.txt_len hr; omega) hl hx
  have hno : x.has (manK ((n + 1 : Nat) : Int)) = false := by rw [h.has _ (by omega) (by omega)]; exact decide_eq_false (by omega)
  have ha : appS x ((n + 1 : Nat) : Int) r = (x.set (manK ((n + 1 : Nat) : Int)) r.text, 0) := by
    unfold appS Sto.putA
    rw [if_neg (by rw [hno]; simp), p2, p1]
  rw [p2] at p3 p4 p5
  have a4 := set_at x (manK ((n + 1 : Nat) : Int)) r.text
  have a2 : ∀ k, k ≠ manK ((n + 1 : Nat) : Int) → (x.set (manK ((n + 1 : Nat) : Int)) r.text).has k = x.has k ∧ (x.has k = true → (x.set (manK ((n + 1 : Nat) : Int)) r.text).get k = x.get k) := fun k hk => set_ne h.ok p3 hk
  refine ⟨x.set (manK ((n + 1 : Nat) : Int)) r.text, ha, ?_, p5, p4, a2⟩
  generalize x.set (manK ((n + 1 : Nat) : Int)) r.text = z at *
  have a6 : ∀ k : Nat, 1 ≤ k → k ≤ 999999 → z.has (manK (k : Int)) = decide (k ≤ n + 1) := fun k h1 h2 => by
    by_cases e : k = n + 1
    · subst e
      rw [a4.1, decide_eq_true (by omega)]
    · rw [(a2 _ fun e' => e (manK_inj h2 (by omega) e')).1, h.has k h1 h2]
      by_cases h3 : k ≤ n
      · rw [decide_eq_true h3, decide_eq_true (by omega)]
      · rw [decide_eq_false h3, decide_eq_false (by omega)]
  have gd : ∀ j, j < n → x.has (manK ((j + 1 : Nat) : Int)) = true := fun j hj => by rw [h.has _ (by omega) (by omega)]; exact decide_eq_true (by omega)
  obtain ⟨q1, q2⟩ := log_grow (x := x) (y := z) p3 (n := n) (by omega) gd h.fin
    (fun j hj => by
      obtain ⟨c1, c2⟩ := a2 (manK ((j + 1 : Nat) : Int)) (fun e' => by have := manK_inj (by omega) (by omega) e'; omega)
      exact ⟨c1.trans (gd j hj), by rw [c2 (gd j hj)]⟩)
    a4.1 (by rw [a6 _ (by omega) (by omega)]; exact decide_eq_false (by omega))
  refine ⟨p3, a6, q1, ?_⟩
  rw [q2, a4.2, h.log]
  unfold Sta.lay
  simp only
  rw [text_back hr]
end Go.Proofs.YtfaffgneccjpbaaGreatDoor
set_option linter.unusedVariables false
set_option linter.constructorNameAsVariable false
set_option linter.unusedSimpArgs false
set_option maxRecDepth 20000
namespace Go.Proofs.YtfaffgneccjpbaaGreatDoor
open Go Go.Vw

def noP (x : Sto) : Prop := ∀ o ∈ x.os, o.key.head? ≠ some 112
theorem noP.set {x : Sto} (h : noP x) (hs : Srt x.os) {k d : List UInt8} (hk : k.head? ≠ some 112) : noP (x.set k d) := fun o ho => by
  rcases (set_mem hs k d o).1 ho with rfl | ⟨h1, _⟩
  · exact hk
  · exact h o h1
theorem manK_head (n : Int) : (manK n).head? ≠ some 112 := by simp [manK]
theorem keyB_head {t n w : Nat} (ht : t ≤ 2) : (keyB t n w).head? ≠ some 112 := by
  have h : t = 0 ∨ t = 1 ∨ t = 2 := by omega
  rcases h with rfl | rfl | rfl <;> simp [keyB, pre]
theorem fill_noP {i : Nat} {q : FS} (h : FI i q) (hn : noP q.x) (hi : 1 ≤ i ∧ i ≤ 6) : noP (fiIt (7 - i) i q).x := by
  have hd := h.draw hi
  rw [fiIt_eq hi.2]
  split
  · rename_i g
    have hi5 : i ≤ 5 := by have := hd.1.2; omega
    have b := h.facts hd.2 hi
    have h1 : noP (q.draw.x1 i) := noP.set (show noP q.draw.x from hn) (Sto.srt h.ok) (keyB_head (by omega))
    exact fill_noP (h.step hd.2 hi) (noP.set h1 (Sto.srt b.ok1) (manK_head _)) ⟨by omega, by omega⟩
  · exact hn
termination_by 7 - i
theorem filled_noP {s : Src} (h : s.ok 100000) : noP s.filled.x := fill_noP (FI.zero h) (fun o ho => (by cases ho)) (by decide)
def pubE (i : Nat) : En := ⟨1, 5 * (i : Int), 5 * (i : Int) + 5, keyB 1 (5 * i) 1⟩
def pubs (c : Nat) : List En := (List.range c).map pubE
def pubR (i : Nat) : Rc := ⟨3, 1, 1, 5 * (i : Int), 5 * (i : Int) + 5, keyB 1 (5 * i) 1⟩
def stP (m j c : Nat) (E : List En) (A : Int) : Sta := ⟨((m + 1 + j : Nat) : Int), 1, E ++ pubs c, [], 0, 0, 0, A, 5 * (c : Int), 0⟩
def clm : Rc := ⟨2, 1, 0, 0, 0, []⟩
theorem clm_ok : clm.ok = true := by decide
theorem app_clm (m : Nat) (E : List En) (A : Int) : (⟨(m : Int), 0, E, [], 0, 0, 0, A, 0, 0⟩ : Sta).app clm = stP m 0 0 E A := by
  unfold Sta.app Sta.takes clm stP
  simp [Sta.tick, pubs]
theorem pubR_ok {i : Nat} (h : i ≤ 100) : (pubR i).ok = true := by
  obtain ⟨k1, k2, k3, k4⟩ := keyF_fields (t := 1) (n := 5 * i) (w := 1) (by omega) (by omega) (by omega)
  unfold Rc.ok pubR Rc.en En.ok
  simp only [k1, k2, isRange, within]
  simp
  omega
theorem app_pub {m j : Nat} {E : List En} {A : Int} (hj : j ≤ 100) (hE : ∀ e ∈ E, ∃ k w : Nat, k ≤ 999999 ∧ w ≤ 999999 ∧ e.key = keyB 0 k w) (hA : 0 ≤ A) :
    (stP m j j E A).app (pubR j) = if 5 * (j : Int) + 5 ≤ A then stP m (j + 1) (j + 1) E A else stP m (j + 1) j E A := by
  obtain ⟨k1, k2, k3, k4⟩ := keyF_fields (t := 1) (n := 5 * j) (w := 1) (by omega) (by omega) (by omega)
  have hn : (stP m j j E A).has (keyB 1 (5 * j) 1) = false := by
    cases hh : (stP m j j E A).has (keyB 1 (5 * j) 1) with
    | false => rfl
    | true =>
      have := (has_iff _ _).1 hh
      simp [Sta.keys, stP, pubs] at this
      rcases this with ⟨e, he, h'⟩ | ⟨i, hi, h'⟩
      · obtain ⟨k, w, q1, q2, q3⟩ := hE e he
        have q4 := (keyF_fields (t := 0) (n := k) (w := w) (by omega) q1 q2).2.1
        rw [← q3, h', k2] at q4
        omega
      · have q4 := (keyF_fields (t := 1) (n := 5 * i) (w := 1) (by omega) (by omega) (by omega)).2.2.1
        have h' : keyB 1 (5 * i) 1 = keyB 1 (5 * j) 1 := h'
        rw [h', k3] at q4
        omega
  split
  · rename_i h
    have ht : (stP m j j E A).takes (pubR j) = true := by
      unfold Sta.takes
      have e1 : ¬ (pubR j).k = 1 := (by decide : ¬ (3 : Int) = 1)
      have e2 : ¬ (pubR j).k = 2 := (by decide : ¬ (3 : Int) = 2)
      have e3 : (pubR j).k = 3 := rfl
      rw [if_neg e1, if_neg e2, if_pos e3]
      show (decide ((1 : Int) = 1) && (decide (5 * (j : Int) = (stP m j j E A).hi 1) && (decide (kN (keyB 1 (5 * j) 1) = 5 * (j : Int)) && (decide (kW (keyB 1 (5 * j) 1) = 1) && (decide (5 * (j : Int) + 5 = 5 * (j : Int) + wd 1) && (decide (5 * (j : Int) + 5 ≤ (stP m j j E A).hi (1 - 1)) && (decide ((stP m j j E A).lo (1 - 1) ≤ 5 * (j : Int)) && !(stP m j j E A).has (keyB 1 (5 * j) 1)))))))) = true
      rw [hn, k3, k4]
      have a1 : (stP m j j E A).hi 1 = 5 * (j : Int) := rfl
      have a2 : (stP m j j E A).hi (1 - 1) = A := rfl
      have a3 : (stP m j j E A).lo (1 - 1) = 0 := rfl
      have a4 : wd 1 = 5 := rfl
      rw [a1, a2, a3, a4]
      simp
      omega
    unfold Sta.app
    rw [if_pos ht]
    unfold stP pubR
    simp [Sta.lift, Sta.tick, Rc.en, pubs, List.range_succ, pubE]
    omega
  · rename_i h
    have ht : (stP m j j E A).takes (pubR j) = false := by
      unfold Sta.takes
      have e1 : ¬ (pubR j).k = 1 := (by decide : ¬ (3 : Int) = 1)
      have e2 : ¬ (pubR j).k = 2 := (by decide : ¬ (3 : Int) = 2)
      have e3 : (pubR j).k = 3 := rfl
      rw [if_neg e1, if_neg e2, if_pos e3]
      have a2 : (stP m j j E A).hi ((pubR j).tier - 1) = A := rfl
      have a5 : (pubR j).t = 5 * (j : Int) + 5 := rfl
      rw [a2, a5, decide_eq_false h]
      simp
    unfold Sta.app
    rw [ht]
    simp [Sta.tick, stP]
    omega
/-- laid to rest -/
def retR (e : En) : Rc := ⟨4, 1, 0, e.f, e.t, e.key⟩
def resP (m j c : Nat) (E : List En) (A : Int) (e : En) : Sta := ⟨((m + 2 + j : Nat) : Int), 1, noE e.key (E ++ pubs c), [⟨((m + 2 + j : Nat) : Int), e.key⟩], e.t, 0, 0, A, 5 * (c : Int), 0⟩
def stQ (m j c : Nat) (E : List En) (A : Int) : Sta := ⟨((m + 2 + j : Nat) : Int), 1, E ++ pubs c, [], 0, 0, 0, A, 5 * (c : Int), 0⟩
def purR (k : List UInt8) : Rc := ⟨5, 0, 0, 0, 0, k⟩
theorem wo_mem (x : Sto) (k : List UInt8) (o : Ob) : o ∈ (wo x k).os ↔ o ∈ x.os ∧ o.key ≠ k := by
  unfold wo
  rw [List.mem_filter]
  simp
theorem wo_ne {x : Sto} (hs : x.ok = true) {k k' : List UInt8} (hk : k' ≠ k) : (wo x k).has k' = x.has k' ∧ (x.has k' = true → (wo x k).get k' = x.get k') := by
  have h1 := Sto.srt hs
  have h2 := Sto.srt (wo_ok hs k)
  have fw : (wo x k).has k' = true → x.has k' = true := fun h => by
    obtain ⟨a1, a2⟩ := has_get h
    have := (mem_has h1 ((wo_mem x k _).1 a1).1).1
    rwa [a2] at this
  have bw : x.has k' = true → (wo x k).has k' = true ∧ (wo x k).get k' = x.get k' := fun h => by
    obtain ⟨a1, a2⟩ := has_get h
    have := mem_has h2 ((wo_mem x k _).2 ⟨a1, by rw [a2]; exact hk⟩)
    rw [a2] at this
    exact this
  refine ⟨?_, fun h => (bw h).2⟩
  cases h : x.has k' with
  | true => exact (bw h).1
  | false =>
    cases h' : (wo x k).has k' with
    | false => rfl
    | true => rw [fw h'] at h; cases h
/-- what leaves the log as it is -/
theorem LogX.same {x y : Sto} {n : Nat} {s : Sta} (h : LogX x n s) (hn : n ≤ 290) (hy : y.ok = true) (a1 : ∀ i : Int, y.has (manK i) = x.has (manK i) ∧ (x.has (manK i) = true → y.get (manK i) = x.get (manK i))) : LogX y n s := by
  have g1 : ∀ q : Nat, 1 ≤ q → q ≤ 999999 → y.has (manK (q : Int)) = decide (q ≤ n) := fun q h1 h2 => (a1 _).1.trans (h.has q h1 h2)
  have gd : ∀ j, j < n → y.has (manK ((j + 1 : Nat) : Int)) = true ∧ (y.get (manK ((j + 1 : Nat) : Int))).data = (x.get (manK ((j + 1 : Nat) : Int))).data := fun j hj => by
    have hh : x.has (manK ((j + 1 : Nat) : Int)) = true := by rw [h.has _ (by omega) (by omega)]; exact decide_eq_true (by omega)
    obtain ⟨c1, c2⟩ := a1 ((j + 1 : Nat) : Int)
    exact ⟨c1.trans hh, by rw [c2 hh]⟩
  have e1 : n = logEnd y := log_end hy (by omega) (fun j hj => (gd j hj).1) (by rw [g1 _ (by omega) (by omega)]; exact decide_eq_false (by omega))
  refine ⟨hy, g1, e1.symm, ?_⟩
  rw [← h.log]
  unfold logS
  rw [← e1, h.fin]
  exact logN_congr n fun j hj => (gd j hj).2
theorem LogX.wo {x : Sto} {n : Nat} {s : Sta} (h : LogX x n s) (hn : n ≤ 290) {k : List UInt8} (hk : ∀ i : Int, manK i ≠ k) : LogX (wo x k) n s := h.same hn (wo_ok h.ok k) fun i => wo_ne h.ok (hk i)
/-- nothing of that kind of name -/
def noPin (x : Sto) : Prop := ∀ k, Lib.hasPrefix k pinP = true → x.has k = false
theorem pin_head {k : List UInt8} (h : Lib.hasPrefix k pinP = true) : k.head? = some 112 := by
  unfold Lib.hasPrefix pinP at h
  cases k with
  | nil => simp at h
  | cons a r =>
    simp [List.isPrefixOf] at h
    simp [h.1]
theorem noP.pin {x : Sto} (h : noP x) : noPin x := fun k hk => by
  cases hh : x.has k with
  | false => rfl
  | true =>
    obtain ⟨a1, a2⟩ := has_get hh
    have := h _ a1
    rw [a2] at this
    exact absurd (pin_head hk) this
theorem noPin.pinL {x : Sto} (hs : x.ok = true) (h : noPin x) (now : Int) : pinL x now = [] := by
  unfold Go.Proofs.YtfaffgneccjpbaaGreatDoor.pinL
  refine List.filter_eq_nil_iff.2 fun k hk => ?_
  obtain ⟨o, ho, rfl⟩ := List.mem_map.1 hk
  have h1 := (mem_has (Sto.srt hs) ho).1
  unfold keepK
  cases hp : Lib.hasPrefix o.key pinP with
  | false => simp
  | true => rw [h _ hp] at h1; cases h1
theorem pin_ne_man {k : List UInt8} (h : Lib.hasPrefix k pinP = true) (i : Int) : k ≠ manK i := fun e => by
  have := pin_head h
  rw [e] at this
  exact manK_head i this
theorem pin_ne_key {k : List UInt8} (h : Lib.hasPrefix k pinP = true) {t n w : Nat} (ht : t ≤ 2) : k ≠ keyB t n w := fun e => by
  have := pin_head h
  rw [e] at this
  exact keyB_head ht this
end Go.Proofs.YtfaffgneccjpbaaGreatDoor
set_option linter.unusedVariables false
set_option linter.constructorNameAsVariable false
set_option linter.unusedSimpArgs false
set_option maxRecDepth 20000
namespace Go.Proofs.YtfaffgneccjpbaaGreatDoor
open Go Go.Vw

def swC (x : Sto) (now : Int) : Int := if x.ok = true then (if within now 0 101000 = true then 0 else 4) else 1
def purge (k : List UInt8) : Rc := ⟨5, 0, 0, 0, 0, k⟩
def swT (x : Sto) (now : Int) : Sto × Int := match (logS x).ts with
  | [] => (x, 18)
  | t :: _ => match pinL x now with
    | _ :: _ => (x, 18)
    | [] => if x.has t.key = true then (wo x t.key, 0) else appS x ((logS x).seq + 1) (purge t.key)
end Go.Proofs.YtfaffgneccjpbaaGreatDoor
set_option linter.unusedVariables false
set_option linter.constructorNameAsVariable false
set_option linter.unusedSimpArgs false
set_option maxRecDepth 20000
namespace Go.Proofs.YtfaffgneccjpbaaGreatDoor
open Go Go.Vw

def laidS (x : Sto) (m : Nat) : Nat → Sto
  | 0 => (appS x ((m + 1 : Nat) : Int) clm).1
  | j + 1 => (appS (laidS x m j) ((m + 2 + j : Nat) : Int) (pubR j)).1
structure LaidF (x : Sto) (m : Nat) (E : List En) (A : Int) (j c : Nat) : Prop where
  lg : LogX (laidS x m j) (m + 1 + j) (stP m j c E A)
  len : (laidS x m j).os.length ≤ 11 + j
  nxt : (laidS x m j).next ≤ 12 + j
  ot : ∀ k, (∀ i : Int, k ≠ manK i) → (laidS x m j).has k = x.has k ∧ (x.has k = true → (laidS x m j).get k = x.get k)
theorem FF.lg {s : Src} {m : Nat} {E : List En} (F : FF s m E) : LogX s.filled.x m ⟨(m : Int), 0, E, [], 0, 0, 0, s.filled.at_, 0, 0⟩ := ⟨F.ok, F.has, F.fin, F.log⟩
theorem FF.keys {s : Src} {m : Nat} {E : List En} (F : FF s m E) : ∀ e ∈ E, ∃ k w : Nat, k ≤ 999999 ∧ w ≤ 999999 ∧ e.key = keyB 0 k w := fun e he => by
  obtain ⟨j, hj, e1⟩ := List.getElem_of_mem he
  obtain ⟨w', q1, q2⟩ := F.es.key j hj
  rw [ix_lt hj, e1] at q2
  have := F.rng
  exact ⟨j + 1, w', by have := F.el; omega, by omega, q2⟩
theorem laid0 {s : Src} {m : Nat} {E : List En} (F : FF s m E) : appS s.filled.x ((m + 1 : Nat) : Int) clm = (laidS s.filled.x m 0, 0) ∧ LaidF s.filled.x m E s.filled.at_ 0 0 := by
  have hm := F.rng
  have h1 := F.len
  have h2 := F.nxt
  obtain ⟨x', L⟩ := F.lg.lay (by omega) (by omega) (by omega) clm_ok
  have e : laidS s.filled.x m 0 = x' := by unfold laidS; rw [L.app]
  refine ⟨by rw [e]; exact L.app, ?_, ?_, ?_, ?_⟩
  · rw [e, ← app_clm m E s.filled.at_]; exact L.lg
  · rw [e]; have := L.len; omega
  · rw [e]; have := L.nxt; omega
  · intro k hk
    rw [e]
    exact L.ot k (hk _)
theorem laid1 {x : Sto} {m : Nat} {E : List En} {A : Int} {j : Nat} (hm : m ≤ 5) (hE : ∀ e ∈ E, ∃ k w : Nat, k ≤ 999999 ∧ w ≤ 999999 ∧ e.key = keyB 0 k w) (hA : 0 ≤ A) (h : LaidF x m E A j j) (hj : j ≤ 20) :
    appS (laidS x m j) ((m + 2 + j : Nat) : Int) (pubR j) = (laidS x m (j + 1), 0) ∧ LaidF x m E A (j + 1) (if 5 * (j : Int) + 5 ≤ A then j + 1 else j) := by
  have h1 := h.len
  have h2 := h.nxt
  obtain ⟨x', L⟩ := h.lg.lay (by omega) (by omega) (by omega) (pubR_ok (i := j) (by omega))
  have ea : m + 1 + j + 1 = m + 2 + j := by omega
  have La := L.app
  rw [ea] at La
  have e : laidS x m (j + 1) = x' := by
    show (appS (laidS x m j) ((m + 2 + j : Nat) : Int) (pubR j)).1 = x'
    rw [La]
  refine ⟨by rw [e]; exact La, ?_, ?_, ?_, ?_⟩
  · rw [e]
    have := L.lg
    rw [app_pub (by omega) hE hA, show m + 1 + j + 1 = m + 1 + (j + 1) by omega] at this
    split
    · rename_i g; rw [if_pos g] at this; exact this
    · rename_i g; rw [if_neg g] at this; exact this
  · rw [e]; have := L.len; omega
  · rw [e]; have := L.nxt; omega
  · intro k hk
    obtain ⟨c1, c2⟩ := h.ot k hk
    obtain ⟨d1, d2⟩ := L.ot k (hk _)
    rw [e]
    exact ⟨d1.trans c1, fun g => (d2 (c1.trans g)).trans (c2 g)⟩
def pc (A : Int) (j : Nat) : Nat := if 5 * (j : Int) ≤ A then j else j - 1
theorem laid_all {s : Src} {m : Nat} {E : List En} (F : FF s m E) {et : Int} (het : et ≤ s.filled.at_) {U : Nat} (hU20 : U ≤ 20) (hU : ∀ j : Nat, j < U → 5 * (j : Int) < et) : ∀ j : Nat, j ≤ U → LaidF s.filled.x m E s.filled.at_ j (pc s.filled.at_ j)
  | 0, _ => by
    have := (laid0 F).2
    have h := F.at_
    unfold pc
    split <;> exact this
  | j + 1, hj => by
    have ih := laid_all F het hU20 hU j (by omega)
    have h := F.at_
    have h2 := hU j (by omega)
    have ej : pc s.filled.at_ j = j := by unfold pc; rw [if_pos (by omega)]
    rw [ej] at ih
    have := (laid1 (by have := F.rng; omega) F.keys (by omega) ih (by omega)).2
    unfold pc
    by_cases g : 5 * (j : Int) + 5 ≤ s.filled.at_
    · rw [if_pos g] at this; rw [if_pos (by omega)]; exact this
    · rw [if_neg g] at this; rw [if_neg (by omega)]; exact this
/-- how many windows are begun ahead of a time -/
def upN (t : Int) : Nat := ((t + 4) / 5).toNat
structure PinE (s : Src) (m : Nat) (E : List En) (e : En) (r : List En) : Prop where
  hE : E = e :: r
  f : e.f = 0
  t : 1 ≤ e.t ∧ e.t ≤ 60 ∧ e.t ≤ s.filled.at_
  ok : e.ok = true
  tier : e.tier = 0
  key : ∃ w : Nat, w ≤ 1 ∧ e.key = keyB 0 1 w
  has : s.filled.x.has e.key = true
structure PinZ (x : Sto) (m : Nat) (E : List En) (A : Int) (e : En) (U : Nat) (z : Sto) : Prop where
  app : appS (laidS x m U) ((m + 2 + U : Nat) : Int) (retR e) = (z, 0)
  lg : LogX z (m + 2 + U) (if e.t ≤ 5 * (pc A U : Int) then resP m U (pc A U) E A e else stQ m U (pc A U) E A)
  len : z.os.length ≤ 12 + U
  nxt : z.next ≤ 13 + U
  has : z.has e.key = true
  nop : noPin z
def pinK4 : List UInt8 := [112, 105, 110, 47, 52]
structure PinW (z : Sto) (e : En) (now : Int) (u v w : Sto) (S : Sta) : Prop where
  put : z.putA pinK4 (Lib.itoa (now - 6)) = (u, 0)
  uok : u.ok = true
  s1 : swT u now = (u, 18)
  s2 : swT u (now + 1) = (v, 0)
  vok : v.ok = true
  vno : v.has e.key = false
  s3 : swT v (now + 1) = (w, 0)
  wok : w.ok = true
  log : logS w = S
end Go.Proofs.YtfaffgneccjpbaaGreatDoor
