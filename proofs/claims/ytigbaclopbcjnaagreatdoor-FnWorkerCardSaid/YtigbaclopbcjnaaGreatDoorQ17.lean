/- Contracts of functions that the claim reaches, and the plain law of what they compute; each theorem bears its own conditions. -/
import Derived.Test.YtigbaclopbcjnaaGreatDoorQ16
import Derived.Test.YtigbaclopbcjnaaGreatDoorQ14
import Derived.Test.YtigbaclopbcjnaaGreatDoorQ4
import Derived.Test.YtigbaclopbcjnaaGreatDoorQ2
import Derived.Test.YtigbaclopbcjnaaGreatDoorQ5
import Derived.Test.YtigbaclopbcjnaaGreatDoorQ11
import Derived.Test.YtigbaclopbcjnaaGreatDoorQ6
import Derived.Test.YtigbaclopbcjnaaGreatDoorV52
import Derived.Test.YtigbaclopbcjnaaGreatDoorQ12
import Derived.Test.YtigbaclopbcjnaaGreatDoorQ15
import Derived.Test.YtigbaclopbcjnaaGreatDoorQ13
set_option linter.unusedVariables false
set_option linter.constructorNameAsVariable false
set_option linter.unusedSimpArgs false
set_option maxRecDepth 20000
set_option maxHeartbeats 1000000
namespace Go.Proofs.YtigbaclopbcjnaaGreatDoor
open Go Go.Vw
theorem smps_mem {L : List Smp} (h : smpsOK L = true) : ∀ e ∈ L, (0 ≤ e.t ∧ e.t ≤ 99999) ∧ (-1000000 ≤ e.v ∧ e.v ≤ 1000000) := fun e he => by
 obtain ⟨i, hi, e0⟩ := List.getElem_of_mem he
 unfold smpsOK at h
 rw [Bool.and_eq_true] at h
 have := allN_iff.1 h.2 i hi
 unfold smpAt at this
 rw [ix_lt hi, e0] at this
 simp [within] at this
 exact ⟨this.1.1, this.1.2⟩
theorem smps_of {L : List Smp} (hl : L.length ≤ 4096) (hm : ∀ e ∈ L, (0 ≤ e.t ∧ e.t ≤ 99999) ∧ (-1000000 ≤ e.v ∧ e.v ≤ 1000000)) (hp : L.Pairwise (fun x y => x.t < y.t)) : smpsOK L = true := by
 unfold smpsOK
 rw [decide_eq_true hl, Bool.true_and]
 refine allN_iff.2 fun i hi => ?_
 have h1 := hm _ (getD_mem (L := L) hi)
 have h1 : (0 ≤ (ix L i).t ∧ (ix L i).t ≤ 99999) ∧ (-1000000 ≤ (ix L i).v ∧ (ix L i).v ≤ 1000000) := h1
 unfold smpAt
 simp only [within]
 rcases Nat.eq_zero_or_pos i with h0 | h0
 · simp [h0] at *; omega
 · have h2 : (ix L (i - 1)).t < (ix L i).t := by
    have := List.pairwise_iff_getElem.1 hp (i - 1) i (by omega) hi (by omega)
    rw [ix_lt hi, ix_lt (show i - 1 < L.length by omega)]
    exact this
   simp; omega
theorem smps_cat {a b : List Smp} {h0 : Int} (ha : smpsOK a = true) (hb : smpsOK b = true) (h1 : ∀ e ∈ a, e.t < h0) (h2 : ∀ e ∈ b, h0 ≤ e.t) (hl : a.length + b.length ≤ 4096) : smpsOK (a ++ b) = true := by
 refine smps_of (by rw [List.length_append]; exact hl) (fun e he => ?_) (List.pairwise_append.2 ⟨smps_pw ha, smps_pw hb, fun x hx y hy => ?_⟩)
 · rcases List.mem_append.1 he with h | h
   · exact smps_mem ha e h
   · exact smps_mem hb e h
 · have := h1 x hx
   have := h2 y hy
   omega
section ig
variable {x : Sto} {n : Nat} {s : Sta} {ac : List Smp} {me C : Int}
theorem ingR_I {id : Int} (h : 0 ≤ id ∧ id ≤ 9) : IgI x s (ingR id) := ⟨ingR_ok h, fun h => absurd (show false = true from h) (by decide), fun h => absurd (show false = true from h) (by decide)⟩
end ig
structure RrF (r : Rr) : Prop where
 id : 0 ≤ r.id ∧ r.id ≤ 9
 ph : 0 ≤ r.ph ∧ r.ph ≤ 4
 tier : r.tier = 0 ∨ r.tier = 1 ∨ r.tier = 2
 rg : isRange r.f r.t = true
 til : 0 ≤ r.til ∧ r.til ≤ 200000
 code : 0 ≤ r.code ∧ r.code ≤ 19
 got : r.got.ok = true ∧ r.got.c ≤ 1000
 len : r.left.length ≤ 300
 es : ∀ e ∈ r.left, e.ok = true ∧ e.tier = r.tier
theorem rr_iff (r : Rr) : r.ok = true ↔ RrF r := by
 unfold Rr.ok gotOK atTier
 simp only [Bool.and_eq_true, decide_eq_true_eq, List.all_eq_true, within]
 constructor
 · rintro ⟨h1, h2, h3, h4, h5, h6, h7, h8, h9⟩
   exact ⟨h1, h2, by omega, h4, h5, h6, h7, by omega, h9⟩
 · intro h
   exact ⟨h.id, h.ph, by have := h.tier; omega, h.rg, h.til, h.code, h.got, by have := h.len; omega, h.es⟩
section rd
variable {x : Sto} {n : Nat} {s : Sta} {ac : List Smp} {C : Int}
end rd
section sw
variable {x : Sto} {n : Nat} {s : Sta} {ac : List Smp} {C : Int}
end sw


structure FlI (f : Fl) (M Q : Nat) : Prop where
 st : StI f.st (logEnd f.st) (logS f.st) f.ac
 clk : 3 ≤ f.clk ∧ f.clk ≤ 100000
 sk : ∀ k ∈ [f.k0, f.k1, f.k2, f.k3, f.k4, f.k5, f.k6], -3 ≤ k ∧ k ≤ 3
 ws : ∃ w0 w1, f.ws = [w0, w1] ∧ (w0.id = 0 ∧ w1.id = 1) ∧ WkI f.st (logS f.st) f.ac w0 ∧ WkI f.st (logS f.st) f.ac w1
 gs : ∃ g0 g1, f.gs = [g0, g1] ∧ (g0.id = 2 ∧ g1.id = 3) ∧ (IgI f.st (logS f.st) g0 ∧ IgI f.st (logS f.st) g1) ∧ f.ac.length + g0.b.length + g1.b.length ≤ M
 rs : ∃ r0 r1, f.rs = [r0, r1] ∧ (r0.id = 4 ∧ r1.id = 5) ∧ RdI f.st (logS f.st) f.ac f.clk r0 ∧ RdI f.st (logS f.st) f.ac f.clk r1
 an : (∀ a ∈ f.an, AnI (logS f.st) f.ac a) ∧ f.an.length ≤ Q
section fl
variable {f : Fl} {M Q : Nat}
end fl
section fl2
variable {f : Fl} {M Q : Nat}
theorem rd_idle {x : Sto} {s : Sta} {ac : List Smp} {C : Int} {r : Rr} (h : r.ok = true) (h0 : r.ph = 0 ∨ (r.ph = 1 ∧ r.got = default)) : RdI x s ac C r :=
 ⟨h, fun g => by omega, fun g => by rcases h0 with h0 | h0; · omega
                                    · exact h0.2, fun g => by omega, fun g => by omega, fun g => by omega⟩
theorem rd0_ok {id : Int} (h : 0 ≤ id ∧ id ≤ 9) : (rd0 id).ok = true :=
 (rr_iff _).2 ⟨h, (by decide : (0 : Int) ≤ 0 ∧ (0 : Int) ≤ 4), .inl rfl, (by decide : isRange 0 0 = true), (by decide : (0 : Int) ≤ 0 ∧ (0 : Int) ≤ 200000), (by decide : (0 : Int) ≤ 0 ∧ (0 : Int) ≤ 19), ⟨rfl, (by decide : (0 : Int) ≤ 1000)⟩, by simp [rd0], by simp [rd0]⟩
end fl2
def newF : Fl := ⟨stoN0, 10, 0, 0, 0, 0, 0, 0, 0, [wkR 0, wkR 1], [ingR 2, ingR 3], [rd0 4, rd0 5], [], []⟩


theorem app_eok {s : Sta} (h : ∀ e ∈ s.es, e.ok = true) {r : Rc} (hr : r.ok = true) : ∀ e ∈ (s.app r).es, e.ok = true := by
 intro e he
 unfold Sta.app at he
 split at he
 · split at he
   · rename_i hk
     rw [(lift_es _ _ _).1] at he
     rcases List.mem_append.1 he with he | he
     · exact h e he
     · rw [List.mem_singleton.1 he]
       unfold Rc.ok at hr
       rcases hk with hk | hk
       · rw [if_pos hk] at hr
         simp only [Bool.and_eq_true] at hr
         exact hr.2.2
       · rw [if_neg (by omega), if_neg (by omega), if_pos hk] at hr
         simp only [Bool.and_eq_true] at hr
         exact hr.2.2
   · split at he
     · exact h e he
     · split at he
       · rw [(lower_es _ _ _).1] at he
         exact h e (List.mem_filter.1 he).1
       · exact h e he
 · exact h e he
theorem logN_eok (x : Sto) : ∀ n, ∀ e ∈ (logN x n).es, e.ok = true
 | 0, e, he => by cases he
 | n + 1, e, he => by
   have ih := logN_eok x n
   have he : e ∈ (stepL x (logN x n)).es := he
   unfold stepL at he
   split at he
   · exact ih e he
   · rename_i r hr
     exact app_eok ih (readR_ok hr) e he
theorem logS_eok (x : Sto) : ∀ e ∈ (logS x).es, e.ok = true := logN_eok x _


theorem log_none : LogX stoN0 0 sta0 := ⟨by decide, fun k h1 h2 => by rw [decide_eq_false (by omega)]; rfl, rfl, rfl⟩
theorem newF_I : FlI newF 0 0 := by
 have L := log_none
 have e1 : logEnd newF.st = 0 := L.fin
 have e2 : logS newF.st = sta0 := L.log
 have hst : StI stoN0 0 sta0 [] := by
  refine ⟨L, ⟨?_, ?_, ?_, ?_, ?_, ?_, ?_, fun t h => (by cases h)⟩, fun e h => (by cases h), fun k h => ?_, by decide, fun a h => (by cases h)⟩
  · show (0 : Int) ≤ 0; omega
  · show (0 : Int) ≤ 0; omega
  · show (0 : Int) ≤ 0; omega
  · show (0 : Int) ≤ 0; omega
  · show (0 : Int) % 5 = 0; decide
  · show (0 : Int) % 20 = 0; decide
  · show (0 : Int) ≤ 0 ∧ (0 : Int) ≤ 100000; omega
  · cases h
 refine ⟨by rw [e1, e2]; exact hst, (by decide : (3 : Int) ≤ 10 ∧ (10 : Int) ≤ 100000), ?_, ⟨wkR 0, wkR 1, rfl, ⟨rfl, rfl⟩, wkR_I (by omega), wkR_I (by omega)⟩, ⟨ingR 2, ingR 3, rfl, ⟨rfl, rfl⟩, ⟨ingR_I (by omega), ingR_I (by omega)⟩, Nat.le_refl _⟩,
  ⟨rd0 4, rd0 5, rfl, ⟨rfl, rfl⟩, rd_idle (rd0_ok (by omega)) (.inl rfl), rd_idle (rd0_ok (by omega)) (.inl rfl)⟩, fun a h => (by cases h), Nat.le_refl _⟩
 show ∀ k ∈ [(0 : Int), 0, 0, 0, 0, 0, 0], -3 ≤ k ∧ k ≤ 3
 simp
theorem eqS_rfl {α : Type} [Inhabited α] (f : α → α → Bool) (h : ∀ a, f a a = true) (L : List α) : eqS f L L = true := by
 unfold eqS
 rw [decide_eq_true rfl, Bool.true_and]
 exact allN_iff.2 fun i _ => h _
theorem stepW_jk {x : Sto} {w : Wk} (h : w.job.key.length ≤ 30) (now : Int) : (stepW x w now).2.1.job.key.length ≤ 30 := by
 have hR : ∀ id, (wkR id).job.key.length ≤ 30 := fun _ => by show ([] : List UInt8).length ≤ 30; decide
 have hd : (default : Rc).key.length ≤ 30 := by decide
 unfold stepW
 repeat' (first
  | exact h
  | exact hR _
  | exact hd
  | split)
 · rename_i he
   show (expR (logS x) now).1.key.length ≤ 30
   have := key_len (en_key (logS_eok x _ (exp_mem he))).1
   omega
 · show (keyB _ _ _).length ≤ 30
   have := (key_size (dueT (logS x).h0 (logS x).h1 (logS x).h2).toNat (dueF (logS x).h0 (logS x).h1 (logS x).h2).toNat w.tok.toNat).1
   omega
section conseq
variable {f : Fl} {M Q : Nat}
end conseq
theorem stepW_shape (x : Sto) (w : Wk) (now : Int) : (stepW x w now).2.2 = 0 ∨ stepW x w now = (x, w, 18) ∨ ((stepW x w now).1 = x ∧ (stepW x w now).2.1 = wkR w.id ∧ (stepW x w now).2.2 ≠ 18) := by
 have room18 : ∀ k d, x.room k d ≠ 18 := fun k d => by
  unfold Sto.room
  split
  · decide
  · split <;> decide
 have app18 : ∀ n r, (appS x n r).2 ≠ 18 := fun n r => by
  unfold appS Sto.putA
  split
  · show (9 : Int) ≠ 18; decide
  · exact room18 _ _
 have put18 : ∀ k d, (x.putA k d).2 ≠ 18 := fun k d => by
  unfold Sto.putA
  split
  · show (9 : Int) ≠ 18; decide
  · exact room18 _ _
 unfold stepW
 split
 · split
   · exact .inr (.inl rfl)
   · exact .inl rfl
 split
 · split
   · exact .inl rfl
   · refine .inr (.inr ⟨rfl, rfl, ?_⟩)
     show acqR x w.id now ≠ 18
     unfold acqR
     split
     · exact room18 _ _
     · unfold acqC
       split
       · decide
       · split
         · decide
         · split <;> decide
 split
 · split
   · exact .inl rfl
   · exact .inr (.inr ⟨rfl, rfl, app18 _ _⟩)
 split
 · split
   · split
     · split <;> exact .inl rfl
     · exact .inl rfl
   · exact .inr (.inr ⟨rfl, rfl, show (13 : Int) ≠ 18 by decide⟩)
 split
 · split
   · exact .inl rfl
   · split
     · exact .inl rfl
     · refine .inr (.inr ⟨rfl, rfl, ?_⟩)
       show (winR x _ _ _ _).2 ≠ 18
       unfold winR
       split
       · show (0 : Int) ≠ 18; decide
       · show (5 : Int) ≠ 18; decide
 split
 · split
   · exact .inl rfl
   · exact .inr (.inr ⟨rfl, rfl, put18 _ _⟩)
 split
 · split
   · split
     · exact .inl rfl
     · exact .inr (.inr ⟨rfl, rfl, app18 _ _⟩)
   · exact .inr (.inr ⟨rfl, rfl, show (13 : Int) ≠ 18 by decide⟩)
 · split
   · exact .inl rfl
   · refine .inr (.inr ⟨rfl, rfl, ?_⟩)
     show (x.chg w.id w.tok 0).2 ≠ 18
     unfold Sto.chg
     split
     · exact room18 _ _
     · unfold Sto.chgC
       show (if x.lea.2 = 17 then (17 : Int) else if x.lea.2 ≠ 0 ∨ x.lea.1.who ≠ w.id ∨ x.lea.1.tok ≠ w.tok ∨ x.lea.1.til = 0 then 13 else 0) ≠ 18
       split
       · decide
       · split <;> decide
theorem stepped_fn {x : Sto} {w : Wk} {now : Int} (H : WkW x w now) : VFn Tryz.prog 17 [w.av, x.av, .int .i64 now] (.tup [(stepW x w now).1.av, (stepW x w now).2.1.av, .int .i64 (stepW x w now).2.2]) := by
 obtain ⟨y', v', c, hz⟩ := wstep_fn H
 have sh := stepW_shape x w now
 generalize stepW x w now = p at *
 obtain ⟨y, v, k⟩ := p
 have hz : k = 0 → y' = y ∧ v' = v := hz
 have c : VFn Tryz.prog 37 [w.av, x.av, .int .i64 now] (.tup [y'.av, v'.av, .int .i64 k]) := c
 by_cases h0 : k = 0
 · obtain ⟨e1, e2⟩ := hz h0
   subst h0 e1 e2
   refine VFn.introC Tryz.call17 Tryz.func17 rfl rfl ?_
   conv => whnf
   refine CallC.nl _ (c) ?_ ?_
   · exact rfl
   refine DrawC.mkQ 5 [(.inl 2, 2), (.inl 3, 3)] rfl (by kernel_rfl) ?_
   refine And.intro rfl ?_
   exact And.intro trivial (AVle.refl _)
 clear hz
 by_cases h18 : k = 18
 · have h : y = x ∧ v = w := by
    rcases sh with h | h | ⟨_, _, h⟩
    · exact absurd h h0
    · cases h; exact ⟨rfl, rfl⟩
    · exact absurd h18 h
   obtain ⟨e1, e2⟩ := h
   subst h18 e1 e2
   refine VFn.introC Tryz.call17 Tryz.func17 rfl rfl ?_
   conv => whnf
   refine CallC.nl _ (c) ?_ ?_
   · exact rfl
   conv => whnf
   refine DrawC.mkQ 6 [(.inl 2, 3), (.inl 3, 4)] rfl (by kernel_rfl) ?_
   refine And.intro rfl ?_
   exact And.intro trivial (AVle.refl _)
 · have h : y = x ∧ v = wkR w.id := by
    rcases sh with h | h | ⟨h1, h2, h⟩
    · exact absurd h h0
    · cases h; exact absurd rfl h18
    · exact ⟨h1, h2⟩
   obtain ⟨e1, e2⟩ := h
   subst e1 e2
   refine VFn.introC Tryz.call17 Tryz.func17 rfl rfl ?_
   conv => whnf
   refine CallC.nl _ (c) ?_ ?_
   · exact rfl
   conv => whnf
   refine Grd.intro (fun h => absurd (of_decide_eq_true h) h0) (fun _ => ?_)
   refine Grd.intro (fun h => absurd (of_decide_eq_true h) h18) (fun _ => ?_)
   conv => whnf
   refine DrawC.mkQ 8 [(.inl 2, 5), (.inl 3, 6)] rfl (by kernel_rfl) ?_
   refine And.intro rfl ?_
   exact And.intro trivial (AVle.tup (AVsle.cons (AVle.refl _) (AVsle.cons (nilW _ _ _ default default) (AVsle.refl _))))
theorem wkW_of {x : Sto} {n : Nat} {s : Sta} {ac : List Smp} (I : StI x n s ac) (hac : ac.length ≤ 1000) {w : Wk} (W : WkI x s ac w) {now : Int} (hn : 0 ≤ now ∧ now ≤ 101000) : WkW x w now := by
 have F := (wk_iff w).1 W.ok
 refine ⟨I.lg.ok, W.ok, hn, fun h4 e l hl hh => ?_, ?_⟩
 · obtain ⟨p1, p2⟩ := W.p4 h4
   rw [hl] at p1
   exact (win_step I hac F.got.1 p1 (p2 e (by rw [hl]; simp)) hh).1
 · rw [I.lg.log]
   have := I.li.h10
   have := I.li.h21
   have := I.li.nn
   omega
theorem copiedW_fn (w : Wk) (hL : w.ins.length ≤ 1000000) : VFn Tryz.prog 19 [w.av] w.av := by
 have c : VFn Tryz.prog 39 [ents w.ins] (ents w.ins) := (CloneEn_own w.ins hL).vfn
 refine VFn.introC Tryz.call19 Tryz.func19 rfl rfl ?_
 conv => whnf
 refine CallC.nl _ (c) ?_ ?_
 · exact rfl
 exact And.intro trivial (AVle.refl _)
theorem flt_yes {α : Type} [Inhabited α] {p : α → Bool} {L : List α} {i : Nat} (h : i < L.length) (hp : p (ix L i) = true) : (L.take (i + 1)).filter p = (L.take i).filter p ++ [ix L i] := by
 rw [take_snoc h, List.filter_append]; simp [hp]
theorem flt_no {α : Type} [Inhabited α] {p : α → Bool} {L : List α} {i : Nat} (h : i < L.length) (hp : p (ix L i) = false) : (L.take (i + 1)).filter p = (L.take i).filter p := by
 rw [take_snoc h, List.filter_append]; simp [hp]
theorem l04Count_fn (P : List Bk) (hl : P.length ≤ 8) (hP : ∀ b ∈ P, b.a.ok = true) : VFn Tryz.prog 142 [bks P] (.int .i64 (cntB P)) := by
 have hB := foldB_b hP 0 0
 refine VFn.introC Tryz.call142 Tryz.func142 rfl rfl ?_
 refine LoopC.mk (fun i : Nat => i ≤ P.length) (fun i => [(0, bks P), (3, .int .i64 (cntB (P.take i))), (4, .int .i64 i)]) (fun _ => []) 0 (fun i => P.length - i) 0
  ⟨Nat.zero_le _, [], rfl, rfl, ⟨AVle.refl _, AVle.refl _, AVle.refl _, trivial⟩, trivial⟩ ?_
 intro i hi
 refine Grd.intro (fun g => ?_) (fun g => ?_)
 · have hi2 : i < P.length := by have := of_decide_eq_true g; omega
   obtain ⟨q1, q2, q3⟩ := hB i hi
   obtain ⟨b1, b2, _⟩ := Ag.bounds (hP _ (getD_mem (L := P) hi2))
   have b1 : -100000000000 ≤ (ix P i).a.c ∧ (ix P i).a.c ≤ 100000000000 := b1
   refine And.intro (by omega) ?_
   refine And.intro (show inI .i64 (cntB (P.take i) + (ix P i).a.c) from inI64 (by omega) (by omega)) ?_
   refine And.intro (inI64 (by omega) (by omega)) ?_
   exact ⟨i + 1, hi2, by omega, [], rfl, rfl, ⟨AVle.refl _, AVle.of_eq (congrArg (AV.int .i64) (cntB_snoc hi2).symm), AVle.of_eq (congrArg (AV.int .i64) (by simp)), trivial⟩, trivial⟩
 · have : i = P.length := by have := of_decide_eq_false g; omega
   subst this
   exact And.intro trivial (AVle.of_eq (congrArg (AV.int .i64) (by rw [List.take_of_length_le (Nat.le_refl _)])))
theorem l04Fold_fn (P : List Bk) (hl : P.length ≤ 8) (hP : ∀ b ∈ P, b.a.ok = true) (a b : Int) (hb : inI .i64 (b - 1)) : VFn Tryz.prog 141 [bks P, .int .i64 a, .int .i64 b] (foldB (inB P a b)).av := by
 have hB := foldB_b hP a b
 refine VFn.introC Tryz.call141 Tryz.func141 rfl rfl ?_
 refine LoopC.mk (fun i : Nat => i ≤ P.length) (fun i => [(0, bks P), (1, .int .i64 a), (2, .int .i64 b), (6, .bptr 0 0), (7, .bptr 1 0), (8, .int .i64 i)])
  (fun i => [(0, .box [.int .i64 0, .int .i64 0, .int .i64 0, .int .i64 0, .int .i64 0, .int .i64 0]), (1, .box (foldB (inB (P.take i) a b)).cells)]) 2 (fun i => P.length - i) 0
  ⟨Nat.zero_le _, [(0, 0), (1, 1)], rfl, rfl, ⟨AVle.refl _, AVle.refl _, AVle.refl _, AVle.refl _, AVle.refl _, AVle.refl _, trivial⟩, ⟨MOle.refl _, MOle.refl _, trivial⟩⟩ ?_
 intro i hi
 refine Grd.intro (fun g => ?_) (fun g => ?_)
 · have hi2 : i < P.length := by have := of_decide_eq_true g; omega
   obtain ⟨q1, q2, q3⟩ := hB i hi
   obtain ⟨b1, b2, _⟩ := Ag.bounds (hP _ (getD_mem (L := P) hi2))
   have b1 : -100000000000 ≤ (ix P i).a.c ∧ (ix P i).a.c ≤ 100000000000 := b1
   have b2 : -100000000000 ≤ (ix P i).a.s ∧ (ix P i).a.s ≤ 100000000000 := b2
   have ef := foldB_in (a := a) (b := b) hi2
   refine And.intro (by omega) ?_
   refine And.intro hb ?_
   conv => whnf
   refine CallC.sca _ (l01In_fn _ _ _) ?_ ?_
   · exact rfl
   refine Grd.intro (fun h3 => ?_) (fun h3 => ?_)
   · have h3 : within (ix P i).t a (b - 1) = true := h3
     rw [if_pos h3] at ef
     refine DrawC.mq 7 rfl (by kernel_rfl) ?_
     refine And.intro (by omega) ?_
     refine PCallQ.sca _ (l02Merge_fn (foldB (inB (P.take i) a b)) (ix P i).a (inI64 (by omega) (by omega)) (inI64 (by omega) (by omega))) rfl ?_
     refine And.intro (inI64 (by omega) (by omega)) ?_
     exact ⟨i + 1, hi2, by omega, [(0, 0), (1, 1)], rfl, rfl, ⟨AVle.refl _, AVle.refl _, AVle.refl _, AVle.refl _, AVle.refl _, AVle.of_eq (congrArg (AV.int .i64) (by simp)), trivial⟩, ⟨MOle.refl _, MOle.of_eq (show MO.box ((foldB (inB (P.take i) a b)).mrg (ix P i).a).cells = _ by rw [ef]), trivial⟩⟩
   · have h3 : within (ix P i).t a (b - 1) = false := h3
     rw [if_neg (by rw [h3]; decide)] at ef
     refine And.intro (inI64 (by omega) (by omega)) ?_
     exact ⟨i + 1, hi2, by omega, [(0, 0), (1, 1)], rfl, rfl, ⟨AVle.refl _, AVle.refl _, AVle.refl _, AVle.refl _, AVle.refl _, AVle.of_eq (congrArg (AV.int .i64) (by simp)), trivial⟩, ⟨MOle.refl _, MOle.of_eq (show MO.box (foldB (inB (P.take i) a b)).cells = _ by rw [ef]), trivial⟩⟩
 · have : i = P.length := by have := of_decide_eq_false g; omega
   subst this
   exact And.intro trivial (AVle.of_eq (show (foldB (inB (P.take P.length) a b)).av = _ by rw [List.take_of_length_le (Nat.le_refl _)]))
def cvB (k a b : Int) (e : En) : Bool := decide (e.tier = k) && (decide (e.f < b) && decide (a < e.t))
theorem l07Cover_fn (s : Sta) (hL : s.es.length ≤ 1000000) (k a b : Int) : VFn Tryz.prog 100 [s.av, .int .i64 k, .int .i64 a, .int .i64 b] (ents (s.es.filter (cvB k a b))) := by
 obtain ⟨R, hR⟩ : ∃ R, R = s.es.filter (cvB k a b) := ⟨_, rfl⟩
 rw [← hR]
 have hl := fun i => Nat.le_trans (List.length_filter_le (cvB k a b) (s.es.take i)) (by simp; omega : (s.es.take i).length ≤ i)
 refine VFn.introC Tryz.call100 Tryz.func100 rfl rfl ?_
 refine LoopC.mk (fun i : Nat => i ≤ s.es.length) (fun i => [(1, .int .i64 k), (2, .int .i64 a), (3, .int .i64 b), (4, .bptr 0 0), (9, .osl 1), (10, .int .i64 i)])
  (fun i => [(0, .box s.row), (1, .arr 58 4 ((s.es.take i).filter (cvB k a b)).length fun j => (ix ((s.es.take i).filter (cvB k a b)) j).row)]) 2 (fun i => s.es.length - i) 0
  ⟨Nat.zero_le _, [(0, 0), (1, 1)], rfl, rfl, ⟨AVle.refl _, AVle.refl _, AVle.refl _, AVle.refl _, AVle.refl _, AVle.refl _, trivial⟩, ⟨MOle.refl _, MOle.arr rfl fun i hi => absurd hi (Nat.not_lt_zero i), trivial⟩⟩ ?_
 intro i hi
 refine Grd.intro (fun g => ?_) (fun g => ?_)
 · have hi2 : i < s.es.length := by have := of_decide_eq_true g; omega
   refine And.intro (by omega) ?_
   conv => whnf
   refine Grd.intro (fun h1 => ?_) (fun h1 => ?_)
   · refine Grd.intro (fun h2 => ?_) (fun h2 => ?_)
     · refine Grd.intro (fun h3 => ?_) (fun h3 => ?_)
       · have hs := flt_yes (p := cvB k a b) hi2 (by unfold cvB; rw [show decide ((ix s.es i).tier = k) = true from h1, show decide ((ix s.es i).f < b) = true from h2, show decide (a < (ix s.es i).t) = true from h3]; rfl)
         conv => whnf
         refine And.intro ⟨show (((s.es.take i).filter (cvB k a b)).length + 1) * 40 ≤ 140737488355328 by have := hl i; omega, all1 rfl⟩ ?_
         refine And.intro (inI64 (by omega) (by omega)) ?_
         refine ⟨i + 1, hi2, by omega, [(0, 0), (4, 1)], rfl, rfl, ⟨AVle.refl _, AVle.refl _, AVle.refl _, AVle.refl _, AVle.refl _, AVle.of_eq (congrArg (AV.int .i64) (by simp)), trivial⟩, ⟨MOle.refl _, ?_, trivial⟩⟩
         exact arr_next (f := En.row) hs rfl
       · have hs := flt_no (p := cvB k a b) hi2 (by unfold cvB; rw [show decide (a < (ix s.es i).t) = false from h3]; simp)
         refine And.intro (inI64 (by omega) (by omega)) ?_
         exact ⟨i + 1, hi2, by omega, [(0, 0), (1, 1)], rfl, rfl, ⟨AVle.refl _, AVle.refl _, AVle.refl _, AVle.refl _, AVle.refl _, AVle.of_eq (congrArg (AV.int .i64) (by simp)), trivial⟩, ⟨MOle.refl _, MOle.of_eq (show MO.arr 58 4 ((s.es.take i).filter (cvB k a b)).length (fun j => (ix ((s.es.take i).filter (cvB k a b)) j).row) = _ by rw [hs]), trivial⟩⟩
     · have hs := flt_no (p := cvB k a b) hi2 (by unfold cvB; rw [show decide ((ix s.es i).f < b) = false from h2]; simp)
       refine And.intro (inI64 (by omega) (by omega)) ?_
       exact ⟨i + 1, hi2, by omega, [(0, 0), (1, 1)], rfl, rfl, ⟨AVle.refl _, AVle.refl _, AVle.refl _, AVle.refl _, AVle.refl _, AVle.of_eq (congrArg (AV.int .i64) (by simp)), trivial⟩, ⟨MOle.refl _, MOle.of_eq (show MO.arr 58 4 ((s.es.take i).filter (cvB k a b)).length (fun j => (ix ((s.es.take i).filter (cvB k a b)) j).row) = _ by rw [hs]), trivial⟩⟩
   · have hs := flt_no (p := cvB k a b) hi2 (by unfold cvB; rw [show decide ((ix s.es i).tier = k) = false from h1]; simp)
     refine And.intro (inI64 (by omega) (by omega)) ?_
     exact ⟨i + 1, hi2, by omega, [(0, 0), (1, 1)], rfl, rfl, ⟨AVle.refl _, AVle.refl _, AVle.refl _, AVle.refl _, AVle.refl _, AVle.of_eq (congrArg (AV.int .i64) (by simp)), trivial⟩, ⟨MOle.refl _, MOle.of_eq (show MO.arr 58 4 ((s.es.take i).filter (cvB k a b)).length (fun j => (ix ((s.es.take i).filter (cvB k a b)) j).row) = _ by rw [hs]), trivial⟩⟩
 · have : i = s.es.length := by have := of_decide_eq_false g; omega
   subst this
   have e : (s.es.take s.es.length).filter (cvB k a b) = R := by rw [List.take_of_length_le (Nat.le_refl _), hR]
   subst e
   exact And.intro trivial (AVle.sl rfl fun j hj => rfl)
theorem l08Window_fn (e : En) (d : List UInt8) (hl : d.length ≤ 1000) (a b : Int) (hb : inI .i64 (b - 1)) (hg : goodD e d = true) : VFn Tryz.prog 101 [e.av, .str (B d), .int .i64 a, .int .i64 b] (.tup [(winV e d a b).av, .bool true]) := by
 unfold goodD at hg
 unfold winV
 by_cases he : e.tier = 0
 · rw [if_pos he] at hg ⊢
   have cr := l03ToSamples_gen d (by omega) (.tup [smps (rdV d), .bool true]) (fun _ => rfl) (fun h => by rw [hg] at h; cases h)
   have h2 := hg
   simp only [rdOk, Bool.and_eq_true, decide_eq_true_eq] at h2
   have hb2 := smps_bd (L := rdV d) h2.2.1
   have hn : (rdV d).length ≤ 8 := by have := h2.2.2; unfold rdV; rw [List.length_map]; omega
   have hq := smpsIn_len (rdV d) a b
   have co := l02Of_fn (smpsIn (rdV d) a b) (by omega) (fun x hx => hb2.2 x (smpsIn_mem hx))
   obtain ⟨R, hR⟩ : ∃ R, R = smpsIn (rdV d) a b := ⟨_, rfl⟩
   rw [← hR] at co
   rw [← hR]
   generalize rdV d = L at *
   have hl := fun i => Nat.le_trans (smpsIn_len (L.take i) a b) (by simp; omega : (L.take i).length ≤ i)
   refine VFn.introC Tryz.call101 Tryz.func101 rfl rfl ?_
   refine Grd.intro (fun g => ?_) (fun g => absurd he (of_decide_eq_false g))
   conv => whnf
   refine CallC.nl _ (cr) ?_ ?_
   · exact rfl
   conv => whnf
   refine LoopC.mk (fun i : Nat => i ≤ L.length) (fun i => [(2, .int .i64 a), (3, .int .i64 b), (8, .bptr 1 0), (10, smps L), (11, .bool true), (12, .osl 2), (13, .int .i64 i)])
    (fun i => [(1, .box [.int .i64 0, .int .i64 0, .int .i64 0, .int .i64 0, .int .i64 0, .int .i64 0]), (2, .arr 101 2 (smpsIn (L.take i) a b).length fun j => (ix (smpsIn (L.take i) a b) j).row)]) 3 (fun i => L.length - i) 0
    ⟨Nat.zero_le _, [(1, 1), (2, 2)], rfl, rfl, ⟨AVle.refl _, AVle.refl _, AVle.refl _, AVle.refl _, AVle.refl _, AVle.refl _, AVle.refl _, trivial⟩, ⟨MOle.refl _, MOle.arr rfl fun i hi => absurd hi (Nat.not_lt_zero i), trivial⟩⟩ ?_
   intro i hi
   refine Grd.intro (fun h2 => ?_) (fun h2 => ?_)
   · have hin : i < L.length := by have := of_decide_eq_true h2; omega
     refine And.intro (by omega) ?_
     refine And.intro hb ?_
     conv => whnf
     refine CallC.sca _ (l01In_fn _ _ _) ?_ ?_
     · exact rfl
     refine Grd.intro (fun h3 => ?_) (fun h3 => ?_)
     · have hs := smpsIn_yes hin h3
       conv => whnf
       refine And.intro (by omega) ?_
       refine And.intro ⟨show ((smpsIn (L.take i) a b).length + 1) * 16 ≤ 140737488355328 by have := hl i; omega, all1 rfl⟩ ?_
       refine And.intro (inI64 (by omega) (by omega)) ?_
       refine ⟨i + 1, hin, by omega, [(1, 1), (4, 2)], rfl, rfl, ⟨AVle.refl _, AVle.refl _, AVle.refl _, AVle.refl _, AVle.refl _, AVle.refl _, AVle.of_eq (congrArg (AV.int .i64) (by simp)), trivial⟩, ⟨MOle.refl _, ?_, trivial⟩⟩
       exact arr_next (f := Smp.row) hs rfl
     · have hs := smpsIn_no hin h3
       refine And.intro (inI64 (by omega) (by omega)) ?_
       exact ⟨i + 1, hin, by omega, [(1, 1), (2, 2)], rfl, rfl, ⟨AVle.refl _, AVle.refl _, AVle.refl _, AVle.refl _, AVle.refl _, AVle.refl _, AVle.of_eq (congrArg (AV.int .i64) (by simp)), trivial⟩, ⟨MOle.refl _, MOle.of_eq (show MO.arr 101 2 (smpsIn (L.take i) a b).length (fun j => (ix (smpsIn (L.take i) a b) j).row) = _ by rw [hs]), trivial⟩⟩
   · have : i = L.length := by have := of_decide_eq_false h2; omega
     subst this
     have e : smpsIn (L.take L.length) a b = R := by rw [List.take_of_length_le (Nat.le_refl _), hR]
     subst e
     conv => whnf
     refine CallC.sca _ (co) ?_ ?_
     · exact rfl
     exact And.intro trivial (AVle.refl _)
 · rw [if_neg he] at hg ⊢
   rw [Bool.and_eq_true] at hg
   have cr := l03ToBuckets_gen d (by omega) (.tup [bks (rbV d), .bool true]) (fun _ => rfl) (fun h => by rw [hg.1] at h; cases h)
   have h2 := hg.1
   simp only [rbOk, Bool.and_eq_true] at h2
   have h8 : (rbV d).length ≤ 8 := bks_8 h2.2
   have hok := bksOK_ok h2.2
   have cf := l04Fold_fn (rbV d) h8 (fun x hx => (hok x hx).2) a b hb
   have cc := l04Count_fn (rbV d) h8 (fun x hx => (hok x hx).2)
   have hc : cntB (rbV d) ≤ 100000 := of_decide_eq_true hg.2
   refine VFn.introC Tryz.call101 Tryz.func101 rfl rfl ?_
   refine Grd.intro (fun g => absurd (of_decide_eq_true g) he) (fun g => ?_)
   conv => whnf
   refine CallC.nl _ (cr) ?_ ?_
   · exact rfl
   conv => whnf
   conv => whnf
   refine CallC.nl _ (cf) ?_ ?_
   · exact rfl
   conv => whnf
   conv => whnf
   refine CallC.nl _ (cc) ?_ ?_
   · exact rfl
   conv => whnf
   exact And.intro trivial (AVle.tup (AVsle.cons (AVle.refl _) (AVsle.cons (AVle.of_eq (congrArg AV.bool (decide_eq_true hc))) AVsle.nil)))
def resV (p : Sto × Wk × Int) : AV := .tup [p.1.av, p.2.1.av, .int .i64 p.2.2]
theorem l08Rest_fn (w : Wk) : VFn Tryz.prog 50 [w.av] (wkR w.id).av := by
 have c1 : ∀ (a : AV) {l m : List AV}, AVsle l m → AVsle (a :: l) (a :: m) := fun a _ _ h => AVsle.cons (AVle.refl a) h
 refine VFn.introC Tryz.call50 Tryz.func50 rfl rfl ?_
 conv => whnf
 exact And.intro trivial (AVle.agg (c1 _ (c1 _ (c1 _ (c1 _ (c1 _ (c1 _ (c1 _ (c1 _ (c1 _ (AVsle.cons (AVle.sl rfl fun i hi => absurd hi (Nat.not_lt_zero i)) (AVsle.refl _))))))))))))
section
variable {x : Sto} {w : Wk} {now : Int}
theorem sstep0_fn (H : WkW x w now) (h0 : w.ph = 0) : VFn Tryz.prog 23 [x.av, w.av, .int .i64 now] (resV (stepW x w now)) := by
 have cl := l06Replay_fn x H.hs
 have cd := l07Due_fn (logS x) (by have := H.hi; omega) (by have := H.hi; omega) (by have := H.hi; omega)
 have ce := l07Expired_fn (logS x) now (by have := H.hn; omega) (logS_ok x)
 have e : stepW x w now = if dueT (logS x).h0 (logS x).h1 (logS x).h2 = 0 ∧ (expR (logS x) now).2 = false then (x, w, 18) else (x, { w with ph := 1 }, 0) := by unfold stepW; rw [if_pos h0]
 rw [e]
 clear e
 generalize dueT (logS x).h0 (logS x).h1 (logS x).h2 = d at *
 generalize dueF (logS x).h0 (logS x).h1 (logS x).h2 = df at *
 generalize expR (logS x) now = E at *
 by_cases hc : d = 0 ∧ E.2 = false
 · rw [if_pos hc]
   rw [hc.2] at ce
   rw [hc.1] at cd
   refine VFn.introC Tryz.call23 Tryz.func23 rfl rfl ?_
   refine Grd.intro (fun _ => ?_) (fun h => absurd h0 (of_decide_eq_false h))
   conv => whnf
   refine CallC.nl _ (cl) ?_ ?_
   · exact rfl
   conv => whnf
   refine CallC.sca _ (cd) ?_ ?_
   · exact rfl
   conv => whnf
   refine CallC.sca _ (ce) ?_ ?_
   · exact rfl
   conv => whnf
   refine DrawC.mkQ 5 [(.inl 2, 2), (.inl 3, 3)] rfl (by kernel_rfl) ?_
   refine And.intro rfl ?_
   exact And.intro trivial (AVle.refl _)
 · rw [if_neg hc]
   have hb : (!decide (d = 0)) = true ∨ E.2 = true := by
    rcases hE : E.2 with _ | _
    · left; simp; exact fun h => hc ⟨h, hE⟩
    · exact .inr rfl
   refine VFn.introC Tryz.call23 Tryz.func23 rfl rfl ?_
   refine Grd.intro (fun _ => ?_) (fun h => absurd (show ¬ w.ph = 0 from of_decide_eq_false h) (by omega))
   conv => whnf
   refine CallC.nl _ (cl) ?_ ?_
   · exact rfl
   conv => whnf
   refine CallC.sca _ (cd) ?_ ?_
   · exact rfl
   conv => whnf
   refine CallC.sca _ (ce) ?_ ?_
   · exact rfl
   conv => whnf
   refine Grd.intro (fun h1 => ?_) (fun h1 => ?_)
   · refine Grd.intro (fun h2 => ?_) (fun h2 => ?_)
     · exfalso
       rcases hb with hb | hb
       · rw [hb] at h1; cases h1
       · have h2 : (!E.2) = true := h2
         rw [hb] at h2; cases h2
     · conv => whnf
       refine DrawC.mkQ 5 [(.inl 2, 2), (.inl 3, 3)] rfl (by kernel_rfl) ?_
       refine And.intro rfl ?_
       exact And.intro trivial (AVle.refl _)
   · conv => whnf
     refine DrawC.mkQ 5 [(.inl 2, 2), (.inl 3, 3)] rfl (by kernel_rfl) ?_
     refine And.intro rfl ?_
     exact And.intro trivial (AVle.refl _)
theorem sstep1_fn (H : WkW x w now) (h1 : w.ph = 1) : VFn Tryz.prog 23 [x.av, w.av, .int .i64 now] (resV (stepW x w now)) := by
 have F := (wk_iff w).1 H.hw
 have ca := l05Acquire_fn x H.hs w.id now (by simp [within]; exact F.id) H.hn
 have e : stepW x w now = if acqR x w.id now = 0 then (acqS x w.id now, { w with tok := acqT x w.id now, ph := 2 }, 0) else (x, wkR w.id, acqR x w.id now) := by unfold stepW; rw [if_neg (by omega), if_pos h1]
 rw [e]
 clear e
 generalize acqR x w.id now = c at *
 by_cases hc : c = 0
 · rw [if_pos hc]
   subst hc
   refine VFn.introC Tryz.call23 Tryz.func23 rfl rfl ?_
   refine Grd.intro (fun h => absurd (of_decide_eq_true h) (by omega)) (fun _ => ?_)
   refine Grd.intro (fun _ => ?_) (fun h => absurd (show ¬ w.ph = 1 from of_decide_eq_false h) (by omega))
   conv => whnf
   refine CallC.nl _ (ca) ?_ ?_
   · exact rfl
   conv => whnf
   refine DrawC.mkQ 5 [(.inl 2, 2), (.inl 3, 3)] rfl (by kernel_rfl) ?_
   refine And.intro rfl ?_
   exact And.intro trivial (AVle.refl _)
 · rw [if_neg hc]
   refine VFn.introC Tryz.call23 Tryz.func23 rfl rfl ?_
   refine Grd.intro (fun h => absurd (of_decide_eq_true h) (by omega)) (fun _ => ?_)
   refine Grd.intro (fun _ => ?_) (fun h => absurd (show ¬ w.ph = 1 from of_decide_eq_false h) (by omega))
   conv => whnf
   refine CallC.nl _ (ca) ?_ ?_
   · exact rfl
   conv => whnf
   refine Grd.intro (fun _ => ?_) (fun h => absurd (show (!decide (c = 0)) = false from h) (by simp [hc]))
   conv => whnf
   refine DrawC.mkQ 7 [(.inl 2, 4), (.inl 3, 5)] rfl (by kernel_rfl) ?_
   refine And.intro rfl ?_
   conv => whnf
   refine PCallQ.nl _ (l08Rest_fn _) rfl ?_
   exact And.intro trivial (AVle.refl _)
theorem sstep2_fn (H : WkW x w now) (h2 : w.ph = 2) : VFn Tryz.prog 23 [x.av, w.av, .int .i64 now] (resV (stepW x w now)) := by
 have F := (wk_iff w).1 H.hw
 have ht := F.t1 (by omega)
 have hb := F.tok
 have cl := l06Replay_fn x H.hs
 have lb := log_b x
 have cy := l06Append_fn x H.hs ((logS x).seq + 1) (by simp [within]; omega) (clmR w.tok) (clmR_okW (by omega))
 have e : stepW x w now = if (appS x ((logS x).seq + 1) (clmR w.tok)).2 = 0 then ((appS x ((logS x).seq + 1) (clmR w.tok)).1, { w with ph := 3 }, 0) else (x, wkR w.id, (appS x ((logS x).seq + 1) (clmR w.tok)).2) := by unfold stepW; rw [if_neg (by omega), if_neg (by omega), if_pos h2]
 rw [e]
 clear e
 generalize appS x ((logS x).seq + 1) (clmR w.tok) = p at *
 by_cases hc : p.2 = 0
 · rw [if_pos hc]
   rw [hc] at cy
   refine VFn.introC Tryz.call23 Tryz.func23 rfl rfl ?_
   refine Grd.intro (fun h => absurd (of_decide_eq_true h) (by omega)) (fun _ => ?_)
   refine Grd.intro (fun h => absurd (of_decide_eq_true h) (by omega)) (fun _ => ?_)
   refine Grd.intro (fun _ => ?_) (fun h => absurd (show ¬ w.ph = 2 from of_decide_eq_false h) (by omega))
   conv => whnf
   refine CallC.nl _ (cl) ?_ ?_
   · exact rfl
   refine And.intro (show inI .i64 ((logS x).seq + 1) from inI64 (by omega) (by omega)) ?_
   conv => whnf
   refine CallC.nl _ (cy) ?_ ?_
   · exact rfl
   conv => whnf
   refine DrawC.mkQ 5 [(.inl 2, 2), (.inl 3, 3)] rfl (by kernel_rfl) ?_
   refine And.intro rfl ?_
   exact And.intro trivial (AVle.refl _)
 · rw [if_neg hc]
   refine VFn.introC Tryz.call23 Tryz.func23 rfl rfl ?_
   refine Grd.intro (fun h => absurd (of_decide_eq_true h) (by omega)) (fun _ => ?_)
   refine Grd.intro (fun h => absurd (of_decide_eq_true h) (by omega)) (fun _ => ?_)
   refine Grd.intro (fun _ => ?_) (fun h => absurd (show ¬ w.ph = 2 from of_decide_eq_false h) (by omega))
   conv => whnf
   refine CallC.nl _ (cl) ?_ ?_
   · exact rfl
   refine And.intro (show inI .i64 ((logS x).seq + 1) from inI64 (by omega) (by omega)) ?_
   conv => whnf
   refine CallC.nl _ (cy) ?_ ?_
   · exact rfl
   conv => whnf
   refine Grd.intro (fun _ => ?_) (fun h => absurd (show (!decide (p.2 = 0)) = false from h) (by simp [hc]))
   conv => whnf
   refine DrawC.mkQ 7 [(.inl 2, 4), (.inl 3, 5)] rfl (by kernel_rfl) ?_
   refine And.intro rfl ?_
   conv => whnf
   refine PCallQ.nl _ (l08Rest_fn _) rfl ?_
   exact And.intro trivial (AVle.refl _)
theorem sstep7_fn (H : WkW x w now) (h7 : w.ph = 7) : VFn Tryz.prog 23 [x.av, w.av, .int .i64 now] (resV (stepW x w now)) := by
 have cc := l05Change_fn x H.hs w.id w.tok 0 (by decide)
 rw [stepW_7 h7]
 generalize x.chg w.id w.tok 0 = p at *
 by_cases hc : p.2 = 0
 · rw [if_pos hc]
   rw [hc] at cc
   refine VFn.introC Tryz.call23 Tryz.func23 rfl rfl ?_
   refine Grd.intro (fun h => absurd (of_decide_eq_true h) (by omega)) (fun _ => ?_)
   refine Grd.intro (fun h => absurd (of_decide_eq_true h) (by omega)) (fun _ => ?_)
   refine Grd.intro (fun h => absurd (of_decide_eq_true h) (by omega)) (fun _ => ?_)
   refine Grd.intro (fun h => absurd (of_decide_eq_true h) (by omega)) (fun _ => ?_)
   refine Grd.intro (fun h => absurd (of_decide_eq_true h) (by omega)) (fun _ => ?_)
   refine Grd.intro (fun h => absurd (of_decide_eq_true h) (by omega)) (fun _ => ?_)
   refine Grd.intro (fun h => absurd (of_decide_eq_true h) (by omega)) (fun _ => ?_)
   refine Grd.intro (fun _ => ?_) (fun h => absurd (show ¬ w.ph = 7 from of_decide_eq_false h) (by omega))
   conv => whnf
   refine CallC.nl _ (cc) ?_ ?_
   · exact rfl
   conv => whnf
   refine DrawC.mkQ 6 [(.inl 2, 3), (.inl 3, 4)] rfl (by kernel_rfl) ?_
   refine And.intro rfl ?_
   conv => whnf
   refine PCallQ.nl _ (l08Rest_fn _) rfl ?_
   exact And.intro trivial (AVle.refl _)
 · rw [if_neg hc]
   refine VFn.introC Tryz.call23 Tryz.func23 rfl rfl ?_
   refine Grd.intro (fun h => absurd (of_decide_eq_true h) (by omega)) (fun _ => ?_)
   refine Grd.intro (fun h => absurd (of_decide_eq_true h) (by omega)) (fun _ => ?_)
   refine Grd.intro (fun h => absurd (of_decide_eq_true h) (by omega)) (fun _ => ?_)
   refine Grd.intro (fun h => absurd (of_decide_eq_true h) (by omega)) (fun _ => ?_)
   refine Grd.intro (fun h => absurd (of_decide_eq_true h) (by omega)) (fun _ => ?_)
   refine Grd.intro (fun h => absurd (of_decide_eq_true h) (by omega)) (fun _ => ?_)
   refine Grd.intro (fun h => absurd (of_decide_eq_true h) (by omega)) (fun _ => ?_)
   refine Grd.intro (fun _ => ?_) (fun h => absurd (show ¬ w.ph = 7 from of_decide_eq_false h) (by omega))
   conv => whnf
   refine CallC.nl _ (cc) ?_ ?_
   · exact rfl
   conv => whnf
   refine Grd.intro (fun _ => ?_) (fun h => absurd (show (!decide (p.2 = 0)) = false from h) (by simp [hc]))
   conv => whnf
   refine DrawC.mkQ 7 [(.inl 2, 4), (.inl 3, 5)] rfl (by kernel_rfl) ?_
   refine And.intro rfl ?_
   conv => whnf
   refine PCallQ.nl _ (l08Rest_fn _) rfl ?_
   exact And.intro trivial (AVle.refl _)
end
end Go.Proofs.YtigbaclopbcjnaaGreatDoor
