/- Contracts of functions that the claim reaches, and the plain law of what they compute; each theorem bears its own conditions. -/
import Derived.Test.YtnplgeogieoioaaGreatDoorQ13
import Derived.Test.YtnplgeogieoioaaGreatDoorQ2
import Derived.Test.YtnplgeogieoioaaGreatDoorQ11
import Derived.Test.YtnplgeogieoioaaGreatDoorQ3
import Derived.Test.YtnplgeogieoioaaGreatDoorQ6
import Derived.Test.YtnplgeogieoioaaGreatDoorQ7
import Derived.Test.YtnplgeogieoioaaGreatDoorV52
import Derived.Test.YtnplgeogieoioaaGreatDoorQ1
import Derived.Test.YtnplgeogieoioaaGreatDoorQ12
import Derived.Test.YtnplgeogieoioaaGreatDoorQ9
set_option linter.unusedVariables false
set_option linter.constructorNameAsVariable false
set_option linter.unusedSimpArgs false
set_option maxRecDepth 20000
set_option maxHeartbeats 1000000
namespace Go.Proofs.YtnplgeogieoioaaGreatDoor
open Go Go.Vw
structure FlI (f : Fl) (M Q : Nat) : Prop where
 st : StI f.st (logEnd f.st) (logS f.st) f.ac
 clk : 3 ≤ f.clk ∧ f.clk ≤ 100000
 sk : ∀ k ∈ [f.k0, f.k1, f.k2, f.k3, f.k4, f.k5, f.k6], -3 ≤ k ∧ k ≤ 3
 ws : ∃ w0 w1, f.ws = [w0, w1] ∧ (w0.id = 0 ∧ w1.id = 1) ∧ WkI f.st (logS f.st) f.ac w0 ∧ WkI f.st (logS f.st) f.ac w1
 gs : ∃ g0 g1, f.gs = [g0, g1] ∧ (g0.id = 2 ∧ g1.id = 3) ∧ (IgI f.st (logS f.st) g0 ∧ IgI f.st (logS f.st) g1) ∧ f.ac.length + g0.b.length + g1.b.length ≤ M
 rs : ∃ r0 r1, f.rs = [r0, r1] ∧ (r0.id = 4 ∧ r1.id = 5) ∧ RdI f.st (logS f.st) f.ac f.clk r0 ∧ RdI f.st (logS f.st) f.ac f.clk r1
 an : (∀ a ∈ f.an, AnI (logS f.st) f.ac a) ∧ f.an.length ≤ Q
structure FlS (f f' : Fl) : Prop where
 lg : (logEnd f'.st = logEnd f.st ∧ logS f'.st = logS f.st) ∨ logEnd f'.st = logEnd f.st + 1
 ac : f.ac.length < f'.ac.length → (logS f.st).h0 < (logS f'.st).h0
theorem FlS.same {f f' : Fl} (h : f'.st = f.st) (ha : f'.ac = f.ac) : FlS f f' := ⟨.inl (by rw [h]; exact ⟨rfl, rfl⟩), fun g => by rw [ha] at g; omega⟩
theorem FlI.more {f : Fl} {M Q M' Q' : Nat} (F : FlI f M Q) (hM : M ≤ M') (hQ : Q ≤ Q') : FlI f M' Q' := by
 obtain ⟨g0, g1, a, b, c, d⟩ := F.gs
 exact ⟨F.st, F.clk, F.sk, F.ws, ⟨g0, g1, a, b, c, by omega⟩, F.rs, F.an.1, by have := F.an.2; omega⟩
theorem FlI.acl {f : Fl} {M Q : Nat} (F : FlI f M Q) : f.ac.length ≤ M := by
 obtain ⟨g0, g1, _, _, _, h⟩ := F.gs
 omega
theorem skew_b {f : Fl} {M Q : Nat} (F : FlI f M Q) (i : Int) : -3 ≤ f.skew i ∧ f.skew i ≤ 3 := by
 have h := F.sk
 unfold Fl.skew
 split
 · exact h _ (by simp)
 split
 · exact h _ (by simp)
 split
 · exact h _ (by simp)
 split
 · exact h _ (by simp)
 split
 · exact h _ (by simp)
 split
 · exact h _ (by simp)
 · exact h _ (by simp)
def Fl.now (f : Fl) (who : Int) : Int := f.clk + f.skew who
theorem now_bd {f : Fl} {M Q : Nat} (F : FlI f M Q) (i : Int) : (0 ≤ f.now i ∧ f.now i ≤ 101000) ∧ f.clk ≤ f.now i + 3 ∧ f.now i ≤ f.clk + 3 := by
 have := skew_b F i
 have := F.clk
 unfold Fl.now
 omega
def stepF (f : Fl) (who : Nat) : Fl × Int :=
 if who = 6 then (if (swS f.st (f.now 6)).2 = 0 then ({ f with st := (swS f.st (f.now 6)).1 }, 0) else (f, (swS f.st (f.now 6)).2))
 else if who = 4 ∨ who = 5 then
  ({ f with st := (stepR f.st (ix f.rs (who - 4)) (f.now who)).1, rs := f.rs.set (who - 4) (stepR f.st (ix f.rs (who - 4)) (f.now who)).2.1, an := if (stepR f.st (ix f.rs (who - 4)) (f.now who)).2.2.1 = true then f.an ++ [ansR (stepR f.st (ix f.rs (who - 4)) (f.now who)).2.1] else f.an }, (stepR f.st (ix f.rs (who - 4)) (f.now who)).2.2.2)
 else if who = 2 ∨ who = 3 then
  ({ f with st := (stI f.st (ix f.gs (who - 2))).1, gs := f.gs.set (who - 2) (stI f.st (ix f.gs (who - 2))).2.1, ac := if (stI f.st (ix f.gs (who - 2))).2.2.1 = true then f.ac ++ (ix f.gs (who - 2)).b else f.ac }, (stI f.st (ix f.gs (who - 2))).2.2.2)
 else
  ({ f with st := (stepW f.st (ix f.ws who) (f.now who)).1, ws := f.ws.set who (stepW f.st (ix f.ws who) (f.now who)).2.1 }, (stepW f.st (ix f.ws who) (f.now who)).2.2)
section fl
variable {f : Fl} {M Q : Nat}
theorem FlI.grow (F : FlI f M Q) {me : Int} {y : Sto} {n' : Nat} {s' : Sta} {ac' : List Smp} (S : Stp me f.clk f.st (logEnd f.st) (logS f.st) f.ac y n' s' ac') :
 logEnd y = n' ∧ logS y = s' ∧ StI y (logEnd y) (logS y) ac' ∧ (∀ w, WkI f.st (logS f.st) f.ac w → WkI y (logS y) ac' w) ∧ (∀ g, g.id ≠ me → IgI f.st (logS f.st) g → IgI y (logS y) g) ∧
 (∀ r, r.id ≠ me → RdI f.st (logS f.st) f.ac f.clk r → RdI y (logS y) ac' f.clk r) ∧ (∀ a, AnI (logS f.st) f.ac a → AnI (logS y) ac' a) ∧ ((logEnd y = logEnd f.st ∧ logS y = logS f.st) ∨ logEnd y = logEnd f.st + 1) := by
 have e1 := S.st.lg.fin
 have e2 := S.st.lg.log
 have hl := F.st.li
 rw [e1, e2]
 exact ⟨rfl, rfl, S.st, fun w h => h.grow S.gr hl, fun g hg h => h.grow S.gr hg (Ig.facts h.ok).id, fun r hr h => h.grow S.gr (Int.le_refl _) S.kp hl hr, fun a h => h.grow S.gr, S.lg⟩
theorem FlI.step (F : FlI f M Q) (hM : M ≤ 1000) {who : Nat} (hw : who ≤ 6) : FlI (stepF f who).1 M (Q + 1) ∧ FlS f (stepF f who).1 ∧
 ((who = 4 ∨ who = 5) → (ix f.rs (who - 4)).ph = 3 → ∀ e l, (ix f.rs (who - 4)).left = e :: l → ¬ (ix f.rs (who - 4)).til - 3 < f.now who → f.st.has e.key = true → WinOK f.st e (ix f.rs (who - 4)).f (ix f.rs (who - 4)).t (ix f.rs (who - 4)).got) := by
 have hac : f.ac.length ≤ 1000 := Nat.le_trans F.acl hM
 obtain ⟨w0, w1, ew, ⟨i0, i1⟩, W0, W1⟩ := F.ws
 obtain ⟨g0, g1, eg, ⟨i2, i3⟩, ⟨G0, G1⟩, hcnt⟩ := F.gs
 obtain ⟨r0, r1, er, ⟨i4, i5⟩, R0, R1⟩ := F.rs
 obtain ⟨an1, an2⟩ := F.an
 unfold stepF
 have h7 : who = 0 ∨ who = 1 ∨ who = 2 ∨ who = 3 ∨ who = 4 ∨ who = 5 ∨ who = 6 := by omega
 rcases h7 with rfl | rfl | rfl | rfl | rfl | rfl | rfl
 · obtain ⟨n', s', S, V, hv⟩ := wk_step w0.id f.clk F.st hac W0 (f.now ((0 : Nat) : Int))
   obtain ⟨_, q0, q1, q2, q3, q4, q5, q6⟩ := F.grow S
   rw [← q0] at V
   have e0 : ix f.ws 0 = w0 := by rw [ew]; rfl
   rw [if_neg (by decide), if_neg (by decide), if_neg (by decide), e0]
   generalize stepW f.st w0 (f.now ((0 : Nat) : Int)) = p at *
   exact ⟨⟨q1, F.clk, F.sk, ⟨p.2.1, w1, by rw [ew]; rfl, ⟨hv.trans i0, i1⟩, V, q2 w1 W1⟩, ⟨g0, g1, eg, ⟨i2, i3⟩, ⟨q3 g0 (by omega) G0, q3 g1 (by omega) G1⟩, hcnt⟩, ⟨r0, r1, er, ⟨i4, i5⟩, q4 r0 (by omega) R0, q4 r1 (by omega) R1⟩, fun a ha => q5 a (an1 a ha), by show f.an.length ≤ Q + 1; omega⟩, ⟨q6, fun h => by have h : f.ac.length < f.ac.length := h; omega⟩, fun h => by omega⟩
 · obtain ⟨n', s', S, V, hv⟩ := wk_step w1.id f.clk F.st hac W1 (f.now ((1 : Nat) : Int))
   obtain ⟨_, q0, q1, q2, q3, q4, q5, q6⟩ := F.grow S
   rw [← q0] at V
   have e0 : ix f.ws 1 = w1 := by rw [ew]; rfl
   rw [if_neg (by decide), if_neg (by decide), if_neg (by decide), e0]
   generalize stepW f.st w1 (f.now ((1 : Nat) : Int)) = p at *
   exact ⟨⟨q1, F.clk, F.sk, ⟨w0, p.2.1, by rw [ew]; rfl, ⟨i0, hv.trans i1⟩, q2 w0 W0, V⟩, ⟨g0, g1, eg, ⟨i2, i3⟩, ⟨q3 g0 (by omega) G0, q3 g1 (by omega) G1⟩, hcnt⟩, ⟨r0, r1, er, ⟨i4, i5⟩, q4 r0 (by omega) R0, q4 r1 (by omega) R1⟩, fun a ha => q5 a (an1 a ha), by show f.an.length ≤ Q + 1; omega⟩, ⟨q6, fun h => by have h : f.ac.length < f.ac.length := h; omega⟩, fun h => by omega⟩
 · have O := ig_step f.clk F.st hac G0
   obtain ⟨n', s', S, V, hd⟩ := O.out
   have hid := O.id
   have hc := O.cnt
   obtain ⟨_, q0, q1, q2, q3, q4, q5, q6⟩ := F.grow S
   rw [← q0] at V hd
   have e0 : ix f.gs (2 - 2) = g0 := by rw [eg]; rfl
   rw [if_neg (by decide), if_neg (by decide), if_pos (by decide), e0]
   generalize stI f.st g0 = p at *
   refine ⟨⟨q1, F.clk, F.sk, ⟨w0, w1, ew, ⟨i0, i1⟩, q2 w0 W0, q2 w1 W1⟩, ⟨p.2.1, g1, by rw [eg]; rfl, ⟨hid.trans i2, i3⟩, ⟨V, q3 g1 (by omega) G1⟩, ?_⟩, ⟨r0, r1, er, ⟨i4, i5⟩, q4 r0 (by omega) R0, q4 r1 (by omega) R1⟩, fun a ha => q5 a (an1 a ha), by show f.an.length ≤ Q + 1; omega⟩, ⟨q6, fun h => ?_⟩, fun h => by omega⟩
   · show (if p.2.2.1 = true then f.ac ++ g0.b else f.ac).length + p.2.1.b.length + g1.b.length ≤ M
     omega
   · have h : f.ac.length < (if p.2.2.1 = true then f.ac ++ g0.b else f.ac).length := h
     cases hp : p.2.2.1 with
     | true => exact hd hp
     | false => rw [hp, if_neg (by simp)] at h; omega
 · have O := ig_step f.clk F.st hac G1
   obtain ⟨n', s', S, V, hd⟩ := O.out
   have hid := O.id
   have hc := O.cnt
   obtain ⟨_, q0, q1, q2, q3, q4, q5, q6⟩ := F.grow S
   rw [← q0] at V hd
   have e0 : ix f.gs (3 - 2) = g1 := by rw [eg]; rfl
   rw [if_neg (by decide), if_neg (by decide), if_pos (by decide), e0]
   generalize stI f.st g1 = p at *
   refine ⟨⟨q1, F.clk, F.sk, ⟨w0, w1, ew, ⟨i0, i1⟩, q2 w0 W0, q2 w1 W1⟩, ⟨g0, p.2.1, by rw [eg]; rfl, ⟨i2, hid.trans i3⟩, ⟨q3 g0 (by omega) G0, V⟩, ?_⟩, ⟨r0, r1, er, ⟨i4, i5⟩, q4 r0 (by omega) R0, q4 r1 (by omega) R1⟩, fun a ha => q5 a (an1 a ha), by show f.an.length ≤ Q + 1; omega⟩, ⟨q6, fun h => ?_⟩, fun h => by omega⟩
   · show (if p.2.2.1 = true then f.ac ++ g1.b else f.ac).length + g0.b.length + p.2.1.b.length ≤ M
     omega
   · have h : f.ac.length < (if p.2.2.1 = true then f.ac ++ g1.b else f.ac).length := h
     cases hp : p.2.2.1 with
     | true => exact hd hp
     | false => rw [hp, if_neg (by simp)] at h; omega
 · have nb := now_bd F ((4 : Nat) : Int)
   obtain ⟨O, hwin⟩ := rd_step F.st hac R0 nb.1 nb.2.1
   obtain ⟨n', s', S, V, hd⟩ := O.out
   have hid := O.id
   obtain ⟨_, q0, q1, q2, q3, q4, q5, q6⟩ := F.grow S
   rw [← q0] at V hd
   have e0 : ix f.rs (4 - 4) = r0 := by rw [er]; rfl
   rw [if_neg (by decide), if_pos (by decide), e0]
   refine ⟨?_, ?_, fun _ => hwin⟩
   · generalize stepR f.st r0 (f.now ((4 : Nat) : Int)) = p at *
     refine ⟨q1, F.clk, F.sk, ⟨w0, w1, ew, ⟨i0, i1⟩, q2 w0 W0, q2 w1 W1⟩, ⟨g0, g1, eg, ⟨i2, i3⟩, ⟨q3 g0 (by omega) G0, q3 g1 (by omega) G1⟩, hcnt⟩, ⟨p.2.1, r1, by rw [er]; rfl, ⟨hid.trans i4, i5⟩, V, q4 r1 (by omega) R1⟩, fun a ha => ?_, ?_⟩
     · have ha : a ∈ (if p.2.2.1 = true then f.an ++ [ansR p.2.1] else f.an) := ha
       split at ha
       · rename_i hp
         rcases List.mem_append.1 ha with h | h
         · exact q5 a (an1 a h)
         · have : a = ansR p.2.1 := by simpa using h
           rw [this]; exact hd hp
       · exact q5 a (an1 a ha)
     · show (if p.2.2.1 = true then f.an ++ [ansR p.2.1] else f.an).length ≤ Q + 1
       split
       · simp; omega
       · omega
   · exact ⟨q6, fun h => by have h : f.ac.length < f.ac.length := h; omega⟩
 · have nb := now_bd F ((5 : Nat) : Int)
   obtain ⟨O, hwin⟩ := rd_step F.st hac R1 nb.1 nb.2.1
   obtain ⟨n', s', S, V, hd⟩ := O.out
   have hid := O.id
   obtain ⟨_, q0, q1, q2, q3, q4, q5, q6⟩ := F.grow S
   rw [← q0] at V hd
   have e0 : ix f.rs (5 - 4) = r1 := by rw [er]; rfl
   rw [if_neg (by decide), if_pos (by decide), e0]
   refine ⟨?_, ?_, fun _ => hwin⟩
   · generalize stepR f.st r1 (f.now ((5 : Nat) : Int)) = p at *
     refine ⟨q1, F.clk, F.sk, ⟨w0, w1, ew, ⟨i0, i1⟩, q2 w0 W0, q2 w1 W1⟩, ⟨g0, g1, eg, ⟨i2, i3⟩, ⟨q3 g0 (by omega) G0, q3 g1 (by omega) G1⟩, hcnt⟩, ⟨r0, p.2.1, by rw [er]; rfl, ⟨i4, hid.trans i5⟩, q4 r0 (by omega) R0, V⟩, fun a ha => ?_, ?_⟩
     · have ha : a ∈ (if p.2.2.1 = true then f.an ++ [ansR p.2.1] else f.an) := ha
       split at ha
       · rename_i hp
         rcases List.mem_append.1 ha with h | h
         · exact q5 a (an1 a h)
         · have : a = ansR p.2.1 := by simpa using h
           rw [this]; exact hd hp
       · exact q5 a (an1 a ha)
     · show (if p.2.2.1 = true then f.an ++ [ansR p.2.1] else f.an).length ≤ Q + 1
       split
       · simp; omega
       · omega
   · exact ⟨q6, fun h => by have h : f.ac.length < f.ac.length := h; omega⟩
 · have nb := now_bd F 6
   obtain ⟨n', s', S⟩ := sw_step 6 F.st nb.2.2
   obtain ⟨_, q0, q1, q2, q3, q4, q5, q6⟩ := F.grow S
   rw [if_pos rfl]
   generalize swS f.st (f.now 6) = p at *
   split
   · exact ⟨⟨q1, F.clk, F.sk, ⟨w0, w1, ew, ⟨i0, i1⟩, q2 w0 W0, q2 w1 W1⟩, ⟨g0, g1, eg, ⟨i2, i3⟩, ⟨q3 g0 (by omega) G0, q3 g1 (by omega) G1⟩, hcnt⟩, ⟨r0, r1, er, ⟨i4, i5⟩, q4 r0 (by omega) R0, q4 r1 (by omega) R1⟩, fun a ha => q5 a (an1 a ha), by show f.an.length ≤ Q + 1; omega⟩, ⟨q6, fun h => by have h : f.ac.length < f.ac.length := h; omega⟩, fun h => by omega⟩
   · exact ⟨F.more (Nat.le_refl _) (by omega), FlS.same rfl rfl, fun h => by omega⟩
end fl
def crashF (f : Fl) (who : Nat) : Fl :=
 if who = 6 then f else if who = 4 ∨ who = 5 then { f with rs := f.rs.set (who - 4) (rd0 who) } else if who = 2 ∨ who = 3 then { f with gs := f.gs.set (who - 2) (ingR who) } else { f with ws := f.ws.set who (wkR who) }
def Fl.setK (f : Fl) (who n : Int) : Fl :=
 if who = 0 then { f with k0 := n } else if who = 1 then { f with k1 := n } else if who = 2 then { f with k2 := n } else if who = 3 then { f with k3 := n } else if who = 4 then { f with k4 := n } else if who = 5 then { f with k5 := n } else { f with k6 := n }
def giveI (g : Ig) (b : List Smp) : Ig × Int := if g.b.length = 0 then (⟨g.id, 0, 0, 0, b, false⟩, 0) else (g, 9)
def askR (r : Rr) (k a b : Int) : Rr × Int := if r.ph = 0 then (rdAsk r.id k a b, 0) else (r, 9)
def doF (f : Fl) (a : Act) : Fl × Int :=
 if a.k = 1 then stepF f a.who.toNat
 else if a.k = 2 then (crashF f a.who.toNat, 0)
 else if a.k = 3 then ({ f with clk := if f.clk + a.n < 100000 then f.clk + a.n else 100000 }, 0)
 else if a.k = 4 then (f.setK a.who a.n, 0)
 else if a.k = 5 then ({ f with gs := f.gs.set (a.who.toNat - 2) (giveI (ix f.gs (a.who.toNat - 2)) a.b).1 }, (giveI (ix f.gs (a.who.toNat - 2)) a.b).2)
 else ({ f with rs := f.rs.set (a.who.toNat - 4) (askR (ix f.rs (a.who.toNat - 4)) a.tier a.f a.t).1 }, (askR (ix f.rs (a.who.toNat - 4)) a.tier a.f a.t).2)
section fl2
variable {f : Fl} {M Q : Nat}
theorem rd_idle {x : Sto} {s : Sta} {ac : List Smp} {C : Int} {r : Rr} (h : r.ok = true) (h0 : r.ph = 0 ∨ (r.ph = 1 ∧ r.got = default)) : RdI x s ac C r :=
 ⟨h, fun g => by omega, fun g => by rcases h0 with h0 | h0; · omega
                                    · exact h0.2, fun g => by omega, fun g => by omega, fun g => by omega⟩
theorem rd0_ok {id : Int} (h : 0 ≤ id ∧ id ≤ 9) : (rd0 id).ok = true :=
 (rr_iff _).2 ⟨h, (by decide : (0 : Int) ≤ 0 ∧ (0 : Int) ≤ 4), .inl rfl, (by decide : isRange 0 0 = true), (by decide : (0 : Int) ≤ 0 ∧ (0 : Int) ≤ 200000), (by decide : (0 : Int) ≤ 0 ∧ (0 : Int) ≤ 19), ⟨rfl, (by decide : (0 : Int) ≤ 1000)⟩, by simp [rd0], by simp [rd0]⟩
theorem FlI.crash (F : FlI f M Q) {who : Nat} (hw : who ≤ 6) : FlI (crashF f who) M Q ∧ FlS f (crashF f who) := by
 obtain ⟨w0, w1, ew, ⟨i0, i1⟩, W0, W1⟩ := F.ws
 obtain ⟨g0, g1, eg, ⟨i2, i3⟩, ⟨G0, G1⟩, hcnt⟩ := F.gs
 obtain ⟨r0, r1, er, ⟨i4, i5⟩, R0, R1⟩ := F.rs
 unfold crashF
 have h7 : who = 0 ∨ who = 1 ∨ who = 2 ∨ who = 3 ∨ who = 4 ∨ who = 5 ∨ who = 6 := by omega
 rcases h7 with rfl | rfl | rfl | rfl | rfl | rfl | rfl
 · rw [if_neg (by decide), if_neg (by decide), if_neg (by decide)]
   exact ⟨⟨F.st, F.clk, F.sk, ⟨wkR 0, w1, by rw [ew]; rfl, ⟨rfl, i1⟩, wkR_I (by omega), W1⟩, F.gs, F.rs, F.an⟩, FlS.same rfl rfl⟩
 · rw [if_neg (by decide), if_neg (by decide), if_neg (by decide)]
   exact ⟨⟨F.st, F.clk, F.sk, ⟨w0, wkR 1, by rw [ew]; rfl, ⟨i0, rfl⟩, W0, wkR_I (by omega)⟩, F.gs, F.rs, F.an⟩, FlS.same rfl rfl⟩
 · rw [if_neg (by decide), if_neg (by decide), if_pos (by decide)]
   exact ⟨⟨F.st, F.clk, F.sk, F.ws, ⟨ingR 2, g1, by rw [eg]; rfl, ⟨rfl, i3⟩, ⟨ingR_I (by omega), G1⟩, by show f.ac.length + 0 + g1.b.length ≤ M; omega⟩, F.rs, F.an⟩, FlS.same rfl rfl⟩
 · rw [if_neg (by decide), if_neg (by decide), if_pos (by decide)]
   exact ⟨⟨F.st, F.clk, F.sk, F.ws, ⟨g0, ingR 3, by rw [eg]; rfl, ⟨i2, rfl⟩, ⟨G0, ingR_I (by omega)⟩, by show f.ac.length + g0.b.length + 0 ≤ M; omega⟩, F.rs, F.an⟩, FlS.same rfl rfl⟩
 · rw [if_neg (by decide), if_pos (by decide)]
   exact ⟨⟨F.st, F.clk, F.sk, F.ws, F.gs, ⟨rd0 4, r1, by rw [er]; rfl, ⟨rfl, i5⟩, rd_idle (rd0_ok (by omega)) (.inl rfl), R1⟩, F.an⟩, FlS.same rfl rfl⟩
 · rw [if_neg (by decide), if_pos (by decide)]
   exact ⟨⟨F.st, F.clk, F.sk, F.ws, F.gs, ⟨r0, rd0 5, by rw [er]; rfl, ⟨i4, rfl⟩, R0, rd_idle (rd0_ok (by omega)) (.inl rfl)⟩, F.an⟩, FlS.same rfl rfl⟩
 · rw [if_pos rfl]; exact ⟨F, FlS.same rfl rfl⟩
theorem FlI.tick (F : FlI f M Q) {n : Int} (hn : 0 ≤ n) : FlI { f with clk := if f.clk + n < 100000 then f.clk + n else 100000 } M Q := by
 have hc := F.clk
 obtain ⟨r0, r1, er, ⟨i4, i5⟩, R0, R1⟩ := F.rs
 have hle : f.clk ≤ (if f.clk + n < 100000 then f.clk + n else 100000) := by split <;> omega
 have g : ∀ r, RdI f.st (logS f.st) f.ac f.clk r → RdI f.st (logS f.st) f.ac (if f.clk + n < 100000 then f.clk + n else 100000) r := fun r h => h.grow (Gr.refl (-1) _ _ _) hle (Kept.refl _ _ _) F.st.li (by have := (rr_iff _).1 h.ok; have := this.id; omega)
 have hge : 3 ≤ (if f.clk + n < 100000 then f.clk + n else 100000) ∧ (if f.clk + n < 100000 then f.clk + n else 100000) ≤ 100000 := by split <;> omega
 exact ⟨F.st, hge, F.sk, F.ws, F.gs, ⟨r0, r1, er, ⟨i4, i5⟩, g r0 R0, g r1 R1⟩, F.an⟩
theorem FlI.setK (F : FlI f M Q) (who : Int) {n : Int} (hn : -3 ≤ n ∧ n ≤ 3) : FlI (f.setK who n) M Q ∧ FlS f (f.setK who n) := by
 have h := F.sk
 simp only [List.mem_cons, List.not_mem_nil, or_false, forall_eq_or_imp, forall_eq] at h
 obtain ⟨h0, h1, h2, h3, h4, h5, h6⟩ := h
 have key : ∀ a b c d e g i : Int, (-3 ≤ a ∧ a ≤ 3) → (-3 ≤ b ∧ b ≤ 3) → (-3 ≤ c ∧ c ≤ 3) → (-3 ≤ d ∧ d ≤ 3) → (-3 ≤ e ∧ e ≤ 3) → (-3 ≤ g ∧ g ≤ 3) → (-3 ≤ i ∧ i ≤ 3) → ∀ k ∈ [a, b, c, d, e, g, i], -3 ≤ k ∧ k ≤ 3 := fun a b c d e g i q0 q1 q2 q3 q4 q5 q6 => by
  simp only [List.mem_cons, List.not_mem_nil, or_false, forall_eq_or_imp, forall_eq]
  exact ⟨q0, q1, q2, q3, q4, q5, q6⟩
 unfold Fl.setK
 split
 · exact ⟨⟨F.st, F.clk, key _ _ _ _ _ _ _ hn h1 h2 h3 h4 h5 h6, F.ws, F.gs, F.rs, F.an⟩, FlS.same rfl rfl⟩
 split
 · exact ⟨⟨F.st, F.clk, key _ _ _ _ _ _ _ h0 hn h2 h3 h4 h5 h6, F.ws, F.gs, F.rs, F.an⟩, FlS.same rfl rfl⟩
 split
 · exact ⟨⟨F.st, F.clk, key _ _ _ _ _ _ _ h0 h1 hn h3 h4 h5 h6, F.ws, F.gs, F.rs, F.an⟩, FlS.same rfl rfl⟩
 split
 · exact ⟨⟨F.st, F.clk, key _ _ _ _ _ _ _ h0 h1 h2 hn h4 h5 h6, F.ws, F.gs, F.rs, F.an⟩, FlS.same rfl rfl⟩
 split
 · exact ⟨⟨F.st, F.clk, key _ _ _ _ _ _ _ h0 h1 h2 h3 hn h5 h6, F.ws, F.gs, F.rs, F.an⟩, FlS.same rfl rfl⟩
 split
 · exact ⟨⟨F.st, F.clk, key _ _ _ _ _ _ _ h0 h1 h2 h3 h4 hn h6, F.ws, F.gs, F.rs, F.an⟩, FlS.same rfl rfl⟩
 · exact ⟨⟨F.st, F.clk, key _ _ _ _ _ _ _ h0 h1 h2 h3 h4 h5 hn, F.ws, F.gs, F.rs, F.an⟩, FlS.same rfl rfl⟩
theorem give_I {x : Sto} {s : Sta} {g : Ig} (G : IgI x s g) {b : List Smp} (hb : smpsOK b = true) (h8 : b.length ≤ 8) : IgI x s (giveI g b).1 ∧ (giveI g b).1.id = g.id ∧ (giveI g b).1.b.length ≤ g.b.length + b.length := by
 unfold giveI
 split
 · refine ⟨⟨?_, fun h => absurd (show false = true from h) (by decide), fun h => absurd (show false = true from h) (by decide)⟩, rfl, by show b.length ≤ _; omega⟩
   have hid := (Ig.facts G.ok).id
   unfold Ig.ok igOK
   simp only [hb, decide_eq_false (show ¬ (8 : Int) < (b.length : Int) by omega)]
   simp [within]
   exact hid
 · exact ⟨G, rfl, by show g.b.length ≤ _; omega⟩
theorem ask_I {x : Sto} {s : Sta} {ac : List Smp} {C : Int} {r : Rr} (R : RdI x s ac C r) {k a b : Int} (hk : within k 0 2 = true) (hab : isRange a b = true) : RdI x s ac C (askR r k a b).1 ∧ (askR r k a b).1.id = r.id := by
 have F := (rr_iff r).1 R.ok
 unfold askR
 split
 · refine ⟨rd_idle ((rr_iff _).2 ⟨F.id, (by decide : (0 : Int) ≤ 1 ∧ (1 : Int) ≤ 4), ?_, hab, (by decide : (0 : Int) ≤ 0 ∧ (0 : Int) ≤ 200000), (by decide : (0 : Int) ≤ 0 ∧ (0 : Int) ≤ 19), ⟨rfl, (by decide : (0 : Int) ≤ 1000)⟩, by simp [rdAsk], by simp [rdAsk]⟩) (.inr ⟨rfl, rfl⟩), rfl⟩
   simp [within] at hk
   show k = 0 ∨ k = 1 ∨ k = 2
   omega
 · exact ⟨R, rfl⟩
structure ActI (a : Act) : Prop where
 k : 1 ≤ a.k ∧ a.k ≤ 6
 who : 0 ≤ a.who ∧ a.who ≤ 6
 n3 : a.k = 3 → 0 ≤ a.n ∧ a.n ≤ 1000
 n4 : a.k = 4 → -3 ≤ a.n ∧ a.n ≤ 3
 b : a.k = 5 → (a.who = 2 ∨ a.who = 3) ∧ smpsOK a.b = true ∧ 1 ≤ a.b.length ∧ a.b.length ≤ 8
 q : a.k = 6 → (a.who = 4 ∨ a.who = 5) ∧ within a.tier 0 2 = true ∧ isRange a.f a.t = true
theorem FlI.act (F : FlI f M Q) {a : Act} (A : ActI a) (hM : M ≤ 1000) : FlI (doF f a).1 (M + 8) (Q + 1) ∧ FlS f (doF f a).1 := by
 have hk := A.k
 have hwho := A.who
 unfold doF
 by_cases h1 : a.k = 1
 · rw [if_pos h1]
   obtain ⟨x, y, _⟩ := F.step hM (who := a.who.toNat) (by omega)
   exact ⟨x.more (by omega) (Nat.le_refl _), y⟩
 rw [if_neg h1]
 by_cases h2 : a.k = 2
 · rw [if_pos h2]
   obtain ⟨x, y⟩ := F.crash (who := a.who.toNat) (by omega)
   exact ⟨x.more (by omega) (by omega), y⟩
 rw [if_neg h2]
 by_cases h3 : a.k = 3
 · rw [if_pos h3]
   exact ⟨(F.tick (A.n3 h3).1).more (by omega) (by omega), FlS.same rfl rfl⟩
 rw [if_neg h3]
 by_cases h4 : a.k = 4
 · rw [if_pos h4]
   obtain ⟨x, y⟩ := F.setK a.who (A.n4 h4)
   exact ⟨x.more (by omega) (by omega), y⟩
 rw [if_neg h4]
 obtain ⟨w0, w1, ew, ⟨i0, i1⟩, W0, W1⟩ := F.ws
 obtain ⟨g0, g1, eg, ⟨i2, i3⟩, ⟨G0, G1⟩, hcnt⟩ := F.gs
 obtain ⟨r0, r1, er, ⟨i4, i5⟩, R0, R1⟩ := F.rs
 have han : f.an.length ≤ Q + 1 := by have := F.an.2; omega
 by_cases h5 : a.k = 5
 · rw [if_pos h5]
   obtain ⟨b1, b2, _, b3⟩ := A.b h5
   rcases b1 with b1 | b1
   · rw [b1]
     have e0 : ix f.gs ((2 : Int).toNat - 2) = g0 := by rw [eg]; rfl
     rw [e0]
     obtain ⟨c1, c2, c3⟩ := give_I G0 b2 b3
     exact ⟨⟨F.st, F.clk, F.sk, F.ws, ⟨(giveI g0 a.b).1, g1, by show f.gs.set _ _ = _; rw [eg]; rfl, ⟨c2.trans i2, i3⟩, ⟨c1, G1⟩, by show f.ac.length + _ + _ ≤ _; omega⟩, F.rs, F.an.1, han⟩, FlS.same rfl rfl⟩
   · rw [b1]
     have e0 : ix f.gs ((3 : Int).toNat - 2) = g1 := by rw [eg]; rfl
     rw [e0]
     obtain ⟨c1, c2, c3⟩ := give_I G1 b2 b3
     exact ⟨⟨F.st, F.clk, F.sk, F.ws, ⟨g0, (giveI g1 a.b).1, by show f.gs.set _ _ = _; rw [eg]; rfl, ⟨i2, c2.trans i3⟩, ⟨G0, c1⟩, by show f.ac.length + _ + _ ≤ _; omega⟩, F.rs, F.an.1, han⟩, FlS.same rfl rfl⟩
 · rw [if_neg h5]
   obtain ⟨b1, b2, b3⟩ := A.q (by omega)
   rcases b1 with b1 | b1
   · rw [b1]
     have e0 : ix f.rs ((4 : Int).toNat - 4) = r0 := by rw [er]; rfl
     rw [e0]
     obtain ⟨c1, c2⟩ := ask_I R0 b2 b3
     exact ⟨⟨F.st, F.clk, F.sk, F.ws, ⟨g0, g1, eg, ⟨i2, i3⟩, ⟨G0, G1⟩, by show f.ac.length + _ + _ ≤ _; omega⟩, ⟨(askR r0 a.tier a.f a.t).1, r1, by show f.rs.set _ _ = _; rw [er]; rfl, ⟨c2.trans i4, i5⟩, c1, R1⟩, F.an.1, han⟩, FlS.same rfl rfl⟩
   · rw [b1]
     have e0 : ix f.rs ((5 : Int).toNat - 4) = r1 := by rw [er]; rfl
     rw [e0]
     obtain ⟨c1, c2⟩ := ask_I R1 b2 b3
     exact ⟨⟨F.st, F.clk, F.sk, F.ws, ⟨g0, g1, eg, ⟨i2, i3⟩, ⟨G0, G1⟩, by show f.ac.length + _ + _ ≤ _; omega⟩, ⟨r0, (askR r1 a.tier a.f a.t).1, by show f.rs.set _ _ = _; rw [er]; rfl, ⟨i4, c2.trans i5⟩, R0, c1⟩, F.an.1, han⟩, FlS.same rfl rfl⟩
end fl2
def newF : Fl := ⟨stoN0, 10, 0, 0, 0, 0, 0, 0, 0, [wkR 0, wkR 1], [ingR 2, ingR 3], [rd0 4, rd0 5], [], []⟩
def actsF (f : Fl) (L : List Act) : Fl := L.foldl (fun f a => (doF f a).1) f
theorem FlI.acts : ∀ (L : List Act) {f : Fl} {M Q : Nat}, FlI f M Q → (∀ a ∈ L, ActI a) → M + 8 * L.length ≤ 1000 → FlI (actsF f L) (M + 8 * L.length) (Q + L.length)
 | [], _, _, _, F, _, _ => F
 | a :: r, f, M, Q, F, h, hM => by
   have hl : (a :: r).length = r.length + 1 := rfl
   rw [hl] at hM ⊢
   have := FlI.acts r (F.act (h a (by simp)) (by omega)).1 (fun b hb => h b (by simp [hb])) (by omega)
   exact this.more (by omega) (by omega)


theorem app_eok {s : Sta} (h : ∀ e ∈ s.es, e.ok = true) {r : Rc} (hr : r.ok = true) : ∀ e ∈ (s.app r).es, e.ok = true := by
 intro e he
 unfold Sta.app at he
 split at he
 · split at he
   · rename_i hk
     rw [(lift_es _ _ _).1] at he
     rcases List.mem_append.1 he with he | he
     · exact h e he
     · rw [List.mem_singleton.1 he]
       unfold Rc.ok at hr
       rcases hk with hk | hk
       · rw [if_pos hk] at hr
         simp only [Bool.and_eq_true] at hr
         exact hr.2.2
       · rw [if_neg (by omega), if_neg (by omega), if_pos hk] at hr
         simp only [Bool.and_eq_true] at hr
         exact hr.2.2
   · split at he
     · exact h e he
     · split at he
       · rw [(lower_es _ _ _).1] at he
         exact h e (List.mem_filter.1 he).1
       · exact h e he
 · exact h e he
theorem logN_eok (x : Sto) : ∀ n, ∀ e ∈ (logN x n).es, e.ok = true
 | 0, e, he => by cases he
 | n + 1, e, he => by
   have ih := logN_eok x n
   have he : e ∈ (stepL x (logN x n)).es := he
   unfold stepL at he
   split at he
   · exact ih e he
   · rename_i r hr
     exact app_eok ih (readR_ok hr) e he
theorem logS_eok (x : Sto) : ∀ e ∈ (logS x).es, e.ok = true := logN_eok x _
def under (x : Sto) (a : Smp) : Bool := decide (a.t < (logS x).h0)
def satT (x : Sto) (ac : List Smp) : Bool := (logS x).ok && ((logS x).es.all (fun e => truE x e ac) && ac.all (under x))


theorem log_none : LogX stoN0 0 sta0 := ⟨by decide, fun k h1 h2 => by rw [decide_eq_false (by omega)]; rfl, rfl, rfl⟩
theorem newF_I : FlI newF 0 0 := by
 have L := log_none
 have e1 : logEnd newF.st = 0 := L.fin
 have e2 : logS newF.st = sta0 := L.log
 have hst : StI stoN0 0 sta0 [] := by
  refine ⟨L, ⟨?_, ?_, ?_, ?_, ?_, ?_, ?_, fun t h => (by cases h)⟩, fun e h => (by cases h), fun k h => ?_, by decide, fun a h => (by cases h)⟩
  · show (0 : Int) ≤ 0; omega
  · show (0 : Int) ≤ 0; omega
  · show (0 : Int) ≤ 0; omega
  · show (0 : Int) ≤ 0; omega
  · show (0 : Int) % 5 = 0; decide
  · show (0 : Int) % 20 = 0; decide
  · show (0 : Int) ≤ 0 ∧ (0 : Int) ≤ 100000; omega
  · cases h
 refine ⟨by rw [e1, e2]; exact hst, (by decide : (3 : Int) ≤ 10 ∧ (10 : Int) ≤ 100000), ?_, ⟨wkR 0, wkR 1, rfl, ⟨rfl, rfl⟩, wkR_I (by omega), wkR_I (by omega)⟩, ⟨ingR 2, ingR 3, rfl, ⟨rfl, rfl⟩, ⟨ingR_I (by omega), ingR_I (by omega)⟩, Nat.le_refl _⟩,
  ⟨rd0 4, rd0 5, rfl, ⟨rfl, rfl⟩, rd_idle (rd0_ok (by omega)) (.inl rfl), rd_idle (rd0_ok (by omega)) (.inl rfl)⟩, fun a h => (by cases h), Nat.le_refl _⟩
 show ∀ k ∈ [(0 : Int), 0, 0, 0, 0, 0, 0], -3 ≤ k ∧ k ≤ 3
 simp
def FlJ (f : Fl) : Prop := ∀ w ∈ f.ws, w.job.key.length ≤ 30
theorem eqS_rfl {α : Type} [Inhabited α] (f : α → α → Bool) (h : ∀ a, f a a = true) (L : List α) : eqS f L L = true := by
 unfold eqS
 rw [decide_eq_true rfl, Bool.true_and]
 exact allN_iff.2 fun i _ => h _
theorem stepW_jk {x : Sto} {w : Wk} (h : w.job.key.length ≤ 30) (now : Int) : (stepW x w now).2.1.job.key.length ≤ 30 := by
 have hR : ∀ id, (wkR id).job.key.length ≤ 30 := fun _ => by show ([] : List UInt8).length ≤ 30; decide
 have hd : (default : Rc).key.length ≤ 30 := by decide
 unfold stepW
 repeat' (first
  | exact h
  | exact hR _
  | exact hd
  | split)
 · rename_i he
   show (expR (logS x) now).1.key.length ≤ 30
   have := key_len (en_key (logS_eok x _ (exp_mem he))).1
   omega
 · show (keyB _ _ _).length ≤ 30
   have := (key_size (dueT (logS x).h0 (logS x).h1 (logS x).h2).toNat (dueF (logS x).h0 (logS x).h1 (logS x).h2).toNat w.tok.toNat).1
   omega
theorem set_all {α : Type} {p : α → Prop} {L : List α} (h : ∀ a ∈ L, p a) (i : Nat) {v : α} (hv : p v) : ∀ a ∈ L.set i v, p a := fun a ha => by
 rcases List.mem_or_eq_of_mem_set ha with g | g
 · exact h a g
 · rw [g]; exact hv
theorem ix_all {α : Type} [Inhabited α] {p : α → Prop} {L : List α} (h : ∀ a ∈ L, p a) (hd : p default) (i : Nat) : p (ix L i) := by
 rcases Nat.lt_or_ge i L.length with g | g
 · exact h _ (getD_mem g)
 · have : ix L i = default := by unfold ix; rw [List.getD_eq_getElem?_getD, List.getElem?_eq_none g]; rfl
   rw [this]; exact hd
theorem FlJ.step {f : Fl} (J : FlJ f) (who : Nat) : FlJ (stepF f who).1 := by
 unfold stepF
 split
 · split <;> exact J
 · split
   · exact J
   · split
     · exact J
     · exact set_all J who (stepW_jk (ix_all (p := fun w : Wk => w.job.key.length ≤ 30) J (by decide) who) _)
theorem FlJ.setK {f : Fl} (J : FlJ f) (who n : Int) : FlJ (f.setK who n) := by
 unfold Fl.setK
 repeat' (first | exact J | split)
theorem FlJ.crash {f : Fl} (J : FlJ f) (who : Nat) : FlJ (crashF f who) := by
 unfold crashF
 split
 · exact J
 · split
   · exact J
   · split
     · exact J
     · exact set_all J who (show ([] : List UInt8).length ≤ 30 by decide)
theorem FlJ.act {f : Fl} (J : FlJ f) (a : Act) : FlJ (doF f a).1 := by
 unfold doF
 split
 · exact J.step _
 split
 · exact J.crash _
 split
 · exact J
 split
 · exact J.setK _ _
 split
 · exact J
 · exact J
theorem FlJ.acts : ∀ (L : List Act) {f : Fl}, FlJ f → FlJ (actsF f L)
 | [], _, J => J
 | a :: r, f, J => FlJ.acts r (J.act a)
theorem newF_J : FlJ newF := fun w hw => by
 have : w = wkR 0 ∨ w = wkR 1 := by simpa [newF] using hw
 rcases this with rfl | rfl <;> decide
section conseq
variable {f : Fl} {M Q : Nat}
theorem FlI.ok (F : FlI f M Q) (hQ : Q ≤ 4096) : f.ok = true := by
 obtain ⟨w0, w1, ew, ⟨i0, i1⟩, W0, W1⟩ := F.ws
 obtain ⟨g0, g1, eg, ⟨i2, i3⟩, ⟨G0, G1⟩, hcnt⟩ := F.gs
 obtain ⟨r0, r1, er, ⟨i4, i5⟩, R0, R1⟩ := F.rs
 have hsk : f.skOK = true := by
  unfold Fl.skOK
  rw [List.all_eq_true]
  intro k hk
  have := F.sk k hk
  simp [within]; omega
 have hl : f.lens = true := by
  unfold Fl.lens
  rw [ew, eg, er]; rfl
 have h0 : f.rnd 0 = true := by
  unfold Fl.rnd
  rw [ew, eg, er]
  show (decide (w0.id = 0) && (decide (g0.id = 2 + 0) && (decide (r0.id = 4 + 0) && (w0.ok && (g0.ok && r0.ok))))) = true
  rw [W0.ok, G0.ok, R0.ok, i0, i2, i4]
  decide
 have h1 : f.rnd 1 = true := by
  unfold Fl.rnd
  rw [ew, eg, er]
  show (decide (w1.id = 1) && (decide (g1.id = 2 + 1) && (decide (r1.id = 4 + 1) && (w1.ok && (g1.ok && r1.ok))))) = true
  rw [W1.ok, G1.ok, R1.ok, i1, i3, i5]
  decide
 have hf : f.fin = true := by
  unfold Fl.fin
  have : f.an.all An.ok = true := List.all_eq_true.2 fun a ha => (F.an.1 a ha).ok
  have := F.an.2
  rw [F.st.acok, decide_eq_false (by omega), List.all_eq_true.2 fun a ha => (F.an.1 a ha).ok]
  rfl
 unfold Fl.ok
 have := F.clk
 rw [F.st.lg.ok, hsk, hl, h0, h1, hf, show within f.clk 3 100000 = true by simp [within]; omega]
 rfl
theorem en_small {e : En} (h : e.ok = true) : e.key.length ≤ 1048576 := by
 have := key_len (en_key h).1
 omega
theorem FlI.small (F : FlI f M Q) (J : FlJ f) (hM : M ≤ 1000) (hQ : Q ≤ 4096) : f.small := by
 obtain ⟨w0, w1, ew, ⟨i0, i1⟩, W0, W1⟩ := F.ws
 obtain ⟨g0, g1, eg, ⟨i2, i3⟩, ⟨G0, G1⟩, hcnt⟩ := F.gs
 obtain ⟨r0, r1, er, ⟨i4, i5⟩, R0, R1⟩ := F.rs
 have O := (stoOK_iff f.st).1 F.st.lg.ok
 have wf : ∀ w, w.ok = true → Wk.small w ∧ (w.job.key.length ≤ 1048576 → w.job.key.length ≤ 1048576 ∧ ∀ x ∈ w.ins, x.key.length ≤ 1048576) := fun w h => by
  have W := (wk_iff w).1 h
  exact ⟨by show w.ins.length ≤ 1048576; have := W.len; omega, fun g => ⟨g, fun x hx => en_small (W.es x hx)⟩⟩
 have gf : ∀ g, g.ok = true → Ig.small g := fun g h => by
  have := (Ig.facts h).len
  show g.b.length ≤ 1048576
  omega
 have rf : ∀ r, r.ok = true → Rr.small r ∧ ∀ x ∈ r.left, x.key.length ≤ 1048576 := fun r h => by
  have R := (rr_iff r).1 h
  exact ⟨by show r.left.length ≤ 1048576; have := R.len; omega, fun x hx => en_small (R.es x hx).1⟩
 have hac := F.acl
 have han := F.an.2
 refine ⟨by have := O.len; omega, fun e he => by have := (O.el e he).1; have := keyOK_len this; omega, by rw [ew]; simp, ?_, ?_, by rw [eg]; simp, ?_, by rw [er]; simp, ?_, ?_, by omega, by omega⟩
 · rw [ew]; intro e he
   have : e = w0 ∨ e = w1 := by simpa using he
   rcases this with rfl | rfl
   · exact (wf _ W0.ok).1
   · exact (wf _ W1.ok).1
 · rw [ew]; intro e he
   have : e = w0 ∨ e = w1 := by simpa using he
   rcases this with rfl | rfl
   · exact (wf _ W0.ok).2 (by have := J e (by rw [ew]; simp); omega)
   · exact (wf _ W1.ok).2 (by have := J e (by rw [ew]; simp); omega)
 · rw [eg]; intro e he
   have : e = g0 ∨ e = g1 := by simpa using he
   rcases this with rfl | rfl
   · exact gf _ G0.ok
   · exact gf _ G1.ok
 · rw [er]; intro e he
   have : e = r0 ∨ e = r1 := by simpa using he
   rcases this with rfl | rfl
   · exact (rf _ R0.ok).1
   · exact (rf _ R1.ok).1
 · rw [er]; intro e he
   have : e = r0 ∨ e = r1 := by simpa using he
   rcases this with rfl | rfl
   · exact (rf _ R0.ok).2
   · exact (rf _ R1.ok).2
theorem truE_I (F : FlI f M Q) : ∀ e ∈ (logS f.st).es, truE f.st e f.ac = true := fun e he => by
 obtain ⟨kn, hh⟩ := F.st.es e he
 obtain ⟨k1, k2, k3⟩ := en_key kn.st.ok
 unfold truE sdat
 rw [hh, if_pos rfl, Bool.true_and]
 split
 · rename_i h0
   rw [kn.dt h0 hh]
   have hok := smps_sub F.st.acok e.f e.t
   have hnum := smpsOK_num hok
   have h8 := (kn.st.t0 h0).2
   rw [rdOk_text hnum hok h8, rdV_text hnum, eqS_rfl Smp.eqb (fun a => by unfold Smp.eqb; simp)]
   rfl
 · rename_i h0
   obtain ⟨d1, d2⟩ := F.st.dat e.key hh k1 (by omega)
   obtain ⟨f1, f2, f3⟩ := kn.st.t1 h0
   have hA := agI_ok F.st.acok e.f e.t
   have ed : datK f.ac e.key = bksText (bkt e.f (agI f.ac e.f e.t)) := by
    unfold datK
    rw [← f1, k2, ← f2]
   have hb := bkt_ok (f := e.f) (A := agI f.ac e.f e.t) (by omega) hA
   rw [d1, ed, rbV_text (bksOK_ok hb), rbOk_text (bksOK_ok hb) hb, eqS_rfl Bk.eqb (fun a => by unfold Bk.eqb Ag.eqb; simp)]
   rfl
theorem FlI.exact (F : FlI f M Q) : satT f.st f.ac = true := by
 unfold satT under
 rw [logS_ok, List.all_eq_true.2 (truE_I F), List.all_eq_true.2 fun a ha => decide_eq_true (F.st.ach a ha)]
 rfl
end conseq
theorem stepW_shape (x : Sto) (w : Wk) (now : Int) : (stepW x w now).2.2 = 0 ∨ stepW x w now = (x, w, 18) ∨ ((stepW x w now).1 = x ∧ (stepW x w now).2.1 = wkR w.id ∧ (stepW x w now).2.2 ≠ 18) := by
 have room18 : ∀ k d, x.room k d ≠ 18 := fun k d => by
  unfold Sto.room
  split
  · decide
  · split <;> decide
 have app18 : ∀ n r, (appS x n r).2 ≠ 18 := fun n r => by
  unfold appS Sto.putA
  split
  · show (9 : Int) ≠ 18; decide
  · exact room18 _ _
 have put18 : ∀ k d, (x.putA k d).2 ≠ 18 := fun k d => by
  unfold Sto.putA
  split
  · show (9 : Int) ≠ 18; decide
  · exact room18 _ _
 unfold stepW
 split
 · split
   · exact .inr (.inl rfl)
   · exact .inl rfl
 split
 · split
   · exact .inl rfl
   · refine .inr (.inr ⟨rfl, rfl, ?_⟩)
     show acqR x w.id now ≠ 18
     unfold acqR
     split
     · exact room18 _ _
     · unfold acqC
       split
       · decide
       · split
         · decide
         · split <;> decide
 split
 · split
   · exact .inl rfl
   · exact .inr (.inr ⟨rfl, rfl, app18 _ _⟩)
 split
 · split
   · split
     · split <;> exact .inl rfl
     · exact .inl rfl
   · exact .inr (.inr ⟨rfl, rfl, show (13 : Int) ≠ 18 by decide⟩)
 split
 · split
   · exact .inl rfl
   · split
     · exact .inl rfl
     · refine .inr (.inr ⟨rfl, rfl, ?_⟩)
       show (winR x _ _ _ _).2 ≠ 18
       unfold winR
       split
       · show (0 : Int) ≠ 18; decide
       · show (5 : Int) ≠ 18; decide
 split
 · split
   · exact .inl rfl
   · exact .inr (.inr ⟨rfl, rfl, put18 _ _⟩)
 split
 · split
   · split
     · exact .inl rfl
     · exact .inr (.inr ⟨rfl, rfl, app18 _ _⟩)
   · exact .inr (.inr ⟨rfl, rfl, show (13 : Int) ≠ 18 by decide⟩)
 · split
   · exact .inl rfl
   · refine .inr (.inr ⟨rfl, rfl, ?_⟩)
     show (x.chg w.id w.tok 0).2 ≠ 18
     unfold Sto.chg
     split
     · exact room18 _ _
     · unfold Sto.chgC
       show (if x.lea.2 = 17 then (17 : Int) else if x.lea.2 ≠ 0 ∨ x.lea.1.who ≠ w.id ∨ x.lea.1.tok ≠ w.tok ∨ x.lea.1.til = 0 then 13 else 0) ≠ 18
       split
       · decide
       · split <;> decide
theorem stepped_fn {x : Sto} {w : Wk} {now : Int} (H : WkW x w now) : VFn Tryz.prog 165 [w.av, x.av, .int .i64 now] (.tup [(stepW x w now).1.av, (stepW x w now).2.1.av, .int .i64 (stepW x w now).2.2]) := by
 obtain ⟨y', v', c, hz⟩ := wstep_fn H
 have sh := stepW_shape x w now
 generalize stepW x w now = p at *
 obtain ⟨y, v, k⟩ := p
 have hz : k = 0 → y' = y ∧ v' = v := hz
 have c : VFn Tryz.prog 201 [w.av, x.av, .int .i64 now] (.tup [y'.av, v'.av, .int .i64 k]) := c
 by_cases h0 : k = 0
 · obtain ⟨e1, e2⟩ := hz h0
   subst h0 e1 e2
   refine VFn.introC Tryz.call165 Tryz.func165 rfl rfl ?_
   conv => whnf
   refine CallC.nl _ (c) ?_ ?_
   · exact rfl
   refine DrawC.mkQ 5 [(.inl 2, 2), (.inl 3, 3)] rfl (by kernel_rfl) ?_
   refine And.intro rfl ?_
   exact And.intro trivial (AVle.refl _)
 clear hz
 by_cases h18 : k = 18
 · have h : y = x ∧ v = w := by
    rcases sh with h | h | ⟨_, _, h⟩
    · exact absurd h h0
    · cases h; exact ⟨rfl, rfl⟩
    · exact absurd h18 h
   obtain ⟨e1, e2⟩ := h
   subst h18 e1 e2
   refine VFn.introC Tryz.call165 Tryz.func165 rfl rfl ?_
   conv => whnf
   refine CallC.nl _ (c) ?_ ?_
   · exact rfl
   conv => whnf
   refine DrawC.mkQ 6 [(.inl 2, 3), (.inl 3, 4)] rfl (by kernel_rfl) ?_
   refine And.intro rfl ?_
   exact And.intro trivial (AVle.refl _)
 · have h : y = x ∧ v = wkR w.id := by
    rcases sh with h | h | ⟨h1, h2, h⟩
    · exact absurd h h0
    · cases h; exact absurd rfl h18
    · exact ⟨h1, h2⟩
   obtain ⟨e1, e2⟩ := h
   subst e1 e2
   refine VFn.introC Tryz.call165 Tryz.func165 rfl rfl ?_
   conv => whnf
   refine CallC.nl _ (c) ?_ ?_
   · exact rfl
   conv => whnf
   refine Grd.intro (fun h => absurd (of_decide_eq_true h) h0) (fun _ => ?_)
   refine Grd.intro (fun h => absurd (of_decide_eq_true h) h18) (fun _ => ?_)
   conv => whnf
   refine DrawC.mkQ 8 [(.inl 2, 5), (.inl 3, 6)] rfl (by kernel_rfl) ?_
   refine And.intro rfl ?_
   exact And.intro trivial (AVle.tup (AVsle.cons (AVle.refl _) (AVsle.cons (nilW _ _ _ default default) (AVsle.refl _))))
theorem wkW_of {x : Sto} {n : Nat} {s : Sta} {ac : List Smp} (I : StI x n s ac) (hac : ac.length ≤ 1000) {w : Wk} (W : WkI x s ac w) {now : Int} (hn : 0 ≤ now ∧ now ≤ 101000) : WkW x w now := by
 have F := (wk_iff w).1 W.ok
 refine ⟨I.lg.ok, W.ok, hn, fun h4 e l hl hh => ?_, ?_⟩
 · obtain ⟨p1, p2⟩ := W.p4 h4
   rw [hl] at p1
   exact (win_step I hac F.got.1 p1 (p2 e (by rw [hl]; simp)) hh).1
 · rw [I.lg.log]
   have := I.li.h10
   have := I.li.h21
   have := I.li.nn
   omega
def Fl.orow (f : Fl) (a n : Nat) : List AV := [obs f.st.os, .int .i64 f.st.next, .int .i64 f.clk, .int .i64 f.k0, .int .i64 f.k1, .int .i64 f.k2, .int .i64 f.k3, .int .i64 f.k4, .int .i64 f.k5, .int .i64 f.k6, .osl 1, .osl 2, .osl 3, .osl a, .osl n]
abbrev Fl.objN (f : Fl) (a n : Nat) : List (Nat × MO) := [(0, .box (f.orow a n)), (1, .arr 56 16 f.ws.length fun i => (ix f.ws i).row), (2, .arr 59 6 f.gs.length fun i => (ix f.gs i).row), (3, .arr 62 14 f.rs.length fun i => (ix f.rs i).row), (a, .arr 98 2 f.ac.length fun i => (ix f.ac i).row), (n, .arr 101 10 f.an.length fun i => (ix f.an i).row)]
abbrev Fl.objs (f : Fl) : List (Nat × MO) := f.objN 4 5
theorem ixset {α : Type} [Inhabited α] (l : List α) {k : Nat} (hk : k < l.length) (v : α) (j : Nat) : ix (l.set k v) j = if j = k then v else ix l j := by
 unfold ix
 by_cases h : j = k
 · subst h
   simp [List.getD_eq_getElem?_getD, hk]
 · rw [if_neg h]
   simp [List.getD_eq_getElem?_getD, List.getElem?_set, Ne.symm h]
theorem beq_f {j k : Nat} (h : j ≠ k) : j.beq k = false := by
 cases e : j.beq k with
 | false => rfl
 | true => exact absurd (Nat.eq_of_beq_eq_true e) h
theorem arr_set {α : Type} [Inhabited α] (l : List α) {k : Nat} (hk : k < l.length) (v : α) {row : α → List AV} {g : Nat → List AV} (h1 : g k = row v) (h2 : ∀ j, j ≠ k → g j = row (ix l j)) (e sz : Nat) :
 MOle (.arr e sz l.length g) (.arr e sz (l.set k v).length fun i => row (ix (l.set k v) i)) := by
 refine MOle.arr (by simp) (fun i hi => ?_)
 rw [ixset l hk]
 by_cases h : i = k
 · subst h; rw [if_pos rfl]; exact h1
 · rw [if_neg h]; exact h2 i h
theorem fstep0_fn {f : Fl} {M Q : Nat} (F : FlI f M Q) (hM : M ≤ 1000) : FnM Tryz.prog 88 6 [.bptr 0 0, .int .i64 0] f.objs (.int .i64 (stepF f 0).2) (stepF f 0).1.objs 7 := by
 have hac : f.ac.length ≤ 1000 := Nat.le_trans F.acl hM
 obtain ⟨hl, W⟩ : 0 < f.ws.length ∧ WkI f.st (logS f.st) f.ac (ix f.ws 0) := by
  obtain ⟨w0, w1, ew, ⟨i0, i1⟩, W0, W1⟩ := F.ws
  rw [ew]
  exact ⟨by simp, W0⟩
 have nb := now_bd F 0
 have cs := stepped_fn (wkW_of F.st hac W nb.1)
 have es : stepF f 0 = ({ f with st := (stepW f.st (ix f.ws 0) (f.now 0)).1, ws := f.ws.set 0 (stepW f.st (ix f.ws 0) (f.now 0)).2.1 }, (stepW f.st (ix f.ws 0) (f.now 0)).2.2) := by
  unfold stepF
  rw [if_neg (by decide), if_neg (by decide), if_neg (by decide)]
  rfl
 rw [es]
 clear es
 have e0 : f.now 0 = f.clk + f.k0 := rfl
 have hk := skew_b F 0
 have hk : -3 ≤ f.k0 ∧ f.k0 ≤ 3 := hk
 have hc := F.clk
 rw [e0] at cs
 rw [e0]
 generalize stepW f.st (ix f.ws 0) (f.clk + f.k0) = p at *
 have cr := isReader_fn 0
 have ci := isIngester_fn 0
 refine FnM.introC Tryz.call88 Tryz.func88 rfl rfl ?_
 conv => whnf
 refine DrawC.mq 13 rfl (by kernel_rfl) ?_
 conv => whnf
 refine And.intro ⟨by decide, by decide⟩ ?_
 conv => whnf
 refine And.intro (inI64 (by omega) (by omega)) ?_
 conv => whnf
 conv => whnf
 refine CallC.nl _ (cr) ?_ ?_
 · exact rfl
 conv => whnf
 conv => whnf
 refine CallC.nl _ (ci) ?_ ?_
 · exact rfl
 conv => whnf
 refine And.intro ⟨by omega, by omega⟩ ?_
 conv => whnf
 refine DrawC.mkR 21 [(.inl 0, 17), (.inl 1, 19)] [(0, 8), (1, 4)] rfl (by kernel_rfl) ?_
 refine And.intro (And.intro (by kernel_rfl) (by kernel_rfl)) ?_
 conv => whnf
 refine PCallQ.nl _ (cs) rfl ?_
 conv => whnf
 refine And.intro trivial ⟨[(0, 0), (1, 1), (2, 2), (3, 3), (4, 4), (5, 5)], rfl, AVle.refl _, MOle.refl _, arr_set f.ws hl p.2.1 rfl (fun j hj => ?_) _ _, MOle.refl _, MOle.refl _, MOle.refl _, MOle.refl _, trivial⟩
 show (bif j.beq 0 then _ else _) = _
 rw [beq_f hj]
 rfl
theorem fstep1_fn {f : Fl} {M Q : Nat} (F : FlI f M Q) (hM : M ≤ 1000) : FnM Tryz.prog 88 6 [.bptr 0 0, .int .i64 1] f.objs (.int .i64 (stepF f 1).2) (stepF f 1).1.objs 7 := by
 have hac : f.ac.length ≤ 1000 := Nat.le_trans F.acl hM
 obtain ⟨hl, W⟩ : 1 < f.ws.length ∧ WkI f.st (logS f.st) f.ac (ix f.ws 1) := by
  obtain ⟨w0, w1, ew, ⟨i0, i1⟩, W0, W1⟩ := F.ws
  rw [ew]
  exact ⟨by simp, W1⟩
 have nb := now_bd F 1
 have cs := stepped_fn (wkW_of F.st hac W nb.1)
 have es : stepF f 1 = ({ f with st := (stepW f.st (ix f.ws 1) (f.now 1)).1, ws := f.ws.set 1 (stepW f.st (ix f.ws 1) (f.now 1)).2.1 }, (stepW f.st (ix f.ws 1) (f.now 1)).2.2) := by
  unfold stepF
  rw [if_neg (by decide), if_neg (by decide), if_neg (by decide)]
  rfl
 rw [es]
 clear es
 have e0 : f.now 1 = f.clk + f.k1 := rfl
 have hk := skew_b F 1
 have hk : -3 ≤ f.k1 ∧ f.k1 ≤ 3 := hk
 have hc := F.clk
 rw [e0] at cs
 rw [e0]
 generalize stepW f.st (ix f.ws 1) (f.clk + f.k1) = p at *
 have cr := isReader_fn 1
 have ci := isIngester_fn 1
 refine FnM.introC Tryz.call88 Tryz.func88 rfl rfl ?_
 conv => whnf
 refine DrawC.mq 13 rfl (by kernel_rfl) ?_
 conv => whnf
 refine And.intro ⟨by decide, by decide⟩ ?_
 conv => whnf
 refine And.intro (inI64 (by omega) (by omega)) ?_
 conv => whnf
 conv => whnf
 refine CallC.nl _ (cr) ?_ ?_
 · exact rfl
 conv => whnf
 conv => whnf
 refine CallC.nl _ (ci) ?_ ?_
 · exact rfl
 conv => whnf
 refine And.intro ⟨by omega, by omega⟩ ?_
 conv => whnf
 refine DrawC.mkR 21 [(.inl 0, 17), (.inl 1, 19)] [(0, 8), (1, 4)] rfl (by kernel_rfl) ?_
 refine And.intro (And.intro (by kernel_rfl) (by kernel_rfl)) ?_
 conv => whnf
 refine PCallQ.nl _ (cs) rfl ?_
 conv => whnf
 refine And.intro trivial ⟨[(0, 0), (1, 1), (2, 2), (3, 3), (4, 4), (5, 5)], rfl, AVle.refl _, MOle.refl _, arr_set f.ws hl p.2.1 rfl (fun j hj => ?_) _ _, MOle.refl _, MOle.refl _, MOle.refl _, MOle.refl _, trivial⟩
 show (bif j.beq 1 then _ else _) = _
 rw [beq_f hj]
 rfl
theorem fstep2_fn {f : Fl} {M Q : Nat} (F : FlI f M Q) (hM : M ≤ 1000) : FnM Tryz.prog 88 6 [.bptr 0 0, .int .i64 2] f.objs (.int .i64 (stepF f 2).2) ((stepF f 2).1.objN (if (stI f.st (ix f.gs 0)).2.2.1 = true then 6 else 4) 5) 7 := by
 obtain ⟨hl, hg, hcnt⟩ : 0 < f.gs.length ∧ (ix f.gs 0).ok = true ∧ f.ac.length + (ix f.gs 0).b.length ≤ 1000 := by
  obtain ⟨g0, g1, eg, ⟨i0, i1⟩, ⟨W0, W1⟩, hcnt⟩ := F.gs
  rw [eg]
  exact ⟨by simp, W0.ok, show f.ac.length + g0.b.length ≤ 1000 by omega⟩
 have nb := now_bd F 2
 have cs := istep_fn f.st F.st.lg.ok (ix f.gs 0) hg
 have es : stepF f 2 = ({ f with st := (stI f.st (ix f.gs 0)).1, gs := f.gs.set 0 (stI f.st (ix f.gs 0)).2.1, ac := if (stI f.st (ix f.gs 0)).2.2.1 = true then f.ac ++ (ix f.gs 0).b else f.ac }, (stI f.st (ix f.gs 0)).2.2.2) := by
  unfold stepF
  rw [if_neg (by decide), if_neg (by decide), if_pos (by decide)]
 rw [es]
 clear es
 have hk := skew_b F 2
 have hk : -3 ≤ f.k2 ∧ f.k2 ≤ 3 := hk
 have hc := F.clk
 generalize stI f.st (ix f.gs 0) = p at *
 obtain ⟨y, v, d, c⟩ := p
 have cs : VFn Tryz.prog 164 [(ix f.gs 0).av, f.st.av] (.tup [y.av, v.av, .bool d, .int .i64 c]) := cs
 have cr := isReader_fn 2
 have ci := isIngester_fn 2
 cases d
 all_goals
  refine FnM.introC Tryz.call88 Tryz.func88 rfl rfl ?_
  conv => whnf
  refine DrawC.mq 13 rfl (by kernel_rfl) ?_
  conv => whnf
  refine And.intro ⟨by decide, by decide⟩ ?_
  conv => whnf
  refine And.intro (inI64 (by omega) (by omega)) ?_
  conv => whnf
  conv => whnf
  refine CallC.nl _ (cr) ?_ ?_
  · exact rfl
  conv => whnf
  conv => whnf
  refine CallC.nl _ (ci) ?_ ?_
  · exact rfl
  conv => whnf
  refine And.intro (inI64 (by decide) (by decide)) ?_
  conv => whnf
  refine And.intro ⟨by decide, show ((0 : Nat) : Int) < (f.gs.length : Int) by omega⟩ ?_
  conv => whnf
  refine DrawC.mq 6 rfl (by kernel_rfl) ?_
  conv => whnf
  refine DrawC.mkR 22 [(.inl 0, 17), (.inl 2, 19)] [(0, 8), (2, 4)] rfl (by kernel_rfl) ?_
  refine And.intro (And.intro (by kernel_rfl) (by kernel_rfl)) ?_
  conv => whnf
  refine PCallQ.nl _ (cs) rfl ?_
  conv => whnf
 · refine And.intro trivial ⟨[(0, 0), (1, 1), (2, 2), (3, 3), (4, 4), (5, 5)], rfl, AVle.refl _, MOle.refl _, MOle.refl _, arr_set f.gs hl v rfl (fun j hj => ?_) _ _, MOle.refl _, MOle.refl _, MOle.refl _, trivial⟩
   show (bif j.beq 0 then _ else _) = _
   rw [beq_f hj]
   rfl
 · refine And.intro ⟨show (f.ac.length + (ix f.gs 0).b.length) * 16 ≤ 140737488355328 by omega, fun i _ => rfl⟩ ?_
   conv => whnf
   refine And.intro trivial ⟨[(0, 0), (1, 1), (2, 2), (3, 3), (4, 4), (5, 5), (47, 6)], rfl, AVle.refl _, MOle.refl _, MOle.refl _, arr_set f.gs hl v rfl (fun j hj => ?_) _ _, MOle.refl _, MOle.arr (show _ = (f.ac ++ (ix f.gs 0).b).length by simp) (fun i hi => app_rowsL (fun j _ => rfl) hi), MOle.refl _, trivial⟩
   show (bif j.beq 0 then _ else _) = _
   rw [beq_f hj]
   rfl
theorem fstep3_fn {f : Fl} {M Q : Nat} (F : FlI f M Q) (hM : M ≤ 1000) : FnM Tryz.prog 88 6 [.bptr 0 0, .int .i64 3] f.objs (.int .i64 (stepF f 3).2) ((stepF f 3).1.objN (if (stI f.st (ix f.gs 1)).2.2.1 = true then 6 else 4) 5) 7 := by
 obtain ⟨hl, hg, hcnt⟩ : 1 < f.gs.length ∧ (ix f.gs 1).ok = true ∧ f.ac.length + (ix f.gs 1).b.length ≤ 1000 := by
  obtain ⟨g0, g1, eg, ⟨i0, i1⟩, ⟨W0, W1⟩, hcnt⟩ := F.gs
  rw [eg]
  exact ⟨by simp, W1.ok, show f.ac.length + g1.b.length ≤ 1000 by omega⟩
 have nb := now_bd F 3
 have cs := istep_fn f.st F.st.lg.ok (ix f.gs 1) hg
 have es : stepF f 3 = ({ f with st := (stI f.st (ix f.gs 1)).1, gs := f.gs.set 1 (stI f.st (ix f.gs 1)).2.1, ac := if (stI f.st (ix f.gs 1)).2.2.1 = true then f.ac ++ (ix f.gs 1).b else f.ac }, (stI f.st (ix f.gs 1)).2.2.2) := by
  unfold stepF
  rw [if_neg (by decide), if_neg (by decide), if_pos (by decide)]
 rw [es]
 clear es
 have hk := skew_b F 3
 have hk : -3 ≤ f.k3 ∧ f.k3 ≤ 3 := hk
 have hc := F.clk
 generalize stI f.st (ix f.gs 1) = p at *
 obtain ⟨y, v, d, c⟩ := p
 have cs : VFn Tryz.prog 164 [(ix f.gs 1).av, f.st.av] (.tup [y.av, v.av, .bool d, .int .i64 c]) := cs
 have cr := isReader_fn 3
 have ci := isIngester_fn 3
 cases d
 all_goals
  refine FnM.introC Tryz.call88 Tryz.func88 rfl rfl ?_
  conv => whnf
  refine DrawC.mq 13 rfl (by kernel_rfl) ?_
  conv => whnf
  refine And.intro ⟨by decide, by decide⟩ ?_
  conv => whnf
  refine And.intro (inI64 (by omega) (by omega)) ?_
  conv => whnf
  conv => whnf
  refine CallC.nl _ (cr) ?_ ?_
  · exact rfl
  conv => whnf
  conv => whnf
  refine CallC.nl _ (ci) ?_ ?_
  · exact rfl
  conv => whnf
  refine And.intro (inI64 (by decide) (by decide)) ?_
  conv => whnf
  refine And.intro ⟨by decide, show ((1 : Nat) : Int) < (f.gs.length : Int) by omega⟩ ?_
  conv => whnf
  refine DrawC.mq 6 rfl (by kernel_rfl) ?_
  conv => whnf
  refine DrawC.mkR 22 [(.inl 0, 17), (.inl 2, 19)] [(0, 8), (2, 4)] rfl (by kernel_rfl) ?_
  refine And.intro (And.intro (by kernel_rfl) (by kernel_rfl)) ?_
  conv => whnf
  refine PCallQ.nl _ (cs) rfl ?_
  conv => whnf
 · refine And.intro trivial ⟨[(0, 0), (1, 1), (2, 2), (3, 3), (4, 4), (5, 5)], rfl, AVle.refl _, MOle.refl _, MOle.refl _, arr_set f.gs hl v rfl (fun j hj => ?_) _ _, MOle.refl _, MOle.refl _, MOle.refl _, trivial⟩
   show (bif j.beq 1 then _ else _) = _
   rw [beq_f hj]
   rfl
 · refine And.intro ⟨show (f.ac.length + (ix f.gs 1).b.length) * 16 ≤ 140737488355328 by omega, fun i _ => rfl⟩ ?_
   conv => whnf
   refine And.intro trivial ⟨[(0, 0), (1, 1), (2, 2), (3, 3), (4, 4), (5, 5), (47, 6)], rfl, AVle.refl _, MOle.refl _, MOle.refl _, arr_set f.gs hl v rfl (fun j hj => ?_) _ _, MOle.refl _, MOle.arr (show _ = (f.ac ++ (ix f.gs 1).b).length by simp) (fun i hi => app_rowsL (fun j _ => rfl) hi), MOle.refl _, trivial⟩
   show (bif j.beq 1 then _ else _) = _
   rw [beq_f hj]
   rfl
theorem fstep6_fn {f : Fl} {M Q : Nat} (F : FlI f M Q) (hM : M ≤ 1000) : FnM Tryz.prog 88 6 [.bptr 0 0, .int .i64 6] f.objs (.int .i64 (stepF f 6).2) (stepF f 6).1.objs 7 := by
 have nb := now_bd F 6
 have cs := sweep_fn f.st F.st.lg.ok (f.now 6)
 have es : stepF f 6 = if (swS f.st (f.now 6)).2 = 0 then ({ f with st := (swS f.st (f.now 6)).1 }, 0) else (f, (swS f.st (f.now 6)).2) := by
  unfold stepF
  rw [if_pos (by decide)]
 rw [es]
 clear es
 have hk := skew_b F 6
 have hk : -3 ≤ f.k6 ∧ f.k6 ≤ 3 := hk
 have hc := F.clk
 have e0 : f.now 6 = f.clk + f.k6 := rfl
 rw [e0] at cs
 rw [e0]
 generalize swS f.st (f.clk + f.k6) = p at *
 by_cases h0 : p.2 = 0
 · rw [if_pos h0]
   rw [h0] at cs
   refine FnM.introC Tryz.call88 Tryz.func88 rfl rfl ?_
   conv => whnf
   refine DrawC.mq 13 rfl (by kernel_rfl) ?_
   conv => whnf
   refine And.intro ⟨by decide, by decide⟩ ?_
   conv => whnf
   refine And.intro (inI64 (by omega) (by omega)) ?_
   conv => whnf
   conv => whnf
   refine CallC.nl _ (cs) ?_ ?_
   · exact rfl
   conv => whnf
   exact And.intro trivial ⟨[(0, 0), (1, 1), (2, 2), (3, 3), (4, 4), (5, 5)], rfl, AVle.refl _, MOle.refl _, MOle.refl _, MOle.refl _, MOle.refl _, MOle.refl _, MOle.refl _, trivial⟩
 · rw [if_neg h0]
   refine FnM.introC Tryz.call88 Tryz.func88 rfl rfl ?_
   conv => whnf
   refine DrawC.mq 13 rfl (by kernel_rfl) ?_
   conv => whnf
   refine And.intro ⟨by decide, by decide⟩ ?_
   conv => whnf
   refine And.intro (inI64 (by omega) (by omega)) ?_
   conv => whnf
   conv => whnf
   refine CallC.nl _ (cs) ?_ ?_
   · exact rfl
   conv => whnf
   refine Grd.intro (fun h => absurd (of_decide_eq_true h) h0) (fun _ => ?_)
   exact And.intro trivial ⟨[(0, 0), (1, 1), (2, 2), (3, 3), (4, 4), (5, 5)], rfl, AVle.refl _, MOle.refl _, MOle.refl _, MOle.refl _, MOle.refl _, MOle.refl _, MOle.refl _, trivial⟩
end Go.Proofs.YtnplgeogieoioaaGreatDoor
