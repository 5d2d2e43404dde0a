/- Contracts of functions that the claim reaches, and the plain law of what they compute; each theorem bears its own conditions. -/
import Derived.Test.YtbhgcfhbhjcjhaaGreatDoorQ8
import Derived.Test.YtbhgcfhbhjcjhaaGreatDoorQ10
import Derived.Test.YtbhgcfhbhjcjhaaGreatDoorQ7
import Derived.Test.YtbhgcfhbhjcjhaaGreatDoorQ3
import Derived.Test.YtbhgcfhbhjcjhaaGreatDoorQ9
import Derived.Test.YtbhgcfhbhjcjhaaGreatDoorV52
import Derived.Test.YtbhgcfhbhjcjhaaGreatDoorQ13
import Derived.Test.YtbhgcfhbhjcjhaaGreatDoorQ2
import Derived.Test.YtbhgcfhbhjcjhaaGreatDoorQ11
set_option linter.unusedVariables false
set_option linter.constructorNameAsVariable false
set_option linter.unusedSimpArgs false
set_option maxRecDepth 20000
namespace Go.Proofs.YtbhgcfhbhjcjhaaGreatDoor
open Go Go.Vw
def purge (k : List UInt8) : Rc := ⟨5, 0, 0, 0, 0, k⟩
def swT (x : Sto) (now : Int) : Sto × Int := match (logS x).ts with
 | [] => (x, 18)
 | t :: _ => match pinL x now with
   | _ :: _ => (x, 18)
   | [] => if x.has t.key = true then (wo x t.key, 0) else appS x ((logS x).seq + 1) (purge t.key)
theorem purge_ok {x : Sto} {t : Tb} {r : List Tb} (h : (logS x).ts = t :: r) : (purge t.key).ok = true := by
 have hk := (log_b x).2.2.2.kk t.key (List.mem_append.2 (.inr (List.mem_map.2 ⟨t, by rw [h]; simp, rfl⟩)))
 unfold Rc.ok purge
 dsimp only
 rw [if_neg (by decide), if_neg (by decide), if_neg (by decide), if_neg (by decide), if_pos rfl, hk]
 rfl
theorem sweepTombs_fn (x : Sto) (hs : x.ok = true) (now : Int) : VFn Tryz.prog 139 [x.av, .int .i64 now] (.tup [(swT x now).1.av, .int .i64 (swT x now).2]) := by
 obtain ⟨b1, b2, b3, b4⟩ := log_b x
 have cl := log_fn x hs
 have cp := pins_fn x hs now
 have hpu := @purge_ok x
 have hw : within ((logS x).seq + 1) 1 999999 = true := by rw [b1]; simp [within]; omega
 unfold swT
 generalize logS x = s at cl hpu b1 b3 hw
 cases hts : s.ts with
 | nil =>
   obtain ⟨a1, a2, a3, ts, a5, a6, a7, a8, a9, a10⟩ := s
   simp only at hts
   subst hts
   refine VFn.introC Tryz.call139 Tryz.func139 rfl rfl ?_
   conv => whnf
   refine CallC.nl _ (cl) ?_ ?_
   · exact rfl
   exact And.intro trivial (AVle.refl _)
 | cons t r =>
   have hok := hpu hts
   obtain ⟨a1, a2, a3, ts, a5, a6, a7, a8, a9, a10⟩ := s
   simp only at hts
   subst hts
   cases hp : pinL x now with
   | cons k q =>
     rw [hp] at cp
     refine VFn.introC Tryz.call139 Tryz.func139 rfl rfl ?_
     conv => whnf
     refine CallC.nl _ (cl) ?_ ?_
     · exact rfl
     conv => whnf
     refine CallC.nl _ (cp) ?_ ?_
     · exact rfl
     refine Grd.intro (fun _ => ?_) (fun h => absurd (show (0 : Int) < (((k :: q).length : Nat) : Int) by rw [List.length_cons]; omega) (of_decide_eq_false h))
     exact And.intro trivial (AVle.refl _)
   | nil =>
     rw [hp] at cp
     have cf := find_fn x hs t.key
     dsimp only
     by_cases hh : x.has t.key = true
     · rw [hh] at cf
       rw [if_pos hh]
       refine VFn.introC Tryz.call139 Tryz.func139 rfl rfl ?_
       conv => whnf
       refine CallC.nl _ (cl) ?_ ?_
       · exact rfl
       conv => whnf
       refine CallC.nl _ (cp) ?_ ?_
       · exact rfl
       refine And.intro ⟨Int.le_refl 0, show (0 : Int) < (((t :: r).length : Nat) : Int) by rw [List.length_cons]; omega⟩ ?_
       conv => whnf
       refine CallC.sca _ (cf) ?_ ?_
       · exact rfl
       conv => whnf
       refine CallC.nl _ (without_fn x hs t.key hh) ?_ ?_
       · exact rfl
       exact And.intro trivial (AVle.refl _)
     · have hh : x.has t.key = false := by simpa using hh
       rw [hh] at cf
       rw [if_neg (by rw [hh]; simp)]
       refine VFn.introC Tryz.call139 Tryz.func139 rfl rfl ?_
       conv => whnf
       refine CallC.nl _ (cl) ?_ ?_
       · exact rfl
       conv => whnf
       refine CallC.nl _ (cp) ?_ ?_
       · exact rfl
       refine And.intro ⟨Int.le_refl 0, show (0 : Int) < (((t :: r).length : Nat) : Int) by rw [List.length_cons]; omega⟩ ?_
       conv => whnf
       refine CallC.sca _ (cf) ?_ ?_
       · exact rfl
       refine And.intro (show inI .i64 (a1 + 1) from inI64 (by simp only at b1; omega) (by simp only at b1; omega)) ?_
       conv => whnf
       refine CallC.nl _ (lay_fn x hs (a1 + 1) hw (purge t.key) hok) ?_ ?_
       · exact rfl
       exact And.intro trivial (AVle.refl _)
def swS (x : Sto) (now : Int) : Sto × Int := if (swT x now).2 = 18 then swO x else swT x now
theorem sweep_fn (x : Sto) (hs : x.ok = true) (now : Int) : VFn Tryz.prog 109 [x.av, .int .i64 now] (.tup [(swS x now).1.av, .int .i64 (swS x now).2]) := by
 have c := sweepTombs_fn x hs now
 unfold swS
 by_cases h : (swT x now).2 = 18
 · rw [if_pos h]
   rw [h] at c
   refine VFn.introC Tryz.call109 Tryz.func109 rfl rfl ?_
   conv => whnf
   refine CallC.nl _ (c) ?_ ?_
   · exact rfl
   conv => whnf
   refine CallC.nl _ (sweepOrphans_fn x hs) ?_ ?_
   · exact rfl
   exact And.intro trivial (AVle.refl _)
 · rw [if_neg h]
   refine VFn.introC Tryz.call109 Tryz.func109 rfl rfl ?_
   conv => whnf
   refine CallC.nl _ (c) ?_ ?_
   · exact rfl
   refine Grd.intro (fun _ => ?_) (fun g => absurd (by simpa using g) h)
   exact And.intro trivial (AVle.refl _)
def Ig.own (g : Ig) (m : Nat) : AV := .agg [.int .i64 g.id, .int .i64 g.seq, .int .i64 g.f, .int .i64 g.t, .osl m, .bool g.put]
theorem CloneSm_own (L : List Smp) (hL : L.length ≤ 1000000) : FnM Tryz.prog 70 0 [smps L] [] (.osl 0) [(0, .arr 96 2 L.length fun i => (ix L i).row)] 1 := by
 refine FnM.introN Tryz.call70 Tryz.func70 rfl rfl ?_
 conv => whnf
 refine OpC.isnil rfl rfl rfl rfl rfl (fun h0 => ?_) ?_
 · conv => whnf
   exact ⟨_, .inr ⟨2, 96, 2, fun i => (ix L i).row, rfl, rfl⟩, And.intro trivial ⟨[(0, 0)], rfl, AVle.refl _, ⟨MOle.arr h0.symm fun i hi => rfl, trivial⟩⟩⟩
 · conv => whnf
   refine And.intro ⟨show (0 + L.length) * 16 ≤ 140737488355328 by omega, fun i hi => rfl⟩ ?_
   conv => whnf
   exact ⟨_, .inl rfl, And.intro trivial ⟨[(1, 0)], rfl, AVle.refl _, ⟨MOle.arr (Nat.zero_add _) fun i hi => appRows_ge (Nat.zero_le _), trivial⟩⟩⟩
theorem copiedI_own (g : Ig) (hL : g.b.length ≤ 1000000) : FnM Tryz.prog 73 0 [g.av] [] (g.own 0) [(0, .arr 96 2 g.b.length fun i => (ix g.b i).row)] 1 := by
 refine FnM.introC Tryz.call73 Tryz.func73 rfl rfl ?_
 conv => whnf
 refine CallC.k [] (CloneSm_own g.b hL) rfl rfl (AVsle.refl _) trivial rfl ?_
 conv => whnf
 exact And.intro trivial ⟨[(2, 0)], rfl, AVle.refl _, ⟨MOle.refl _, trivial⟩⟩
theorem istep_fn (x : Sto) (hs : x.ok = true) (g : Ig) (hg : g.ok = true) : VFn Tryz.prog 111 [g.av, x.av] (.tup [(stI x g).1.av, (stI x g).2.1.av, .bool (stI x g).2.2.1, .int .i64 (stI x g).2.2.2]) := by
 have f := Ig.facts hg
 by_cases h0 : g.b.length = 0
 · have c := step_idle x g h0
   unfold stI
   rw [if_pos h0]
   exact c
 · have h0' : 0 < g.b.length := by omega
   by_cases hp : g.put = true
   · obtain ⟨p1, p2, p3, p4⟩ := f.put hp
     have c := step_put x hs g h0' hp f.id p2 (ingRec_ok f hp) (appS x g.seq (ingRec g)).1 (appS x g.seq (ingRec g)).2 rfl
     unfold stI
     rw [if_neg h0, if_pos hp]
     by_cases h1 : (appS x g.seq (ingRec g)).2 = 0
     · rw [if_pos h1]
       rw [h1] at c
       exact c
     · rw [if_neg h1]
       rw [if_neg h1, decide_eq_false h1] at c
       by_cases h9 : (appS x g.seq (ingRec g)).2 = 9
       · rw [if_pos h9]
         rw [if_pos h9, if_pos h9] at c
         exact c
       · rw [if_neg h9]
         rw [if_neg h9, if_neg h9] at c
         exact c
   · have hp' : g.put = false := by simpa using hp
     have hb := log_b x
     by_cases h1 : (ix g.b 0).t < (logS x).h0
     · have c := step_late x hs g h0' hp' f.id f.sm 14 (by rw [if_pos h1]) (by decide)
       unfold stI
       rw [if_neg h0, if_neg hp, if_pos h1]
       exact c
     · by_cases h2 : (logS x).seq = 999999
       · have c := step_late x hs g h0' hp' f.id f.sm 7 (by rw [if_neg h1, if_pos h2]) (by decide)
         unfold stI
         rw [if_neg h0, if_neg hp, if_neg h1, if_pos h2]
         exact c
       · unfold stI
         rw [if_neg h0, if_neg hp, if_neg h1, if_neg h2]
         by_cases h3 : x.room (ingK x g) (smpsText g.b) = 0
         · have c := step_new x hs g h0' f.len hp' f.id f.sm h1 h2 (by omega) (x.set (ingK x g) (smpsText g.b)) x.next 0 (by rw [if_pos h3])
           rw [if_pos h3]
           exact c
         · have c := step_new x hs g h0' f.len hp' f.id f.sm h1 h2 (by omega) x 0 (x.room (ingK x g) (smpsText g.b)) (by rw [if_neg h3])
           rw [if_neg h3]
           rw [if_neg h3, if_neg h3] at c
           exact c
theorem tickI_staOK {s : Sta} (h : StaOK s) (hq : s.seq < 999999) : StaOK s.tick :=
 ⟨by have := h.q; exact ⟨show 0 ≤ s.seq + 1 by omega, show s.seq + 1 ≤ 999999 by omega⟩, h.f, h.len, h.es, fun t ht => by have := h.ts t ht; exact ⟨this.1, this.2.1, show t.seq ≤ s.seq + 1 by omega⟩, h.nd, h.lo, h.runs⟩
theorem logI_staOK (x : Sto) : ∀ n : Nat, n ≤ 400 → StaOK (logN x n)
 | 0, _ => staOK0
 | n + 1, hn => by
   have ih := logI_staOK x n (by omega)
   have hs := logN_seq x n
   have hl := logN_len x n
   show StaOK (stepL x (logN x n))
   unfold stepL
   split
   · exact tickI_staOK ih (by omega)
   · rename_i r hr
     exact app_staOK ih (readR_ok hr) (by omega) (by omega)
theorem logI_ok (x : Sto) : (logS x).ok = true := (staOK_iff _).2 (logI_staOK x _ (log_b x).2.1)
theorem ingR_ok {id : Int} (h : 0 ≤ id ∧ id ≤ 9) : (ingR id).ok = true := by
 unfold Ig.ok ingR igOK
 simp [within, smpsOK_nil]
 exact h
theorem stI_ig {x : Sto} (hx : x.ok = true) {g : Ig} (hg : g.ok = true) : (stI x g).2.1.ok = true := by
 have f := Ig.facts hg
 have hid := f.id
 have hR := ingR_ok hid
 have hl := logI_ok x
 have hb := log_b x
 have hh := Sta.hi_b hl
 unfold stI
 split
 · exact hg
 · rename_i h0
   split
   · split
     · exact hR
     · split
       · unfold Ig.ok igOK
         have := f.len
         have h8 : decide (8 < (g.b.length : Int)) = false := decide_eq_false (by omega)
         simp only [f.sm, h8]
         simp [within]
         exact hid
       · exact hR
   · split
     · exact hR
     · rename_i h1
       split
       · exact hR
       · rename_i h2
         split
         · have b0 := smps_b f.sm (i := 0) (by omega)
           have h8 := f.len
           have e1 : (Int.toNat 0) = 0 := rfl
           have e2 : ((g.b.length : Int) - 1).toNat = g.b.length - 1 := by omega
           unfold Ig.ok igOK ingPut
           simp only [f.sm, e1, e2]
           simp [within]
           omega
         · exact hR
theorem smps_mem {L : List Smp} (h : smpsOK L = true) : ∀ e ∈ L, (0 ≤ e.t ∧ e.t ≤ 99999) ∧ (-1000000 ≤ e.v ∧ e.v ≤ 1000000) := fun e he => by
 obtain ⟨i, hi, e0⟩ := List.getElem_of_mem he
 unfold smpsOK at h
 rw [Bool.and_eq_true] at h
 have := allN_iff.1 h.2 i hi
 unfold smpAt at this
 rw [ix_lt hi, e0] at this
 simp [within] at this
 exact ⟨this.1.1, this.1.2⟩
theorem smps_of {L : List Smp} (hl : L.length ≤ 4096) (hm : ∀ e ∈ L, (0 ≤ e.t ∧ e.t ≤ 99999) ∧ (-1000000 ≤ e.v ∧ e.v ≤ 1000000)) (hp : L.Pairwise (fun x y => x.t < y.t)) : smpsOK L = true := by
 unfold smpsOK
 rw [decide_eq_true hl, Bool.true_and]
 refine allN_iff.2 fun i hi => ?_
 have h1 := hm _ (getD_mem (L := L) hi)
 have h1 : (0 ≤ (ix L i).t ∧ (ix L i).t ≤ 99999) ∧ (-1000000 ≤ (ix L i).v ∧ (ix L i).v ≤ 1000000) := h1
 unfold smpAt
 simp only [within]
 rcases Nat.eq_zero_or_pos i with h0 | h0
 · simp [h0] at *; omega
 · have h2 : (ix L (i - 1)).t < (ix L i).t := by
    have := List.pairwise_iff_getElem.1 hp (i - 1) i (by omega) hi (by omega)
    rw [ix_lt hi, ix_lt (show i - 1 < L.length by omega)]
    exact this
   simp; omega
theorem smps_cat {a b : List Smp} {h0 : Int} (ha : smpsOK a = true) (hb : smpsOK b = true) (h1 : ∀ e ∈ a, e.t < h0) (h2 : ∀ e ∈ b, h0 ≤ e.t) (hl : a.length + b.length ≤ 4096) : smpsOK (a ++ b) = true := by
 refine smps_of (by rw [List.length_append]; exact hl) (fun e he => ?_) (List.pairwise_append.2 ⟨smps_pw ha, smps_pw hb, fun x hx y hy => ?_⟩)
 · rcases List.mem_append.1 he with h | h
   · exact smps_mem ha e h
   · exact smps_mem hb e h
 · have := h1 x hx
   have := h2 y hy
   omega
structure IgOut (me C : Int) (x : Sto) (n : Nat) (s : Sta) (ac : List Smp) (g : Ig) (p : Sto × Ig × Bool × Int) : Prop where
 out : ∃ n' s', Stp me C x n s ac p.1 n' s' (if p.2.2.1 = true then ac ++ g.b else ac) ∧ IgI p.1 s' p.2.1 ∧ (p.2.2.1 = true → s.h0 < s'.h0)
 id : p.2.1.id = g.id
 cnt : (if p.2.2.1 = true then ac ++ g.b else ac).length + p.2.1.b.length ≤ ac.length + g.b.length
section ig
variable {x : Sto} {n : Nat} {s : Sta} {ac : List Smp} {me C : Int}
theorem ingR_I {id : Int} (h : 0 ≤ id ∧ id ≤ 9) : IgI x s (ingR id) := ⟨ingR_ok h, fun h => absurd (show false = true from h) (by decide), fun h => absurd (show false = true from h) (by decide)⟩
theorem IgOut.stay (I : StI x n s ac) {g h : Ig} {c : Int} (hi : IgI x s h) (hid : h.id = g.id) (hb : h.b.length ≤ g.b.length) : IgOut me C x n s ac g (x, h, false, c) :=
 ⟨⟨n, s, Stp.refl me C I, hi, fun h => absurd (show false = true from h) (by decide)⟩, hid, by show ac.length + h.b.length ≤ _; omega⟩
theorem ig_step (C : Int) (I : StI x n s ac) (hac : ac.length ≤ 1000) {g : Ig} (W : IgI x s g) : IgOut g.id C x n s ac g (stI x g) := by
 have F := Ig.facts W.ok
 have iok := stI_ig I.lg.ok W.ok
 have hid := F.id
 have reset : ∀ c : Int, IgOut g.id C x n s ac g (x, ingR g.id, false, c) := fun c => IgOut.stay I (ingR_I hid) rfl (Nat.zero_le _)
 have hle := I.lg.le
 have hsq := I.seqN
 unfold stI at iok ⊢
 by_cases h0 : g.b.length = 0
 · rw [if_pos h0]; exact IgOut.stay I W rfl (Nat.le_refl _)
 rw [if_neg h0] at iok ⊢
 by_cases hp : g.put = true
 · rw [if_pos hp] at iok ⊢
   obtain ⟨q1, q2, q3, q4⟩ := F.put hp
   have hs := W.sq hp
   have hr := ingRec_ok F hp
   obtain ⟨m, hm⟩ : ∃ m : Nat, g.seq = (m : Int) := ⟨g.seq.toNat, by omega⟩
   rcases Nat.lt_or_ge n m with hlt | hge
   · have em : m = n + 1 := by omega
     subst em
     have hat := W.at_ hp (by omega)
     rw [hm] at iok ⊢
     rcases I.lg.layG hr with ⟨c, c1, c2, h⟩ | ⟨y, h, L, S, _⟩
     · rw [h, if_neg c1, if_neg c2]
       exact reset c
     · rw [h, if_pos rfl]
       obtain ⟨a1, a2, a3⟩ := hat
       have er : ingRec g = ⟨1, 0, 0, g.f, g.t, keyB 0 (n + 1) g.id.toNat⟩ := by
        unfold ingRec
        rw [show g.seq.toNat = n + 1 by omega]
       have ek : g.seq.toNat = n + 1 := by omega
       rw [ek] at a2 a3
       rw [er] at hr L
       have srt := smps_srt F.sm
       have hbt : ∀ a ∈ g.b, s.h0 ≤ a.t ∧ a.t < g.t := fun a ha => by
        obtain ⟨i, hi, e⟩ := List.getElem_of_mem ha
        have u1 := srt 0 i (Nat.zero_le _) hi
        have u2 := srt i (g.b.length - 1) (by omega) (by omega)
        rw [ix_lt hi, e] at u1 u2
        omega
       have hcat := smps_cat I.acok F.sm I.ach (fun e he => (hbt e he).1) (by have := F.len; omega)
       obtain ⟨b1, b2⟩ := I.add hr (by omega) a1 F.len hbt a2 a3 hcat L S
       refine ⟨⟨n + 1, _, ⟨b1, ?_, ?_, .inr rfl⟩, ingR_I hid, fun _ => b2⟩, rfl, ?_⟩
       · exact Gr.lay g.id I hr S ⟨g.b, rfl, fun a ha => (hbt a ha).1⟩
       · exact Kept.lay C hr (show (1 : Int) ≠ 5 by decide) S
       · show (ac ++ g.b).length + ([] : List Smp).length ≤ _
         rw [List.length_append]
         exact Nat.le_refl _
   · have hh : x.has (manK g.seq) = true := by
      rw [hm, I.lg.has m (by omega) (by omega)]
      exact decide_eq_true hge
     have ha : appS x g.seq (ingRec g) = (x, 9) := by unfold appS Sto.putA; rw [if_pos hh]
     rw [ha] at iok ⊢
     rw [if_neg (show ¬ ((x, 9) : Sto × Int).2 = 0 from (by decide : ¬ (9 : Int) = 0)), if_pos rfl] at iok ⊢
     exact IgOut.stay I ⟨iok, fun h => absurd (show false = true from h) (by decide), fun h => absurd (show false = true from h) (by decide)⟩ rfl (Nat.le_refl _)
 · rw [if_neg hp] at iok ⊢
   by_cases h1 : (ix g.b 0).t < (logS x).h0
   · rw [if_pos h1]; exact reset _
   rw [if_neg h1] at iok ⊢
   by_cases h2 : (logS x).seq = 999999
   · rw [if_pos h2]; exact reset _
   rw [if_neg h2] at iok ⊢
   by_cases h3 : x.room (ingK x g) (smpsText g.b) = 0
   · rw [if_pos h3] at iok ⊢
     have eK : ingK x g = keyB 0 (s.seq + 1).toNat g.id.toNat := by unfold ingK; rw [I.lg.log]
     rw [eK] at h3 ⊢
     have hy := set_ok I.lg.ok (keyF_ok (t := 0) (n := (s.seq + 1).toNat) (w := g.id.toNat) (by omega)) h3
     have eid : ((g.id.toNat : Nat) : Int) = g.id := by omega
     have G := Gr.raw I (id := g.id.toNat) (by omega) hy
     rw [eid] at G
     have c := set_at x (keyB 0 (s.seq + 1).toNat g.id.toNat) (smpsText g.b)
     refine ⟨⟨n, s, ⟨I.raw (by omega) hy, G, Kept.raw C I (by omega) hy, .inl ⟨rfl, rfl⟩⟩, ⟨iok, fun _ => ?_, fun _ _ => ?_⟩, fun h => absurd (show false = true from h) (by decide)⟩, rfl, Nat.le_refl _⟩
     · show (logS x).seq + 1 ≤ s.seq + 1
       rw [I.lg.log]
       exact Int.le_refl _
     · show (logS x).h0 = s.h0 ∧ _
       unfold ingPut
       simp only
       rw [I.lg.log, c.2]
       exact ⟨rfl, c.1, rfl⟩
   · rw [if_neg h3]; exact reset _
end ig
def ansR (r : Rr) : An := ⟨r.tier, r.f, r.t, r.code, if r.code = 0 then r.got else default⟩
structure RdOut (me C : Int) (x : Sto) (n : Nat) (s : Sta) (ac : List Smp) (id : Int) (p : Sto × Rr × Bool × Int) : Prop where
 out : ∃ n' s', Stp me C x n s ac p.1 n' s' ac ∧ RdI p.1 s' ac C p.2.1 ∧ (p.2.2.1 = true → AnI s' ac (ansR p.2.1))
 id : p.2.1.id = id
structure RrF (r : Rr) : Prop where
 id : 0 ≤ r.id ∧ r.id ≤ 9
 ph : 0 ≤ r.ph ∧ r.ph ≤ 4
 tier : r.tier = 0 ∨ r.tier = 1 ∨ r.tier = 2
 rg : isRange r.f r.t = true
 til : 0 ≤ r.til ∧ r.til ≤ 200000
 code : 0 ≤ r.code ∧ r.code ≤ 19
 got : r.got.ok = true ∧ r.got.c ≤ 1000
 len : r.left.length ≤ 300
 es : ∀ e ∈ r.left, e.ok = true ∧ e.tier = r.tier
theorem rr_iff (r : Rr) : r.ok = true ↔ RrF r := by
 unfold Rr.ok gotOK atTier
 simp only [Bool.and_eq_true, decide_eq_true_eq, List.all_eq_true, within]
 constructor
 · rintro ⟨h1, h2, h3, h4, h5, h6, h7, h8, h9⟩
   exact ⟨h1, h2, by omega, h4, h5, h6, h7, by omega, h9⟩
 · intro h
   exact ⟨h.id, h.ph, by have := h.tier; omega, h.rg, h.til, h.code, h.got, by have := h.len; omega, h.es⟩
section rd
variable {x : Sto} {n : Nat} {s : Sta} {ac : List Smp} {C : Int}
theorem RdOut.stay (I : StI x n s ac) {me : Int} {v : Rr} {c id : Int} (h : RdI x s ac C v) (hi : v.id = id) : RdOut me C x n s ac id (x, v, false, c) :=
 ⟨⟨n, s, Stp.refl me C I, h, fun h => absurd (show false = true from h) (by decide)⟩, hi⟩
theorem goOn_I {r : Rr} (F : RrF r) {c : Int} (hc : 0 ≤ c ∧ c ≤ 19) (h5 : c ≠ 5 ∧ c ≠ 17) (h0 : c = 0 → r.t ≤ s.h0 ∧ r.got = agI ac r.f r.t) : RdI x s ac C (goOnR r c) := by
 refine ⟨(rr_iff _).2 ⟨F.id, (show (0 : Int) ≤ 4 ∧ (4 : Int) ≤ 4 by decide), F.tier, F.rg, F.til, hc, F.got, by simp [goOnR], by simp [goOnR]⟩, fun g => ?_, fun g => ?_, fun g => absurd (show (4 : Int) = 3 from g) (by decide), fun g => absurd (show (4 : Int) = 3 from g) (by decide), fun _ => ⟨h5, h0⟩⟩
 · rcases g with g | g <;> exact absurd (show (4 : Int) = _ from g) (by decide)
 · rcases g with g | g <;> exact absurd (show (4 : Int) = _ from g) (by decide)
theorem Stp.pin (me : Int) (I : StI x n s ac) (hme : 0 ≤ me ∧ me ≤ 9) {d : List UInt8} (hr : x.room (pinK me) d = 0) (hk : keyOK (pinK me) = true) : Stp me C x n s ac (x.set (pinK me) d) n s ac := by
 have hy := set_ok I.lg.ok hk hr
 have S : Same x (x.set (pinK me) d) (pinK me) := fun q hq => set_ne I.lg.ok hy hq
 exact ⟨I.other S hy (kOk_pin me) (fun i => man_ne_pin i me), Gr.other me I S (kOk_pin me) (fun i hi hn e => hn (pinK_inj hi hme e)), Kept.other C S (kOk_pin me), .inl ⟨rfl, rfl⟩⟩
theorem Stp.unpin (me : Int) (I : StI x n s ac) (hme : 0 ≤ me ∧ me ≤ 9) : Stp me C x n s ac (wo x (pinK me)) n s ac := by
 have S : Same x (wo x (pinK me)) (pinK me) := fun q hq => wo_ne I.lg.ok hq
 exact ⟨I.other S (wo_ok I.lg.ok _) (kOk_pin me) (fun i => man_ne_pin i me), Gr.other me I S (kOk_pin me) (fun i hi hn e => hn (pinK_inj hi hme e)), Kept.other C S (kOk_pin me), .inl ⟨rfl, rfl⟩⟩
theorem pinK_ok {i : Int} (h : 0 ≤ i ∧ i ≤ 9) : keyOK (pinK i) = true := by
 obtain ⟨k, rfl⟩ : ∃ k : Nat, i = (k : Int) := ⟨i.toNat, by omega⟩
 have hk : k ≤ 9 := by omega
 unfold pinK
 rw [Lib.itoa_nonneg, Lib.decDigits, dif_pos (by omega)]
 have : k = 0 ∨ k = 1 ∨ k = 2 ∨ k = 3 ∨ k = 4 ∨ k = 5 ∨ k = 6 ∨ k = 7 ∨ k = 8 ∨ k = 9 := by omega
 rcases this with rfl | rfl | rfl | rfl | rfl | rfl | rfl | rfl | rfl | rfl <;> decide
theorem rd_step (I : StI x n s ac) (hac : ac.length ≤ 1000) {r : Rr} (W : RdI x s ac C r) {now : Int} (hnow : 0 ≤ now ∧ now ≤ 101000) (hC : C ≤ now + 3) :
 RdOut r.id C x n s ac r.id (stepR x r now) ∧ (r.ph = 3 → ∀ e l, r.left = e :: l → ¬ r.til - 3 < now → x.has e.key = true → WinOK x e r.f r.t r.got) := by
 have F := (rr_iff r).1 W.ok
 have hwin : r.ph = 3 → ∀ e l, r.left = e :: l → ¬ r.til - 3 < now → x.has e.key = true ∧ (WinOK x e r.f r.t r.got ∧ winR x e r.f r.t r.got = (r.got.mrg (valE ac r.f r.t e), 0) ∧ (r.got.mrg (valE ac r.f r.t e)).ok = true ∧ (r.got.mrg (valE ac r.f r.t e)).c ≤ 1000 ∧ gfold ac r.f r.t (r.got.mrg (valE ac r.f r.t e)) l = agI ac r.f r.t) := fun h3 e l hl ht => by
  obtain ⟨p1, p2, p3⟩ := W.p3 h3
  rw [hl] at p2
  have hv := W.lv h3 (by omega) e (by rw [hl]; simp)
  exact ⟨hv.1, win_step I hac F.got.1 p2 (p3 e (by rw [hl]; simp)) hv.1⟩
 refine ⟨?_, fun h3 e l hl ht _ => (hwin h3 e l hl ht).2.1⟩
 unfold stepR
 by_cases h0 : r.ph = 0
 · rw [if_pos h0]; exact RdOut.stay I W rfl
 rw [if_neg h0]
 by_cases h1 : r.ph = 1
 · rw [if_pos h1]
   by_cases hr : x.room (pinK r.id) (Lib.itoa (now + 30)) = 0
   · rw [if_pos hr]
     have c := set_at x (pinK r.id) (Lib.itoa (now + 30))
     refine ⟨⟨n, s, Stp.pin r.id I F.id hr (pinK_ok F.id), ⟨(rr_iff _).2 ⟨F.id, (show (0 : Int) ≤ 2 ∧ (2 : Int) ≤ 4 by decide), F.tier, F.rg, ⟨by show 0 ≤ now + 30; omega, by show now + 30 ≤ 200000; omega⟩, F.code, F.got, F.len, F.es⟩, fun _ => ⟨c.1, by rw [c.2]⟩, fun _ => W.p0 (.inl h1), fun g => absurd (show (2 : Int) = 3 from g) (by decide), fun g => absurd (show (2 : Int) = 3 from g) (by decide), fun g => absurd (show (2 : Int) = 4 from g) (by decide)⟩, fun h => absurd (show false = true from h) (by decide)⟩, rfl⟩
   · rw [if_neg hr]
     have hrc : x.room (pinK r.id) (Lib.itoa (now + 30)) = 8 ∨ x.room (pinK r.id) (Lib.itoa (now + 30)) = 7 := by
      unfold Sto.room at hr ⊢
      split
      · exact .inl rfl
      · rename_i q
        rw [if_neg q] at hr
        split
        · exact .inr rfl
        · rename_i q2
          rw [if_neg q2] at hr
          exact absurd rfl hr
     generalize x.room (pinK r.id) (Lib.itoa (now + 30)) = c at *
     exact RdOut.stay I (goOn_I F (by omega) (by omega) (fun h => by omega)) rfl
 rw [if_neg h1]
 by_cases h2 : r.ph = 2
 · rw [if_pos h2, I.lg.log]
   have hp := W.pin (.inl h2)
   by_cases hc : covC s r.tier r.f r.t = 0
   · rw [if_pos hc]
     have hab : 0 ≤ r.f ∧ r.f ≤ r.t ∧ r.t ≤ 100000 := by have := F.rg; simp [isRange, within] at this; omega
     have hcc := hc
     unfold covC at hcc
     split at hcc
     rotate_left
     · omega
     rename_i q
     obtain ⟨q1, q2, q3, q4⟩ := q
     split at hcc
     · omega
     rename_i q5
     split at hcc
     · omega
     rename_i q6
     have hw := wd_b r.tier
     rw [Int.tmod_eq_emod_of_nonneg hab.1] at q3
     rw [Int.tmod_eq_emod_of_nonneg (by omega)] at q4
     obtain ⟨c1, c2, c3⟩ := cov_I I F.tier hab.2.1 (by omega) (by omega) q3 q4
     have hh := hi_le I.li r.tier
     refine RdOut.stay I ⟨(rr_iff _).2 ⟨F.id, (show (0 : Int) ≤ 3 ∧ (3 : Int) ≤ 4 by decide), F.tier, F.rg, F.til, F.code, F.got, c3, fun e he => ⟨(c2 e he).1.kn.st.ok, (c2 e he).2.2⟩⟩, fun _ => hp, fun g => ?_, fun _ => ⟨by show r.t ≤ s.h0; omega, ?_, fun e he => (c2 e he).1⟩, fun _ _ e he => ?_, fun g => absurd (show (3 : Int) = 4 from g) (by decide)⟩ rfl
     · rcases g with g | g <;> exact absurd (show (3 : Int) = _ from g) (by decide)
     · show gfold ac r.f r.t r.got _ = _
       rw [W.p0 (.inr h2)]
       exact c1
     · obtain ⟨_, d1, _⟩ := c2 e he
       exact ⟨(I.es e d1).2, List.mem_append.2 (.inl (List.mem_map.2 ⟨e, d1, rfl⟩))⟩
   · rw [if_neg hc]
     have : covC s r.tier r.f r.t = 4 ∨ covC s r.tier r.f r.t = 15 ∨ covC s r.tier r.f r.t = 16 := by
      unfold covC at hc ⊢
      split
      · split
        · exact .inr (.inl rfl)
        · split
          · exact .inr (.inr rfl)
          · rename_i a1 a2 a3
            rw [if_pos a1, if_neg a2, if_neg a3] at hc
            exact absurd rfl hc
      · exact .inl rfl
     generalize covC s r.tier r.f r.t = c at *
     exact RdOut.stay I (goOn_I F (by omega) (by omega) (fun h => by omega)) rfl
 rw [if_neg h2]
 by_cases h3 : r.ph = 3
 · rw [if_pos h3]
   obtain ⟨p1, p2, p3⟩ := W.p3 h3
   cases hl : r.left with
   | nil =>
     simp only
     rw [hl] at p2
     exact RdOut.stay I (goOn_I F (by omega) (by omega) (fun _ => ⟨p1, p2⟩)) rfl
   | cons e l =>
     simp only
     by_cases ht : r.til - 3 < now
     · rw [if_pos ht]
       exact RdOut.stay I (goOn_I F (by omega) (by omega) (fun h => by omega)) rfl
     · rw [if_neg ht]
       obtain ⟨_, _, w2, w3, w4, w5⟩ := hwin h3 e l hl ht
       rw [w2, if_pos rfl]
       have hll : l.length ≤ 300 := by have := F.len; rw [hl] at this; simp at this; omega
       refine RdOut.stay I ⟨(rr_iff _).2 ⟨F.id, F.ph, F.tier, F.rg, F.til, F.code, ⟨w3, w4⟩, hll, fun y hy => F.es y (by rw [hl]; simp [hy])⟩, fun _ => W.pin (.inr h3), fun g => ?_, fun _ => ⟨p1, w5, fun y hy => p3 y (by rw [hl]; simp [hy])⟩, fun _ hc y hy => W.lv h3 hc y (by rw [hl]; simp [hy]), fun g => ?_⟩ rfl
       · have g : r.ph = 1 ∨ r.ph = 2 := g
         omega
       · have g : r.ph = 4 := g
         omega
 rw [if_neg h3]
 have h4 : r.ph = 4 := by have := F.ph; omega
 obtain ⟨a1, a2⟩ := W.p4 h4
 refine ⟨⟨n, s, Stp.unpin r.id I F.id, ⟨(rr_iff _).2 ⟨F.id, (show (0 : Int) ≤ 0 ∧ (0 : Int) ≤ 4 by decide), F.tier, F.rg, F.til, F.code, F.got, F.len, F.es⟩, fun g => ?_, fun g => ?_, fun g => absurd (show (0 : Int) = 3 from g) (by decide), fun g => absurd (show (0 : Int) = 3 from g) (by decide), fun g => absurd (show (0 : Int) = 4 from g) (by decide)⟩, fun _ => ⟨?_, a1, fun hc => ?_, fun hc => ?_⟩⟩, rfl⟩
 · rcases g with g | g <;> exact absurd (show (0 : Int) = _ from g) (by decide)
 · rcases g with g | g <;> exact absurd (show (0 : Int) = _ from g) (by decide)
 · have hgo : (if r.code = 0 then r.got else default : Ag).ok = true := by
    split
    · exact F.got.1
    · rfl
   have h1 := F.tier
   have h2 := F.code
   unfold An.ok ansR
   rw [hgo, F.rg, show within r.tier 0 2 = true by simp [within]; omega, show within r.code 0 19 = true by simp [within]; omega]
   rfl
 · have hc : r.code = 0 := hc
   obtain ⟨b1, b2⟩ := a2 hc
   refine ⟨b1, ?_⟩
   show (if r.code = 0 then r.got else default) = _
   rw [if_pos hc]
   exact b2
 · have hc : r.code ≠ 0 := hc
   show (if r.code = 0 then r.got else default) = _
   rw [if_neg hc]
end rd
section sw
variable {x : Sto} {n : Nat} {s : Sta} {ac : List Smp} {C : Int}
theorem sw_step (me : Int) (I : StI x n s ac) {now : Int} (hC : now ≤ C + 3) : ∃ n' s', Stp me C x n s ac (swS x now).1 n' s' ac := by
 have free : pinL x now = [] → ∀ i til : Int, (0 ≤ i ∧ i ≤ 9) → (0 ≤ til ∧ til ≤ 200000) → x.has (pinK i) = true → (x.get (pinK i)).data = Lib.itoa til → ¬ C ≤ til + 3 := fun hp i til h1 h2 h3 h4 => by
  obtain ⟨a1, a2⟩ := has_get h3
  have hm : pinK i ∈ x.os.map (·.key) := List.mem_map.2 ⟨_, a1, a2⟩
  have hn : pinK i ∉ pinL x now := by rw [hp]; simp
  have : keepK x now (pinK i) = false := by
   cases h : keepK x now (pinK i) with
   | false => rfl
   | true => exact absurd (List.mem_filter.2 ⟨hm, h⟩) hn
  unfold keepK at this
  rw [pinK_pre, Bool.true_and, h4] at this
  unfold pinQ at this
  obtain ⟨b1, b2⟩ := num_back (n := til) (by omega) (by omega)
  rw [b1, b2] at this
  simp at this
  omega
 have orph : ∃ n' s', Stp me C x n s ac (swO x).1 n' s' ac := by
  unfold swO
  split
  · exact ⟨n, s, Stp.refl me C I⟩
  · rename_i k r hk
    have hm : k ∈ orphL x := by rw [hk]; simp
    have ho := (List.mem_filter.1 hm).2
    rw [I.lg.log] at ho
    unfold Sta.orph at ho
    simp only [Bool.and_eq_true, Bool.or_eq_true, Bool.not_eq_true', decide_eq_true_eq] at ho
    obtain ⟨o1, o2, o3⟩ := ho
    have hnk : k ∉ s.keys := fun h => by rw [(has_iff s k).2 h] at o2; cases o2
    refine ⟨n, s, ⟨I.del o1 (fun e he h => hnk (List.mem_append.2 (.inl (List.mem_map.2 ⟨e, he, h⟩)))), Gr.del me I o1 (fun h => ?_) (fun h => .inl ?_), Kept.orph C I hnk, .inl ⟨rfl, rfl⟩⟩⟩
    · rcases o3 with o3 | o3
      · exact o3.2
      · omega
    · rcases o3 with o3 | o3
      · exact absurd o3.1 h
      · exact o3.2
 unfold swS
 by_cases h18 : (swT x now).2 = 18
 · rw [if_pos h18]; exact orph
 · rw [if_neg h18]
   unfold swT
   rw [I.lg.log]
   cases ht : s.ts with
   | nil => exact ⟨n, s, Stp.refl me C I⟩
   | cons t r =>
     simp only
     have htm : t ∈ s.ts := by rw [ht]; simp
     have O := (staOK_iff s).1 I.lg.sok
     have htk := (O.ts t htm).1
     obtain ⟨l1, l2⟩ := I.li.ts t htm
     cases hp : pinL x now with
     | cons a b => exact ⟨n, s, Stp.refl me C I⟩
     | nil =>
       simp only
       by_cases hh : x.has t.key = true
       · rw [if_pos hh]
         have hne : ∀ e ∈ s.es, e.key ≠ t.key := fun e he h => by
          have nd := O.nd
          unfold Sta.keys at nd
          exact (List.nodup_append.1 nd).2.2 e.key (List.mem_map.2 ⟨e, he, rfl⟩) t.key (List.mem_map.2 ⟨t, htm, rfl⟩) h
         exact ⟨n, s, ⟨I.del htk hne, Gr.del me I htk l1 (fun h => .inr (l2 h)), Kept.free (free hp), .inl ⟨rfl, rfl⟩⟩⟩
       · rw [if_neg hh, lay_at I]
         have hr : (purge t.key).ok = true := by
          unfold Rc.ok purge
          simp [Rc.bare, htk]
         rcases I.lg.layG hr with ⟨c, c1, c2, h⟩ | ⟨y, h, L, S, _⟩
         · rw [h]; exact ⟨n, s, Stp.refl me C I⟩
         · rw [h]
           exact ⟨n + 1, _, ⟨I.recd hr (show (5 : Int) ≠ 1 by decide) (fun g => absurd (show (5 : Int) = 3 from g) (by decide)) L S, Gr.lay me I hr S ⟨[], by simp, by simp⟩, Kept.free (free hp), .inr rfl⟩⟩
end sw

def Fl.skew (s : Fl) (i : Int) : Int := if i = 0 then s.k0 else if i = 1 then s.k1 else if i = 2 then s.k2 else if i = 3 then s.k3 else if i = 4 then s.k4 else if i = 5 then s.k5 else s.k6
structure FlI (f : Fl) (M Q : Nat) : Prop where
 st : StI f.st (logEnd f.st) (logS f.st) f.ac
 clk : 3 ≤ f.clk ∧ f.clk ≤ 100000
 sk : ∀ k ∈ [f.k0, f.k1, f.k2, f.k3, f.k4, f.k5, f.k6], -3 ≤ k ∧ k ≤ 3
 ws : ∃ w0 w1, f.ws = [w0, w1] ∧ (w0.id = 0 ∧ w1.id = 1) ∧ WkI f.st (logS f.st) f.ac w0 ∧ WkI f.st (logS f.st) f.ac w1
 gs : ∃ g0 g1, f.gs = [g0, g1] ∧ (g0.id = 2 ∧ g1.id = 3) ∧ (IgI f.st (logS f.st) g0 ∧ IgI f.st (logS f.st) g1) ∧ f.ac.length + g0.b.length + g1.b.length ≤ M
 rs : ∃ r0 r1, f.rs = [r0, r1] ∧ (r0.id = 4 ∧ r1.id = 5) ∧ RdI f.st (logS f.st) f.ac f.clk r0 ∧ RdI f.st (logS f.st) f.ac f.clk r1
 an : (∀ a ∈ f.an, AnI (logS f.st) f.ac a) ∧ f.an.length ≤ Q
structure FlS (f f' : Fl) : Prop where
 lg : (logEnd f'.st = logEnd f.st ∧ logS f'.st = logS f.st) ∨ logEnd f'.st = logEnd f.st + 1
 ac : f.ac.length < f'.ac.length → (logS f.st).h0 < (logS f'.st).h0
theorem FlS.same {f f' : Fl} (h : f'.st = f.st) (ha : f'.ac = f.ac) : FlS f f' := ⟨.inl (by rw [h]; exact ⟨rfl, rfl⟩), fun g => by rw [ha] at g; omega⟩
theorem FlI.more {f : Fl} {M Q M' Q' : Nat} (F : FlI f M Q) (hM : M ≤ M') (hQ : Q ≤ Q') : FlI f M' Q' := by
 obtain ⟨g0, g1, a, b, c, d⟩ := F.gs
 exact ⟨F.st, F.clk, F.sk, F.ws, ⟨g0, g1, a, b, c, by omega⟩, F.rs, F.an.1, by have := F.an.2; omega⟩
theorem FlI.acl {f : Fl} {M Q : Nat} (F : FlI f M Q) : f.ac.length ≤ M := by
 obtain ⟨g0, g1, _, _, _, h⟩ := F.gs
 omega
theorem skew_b {f : Fl} {M Q : Nat} (F : FlI f M Q) (i : Int) : -3 ≤ f.skew i ∧ f.skew i ≤ 3 := by
 have h := F.sk
 unfold Fl.skew
 split
 · exact h _ (by simp)
 split
 · exact h _ (by simp)
 split
 · exact h _ (by simp)
 split
 · exact h _ (by simp)
 split
 · exact h _ (by simp)
 split
 · exact h _ (by simp)
 · exact h _ (by simp)
def Fl.now (f : Fl) (who : Int) : Int := f.clk + f.skew who
theorem now_bd {f : Fl} {M Q : Nat} (F : FlI f M Q) (i : Int) : (0 ≤ f.now i ∧ f.now i ≤ 101000) ∧ f.clk ≤ f.now i + 3 ∧ f.now i ≤ f.clk + 3 := by
 have := skew_b F i
 have := F.clk
 unfold Fl.now
 omega
def stepF (f : Fl) (who : Nat) : Fl × Int :=
 if who = 6 then (if (swS f.st (f.now 6)).2 = 0 then ({ f with st := (swS f.st (f.now 6)).1 }, 0) else (f, (swS f.st (f.now 6)).2))
 else if who = 4 ∨ who = 5 then
  ({ f with st := (stepR f.st (ix f.rs (who - 4)) (f.now who)).1, rs := f.rs.set (who - 4) (stepR f.st (ix f.rs (who - 4)) (f.now who)).2.1, an := if (stepR f.st (ix f.rs (who - 4)) (f.now who)).2.2.1 = true then f.an ++ [ansR (stepR f.st (ix f.rs (who - 4)) (f.now who)).2.1] else f.an }, (stepR f.st (ix f.rs (who - 4)) (f.now who)).2.2.2)
 else if who = 2 ∨ who = 3 then
  ({ f with st := (stI f.st (ix f.gs (who - 2))).1, gs := f.gs.set (who - 2) (stI f.st (ix f.gs (who - 2))).2.1, ac := if (stI f.st (ix f.gs (who - 2))).2.2.1 = true then f.ac ++ (ix f.gs (who - 2)).b else f.ac }, (stI f.st (ix f.gs (who - 2))).2.2.2)
 else
  ({ f with st := (stepW f.st (ix f.ws who) (f.now who)).1, ws := f.ws.set who (stepW f.st (ix f.ws who) (f.now who)).2.1 }, (stepW f.st (ix f.ws who) (f.now who)).2.2)
section fl
variable {f : Fl} {M Q : Nat}
theorem FlI.grow (F : FlI f M Q) {me : Int} {y : Sto} {n' : Nat} {s' : Sta} {ac' : List Smp} (S : Stp me f.clk f.st (logEnd f.st) (logS f.st) f.ac y n' s' ac') :
 logEnd y = n' ∧ logS y = s' ∧ StI y (logEnd y) (logS y) ac' ∧ (∀ w, WkI f.st (logS f.st) f.ac w → WkI y (logS y) ac' w) ∧ (∀ g, g.id ≠ me → IgI f.st (logS f.st) g → IgI y (logS y) g) ∧
 (∀ r, r.id ≠ me → RdI f.st (logS f.st) f.ac f.clk r → RdI y (logS y) ac' f.clk r) ∧ (∀ a, AnI (logS f.st) f.ac a → AnI (logS y) ac' a) ∧ ((logEnd y = logEnd f.st ∧ logS y = logS f.st) ∨ logEnd y = logEnd f.st + 1) := by
 have e1 := S.st.lg.fin
 have e2 := S.st.lg.log
 have hl := F.st.li
 rw [e1, e2]
 exact ⟨rfl, rfl, S.st, fun w h => h.grow S.gr hl, fun g hg h => h.grow S.gr hg (Ig.facts h.ok).id, fun r hr h => h.grow S.gr (Int.le_refl _) S.kp hl hr, fun a h => h.grow S.gr, S.lg⟩
theorem FlI.step (F : FlI f M Q) (hM : M ≤ 1000) {who : Nat} (hw : who ≤ 6) : FlI (stepF f who).1 M (Q + 1) ∧ FlS f (stepF f who).1 ∧
 ((who = 4 ∨ who = 5) → (ix f.rs (who - 4)).ph = 3 → ∀ e l, (ix f.rs (who - 4)).left = e :: l → ¬ (ix f.rs (who - 4)).til - 3 < f.now who → f.st.has e.key = true → WinOK f.st e (ix f.rs (who - 4)).f (ix f.rs (who - 4)).t (ix f.rs (who - 4)).got) := by
 have hac : f.ac.length ≤ 1000 := Nat.le_trans F.acl hM
 obtain ⟨w0, w1, ew, ⟨i0, i1⟩, W0, W1⟩ := F.ws
 obtain ⟨g0, g1, eg, ⟨i2, i3⟩, ⟨G0, G1⟩, hcnt⟩ := F.gs
 obtain ⟨r0, r1, er, ⟨i4, i5⟩, R0, R1⟩ := F.rs
 obtain ⟨an1, an2⟩ := F.an
 unfold stepF
 have h7 : who = 0 ∨ who = 1 ∨ who = 2 ∨ who = 3 ∨ who = 4 ∨ who = 5 ∨ who = 6 := by omega
 rcases h7 with rfl | rfl | rfl | rfl | rfl | rfl | rfl
 · obtain ⟨n', s', S, V, hv⟩ := wk_step w0.id f.clk F.st hac W0 (f.now ((0 : Nat) : Int))
   obtain ⟨_, q0, q1, q2, q3, q4, q5, q6⟩ := F.grow S
   rw [← q0] at V
   have e0 : ix f.ws 0 = w0 := by rw [ew]; rfl
   rw [if_neg (by decide), if_neg (by decide), if_neg (by decide), e0]
   generalize stepW f.st w0 (f.now ((0 : Nat) : Int)) = p at *
   exact ⟨⟨q1, F.clk, F.sk, ⟨p.2.1, w1, by rw [ew]; rfl, ⟨hv.trans i0, i1⟩, V, q2 w1 W1⟩, ⟨g0, g1, eg, ⟨i2, i3⟩, ⟨q3 g0 (by omega) G0, q3 g1 (by omega) G1⟩, hcnt⟩, ⟨r0, r1, er, ⟨i4, i5⟩, q4 r0 (by omega) R0, q4 r1 (by omega) R1⟩, fun a ha => q5 a (an1 a ha), by show f.an.length ≤ Q + 1; omega⟩, ⟨q6, fun h => by have h : f.ac.length < f.ac.length := h; omega⟩, fun h => by omega⟩
 · obtain ⟨n', s', S, V, hv⟩ := wk_step w1.id f.clk F.st hac W1 (f.now ((1 : Nat) : Int))
   obtain ⟨_, q0, q1, q2, q3, q4, q5, q6⟩ := F.grow S
   rw [← q0] at V
   have e0 : ix f.ws 1 = w1 := by rw [ew]; rfl
   rw [if_neg (by decide), if_neg (by decide), if_neg (by decide), e0]
   generalize stepW f.st w1 (f.now ((1 : Nat) : Int)) = p at *
   exact ⟨⟨q1, F.clk, F.sk, ⟨w0, p.2.1, by rw [ew]; rfl, ⟨i0, hv.trans i1⟩, q2 w0 W0, V⟩, ⟨g0, g1, eg, ⟨i2, i3⟩, ⟨q3 g0 (by omega) G0, q3 g1 (by omega) G1⟩, hcnt⟩, ⟨r0, r1, er, ⟨i4, i5⟩, q4 r0 (by omega) R0, q4 r1 (by omega) R1⟩, fun a ha => q5 a (an1 a ha), by show f.an.length ≤ Q + 1; omega⟩, ⟨q6, fun h => by have h : f.ac.length < f.ac.length := h; omega⟩, fun h => by omega⟩
 · have O := ig_step f.clk F.st hac G0
   obtain ⟨n', s', S, V, hd⟩ := O.out
   have hid := O.id
   have hc := O.cnt
   obtain ⟨_, q0, q1, q2, q3, q4, q5, q6⟩ := F.grow S
   rw [← q0] at V hd
   have e0 : ix f.gs (2 - 2) = g0 := by rw [eg]; rfl
   rw [if_neg (by decide), if_neg (by decide), if_pos (by decide), e0]
   generalize stI f.st g0 = p at *
   refine ⟨⟨q1, F.clk, F.sk, ⟨w0, w1, ew, ⟨i0, i1⟩, q2 w0 W0, q2 w1 W1⟩, ⟨p.2.1, g1, by rw [eg]; rfl, ⟨hid.trans i2, i3⟩, ⟨V, q3 g1 (by omega) G1⟩, ?_⟩, ⟨r0, r1, er, ⟨i4, i5⟩, q4 r0 (by omega) R0, q4 r1 (by omega) R1⟩, fun a ha => q5 a (an1 a ha), by show f.an.length ≤ Q + 1; omega⟩, ⟨q6, fun h => ?_⟩, fun h => by omega⟩
   · show (if p.2.2.1 = true then f.ac ++ g0.b else f.ac).length + p.2.1.b.length + g1.b.length ≤ M
     omega
   · have h : f.ac.length < (if p.2.2.1 = true then f.ac ++ g0.b else f.ac).length := h
     cases hp : p.2.2.1 with
     | true => exact hd hp
     | false => rw [hp, if_neg (by simp)] at h; omega
 · have O := ig_step f.clk F.st hac G1
   obtain ⟨n', s', S, V, hd⟩ := O.out
   have hid := O.id
   have hc := O.cnt
   obtain ⟨_, q0, q1, q2, q3, q4, q5, q6⟩ := F.grow S
   rw [← q0] at V hd
   have e0 : ix f.gs (3 - 2) = g1 := by rw [eg]; rfl
   rw [if_neg (by decide), if_neg (by decide), if_pos (by decide), e0]
   generalize stI f.st g1 = p at *
   refine ⟨⟨q1, F.clk, F.sk, ⟨w0, w1, ew, ⟨i0, i1⟩, q2 w0 W0, q2 w1 W1⟩, ⟨g0, p.2.1, by rw [eg]; rfl, ⟨i2, hid.trans i3⟩, ⟨q3 g0 (by omega) G0, V⟩, ?_⟩, ⟨r0, r1, er, ⟨i4, i5⟩, q4 r0 (by omega) R0, q4 r1 (by omega) R1⟩, fun a ha => q5 a (an1 a ha), by show f.an.length ≤ Q + 1; omega⟩, ⟨q6, fun h => ?_⟩, fun h => by omega⟩
   · show (if p.2.2.1 = true then f.ac ++ g1.b else f.ac).length + g0.b.length + p.2.1.b.length ≤ M
     omega
   · have h : f.ac.length < (if p.2.2.1 = true then f.ac ++ g1.b else f.ac).length := h
     cases hp : p.2.2.1 with
     | true => exact hd hp
     | false => rw [hp, if_neg (by simp)] at h; omega
 · have nb := now_bd F ((4 : Nat) : Int)
   obtain ⟨O, hwin⟩ := rd_step F.st hac R0 nb.1 nb.2.1
   obtain ⟨n', s', S, V, hd⟩ := O.out
   have hid := O.id
   obtain ⟨_, q0, q1, q2, q3, q4, q5, q6⟩ := F.grow S
   rw [← q0] at V hd
   have e0 : ix f.rs (4 - 4) = r0 := by rw [er]; rfl
   rw [if_neg (by decide), if_pos (by decide), e0]
   refine ⟨?_, ?_, fun _ => hwin⟩
   · generalize stepR f.st r0 (f.now ((4 : Nat) : Int)) = p at *
     refine ⟨q1, F.clk, F.sk, ⟨w0, w1, ew, ⟨i0, i1⟩, q2 w0 W0, q2 w1 W1⟩, ⟨g0, g1, eg, ⟨i2, i3⟩, ⟨q3 g0 (by omega) G0, q3 g1 (by omega) G1⟩, hcnt⟩, ⟨p.2.1, r1, by rw [er]; rfl, ⟨hid.trans i4, i5⟩, V, q4 r1 (by omega) R1⟩, fun a ha => ?_, ?_⟩
     · have ha : a ∈ (if p.2.2.1 = true then f.an ++ [ansR p.2.1] else f.an) := ha
       split at ha
       · rename_i hp
         rcases List.mem_append.1 ha with h | h
         · exact q5 a (an1 a h)
         · have : a = ansR p.2.1 := by simpa using h
           rw [this]; exact hd hp
       · exact q5 a (an1 a ha)
     · show (if p.2.2.1 = true then f.an ++ [ansR p.2.1] else f.an).length ≤ Q + 1
       split
       · simp; omega
       · omega
   · exact ⟨q6, fun h => by have h : f.ac.length < f.ac.length := h; omega⟩
 · have nb := now_bd F ((5 : Nat) : Int)
   obtain ⟨O, hwin⟩ := rd_step F.st hac R1 nb.1 nb.2.1
   obtain ⟨n', s', S, V, hd⟩ := O.out
   have hid := O.id
   obtain ⟨_, q0, q1, q2, q3, q4, q5, q6⟩ := F.grow S
   rw [← q0] at V hd
   have e0 : ix f.rs (5 - 4) = r1 := by rw [er]; rfl
   rw [if_neg (by decide), if_pos (by decide), e0]
   refine ⟨?_, ?_, fun _ => hwin⟩
   · generalize stepR f.st r1 (f.now ((5 : Nat) : Int)) = p at *
     refine ⟨q1, F.clk, F.sk, ⟨w0, w1, ew, ⟨i0, i1⟩, q2 w0 W0, q2 w1 W1⟩, ⟨g0, g1, eg, ⟨i2, i3⟩, ⟨q3 g0 (by omega) G0, q3 g1 (by omega) G1⟩, hcnt⟩, ⟨r0, p.2.1, by rw [er]; rfl, ⟨i4, hid.trans i5⟩, q4 r0 (by omega) R0, V⟩, fun a ha => ?_, ?_⟩
     · have ha : a ∈ (if p.2.2.1 = true then f.an ++ [ansR p.2.1] else f.an) := ha
       split at ha
       · rename_i hp
         rcases List.mem_append.1 ha with h | h
         · exact q5 a (an1 a h)
         · have : a = ansR p.2.1 := by simpa using h
           rw [this]; exact hd hp
       · exact q5 a (an1 a ha)
     · show (if p.2.2.1 = true then f.an ++ [ansR p.2.1] else f.an).length ≤ Q + 1
       split
       · simp; omega
       · omega
   · exact ⟨q6, fun h => by have h : f.ac.length < f.ac.length := h; omega⟩
 · have nb := now_bd F 6
   obtain ⟨n', s', S⟩ := sw_step 6 F.st nb.2.2
   obtain ⟨_, q0, q1, q2, q3, q4, q5, q6⟩ := F.grow S
   rw [if_pos rfl]
   generalize swS f.st (f.now 6) = p at *
   split
   · exact ⟨⟨q1, F.clk, F.sk, ⟨w0, w1, ew, ⟨i0, i1⟩, q2 w0 W0, q2 w1 W1⟩, ⟨g0, g1, eg, ⟨i2, i3⟩, ⟨q3 g0 (by omega) G0, q3 g1 (by omega) G1⟩, hcnt⟩, ⟨r0, r1, er, ⟨i4, i5⟩, q4 r0 (by omega) R0, q4 r1 (by omega) R1⟩, fun a ha => q5 a (an1 a ha), by show f.an.length ≤ Q + 1; omega⟩, ⟨q6, fun h => by have h : f.ac.length < f.ac.length := h; omega⟩, fun h => by omega⟩
   · exact ⟨F.more (Nat.le_refl _) (by omega), FlS.same rfl rfl, fun h => by omega⟩
end fl
def crashF (f : Fl) (who : Nat) : Fl :=
 if who = 6 then f else if who = 4 ∨ who = 5 then { f with rs := f.rs.set (who - 4) (rd0 who) } else if who = 2 ∨ who = 3 then { f with gs := f.gs.set (who - 2) (ingR who) } else { f with ws := f.ws.set who (wkR who) }
def Fl.setK (f : Fl) (who n : Int) : Fl :=
 if who = 0 then { f with k0 := n } else if who = 1 then { f with k1 := n } else if who = 2 then { f with k2 := n } else if who = 3 then { f with k3 := n } else if who = 4 then { f with k4 := n } else if who = 5 then { f with k5 := n } else { f with k6 := n }
def giveI (g : Ig) (b : List Smp) : Ig × Int := if g.b.length = 0 then (⟨g.id, 0, 0, 0, b, false⟩, 0) else (g, 9)
def askR (r : Rr) (k a b : Int) : Rr × Int := if r.ph = 0 then (rdAsk r.id k a b, 0) else (r, 9)
def doF (f : Fl) (a : Act) : Fl × Int :=
 if a.k = 1 then stepF f a.who.toNat
 else if a.k = 2 then (crashF f a.who.toNat, 0)
 else if a.k = 3 then ({ f with clk := if f.clk + a.n < 100000 then f.clk + a.n else 100000 }, 0)
 else if a.k = 4 then (f.setK a.who a.n, 0)
 else if a.k = 5 then ({ f with gs := f.gs.set (a.who.toNat - 2) (giveI (ix f.gs (a.who.toNat - 2)) a.b).1 }, (giveI (ix f.gs (a.who.toNat - 2)) a.b).2)
 else ({ f with rs := f.rs.set (a.who.toNat - 4) (askR (ix f.rs (a.who.toNat - 4)) a.tier a.f a.t).1 }, (askR (ix f.rs (a.who.toNat - 4)) a.tier a.f a.t).2)
section fl2
variable {f : Fl} {M Q : Nat}
theorem rd_idle {x : Sto} {s : Sta} {ac : List Smp} {C : Int} {r : Rr} (h : r.ok = true) (h0 : r.ph = 0 ∨ (r.ph = 1 ∧ r.got = default)) : RdI x s ac C r :=
 ⟨h, fun g => by omega, fun g => by rcases h0 with h0 | h0; · omega
                                    · exact h0.2, fun g => by omega, fun g => by omega, fun g => by omega⟩
theorem rd0_ok {id : Int} (h : 0 ≤ id ∧ id ≤ 9) : (rd0 id).ok = true :=
 (rr_iff _).2 ⟨h, (by decide : (0 : Int) ≤ 0 ∧ (0 : Int) ≤ 4), .inl rfl, (by decide : isRange 0 0 = true), (by decide : (0 : Int) ≤ 0 ∧ (0 : Int) ≤ 200000), (by decide : (0 : Int) ≤ 0 ∧ (0 : Int) ≤ 19), ⟨rfl, (by decide : (0 : Int) ≤ 1000)⟩, by simp [rd0], by simp [rd0]⟩
theorem FlI.crash (F : FlI f M Q) {who : Nat} (hw : who ≤ 6) : FlI (crashF f who) M Q ∧ FlS f (crashF f who) := by
 obtain ⟨w0, w1, ew, ⟨i0, i1⟩, W0, W1⟩ := F.ws
 obtain ⟨g0, g1, eg, ⟨i2, i3⟩, ⟨G0, G1⟩, hcnt⟩ := F.gs
 obtain ⟨r0, r1, er, ⟨i4, i5⟩, R0, R1⟩ := F.rs
 unfold crashF
 have h7 : who = 0 ∨ who = 1 ∨ who = 2 ∨ who = 3 ∨ who = 4 ∨ who = 5 ∨ who = 6 := by omega
 rcases h7 with rfl | rfl | rfl | rfl | rfl | rfl | rfl
 · rw [if_neg (by decide), if_neg (by decide), if_neg (by decide)]
   exact ⟨⟨F.st, F.clk, F.sk, ⟨wkR 0, w1, by rw [ew]; rfl, ⟨rfl, i1⟩, wkR_I (by omega), W1⟩, F.gs, F.rs, F.an⟩, FlS.same rfl rfl⟩
 · rw [if_neg (by decide), if_neg (by decide), if_neg (by decide)]
   exact ⟨⟨F.st, F.clk, F.sk, ⟨w0, wkR 1, by rw [ew]; rfl, ⟨i0, rfl⟩, W0, wkR_I (by omega)⟩, F.gs, F.rs, F.an⟩, FlS.same rfl rfl⟩
 · rw [if_neg (by decide), if_neg (by decide), if_pos (by decide)]
   exact ⟨⟨F.st, F.clk, F.sk, F.ws, ⟨ingR 2, g1, by rw [eg]; rfl, ⟨rfl, i3⟩, ⟨ingR_I (by omega), G1⟩, by show f.ac.length + 0 + g1.b.length ≤ M; omega⟩, F.rs, F.an⟩, FlS.same rfl rfl⟩
 · rw [if_neg (by decide), if_neg (by decide), if_pos (by decide)]
   exact ⟨⟨F.st, F.clk, F.sk, F.ws, ⟨g0, ingR 3, by rw [eg]; rfl, ⟨i2, rfl⟩, ⟨G0, ingR_I (by omega)⟩, by show f.ac.length + g0.b.length + 0 ≤ M; omega⟩, F.rs, F.an⟩, FlS.same rfl rfl⟩
 · rw [if_neg (by decide), if_pos (by decide)]
   exact ⟨⟨F.st, F.clk, F.sk, F.ws, F.gs, ⟨rd0 4, r1, by rw [er]; rfl, ⟨rfl, i5⟩, rd_idle (rd0_ok (by omega)) (.inl rfl), R1⟩, F.an⟩, FlS.same rfl rfl⟩
 · rw [if_neg (by decide), if_pos (by decide)]
   exact ⟨⟨F.st, F.clk, F.sk, F.ws, F.gs, ⟨r0, rd0 5, by rw [er]; rfl, ⟨i4, rfl⟩, R0, rd_idle (rd0_ok (by omega)) (.inl rfl)⟩, F.an⟩, FlS.same rfl rfl⟩
 · rw [if_pos rfl]; exact ⟨F, FlS.same rfl rfl⟩
theorem FlI.tick (F : FlI f M Q) {n : Int} (hn : 0 ≤ n) : FlI { f with clk := if f.clk + n < 100000 then f.clk + n else 100000 } M Q := by
 have hc := F.clk
 obtain ⟨r0, r1, er, ⟨i4, i5⟩, R0, R1⟩ := F.rs
 have hle : f.clk ≤ (if f.clk + n < 100000 then f.clk + n else 100000) := by split <;> omega
 have g : ∀ r, RdI f.st (logS f.st) f.ac f.clk r → RdI f.st (logS f.st) f.ac (if f.clk + n < 100000 then f.clk + n else 100000) r := fun r h => h.grow (Gr.refl (-1) _ _ _) hle (Kept.refl _ _ _) F.st.li (by have := (rr_iff _).1 h.ok; have := this.id; omega)
 have hge : 3 ≤ (if f.clk + n < 100000 then f.clk + n else 100000) ∧ (if f.clk + n < 100000 then f.clk + n else 100000) ≤ 100000 := by split <;> omega
 exact ⟨F.st, hge, F.sk, F.ws, F.gs, ⟨r0, r1, er, ⟨i4, i5⟩, g r0 R0, g r1 R1⟩, F.an⟩
theorem FlI.setK (F : FlI f M Q) (who : Int) {n : Int} (hn : -3 ≤ n ∧ n ≤ 3) : FlI (f.setK who n) M Q ∧ FlS f (f.setK who n) := by
 have h := F.sk
 simp only [List.mem_cons, List.not_mem_nil, or_false, forall_eq_or_imp, forall_eq] at h
 obtain ⟨h0, h1, h2, h3, h4, h5, h6⟩ := h
 have key : ∀ a b c d e g i : Int, (-3 ≤ a ∧ a ≤ 3) → (-3 ≤ b ∧ b ≤ 3) → (-3 ≤ c ∧ c ≤ 3) → (-3 ≤ d ∧ d ≤ 3) → (-3 ≤ e ∧ e ≤ 3) → (-3 ≤ g ∧ g ≤ 3) → (-3 ≤ i ∧ i ≤ 3) → ∀ k ∈ [a, b, c, d, e, g, i], -3 ≤ k ∧ k ≤ 3 := fun a b c d e g i q0 q1 q2 q3 q4 q5 q6 => by
  simp only [List.mem_cons, List.not_mem_nil, or_false, forall_eq_or_imp, forall_eq]
  exact ⟨q0, q1, q2, q3, q4, q5, q6⟩
 unfold Fl.setK
 split
 · exact ⟨⟨F.st, F.clk, key _ _ _ _ _ _ _ hn h1 h2 h3 h4 h5 h6, F.ws, F.gs, F.rs, F.an⟩, FlS.same rfl rfl⟩
 split
 · exact ⟨⟨F.st, F.clk, key _ _ _ _ _ _ _ h0 hn h2 h3 h4 h5 h6, F.ws, F.gs, F.rs, F.an⟩, FlS.same rfl rfl⟩
 split
 · exact ⟨⟨F.st, F.clk, key _ _ _ _ _ _ _ h0 h1 hn h3 h4 h5 h6, F.ws, F.gs, F.rs, F.an⟩, FlS.same rfl rfl⟩
 split
 · exact ⟨⟨F.st, F.clk, key _ _ _ _ _ _ _ h0 h1 h2 hn h4 h5 h6, F.ws, F.gs, F.rs, F.an⟩, FlS.same rfl rfl⟩
 split
 · exact ⟨⟨F.st, F.clk, key _ _ _ _ _ _ _ h0 h1 h2 h3 hn h5 h6, F.ws, F.gs, F.rs, F.an⟩, FlS.same rfl rfl⟩
 split
 · exact ⟨⟨F.st, F.clk, key _ _ _ _ _ _ _ h0 h1 h2 h3 h4 hn h6, F.ws, F.gs, F.rs, F.an⟩, FlS.same rfl rfl⟩
 · exact ⟨⟨F.st, F.clk, key _ _ _ _ _ _ _ h0 h1 h2 h3 h4 h5 hn, F.ws, F.gs, F.rs, F.an⟩, FlS.same rfl rfl⟩
theorem give_I {x : Sto} {s : Sta} {g : Ig} (G : IgI x s g) {b : List Smp} (hb : smpsOK b = true) (h8 : b.length ≤ 8) : IgI x s (giveI g b).1 ∧ (giveI g b).1.id = g.id ∧ (giveI g b).1.b.length ≤ g.b.length + b.length := by
 unfold giveI
 split
 · refine ⟨⟨?_, fun h => absurd (show false = true from h) (by decide), fun h => absurd (show false = true from h) (by decide)⟩, rfl, by show b.length ≤ _; omega⟩
   have hid := (Ig.facts G.ok).id
   unfold Ig.ok igOK
   simp only [hb, decide_eq_false (show ¬ (8 : Int) < (b.length : Int) by omega)]
   simp [within]
   exact hid
 · exact ⟨G, rfl, by show g.b.length ≤ _; omega⟩
theorem ask_I {x : Sto} {s : Sta} {ac : List Smp} {C : Int} {r : Rr} (R : RdI x s ac C r) {k a b : Int} (hk : within k 0 2 = true) (hab : isRange a b = true) : RdI x s ac C (askR r k a b).1 ∧ (askR r k a b).1.id = r.id := by
 have F := (rr_iff r).1 R.ok
 unfold askR
 split
 · refine ⟨rd_idle ((rr_iff _).2 ⟨F.id, (by decide : (0 : Int) ≤ 1 ∧ (1 : Int) ≤ 4), ?_, hab, (by decide : (0 : Int) ≤ 0 ∧ (0 : Int) ≤ 200000), (by decide : (0 : Int) ≤ 0 ∧ (0 : Int) ≤ 19), ⟨rfl, (by decide : (0 : Int) ≤ 1000)⟩, by simp [rdAsk], by simp [rdAsk]⟩) (.inr ⟨rfl, rfl⟩), rfl⟩
   simp [within] at hk
   show k = 0 ∨ k = 1 ∨ k = 2
   omega
 · exact ⟨R, rfl⟩
structure ActI (a : Act) : Prop where
 k : 1 ≤ a.k ∧ a.k ≤ 6
 who : 0 ≤ a.who ∧ a.who ≤ 6
 n3 : a.k = 3 → 0 ≤ a.n ∧ a.n ≤ 1000
 n4 : a.k = 4 → -3 ≤ a.n ∧ a.n ≤ 3
 b : a.k = 5 → (a.who = 2 ∨ a.who = 3) ∧ smpsOK a.b = true ∧ 1 ≤ a.b.length ∧ a.b.length ≤ 8
 q : a.k = 6 → (a.who = 4 ∨ a.who = 5) ∧ within a.tier 0 2 = true ∧ isRange a.f a.t = true
theorem FlI.act (F : FlI f M Q) {a : Act} (A : ActI a) (hM : M ≤ 1000) : FlI (doF f a).1 (M + 8) (Q + 1) ∧ FlS f (doF f a).1 := by
 have hk := A.k
 have hwho := A.who
 unfold doF
 by_cases h1 : a.k = 1
 · rw [if_pos h1]
   obtain ⟨x, y, _⟩ := F.step hM (who := a.who.toNat) (by omega)
   exact ⟨x.more (by omega) (Nat.le_refl _), y⟩
 rw [if_neg h1]
 by_cases h2 : a.k = 2
 · rw [if_pos h2]
   obtain ⟨x, y⟩ := F.crash (who := a.who.toNat) (by omega)
   exact ⟨x.more (by omega) (by omega), y⟩
 rw [if_neg h2]
 by_cases h3 : a.k = 3
 · rw [if_pos h3]
   exact ⟨(F.tick (A.n3 h3).1).more (by omega) (by omega), FlS.same rfl rfl⟩
 rw [if_neg h3]
 by_cases h4 : a.k = 4
 · rw [if_pos h4]
   obtain ⟨x, y⟩ := F.setK a.who (A.n4 h4)
   exact ⟨x.more (by omega) (by omega), y⟩
 rw [if_neg h4]
 obtain ⟨w0, w1, ew, ⟨i0, i1⟩, W0, W1⟩ := F.ws
 obtain ⟨g0, g1, eg, ⟨i2, i3⟩, ⟨G0, G1⟩, hcnt⟩ := F.gs
 obtain ⟨r0, r1, er, ⟨i4, i5⟩, R0, R1⟩ := F.rs
 have han : f.an.length ≤ Q + 1 := by have := F.an.2; omega
 by_cases h5 : a.k = 5
 · rw [if_pos h5]
   obtain ⟨b1, b2, _, b3⟩ := A.b h5
   rcases b1 with b1 | b1
   · rw [b1]
     have e0 : ix f.gs ((2 : Int).toNat - 2) = g0 := by rw [eg]; rfl
     rw [e0]
     obtain ⟨c1, c2, c3⟩ := give_I G0 b2 b3
     exact ⟨⟨F.st, F.clk, F.sk, F.ws, ⟨(giveI g0 a.b).1, g1, by show f.gs.set _ _ = _; rw [eg]; rfl, ⟨c2.trans i2, i3⟩, ⟨c1, G1⟩, by show f.ac.length + _ + _ ≤ _; omega⟩, F.rs, F.an.1, han⟩, FlS.same rfl rfl⟩
   · rw [b1]
     have e0 : ix f.gs ((3 : Int).toNat - 2) = g1 := by rw [eg]; rfl
     rw [e0]
     obtain ⟨c1, c2, c3⟩ := give_I G1 b2 b3
     exact ⟨⟨F.st, F.clk, F.sk, F.ws, ⟨g0, (giveI g1 a.b).1, by show f.gs.set _ _ = _; rw [eg]; rfl, ⟨i2, c2.trans i3⟩, ⟨G0, c1⟩, by show f.ac.length + _ + _ ≤ _; omega⟩, F.rs, F.an.1, han⟩, FlS.same rfl rfl⟩
 · rw [if_neg h5]
   obtain ⟨b1, b2, b3⟩ := A.q (by omega)
   rcases b1 with b1 | b1
   · rw [b1]
     have e0 : ix f.rs ((4 : Int).toNat - 4) = r0 := by rw [er]; rfl
     rw [e0]
     obtain ⟨c1, c2⟩ := ask_I R0 b2 b3
     exact ⟨⟨F.st, F.clk, F.sk, F.ws, ⟨g0, g1, eg, ⟨i2, i3⟩, ⟨G0, G1⟩, by show f.ac.length + _ + _ ≤ _; omega⟩, ⟨(askR r0 a.tier a.f a.t).1, r1, by show f.rs.set _ _ = _; rw [er]; rfl, ⟨c2.trans i4, i5⟩, c1, R1⟩, F.an.1, han⟩, FlS.same rfl rfl⟩
   · rw [b1]
     have e0 : ix f.rs ((5 : Int).toNat - 4) = r1 := by rw [er]; rfl
     rw [e0]
     obtain ⟨c1, c2⟩ := ask_I R1 b2 b3
     exact ⟨⟨F.st, F.clk, F.sk, F.ws, ⟨g0, g1, eg, ⟨i2, i3⟩, ⟨G0, G1⟩, by show f.ac.length + _ + _ ≤ _; omega⟩, ⟨r0, (askR r1 a.tier a.f a.t).1, by show f.rs.set _ _ = _; rw [er]; rfl, ⟨i4, c2.trans i5⟩, R0, c1⟩, F.an.1, han⟩, FlS.same rfl rfl⟩
end fl2
def newF : Fl := ⟨stoN0, 10, 0, 0, 0, 0, 0, 0, 0, [wkR 0, wkR 1], [ingR 2, ingR 3], [rd0 4, rd0 5], [], []⟩
def actsF (f : Fl) (L : List Act) : Fl := L.foldl (fun f a => (doF f a).1) f
theorem FlI.acts : ∀ (L : List Act) {f : Fl} {M Q : Nat}, FlI f M Q → (∀ a ∈ L, ActI a) → M + 8 * L.length ≤ 1000 → FlI (actsF f L) (M + 8 * L.length) (Q + L.length)
 | [], _, _, _, F, _, _ => F
 | a :: r, f, M, Q, F, h, hM => by
   have hl : (a :: r).length = r.length + 1 := rfl
   rw [hl] at hM ⊢
   have := FlI.acts r (F.act (h a (by simp)) (by omega)).1 (fun b hb => h b (by simp [hb])) (by omega)
   exact this.more (by omega) (by omega)

end Go.Proofs.YtbhgcfhbhjcjhaaGreatDoor
