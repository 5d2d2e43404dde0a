/- Contracts of functions that the claim reaches, and the plain law of what they compute; each theorem bears its own conditions. -/
import Derived.Test.YtbhgcfhbhjcjhaaGreatDoorQ4
import Derived.Test.YtbhgcfhbhjcjhaaGreatDoorV52
import Derived.Test.YtbhgcfhbhjcjhaaGreatDoorQ5
import Derived.Test.YtbhgcfhbhjcjhaaGreatDoorQ3
set_option linter.unusedVariables false
set_option linter.constructorNameAsVariable false
set_option linter.unusedSimpArgs false
set_option maxRecDepth 20000
set_option maxHeartbeats 1000000
namespace Go.Proofs.YtbhgcfhbhjcjhaaGreatDoor
open Go Go.Vw
structure StaOK (s : Sta) : Prop where
 q : 0 ≤ s.seq ∧ s.seq ≤ 999999
 f : 0 ≤ s.fence ∧ s.fence ≤ 999999
 len : s.es.length + s.ts.length ≤ 4096
 es : ∀ e ∈ s.es, e.ok = true
 ts : ∀ t ∈ s.ts, kOk t.key = true ∧ 1 ≤ t.seq ∧ t.seq ≤ s.seq
 nd : s.keys.Nodup
 lo : ∀ k, (k = 0 ∨ k = 1 ∨ k = 2) → 0 ≤ s.lo k ∧ s.lo k ≤ 100000
 runs : ∀ k, (k = 0 ∨ k = 1 ∨ k = 2) → runs (ofT s.es k) (s.lo k) = some (s.hi k)
theorem staOK_iff (s : Sta) : s.ok = true ↔ StaOK s := by
 constructor
 · intro h
   unfold Sta.ok tierOK at h
   simp only [Bool.and_eq_true, decide_eq_true_eq, List.all_eq_true, within] at h
   obtain ⟨h1, h2, h3, h4, h5, h6, ⟨h7, h7'⟩, ⟨h8, h8'⟩, h9, h9'⟩ := h
   refine ⟨h1, h2, by omega, h4, fun t ht => ?_, h6, fun k hk => ?_, fun k hk => ?_⟩
   · have := h5 t ht
     simp only [tbOK, Bool.and_eq_true, decide_eq_true_eq, within] at this
     exact ⟨this.1, this.2.1, this.2.2⟩
   · rcases hk with rfl | rfl | rfl
     · exact h7
     · exact h8
     · exact h9
   · rcases hk with rfl | rfl | rfl
     · exact h7'
     · exact h8'
     · exact h9'
 · rintro ⟨h1, h2, h3, h4, h5, h6, h7, h8⟩
   unfold Sta.ok tierOK
   simp only [Bool.and_eq_true, decide_eq_true_eq, List.all_eq_true, within]
   refine ⟨h1, h2, by omega, h4, fun t ht => ?_, h6, ⟨h7 0 (.inl rfl), h8 0 (.inl rfl)⟩, ⟨h7 1 (.inr (.inl rfl)), h8 1 (.inr (.inl rfl))⟩, h7 2 (.inr (.inr rfl)), h8 2 (.inr (.inr rfl))⟩
   have := h5 t ht
   simp only [tbOK, Bool.and_eq_true, decide_eq_true_eq, within]
   exact ⟨this.1, this.2.1, this.2.2⟩
theorem ofT_app (L M : List En) (k : Int) : ofT (L ++ M) k = ofT L k ++ ofT M k := List.filter_append ..
theorem runs_app1 : ∀ (L : List En) (e : En) (a b : Int), runs L a = some b → e.f = b → runs (L ++ [e]) a = some e.t
 | [], e, a, b, h, h2 => by
   have : a = b := by simpa [runs] using h
   subst this
   simp [runs, h2]
 | x :: r, e, a, b, h, h2 => by
   simp only [runs] at h
   split at h
   · rename_i hx
     simp only [List.cons_append, runs]
     rw [if_pos hx]
     exact runs_app1 r e _ b h h2
   · cases h
theorem lift_lo (s : Sta) (k v j : Int) : (s.lift k v).lo j = s.lo j := by
 unfold Sta.lift; split
 · rfl
 · split <;> rfl
theorem lower_hi (s : Sta) (k v j : Int) : (s.lower k v).hi j = s.hi j := by
 unfold Sta.lower; split
 · rfl
 · split <;> rfl
theorem lift_hi (s : Sta) (k v j : Int) (hk : k = 0 ∨ k = 1 ∨ k = 2) (hj : j = 0 ∨ j = 1 ∨ j = 2) : (s.lift k v).hi j = if j = k then v else s.hi j := by
 rcases hk with rfl | rfl | rfl <;> rcases hj with rfl | rfl | rfl <;> rfl
theorem lower_lo (s : Sta) (k v j : Int) (hk : k = 0 ∨ k = 1 ∨ k = 2) (hj : j = 0 ∨ j = 1 ∨ j = 2) : (s.lower k v).lo j = if j = k then v else s.lo j := by
 rcases hk with rfl | rfl | rfl <;> rcases hj with rfl | rfl | rfl <;> rfl
theorem en_tier {e : En} (h : e.ok = true) : (e.tier = 0 ∨ e.tier = 1 ∨ e.tier = 2) ∧ 0 ≤ e.f ∧ e.f < e.t ∧ e.t ≤ 100000 ∧ kOk e.key = true := by
 unfold En.ok isRange at h
 simp only [Bool.and_eq_true, decide_eq_true_eq, within] at h
 have := kT_nat e.key
 refine ⟨by omega, by omega, by omega, by omega, h.1⟩
theorem kinds {k tok tier f t : Int} {key : List UInt8} (h : Rc.ok ⟨k, tok, tier, f, t, key⟩ = true) : (k = 1 ∧ tier = 0) ∨ k = 2 ∨ (k = 3 ∧ (tier = 1 ∨ tier = 2) ∧ (0 ≤ f ∧ f ≤ 1000000)) ∨ (k = 4 ∧ (tier = 0 ∨ tier = 1 ∨ tier = 2)) ∨ k = 5 := by
 unfold Rc.ok at h
 dsimp only at h
 by_cases h1 : k = 1
 · rw [if_pos h1] at h
   simp only [Bool.and_eq_true, decide_eq_true_eq] at h
   exact .inl ⟨h1, h.2.1⟩
 rw [if_neg h1] at h
 by_cases h2 : k = 2
 · exact .inr (.inl h2)
 rw [if_neg h2] at h
 by_cases h3 : k = 3
 · rw [if_pos h3] at h
   simp only [Bool.and_eq_true, decide_eq_true_eq] at h
   obtain ⟨ht, hb⟩ := en_tier h.2.2
   have ht : tier = 0 ∨ tier = 1 ∨ tier = 2 := ht
   have hb : 0 ≤ f ∧ f < t ∧ t ≤ 100000 ∧ _ := hb
   exact .inr (.inr (.inl ⟨h3, by have := h.2.1; omega, by omega, by omega⟩))
 rw [if_neg h3] at h
 by_cases h4 : k = 4
 · rw [if_pos h4] at h
   simp only [Bool.and_eq_true] at h
   exact .inr (.inr (.inr (.inl ⟨h4, (en_tier h.2).1⟩)))
 rw [if_neg h4] at h
 by_cases h5 : k = 5
 · exact .inr (.inr (.inr (.inr h5)))
 rw [if_neg h5] at h
 cases h
theorem takes_f {s : Sta} {r : Rc} (h : s.takes r = true) (hr : r.ok = true) (hk : r.k = 1 ∨ r.k = 3) : r.f = s.hi r.tier ∧ r.en.ok = true := by
 unfold Sta.takes at h
 unfold Rc.ok at hr
 rcases hk with hk | hk
 · rw [if_pos hk] at h hr
   simp only [Bool.and_eq_true, decide_eq_true_eq] at h hr
   refine ⟨?_, hr.2.2⟩
   rw [hr.2.1]; exact h.1
 · rw [if_neg (by omega), if_neg (by omega), if_pos hk] at h hr
   simp only [Bool.and_eq_true, decide_eq_true_eq] at h hr
   exact ⟨h.2.1, hr.2.2⟩
theorem ofT_noE_other {L : List En} {k : Int} {key : List UInt8} (h : ∀ e ∈ L, e.key = key → e.tier ≠ k) : ofT (noE key L) k = ofT L k := by
 unfold ofT noE
 rw [List.filter_filter]
 refine List.filter_congr fun e he => ?_
 by_cases hk : e.key = key
 · have := h e he hk
   simp [this]
 · simp [hk]
theorem ofT_noE_tail {L : List En} {k : Int} {e : En} {r : List En} (hl : ofT L k = e :: r) (nd : (L.map (·.key)).Nodup) : ofT (noE e.key L) k = r := by
 have h1 : ofT (noE e.key L) k = (ofT L k).filter fun x => !decide (x.key = e.key) := by
  unfold ofT noE
  rw [List.filter_filter, List.filter_filter]
  exact List.filter_congr fun x _ => Bool.and_comm ..
 have h2 : ((ofT L k).map (·.key)).Nodup := by
  unfold ofT
  exact (List.filter_sublist.map _).nodup nd
 rw [h1, hl]
 rw [hl, List.map_cons] at h2
 have h3 := List.nodup_cons.1 h2
 rw [List.filter_cons_of_neg (by simp)]
 exact List.filter_eq_self.2 fun x hx => by
  rw [decide_eq_false (fun hk : x.key = e.key => h3.1 (hk ▸ List.mem_map.2 ⟨x, hx, rfl⟩))]; rfl
theorem nodup_key : ∀ {L : List En}, (L.map (·.key)).Nodup → ∀ {a b : En}, a ∈ L → b ∈ L → a.key = b.key → a = b
 | [], _, a, b, ha, _, _ => by cases ha
 | x :: r, nd, a, b, ha, hb, h => by
   rw [List.map_cons] at nd
   have h' := List.nodup_cons.1 nd
   rcases List.mem_cons.1 ha with ha | ha <;> rcases List.mem_cons.1 hb with hb | hb
   · rw [ha, hb]
   · exact absurd (List.mem_map.2 ⟨b, hb, by rw [← h, ha]⟩) h'.1
   · exact absurd (List.mem_map.2 ⟨a, ha, by rw [h, hb]⟩) h'.1
   · exact nodup_key h'.2 ha hb h
theorem app_staOK {s : Sta} {r : Rc} (h : StaOK s) (hr : r.ok = true) (hq : s.seq < 999999) (hl : s.es.length + s.ts.length < 4096) : StaOK (s.app r) := by
 have hlog : LogS s := ⟨h.nd, fun k hk => by
  unfold Sta.keys at hk
  rcases List.mem_append.1 hk with hk | hk
  · obtain ⟨e, he, rfl⟩ := List.mem_map.1 hk; exact (en_tier (h.es e he)).2.2.2.2
  · obtain ⟨e, he, rfl⟩ := List.mem_map.1 hk; exact (h.ts e he).1⟩
 have hnd := (app_log hlog hr).nd
 have hlen := appL_len s r
 have hseq := app_seq s r
 have ts' : ∀ t ∈ s.ts, kOk t.key = true ∧ 1 ≤ t.seq ∧ t.seq ≤ s.seq + 1 := fun t ht => by have := h.ts t ht; exact ⟨this.1, this.2.1, by omega⟩
 obtain ⟨q, hqe⟩ : ∃ q, q = s.app r := ⟨_, rfl⟩
 rw [← hqe] at hnd hlen hseq ⊢
 have hq' : 0 ≤ q.seq ∧ q.seq ≤ 999999 := by rw [hseq]; have := h.q; omega
 have hlen' : q.es.length + q.ts.length ≤ 4096 := by omega
 unfold Sta.app at hqe
 by_cases ht : s.takes r = true
 · rw [if_pos ht] at hqe
   by_cases hk : r.k = 1 ∨ r.k = 3
   · rw [if_pos hk] at hqe
     obtain ⟨hf, hen⟩ := takes_f ht hr hk
     obtain ⟨hti, hb⟩ := en_tier hen
     subst hqe
     have e1 := lift_es ({ s.tick with es := s.es ++ [r.en] } : Sta) r.tier r.t
     refine ⟨hq', by rw [e1.2.2.2]; exact h.f, hlen', ?_, ?_, hnd, fun k hk => ?_, fun k hk => ?_⟩
     · rw [e1.1]
       intro e he
       rcases List.mem_append.1 he with he | he
       · exact h.es e he
       · have : e = r.en := by simpa using he
         rw [this]; exact hen
     · rw [e1.2.1, hseq]; exact ts'
     · rw [lift_lo]; exact h.lo k hk
     · rw [e1.1, lift_lo, lift_hi _ _ _ _ hti hk]
       show runs (ofT (s.es ++ [r.en]) k) (s.lo k) = _
       rw [ofT_app]
       by_cases hkk : k = r.tier
       · subst hkk
         rw [if_pos rfl]
         have : ofT [r.en] r.tier = [r.en] := by simp [ofT]
         rw [this]
         exact runs_app1 _ r.en _ _ (h.runs _ hk) hf
       · rw [if_neg hkk]
         have : ofT [r.en] k = [] := by
          have : ¬ r.tier = k := fun e => hkk e.symm
          simp [ofT, this]
         rw [this, List.append_nil]
         exact h.runs k hk
   · rw [if_neg hk] at hqe
     by_cases hk2 : r.k = 2
     · rw [if_pos hk2] at hqe
       subst hqe
       have htok : 1 ≤ r.tok ∧ r.tok ≤ 999999 := by
        unfold Rc.ok at hr
        rw [if_neg (by omega), if_pos hk2] at hr
        simp only [Bool.and_eq_true, within, decide_eq_true_eq] at hr
        exact hr.1
       exact ⟨hq', by show 0 ≤ r.tok ∧ r.tok ≤ 999999; omega, hlen', h.es, fun t ht => by rw [hseq]; exact ts' t ht, hnd, h.lo, h.runs⟩
     · rw [if_neg hk2] at hqe
       by_cases hk4 : r.k = 4
       · rw [if_pos hk4] at hqe
         have hen : r.en.ok = true := by
          unfold Rc.ok at hr
          rw [if_neg (by omega), if_neg (by omega), if_neg (by omega), if_pos hk4] at hr
          simp only [Bool.and_eq_true] at hr
          exact hr.2
         obtain ⟨hti, hb⟩ := en_tier hen
         have hb' : 0 ≤ r.f ∧ r.f < r.t ∧ r.t ≤ 100000 := ⟨hb.1, hb.2.1, hb.2.2.1⟩
         have hhd := takes_4 ht hk4
         have hm := headIs_mem hhd
         obtain ⟨rest, hrest⟩ : ∃ rest, ofT s.es r.tier = r.en :: rest := by
          unfold headIs at hhd
          cases hl : ofT s.es r.tier with
          | nil => rw [hl] at hhd; cases hhd
          | cons x y => rw [hl] at hhd; exact ⟨y, by rw [of_decide_eq_true hhd]⟩
         have nde : (s.es.map (·.key)).Nodup := (List.nodup_append.1 h.nd).1
         subst hqe
         have e1 := lower_es ({ s.tick with es := noE r.key s.es, ts := s.ts ++ [⟨s.seq + 1, r.key⟩] } : Sta) r.tier r.t
         refine ⟨hq', by rw [e1.2.2.2]; exact h.f, hlen', ?_, ?_, hnd, fun k hk => ?_, fun k hk => ?_⟩
         · rw [e1.1]
           exact fun e he => h.es e (List.mem_filter.1 he).1
         · rw [e1.2.1, hseq]
           intro t ht
           rcases List.mem_append.1 ht with ht | ht
           · exact ts' t ht
           · have : t = ⟨s.seq + 1, r.key⟩ := by simpa using ht
             rw [this]
             exact ⟨hb.2.2.2, by have := h.q; show 1 ≤ s.seq + 1; omega, by show s.seq + 1 ≤ s.seq + 1; omega⟩
         · rw [lower_lo _ _ _ _ hti hk]
           split
           · omega
           · exact h.lo k hk
         · rw [e1.1, lower_hi, lower_lo _ _ _ _ hti hk]
           show runs (ofT (noE r.key s.es) k) _ = some (s.hi k)
           have hru := h.runs k hk
           by_cases hkk : k = r.tier
           · subst hkk
             rw [if_pos rfl, ofT_noE_tail (e := r.en) hrest nde]
             rw [hrest] at hru
             simp only [runs] at hru
             split at hru
             · exact hru
             · cases hru
           · rw [if_neg hkk, ofT_noE_other]
             · exact hru
             · intro e he hke htk
               have : e = r.en := nodup_key nde he hm hke
               rw [this] at htk
               exact hkk htk.symm
       · rw [if_neg hk4] at hqe
         subst hqe
         exact ⟨hq', h.f, hlen', h.es, fun t ht => by rw [hseq]; exact ts' t (List.mem_filter.1 ht).1, hnd, h.lo, h.runs⟩
 · rw [if_neg ht] at hqe
   subst hqe
   exact ⟨hq', h.f, hlen', h.es, fun t ht => by rw [hseq]; exact ts' t ht, hnd, h.lo, h.runs⟩
theorem staOK0 : StaOK sta0 := ⟨by decide, by decide, by decide, by simp [sta0], by simp [sta0], by simp [sta0, Sta.keys], fun k hk => by rcases hk with rfl | rfl | rfl <;> decide, fun k hk => by rcases hk with rfl | rfl | rfl <;> rfl⟩
theorem headIs_cells (x : En) (r : List En) (k f t : Int) (key : List UInt8) : headIs (x :: r) ⟨k, f, t, key⟩ = (decide (x.tier = k) && (decide (x.f = f) && (decide (x.t = t) && (((B x.key).toList == (B key).toList) && true)))) := by
 rw [B_eq, Bool.and_true]
 show decide (x = ⟨k, f, t, key⟩) = _
 obtain ⟨a, b, c, d⟩ := x
 rw [Bool.eq_iff_iff]
 simp
set_option maxHeartbeats 1000000 in
theorem takes4_0 (s : Sta) (hL : s.es.length ≤ 1000000000) (tok f t : Int) (key : List UInt8) : VFn Tryz.prog 153 [s.av, (Rc.mk 4 tok 0 f t key).av] (.bool (s.takes ⟨4, tok, 0, f, t, key⟩)) := by
 obtain ⟨R, hR⟩ : ∃ R, R = ofT s.es 0 := ⟨_, rfl⟩
 have e : s.takes ⟨4, tok, 0, f, t, key⟩ = (decide (tok = s.fence) && (headIs R ⟨0, f, t, key⟩ && decide (t ≤ s.h1))) := by rw [hR]; exact rfl
 rw [e]
 have c := ofS_fn s hL 0
 rw [← hR] at c
 have ce := entry_fn ⟨4, tok, 0, f, t, key⟩
 refine VFn.introC Tryz.call153 Tryz.func153 rfl rfl ?_
 conv => whnf
 refine CallC.nl _ (c) ?_ ?_
 · exact rfl
 cases R with
 | nil =>
   refine DrawC.mq 36 rfl (by kernel_rfl) ?_
   repeat' (first
    | refine Grd.intro (fun h => ?_) (fun h => ?_)
    | ((conv => whnf); refine Grd.intro (fun h => ?_) (fun h => ?_))
    | refine And.intro (inI64 (by (try simp only); omega) (by (try simp only); omega)) ?_
    | refine And.intro trivial (AVle.of_eq (congrArg AV.bool ?_)))
   all_goals (show false = (_ && (false&& _)); simp)
 | cons x r =>
   have hH : headIs (x :: r) ⟨0, f, t, key⟩ = (decide ((ix (x :: r) (Int.toNat 0)).tier = 0) && (decide ((ix (x :: r) (Int.toNat 0)).f = f) && (decide ((ix (x :: r) (Int.toNat 0)).t = t) && (((B (ix (x :: r) (Int.toNat 0)).key).toList == (B key).toList) && true)))) := headIs_cells x r 0 f t key
   refine DrawC.mq 36 rfl (by kernel_rfl) ?_
   repeat' (first
    | refine Grd.intro (fun h => ?_) (fun h => ?_)
    | ((conv => whnf); refine Grd.intro (fun h => ?_) (fun h => ?_))
    | refine PCallQ.sca _ ce rfl ?_
    | refine And.intro ⟨Int.le_refl 0, show (0 : Int) < (((x :: r).length : Nat) : Int) by rw [List.length_cons]; omega⟩ ?_
    | refine And.intro (show eqGB _ _ = true from by kernel_rfl) ?_
    | refine And.intro (inI64 (by (try simp only); omega) (by (try simp only); omega)) ?_
    | refine And.intro ⟨show (0 : Int) ≤ 1 by omega, show (1 : Int) < ((3 : Nat) : Int) by omega⟩ ?_
    | refine And.intro ⟨show (0 : Int) ≤ 2 by omega, show (2 : Int) < ((3 : Nat) : Int) by omega⟩ ?_
    | refine And.intro trivial (AVle.of_eq (congrArg AV.bool ?_)))
   all_goals (clear hR e c ce; rw [hH]; simp_all)
set_option maxHeartbeats 1000000 in
theorem takes4_1 (s : Sta) (hL : s.es.length ≤ 1000000000) (tok f t : Int) (key : List UInt8) : VFn Tryz.prog 153 [s.av, (Rc.mk 4 tok 1 f t key).av] (.bool (s.takes ⟨4, tok, 1, f, t, key⟩)) := by
 obtain ⟨R, hR⟩ : ∃ R, R = ofT s.es 1 := ⟨_, rfl⟩
 have e : s.takes ⟨4, tok, 1, f, t, key⟩ = (decide (tok = s.fence) && (headIs R ⟨1, f, t, key⟩ && decide (t ≤ s.h2))) := by rw [hR]; exact rfl
 rw [e]
 have c := ofS_fn s hL 1
 rw [← hR] at c
 have ce := entry_fn ⟨4, tok, 1, f, t, key⟩
 refine VFn.introC Tryz.call153 Tryz.func153 rfl rfl ?_
 conv => whnf
 refine CallC.nl _ (c) ?_ ?_
 · exact rfl
 cases R with
 | nil =>
   refine DrawC.mq 36 rfl (by kernel_rfl) ?_
   repeat' (first
    | refine Grd.intro (fun h => ?_) (fun h => ?_)
    | ((conv => whnf); refine Grd.intro (fun h => ?_) (fun h => ?_))
    | refine And.intro (inI64 (by (try simp only); omega) (by (try simp only); omega)) ?_
    | refine And.intro trivial (AVle.of_eq (congrArg AV.bool ?_)))
   all_goals (show false = (_ && (false&& _)); simp)
 | cons x r =>
   have hH : headIs (x :: r) ⟨1, f, t, key⟩ = (decide ((ix (x :: r) (Int.toNat 0)).tier = 1) && (decide ((ix (x :: r) (Int.toNat 0)).f = f) && (decide ((ix (x :: r) (Int.toNat 0)).t = t) && (((B (ix (x :: r) (Int.toNat 0)).key).toList == (B key).toList) && true)))) := headIs_cells x r 1 f t key
   refine DrawC.mq 36 rfl (by kernel_rfl) ?_
   repeat' (first
    | refine Grd.intro (fun h => ?_) (fun h => ?_)
    | ((conv => whnf); refine Grd.intro (fun h => ?_) (fun h => ?_))
    | refine PCallQ.sca _ ce rfl ?_
    | refine And.intro ⟨Int.le_refl 0, show (0 : Int) < (((x :: r).length : Nat) : Int) by rw [List.length_cons]; omega⟩ ?_
    | refine And.intro (show eqGB _ _ = true from by kernel_rfl) ?_
    | refine And.intro (inI64 (by (try simp only); omega) (by (try simp only); omega)) ?_
    | refine And.intro ⟨show (0 : Int) ≤ 1 by omega, show (1 : Int) < ((3 : Nat) : Int) by omega⟩ ?_
    | refine And.intro ⟨show (0 : Int) ≤ 2 by omega, show (2 : Int) < ((3 : Nat) : Int) by omega⟩ ?_
    | refine And.intro trivial (AVle.of_eq (congrArg AV.bool ?_)))
   all_goals (clear hR e c ce; rw [hH]; simp_all)
set_option maxHeartbeats 1000000 in
theorem takes4_2 (s : Sta) (hL : s.es.length ≤ 1000000000) (tok f t : Int) (key : List UInt8) : VFn Tryz.prog 153 [s.av, (Rc.mk 4 tok 2 f t key).av] (.bool (s.takes ⟨4, tok, 2, f, t, key⟩)) := by
 obtain ⟨R, hR⟩ : ∃ R, R = ofT s.es 2 := ⟨_, rfl⟩
 have e : s.takes ⟨4, tok, 2, f, t, key⟩ = (decide (tok = s.fence) && (headIs R ⟨2, f, t, key⟩)) := by rw [hR]; exact (show (decide (tok = s.fence) && (headIs (ofT s.es 2) ⟨2, f, t, key⟩ && true)) = _ by rw [Bool.and_true])
 rw [e]
 have c := ofS_fn s hL 2
 rw [← hR] at c
 have ce := entry_fn ⟨4, tok, 2, f, t, key⟩
 refine VFn.introC Tryz.call153 Tryz.func153 rfl rfl ?_
 conv => whnf
 refine CallC.nl _ (c) ?_ ?_
 · exact rfl
 cases R with
 | nil =>
   refine DrawC.mq 36 rfl (by kernel_rfl) ?_
   repeat' (first
    | refine Grd.intro (fun h => ?_) (fun h => ?_)
    | ((conv => whnf); refine Grd.intro (fun h => ?_) (fun h => ?_))
    | refine And.intro (inI64 (by (try simp only); omega) (by (try simp only); omega)) ?_
    | refine And.intro trivial (AVle.of_eq (congrArg AV.bool ?_)))
   all_goals (show false = (_ && (false)); simp)
 | cons x r =>
   have hH : headIs (x :: r) ⟨2, f, t, key⟩ = (decide ((ix (x :: r) (Int.toNat 0)).tier = 2) && (decide ((ix (x :: r) (Int.toNat 0)).f = f) && (decide ((ix (x :: r) (Int.toNat 0)).t = t) && (((B (ix (x :: r) (Int.toNat 0)).key).toList == (B key).toList) && true)))) := headIs_cells x r 2 f t key
   refine DrawC.mq 36 rfl (by kernel_rfl) ?_
   repeat' (first
    | refine Grd.intro (fun h => ?_) (fun h => ?_)
    | ((conv => whnf); refine Grd.intro (fun h => ?_) (fun h => ?_))
    | refine PCallQ.sca _ ce rfl ?_
    | refine And.intro ⟨Int.le_refl 0, show (0 : Int) < (((x :: r).length : Nat) : Int) by rw [List.length_cons]; omega⟩ ?_
    | refine And.intro (show eqGB _ _ = true from by kernel_rfl) ?_
    | refine And.intro (inI64 (by (try simp only); omega) (by (try simp only); omega)) ?_
    | refine And.intro ⟨show (0 : Int) ≤ 1 by omega, show (1 : Int) < ((3 : Nat) : Int) by omega⟩ ?_
    | refine And.intro ⟨show (0 : Int) ≤ 2 by omega, show (2 : Int) < ((3 : Nat) : Int) by omega⟩ ?_
    | refine And.intro trivial (AVle.of_eq (congrArg AV.bool ?_)))
   all_goals (clear hR e c ce; rw [hH]; simp_all)
theorem noE_any {s : Sta} {r : Rc} (h : headIs (ofT s.es r.tier) r.en = true) : s.es.any (fun e => decide (e.key = r.key)) = true := List.any_eq_true.2 ⟨r.en, headIs_mem h, decide_eq_true rfl⟩
theorem applyE_fn (e : En) (row : Rc) : VFn Tryz.prog 156 [e.av, .eptr row.row 0] (.bool (decide (e.key = row.key))) := by
 refine VFn.introC Tryz.call156 Tryz.func156 rfl rfl ?_
 exact And.intro trivial (AVle.of_eq (congrArg AV.bool (show ((B e.key).toList == (B row.key).toList) = _ from B_eq)))
theorem applyT_fn (e : Tb) (row : Rc) : VFn Tryz.prog 158 [e.av, .eptr row.row 0] (.bool (decide (e.key = row.key))) := by
 refine VFn.introC Tryz.call158 Tryz.func158 rfl rfl ?_
 exact And.intro trivial (AVle.of_eq (congrArg AV.bool (show ((B e.key).toList == (B row.key).toList) = _ from B_eq)))
theorem apply1 (s : Sta) (hL : s.es.length + s.ts.length < 4096) (hq : 0 ≤ s.seq ∧ s.seq < 999999) (tok f t : Int) (key : List UInt8) :
 FnM Tryz.prog 128 0 [s.av, (Rc.mk 1 tok 0 f t key).av] [] (.tup [(s.app ⟨1, tok, 0, f, t, key⟩).own, .bool (s.takes ⟨1, tok, 0, f, t, key⟩), .int .i64 0]) (s.app ⟨1, tok, 0, f, t, key⟩).objs 2 := by
 have c := takes1 s (by omega) (by omega) (by omega) tok 0 f t key
 have hc := copiedS_own s (by omega) (by omega)
 by_cases ht : s.takes ⟨1, tok, 0, f, t, key⟩ = true
 · have ea : s.app ⟨1, tok, 0, f, t, key⟩ = ({ s.tick with es := s.es ++ [⟨0, f, t, key⟩] } : Sta).lift 0 t := by unfold Sta.app; rw [if_pos ht, if_pos (.inl rfl)]
   rw [ht] at c ⊢
   rw [ea]
   refine FnM.introC Tryz.call128 Tryz.func128 rfl rfl ?_
   conv => whnf
   refine CallC.sca _ (c) ?_ ?_
   · exact rfl
   refine Grd.intro (fun h => absurd (of_decide_eq_true (p := s.seq = 999999) h) (by omega)) (fun _ => ?_)
   refine And.intro (inI64 (by omega) (by omega)) ?_
   refine Grd.intro (fun h => absurd (of_decide_eq_true h) (by omega)) (fun _ => ?_)
   conv => whnf
   refine CallC.k [] hc rfl rfl (AVsle.refl _) trivial rfl ?_
   refine And.intro (inI64 (by omega) (by omega)) ?_
   refine DrawC.mq 5 rfl (by kernel_rfl) ?_
   conv => whnf
   refine PCallQ.sca _ (entry_fn ⟨1, tok, 0, f, t, key⟩) rfl ?_
   refine And.intro ⟨show (s.es.length + 1) * 40 ≤ 140737488355328 by omega, all1 rfl⟩ ?_
   refine And.intro ⟨show (0 : Int) ≤ 0 by omega, show (0 : Int) < ((3 : Nat) : Int) by omega⟩ ?_
   exact And.intro trivial ⟨[(11, 0), (4, 1)], rfl, AVle.refl _, ⟨arr_next (f := En.row) rfl rfl, MOle.refl _, trivial⟩⟩
 · have ht : s.takes ⟨1, tok, 0, f, t, key⟩ = false := by simpa using ht
   have ea : s.app ⟨1, tok, 0, f, t, key⟩ = s.tick := by unfold Sta.app; rw [if_neg (by rw [ht]; simp)]
   rw [ht] at c ⊢
   rw [ea]
   refine FnM.introC Tryz.call128 Tryz.func128 rfl rfl ?_
   conv => whnf
   refine CallC.sca _ (c) ?_ ?_
   · exact rfl
   refine Grd.intro (fun h => absurd (of_decide_eq_true (p := s.seq = 999999) h) (by omega)) (fun _ => ?_)
   conv => whnf
   refine CallC.k [] hc rfl rfl (AVsle.refl _) trivial rfl ?_
   refine And.intro (inI64 (by omega) (by omega)) ?_
   exact And.intro trivial ⟨[(3, 0), (4, 1)], rfl, AVle.refl _, ⟨MOle.refl _, MOle.refl _, trivial⟩⟩
theorem apply3_1 (s : Sta) (hL : s.es.length + s.ts.length < 4096) (hq : 0 ≤ s.seq ∧ s.seq < 999999) (tok f t : Int) (hf : 0 ≤ f ∧ f ≤ 1000000) (key : List UInt8) :
 FnM Tryz.prog 128 0 [s.av, (Rc.mk 3 tok 1 f t key).av] [] (.tup [(s.app ⟨3, tok, 1, f, t, key⟩).own, .bool (s.takes ⟨3, tok, 1, f, t, key⟩), .int .i64 0]) (s.app ⟨3, tok, 1, f, t, key⟩).objs 2 := by
 have c := takes3_1 s (by omega) (by omega) tok f t hf key
 have hc := copiedS_own s (by omega) (by omega)
 by_cases ht : s.takes ⟨3, tok, 1, f, t, key⟩ = true
 · have ea : s.app ⟨3, tok, 1, f, t, key⟩ = ({ s.tick with es := s.es ++ [⟨1, f, t, key⟩] } : Sta).lift 1 t := by unfold Sta.app; rw [if_pos ht, if_pos (.inr rfl)]
   rw [ht] at c ⊢
   rw [ea]
   refine FnM.introC Tryz.call128 Tryz.func128 rfl rfl ?_
   conv => whnf
   refine CallC.sca _ (c) ?_ ?_
   · exact rfl
   refine Grd.intro (fun h => absurd (of_decide_eq_true (p := s.seq = 999999) h) (by omega)) (fun _ => ?_)
   refine And.intro (inI64 (by omega) (by omega)) ?_
   refine Grd.intro (fun h => absurd (of_decide_eq_true h) (by omega)) (fun _ => ?_)
   conv => whnf
   refine CallC.k [] hc rfl rfl (AVsle.refl _) trivial rfl ?_
   refine And.intro (inI64 (by omega) (by omega)) ?_
   refine DrawC.mq 5 rfl (by kernel_rfl) ?_
   conv => whnf
   refine PCallQ.sca _ (entry_fn ⟨3, tok, 1, f, t, key⟩) rfl ?_
   refine And.intro ⟨show (s.es.length + 1) * 40 ≤ 140737488355328 by omega, all1 rfl⟩ ?_
   refine And.intro ⟨show (0 : Int) ≤ 1 by omega, show (1 : Int) < ((3 : Nat) : Int) by omega⟩ ?_
   exact And.intro trivial ⟨[(11, 0), (4, 1)], rfl, AVle.refl _, ⟨arr_next (f := En.row) rfl rfl, MOle.refl _, trivial⟩⟩
 · have ht : s.takes ⟨3, tok, 1, f, t, key⟩ = false := by simpa using ht
   have ea : s.app ⟨3, tok, 1, f, t, key⟩ = s.tick := by unfold Sta.app; rw [if_neg (by rw [ht]; simp)]
   rw [ht] at c ⊢
   rw [ea]
   refine FnM.introC Tryz.call128 Tryz.func128 rfl rfl ?_
   conv => whnf
   refine CallC.sca _ (c) ?_ ?_
   · exact rfl
   refine Grd.intro (fun h => absurd (of_decide_eq_true (p := s.seq = 999999) h) (by omega)) (fun _ => ?_)
   conv => whnf
   refine CallC.k [] hc rfl rfl (AVsle.refl _) trivial rfl ?_
   refine And.intro (inI64 (by omega) (by omega)) ?_
   exact And.intro trivial ⟨[(3, 0), (4, 1)], rfl, AVle.refl _, ⟨MOle.refl _, MOle.refl _, trivial⟩⟩
theorem apply3_2 (s : Sta) (hL : s.es.length + s.ts.length < 4096) (hq : 0 ≤ s.seq ∧ s.seq < 999999) (tok f t : Int) (hf : 0 ≤ f ∧ f ≤ 1000000) (key : List UInt8) :
 FnM Tryz.prog 128 0 [s.av, (Rc.mk 3 tok 2 f t key).av] [] (.tup [(s.app ⟨3, tok, 2, f, t, key⟩).own, .bool (s.takes ⟨3, tok, 2, f, t, key⟩), .int .i64 0]) (s.app ⟨3, tok, 2, f, t, key⟩).objs 2 := by
 have c := takes3_2 s (by omega) (by omega) tok f t hf key
 have hc := copiedS_own s (by omega) (by omega)
 by_cases ht : s.takes ⟨3, tok, 2, f, t, key⟩ = true
 · have ea : s.app ⟨3, tok, 2, f, t, key⟩ = ({ s.tick with es := s.es ++ [⟨2, f, t, key⟩] } : Sta).lift 2 t := by unfold Sta.app; rw [if_pos ht, if_pos (.inr rfl)]
   rw [ht] at c ⊢
   rw [ea]
   refine FnM.introC Tryz.call128 Tryz.func128 rfl rfl ?_
   conv => whnf
   refine CallC.sca _ (c) ?_ ?_
   · exact rfl
   refine Grd.intro (fun h => absurd (of_decide_eq_true (p := s.seq = 999999) h) (by omega)) (fun _ => ?_)
   refine And.intro (inI64 (by omega) (by omega)) ?_
   refine Grd.intro (fun h => absurd (of_decide_eq_true h) (by omega)) (fun _ => ?_)
   conv => whnf
   refine CallC.k [] hc rfl rfl (AVsle.refl _) trivial rfl ?_
   refine And.intro (inI64 (by omega) (by omega)) ?_
   refine DrawC.mq 5 rfl (by kernel_rfl) ?_
   conv => whnf
   refine PCallQ.sca _ (entry_fn ⟨3, tok, 2, f, t, key⟩) rfl ?_
   refine And.intro ⟨show (s.es.length + 1) * 40 ≤ 140737488355328 by omega, all1 rfl⟩ ?_
   refine And.intro ⟨show (0 : Int) ≤ 2 by omega, show (2 : Int) < ((3 : Nat) : Int) by omega⟩ ?_
   exact And.intro trivial ⟨[(11, 0), (4, 1)], rfl, AVle.refl _, ⟨arr_next (f := En.row) rfl rfl, MOle.refl _, trivial⟩⟩
 · have ht : s.takes ⟨3, tok, 2, f, t, key⟩ = false := by simpa using ht
   have ea : s.app ⟨3, tok, 2, f, t, key⟩ = s.tick := by unfold Sta.app; rw [if_neg (by rw [ht]; simp)]
   rw [ht] at c ⊢
   rw [ea]
   refine FnM.introC Tryz.call128 Tryz.func128 rfl rfl ?_
   conv => whnf
   refine CallC.sca _ (c) ?_ ?_
   · exact rfl
   refine Grd.intro (fun h => absurd (of_decide_eq_true (p := s.seq = 999999) h) (by omega)) (fun _ => ?_)
   conv => whnf
   refine CallC.k [] hc rfl rfl (AVsle.refl _) trivial rfl ?_
   refine And.intro (inI64 (by omega) (by omega)) ?_
   exact And.intro trivial ⟨[(3, 0), (4, 1)], rfl, AVle.refl _, ⟨MOle.refl _, MOle.refl _, trivial⟩⟩
theorem apply2 (s : Sta) (hL : s.es.length + s.ts.length < 4096) (hq : 0 ≤ s.seq ∧ s.seq < 999999) (tok tier f t : Int) (key : List UInt8) :
 FnM Tryz.prog 128 0 [s.av, (Rc.mk 2 tok tier f t key).av] [] (.tup [(s.app ⟨2, tok, tier, f, t, key⟩).own, .bool (s.takes ⟨2, tok, tier, f, t, key⟩), .int .i64 0]) (s.app ⟨2, tok, tier, f, t, key⟩).objs 2 := by
 have c := takes2 s tok tier f t key
 have hc := copiedS_own s (by omega) (by omega)
 by_cases ht : s.takes ⟨2, tok, tier, f, t, key⟩ = true
 · have ea : s.app ⟨2, tok, tier, f, t, key⟩ = { s.tick with fence := tok } := by unfold Sta.app; rw [if_pos ht, if_neg (show ¬ ((2 : Int) = 1 ∨ (2 : Int) = 3) by decide), if_pos rfl]
   rw [ht] at c ⊢
   rw [ea]
   refine FnM.introC Tryz.call128 Tryz.func128 rfl rfl ?_
   conv => whnf
   refine CallC.sca _ (c) ?_ ?_
   · exact rfl
   refine Grd.intro (fun h => absurd (of_decide_eq_true (p := s.seq = 999999) h) (by omega)) (fun _ => ?_)
   conv => whnf
   refine CallC.k [] hc rfl rfl (AVsle.refl _) trivial rfl ?_
   refine And.intro (inI64 (by omega) (by omega)) ?_
   exact And.intro trivial ⟨[(3, 0), (4, 1)], rfl, AVle.refl _, ⟨MOle.refl _, MOle.refl _, trivial⟩⟩
 · have ht : s.takes ⟨2, tok, tier, f, t, key⟩ = false := by simpa using ht
   have ea : s.app ⟨2, tok, tier, f, t, key⟩ = s.tick := by unfold Sta.app; rw [if_neg (by rw [ht]; simp)]
   rw [ht] at c ⊢
   rw [ea]
   refine FnM.introC Tryz.call128 Tryz.func128 rfl rfl ?_
   conv => whnf
   refine CallC.sca _ (c) ?_ ?_
   · exact rfl
   refine Grd.intro (fun h => absurd (of_decide_eq_true (p := s.seq = 999999) h) (by omega)) (fun _ => ?_)
   conv => whnf
   refine CallC.k [] hc rfl rfl (AVsle.refl _) trivial rfl ?_
   refine And.intro (inI64 (by omega) (by omega)) ?_
   exact And.intro trivial ⟨[(3, 0), (4, 1)], rfl, AVle.refl _, ⟨MOle.refl _, MOle.refl _, trivial⟩⟩
theorem apply4_0 (s : Sta) (hL : s.es.length + s.ts.length < 4096) (hq : 0 ≤ s.seq ∧ s.seq < 999999) (tok f t : Int) (key : List UInt8) :
 FnM Tryz.prog 128 0 [s.av, (Rc.mk 4 tok 0 f t key).av] [] (.tup [(s.app ⟨4, tok, 0, f, t, key⟩).own, .bool (s.takes ⟨4, tok, 0, f, t, key⟩), .int .i64 0]) (s.app ⟨4, tok, 0, f, t, key⟩).objs 2 := by
 have c := takes4_0 s (by omega) tok f t key
 have hc := copiedS_own s (by omega) (by omega)
 by_cases ht : s.takes ⟨4, tok, 0, f, t, key⟩ = true
 · have ea : s.app ⟨4, tok, 0, f, t, key⟩ = ({ s.tick with es := noE key s.es, ts := s.ts ++ [⟨s.seq + 1, key⟩] } : Sta).lower 0 t := by unfold Sta.app; rw [if_pos ht, if_neg (show ¬ ((4 : Int) = 1 ∨ (4 : Int) = 3) by decide), if_neg (show ¬ (4 : Int) = 2 by decide), if_pos rfl]
   have hany : s.es.any (fun e => decide (e.key = key)) = true := noE_any (r := ⟨4, tok, 0, f, t, key⟩) (takes_4 ht rfl)
   have hd := DelEn_some s.es (by omega) 156 (Rc.mk 4 tok 0 f t key).row (fun e => decide (e.key = key)) (fun e _ => applyE_fn e ⟨4, tok, 0, f, t, key⟩) hany
   rw [ht] at c ⊢
   rw [ea]
   refine FnM.introC Tryz.call128 Tryz.func128 rfl rfl ?_
   conv => whnf
   refine CallC.sca _ (c) ?_ ?_
   · exact rfl
   refine Grd.intro (fun h => absurd (of_decide_eq_true (p := s.seq = 999999) h) (by omega)) (fun _ => ?_)
   conv => whnf
   refine CallC.k [] hc rfl rfl (AVsle.refl _) trivial rfl ?_
   refine And.intro (inI64 (by omega) (by omega)) ?_
   conv => whnf
   refine CallC.m [(3, 0)] hd rfl rfl (AVsle.refl _) ⟨MOle.refl _, trivial⟩ rfl ⟨fun i hi => rfl, trivial⟩ rfl ?_
   refine And.intro ⟨show (s.ts.length + 1) * 24 ≤ 140737488355328 by omega, all1 rfl⟩ ?_
   refine And.intro ⟨show (0 : Int) ≤ 0 by omega, show (0 : Int) < ((3 : Nat) : Int) by omega⟩ ?_
   exact And.intro trivial ⟨[(6, 0), (9, 1)], rfl, AVle.refl _, ⟨MOle.refl _, arr_next (f := Tb.row) rfl rfl, trivial⟩⟩
 · have ht : s.takes ⟨4, tok, 0, f, t, key⟩ = false := by simpa using ht
   have ea : s.app ⟨4, tok, 0, f, t, key⟩ = s.tick := by unfold Sta.app; rw [if_neg (by rw [ht]; simp)]
   rw [ht] at c ⊢
   rw [ea]
   refine FnM.introC Tryz.call128 Tryz.func128 rfl rfl ?_
   conv => whnf
   refine CallC.sca _ (c) ?_ ?_
   · exact rfl
   refine Grd.intro (fun h => absurd (of_decide_eq_true (p := s.seq = 999999) h) (by omega)) (fun _ => ?_)
   conv => whnf
   refine CallC.k [] hc rfl rfl (AVsle.refl _) trivial rfl ?_
   refine And.intro (inI64 (by omega) (by omega)) ?_
   exact And.intro trivial ⟨[(3, 0), (4, 1)], rfl, AVle.refl _, ⟨MOle.refl _, MOle.refl _, trivial⟩⟩
theorem apply4_1 (s : Sta) (hL : s.es.length + s.ts.length < 4096) (hq : 0 ≤ s.seq ∧ s.seq < 999999) (tok f t : Int) (key : List UInt8) :
 FnM Tryz.prog 128 0 [s.av, (Rc.mk 4 tok 1 f t key).av] [] (.tup [(s.app ⟨4, tok, 1, f, t, key⟩).own, .bool (s.takes ⟨4, tok, 1, f, t, key⟩), .int .i64 0]) (s.app ⟨4, tok, 1, f, t, key⟩).objs 2 := by
 have c := takes4_1 s (by omega) tok f t key
 have hc := copiedS_own s (by omega) (by omega)
 by_cases ht : s.takes ⟨4, tok, 1, f, t, key⟩ = true
 · have ea : s.app ⟨4, tok, 1, f, t, key⟩ = ({ s.tick with es := noE key s.es, ts := s.ts ++ [⟨s.seq + 1, key⟩] } : Sta).lower 1 t := by unfold Sta.app; rw [if_pos ht, if_neg (show ¬ ((4 : Int) = 1 ∨ (4 : Int) = 3) by decide), if_neg (show ¬ (4 : Int) = 2 by decide), if_pos rfl]
   have hany : s.es.any (fun e => decide (e.key = key)) = true := noE_any (r := ⟨4, tok, 1, f, t, key⟩) (takes_4 ht rfl)
   have hd := DelEn_some s.es (by omega) 156 (Rc.mk 4 tok 1 f t key).row (fun e => decide (e.key = key)) (fun e _ => applyE_fn e ⟨4, tok, 1, f, t, key⟩) hany
   rw [ht] at c ⊢
   rw [ea]
   refine FnM.introC Tryz.call128 Tryz.func128 rfl rfl ?_
   conv => whnf
   refine CallC.sca _ (c) ?_ ?_
   · exact rfl
   refine Grd.intro (fun h => absurd (of_decide_eq_true (p := s.seq = 999999) h) (by omega)) (fun _ => ?_)
   conv => whnf
   refine CallC.k [] hc rfl rfl (AVsle.refl _) trivial rfl ?_
   refine And.intro (inI64 (by omega) (by omega)) ?_
   conv => whnf
   refine CallC.m [(3, 0)] hd rfl rfl (AVsle.refl _) ⟨MOle.refl _, trivial⟩ rfl ⟨fun i hi => rfl, trivial⟩ rfl ?_
   refine And.intro ⟨show (s.ts.length + 1) * 24 ≤ 140737488355328 by omega, all1 rfl⟩ ?_
   refine And.intro ⟨show (0 : Int) ≤ 1 by omega, show (1 : Int) < ((3 : Nat) : Int) by omega⟩ ?_
   exact And.intro trivial ⟨[(6, 0), (9, 1)], rfl, AVle.refl _, ⟨MOle.refl _, arr_next (f := Tb.row) rfl rfl, trivial⟩⟩
 · have ht : s.takes ⟨4, tok, 1, f, t, key⟩ = false := by simpa using ht
   have ea : s.app ⟨4, tok, 1, f, t, key⟩ = s.tick := by unfold Sta.app; rw [if_neg (by rw [ht]; simp)]
   rw [ht] at c ⊢
   rw [ea]
   refine FnM.introC Tryz.call128 Tryz.func128 rfl rfl ?_
   conv => whnf
   refine CallC.sca _ (c) ?_ ?_
   · exact rfl
   refine Grd.intro (fun h => absurd (of_decide_eq_true (p := s.seq = 999999) h) (by omega)) (fun _ => ?_)
   conv => whnf
   refine CallC.k [] hc rfl rfl (AVsle.refl _) trivial rfl ?_
   refine And.intro (inI64 (by omega) (by omega)) ?_
   exact And.intro trivial ⟨[(3, 0), (4, 1)], rfl, AVle.refl _, ⟨MOle.refl _, MOle.refl _, trivial⟩⟩
theorem apply4_2 (s : Sta) (hL : s.es.length + s.ts.length < 4096) (hq : 0 ≤ s.seq ∧ s.seq < 999999) (tok f t : Int) (key : List UInt8) :
 FnM Tryz.prog 128 0 [s.av, (Rc.mk 4 tok 2 f t key).av] [] (.tup [(s.app ⟨4, tok, 2, f, t, key⟩).own, .bool (s.takes ⟨4, tok, 2, f, t, key⟩), .int .i64 0]) (s.app ⟨4, tok, 2, f, t, key⟩).objs 2 := by
 have c := takes4_2 s (by omega) tok f t key
 have hc := copiedS_own s (by omega) (by omega)
 by_cases ht : s.takes ⟨4, tok, 2, f, t, key⟩ = true
 · have ea : s.app ⟨4, tok, 2, f, t, key⟩ = ({ s.tick with es := noE key s.es, ts := s.ts ++ [⟨s.seq + 1, key⟩] } : Sta).lower 2 t := by unfold Sta.app; rw [if_pos ht, if_neg (show ¬ ((4 : Int) = 1 ∨ (4 : Int) = 3) by decide), if_neg (show ¬ (4 : Int) = 2 by decide), if_pos rfl]
   have hany : s.es.any (fun e => decide (e.key = key)) = true := noE_any (r := ⟨4, tok, 2, f, t, key⟩) (takes_4 ht rfl)
   have hd := DelEn_some s.es (by omega) 156 (Rc.mk 4 tok 2 f t key).row (fun e => decide (e.key = key)) (fun e _ => applyE_fn e ⟨4, tok, 2, f, t, key⟩) hany
   rw [ht] at c ⊢
   rw [ea]
   refine FnM.introC Tryz.call128 Tryz.func128 rfl rfl ?_
   conv => whnf
   refine CallC.sca _ (c) ?_ ?_
   · exact rfl
   refine Grd.intro (fun h => absurd (of_decide_eq_true (p := s.seq = 999999) h) (by omega)) (fun _ => ?_)
   conv => whnf
   refine CallC.k [] hc rfl rfl (AVsle.refl _) trivial rfl ?_
   refine And.intro (inI64 (by omega) (by omega)) ?_
   conv => whnf
   refine CallC.m [(3, 0)] hd rfl rfl (AVsle.refl _) ⟨MOle.refl _, trivial⟩ rfl ⟨fun i hi => rfl, trivial⟩ rfl ?_
   refine And.intro ⟨show (s.ts.length + 1) * 24 ≤ 140737488355328 by omega, all1 rfl⟩ ?_
   refine And.intro ⟨show (0 : Int) ≤ 2 by omega, show (2 : Int) < ((3 : Nat) : Int) by omega⟩ ?_
   exact And.intro trivial ⟨[(6, 0), (9, 1)], rfl, AVle.refl _, ⟨MOle.refl _, arr_next (f := Tb.row) rfl rfl, trivial⟩⟩
 · have ht : s.takes ⟨4, tok, 2, f, t, key⟩ = false := by simpa using ht
   have ea : s.app ⟨4, tok, 2, f, t, key⟩ = s.tick := by unfold Sta.app; rw [if_neg (by rw [ht]; simp)]
   rw [ht] at c ⊢
   rw [ea]
   refine FnM.introC Tryz.call128 Tryz.func128 rfl rfl ?_
   conv => whnf
   refine CallC.sca _ (c) ?_ ?_
   · exact rfl
   refine Grd.intro (fun h => absurd (of_decide_eq_true (p := s.seq = 999999) h) (by omega)) (fun _ => ?_)
   conv => whnf
   refine CallC.k [] hc rfl rfl (AVsle.refl _) trivial rfl ?_
   refine And.intro (inI64 (by omega) (by omega)) ?_
   exact And.intro trivial ⟨[(3, 0), (4, 1)], rfl, AVle.refl _, ⟨MOle.refl _, MOle.refl _, trivial⟩⟩
theorem apply5 (s : Sta) (hL : s.es.length + s.ts.length < 4096) (hq : 0 ≤ s.seq ∧ s.seq < 999999) (tok tier f t : Int) (key : List UInt8) :
 FnM Tryz.prog 128 0 [s.av, (Rc.mk 5 tok tier f t key).av] [] (.tup [(s.app ⟨5, tok, tier, f, t, key⟩).own, .bool (s.takes ⟨5, tok, tier, f, t, key⟩), .int .i64 0]) (s.app ⟨5, tok, tier, f, t, key⟩).objs 2 := by
 have c := takes5 s (by omega) tok tier f t key
 have hc := copiedS_own s (by omega) (by omega)
 by_cases ht : s.takes ⟨5, tok, tier, f, t, key⟩ = true
 · have ea : s.app ⟨5, tok, tier, f, t, key⟩ = { s.tick with ts := noT key s.ts } := by unfold Sta.app; rw [if_pos ht, if_neg (show ¬ ((5 : Int) = 1 ∨ (5 : Int) = 3) by decide), if_neg (show ¬ (5 : Int) = 2 by decide), if_neg (show ¬ (5 : Int) = 4 by decide)]
   have hany : s.ts.any (fun e => decide (e.key = key)) = true := (fi_any).symm.trans (show s.takes ⟨5, tok, tier, f, t, key⟩ = true from ht)
   have hd := DelTb_some s.ts (by omega) 158 (Rc.mk 5 tok tier f t key).row (fun e => decide (e.key = key)) (fun e _ => applyT_fn e ⟨5, tok, tier, f, t, key⟩) hany
   rw [ht] at c ⊢
   rw [ea]
   refine FnM.introC Tryz.call128 Tryz.func128 rfl rfl ?_
   conv => whnf
   refine CallC.sca _ (c) ?_ ?_
   · exact rfl
   refine Grd.intro (fun h => absurd (of_decide_eq_true (p := s.seq = 999999) h) (by omega)) (fun _ => ?_)
   conv => whnf
   refine CallC.k [] hc rfl rfl (AVsle.refl _) trivial rfl ?_
   refine And.intro (inI64 (by omega) (by omega)) ?_
   conv => whnf
   refine CallC.m [(4, 0)] hd rfl rfl (AVsle.refl _) ⟨MOle.refl _, trivial⟩ rfl ⟨fun i hi => rfl, trivial⟩ rfl ?_
   exact And.intro trivial ⟨[(3, 0), (6, 1)], rfl, AVle.refl _, ⟨MOle.refl _, MOle.refl _, trivial⟩⟩
 · have ht : s.takes ⟨5, tok, tier, f, t, key⟩ = false := by simpa using ht
   have ea : s.app ⟨5, tok, tier, f, t, key⟩ = s.tick := by unfold Sta.app; rw [if_neg (by rw [ht]; simp)]
   rw [ht] at c ⊢
   rw [ea]
   refine FnM.introC Tryz.call128 Tryz.func128 rfl rfl ?_
   conv => whnf
   refine CallC.sca _ (c) ?_ ?_
   · exact rfl
   refine Grd.intro (fun h => absurd (of_decide_eq_true (p := s.seq = 999999) h) (by omega)) (fun _ => ?_)
   conv => whnf
   refine CallC.k [] hc rfl rfl (AVsle.refl _) trivial rfl ?_
   refine And.intro (inI64 (by omega) (by omega)) ?_
   exact And.intro trivial ⟨[(3, 0), (4, 1)], rfl, AVle.refl _, ⟨MOle.refl _, MOle.refl _, trivial⟩⟩
theorem apply_fn (s : Sta) (hL : s.es.length + s.ts.length < 4096) (hq : 0 ≤ s.seq ∧ s.seq < 999999) (r : Rc) (hr : r.ok = true) :
 FnM Tryz.prog 128 0 [s.av, r.av] [] (.tup [(s.app r).own, .bool (s.takes r), .int .i64 0]) (s.app r).objs 2 := by
 obtain ⟨k, tok, tier, f, t, key⟩ := r
 rcases kinds hr with ⟨rfl, rfl⟩ | rfl | ⟨rfl, h, hf⟩ | ⟨rfl, h⟩ | rfl
 · exact apply1 s hL hq tok f t key
 · exact apply2 s hL hq tok tier f t key
 · rcases h with rfl | rfl
   · exact apply3_1 s hL hq tok f t hf key
   · exact apply3_2 s hL hq tok f t hf key
 · rcases h with rfl | rfl | rfl
   · exact apply4_0 s hL hq tok f t key
   · exact apply4_1 s hL hq tok f t key
   · exact apply4_2 s hL hq tok f t key
 · exact apply5 s hL hq tok tier f t key

def Sta.nrow (s : Sta) : List AV := [.int .i64 s.seq, .int .i64 s.fence, .nilsl, .nilsl, .int .i64 s.l0, .int .i64 s.l1, .int .i64 s.l2, .int .i64 s.h0, .int .i64 s.h1, .int .i64 s.h2]
theorem draw (s : Src) {k : Int} (h : s.ok k) (hk : 0 ≤ k ∧ k ≤ 10000000) (n : Int) (hn : 1 ≤ n) : ∃ (v : Nat) (q : Src), (v : Int) < n ∧ q.ok (k + 3) ∧ FnM Tryz.prog 75 1 [.bptr 0 0, .int .i64 n] [(0, .box s.row)] (.int .i64 v) [(0, .box q.row)] 1 := by
 have n1 := next_b s h (by omega) n
 have n2 := n1.1.2 hn
 obtain ⟨v, hv⟩ : ∃ v : Nat, (s.next n).1 = v := ⟨(s.next n).1.toNat, by omega⟩
 have c := next_fn s n (wk h (by omega))
 rw [hv] at c n2
 exact ⟨v, (s.next n).2, n2, n1.2.1, c⟩
def tch (x y : Int) (e : En) : Bool := decide ((if x > e.f then x else e.f) < (if y < e.t then y else e.t))
theorem seq_ex {α : Type} (M : Nat) (I : Nat → α → Prop) (T : α → α → Prop) (a0 : α) (h0 : I 0 a0) (hs : ∀ n a, n < M → I n a → ∃ b, T a b ∧ I (n + 1) b) :
 ∃ f : Nat → α, f 0 = a0 ∧ (∀ n, n ≤ M → I n (f n)) ∧ ∀ n, n < M → T (f n) (f (n + 1)) := by
 classical
 let g : Nat → α → α := fun n a => if h : ∃ b, T a b ∧ I (n + 1) b then Classical.choose h else a
 let f : Nat → α := fun n => Nat.rec a0 (fun n a => g n a) n
 have hf : ∀ n, f (n + 1) = g n (f n) := fun n => rfl
 have hg : ∀ n a, (h : ∃ b, T a b ∧ I (n + 1) b) → T a (g n a) ∧ I (n + 1) (g n a) := fun n a h => by
  show T a (if h : ∃ b, T a b ∧ I (n + 1) b then Classical.choose h else a) ∧ I (n + 1) (if h : ∃ b, T a b ∧ I (n + 1) b then Classical.choose h else a)
  rw [dif_pos h]
  exact Classical.choose_spec h
 have hI : ∀ n, n ≤ M → I n (f n) := by
  intro n
  induction n with
  | zero => intro _; exact h0
  | succ n ih => intro h; rw [hf]; exact (hg n _ (hs n _ (by omega) (ih (by omega)))).2
 exact ⟨f, rfl, hI, fun n h => by rw [hf]; exact (hg n _ (hs n _ h (hI n (by omega)))).1⟩
theorem size_fn (s : Src) (n : Int) (h : s.ok 100000000) (hn : 1 ≤ n ∧ n ≤ 1000) : ∃ v : Int, (1 ≤ v ∧ v ≤ n) ∧ FnM Tryz.prog 76 1 [.bptr 0 0, .int .i64 n] [(0, .box s.row)] (.int .i64 v) [(0, .box s.row)] 1 := by
 have hc := h.2.2
 have q := tdiv_b (n := (s.code.length : Int)) (m := 12) (by omega) (by decide)
 refine ⟨if n < 1 + (s.code.length : Int).tdiv 12 then n else 1 + (s.code.length : Int).tdiv 12, by split <;> omega, ?_⟩
 refine FnM.introC Tryz.call76 Tryz.func76 rfl rfl ?_
 refine And.intro ⟨by decide, inI64 (by omega) (by omega)⟩ ?_
 refine And.intro (inI64 (by omega) (by omega)) ?_
 exact And.intro trivial ⟨[(0, 0)], rfl, AVle.refl _, ⟨MOle.refl _, trivial⟩⟩

end Go.Proofs.YtbhgcfhbhjcjhaaGreatDoor
