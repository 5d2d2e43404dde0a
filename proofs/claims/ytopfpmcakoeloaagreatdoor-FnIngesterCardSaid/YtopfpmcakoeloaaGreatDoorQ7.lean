/- Contracts of functions that the claim reaches, and the plain law of what they compute; each theorem bears its own conditions. -/
import Derived.Test.YtopfpmcakoeloaaGreatDoorQ5
import Derived.Test.YtopfpmcakoeloaaGreatDoorQ6
import Derived.Test.YtopfpmcakoeloaaGreatDoorV50
import Derived.Test.YtopfpmcakoeloaaGreatDoorQ4
import Derived.Test.YtopfpmcakoeloaaGreatDoorQ2
set_option linter.unusedVariables false
set_option linter.constructorNameAsVariable false
set_option linter.unusedSimpArgs false
set_option maxRecDepth 20000
namespace Go.Proofs.YtopfpmcakoeloaaGreatDoor
open Go Go.Vw

theorem chance_fn (s : Src) (n : Int) (h : s.ok 100000000) (hn : -1000000 ≤ n ∧ n ≤ 1000000) : FnM Tryz.prog 79 1 [.bptr 0 0, .int .i64 n] [(0, .box s.row)] (.bool (decide ((s.next n).1 = n - 1))) [(0, .box (s.next n).2.row)] 1 := by
  refine FnM.introC Tryz.call79 Tryz.func79 rfl rfl ?_
  conv => whnf
  refine CallC.k [(0, 0)] (next_fn s n h) rfl rfl (AVsle.refl _) ⟨MOle.refl _, trivial⟩ rfl ?_
  refine And.intro (inI64 (by omega) (by omega)) ?_
  exact And.intro trivial ⟨[(0, 0)], rfl, AVle.refl _, ⟨MOle.refl _, trivial⟩⟩
end Go.Proofs.YtopfpmcakoeloaaGreatDoor
set_option linter.unusedVariables false
set_option linter.constructorNameAsVariable false
set_option linter.unusedSimpArgs false
set_option maxRecDepth 20000
namespace Go.Proofs.YtopfpmcakoeloaaGreatDoor
open Go Go.Vw

structure StaOK (s : Sta) : Prop where
  q : 0 ≤ s.seq ∧ s.seq ≤ 999999
  f : 0 ≤ s.fence ∧ s.fence ≤ 999999
  len : s.es.length + s.ts.length ≤ 4096
  es : ∀ e ∈ s.es, e.ok = true
  ts : ∀ t ∈ s.ts, kOk t.key = true ∧ 1 ≤ t.seq ∧ t.seq ≤ s.seq
  nd : s.keys.Nodup
  lo : ∀ k, (k = 0 ∨ k = 1 ∨ k = 2) → 0 ≤ s.lo k ∧ s.lo k ≤ 100000
  runs : ∀ k, (k = 0 ∨ k = 1 ∨ k = 2) → runs (ofT s.es k) (s.lo k) = some (s.hi k)
theorem staOK_iff (s : Sta) : s.ok = true ↔ StaOK s := by
  constructor
  · intro h
    unfold Sta.ok tierOK at h
    simp only [Bool.and_eq_true, decide_eq_true_eq, List.all_eq_true, within] at h
    obtain ⟨h1, h2, h3, h4, h5, h6, ⟨h7, h7'⟩, ⟨h8, h8'⟩, h9, h9'⟩ := h
    refine ⟨h1, h2, by omega, h4, fun t ht => ?_, h6, fun k hk => ?_, fun k hk => ?_⟩
    · have := h5 t ht
      simp only [tbOK, Bool.and_eq_true, decide_eq_true_eq, within] at this
      exact ⟨this.1, this.2.1, this.2.2⟩
    · rcases hk with rfl | rfl | rfl
      · exact h7
      · exact h8
      · exact h9
    · rcases hk with rfl | rfl | rfl
      · exact h7'
      · exact h8'
      · exact h9'
  · rintro ⟨h1, h2, h3, h4, h5, h6, h7, h8⟩
    unfold Sta.ok tierOK
    simp only [Bool.and_eq_true, decide_eq_true_eq, List.all_eq_true, within]
    refine ⟨h1, h2, by omega, h4, fun t ht => ?_, h6, ⟨h7 0 (.inl rfl), h8 0 (.inl rfl)⟩, ⟨h7 1 (.inr (.inl rfl)), h8 1 (.inr (.inl rfl))⟩, h7 2 (.inr (.inr rfl)), h8 2 (.inr (.inr rfl))⟩
    have := h5 t ht
    simp only [tbOK, Bool.and_eq_true, decide_eq_true_eq, within]
    exact ⟨this.1, this.2.1, this.2.2⟩
theorem ofT_app (L M : List En) (k : Int) : ofT (L ++ M) k = ofT L k ++ ofT M k := List.filter_append ..
theorem runs_app1 : ∀ (L : List En) (e : En) (a b : Int), runs L a = some b → e.f = b → runs (L ++ [e]) a = some e.t
  | [], e, a, b, h, h2 => by
    have : a = b := by simpa [runs] using h
    subst this
    simp [runs, h2]
  | x :: r, e, a, b, h, h2 => by
    simp only [runs] at h
    split at h
    · rename_i hx
      simp only [List.cons_append, runs]
      rw [if_pos hx]
      exact runs_app1 r e _ b h h2
    · cases h
theorem lift_lo (s : Sta) (k v j : Int) : (s.lift k v).lo j = s.lo j := by
  unfold Sta.lift; split
  · rfl
  · split <;> rfl
theorem lower_hi (s : Sta) (k v j : Int) : (s.lower k v).hi j = s.hi j := by
  unfold Sta.lower; split
  · rfl
  · split <;> rfl
theorem lift_hi (s : Sta) (k v j : Int) (hk : k = 0 ∨ k = 1 ∨ k = 2) (hj : j = 0 ∨ j = 1 ∨ j = 2) : (s.lift k v).hi j = if j = k then v else s.hi j := by
  rcases hk with rfl | rfl | rfl <;> rcases hj with rfl | rfl | rfl <;> rfl
theorem lower_lo (s : Sta) (k v j : Int) (hk : k = 0 ∨ k = 1 ∨ k = 2) (hj : j = 0 ∨ j = 1 ∨ j = 2) : (s.lower k v).lo j = if j = k then v else s.lo j := by
  rcases hk with rfl | rfl | rfl <;> rcases hj with rfl | rfl | rfl <;> rfl
theorem en_tier {e : En} (h : e.ok = true) : (e.tier = 0 ∨ e.tier = 1 ∨ e.tier = 2) ∧ 0 ≤ e.f ∧ e.f < e.t ∧ e.t ≤ 100000 ∧ kOk e.key = true := by
  unfold En.ok isRange at h
  simp only [Bool.and_eq_true, decide_eq_true_eq, within] at h
  have := kT_nat e.key
  refine ⟨by omega, by omega, by omega, by omega, h.1⟩
theorem kinds {k tok tier f t : Int} {key : List UInt8} (h : Rc.ok ⟨k, tok, tier, f, t, key⟩ = true) : (k = 1 ∧ tier = 0) ∨ k = 2 ∨ (k = 3 ∧ (tier = 1 ∨ tier = 2) ∧ (0 ≤ f ∧ f ≤ 1000000)) ∨ (k = 4 ∧ (tier = 0 ∨ tier = 1 ∨ tier = 2)) ∨ k = 5 := by
  unfold Rc.ok at h
  dsimp only at h
  by_cases h1 : k = 1
  · rw [if_pos h1] at h
    simp only [Bool.and_eq_true, decide_eq_true_eq] at h
    exact .inl ⟨h1, h.2.1⟩
  rw [if_neg h1] at h
  by_cases h2 : k = 2
  · exact .inr (.inl h2)
  rw [if_neg h2] at h
  by_cases h3 : k = 3
  · rw [if_pos h3] at h
    simp only [Bool.and_eq_true, decide_eq_true_eq] at h
    obtain ⟨ht, hb⟩ := en_tier h.2.2
    have ht : tier = 0 ∨ tier = 1 ∨ tier = 2 := ht
    have hb : 0 ≤ f ∧ f < t ∧ t ≤ 100000 ∧ _ := hb
    exact .inr (.inr (.inl ⟨h3, by have := h.2.1; omega, by omega, by omega⟩))
  rw [if_neg h3] at h
  by_cases h4 : k = 4
  · rw [if_pos h4] at h
    simp only [Bool.and_eq_true] at h
    exact .inr (.inr (.inr (.inl ⟨h4, (en_tier h.2).1⟩)))
  rw [if_neg h4] at h
  by_cases h5 : k = 5
  · exact .inr (.inr (.inr (.inr h5)))
  rw [if_neg h5] at h
  cases h
theorem takes_f {s : Sta} {r : Rc} (h : s.takes r = true) (hr : r.ok = true) (hk : r.k = 1 ∨ r.k = 3) : r.f = s.hi r.tier ∧ r.en.ok = true := by
  unfold Sta.takes at h
  unfold Rc.ok at hr
  rcases hk with hk | hk
  · rw [if_pos hk] at h hr
    simp only [Bool.and_eq_true, decide_eq_true_eq] at h hr
    refine ⟨?_, hr.2.2⟩
    rw [hr.2.1]; exact h.1
  · rw [if_neg (by omega), if_neg (by omega), if_pos hk] at h hr
    simp only [Bool.and_eq_true, decide_eq_true_eq] at h hr
    exact ⟨h.2.1, hr.2.2⟩
theorem ofT_noE_other {L : List En} {k : Int} {key : List UInt8} (h : ∀ e ∈ L, e.key = key → e.tier ≠ k) : ofT (noE key L) k = ofT L k := by
  unfold ofT noE
  rw [List.filter_filter]
  refine List.filter_congr fun e he => ?_
  by_cases hk : e.key = key
  · have := h e he hk
    simp [this]
  · simp [hk]
theorem ofT_noE_tail {L : List En} {k : Int} {e : En} {r : List En} (hl : ofT L k = e :: r) (nd : (L.map (·.key)).Nodup) : ofT (noE e.key L) k = r := by
  have h1 : ofT (noE e.key L) k = (ofT L k).filter fun x => !decide (x.key = e.key) := by
    unfold ofT noE
    rw [List.filter_filter, List.filter_filter]
    exact List.filter_congr fun x _ => Bool.and_comm ..
  have h2 : ((ofT L k).map (·.key)).Nodup := by
    unfold ofT
    exact (List.filter_sublist.map _).nodup nd
  rw [h1, hl]
  rw [hl, List.map_cons] at h2
  have h3 := List.nodup_cons.1 h2
  rw [List.filter_cons_of_neg (by simp)]
  exact List.filter_eq_self.2 fun x hx => by
    rw [decide_eq_false (fun hk : x.key = e.key => h3.1 (hk ▸ List.mem_map.2 ⟨x, hx, rfl⟩))]; rfl
theorem nodup_key : ∀ {L : List En}, (L.map (·.key)).Nodup → ∀ {a b : En}, a ∈ L → b ∈ L → a.key = b.key → a = b
  | [], _, a, b, ha, _, _ => by cases ha
  | x :: r, nd, a, b, ha, hb, h => by
    rw [List.map_cons] at nd
    have h' := List.nodup_cons.1 nd
    rcases List.mem_cons.1 ha with ha | ha <;> rcases List.mem_cons.1 hb with hb | hb
    · rw [ha, hb]
    · exact absurd (List.mem_map.2 ⟨b, hb, by rw [← h, ha]⟩) h'.1
    · exact absurd (List.mem_map.2 ⟨a, ha, by rw [h, hb]⟩) h'.1
    · exact nodup_key h'.2 ha hb h
theorem app_staOK {s : Sta} {r : Rc} (h : StaOK s) (hr : r.ok = true) (hq : s.seq < 999999) (hl : s.es.length + s.ts.length < 4096) : StaOK (s.app r) := by
  have hlog : LogS s := ⟨h.nd, fun k hk => by
    unfold Sta.keys at hk
    rcases List.mem_append.1 hk with hk | hk
    · obtain ⟨e, he, rfl⟩ := List.mem_map.1 hk; exact (en_tier (h.es e he)).2.2.2.2
    · obtain ⟨e, he, rfl⟩ := List.mem_map.1 hk; exact (h.ts e he).1⟩
  have hnd := (app_log hlog hr).nd
  have hlen := appL_len s r
  have hseq := app_seq s r
  have ts' : ∀ t ∈ s.ts, kOk t.key = true ∧ 1 ≤ t.seq ∧ t.seq ≤ s.seq + 1 := fun t ht => by have := h.ts t ht; exact ⟨this.1, this.2.1, by omega⟩
  obtain ⟨q, hqe⟩ : ∃ q, q = s.app r := ⟨_, rfl⟩
  rw [← hqe] at hnd hlen hseq ⊢
  have hq' : 0 ≤ q.seq ∧ q.seq ≤ 999999 := by rw [hseq]; have := h.q; omega
  have hlen' : q.es.length + q.ts.length ≤ 4096 := by omega
  unfold Sta.app at hqe
  by_cases ht : s.takes r = true
  · rw [if_pos ht] at hqe
    by_cases hk : r.k = 1 ∨ r.k = 3
    · rw [if_pos hk] at hqe
      obtain ⟨hf, hen⟩ := takes_f ht hr hk
      obtain ⟨hti, hb⟩ := en_tier hen
      subst hqe
      have e1 := lift_es ({ s.tick with es := s.es ++ [r.en] } : Sta) r.tier r.t
      refine ⟨hq', by rw [e1.2.2.2]; exact h.f, hlen', ?_, ?_, hnd, fun k hk => ?_, fun k hk => ?_⟩
      · rw [e1.1]
        intro e he
        rcases List.mem_append.1 he with he | he
        · exact h.es e he
        · have : e = r.en := by simpa using he
          rw [this]; exact hen
      · rw [e1.2.1, hseq]; exact ts'
      · rw [lift_lo]; exact h.lo k hk
      · rw [e1.1, lift_lo, lift_hi _ _ _ _ hti hk]
        show runs (ofT (s.es ++ [r.en]) k) (s.lo k) = _
        rw [ofT_app]
        by_cases hkk : k = r.tier
        · subst hkk
          rw [if_pos rfl]
          have : ofT [r.en] r.tier = [r.en] := by simp [ofT]
          rw [this]
          exact runs_app1 _ r.en _ _ (h.runs _ hk) hf
        · rw [if_neg hkk]
          have : ofT [r.en] k = [] := by
            have : ¬ r.tier = k := fun e => hkk e.symm
            simp [ofT, this]
          rw [this, List.append_nil]
          exact h.runs k hk
    · rw [if_neg hk] at hqe
      by_cases hk2 : r.k = 2
      · rw [if_pos hk2] at hqe
        subst hqe
        have htok : 1 ≤ r.tok ∧ r.tok ≤ 999999 := by
          unfold Rc.ok at hr
          rw [if_neg (by omega), if_pos hk2] at hr
          simp only [Bool.and_eq_true, within, decide_eq_true_eq] at hr
          exact hr.1
        exact ⟨hq', by show 0 ≤ r.tok ∧ r.tok ≤ 999999; omega, hlen', h.es, fun t ht => by rw [hseq]; exact ts' t ht, hnd, h.lo, h.runs⟩
      · rw [if_neg hk2] at hqe
        by_cases hk4 : r.k = 4
        · rw [if_pos hk4] at hqe
          have hen : r.en.ok = true := by
            unfold Rc.ok at hr
            rw [if_neg (by omega), if_neg (by omega), if_neg (by omega), if_pos hk4] at hr
            simp only [Bool.and_eq_true] at hr
            exact hr.2
          obtain ⟨hti, hb⟩ := en_tier hen
          have hb' : 0 ≤ r.f ∧ r.f < r.t ∧ r.t ≤ 100000 := ⟨hb.1, hb.2.1, hb.2.2.1⟩
          have hhd := takes_4 ht hk4
          have hm := headIs_mem hhd
          obtain ⟨rest, hrest⟩ : ∃ rest, ofT s.es r.tier = r.en :: rest := by
            unfold headIs at hhd
            cases hl : ofT s.es r.tier with
            | nil => rw [hl] at hhd; cases hhd
            | cons x y => rw [hl] at hhd; exact ⟨y, by rw [of_decide_eq_true hhd]⟩
          have nde : (s.es.map (·.key)).Nodup := (List.nodup_append.1 h.nd).1
          subst hqe
          have e1 := lower_es ({ s.tick with es := noE r.key s.es, ts := s.ts ++ [⟨s.seq + 1, r.key⟩] } : Sta) r.tier r.t
          refine ⟨hq', by rw [e1.2.2.2]; exact h.f, hlen', ?_, ?_, hnd, fun k hk => ?_, fun k hk => ?_⟩
          · rw [e1.1]
            exact fun e he => h.es e (List.mem_filter.1 he).1
          · rw [e1.2.1, hseq]
            intro t ht
            rcases List.mem_append.1 ht with ht | ht
            · exact ts' t ht
            · have : t = ⟨s.seq + 1, r.key⟩ := by simpa using ht
              rw [this]
              exact ⟨hb.2.2.2, by have := h.q; show 1 ≤ s.seq + 1; omega, by show s.seq + 1 ≤ s.seq + 1; omega⟩
          · rw [lower_lo _ _ _ _ hti hk]
            split
            · omega
            · exact h.lo k hk
          · rw [e1.1, lower_hi, lower_lo _ _ _ _ hti hk]
            show runs (ofT (noE r.key s.es) k) _ = some (s.hi k)
            have hru := h.runs k hk
            by_cases hkk : k = r.tier
            · subst hkk
              rw [if_pos rfl, ofT_noE_tail (e := r.en) hrest nde]
              rw [hrest] at hru
              simp only [runs] at hru
              split at hru
              · exact hru
              · cases hru
            · rw [if_neg hkk, ofT_noE_other]
              · exact hru
              · intro e he hke htk
                have : e = r.en := nodup_key nde he hm hke
                rw [this] at htk
                exact hkk htk.symm
        · rw [if_neg hk4] at hqe
          subst hqe
          exact ⟨hq', h.f, hlen', h.es, fun t ht => by rw [hseq]; exact ts' t (List.mem_filter.1 ht).1, hnd, h.lo, h.runs⟩
  · rw [if_neg ht] at hqe
    subst hqe
    exact ⟨hq', h.f, hlen', h.es, fun t ht => by rw [hseq]; exact ts' t ht, hnd, h.lo, h.runs⟩
theorem staOK0 : StaOK sta0 := ⟨by decide, by decide, by decide, by simp [sta0], by simp [sta0], by simp [sta0, Sta.keys], fun k hk => by rcases hk with rfl | rfl | rfl <;> decide, fun k hk => by rcases hk with rfl | rfl | rfl <;> rfl⟩
end Go.Proofs.YtopfpmcakoeloaaGreatDoor
set_option linter.unusedVariables false
set_option linter.constructorNameAsVariable false
set_option linter.unusedSimpArgs false
set_option maxRecDepth 20000
namespace Go.Proofs.YtopfpmcakoeloaaGreatDoor
open Go Go.Vw

def SSf (x : SS) (f : Int) (n : Nat) : Prop := (f ≤ x.2.1 ∧ x.2.1 ≤ f + 4 * n) ∧ (∀ e ∈ x.1, f ≤ e.t ∧ e.t < x.2.1) ∧ x.1.Pairwise (fun a b => a.t < b.t)
theorem stepf_t {x : SS} {f : Int} {n : Nat} {k : Int} (h : SSf x f n) (hs : x.2.2.ok k) (hk : 0 ≤ k) : SSf (smpStep x) f (n + 1) := by
  obtain ⟨⟨h1, h2⟩, h3, h4⟩ := h
  have n1 := next_b x.2.2 hs hk 4
  have a1 := n1.1.2 (by omega)
  have a0 := n1.1.1
  unfold smpStep
  refine ⟨⟨by simp only; omega, by simp only; omega⟩, fun e he => ?_, ?_⟩
  · simp only [List.mem_append, List.mem_cons, List.not_mem_nil, or_false] at he
    rcases he with he | he
    · have := h3 e he
      simp only; omega
    · subst he
      simp only; omega
  · refine List.pairwise_append.2 ⟨h4, List.pairwise_singleton _ _, fun a ha b hb => ?_⟩
    simp only [List.mem_cons, List.not_mem_nil, or_false] at hb
    subst hb
    have := h3 a ha
    simp only; omega
theorem itf_t {x : SS} {f : Int} {k : Int} (h : SSok x 0 k) (ht : SSf x f 0) (hk : 0 ≤ k) : ∀ n, SSf (smpIt n x) f n
  | 0 => by simpa [smpIt] using ht
  | n + 1 => stepf_t (itf_t h ht hk n) (it_ok h hk n).2.2.1 (by omega)
theorem pairf_smps {L : List Smp} (h : L.Pairwise (fun a b => a.t < b.t)) (ht : ∀ e ∈ L, 0 ≤ e.t ∧ e.t ≤ 99999) (hv : ∀ e ∈ L, -1000000 ≤ e.v ∧ e.v ≤ 1000000) (hl : L.length ≤ 4096) : smpsOK L = true := by
  unfold smpsOK
  rw [decide_eq_true hl, Bool.true_and, allN_iff]
  intro i hi
  have a := ht _ (getD_mem hi)
  have b := hv _ (getD_mem hi)
  unfold smpAt
  simp only [Bool.and_eq_true, Bool.or_eq_true, decide_eq_true_eq, within]
  refine ⟨⟨⟨a.1, a.2⟩, ⟨b.1, b.2⟩⟩, ?_⟩
  rcases Nat.eq_zero_or_pos i with h0 | h0
  · exact .inl h0
  · right
    have := (List.pairwise_iff_getElem.1 h) (i - 1) i (by omega) hi (by omega)
    rw [ix_lt hi, ix_lt (by omega : i - 1 < L.length)]
    exact this
structure SmpF (S : SS) (f : Int) (n : Nat) : Prop where
  ok : smpsOK S.1 = true
  len : S.1.length ≤ n
  tm : ∀ e ∈ S.1, f ≤ e.t ∧ e.t < f + 4 * n
theorem samples_b (s : Src) (f : Int) (n : Nat) {k : Int} (h : s.ok k) (hf : -10 ≤ f ∧ f ≤ 90000) (hk : 90000 ≤ k ∧ k ≤ 900000) (hn : n ≤ 10) (h0 : 0 ≤ f) : SmpF (s.samples f n) f n ∧ (s.samples f n).2.2.ok (k + 3 + 12 * n) := by
  have n0 := next_b s h (by omega) (n + 1)
  have hm := n0.1.2 (by omega)
  have hm0 := n0.1.1
  have s0 : SSok ([], f, (s.next (n + 1)).2) 0 (k + 3) := ⟨rfl, by simp, n0.2.1, by simp only; omega⟩
  have t0 : SSf ([], f, (s.next (n + 1)).2) f 0 := ⟨⟨Int.le_refl _, by simp⟩, by simp, List.Pairwise.nil⟩
  have a := it_ok s0 (by omega) (s.next (n + 1)).1.toNat
  have b := itf_t s0 t0 (by omega) (s.next (n + 1)).1.toNat
  unfold Src.samples
  obtain ⟨a1, a2, a3, _⟩ := a
  obtain ⟨⟨b1, b2⟩, b3, b4⟩ := b
  refine ⟨⟨pairf_smps b4 (fun e he => ?_) a2 (by omega), by omega, fun e he => ?_⟩, wk a3 (by omega)⟩
  · have := b3 e he
    omega
  · have := b3 e he
    omega
theorem keyF_ok {t n w : Nat} (ht : t ≤ 2) : keyOK (keyB t n w) = true := by
  have hs : (keyB t n w).length ≤ 17 ∧ 13 ≤ (keyB t n w).length := by
    unfold keyB pre
    split <;> simp [six6]
  unfold keyOK
  have e : (keyB t n w).all keyC = true := by
    have hd : ∀ m, (six6 m).all keyC = true := fun m => List.all_eq_true.2 fun x hx => by
      have := List.all_eq_true.1 (six6_dig m) x hx
      have := of_decide_eq_true this
      unfold keyC
      simp only [Bool.or_eq_true, Bool.and_eq_true, decide_eq_true_eq]
      left; left; right
      omega
    unfold keyB
    rw [List.all_append, List.all_append, List.all_cons, hd, hd]
    have h : t = 0 ∨ t = 1 ∨ t = 2 := by omega
    rcases h with rfl | rfl | rfl <;> decide
  rw [e]
  simp [within]; omega
structure FS where
  x : Sto
  at_ : Int
  s : Src
def FS.L (q : FS) : SS := q.s.samples q.at_ 6
def FS.D (q : FS) : Int × Src := q.L.2.2.next 6
def FS.to (q : FS) : Int := if q.L.1.length = 0 then q.at_ + 1 + q.D.1 else (ix q.L.1 (q.L.1.length - 1)).t + 1
def FS.W (q : FS) : Int × Src := q.D.2.next 2
def FS.key (q : FS) (i : Nat) : List UInt8 := keyB 0 i q.W.1.toNat
def FS.rc (q : FS) (i : Nat) : Rc := ⟨1, 0, 0, q.at_, q.to, q.key i⟩
def FS.x1 (q : FS) (i : Nat) : Sto := q.x.set (q.key i) (smpsText q.L.1)
def FS.step (q : FS) (i : Nat) : FS := ⟨(q.x1 i).set (manK i) (q.rc i).text, q.to, q.W.2⟩
def FS.draw (q : FS) : FS := ⟨q.x, q.at_, (q.s.next 5).2⟩
def fiIt : Nat → Nat → FS → FS
  | 0, _, q => q
  | f + 1, i, q => if (i : Int) ≤ 1 + (q.s.next 5).1 then fiIt f (i + 1) (q.draw.step i) else q.draw
def Src.filled (s : Src) : FS := fiIt 6 1 ⟨stoN0, 0, s⟩
structure FI (i : Nat) (q : FS) : Prop where
  ok : q.x.ok = true
  len : q.x.os.length ≤ 2 * (i - 1)
  nxt : q.x.next ≤ 1 + 2 * ((i : Int) - 1)
  at_ : 0 ≤ q.at_ ∧ q.at_ ≤ 100 * ((i : Int) - 1)
  s : q.s.ok (100000 + 200 * i)
theorem FI.zero {s : Src} (h : s.ok 100000) : FI 1 ⟨stoN0, 0, s⟩ := ⟨(by decide : stoN0.ok = true), (by decide : stoN0.os.length ≤ 0), (by decide : stoN0.next ≤ 1), by simp only; omega, wk h (by omega)⟩
structure FB (i : Nat) (q : FS) : Prop where
  m : SmpF q.L q.at_ 6
  s1 : q.L.2.2.ok (100075 + 200 * i + 10)
  s2 : q.D.2.ok (100078 + 200 * i + 10)
  s3 : q.W.2.ok (100081 + 200 * i + 10)
  d : 0 ≤ q.D.1 ∧ q.D.1 < 6
  w : 0 ≤ q.W.1 ∧ q.W.1 < 2
  tb : q.at_ < q.to ∧ q.to ≤ q.at_ + 60
  rc : (q.rc i).ok = true
  k1 : keyOK (q.key i) = true
  k2 : keyOK (manK i) = true
  ln : (smpsText q.L.1).length ≤ 300
  ok1 : (q.x1 i).ok = true
  len1 : (q.x1 i).os.length ≤ 2 * (i - 1) + 1
  nxt1 : (q.x1 i).next ≤ 2 + 2 * ((i : Int) - 1)
theorem FI.draw {i : Nat} {q : FS} (h : FI i q) (hi : 1 ≤ i ∧ i ≤ 6) : ((0 ≤ (q.s.next 5).1 ∧ (q.s.next 5).1 < 5) ∧ q.draw.s.ok (100003 + 200 * i)) := by
  have n1 := next_b q.s h.s (by omega) 5
  exact ⟨⟨n1.1.1, n1.1.2 (by omega)⟩, wk n1.2.1 (by omega)⟩
theorem manK_keyOK (n : Int) : keyOK (manK n) = true := by
  have hs : (manK n).length = 10 := by simp [manK, six6]
  have e : (manK n).all keyC = true := by
    unfold manK
    rw [List.all_append]
    have : (six6 n.toNat).all keyC = true := List.all_eq_true.2 fun x hx => by
      have := List.all_eq_true.1 (six6_dig n.toNat) x hx
      have := of_decide_eq_true this
      unfold keyC
      simp only [Bool.or_eq_true, Bool.and_eq_true, decide_eq_true_eq]
      left; left; right
      omega
    rw [this]
    decide
  unfold keyOK
  rw [e, hs]
  decide
theorem keyF_fields {t n w : Nat} (ht : t ≤ 2) (hn : n ≤ 999999) (hw : w ≤ 999999) : kOk (keyB t n w) = true ∧ kT (keyB t n w) = t ∧ kN (keyB t n w) = n ∧ kW (keyB t n w) = w := by
  have h := parse_key ht hn hw
  unfold kOk kT kN kW
  rw [h]
  exact ⟨rfl, rfl, rfl, rfl⟩
theorem rcF_ok {f t : Int} {n w : Nat} (hf : 0 ≤ f) (hft : f < t) (ht : t ≤ 100000) (hn : n ≤ 999999) (hn1 : 1 ≤ n) (hw : w ≤ 9) : Rc.ok ⟨1, 0, 0, f, t, keyB 0 n w⟩ = true := by
  obtain ⟨k1, k2, k3, k4⟩ := keyF_fields (t := 0) (n := n) (w := w) (by omega) (by omega) (by omega)
  unfold Rc.ok Rc.en En.ok
  simp only [if_true, k1, k2, isRange, within]
  simp
  omega
theorem Rc.txt_len {r : Rc} (h : r.ok = true) : r.text.length ≤ 130 := by
  have hk := (Rc.okN h).2
  have hh := Rc.head_len h
  unfold Rc.text; simp only [List.length_append, List.length_cons, List.length_nil]; omega
theorem FI.facts {i : Nat} {q : FS} (h : FI i q) (hs : q.draw.s.ok (100003 + 200 * i)) (hi : 1 ≤ i ∧ i ≤ 6) : FB i q.draw := by
  obtain ⟨h1, h2, h3, h4, h5⟩ := h
  have h1 : q.draw.x.ok = true := h1
  have h2 : q.draw.x.os.length ≤ 2 * (i - 1) := h2
  have h3 : q.draw.x.next ≤ 1 + 2 * ((i : Int) - 1) := h3
  have h4 : 0 ≤ q.draw.at_ ∧ q.draw.at_ ≤ 100 * ((i : Int) - 1) := h4
  generalize q.draw = q at *
  obtain ⟨m1, m2⟩ := samples_b q.s q.at_ 6 hs (by omega) (by omega) (by omega) h4.1
  have m1 : SmpF q.L q.at_ 6 := m1
  have m2 : q.L.2.2.ok (100003 + 200 * i + 3 + 12 * 6) := by have := m2; exact wk this (by omega)
  have n1 := next_b q.L.2.2 m2 (by omega) 6
  have d1 : 0 ≤ q.D.1 ∧ q.D.1 < 6 := ⟨n1.1.1, n1.1.2 (by omega)⟩
  have n1 : q.D.2.ok (100003 + 200 * i + 3 + 12 * 6 + 3) := n1.2.1
  have n2 := next_b q.D.2 n1 (by omega) 2
  have w1 : 0 ≤ q.W.1 ∧ q.W.1 < 2 := ⟨n2.1.1, n2.1.2 (by omega)⟩
  have n2 : q.W.2.ok (100003 + 200 * i + 3 + 12 * 6 + 3 + 3) := n2.2.1
  have hto : q.at_ < q.to ∧ q.to ≤ q.at_ + 60 := by
    unfold FS.to
    split
    · omega
    · have := m1.tm _ (getD_mem (show q.L.1.length - 1 < q.L.1.length by omega))
      exact ⟨by have := this.1; omega, by have := this.2; omega⟩
  have hrc : (q.rc i).ok = true := rcF_ok h4.1 hto.1 (by omega) (by omega) (by omega) (by omega)
  have hln := smpsText_len (smpsOK_num m1.ok)
  have hlen := m1.len
  have hl3 : (smpsText q.L.1).length ≤ 300 := by omega
  have hk : keyOK (q.key i) = true := keyF_ok (by omega)
  obtain ⟨p1, p2, p3, p4, p5⟩ := put_ok h1 hk (d := smpsText q.L.1) (by omega) (by omega) (by omega)
  rw [p2] at p3 p4 p5
  exact ⟨m1, wk m2 (by omega), wk n1 (by omega), wk n2 (by omega), d1, w1, hto, hrc, hk, manK_keyOK _, hl3, p3, by show (q.x.set _ _).os.length ≤ _; omega, by show (q.x.set _ _).next ≤ _; omega⟩
theorem FI.step {i : Nat} {q : FS} (h : FI i q) (hs : q.draw.s.ok (100003 + 200 * i)) (hi : 1 ≤ i ∧ i ≤ 6) : FI (i + 1) (q.draw.step i) := by
  have b := h.facts hs hi
  have hat := h.at_
  have hat : 0 ≤ q.draw.at_ ∧ q.draw.at_ ≤ 100 * ((i : Int) - 1) := hat
  obtain ⟨p1, p2, p3, p4, p5⟩ := put_ok b.ok1 b.k2 (d := (q.draw.rc i).text) (by have := Rc.txt_len b.rc; omega) (by have := b.len1; omega) (by have := b.nxt1; omega)
  rw [p2] at p3 p4 p5
  have l1 := b.len1
  have l2 := b.nxt1
  have l3 := b.tb
  exact ⟨p3, by show ((q.draw.x1 i).set _ _).os.length ≤ _; omega, by show ((q.draw.x1 i).set _ _).next ≤ _; omega, by show 0 ≤ q.draw.to ∧ q.draw.to ≤ _; omega, wk b.s3 (by omega)⟩
theorem fiIt_eq {i : Nat} (hi : i ≤ 6) (q : FS) : fiIt (7 - i) i q = if (i : Int) ≤ 1 + (q.s.next 5).1 then fiIt (7 - (i + 1)) (i + 1) (q.draw.step i) else q.draw := by
  rw [show 7 - i = (7 - (i + 1)) + 1 by omega]
  rfl
theorem NewStoreF_fn : VFn Tryz.prog 106 [] stoN0.av := by
  refine VFn.introC Tryz.call106 Tryz.func106 rfl rfl ?_
  conv => whnf
  refine And.intro trivial (AVle.agg (AVsle.cons (AVle.sl rfl fun i hi => absurd hi (Nat.not_lt_zero i)) (AVsle.cons (AVle.refl _) AVsle.nil)))
theorem filled_fn (s : Src) (h : s.ok 100000) : FnM Tryz.prog 76 1 [.bptr 0 0] [(0, .box s.row)] s.filled.x.av [(0, .box s.filled.s.row)] 1 := by
  obtain ⟨R, hR⟩ : ∃ R, R = s.filled := ⟨_, rfl⟩
  rw [← hR]
  refine FnM.introC Tryz.call76 Tryz.func76 rfl rfl ?_
  conv => whnf
  refine CallC.nl _ (NewStoreF_fn) ?_ ?_
  · exact rfl
  refine LoopC.mk (fun a : Nat × FS => (1 ≤ a.1 ∧ a.1 ≤ 6) ∧ FI a.1 a.2 ∧ fiIt (7 - a.1) a.1 a.2 = R) (fun a => [(0, .bptr 0 0), (2, .bptr 1 0), (3, .bptr 2 0), (4, .int .i64 a.2.at_), (5, .int .i64 a.1)])
    (fun a => [(0, .box a.2.s.row), (1, .box [.nilsl, .int .i64 0]), (2, .box a.2.x.row)]) 3 (fun a => 7 - a.1) (1, ⟨stoN0, 0, s⟩)
    ⟨⟨⟨Nat.le_refl _, (by decide : 1 ≤ 6)⟩, FI.zero h, hR.symm⟩, [(0, 0), (1, 1), (2, 2)], rfl, rfl, ⟨AVle.refl _, AVle.refl _, AVle.refl _, AVle.refl _, AVle.refl _, trivial⟩, ⟨MOle.refl _, MOle.refl _, MOle.refl _, trivial⟩⟩ ?_
  intro a ha
  obtain ⟨i, q⟩ := a
  obtain ⟨hi, hq, he⟩ := ha
  simp only at hi hq he
  have hd := hq.draw hi
  have hb := hq.facts hd.2 hi
  have hn := hq.step hd.2 hi
  rw [fiIt_eq hi.2] at he
  have hnx := hq.nxt
  have hln := hq.len
  conv => whnf
  refine CallC.k [(0, 0)] (next_fn q.s 5 (wk hq.s (by omega))) rfl rfl (AVsle.refl _) ⟨MOle.refl _, trivial⟩ rfl ?_
  refine And.intro (inI64 (by omega) (by omega)) ?_
  refine Grd.intro (fun g1 => ?_) (fun g1 => ?_)
  case _ =>
    have g1 : (i : Int) ≤ 1 + (q.s.next 5).1 := of_decide_eq_true g1
    rw [if_pos g1] at he
    have hi5 : i ≤ 5 := by have := hd.1.2; omega
    have hat : 0 ≤ q.draw.at_ ∧ q.draw.at_ ≤ 100 * ((i : Int) - 1) := hq.at_
    have hdl := hb.m.len
    have hd6 := hb.d
    have hw2 := hb.w
    have hto := hb.tb
    obtain ⟨w, hw⟩ : ∃ w : Nat, q.draw.W.1 = w := ⟨q.draw.W.1.toNat, by omega⟩
    have ck : VFn Tryz.prog 54 [.int .i64 0, .int .i64 i, .int .i64 q.draw.W.1] (.str (B (q.draw.key i))) := by
      have hk : q.draw.key i = keyB 0 i w := by unfold FS.key; rw [hw]; rfl
      rw [hk, hw]
      exact l03Key_at (t := 0) (n := i) (w := w) rfl rfl rfl (by omega) (by omega) (by omega)
    have ct := l03Samples_fn q.draw.L.1 (by omega) (smpsOK_num hb.m.ok)
    have cs1 := l01Set_fn q.draw.x (by show q.x.os.length ≤ _; omega) ⟨by show q.x.next ≤ _; omega, by have := ((stoOK_iff _).1 hq.ok).nx; show 0 ≤ q.x.next; omega⟩ (q.draw.key i) (smpsText q.draw.L.1)
    have ckm := l06Key_fn (i : Int) (by simp [within]; omega)
    have crt := l06Text_fn (q.draw.rc i) hb.rc
    have cs2 := l01Set_fn (q.draw.x1 i) (by have := hb.len1; omega) ⟨by have := hb.nxt1; omega, by have := ((stoOK_iff _).1 hb.ok1).nx; omega⟩ (manK i) (q.draw.rc i).text
    conv => whnf
    refine CallC.k [(0, 0)] (samples_fn q.draw.s q.draw.at_ 6 (wk hd.2 (by omega)) (by omega) (by omega)) rfl rfl (AVsle.refl _) ⟨MOle.refl _, trivial⟩ rfl ?_
    refine And.intro (show inI .i64 (q.draw.at_ + 1) from inI64 (by omega) (by omega)) ?_
    conv => whnf
    refine CallC.k [(0, 0)] (next_fn q.draw.L.2.2 6 (wk hb.s1 (by omega))) rfl rfl (AVsle.refl _) ⟨MOle.refl _, trivial⟩ rfl ?_
    refine And.intro (show inI .i64 (q.draw.at_ + 1 + q.draw.D.1) from inI64 (by omega) (by omega)) ?_
    refine Grd.intro (fun g2 => ?_) (fun g2 => ?_)
    case _ =>
      have g2 : 0 < q.draw.L.1.length := by have : (0 : Int) < (q.draw.L.1.length : Int) := of_decide_eq_true g2; omega
      have hb9 := hb.m.tm _ (getD_mem (show ((q.draw.L.1.length : Int) - 1).toNat < q.draw.L.1.length by omega))
      have e9 : ((q.draw.L.1.length : Int) - 1).toNat = q.draw.L.1.length - 1 := by omega
      have eto : q.draw.to = (ix q.draw.L.1 ((q.draw.L.1.length : Int) - 1).toNat).t + 1 := by unfold FS.to; rw [if_neg (by omega), e9]
      refine And.intro (show inI .i64 ((q.draw.L.1.length : Int) - 1) from inI64 (by omega) (by omega)) ?_
      refine And.intro (show (0 : Int) ≤ (q.draw.L.1.length : Int) - 1 ∧ (q.draw.L.1.length : Int) - 1 < (q.draw.L.1.length : Int) by omega) ?_
      refine And.intro (show inI .i64 ((ix q.draw.L.1 ((q.draw.L.1.length : Int) - 1).toNat).t + 1) from inI64 (by have := hb9.1; omega) (by have := hb9.2; omega)) ?_
      conv => whnf
      refine CallC.k [(0, 0)] (next_fn q.draw.D.2 2 (wk hb.s2 (by omega))) rfl rfl (AVsle.refl _) ⟨MOle.refl _, trivial⟩ rfl ?_
      have crt' : VFn Tryz.prog 88 [.agg [.int .i64 1, .int .i64 0, .int .i64 0, .int .i64 q.draw.at_, .int .i64 ((ix q.draw.L.1 ((q.draw.L.1.length : Int) - 1).toNat).t + 1), .str (B (q.draw.key i))]] (.str (B (q.draw.rc i).text)) := by rw [← eto]; exact crt
      conv => whnf
      refine CallC.sca _ (ck) ?_ ?_
      · exact rfl
      conv => whnf
      refine DrawC.mk 5 rfl (by kernel_rfl) ?_
      refine PCallC.sca _ (ct) rfl ?_
      refine PCallC.nl _ (cs1) rfl ?_
      conv => whnf
      refine DrawC.mk 9 rfl (by kernel_rfl) ?_
      refine PCallC.sca _ (ckm) rfl ?_
      refine PCallC.sca _ (crt') rfl ?_
      refine PCallC.nl _ (cs2) rfl ?_
      refine And.intro (inI64 (by omega) (by omega)) ?_
      exact ⟨(i + 1, q.draw.step i), ⟨⟨by omega, by omega⟩, hn, he⟩, (by show 7 - (i + 1) < 7 - i; omega), [(0, 0), (1, 1), (2, 2)], rfl, rfl, ⟨AVle.refl _, AVle.refl _, AVle.refl _, AVle.of_eq (congrArg (AV.int .i64) eto.symm), AVle.of_eq (congrArg (AV.int .i64) (by simp)), trivial⟩, ⟨MOle.refl _, MOle.refl _, MOle.refl _, trivial⟩⟩
    case _ =>
      have g2 : q.draw.L.1.length = 0 := by have : ¬ (0 : Int) < (q.draw.L.1.length : Int) := of_decide_eq_false g2; omega
      have eto : q.draw.to = q.draw.at_ + 1 + q.draw.D.1 := by unfold FS.to; rw [if_pos g2]
      conv => whnf
      refine CallC.k [(0, 0)] (next_fn q.draw.D.2 2 (wk hb.s2 (by omega))) rfl rfl (AVsle.refl _) ⟨MOle.refl _, trivial⟩ rfl ?_
      have crt' : VFn Tryz.prog 88 [.agg [.int .i64 1, .int .i64 0, .int .i64 0, .int .i64 q.draw.at_, .int .i64 (q.draw.at_ + 1 + q.draw.D.1), .str (B (q.draw.key i))]] (.str (B (q.draw.rc i).text)) := by rw [← eto]; exact crt
      conv => whnf
      refine CallC.sca _ (ck) ?_ ?_
      · exact rfl
      conv => whnf
      refine DrawC.mk 5 rfl (by kernel_rfl) ?_
      refine PCallC.sca _ (ct) rfl ?_
      refine PCallC.nl _ (cs1) rfl ?_
      conv => whnf
      refine DrawC.mk 9 rfl (by kernel_rfl) ?_
      refine PCallC.sca _ (ckm) rfl ?_
      refine PCallC.sca _ (crt') rfl ?_
      refine PCallC.nl _ (cs2) rfl ?_
      refine And.intro (inI64 (by omega) (by omega)) ?_
      exact ⟨(i + 1, q.draw.step i), ⟨⟨by omega, by omega⟩, hn, he⟩, (by show 7 - (i + 1) < 7 - i; omega), [(0, 0), (1, 1), (2, 2)], rfl, rfl, ⟨AVle.refl _, AVle.refl _, AVle.refl _, AVle.of_eq (congrArg (AV.int .i64) eto.symm), AVle.of_eq (congrArg (AV.int .i64) (by simp)), trivial⟩, ⟨MOle.refl _, MOle.refl _, MOle.refl _, trivial⟩⟩
  case _ =>
    have g1 : ¬ (i : Int) ≤ 1 + (q.s.next 5).1 := of_decide_eq_false g1
    rw [if_neg g1] at he
    subst he
    exact And.intro trivial ⟨[(0, 0)], rfl, AVle.refl _, ⟨MOle.refl _, trivial⟩⟩
end Go.Proofs.YtopfpmcakoeloaaGreatDoor
set_option linter.unusedVariables false
set_option linter.constructorNameAsVariable false
set_option linter.unusedSimpArgs false
set_option maxRecDepth 20000
namespace Go.Proofs.YtopfpmcakoeloaaGreatDoor
open Go Go.Vw

end Go.Proofs.YtopfpmcakoeloaaGreatDoor
set_option linter.unusedVariables false
set_option linter.constructorNameAsVariable false
set_option linter.unusedSimpArgs false
set_option maxRecDepth 20000
namespace Go.Proofs.YtopfpmcakoeloaaGreatDoor
open Go Go.Vw

end Go.Proofs.YtopfpmcakoeloaaGreatDoor
set_option linter.unusedVariables false
set_option linter.constructorNameAsVariable false
set_option linter.unusedSimpArgs false
set_option maxRecDepth 20000
namespace Go.Proofs.YtopfpmcakoeloaaGreatDoor
open Go Go.Vw

def Ag.cl (a : Ag) : List AV := [.int .i64 a.c, .int .i64 a.s, .int .i64 a.mn, .int .i64 a.mx, .int .i64 a.f, .int .i64 a.l]
instance : Inhabited Ag := ⟨⟨0, 0, 0, 0, 0, 0⟩⟩
structure Wk where
  id : Int
  ph : Int
  tok : Int
  job : Rc
  ins : List En
  got : Ag
instance : Inhabited Wk := ⟨⟨0, 0, 0, default, [], default⟩⟩
def Wk.row (e : Wk) : List AV := [.int .i64 e.id, .int .i64 e.ph, .int .i64 e.tok, .int .i64 e.job.k, .int .i64 e.job.tok, .int .i64 e.job.tier, .int .i64 e.job.f, .int .i64 e.job.t, .str (B e.job.key), ents e.ins, .int .i64 e.got.c, .int .i64 e.got.s, .int .i64 e.got.mn, .int .i64 e.got.mx, .int .i64 e.got.f, .int .i64 e.got.l]
def Wk.av (e : Wk) : AV := .agg e.row
abbrev wks (L : List Wk) : AV := .sl 16 L.length fun i => (ix L i).row
def Wk.size (e : Wk) : Nat := e.job.key.length + (e.ins.length + sumL En.size e.ins)
structure Wk.rd (e : Wk) : Prop where
  key : e.job.key.length ≤ 9223372036854775807
  ins : e.ins.length ≤ 9223372036854775807
  es : ∀ x ∈ e.ins, En.size x ≤ 9223372036854775807
def Wk.small (e : Wk) : Prop := e.ins.length ≤ 1048576
structure Ig where
  id : Int
  seq : Int
  f : Int
  t : Int
  b : List Smp
  put : Bool
instance : Inhabited Ig := ⟨⟨0, 0, 0, 0, [], false⟩⟩
def Ig.row (e : Ig) : List AV := [.int .i64 e.id, .int .i64 e.seq, .int .i64 e.f, .int .i64 e.t, smps e.b, .bool e.put]
def Ig.av (e : Ig) : AV := .agg e.row
abbrev igs (L : List Ig) : AV := .sl 6 L.length fun i => (ix L i).row
def Ig.size (e : Ig) : Nat := e.b.length
def Ig.rd (e : Ig) : Prop := e.b.length ≤ 9223372036854775807
def Ig.small (e : Ig) : Prop := e.b.length ≤ 1048576
structure Rr where
  id : Int
  ph : Int
  tier : Int
  f : Int
  t : Int
  til : Int
  code : Int
  left : List En
  got : Ag
instance : Inhabited Rr := ⟨⟨0, 0, 0, 0, 0, 0, 0, [], default⟩⟩
def Rr.row (e : Rr) : List AV := [.int .i64 e.id, .int .i64 e.ph, .int .i64 e.tier, .int .i64 e.f, .int .i64 e.t, .int .i64 e.til, .int .i64 e.code, ents e.left, .int .i64 e.got.c, .int .i64 e.got.s, .int .i64 e.got.mn, .int .i64 e.got.mx, .int .i64 e.got.f, .int .i64 e.got.l]
def Rr.av (e : Rr) : AV := .agg e.row
abbrev rrs (L : List Rr) : AV := .sl 14 L.length fun i => (ix L i).row
def Rr.size (e : Rr) : Nat := e.left.length + sumL En.size e.left
structure Rr.rd (e : Rr) : Prop where
  left : e.left.length ≤ 9223372036854775807
  es : ∀ x ∈ e.left, En.size x ≤ 9223372036854775807
def Rr.small (e : Rr) : Prop := e.left.length ≤ 1048576
structure An where
  tier : Int
  f : Int
  t : Int
  code : Int
  a : Ag
instance : Inhabited An := ⟨⟨0, 0, 0, 0, default⟩⟩
def An.row (e : An) : List AV := [.int .i64 e.tier, .int .i64 e.f, .int .i64 e.t, .int .i64 e.code, .int .i64 e.a.c, .int .i64 e.a.s, .int .i64 e.a.mn, .int .i64 e.a.mx, .int .i64 e.a.f, .int .i64 e.a.l]
def An.av (e : An) : AV := .agg e.row
abbrev ans (L : List An) : AV := .sl 10 L.length fun i => (ix L i).row
def An.small (e : An) : Prop := True
end Go.Proofs.YtopfpmcakoeloaaGreatDoor
set_option linter.unusedVariables false
set_option linter.constructorNameAsVariable false
set_option linter.unusedSimpArgs false
set_option maxRecDepth 20000
namespace Go.Proofs.YtopfpmcakoeloaaGreatDoor
open Go Go.Vw

structure Fl where
  st : Sto
  clk : Int
  k0 : Int
  k1 : Int
  k2 : Int
  k3 : Int
  k4 : Int
  k5 : Int
  k6 : Int
  ws : List Wk
  gs : List Ig
  rs : List Rr
  ac : List Smp
  an : List An
def Fl.row (s : Fl) : List AV := [obs s.st.os, .int .i64 s.st.next, .int .i64 s.clk, .int .i64 s.k0, .int .i64 s.k1, .int .i64 s.k2, .int .i64 s.k3, .int .i64 s.k4, .int .i64 s.k5, .int .i64 s.k6, wks s.ws, igs s.gs, rrs s.rs, smps s.ac, ans s.an]
def Fl.av (s : Fl) : AV := .agg s.row
def Fl.sk (s : Fl) : List AV := [.int .i64 s.k0, .int .i64 s.k1, .int .i64 s.k2, .int .i64 s.k3, .int .i64 s.k4, .int .i64 s.k5, .int .i64 s.k6]
structure FlIn (s : Fl) : Prop where
  st : StoIn s.st
  ws : s.ws.length ≤ 9223372036854775807
  wr : ∀ e ∈ s.ws, Wk.rd e
  gs : s.gs.length ≤ 9223372036854775807
  gr : ∀ e ∈ s.gs, Ig.rd e
  rs : s.rs.length ≤ 9223372036854775807
  rr : ∀ e ∈ s.rs, Rr.rd e
  ac : s.ac.length ≤ 9223372036854775807
  an : s.an.length ≤ 9223372036854775807
  ck : IntKind.i64.min ≤ s.clk ∧ s.clk ≤ IntKind.i64.max
  k0 : IntKind.i64.min ≤ s.k0 ∧ s.k0 ≤ IntKind.i64.max
  k1 : IntKind.i64.min ≤ s.k1 ∧ s.k1 ≤ IntKind.i64.max
  k2 : IntKind.i64.min ≤ s.k2 ∧ s.k2 ≤ IntKind.i64.max
  k3 : IntKind.i64.min ≤ s.k3 ∧ s.k3 ≤ IntKind.i64.max
  k4 : IntKind.i64.min ≤ s.k4 ∧ s.k4 ≤ IntKind.i64.max
  k5 : IntKind.i64.min ≤ s.k5 ∧ s.k5 ≤ IntKind.i64.max
  k6 : IntKind.i64.min ≤ s.k6 ∧ s.k6 ≤ IntKind.i64.max
def flN (s : Fl) : Nat := stoN s.st + ((s.ws.length + sumL Wk.size s.ws) + ((s.gs.length + sumL Ig.size s.gs) + ((s.rs.length + sumL Rr.size s.rs) + (s.ac.length + s.an.length))))
structure Fl.small (s : Fl) : Prop where
  st : s.st.os.length ≤ 1048576
  sk : ∀ e ∈ s.st.os, e.key.length ≤ 1048576
  ws : s.ws.length ≤ 1048576
  wr : ∀ e ∈ s.ws, Wk.small e
  wk : ∀ e ∈ s.ws, e.job.key.length ≤ 1048576 ∧ ∀ x ∈ e.ins, x.key.length ≤ 1048576
  gs : s.gs.length ≤ 1048576
  gr : ∀ e ∈ s.gs, Ig.small e
  rs : s.rs.length ≤ 1048576
  rr : ∀ e ∈ s.rs, Rr.small e
  rk : ∀ e ∈ s.rs, ∀ x ∈ e.left, x.key.length ≤ 1048576
  ac : s.ac.length ≤ 1048576
  an : s.an.length ≤ 1048576
end Go.Proofs.YtopfpmcakoeloaaGreatDoor
set_option linter.unusedVariables false
set_option linter.constructorNameAsVariable false
set_option linter.unusedSimpArgs false
set_option maxRecDepth 20000
namespace Go.Proofs.YtopfpmcakoeloaaGreatDoor
open Go Go.Vw

abbrev nums (L : List Int) : AV := .sl 1 L.length fun i => [.int .i64 (ix L i)]
theorem isId0 (n : Int) : VFn Tryz.prog 47 [.int .i64 n] (.bool (within n 0 9)) := by
  refine VFn.introC Tryz.call47 Tryz.func47 rfl rfl ?_
  conv => whnf
  refine CallC.sca _ (within_fn _ _ _) ?_ ?_
  · exact rfl
  exact And.intro trivial (AVle.refl _)
def gotOK (a : Ag) : Bool := a.ok && decide (a.c ≤ 1000)
def An.ok (a : An) : Bool := within a.tier 0 2 && (isRange a.f a.t && (within a.code 0 19 && a.a.ok))
def Wk.ok (w : Wk) : Bool := within w.id 0 9 && (within w.ph 0 7 && (within w.tok 0 999999 && (!(decide (2 ≤ w.ph) && decide (w.tok = 0)) && ((!within w.ph 4 6 || (w.job.ok && (decide (w.job.tok = w.tok) && (decide (w.job.k = 3) || (decide (w.ph = 6) && decide (w.job.k = 4)))))) && (decide ((w.ins.length : Int) ≤ 300) && (w.ins.all En.ok && gotOK w.got))))))
end Go.Proofs.YtopfpmcakoeloaaGreatDoor
set_option linter.unusedVariables false
set_option linter.constructorNameAsVariable false
set_option linter.unusedSimpArgs false
set_option maxRecDepth 20000
namespace Go.Proofs.YtopfpmcakoeloaaGreatDoor
open Go Go.Vw

def Wk.ok2 (w : Wk) : Bool := w.ins.all En.ok && (within w.id 0 9 && (within w.ph 0 7 && (within w.tok (if decide (1 < w.ph) = true then 1 else 0) 999999 && ((!within w.ph 4 6 || (w.job.ok && (decide (w.job.tok = w.tok) && (decide (w.job.k = 3) || (decide (w.ph = 6) && decide (w.job.k = 4)))))) && (w.got.ok && (decide (w.got.c ≤ 1000) && decide ((w.ins.length : Int) ≤ 300)))))))
def igOK (id seq f t : Int) (b : List Smp) (put : Bool) : Bool := within id 0 9 && (smpsOK b && (!decide (8 < (b.length : Int)) && (if put = true then decide (0 < (b.length : Int)) && (within seq 1 999999 && (within f 0 (ix b (Int.toNat 0)).t && decide (t = (ix b ((b.length : Int) - 1).toNat).t + 1))) else decide (seq = 0) && (decide (f = 0) && decide (t = 0)))))
def Ig.ok (e : Ig) : Bool := igOK e.id e.seq e.f e.t e.b e.put
theorem smps_b {L : List Smp} (h : smpsOK L = true) {i : Nat} (hi : i < L.length) : 0 ≤ (ix L i).t ∧ (ix L i).t ≤ 99999 := by
  unfold smpsOK at h
  simp only [Bool.and_eq_true] at h
  have := Go.Vw.allN_iff.1 h.2 i hi
  simp [smpAt, within] at this
  omega
theorem IngesterOK_fn0 (id seq f t : Int) (b : List Smp) (put : Bool) (h : b.length ≤ 1048576) : VFn Tryz.prog 22 [.agg [.int .i64 id, .int .i64 seq, .int .i64 f, .int .i64 t, smps b, .bool put]] (.bool (igOK id seq f t b put)) := by
  cases hs : smpsOK b
  · have cs := SamplesOK_fn b
    rw [hs] at cs
    have ho : igOK id seq f t b put = false := by unfold igOK; rw [hs]; simp
    rw [ho]
    refine VFn.introC Tryz.call22 Tryz.func22 rfl rfl ?_
    conv => whnf
    refine CallC.sca _ (isId0 id) ?_ ?_
    · exact rfl
    refine Grd.intro (fun h => ?_) (fun h => ?_)
    · exact And.intro trivial (AVle.refl _)
    · conv => whnf
      refine CallC.sca _ (cs) ?_ ?_
      · exact rfl
      exact And.intro trivial (AVle.refl _)
  · have cs := SamplesOK_fn b
    rw [hs] at cs
    cases put
    · refine VFn.introC Tryz.call22 Tryz.func22 rfl rfl ?_
      repeat' (conv => whnf
               first
                 | (refine Grd.intro (fun h => ?_) (fun h => ?_); rotate_left; focus (exfalso; simp_all; done))
                 | (refine Grd.intro (fun h => ?_) (fun h => ?_); focus (exfalso; simp_all; done))
                 | refine Grd.intro (fun h => ?_) (fun h => ?_)
                 | (refine CallC.sca _ (isId0 id) ?_ ?_; focus (exact rfl))
                 | (refine CallC.sca _ (cs) ?_ ?_; focus (exact rfl))
                 | (refine And.intro trivial (AVle.of_eq (congrArg AV.bool ?_)); focus (simp_all [igOK]; done))
                 | (refine And.intro trivial (AVle.of_eq (congrArg AV.bool ?_)); focus (simp only [igOK, *, cond_true, cond_false, Bool.true_and, Bool.and_true, Bool.false_and, Bool.and_false, Bool.not_true, Bool.not_false, Bool.true_or, Bool.or_true, Bool.false_or, Bool.or_false, if_true, ite_true, reduceIte]; done))
                 | (refine And.intro trivial (AVle.of_eq (congrArg AV.bool ?_)); focus (simp_all [igOK]; intros; omega))
                 | fail)
    by_cases hl : b.length = 0
    · refine VFn.introC Tryz.call22 Tryz.func22 rfl rfl ?_
      conv => whnf
      refine CallC.sca _ (isId0 id) ?_ ?_
      · exact rfl
      refine Grd.intro (fun h1 => ?_) (fun h1 => ?_)
      · rw [show igOK id seq f t b true = false by unfold igOK; simp_all]
        exact And.intro trivial (AVle.refl _)
      conv => whnf
      refine CallC.sca _ (cs) ?_ ?_
      · exact rfl
      refine Grd.intro (fun h2 => ?_) (fun h2 => ?_)
      · rw [show igOK id seq f t b true = false by unfold igOK; simp_all]
        exact And.intro trivial (AVle.refl _)
      refine DrawC.mkQ 32 [] rfl (by kernel_rfl) ?_; refine And.intro (by kernel_rfl) ?_
      repeat' (conv => whnf
               first
                 | (refine Grd.intro (fun h => ?_) (fun h => ?_); rotate_left; focus (exfalso; simp_all; done))
                 | (refine Grd.intro (fun h => ?_) (fun h => ?_); focus (exfalso; simp_all; done))
                 | refine Grd.intro (fun h => ?_) (fun h => ?_)
                 | (refine And.intro trivial (AVle.of_eq (congrArg AV.bool ?_)); focus (simp_all [igOK]; done))
                 | (refine And.intro trivial (AVle.of_eq (congrArg AV.bool ?_)); focus (simp only [igOK, *, cond_true, cond_false, Bool.true_and, Bool.and_true, Bool.false_and, Bool.and_false, Bool.not_true, Bool.not_false, Bool.true_or, Bool.or_true, Bool.false_or, Bool.or_false, if_true, ite_true, reduceIte]; done))
                 | (refine And.intro trivial (AVle.of_eq (congrArg AV.bool ?_)); focus (simp_all [igOK]; intros; omega))
                 | fail)
    · have b0 := smps_b hs (i := 0) (by omega)
      have bl := smps_b hs (i := ((b.length : Int) - 1).toNat) (by omega)
      refine VFn.introC Tryz.call22 Tryz.func22 rfl rfl ?_
      conv => whnf
      refine CallC.sca _ (isId0 id) ?_ ?_
      · exact rfl
      refine Grd.intro (fun h1 => ?_) (fun h1 => ?_)
      · rw [show igOK id seq f t b true = false by unfold igOK; simp_all]
        exact And.intro trivial (AVle.refl _)
      conv => whnf
      refine CallC.sca _ (cs) ?_ ?_
      · exact rfl
      clear cs
      refine Grd.intro (fun h2 => ?_) (fun h2 => ?_)
      · rw [show igOK id seq f t b true = false by unfold igOK; simp_all]
        exact And.intro trivial (AVle.refl _)
      refine DrawC.mkQ 32 [] rfl (by kernel_rfl) ?_; refine And.intro (by kernel_rfl) ?_
      repeat' (conv => whnf
               first
                 | (refine Grd.intro (fun h => ?_) (fun h => ?_); rotate_left; focus (exfalso; simp_all; done))
                 | (refine Grd.intro (fun h => ?_) (fun h => ?_); focus (exfalso; simp_all; done))
                 | refine Grd.intro (fun h => ?_) (fun h => ?_)
                 | (refine CallC.sca _ (within_fn seq 1 999999) ?_ ?_; focus (exact rfl))
                 | (refine CallC.sca _ (within_fn f 0 _) ?_ ?_; focus (exact rfl))
                 | refine PCallQ.sca _ (within_fn seq 1 999999) rfl ?_
                 | refine PCallQ.sca _ (within_fn f 0 _) rfl ?_
                 | (refine And.intro trivial (AVle.of_eq (congrArg AV.bool ?_)); focus (simp_all [igOK]; done))
                 | (refine And.intro trivial (AVle.of_eq (congrArg AV.bool ?_)); focus (simp only [igOK, *, cond_true, cond_false, Bool.true_and, Bool.and_true, Bool.false_and, Bool.and_false, Bool.not_true, Bool.not_false, Bool.true_or, Bool.or_true, Bool.false_or, Bool.or_false, if_true, ite_true, reduceIte]; done))
                 | (refine And.intro trivial (AVle.of_eq (congrArg AV.bool ?_)); focus (simp_all [igOK]; intros; omega))
                 | (refine And.intro ?_ ?_; focus (apply inI64 <;> omega))
                 | (refine And.intro ?_ ?_; focus (constructor <;> omega))
                 | fail)
theorem IngesterOK_fn (e : Ig) (h : e.b.length ≤ 1048576) : VFn Tryz.prog 22 [e.av] (.bool e.ok) := IngesterOK_fn0 e.id e.seq e.f e.t e.b e.put h
theorem specIngesterOK_fn0 (id seq f t : Int) (b : List Smp) (put : Bool) (h : b.length ≤ 1048576) : VFn Tryz.prog 28 [.agg [.int .i64 id, .int .i64 seq, .int .i64 f, .int .i64 t, smps b, .bool put]] (.bool (igOK id seq f t b put)) := by
  cases hs : smpsOK b
  · have cs := specSamplesOK_fn b
    rw [hs] at cs
    have ho : igOK id seq f t b put = false := by unfold igOK; rw [hs]; simp
    rw [ho]
    refine VFn.introC Tryz.call28 Tryz.func28 rfl rfl ?_
    conv => whnf
    refine CallC.sca _ (l01In_fn id 0 9) ?_ ?_
    · exact rfl
    refine Grd.intro (fun h => ?_) (fun h => ?_)
    · exact And.intro trivial (AVle.refl _)
    · conv => whnf
      refine CallC.sca _ (cs) ?_ ?_
      · exact rfl
      exact And.intro trivial (AVle.refl _)
  · have cs := specSamplesOK_fn b
    rw [hs] at cs
    cases put
    · refine VFn.introC Tryz.call28 Tryz.func28 rfl rfl ?_
      repeat' (conv => whnf
               first
                 | (refine Grd.intro (fun h => ?_) (fun h => ?_); rotate_left; focus (exfalso; simp_all; done))
                 | (refine Grd.intro (fun h => ?_) (fun h => ?_); focus (exfalso; simp_all; done))
                 | refine Grd.intro (fun h => ?_) (fun h => ?_)
                 | (refine CallC.sca _ (l01In_fn id 0 9) ?_ ?_; focus (exact rfl))
                 | (refine CallC.sca _ (cs) ?_ ?_; focus (exact rfl))
                 | (refine And.intro trivial (AVle.of_eq (congrArg AV.bool ?_)); focus (simp_all [igOK]; done))
                 | (refine And.intro trivial (AVle.of_eq (congrArg AV.bool ?_)); focus (simp only [igOK, *, cond_true, cond_false, Bool.true_and, Bool.and_true, Bool.false_and, Bool.and_false, Bool.not_true, Bool.not_false, Bool.true_or, Bool.or_true, Bool.false_or, Bool.or_false, if_true, ite_true, reduceIte]; done))
                 | (refine And.intro trivial (AVle.of_eq (congrArg AV.bool ?_)); focus (simp_all [igOK]; intros; omega))
                 | fail)
    by_cases hl : b.length = 0
    · refine VFn.introC Tryz.call28 Tryz.func28 rfl rfl ?_
      conv => whnf
      refine CallC.sca _ (l01In_fn id 0 9) ?_ ?_
      · exact rfl
      refine Grd.intro (fun h1 => ?_) (fun h1 => ?_)
      · rw [show igOK id seq f t b true = false by unfold igOK; simp_all]
        exact And.intro trivial (AVle.refl _)
      conv => whnf
      refine CallC.sca _ (cs) ?_ ?_
      · exact rfl
      refine Grd.intro (fun h2 => ?_) (fun h2 => ?_)
      · rw [show igOK id seq f t b true = false by unfold igOK; simp_all]
        exact And.intro trivial (AVle.refl _)
      refine DrawC.mkQ 32 [] rfl (by kernel_rfl) ?_; refine And.intro (by kernel_rfl) ?_
      repeat' (conv => whnf
               first
                 | (refine Grd.intro (fun h => ?_) (fun h => ?_); rotate_left; focus (exfalso; simp_all; done))
                 | (refine Grd.intro (fun h => ?_) (fun h => ?_); focus (exfalso; simp_all; done))
                 | refine Grd.intro (fun h => ?_) (fun h => ?_)
                 | (refine And.intro trivial (AVle.of_eq (congrArg AV.bool ?_)); focus (simp_all [igOK]; done))
                 | (refine And.intro trivial (AVle.of_eq (congrArg AV.bool ?_)); focus (simp only [igOK, *, cond_true, cond_false, Bool.true_and, Bool.and_true, Bool.false_and, Bool.and_false, Bool.not_true, Bool.not_false, Bool.true_or, Bool.or_true, Bool.false_or, Bool.or_false, if_true, ite_true, reduceIte]; done))
                 | (refine And.intro trivial (AVle.of_eq (congrArg AV.bool ?_)); focus (simp_all [igOK]; intros; omega))
                 | fail)
    · have b0 := smps_b hs (i := 0) (by omega)
      have bl := smps_b hs (i := ((b.length : Int) - 1).toNat) (by omega)
      refine VFn.introC Tryz.call28 Tryz.func28 rfl rfl ?_
      conv => whnf
      refine CallC.sca _ (l01In_fn id 0 9) ?_ ?_
      · exact rfl
      refine Grd.intro (fun h1 => ?_) (fun h1 => ?_)
      · rw [show igOK id seq f t b true = false by unfold igOK; simp_all]
        exact And.intro trivial (AVle.refl _)
      conv => whnf
      refine CallC.sca _ (cs) ?_ ?_
      · exact rfl
      clear cs
      refine Grd.intro (fun h2 => ?_) (fun h2 => ?_)
      · rw [show igOK id seq f t b true = false by unfold igOK; simp_all]
        exact And.intro trivial (AVle.refl _)
      refine DrawC.mkQ 32 [] rfl (by kernel_rfl) ?_; refine And.intro (by kernel_rfl) ?_
      repeat' (conv => whnf
               first
                 | (refine Grd.intro (fun h => ?_) (fun h => ?_); rotate_left; focus (exfalso; simp_all; done))
                 | (refine Grd.intro (fun h => ?_) (fun h => ?_); focus (exfalso; simp_all; done))
                 | refine Grd.intro (fun h => ?_) (fun h => ?_)
                 | (refine CallC.sca _ (l01In_fn seq 1 999999) ?_ ?_; focus (exact rfl))
                 | (refine CallC.sca _ (l01In_fn f 0 _) ?_ ?_; focus (exact rfl))
                 | refine PCallQ.sca _ (l01In_fn seq 1 999999) rfl ?_
                 | refine PCallQ.sca _ (l01In_fn f 0 _) rfl ?_
                 | (refine And.intro trivial (AVle.of_eq (congrArg AV.bool ?_)); focus (simp_all [igOK]; done))
                 | (refine And.intro trivial (AVle.of_eq (congrArg AV.bool ?_)); focus (simp only [igOK, *, cond_true, cond_false, Bool.true_and, Bool.and_true, Bool.false_and, Bool.and_false, Bool.not_true, Bool.not_false, Bool.true_or, Bool.or_true, Bool.false_or, Bool.or_false, if_true, ite_true, reduceIte]; done))
                 | (refine And.intro trivial (AVle.of_eq (congrArg AV.bool ?_)); focus (simp_all [igOK]; intros; omega))
                 | (refine And.intro ?_ ?_; focus (apply inI64 <;> omega))
                 | (refine And.intro ?_ ?_; focus (constructor <;> omega))
                 | fail)
theorem specIngesterOK_fn (e : Ig) (h : e.b.length ≤ 1048576) : VFn Tryz.prog 28 [e.av] (.bool e.ok) := specIngesterOK_fn0 e.id e.seq e.f e.t e.b e.put h
end Go.Proofs.YtopfpmcakoeloaaGreatDoor
set_option linter.unusedVariables false
set_option linter.constructorNameAsVariable false
set_option linter.unusedSimpArgs false
set_option maxRecDepth 20000
namespace Go.Proofs.YtopfpmcakoeloaaGreatDoor
open Go Go.Vw

def Sta.own (s : Sta) : AV := .agg [.int .i64 s.seq, .int .i64 s.fence, .osl 0, .osl 1, .int .i64 s.l0, .int .i64 s.l1, .int .i64 s.l2, .int .i64 s.h0, .int .i64 s.h1, .int .i64 s.h2]
end Go.Proofs.YtopfpmcakoeloaaGreatDoor
set_option linter.unusedVariables false
set_option linter.constructorNameAsVariable false
set_option linter.unusedSimpArgs false
set_option maxRecDepth 20000
namespace Go.Proofs.YtopfpmcakoeloaaGreatDoor
open Go Go.Vw

end Go.Proofs.YtopfpmcakoeloaaGreatDoor
set_option linter.unusedVariables false
set_option linter.constructorNameAsVariable false
set_option linter.unusedSimpArgs false
set_option maxRecDepth 20000
namespace Go.Proofs.YtopfpmcakoeloaaGreatDoor
open Go Go.Vw

theorem CloneEn_own (L : List En) (hL : L.length ≤ 1000000) : FnM Tryz.prog 162 0 [ents L] [] (.osl 0) [(0, .arr 149 4 L.length fun i => (ix L i).row)] 1 := by
  refine FnM.introN Tryz.call162 Tryz.func162 rfl rfl ?_
  conv => whnf
  refine OpC.isnil rfl rfl rfl rfl rfl (fun h0 => ?_) ?_
  · conv => whnf
    exact ⟨_, .inr ⟨2, 149, 4, fun i => (ix L i).row, rfl, rfl⟩, And.intro trivial ⟨[(0, 0)], rfl, AVle.refl _, ⟨MOle.arr h0.symm fun i hi => rfl, trivial⟩⟩⟩
  · conv => whnf
    refine And.intro ⟨show (0 + L.length) * 40 ≤ 140737488355328 by omega, fun i hi => rfl⟩ ?_
    conv => whnf
    exact ⟨_, .inl rfl, And.intro trivial ⟨[(1, 0)], rfl, AVle.refl _, ⟨MOle.arr (Nat.zero_add _) fun i hi => appRows_ge (Nat.zero_le _), trivial⟩⟩⟩
theorem CloneTb_own (L : List Tb) (hL : L.length ≤ 1000000) : FnM Tryz.prog 163 0 [tbs L] [] (.osl 0) [(0, .arr 152 2 L.length fun i => (ix L i).row)] 1 := by
  refine FnM.introN Tryz.call163 Tryz.func163 rfl rfl ?_
  conv => whnf
  refine OpC.isnil rfl rfl rfl rfl rfl (fun h0 => ?_) ?_
  · conv => whnf
    exact ⟨_, .inr ⟨2, 152, 2, fun i => (ix L i).row, rfl, rfl⟩, And.intro trivial ⟨[(0, 0)], rfl, AVle.refl _, ⟨MOle.arr h0.symm fun i hi => rfl, trivial⟩⟩⟩
  · conv => whnf
    refine And.intro ⟨show (0 + L.length) * 24 ≤ 140737488355328 by omega, fun i hi => rfl⟩ ?_
    conv => whnf
    exact ⟨_, .inl rfl, And.intro trivial ⟨[(1, 0)], rfl, AVle.refl _, ⟨MOle.arr (Nat.zero_add _) fun i hi => appRows_ge (Nat.zero_le _), trivial⟩⟩⟩
abbrev Sta.objs (s : Sta) : List (Nat × MO) := [(0, .arr 149 4 s.es.length fun i => (ix s.es i).row), (1, .arr 152 2 s.ts.length fun i => (ix s.ts i).row)]
theorem copiedS_own (s : Sta) (hL : s.es.length ≤ 1000000) (hT : s.ts.length ≤ 1000000) : FnM Tryz.prog 135 0 [s.av] [] s.own s.objs 2 := by
  refine FnM.introC Tryz.call135 Tryz.func135 rfl rfl ?_
  refine DrawC.mk 7 rfl (by kernel_rfl) ?_
  conv => whnf
  refine PCallC.own (CloneEn_own s.es hL) rfl (fun i hi => rfl) ?_
  conv => whnf
  refine PCallC.own (CloneTb_own s.ts hT) rfl (fun i hi => rfl) ?_
  exact And.intro trivial ⟨[(4, 0), (7, 1)], rfl, AVle.refl _, ⟨MOle.refl _, MOle.refl _, trivial⟩⟩
end Go.Proofs.YtopfpmcakoeloaaGreatDoor
