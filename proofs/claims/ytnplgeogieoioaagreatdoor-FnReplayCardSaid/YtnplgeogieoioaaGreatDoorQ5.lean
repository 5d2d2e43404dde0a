/- Contracts of functions that the claim reaches, and the plain law of what they compute; each theorem bears its own conditions. -/
import Derived.Test.YtnplgeogieoioaaGreatDoorQ3
import Derived.Test.YtnplgeogieoioaaGreatDoorQ4
import Derived.Test.YtnplgeogieoioaaGreatDoorQ2
import Derived.Test.YtnplgeogieoioaaGreatDoorQ1
import Derived.Test.YtnplgeogieoioaaGreatDoorV52
set_option linter.unusedVariables false
set_option linter.constructorNameAsVariable false
set_option linter.unusedSimpArgs false
set_option maxRecDepth 20000
namespace Go.Proofs.YtnplgeogieoioaaGreatDoor
open Go Go.Vw
theorem mem_has {s : Sto} (h : Srt s.os) {o : Ob} (ho : o ∈ s.os) : s.has o.key = true ∧ s.get o.key = o := by
 obtain ⟨j, hj, e⟩ := List.getElem_of_mem ho
 have ej : ix s.os j = o := by rw [ix_lt hj]; exact e
 have hl := lb_le o.key s.os
 have h1 : lb o.key s.os ≤ j := by
  rcases Nat.lt_or_ge j (lb o.key s.os) with h1 | h1
  · have := lb_lt h1
    rw [ej] at this
    exact absurd this (List.lt_irrefl _)
  · exact h1
 have h2 : lb o.key s.os = j := by
  rcases Nat.lt_or_ge (lb o.key s.os) j with h2 | h2
  · have h3 := h.lt h2 hj
    rw [ej] at h3
    exact absurd h3 (lb_ge (by omega))
  · omega
 have h3 : ix s.os (lb o.key s.os) = o := by rw [h2]; exact ej
 refine ⟨?_, h3⟩
 unfold Sto.has hasK
 rw [h3, decide_eq_true (by omega : lb o.key s.os < s.os.length)]
 simp
theorem has_get {s : Sto} {k : List UInt8} (h : s.has k = true) : s.get k ∈ s.os ∧ (s.get k).key = k := by
 obtain ⟨h1, h2⟩ := hasK_at h
 exact ⟨getD_mem h1, h2⟩
theorem set_mem {s : Sto} (h : Srt s.os) (k d : List UInt8) (o : Ob) : o ∈ (s.set k d).os ↔ o = ⟨k, s.next, d⟩ ∨ (o ∈ s.os ∧ o.key ≠ k) := by
 have e : (s.set k d).os = s.os.take (lb k s.os) ++ (⟨k, s.next, d⟩ :: s.os.drop (if hasK k s.os = true then lb k s.os + 1 else lb k s.os)) := rfl
 have ht := lb_take (k := k) (L := s.os)
 have hd := lb_drop (k := k) h
 rw [e, List.mem_append, List.mem_cons]
 constructor
 · rintro (h1 | h1 | h1)
   · refine .inr ⟨List.mem_of_mem_take h1, fun e => ?_⟩
     have := ht o h1
     rw [e] at this
     exact List.lt_irrefl _ this
   · exact .inl h1
   · refine .inr ⟨List.mem_of_mem_drop h1, fun e => ?_⟩
     have := hd o h1
     rw [e] at this
     exact List.lt_irrefl _ this
 · rintro (h1 | ⟨h1, h2⟩)
   · exact .inr (.inl h1)
   · obtain ⟨j, hj, e1⟩ := List.getElem_of_mem h1
     rcases Nat.lt_or_ge j (lb k s.os) with h3 | h3
     · left
       exact List.mem_take_iff_getElem.2 ⟨j, by omega, e1⟩
     · right; right
       have hq : (if hasK k s.os = true then lb k s.os + 1 else lb k s.os) ≤ j := by
        split
        · rename_i hk
          obtain ⟨k1, k2⟩ := hasK_at hk
          rcases Nat.lt_or_ge (lb k s.os) j with h4 | h4
          · exact h4
          · have : j = lb k s.os := by omega
            subst this
            rw [ix_lt hj, e1] at k2
            exact absurd k2 h2
        · exact h3
       refine List.mem_iff_getElem.2 ⟨j - (if hasK k s.os = true then lb k s.os + 1 else lb k s.os), by rw [List.length_drop]; omega, ?_⟩
       rw [List.getElem_drop]
       simp only [show (if hasK k s.os = true then lb k s.os + 1 else lb k s.os) + (j - (if hasK k s.os = true then lb k s.os + 1 else lb k s.os)) = j by omega]
       exact e1
theorem set_ne {s : Sto} (hs : s.ok = true) {k d : List UInt8} (hy : (s.set k d).ok = true) {k' : List UInt8} (hk : k' ≠ k) : (s.set k d).has k' = s.has k' ∧ (s.has k' = true → (s.set k d).get k' = s.get k') := by
 have h1 := Sto.srt hs
 have h2 := Sto.srt hy
 have fw : (s.set k d).has k' = true → s.has k' = true := fun h => by
  obtain ⟨a1, a2⟩ := has_get h
  rcases (set_mem h1 k d _).1 a1 with e | ⟨e, _⟩
  · rw [e] at a2; exact absurd a2.symm hk
  · have := (mem_has h1 e).1
    rwa [a2] at this
 have bw : s.has k' = true → (s.set k d).has k' = true ∧ (s.set k d).get k' = s.get k' := fun h => by
  obtain ⟨a1, a2⟩ := has_get h
  have := mem_has h2 ((set_mem h1 k d _).2 (.inr ⟨a1, by rw [a2]; exact hk⟩))
  rw [a2] at this
  exact this
 refine ⟨?_, fun h => (bw h).2⟩
 cases h : s.has k' with
 | true => exact (bw h).1
 | false =>
   cases h' : (s.set k d).has k' with
   | false => rfl
   | true => rw [fw h'] at h; cases h
theorem logN_congr {x y : Sto} : ∀ n : Nat, (∀ j, j < n → (y.get (manK ((j + 1 : Nat) : Int))).data = (x.get (manK ((j + 1 : Nat) : Int))).data) → logN y n = logN x n
 | 0, _ => rfl
 | n + 1, h => by
   show stepL y (logN y n) = stepL x (logN x n)
   rw [logN_congr n fun j hj => h j (by omega)]
   unfold stepL recAt
   rw [logN_seq x n, show ((n : Nat) : Int) + 1 = ((n + 1 : Nat) : Int) by omega, h n (by omega)]
def Sta.lay (s : Sta) (t : List UInt8) : Sta := match readR t with | none => s.tick | some r => s.app r
theorem log_grow {x y : Sto} (hy : y.ok = true) {n : Nat} (hn : n ≤ 299) (hh : ∀ j, j < n → x.has (manK ((j + 1 : Nat) : Int)) = true) (he : logEnd x = n)
 (h1 : ∀ j, j < n → y.has (manK ((j + 1 : Nat) : Int)) = true ∧ (y.get (manK ((j + 1 : Nat) : Int))).data = (x.get (manK ((j + 1 : Nat) : Int))).data)
 (h2 : y.has (manK ((n + 1 : Nat) : Int)) = true) (h3 : y.has (manK ((n + 2 : Nat) : Int)) = false) : logEnd y = n + 1 ∧ logS y = (logS x).lay (y.get (manK ((n + 1 : Nat) : Int))).data := by
 have e : n + 1 = logEnd y := log_end hy (by omega) (fun j hj => by
  rcases Nat.lt_or_ge j n with h | h
  · exact (h1 j h).1
  · have : j = n := by omega
    subst this; exact h2) h3
 refine ⟨e.symm, ?_⟩
 unfold logS
 rw [← e, he]
 show stepL y (logN y n) = _
 rw [logN_congr n fun j hj => (h1 j hj).2]
 unfold stepL recAt Sta.lay
 rw [logN_seq x n, show ((n : Nat) : Int) + 1 = ((n + 1 : Nat) : Int) by omega]
 generalize readR _ = o
 cases o <;> rfl
theorem noE_none {k : List UInt8} : ∀ {L : List En}, (∀ x ∈ L, x.key ≠ k) → noE k L = L := fun {L} h => by
 unfold noE
 exact List.filter_eq_self.2 fun x hx => by rw [decide_eq_false (h x hx)]; rfl
theorem noE_cut {L : List En} {i : Nat} (hi : i < L.length) (nd : (L.map (·.key)).Nodup) : L.take i ++ L.drop (i + 1) = noE (ix L i).key L := by
 have e : L = L.take i ++ (ix L i :: L.drop (i + 1)) := by
  rw [ix_lt hi]
  simp
 have nd2 := nd
 rw [e, List.map_append, List.map_cons] at nd2
 have h1 := List.nodup_append.1 nd2
 have h2 := List.nodup_cons.1 h1.2.1
 have hn : noE (ix L i).key L = noE (ix L i).key (L.take i ++ (ix L i :: L.drop (i + 1))) := congrArg _ e
 rw [hn]
 have e1 : noE (ix L i).key (L.take i) = L.take i := noE_none fun x hx hk => h1.2.2 x.key (List.mem_map.2 ⟨x, hx, rfl⟩) (ix L i).key (by simp) hk
 have e2 : noE (ix L i).key (L.drop (i + 1)) = L.drop (i + 1) := noE_none fun x hx hk => h2.1 (hk ▸ List.mem_map.2 ⟨x, hx, rfl⟩)
 unfold noE at e1 e2 ⊢
 rw [List.filter_append, e1, List.filter_cons_of_neg (by simp), e2]
theorem fi_filter {α : Type} [Inhabited α] (p : α → Bool) : ∀ L : List α, (fi p L = -1 ∧ L.filter p = []) ∨ ∃ i : Nat, i < L.length ∧ fi p L = (i : Int) ∧ ∃ r, L.filter p = ix L i :: r := by
 intro L
 by_cases h : ∃ i, i < L.length ∧ p (ix L i) = true
 · obtain ⟨i, hi, hp⟩ := h
   -- the least one
   have : ∃ i, (i < L.length ∧ p (ix L i) = true) ∧ ∀ j, j < i → p (ix L j) = false := by
    induction i using Nat.strongRecOn with
    | _ i ih =>
      by_cases h' : ∃ j, j < i ∧ p (ix L j) = true
      · obtain ⟨j, hj, hq⟩ := h'
        exact ih j hj (by omega) hq
      · exact ⟨i, ⟨hi, hp⟩, fun j hj => by
         cases hq : p (ix L j)
         · rfl
         · exact absurd ⟨j, hj, hq⟩ h'⟩
   obtain ⟨i, ⟨hi, hp⟩, hl⟩ := this
   refine .inr ⟨i, hi, fi_at hi hl hp, ?_⟩
   have e : L = L.take i ++ (ix L i :: L.drop (i + 1)) := by rw [ix_lt hi]; simp
   have e1 : (L.take i).filter p = [] := List.filter_eq_nil_iff.2 fun x hx => by
    obtain ⟨j, hj, rfl⟩ := List.getElem_of_mem hx
    have hj' : j < i := by simp at hj; omega
    have := hl j hj'
    rw [ix_lt (by omega)] at this
    simp [this]
   refine ⟨(L.drop (i + 1)).filter p, ?_⟩
   have := congrArg (List.filter p) e
   rw [this, List.filter_append, e1, List.filter_cons_of_pos hp]; rfl
 · have hn : ∀ i, i < L.length → p (ix L i) = false := fun i hi => by
    cases hq : p (ix L i)
    · rfl
    · exact absurd ⟨i, hi, hq⟩ h
   refine .inl ⟨fi_none hn, List.filter_eq_nil_iff.2 fun x hx => ?_⟩
   obtain ⟨j, hj, rfl⟩ := List.getElem_of_mem hx
   have := hn j hj
   rw [ix_lt hj] at this
   simp [this]
theorem fi_first {α : Type} [Inhabited α] (p : α → Bool) (L : List α) : (fi p L = -1 ∧ ∀ j, j < L.length → p (ix L j) = false) ∨ ∃ i : Nat, i < L.length ∧ fi p L = (i : Int) ∧ p (ix L i) = true ∧ ∀ j, j < i → p (ix L j) = false := by
 by_cases h : ∃ i, i < L.length ∧ p (ix L i) = true
 · obtain ⟨i, hi, hp⟩ := h
   have : ∃ i, (i < L.length ∧ p (ix L i) = true) ∧ ∀ j, j < i → p (ix L j) = false := by
    induction i using Nat.strongRecOn with
    | _ i ih =>
      by_cases h' : ∃ j, j < i ∧ p (ix L j) = true
      · obtain ⟨j, hj, hq⟩ := h'
        exact ih j hj (by omega) hq
      · exact ⟨i, ⟨hi, hp⟩, fun j hj => by
         cases hq : p (ix L j)
         · rfl
         · exact absurd ⟨j, hj, hq⟩ h'⟩
   obtain ⟨i, ⟨hi, hp⟩, hl⟩ := this
   exact .inr ⟨i, hi, fi_at hi hl hp, hp, hl⟩
 · have hn : ∀ i, i < L.length → p (ix L i) = false := fun i hi => by
    cases hq : p (ix L i)
    · rfl
    · exact absurd ⟨i, hi, hq⟩ h
   exact .inl ⟨fi_none hn, hn⟩
theorem readR_none {t : List UInt8} (h : ∀ x ∈ t, x ≠ 32) : readR t = none := by
 unfold readR
 rw [cutP_none 32 t [] h]; rfl
theorem readR_at {a b : List UInt8} (ha : ∀ x ∈ a, x ≠ 32) : (∀ k tok tier f e, numsK 44 5 a = some [k, tok, tier, f, e] → readR (a ++ 32 :: b) = if Rc.ok ⟨k, tok, tier, f, e, b⟩ = true then some ⟨k, tok, tier, f, e, b⟩ else none) ∧ (numsK 44 5 a = none → readR (a ++ 32 :: b) = none) := by
 have hc := cutP_app 32 a [] b ha
 have hb := first_c 32 b
 unfold readR readP
 rw [hc]
 constructor
 · intro k tok tier f e hN
   rcases hb with hb | ⟨c, d, rfl, hcn⟩
   · rw [cutP_none 32 b [] hb]
     simp only [List.nil_append]
     rw [hN]
   · rw [cutP_app 32 c [] d hcn]
     obtain ⟨q, qs, hq⟩ : ∃ q qs, cutP 32 [] d = q :: qs := by
      have := (cutP_len 32 d []).1
      cases h : cutP 32 [] d with
      | nil => rw [h] at this; simp at this
      | cons q qs => exact ⟨q, qs, rfl⟩
     rw [hq]
     have hno : ¬ Rc.ok ⟨k, tok, tier, f, e, c ++ 32 :: d⟩ = true := fun h => by
      have hk : kOk (c ++ 32 :: d) = true := by
       unfold Rc.ok at h
       split at h
       · simp [Rc.en, En.ok] at h; exact h.2.2.1
       split at h
       · simp at h
       split at h
       · simp [Rc.en, En.ok] at h; exact h.2.2.1
       split at h
       · simp [Rc.en, En.ok] at h; exact h.2.1
       split at h
       · simp at h; exact h.2.2
       · cases h
      unfold kOk at hk
      cases hp : parseKey (c ++ 32 :: d) with
      | none => rw [hp] at hk; cases hk
      | some z =>
        obtain ⟨u, n, w⟩ := z
        obtain ⟨e1, ht, hn, hw⟩ := key_parse hp
        have : (32 : UInt8) ∈ keyB u n w := by rw [← e1]; simp
        have h3 : u = 0 ∨ u = 1 ∨ u = 2 := by omega
        have hd : ∀ m, (32 : UInt8) ∉ six6 m := fun m hm => six6_ne (n := m) (c := 32) (by decide) 32 hm rfl
        have hs : ∀ p : List UInt8, (32 : UInt8) ∉ p → (32 : UInt8) ∈ p ++ (six6 n ++ 45 :: six6 w) → False := fun p h1 h2 => by
         rcases List.mem_append.1 h2 with h | h
         · exact h1 h
         rcases List.mem_append.1 h with h | h
         · exact hd n h
         rcases List.mem_cons.1 h with h | h
         · exact absurd h (by decide)
         · exact hd w h
        unfold keyB at this
        rcases h3 with rfl | rfl | rfl <;> exact hs _ (by decide) this
     rw [if_neg hno]
 · intro hN
   rcases hb with hb | ⟨c, d, rfl, hcn⟩
   · rw [cutP_none 32 b [] hb]
     simp only [List.nil_append]
     rw [hN]
   · rw [cutP_app 32 c [] d hcn]
     obtain ⟨q, qs, hq⟩ : ∃ q qs, cutP 32 [] d = q :: qs := by
      have := (cutP_len 32 d []).1
      cases h : cutP 32 [] d with
      | nil => rw [h] at this; simp at this
      | cons q qs => exact ⟨q, qs, rfl⟩
     rw [hq]
theorem nums5 {t : List UInt8} {N : List Int} (h : numsK 44 5 t = some N) : ∃ a b c d e, N = [a, b, c, d, e] := by
 unfold numsK at h
 split at h
 · rename_i h1
   cases h
   have hl : ((cutP 44 [] t).map atoiV).length = 5 := by rw [List.length_map]; exact h1.1
   generalize (cutP 44 [] t).map atoiV = L at hl
   match L, hl with
   | [a, b, c, d, e], _ => exact ⟨a, b, c, d, e, rfl⟩
 · cases h
structure StaOK (s : Sta) : Prop where
 q : 0 ≤ s.seq ∧ s.seq ≤ 999999
 f : 0 ≤ s.fence ∧ s.fence ≤ 999999
 len : s.es.length + s.ts.length ≤ 4096
 es : ∀ e ∈ s.es, e.ok = true
 ts : ∀ t ∈ s.ts, kOk t.key = true ∧ 1 ≤ t.seq ∧ t.seq ≤ s.seq
 nd : s.keys.Nodup
 lo : ∀ k, (k = 0 ∨ k = 1 ∨ k = 2) → 0 ≤ s.lo k ∧ s.lo k ≤ 100000
 runs : ∀ k, (k = 0 ∨ k = 1 ∨ k = 2) → runs (ofT s.es k) (s.lo k) = some (s.hi k)
theorem staOK_iff (s : Sta) : s.ok = true ↔ StaOK s := by
 constructor
 · intro h
   unfold Sta.ok tierOK at h
   simp only [Bool.and_eq_true, decide_eq_true_eq, List.all_eq_true, within] at h
   obtain ⟨h1, h2, h3, h4, h5, h6, ⟨h7, h7'⟩, ⟨h8, h8'⟩, h9, h9'⟩ := h
   refine ⟨h1, h2, by omega, h4, fun t ht => ?_, h6, fun k hk => ?_, fun k hk => ?_⟩
   · have := h5 t ht
     simp only [tbOK, Bool.and_eq_true, decide_eq_true_eq, within] at this
     exact ⟨this.1, this.2.1, this.2.2⟩
   · rcases hk with rfl | rfl | rfl
     · exact h7
     · exact h8
     · exact h9
   · rcases hk with rfl | rfl | rfl
     · exact h7'
     · exact h8'
     · exact h9'
 · rintro ⟨h1, h2, h3, h4, h5, h6, h7, h8⟩
   unfold Sta.ok tierOK
   simp only [Bool.and_eq_true, decide_eq_true_eq, List.all_eq_true, within]
   refine ⟨h1, h2, by omega, h4, fun t ht => ?_, h6, ⟨h7 0 (.inl rfl), h8 0 (.inl rfl)⟩, ⟨h7 1 (.inr (.inl rfl)), h8 1 (.inr (.inl rfl))⟩, h7 2 (.inr (.inr rfl)), h8 2 (.inr (.inr rfl))⟩
   have := h5 t ht
   simp only [tbOK, Bool.and_eq_true, decide_eq_true_eq, within]
   exact ⟨this.1, this.2.1, this.2.2⟩
theorem ofT_app (L M : List En) (k : Int) : ofT (L ++ M) k = ofT L k ++ ofT M k := List.filter_append ..
theorem runs_app1 : ∀ (L : List En) (e : En) (a b : Int), runs L a = some b → e.f = b → runs (L ++ [e]) a = some e.t
 | [], e, a, b, h, h2 => by
   have : a = b := by simpa [runs] using h
   subst this
   simp [runs, h2]
 | x :: r, e, a, b, h, h2 => by
   simp only [runs] at h
   split at h
   · rename_i hx
     simp only [List.cons_append, runs]
     rw [if_pos hx]
     exact runs_app1 r e _ b h h2
   · cases h
theorem lift_lo (s : Sta) (k v j : Int) : (s.lift k v).lo j = s.lo j := by
 unfold Sta.lift; split
 · rfl
 · split <;> rfl
theorem lower_hi (s : Sta) (k v j : Int) : (s.lower k v).hi j = s.hi j := by
 unfold Sta.lower; split
 · rfl
 · split <;> rfl
theorem lift_hi (s : Sta) (k v j : Int) (hk : k = 0 ∨ k = 1 ∨ k = 2) (hj : j = 0 ∨ j = 1 ∨ j = 2) : (s.lift k v).hi j = if j = k then v else s.hi j := by
 rcases hk with rfl | rfl | rfl <;> rcases hj with rfl | rfl | rfl <;> rfl
theorem lower_lo (s : Sta) (k v j : Int) (hk : k = 0 ∨ k = 1 ∨ k = 2) (hj : j = 0 ∨ j = 1 ∨ j = 2) : (s.lower k v).lo j = if j = k then v else s.lo j := by
 rcases hk with rfl | rfl | rfl <;> rcases hj with rfl | rfl | rfl <;> rfl
theorem en_tier {e : En} (h : e.ok = true) : (e.tier = 0 ∨ e.tier = 1 ∨ e.tier = 2) ∧ 0 ≤ e.f ∧ e.f < e.t ∧ e.t ≤ 100000 ∧ kOk e.key = true := by
 unfold En.ok isRange at h
 simp only [Bool.and_eq_true, decide_eq_true_eq, within] at h
 have := kT_nat e.key
 refine ⟨by omega, by omega, by omega, by omega, h.1⟩
theorem kinds {k tok tier f t : Int} {key : List UInt8} (h : Rc.ok ⟨k, tok, tier, f, t, key⟩ = true) : (k = 1 ∧ tier = 0) ∨ k = 2 ∨ (k = 3 ∧ (tier = 1 ∨ tier = 2) ∧ (0 ≤ f ∧ f ≤ 1000000)) ∨ (k = 4 ∧ (tier = 0 ∨ tier = 1 ∨ tier = 2)) ∨ k = 5 := by
 unfold Rc.ok at h
 dsimp only at h
 by_cases h1 : k = 1
 · rw [if_pos h1] at h
   simp only [Bool.and_eq_true, decide_eq_true_eq] at h
   exact .inl ⟨h1, h.2.1⟩
 rw [if_neg h1] at h
 by_cases h2 : k = 2
 · exact .inr (.inl h2)
 rw [if_neg h2] at h
 by_cases h3 : k = 3
 · rw [if_pos h3] at h
   simp only [Bool.and_eq_true, decide_eq_true_eq] at h
   obtain ⟨ht, hb⟩ := en_tier h.2.2
   have ht : tier = 0 ∨ tier = 1 ∨ tier = 2 := ht
   have hb : 0 ≤ f ∧ f < t ∧ t ≤ 100000 ∧ _ := hb
   exact .inr (.inr (.inl ⟨h3, by have := h.2.1; omega, by omega, by omega⟩))
 rw [if_neg h3] at h
 by_cases h4 : k = 4
 · rw [if_pos h4] at h
   simp only [Bool.and_eq_true] at h
   exact .inr (.inr (.inr (.inl ⟨h4, (en_tier h.2).1⟩)))
 rw [if_neg h4] at h
 by_cases h5 : k = 5
 · exact .inr (.inr (.inr (.inr h5)))
 rw [if_neg h5] at h
 cases h
theorem takes_f {s : Sta} {r : Rc} (h : s.takes r = true) (hr : r.ok = true) (hk : r.k = 1 ∨ r.k = 3) : r.f = s.hi r.tier ∧ r.en.ok = true := by
 unfold Sta.takes at h
 unfold Rc.ok at hr
 rcases hk with hk | hk
 · rw [if_pos hk] at h hr
   simp only [Bool.and_eq_true, decide_eq_true_eq] at h hr
   refine ⟨?_, hr.2.2⟩
   rw [hr.2.1]; exact h.1
 · rw [if_neg (by omega), if_neg (by omega), if_pos hk] at h hr
   simp only [Bool.and_eq_true, decide_eq_true_eq] at h hr
   exact ⟨h.2.1, hr.2.2⟩
theorem ofT_noE_other {L : List En} {k : Int} {key : List UInt8} (h : ∀ e ∈ L, e.key = key → e.tier ≠ k) : ofT (noE key L) k = ofT L k := by
 unfold ofT noE
 rw [List.filter_filter]
 refine List.filter_congr fun e he => ?_
 by_cases hk : e.key = key
 · have := h e he hk
   simp [this]
 · simp [hk]
theorem ofT_noE_tail {L : List En} {k : Int} {e : En} {r : List En} (hl : ofT L k = e :: r) (nd : (L.map (·.key)).Nodup) : ofT (noE e.key L) k = r := by
 have h1 : ofT (noE e.key L) k = (ofT L k).filter fun x => !decide (x.key = e.key) := by
  unfold ofT noE
  rw [List.filter_filter, List.filter_filter]
  exact List.filter_congr fun x _ => Bool.and_comm ..
 have h2 : ((ofT L k).map (·.key)).Nodup := by
  unfold ofT
  exact (List.filter_sublist.map _).nodup nd
 rw [h1, hl]
 rw [hl, List.map_cons] at h2
 have h3 := List.nodup_cons.1 h2
 rw [List.filter_cons_of_neg (by simp)]
 exact List.filter_eq_self.2 fun x hx => by
  rw [decide_eq_false (fun hk : x.key = e.key => h3.1 (hk ▸ List.mem_map.2 ⟨x, hx, rfl⟩))]; rfl
theorem nodup_key : ∀ {L : List En}, (L.map (·.key)).Nodup → ∀ {a b : En}, a ∈ L → b ∈ L → a.key = b.key → a = b
 | [], _, a, b, ha, _, _ => by cases ha
 | x :: r, nd, a, b, ha, hb, h => by
   rw [List.map_cons] at nd
   have h' := List.nodup_cons.1 nd
   rcases List.mem_cons.1 ha with ha | ha <;> rcases List.mem_cons.1 hb with hb | hb
   · rw [ha, hb]
   · exact absurd (List.mem_map.2 ⟨b, hb, by rw [← h, ha]⟩) h'.1
   · exact absurd (List.mem_map.2 ⟨a, ha, by rw [h, hb]⟩) h'.1
   · exact nodup_key h'.2 ha hb h
theorem app_staOK {s : Sta} {r : Rc} (h : StaOK s) (hr : r.ok = true) (hq : s.seq < 999999) (hl : s.es.length + s.ts.length < 4096) : StaOK (s.app r) := by
 have hlog : LogS s := ⟨h.nd, fun k hk => by
  unfold Sta.keys at hk
  rcases List.mem_append.1 hk with hk | hk
  · obtain ⟨e, he, rfl⟩ := List.mem_map.1 hk; exact (en_tier (h.es e he)).2.2.2.2
  · obtain ⟨e, he, rfl⟩ := List.mem_map.1 hk; exact (h.ts e he).1⟩
 have hnd := (app_log hlog hr).nd
 have hlen := appL_len s r
 have hseq := app_seq s r
 have ts' : ∀ t ∈ s.ts, kOk t.key = true ∧ 1 ≤ t.seq ∧ t.seq ≤ s.seq + 1 := fun t ht => by have := h.ts t ht; exact ⟨this.1, this.2.1, by omega⟩
 obtain ⟨q, hqe⟩ : ∃ q, q = s.app r := ⟨_, rfl⟩
 rw [← hqe] at hnd hlen hseq ⊢
 have hq' : 0 ≤ q.seq ∧ q.seq ≤ 999999 := by rw [hseq]; have := h.q; omega
 have hlen' : q.es.length + q.ts.length ≤ 4096 := by omega
 unfold Sta.app at hqe
 by_cases ht : s.takes r = true
 · rw [if_pos ht] at hqe
   by_cases hk : r.k = 1 ∨ r.k = 3
   · rw [if_pos hk] at hqe
     obtain ⟨hf, hen⟩ := takes_f ht hr hk
     obtain ⟨hti, hb⟩ := en_tier hen
     subst hqe
     have e1 := lift_es ({ s.tick with es := s.es ++ [r.en] } : Sta) r.tier r.t
     refine ⟨hq', by rw [e1.2.2.2]; exact h.f, hlen', ?_, ?_, hnd, fun k hk => ?_, fun k hk => ?_⟩
     · rw [e1.1]
       intro e he
       rcases List.mem_append.1 he with he | he
       · exact h.es e he
       · have : e = r.en := by simpa using he
         rw [this]; exact hen
     · rw [e1.2.1, hseq]; exact ts'
     · rw [lift_lo]; exact h.lo k hk
     · rw [e1.1, lift_lo, lift_hi _ _ _ _ hti hk]
       show runs (ofT (s.es ++ [r.en]) k) (s.lo k) = _
       rw [ofT_app]
       by_cases hkk : k = r.tier
       · subst hkk
         rw [if_pos rfl]
         have : ofT [r.en] r.tier = [r.en] := by simp [ofT]
         rw [this]
         exact runs_app1 _ r.en _ _ (h.runs _ hk) hf
       · rw [if_neg hkk]
         have : ofT [r.en] k = [] := by
          have : ¬ r.tier = k := fun e => hkk e.symm
          simp [ofT, this]
         rw [this, List.append_nil]
         exact h.runs k hk
   · rw [if_neg hk] at hqe
     by_cases hk2 : r.k = 2
     · rw [if_pos hk2] at hqe
       subst hqe
       have htok : 1 ≤ r.tok ∧ r.tok ≤ 999999 := by
        unfold Rc.ok at hr
        rw [if_neg (by omega), if_pos hk2] at hr
        simp only [Bool.and_eq_true, within, decide_eq_true_eq] at hr
        exact hr.1
       exact ⟨hq', by show 0 ≤ r.tok ∧ r.tok ≤ 999999; omega, hlen', h.es, fun t ht => by rw [hseq]; exact ts' t ht, hnd, h.lo, h.runs⟩
     · rw [if_neg hk2] at hqe
       by_cases hk4 : r.k = 4
       · rw [if_pos hk4] at hqe
         have hen : r.en.ok = true := by
          unfold Rc.ok at hr
          rw [if_neg (by omega), if_neg (by omega), if_neg (by omega), if_pos hk4] at hr
          simp only [Bool.and_eq_true] at hr
          exact hr.2
         obtain ⟨hti, hb⟩ := en_tier hen
         have hb' : 0 ≤ r.f ∧ r.f < r.t ∧ r.t ≤ 100000 := ⟨hb.1, hb.2.1, hb.2.2.1⟩
         have hhd := takes_4 ht hk4
         have hm := headIs_mem hhd
         obtain ⟨rest, hrest⟩ : ∃ rest, ofT s.es r.tier = r.en :: rest := by
          unfold headIs at hhd
          cases hl : ofT s.es r.tier with
          | nil => rw [hl] at hhd; cases hhd
          | cons x y => rw [hl] at hhd; exact ⟨y, by rw [of_decide_eq_true hhd]⟩
         have nde : (s.es.map (·.key)).Nodup := (List.nodup_append.1 h.nd).1
         subst hqe
         have e1 := lower_es ({ s.tick with es := noE r.key s.es, ts := s.ts ++ [⟨s.seq + 1, r.key⟩] } : Sta) r.tier r.t
         refine ⟨hq', by rw [e1.2.2.2]; exact h.f, hlen', ?_, ?_, hnd, fun k hk => ?_, fun k hk => ?_⟩
         · rw [e1.1]
           exact fun e he => h.es e (List.mem_filter.1 he).1
         · rw [e1.2.1, hseq]
           intro t ht
           rcases List.mem_append.1 ht with ht | ht
           · exact ts' t ht
           · have : t = ⟨s.seq + 1, r.key⟩ := by simpa using ht
             rw [this]
             exact ⟨hb.2.2.2, by have := h.q; show 1 ≤ s.seq + 1; omega, by show s.seq + 1 ≤ s.seq + 1; omega⟩
         · rw [lower_lo _ _ _ _ hti hk]
           split
           · omega
           · exact h.lo k hk
         · rw [e1.1, lower_hi, lower_lo _ _ _ _ hti hk]
           show runs (ofT (noE r.key s.es) k) _ = some (s.hi k)
           have hru := h.runs k hk
           by_cases hkk : k = r.tier
           · subst hkk
             rw [if_pos rfl, ofT_noE_tail (e := r.en) hrest nde]
             rw [hrest] at hru
             simp only [runs] at hru
             split at hru
             · exact hru
             · cases hru
           · rw [if_neg hkk, ofT_noE_other]
             · exact hru
             · intro e he hke htk
               have : e = r.en := nodup_key nde he hm hke
               rw [this] at htk
               exact hkk htk.symm
       · rw [if_neg hk4] at hqe
         subst hqe
         exact ⟨hq', h.f, hlen', h.es, fun t ht => by rw [hseq]; exact ts' t (List.mem_filter.1 ht).1, hnd, h.lo, h.runs⟩
 · rw [if_neg ht] at hqe
   subst hqe
   exact ⟨hq', h.f, hlen', h.es, fun t ht => by rw [hseq]; exact ts' t ht, hnd, h.lo, h.runs⟩
theorem staOK0 : StaOK sta0 := ⟨by decide, by decide, by decide, by simp [sta0], by simp [sta0], by simp [sta0, Sta.keys], fun k hk => by rcases hk with rfl | rfl | rfl <;> decide, fun k hk => by rcases hk with rfl | rfl | rfl <;> rfl⟩
theorem tick_staOK {s : Sta} (h : StaOK s) (hq : s.seq < 999999) : StaOK s.tick :=
 ⟨by have := h.q; exact ⟨show 0 ≤ s.seq + 1 by omega, show s.seq + 1 ≤ 999999 by omega⟩, h.f, h.len, h.es, fun t ht => by have := h.ts t ht; exact ⟨this.1, this.2.1, show t.seq ≤ s.seq + 1 by omega⟩, h.nd, h.lo, h.runs⟩
theorem logN_staOK (x : Sto) : ∀ n : Nat, n ≤ 400 → StaOK (logN x n)
 | 0, _ => staOK0
 | n + 1, hn => by
   have ih := logN_staOK x n (by omega)
   have hs := logN_seq x n
   have hl := logN_len x n
   show StaOK (stepL x (logN x n))
   unfold stepL
   split
   · exact tick_staOK ih (by omega)
   · rename_i r hr
     exact app_staOK ih (readR_ok hr) (by omega) (by omega)
theorem logS_ok (x : Sto) : (logS x).ok = true := (staOK_iff _).2 (logN_staOK x _ (log_b x).2.1)
theorem alloc_new (w : World) (o : Obj) : (w.alloc o).heap[w.heap.size]? = some o ∧ (w.alloc o).heap.size = w.heap.size + 1 := by
 unfold World.alloc; simp
theorem SplitN_fn (l : List UInt8) (c : UInt8) (m : Nat) (hl : l.length < 4294967281) (hm : m ≤ 1000000) : VFn Tryz.prog 204 [.str (B l), .str (B [c]), .int .i64 ((m + 1 : Nat) : Int)] (txts (Lib.splitN l [c] (m + 1))) := by
 refine ⟨Tryz.call204, fun w ok vs hJ hok hv => ?_⟩
 obtain ⟨v, us, rfl, hv, v2, us2, rfl, hv2, v3, us3, rfl, hv3, hus⟩ := hv
 have e1 : v = .string (B l) := hv
 have e2 : v2 = .string (B [c]) := hv2
 have e3 : v3 = .int .i64 ((m + 1 : Nat) : Int) := hv3
 have e4 : us3 = [] := hus
 subst e1 e2 e3 e4
 obtain ⟨mv, hmv⟩ := tab_maxlen hJ
 have hd := Lib.splitB_data (B [c]) 0 (min (m + 1) ((B l).size + 1) - 1) (B l)
 have hle := Lib.splitB_length_le (B [c]) 0 (min (m + 1) ((B l).size + 1) - 1) (B l)
 refine (Tryz.strings_SplitN (B l) (B [c]) (m + 1) mv w (by rw [B_size]; exact hl) hmv (by rw [B_size]; exact Nat.le_refl 1) (by omega) (by omega)).mono ?_
 rintro e w' ⟨rfl, rfl⟩
 generalize Lib.splitB (B [c]) 0 (min (m + 1) ((B l).size + 1) - 1) (B l) = S at hd hle
 rw [B_data, B_data, B_size] at hd
 have hR : Lib.splitN l [c] (m + 1) = S.map (·.data.toList) := hd.symm
 have hlen : (Lib.splitN l [c] (m + 1)).length = S.length := by rw [hR]; simp
 have bel := (Go.RowKit.Below.refl w.heap.size w).alloc (Nat.le_refl _) (.cells (Lib.cellsOf S (min (m + 1) ((B l).size + 1))) 9)
 obtain ⟨hnew, hsz⟩ := alloc_new w (.cells (Lib.cellsOf S (min (m + 1) ((B l).size + 1))) 9)
 refine ⟨_, rfl, ⟨bel.os, bel.tape, bel.output, bel.size, fun b hb _ => bel.block b hb⟩, ?_⟩
 show RV _ _ G0 (.sl 1 (Lib.splitN l [c] (m + 1)).length fun i => [.str (B (ix (Lib.splitN l [c] (m + 1)) i))]) _
 rw [hlen]
 refine ⟨_, _, rfl, by omega, .inr ⟨w.heap.size, 0, rfl, .inr ⟨Nat.le_refl _, by rw [hsz]; omega⟩, fun i hi => ⟨[.string S[i]], rfl, ⟨_, _, rfl, ?_, rfl⟩, fun j hj => ?_⟩⟩⟩
 · show Value.string _ = Value.string _
   rw [hR, ix_lt (by simpa using hi)]
   simp [B]
 · have : j = 0 := by omega
   subst this
   rw [Nat.zero_add, Nat.mul_one, Nat.add_zero, cell_of_row _ _ _ _ _ _ hnew]
   simp [Lib.cellsOf, List.getElem?_append_left, hi]
theorem atoi_range (t : List UInt8) : -9223372036854775808 ≤ atoiV t ∧ atoiV t ≤ 9223372036854775807 := by
 rcases atoi_end t with ⟨_, h⟩ | ⟨_, h, e⟩ | ⟨_, h, e⟩
 · generalize atoiV t = v at h
   unfold Lib.atoiAll at h
   cases t with
   | nil => cases h
   | cons c r =>
     simp only at h
     split at h
     · cases h
     · cases h
     · split at h
       · cases h
       · split at h
         · cases h
         · injection h with h
           subst h
           split <;> omega
 · rw [e]; decide
 · rw [e]; unfold Lib.atoiSat; split <;> decide
theorem number_fn (t : List UInt8) (hl : t.length ≤ 281474976710656) : VFn Tryz.prog 205 [.str (B t)] (.tup [.int .i64 (atoiV t), .bool (numOk t)]) := by
 refine VFn.introC Tryz.call205 Tryz.func205 rfl rfl ?_
 by_cases ho : atoiOk t = true
 · conv => whnf
   refine CallC.sca _ (Atoi_ok t hl ho) ?_ ?_
   · exact rfl
   have hb := atoi_range t
   conv => whnf
   refine CallC.sca _ (Itoa_fn (atoiV t) hb.1 hb.2) ?_ ?_
   · exact rfl
   refine Grd.intro (fun h => ?_) (fun h => ?_)
   · have h : ((B (Lib.itoa (atoiV t))).toList == (B t).toList) = true := h
     rw [B_eq] at h
     conv => whnf
     refine CallC.sca _ (within_fn _ _ _) ?_ ?_
     · exact rfl
     refine And.intro trivial (AVle.of_eq (show AV.tup [.int .i64 (atoiV t), .bool (within (atoiV t) (-999999999999999999) 999999999999999999)] = _ from ?_))
     unfold numOk; rw [ho, h]; rfl
   · have h : ((B (Lib.itoa (atoiV t))).toList == (B t).toList) = false := h
     rw [B_eq] at h
     refine And.intro trivial (AVle.of_eq (show AV.tup [.int .i64 (atoiV t), .bool false] = _ from ?_))
     unfold numOk; rw [ho, h]; rfl
 · have ho : atoiOk t = false := by simpa using ho
   conv => whnf
   refine CallC.sca _ (Atoi_no t hl ho) ?_ ?_
   · exact rfl
   refine And.intro trivial (AVle.of_eq (show AV.tup [.int .i64 (atoiV t), .bool false] = _ from ?_))
   unfold numOk; rw [ho]; rfl
theorem cutP_piece (c : UInt8) : ∀ (l cur : List UInt8), ∀ x ∈ cutP c cur l, x.length ≤ cur.length + l.length
 | [], cur, x, hx => by simp [cutP] at hx; rw [hx]; simp
 | y :: r, cur, x, hx => by
   unfold cutP at hx
   split at hx
   · rcases List.mem_cons.1 hx with rfl | hx
     · simp
     · have := cutP_piece c r [] x hx; simp at this ⊢; omega
   · have := cutP_piece c r (cur ++ [y]) x hx; simp at this ⊢; omega
theorem numbers_gen (t : List UInt8) (c : UInt8) (m : Nat) (hl : t.length ≤ 1000000000) (hm : m ≤ 1000000) (R : AV) (hy : ∀ N, numsK c m t = some N → R = .tup [ints N, .bool true]) (hn : numsK c m t = none → R = .tup [.nilsl, .bool false]) :
 VFn Tryz.prog 172 [.str (B t), .str (B [c]), .int .i64 (m : Int)] R := by
 have hsl := splitN_len c t m
 refine VFn.introC Tryz.call172 Tryz.func172 rfl rfl ?_
 refine And.intro (inI64 (by omega) (by omega)) ?_
 conv => whnf
 refine CallC.nl _ (SplitN_fn t c m (by omega) hm) ?_ ?_
 · exact rfl
 refine Grd.intro (fun h1 => ?_) (fun h1 => ?_)
 · have h1 : ¬ (Lib.splitN t [c] (m + 1)).length = m := by
    have h : (!decide ((((Lib.splitN t [c] (m + 1)).length : Nat) : Int) = (m : Int))) = true := h1
    simp at h; omega
   rw [hn (by unfold numsK; rw [if_neg (fun h => h1 (hsl.2 h.1))])]
   exact And.intro trivial (AVle.refl _)
 have h1 : (Lib.splitN t [c] (m + 1)).length = m := by
  have h : (!decide ((((Lib.splitN t [c] (m + 1)).length : Nat) : Int) = (m : Int))) = false := h1
  simp at h; omega
 have hcm := hsl.1 h1
 rw [splitN_eq c t m hcm]
 have hcl := cutP_len c t []
 have hpl : ∀ x ∈ cutP c [] t, x.length ≤ t.length := fun x hx => by have := cutP_piece c t [] x hx; simpa using this
 obtain ⟨P, hP⟩ : ∃ P, P = cutP c [] t := ⟨_, rfl⟩
 rw [← hP]
 rw [← hP] at hcm hcl hpl
 have hK : numsK c m t = if P.all numOk = true then some (P.map atoiV) else none := by
  unfold numsK; rw [← hP]
  by_cases h : P.all numOk = true
  · rw [if_pos ⟨hcm, h⟩, if_pos h]
  · rw [if_neg (fun q => h q.2), if_neg h]
 refine LoopC.mk (fun i : Nat => i ≤ P.length ∧ ∀ j, j < i → numOk (ix P j) = true) (fun i => [(9, .osl 0), (24, txts P), (25, .int .i64 P.length), (26, .int .i64 i)])
  (fun i => [(0, .arr 3 1 ((P.take i).map atoiV).length fun j => [.int .i64 (ix ((P.take i).map atoiV) j)])]) 1 (fun i => P.length - i) 0
  ⟨⟨Nat.zero_le _, fun j hj => absurd hj (Nat.not_lt_zero j)⟩, [(0, 0)], rfl, rfl, ⟨AVle.refl _, AVle.refl _, AVle.refl _, AVle.refl _, trivial⟩, ⟨MOle.arr rfl fun i hi => absurd hi (Nat.not_lt_zero i), trivial⟩⟩ ?_
 intro i hi
 obtain ⟨hi, hall⟩ := hi
 refine Grd.intro (fun h2 => ?_) (fun h2 => ?_)
 · have hin : i < P.length := by have := of_decide_eq_true h2; omega
   refine And.intro (by omega) ?_
   conv => whnf
   refine CallC.sca _ (number_fn (ix P i) (by have := hpl _ (getD_mem hin); omega)) ?_ ?_
   · exact rfl
   refine Grd.intro (fun h3 => ?_) (fun h3 => ?_)
   · have h3 : numOk (ix P i) = false := by simpa using (show (!numOk (ix P i)) = true from h3)
     have : ¬ P.all numOk = true := fun h => by rw [List.all_eq_true.1 h _ (getD_mem hin)] at h3; cases h3
     rw [hn (by rw [hK, if_neg this])]
     exact And.intro trivial (AVle.refl _)
   have h3 : numOk (ix P i) = true := by simpa using (show (!numOk (ix P i)) = false from h3)
   refine And.intro ⟨show (((P.take i).map atoiV).length + 1) * 8 ≤ 140737488355328 by simp; omega, all1 rfl⟩ ?_
   refine And.intro (inI64 (by omega) (by omega)) ?_
   refine ⟨i + 1, ⟨hin, fun j hj => ?_⟩, by omega, [(2, 0)], rfl, rfl, ⟨AVle.refl _, AVle.refl _, AVle.refl _, AVle.of_eq (congrArg (AV.int .i64) (by simp)), trivial⟩, ⟨arr_next (f := fun x => [.int .i64 x]) (map_take_snoc hin) rfl, trivial⟩⟩
   rcases Nat.lt_or_ge j i with h' | h'
   · exact hall j h'
   · rw [show j = i by omega]; exact h3
 · have : i = P.length := by have := of_decide_eq_false h2; omega
   subst this
   have e : P.take P.length = P := List.take_of_length_le (Nat.le_refl _)
   have hA : P.all numOk = true := List.all_eq_true.2 fun x hx => by
    obtain ⟨j, hj, q⟩ := List.getElem_of_mem hx
    have := hall j hj
    rw [ix_lt hj, q] at this; exact this
   rw [hy _ (by rw [hK, if_pos hA]), e]
   exact And.intro trivial (AVle.refl _)
theorem numbers_yes (t : List UInt8) (c : UInt8) (m : Nat) (hl : t.length ≤ 1000000000) (hm : m ≤ 1000000) {N : List Int} (h : numsK c m t = some N) : VFn Tryz.prog 172 [.str (B t), .str (B [c]), .int .i64 (m : Int)] (.tup [ints N, .bool true]) :=
 numbers_gen t c m hl hm _ (fun N' h' => by rw [h] at h'; cases h'; rfl) (fun h' => by rw [h] at h'; cases h')
theorem numbers_no (t : List UInt8) (c : UInt8) (m : Nat) (hl : t.length ≤ 1000000000) (hm : m ≤ 1000000) (h : numsK c m t = none) : VFn Tryz.prog 172 [.str (B t), .str (B [c]), .int .i64 (m : Int)] (.tup [.nilsl, .bool false]) :=
 numbers_gen t c m hl hm _ (fun N' h' => by rw [h] at h'; cases h') (fun h' => rfl)
theorem nbOk_no {neg : Bool} {b : List UInt8} (h : 18 < b.length ∨ (b.headD 0 = 48 ∧ (1 < b.length ∨ neg = true)) ∨ b.all dig = false) : nbOk neg b = false := by
 cases hb : nbOk neg b
 · rfl
 · obtain ⟨_, h2, h3, h4⟩ := nbOk_iff.1 hb
   rcases h with h | ⟨h, h'⟩ | h
   · omega
   · obtain ⟨h5, h6⟩ := h3 h
     rcases h' with h' | h'
     · exact absurd h' h5
     · rw [h6] at h'; cases h'
   · rw [h4] at h; cases h
theorem l00Neg_fn (b : List UInt8) (hl : b.length ≤ 1000000000) (hb0 : b ≠ []) (R : AV) (hy : numOk (45 :: b) = true → R = .tup [.int .i64 (-(numB 0 b : Int)), .bool true]) (hn : numOk (45 :: b) = false → R = .tup [.int .i64 0, .bool false]) : VFn Tryz.prog 237 [.str (B (45 :: b))] R := by
 have hk := numOk_neg b
 have hsz : ((B (45 :: b)).size : Int) = b.length + 1 := by rw [B_size]; rfl
 refine VFn.introC Tryz.call237 Tryz.func237 rfl rfl ?_
 refine Grd.intro (fun g1 => ?_) (fun g1 => absurd (of_decide_eq_false g1) (by omega))
 refine And.intro ⟨by omega, by omega⟩ ?_
 refine And.intro ⟨by omega, by omega⟩ ?_
 refine force_to (congrArg AV.str (show (B (45 :: b)).extract (Int.toNat 1) (B (45 :: b)).size = B b by rw [B_extract, B_size]; simp)) ?_
 have hno : nbOk true b = false → numOk (45 :: b) = false := fun h => hk.1.trans h
 refine Grd.intro (fun h1 => ?_) (fun h1 => ?_)
 · have hb0' : b = [] := by have h : (((B b).size : Nat) : Int) = 0 := of_decide_eq_true h1; rw [B_size] at h; exact List.length_eq_zero_iff.1 (by omega)
   exact absurd hb0' hb0
 have hb1 : 1 ≤ b.length := by cases hbb : b with | nil => exact absurd hbb hb0 | cons _ _ => simp
 refine Grd.intro (fun h2 => ?_) (fun h2 => ?_)
 · have hb2 : 18 < b.length := by have h : (18 : Int) < (((B b).size : Nat) : Int) := of_decide_eq_true h2; rw [B_size] at h; omega
   rw [hn (hno (nbOk_no (.inl hb2)))]
   exact And.intro trivial (AVle.refl _)
 have hb2 : b.length ≤ 18 := by have h : ¬ (18 : Int) < (((B b).size : Nat) : Int) := of_decide_eq_false h2; rw [B_size] at h; omega
 refine And.intro ⟨by omega, by rw [B_size]; omega⟩ ?_
 have hix : (B b).data.toList.getD (Int.toNat 0) 0 = b.headD 0 := by rw [B_data]; cases b <;> rfl
 refine Grd.intro (fun h3 => ?_) (fun h3 => ?_)
 · have h3 : b.headD 0 = 48 := hix.symm.trans (UInt8.toNat_inj.1 (by have h : (((B b).data.toList.getD (Int.toNat 0) 0).toNat : Int) = 48 := of_decide_eq_true h3; exact Int.ofNat.inj h))
   refine Grd.intro (fun h4 => ?_) (fun h4 => ?_)
   · have h4 : 1 < b.length := by have h : (1 : Int) < (((B b).size : Nat) : Int) := of_decide_eq_true h4; rw [B_size] at h; omega
     rw [hn (hno (nbOk_no (.inr (.inl ⟨h3, .inl h4⟩))))]
     exact And.intro trivial (AVle.refl _)
   have h4 : ¬ 1 < b.length := by have h : ¬ (1 : Int) < (((B b).size : Nat) : Int) := of_decide_eq_false h4; rw [B_size] at h; omega
   rw [hn (hno (nbOk_no (.inr (.inl ⟨h3, .inr rfl⟩))))]
   exact And.intro trivial (AVle.refl _)
 · have h3 : b.headD 0 ≠ 48 := fun e => (of_decide_eq_false (p := ((((B b).data.toList.getD (Int.toNat 0) 0).toNat : Nat) : Int) = 48) h3) (by rw [hix, e]; rfl)
   have hgood : b.all dig = true → R = .tup [.int .i64 ((-1) * (numB 0 b : Int)), .bool true] := fun h => (hy (hk.1.trans (nbOk_iff.2 ⟨hb0, hb2, (fun e => absurd e h3), h⟩))).trans (congrArg (fun z => AV.tup [AV.int .i64 z, AV.bool true]) (by omega))
   refine LoopC.mk (fun i : Nat => i ≤ b.length ∧ (b.take i).all dig = true ∧ numB 0 (b.take i) < 10 ^ i) (fun i => [(0, .str (B b)), (4, .int .i64 (-1)), (5, .int .i64 (numB 0 (b.take i))), (6, .int .i64 i)]) (fun _ => []) 0 (fun i => b.length - i) 0
    ⟨⟨by omega, rfl, Nat.one_pos⟩, [], rfl, rfl, ⟨AVle.refl _, AVle.refl _, AVle.refl _, AVle.refl _, trivial⟩, trivial⟩ ?_
   intro i hi
   obtain ⟨hi1, hi2, hi3⟩ := hi
   refine Grd.intro (fun h5 => ?_) (fun h5 => ?_)
   · have hin : i < b.length := by have h : (i : Int) < (((B b).size : Nat) : Int) := of_decide_eq_true h5; rw [B_size] at h; omega
     have hp := pow_le18 (i := i) (by omega)
     have bad : dig (ix b i) = false → R = .tup [.int .i64 0, .bool false] := fun h => hn (hno (nbOk_no (.inr (.inr (by
      rw [← Bool.not_eq_true]
      intro h'
      rw [List.all_eq_true.1 h' _ (getD_mem hin)] at h; cases h)))))
     refine And.intro ⟨by omega, by rw [B_size]; omega⟩ ?_
     refine Grd.intro (fun h6 => ?_) (fun h6 => ?_)
     · have h6 : ((ix b i).toNat : Int) < 48 := of_decide_eq_true h6
       rw [bad (decide_eq_false (by omega))]
       exact And.intro trivial (AVle.refl _)
     have h6 : ¬ ((ix b i).toNat : Int) < 48 := of_decide_eq_false h6
     refine And.intro ⟨by omega, by rw [B_size]; omega⟩ ?_
     refine Grd.intro (fun h7 => ?_) (fun h7 => ?_)
     · have h7 : (57 : Int) < ((ix b i).toNat : Int) := of_decide_eq_true h7
       rw [bad (decide_eq_false (by omega))]
       exact And.intro trivial (AVle.refl _)
     have h7 : ¬ (57 : Int) < ((ix b i).toNat : Int) := of_decide_eq_false h7
     have hd : dig (ix b i) = true := decide_eq_true (by omega)
     have hnt := numB_take hin
     refine And.intro (inI64 (by omega) (by omega)) ?_
     refine And.intro ⟨by omega, by rw [B_size]; omega⟩ ?_
     refine And.intro (show inI .i64 ((ix b i).toNat : Int) from inI64 (by omega) (by omega)) ?_
     refine And.intro (show inI .i64 ((numB 0 (b.take i) : Int) * 10 + ((ix b i).toNat : Int)) from inI64 (by omega) (by omega)) ?_
     refine And.intro (show inI .i64 ((numB 0 (b.take i) : Int) * 10 + ((ix b i).toNat : Int) - 48) from inI64 (by omega) (by omega)) ?_
     refine And.intro (inI64 (by omega) (by omega)) ?_
     refine ⟨i + 1, ⟨hin, ?_, ?_⟩, by omega, [], rfl, rfl, ⟨AVle.refl _, AVle.refl _, AVle.of_eq (congrArg (AV.int .i64) (show (numB 0 (b.take i) : Int) * 10 + ((ix b i).toNat : Int) - 48 = _ by rw [hnt]; omega)), AVle.of_eq (congrArg (AV.int .i64) (by simp)), trivial⟩, trivial⟩
     · rw [take_snoc hin, List.all_append, hi2]; simp [hd]
     · rw [hnt, Nat.pow_succ]; omega
   · have : i = b.length := by have h : ¬ (i : Int) < (((B b).size : Nat) : Int) := of_decide_eq_false h5; rw [B_size] at h; omega
     subst this
     rw [List.take_of_length_le (Nat.le_refl _)] at hi2
     have hN := numB_18 hi2 hb2
     have e : b.take b.length = b := List.take_of_length_le (Nat.le_refl _)
     refine And.intro (show inI .i64 ((-1) * (numB 0 (b.take b.length) : Int)) from inI64 (by rw [e]; omega) (by rw [e]; omega)) ?_
     rw [hgood hi2]
     exact And.intro trivial (AVle.of_eq (congrArg (fun z => AV.tup [AV.int .i64 z, AV.bool true]) (show (-1) * (numB 0 (b.take b.length) : Int) = _ by rw [e])))
theorem l00Pos_fn (b : List UInt8) (hl : b.length ≤ 1000000000) (hb0 : b ≠ []) (hh : b.headD 0 ≠ 45) (R : AV) (hy : numOk b = true → R = .tup [.int .i64 (numB 0 b : Int), .bool true]) (hn : numOk b = false → R = .tup [.int .i64 0, .bool false]) : VFn Tryz.prog 237 [.str (B b)] R := by
 have hk := numOk_pos hh
 have hlen : 1 ≤ b.length := by cases hbb : b with | nil => exact absurd hbb hb0 | cons _ _ => simp
 refine VFn.introC Tryz.call237 Tryz.func237 rfl rfl ?_
 refine Grd.intro (fun g1 => ?_) (fun g1 => absurd (of_decide_eq_false (p := (0 : Int) < (((B b).size : Nat) : Int)) g1) (fun h => h (by rw [B_size]; omega)))
 refine And.intro ⟨by omega, by rw [B_size]; omega⟩ ?_
 have hix : (B b).data.toList.getD (Int.toNat 0) 0 = b.headD 0 := by rw [B_data]; cases b <;> rfl
 refine Grd.intro (fun g2 => absurd (hix.symm.trans (UInt8.toNat_inj.1 (by have h : (((B b).data.toList.getD (Int.toNat 0) 0).toNat : Int) = 45 := of_decide_eq_true g2; exact Int.ofNat.inj h))) hh) (fun g2 => ?_)
 have hno : nbOk false b = false → numOk b = false := fun h => hk.1.trans h
 refine Grd.intro (fun h1 => ?_) (fun h1 => ?_)
 · have hb0' : b = [] := by have h : (((B b).size : Nat) : Int) = 0 := of_decide_eq_true h1; rw [B_size] at h; exact List.length_eq_zero_iff.1 (by omega)
   exact absurd hb0' hb0
 have hb1 : 1 ≤ b.length := by cases hbb : b with | nil => exact absurd hbb hb0 | cons _ _ => simp
 refine Grd.intro (fun h2 => ?_) (fun h2 => ?_)
 · have hb2 : 18 < b.length := by have h : (18 : Int) < (((B b).size : Nat) : Int) := of_decide_eq_true h2; rw [B_size] at h; omega
   rw [hn (hno (nbOk_no (.inl hb2)))]
   exact And.intro trivial (AVle.refl _)
 have hb2 : b.length ≤ 18 := by have h : ¬ (18 : Int) < (((B b).size : Nat) : Int) := of_decide_eq_false h2; rw [B_size] at h; omega
 refine And.intro ⟨by omega, by rw [B_size]; omega⟩ ?_
 have hix : (B b).data.toList.getD (Int.toNat 0) 0 = b.headD 0 := by rw [B_data]; cases b <;> rfl
 refine Grd.intro (fun h3 => ?_) (fun h3 => ?_)
 · have h3 : b.headD 0 = 48 := hix.symm.trans (UInt8.toNat_inj.1 (by have h : (((B b).data.toList.getD (Int.toNat 0) 0).toNat : Int) = 48 := of_decide_eq_true h3; exact Int.ofNat.inj h))
   refine Grd.intro (fun h4 => ?_) (fun h4 => ?_)
   · have h4 : 1 < b.length := by have h : (1 : Int) < (((B b).size : Nat) : Int) := of_decide_eq_true h4; rw [B_size] at h; omega
     rw [hn (hno (nbOk_no (.inr (.inl ⟨h3, .inl h4⟩))))]
     exact And.intro trivial (AVle.refl _)
   have h4 : ¬ 1 < b.length := by have h : ¬ (1 : Int) < (((B b).size : Nat) : Int) := of_decide_eq_false h4; rw [B_size] at h; omega
   have hgood : b.all dig = true → R = .tup [.int .i64 (1 * (numB 0 b : Int)), .bool true] := fun h => (hy (hk.1.trans (nbOk_iff.2 ⟨hb0, hb2, (fun _ => ⟨h4, rfl⟩), h⟩))).trans (congrArg (fun z => AV.tup [AV.int .i64 z, AV.bool true]) (by omega))
   refine LoopC.mk (fun i : Nat => i ≤ b.length ∧ (b.take i).all dig = true ∧ numB 0 (b.take i) < 10 ^ i) (fun i => [(0, .str (B b)), (4, .int .i64 1), (5, .int .i64 (numB 0 (b.take i))), (6, .int .i64 i)]) (fun _ => []) 0 (fun i => b.length - i) 0
    ⟨⟨by omega, rfl, Nat.one_pos⟩, [], rfl, rfl, ⟨AVle.refl _, AVle.refl _, AVle.refl _, AVle.refl _, trivial⟩, trivial⟩ ?_
   intro i hi
   obtain ⟨hi1, hi2, hi3⟩ := hi
   refine Grd.intro (fun h5 => ?_) (fun h5 => ?_)
   · have hin : i < b.length := by have h : (i : Int) < (((B b).size : Nat) : Int) := of_decide_eq_true h5; rw [B_size] at h; omega
     have hp := pow_le18 (i := i) (by omega)
     have bad : dig (ix b i) = false → R = .tup [.int .i64 0, .bool false] := fun h => hn (hno (nbOk_no (.inr (.inr (by
      rw [← Bool.not_eq_true]
      intro h'
      rw [List.all_eq_true.1 h' _ (getD_mem hin)] at h; cases h)))))
     refine And.intro ⟨by omega, by rw [B_size]; omega⟩ ?_
     refine Grd.intro (fun h6 => ?_) (fun h6 => ?_)
     · have h6 : ((ix b i).toNat : Int) < 48 := of_decide_eq_true h6
       rw [bad (decide_eq_false (by omega))]
       exact And.intro trivial (AVle.refl _)
     have h6 : ¬ ((ix b i).toNat : Int) < 48 := of_decide_eq_false h6
     refine And.intro ⟨by omega, by rw [B_size]; omega⟩ ?_
     refine Grd.intro (fun h7 => ?_) (fun h7 => ?_)
     · have h7 : (57 : Int) < ((ix b i).toNat : Int) := of_decide_eq_true h7
       rw [bad (decide_eq_false (by omega))]
       exact And.intro trivial (AVle.refl _)
     have h7 : ¬ (57 : Int) < ((ix b i).toNat : Int) := of_decide_eq_false h7
     have hd : dig (ix b i) = true := decide_eq_true (by omega)
     have hnt := numB_take hin
     refine And.intro (inI64 (by omega) (by omega)) ?_
     refine And.intro ⟨by omega, by rw [B_size]; omega⟩ ?_
     refine And.intro (show inI .i64 ((ix b i).toNat : Int) from inI64 (by omega) (by omega)) ?_
     refine And.intro (show inI .i64 ((numB 0 (b.take i) : Int) * 10 + ((ix b i).toNat : Int)) from inI64 (by omega) (by omega)) ?_
     refine And.intro (show inI .i64 ((numB 0 (b.take i) : Int) * 10 + ((ix b i).toNat : Int) - 48) from inI64 (by omega) (by omega)) ?_
     refine And.intro (inI64 (by omega) (by omega)) ?_
     refine ⟨i + 1, ⟨hin, ?_, ?_⟩, by omega, [], rfl, rfl, ⟨AVle.refl _, AVle.refl _, AVle.of_eq (congrArg (AV.int .i64) (show (numB 0 (b.take i) : Int) * 10 + ((ix b i).toNat : Int) - 48 = _ by rw [hnt]; omega)), AVle.of_eq (congrArg (AV.int .i64) (by simp)), trivial⟩, trivial⟩
     · rw [take_snoc hin, List.all_append, hi2]; simp [hd]
     · rw [hnt, Nat.pow_succ]; omega
   · have : i = b.length := by have h : ¬ (i : Int) < (((B b).size : Nat) : Int) := of_decide_eq_false h5; rw [B_size] at h; omega
     subst this
     rw [List.take_of_length_le (Nat.le_refl _)] at hi2
     have hN := numB_18 hi2 hb2
     have e : b.take b.length = b := List.take_of_length_le (Nat.le_refl _)
     refine And.intro (show inI .i64 (1 * (numB 0 (b.take b.length) : Int)) from inI64 (by rw [e]; omega) (by rw [e]; omega)) ?_
     rw [hgood hi2]
     exact And.intro trivial (AVle.of_eq (congrArg (fun z => AV.tup [AV.int .i64 z, AV.bool true]) (show 1 * (numB 0 (b.take b.length) : Int) = _ by rw [e])))
 · have h3 : b.headD 0 ≠ 48 := fun e => (of_decide_eq_false (p := ((((B b).data.toList.getD (Int.toNat 0) 0).toNat : Nat) : Int) = 48) h3) (by rw [hix, e]; rfl)
   have hgood : b.all dig = true → R = .tup [.int .i64 (1 * (numB 0 b : Int)), .bool true] := fun h => (hy (hk.1.trans (nbOk_iff.2 ⟨hb0, hb2, (fun e => absurd e h3), h⟩))).trans (congrArg (fun z => AV.tup [AV.int .i64 z, AV.bool true]) (by omega))
   refine LoopC.mk (fun i : Nat => i ≤ b.length ∧ (b.take i).all dig = true ∧ numB 0 (b.take i) < 10 ^ i) (fun i => [(0, .str (B b)), (4, .int .i64 1), (5, .int .i64 (numB 0 (b.take i))), (6, .int .i64 i)]) (fun _ => []) 0 (fun i => b.length - i) 0
    ⟨⟨by omega, rfl, Nat.one_pos⟩, [], rfl, rfl, ⟨AVle.refl _, AVle.refl _, AVle.refl _, AVle.refl _, trivial⟩, trivial⟩ ?_
   intro i hi
   obtain ⟨hi1, hi2, hi3⟩ := hi
   refine Grd.intro (fun h5 => ?_) (fun h5 => ?_)
   · have hin : i < b.length := by have h : (i : Int) < (((B b).size : Nat) : Int) := of_decide_eq_true h5; rw [B_size] at h; omega
     have hp := pow_le18 (i := i) (by omega)
     have bad : dig (ix b i) = false → R = .tup [.int .i64 0, .bool false] := fun h => hn (hno (nbOk_no (.inr (.inr (by
      rw [← Bool.not_eq_true]
      intro h'
      rw [List.all_eq_true.1 h' _ (getD_mem hin)] at h; cases h)))))
     refine And.intro ⟨by omega, by rw [B_size]; omega⟩ ?_
     refine Grd.intro (fun h6 => ?_) (fun h6 => ?_)
     · have h6 : ((ix b i).toNat : Int) < 48 := of_decide_eq_true h6
       rw [bad (decide_eq_false (by omega))]
       exact And.intro trivial (AVle.refl _)
     have h6 : ¬ ((ix b i).toNat : Int) < 48 := of_decide_eq_false h6
     refine And.intro ⟨by omega, by rw [B_size]; omega⟩ ?_
     refine Grd.intro (fun h7 => ?_) (fun h7 => ?_)
     · have h7 : (57 : Int) < ((ix b i).toNat : Int) := of_decide_eq_true h7
       rw [bad (decide_eq_false (by omega))]
       exact And.intro trivial (AVle.refl _)
     have h7 : ¬ (57 : Int) < ((ix b i).toNat : Int) := of_decide_eq_false h7
     have hd : dig (ix b i) = true := decide_eq_true (by omega)
     have hnt := numB_take hin
     refine And.intro (inI64 (by omega) (by omega)) ?_
     refine And.intro ⟨by omega, by rw [B_size]; omega⟩ ?_
     refine And.intro (show inI .i64 ((ix b i).toNat : Int) from inI64 (by omega) (by omega)) ?_
     refine And.intro (show inI .i64 ((numB 0 (b.take i) : Int) * 10 + ((ix b i).toNat : Int)) from inI64 (by omega) (by omega)) ?_
     refine And.intro (show inI .i64 ((numB 0 (b.take i) : Int) * 10 + ((ix b i).toNat : Int) - 48) from inI64 (by omega) (by omega)) ?_
     refine And.intro (inI64 (by omega) (by omega)) ?_
     refine ⟨i + 1, ⟨hin, ?_, ?_⟩, by omega, [], rfl, rfl, ⟨AVle.refl _, AVle.refl _, AVle.of_eq (congrArg (AV.int .i64) (show (numB 0 (b.take i) : Int) * 10 + ((ix b i).toNat : Int) - 48 = _ by rw [hnt]; omega)), AVle.of_eq (congrArg (AV.int .i64) (by simp)), trivial⟩, trivial⟩
     · rw [take_snoc hin, List.all_append, hi2]; simp [hd]
     · rw [hnt, Nat.pow_succ]; omega
   · have : i = b.length := by have h : ¬ (i : Int) < (((B b).size : Nat) : Int) := of_decide_eq_false h5; rw [B_size] at h; omega
     subst this
     rw [List.take_of_length_le (Nat.le_refl _)] at hi2
     have hN := numB_18 hi2 hb2
     have e : b.take b.length = b := List.take_of_length_le (Nat.le_refl _)
     refine And.intro (show inI .i64 (1 * (numB 0 (b.take b.length) : Int)) from inI64 (by rw [e]; omega) (by rw [e]; omega)) ?_
     rw [hgood hi2]
     exact And.intro trivial (AVle.of_eq (congrArg (fun z => AV.tup [AV.int .i64 z, AV.bool true]) (show 1 * (numB 0 (b.take b.length) : Int) = _ by rw [e])))
theorem l00Nil_fn : VFn Tryz.prog 237 [.str (B [])] (.tup [.int .i64 0, .bool false]) := by
 refine VFn.introC Tryz.call237 Tryz.func237 rfl rfl ?_
 exact And.intro trivial (AVle.refl _)
theorem l00Min_fn : VFn Tryz.prog 237 [.str (B [45])] (.tup [.int .i64 0, .bool false]) := by
 refine VFn.introC Tryz.call237 Tryz.func237 rfl rfl ?_
 refine And.intro ⟨by decide, by decide⟩ ?_
 refine And.intro ⟨by decide, by decide⟩ ?_
 exact And.intro trivial (AVle.refl _)
theorem l00Number_fn (t : List UInt8) (hl : t.length ≤ 1000000000) : VFn Tryz.prog 237 [.str (B t)] (.tup [.int .i64 (if numOk t = true then atoiV t else 0), .bool (numOk t)]) := by
 cases t with
 | nil => rw [show numOk [] = false by decide]; exact l00Nil_fn
 | cons c b =>
   by_cases hc : c = 45
   · subst hc
     by_cases hb : b = []
     · subst hb; rw [show numOk [45] = false by decide]; exact l00Min_fn
     · exact l00Neg_fn b (by simp at hl; omega) hb _ (fun h => by rw [h, if_pos rfl, (numOk_neg b).2 h]) (fun h => by rw [h, if_neg (by simp)])
   · exact l00Pos_fn (c :: b) hl (by simp) hc _ (fun h => by rw [h, if_pos rfl, (numOk_pos (t := c :: b) hc).2 h]) (fun h => by rw [h, if_neg (by simp)])
end Go.Proofs.YtnplgeogieoioaaGreatDoor
