/- Contracts of functions that the claim reaches, and the plain law of what they compute; each theorem bears its own conditions. -/
import Derived.Test.YtnplgeogieoioaaGreatDoorQ3
import Derived.Test.YtnplgeogieoioaaGreatDoorQ1
import Derived.WalkSmall
import Derived.Test.YtnplgeogieoioaaGreatDoorV52
import Derived.Test.YtnplgeogieoioaaGreatDoorQ2
set_option linter.unusedVariables false
set_option linter.constructorNameAsVariable false
set_option linter.unusedSimpArgs false
set_option maxRecDepth 20000
namespace Go.Proofs.YtnplgeogieoioaaGreatDoor
open Go Go.Vw
def readP : List (List UInt8) → Option Rc
 | [a, b] => (match numsK 44 5 a with
   | some [k, tok, tier, f, e] => if Rc.ok ⟨k, tok, tier, f, e, b⟩ = true then some ⟨k, tok, tier, f, e, b⟩ else none
   | _ => none)
 | _ => none
def readR (t : List UInt8) : Option Rc := readP (cutP 32 [] t)
theorem readR_ok {t : List UInt8} {r : Rc} (h : readR t = some r) : r.ok = true := by
 unfold readR readP at h
 split at h
 · split at h
   · split at h
     · cases h; assumption
     · cases h
   · cases h
 · cases h
def Sta.tick (s : Sta) : Sta := { s with seq := s.seq + 1 }
def Sta.lift (s : Sta) (k v : Int) : Sta := if k = 0 then { s with h0 := v } else if k = 1 then { s with h1 := v } else { s with h2 := v }
def Sta.lower (s : Sta) (k v : Int) : Sta := if k = 0 then { s with l0 := v } else if k = 1 then { s with l1 := v } else { s with l2 := v }
def noE (k : List UInt8) (L : List En) : List En := L.filter fun e => !decide (e.key = k)
def noT (k : List UInt8) (L : List Tb) : List Tb := L.filter fun e => !decide (e.key = k)
def Sta.app (s : Sta) (r : Rc) : Sta :=
 if s.takes r = true then
  if r.k = 1 ∨ r.k = 3 then ({ s.tick with es := s.es ++ [r.en] } : Sta).lift r.tier r.t
  else if r.k = 2 then { s.tick with fence := r.tok }
  else if r.k = 4 then ({ s.tick with es := noE r.key s.es, ts := s.ts ++ [⟨s.seq + 1, r.key⟩] } : Sta).lower r.tier r.t
  else { s.tick with ts := noT r.key s.ts }
 else s.tick
theorem lift_es (s : Sta) (k v : Int) : (s.lift k v).es = s.es ∧ (s.lift k v).ts = s.ts ∧ (s.lift k v).seq = s.seq ∧ (s.lift k v).fence = s.fence := by
 unfold Sta.lift; split
 · exact ⟨rfl, rfl, rfl, rfl⟩
 · split <;> exact ⟨rfl, rfl, rfl, rfl⟩
theorem lower_es (s : Sta) (k v : Int) : (s.lower k v).es = s.es ∧ (s.lower k v).ts = s.ts ∧ (s.lower k v).seq = s.seq ∧ (s.lower k v).fence = s.fence := by
 unfold Sta.lower; split
 · exact ⟨rfl, rfl, rfl, rfl⟩
 · split <;> exact ⟨rfl, rfl, rfl, rfl⟩
theorem app_seq (s : Sta) (r : Rc) : (s.app r).seq = s.seq + 1 := by
 unfold Sta.app
 split
 · split
   · rw [(lift_es _ _ _).2.2.1]; rfl
   · split
     · rfl
     · split
       · rw [(lower_es _ _ _).2.2.1]; rfl
       · rfl
 · rfl
theorem noE_len (k : List UInt8) (L : List En) : (noE k L).length ≤ L.length := List.length_filter_le _ _
theorem noT_len (k : List UInt8) (L : List Tb) : (noT k L).length ≤ L.length := List.length_filter_le _ _
theorem has_iff (s : Sta) (k : List UInt8) : s.has k = true ↔ k ∈ s.keys := by
 unfold Sta.has Sta.tombAt Sta.keys
 rw [fi_any]
 simp only [Bool.or_eq_true, List.any_eq_true, decide_eq_true_eq, List.mem_append, List.mem_map]
theorem headIs_mem {L : List En} {k : Int} {e : En} (h : headIs (ofT L k) e = true) : e ∈ L := by
 unfold headIs at h
 cases hl : ofT L k with
 | nil => rw [hl] at h; cases h
 | cons x r =>
   rw [hl] at h
   have hx : x = e := of_decide_eq_true h
   have : x ∈ ofT L k := by rw [hl]; simp
   rw [← hx]
   exact (List.mem_filter.1 this).1
theorem takes_k {s : Sta} {r : Rc} (h : s.takes r = true) (hk : r.k = 1 ∨ r.k = 3) : s.has r.key = false := by
 unfold Sta.takes at h
 rcases hk with hk | hk
 · rw [if_pos hk] at h
   simp only [Bool.and_eq_true, Bool.not_eq_true'] at h
   exact h.2.2
 · rw [if_neg (by omega), if_neg (by omega), if_pos hk] at h
   simp only [Bool.and_eq_true, Bool.not_eq_true'] at h
   exact h.2.2.2.2.2.2.2
theorem takes_4 {s : Sta} {r : Rc} (h : s.takes r = true) (hk : r.k = 4) : headIs (ofT s.es r.tier) r.en = true := by
 unfold Sta.takes at h
 rw [if_neg (by omega), if_neg (by omega), if_neg (by omega), if_pos hk] at h
 simp only [Bool.and_eq_true] at h
 exact h.2.1
theorem appL_len (s : Sta) (r : Rc) : (s.app r).es.length + (s.app r).ts.length ≤ s.es.length + s.ts.length + 1 := by
 unfold Sta.app
 split
 · rename_i ht
   split
   · rw [(lift_es _ _ _).1, (lift_es _ _ _).2.1]
     show (s.es ++ [r.en]).length + s.ts.length ≤ _
     rw [List.length_append]; simp only [List.length_cons, List.length_nil]; omega
   · split
     · show s.es.length + s.ts.length ≤ _; omega
     · split
       · rw [(lower_es _ _ _).1, (lower_es _ _ _).2.1]
         show (noE r.key s.es).length + (s.ts ++ [(⟨s.seq + 1, r.key⟩ : Tb)]).length ≤ _
         have := noE_len r.key s.es
         rw [List.length_append]; simp only [List.length_cons, List.length_nil]; omega
       · show s.es.length + (noT r.key s.ts).length ≤ _
         have := noT_len r.key s.ts; omega
 · show s.es.length + s.ts.length ≤ _; omega
structure LogS (s : Sta) : Prop where
 nd : s.keys.Nodup
 kk : ∀ k ∈ s.keys, kOk k = true
theorem LogS.of {q : Sta} {K : List (List UInt8)} (e : q.keys = K) (h : K.Nodup ∧ ∀ k ∈ K, kOk k = true) : LogS q := ⟨e ▸ h.1, fun k hk => h.2 k (e ▸ hk)⟩
theorem nodup_snoc {α : Type} {L : List α} {a : α} (h : L.Nodup) (ha : a ∉ L) : (L ++ [a]).Nodup :=
 List.nodup_append.2 ⟨h, by simp, fun x hx y hy e => by
  have : y = a := by simpa using hy
  subst this; subst e; exact ha hx⟩
theorem noE_keys (k : List UInt8) (L : List En) : (noE k L).map (·.key) = (L.map (·.key)).filter fun x => !decide (x = k) := by
 unfold noE; rw [List.filter_map]; rfl
theorem noT_keys (k : List UInt8) (L : List Tb) : (noT k L).map (·.key) = (L.map (·.key)).filter fun x => !decide (x = k) := by
 unfold noT; rw [List.filter_map]; rfl
theorem app_log {s : Sta} {r : Rc} (h : LogS s) (hr : r.ok = true) : LogS (s.app r) := by
 obtain ⟨nd, kk⟩ := h
 have nd' := nd
 unfold Sta.keys at nd'
 have nda := List.nodup_append.1 nd'
 unfold Sta.app
 split
 · rename_i ht
   split
   · rename_i hk
     have hno := takes_k ht hk
     have hnk : r.key ∉ s.keys := fun h => by rw [(has_iff s r.key).2 h] at hno; cases hno
     have hok : kOk r.key = true := by
      unfold Rc.ok at hr
      rcases hk with hk | hk
      · rw [if_pos hk] at hr; simp [Rc.en, En.ok] at hr; exact hr.2.2.1
      · rw [if_neg (by omega), if_neg (by omega), if_pos hk] at hr; simp [Rc.en, En.ok] at hr; exact hr.2.2.1
     have e : ∀ q : Sta, q.es = s.es ++ [r.en] → q.ts = s.ts → q.keys = (s.es.map (·.key) ++ [r.key]) ++ s.ts.map (·.key) := fun q h1 h2 => by unfold Sta.keys; rw [h1, h2, List.map_append]; rfl
     refine LogS.of (e _ (lift_es _ _ _).1 (lift_es _ _ _).2.1) ?_
     have hm : r.key ∉ s.es.map (·.key) ∧ r.key ∉ s.ts.map (·.key) := ⟨fun h => hnk (List.mem_append.2 (.inl h)), fun h => hnk (List.mem_append.2 (.inr h))⟩
     refine ⟨List.nodup_append.2 ⟨nodup_snoc nda.1 hm.1, nda.2.1, fun x hx y hy => ?_⟩, fun k hk' => ?_⟩
     · rcases List.mem_append.1 hx with hx | hx
       · exact nda.2.2 x hx y hy
       · have : x = r.key := by simpa using hx
         subst this
         exact fun e => hm.2 (e ▸ hy)
     · rcases List.mem_append.1 hk' with hk' | hk'
       · rcases List.mem_append.1 hk' with hk' | hk'
         · exact kk k (List.mem_append.2 (.inl hk'))
         · have : k = r.key := by simpa using hk'
           rw [this]; exact hok
       · exact kk k (List.mem_append.2 (.inr hk'))
   · split
     · exact ⟨nd, kk⟩
     · split
       · rename_i hk1 hk2 hk4
         have hm := headIs_mem (takes_4 ht hk4)
         have hke : r.key ∈ s.es.map (·.key) := List.mem_map.2 ⟨_, hm, rfl⟩
         have hkt : r.key ∉ s.ts.map (·.key) := fun h => nda.2.2 _ hke _ h rfl
         have e : ∀ q : Sta, q.es = noE r.key s.es → q.ts = s.ts ++ [⟨s.seq + 1, r.key⟩] → q.keys = (s.es.map (·.key)).filter (fun x => !decide (x = r.key)) ++ (s.ts.map (·.key) ++ [r.key]) := fun q h1 h2 => by unfold Sta.keys; rw [h1, h2, List.map_append, noE_keys]; rfl
         refine LogS.of (e _ (lower_es _ _ _).1 (lower_es _ _ _).2.1) ?_
         refine ⟨List.nodup_append.2 ⟨nda.1.filter _, nodup_snoc nda.2.1 hkt, fun x hx y hy => ?_⟩, fun k hk' => ?_⟩
         · have hx' := List.mem_filter.1 hx
           rcases List.mem_append.1 hy with hy | hy
           · exact nda.2.2 x hx'.1 y hy
           · have : y = r.key := by simpa using hy
             subst this
             intro e; rw [e] at hx'; simp at hx'
         · rcases List.mem_append.1 hk' with hk' | hk'
           · exact kk k (List.mem_append.2 (.inl (List.mem_filter.1 hk').1))
           · rcases List.mem_append.1 hk' with hk' | hk'
             · exact kk k (List.mem_append.2 (.inr hk'))
             · have : k = r.key := by simpa using hk'
               rw [this]; exact kk _ (List.mem_append.2 (.inl hke))
       · have e : ∀ q : Sta, q.es = s.es → q.ts = noT r.key s.ts → q.keys = s.es.map (·.key) ++ (s.ts.map (·.key)).filter (fun x => !decide (x = r.key)) := fun q h1 h2 => by unfold Sta.keys; rw [h1, h2, noT_keys]
         refine LogS.of (e _ rfl rfl) ?_
         refine ⟨List.nodup_append.2 ⟨nda.1, nda.2.1.filter _, fun x hx y hy => nda.2.2 x hx y (List.mem_filter.1 hy).1⟩, fun k hk' => ?_⟩
         rcases List.mem_append.1 hk' with hk' | hk'
         · exact kk k (List.mem_append.2 (.inl hk'))
         · exact kk k (List.mem_append.2 (.inr (List.mem_filter.1 hk').1))
 · exact ⟨nd, kk⟩
theorem nodup_le {α : Type} [DecidableEq α] : ∀ (L M : List α), L.Nodup → (∀ x ∈ L, x ∈ M) → L.length ≤ M.length
 | [], _, _, _ => Nat.zero_le _
 | a :: l, M, h, hm => by
   have h' := List.nodup_cons.1 h
   have ha := hm a (by simp)
   have := nodup_le l (M.erase a) h'.2 fun x hx => (List.mem_erase_of_ne (fun e => h'.1 (by rw [← e]; exact hx))).2 (hm x (by simp [hx]))
   rw [List.length_erase_of_mem ha] at this
   have hp : 0 < M.length := List.length_pos_of_mem ha
   simp only [List.length_cons]; omega
theorem has_mem {x : Sto} {k : List UInt8} (h : x.has k = true) : k ∈ x.os.map (·.key) := by
 obtain ⟨h1, h2⟩ := hasK_at h
 exact List.mem_map.2 ⟨_, getD_mem h1, h2⟩
theorem manK_inj {a b : Nat} (ha : a ≤ 999999) (hb : b ≤ 999999) (h : manK (a : Int) = manK (b : Int)) : a = b := by
 unfold manK at h
 have := List.append_cancel_left h
 exact six6_inj (by omega) (by omega) (by simpa using this)
theorem log_len {x : Sto} {n : Nat} (hn : n ≤ 999998) (h : ∀ j, j < n → x.has (manK ((j + 1 : Nat) : Int)) = true) : n ≤ x.os.length := by
 have := nodup_le ((List.range n).map fun j => manK ((j + 1 : Nat) : Int)) (x.os.map (·.key)) ?_ ?_
 · simpa using this
 · refine List.pairwise_map.2 (List.Pairwise.imp_of_mem (fun {a b} ha hb hne e => ?_) (List.nodup_range (n := n)))
   have := List.mem_range.1 ha
   have := List.mem_range.1 hb
   have := manK_inj (by omega) (by omega) e
   exact hne (by omega)
 · intro k hk
   obtain ⟨j, hj, rfl⟩ := List.mem_map.1 hk
   exact has_mem (h j (List.mem_range.1 hj))
def sta0 : Sta := ⟨0, 0, [], [], 0, 0, 0, 0, 0, 0⟩
def recAt (x : Sto) (n : Int) : Option Rc := readR (x.get (manK n)).data
def stepL (x : Sto) (s : Sta) : Sta := match recAt x (s.seq + 1) with | none => s.tick | some r => s.app r
def logN (x : Sto) : Nat → Sta
 | 0 => sta0
 | n + 1 => stepL x (logN x n)
theorem logN_seq (x : Sto) : ∀ n, (logN x n).seq = (n : Int)
 | 0 => rfl
 | n + 1 => by
   have ih := logN_seq x n
   show (stepL x (logN x n)).seq = _
   unfold stepL
   split
   · show (logN x n).seq + 1 = _; rw [ih]; simp
   · rw [app_seq, ih]; simp
theorem logN_len (x : Sto) : ∀ n, (logN x n).es.length + (logN x n).ts.length ≤ n
 | 0 => Nat.le_refl _
 | n + 1 => by
   have ih := logN_len x n
   show (stepL x (logN x n)).es.length + (stepL x (logN x n)).ts.length ≤ _
   unfold stepL
   split
   · show (logN x n).es.length + (logN x n).ts.length ≤ _; omega
   · rename_i r _
     have := appL_len (logN x n) r; omega
theorem logN_log (x : Sto) : ∀ n, LogS (logN x n)
 | 0 => ⟨by simp [logN, sta0, Sta.keys], fun k hk => by simp [logN, sta0, Sta.keys] at hk⟩
 | n + 1 => by
   have ih := logN_log x n
   show LogS (stepL x (logN x n))
   unfold stepL
   split
   · exact ⟨ih.1, ih.2⟩
   · rename_i r hr
     exact app_log ih (readR_ok hr)
def firstNo (p : Nat → Bool) : Nat → Nat → Nat
 | 0, n => n
 | f + 1, n => if p n = true then firstNo p f (n + 1) else n
theorem firstNo_at {p : Nat → Bool} {i : Nat} (h0 : p i = false) : ∀ f n, n ≤ i → i ≤ n + f → (∀ j, n ≤ j → j < i → p j = true) → firstNo p f n = i
 | 0, n, h1, h2, _ => by show n = i; omega
 | f + 1, n, h1, h2, h => by
   unfold firstNo
   rcases Nat.lt_or_ge n i with h3 | h3
   · rw [if_pos (h n (Nat.le_refl _) h3)]
     exact firstNo_at h0 f (n + 1) h3 (by omega) fun j hj => h j (by omega)
   · have : n = i := by omega
     subst this
     rw [if_neg (by rw [h0]; simp)]
def logEnd (x : Sto) : Nat := firstNo (fun j => x.has (manK ((j + 1 : Nat) : Int))) 400 0
def logS (x : Sto) : Sta := logN x (logEnd x)
theorem log_end {x : Sto} (hs : x.ok = true) {i : Nat} (hi : i ≤ 300) (h : ∀ j, j < i → x.has (manK ((j + 1 : Nat) : Int)) = true) (h0 : x.has (manK ((i + 1 : Nat) : Int)) = false) : i = logEnd x :=
 (firstNo_at h0 400 0 (Nat.zero_le _) (by omega) fun j _ hj => h j hj).symm
theorem firstNo_le (p : Nat → Bool) : ∀ f n, firstNo p f n ≤ n + f
 | 0, n => Nat.le_refl _
 | f + 1, n => by
   unfold firstNo
   split
   · have := firstNo_le p f (n + 1); omega
   · omega
theorem log_b (x : Sto) : (logS x).seq = (logEnd x : Int) ∧ logEnd x ≤ 400 ∧ (logS x).es.length + (logS x).ts.length ≤ 400 ∧ LogS (logS x) := by
 have h1 := firstNo_le (fun j => x.has (manK ((j + 1 : Nat) : Int))) 400 0
 have h2 := logN_len x (logEnd x)
 have h3 : logEnd x ≤ 400 := by unfold logEnd; omega
 exact ⟨logN_seq x _, h3, by unfold logS; omega, logN_log x _⟩
theorem fi_first {α : Type} [Inhabited α] (p : α → Bool) (L : List α) : (fi p L = -1 ∧ ∀ j, j < L.length → p (ix L j) = false) ∨ ∃ i : Nat, i < L.length ∧ fi p L = (i : Int) ∧ p (ix L i) = true ∧ ∀ j, j < i → p (ix L j) = false := by
 by_cases h : ∃ i, i < L.length ∧ p (ix L i) = true
 · obtain ⟨i, hi, hp⟩ := h
   have : ∃ i, (i < L.length ∧ p (ix L i) = true) ∧ ∀ j, j < i → p (ix L j) = false := by
    induction i using Nat.strongRecOn with
    | _ i ih =>
      by_cases h' : ∃ j, j < i ∧ p (ix L j) = true
      · obtain ⟨j, hj, hq⟩ := h'
        exact ih j hj (by omega) hq
      · exact ⟨i, ⟨hi, hp⟩, fun j hj => by
         cases hq : p (ix L j)
         · rfl
         · exact absurd ⟨j, hj, hq⟩ h'⟩
   obtain ⟨i, ⟨hi, hp⟩, hl⟩ := this
   exact .inr ⟨i, hi, fi_at hi hl hp, hp, hl⟩
 · have hn : ∀ i, i < L.length → p (ix L i) = false := fun i hi => by
    cases hq : p (ix L i)
    · rfl
    · exact absurd ⟨i, hi, hq⟩ h
   exact .inl ⟨fi_none hn, hn⟩
theorem readR_none {t : List UInt8} (h : ∀ x ∈ t, x ≠ 32) : readR t = none := by
 unfold readR
 rw [cutP_none 32 t [] h]; rfl
theorem readR_at {a b : List UInt8} (ha : ∀ x ∈ a, x ≠ 32) : (∀ k tok tier f e, numsK 44 5 a = some [k, tok, tier, f, e] → readR (a ++ 32 :: b) = if Rc.ok ⟨k, tok, tier, f, e, b⟩ = true then some ⟨k, tok, tier, f, e, b⟩ else none) ∧ (numsK 44 5 a = none → readR (a ++ 32 :: b) = none) := by
 have hc := cutP_app 32 a [] b ha
 have hb := first_c 32 b
 unfold readR readP
 rw [hc]
 constructor
 · intro k tok tier f e hN
   rcases hb with hb | ⟨c, d, rfl, hcn⟩
   · rw [cutP_none 32 b [] hb]
     simp only [List.nil_append]
     rw [hN]
   · rw [cutP_app 32 c [] d hcn]
     obtain ⟨q, qs, hq⟩ : ∃ q qs, cutP 32 [] d = q :: qs := by
      have := (cutP_len 32 d []).1
      cases h : cutP 32 [] d with
      | nil => rw [h] at this; simp at this
      | cons q qs => exact ⟨q, qs, rfl⟩
     rw [hq]
     have hno : ¬ Rc.ok ⟨k, tok, tier, f, e, c ++ 32 :: d⟩ = true := fun h => by
      have hk : kOk (c ++ 32 :: d) = true := by
       unfold Rc.ok at h
       split at h
       · simp [Rc.en, En.ok] at h; exact h.2.2.1
       split at h
       · simp at h
       split at h
       · simp [Rc.en, En.ok] at h; exact h.2.2.1
       split at h
       · simp [Rc.en, En.ok] at h; exact h.2.1
       split at h
       · simp at h; exact h.2.2
       · cases h
      unfold kOk at hk
      cases hp : parseKey (c ++ 32 :: d) with
      | none => rw [hp] at hk; cases hk
      | some z =>
        obtain ⟨u, n, w⟩ := z
        obtain ⟨e1, ht, hn, hw⟩ := key_parse hp
        have : (32 : UInt8) ∈ keyB u n w := by rw [← e1]; simp
        have h3 : u = 0 ∨ u = 1 ∨ u = 2 := by omega
        have hd : ∀ m, (32 : UInt8) ∉ six6 m := fun m hm => six6_ne (n := m) (c := 32) (by decide) 32 hm rfl
        have hs : ∀ p : List UInt8, (32 : UInt8) ∉ p → (32 : UInt8) ∈ p ++ (six6 n ++ 45 :: six6 w) → False := fun p h1 h2 => by
         rcases List.mem_append.1 h2 with h | h
         · exact h1 h
         rcases List.mem_append.1 h with h | h
         · exact hd n h
         rcases List.mem_cons.1 h with h | h
         · exact absurd h (by decide)
         · exact hd w h
        unfold keyB at this
        rcases h3 with rfl | rfl | rfl <;> exact hs _ (by decide) this
     rw [if_neg hno]
 · intro hN
   rcases hb with hb | ⟨c, d, rfl, hcn⟩
   · rw [cutP_none 32 b [] hb]
     simp only [List.nil_append]
     rw [hN]
   · rw [cutP_app 32 c [] d hcn]
     obtain ⟨q, qs, hq⟩ : ∃ q qs, cutP 32 [] d = q :: qs := by
      have := (cutP_len 32 d []).1
      cases h : cutP 32 [] d with
      | nil => rw [h] at this; simp at this
      | cons q qs => exact ⟨q, qs, rfl⟩
     rw [hq]
theorem nums5 {t : List UInt8} {N : List Int} (h : numsK 44 5 t = some N) : ∃ a b c d e, N = [a, b, c, d, e] := by
 unfold numsK at h
 split at h
 · rename_i h1
   cases h
   have hl : ((cutP 44 [] t).map atoiV).length = 5 := by rw [List.length_map]; exact h1.1
   generalize (cutP 44 [] t).map atoiV = L at hl
   match L, hl with
   | [a, b, c, d, e], _ => exact ⟨a, b, c, d, e, rfl⟩
 · cases h
theorem Cut_fn (s : List UInt8) (c : UInt8) (hl : s.length ≤ 1000000000) : VFn Tryz.prog 171 [.str (B s), .str (B [c])] (.tup [.str (B (Lib.cut s [c]).1), .str (B (Lib.cut s [c]).2.1), .bool (Lib.cut s [c]).2.2]) := by
 refine VFn.lib Tryz.call171 fun w ok vs hJ hok hv => ?_
 obtain ⟨v, us, rfl, hv, v2, us2, rfl, hv2, hus⟩ := hv
 have e1 : v = .string (B s) := hv
 have e2 : v2 = .string (B [c]) := hv2
 have e3 : us2 = [] := hus
 subst e1 e2 e3
 obtain ⟨mv, hmv⟩ := tab_maxlen hJ
 refine (Tryz.strings_Cut (B s) (B [c]) mv w (by rw [B_size]; omega) hmv).mono ?_
 rintro e w' ⟨rfl, n, rfl⟩
 refine ⟨_, rfl, ⟨rfl, rfl, rfl, Nat.le_refl _, fun _ _ => rfl⟩, fun _ _ => ⟨[_, _, _], rfl, _, _, rfl, ?_, _, _, rfl, ?_, _, _, rfl, ?_, rfl⟩⟩
 · show Value.string _ = _
   rw [B_data, B_data]; rfl
 · show Value.string _ = _
   rw [B_data, B_data]; rfl
 · show Value.bool _ = _
   rw [B_data, B_data]
theorem cut_none {s : List UInt8} {c : UInt8} (h : ∀ x ∈ s, x ≠ c) : Lib.cut s [c] = (s, [], false) := by
 unfold Lib.cut; rw [index_none c s h]; rfl
theorem cut_at {a b : List UInt8} {c : UInt8} (h : ∀ x ∈ a, x ≠ c) : Lib.cut (a ++ c :: b) [c] = (a, b, true) := by
 unfold Lib.cut; rw [index_at c a b h]
 rw [if_pos (by omega)]
 simp
theorem readRecord_none (t : List UInt8) (hl : t.length ≤ 1000000) (h : ∀ x ∈ t, x ≠ 32) : VFn Tryz.prog 117 [.str (B t)] (.tup [(default : Rc).av, .bool false]) := by
 have c := Cut_fn t 32 (by omega)
 rw [cut_none h] at c
 refine VFn.introC Tryz.call117 Tryz.func117 rfl rfl ?_
 conv => whnf
 refine CallC.sca _ (c) ?_ ?_
 · exact rfl
 cases hn : numsK 44 5 t with
 | none =>
   conv => whnf
   refine CallC.nl _ (numbers_no t 44 5 (by omega) (by decide) hn) ?_ ?_
   · exact rfl
   exact And.intro trivial (AVle.refl _)
 | some N =>
   conv => whnf
   refine CallC.nl _ (numbers_yes t 44 5 (by omega) (by decide) hn) ?_ ?_
   · exact rfl
   exact And.intro trivial (AVle.refl _)
theorem readRecord_cut (a b : List UInt8) (hl : (a ++ 32 :: b).length ≤ 1000000) (ha : ∀ x ∈ a, x ≠ 32) : (∀ k tok tier f e, numsK 44 5 a = some [k, tok, tier, f, e] → VFn Tryz.prog 117 [.str (B (a ++ 32 :: b))] (.tup [(Rc.mk k tok tier f e b).av, .bool (Rc.ok ⟨k, tok, tier, f, e, b⟩)])) ∧
 (numsK 44 5 a = none → VFn Tryz.prog 117 [.str (B (a ++ 32 :: b))] (.tup [(default : Rc).av, .bool false])) := by
 have c := Cut_fn (a ++ 32 :: b) 32 (by omega)
 rw [cut_at ha] at c
 have hal : a.length ≤ 1000000 := by rw [List.length_append] at hl; omega
 constructor
 · intro k tok tier f e hn
   have ct := RecordOK_fn ⟨k, tok, tier, f, e, b⟩
   refine VFn.introC Tryz.call117 Tryz.func117 rfl rfl ?_
   conv => whnf
   refine CallC.sca _ (c) ?_ ?_
   · exact rfl
   conv => whnf
   refine CallC.nl _ (numbers_yes a 44 5 (by omega) (by decide) hn) ?_ ?_
   · exact rfl
   refine DrawC.mkQ 19 [(.inr 17, 18)] rfl (by kernel_rfl) ?_
   refine And.intro rfl ?_
   refine And.intro ⟨by decide, show (0 : Int) < 5 by decide⟩ ?_
   refine And.intro ⟨by decide, show (1 : Int) < 5 by decide⟩ ?_
   refine And.intro ⟨by decide, show (2 : Int) < 5 by decide⟩ ?_
   refine And.intro ⟨by decide, show (3 : Int) < 5 by decide⟩ ?_
   refine And.intro ⟨by decide, show (4 : Int) < 5 by decide⟩ ?_
   refine DrawC.mkQ 5 [(.inl 0, 3)] rfl (by kernel_rfl) ?_
   refine And.intro rfl ?_
   conv => whnf
   refine PCallQ.sca _ (ct) rfl ?_
   exact And.intro trivial (AVle.refl _)
 · intro hn
   refine VFn.introC Tryz.call117 Tryz.func117 rfl rfl ?_
   conv => whnf
   refine CallC.sca _ (c) ?_ ?_
   · exact rfl
   conv => whnf
   refine CallC.nl _ (numbers_no a 44 5 (by omega) (by decide) hn) ?_ ?_
   · exact rfl
   exact And.intro trivial (AVle.refl _)
theorem readRecord_yes (t : List UInt8) (hl : t.length ≤ 1000000) {r : Rc} (h : readR t = some r) : VFn Tryz.prog 117 [.str (B t)] (.tup [r.av, .bool true]) := by
 rcases first_c 32 t with h1 | ⟨a, b, rfl, ha⟩
 · rw [readR_none h1] at h; cases h
 · obtain ⟨r1, r2⟩ := readR_at (b := b) ha
   obtain ⟨c1, c2⟩ := readRecord_cut a b hl ha
   cases hn : numsK 44 5 a with
   | none => rw [r2 hn] at h; cases h
   | some N =>
     obtain ⟨k, tok, tier, f, e, rfl⟩ := nums5 hn
     rw [r1 _ _ _ _ _ hn] at h
     split at h
     · rename_i hok
       cases h
       have := c1 _ _ _ _ _ hn
       rw [hok] at this; exact this
     · cases h
theorem readRecord_no (t : List UInt8) (hl : t.length ≤ 1000000) (h : readR t = none) : ∃ r : Rc, VFn Tryz.prog 117 [.str (B t)] (.tup [r.av, .bool false]) := by
 rcases first_c 32 t with h1 | ⟨a, b, rfl, ha⟩
 · exact ⟨_, readRecord_none t hl h1⟩
 · obtain ⟨r1, r2⟩ := readR_at (b := b) ha
   obtain ⟨c1, c2⟩ := readRecord_cut a b hl ha
   cases hn : numsK 44 5 a with
   | none => exact ⟨_, c2 hn⟩
   | some N =>
     obtain ⟨k, tok, tier, f, e, rfl⟩ := nums5 hn
     rw [r1 _ _ _ _ _ hn] at h
     split at h
     · cases h
     · rename_i hok
       have := c1 _ _ _ _ _ hn
       rw [show Rc.ok ⟨k, tok, tier, f, e, b⟩ = false by simpa using hok] at this
       exact ⟨_, this⟩
theorem nums6 {c : UInt8} {t : List UInt8} {N : List Int} (h : numsK c 6 t = some N) : ∃ a b d e f g, N = [a, b, d, e, f, g] := by
 unfold numsK at h
 split at h
 · rename_i hc
   injection h with h
   have : N.length = 6 := by rw [← h, List.length_map]; exact hc.1
   match N, this with
   | [a, b, d, e, f, g], _ => exact ⟨a, b, d, e, f, g, rfl⟩
 · cases h
def agV (t : List UInt8) : Ag := match numsK 44 6 t with | some [a, b, c, d, e, f] => ⟨a, b, c, d, e, f⟩ | _ => ⟨0, 0, 0, 0, 0, 0⟩
def agOk (t : List UInt8) : Bool := (numsK 44 6 t).isSome && (agV t).ok
theorem readAgg_fn (t : List UInt8) (hl : t.length ≤ 1048576) : VFn Tryz.prog 281 [.str (B t)] (.tup [(agV t).av, .bool (agOk t)]) := by
 unfold agOk agV
 cases hn : numsK 44 6 t with
 | none =>
   refine VFn.introC Tryz.call281 Tryz.func281 rfl rfl ?_
   conv => whnf
   refine CallC.nl _ (numbers_no t 44 6 (by omega) (by decide) hn) ?_ ?_
   · exact rfl
   exact And.intro trivial (AVle.refl _)
 | some N =>
   obtain ⟨a, b, c, d, e, f, rfl⟩ := nums6 hn
   refine VFn.introC Tryz.call281 Tryz.func281 rfl rfl ?_
   conv => whnf
   refine CallC.nl _ (numbers_yes t 44 6 (by omega) (by decide) hn) ?_ ?_
   · exact rfl
   refine DrawC.mq 20 rfl (by kernel_rfl) ?_
   iterate 6 (refine And.intro ⟨by decide, by show (_ : Int) < ((6 : Nat) : Int); decide⟩ ?_)
   refine DrawC.mq 3 rfl (by kernel_rfl) ?_
   refine PCallQ.sca _ (AggOK_fn ⟨a, b, c, d, e, f⟩) rfl ?_
   exact And.intro trivial (AVle.refl _)
def bOk (w : List UInt8) : Bool := (Lib.cut w [58]).2.2 && (numOk (Lib.cut w [58]).1 && agOk (Lib.cut w [58]).2.1)
def bv (w : List UInt8) : Bk := ⟨atoiV (Lib.cut w [58]).1, agV (Lib.cut w [58]).2.1⟩
def rbOk (t : List UInt8) : Bool := (wds t).all bOk && bksOK ((wds t).map bv)
def rbV (t : List UInt8) : List Bk := (wds t).map bv
theorem bks_8 {L : List Bk} (h : bksOK L = true) : L.length ≤ 8 := by
 unfold bksOK at h
 rw [Bool.and_eq_true] at h
 exact of_decide_eq_true h.1
theorem rbOk_pts (t : List UInt8) : rbOk t = ((pts t).all bOk && bksOK ((pts t).map bv)) := by
 have h := pts_wds t
 unfold rbOk
 rcases Nat.lt_or_ge 8 (wds t).length with h8 | h8
 · have a : bksOK ((wds t).map bv) = false := by
    rw [Bool.eq_false_iff]; intro q; have := bks_8 q; simp at this; omega
   have b : bksOK ((pts t).map bv) = false := by
    rw [Bool.eq_false_iff]; intro q; have := bks_8 q; rw [List.length_map, h.2 h8] at this; omega
   rw [a, b]; simp
 · rw [h.1 h8]
theorem rbV_pts {t : List UInt8} (h : rbOk t = true) : rbV t = (pts t).map bv := by
 simp only [rbOk, Bool.and_eq_true] at h
 have := bks_8 h.2
 rw [List.length_map] at this
 unfold rbV
 rw [(pts_wds t).1 this]
theorem cut_len (w : List UInt8) : (Lib.cut w [58]).1.length ≤ w.length ∧ (Lib.cut w [58]).2.1.length ≤ w.length := by
 rcases first_c 58 w with h | ⟨a, b, rfl, ha⟩
 · rw [cut_none h]; simp
 · rw [cut_at ha]; simp; omega
theorem readBuckets_gen (t : List UInt8) (hl : t.length ≤ 1048576) (R : AV) (hy : rbOk t = true → R = .tup [bks (rbV t), .bool true]) (hn : rbOk t = false → R = .tup [.any, .bool false]) : VFn Tryz.prog 254 [.str (B t)] R := by
 have e0 := rbOk_pts t
 have e1 := fun h => rbV_pts (t := t) h
 have hpl := pts_piece t
 have hc := parts_fn t hl
 obtain ⟨P, hP⟩ : ∃ P, P = pts t := ⟨_, rfl⟩
 rw [← hP] at e0 e1 hpl hc
 have hPl : P.length ≤ 9 := by
  rw [hP]
  rcases Nat.lt_or_ge 8 (wds t).length with h8 | h8
  · rw [(pts_wds t).2 h8]; omega
  · rw [(pts_wds t).1 h8]; omega
 clear hP
 refine VFn.introC Tryz.call254 Tryz.func254 rfl rfl ?_
 conv => whnf
 refine CallC.nl _ (hc) ?_ ?_
 · exact rfl
 refine LoopC.mk (fun i : Nat => i ≤ P.length ∧ ∀ j, j < i → bOk (ix P j) = true) (fun i => [(4, .osl 0), (16, txts P), (17, .int .i64 P.length), (18, .int .i64 i)])
  (fun i => [(0, .arr 285 7 ((P.take i).map bv).length fun j => (ix ((P.take i).map bv) j).row)]) 1 (fun i => P.length - i) 0
  ⟨⟨Nat.zero_le _, fun j hj => absurd hj (Nat.not_lt_zero j)⟩, [(0, 0)], rfl, rfl, ⟨AVle.refl _, AVle.refl _, AVle.refl _, AVle.refl _, trivial⟩, ⟨MOle.arr rfl fun i hi => absurd hi (Nat.not_lt_zero i), trivial⟩⟩ ?_
 intro i hi
 obtain ⟨hi, hall⟩ := hi
 refine Grd.intro (fun h2 => ?_) (fun h2 => ?_)
 · have hin : i < P.length := by have := of_decide_eq_true h2; omega
   have hpi := hpl _ (getD_mem hin)
   have hcl := cut_len (ix P i)
   have c1 := Cut_fn (ix P i) 58 (by omega)
   obtain ⟨x, hcut⟩ : ∃ x, Lib.cut (ix P i) [58] = x := ⟨_, rfl⟩
   obtain ⟨a, b, r⟩ := x
   have e3 : bOk (ix P i) = (r && (numOk a && agOk b)) := by unfold bOk; rw [hcut]
   have e4 : bv (ix P i) = ⟨atoiV a, agV b⟩ := by unfold bv; rw [hcut]
   rw [hcut] at c1 hcl
   simp only at c1
   have hcl1 : a.length ≤ 1048576 := by have := hcl.1; simp only at this; omega
   have hcl2 : b.length ≤ 1048576 := by have := hcl.2; simp only at this; omega
   have c2 := number_fn a (by omega)
   have c3 := readAgg_fn b hcl2
   clear hcut hcl
   have cg : ∀ g : Bool, agOk b = g → VFn Tryz.prog 281 [.str (B b)] (.tup [(agV b).av, .bool g]) := fun g h => by rw [h] at c3; exact c3
   refine And.intro (by omega) ?_
   by_cases h3 : bOk (ix P i) = true
   · have q := h3
     rw [e3] at q
     simp only [Bool.and_eq_true] at q
     obtain ⟨q1, q2, q3⟩ := q
     rw [q1] at c1
     rw [q2] at c2
     have c3 := cg true q3
     conv => whnf
     refine CallC.sca _ (c1) ?_ ?_
     · exact rfl
     conv => whnf
     refine CallC.sca _ (c2) ?_ ?_
     · exact rfl
     conv => whnf
     refine CallC.sca _ (c3) ?_ ?_
     · exact rfl
     refine And.intro ⟨show (((P.take i).map bv).length + 1) * 56 ≤ 140737488355328 by simp; omega, all1 rfl⟩ ?_
     refine And.intro (inI64 (by omega) (by omega)) ?_
     refine ⟨i + 1, ⟨hin, fun j hj => ?_⟩, by omega, [(3, 0)], rfl, rfl, ⟨AVle.refl _, AVle.refl _, AVle.refl _, AVle.of_eq (congrArg (AV.int .i64) (by simp)), trivial⟩, ⟨arr_next (f := Bk.row) (map_take_snoc hin) (by rw [e4]; rfl), trivial⟩⟩
     rcases Nat.lt_or_ge j i with h' | h'
     · exact hall j h'
     · rw [show j = i by omega]; exact h3
   · have h3 : bOk (ix P i) = false := by simpa using h3
     rw [hn (by rw [e0, bad_all hin h3]; rfl)]
     rw [e3] at h3
     have c3 := cg _ rfl
     generalize numOk a = q2 at c2 h3
     generalize agOk b = q3 at c3 h3
     cases r <;> cases q2 <;> cases q3
     all_goals first | (exfalso; cases h3; done) | skip
     all_goals
      conv => whnf
      refine CallC.sca _ (c1) ?_ ?_
      · exact rfl
      conv => whnf
      refine CallC.sca _ (c2) ?_ ?_
      · exact rfl
      conv => whnf
      refine CallC.sca _ (c3) ?_ ?_
      · exact rfl
      exact And.intro trivial (AVle.tup (AVsle.cons (AVle.any _) (AVsle.cons (AVle.refl _) AVsle.nil)))
 · have : i = P.length := by have := of_decide_eq_false h2; omega
   subst this
   have e : P.take P.length = P := List.take_of_length_le (Nat.le_refl _)
   have hA : P.all bOk = true := pre_all hall
   rw [hA, Bool.true_and] at e0
   rw [e]
   have c := BucketsOK_fn (P.map bv)
   cases hq : bksOK (P.map bv)
   · rw [hq] at c e0
     rw [hn e0]
     conv => whnf
     refine CallC.sca _ (c) ?_ ?_
     · exact rfl
     exact And.intro trivial (AVle.tup (AVsle.cons (AVle.any _) (AVsle.cons (AVle.refl _) AVsle.nil)))
   · rw [hq] at c e0
     rw [hy e0, e1 e0]
     conv => whnf
     refine CallC.sca _ (c) ?_ ?_
     · exact rfl
     exact And.intro trivial (AVle.refl _)
theorem join_has {c x : UInt8} : ∀ {L : List (List UInt8)}, x ∈ Lib.join L [c] → x = c ∨ ∃ y ∈ L, x ∈ y
 | [], h => by simp [Lib.join, List.intercalate] at h
 | [a], h => by rw [Lib.join_one] at h; exact .inr ⟨a, by simp, h⟩
 | a :: b :: r, h => by
   have e : Lib.join (a :: b :: r) [c] = a ++ c :: Lib.join (b :: r) [c] := by simp [Lib.join, List.intercalate, List.intersperse]
   rw [e, List.mem_append, List.mem_cons] at h
   rcases h with h | rfl | h
   · exact .inr ⟨a, by simp, h⟩
   · exact .inl rfl
   · rcases join_has h with h | ⟨y, hy, q⟩
     · exact .inl h
     · exact .inr ⟨y, List.mem_cons_of_mem _ hy, q⟩
theorem atext_has {a : Ag} {x c : UInt8} (h45 : c ≠ 45) (h44 : c ≠ 44) (hc : c.toNat < 48 ∨ 57 < c.toNat) (h : x ∈ atext a) : x ≠ c := by
 rcases join_has h with rfl | ⟨y, hy, q⟩
 · exact fun e => h44 e.symm
 · obtain ⟨n, _, rfl⟩ := List.mem_map.1 hy
   exact itoa_ne h45 hc x q
theorem bkText_eq (b : Bk) : bkText b = Lib.itoa b.t ++ 58 :: atext b.a := by unfold bkText; rw [join2]; simp
theorem bkText_32 (b : Bk) : ∀ x ∈ bkText b, x ≠ 32 := by
 intro x hx
 rw [bkText_eq, List.mem_append, List.mem_cons] at hx
 rcases hx with hx | rfl | hx
 · exact itoa_ne (by decide) (by decide) x hx
 · decide
 · exact atext_has (by decide) (by decide) (by decide) hx
theorem bkText_ne (b : Bk) : bkText b ≠ [] := by rw [bkText_eq]; simp
theorem bv_text {b : Bk} (h : b.ok) : bOk (bkText b) = true ∧ bv (bkText b) = b := by
 have e : Lib.cut (bkText b) [58] = (Lib.itoa b.t, atext b.a, true) := by
  rw [bkText_eq]; exact cut_at (itoa_ne (by decide) (by decide))
 have hn := num_back (n := b.t) (by have := h.1; omega) (by have := h.1; omega)
 have ha : numsK 44 6 (atext b.a) = some b.a.six := nums_back (c := 44) (N := b.a.six) (by decide) (by decide) (by simp [Ag.six]) (fun n hn => by have := six_b h.2 n hn; omega)
 have hv : agV (atext b.a) = b.a := by unfold agV; rw [ha]; rfl
 unfold bOk bv agOk
 rw [e]
 simp only
 rw [hn.1, hn.2, ha, hv, h.2]
 exact ⟨rfl, rfl⟩
theorem wds_bks (L : List Bk) : wds (bksText L) = L.map bkText := by
 unfold bksText
 exact wds_join (fun x hx => by obtain ⟨s, _, rfl⟩ := List.mem_map.1 hx; exact bkText_ne s) (fun x hx => by obtain ⟨s, _, rfl⟩ := List.mem_map.1 hx; exact bkText_32 s)
theorem rbV_text {L : List Bk} (h : ∀ b ∈ L, b.ok) : rbV (bksText L) = L := by
 unfold rbV
 rw [wds_bks, List.map_map]
 exact (List.map_congr_left fun s hs => (bv_text (h s hs)).2).trans (List.map_id' L)
theorem rbOk_text {L : List Bk} (h : ∀ b ∈ L, b.ok) (hk : bksOK L = true) : rbOk (bksText L) = true := by
 have e := rbV_text h
 unfold rbV at e
 unfold rbOk
 rw [e, hk, wds_bks]
 simp only [Bool.and_true, List.all_map]
 exact List.all_eq_true.2 fun s hs => (bv_text (h s hs)).1
theorem key_fields {t n w : Nat} (ht : t ≤ 2) (hn : n ≤ 999999) (hw : w ≤ 999999) : kOk (keyB t n w) = true ∧ kT (keyB t n w) = t ∧ kN (keyB t n w) = n ∧ kW (keyB t n w) = w := by
 have h := parse_key ht hn hw
 unfold kOk kT kN kW
 rw [h]
 exact ⟨rfl, rfl, rfl, rfl⟩
theorem key_size (t n w : Nat) : (keyB t n w).length ≤ 17 ∧ 13 ≤ (keyB t n w).length := by
 unfold keyB pre
 split <;> simp [six6]
theorem dataKey_fn (t : Nat) (n w : Int) (ht : t ≤ 2) (hn : within n 0 999999 = true) (hw : within w 0 999999 = true) : VFn Tryz.prog 199 [.int .i64 (t : Int), .int .i64 n, .int .i64 w] (.str (B (keyB t n.toNat w.toNat))) := by
 have e : keyB t n.toNat w.toNat = pre t ++ six6 n.toNat ++ [45] ++ six6 w.toNat := by unfold keyB; simp
 have h : t = 0 ∨ t = 1 ∨ t = 2 := by omega
 rcases h with rfl | rfl | rfl
 all_goals
  refine VFn.introC Tryz.call199 Tryz.func199 rfl rfl ?_
  refine DrawC.mq 12 rfl (by kernel_rfl) ?_
  refine PCallQ.nl _ (dataPrefixes_fn) rfl ?_
  refine And.intro ⟨by decide, by decide⟩ ?_
  refine PCallQ.sca _ (six_fn n hn) rfl ?_
  refine And.intro (show (_ : Int) ≤ 9223372036854775807 by rw [B_size, B_size]; simp [six6, pre]) ?_
  refine And.intro (show (((B _ ++ B _).size + (B [45]).size : Nat) : Int) ≤ 9223372036854775807 by rw [B_app, B_size, B_size]; simp [six6, pre]) ?_
  refine PCallQ.sca _ (six_fn w hw) rfl ?_
  refine And.intro (show (((B _ ++ B _ ++ B [45]).size + (B _).size : Nat) : Int) ≤ 9223372036854775807 by rw [B_app, B_app, B_size, B_size]; simp [six6, pre]) ?_
  exact And.intro trivial (AVle.of_eq (congrArg AV.str (show B _ ++ B _ ++ B [45] ++ B _ = _ by rw [e, B_app, B_app, B_app]; rfl)))
structure Src where
 code : List UInt8
 at_ : Int
 seed : Int
abbrev byts (L : List UInt8) : AV := .sl 1 L.length fun i => [.int .u8 ((ix L i).toNat : Int)]
def Src.row (s : Src) : List AV := [byts s.code, .int .i64 s.at_, .int .i64 s.seed]
def Src.ok (s : Src) (k : Int) : Prop := (0 ≤ s.at_ ∧ s.at_ ≤ k) ∧ (0 ≤ s.seed ∧ s.seed < 2147483648) ∧ s.code.length ≤ 1000000000
def Src.chr (s : Src) : Int := (ix s.code (s.at_ + 1 - 1).toNat).toNat
def Src.sd (s : Src) : Int := (s.seed * 1103515245 + 12345).tmod 2147483648
def Src.byte (s : Src) : Int × Src :=
 if s.at_ + 1 ≤ s.code.length then (s.chr, { s with at_ := s.at_ + 1, seed := (s.seed * 31 + s.chr + 7).tmod 2147483648 })
 else if 3000 < s.at_ + 1 then (0, { s with at_ := s.at_ + 1 })
 else ((s.sd.tdiv 65536).tmod 256, { s with at_ := s.at_ + 1, seed := s.sd })
theorem tmod_b {n m : Int} (h : 0 ≤ n) (hm : 0 < m) : 0 ≤ n.tmod m ∧ n.tmod m < m := by
 rw [Int.tmod_eq_emod_of_nonneg h]
 exact ⟨Int.emod_nonneg _ (by omega), Int.emod_lt_of_pos _ hm⟩
theorem tdiv_b {n : Int} {m : Int} (h : 0 ≤ n) (hm : 0 < m) : 0 ≤ n.tdiv m ∧ n.tdiv m ≤ n := by
 rw [Int.tdiv_eq_ediv_of_nonneg h]
 exact ⟨Int.ediv_nonneg h (by omega), Int.ediv_le_self _ h⟩
theorem chr_b (s : Src) : 0 ≤ s.chr ∧ s.chr ≤ 255 := by
 unfold Src.chr
 have := (ix s.code (s.at_ + 1 - 1).toNat).toNat_lt
 omega
theorem byte_b (s : Src) {k : Int} (h : s.ok k) : (0 ≤ s.byte.1 ∧ s.byte.1 ≤ 255) ∧ s.byte.2.ok (k + 1) ∧ s.byte.2.code = s.code := by
 obtain ⟨⟨a0, a1⟩, ⟨s0, s1⟩, hc⟩ := h
 have hch := chr_b s
 have hsd := tmod_b (n := s.seed * 1103515245 + 12345) (m := 2147483648) (by omega) (by omega)
 unfold Src.byte
 split
 · refine ⟨hch, ⟨⟨by simp only; omega, by simp only; omega⟩, ?_, hc⟩, rfl⟩
   exact tmod_b (by omega) (by omega)
 · split
   · exact ⟨by simp, ⟨⟨by simp only; omega, by simp only; omega⟩, ⟨s0, s1⟩, hc⟩, rfl⟩
   · refine ⟨?_, ⟨⟨by simp only; omega, by simp only; omega⟩, hsd, hc⟩, rfl⟩
     have h1 := tdiv_b (n := s.sd) (m := 65536) hsd.1 (by omega)
     have h2 := tmod_b (n := s.sd.tdiv 65536) (m := 256) h1.1 (by omega)
     simp only; omega
theorem byte_fn (s : Src) (h : s.ok 1000000000) : FnM Tryz.prog 166 1 [.bptr 0 0] [(0, .box s.row)] (.int .i64 s.byte.1) [(0, .box s.byte.2.row)] 1 := by
 have h' := h
 obtain ⟨⟨a0, a1⟩, ⟨s0, s1⟩, hc⟩ := h
 have hch := chr_b s
 have hsd := tmod_b (n := s.seed * 1103515245 + 12345) (m := 2147483648) (by omega) (by omega)
 obtain ⟨R, hR⟩ : ∃ R, R = s.byte := ⟨_, rfl⟩
 rw [← hR]
 refine FnM.introC Tryz.call166 Tryz.func166 rfl rfl ?_
 refine And.intro (inI64 (by omega) (by omega)) ?_
 refine DrawC.mq 10 rfl (by kernel_rfl) ?_
 refine Grd.intro (fun g1 => ?_) (fun g1 => ?_)
 · have g1 : s.at_ + 1 ≤ s.code.length := of_decide_eq_true g1
   have hR' : R = (s.chr, { s with at_ := s.at_ + 1, seed := (s.seed * 31 + s.chr + 7).tmod 2147483648 }) := by rw [hR, Src.byte, if_pos g1]
   refine DrawC.mq 23 rfl (by kernel_rfl) ?_
   refine And.intro (inI64 (by omega) (by omega)) ?_
   refine And.intro (inI64 (by omega) (by omega)) ?_
   refine And.intro ⟨by omega, by omega⟩ ?_
   refine And.intro (show inI .i64 s.chr from inI64 (by omega) (by omega)) ?_
   refine And.intro (show inI .i64 (s.seed * 31 + s.chr) from inI64 (by omega) (by omega)) ?_
   refine And.intro (show inI .i64 (s.seed * 31 + s.chr + 7) from inI64 (by omega) (by omega)) ?_
   refine And.intro (by decide) ?_
   refine DrawC.mq 13 rfl (by kernel_rfl) ?_
   refine And.intro (inI64 (by omega) (by omega)) ?_
   refine And.intro ⟨by omega, by omega⟩ ?_
   refine And.intro (show inI .i64 s.chr from inI64 (by omega) (by omega)) ?_
   subst hR'
   exact And.intro trivial ⟨[(0, 0)], rfl, AVle.refl _, ⟨MOle.refl _, trivial⟩⟩
 · have g1 : ¬ s.at_ + 1 ≤ s.code.length := of_decide_eq_false g1
   refine Grd.intro (fun g2 => ?_) (fun g2 => ?_)
   · have g2 : 3000 < s.at_ + 1 := of_decide_eq_true g2
     have hR' : R = (0, { s with at_ := s.at_ + 1 }) := by rw [hR, Src.byte, if_neg g1, if_pos g2]
     subst hR'
     exact And.intro trivial ⟨[(0, 0)], rfl, AVle.refl _, ⟨MOle.refl _, trivial⟩⟩
   · have g2 : ¬ 3000 < s.at_ + 1 := of_decide_eq_false g2
     have hR' : R = ((s.sd.tdiv 65536).tmod 256, { s with at_ := s.at_ + 1, seed := s.sd }) := by rw [hR, Src.byte, if_neg g1, if_neg g2]
     refine And.intro (inI64 (by omega) (by omega)) ?_
     refine And.intro (inI64 (by omega) (by omega)) ?_
     refine And.intro (by decide) ?_
     have h1 := tdiv_b (n := s.sd) (m := 65536) hsd.1 (by omega)
     have hsd' : 0 ≤ s.sd ∧ s.sd < 2147483648 := hsd
     refine And.intro ⟨by decide, show inI .i64 (s.sd.tdiv 65536) from inI64 (by omega) (by omega)⟩ ?_
     refine And.intro (by decide) ?_
     subst hR'
     exact And.intro trivial ⟨[(0, 0)], rfl, AVle.refl _, ⟨MOle.refl _, trivial⟩⟩
def Src.next (s : Src) (n : Int) : Int × Src :=
 if n ≤ 1 then (0, s)
 else if n ≤ 256 then (s.byte.1.tmod n, s.byte.2)
 else ((s.byte.1 * 65536 + s.byte.2.byte.1 * 256 + s.byte.2.byte.2.byte.1).tmod n, s.byte.2.byte.2.byte.2)
theorem next_b (s : Src) {k : Int} (h : s.ok k) (hk : 0 ≤ k) (n : Int) : (0 ≤ (s.next n).1 ∧ (1 ≤ n → (s.next n).1 < n)) ∧ (s.next n).2.ok (k + 3) ∧ (s.next n).2.code = s.code := by
 have h1 := byte_b s h
 have h2 := byte_b s.byte.2 h1.2.1
 have h3 := byte_b s.byte.2.byte.2 h2.2.1
 have w : ∀ (x : Src) (a b : Int), x.ok a → a ≤ b → x.ok b := fun x a b hx hab => ⟨⟨hx.1.1, by have := hx.1.2; omega⟩, hx.2⟩
 unfold Src.next
 split
 · exact ⟨⟨by simp, fun _ => by simp only; omega⟩, w s k _ h (by omega), rfl⟩
 · split
   · have := tmod_b (n := s.byte.1) (m := n) h1.1.1 (by omega)
     exact ⟨⟨this.1, fun _ => this.2⟩, w _ _ _ h1.2.1 (by omega), h1.2.2⟩
   · have := tmod_b (n := s.byte.1 * 65536 + s.byte.2.byte.1 * 256 + s.byte.2.byte.2.byte.1) (m := n) (by omega) (by omega)
     exact ⟨⟨this.1, fun _ => this.2⟩, w _ _ _ h3.2.1 (by omega), h3.2.2.trans (h2.2.2.trans h1.2.2)⟩
theorem next_fn (s : Src) (n : Int) (h : s.ok 100000000) : FnM Tryz.prog 97 1 [.bptr 0 0, .int .i64 n] [(0, .box s.row)] (.int .i64 (s.next n).1) [(0, .box (s.next n).2.row)] 1 := by
 have h1 := byte_b s h
 have h2 := byte_b s.byte.2 h1.2.1
 have h3 := byte_b s.byte.2.byte.2 h2.2.1
 have w : ∀ (x : Src) (a : Int), x.ok a → a ≤ 1000000000 → x.ok 1000000000 := fun x a hx hab => ⟨⟨hx.1.1, by have := hx.1.2; omega⟩, hx.2⟩
 obtain ⟨R, hR⟩ : ∃ R, R = s.next n := ⟨_, rfl⟩
 rw [← hR]
 refine FnM.introC Tryz.call97 Tryz.func97 rfl rfl ?_
 refine Grd.intro (fun g1 => ?_) (fun g1 => ?_)
 · have g1 : n ≤ 1 := of_decide_eq_true g1
   rw [Src.next, if_pos g1] at hR
   subst hR
   exact And.intro trivial ⟨[(0, 0)], rfl, AVle.refl _, ⟨MOle.refl _, trivial⟩⟩
 have g1 : ¬ n ≤ 1 := of_decide_eq_false g1
 refine Grd.intro (fun g2 => ?_) (fun g2 => ?_)
 · have g2 : n ≤ 256 := of_decide_eq_true g2
   rw [Src.next, if_neg g1, if_pos g2] at hR
   conv => whnf
   refine CallC.k [(0, 0)] (byte_fn s (w _ _ h (by omega))) rfl rfl (AVsle.refl _) ⟨MOle.refl _, trivial⟩ rfl ?_
   refine And.intro (show n ≠ 0 by omega) ?_
   subst hR
   exact And.intro trivial ⟨[(0, 0)], rfl, AVle.refl _, ⟨MOle.refl _, trivial⟩⟩
 have g2 : ¬ n ≤ 256 := of_decide_eq_false g2
 rw [Src.next, if_neg g1, if_neg g2] at hR
 conv => whnf
 refine CallC.k [(0, 0)] (byte_fn s (w _ _ h (by omega))) rfl rfl (AVsle.refl _) ⟨MOle.refl _, trivial⟩ rfl ?_
 conv => whnf
 refine CallC.k [(0, 0)] (byte_fn s.byte.2 (w _ _ h1.2.1 (by omega))) rfl rfl (AVsle.refl _) ⟨MOle.refl _, trivial⟩ rfl ?_
 conv => whnf
 refine CallC.k [(0, 0)] (byte_fn s.byte.2.byte.2 (w _ _ h2.2.1 (by omega))) rfl rfl (AVsle.refl _) ⟨MOle.refl _, trivial⟩ rfl ?_
 refine And.intro (inI64 (by omega) (by omega)) ?_
 refine And.intro (inI64 (by omega) (by omega)) ?_
 refine And.intro (inI64 (by omega) (by omega)) ?_
 refine And.intro (inI64 (by omega) (by omega)) ?_
 refine And.intro (show n ≠ 0 by omega) ?_
 subst hR
 exact And.intro trivial ⟨[(0, 0)], rfl, AVle.refl _, ⟨MOle.refl _, trivial⟩⟩
abbrev SS := List Smp × Int × Src
def smpStep (x : SS) : SS :=
 let f := x.2.1 + (x.2.2.next 4).1
 let a := (x.2.2.next 4).2.next 40
 let b := a.2.next 12
 let c := b.2.next 2
 let v := if b.1.tdiv 10 * (1 + c.1) = 0 then a.1 - 10 else if b.1.tdiv 10 * (1 + c.1) = 1 then 1000000 else -1000000
 (x.1 ++ [⟨f, v⟩], f + 1, c.2)
def smpIt : Nat → SS → SS
 | 0, x => x
 | k + 1, x => smpStep (smpIt k x)
def SSok (x : SS) (n : Nat) (k : Int) : Prop := x.1.length = n ∧ (∀ e ∈ x.1, -1000000 ≤ e.v ∧ e.v ≤ 1000000) ∧ x.2.2.ok k ∧ (0 ≤ x.2.1 ∧ x.2.1 ≤ k)
theorem wk {x : Src} {a b : Int} (hx : x.ok a) (h : a ≤ b) : x.ok b := ⟨⟨hx.1.1, by have := hx.1.2; omega⟩, hx.2⟩
theorem step_ok {x : SS} {n : Nat} {k : Int} (h : SSok x n k) (hk : 0 ≤ k) : SSok (smpStep x) (n + 1) (k + 12) := by
 obtain ⟨h1, h2, h3, h4⟩ := h
 have n1 := next_b x.2.2 h3 hk 4
 have n2 := next_b (x.2.2.next 4).2 n1.2.1 (by omega) 40
 have n3 := next_b ((x.2.2.next 4).2.next 40).2 n2.2.1 (by omega) 12
 have n4 := next_b (((x.2.2.next 4).2.next 40).2.next 12).2 n3.2.1 (by omega) 2
 have a1 := n1.1.2 (by omega)
 have a2 := n2.1.2 (by omega)
 unfold smpStep
 refine ⟨by simp [h1], fun e he => ?_, wk n4.2.1 (by omega), by simp only; omega⟩
 simp only [List.mem_append, List.mem_cons, List.not_mem_nil, or_false] at he
 rcases he with he | he
 · exact h2 e he
 · subst he
   simp only
   have := n2.1.1
   split
   · omega
   · split <;> omega
theorem it_ok {x : SS} {k : Int} (h : SSok x 0 k) (hk : 0 ≤ k) : ∀ n, SSok (smpIt n x) n (k + 12 * n)
 | 0 => by simpa [smpIt] using h
 | n + 1 => by
   have := step_ok (it_ok h hk n) (by omega)
   have e : k + 12 * ((n + 1 : Nat) : Int) = k + 12 * (n : Int) + 12 := by omega
   rw [e]; exact this
def Src.samples (s : Src) (f n : Int) : SS := smpIt (s.next (n + 1)).1.toNat ([], f, (s.next (n + 1)).2)
theorem samples_fn (s : Src) (f n : Int) (h : s.ok 1000000) (hf : 0 ≤ f ∧ f ≤ 1000000) (hn : 0 ≤ n ∧ n ≤ 1000) :
 FnM Tryz.prog 167 1 [.bptr 0 0, .int .i64 f, .int .i64 n] [(0, .box s.row)] (.osl 1) [(0, .box (s.samples f n).2.2.row), (1, .arr 98 2 (s.samples f n).1.length fun i => (ix (s.samples f n).1 i).row)] 2 := by
 have n0 := next_b s h (by omega) (n + 1)
 have hm := n0.1.2 (by omega)
 have h0 : SSok ([], f, (s.next (n + 1)).2) 0 1000003 := ⟨rfl, by simp, n0.2.1, by simp only; omega⟩
 have hit := it_ok h0 (by omega)
 obtain ⟨R, hR⟩ : ∃ R, R = s.samples f n := ⟨_, rfl⟩
 rw [← hR]
 refine FnM.introC Tryz.call167 Tryz.func167 rfl rfl ?_
 refine And.intro (inI64 (by omega) (by omega)) ?_
 conv => whnf
 refine CallC.k [(0, 0)] (next_fn s (n + 1) (wk h (by omega))) rfl rfl (AVsle.refl _) ⟨MOle.refl _, trivial⟩ rfl ?_
 obtain ⟨M, hM⟩ : ∃ M : Nat, (s.next (n + 1)).1 = M := ⟨(s.next (n + 1)).1.toNat, by omega⟩
 have hR2 : R = smpIt M ([], f, (s.next (n + 1)).2) := by rw [hR, Src.samples, hM]; rfl
 obtain ⟨x0, hx0⟩ : ∃ x0 : SS, x0 = ([], f, (s.next (n + 1)).2) := ⟨_, rfl⟩
 rw [← hx0] at hit hR2
 rw [hM]
 refine LoopC.mk (fun k : Nat => k ≤ M) (fun k => [(0, .bptr 0 0), (1, .int .i64 (smpIt k x0).2.1), (7, .osl 1), (8, .int .i64 ((M : Int) - k))])
  (fun k => [(0, .box (smpIt k x0).2.2.row), (1, .arr 98 2 (smpIt k x0).1.length fun i => (ix (smpIt k x0).1 i).row)]) 2 (fun k => M - k) 0
  ⟨Nat.zero_le _, [(0, 0), (1, 1)], rfl, rfl, ⟨AVle.refl _, AVle.of_eq (congrArg (AV.int .i64) (show f = _ by rw [hx0]; rfl)), AVle.refl _, AVle.of_eq (congrArg (AV.int .i64) (by simp)), trivial⟩, ⟨MOle.of_eq (show MO.box (s.next (n + 1)).2.row = _ by rw [hx0]; rfl), MOle.arr (by rw [hx0]; rfl) fun i hi => absurd hi (Nat.not_lt_zero i), trivial⟩⟩ ?_
 intro k hk
 refine Grd.intro (fun g1 => ?_) (fun g1 => ?_)
 · have hkM : k < M := by have := of_decide_eq_true g1; omega
   obtain ⟨h1, h2, h3, h4⟩ := hit k
   have hstep : smpIt (k + 1) x0 = smpStep (smpIt k x0) := rfl
   generalize smpIt k x0 = x at h1 h2 h3 h4 hstep
   have n1 := next_b x.2.2 h3 (by omega) 4
   have n2 := next_b (x.2.2.next 4).2 n1.2.1 (by omega) 40
   have n3 := next_b ((x.2.2.next 4).2.next 40).2 n2.2.1 (by omega) 12
   have n4 := next_b (((x.2.2.next 4).2.next 40).2.next 12).2 n3.2.1 (by omega) 2
   have a1 := n1.1.2 (by omega)
   have a2 := n2.1.2 (by omega)
   have a3 := n3.1.2 (by omega)
   have a4 := n4.1.2 (by omega)
   conv => whnf
   refine CallC.k [(0, 0)] (next_fn x.2.2 4 (wk h3 (by omega))) rfl rfl (AVsle.refl _) ⟨MOle.refl _, trivial⟩ rfl ?_
   refine And.intro (show inI .i64 (x.2.1 + (x.2.2.next 4).1) from inI64 (by omega) (by omega)) ?_
   conv => whnf
   refine CallC.k [(0, 0)] (next_fn (x.2.2.next 4).2 40 (wk n1.2.1 (by omega))) rfl rfl (AVsle.refl _) ⟨MOle.refl _, trivial⟩ rfl ?_
   refine And.intro (inI64 (by omega) (by omega)) ?_
   conv => whnf
   refine CallC.k [(0, 0)] (next_fn ((x.2.2.next 4).2.next 40).2 12 (wk n2.2.1 (by omega))) rfl rfl (AVsle.refl _) ⟨MOle.refl _, trivial⟩ rfl ?_
   have hq : (((x.2.2.next 4).2.next 40).2.next 12).1.tdiv 10 = (((x.2.2.next 4).2.next 40).2.next 12).1 / 10 := Int.tdiv_eq_ediv_of_nonneg n3.1.1
   have hq01 : (((x.2.2.next 4).2.next 40).2.next 12).1.tdiv 10 = 0 ∨ (((x.2.2.next 4).2.next 40).2.next 12).1.tdiv 10 = 1 := by omega
   have hd01 : ((((x.2.2.next 4).2.next 40).2.next 12).2.next 2).1 = 0 ∨ ((((x.2.2.next 4).2.next 40).2.next 12).2.next 2).1 = 1 := by omega
   have hrow : ∀ v, v = (if (((x.2.2.next 4).2.next 40).2.next 12).1.tdiv 10 * (1 + ((((x.2.2.next 4).2.next 40).2.next 12).2.next 2).1) = 0 then ((x.2.2.next 4).2.next 40).1 - 10 else if (((x.2.2.next 4).2.next 40).2.next 12).1.tdiv 10 * (1 + ((((x.2.2.next 4).2.next 40).2.next 12).2.next 2).1) = 1 then 1000000 else -1000000) →
    (smpIt (k + 1) x0).1 = x.1 ++ [⟨x.2.1 + (x.2.2.next 4).1, v⟩] ∧ (smpIt (k + 1) x0).2.1 = x.2.1 + (x.2.2.next 4).1 + 1 ∧ (smpIt (k + 1) x0).2.2 = ((((x.2.2.next 4).2.next 40).2.next 12).2.next 2).2 := fun v hv => by
    rw [hstep, hv]; exact ⟨rfl, rfl, rfl⟩
   refine And.intro ⟨by decide, show inI .i64 ((((x.2.2.next 4).2.next 40).2.next 12).1.tdiv 10) from inI64 (by omega) (by omega)⟩ ?_
   conv => whnf
   refine CallC.k [(0, 0)] (next_fn (((x.2.2.next 4).2.next 40).2.next 12).2 2 (wk n3.2.1 (by omega))) rfl rfl (AVsle.refl _) ⟨MOle.refl _, trivial⟩ rfl ?_
   rcases hq01 with hq0 | hq0
   · rw [hq0]
     rw [hq0] at hrow
     refine And.intro (show inI .i64 (1 + ((((x.2.2.next 4).2.next 40).2.next 12).2.next 2).1) from inI64 (by omega) (by omega)) ?_
     rcases hd01 with hd | hd
     · rw [hd]
       rw [hd] at hrow
       obtain ⟨w1, w2, w3⟩ := hrow (((x.2.2.next 4).2.next 40).1 - 10) (by simp)
       refine And.intro (inI64 (by omega) (by omega)) ?_
       refine And.intro ⟨by decide, by decide⟩ ?_
       refine And.intro ⟨show (x.1.length + 1) * 16 ≤ 140737488355328 by omega, all1 rfl⟩ ?_
       refine And.intro (show inI .i64 (x.2.1 + (x.2.2.next 4).1 + 1) from inI64 (by omega) (by omega)) ?_
       refine And.intro (inI64 (by omega) (by omega)) ?_
       exact ⟨k + 1, hkM, by omega, [(0, 0), (8, 1)], rfl, rfl, ⟨AVle.refl _, AVle.of_eq (congrArg (AV.int .i64) w2.symm), AVle.refl _, AVle.of_eq (congrArg (AV.int .i64) (show (M : Int) - k - 1 = _ by omega)), trivial⟩, ⟨MOle.of_eq (show MO.box ((((x.2.2.next 4).2.next 40).2.next 12).2.next 2).2.row = _ by rw [w3]), arr_next (f := Smp.row) w1 rfl, trivial⟩⟩
     · rw [hd]
       rw [hd] at hrow
       obtain ⟨w1, w2, w3⟩ := hrow (((x.2.2.next 4).2.next 40).1 - 10) (by simp)
       refine And.intro (inI64 (by omega) (by omega)) ?_
       refine And.intro ⟨by decide, by decide⟩ ?_
       refine And.intro ⟨show (x.1.length + 1) * 16 ≤ 140737488355328 by omega, all1 rfl⟩ ?_
       refine And.intro (show inI .i64 (x.2.1 + (x.2.2.next 4).1 + 1) from inI64 (by omega) (by omega)) ?_
       refine And.intro (inI64 (by omega) (by omega)) ?_
       exact ⟨k + 1, hkM, by omega, [(0, 0), (8, 1)], rfl, rfl, ⟨AVle.refl _, AVle.of_eq (congrArg (AV.int .i64) w2.symm), AVle.refl _, AVle.of_eq (congrArg (AV.int .i64) (show (M : Int) - k - 1 = _ by omega)), trivial⟩, ⟨MOle.of_eq (show MO.box ((((x.2.2.next 4).2.next 40).2.next 12).2.next 2).2.row = _ by rw [w3]), arr_next (f := Smp.row) w1 rfl, trivial⟩⟩
   · rw [hq0]
     rw [hq0] at hrow
     refine And.intro (show inI .i64 (1 + ((((x.2.2.next 4).2.next 40).2.next 12).2.next 2).1) from inI64 (by omega) (by omega)) ?_
     rcases hd01 with hd | hd
     · rw [hd]
       rw [hd] at hrow
       obtain ⟨w1, w2, w3⟩ := hrow (1000000) (by simp)
       refine And.intro (inI64 (by omega) (by omega)) ?_
       refine And.intro ⟨by decide, by decide⟩ ?_
       refine And.intro ⟨show (x.1.length + 1) * 16 ≤ 140737488355328 by omega, all1 rfl⟩ ?_
       refine And.intro (show inI .i64 (x.2.1 + (x.2.2.next 4).1 + 1) from inI64 (by omega) (by omega)) ?_
       refine And.intro (inI64 (by omega) (by omega)) ?_
       exact ⟨k + 1, hkM, by omega, [(0, 0), (8, 1)], rfl, rfl, ⟨AVle.refl _, AVle.of_eq (congrArg (AV.int .i64) w2.symm), AVle.refl _, AVle.of_eq (congrArg (AV.int .i64) (show (M : Int) - k - 1 = _ by omega)), trivial⟩, ⟨MOle.of_eq (show MO.box ((((x.2.2.next 4).2.next 40).2.next 12).2.next 2).2.row = _ by rw [w3]), arr_next (f := Smp.row) w1 rfl, trivial⟩⟩
     · rw [hd]
       rw [hd] at hrow
       obtain ⟨w1, w2, w3⟩ := hrow (-1000000) (by simp)
       refine And.intro (inI64 (by omega) (by omega)) ?_
       refine And.intro ⟨by decide, by decide⟩ ?_
       refine And.intro ⟨show (x.1.length + 1) * 16 ≤ 140737488355328 by omega, all1 rfl⟩ ?_
       refine And.intro (show inI .i64 (x.2.1 + (x.2.2.next 4).1 + 1) from inI64 (by omega) (by omega)) ?_
       refine And.intro (inI64 (by omega) (by omega)) ?_
       exact ⟨k + 1, hkM, by omega, [(0, 0), (8, 1)], rfl, rfl, ⟨AVle.refl _, AVle.of_eq (congrArg (AV.int .i64) w2.symm), AVle.refl _, AVle.of_eq (congrArg (AV.int .i64) (show (M : Int) - k - 1 = _ by omega)), trivial⟩, ⟨MOle.of_eq (show MO.box ((((x.2.2.next 4).2.next 40).2.next 12).2.next 2).2.row = _ by rw [w3]), arr_next (f := Smp.row) w1 rfl, trivial⟩⟩
 · have : k = M := by have := of_decide_eq_false g1; omega
   subst this
   rw [hR2]
   exact And.intro trivial ⟨[(0, 0), (1, 1)], rfl, AVle.refl _, ⟨MOle.refl _, MOle.refl _, trivial⟩⟩
def srcOf (code : List UInt8) : Src := ⟨code, 0, (code.length : Int).tmod 1000⟩
theorem src_ok (code : List UInt8) (h : code.length ≤ 1048576) : (srcOf code).ok 0 := by
 have := tmod_b (n := (code.length : Int)) (m := 1000) (by omega) (by omega)
 exact ⟨⟨by simp [srcOf], by simp [srcOf]⟩, ⟨this.1, by have := this.2; simp only [srcOf]; omega⟩, by simp only [srcOf]; omega⟩
theorem l00Source_fn (code : List UInt8) (h : code.length ≤ 1048576) : FnM Tryz.prog 36 0 [byts code] [] (.bptr 0 0) [(0, .box (srcOf code).row)] 1 := by
 refine FnM.introC Tryz.call36 Tryz.func36 rfl rfl ?_
 refine And.intro (by decide) ?_
 exact And.intro trivial ⟨[(0, 0)], rfl, AVle.refl _, ⟨MOle.refl _, trivial⟩⟩

end Go.Proofs.YtnplgeogieoioaaGreatDoor
