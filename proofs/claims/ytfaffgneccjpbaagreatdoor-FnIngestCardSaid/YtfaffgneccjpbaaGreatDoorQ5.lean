/- Contracts of functions that the claim reaches, and the plain law of what they compute; each theorem bears its own conditions. -/
import Derived.Test.YtfaffgneccjpbaaGreatDoorQ4
import Derived.Test.YtfaffgneccjpbaaGreatDoorV50
import Derived.Test.YtfaffgneccjpbaaGreatDoorQ3
import Derived.Test.YtfaffgneccjpbaaGreatDoorQ2
set_option linter.unusedVariables false
set_option linter.constructorNameAsVariable false
set_option linter.unusedSimpArgs false
set_option maxRecDepth 20000
namespace Go.Proofs.YtfaffgneccjpbaaGreatDoor
open Go Go.Vw

def readP : List (List UInt8) → Option Rc
  | [a, b] => (match numsK 44 5 a with
    | some [k, tok, tier, f, e] => if Rc.ok ⟨k, tok, tier, f, e, b⟩ = true then some ⟨k, tok, tier, f, e, b⟩ else none
    | _ => none)
  | _ => none
def readR (t : List UInt8) : Option Rc := readP (cutP 32 [] t)
theorem readR_ok {t : List UInt8} {r : Rc} (h : readR t = some r) : r.ok = true := by
  unfold readR readP at h
  split at h
  · split at h
    · split at h
      · cases h; assumption
      · cases h
    · cases h
  · cases h
def Sta.tick (s : Sta) : Sta := { s with seq := s.seq + 1 }
def Sta.lift (s : Sta) (k v : Int) : Sta := if k = 0 then { s with h0 := v } else if k = 1 then { s with h1 := v } else { s with h2 := v }
def Sta.lower (s : Sta) (k v : Int) : Sta := if k = 0 then { s with l0 := v } else if k = 1 then { s with l1 := v } else { s with l2 := v }
def noE (k : List UInt8) (L : List En) : List En := L.filter fun e => !decide (e.key = k)
def noT (k : List UInt8) (L : List Tb) : List Tb := L.filter fun e => !decide (e.key = k)
def Sta.app (s : Sta) (r : Rc) : Sta :=
  if s.takes r = true then
    if r.k = 1 ∨ r.k = 3 then ({ s.tick with es := s.es ++ [r.en] } : Sta).lift r.tier r.t
    else if r.k = 2 then { s.tick with fence := r.tok }
    else if r.k = 4 then ({ s.tick with es := noE r.key s.es, ts := s.ts ++ [⟨s.seq + 1, r.key⟩] } : Sta).lower r.tier r.t
    else { s.tick with ts := noT r.key s.ts }
  else s.tick
theorem lift_es (s : Sta) (k v : Int) : (s.lift k v).es = s.es ∧ (s.lift k v).ts = s.ts ∧ (s.lift k v).seq = s.seq ∧ (s.lift k v).fence = s.fence := by
  unfold Sta.lift; split
  · exact ⟨rfl, rfl, rfl, rfl⟩
  · split <;> exact ⟨rfl, rfl, rfl, rfl⟩
theorem lower_es (s : Sta) (k v : Int) : (s.lower k v).es = s.es ∧ (s.lower k v).ts = s.ts ∧ (s.lower k v).seq = s.seq ∧ (s.lower k v).fence = s.fence := by
  unfold Sta.lower; split
  · exact ⟨rfl, rfl, rfl, rfl⟩
  · split <;> exact ⟨rfl, rfl, rfl, rfl⟩
theorem app_seq (s : Sta) (r : Rc) : (s.app r).seq = s.seq + 1 := by
  unfold Sta.app
  split
  · split
    · rw [(lift_es _ _ _).2.2.1]; rfl
    · split
      · rfl
      · split
        · rw [(lower_es _ _ _).2.2.1]; rfl
        · rfl
  · rfl
theorem noE_len (k : List UInt8) (L : List En) : (noE k L).length ≤ L.length := List.length_filter_le _ _
theorem noT_len (k : List UInt8) (L : List Tb) : (noT k L).length ≤ L.length := List.length_filter_le _ _
theorem has_iff (s : Sta) (k : List UInt8) : s.has k = true ↔ k ∈ s.keys := by
  unfold Sta.has Sta.tombAt Sta.keys
  rw [fi_any]
  simp only [Bool.or_eq_true, List.any_eq_true, decide_eq_true_eq, List.mem_append, List.mem_map]
/-- the first of a tier is an entry -/
theorem headIs_mem {L : List En} {k : Int} {e : En} (h : headIs (ofT L k) e = true) : e ∈ L := by
  unfold headIs at h
  cases hl : ofT L k with
  | nil => rw [hl] at h; cases h
  | cons x r =>
    rw [hl] at h
    have hx : x = e := of_decide_eq_true h
    have : x ∈ ofT L k := by rw [hl]; simp
    rw [← hx]
    exact (List.mem_filter.1 this).1
theorem takes_k {s : Sta} {r : Rc} (h : s.takes r = true) (hk : r.k = 1 ∨ r.k = 3) : s.has r.key = false := by
  unfold Sta.takes at h
  rcases hk with hk | hk
  · rw [if_pos hk] at h
    simp only [Bool.and_eq_true, Bool.not_eq_true'] at h
    exact h.2.2
  · rw [if_neg (by omega), if_neg (by omega), if_pos hk] at h
    simp only [Bool.and_eq_true, Bool.not_eq_true'] at h
    exact h.2.2.2.2.2.2.2
theorem takes_4 {s : Sta} {r : Rc} (h : s.takes r = true) (hk : r.k = 4) : headIs (ofT s.es r.tier) r.en = true := by
  unfold Sta.takes at h
  rw [if_neg (by omega), if_neg (by omega), if_neg (by omega), if_pos hk] at h
  simp only [Bool.and_eq_true] at h
  exact h.2.1
theorem appL_len (s : Sta) (r : Rc) : (s.app r).es.length + (s.app r).ts.length ≤ s.es.length + s.ts.length + 1 := by
  unfold Sta.app
  split
  · rename_i ht
    split
    · rw [(lift_es _ _ _).1, (lift_es _ _ _).2.1]
      show (s.es ++ [r.en]).length + s.ts.length ≤ _
      rw [List.length_append]; simp only [List.length_cons, List.length_nil]; omega
    · split
      · show s.es.length + s.ts.length ≤ _; omega
      · split
        · rw [(lower_es _ _ _).1, (lower_es _ _ _).2.1]
          show (noE r.key s.es).length + (s.ts ++ [(⟨s.seq + 1, r.key⟩ : Tb)]).length ≤ _
          have := noE_len r.key s.es
          rw [List.length_append]; simp only [List.length_cons, List.length_nil]; omega
        · show s.es.length + (noT r.key s.ts).length ≤ _
          have := noT_len r.key s.ts; omega
  · show s.es.length + s.ts.length ≤ _; omega
/-- what a log makes has each key once, and each is one of data -/
structure LogS (s : Sta) : Prop where
  nd : s.keys.Nodup
  kk : ∀ k ∈ s.keys, kOk k = true
theorem LogS.of {q : Sta} {K : List (List UInt8)} (e : q.keys = K) (h : K.Nodup ∧ ∀ k ∈ K, kOk k = true) : LogS q := ⟨e ▸ h.1, fun k hk => h.2 k (e ▸ hk)⟩
theorem nodup_snoc {α : Type} {L : List α} {a : α} (h : L.Nodup) (ha : a ∉ L) : (L ++ [a]).Nodup :=
  List.nodup_append.2 ⟨h, by simp, fun x hx y hy e => by
    have : y = a := by simpa using hy
    subst this; subst e; exact ha hx⟩
theorem noE_keys (k : List UInt8) (L : List En) : (noE k L).map (·.key) = (L.map (·.key)).filter fun x => !decide (x = k) := by
  unfold noE; rw [List.filter_map]; rfl
theorem noT_keys (k : List UInt8) (L : List Tb) : (noT k L).map (·.key) = (L.map (·.key)).filter fun x => !decide (x = k) := by
  unfold noT; rw [List.filter_map]; rfl
theorem app_log {s : Sta} {r : Rc} (h : LogS s) (hr : r.ok = true) : LogS (s.app r) := by
  obtain ⟨nd, kk⟩ := h
  have nd' := nd
  unfold Sta.keys at nd'
  have nda := List.nodup_append.1 nd'
  unfold Sta.app
  split
  · rename_i ht
    split
    · rename_i hk
      have hno := takes_k ht hk
      have hnk : r.key ∉ s.keys := fun h => by rw [(has_iff s r.key).2 h] at hno; cases hno
      have hok : kOk r.key = true := by
        unfold Rc.ok at hr
        rcases hk with hk | hk
        · rw [if_pos hk] at hr; simp [Rc.en, En.ok] at hr; exact hr.2.2.1
        · rw [if_neg (by omega), if_neg (by omega), if_pos hk] at hr; simp [Rc.en, En.ok] at hr; exact hr.2.2.1
      have e : ∀ q : Sta, q.es = s.es ++ [r.en] → q.ts = s.ts → q.keys = (s.es.map (·.key) ++ [r.key]) ++ s.ts.map (·.key) := fun q h1 h2 => by unfold Sta.keys; rw [h1, h2, List.map_append]; rfl
      refine LogS.of (e _ (lift_es _ _ _).1 (lift_es _ _ _).2.1) ?_
      have hm : r.key ∉ s.es.map (·.key) ∧ r.key ∉ s.ts.map (·.key) := ⟨fun h => hnk (List.mem_append.2 (.inl h)), fun h => hnk (List.mem_append.2 (.inr h))⟩
      refine ⟨List.nodup_append.2 ⟨nodup_snoc nda.1 hm.1, nda.2.1, fun x hx y hy => ?_⟩, fun k hk' => ?_⟩
      · rcases List.mem_append.1 hx with hx | hx
        · exact nda.2.2 x hx y hy
        · have : x = r.key := by simpa using hx
          subst this
          exact fun e => hm.2 (e ▸ hy)
      · rcases List.mem_append.1 hk' with hk' | hk'
        · rcases List.mem_append.1 hk' with hk' | hk'
          · exact kk k (List.mem_append.2 (.inl hk'))
          · have : k = r.key := by simpa using hk'
            rw [this]; exact hok
        · exact kk k (List.mem_append.2 (.inr hk'))
    · split
      · exact ⟨nd, kk⟩
      · split
        · rename_i hk1 hk2 hk4
          have hm := headIs_mem (takes_4 ht hk4)
          have hke : r.key ∈ s.es.map (·.key) := List.mem_map.2 ⟨_, hm, rfl⟩
          have hkt : r.key ∉ s.ts.map (·.key) := fun h => nda.2.2 _ hke _ h rfl
          have e : ∀ q : Sta, q.es = noE r.key s.es → q.ts = s.ts ++ [⟨s.seq + 1, r.key⟩] → q.keys = (s.es.map (·.key)).filter (fun x => !decide (x = r.key)) ++ (s.ts.map (·.key) ++ [r.key]) := fun q h1 h2 => by unfold Sta.keys; rw [h1, h2, List.map_append, noE_keys]; rfl
          refine LogS.of (e _ (lower_es _ _ _).1 (lower_es _ _ _).2.1) ?_
          refine ⟨List.nodup_append.2 ⟨nda.1.filter _, nodup_snoc nda.2.1 hkt, fun x hx y hy => ?_⟩, fun k hk' => ?_⟩
          · have hx' := List.mem_filter.1 hx
            rcases List.mem_append.1 hy with hy | hy
            · exact nda.2.2 x hx'.1 y hy
            · have : y = r.key := by simpa using hy
              subst this
              intro e; rw [e] at hx'; simp at hx'
          · rcases List.mem_append.1 hk' with hk' | hk'
            · exact kk k (List.mem_append.2 (.inl (List.mem_filter.1 hk').1))
            · rcases List.mem_append.1 hk' with hk' | hk'
              · exact kk k (List.mem_append.2 (.inr hk'))
              · have : k = r.key := by simpa using hk'
                rw [this]; exact kk _ (List.mem_append.2 (.inl hke))
        · have e : ∀ q : Sta, q.es = s.es → q.ts = noT r.key s.ts → q.keys = s.es.map (·.key) ++ (s.ts.map (·.key)).filter (fun x => !decide (x = r.key)) := fun q h1 h2 => by unfold Sta.keys; rw [h1, h2, noT_keys]
          refine LogS.of (e _ rfl rfl) ?_
          refine ⟨List.nodup_append.2 ⟨nda.1, nda.2.1.filter _, fun x hx y hy => nda.2.2 x hx y (List.mem_filter.1 hy).1⟩, fun k hk' => ?_⟩
          rcases List.mem_append.1 hk' with hk' | hk'
          · exact kk k (List.mem_append.2 (.inl hk'))
          · exact kk k (List.mem_append.2 (.inr (List.mem_filter.1 hk').1))
  · exact ⟨nd, kk⟩
/-- so many different ones in a list, so long it is -/
theorem nodup_le {α : Type} [DecidableEq α] : ∀ (L M : List α), L.Nodup → (∀ x ∈ L, x ∈ M) → L.length ≤ M.length
  | [], _, _, _ => Nat.zero_le _
  | a :: l, M, h, hm => by
    have h' := List.nodup_cons.1 h
    have ha := hm a (by simp)
    have := nodup_le l (M.erase a) h'.2 fun x hx => (List.mem_erase_of_ne (fun e => h'.1 (by rw [← e]; exact hx))).2 (hm x (by simp [hx]))
    rw [List.length_erase_of_mem ha] at this
    have hp : 0 < M.length := List.length_pos_of_mem ha
    simp only [List.length_cons]; omega
theorem has_mem {x : Sto} {k : List UInt8} (h : x.has k = true) : k ∈ x.os.map (·.key) := by
  obtain ⟨h1, h2⟩ := hasK_at h
  exact List.mem_map.2 ⟨_, getD_mem h1, h2⟩
theorem manK_inj {a b : Nat} (ha : a ≤ 999999) (hb : b ≤ 999999) (h : manK (a : Int) = manK (b : Int)) : a = b := by
  unfold manK at h
  have := List.append_cancel_left h
  exact six6_inj (by omega) (by omega) (by simpa using this)
theorem log_len {x : Sto} {n : Nat} (hn : n ≤ 999998) (h : ∀ j, j < n → x.has (manK ((j + 1 : Nat) : Int)) = true) : n ≤ x.os.length := by
  have := nodup_le ((List.range n).map fun j => manK ((j + 1 : Nat) : Int)) (x.os.map (·.key)) ?_ ?_
  · simpa using this
  · refine List.pairwise_map.2 (List.Pairwise.imp_of_mem (fun {a b} ha hb hne e => ?_) (List.nodup_range (n := n)))
    have := List.mem_range.1 ha
    have := List.mem_range.1 hb
    have := manK_inj (by omega) (by omega) e
    exact hne (by omega)
  · intro k hk
    obtain ⟨j, hj, rfl⟩ := List.mem_map.1 hk
    exact has_mem (h j (List.mem_range.1 hj))
def sta0 : Sta := ⟨0, 0, [], [], 0, 0, 0, 0, 0, 0⟩
def recAt (x : Sto) (n : Int) : Option Rc := readR (x.get (manK n)).data
def stepL (x : Sto) (s : Sta) : Sta := match recAt x (s.seq + 1) with | none => s.tick | some r => s.app r
def logN (x : Sto) : Nat → Sta
  | 0 => sta0
  | n + 1 => stepL x (logN x n)
theorem logN_seq (x : Sto) : ∀ n, (logN x n).seq = (n : Int)
  | 0 => rfl
  | n + 1 => by
    have ih := logN_seq x n
    show (stepL x (logN x n)).seq = _
    unfold stepL
    split
    · show (logN x n).seq + 1 = _; rw [ih]; simp
    · rw [app_seq, ih]; simp
theorem logN_len (x : Sto) : ∀ n, (logN x n).es.length + (logN x n).ts.length ≤ n
  | 0 => Nat.le_refl _
  | n + 1 => by
    have ih := logN_len x n
    show (stepL x (logN x n)).es.length + (stepL x (logN x n)).ts.length ≤ _
    unfold stepL
    split
    · show (logN x n).es.length + (logN x n).ts.length ≤ _; omega
    · rename_i r _
      have := appL_len (logN x n) r; omega
theorem logN_log (x : Sto) : ∀ n, LogS (logN x n)
  | 0 => ⟨by simp [logN, sta0, Sta.keys], fun k hk => by simp [logN, sta0, Sta.keys] at hk⟩
  | n + 1 => by
    have ih := logN_log x n
    show LogS (stepL x (logN x n))
    unfold stepL
    split
    · exact ⟨ih.1, ih.2⟩
    · rename_i r hr
      exact app_log ih (readR_ok hr)
def firstNo (p : Nat → Bool) : Nat → Nat → Nat
  | 0, n => n
  | f + 1, n => if p n = true then firstNo p f (n + 1) else n
theorem firstNo_at {p : Nat → Bool} {i : Nat} (h0 : p i = false) : ∀ f n, n ≤ i → i ≤ n + f → (∀ j, n ≤ j → j < i → p j = true) → firstNo p f n = i
  | 0, n, h1, h2, _ => by show n = i; omega
  | f + 1, n, h1, h2, h => by
    unfold firstNo
    rcases Nat.lt_or_ge n i with h3 | h3
    · rw [if_pos (h n (Nat.le_refl _) h3)]
      exact firstNo_at h0 f (n + 1) h3 (by omega) fun j hj => h j (by omega)
    · have : n = i := by omega
      subst this
      rw [if_neg (by rw [h0]; simp)]
def logEnd (x : Sto) : Nat := firstNo (fun j => x.has (manK ((j + 1 : Nat) : Int))) 400 0
def logS (x : Sto) : Sta := logN x (logEnd x)
theorem log_end {x : Sto} (hs : x.ok = true) {i : Nat} (hi : i ≤ 300) (h : ∀ j, j < i → x.has (manK ((j + 1 : Nat) : Int)) = true) (h0 : x.has (manK ((i + 1 : Nat) : Int)) = false) : i = logEnd x :=
  (firstNo_at h0 400 0 (Nat.zero_le _) (by omega) fun j _ hj => h j hj).symm
theorem firstNo_le (p : Nat → Bool) : ∀ f n, firstNo p f n ≤ n + f
  | 0, n => Nat.le_refl _
  | f + 1, n => by
    unfold firstNo
    split
    · have := firstNo_le p f (n + 1); omega
    · omega
theorem log_b (x : Sto) : (logS x).seq = (logEnd x : Int) ∧ logEnd x ≤ 400 ∧ (logS x).es.length + (logS x).ts.length ≤ 400 ∧ LogS (logS x) := by
  have h1 := firstNo_le (fun j => x.has (manK ((j + 1 : Nat) : Int))) 400 0
  have h2 := logN_len x (logEnd x)
  have h3 : logEnd x ≤ 400 := by unfold logEnd; omega
  exact ⟨logN_seq x _, h3, by unfold logS; omega, logN_log x _⟩
end Go.Proofs.YtfaffgneccjpbaaGreatDoor
set_option linter.unusedVariables false
set_option linter.constructorNameAsVariable false
set_option linter.unusedSimpArgs false
set_option maxRecDepth 20000
namespace Go.Proofs.YtfaffgneccjpbaaGreatDoor
open Go Go.Vw

theorem fi_first {α : Type} [Inhabited α] (p : α → Bool) (L : List α) : (fi p L = -1 ∧ ∀ j, j < L.length → p (ix L j) = false) ∨ ∃ i : Nat, i < L.length ∧ fi p L = (i : Int) ∧ p (ix L i) = true ∧ ∀ j, j < i → p (ix L j) = false := by
  by_cases h : ∃ i, i < L.length ∧ p (ix L i) = true
  · obtain ⟨i, hi, hp⟩ := h
    have : ∃ i, (i < L.length ∧ p (ix L i) = true) ∧ ∀ j, j < i → p (ix L j) = false := by
      induction i using Nat.strongRecOn with
      | _ i ih =>
        by_cases h' : ∃ j, j < i ∧ p (ix L j) = true
        · obtain ⟨j, hj, hq⟩ := h'
          exact ih j hj (by omega) hq
        · exact ⟨i, ⟨hi, hp⟩, fun j hj => by
            cases hq : p (ix L j)
            · rfl
            · exact absurd ⟨j, hj, hq⟩ h'⟩
    obtain ⟨i, ⟨hi, hp⟩, hl⟩ := this
    exact .inr ⟨i, hi, fi_at hi hl hp, hp, hl⟩
  · have hn : ∀ i, i < L.length → p (ix L i) = false := fun i hi => by
      cases hq : p (ix L i)
      · rfl
      · exact absurd ⟨i, hi, hq⟩ h
    exact .inl ⟨fi_none hn, hn⟩
/-- a text without the sign, or cut at the first one -/
theorem readR_none {t : List UInt8} (h : ∀ x ∈ t, x ≠ 32) : readR t = none := by
  unfold readR
  rw [cutP_none 32 t [] h]; rfl
theorem readR_at {a b : List UInt8} (ha : ∀ x ∈ a, x ≠ 32) : (∀ k tok tier f e, numsK 44 5 a = some [k, tok, tier, f, e] → readR (a ++ 32 :: b) = if Rc.ok ⟨k, tok, tier, f, e, b⟩ = true then some ⟨k, tok, tier, f, e, b⟩ else none) ∧ (numsK 44 5 a = none → readR (a ++ 32 :: b) = none) := by
  have hc := cutP_app 32 a [] b ha
  have hb := first_c 32 b
  unfold readR readP
  rw [hc]
  constructor
  · intro k tok tier f e hN
    rcases hb with hb | ⟨c, d, rfl, hcn⟩
    · rw [cutP_none 32 b [] hb]
      simp only [List.nil_append]
      rw [hN]
    · rw [cutP_app 32 c [] d hcn]
      obtain ⟨q, qs, hq⟩ : ∃ q qs, cutP 32 [] d = q :: qs := by
        have := (cutP_len 32 d []).1
        cases h : cutP 32 [] d with
        | nil => rw [h] at this; simp at this
        | cons q qs => exact ⟨q, qs, rfl⟩
      rw [hq]
      have hno : ¬ Rc.ok ⟨k, tok, tier, f, e, c ++ 32 :: d⟩ = true := fun h => by
        have hk : kOk (c ++ 32 :: d) = true := by
          unfold Rc.ok at h
          split at h
          · simp [Rc.en, En.ok] at h; exact h.2.2.1
          split at h
          · simp at h
          split at h
          · simp [Rc.en, En.ok] at h; exact h.2.2.1
          split at h
          · simp [Rc.en, En.ok] at h; exact h.2.1
          split at h
          · simp at h; exact h.2.2
          · cases h
        unfold kOk at hk
        cases hp : parseKey (c ++ 32 :: d) with
        | none => rw [hp] at hk; cases hk
        | some z =>
          obtain ⟨u, n, w⟩ := z
          obtain ⟨e1, ht, hn, hw⟩ := key_parse hp
          have : (32 : UInt8) ∈ keyB u n w := by rw [← e1]; simp
          have h3 : u = 0 ∨ u = 1 ∨ u = 2 := by omega
          have hd : ∀ m, (32 : UInt8) ∉ six6 m := fun m hm => six6_ne (n := m) (c := 32) (by decide) 32 hm rfl
          have hs : ∀ p : List UInt8, (32 : UInt8) ∉ p → (32 : UInt8) ∈ p ++ (six6 n ++ 45 :: six6 w) → False := fun p h1 h2 => by
            rcases List.mem_append.1 h2 with h | h
            · exact h1 h
            rcases List.mem_append.1 h with h | h
            · exact hd n h
            rcases List.mem_cons.1 h with h | h
            · exact absurd h (by decide)
            · exact hd w h
          unfold keyB at this
          rcases h3 with rfl | rfl | rfl <;> exact hs _ (by decide) this
      rw [if_neg hno]
  · intro hN
    rcases hb with hb | ⟨c, d, rfl, hcn⟩
    · rw [cutP_none 32 b [] hb]
      simp only [List.nil_append]
      rw [hN]
    · rw [cutP_app 32 c [] d hcn]
      obtain ⟨q, qs, hq⟩ : ∃ q qs, cutP 32 [] d = q :: qs := by
        have := (cutP_len 32 d []).1
        cases h : cutP 32 [] d with
        | nil => rw [h] at this; simp at this
        | cons q qs => exact ⟨q, qs, rfl⟩
      rw [hq]
theorem nums5 {t : List UInt8} {N : List Int} (h : numsK 44 5 t = some N) : ∃ a b c d e, N = [a, b, c, d, e] := by
  unfold numsK at h
  split at h
  · rename_i h1
    cases h
    have hl : ((cutP 44 [] t).map atoiV).length = 5 := by rw [List.length_map]; exact h1.1
    generalize (cutP 44 [] t).map atoiV = L at hl
    match L, hl with
    | [a, b, c, d, e], _ => exact ⟨a, b, c, d, e, rfl⟩
  · cases h
end Go.Proofs.YtfaffgneccjpbaaGreatDoor
set_option linter.unusedVariables false
set_option linter.constructorNameAsVariable false
set_option linter.unusedSimpArgs false
set_option maxRecDepth 20000
namespace Go.Proofs.YtfaffgneccjpbaaGreatDoor
open Go Go.Vw

theorem filter_snoc {α : Type} [Inhabited α] {L : List α} {p : α → Bool} {i : Nat} (h : i < L.length) : (L.take (i + 1)).filter p = if p (ix L i) = true then (L.take i).filter p ++ [ix L i] else (L.take i).filter p := by
  rw [take_snoc h, List.filter_append]
  by_cases hp : p (ix L i) = true
  · rw [if_pos hp]; simp [hp]
  · rw [if_neg hp]; simp [hp]
def kept {α : Type} (p : α → Bool) (L : List α) (j : Nat) : List α := ((L.take j).filter fun e => !p e) ++ L.drop ((L.take j).filter fun e => !p e).length
theorem kept_at {α : Type} [Inhabited α] {L : List α} {p : α → Bool} {j : Nat} (h : j < L.length) (hk : ((L.take j).filter fun e => !p e).length ≤ j) : ix (kept p L j) j = ix L j := by
  unfold kept
  rw [ix_app_r hk, ix_drop]
  congr 1; omega
theorem kept_next {α : Type} [Inhabited α] {L : List α} {p : α → Bool} {j : Nat} (h : j < L.length) (hp : p (ix L j) = false) (hk : ((L.take j).filter fun e => !p e).length < j) : ∀ k, k < L.length → ix (kept p L (j + 1)) k = if k = ((L.take j).filter fun e => !p e).length then ix L j else ix (kept p L j) k := by
  intro k hkL
  have hsn := filter_snoc (p := fun e => !p e) h
  rw [if_pos (by rw [hp]; rfl)] at hsn
  unfold kept
  rw [hsn]
  generalize (L.take j).filter (fun e => !p e) = K at hk
  have e1 : (K ++ [ix L j]).length = K.length + 1 := by simp
  split
  · rename_i hc
    subst hc
    rw [ix_app_l (by omega), ix_app_r (Nat.le_refl _), Nat.sub_self]; rfl
  · rename_i hc
    rcases Nat.lt_or_ge k K.length with h1 | h1
    · rw [ix_app_l (by omega), ix_app_l h1, ix_app_l h1]
    · rw [ix_app_r (by omega), ix_app_r h1, ix_drop, ix_drop, e1]
      congr 1; omega
theorem filter_lt {α : Type} [Inhabited α] {L : List α} {p : α → Bool} {i j : Nat} (hij : i < j) (hj : j ≤ L.length) (h : p (ix L i) = false) : ((L.take j).filter p).length < j := by
  have hi : i < L.length := by omega
  have e : L.take j = L.take i ++ (ix L i :: (L.drop (i + 1)).take (j - (i + 1))) := by
    have h1 : L = L.take i ++ (ix L i :: L.drop (i + 1)) := by rw [ix_lt hi]; simp
    have h2 := congrArg (List.take j) h1
    rw [h2, List.take_append, List.take_of_length_le (by simp; omega)]
    congr 1
    have : j - (L.take i).length = (j - (i + 1)) + 1 := by simp; omega
    rw [this, List.take_succ_cons]
  rw [e, List.filter_append, List.filter_cons_of_neg (by rw [h]; simp), List.length_append]
  have a := List.length_filter_le p (L.take i)
  have b := List.length_filter_le p ((L.drop (i + 1)).take (j - (i + 1)))
  simp only [List.length_take, List.length_drop] at a b
  omega
theorem DelEn_some (L : List En) (hL : L.length ≤ 1000000) (F : Nat) (row : List AV) (p : En → Bool) (hp : ∀ e ∈ L, VFn Tryz.prog F [e.av, .eptr row 0] (.bool (p e))) (hs : L.any p = true) :
    FnM Tryz.prog 150 1 [.osl 0, .fn (.func F) [] [.eptr row 0]] [(0, .arr 35 4 L.length fun i => (ix L i).row)] (.osl 1) [(1, .arr 35 4 (L.filter fun e => !p e).length fun i => (ix (L.filter fun e => !p e) i).row)] 2 := by
  have c := IndexEn_1 L (by omega) F row p hp
  obtain ⟨i0, hi0, hfi, hp0⟩ : ∃ i0 : Nat, i0 < L.length ∧ fi p L = (i0 : Int) ∧ p (ix L i0) = true ∧ ∀ j, j < i0 → p (ix L j) = false := by
    rcases fi_first p L with ⟨h, _⟩ | h
    · have := fi_any (p := p) (L := L)
      rw [h, hs] at this; simp at this
    · exact h
  rw [hfi] at c
  have hk0 : (L.take (i0 + 1)).filter (fun e => !p e) = L.take i0 := by
    rw [filter_snoc hi0, if_neg (by rw [hp0.1]; simp)]
    exact List.filter_eq_self.2 fun x hx => by
      obtain ⟨j, hj, rfl⟩ := List.getElem_of_mem hx
      have hj' : j < i0 := by simp at hj; omega
      have := hp0.2 j hj'
      rw [ix_lt (by omega)] at this
      simp [this]
  have hlt : ∀ j, i0 < j → j ≤ L.length → ((L.take j).filter fun e => !p e).length < j := fun j h1 h2 => filter_lt h1 h2 (by rw [hp0.1]; rfl)
  refine FnM.introC Tryz.call150 Tryz.func150 rfl rfl ?_
  conv => whnf
  refine CallC.sca _ (c) ?_ ?_
  · exact rfl
  refine And.intro (inI64 (by omega) (by omega)) ?_
  refine LoopC.mk (fun j : Nat => i0 < j ∧ j ≤ L.length) (fun j => [(0, .osl 0), (1, .fn (.func F) [] [.eptr row 0]), (5, .int .i64 ((L.take j).filter fun e => !p e).length), (6, .int .i64 j)])
    (fun j => [(0, .arr 35 4 L.length fun i => (ix (kept p L j) i).row)]) 1 (fun j => L.length - j) (i0 + 1)
    ⟨⟨by omega, hi0⟩, [(0, 0)], rfl, rfl, ⟨AVle.refl _, AVle.refl _, AVle.of_eq (congrArg (AV.int .i64) (by rw [hk0]; simp; omega)), AVle.of_eq (congrArg (AV.int .i64) (by simp)), trivial⟩, ⟨MOle.arr rfl fun i hi => by
      have e : kept p L (i0 + 1) = L := by unfold kept; rw [hk0]; simp only [List.length_take]; rw [Nat.min_eq_left (by omega)]; simp
      rw [e], trivial⟩⟩ ?_
  intro j hj
  obtain ⟨hj1, hj2⟩ := hj
  have hkl := hlt j hj1 hj2
  refine Grd.intro (fun h2 => ?_) (fun h2 => ?_)
  · have hjn : j < L.length := by have := of_decide_eq_true h2; omega
    have hsn := filter_snoc (p := fun e => !p e) hjn
    have e := kept_at (p := p) hjn (Nat.le_of_lt hkl)
    have cp := hp (ix L j) (getD_mem hjn)
    rw [← e] at cp
    refine And.intro (by omega) ?_
    conv => whnf
    refine CallC.sca _ (cp) ?_ ?_
    · exact rfl
    refine Grd.intro (fun h3 => ?_) (fun h3 => ?_)
    · have h3 : p (ix L j) = false := by rw [e] at h3; simpa using h3
      rw [h3] at hsn
      have hl := hlt (j + 1) (by omega) hjn
      rw [hsn] at hl
      simp at hl
      refine And.intro (by omega) ?_
      refine And.intro (inI64 (by omega) (by omega)) ?_
      refine And.intro (inI64 (by omega) (by omega)) ?_
      refine ⟨j + 1, ⟨by omega, hjn⟩, by omega, [(0, 0)], rfl, rfl, ⟨AVle.refl _, AVle.refl _, AVle.of_eq (congrArg (AV.int .i64) (by rw [hsn]; simp)), AVle.of_eq (congrArg (AV.int .i64) (by simp)), trivial⟩, ⟨MOle.arr rfl fun k hk => ?_, trivial⟩⟩
      have en := kept_next hjn h3 hkl k hk
      by_cases hkc : k = ((L.take j).filter fun e => !p e).length
      · rw [en, if_pos hkc, ← e]
        show (bif Nat.beq k ((L.take j).filter fun e => !p e).length then _ else _) = _
        rw [hkc, beq_t]; rfl
      · rw [en, if_neg hkc]
        show (bif Nat.beq k ((L.take j).filter fun e => !p e).length then _ else _) = _
        rw [beq_f hkc]; rfl
    · have h3 : p (ix L j) = true := by rw [e] at h3; simpa using h3
      rw [h3] at hsn
      refine And.intro (inI64 (by omega) (by omega)) ?_
      refine ⟨j + 1, ⟨by omega, hjn⟩, by omega, [(0, 0)], rfl, rfl, ⟨AVle.refl _, AVle.refl _, AVle.of_eq (congrArg (AV.int .i64) (by rw [hsn]; simp)), AVle.of_eq (congrArg (AV.int .i64) (by simp)), trivial⟩, ⟨MOle.arr rfl fun k hk => ?_, trivial⟩⟩
      have e2 : kept p L (j + 1) = kept p L j := by unfold kept; rw [hsn]; simp
      rw [e2]
  · have : j = L.length := by have := of_decide_eq_false h2; omega
    subst this
    have eT : L.take L.length = L := List.take_of_length_le (Nat.le_refl _)
    obtain ⟨c, hc⟩ : ∃ c, c = ((L.take L.length).filter fun e => !p e).length := ⟨_, rfl⟩
    have hk : ∀ k, k < c → ix (kept p L L.length) k = ix (L.filter fun e => !p e) k := fun k hk => by
      unfold kept
      rw [ix_app_l (by omega), eT]
    have hcl : c = (L.filter fun e => !p e).length := by rw [hc, eT]
    rw [← hc] at hkl
    rw [← hc]
    refine And.intro ⟨by omega, by omega⟩ ?_
    conv => whnf
    refine OpC.clear rfl rfl rfl rfl rfl rfl rfl (by show 1 ≤ L.length - ((c : Int)).toNat; omega) ?_
    conv => whnf
    refine OpC.head rfl rfl rfl rfl rfl rfl rfl ⟨by omega, by omega⟩ ?_
    refine And.intro trivial ⟨[(0, 0), (1, 1)], rfl, AVle.refl _, ⟨MOle.arr (by show ((c : Int)).toNat = _; omega) fun k hk' => ?_, trivial⟩⟩
    have hk' : k < c := by have : k < ((c : Int)).toNat := hk'; omega
    rw [← hk k hk']
    show (bif Nat.blt k ((c : Int)).toNat then _ else _) = _
    rw [blt_t (show k < ((c : Int)).toNat by omega)]; rfl
theorem DelTb_some (L : List Tb) (hL : L.length ≤ 1000000) (F : Nat) (row : List AV) (p : Tb → Bool) (hp : ∀ e ∈ L, VFn Tryz.prog F [e.av, .eptr row 0] (.bool (p e))) (hs : L.any p = true) :
    FnM Tryz.prog 152 1 [.osl 0, .fn (.func F) [] [.eptr row 0]] [(0, .arr 136 2 L.length fun i => (ix L i).row)] (.osl 1) [(1, .arr 136 2 (L.filter fun e => !p e).length fun i => (ix (L.filter fun e => !p e) i).row)] 2 := by
  have c := IndexTb_1 L (by omega) F row p hp
  obtain ⟨i0, hi0, hfi, hp0⟩ : ∃ i0 : Nat, i0 < L.length ∧ fi p L = (i0 : Int) ∧ p (ix L i0) = true ∧ ∀ j, j < i0 → p (ix L j) = false := by
    rcases fi_first p L with ⟨h, _⟩ | h
    · have := fi_any (p := p) (L := L)
      rw [h, hs] at this; simp at this
    · exact h
  rw [hfi] at c
  have hk0 : (L.take (i0 + 1)).filter (fun e => !p e) = L.take i0 := by
    rw [filter_snoc hi0, if_neg (by rw [hp0.1]; simp)]
    exact List.filter_eq_self.2 fun x hx => by
      obtain ⟨j, hj, rfl⟩ := List.getElem_of_mem hx
      have hj' : j < i0 := by simp at hj; omega
      have := hp0.2 j hj'
      rw [ix_lt (by omega)] at this
      simp [this]
  have hlt : ∀ j, i0 < j → j ≤ L.length → ((L.take j).filter fun e => !p e).length < j := fun j h1 h2 => filter_lt h1 h2 (by rw [hp0.1]; rfl)
  refine FnM.introC Tryz.call152 Tryz.func152 rfl rfl ?_
  conv => whnf
  refine CallC.sca _ (c) ?_ ?_
  · exact rfl
  refine And.intro (inI64 (by omega) (by omega)) ?_
  refine LoopC.mk (fun j : Nat => i0 < j ∧ j ≤ L.length) (fun j => [(0, .osl 0), (1, .fn (.func F) [] [.eptr row 0]), (5, .int .i64 ((L.take j).filter fun e => !p e).length), (6, .int .i64 j)])
    (fun j => [(0, .arr 136 2 L.length fun i => (ix (kept p L j) i).row)]) 1 (fun j => L.length - j) (i0 + 1)
    ⟨⟨by omega, hi0⟩, [(0, 0)], rfl, rfl, ⟨AVle.refl _, AVle.refl _, AVle.of_eq (congrArg (AV.int .i64) (by rw [hk0]; simp; omega)), AVle.of_eq (congrArg (AV.int .i64) (by simp)), trivial⟩, ⟨MOle.arr rfl fun i hi => by
      have e : kept p L (i0 + 1) = L := by unfold kept; rw [hk0]; simp only [List.length_take]; rw [Nat.min_eq_left (by omega)]; simp
      rw [e], trivial⟩⟩ ?_
  intro j hj
  obtain ⟨hj1, hj2⟩ := hj
  have hkl := hlt j hj1 hj2
  refine Grd.intro (fun h2 => ?_) (fun h2 => ?_)
  · have hjn : j < L.length := by have := of_decide_eq_true h2; omega
    have hsn := filter_snoc (p := fun e => !p e) hjn
    have e := kept_at (p := p) hjn (Nat.le_of_lt hkl)
    have cp := hp (ix L j) (getD_mem hjn)
    rw [← e] at cp
    refine And.intro (by omega) ?_
    conv => whnf
    refine CallC.sca _ (cp) ?_ ?_
    · exact rfl
    refine Grd.intro (fun h3 => ?_) (fun h3 => ?_)
    · have h3 : p (ix L j) = false := by rw [e] at h3; simpa using h3
      rw [h3] at hsn
      have hl := hlt (j + 1) (by omega) hjn
      rw [hsn] at hl
      simp at hl
      refine And.intro (by omega) ?_
      refine And.intro (inI64 (by omega) (by omega)) ?_
      refine And.intro (inI64 (by omega) (by omega)) ?_
      refine ⟨j + 1, ⟨by omega, hjn⟩, by omega, [(0, 0)], rfl, rfl, ⟨AVle.refl _, AVle.refl _, AVle.of_eq (congrArg (AV.int .i64) (by rw [hsn]; simp)), AVle.of_eq (congrArg (AV.int .i64) (by simp)), trivial⟩, ⟨MOle.arr rfl fun k hk => ?_, trivial⟩⟩
      have en := kept_next hjn h3 hkl k hk
      by_cases hkc : k = ((L.take j).filter fun e => !p e).length
      · rw [en, if_pos hkc, ← e]
        show (bif Nat.beq k ((L.take j).filter fun e => !p e).length then _ else _) = _
        rw [hkc, beq_t]; rfl
      · rw [en, if_neg hkc]
        show (bif Nat.beq k ((L.take j).filter fun e => !p e).length then _ else _) = _
        rw [beq_f hkc]; rfl
    · have h3 : p (ix L j) = true := by rw [e] at h3; simpa using h3
      rw [h3] at hsn
      refine And.intro (inI64 (by omega) (by omega)) ?_
      refine ⟨j + 1, ⟨by omega, hjn⟩, by omega, [(0, 0)], rfl, rfl, ⟨AVle.refl _, AVle.refl _, AVle.of_eq (congrArg (AV.int .i64) (by rw [hsn]; simp)), AVle.of_eq (congrArg (AV.int .i64) (by simp)), trivial⟩, ⟨MOle.arr rfl fun k hk => ?_, trivial⟩⟩
      have e2 : kept p L (j + 1) = kept p L j := by unfold kept; rw [hsn]; simp
      rw [e2]
  · have : j = L.length := by have := of_decide_eq_false h2; omega
    subst this
    have eT : L.take L.length = L := List.take_of_length_le (Nat.le_refl _)
    obtain ⟨c, hc⟩ : ∃ c, c = ((L.take L.length).filter fun e => !p e).length := ⟨_, rfl⟩
    have hk : ∀ k, k < c → ix (kept p L L.length) k = ix (L.filter fun e => !p e) k := fun k hk => by
      unfold kept
      rw [ix_app_l (by omega), eT]
    have hcl : c = (L.filter fun e => !p e).length := by rw [hc, eT]
    rw [← hc] at hkl
    rw [← hc]
    refine And.intro ⟨by omega, by omega⟩ ?_
    conv => whnf
    refine OpC.clear rfl rfl rfl rfl rfl rfl rfl (by show 1 ≤ L.length - ((c : Int)).toNat; omega) ?_
    conv => whnf
    refine OpC.head rfl rfl rfl rfl rfl rfl rfl ⟨by omega, by omega⟩ ?_
    refine And.intro trivial ⟨[(0, 0), (1, 1)], rfl, AVle.refl _, ⟨MOle.arr (by show ((c : Int)).toNat = _; omega) fun k hk' => ?_, trivial⟩⟩
    have hk' : k < c := by have : k < ((c : Int)).toNat := hk'; omega
    rw [← hk k hk']
    show (bif Nat.blt k ((c : Int)).toNat then _ else _) = _
    rw [blt_t (show k < ((c : Int)).toNat by omega)]; rfl
end Go.Proofs.YtfaffgneccjpbaaGreatDoor
set_option linter.unusedVariables false
set_option linter.constructorNameAsVariable false
set_option linter.unusedSimpArgs false
set_option maxRecDepth 20000
namespace Go.Proofs.YtfaffgneccjpbaaGreatDoor
open Go Go.Vw

def riseS (q : Int × Bool) (r : Rc) (took : Bool) : Int × Bool :=
  if took = true then (if r.k = 2 then (r.tok, q.2 && decide (q.1 < r.tok)) else if r.k = 3 ∨ r.k = 4 then (q.1, q.2 && decide (r.tok = q.1)) else q) else q
def riseN (x : Sto) : Nat → Int × Bool
  | 0 => (0, true)
  | n + 1 => match recAt x ((n : Int) + 1) with
    | none => riseN x n
    | some r => riseS (riseN x n) r ((logN x n).takes r)
theorem riseS_no {q : Int × Bool} {r : Rc} {t : Bool} (h : q.2 = false) : (riseS q r t).2 = false := by
  unfold riseS
  split
  · split
    · simp [h]
    · split
      · simp [h]
      · exact h
  · exact h
theorem riseN_mono (x : Sto) : ∀ n i, i ≤ n → (riseN x i).2 = false → (riseN x n).2 = false
  | 0, i, h, hf => by have : i = 0 := by omega
                      subst this; exact hf
  | n + 1, i, h, hf => by
    rcases Nat.lt_or_ge n i with h1 | h1
    · have : i = n + 1 := by omega
      subst this; exact hf
    · have ih := riseN_mono x n i h1 hf
      unfold riseN
      split
      · exact ih
      · exact riseS_no ih
theorem firstNo_ge {p : Nat → Bool} : ∀ f n m, (∀ j, n ≤ j → j < m → p j = true) → m ≤ n + f → m ≤ firstNo p f n
  | 0, n, m, _, h => h
  | f + 1, n, m, hp, h => by
    unfold firstNo
    rcases Nat.lt_or_ge n m with h1 | h1
    · rw [if_pos (hp n (Nat.le_refl _) h1)]
      exact firstNo_ge f (n + 1) m (fun j hj => hp j (by omega)) (by omega)
    · split
      · have := firstNo_ge f (n + 1) m (fun j hj => hp j (by omega)) (by omega); omega
      · exact h1
/-- what is of no use: data of which nothing in a state knows, nor will -/
def Sta.orph (s : Sta) (k : List UInt8) : Bool := kOk k && (!s.has k && ((decide (kT k = 0) && decide (kN k ≤ s.seq)) || (decide (0 < kT k) && decide (kW k < s.fence))))
def dataKs (x : Sto) : List (List UInt8) := (x.os.map (·.key)).filter kOk
end Go.Proofs.YtfaffgneccjpbaaGreatDoor
set_option linter.unusedVariables false
set_option linter.constructorNameAsVariable false
set_option linter.unusedSimpArgs false
set_option maxRecDepth 20000
namespace Go.Proofs.YtfaffgneccjpbaaGreatDoor
open Go Go.Vw

end Go.Proofs.YtfaffgneccjpbaaGreatDoor
set_option linter.unusedVariables false
set_option linter.constructorNameAsVariable false
set_option linter.unusedSimpArgs false
set_option maxRecDepth 20000
namespace Go.Proofs.YtfaffgneccjpbaaGreatDoor
open Go Go.Vw

end Go.Proofs.YtfaffgneccjpbaaGreatDoor
set_option linter.unusedVariables false
set_option linter.constructorNameAsVariable false
set_option linter.unusedSimpArgs false
set_option maxRecDepth 20000
namespace Go.Proofs.YtfaffgneccjpbaaGreatDoor
open Go Go.Vw

structure StaOK (s : Sta) : Prop where
  q : 0 ≤ s.seq ∧ s.seq ≤ 999999
  f : 0 ≤ s.fence ∧ s.fence ≤ 999999
  len : s.es.length + s.ts.length ≤ 4096
  es : ∀ e ∈ s.es, e.ok = true
  ts : ∀ t ∈ s.ts, kOk t.key = true ∧ 1 ≤ t.seq ∧ t.seq ≤ s.seq
  nd : s.keys.Nodup
  lo : ∀ k, (k = 0 ∨ k = 1 ∨ k = 2) → 0 ≤ s.lo k ∧ s.lo k ≤ 100000
  runs : ∀ k, (k = 0 ∨ k = 1 ∨ k = 2) → runs (ofT s.es k) (s.lo k) = some (s.hi k)
theorem staOK_iff (s : Sta) : s.ok = true ↔ StaOK s := by
  constructor
  · intro h
    unfold Sta.ok tierOK at h
    simp only [Bool.and_eq_true, decide_eq_true_eq, List.all_eq_true, within] at h
    obtain ⟨h1, h2, h3, h4, h5, h6, ⟨h7, h7'⟩, ⟨h8, h8'⟩, h9, h9'⟩ := h
    refine ⟨h1, h2, by omega, h4, fun t ht => ?_, h6, fun k hk => ?_, fun k hk => ?_⟩
    · have := h5 t ht
      simp only [tbOK, Bool.and_eq_true, decide_eq_true_eq, within] at this
      exact ⟨this.1, this.2.1, this.2.2⟩
    · rcases hk with rfl | rfl | rfl
      · exact h7
      · exact h8
      · exact h9
    · rcases hk with rfl | rfl | rfl
      · exact h7'
      · exact h8'
      · exact h9'
  · rintro ⟨h1, h2, h3, h4, h5, h6, h7, h8⟩
    unfold Sta.ok tierOK
    simp only [Bool.and_eq_true, decide_eq_true_eq, List.all_eq_true, within]
    refine ⟨h1, h2, by omega, h4, fun t ht => ?_, h6, ⟨h7 0 (.inl rfl), h8 0 (.inl rfl)⟩, ⟨h7 1 (.inr (.inl rfl)), h8 1 (.inr (.inl rfl))⟩, h7 2 (.inr (.inr rfl)), h8 2 (.inr (.inr rfl))⟩
    have := h5 t ht
    simp only [tbOK, Bool.and_eq_true, decide_eq_true_eq, within]
    exact ⟨this.1, this.2.1, this.2.2⟩
theorem ofT_app (L M : List En) (k : Int) : ofT (L ++ M) k = ofT L k ++ ofT M k := List.filter_append ..
theorem runs_app1 : ∀ (L : List En) (e : En) (a b : Int), runs L a = some b → e.f = b → runs (L ++ [e]) a = some e.t
  | [], e, a, b, h, h2 => by
    have : a = b := by simpa [runs] using h
    subst this
    simp [runs, h2]
  | x :: r, e, a, b, h, h2 => by
    simp only [runs] at h
    split at h
    · rename_i hx
      simp only [List.cons_append, runs]
      rw [if_pos hx]
      exact runs_app1 r e _ b h h2
    · cases h
theorem lift_lo (s : Sta) (k v j : Int) : (s.lift k v).lo j = s.lo j := by
  unfold Sta.lift; split
  · rfl
  · split <;> rfl
theorem lower_hi (s : Sta) (k v j : Int) : (s.lower k v).hi j = s.hi j := by
  unfold Sta.lower; split
  · rfl
  · split <;> rfl
theorem lift_hi (s : Sta) (k v j : Int) (hk : k = 0 ∨ k = 1 ∨ k = 2) (hj : j = 0 ∨ j = 1 ∨ j = 2) : (s.lift k v).hi j = if j = k then v else s.hi j := by
  rcases hk with rfl | rfl | rfl <;> rcases hj with rfl | rfl | rfl <;> rfl
theorem lower_lo (s : Sta) (k v j : Int) (hk : k = 0 ∨ k = 1 ∨ k = 2) (hj : j = 0 ∨ j = 1 ∨ j = 2) : (s.lower k v).lo j = if j = k then v else s.lo j := by
  rcases hk with rfl | rfl | rfl <;> rcases hj with rfl | rfl | rfl <;> rfl
theorem en_tier {e : En} (h : e.ok = true) : (e.tier = 0 ∨ e.tier = 1 ∨ e.tier = 2) ∧ 0 ≤ e.f ∧ e.f < e.t ∧ e.t ≤ 100000 ∧ kOk e.key = true := by
  unfold En.ok isRange at h
  simp only [Bool.and_eq_true, decide_eq_true_eq, within] at h
  have := kT_nat e.key
  refine ⟨by omega, by omega, by omega, by omega, h.1⟩
theorem kinds {k tok tier f t : Int} {key : List UInt8} (h : Rc.ok ⟨k, tok, tier, f, t, key⟩ = true) : (k = 1 ∧ tier = 0) ∨ k = 2 ∨ (k = 3 ∧ (tier = 1 ∨ tier = 2) ∧ (0 ≤ f ∧ f ≤ 1000000)) ∨ (k = 4 ∧ (tier = 0 ∨ tier = 1 ∨ tier = 2)) ∨ k = 5 := by
  unfold Rc.ok at h
  dsimp only at h
  by_cases h1 : k = 1
  · rw [if_pos h1] at h
    simp only [Bool.and_eq_true, decide_eq_true_eq] at h
    exact .inl ⟨h1, h.2.1⟩
  rw [if_neg h1] at h
  by_cases h2 : k = 2
  · exact .inr (.inl h2)
  rw [if_neg h2] at h
  by_cases h3 : k = 3
  · rw [if_pos h3] at h
    simp only [Bool.and_eq_true, decide_eq_true_eq] at h
    obtain ⟨ht, hb⟩ := en_tier h.2.2
    have ht : tier = 0 ∨ tier = 1 ∨ tier = 2 := ht
    have hb : 0 ≤ f ∧ f < t ∧ t ≤ 100000 ∧ _ := hb
    exact .inr (.inr (.inl ⟨h3, by have := h.2.1; omega, by omega, by omega⟩))
  rw [if_neg h3] at h
  by_cases h4 : k = 4
  · rw [if_pos h4] at h
    simp only [Bool.and_eq_true] at h
    exact .inr (.inr (.inr (.inl ⟨h4, (en_tier h.2).1⟩)))
  rw [if_neg h4] at h
  by_cases h5 : k = 5
  · exact .inr (.inr (.inr (.inr h5)))
  rw [if_neg h5] at h
  cases h
theorem takes_f {s : Sta} {r : Rc} (h : s.takes r = true) (hr : r.ok = true) (hk : r.k = 1 ∨ r.k = 3) : r.f = s.hi r.tier ∧ r.en.ok = true := by
  unfold Sta.takes at h
  unfold Rc.ok at hr
  rcases hk with hk | hk
  · rw [if_pos hk] at h hr
    simp only [Bool.and_eq_true, decide_eq_true_eq] at h hr
    refine ⟨?_, hr.2.2⟩
    rw [hr.2.1]; exact h.1
  · rw [if_neg (by omega), if_neg (by omega), if_pos hk] at h hr
    simp only [Bool.and_eq_true, decide_eq_true_eq] at h hr
    exact ⟨h.2.1, hr.2.2⟩
theorem ofT_noE_other {L : List En} {k : Int} {key : List UInt8} (h : ∀ e ∈ L, e.key = key → e.tier ≠ k) : ofT (noE key L) k = ofT L k := by
  unfold ofT noE
  rw [List.filter_filter]
  refine List.filter_congr fun e he => ?_
  by_cases hk : e.key = key
  · have := h e he hk
    simp [this]
  · simp [hk]
theorem ofT_noE_tail {L : List En} {k : Int} {e : En} {r : List En} (hl : ofT L k = e :: r) (nd : (L.map (·.key)).Nodup) : ofT (noE e.key L) k = r := by
  have h1 : ofT (noE e.key L) k = (ofT L k).filter fun x => !decide (x.key = e.key) := by
    unfold ofT noE
    rw [List.filter_filter, List.filter_filter]
    exact List.filter_congr fun x _ => Bool.and_comm ..
  have h2 : ((ofT L k).map (·.key)).Nodup := by
    unfold ofT
    exact (List.filter_sublist.map _).nodup nd
  rw [h1, hl]
  rw [hl, List.map_cons] at h2
  have h3 := List.nodup_cons.1 h2
  rw [List.filter_cons_of_neg (by simp)]
  exact List.filter_eq_self.2 fun x hx => by
    rw [decide_eq_false (fun hk : x.key = e.key => h3.1 (hk ▸ List.mem_map.2 ⟨x, hx, rfl⟩))]; rfl
theorem nodup_key : ∀ {L : List En}, (L.map (·.key)).Nodup → ∀ {a b : En}, a ∈ L → b ∈ L → a.key = b.key → a = b
  | [], _, a, b, ha, _, _ => by cases ha
  | x :: r, nd, a, b, ha, hb, h => by
    rw [List.map_cons] at nd
    have h' := List.nodup_cons.1 nd
    rcases List.mem_cons.1 ha with ha | ha <;> rcases List.mem_cons.1 hb with hb | hb
    · rw [ha, hb]
    · exact absurd (List.mem_map.2 ⟨b, hb, by rw [← h, ha]⟩) h'.1
    · exact absurd (List.mem_map.2 ⟨a, ha, by rw [h, hb]⟩) h'.1
    · exact nodup_key h'.2 ha hb h
theorem app_staOK {s : Sta} {r : Rc} (h : StaOK s) (hr : r.ok = true) (hq : s.seq < 999999) (hl : s.es.length + s.ts.length < 4096) : StaOK (s.app r) := by
  have hlog : LogS s := ⟨h.nd, fun k hk => by
    unfold Sta.keys at hk
    rcases List.mem_append.1 hk with hk | hk
    · obtain ⟨e, he, rfl⟩ := List.mem_map.1 hk; exact (en_tier (h.es e he)).2.2.2.2
    · obtain ⟨e, he, rfl⟩ := List.mem_map.1 hk; exact (h.ts e he).1⟩
  have hnd := (app_log hlog hr).nd
  have hlen := appL_len s r
  have hseq := app_seq s r
  have ts' : ∀ t ∈ s.ts, kOk t.key = true ∧ 1 ≤ t.seq ∧ t.seq ≤ s.seq + 1 := fun t ht => by have := h.ts t ht; exact ⟨this.1, this.2.1, by omega⟩
  obtain ⟨q, hqe⟩ : ∃ q, q = s.app r := ⟨_, rfl⟩
  rw [← hqe] at hnd hlen hseq ⊢
  have hq' : 0 ≤ q.seq ∧ q.seq ≤ 999999 := by rw [hseq]; have := h.q; omega
  have hlen' : q.es.length + q.ts.length ≤ 4096 := by omega
  unfold Sta.app at hqe
  by_cases ht : s.takes r = true
  · rw [if_pos ht] at hqe
    by_cases hk : r.k = 1 ∨ r.k = 3
    · rw [if_pos hk] at hqe
      obtain ⟨hf, hen⟩ := takes_f ht hr hk
      obtain ⟨hti, hb⟩ := en_tier hen
      subst hqe
      have e1 := lift_es ({ s.tick with es := s.es ++ [r.en] } : Sta) r.tier r.t
      refine ⟨hq', by rw [e1.2.2.2]; exact h.f, hlen', ?_, ?_, hnd, fun k hk => ?_, fun k hk => ?_⟩
      · rw [e1.1]
        intro e he
        rcases List.mem_append.1 he with he | he
        · exact h.es e he
        · have : e = r.en := by simpa using he
          rw [this]; exact hen
      · rw [e1.2.1, hseq]; exact ts'
      · rw [lift_lo]; exact h.lo k hk
      · rw [e1.1, lift_lo, lift_hi _ _ _ _ hti hk]
        show runs (ofT (s.es ++ [r.en]) k) (s.lo k) = _
        rw [ofT_app]
        by_cases hkk : k = r.tier
        · subst hkk
          rw [if_pos rfl]
          have : ofT [r.en] r.tier = [r.en] := by simp [ofT]
          rw [this]
          exact runs_app1 _ r.en _ _ (h.runs _ hk) hf
        · rw [if_neg hkk]
          have : ofT [r.en] k = [] := by
            have : ¬ r.tier = k := fun e => hkk e.symm
            simp [ofT, this]
          rw [this, List.append_nil]
          exact h.runs k hk
    · rw [if_neg hk] at hqe
      by_cases hk2 : r.k = 2
      · rw [if_pos hk2] at hqe
        subst hqe
        have htok : 1 ≤ r.tok ∧ r.tok ≤ 999999 := by
          unfold Rc.ok at hr
          rw [if_neg (by omega), if_pos hk2] at hr
          simp only [Bool.and_eq_true, within, decide_eq_true_eq] at hr
          exact hr.1
        exact ⟨hq', by show 0 ≤ r.tok ∧ r.tok ≤ 999999; omega, hlen', h.es, fun t ht => by rw [hseq]; exact ts' t ht, hnd, h.lo, h.runs⟩
      · rw [if_neg hk2] at hqe
        by_cases hk4 : r.k = 4
        · rw [if_pos hk4] at hqe
          have hen : r.en.ok = true := by
            unfold Rc.ok at hr
            rw [if_neg (by omega), if_neg (by omega), if_neg (by omega), if_pos hk4] at hr
            simp only [Bool.and_eq_true] at hr
            exact hr.2
          obtain ⟨hti, hb⟩ := en_tier hen
          have hb' : 0 ≤ r.f ∧ r.f < r.t ∧ r.t ≤ 100000 := ⟨hb.1, hb.2.1, hb.2.2.1⟩
          have hhd := takes_4 ht hk4
          have hm := headIs_mem hhd
          obtain ⟨rest, hrest⟩ : ∃ rest, ofT s.es r.tier = r.en :: rest := by
            unfold headIs at hhd
            cases hl : ofT s.es r.tier with
            | nil => rw [hl] at hhd; cases hhd
            | cons x y => rw [hl] at hhd; exact ⟨y, by rw [of_decide_eq_true hhd]⟩
          have nde : (s.es.map (·.key)).Nodup := (List.nodup_append.1 h.nd).1
          subst hqe
          have e1 := lower_es ({ s.tick with es := noE r.key s.es, ts := s.ts ++ [⟨s.seq + 1, r.key⟩] } : Sta) r.tier r.t
          refine ⟨hq', by rw [e1.2.2.2]; exact h.f, hlen', ?_, ?_, hnd, fun k hk => ?_, fun k hk => ?_⟩
          · rw [e1.1]
            exact fun e he => h.es e (List.mem_filter.1 he).1
          · rw [e1.2.1, hseq]
            intro t ht
            rcases List.mem_append.1 ht with ht | ht
            · exact ts' t ht
            · have : t = ⟨s.seq + 1, r.key⟩ := by simpa using ht
              rw [this]
              exact ⟨hb.2.2.2, by have := h.q; show 1 ≤ s.seq + 1; omega, by show s.seq + 1 ≤ s.seq + 1; omega⟩
          · rw [lower_lo _ _ _ _ hti hk]
            split
            · omega
            · exact h.lo k hk
          · rw [e1.1, lower_hi, lower_lo _ _ _ _ hti hk]
            show runs (ofT (noE r.key s.es) k) _ = some (s.hi k)
            have hru := h.runs k hk
            by_cases hkk : k = r.tier
            · subst hkk
              rw [if_pos rfl, ofT_noE_tail (e := r.en) hrest nde]
              rw [hrest] at hru
              simp only [runs] at hru
              split at hru
              · exact hru
              · cases hru
            · rw [if_neg hkk, ofT_noE_other]
              · exact hru
              · intro e he hke htk
                have : e = r.en := nodup_key nde he hm hke
                rw [this] at htk
                exact hkk htk.symm
        · rw [if_neg hk4] at hqe
          subst hqe
          exact ⟨hq', h.f, hlen', h.es, fun t ht => by rw [hseq]; exact ts' t (List.mem_filter.1 ht).1, hnd, h.lo, h.runs⟩
  · rw [if_neg ht] at hqe
    subst hqe
    exact ⟨hq', h.f, hlen', h.es, fun t ht => by rw [hseq]; exact ts' t ht, hnd, h.lo, h.runs⟩
theorem staOK0 : StaOK sta0 := ⟨by decide, by decide, by decide, by simp [sta0], by simp [sta0], by simp [sta0, Sta.keys], fun k hk => by rcases hk with rfl | rfl | rfl <;> decide, fun k hk => by rcases hk with rfl | rfl | rfl <;> rfl⟩
end Go.Proofs.YtfaffgneccjpbaaGreatDoor
