/- States: both readings of what is right agree; the conditions are the theorems' own. -/
import Derived.Test.YtopkjoalbinljaaGreatDoorGP
set_option linter.unusedVariables false
set_option linter.unusedSimpArgs false
set_option maxRecDepth 20000
namespace Go.Proofs.YtopkjoalbinljaaGreatDoor
open Go Go.Vw

theorem nodup_ix {α : Type} [Inhabited α] {L : List α} : L.Nodup ↔ ∀ i, i < L.length → ix L i ∉ L.take i := by
  rw [List.Nodup, List.pairwise_iff_getElem]
  constructor
  · intro h i hi hm
    obtain ⟨j, hj, e⟩ := List.mem_take_iff_getElem.1 hm
    have := h j i (by omega) hi (by omega)
    rw [ix_lt hi] at e
    exact this e
  · intro h i j hi hj hij e
    exact h j hj (by rw [ix_lt hj, ← e]; exact List.mem_take_iff_getElem.2 ⟨i, by omega, rfl⟩)
theorem keys_nodup (s : Sta) : s.keys.Nodup ↔ (∀ i, i < s.es.length → (ix s.es i).key ∉ (s.es.take i).map (·.key)) ∧ (∀ i, i < s.ts.length → (ix s.ts i).key ∉ s.es.map (·.key) ++ (s.ts.take i).map (·.key)) := by
  have h := nodup_ix (L := s.keys)
  rw [h]
  have hl : s.keys.length = s.es.length + s.ts.length := by simp [Sta.keys]
  constructor
  · intro h
    refine ⟨fun i hi => ?_, fun i hi => ?_⟩
    · have := h i (by omega)
      unfold Sta.keys at this
      rw [ix_app_l (by simpa using hi), ix_map hi, List.take_append_of_le_length (by simp; omega), ← List.map_take] at this
      exact this
    · have := h (s.es.length + i) (by omega)
      unfold Sta.keys at this
      rw [ix_app_r (by simp), List.take_append] at this
      simp only [List.length_map, Nat.add_sub_cancel_left] at this
      rw [ix_map hi, List.take_of_length_le (by simp), ← List.map_take] at this
      exact this
  · rintro ⟨h1, h2⟩ i hi
    unfold Sta.keys
    rcases Nat.lt_or_ge i s.es.length with h' | h'
    · rw [ix_app_l (by simpa using h'), ix_map h', List.take_append_of_le_length (by simp; omega), ← List.map_take]
      exact h1 i h'
    · obtain ⟨j, rfl⟩ : ∃ j, i = s.es.length + j := ⟨i - s.es.length, by omega⟩
      rw [ix_app_r (by simp), List.take_append]
      simp only [List.length_map, Nat.add_sub_cancel_left]
      rw [ix_map (by omega), List.take_of_length_le (by simp), ← List.map_take]
      exact h2 j (by omega)
theorem runs_snoc : ∀ (L : List En) (e : En) (a : Int), runs (L ++ [e]) a = (runs L a).bind fun b => if e.f = b then some e.t else none
  | [], e, a => by simp [runs]
  | x :: r, e, a => by
    rw [List.cons_append]; unfold runs
    by_cases h : x.f = a
    · rw [if_pos h, if_pos h]; exact runs_snoc r e x.t
    · rw [if_neg h, if_neg h]; rfl
theorem runs_end : ∀ (L : List En) (a b : Int), runs L a = some b → b = match L.getLast? with | some e => e.t | none => a
  | [], a, b, h => by cases h; rfl
  | x :: r, a, b, h => by
    unfold runs at h
    by_cases hx : x.f = a
    · rw [if_pos hx] at h
      have := runs_end r x.t b h
      cases r with
      | nil => exact this
      | cons y r => rw [this, List.getLast?_cons_cons]; cases hq : (y :: r).getLast? with
        | none => simp at hq
        | some z => rfl
    · rw [if_neg hx] at h; cases h
theorem runs_endE {L : List En} {k a b : Int} (h : runs (ofT L k) a = some b) : b = endE L a k := runs_end _ _ _ h
def sideBy (s : Sta) (m : Nat) : Prop := ∀ k, (k = 0 ∨ k = 1 ∨ k = 2) → runs (ofT (s.es.take m) k) (s.lo k) = some (endE (s.es.take m) (s.lo k) k)
theorem sideBy_iff (s : Sta) (ht : ∀ e ∈ s.es, e.tier = 0 ∨ e.tier = 1 ∨ e.tier = 2) : ∀ m, m ≤ s.es.length →
    ((∀ i, i < m → (ix s.es i).f = endE (s.es.take i) (s.lo (ix s.es i).tier) (ix s.es i).tier) ↔ sideBy s m)
  | 0, _ => ⟨fun _ k _ => rfl, fun _ i hi => absurd hi (Nat.not_lt_zero i)⟩
  | m + 1, hm => by
    have hin : m < s.es.length := hm
    have ih := sideBy_iff s ht m (by omega)
    have hs := fun k => ofT_snoc hin k
    have he := fun lo k => endE_snoc hin lo k
    have hte := ht _ (getD_mem hin)
    constructor
    · intro h k hk
      have h0 := ih.1 (fun i hi => h i (by omega)) k hk
      rw [hs, he]
      by_cases hkt : (ix s.es m).tier = k
      · rw [if_pos hkt, if_pos hkt, runs_snoc, h0]
        have := h m (by omega)
        rw [hkt] at this
        simp [this]
      · rw [if_neg hkt, if_neg hkt]; exact h0
    · intro h
      have hprev : sideBy s m := fun k hk => by
        have h1 := h k hk
        rw [hs] at h1
        by_cases hkt : (ix s.es m).tier = k
        · rw [if_pos hkt, runs_snoc] at h1
          cases hr : runs (ofT (s.es.take m) k) (s.lo k) with
          | none => rw [hr] at h1; cases h1
          | some b => rw [runs_endE hr]
        · rw [if_neg hkt] at h1
          rw [h1, runs_endE h1]
      intro i hi
      rcases Nat.lt_or_ge i m with h' | h'
      · exact ih.2 hprev i h'
      · have : i = m := by omega
        subst this
        have h1 := h _ hte
        rw [hs, if_pos rfl, runs_snoc, hprev _ hte] at h1
        simp only [Option.bind_some] at h1
        by_cases hf : (ix s.es i).f = endE (s.es.take i) (s.lo (ix s.es i).tier) (ix s.es i).tier
        · exact hf
        · rw [if_neg hf] at h1; cases h1
theorem all_ix {α : Type} [Inhabited α] {L : List α} {p : α → Bool} : L.all p = true ↔ ∀ i, i < L.length → p (ix L i) = true := by
  rw [List.all_eq_true]
  constructor
  · intro h i hi; exact h _ (getD_mem hi)
  · intro h x hx
    obtain ⟨j, hj, e⟩ := List.getElem_of_mem hx
    have := h j hj
    rw [ix_lt hj, e] at this; exact this
theorem allN_iff {n : Nat} {p : Nat → Bool} : allN n p = true ↔ ∀ i, i < n → p i = true := by
  unfold allN; rw [List.all_eq_true]; simp
theorem ok'_ok (s : Sta) : s.ok' = s.ok := by
  rw [Bool.eq_iff_iff]
  unfold Sta.ok' Sta.ok tierOK
  simp only [Bool.and_eq_true, decide_eq_true_eq, allN_iff, all_ix, keys_nodup]
  have el : s.es.take s.es.length = s.es := List.take_of_length_le (Nat.le_refl _)
  constructor
  · rintro ⟨a1, a2, a3, a4, a5, ⟨b0, c0⟩, ⟨b1, c1⟩, b2, c2⟩
    have hE : ∀ i, i < s.es.length → (ix s.es i).ok = true ∧ (ix s.es i).f = endE (s.es.take i) (s.lo (ix s.es i).tier) (ix s.es i).tier ∧ (ix s.es i).key ∉ (s.es.take i).map (·.key) := fun i hi => by
      have := a4 i hi
      unfold Sta.eOK at this
      simpa using this
    have hTt : ∀ i, i < s.ts.length → tbOK s.seq (ix s.ts i) = true ∧ (ix s.ts i).key ∉ s.es.map (·.key) ++ (s.ts.take i).map (·.key) := fun i hi => by
      have := a5 i hi
      unfold Sta.tOK at this
      rw [Bool.and_eq_true] at this
      exact ⟨this.1, by simpa using this.2⟩
    have ht : ∀ e ∈ s.es, e.tier = 0 ∨ e.tier = 1 ∨ e.tier = 2 := fun e he => by
      obtain ⟨j, hj, q⟩ := List.getElem_of_mem he
      have := En.ok_tier (hE j hj).1
      rw [ix_lt hj, q] at this; exact this
    have hS := (sideBy_iff s ht s.es.length (Nat.le_refl _)).1 fun i hi => (hE i hi).2.1
    unfold sideBy at hS
    rw [el] at hS
    refine ⟨a1, a2, a3, fun i hi => (hE i hi).1, fun i hi => (hTt i hi).1, ⟨fun i hi => (hE i hi).2.2, fun i hi => (hTt i hi).2⟩, ⟨b0, ?_⟩, ⟨b1, ?_⟩, b2, ?_⟩
    · rw [c0]; exact hS 0 (by simp)
    · rw [c1]; exact hS 1 (by simp)
    · rw [c2]; exact hS 2 (by simp)
  · rintro ⟨a1, a2, a3, a4, a5, ⟨a6, a7⟩, ⟨b0, c0⟩, ⟨b1, c1⟩, b2, c2⟩
    have ht : ∀ e ∈ s.es, e.tier = 0 ∨ e.tier = 1 ∨ e.tier = 2 := fun e he => by
      obtain ⟨j, hj, q⟩ := List.getElem_of_mem he
      have := En.ok_tier (a4 j hj)
      rw [ix_lt hj, q] at this; exact this
    have hS := (sideBy_iff s ht s.es.length (Nat.le_refl _)).2 (fun k hk => by
      rw [el]
      rcases hk with rfl | rfl | rfl
      · exact c0.trans (by rw [runs_endE c0]; rfl)
      · exact c1.trans (by rw [runs_endE c1]; rfl)
      · exact c2.trans (by rw [runs_endE c2]; rfl))
    refine ⟨a1, a2, a3, fun i hi => ?_, fun i hi => ?_, ⟨b0, runs_endE c0⟩, ⟨b1, runs_endE c1⟩, b2, runs_endE c2⟩
    · unfold Sta.eOK
      rw [a4 i hi, decide_eq_true (hS i hi), decide_eq_false (a6 i hi)]; rfl
    · unfold Sta.tOK
      rw [a5 i hi, decide_eq_false (a7 i hi)]; rfl
theorem specStateOK_ok (s : Sta) (hL : s.es.length ≤ 1000000000) (hT : s.ts.length ≤ 1000000000) (hk1 : ∀ e ∈ s.es, e.key.length ≤ 1000000000) (hk2 : ∀ e ∈ s.ts, e.key.length ≤ 1000000000) : VFn Tryz.prog 46 [s.av] (.bool s.ok) := ok'_ok s ▸ specStateOK_fn s hL hT hk1 hk2
end Go.Proofs.YtopkjoalbinljaaGreatDoor
