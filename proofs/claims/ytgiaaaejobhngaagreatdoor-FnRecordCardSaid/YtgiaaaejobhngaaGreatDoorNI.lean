/- Records' texts read back: the plain law, ReadRecord. The conditions are the theorems' own. -/
import Derived.Test.YtgiaaaejobhngaaGreatDoorQ5
import Derived.Test.YtgiaaaejobhngaaGreatDoorQ7
set_option linter.unusedVariables false
set_option linter.constructorNameAsVariable false
set_option linter.unusedSimpArgs false
set_option maxRecDepth 20000
namespace Go.Proofs.YtgiaaaejobhngaaGreatDoor
open Go Go.Vw

theorem kOk_no32 {k : List UInt8} (h : kOk k = true) : (32 : UInt8) ∉ k := by
  unfold kOk at h
  cases hp : parseKey k with
  | none => rw [hp] at h; cases h
  | some z =>
    obtain ⟨u, n, w⟩ := z
    obtain ⟨e1, ht, hn, hw⟩ := key_parse hp
    rw [e1]
    have h3 : u = 0 ∨ u = 1 ∨ u = 2 := by omega
    have hd : ∀ m, (32 : UInt8) ∉ six6 m := fun m hm => six6_ne (n := m) (c := 32) (by decide) 32 hm rfl
    rcases h3 with rfl | rfl | rfl <;> simp [keyB, pre, hd]
theorem ok_no32 {r : Rc} (h : r.ok = true) : (32 : UInt8) ∉ r.key := by
  unfold Rc.ok at h
  split at h
  · simp [Rc.en, En.ok] at h; exact kOk_no32 h.2.2.1
  split at h
  · simp at h; rw [h.2.2]; simp
  split at h
  · simp [Rc.en, En.ok] at h; exact kOk_no32 h.2.2.1
  split at h
  · simp [Rc.en, En.ok] at h; exact kOk_no32 h.2.1
  split at h
  · simp at h; exact kOk_no32 h.2.2
  · cases h
theorem join_no32 : ∀ L : List Int, ∀ x ∈ Lib.join (L.map Lib.itoa) [44], x ≠ (32 : UInt8)
  | [], x, hx => by simp [Lib.join] at hx
  | [a], x, hx => itoa_ne (by decide) (by decide) x (by simpa [Lib.join] using hx)
  | a :: b :: r, x, hx => by
    have e : Lib.join ((a :: b :: r).map Lib.itoa) [44] = Lib.itoa a ++ [44] ++ Lib.join ((b :: r).map Lib.itoa) [44] := by simp [Lib.join, List.intercalate, List.intersperse]
    rw [e] at hx
    rcases List.mem_append.1 hx with hx | hx
    · rcases List.mem_append.1 hx with hx | hx
      · exact itoa_ne (by decide) (by decide) x hx
      · simp at hx; rw [hx]; decide
    · exact join_no32 (b :: r) x hx
theorem text_nums {r : Rc} (h : r.ok = true) : numsK 44 5 (Lib.join (r.nums.map Lib.itoa) [44]) = some [r.k, r.tok, r.tier, r.f, r.t] :=
  nums_back (c := 44) (by decide) (by decide) (N := r.nums) (by simp [Rc.nums]) (fun n hn => by have := (Rc.okN h).1 n hn; unfold mid at this; omega)
theorem text_back {r : Rc} (h : r.ok = true) : readR r.text = some r := by
  have := (readR_at (b := r.key) (join_no32 r.nums)).1 _ _ _ _ _ (text_nums h)
  show readR (Lib.join (r.nums.map Lib.itoa) [44] ++ 32 :: r.key) = _
  rw [this, if_pos h]
theorem text_more {r : Rc} (h : r.ok = true) : readR (r.text ++ [32, 120]) = none := by
  have := (readR_at (b := r.key ++ [32, 120]) (join_no32 r.nums)).1 _ _ _ _ _ (text_nums h)
  have e : r.text ++ [32, 120] = Lib.join (r.nums.map Lib.itoa) [44] ++ 32 :: (r.key ++ [32, 120]) := by
    unfold Rc.text; simp
  rw [e, this, if_neg]
  intro h'
  have := ok_no32 h'
  exact this (by simp)
theorem ReadRecord_yes (t : List UInt8) (hl : t.length ≤ 60000) {r : Rc} (h : readR t = some r) : VFn Tryz.prog 46 [.str (B t)] (.tup [r.av, .int .i64 0]) := by
  refine VFn.introC Tryz.call46 Tryz.func46 rfl rfl ?_
  refine CallC.sca (.bool false) ((isLong_fn [t] (show 1 ≤ _ by decide)).weak (AVsle.cons (AVle.sl1 rfl) AVsle.nil) (AVle.of_eq ?_)) ?_ ?_
  · congr 1; simp; omega
  · exact rfl
  conv => whnf
  refine CallC.sca _ (readRecord_yes t (by omega) h) ?_ ?_
  · exact rfl
  exact And.intro trivial (AVle.refl _)
theorem ReadRecord_no (t : List UInt8) (hl : t.length ≤ 60000) (h : readR t = none) : VFn Tryz.prog 46 [.str (B t)] (.tup [(default : Rc).av, .int .i64 3]) := by
  obtain ⟨r, c⟩ := readRecord_no t (by omega) h
  refine VFn.introC Tryz.call46 Tryz.func46 rfl rfl ?_
  refine CallC.sca (.bool false) ((isLong_fn [t] (show 1 ≤ _ by decide)).weak (AVsle.cons (AVle.sl1 rfl) AVsle.nil) (AVle.of_eq ?_)) ?_ ?_
  · congr 1; simp; omega
  · exact rfl
  conv => whnf
  refine CallC.sca _ (c) ?_ ?_
  · exact rfl
  exact And.intro trivial (AVle.refl _)
end Go.Proofs.YtgiaaaejobhngaaGreatDoor
