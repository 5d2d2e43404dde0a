/- Texts: digits, numbers joined: contracts; the conditions are the theorems' own. -/
import Derived.Test.YtiialkiibfmddaaDoorV24
import Derived.Lib.AppendIntMem
import Derived.Test.YtiialkiibfmddaaDoorDSh
import Derived.Test.YtiialkiibfmddaaDoorProg
set_option linter.unusedVariables false
set_option linter.unusedSimpArgs false
set_option linter.unusedSectionVars false
namespace Go.Proofs.YtiialkiibfmddaaDoor
open Go Go.Vw
instance : Tabs Tryd.prog := Tabs.one 0 "internal/strconv.uint64pow10" .u64 Lib.pow10Tab (by kernel_rfl)

def B (l : List UInt8) : ByteArray := ⟨l.toArray⟩
theorem B_app (a b : List UInt8) : B a ++ B b = B (a ++ b) := by
  apply ByteArray.ext; simp [B]
theorem B_size (a : List UInt8) : (B a).size = a.length := by simp [B, ByteArray.size]

theorem dd_len : ∀ (k u : Nat), u < 10 ^ (k + 1) → (Lib.decDigits u).length ≤ k + 1
  | 0, u, h => by rw [Lib.decDigits, dif_pos (by simpa using h)]; simp
  | k + 1, u, h => by
    rw [Lib.decDigits]
    split
    · simp
    · have := dd_len k (u / 10) (by rw [Nat.pow_succ] at h; omega)
      simp; omega
theorem itoa_len {n : Int} (h0 : -9223372036854775808 ≤ n) (h1 : n ≤ 9223372036854775807) : (Lib.itoa n).length ≤ 21 := by
  unfold Lib.itoa
  split
  · have := dd_len 19 n.natAbs (by simp; omega)
    simp; omega
  · have := dd_len 19 n.toNat (by simp; omega)
    omega

theorem Itoa_fn (n : Int) (h0 : -9223372036854775808 ≤ n) (h1 : n ≤ 9223372036854775807) : VFn Tryd.prog 45 [.int .i64 n] (.str (B (Lib.itoa n))) := by
  refine VFn.lib Tryd.call45 fun w ok vs hJ hok hv => ?_
  obtain ⟨v, us, rfl, hv, hus⟩ := hv
  have e1 : v = .int .i64 n := hv
  have e2 : us = [] := hus
  subst e1 e2
  refine (Tryd.strconv_Itoa n h0 h1 w hJ).mono ?_
  rintro e w' ⟨rfl, k, os, rfl⟩
  exact ⟨_, rfl, Go.Lib.below_grow _ _ (Nat.le_refl _) k os, fun _ _ => rfl⟩

/-- texts in a slice -/
abbrev txts (xs : Nat → List UInt8) (n : Nat) : AV := .sl 1 n fun i => [.str (B (xs i))]
theorem Join_fn (xs : Nat → List UInt8) (n : Nat) (sep : List UInt8) (hn : n ≤ 1000) (hlen : (Lib.join ((List.range n).map xs) sep).length ≤ 140737488355328) :
    VFn Tryd.prog 46 [txts xs n, .str (B sep)] (.str (B (Lib.join ((List.range n).map xs) sep))) := by
  refine VFn.lib Tryd.call46 fun w ok vs hJ hok hv => ?_
  obtain ⟨v, us, rfl, hv, v2, us2, rfl, hv2, hus⟩ := hv
  obtain ⟨A, c, rfl, hc, hr⟩ := hv
  have e1 : v2 = .string (B sep) := hv2
  have e2 : us2 = [] := hus
  subst e1 e2
  rcases Nat.eq_zero_or_pos n with h0 | hpos
  · subst h0
    refine (Tryd.strings_Join_none A c (B sep) w).mono ?_
    rintro e w' ⟨rfl, rfl⟩
    exact ⟨_, rfl, Go.RowKit.Below.refl _ _, fun _ _ => rfl⟩
  · rcases hr with hr | ⟨b, o, rfl, hb, hr⟩
    · omega
    · have hmap : ((List.range n).map fun i => B (xs i)).map (fun x : ByteArray => x.data.toList) = (List.range n).map xs := by
        rw [List.map_map]; apply List.map_congr_left; intro i _; simp [B]
      have hsep : (B sep).data.toList = sep := by simp [B]
      have := Tryd.strings_Join b o c ((List.range n).map fun i => B (xs i)) (B sep) w (fun j x hx => ?_) (hok b hb) (by simp; omega) (by simpa using hc) (by rw [hmap, hsep]; exact hlen)
      · rw [hmap, hsep, List.length_map, List.length_range] at this
        refine this.mono ?_
        rintro e w' ⟨rfl, hbel⟩
        exact ⟨_, rfl, hbel, fun _ _ => rfl⟩
      · have hj : j < n := by
          rcases Nat.lt_or_ge j n with h | h
          · exact h
          · rw [List.getElem?_eq_none (by simpa using h)] at hx; cases hx
        simp [hj] at hx
        subst hx
        obtain ⟨ws, hl, hrv, hcell⟩ := hr j hj
        obtain ⟨u, us, rfl, h1, h2⟩ := hrv
        have e1 : u = .string (B (xs j)) := h1
        have := hcell 0 (by omega)
        simp only [Nat.mul_one, Nat.add_zero, List.getElem?_cons_zero] at this
        rw [this, e1]
end Go.Proofs.YtiialkiibfmddaaDoor
