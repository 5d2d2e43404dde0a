/- Of the library: a prefix cut off; a number read: contracts; the conditions are the theorems' own. -/
import Derived.Test.YtpfmfdioonjccaaGreatDoorGA
import Derived.Lib.AtoiErrMem
set_option linter.unusedVariables false
set_option linter.constructorNameAsVariable false
set_option linter.unusedSimpArgs false
set_option maxRecDepth 20000
namespace Go.Proofs.YtpfmfdioonjccaaGreatDoor
open Go Go.Vw

theorem CutPrefix_fn (s p : List UInt8) : VFn Tryz.prog 266 [.str (B s), .str (B p)] (.tup [.str (B (Lib.trimPrefix s p)), .bool (Lib.hasPrefix s p)]) := by
  refine VFn.lib Tryz.call266 fun w ok vs hJ hok hv => ?_
  obtain ⟨v, us, rfl, hv, v2, us2, rfl, hv2, hus⟩ := hv
  have e1 : v = .string (B s) := hv
  have e2 : v2 = .string (B p) := hv2
  have e3 : us2 = [] := hus
  subst e1 e2 e3
  refine (Tryz.strings_CutPrefix (B s) (B p) w).mono ?_
  rintro e w' ⟨rfl, rfl⟩
  refine ⟨_, rfl, Go.RowKit.Below.refl _ _, fun _ _ => ⟨[_, _], rfl, _, _, rfl, ?_, _, _, rfl, ?_, rfl⟩⟩
  · show Value.string _ = _
    rw [B_data, B_data]; rfl
  · show Value.bool _ = _
    rw [B_data, B_data]

theorem atoi_end (l : List UInt8) : (atoiOk l = true ∧ Lib.atoiAll l = .ok (atoiV l)) ∨ (atoiOk l = false ∧ Lib.atoiAll l = .syntax ∧ atoiV l = 0) ∨ (atoiOk l = false ∧ Lib.atoiAll l = .range ∧ atoiV l = Lib.atoiSat l) := by
  unfold atoiOk atoiV
  cases h : Lib.atoiAll l
  · exact .inl ⟨rfl, rfl⟩
  · exact .inr (.inl ⟨rfl, rfl, rfl⟩)
  · exact .inr (.inr ⟨rfl, rfl, rfl⟩)
theorem Atoi_ok (l : List UInt8) (hl : l.length ≤ 281474976710656) (h : atoiOk l = true) : VFn Tryz.prog 322 [.str (B l)] (.tup [.int .i64 (atoiV l), .niliface]) := by
  have h' : Lib.atoiAll (B l).data.toList = .ok (atoiV l) := by
    rw [B_data]
    rcases atoi_end l with h1 | h1 | h1
    · exact h1.2
    · rw [h] at h1; cases h1.1
    · rw [h] at h1; cases h1.1
  refine VFn.lib Tryz.call322 fun w ok vs hJ hok hv => ?_
  obtain ⟨v, us, rfl, hv, hus⟩ := hv
  have e1 : v = .string (B l) := hv
  have e3 : us = [] := hus
  subst e1 e3
  refine (Tryz.strconv_Atoi_ok (B l) (by rw [B_size]; omega) (atoiV l) h' w).mono ?_
  rintro e w' ⟨rfl, hw⟩
  refine ⟨_, rfl, ?_, fun _ _ => ⟨[_, _], rfl, _, _, rfl, rfl, _, _, rfl, rfl, rfl⟩⟩
  rcases hw with rfl | ⟨t, rfl⟩
  · exact Go.RowKit.Below.refl _ _
  · exact Go.Lib.bytesWorld_below _ _ _
theorem Atoi_no (l : List UInt8) (hl : l.length ≤ 281474976710656) (h : atoiOk l = false) : VFn Tryz.prog 322 [.str (B l)] (.tup [.int .i64 (atoiV l), .iface 350 .any]) := by
  refine VFn.lib Tryz.call322 fun w ok vs hJ hok hv => ?_
  obtain ⟨v, us, rfl, hv, hus⟩ := hv
  have e1 : v = .string (B l) := hv
  have e3 : us = [] := hus
  subst e1 e3
  rcases atoi_end l with h1 | ⟨_, h1, h2⟩ | ⟨_, h1, h2⟩
  · rw [h] at h1; cases h1.1
  · obtain ⟨tp, p, hv⟩ := tab_syntax hJ
    refine (Tryz.strconv_Atoi_syntax_var (B l) (by rw [B_size]; omega) (by rw [B_data]; exact h1) tp p w hv).mono ?_
    rintro e w' ⟨N, rfl, _, _, bel⟩
    refine ⟨_, rfl, bel, fun _ _ => ⟨[_, _], rfl, _, _, rfl, ?_, _, _, rfl, ⟨_, rfl, trivial⟩, rfl⟩⟩
    rw [h2]; rfl
  · obtain ⟨tp, p, hv⟩ := tab_range hJ
    refine (Tryz.strconv_Atoi_range_var (B l) (by rw [B_size]; omega) (by rw [B_data]; exact h1) tp p w hv).mono ?_
    rintro e w' ⟨N, rfl, _, _, bel⟩
    refine ⟨_, rfl, bel, fun _ _ => ⟨[_, _], rfl, _, _, rfl, ?_, _, _, rfl, ⟨_, rfl, trivial⟩, rfl⟩⟩
    rw [h2, ← B_data l]; rfl
end Go.Proofs.YtpfmfdioonjccaaGreatDoor
