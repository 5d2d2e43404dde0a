/- laws.FnExactStateLines returns true for every input, and its arguments read as before. The package tables that the library reads are as the program's text lays them (tied). -/
import Derived.Test.YtopkjoalbinljaaGreatDoorHH
import Derived.Test.YtopkjoalbinljaaGreatDoorGL
import Derived.Test.YtopkjoalbinljaaGreatDoorRows
import Derived.Test.YtopkjoalbinljaaGreatDoorCards
import Derived.Test.YtopkjoalbinljaaGreatDoorTie
import Derived.ProofKit
import Derived.LaidMore
import Derived.OpenShut
import Derived.Stop.Joined
import Derived.SevenTiedAt
namespace Go.Proofs.YtopkjoalbinljaaGreatDoor
open Go Go.Vw Go.ChangeShapes Go.WideShapes Go.ChangeAt Go.RowKit
set_option linter.unusedVariables false
set_option linter.unusedSimpArgs false

section
variable {H : Type} {enc : TypeId × Value → H} {w : World}
theorem rd_int : Rd enc Tryz.prog w 3 (fun l => ∃ n, l = [.int .i64 n] ∧ IntKind.i64.min ≤ n ∧ n ≤ IntKind.i64.max) := Rd.int Tryz.underlying3
theorem rd_str : Rd enc Tryz.prog w 9 (fun l => ∃ s, l = [.str (B s)] ∧ s.length ≤ maxLen) := Rd.strB Tryz.underlying9
theorem rd_en : Rd enc Tryz.prog w 153 (fun l => ∃ e : En, l = e.row ∧ e.size ≤ maxLen) :=
  (Rd.struct Tryz.underlying153 (by kernel_rfl) (.cons rd_int (.cons rd_int (.cons rd_int (.cons rd_str .nil))))).weak fun l h => by
    obtain ⟨_, _, rfl, ⟨tier, rfl, _⟩, _, _, rfl, ⟨f, rfl, _⟩, _, _, rfl, ⟨t, rfl, _⟩, _, _, rfl, ⟨s, rfl, hL⟩, rfl⟩ := h
    exact ⟨⟨tier, f, t, s⟩, rfl, hL⟩
theorem rd_tb : Rd enc Tryz.prog w 155 (fun l => ∃ e : Tb, l = e.row ∧ e.size ≤ maxLen) :=
  (Rd.struct Tryz.underlying155 (by kernel_rfl) (.cons rd_int (.cons rd_str .nil))).weak fun l h => by
    obtain ⟨_, _, rfl, ⟨q, rfl, _⟩, _, _, rfl, ⟨s, rfl, hL⟩, rfl⟩ := h
    exact ⟨⟨q, s⟩, rfl, hL⟩
theorem rd_ens : Rd enc Tryz.prog w 50 (fun l => ∃ L : List En, l = [ents L] ∧ L.length ≤ maxLen ∧ ∀ e ∈ L, e.size ≤ maxLen) := Rd.listQ Tryz.underlying50 (by kernel_rfl) (by decide) rd_en
theorem rd_tbs : Rd enc Tryz.prog w 51 (fun l => ∃ L : List Tb, l = [tbs L] ∧ L.length ≤ maxLen ∧ ∀ e ∈ L, e.size ≤ maxLen) := Rd.listQ Tryz.underlying51 (by kernel_rfl) (by decide) rd_tb
theorem rd_a3 : Rd enc Tryz.prog w 25 (fun l => ∃ a b c, l = [.int .i64 a, .int .i64 b, .int .i64 c]) := Rd.arr3 Tryz.underlying25 Tryz.underlying3 (by kernel_rfl) (by kernel_rfl)
theorem rd_state : Rd enc Tryz.prog w 53 (fun l => ∃ s : Sta, l = s.row ∧ s.read) :=
  (Rd.struct Tryz.underlying53 (by kernel_rfl) (.cons rd_int (.cons rd_int (.cons rd_ens (.cons rd_tbs (.cons rd_a3 (.cons rd_a3 .nil))))))).weak fun l h => by
    obtain ⟨_, _, rfl, ⟨seq, rfl, _⟩, _, _, rfl, ⟨fence, rfl, _⟩, _, _, rfl, ⟨L, rfl, h1, h2⟩, _, _, rfl, ⟨T, rfl, h3, h4⟩, _, _, rfl, ⟨a, b, c, rfl⟩, _, _, rfl, ⟨d, e, f, rfl⟩, rfl⟩ := h
    refine ⟨⟨seq, fence, L, T, a, b, c, d, e, f⟩, rfl, ?_⟩
    unfold maxLen at *
    exact ⟨by simp only; omega, by simp only; omega, fun e he => by have := h2 e he; omega, fun e he => by have := h4 e he; omega⟩
end

set_option maxRecDepth 100000 in
theorem liftedStateLines (os : Os) (started : os.Started) (H : Type) (enc : TypeId × Value → H) :
    ReturnsInHanded {} Tryz.checked os 5 .any (fun w args => (Rows.fnExactStateLinesSpec.pre enc Tryz.prog Tryz.f5 [] false w args ∧ laidMetH Tryz.prog laidT w) ∧ sizedMet enc Tryz.prog Tryz.f5 (OpenSpec.ofChange Rows.fnExactStateLinesSpec) false w args)
      (Rows.fnExactStateLinesSpec.post enc Tryz.prog Tryz.f5 false true false false) := by
  refine returnsInHanded_of_change_and (C := Tryz.checked) (X := fun w _ => laidMetH Tryz.prog laidT w) (fun _ _ _ hh h => h.of_heap hh) ownG started (by kernel_rfl) Tryz.func5
    (ChangeSpec.witness_shaped (enc := enc) (C := Tryz.checked) (os := os) (X := fun w _ => laidMetH Tryz.prog laidT w) false (World.doorLaid Tryz.prog 400 os) #[.agg #[.int .i64 0, .int .i64 0, .slice none 0 0, .slice none 0 0, .int .i64 0, .int .i64 0, .int .i64 0, .int .i64 0, .int .i64 0, .int .i64 0]] 8 rfl (World.shaped_of_RefB (by kernel_rfl) (by kernel_rfl)) (by kernel_rfl) (by kernel_rfl) (by kernel_rfl) (door_metG os _)) ?_
  intro W base args ds gs before hval0 hW hC1 hC2 hL hC3
  have hval : ∀ (j : Nat) t v, Tryz.f5.params[j]? = some t → args[j]? = some v → Value.okWide Tryz.prog W .any base t v := hval0
  have hW' := hW
  obtain ⟨p, q, hA0, hV, rfl, hfz, hnd⟩ := hW
  have hA : DataW.TrodAll enc Tryz.prog W 0 (fun _ => true) true Tryz.f5.params.toList args.toList ds p := hA0
  rw [Tryz.params5] at hA hval
  obtain ⟨v0, vs0, d0, ds0, p0, q0, hargs, rfl, rfl, h0, r0⟩ := trodAll_cons hA
  obtain ⟨rfl, rfl, rfl⟩ := trodAll_nil r0
  obtain rfl : args = #[v0] := by cases args; simp_all
  obtain ⟨rfl, rfl⟩ := trodVars_none hV
  obtain ⟨cs0, rfl, _⟩ := okWide_struct Tryz.underlying53 (hval 0 53 v0 rfl rfl)
  have lt0 : ∀ x ∈ p0, x.block < W.heap.size := by obtain ⟨m, hm⟩ := h0; exact DataW.trod_lt m _ _ _ hm
  obtain ⟨_, ⟨x0, rfl, b0⟩, e0⟩ := rd_state.arg1 h0
  have g0 := arg_agg e0
  clear hA0 hval0
  refine ((law_StateLines x0 b0).calls W (fun b => b < W.heap.size) [_] (tab_ofG hL) (fun b h => h) ⟨_, _, rfl, g0, rfl⟩).mono fun e W' ⟨v, he, fr, hv⟩ => ?_
  subst he
  have hv' : v = .bool true := hv
  subst hv'
  have bel := fr.below
  exact ⟨_, rfl, _, _, _, [], _, [], hW', trodAll_mk1 (shut_bool Tryz.underlying4 _), (trodAll_cons_mk (Below.trod laidOutG (by kernel_rfl) (of_decide_eq_true (by kernel_rfl)) h0 bel lt0) trodAll_mk0), rfl, bel.frame _, fun h => by cases h⟩

theorem saidStateLines : Rows.FnExactStateLinesSaid :=
  OpenClaim.holds_of_wide 5 Tryz.f5 rfl rfl rfl rfl rfl rfl rfl ⟨rfl, rfl, rfl, rfl, rfl⟩ rfl rfl rfl rfl rfl (by kernel_rfl) Tryz.func5 (by kernel_rfl)
    (of_decide_eq_true (by kernel_rfl)) (by unfold Func.isWrapper; first | (rw [if_pos (by decide +kernel)]; kernel_rfl) | (rw [if_neg (by decide +kernel)]; exact ⟨rfl, rfl⟩))
    (fun os started H enc _ => liftedStateLines os started H enc)

theorem provedStateLines : Rows.FnExactStateLinesCardSaid :=
  Claim7.holds_tied_plain_at .later [] [.data, .data, .data, .sentinel, .sentinel] true (true, "e0e9224cb1118c1a508cafaa1d114f684fa591e7a68087abda953902a3860fba") true
    saidStateLines (fun _ h => by cases h) (by kernel_rfl) (fun _ h => by cases h) fnExactStateLines_row_tie rfl ⟨rfl, rfl⟩ (by kernel_rfl) rfl
    (fun f fn hf hfn => by
      obtain rfl : f = 5 := Option.some.inj ((show Tryz.prog.funcNamed "loop.example/g00601/laws.FnExactStateLines" = some 5 by kernel_rfl).symm.trans hf) |>.symm
      obtain rfl : fn = Tryz.f5 := (Option.some.inj (Tryz.func5.symm.trans hfn)).symm
      exact ⟨by kernel_rfl, fun j t ht => by
        rw [Tryz.params5] at ht
        have hm : t ∈ [53] := by simpa using Array.mem_of_getElem? ht
        have hall : ([53].all fun u => !Tryz.prog.wantsStandIn u) = true := by kernel_rfl
        exact (show Tryz.prog.wantsStandIn t = false by simpa using List.all_eq_true.1 hall t hm)⟩)
    (by kernel_rfl)
#print axioms provedStateLines
end Go.Proofs.YtopkjoalbinljaaGreatDoor
