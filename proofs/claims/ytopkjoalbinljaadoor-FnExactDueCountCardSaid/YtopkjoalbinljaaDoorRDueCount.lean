/- laws.FnExactDueCount returns true for every input, and its arguments read as before. The package tables that the library reads are as the program's text lays them (tied). -/
import Derived.Test.YtopkjoalbinljaaDoorGU
import Derived.Test.YtopkjoalbinljaaDoorGL
import Derived.Test.YtopkjoalbinljaaDoorRows
import Derived.Test.YtopkjoalbinljaaDoorCards
import Derived.Test.YtopkjoalbinljaaDoorTie
import Derived.ProofKit
import Derived.LaidMore
import Derived.OpenShut
import Derived.Stop.Joined
import Derived.SevenTiedAt
namespace Go.Proofs.YtopkjoalbinljaaDoor
open Go Go.Vw Go.ChangeShapes Go.WideShapes Go.ChangeAt Go.RowKit
set_option linter.unusedVariables false

section
variable {H : Type} {enc : TypeId × Value → H} {w : World}
theorem rd_int : Rd enc Tryd.prog w 3 (fun l => ∃ n, l = [.int .i64 n] ∧ IntKind.i64.min ≤ n ∧ n ≤ IntKind.i64.max) := Rd.int Tryd.underlying3
theorem rd_str : Rd enc Tryd.prog w 9 (fun l => ∃ s, l = [.str (B s)] ∧ s.length ≤ maxLen) := Rd.strB Tryd.underlying9
theorem rd_en : Rd enc Tryd.prog w 151 (fun l => ∃ e : En, l = e.row ∧ e.size ≤ maxLen) :=
  (Rd.struct Tryd.underlying151 (by kernel_rfl) (.cons rd_int (.cons rd_int (.cons rd_int (.cons rd_str .nil))))).weak fun l h => by
    obtain ⟨_, _, rfl, ⟨tier, rfl, _⟩, _, _, rfl, ⟨f, rfl, _⟩, _, _, rfl, ⟨t, rfl, _⟩, _, _, rfl, ⟨s, rfl, hL⟩, rfl⟩ := h
    exact ⟨⟨tier, f, t, s⟩, rfl, hL⟩
theorem rd_tb : Rd enc Tryd.prog w 154 (fun l => ∃ e : Tb, l = e.row ∧ e.size ≤ maxLen) :=
  (Rd.struct Tryd.underlying154 (by kernel_rfl) (.cons rd_int (.cons rd_str .nil))).weak fun l h => by
    obtain ⟨_, _, rfl, ⟨q, rfl, _⟩, _, _, rfl, ⟨s, rfl, hL⟩, rfl⟩ := h
    exact ⟨⟨q, s⟩, rfl, hL⟩
theorem rd_ens : Rd enc Tryd.prog w 48 (fun l => ∃ L : List En, l = [ents L] ∧ L.length ≤ maxLen ∧ ∀ e ∈ L, e.size ≤ maxLen) := Rd.listQ Tryd.underlying48 (by kernel_rfl) (by decide) rd_en
theorem rd_tbs : Rd enc Tryd.prog w 49 (fun l => ∃ L : List Tb, l = [tbs L] ∧ L.length ≤ maxLen ∧ ∀ e ∈ L, e.size ≤ maxLen) := Rd.listQ Tryd.underlying49 (by kernel_rfl) (by decide) rd_tb
theorem rd_a3 : Rd enc Tryd.prog w 50 (fun l => ∃ a b c, l = [.int .i64 a, .int .i64 b, .int .i64 c]) := Rd.arr3 Tryd.underlying50 Tryd.underlying3 (by kernel_rfl) (by kernel_rfl)
theorem rd_state : Rd enc Tryd.prog w 52 (fun l => ∃ s : Sta, l = s.row ∧ s.read) :=
  (Rd.struct Tryd.underlying52 (by kernel_rfl) (.cons rd_int (.cons rd_int (.cons rd_ens (.cons rd_tbs (.cons rd_a3 (.cons rd_a3 .nil))))))).weak fun l h => by
    obtain ⟨_, _, rfl, ⟨seq, rfl, _⟩, _, _, rfl, ⟨fence, rfl, _⟩, _, _, rfl, ⟨L, rfl, h1, h2⟩, _, _, rfl, ⟨T, rfl, h3, h4⟩, _, _, rfl, ⟨a, b, c, rfl⟩, _, _, rfl, ⟨d, e, f, rfl⟩, rfl⟩ := h
    refine ⟨⟨seq, fence, L, T, a, b, c, d, e, f⟩, rfl, ?_⟩
    unfold maxLen at *
    exact ⟨by simp only; omega, by simp only; omega, fun e he => by have := h2 e he; omega, fun e he => by have := h4 e he; omega⟩
end

set_option maxRecDepth 100000 in
theorem liftedDueCount (os : Os) (started : os.Started) (H : Type) (enc : TypeId × Value → H) :
    ReturnsInHanded {} Tryd.checked os 6 .any (fun w args => (Rows.fnExactDueCountSpec.pre enc Tryd.prog Tryd.f6 [] false w args ∧ laidMetH Tryd.prog laidT w) ∧ sizedMet enc Tryd.prog Tryd.f6 (OpenSpec.ofChange Rows.fnExactDueCountSpec) false w args)
      (Rows.fnExactDueCountSpec.post enc Tryd.prog Tryd.f6 false true false false) := by
  refine returnsInHanded_of_change_and (C := Tryd.checked) (X := fun w _ => laidMetH Tryd.prog laidT w) (fun _ _ _ hh h => h.of_heap hh) ownG started (by kernel_rfl) Tryd.func6
    (ChangeSpec.witness_shaped (enc := enc) (C := Tryd.checked) (os := os) (X := fun w _ => laidMetH Tryd.prog laidT w) false (World.doorLaid Tryd.prog 400 os) #[.agg #[.int .i64 0, .int .i64 0, .slice none 0 0, .slice none 0 0, .int .i64 0, .int .i64 0, .int .i64 0, .int .i64 0, .int .i64 0, .int .i64 0]] 8 rfl (World.shaped_of_RefB (by kernel_rfl) (by kernel_rfl)) (by kernel_rfl) (by kernel_rfl) (by kernel_rfl) (door_metG os _)) ?_
  intro W base args ds gs before hval0 hW hC1 hC2 hL hC3
  have hval : ∀ (j : Nat) t v, Tryd.f6.params[j]? = some t → args[j]? = some v → Value.okWide Tryd.prog W .any base t v := hval0
  have hW' := hW
  obtain ⟨p, q, hA0, hV, rfl, hfz, hnd⟩ := hW
  have hA : DataW.TrodAll enc Tryd.prog W 0 (fun _ => true) true Tryd.f6.params.toList args.toList ds p := hA0
  rw [Tryd.params6] at hA hval
  obtain ⟨v0, vs0, d0, ds0, p0, q0, hargs, rfl, rfl, h0, r0⟩ := trodAll_cons hA
  obtain ⟨rfl, rfl, rfl⟩ := trodAll_nil r0
  obtain rfl : args = #[v0] := by cases args; simp_all
  obtain ⟨rfl, rfl⟩ := trodVars_none hV
  obtain ⟨cs0, rfl, _⟩ := okWide_struct Tryd.underlying52 (hval 0 52 v0 rfl rfl)
  have lt0 : ∀ x ∈ p0, x.block < W.heap.size := by obtain ⟨m, hm⟩ := h0; exact DataW.trod_lt m _ _ _ hm
  obtain ⟨_, ⟨x0, rfl, b0⟩, e0⟩ := rd_state.arg1 h0
  have g0 := arg_agg e0
  clear hA0 hval0
  refine ((law_DueCount x0 b0).calls W (fun b => b < W.heap.size) [_] (tab_ofG hL) (fun b h => h) ⟨_, _, rfl, g0, rfl⟩).mono fun e W' ⟨v, he, fr, hv⟩ => ?_
  subst he
  have hv' : v = .bool true := hv
  subst hv'
  have bel := fr.below
  exact ⟨_, rfl, _, _, _, [], _, [], hW', trodAll_mk1 (shut_bool Tryd.underlying4 _), (trodAll_cons_mk (Below.trod laidOutG (by kernel_rfl) (of_decide_eq_true (by kernel_rfl)) h0 bel lt0) trodAll_mk0), rfl, bel.frame _, fun h => by cases h⟩

theorem saidDueCount : Rows.FnExactDueCountSaid :=
  OpenClaim.holds_of_wide 6 Tryd.f6 rfl rfl rfl rfl rfl rfl rfl ⟨rfl, rfl, rfl, rfl, rfl⟩ rfl rfl rfl rfl rfl (by kernel_rfl) Tryd.func6 (by kernel_rfl)
    (of_decide_eq_true (by kernel_rfl)) (by unfold Func.isWrapper; first | (rw [if_pos (by decide +kernel)]; kernel_rfl) | (rw [if_neg (by decide +kernel)]; exact ⟨rfl, rfl⟩))
    (fun os started H enc _ => liftedDueCount os started H enc)

theorem provedDueCount : Rows.FnExactDueCountCardSaid :=
  Claim7.holds_tied_plain_at .later [] [.data, .data, .data, .sentinel, .sentinel] true (true, "49734a19f368801cb9761775b006dcf389e133626eea0331534cd1d896ac6f50") true
    saidDueCount (fun _ h => by cases h) (by kernel_rfl) (fun _ h => by cases h) fnExactDueCount_row_tie rfl ⟨rfl, rfl⟩ (by kernel_rfl) rfl
    (fun f fn hf hfn => by
      obtain rfl : f = 6 := Option.some.inj ((show Tryd.prog.funcNamed "loop.example/g00601/laws.FnExactDueCount" = some 6 by kernel_rfl).symm.trans hf) |>.symm
      obtain rfl : fn = Tryd.f6 := (Option.some.inj (Tryd.func6.symm.trans hfn)).symm
      exact ⟨by kernel_rfl, fun j t ht => by
        rw [Tryd.params6] at ht
        have hm : t ∈ [52] := by simpa using Array.mem_of_getElem? ht
        have hall : ([52].all fun u => !Tryd.prog.wantsStandIn u) = true := by kernel_rfl
        exact (show Tryd.prog.wantsStandIn t = false by simpa using List.all_eq_true.1 hall t hm)⟩)
    (by kernel_rfl)
#print axioms provedDueCount
end Go.Proofs.YtopkjoalbinljaaDoor
