/- laws.FnExactStepIngester returns true for every input, and its arguments read as before. The package tables that the library reads are as the program's text lays them (tied). -/
import Derived.Test.YtopfpmcakoeloaaGreatDoorQ10
import Derived.Test.YtopfpmcakoeloaaGreatDoorGL
import Derived.Test.YtopfpmcakoeloaaGreatDoorRows
import Derived.Test.YtopfpmcakoeloaaGreatDoorCards
import Derived.Test.YtopfpmcakoeloaaGreatDoorTie
import Derived.ProofKit
import Derived.LaidMore
import Derived.OpenShut
import Derived.Stop.Joined
import Derived.SevenTiedAt
namespace Go.Proofs.YtopfpmcakoeloaaGreatDoor
open Go Go.Vw Go.ChangeShapes Go.WideShapes Go.ChangeAt Go.RowKit
set_option linter.unusedVariables false
set_option linter.constructorNameAsVariable false
set_option linter.unusedSimpArgs false

section
variable {H : Type} {enc : TypeId × Value → H} {w : World}
theorem rd_int : Rd enc Tryz.prog w 3 (fun l => ∃ n, l = [.int .i64 n] ∧ IntKind.i64.min ≤ n ∧ n ≤ IntKind.i64.max) := Rd.int Tryz.underlying3
theorem rd_str : Rd enc Tryz.prog w 9 (fun l => ∃ s, l = [.str (B s)] ∧ s.length ≤ maxLen) := Rd.strB Tryz.underlying9
theorem rd_ob : Rd enc Tryz.prog w 79 (fun l => ∃ e : Ob, l = e.row ∧ (e.key.length ≤ maxLen ∧ e.data.length ≤ maxLen)) :=
  (Rd.struct Tryz.underlying79 (by kernel_rfl) (.cons rd_str (.cons rd_int (.cons rd_str .nil)))).weak fun l h => by
    obtain ⟨_, _, rfl, ⟨k, rfl, h1⟩, _, _, rfl, ⟨v, rfl, _⟩, _, _, rfl, ⟨d, rfl, h2⟩, rfl⟩ := h
    exact ⟨⟨k, v, d⟩, rfl, h1, h2⟩
theorem rd_obs : Rd enc Tryz.prog w 22 (fun l => ∃ L : List Ob, l = [obs L] ∧ L.length ≤ maxLen ∧ ∀ e ∈ L, (e.key.length ≤ maxLen ∧ e.data.length ≤ maxLen)) := Rd.listQ Tryz.underlying22 (by kernel_rfl) (by decide) rd_ob
theorem rd_store : Rd enc Tryz.prog w 24 (fun l => ∃ s : Sto, l = s.row ∧ StoIn s) :=
  (Rd.struct Tryz.underlying24 (by kernel_rfl) (.cons rd_obs (.cons rd_int .nil))).weak fun l h => by
    obtain ⟨_, _, rfl, ⟨L, rfl, h1, h2⟩, _, _, rfl, ⟨n, rfl, h3, h4⟩, rfl⟩ := h
    refine ⟨⟨L, n⟩, rfl, ⟨?_, ?_, ⟨h3, h4⟩⟩⟩
    · unfold maxLen at h1; show L.length ≤ _; omega
    · intro e he; have := h2 e he; unfold maxLen at this; exact ⟨by omega, by omega⟩
theorem rd_smp : Rd enc Tryz.prog w 99 (fun l => ∃ b : Smp, l = b.row) :=
  (Rd.struct Tryz.underlying99 (by kernel_rfl) (.cons rd_int (.cons rd_int .nil))).weak fun l h => by
    obtain ⟨_, _, rfl, ⟨t, rfl, _⟩, _, _, rfl, ⟨v, rfl, _⟩, rfl⟩ := h
    exact ⟨⟨t, v⟩, rfl⟩
theorem rd_smps : Rd enc Tryz.prog w 25 (fun l => ∃ L : List Smp, l = [smps L] ∧ L.length ≤ maxLen) := Rd.list Tryz.underlying25 (by kernel_rfl) (by decide) rd_smp
theorem rd_bool : Rd enc Tryz.prog w 4 (fun l => ∃ b, l = [.bool b]) := Rd.bool Tryz.underlying4
theorem rd_ig : Rd enc Tryz.prog w 27 (fun l => ∃ e : Ig, l = e.row ∧ Ig.rd e) :=
  (Rd.struct Tryz.underlying27 (by kernel_rfl) (.cons rd_int (.cons rd_int (.cons rd_int (.cons rd_int (.cons rd_smps (.cons rd_bool .nil))))))).weak fun l h => by
    obtain ⟨_, _, rfl, ⟨id, rfl, _⟩, _, _, rfl, ⟨sq, rfl, _⟩, _, _, rfl, ⟨f, rfl, _⟩, _, _, rfl, ⟨t, rfl, _⟩, _, _, rfl, ⟨L, rfl, h1⟩, _, _, rfl, ⟨b, rfl⟩, rfl⟩ := h
    refine ⟨⟨id, sq, f, t, L, b⟩, rfl, ?_⟩
    unfold maxLen at h1; show L.length ≤ _; omega
end

set_option maxRecDepth 100000 in
theorem liftedStepIngester (os : Os) (started : os.Started) (H : Type) (enc : TypeId × Value → H) :
    ReturnsInHanded {} Tryz.checked os 3 .any (fun w args => (Rows.fnExactStepIngesterSpec.pre enc Tryz.prog Tryz.f3 [] false w args ∧ laidMetH Tryz.prog laidT w) ∧ sizedMet enc Tryz.prog Tryz.f3 (OpenSpec.ofChange Rows.fnExactStepIngesterSpec) false w args)
      (Rows.fnExactStepIngesterSpec.post enc Tryz.prog Tryz.f3 false true false false) := by
  refine rowG (C := Tryz.checked) (X := fun w _ => laidMetH Tryz.prog laidT w) (fun _ _ _ hh h => h.of_heap hh) ownG started (by kernel_rfl) Tryz.func3
    (ChangeSpec.witness_shaped (enc := enc) (C := Tryz.checked) (os := os) (X := fun w _ => laidMetH Tryz.prog laidT w) false (World.laidAll Tryz.prog os laidT) #[.agg #[.slice none 0 0, .int .i64 0], .agg #[.int .i64 0, .int .i64 0, .int .i64 0, .int .i64 0, .slice none 0 0, .bool false]] 8 (World.laidAll_os _ _ _) (World.shaped_of_ZipB (by kernel_rfl) (by kernel_rfl)) (by kernel_rfl) (by kernel_rfl) (by kernel_rfl) (door_metG os _)) ?_
  intro W base args ds gs before hval0 hW hC1 hC2 hL hC3
  have hval : ∀ (j : Nat) t v, Tryz.f3.params[j]? = some t → args[j]? = some v → Value.okWide Tryz.prog W .any base t v := hval0
  have hW' := hW
  obtain ⟨p, q, hA0, hV, rfl, hfz, hnd⟩ := hW
  have hA : DataW.TrodAll enc Tryz.prog W 0 (fun _ => true) true Tryz.f3.params.toList args.toList ds p := hA0
  rw [Tryz.params3] at hA hval
  obtain ⟨v0, vs0, d0, ds0, p0, q0, hargs, rfl, rfl, h0, r0⟩ := trodAll_cons hA
  obtain ⟨v1, vs1, d1, ds1, p1, q1, rfl, rfl, rfl, h1, r1⟩ := trodAll_cons r0
  obtain ⟨rfl, rfl, rfl⟩ := trodAll_nil r1
  obtain rfl : args = #[v0, v1] := by cases args; simp_all
  obtain ⟨rfl, rfl⟩ := trodVars_none hV
  obtain ⟨cs0, rfl, _⟩ := okWide_struct Tryz.underlying24 (hval 0 24 v0 rfl rfl)
  obtain ⟨cs1, rfl, _⟩ := okWide_struct Tryz.underlying27 (hval 1 27 v1 rfl rfl)
  have lt0 : ∀ x ∈ p0, x.block < W.heap.size := by obtain ⟨m, hm⟩ := h0; exact DataW.trod_lt m _ _ _ hm
  have lt1 : ∀ x ∈ p1, x.block < W.heap.size := by obtain ⟨m, hm⟩ := h1; exact DataW.trod_lt m _ _ _ hm
  obtain ⟨_, ⟨x0, rfl, b0⟩, e0⟩ := rd_store.arg1 h0
  have g0 := arg_agg e0
  obtain ⟨_, ⟨x1, rfl, b1⟩, e1⟩ := rd_ig.arg1 h1
  have g1 := arg_agg e1
  clear hA0 hval0
  refine ((law_StepIngester x0 b0 x1 b1).calls W (fun b => b < W.heap.size) [_, _] (tab_ofG hL.1 hL.2) (fun b h => h) ⟨_, _, rfl, g0, _, _, rfl, g1, rfl⟩).mono fun e W' ⟨v, he, fr, hv⟩ => ?_
  subst he
  have hv' : v = .bool true := hv
  subst hv'
  have bel := fr.below
  exact ⟨_, rfl, _, _, _, [], _, [], hW', trodAll_mk1 (shut_bool Tryz.underlying4 _), (trodAll_cons_mk (Below.trod laidOutG (by kernel_rfl) (of_decide_eq_true (by kernel_rfl)) h0 bel lt0) (trodAll_cons_mk (Below.trod laidOutG (by kernel_rfl) (of_decide_eq_true (by kernel_rfl)) h1 bel lt1) trodAll_mk0)), rfl, bel.frame _, fun h => by cases h⟩

theorem closedAStepIngester : (Rows.fnExactStepIngesterRow.inPlace == Tryz.prog.inPlace 3) = true := by kernel_rfl
theorem closedBStepIngester : (Rows.fnExactStepIngesterRow.unfollowed == Tryz.prog.unfollowed 3) = true := by kernel_rfl
theorem closedCStepIngester : (Rows.fnExactStepIngesterRow.recurses == Tryz.prog.recurses 3) = true := by kernel_rfl
theorem closedDStepIngester : (Rows.fnExactStepIngesterRow.named == Tryz.prog.varsNamed 3) = true := by kernel_rfl
set_option maxHeartbeats 8000000 in
theorem closedStepIngester : joinedFacts Tryz.prog 3 Tryz.f3 Rows.fnExactStepIngesterSpec Rows.fnExactStepIngesterRow = true := by
  unfold joinedFacts
  rw [closedAStepIngester, closedBStepIngester, closedCStepIngester, closedDStepIngester]
  simp only [Bool.and_eq_true]
  repeat' apply And.intro
  all_goals (first | exact True.intro | (as_aux_lemma => kernel_rfl))
theorem saidStepIngester : Rows.FnExactStepIngesterSaid :=
  OpenClaim.holds_of_wide 3 Tryz.f3 rfl rfl rfl rfl rfl rfl rfl ⟨rfl, rfl, rfl, rfl, rfl⟩ rfl rfl rfl rfl rfl (by kernel_rfl) Tryz.func3 closedStepIngester
    (of_decide_eq_true (by kernel_rfl)) (by unfold Func.isWrapper; first | (rw [if_pos (by decide +kernel)]; kernel_rfl) | (rw [if_neg (by decide +kernel)]; exact ⟨rfl, rfl⟩))
    (fun os started H enc _ => liftedStepIngester os started H enc)

set_option maxHeartbeats 8000000 in
theorem provedStepIngester : Rows.FnExactStepIngesterCardSaid :=
  Claim7.holds_tied_plain_at .later [] [.data, .data, .data, .data, .sentinel, .sentinel, .pinned] true (true, "1cda47c9998f8b1911e7c5bcdfc57d0d0915675cafdc9daa49405c3bdc7a9573") true
    saidStepIngester (fun _ h => by cases h) (by as_aux_lemma => kernel_rfl) (fun _ h => by cases h) fnExactStepIngester_row_tie rfl ⟨rfl, rfl⟩ (by as_aux_lemma => kernel_rfl) rfl
    (fun f fn hf hfn => by
      obtain rfl : f = 3 := Option.some.inj ((show Tryz.prog.funcNamed "loop.example/g00601/laws.FnExactStepIngester" = some 3 by as_aux_lemma => kernel_rfl).symm.trans hf) |>.symm
      obtain rfl : fn = Tryz.f3 := (Option.some.inj (Tryz.func3.symm.trans hfn)).symm
      exact ⟨by as_aux_lemma => kernel_rfl, fun j t ht => by
        rw [Tryz.params3] at ht
        have hm : t ∈ [24, 27] := by simpa using Array.mem_of_getElem? ht
        have hall : ([24, 27].all fun u => !Tryz.prog.wantsStandIn u) = true := by as_aux_lemma => kernel_rfl
        exact (show Tryz.prog.wantsStandIn t = false by simpa using List.all_eq_true.1 hall t hm)⟩)
    (by as_aux_lemma => kernel_rfl)
#print axioms provedStepIngester
end Go.Proofs.YtopfpmcakoeloaaGreatDoor
