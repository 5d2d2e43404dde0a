/- laws.FnWorker returns true for every input, and its arguments read as before. The package tables that the library reads are as the program's text lays them (tied). -/
import Derived.Test.YtigbaclopbcjnaaGreatDoorQ18
import Derived.Test.YtigbaclopbcjnaaGreatDoorGL
import Derived.Test.YtigbaclopbcjnaaGreatDoorRows
import Derived.Test.YtigbaclopbcjnaaGreatDoorCards
import Derived.Test.YtigbaclopbcjnaaGreatDoorTie
import Derived.ProofKit
import Derived.LaidMore
import Derived.OpenShut
import Derived.Stop.Joined
import Derived.SevenTiedAt
namespace Go.Proofs.YtigbaclopbcjnaaGreatDoor
open Go Go.Vw Go.ChangeShapes Go.WideShapes Go.ChangeAt Go.RowKit
set_option linter.unusedVariables false
set_option linter.constructorNameAsVariable false
set_option linter.unusedSimpArgs false

section
variable {H : Type} {enc : TypeId × Value → H} {w : World}
theorem rd_u8 : Rd enc Tryz.prog w 5 (fun l => ∃ c : UInt8, l = [.int .u8 ((c.toNat : Nat) : Int)]) := (Rd.int Tryz.underlying5).weak fun l h => by
  obtain ⟨n, rfl, h1, h2⟩ := h
  have h1 : 0 ≤ n := h1
  have h2 : n ≤ 255 := h2
  exact ⟨UInt8.ofNat n.toNat, by rw [show (((UInt8.ofNat n.toNat).toNat : Nat) : Int) = n by simp; omega]⟩
theorem rd_bytes : Rd enc Tryz.prog w 22 (fun l => ∃ L : List UInt8, l = [byts L] ∧ L.length ≤ maxLen) := Rd.list (f := fun c : UInt8 => [.int .u8 ((c.toNat : Nat) : Int)]) Tryz.underlying22 (by kernel_rfl) (by decide) rd_u8
end

set_option maxRecDepth 100000 in
theorem liftedWorker (os : Os) (started : os.Started) (H : Type) (enc : TypeId × Value → H) :
    ReturnsInHanded {} Tryz.checked os 3 .any (fun w args => (Rows.fnWorkerSpec.pre enc Tryz.prog Tryz.f3 [] false w args ∧ laidMetH Tryz.prog laidT w) ∧ sizedMet enc Tryz.prog Tryz.f3 (OpenSpec.ofChange Rows.fnWorkerSpec) false w args)
      (Rows.fnWorkerSpec.post enc Tryz.prog Tryz.f3 false true false false) := by
  refine rowG (C := Tryz.checked) (X := fun w _ => laidMetH Tryz.prog laidT w) (fun _ _ _ hh h => h.of_heap hh) ownG started (by kernel_rfl) Tryz.func3
    (ChangeSpec.witness_shaped (enc := enc) (C := Tryz.checked) (os := os) (X := fun w _ => laidMetH Tryz.prog laidT w) false (World.laidAll Tryz.prog os laidT) #[.slice none 0 0, .slice none 0 0] 8 (World.laidAll_os _ _ _) (World.shaped_of_ZipB (by kernel_rfl) (by kernel_rfl)) (by kernel_rfl) (by kernel_rfl) (by kernel_rfl) (door_metG os _)) ?_
  intro W base args ds gs before hval0 hW hC1 hC2 hL hC3
  have hval : ∀ (j : Nat) t v, Tryz.f3.params[j]? = some t → args[j]? = some v → Value.okWide Tryz.prog W .any base t v := hval0
  have hW' := hW
  obtain ⟨p, q, hA0, hV, rfl, hfz, hnd⟩ := hW
  have hA : DataW.TrodAll enc Tryz.prog W 0 (fun _ => true) true Tryz.f3.params.toList args.toList ds p := hA0
  rw [Tryz.params3] at hA hval
  obtain ⟨v0, vs0, d0, ds0, p0, q0, hargs, rfl, rfl, h0, r0⟩ := trodAll_cons hA
  obtain ⟨v1, vs1, d1, ds1, p1, q1, rfl, rfl, rfl, h1, r1⟩ := trodAll_cons r0
  obtain ⟨rfl, rfl, rfl⟩ := trodAll_nil r1
  obtain rfl : args = #[v0, v1] := by cases args; simp_all
  obtain ⟨rfl, rfl⟩ := trodVars_none hV
  obtain ⟨a0, len0, cap0, rfl⟩ := okWide_slice Tryz.underlying22 (hval 0 22 v0 rfl rfl)
  obtain ⟨a1, len1, cap1, rfl⟩ := okWide_slice Tryz.underlying22 (hval 1 22 v1 rfl rfl)
  have lt0 : ∀ x ∈ p0, x.block < W.heap.size := by obtain ⟨m, hm⟩ := h0; exact DataW.trod_lt m _ _ _ hm
  have lt1 : ∀ x ∈ p1, x.block < W.heap.size := by obtain ⟨m, hm⟩ := h1; exact DataW.trod_lt m _ _ _ hm
  obtain ⟨_, ⟨x0, rfl, b0⟩, e0⟩ := rd_bytes.arg1 h0
  have g0 := arg_one (fun _ h => by cases h) e0
  obtain ⟨_, ⟨x1, rfl, b1⟩, e1⟩ := rd_bytes.arg1 h1
  have g1 := arg_one (fun _ h => by cases h) e1
  clear hA0 hval0
  refine ((law_Worker x0 (by have := b0; unfold maxLen at this; omega) x1 (by have := b1; unfold maxLen at this; omega)).calls W (fun b => b < W.heap.size) [_, _] (tab_ofG hL.1 hL.2) (fun b h => h) ⟨_, _, rfl, g0, _, _, rfl, g1, rfl⟩).mono fun e W' ⟨v, he, fr, hv⟩ => ?_
  subst he
  have hv' : v = .bool true := hv
  subst hv'
  have bel := fr.below
  exact ⟨_, rfl, _, _, _, [], _, [], hW', trodAll_mk1 (shut_bool Tryz.underlying4 _), (trodAll_cons_mk (Below.trod laidOutG (by kernel_rfl) (of_decide_eq_true (by kernel_rfl)) h0 bel lt0) (trodAll_cons_mk (Below.trod laidOutG (by kernel_rfl) (of_decide_eq_true (by kernel_rfl)) h1 bel lt1) trodAll_mk0)), rfl, bel.frame _, fun h => by cases h⟩

theorem closedAWorker : (Rows.fnWorkerRow.inPlace == Tryz.prog.inPlace 3) = true := by kernel_rfl
theorem closedBWorker : (Rows.fnWorkerRow.unfollowed == Tryz.prog.unfollowed 3) = true := by kernel_rfl
theorem closedCWorker : (Rows.fnWorkerRow.recurses == Tryz.prog.recurses 3) = true := by kernel_rfl
theorem closedDWorker : (Rows.fnWorkerRow.named == Tryz.prog.varsNamed 3) = true := by kernel_rfl
set_option maxHeartbeats 8000000 in
theorem closedWorker : joinedFacts Tryz.prog 3 Tryz.f3 Rows.fnWorkerSpec Rows.fnWorkerRow = true := by
  unfold joinedFacts
  rw [closedAWorker, closedBWorker, closedCWorker, closedDWorker]
  simp only [Bool.and_eq_true]
  repeat' apply And.intro
  all_goals (first | exact True.intro | (as_aux_lemma => kernel_rfl))
theorem saidWorker : Rows.FnWorkerSaid :=
  OpenClaim.holds_of_wide 3 Tryz.f3 rfl rfl rfl rfl rfl rfl rfl ⟨rfl, rfl, rfl, rfl, rfl⟩ rfl rfl rfl rfl rfl (by kernel_rfl) Tryz.func3 closedWorker
    (of_decide_eq_true (by kernel_rfl)) (by unfold Func.isWrapper; first | (rw [if_pos (by decide +kernel)]; kernel_rfl) | (rw [if_neg (by decide +kernel)]; exact ⟨rfl, rfl⟩))
    (fun os started H enc _ => liftedWorker os started H enc)

set_option maxHeartbeats 8000000 in
theorem provedWorker : Rows.FnWorkerCardSaid :=
  Claim7.holds_tied_plain_at .later [] [.data, .data, .data, .data, .sentinel, .sentinel, .pinned] true (true, "163b22ae09ff28dbcd99597fa8ba5f76909ec67f5b9cf011a8f1ffd7bbe05b17") true
    saidWorker (fun _ h => by cases h) (by as_aux_lemma => kernel_rfl) (fun _ h => by cases h) fnWorker_row_tie rfl ⟨rfl, rfl⟩ (by as_aux_lemma => kernel_rfl) rfl
    (fun f fn hf hfn => by
      obtain rfl : f = 3 := Option.some.inj ((show Tryz.prog.funcNamed "loop.example/g00601/laws.FnWorker" = some 3 by as_aux_lemma => kernel_rfl).symm.trans hf) |>.symm
      obtain rfl : fn = Tryz.f3 := (Option.some.inj (Tryz.func3.symm.trans hfn)).symm
      exact ⟨by as_aux_lemma => kernel_rfl, fun j t ht => by
        rw [Tryz.params3] at ht
        have hm : t ∈ [22, 22] := by simpa using Array.mem_of_getElem? ht
        have hall : ([22, 22].all fun u => !Tryz.prog.wantsStandIn u) = true := by as_aux_lemma => kernel_rfl
        exact (show Tryz.prog.wantsStandIn t = false by simpa using List.all_eq_true.1 hall t hm)⟩)
    (by as_aux_lemma => kernel_rfl)
#print axioms provedWorker
end Go.Proofs.YtigbaclopbcjnaaGreatDoor
