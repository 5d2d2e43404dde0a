/- laws.FnExactSweepOrphans. The conditions are the theorems' own. -/
import Derived.Test.YtbphkhlgcneapaaGreatDoorQ8
import Derived.Test.YtbphkhlgcneapaaGreatDoorQ3
set_option linter.unusedVariables false
set_option linter.constructorNameAsVariable false
set_option linter.unusedSimpArgs false
set_option maxRecDepth 20000
namespace Go.Proofs.YtbphkhlgcneapaaGreatDoor
open Go Go.Vw

def orphL (x : Sto) : List (List UInt8) := (dataKs x).filter (logS x).orph
def swO (x : Sto) : Sto × Int := match orphL x with | [] => (x, 18) | k :: _ => (wo x k, 0)
theorem orphL_has {x : Sto} (hs : x.ok = true) {k : List UInt8} {r : List (List UInt8)} (h : orphL x = k :: r) : x.has k = true := by
  have h1 : k ∈ orphL x := by rw [h]; simp
  exact has_of_mem hs (List.mem_filter.1 (List.mem_filter.1 h1).1).1
theorem swO_len {x : Sto} (hs : x.ok = true) : (swO x).1.os.length ≤ 300 := by
  have hL := (Sto.ok_at hs).2.1
  unfold swO
  split
  · exact hL
  · exact Nat.le_trans (wo_len _ _) hL
theorem dataKs_len (x : Sto) : (dataKs x).length ≤ x.os.length := Nat.le_trans (List.length_filter_le _ _) (by simp)
theorem ok_key {x : Sto} (hs : x.ok = true) : ∀ o ∈ x.os, o.key.length ≤ 30 := fun o ho => by
  have := ((stoOK_iff x).1 hs).el o ho
  simp only [keyOK, within, Bool.and_eq_true, decide_eq_true_eq] at this
  omega
theorem sweepOrphans_fn (x : Sto) (hs : x.ok = true) : VFn Tryz.prog 128 [x.av] (.tup [(swO x).1.av, .int .i64 (swO x).2]) := by
  have hL := (Sto.ok_at hs).2.1
  obtain ⟨b1, b2, b3, b4⟩ := log_b x
  have co := orphans_fn (logS x) (by omega) (by omega) (dataKs x) (by have := dataKs_len x; omega)
  rw [show (dataKs x).filter (logS x).orph = orphL x from rfl] at co
  cases hl : orphL x with
  | nil =>
    have e : swO x = (x, 18) := by unfold swO; rw [hl]
    rw [hl] at co
    rw [e]
    refine VFn.introC Tryz.call128 Tryz.func128 rfl rfl ?_
    refine DrawC.mk 6 rfl (by kernel_rfl) ?_
    refine PCallC.nl _ (log_fn x hs) rfl ?_
    refine PCallC.nl _ (dataKeys_fn x (by omega)) rfl ?_
    refine PCallC.nl _ (co) rfl ?_
    exact And.intro trivial (AVle.refl _)
  | cons k r =>
    have e : swO x = (wo x k, 0) := by unfold swO; rw [hl]
    rw [hl] at co
    rw [e]
    have hk := orphL_has hs hl
    refine VFn.introC Tryz.call128 Tryz.func128 rfl rfl ?_
    refine DrawC.mk 6 rfl (by kernel_rfl) ?_
    refine PCallC.nl _ (log_fn x hs) rfl ?_
    refine PCallC.nl _ (dataKeys_fn x (by omega)) rfl ?_
    refine PCallC.nl _ (co) rfl ?_
    refine DrawC.mk 4 rfl (by kernel_rfl) ?_
    refine And.intro ⟨Int.le_refl 0, show (0 : Int) < (((k :: r).length : Nat) : Int) by rw [List.length_cons]; omega⟩ ?_
    conv => whnf
    refine CallC.nl _ (without_fn x hs k hk) ?_ ?_
    · exact rfl
    exact And.intro trivial (AVle.refl _)
theorem l11Orphans_fn (x : Sto) (hs : x.ok = true) : VFn Tryz.prog 124 [x.av] (.tup [(swO x).1.av, .int .i64 (swO x).2]) := by
  have hL := (Sto.ok_at hs).2.1
  have hkk := ok_key hs
  obtain ⟨b1, b2, b3, b4⟩ := log_b x
  have co := l07Orphans_fn (logS x) (by omega) (by omega) (dataKs x) (by have := dataKs_len x; omega) (fun k hk => by
    obtain ⟨o, ho, rfl⟩ := List.mem_map.1 (List.mem_filter.1 hk).1
    have := hkk o ho; omega)
  rw [show (dataKs x).filter (logS x).orph = orphL x from rfl] at co
  have ck := l11Keys_fn x (by omega) (fun o ho => by have := hkk o ho; omega)
  cases hl : orphL x with
  | nil =>
    have e : swO x = (x, 18) := by unfold swO; rw [hl]
    rw [hl] at co
    rw [e]
    refine VFn.introC Tryz.call124 Tryz.func124 rfl rfl ?_
    refine DrawC.mk 6 rfl (by kernel_rfl) ?_
    refine PCallC.nl _ (l06Replay_fn x hs) rfl ?_
    refine PCallC.nl _ (ck) rfl ?_
    refine PCallC.nl _ (co) rfl ?_
    exact And.intro trivial (AVle.refl _)
  | cons k r =>
    have e : swO x = (wo x k, 0) := by unfold swO; rw [hl]
    rw [hl] at co
    rw [e]
    have hk := orphL_has hs hl
    have cg := l01Get_fn x hs k
    rw [if_pos hk] at cg
    refine VFn.introC Tryz.call124 Tryz.func124 rfl rfl ?_
    refine DrawC.mk 6 rfl (by kernel_rfl) ?_
    refine PCallC.nl _ (l06Replay_fn x hs) rfl ?_
    refine PCallC.nl _ (ck) rfl ?_
    refine PCallC.nl _ (co) rfl ?_
    refine DrawC.mk 10 rfl (by kernel_rfl) ?_
    refine And.intro ⟨Int.le_refl 0, show (0 : Int) < (((k :: r).length : Nat) : Int) by rw [List.length_cons]; omega⟩ ?_
    refine PCallC.sca _ (cg) rfl ?_
    refine DrawC.mk 8 rfl (by kernel_rfl) ?_
    refine And.intro ⟨Int.le_refl 0, show (0 : Int) < (((k :: r).length : Nat) : Int) by rw [List.length_cons]; omega⟩ ?_
    refine PCallC.nl _ (l01Delete_fn x hs k hk) rfl ?_
    exact And.intro trivial (AVle.refl _)
end Go.Proofs.YtbphkhlgcneapaaGreatDoor
