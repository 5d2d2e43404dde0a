/- laws.FnExactSweepTombs. The conditions are the theorems' own. -/
import Derived.Test.YtbphkhlgcneapaaGreatDoorQ8
set_option linter.unusedVariables false
set_option linter.constructorNameAsVariable false
set_option linter.unusedSimpArgs false
set_option maxRecDepth 20000
namespace Go.Proofs.YtbphkhlgcneapaaGreatDoor
open Go Go.Vw

def swC (x : Sto) (now : Int) : Int := if x.ok = true then (if within now 0 101000 = true then 0 else 4) else 1
def purge (k : List UInt8) : Rc := ⟨5, 0, 0, 0, 0, k⟩
def swT (x : Sto) (now : Int) : Sto × Int := match (logS x).ts with
  | [] => (x, 18)
  | t :: _ => match pinL x now with
    | _ :: _ => (x, 18)
    | [] => if x.has t.key = true then (wo x t.key, 0) else appS x ((logS x).seq + 1) (purge t.key)
theorem swT_len {x : Sto} (hs : x.ok = true) (now : Int) : (swT x now).1.os.length ≤ 301 := by
  have hL := (Sto.ok_at hs).2.1
  unfold swT
  split
  · show x.os.length ≤ 301; omega
  · split
    · show x.os.length ≤ 301; omega
    · split
      · have := wo_len x; exact Nat.le_trans (wo_len _ _) (by omega)
      · exact app_len x hs _ _
theorem first1_of (a : Bool) (x : Int) {n : Nat} {rows : Nat → List AV} (hr : FirstRows 4 3 rows 0 [(a, x)]) (hn : n = 2) {r : Int} (h : (if a = true then x else 0) = r) : VFn Tryz.prog 90 [.sl 1 n rows] (.int .i64 r) := by
  have e : firstC [(a, x)] = r := by
    rw [← h]
    unfold firstC firstC
    cases a <;> rfl
  rw [← e]
  exact first_of _ hr hn (show 1 ≤ 1000 by decide)
theorem sweepCode_fn (x : Sto) (hr : StoRd x) (now : Int) : VFn Tryz.prog 48 [x.av, .int .i64 now] (.int .i64 (swC x now)) := by
  have c := StoreOK_fn x (by have := hr.len; omega) hr.key
  unfold swC
  by_cases hs : x.ok = true
  · rw [hs] at c ⊢
    rw [if_pos rfl]
    refine VFn.introC Tryz.call48 Tryz.func48 rfl rfl ?_
    conv => whnf
    refine CallC.sca _ (c) ?_ ?_
    · exact rfl
    conv => whnf
    refine CallC.sca _ (isNow_fn now) ?_ ?_
    · exact rfl
    conv => whnf
    refine CallC.sca _ (first1_of (!within now 0 101000) 4 ⟨rfl, rfl, trivial⟩ rfl (show _ = (if within now 0 101000 = true then (0 : Int) else 4) by cases within now 0 101000 <;> rfl)) ?_ ?_
    · exact rfl
    exact And.intro trivial (AVle.refl _)
  · have hs : x.ok = false := by simpa using hs
    rw [hs] at c ⊢
    rw [if_neg (by simp)]
    refine VFn.introC Tryz.call48 Tryz.func48 rfl rfl ?_
    conv => whnf
    refine CallC.sca _ (c) ?_ ?_
    · exact rfl
    exact And.intro trivial (AVle.refl _)
theorem l11Ask_fn (x : Sto) (hr : StoRd x) (now : Int) : VFn Tryz.prog 44 [x.av, .int .i64 now] (.int .i64 (swC x now)) := by
  have c := specStoreOK_ok x (by have := hr.len; omega) hr.key hr.nxt
  unfold swC
  by_cases hs : x.ok = true
  · rw [hs] at c ⊢
    rw [if_pos rfl]
    have cn := l05Now_fn now
    by_cases hn : within now 0 101000 = true
    · rw [hn] at cn ⊢
      refine VFn.introC Tryz.call44 Tryz.func44 rfl rfl ?_
      conv => whnf
      refine CallC.sca _ (c) ?_ ?_
      · exact rfl
      conv => whnf
      refine CallC.sca _ (cn) ?_ ?_
      · exact rfl
      exact And.intro trivial (AVle.refl _)
    · have hn : within now 0 101000 = false := by simpa using hn
      rw [hn] at cn ⊢
      refine VFn.introC Tryz.call44 Tryz.func44 rfl rfl ?_
      conv => whnf
      refine CallC.sca _ (c) ?_ ?_
      · exact rfl
      conv => whnf
      refine CallC.sca _ (cn) ?_ ?_
      · exact rfl
      exact And.intro trivial (AVle.refl _)
  · have hs : x.ok = false := by simpa using hs
    rw [hs] at c ⊢
    rw [if_neg (by simp)]
    refine VFn.introC Tryz.call44 Tryz.func44 rfl rfl ?_
    conv => whnf
    refine CallC.sca _ (c) ?_ ?_
    · exact rfl
    exact And.intro trivial (AVle.refl _)
theorem purge_ok {x : Sto} {t : Tb} {r : List Tb} (h : (logS x).ts = t :: r) : (purge t.key).ok = true := by
  have hk := (log_b x).2.2.2.kk t.key (List.mem_append.2 (.inr (List.mem_map.2 ⟨t, by rw [h]; simp, rfl⟩)))
  unfold Rc.ok purge
  dsimp only
  rw [if_neg (by decide), if_neg (by decide), if_neg (by decide), if_neg (by decide), if_pos rfl, hk]
  rfl
theorem sweepTombs_fn (x : Sto) (hs : x.ok = true) (now : Int) : VFn Tryz.prog 127 [x.av, .int .i64 now] (.tup [(swT x now).1.av, .int .i64 (swT x now).2]) := by
  obtain ⟨b1, b2, b3, b4⟩ := log_b x
  have cl := log_fn x hs
  have cp := pins_fn x hs now
  have hpu := @purge_ok x
  have hw : within ((logS x).seq + 1) 1 999999 = true := by rw [b1]; simp [within]; omega
  unfold swT
  generalize logS x = s at cl hpu b1 b3 hw
  cases hts : s.ts with
  | nil =>
    obtain ⟨a1, a2, a3, ts, a5, a6, a7, a8, a9, a10⟩ := s
    simp only at hts
    subst hts
    refine VFn.introC Tryz.call127 Tryz.func127 rfl rfl ?_
    conv => whnf
    refine CallC.nl _ (cl) ?_ ?_
    · exact rfl
    exact And.intro trivial (AVle.refl _)
  | cons t r =>
    have hok := hpu hts
    obtain ⟨a1, a2, a3, ts, a5, a6, a7, a8, a9, a10⟩ := s
    simp only at hts
    subst hts
    cases hp : pinL x now with
    | cons k q =>
      rw [hp] at cp
      refine VFn.introC Tryz.call127 Tryz.func127 rfl rfl ?_
      conv => whnf
      refine CallC.nl _ (cl) ?_ ?_
      · exact rfl
      conv => whnf
      refine CallC.nl _ (cp) ?_ ?_
      · exact rfl
      refine Grd.intro (fun _ => ?_) (fun h => absurd (show (0 : Int) < (((k :: q).length : Nat) : Int) by rw [List.length_cons]; omega) (of_decide_eq_false h))
      exact And.intro trivial (AVle.refl _)
    | nil =>
      rw [hp] at cp
      have cf := find_fn x hs t.key
      dsimp only
      by_cases hh : x.has t.key = true
      · rw [hh] at cf
        rw [if_pos hh]
        refine VFn.introC Tryz.call127 Tryz.func127 rfl rfl ?_
        conv => whnf
        refine CallC.nl _ (cl) ?_ ?_
        · exact rfl
        conv => whnf
        refine CallC.nl _ (cp) ?_ ?_
        · exact rfl
        refine And.intro ⟨Int.le_refl 0, show (0 : Int) < (((t :: r).length : Nat) : Int) by rw [List.length_cons]; omega⟩ ?_
        conv => whnf
        refine CallC.sca _ (cf) ?_ ?_
        · exact rfl
        conv => whnf
        refine CallC.nl _ (without_fn x hs t.key hh) ?_ ?_
        · exact rfl
        exact And.intro trivial (AVle.refl _)
      · have hh : x.has t.key = false := by simpa using hh
        rw [hh] at cf
        rw [if_neg (by rw [hh]; simp)]
        refine VFn.introC Tryz.call127 Tryz.func127 rfl rfl ?_
        conv => whnf
        refine CallC.nl _ (cl) ?_ ?_
        · exact rfl
        conv => whnf
        refine CallC.nl _ (cp) ?_ ?_
        · exact rfl
        refine And.intro ⟨Int.le_refl 0, show (0 : Int) < (((t :: r).length : Nat) : Int) by rw [List.length_cons]; omega⟩ ?_
        conv => whnf
        refine CallC.sca _ (cf) ?_ ?_
        · exact rfl
        refine And.intro (show inI .i64 (a1 + 1) from inI64 (by simp only at b1; omega) (by simp only at b1; omega)) ?_
        conv => whnf
        refine CallC.nl _ (lay_fn x hs (a1 + 1) hw (purge t.key) hok) ?_ ?_
        · exact rfl
        exact And.intro trivial (AVle.refl _)
theorem l11Tombs_fn (x : Sto) (hs : x.ok = true) (now : Int) : VFn Tryz.prog 123 [x.av, .int .i64 now] (.tup [(swT x now).1.av, .int .i64 (swT x now).2]) := by
  obtain ⟨b1, b2, b3, b4⟩ := log_b x
  have cl := l06Replay_fn x hs
  have cp := l10Pins_fn x hs now
  have hpu := @purge_ok x
  have hw : within ((logS x).seq + 1) 1 999999 = true := by rw [b1]; simp [within]; omega
  unfold swT
  generalize logS x = s at cl hpu b1 b3 hw
  cases hts : s.ts with
  | nil =>
    obtain ⟨a1, a2, a3, ts, a5, a6, a7, a8, a9, a10⟩ := s
    simp only at hts
    subst hts
    refine VFn.introC Tryz.call123 Tryz.func123 rfl rfl ?_
    conv => whnf
    refine CallC.nl _ (cl) ?_ ?_
    · exact rfl
    exact And.intro trivial (AVle.refl _)
  | cons t r =>
    have hok := hpu hts
    obtain ⟨a1, a2, a3, ts, a5, a6, a7, a8, a9, a10⟩ := s
    simp only at hts
    subst hts
    cases hp : pinL x now with
    | cons k q =>
      rw [hp] at cp
      refine VFn.introC Tryz.call123 Tryz.func123 rfl rfl ?_
      conv => whnf
      refine CallC.nl _ (cl) ?_ ?_
      · exact rfl
      conv => whnf
      refine CallC.nl _ (cp) ?_ ?_
      · exact rfl
      refine Grd.intro (fun _ => ?_) (fun h => absurd (show (0 : Int) < (((k :: q).length : Nat) : Int) by rw [List.length_cons]; omega) (of_decide_eq_false h))
      exact And.intro trivial (AVle.refl _)
    | nil =>
      rw [hp] at cp
      have cg := l01Get_fn x hs t.key
      dsimp only
      by_cases hh : x.has t.key = true
      · have hv := get_ok x hs _ hh
        rw [if_pos hh] at cg
        rw [if_pos hh]
        refine VFn.introC Tryz.call123 Tryz.func123 rfl rfl ?_
        conv => whnf
        refine CallC.nl _ (cl) ?_ ?_
        · exact rfl
        conv => whnf
        refine CallC.nl _ (cp) ?_ ?_
        · exact rfl
        refine And.intro ⟨Int.le_refl 0, show (0 : Int) < (((t :: r).length : Nat) : Int) by rw [List.length_cons]; omega⟩ ?_
        conv => whnf
        refine CallC.sca _ (cg) ?_ ?_
        · exact rfl
        refine Grd.intro (fun _ => ?_) (fun h => absurd (of_decide_eq_false (p := 0 < (x.get t.key).ver) h) (by omega))
        conv => whnf
        refine CallC.nl _ (l01Delete_fn x hs t.key hh) ?_ ?_
        · exact rfl
        exact And.intro trivial (AVle.refl _)
      · have hh : x.has t.key = false := by simpa using hh
        rw [if_neg (by rw [hh]; simp)] at cg
        rw [if_neg (by rw [hh]; simp)]
        refine VFn.introC Tryz.call123 Tryz.func123 rfl rfl ?_
        conv => whnf
        refine CallC.nl _ (cl) ?_ ?_
        · exact rfl
        conv => whnf
        refine CallC.nl _ (cp) ?_ ?_
        · exact rfl
        refine And.intro ⟨Int.le_refl 0, show (0 : Int) < (((t :: r).length : Nat) : Int) by rw [List.length_cons]; omega⟩ ?_
        conv => whnf
        refine CallC.sca _ (cg) ?_ ?_
        · exact rfl
        refine And.intro (show inI .i64 (a1 + 1) from inI64 (by simp only at b1; omega) (by simp only at b1; omega)) ?_
        conv => whnf
        refine CallC.nl _ (l06Append_fn x hs (a1 + 1) hw (purge t.key) hok) ?_ ?_
        · exact rfl
        exact And.intro trivial (AVle.refl _)
theorem swC_ok {x : Sto} {now : Int} (h : swC x now = 0) : x.ok = true := by
  unfold swC at h
  split at h
  · assumption
  · cases h
end Go.Proofs.YtbphkhlgcneapaaGreatDoor
