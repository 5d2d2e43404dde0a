/- Records' texts: contracts; laws.FnExactRecordText. The conditions are the theorems' own. -/
import Derived.Test.YthonnbgcpaofoaaGreatDoorGK
set_option linter.unusedVariables false
set_option linter.constructorNameAsVariable false
set_option linter.unusedSimpArgs false
set_option maxRecDepth 20000
namespace Go.Proofs.YthonnbgcpaofoaaGreatDoor
open Go Go.Vw

def Rc.res (r : Rc) : List UInt8 := if r.ok = true then r.text else []
def Rc.code (r : Rc) : Int := if r.ok = true then 0 else 1
theorem recText_fn (r : Rc) (h : r.ok = true) : VFn Tryz.prog 114 [r.av] (.str (B r.text)) := by
  have hm := (Rc.okN h).1
  have hk := (Rc.okN h).2
  have hl := Rc.head_len h
  have e : (r.nums.map It.n).map It.txt = r.nums.map Lib.itoa := by rw [List.map_map]; rfl
  refine VFn.introC Tryz.call114 Tryz.func114 rfl rfl ?_
  refine DrawC.mk 22 rfl (by kernel_rfl) ?_
  refine PCallC.sca _ (joined_of (r.nums.map It.n) (n := 5) ⟨rfl, rfl, rfl, rfl, rfl, trivial⟩ rfl [44] (show 5 ≤ 100000000 by decide) (fun x hx => by
    obtain ⟨n, hn, rfl⟩ := List.mem_map.1 hx
    have := hm n hn; unfold mid at this; exact ⟨by omega, by omega⟩) (by rw [e]; omega)) rfl ?_
  rw [e]
  have add : ∀ (x y : List UInt8), (x.length + y.length : Nat) ≤ 100000 → (((B x).size + (B y).size : Nat) : Int) ≤ 9223372036854775807 := fun x y h => by rw [B_size, B_size]; omega
  refine And.intro (add (Lib.join (r.nums.map Lib.itoa) [44]) [32] (by simp; omega)) ?_
  refine And.intro (show (((B (Lib.join (r.nums.map Lib.itoa) [44]) ++ B [32]).size + (B r.key).size : Nat) : Int) ≤ 9223372036854775807 by rw [B_app]; exact add _ _ (by simp; omega)) ?_
  exact And.intro trivial (AVle.of_eq (congrArg AV.str (show B (Lib.join (r.nums.map Lib.itoa) [44]) ++ B [32] ++ B r.key = B r.text by rw [B_app, B_app, List.append_assoc]; rfl)))
theorem l06Text_fn (r : Rc) (h : r.ok = true) : VFn Tryz.prog 115 [r.av] (.str (B r.text)) := by
  have hm := (Rc.okN h).1
  have hk := (Rc.okN h).2
  have hl := Rc.head_len h
  refine VFn.introC Tryz.call115 Tryz.func115 rfl rfl ?_
  refine DrawC.mk 17 rfl (by kernel_rfl) ?_
  refine PCallC.sca (.str (B (Lib.join (r.nums.map Lib.itoa) [44]))) ((l02Join_fn r.nums (show 5 ≤ 100000000 by decide) (fun x hx => by have := hm x hx; unfold mid at this; omega)).weak (AVsle.cons (RowsAre.le (f := fun n : Int => [AV.int .i64 n]) rfl ⟨rfl, rfl, rfl, rfl, rfl, trivial⟩) AVsle.nil) (AVle.refl _)) rfl ?_
  have add : ∀ (x y : List UInt8), (x.length + y.length : Nat) ≤ 100000 → (((B x).size + (B y).size : Nat) : Int) ≤ 9223372036854775807 := fun x y h => by rw [B_size, B_size]; omega
  refine And.intro (add (Lib.join (r.nums.map Lib.itoa) [44]) [32] (by simp; omega)) ?_
  refine And.intro (show (((B (Lib.join (r.nums.map Lib.itoa) [44]) ++ B [32]).size + (B r.key).size : Nat) : Int) ≤ 9223372036854775807 by rw [B_app]; exact add _ _ (by simp; omega)) ?_
  exact And.intro trivial (AVle.of_eq (congrArg AV.str (show B (Lib.join (r.nums.map Lib.itoa) [44]) ++ B [32] ++ B r.key = B r.text by rw [B_app, B_app, List.append_assoc]; rfl)))
theorem RecordText_fn (r : Rc) : VFn Tryz.prog 36 [r.av] (.tup [.str (B r.res), .int .i64 r.code]) := by
  unfold Rc.res Rc.code
  refine VFn.introC Tryz.call36 Tryz.func36 rfl rfl ?_
  conv => whnf
  refine CallC.sca _ (RecordOK_fn r) ?_ ?_
  · exact rfl
  by_cases h : r.ok = true
  · rw [if_pos h, if_pos h, h]
    conv => whnf
    refine CallC.sca _ (recText_fn r h) ?_ ?_
    · exact rfl
    exact And.intro trivial (AVle.refl _)
  · rw [if_neg h, if_neg h, show r.ok = false by simpa using h]
    exact And.intro trivial (AVle.refl _)
theorem specRecordText_fn (r : Rc) (hk : r.key.length ≤ 1000000000) : VFn Tryz.prog 37 [r.av] (.tup [.str (B r.res), .int .i64 r.code]) := by
  unfold Rc.res Rc.code
  refine VFn.introC Tryz.call37 Tryz.func37 rfl rfl ?_
  conv => whnf
  refine CallC.sca _ (specRecordOK_fn r hk) ?_ ?_
  · exact rfl
  by_cases h : r.ok = true
  · rw [if_pos h, if_pos h, h]
    conv => whnf
    refine CallC.sca _ (l06Text_fn r h) ?_ ?_
    · exact rfl
    exact And.intro trivial (AVle.refl _)
  · rw [if_neg h, if_neg h, show r.ok = false by simpa using h]
    exact And.intro trivial (AVle.refl _)
theorem toRecord_fn (r : Rc) : VFn Tryz.prog 59 [r.av] r.av := by
  refine VFn.introC Tryz.call59 Tryz.func59 rfl rfl ?_
  exact And.intro trivial (AVle.refl _)
theorem szRecord_fn (r : Rc) (h : r.key.length ≤ 9223372036854775807) : VFn Tryz.prog 56 [r.av, .int .i64 1048576] (.int .i64 (if r.key.length ≤ 1048576 then 1048576 - r.key.length else -1)) := by
  refine VFn.introC Tryz.call56 Tryz.func56 rfl rfl ?_
  refine And.intro (show inI .i64 (1048576 - ((B r.key).size : Int)) by rw [B_size]; exact inI64 (by omega) (by omega)) ?_
  refine Grd.intro (fun h2 => ?_) (fun h2 => ?_)
  · have h2 := of_decide_eq_true h2
    rw [B_size] at h2
    rw [if_neg (by omega)]
    exact And.intro trivial (AVle.refl _)
  · have h2 := of_decide_eq_false h2
    rw [B_size] at h2
    rw [if_pos (by omega)]
    exact And.intro trivial (AVle.of_eq (congrArg (AV.int .i64) (show 1048576 - ((B r.key).size : Int) = _ by rw [B_size])))
end Go.Proofs.YthonnbgcpaofoaaGreatDoor
