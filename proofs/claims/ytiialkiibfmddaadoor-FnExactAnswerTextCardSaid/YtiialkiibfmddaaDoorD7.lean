/- impl.joined at texts and numbers mixed: contracts; the conditions are the theorems' own. -/
import Derived.Test.YtiialkiibfmddaaDoorD5
set_option linter.unusedVariables false
set_option linter.unusedSimpArgs false
set_option linter.unusedSectionVars false
namespace Go.Proofs.YtiialkiibfmddaaDoor
open Go Go.Vw

def two (x y : List UInt8) : Nat → List UInt8
  | 0 => x
  | _ => y
theorem joined2_fn (x y s : List UInt8) (hs : s.length ≤ 10) (hx : x.length ≤ 1000) (hy : y.length ≤ 1000) (rows : Nat → List AV) (h0 : rows 0 = [.iface 9 (.str (B x))]) (h1 : rows 1 = [.iface 9 (.str (B y))]) :
    VFn Tryd.prog 33 [.str (B s), .sl 1 2 rows] (.str (B (jn (two x y) s 2))) := by
  have key : VFn Tryd.prog 33 [.str (B s), .sl 1 2 (fun | 0 => [.iface 9 (.str (B x))] | _ => [.iface 9 (.str (B y))])] (.str (B (jn (two x y) s 2))) := by
    refine VFn.intro Tryd.call33 Tryd.func33 rfl rfl ?_
    refine LoopG.rounds 3 ?_
    iterate 2
      refine And.intro (by decide) ?_
      refine And.intro ⟨by decide, all1 rfl⟩ ?_
      refine And.intro (inI64 (by decide) (by decide)) ?_
    have hl : (jn (two x y) s 2).length ≤ 140737488355328 := by
      show (Lib.join [x, y] s).length ≤ _
      rw [Lib.join_cons]; simp [Lib.joinTail]; omega
    refine CallG.mk _ (callR_sca ((Join_fn (two x y) 2 s (by omega) hl).weak (AVsle.cons (AVle.sl rfl fun i hi => ?_) (AVsle.refl _)) (AVle.refl _)) rfl rfl) ?_
    · match i, hi with
      | 0, _ => rfl
      | 1, _ => rfl
      | i + 2, h => omega
    exact And.intro trivial (AVle.refl _)
  refine key.weak (AVsle.cons (AVle.refl _) (AVsle.cons (AVle.sl rfl fun i hi => ?_) AVsle.nil)) (AVle.refl _)
  match i, hi with
  | 0, _ => exact h0
  | 1, _ => exact h1
  | i + 2, h => omega

/-- a text, two numbers, a text, a number -/
def five (x : List UInt8) (p q : Int) (y : List UInt8) (r : Int) : Nat → List UInt8
  | 0 => x
  | 1 => Lib.itoa p
  | 2 => Lib.itoa q
  | 3 => y
  | _ => Lib.itoa r
theorem joined5_fn (x y s : List UInt8) (p q r : Int) (hs : s.length ≤ 10) (hx : x.length ≤ 100) (hy : y.length ≤ 100) (hp : -9223372036854775807 ≤ p ∧ p ≤ 9223372036854775807) (hq : -9223372036854775807 ≤ q ∧ q ≤ 9223372036854775807)
    (hr : -9223372036854775807 ≤ r ∧ r ≤ 9223372036854775807) (rows : Nat → List AV) (h0 : rows 0 = [.iface 9 (.str (B x))]) (h1 : rows 1 = [.iface 3 (.int .i64 p)]) (h2 : rows 2 = [.iface 3 (.int .i64 q)])
    (h3 : rows 3 = [.iface 9 (.str (B y))]) (h4 : rows 4 = [.iface 3 (.int .i64 r)]) :
    VFn Tryd.prog 33 [.str (B s), .sl 1 5 rows] (.str (B (jn (five x p q y r) s 5))) := by
  have key : VFn Tryd.prog 33 [.str (B s), .sl 1 5 (fun | 0 => [.iface 9 (.str (B x))] | 1 => [.iface 3 (.int .i64 p)] | 2 => [.iface 3 (.int .i64 q)] | 3 => [.iface 9 (.str (B y))] | _ => [.iface 3 (.int .i64 r)])]
      (.str (B (jn (five x p q y r) s 5))) := by
    refine VFn.intro Tryd.call33 Tryd.func33 rfl rfl ?_
    refine LoopG.rounds 6 ?_
    refine And.intro (by decide) ?_
    refine And.intro ⟨by decide, all1 rfl⟩ ?_
    refine And.intro (inI64 (by decide) (by decide)) ?_
    refine And.intro (by decide) ?_
    refine CallG.mk _ (callR_sca (Itoa_fn p (by omega) hp.2) rfl rfl) ?_
    refine And.intro ⟨by decide, all1 rfl⟩ ?_
    refine And.intro (inI64 (by decide) (by decide)) ?_
    refine And.intro (by decide) ?_
    refine CallG.mk _ (callR_sca (Itoa_fn q (by omega) hq.2) rfl rfl) ?_
    refine And.intro ⟨by decide, all1 rfl⟩ ?_
    refine And.intro (inI64 (by decide) (by decide)) ?_
    refine And.intro (by decide) ?_
    refine And.intro ⟨by decide, all1 rfl⟩ ?_
    refine And.intro (inI64 (by decide) (by decide)) ?_
    refine And.intro (by decide) ?_
    refine CallG.mk _ (callR_sca (Itoa_fn r (by omega) hr.2) rfl rfl) ?_
    refine And.intro ⟨by decide, all1 rfl⟩ ?_
    refine And.intro (inI64 (by decide) (by decide)) ?_
    have hl : (jn (five x p q y r) s 5).length ≤ 140737488355328 := by
      have := jn_len (xs := five x p q y r) hs 5 fun i hi => by
        match i, hi with
        | 0, _ => exact hx
        | 1, _ => have := itoa_len (n := p) (by omega) hp.2; show (Lib.itoa p).length ≤ 100; omega
        | 2, _ => have := itoa_len (n := q) (by omega) hq.2; show (Lib.itoa q).length ≤ 100; omega
        | 3, _ => exact hy
        | 4, _ => have := itoa_len (n := r) (by omega) hr.2; show (Lib.itoa r).length ≤ 100; omega
        | i + 5, h => omega
      omega
    refine CallG.mk _ (callR_sca ((Join_fn (five x p q y r) 5 s (by omega) hl).weak (AVsle.cons (AVle.sl rfl fun i hi => ?_) (AVsle.refl _)) (AVle.refl _)) rfl rfl) ?_
    · match i, hi with
      | 0, _ => rfl
      | 1, _ => rfl
      | 2, _ => rfl
      | 3, _ => rfl
      | 4, _ => rfl
      | i + 5, h => omega
    exact And.intro trivial (AVle.refl _)
  refine key.weak (AVsle.cons (AVle.refl _) (AVsle.cons (AVle.sl rfl fun i hi => ?_) AVsle.nil)) (AVle.refl _)
  match i, hi with
  | 0, _ => exact h0
  | 1, _ => exact h1
  | 2, _ => exact h2
  | 3, _ => exact h3
  | 4, _ => exact h4
  | i + 5, h => omega
end Go.Proofs.YtiialkiibfmddaaDoor
