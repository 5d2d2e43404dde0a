/- What each function under laws.FnExactAnswerText computes, second part: contracts; the conditions are the theorems' own. -/
import Derived.Test.YtiialkiibfmddaaDoorD9
set_option linter.unusedVariables false
set_option linter.unusedSimpArgs false
set_option linter.unusedSectionVars false
set_option maxRecDepth 20000
namespace Go.Proofs.YtiialkiibfmddaaDoor
open Go Go.Vw

theorem jn2 (x y s : List UInt8) : jn (two x y) s 2 = x ++ (s ++ y) := by
  show Lib.join [x, y] s = _
  rw [Lib.join_cons]; simp [Lib.joinTail]
theorem jn5 (x y s : List UInt8) (p q r : Int) : jn (five x p q y r) s 5 = x ++ (s ++ (Lib.itoa p ++ (s ++ (Lib.itoa q ++ (s ++ (y ++ (s ++ Lib.itoa r))))))) := by
  show Lib.join [x, Lib.itoa p, Lib.itoa q, y, Lib.itoa r] s = _
  rw [Lib.join_cons]; simp [Lib.joinTail]
theorem said2_fn (x y : List UInt8) (hx : x.length ≤ 1000) (hy : y.length ≤ 1000) (rows : Nat → List AV) (h0 : rows 0 = [.iface 9 (.str (B x))]) (h1 : rows 1 = [.iface 9 (.str (B y))]) :
    VFn Tryd.prog 42 [.sl 1 2 rows] (.str (B (x ++ ([32] ++ y)))) := by
  rw [← jn2]
  refine VFn.intro Tryd.call42 Tryd.func42 rfl rfl ?_
  refine CallG.mk _ (callR_sca (joined2_fn x y [32] (by decide) hx hy rows h0 h1) rfl rfl) ?_
  exact And.intro trivial (AVle.refl _)
def num (p : Int) : Prop := -9223372036854775807 ≤ p ∧ p ≤ 9223372036854775807
def headT (t f o : Int) : List UInt8 := [116, 105, 101, 114] ++ ([32] ++ (Lib.itoa t ++ ([32] ++ (Lib.itoa f ++ ([32] ++ ([116, 111] ++ ([32] ++ Lib.itoa o)))))))
theorem said5_fn (p q r : Int) (hp : num p) (hq : num q) (hr : num r) (rows : Nat → List AV) (h0 : rows 0 = [.iface 9 (.str (B [116, 105, 101, 114]))]) (h1 : rows 1 = [.iface 3 (.int .i64 p)]) (h2 : rows 2 = [.iface 3 (.int .i64 q)])
    (h3 : rows 3 = [.iface 9 (.str (B [116, 111]))]) (h4 : rows 4 = [.iface 3 (.int .i64 r)]) : VFn Tryd.prog 42 [.sl 1 5 rows] (.str (B (headT p q r))) := by
  unfold headT
  rw [← jn5]
  refine VFn.intro Tryd.call42 Tryd.func42 rfl rfl ?_
  refine CallG.mk _ (callR_sca (joined5_fn [116, 105, 101, 114] [116, 111] [32] p q r (by decide) (by decide) (by decide) hp hq hr rows h0 h1 h2 h3 h4) rfl rfl) ?_
  exact And.intro trivial (AVle.refl _)

theorem ok_of {t f o c : Int} {a : Ag} (h : ansOK t f o c a = true) : num t ∧ num f ∧ num o ∧ a.ok = true ∧ ∃ k : Nat, k < 20 ∧ c = k := by
  simp only [ansOK, Bool.and_eq_true] at h
  obtain ⟨⟨⟨h1, h2⟩, h3⟩, h4⟩ := h
  simp [within, isRange] at h1 h2 h3
  exact ⟨⟨by omega, by omega⟩, ⟨by omega, by omega⟩, ⟨by omega, by omega⟩, h4, c.toNat, by omega, by omega⟩
theorem W_len {k : Nat} (hk : k < 20) : (W k).length ≤ 100 := by
  have h : ∀ i : Fin 20, (W i).length ≤ 100 := by decide
  exact h ⟨k, hk⟩
def tailT (c : Int) (a : Ag) : List UInt8 := if c = 0 then atext a else W c.toNat
def anText (t f o c : Int) (a : Ag) : List UInt8 := headT t f o ++ ([32] ++ tailT c a)
theorem head_len {t f o : Int} (ht : num t) (hf : num f) (ho : num o) : (headT t f o).length ≤ 100 := by
  have e1 := itoa_len (n := t) (by unfold num at *; omega) ht.2
  have e2 := itoa_len (n := f) (by unfold num at *; omega) hf.2
  have e3 := itoa_len (n := o) (by unfold num at *; omega) ho.2
  unfold headT
  simp only [List.length_append, List.length_cons, List.length_nil]
  omega
theorem atext_len {a : Ag} (h : a.ok = true) : (atext a).length ≤ 660 := jn_len (by decide) 6 (it_len (six_nums h))

theorem answerText_fn (t f o c : Int) (a : Ag) (h : ansOK t f o c a = true) : VFn Tryd.prog 28 [ansAV t f o c a] (.str (B (anText t f o c a))) := by
  obtain ⟨ht, hf, ho, ha, k, hk, rfl⟩ := ok_of h
  have hl := head_len ht hf ho
  refine VFn.intro Tryd.call28 Tryd.func28 rfl rfl ?_
  refine CallG.mk _ (callR_sca (said5_fn t f o ht hf ho _ (by kernel_rfl) (by kernel_rfl) (by kernel_rfl) (by kernel_rfl) (by kernel_rfl)) rfl rfl) ?_
  refine Grd.intro (fun h1 => ?_) (fun h1 => ?_)
  · have hc : ¬ (k : Int) = 0 := by simpa using h1
    refine CallG.mk _ (callR_sca (CodeWord_fn k hk) rfl rfl) ?_
    refine CallG.mk _ (callR_sca (said2_fn (headT t f o) (W k) (by omega) (Nat.le_trans (W_len hk) (by omega)) _ (by kernel_rfl) (by kernel_rfl)) rfl rfl) ?_
    exact And.intro trivial (AVle.of_eq (congrArg AV.str (show B (headT t f o ++ ([32] ++ W k)) = _ by unfold anText tailT; rw [if_neg hc]; rfl)))
  · have hc : (k : Int) = 0 := by simpa using h1
    refine CallG.mk _ (callR_sca (aggText_fn a ha) rfl rfl) ?_
    refine CallG.mk _ (callR_sca (said2_fn (headT t f o) (atext a) (by omega) (Nat.le_trans (atext_len ha) (by omega)) _ (by kernel_rfl) (by kernel_rfl)) rfl rfl) ?_
    exact And.intro trivial (AVle.of_eq (congrArg AV.str (show B (headT t f o ++ ([32] ++ atext a)) = _ by unfold anText tailT; rw [if_pos hc])))
end Go.Proofs.YtiialkiibfmddaaDoor
