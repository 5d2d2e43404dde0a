/- The texts of acts; laws.FnExactActText: contracts; the conditions are the theorems' own. -/
import Derived.Test.YtopkjoalbinljaaDoorGE
set_option linter.unusedVariables false
set_option maxRecDepth 20000
namespace Go.Proofs.YtopkjoalbinljaaDoor
open Go Go.Vw

theorem join3 (a b c s : List UInt8) : Lib.join [a, b, c] s = a ++ s ++ b ++ s ++ c := by
  rw [Lib.join_cons]; simp [Lib.joinTail]
theorem join5 (a b c d e s : List UInt8) : Lib.join [a, b, c, d, e] s = a ++ s ++ b ++ s ++ c ++ s ++ d ++ s ++ e := by
  rw [Lib.join_cons]; simp [Lib.joinTail]
theorem ActText_fn (a : Act) : VFn Tryd.prog 17 [a.av] (.tup [.str (B a.res), .int .i64 a.code]) := by
  refine VFn.introC Tryd.call17 Tryd.func17 rfl rfl ?_
  conv => whnf
  refine CallC.sca _ (ActOK_fn a) ?_ ?_
  · exact rfl
  refine Grd.intro (fun h1 => ?_) (fun h1 => ?_)
  · have h1 : a.ok = false := by simpa using h1
    exact And.intro trivial (AVle.of_eq (show AV.tup [.str (B []), .int .i64 1] = _ by simp [Act.res, Act.code, h1]))
  have h1 : a.ok = true := by simpa using h1
  have hit := Act.itemsOK h1
  have hsaid : ∀ (L : List It) (n : Nat) (rows : Nat → List AV), a.items = L → RowsAre rows 0 (L.map It.row) → n = L.length → VFn Tryd.prog 52 [.sl 1 n rows] (.str (B a.text)) := fun L n rows e hr hn => by
    subst e
    exact said_of a.items hr hn (by have := hit.2; omega) (fun x hx => (hit.1 x hx).1) (items_len (fun x hx => (hit.1 x hx).2) hit.2)
  have fin : AV.tup [.str (B a.text), .int .i64 0] = AV.tup [.str (B a.res), .int .i64 a.code] := by simp [Act.res, Act.code, h1]
  refine Grd.intro (fun k1 => ?_) (fun k1 => ?_)
  · have k1 : a.k = 1 := of_decide_eq_true k1
    refine CallC.sca (.str (B a.text)) (hsaid [.t [115, 116, 101, 112], .n a.who] _ _ (by simp [Act.items, k1]) ⟨rfl, rfl, trivial⟩ rfl) rfl ?_
    exact And.intro trivial (AVle.of_eq fin)
  refine Grd.intro (fun k2 => ?_) (fun k2 => ?_)
  · have k2 : a.k = 2 := of_decide_eq_true k2
    refine CallC.sca (.str (B a.text)) (hsaid [.t [99, 114, 97, 115, 104], .n a.who] _ _ (by simp [Act.items, k2]) ⟨rfl, rfl, trivial⟩ rfl) rfl ?_
    exact And.intro trivial (AVle.of_eq fin)
  refine Grd.intro (fun k3 => ?_) (fun k3 => ?_)
  · have k3 : a.k = 3 := of_decide_eq_true k3
    refine CallC.sca (.str (B a.text)) (hsaid [.t [116, 105, 99, 107], .n a.n] _ _ (by simp [Act.items, k3]) ⟨rfl, rfl, trivial⟩ rfl) rfl ?_
    exact And.intro trivial (AVle.of_eq fin)
  refine Grd.intro (fun k4 => ?_) (fun k4 => ?_)
  · have k4 : a.k = 4 := of_decide_eq_true k4
    refine CallC.sca (.str (B a.text)) (hsaid [.t [115, 107, 101, 119], .n a.who, .n a.n] _ _ (by simp [Act.items, k4]) ⟨rfl, rfl, rfl, trivial⟩ rfl) rfl ?_
    exact And.intro trivial (AVle.of_eq fin)
  refine Grd.intro (fun k5 => ?_) (fun k5 => ?_)
  · have k5 : a.k = 5 := of_decide_eq_true k5
    obtain ⟨_, _, _, _, _, h6, h7⟩ := Act.okN h1
    refine DrawC.mk 12 rfl (by kernel_rfl) ?_
    refine PCallC.sca _ (samplesText_fn a.b (by omega) (smpsOK_num h6)) rfl ?_
    refine PCallC.sca (.str (B a.text)) (hsaid [.t [105, 110, 103, 101, 115, 116], .n a.who, .t (smpsText a.b)] _ _ (by simp [Act.items, k5]) ⟨rfl, rfl, rfl, trivial⟩ rfl) rfl ?_
    exact And.intro trivial (AVle.of_eq fin)
  · have k1 : ¬ a.k = 1 := of_decide_eq_false k1
    have k2 : ¬ a.k = 2 := of_decide_eq_false k2
    have k3 : ¬ a.k = 3 := of_decide_eq_false k3
    have k4 : ¬ a.k = 4 := of_decide_eq_false k4
    have k5 : ¬ a.k = 5 := of_decide_eq_false k5
    refine CallC.sca (.str (B a.text)) (hsaid [.t [113, 117, 101, 114, 121], .n a.who, .n a.tier, .n a.f, .n a.t] _ _ (by simp [Act.items, k1, k2, k3, k4, k5]) ⟨rfl, rfl, rfl, rfl, rfl, trivial⟩ rfl) rfl ?_
    exact And.intro trivial (AVle.of_eq fin)

theorem l15Act_fn (a : Act) (h1 : a.ok = true) : VFn Tryd.prog 49 [a.av] (.str (B a.text)) := by
  obtain ⟨hw, hn, ht, hf, htt, h6, h7⟩ := Act.okN h1
  have l1 := mid_len hw
  have l2 := mid_len hn
  have l3 := mid_len ht
  have l4 := mid_len hf
  have l5 := mid_len htt
  have dig : ∀ n, mid n → VFn Tryd.prog 86 [.int .i64 n] (.str (B (Lib.itoa n))) := fun n hn => digits_fn n (by have := hn.1; omega) (by have := hn.2; omega)
  have add : ∀ (x y : ByteArray), (x.size + y.size : Nat) ≤ 100000 → ((x.size + y.size : Nat) : Int) ≤ 9223372036854775807 := fun x y h => by omega
  refine VFn.introC Tryd.call49 Tryd.func49 rfl rfl ?_
  refine Grd.intro (fun k1 => ?_) (fun k1 => ?_)
  · have k1 : a.k = 1 := of_decide_eq_true k1
    conv => whnf
    refine CallC.sca _ (dig a.who hw) ?_ ?_
    · exact rfl
    refine And.intro (add (B [115, 116, 101, 112, 32]) (B (Lib.itoa a.who)) (by rw [B_size, B_size]; simp; omega)) ?_
    exact And.intro trivial (AVle.of_eq (congrArg AV.str (show B [115, 116, 101, 112, 32] ++ B (Lib.itoa a.who) = B a.text by rw [B_app, Act.text, Act.items, if_pos k1]; simp [It.txt, join2])))
  refine Grd.intro (fun k2 => ?_) (fun k2 => ?_)
  · have k2 : a.k = 2 := of_decide_eq_true k2
    conv => whnf
    refine CallC.sca _ (dig a.who hw) ?_ ?_
    · exact rfl
    refine And.intro (add (B [99, 114, 97, 115, 104, 32]) (B (Lib.itoa a.who)) (by rw [B_size, B_size]; simp; omega)) ?_
    exact And.intro trivial (AVle.of_eq (congrArg AV.str (show B [99, 114, 97, 115, 104, 32] ++ B (Lib.itoa a.who) = B a.text by rw [B_app, Act.text]; simp [Act.items, k2, It.txt, join2])))
  refine Grd.intro (fun k3 => ?_) (fun k3 => ?_)
  · have k3 : a.k = 3 := of_decide_eq_true k3
    conv => whnf
    refine CallC.sca _ (dig a.n hn) ?_ ?_
    · exact rfl
    refine And.intro (add (B [116, 105, 99, 107, 32]) (B (Lib.itoa a.n)) (by rw [B_size, B_size]; simp; omega)) ?_
    exact And.intro trivial (AVle.of_eq (congrArg AV.str (show B [116, 105, 99, 107, 32] ++ B (Lib.itoa a.n) = B a.text by rw [B_app, Act.text]; simp [Act.items, k3, It.txt, join2])))
  refine Grd.intro (fun k4 => ?_) (fun k4 => ?_)
  · have k4 : a.k = 4 := of_decide_eq_true k4
    refine DrawC.mk 10 rfl (by kernel_rfl) ?_
    refine PCallC.sca _ (dig a.who hw) rfl ?_
    refine And.intro (add (B [115, 107, 101, 119, 32]) (B (Lib.itoa a.who)) (by rw [B_size, B_size]; simp; omega)) ?_
    refine And.intro (add (B [115, 107, 101, 119, 32] ++ B (Lib.itoa a.who)) (B [32]) (by rw [B_app, B_size, B_size]; simp; omega)) ?_
    refine PCallC.sca _ (dig a.n hn) rfl ?_
    refine And.intro (add (B [115, 107, 101, 119, 32] ++ B (Lib.itoa a.who) ++ B [32]) (B (Lib.itoa a.n)) (by rw [B_app, B_app, B_size, B_size]; simp; omega)) ?_
    exact And.intro trivial (AVle.of_eq (congrArg AV.str (show B [115, 107, 101, 119, 32] ++ B (Lib.itoa a.who) ++ B [32] ++ B (Lib.itoa a.n) = B a.text by rw [B_app, B_app, B_app, Act.text]; simp [Act.items, k4, It.txt, join3])))
  refine Grd.intro (fun k5 => ?_) (fun k5 => ?_)
  · have k5 : a.k = 5 := of_decide_eq_true k5
    have l6 := smpsText_len (smpsOK_num h6)
    refine DrawC.mk 10 rfl (by kernel_rfl) ?_
    refine PCallC.sca _ (dig a.who hw) rfl ?_
    refine And.intro (add (B [105, 110, 103, 101, 115, 116, 32]) (B (Lib.itoa a.who)) (by rw [B_size, B_size]; simp; omega)) ?_
    refine And.intro (add (B [105, 110, 103, 101, 115, 116, 32] ++ B (Lib.itoa a.who)) (B [32]) (by rw [B_app, B_size, B_size]; simp; omega)) ?_
    refine PCallC.sca _ (l03Samples_fn a.b (by omega) (smpsOK_num h6)) rfl ?_
    refine And.intro (add (B [105, 110, 103, 101, 115, 116, 32] ++ B (Lib.itoa a.who) ++ B [32]) (B (smpsText a.b)) (by rw [B_app, B_app, B_size, B_size]; simp; omega)) ?_
    exact And.intro trivial (AVle.of_eq (congrArg AV.str (show B [105, 110, 103, 101, 115, 116, 32] ++ B (Lib.itoa a.who) ++ B [32] ++ B (smpsText a.b) = B a.text by rw [B_app, B_app, B_app, Act.text]; simp [Act.items, k5, It.txt, join3])))
  · have k1 : ¬ a.k = 1 := of_decide_eq_false k1
    have k2 : ¬ a.k = 2 := of_decide_eq_false k2
    have k3 : ¬ a.k = 3 := of_decide_eq_false k3
    have k4 : ¬ a.k = 4 := of_decide_eq_false k4
    have k5 : ¬ a.k = 5 := of_decide_eq_false k5
    refine DrawC.mk 20 rfl (by kernel_rfl) ?_
    refine PCallC.sca _ (dig a.who hw) rfl ?_
    refine And.intro (add (B [113, 117, 101, 114, 121, 32]) (B (Lib.itoa a.who)) (by rw [B_size, B_size]; simp; omega)) ?_
    refine And.intro (add (B [113, 117, 101, 114, 121, 32] ++ B (Lib.itoa a.who)) (B [32]) (by rw [B_app, B_size, B_size]; simp; omega)) ?_
    refine PCallC.sca _ (dig a.tier ht) rfl ?_
    refine And.intro (add (B [113, 117, 101, 114, 121, 32] ++ B (Lib.itoa a.who) ++ B [32]) (B (Lib.itoa a.tier)) (by rw [B_app, B_app, B_size, B_size]; simp; omega)) ?_
    refine And.intro (add (B [113, 117, 101, 114, 121, 32] ++ B (Lib.itoa a.who) ++ B [32] ++ B (Lib.itoa a.tier)) (B [32]) (by rw [B_app, B_app, B_app, B_size, B_size]; simp; omega)) ?_
    refine PCallC.sca _ (dig a.f hf) rfl ?_
    refine And.intro (add (B [113, 117, 101, 114, 121, 32] ++ B (Lib.itoa a.who) ++ B [32] ++ B (Lib.itoa a.tier) ++ B [32]) (B (Lib.itoa a.f)) (by rw [B_app, B_app, B_app, B_app, B_size, B_size]; simp; omega)) ?_
    refine And.intro (add (B [113, 117, 101, 114, 121, 32] ++ B (Lib.itoa a.who) ++ B [32] ++ B (Lib.itoa a.tier) ++ B [32] ++ B (Lib.itoa a.f)) (B [32]) (by rw [B_app, B_app, B_app, B_app, B_app, B_size, B_size]; simp; omega)) ?_
    refine PCallC.sca _ (dig a.t htt) rfl ?_
    refine And.intro (add (B [113, 117, 101, 114, 121, 32] ++ B (Lib.itoa a.who) ++ B [32] ++ B (Lib.itoa a.tier) ++ B [32] ++ B (Lib.itoa a.f) ++ B [32]) (B (Lib.itoa a.t)) (by rw [B_app, B_app, B_app, B_app, B_app, B_app, B_size, B_size]; simp; omega)) ?_
    exact And.intro trivial (AVle.of_eq (congrArg AV.str (show B [113, 117, 101, 114, 121, 32] ++ B (Lib.itoa a.who) ++ B [32] ++ B (Lib.itoa a.tier) ++ B [32] ++ B (Lib.itoa a.f) ++ B [32] ++ B (Lib.itoa a.t) = B a.text by
      rw [B_app, B_app, B_app, B_app, B_app, B_app, B_app, Act.text]; simp [Act.items, k1, k2, k3, k4, k5, It.txt, join5])))
theorem specActText_fn (a : Act) : VFn Tryd.prog 15 [a.av] (.tup [.str (B a.res), .int .i64 a.code]) := by
  refine VFn.introC Tryd.call15 Tryd.func15 rfl rfl ?_
  conv => whnf
  refine CallC.sca _ (specActOK_fn a) ?_ ?_
  · exact rfl
  refine Grd.intro (fun h1 => ?_) (fun h1 => ?_)
  · have h1 : a.ok = false := by simpa using h1
    exact And.intro trivial (AVle.of_eq (show AV.tup [.str (B []), .int .i64 1] = _ by simp [Act.res, Act.code, h1]))
  have h1 : a.ok = true := by simpa using h1
  conv => whnf
  refine CallC.sca _ (l15Act_fn a h1) ?_ ?_
  · exact rfl
  exact And.intro trivial (AVle.of_eq (show AV.tup [.str (B a.text), .int .i64 0] = _ by simp [Act.res, Act.code, h1]))
end Go.Proofs.YtopkjoalbinljaaDoor
