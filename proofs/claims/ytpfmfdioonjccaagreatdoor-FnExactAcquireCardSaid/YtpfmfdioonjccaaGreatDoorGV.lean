/- Numbers read: contracts; the conditions are the theorems' own. -/
import Derived.Test.YtpfmfdioonjccaaGreatDoorGH
import Derived.Test.YtpfmfdioonjccaaGreatDoorGB
import Derived.Test.YtpfmfdioonjccaaGreatDoorV41
set_option linter.unusedVariables false
set_option linter.constructorNameAsVariable false
set_option linter.unusedSimpArgs false
set_option maxRecDepth 20000
namespace Go.Proofs.YtpfmfdioonjccaaGreatDoor
open Go Go.Vw

theorem alloc_new (w : World) (o : Obj) : (w.alloc o).heap[w.heap.size]? = some o ∧ (w.alloc o).heap.size = w.heap.size + 1 := by
  unfold World.alloc; simp
theorem SplitN_fn (l : List UInt8) (c : UInt8) (m : Nat) (hl : l.length < 4294967281) (hm : m ≤ 1000000) : VFn Tryz.prog 323 [.str (B l), .str (B [c]), .int .i64 ((m + 1 : Nat) : Int)] (txts (Lib.splitN l [c] (m + 1))) := by
  refine ⟨Tryz.call323, fun w ok vs hJ hok hv => ?_⟩
  obtain ⟨v, us, rfl, hv, v2, us2, rfl, hv2, v3, us3, rfl, hv3, hus⟩ := hv
  have e1 : v = .string (B l) := hv
  have e2 : v2 = .string (B [c]) := hv2
  have e3 : v3 = .int .i64 ((m + 1 : Nat) : Int) := hv3
  have e4 : us3 = [] := hus
  subst e1 e2 e3 e4
  obtain ⟨mv, hmv⟩ := tab_maxlen hJ
  have hd := Lib.splitB_data (B [c]) 0 (min (m + 1) ((B l).size + 1) - 1) (B l)
  have hle := Lib.splitB_length_le (B [c]) 0 (min (m + 1) ((B l).size + 1) - 1) (B l)
  refine (Tryz.strings_SplitN (B l) (B [c]) (m + 1) mv w (by rw [B_size]; exact hl) hmv (by rw [B_size]; exact Nat.le_refl 1) (by omega) (by omega)).mono ?_
  rintro e w' ⟨rfl, rfl⟩
  generalize Lib.splitB (B [c]) 0 (min (m + 1) ((B l).size + 1) - 1) (B l) = S at hd hle
  rw [B_data, B_data, B_size] at hd
  have hR : Lib.splitN l [c] (m + 1) = S.map (·.data.toList) := hd.symm
  have hlen : (Lib.splitN l [c] (m + 1)).length = S.length := by rw [hR]; simp
  have bel := (Go.RowKit.Below.refl w.heap.size w).alloc (Nat.le_refl _) (.cells (Lib.cellsOf S (min (m + 1) ((B l).size + 1))) 9)
  obtain ⟨hnew, hsz⟩ := alloc_new w (.cells (Lib.cellsOf S (min (m + 1) ((B l).size + 1))) 9)
  refine ⟨_, rfl, ⟨bel.os, bel.tape, bel.output, bel.size, fun b hb _ => bel.block b hb⟩, ?_⟩
  show RV _ _ G0 (.sl 1 (Lib.splitN l [c] (m + 1)).length fun i => [.str (B (ix (Lib.splitN l [c] (m + 1)) i))]) _
  rw [hlen]
  refine ⟨_, _, rfl, by omega, .inr ⟨w.heap.size, 0, rfl, .inr ⟨Nat.le_refl _, by rw [hsz]; omega⟩, fun i hi => ⟨[.string S[i]], rfl, ⟨_, _, rfl, ?_, rfl⟩, fun j hj => ?_⟩⟩⟩
  · show Value.string _ = Value.string _
    rw [hR, ix_lt (by simpa using hi)]
    simp [B]
  · have : j = 0 := by omega
    subst this
    rw [Nat.zero_add, Nat.mul_one, Nat.add_zero, cell_of_row _ _ _ _ _ _ hnew]
    simp [Lib.cellsOf, List.getElem?_append_left, hi]
theorem atoi_range (t : List UInt8) : -9223372036854775808 ≤ atoiV t ∧ atoiV t ≤ 9223372036854775807 := by
  rcases atoi_end t with ⟨_, h⟩ | ⟨_, h, e⟩ | ⟨_, h, e⟩
  · generalize atoiV t = v at h
    unfold Lib.atoiAll at h
    cases t with
    | nil => cases h
    | cons c r =>
      simp only at h
      split at h
      · cases h
      · cases h
      · split at h
        · cases h
        · split at h
          · cases h
          · injection h with h
            subst h
            split <;> omega
  · rw [e]; decide
  · rw [e]; unfold Lib.atoiSat; split <;> decide
theorem number_fn (t : List UInt8) (hl : t.length ≤ 281474976710656) : VFn Tryz.prog 271 [.str (B t)] (.tup [.int .i64 (atoiV t), .bool (numOk t)]) := by
  refine VFn.introC Tryz.call271 Tryz.func271 rfl rfl ?_
  by_cases ho : atoiOk t = true
  · conv => whnf
    refine CallC.sca _ (Atoi_ok t hl ho) ?_ ?_
    · exact rfl
    have hb := atoi_range t
    conv => whnf
    refine CallC.sca _ (Itoa_fn (atoiV t) hb.1 hb.2) ?_ ?_
    · exact rfl
    refine Grd.intro (fun h => ?_) (fun h => ?_)
    · have h : ((B (Lib.itoa (atoiV t))).toList == (B t).toList) = true := h
      rw [B_eq] at h
      conv => whnf
      refine CallC.sca _ (within_fn _ _ _) ?_ ?_
      · exact rfl
      refine And.intro trivial (AVle.of_eq (show AV.tup [.int .i64 (atoiV t), .bool (within (atoiV t) (-999999999999999999) 999999999999999999)] = _ from ?_))
      unfold numOk; rw [ho, h]; rfl
    · have h : ((B (Lib.itoa (atoiV t))).toList == (B t).toList) = false := h
      rw [B_eq] at h
      refine And.intro trivial (AVle.of_eq (show AV.tup [.int .i64 (atoiV t), .bool false] = _ from ?_))
      unfold numOk; rw [ho, h]; rfl
  · have ho : atoiOk t = false := by simpa using ho
    conv => whnf
    refine CallC.sca _ (Atoi_no t hl ho) ?_ ?_
    · exact rfl
    refine And.intro trivial (AVle.of_eq (show AV.tup [.int .i64 (atoiV t), .bool false] = _ from ?_))
    unfold numOk; rw [ho]; rfl
theorem cutP_piece (c : UInt8) : ∀ (l cur : List UInt8), ∀ x ∈ cutP c cur l, x.length ≤ cur.length + l.length
  | [], cur, x, hx => by simp [cutP] at hx; rw [hx]; simp
  | y :: r, cur, x, hx => by
    unfold cutP at hx
    split at hx
    · rcases List.mem_cons.1 hx with rfl | hx
      · simp
      · have := cutP_piece c r [] x hx; simp at this ⊢; omega
    · have := cutP_piece c r (cur ++ [y]) x hx; simp at this ⊢; omega
theorem numbers_gen (t : List UInt8) (c : UInt8) (m : Nat) (hl : t.length ≤ 1000000000) (hm : m ≤ 1000000) (R : AV) (hy : ∀ N, numsK c m t = some N → R = .tup [ints N, .bool true]) (hn : numsK c m t = none → R = .tup [.nilsl, .bool false]) :
    VFn Tryz.prog 269 [.str (B t), .str (B [c]), .int .i64 (m : Int)] R := by
  have hsl := splitN_len c t m
  refine VFn.introC Tryz.call269 Tryz.func269 rfl rfl ?_
  refine And.intro (inI64 (by omega) (by omega)) ?_
  conv => whnf
  refine CallC.nl _ (SplitN_fn t c m (by omega) hm) ?_ ?_
  · exact rfl
  refine Grd.intro (fun h1 => ?_) (fun h1 => ?_)
  · have h1 : ¬ (Lib.splitN t [c] (m + 1)).length = m := by
      have h : (!decide ((((Lib.splitN t [c] (m + 1)).length : Nat) : Int) = (m : Int))) = true := h1
      simp at h; omega
    rw [hn (by unfold numsK; rw [if_neg (fun h => h1 (hsl.2 h.1))])]
    exact And.intro trivial (AVle.refl _)
  have h1 : (Lib.splitN t [c] (m + 1)).length = m := by
    have h : (!decide ((((Lib.splitN t [c] (m + 1)).length : Nat) : Int) = (m : Int))) = false := h1
    simp at h; omega
  have hcm := hsl.1 h1
  rw [splitN_eq c t m hcm]
  have hcl := cutP_len c t []
  have hpl : ∀ x ∈ cutP c [] t, x.length ≤ t.length := fun x hx => by have := cutP_piece c t [] x hx; simpa using this
  obtain ⟨P, hP⟩ : ∃ P, P = cutP c [] t := ⟨_, rfl⟩
  rw [← hP]
  rw [← hP] at hcm hcl hpl
  have hK : numsK c m t = if P.all numOk = true then some (P.map atoiV) else none := by
    unfold numsK; rw [← hP]
    by_cases h : P.all numOk = true
    · rw [if_pos ⟨hcm, h⟩, if_pos h]
    · rw [if_neg (fun q => h q.2), if_neg h]
  refine LoopC.mk (fun i : Nat => i ≤ P.length ∧ ∀ j, j < i → numOk (ix P j) = true) (fun i => [(9, .osl 0), (24, txts P), (25, .int .i64 P.length), (26, .int .i64 i)])
    (fun i => [(0, .arr 3 1 ((P.take i).map atoiV).length fun j => [.int .i64 (ix ((P.take i).map atoiV) j)])]) 1 (fun i => P.length - i) 0
    ⟨⟨Nat.zero_le _, fun j hj => absurd hj (Nat.not_lt_zero j)⟩, [(0, 0)], rfl, rfl, ⟨AVle.refl _, AVle.refl _, AVle.refl _, AVle.refl _, trivial⟩, ⟨MOle.arr rfl fun i hi => absurd hi (Nat.not_lt_zero i), trivial⟩⟩ ?_
  intro i hi
  obtain ⟨hi, hall⟩ := hi
  refine Grd.intro (fun h2 => ?_) (fun h2 => ?_)
  · have hin : i < P.length := by have := of_decide_eq_true h2; omega
    refine And.intro (by omega) ?_
    conv => whnf
    refine CallC.sca _ (number_fn (ix P i) (by have := hpl _ (getD_mem hin); omega)) ?_ ?_
    · exact rfl
    refine Grd.intro (fun h3 => ?_) (fun h3 => ?_)
    · have h3 : numOk (ix P i) = false := by simpa using (show (!numOk (ix P i)) = true from h3)
      have : ¬ P.all numOk = true := fun h => by rw [List.all_eq_true.1 h _ (getD_mem hin)] at h3; cases h3
      rw [hn (by rw [hK, if_neg this])]
      exact And.intro trivial (AVle.refl _)
    have h3 : numOk (ix P i) = true := by simpa using (show (!numOk (ix P i)) = false from h3)
    refine And.intro ⟨show (((P.take i).map atoiV).length + 1) * 8 ≤ 140737488355328 by simp; omega, all1 rfl⟩ ?_
    refine And.intro (inI64 (by omega) (by omega)) ?_
    refine ⟨i + 1, ⟨hin, fun j hj => ?_⟩, by omega, [(2, 0)], rfl, rfl, ⟨AVle.refl _, AVle.refl _, AVle.refl _, AVle.of_eq (congrArg (AV.int .i64) (by simp)), trivial⟩, ⟨arr_next (f := fun x => [.int .i64 x]) (map_take_snoc hin) rfl, trivial⟩⟩
    rcases Nat.lt_or_ge j i with h' | h'
    · exact hall j h'
    · rw [show j = i by omega]; exact h3
  · have : i = P.length := by have := of_decide_eq_false h2; omega
    subst this
    have e : P.take P.length = P := List.take_of_length_le (Nat.le_refl _)
    have hA : P.all numOk = true := List.all_eq_true.2 fun x hx => by
      obtain ⟨j, hj, q⟩ := List.getElem_of_mem hx
      have := hall j hj
      rw [ix_lt hj, q] at this; exact this
    rw [hy _ (by rw [hK, if_pos hA]), e]
    exact And.intro trivial (AVle.refl _)
theorem numbers_yes (t : List UInt8) (c : UInt8) (m : Nat) (hl : t.length ≤ 1000000000) (hm : m ≤ 1000000) {N : List Int} (h : numsK c m t = some N) : VFn Tryz.prog 269 [.str (B t), .str (B [c]), .int .i64 (m : Int)] (.tup [ints N, .bool true]) :=
  numbers_gen t c m hl hm _ (fun N' h' => by rw [h] at h'; cases h'; rfl) (fun h' => by rw [h] at h'; cases h')
theorem numbers_no (t : List UInt8) (c : UInt8) (m : Nat) (hl : t.length ≤ 1000000000) (hm : m ≤ 1000000) (h : numsK c m t = none) : VFn Tryz.prog 269 [.str (B t), .str (B [c]), .int .i64 (m : Int)] (.tup [.nilsl, .bool false]) :=
  numbers_gen t c m hl hm _ (fun N' h' => by rw [h] at h'; cases h') (fun h' => rfl)
end Go.Proofs.YtpfmfdioonjccaaGreatDoor
