/- Contracts of functions that the claim reaches, and the plain law of what they compute; each theorem bears its own conditions. -/
import Derived.Test.YtnplgeogieoioaaGreatDoorQ7
import Derived.Test.YtnplgeogieoioaaGreatDoorQ4
import Derived.Test.YtnplgeogieoioaaGreatDoorQ3
import Derived.Test.YtnplgeogieoioaaGreatDoorQ2
import Derived.Test.YtnplgeogieoioaaGreatDoorV52
import Derived.Test.YtnplgeogieoioaaGreatDoorQ5
import Derived.Test.YtnplgeogieoioaaGreatDoorQ6
set_option linter.unusedVariables false
set_option linter.constructorNameAsVariable false
set_option linter.unusedSimpArgs false
set_option maxRecDepth 20000
namespace Go.Proofs.YtnplgeogieoioaaGreatDoor
open Go Go.Vw
theorem IndexStr_2 (L : List (List UInt8)) (hL : L.length ≤ 9223372036854775807) (F : Nat) (r1 r2 : List AV) (p : List UInt8 → Bool) (hp : ∀ e ∈ L, VFn Tryz.prog F [.str (B e), .eptr r1 0, .eptr r2 0] (.bool (p e))) :
 VFn Tryz.prog 213 [txts L, .fn (.func F) [] [.eptr r1 0, .eptr r2 0]] (.int .i64 (fi p L)) := by
 refine VFn.introC Tryz.call213 Tryz.func213 rfl rfl ?_
 refine LoopC.mk (fun i : Nat => i ≤ L.length ∧ ∀ j, j < i → p (ix L j) = false) (fun i => [(0, txts L), (1, .fn (.func F) [] [.eptr r1 0, .eptr r2 0]), (7, .int .i64 L.length), (8, .int .i64 i)]) (fun _ => []) 0 (fun i => L.length - i) 0
  ⟨⟨Nat.zero_le _, fun j hj => absurd hj (Nat.not_lt_zero j)⟩, [], rfl, rfl, ⟨AVle.refl _, AVle.refl _, AVle.refl _, AVle.refl _, trivial⟩, trivial⟩ ?_
 intro i hi
 refine Grd.intro (fun h2 => ?_) (fun h2 => ?_)
 · have hin : i < L.length := by have := of_decide_eq_true h2; omega
   refine And.intro (by omega) ?_
   conv => whnf
   refine CallC.sca _ (hp (ix L i) (getD_mem hin)) ?_ ?_
   · exact rfl
   refine Grd.intro (fun h3 => ?_) (fun h3 => ?_)
   · exact And.intro trivial (AVle.of_eq (congrArg (AV.int .i64) (fi_at hin hi.2 h3).symm))
   · refine And.intro (inI64 (by omega) (by omega)) ?_
     exact ⟨i + 1, ⟨hin, fun j hj => by
      rcases Nat.lt_or_ge j i with h' | h'
      · exact hi.2 j h'
      · rw [show j = i by omega]; exact h3⟩, by omega, [], rfl, rfl, ⟨AVle.refl _, AVle.refl _, AVle.refl _, AVle.of_eq (congrArg (AV.int .i64) (by simp)), trivial⟩, trivial⟩
 · have : i = L.length := by have := of_decide_eq_false h2; omega
   subst this
   exact And.intro trivial (AVle.of_eq (congrArg (AV.int .i64) (fi_none hi.2).symm))
theorem DelStr2_some (L : List (List UInt8)) (hL : L.length ≤ 1000000) (F : Nat) (r1 r2 : List AV) (p : (List UInt8) → Bool) (hp : ∀ e ∈ L, VFn Tryz.prog F [.str (B e), .eptr r1 0, .eptr r2 0] (.bool (p e))) (hs : L.any p = true) :
 FnM Tryz.prog 248 1 [.osl 0, .fn (.func F) [] [.eptr r1 0, .eptr r2 0]] [(0, .arr 9 1 L.length fun i => [.str (B (ix L i))])] (.osl 1) [(1, .arr 9 1 (L.filter fun e => !p e).length fun i => [.str (B (ix (L.filter fun e => !p e) i))])] 2 := by
 have c := IndexStr_2 L (by omega) F r1 r2 p hp
 obtain ⟨i0, hi0, hfi, hp0⟩ : ∃ i0 : Nat, i0 < L.length ∧ fi p L = (i0 : Int) ∧ p (ix L i0) = true ∧ ∀ j, j < i0 → p (ix L j) = false := by
  rcases fi_first p L with ⟨h, _⟩ | h
  · have := fi_any (p := p) (L := L)
    rw [h, hs] at this; simp at this
  · exact h
 rw [hfi] at c
 have hk0 : (L.take (i0 + 1)).filter (fun e => !p e) = L.take i0 := by
  rw [filter_snoc hi0, if_neg (by rw [hp0.1]; simp)]
  exact List.filter_eq_self.2 fun x hx => by
   obtain ⟨j, hj, rfl⟩ := List.getElem_of_mem hx
   have hj' : j < i0 := by simp at hj; omega
   have := hp0.2 j hj'
   rw [ix_lt (by omega)] at this
   simp [this]
 have hlt : ∀ j, i0 < j → j ≤ L.length → ((L.take j).filter fun e => !p e).length < j := fun j h1 h2 => filter_lt h1 h2 (by rw [hp0.1]; rfl)
 refine FnM.introC Tryz.call248 Tryz.func248 rfl rfl ?_
 conv => whnf
 refine CallC.sca _ (c) ?_ ?_
 · exact rfl
 refine And.intro (inI64 (by omega) (by omega)) ?_
 refine LoopC.mk (fun j : Nat => i0 < j ∧ j ≤ L.length) (fun j => [(0, .osl 0), (1, .fn (.func F) [] [.eptr r1 0, .eptr r2 0]), (5, .int .i64 ((L.take j).filter fun e => !p e).length), (6, .int .i64 j)])
  (fun j => [(0, .arr 9 1 L.length fun i => [.str (B (ix (kept p L j) i))])]) 1 (fun j => L.length - j) (i0 + 1)
  ⟨⟨by omega, hi0⟩, [(0, 0)], rfl, rfl, ⟨AVle.refl _, AVle.refl _, AVle.of_eq (congrArg (AV.int .i64) (by rw [hk0]; simp; omega)), AVle.of_eq (congrArg (AV.int .i64) (by simp)), trivial⟩, ⟨MOle.arr rfl fun i hi => by
    have e : kept p L (i0 + 1) = L := by unfold kept; rw [hk0]; simp only [List.length_take]; rw [Nat.min_eq_left (by omega)]; simp
    rw [e], trivial⟩⟩ ?_
 intro j hj
 obtain ⟨hj1, hj2⟩ := hj
 have hkl := hlt j hj1 hj2
 refine Grd.intro (fun h2 => ?_) (fun h2 => ?_)
 · have hjn : j < L.length := by have := of_decide_eq_true h2; omega
   have hsn := filter_snoc (p := fun e => !p e) hjn
   have e := kept_at (p := p) hjn (Nat.le_of_lt hkl)
   have cp := hp (ix L j) (getD_mem hjn)
   rw [← e] at cp
   refine And.intro (by omega) ?_
   conv => whnf
   refine CallC.sca _ (cp) ?_ ?_
   · exact rfl
   refine Grd.intro (fun h3 => ?_) (fun h3 => ?_)
   · have h3 : p (ix L j) = false := by rw [e] at h3; simpa using h3
     rw [h3] at hsn
     have hl := hlt (j + 1) (by omega) hjn
     rw [hsn] at hl
     simp at hl
     refine And.intro (by omega) ?_
     refine And.intro (inI64 (by omega) (by omega)) ?_
     refine And.intro (inI64 (by omega) (by omega)) ?_
     refine ⟨j + 1, ⟨by omega, hjn⟩, by omega, [(0, 0)], rfl, rfl, ⟨AVle.refl _, AVle.refl _, AVle.of_eq (congrArg (AV.int .i64) (by rw [hsn]; simp)), AVle.of_eq (congrArg (AV.int .i64) (by simp)), trivial⟩, ⟨MOle.arr rfl fun k hk => ?_, trivial⟩⟩
     have en := kept_next hjn h3 hkl k hk
     by_cases hkc : k = ((L.take j).filter fun e => !p e).length
     · rw [en, if_pos hkc, ← e]
       show (bif Nat.beq k ((L.take j).filter fun e => !p e).length then _ else _) = _
       rw [hkc, beq_t]; rfl
     · rw [en, if_neg hkc]
       show (bif Nat.beq k ((L.take j).filter fun e => !p e).length then _ else _) = _
       rw [beq_f hkc]; rfl
   · have h3 : p (ix L j) = true := by rw [e] at h3; simpa using h3
     rw [h3] at hsn
     refine And.intro (inI64 (by omega) (by omega)) ?_
     refine ⟨j + 1, ⟨by omega, hjn⟩, by omega, [(0, 0)], rfl, rfl, ⟨AVle.refl _, AVle.refl _, AVle.of_eq (congrArg (AV.int .i64) (by rw [hsn]; simp)), AVle.of_eq (congrArg (AV.int .i64) (by simp)), trivial⟩, ⟨MOle.arr rfl fun k hk => ?_, trivial⟩⟩
     have e2 : kept p L (j + 1) = kept p L j := by unfold kept; rw [hsn]; simp
     rw [e2]
 · have : j = L.length := by have := of_decide_eq_false h2; omega
   subst this
   have eT : L.take L.length = L := List.take_of_length_le (Nat.le_refl _)
   obtain ⟨c, hc⟩ : ∃ c, c = ((L.take L.length).filter fun e => !p e).length := ⟨_, rfl⟩
   have hk : ∀ k, k < c → ix (kept p L L.length) k = ix (L.filter fun e => !p e) k := fun k hk => by
    unfold kept
    rw [ix_app_l (by omega), eT]
   have hcl : c = (L.filter fun e => !p e).length := by rw [hc, eT]
   rw [← hc] at hkl
   rw [← hc]
   refine And.intro ⟨by omega, by omega⟩ ?_
   conv => whnf
   refine OpC.clear rfl rfl rfl rfl rfl rfl rfl (by show 1 ≤ L.length - ((c : Int)).toNat; omega) ?_
   conv => whnf
   refine OpC.head rfl rfl rfl rfl rfl rfl rfl ⟨by omega, by omega⟩ ?_
   refine And.intro trivial ⟨[(0, 0), (1, 1)], rfl, AVle.refl _, ⟨MOle.arr (by show ((c : Int)).toNat = _; omega) fun k hk' => ?_, trivial⟩⟩
   have hk' : k < c := by have : k < ((c : Int)).toNat := hk'; omega
   rw [← hk k hk']
   show (bif Nat.blt k ((c : Int)).toNat then _ else _) = _
   rw [blt_t (show k < ((c : Int)).toNat by omega)]; rfl
theorem DelStr2_none (L : List (List UInt8)) (hL : L.length ≤ 1000000) (F : Nat) (r1 r2 : List AV) (p : List UInt8 → Bool) (hp : ∀ e ∈ L, VFn Tryz.prog F [.str (B e), .eptr r1 0, .eptr r2 0] (.bool (p e))) (hs : L.any p = false) :
 FnM Tryz.prog 248 1 [.osl 0, .fn (.func F) [] [.eptr r1 0, .eptr r2 0]] [(0, .arr 9 1 L.length fun i => [.str (B (ix L i))])] (.osl 0) [(0, .arr 9 1 L.length fun i => [.str (B (ix L i))])] 1 := by
 have c := IndexStr_2 L (by omega) F r1 r2 p hp
 have h1 : fi p L = -1 := by
  rcases fi_first p L with ⟨h, _⟩ | ⟨i, hi, _, hp, _⟩
  · exact h
  · rw [List.any_eq_true.2 ⟨_, getD_mem hi, hp⟩] at hs; cases hs
 rw [h1] at c
 refine FnM.introC Tryz.call248 Tryz.func248 rfl rfl ?_
 conv => whnf
 refine CallC.sca _ (c) ?_ ?_
 · exact rfl
 exact And.intro trivial ⟨[(0, 0)], rfl, AVle.refl _, ⟨MOle.refl _, trivial⟩⟩
theorem HasPrefix_fn (s p : List UInt8) : VFn Tryz.prog 279 [.str (B s), .str (B p)] (.bool (Lib.hasPrefix s p)) := by
 refine VFn.lib Tryz.call279 fun w ok vs hJ hok hv => ?_
 obtain ⟨v, us, rfl, hv, v2, us2, rfl, hv2, hus⟩ := hv
 have e1 : v = .string (B s) := hv
 have e2 : v2 = .string (B p) := hv2
 have e3 : us2 = [] := hus
 subst e1 e2 e3
 refine (Tryz.strings_HasPrefix (B s) (B p) w).mono ?_
 rintro e w' ⟨rfl, rfl⟩
 refine ⟨_, rfl, Go.RowKit.Below.refl _ _, fun _ _ => ?_⟩
 show Value.bool _ = _
 rw [B_data, B_data]
theorem keys_own (x : Sto) (hL : x.os.length ≤ 1000000) (p : List UInt8) : FnM Tryz.prog 249 0 [x.av, .str (B p)] [] (.osl 0) [(0, .arr 9 1 ((x.os.map (·.key)).filter fun k => Lib.hasPrefix k p).length fun j => [.str (B (ix ((x.os.map (·.key)).filter fun k => Lib.hasPrefix k p) j))])] 1 := by
 have hle : ∀ i, (((x.os.take i).map (·.key)).filter fun k => Lib.hasPrefix k p).length ≤ i := fun i => Nat.le_trans (List.length_filter_le _ _) (by simp; omega)
 refine FnM.introC Tryz.call249 Tryz.func249 rfl rfl ?_
 refine LoopC.mk (fun i : Nat => i ≤ x.os.length) (fun i => [(1, .str (B p)), (5, .osl 1), (10, obs x.os), (11, .int .i64 x.os.length), (12, .int .i64 i)])
  (fun i => [(0, .box x.row), (1, .arr 9 1 (((x.os.take i).map (·.key)).filter fun k => Lib.hasPrefix k p).length fun j => [.str (B (ix (((x.os.take i).map (·.key)).filter fun k => Lib.hasPrefix k p) j))])]) 2 (fun i => x.os.length - i) 0
  ⟨Nat.zero_le _, [(0, 0), (1, 1)], rfl, rfl, ⟨AVle.refl _, AVle.refl _, AVle.refl _, AVle.refl _, AVle.refl _, trivial⟩, ⟨MOle.refl _, MOle.arr rfl fun i hi => absurd hi (Nat.not_lt_zero i), trivial⟩⟩ ?_
 intro i hi
 have hli := hle i
 refine Grd.intro (fun h2 => ?_) (fun h2 => ?_)
 · have hin : i < x.os.length := by have := of_decide_eq_true h2; omega
   have hs := map_take_filter (f := fun o : Ob => o.key) (p := fun k => Lib.hasPrefix k p) hin
   refine And.intro (by omega) ?_
   conv => whnf
   refine CallC.sca _ (HasPrefix_fn (ix x.os i).key p) ?_ ?_
   · exact rfl
   refine Grd.intro (fun h3 => ?_) (fun h3 => ?_)
   · rw [if_pos h3] at hs
     refine And.intro ⟨show ((((x.os.take i).map (·.key)).filter fun k => Lib.hasPrefix k p).length + 1) * 16 ≤ 140737488355328 by omega, all1 rfl⟩ ?_
     refine And.intro (inI64 (by omega) (by omega)) ?_
     exact ⟨i + 1, hin, by omega, [(0, 0), (4, 1)], rfl, rfl, ⟨AVle.refl _, AVle.refl _, AVle.refl _, AVle.refl _, AVle.of_eq (congrArg (AV.int .i64) (by simp)), trivial⟩, ⟨MOle.refl _, arr_next (f := fun s : List UInt8 => [.str (B s)]) hs rfl, trivial⟩⟩
   · rw [if_neg (by rw [h3]; simp)] at hs
     refine And.intro (inI64 (by omega) (by omega)) ?_
     exact ⟨i + 1, hin, by omega, [(0, 0), (1, 1)], rfl, rfl, ⟨AVle.refl _, AVle.refl _, AVle.refl _, AVle.refl _, AVle.of_eq (congrArg (AV.int .i64) (by simp)), trivial⟩, ⟨MOle.refl _, MOle.of_eq (show MO.arr 9 1 (((x.os.take i).map (·.key)).filter fun k => Lib.hasPrefix k p).length (fun j => [.str (B (ix (((x.os.take i).map (·.key)).filter fun k => Lib.hasPrefix k p) j))]) = _ by rw [hs]), trivial⟩⟩
 · have : i = x.os.length := by have := of_decide_eq_false h2; omega
   subst this
   have e : x.os.take x.os.length = x.os := List.take_of_length_le (Nat.le_refl _)
   exact And.intro trivial ⟨[(1, 0)], rfl, AVle.refl _, ⟨MOle.of_eq (show MO.arr 9 1 (((x.os.take x.os.length).map (·.key)).filter fun k => Lib.hasPrefix k p).length (fun j => [.str (B (ix (((x.os.take x.os.length).map (·.key)).filter fun k => Lib.hasPrefix k p) j))]) = _ by rw [e]), trivial⟩⟩
def pinP : List UInt8 := [112, 105, 110, 47]
def pinQ (d : List UInt8) (now : Int) : Bool := numOk d && decide (atoiV d + 6 < now)
def keepK (x : Sto) (now : Int) (k : List UInt8) : Bool := Lib.hasPrefix k pinP && !pinQ (x.get k).data now
def pinL (x : Sto) (now : Int) : List (List UInt8) := (x.os.map (·.key)).filter (keepK x now)
theorem pinL_two (x : Sto) (now : Int) : ((x.os.map (·.key)).filter fun k => Lib.hasPrefix k pinP).filter (fun k => !pinQ (x.get k).data now) = pinL x now := by
 unfold pinL
 rw [List.filter_filter]
 exact List.filter_congr fun k _ => by unfold keepK; rw [Bool.and_comm]
theorem pins1_fn (x : Sto) (hs : x.ok = true) (now : Int) (k : List UInt8) (hk : x.has k = true) : VFn Tryz.prog 250 [.str (B k), .eptr x.row 0, .eptr [.int .i64 now] 0] (.bool (pinQ (x.get k).data now)) := by
 have c := get_fn x hs k
 rw [if_pos hk] at c
 have hd := (get_ok x hs k hk).1
 have cn := number_fn (x.get k).data (by omega)
 unfold pinQ
 by_cases ho : numOk (x.get k).data = true
 · obtain ⟨n, e1, e2, h0, h1⟩ := num_of ho
   rw [ho] at cn ⊢
   refine VFn.introC Tryz.call250 Tryz.func250 rfl rfl ?_
   conv => whnf
   refine CallC.sca _ (c) ?_ ?_
   · exact rfl
   conv => whnf
   refine CallC.sca _ (cn) ?_ ?_
   · exact rfl
   refine And.intro (inI64 (by omega) (by omega)) ?_
   exact And.intro trivial (AVle.refl _)
 · have ho : numOk (x.get k).data = false := by simpa using ho
   rw [ho] at cn ⊢
   refine VFn.introC Tryz.call250 Tryz.func250 rfl rfl ?_
   conv => whnf
   refine CallC.sca _ (c) ?_ ?_
   · exact rfl
   conv => whnf
   refine CallC.sca _ (cn) ?_ ?_
   · exact rfl
   exact And.intro trivial (AVle.refl _)
theorem pins_fn (x : Sto) (hs : x.ok = true) (now : Int) : VFn Tryz.prog 219 [x.av, .int .i64 now] (txts (pinL x now)) := by
 have hL := (Sto.ok_at hs).2.1
 have ck := keys_own x (by omega) pinP
 obtain ⟨K, hK⟩ : ∃ K, K = (x.os.map (·.key)).filter fun k => Lib.hasPrefix k pinP := ⟨_, rfl⟩
 have hKl : K.length ≤ 1000000 := by rw [hK]; have := List.length_filter_le (fun k => Lib.hasPrefix k pinP) (x.os.map (·.key)); simp at this; omega
 have hp : ∀ e ∈ K, VFn Tryz.prog 250 [.str (B e), .eptr x.row 0, .eptr [.int .i64 now] 0] (.bool (pinQ (x.get e).data now)) := fun e he => pins1_fn x hs now e (has_of_mem hs (by rw [hK] at he; exact (List.mem_filter.1 he).1))
 have e2 : (K.filter fun k => !pinQ (x.get k).data now) = pinL x now := by rw [hK]; exact pinL_two x now
 rw [← hK] at ck
 by_cases ha : K.any (fun k => pinQ (x.get k).data now) = true
 · have hd := DelStr2_some K hKl 250 x.row [.int .i64 now] (fun k => pinQ (x.get k).data now) hp ha
   rw [e2] at hd
   refine VFn.introC Tryz.call219 Tryz.func219 rfl rfl ?_
   conv => whnf
   refine CallC.k [] ck rfl rfl (AVsle.refl _) trivial rfl ?_
   conv => whnf
   refine CallC.m [(2, 0)] hd rfl rfl (AVsle.refl _) ⟨MOle.refl _, trivial⟩ rfl ⟨fun i hi => rfl, trivial⟩ rfl ?_
   exact And.intro trivial (AVle.sl rfl fun j hj => rfl)
 · have ha : K.any (fun k => pinQ (x.get k).data now) = false := by simpa using ha
   have hd := DelStr2_none K hKl 250 x.row [.int .i64 now] (fun k => pinQ (x.get k).data now) hp ha
   have e3 : K = pinL x now := by
    rw [← e2]
    exact (List.filter_eq_self.2 fun k hk => by
     have := List.any_eq_false.1 ha k hk
     simpa using this).symm
   rw [e3] at hd ck
   refine VFn.introC Tryz.call219 Tryz.func219 rfl rfl ?_
   conv => whnf
   refine CallC.k [] ck rfl rfl (AVsle.refl _) trivial rfl ?_
   conv => whnf
   refine CallC.m [(2, 0)] hd rfl rfl (AVsle.refl _) ⟨MOle.refl _, trivial⟩ rfl ⟨fun i hi => rfl, trivial⟩ rfl ?_
   exact And.intro trivial (AVle.sl rfl fun j hj => rfl)
theorem keyOK_len {k : List UInt8} (h : keyOK k = true) : k.length ≤ 30 := by
 unfold keyOK at h
 rw [Bool.and_eq_true] at h
 have := h.2
 simp [within] at this
 omega
def pinK (n : Int) : List UInt8 := [112, 105, 110, 47] ++ Lib.itoa n
theorem pinKey_fn (n : Int) (h : 0 ≤ n ∧ n ≤ 9) : VFn Tryz.prog 195 [.int .i64 n] (.str (B (pinK n))) := by
 have hl := itoa_len (n := n) (by omega) (by omega)
 refine VFn.introC Tryz.call195 Tryz.func195 rfl rfl ?_
 conv => whnf
 refine CallC.sca _ (Itoa_fn n (by omega) (by omega)) ?_ ?_
 · exact rfl
 refine And.intro (show (((B [112, 105, 110, 47]).size + (B (Lib.itoa n)).size : Nat) : Int) ≤ 9223372036854775807 by rw [B_size, B_size]; simp; omega) ?_
 exact And.intro trivial (AVle.of_eq (congrArg AV.str (show B [112, 105, 110, 47] ++ B (Lib.itoa n) = B (pinK n) from B_app _ _)))
def orphL (x : Sto) : List (List UInt8) := (dataKs x).filter (logS x).orph
def swO (x : Sto) : Sto × Int := match orphL x with | [] => (x, 18) | k :: _ => (wo x k, 0)
theorem orphL_has {x : Sto} (hs : x.ok = true) {k : List UInt8} {r : List (List UInt8)} (h : orphL x = k :: r) : x.has k = true := by
 have h1 : k ∈ orphL x := by rw [h]; simp
 exact has_of_mem hs (List.mem_filter.1 (List.mem_filter.1 h1).1).1
theorem dataKs_len (x : Sto) : (dataKs x).length ≤ x.os.length := Nat.le_trans (List.length_filter_le _ _) (by simp)
theorem sweepOrphans_fn (x : Sto) (hs : x.ok = true) : VFn Tryz.prog 193 [x.av] (.tup [(swO x).1.av, .int .i64 (swO x).2]) := by
 have hL := (Sto.ok_at hs).2.1
 obtain ⟨b1, b2, b3, b4⟩ := log_b x
 have co := orphans_fn (logS x) (by omega) (by omega) (dataKs x) (by have := dataKs_len x; omega)
 rw [show (dataKs x).filter (logS x).orph = orphL x from rfl] at co
 cases hl : orphL x with
 | nil =>
   have e : swO x = (x, 18) := by unfold swO; rw [hl]
   rw [hl] at co
   rw [e]
   refine VFn.introC Tryz.call193 Tryz.func193 rfl rfl ?_
   refine DrawC.mq 6 rfl (by kernel_rfl) ?_
   refine PCallQ.nl _ (log_fn x hs) rfl ?_
   refine PCallQ.nl _ (dataKeys_fn x (by omega)) rfl ?_
   refine PCallQ.nl _ (co) rfl ?_
   exact And.intro trivial (AVle.refl _)
 | cons k r =>
   have e : swO x = (wo x k, 0) := by unfold swO; rw [hl]
   rw [hl] at co
   rw [e]
   have hk := orphL_has hs hl
   refine VFn.introC Tryz.call193 Tryz.func193 rfl rfl ?_
   refine DrawC.mq 6 rfl (by kernel_rfl) ?_
   refine PCallQ.nl _ (log_fn x hs) rfl ?_
   refine PCallQ.nl _ (dataKeys_fn x (by omega)) rfl ?_
   refine PCallQ.nl _ (co) rfl ?_
   refine DrawC.mq 4 rfl (by kernel_rfl) ?_
   refine And.intro ⟨Int.le_refl 0, show (0 : Int) < (((k :: r).length : Nat) : Int) by rw [List.length_cons]; omega⟩ ?_
   conv => whnf
   refine CallC.nl _ (without_fn x hs k hk) ?_ ?_
   · exact rfl
   exact And.intro trivial (AVle.refl _)
theorem mem_has {s : Sto} (h : Srt s.os) {o : Ob} (ho : o ∈ s.os) : s.has o.key = true ∧ s.get o.key = o := by
 obtain ⟨j, hj, e⟩ := List.getElem_of_mem ho
 have ej : ix s.os j = o := by rw [ix_lt hj]; exact e
 have hl := lb_le o.key s.os
 have h1 : lb o.key s.os ≤ j := by
  rcases Nat.lt_or_ge j (lb o.key s.os) with h1 | h1
  · have := lb_lt h1
    rw [ej] at this
    exact absurd this (List.lt_irrefl _)
  · exact h1
 have h2 : lb o.key s.os = j := by
  rcases Nat.lt_or_ge (lb o.key s.os) j with h2 | h2
  · have h3 := h.lt h2 hj
    rw [ej] at h3
    exact absurd h3 (lb_ge (by omega))
  · omega
 have h3 : ix s.os (lb o.key s.os) = o := by rw [h2]; exact ej
 refine ⟨?_, h3⟩
 unfold Sto.has hasK
 rw [h3, decide_eq_true (by omega : lb o.key s.os < s.os.length)]
 simp
theorem has_get {s : Sto} {k : List UInt8} (h : s.has k = true) : s.get k ∈ s.os ∧ (s.get k).key = k := by
 obtain ⟨h1, h2⟩ := hasK_at h
 exact ⟨getD_mem h1, h2⟩
theorem set_mem {s : Sto} (h : Srt s.os) (k d : List UInt8) (o : Ob) : o ∈ (s.set k d).os ↔ o = ⟨k, s.next, d⟩ ∨ (o ∈ s.os ∧ o.key ≠ k) := by
 have e : (s.set k d).os = s.os.take (lb k s.os) ++ (⟨k, s.next, d⟩ :: s.os.drop (if hasK k s.os = true then lb k s.os + 1 else lb k s.os)) := rfl
 have ht := lb_take (k := k) (L := s.os)
 have hd := lb_drop (k := k) h
 rw [e, List.mem_append, List.mem_cons]
 constructor
 · rintro (h1 | h1 | h1)
   · refine .inr ⟨List.mem_of_mem_take h1, fun e => ?_⟩
     have := ht o h1
     rw [e] at this
     exact List.lt_irrefl _ this
   · exact .inl h1
   · refine .inr ⟨List.mem_of_mem_drop h1, fun e => ?_⟩
     have := hd o h1
     rw [e] at this
     exact List.lt_irrefl _ this
 · rintro (h1 | ⟨h1, h2⟩)
   · exact .inr (.inl h1)
   · obtain ⟨j, hj, e1⟩ := List.getElem_of_mem h1
     rcases Nat.lt_or_ge j (lb k s.os) with h3 | h3
     · left
       exact List.mem_take_iff_getElem.2 ⟨j, by omega, e1⟩
     · right; right
       have hq : (if hasK k s.os = true then lb k s.os + 1 else lb k s.os) ≤ j := by
        split
        · rename_i hk
          obtain ⟨k1, k2⟩ := hasK_at hk
          rcases Nat.lt_or_ge (lb k s.os) j with h4 | h4
          · exact h4
          · have : j = lb k s.os := by omega
            subst this
            rw [ix_lt hj, e1] at k2
            exact absurd k2 h2
        · exact h3
       refine List.mem_iff_getElem.2 ⟨j - (if hasK k s.os = true then lb k s.os + 1 else lb k s.os), by rw [List.length_drop]; omega, ?_⟩
       rw [List.getElem_drop]
       simp only [show (if hasK k s.os = true then lb k s.os + 1 else lb k s.os) + (j - (if hasK k s.os = true then lb k s.os + 1 else lb k s.os)) = j by omega]
       exact e1
theorem set_ne {s : Sto} (hs : s.ok = true) {k d : List UInt8} (hy : (s.set k d).ok = true) {k' : List UInt8} (hk : k' ≠ k) : (s.set k d).has k' = s.has k' ∧ (s.has k' = true → (s.set k d).get k' = s.get k') := by
 have h1 := Sto.srt hs
 have h2 := Sto.srt hy
 have fw : (s.set k d).has k' = true → s.has k' = true := fun h => by
  obtain ⟨a1, a2⟩ := has_get h
  rcases (set_mem h1 k d _).1 a1 with e | ⟨e, _⟩
  · rw [e] at a2; exact absurd a2.symm hk
  · have := (mem_has h1 e).1
    rwa [a2] at this
 have bw : s.has k' = true → (s.set k d).has k' = true ∧ (s.set k d).get k' = s.get k' := fun h => by
  obtain ⟨a1, a2⟩ := has_get h
  have := mem_has h2 ((set_mem h1 k d _).2 (.inr ⟨a1, by rw [a2]; exact hk⟩))
  rw [a2] at this
  exact this
 refine ⟨?_, fun h => (bw h).2⟩
 cases h : s.has k' with
 | true => exact (bw h).1
 | false =>
   cases h' : (s.set k d).has k' with
   | false => rfl
   | true => rw [fw h'] at h; cases h
theorem logN_congr {x y : Sto} : ∀ n : Nat, (∀ j, j < n → (y.get (manK ((j + 1 : Nat) : Int))).data = (x.get (manK ((j + 1 : Nat) : Int))).data) → logN y n = logN x n
 | 0, _ => rfl
 | n + 1, h => by
   show stepL y (logN y n) = stepL x (logN x n)
   rw [logN_congr n fun j hj => h j (by omega)]
   unfold stepL recAt
   rw [logN_seq x n, show ((n : Nat) : Int) + 1 = ((n + 1 : Nat) : Int) by omega, h n (by omega)]
def Sta.lay (s : Sta) (t : List UInt8) : Sta := match readR t with | none => s.tick | some r => s.app r
theorem log_grow {x y : Sto} (hy : y.ok = true) {n : Nat} (hn : n ≤ 299) (hh : ∀ j, j < n → x.has (manK ((j + 1 : Nat) : Int)) = true) (he : logEnd x = n)
 (h1 : ∀ j, j < n → y.has (manK ((j + 1 : Nat) : Int)) = true ∧ (y.get (manK ((j + 1 : Nat) : Int))).data = (x.get (manK ((j + 1 : Nat) : Int))).data)
 (h2 : y.has (manK ((n + 1 : Nat) : Int)) = true) (h3 : y.has (manK ((n + 2 : Nat) : Int)) = false) : logEnd y = n + 1 ∧ logS y = (logS x).lay (y.get (manK ((n + 1 : Nat) : Int))).data := by
 have e : n + 1 = logEnd y := log_end hy (by omega) (fun j hj => by
  rcases Nat.lt_or_ge j n with h | h
  · exact (h1 j h).1
  · have : j = n := by omega
    subst this; exact h2) h3
 refine ⟨e.symm, ?_⟩
 unfold logS
 rw [← e, he]
 show stepL y (logN y n) = _
 rw [logN_congr n fun j hj => (h1 j hj).2]
 unfold stepL recAt Sta.lay
 rw [logN_seq x n, show ((n : Nat) : Int) + 1 = ((n + 1 : Nat) : Int) by omega]
 generalize readR _ = o
 cases o <;> rfl
def inB (P : List Bk) (a b : Int) : List Bk := P.filter fun x => within x.t a (b - 1)
def foldB (P : List Bk) : Ag := P.foldl (fun x b => x.mrg b.a) default
def cntB (P : List Bk) : Int := P.foldl (fun n b => n + b.a.c) 0
theorem cntB_snoc {P : List Bk} {i : Nat} (h : i < P.length) : cntB (P.take (i + 1)) = cntB (P.take i) + (ix P i).a.c := by
 unfold cntB; rw [take_snoc h, List.foldl_append]; rfl
theorem foldB_in {P : List Bk} {a b : Int} {i : Nat} (h : i < P.length) : foldB (inB (P.take (i + 1)) a b) = if within (ix P i).t a (b - 1) = true then (foldB (inB (P.take i) a b)).mrg (ix P i).a else foldB (inB (P.take i) a b) := by
 unfold foldB inB
 rw [take_snoc h, List.filter_append, List.foldl_append]
 cases hw : within (ix P i).t a (b - 1) with
 | true => simp [hw]
 | false => simp [hw]
structure FoldBd (P : List Bk) (a b : Int) (i : Nat) : Prop where
 c : -100000000000 * (i : Int) ≤ (foldB (inB (P.take i) a b)).c ∧ (foldB (inB (P.take i) a b)).c ≤ 100000000000 * i
 s : -100000000000 * (i : Int) ≤ (foldB (inB (P.take i) a b)).s ∧ (foldB (inB (P.take i) a b)).s ≤ 100000000000 * i
 n : -100000000000 * (i : Int) ≤ cntB (P.take i) ∧ cntB (P.take i) ≤ 100000000000 * i
theorem foldB_b {P : List Bk} (hP : ∀ b ∈ P, b.a.ok = true) (a b : Int) : ∀ i : Nat, i ≤ P.length → FoldBd P a b i
 | 0, _ => by constructor <;> simp [foldB, cntB, inB, default]
 | i + 1, h => by
   obtain ⟨h1, h2, h3⟩ := foldB_b hP a b i (by omega)
   have hb := Ag.bounds (hP _ (getD_mem (L := P) h))
   obtain ⟨b1, b2, _⟩ := hb
   have b1 : -100000000000 ≤ (ix P i).a.c ∧ (ix P i).a.c ≤ 100000000000 := b1
   have b2 : -100000000000 ≤ (ix P i).a.s ∧ (ix P i).a.s ≤ 100000000000 := b2
   refine ⟨?_, ?_, ?_⟩
   · rw [foldB_in h]
     unfold Ag.mrg
     split
     · split
       · omega
       · split
         · omega
         · simp only; omega
     · omega
   · rw [foldB_in h]
     unfold Ag.mrg
     split
     · split
       · omega
       · split
         · omega
         · simp only; omega
     · omega
   · rw [cntB_snoc h]; omega
theorem foldG_fn (P : List Bk) (hl : P.length ≤ 8) (hP : ∀ b ∈ P, b.a.ok = true) (a b : Int) (hb : inI .i64 (b - 1)) (hn : cntB P ≤ 100000) : VFn Tryz.prog 255 [bks P, .int .i64 a, .int .i64 b] (.tup [(foldB (inB P a b)).av, .int .i64 0]) := by
 have hB := foldB_b hP a b
 refine VFn.introC Tryz.call255 Tryz.func255 rfl rfl ?_
 refine LoopC.mk (fun i : Nat => i ≤ P.length) (fun i => [(1, .int .i64 a), (2, .int .i64 b), (6, .bptr 0 0), (7, .int .i64 0), (8, .bptr 1 0), (9, .int .i64 (cntB (P.take i))), (13, bks P), (14, .int .i64 P.length), (15, .int .i64 i)])
  (fun i => [(0, .box [.int .i64 0, .int .i64 0, .int .i64 0, .int .i64 0, .int .i64 0, .int .i64 0]), (1, .box (foldB (inB (P.take i) a b)).cells)]) 2 (fun i => P.length - i) 0
  ⟨Nat.zero_le _, [(0, 0), (1, 1)], rfl, rfl, ⟨AVle.refl _, AVle.refl _, AVle.refl _, AVle.refl _, AVle.refl _, AVle.refl _, AVle.refl _, AVle.refl _, AVle.refl _, trivial⟩, ⟨MOle.refl _, MOle.refl _, trivial⟩⟩ ?_
 intro i hi
 refine Grd.intro (fun g => ?_) (fun g => ?_)
 · have hi2 : i < P.length := by have := of_decide_eq_true g; omega
   obtain ⟨q1, q2, q3⟩ := hB i hi
   obtain ⟨b1, b2, _⟩ := Ag.bounds (hP _ (getD_mem (L := P) hi2))
   have b1 : -100000000000 ≤ (ix P i).a.c ∧ (ix P i).a.c ≤ 100000000000 := b1
   have b2 : -100000000000 ≤ (ix P i).a.s ∧ (ix P i).a.s ≤ 100000000000 := b2
   have cw := within_fn (ix P i).t a (b - 1)
   refine And.intro (by omega) ?_
   refine And.intro (show inI .i64 (cntB (P.take i) + (ix P i).a.c) from inI64 (by omega) (by omega)) ?_
   refine And.intro hb ?_
   have ef := foldB_in (a := a) (b := b) hi2
   cases hw : within (ix P i).t a (b - 1) with
   | true =>
     rw [hw] at cw
     rw [hw, if_pos rfl] at ef
     conv => whnf
     refine CallC.sca _ (cw) ?_ ?_
     · exact rfl
     conv => whnf
     refine CallC.sca _ (merged_fn (foldB (inB (P.take i) a b)) (ix P i).a (inI64 (by omega) (by omega)) (inI64 (by omega) (by omega))) ?_ ?_
     · exact rfl
     refine And.intro (inI64 (by omega) (by omega)) ?_
     exact ⟨i + 1, hi2, by omega, [(0, 0), (1, 1)], rfl, rfl, ⟨AVle.refl _, AVle.refl _, AVle.refl _, AVle.refl _, AVle.refl _, AVle.of_eq (congrArg (AV.int .i64) (cntB_snoc hi2).symm), AVle.refl _, AVle.refl _, AVle.of_eq (congrArg (AV.int .i64) (by simp)), trivial⟩, ⟨MOle.refl _, MOle.of_eq (show MO.box ((foldB (inB (P.take i) a b)).mrg (ix P i).a).cells = _ by rw [ef]), trivial⟩⟩
   | false =>
     rw [hw] at cw
     rw [hw, if_neg (by simp)] at ef
     conv => whnf
     refine CallC.sca _ (cw) ?_ ?_
     · exact rfl
     refine And.intro (inI64 (by omega) (by omega)) ?_
     exact ⟨i + 1, hi2, by omega, [(0, 0), (1, 1)], rfl, rfl, ⟨AVle.refl _, AVle.refl _, AVle.refl _, AVle.refl _, AVle.refl _, AVle.of_eq (congrArg (AV.int .i64) (cntB_snoc hi2).symm), AVle.refl _, AVle.refl _, AVle.of_eq (congrArg (AV.int .i64) (by simp)), trivial⟩, ⟨MOle.refl _, MOle.of_eq (show MO.box (foldB (inB (P.take i) a b)).cells = _ by rw [ef]), trivial⟩⟩
 · have : i = P.length := by have := of_decide_eq_false g; omega
   subst this
   have e : P.take P.length = P := List.take_of_length_le (Nat.le_refl _)
   rw [e]
   refine Grd.intro (fun g2 => absurd (of_decide_eq_true g2) (by omega)) (fun _ => ?_)
   exact And.intro trivial (AVle.refl _)
def winV (e : En) (d : List UInt8) (a b : Int) : Ag := if e.tier = 0 then aggL (smpsIn (rdV d) a b) else foldB (inB (rbV d) a b)
def goodD (e : En) (d : List UInt8) : Bool := if e.tier = 0 then rdOk d else rbOk d && decide (cntB (rbV d) ≤ 100000)
theorem windowG_fn (e : En) (d : List UInt8) (hl : d.length ≤ 1048576) (a b : Int) (hb : inI .i64 (b - 1)) (hg : goodD e d = true) : VFn Tryz.prog 223 [e.av, .str (B d), .int .i64 a, .int .i64 b] (.tup [(winV e d a b).av, .int .i64 0]) := by
 unfold goodD at hg
 unfold winV
 by_cases he : e.tier = 0
 · rw [if_pos he] at hg ⊢
   exact windowOf_yes e he d hl a b hb hg
 rw [if_neg he] at hg ⊢
 rw [Bool.and_eq_true] at hg
 have cr := readBuckets_gen d hl (.tup [bks (rbV d), .bool true]) (fun _ => rfl) (fun h => by rw [hg.1] at h; cases h)
 have h2 := hg.1
 simp only [rbOk, Bool.and_eq_true] at h2
 have h8 := bks_8 h2.2
 have hok := bksOK_ok h2.2
 have cf := foldG_fn (rbV d) h8 (fun x hx => (hok x hx).2) a b hb (of_decide_eq_true hg.2)
 refine VFn.introC Tryz.call223 Tryz.func223 rfl rfl ?_
 refine Grd.intro (fun g => absurd (of_decide_eq_true g) he) (fun g => ?_)
 conv => whnf
 refine CallC.nl _ (cr) ?_ ?_
 · exact rfl
 conv => whnf
 refine CallC.sca _ (cf) ?_ ?_
 · exact rfl
 exact And.intro trivial (AVle.refl _)
theorem MergeAgg_fn (a b : Ag) (ha : a.ok = true) (hb : b.ok = true) (hc : a.c + b.c ≤ 100000) : VFn Tryz.prog 224 [a.av, b.av] (.tup [(a.mrg b).av, .int .i64 0]) := by
 have c1 := AggOK_fn a
 have c2 := AggOK_fn b
 rw [ha] at c1
 rw [hb] at c2
 obtain ⟨a1, a2, _⟩ := Ag.bounds ha
 obtain ⟨b1, b2, _⟩ := Ag.bounds hb
 have cm := merged_fn a b (inI64 (by omega) (by omega)) (inI64 (by omega) (by omega))
 have cf := fun {n : Nat} {rows : Nat → List AV} (hr : FirstRows 4 3 rows 0 [(false, 1), (decide (100000 < a.c + b.c), 6)]) (hn : n = 4) => first2_of false (decide (100000 < a.c + b.c)) 1 6 hr hn (r := 0) (by rw [decide_eq_false (by omega)]; rfl)
 refine VFn.introC Tryz.call224 Tryz.func224 rfl rfl ?_
 refine DrawC.mq 21 rfl (by kernel_rfl) ?_
 refine PCallQ.sca _ (c1) rfl ?_
 refine PCallQ.sca _ (c2) rfl ?_
 refine And.intro (show inI .i64 (a.c + b.c) from inI64 (by omega) (by omega)) ?_
 refine PCallQ.sca _ (cf ⟨rfl, rfl, rfl, rfl, trivial⟩ rfl) rfl ?_
 conv => whnf
 refine CallC.sca _ (cm) ?_ ?_
 · exact rfl
 exact And.intro trivial (AVle.refl _)
def winR (x : Sto) (e : En) (a b : Int) (g : Ag) : Ag × Int := if x.has e.key = true then (g.mrg (winV e (x.get e.key).data a b), 0) else (g, 5)
structure WinOK (x : Sto) (e : En) (a b : Int) (g : Ag) : Prop where
 good : goodD e (x.get e.key).data = true
 gk : g.ok = true
 w : (winV e (x.get e.key).data a b).ok = true
 c : g.c + (winV e (x.get e.key).data a b).c ≤ 100000
theorem window_fn (x : Sto) (hs : x.ok = true) (e : En) (a b : Int) (hb : inI .i64 (b - 1)) (g : Ag) (h : x.has e.key = true → WinOK x e a b g) : VFn Tryz.prog 197 [x.av, e.av, .int .i64 a, .int .i64 b, g.av] (.tup [(winR x e a b g).1.av, .int .i64 (winR x e a b g).2]) := by
 have cg := get_fn x hs e.key
 unfold winR
 cases hh : x.has e.key with
 | false =>
   rw [hh, if_neg (by simp)] at cg
   rw [if_neg (by simp)]
   refine VFn.introC Tryz.call197 Tryz.func197 rfl rfl ?_
   conv => whnf
   refine CallC.sca _ (cg) ?_ ?_
   · exact rfl
   exact And.intro trivial (AVle.refl _)
 | true =>
   rw [hh, if_pos rfl] at cg
   rw [if_pos rfl]
   obtain ⟨w1, w2, w3, w4⟩ := h hh
   have hdl : (x.get e.key).data.length ≤ 600 := by
    have := ((stoOK_iff x).1 hs).el _ (has_get hh).1
    exact this.2.2
   have cw := windowG_fn e (x.get e.key).data (by omega) a b hb w1
   have cm := MergeAgg_fn g _ w2 w3 w4
   generalize winV e (x.get e.key).data a b = W at *
   generalize (x.get e.key).data = d at *
   refine VFn.introC Tryz.call197 Tryz.func197 rfl rfl ?_
   conv => whnf
   refine CallC.sca _ (cg) ?_ ?_
   · exact rfl
   conv => whnf
   refine CallC.sca _ (cw) ?_ ?_
   · exact rfl
   conv => whnf
   refine CallC.sca _ (cm) ?_ ?_
   · exact rfl
   exact And.intro trivial (AVle.refl _)
def covC (s : Sta) (k a b : Int) : Int := if within k 0 2 = true ∧ isRange a b = true ∧ a.tmod (wd k) = 0 ∧ b.tmod (wd k) = 0 then (if a < s.lo k then 15 else if s.hi k < b then 16 else 0) else 4
def covL (s : Sta) (k a b : Int) : List En := (ofT s.es k).filter (tch a b)
theorem DelOb_none (L : List Ob) (hL : L.length ≤ 1000000) (F : Nat) (row : List AV) (p : Ob → Bool) (hp : ∀ e ∈ L, VFn Tryz.prog F [e.av, .eptr row 0] (.bool (p e))) (hs : L.any p = false) :
 FnM Tryz.prog 225 1 [.osl 0, .fn (.func F) [] [.eptr row 0]] [(0, .arr 93 3 L.length fun i => (ix L i).row)] (.osl 0) [(0, .arr 93 3 L.length fun i => (ix L i).row)] 1 := by
 have c := IndexOb_1 L (by omega) F row p hp
 have h1 : fi p L = -1 := by
  rcases fi_first p L with ⟨h, _⟩ | ⟨i, hi, _, hp, _⟩
  · exact h
  · rw [List.any_eq_true.2 ⟨_, getD_mem hi, hp⟩] at hs; cases hs
 rw [h1] at c
 refine FnM.introC Tryz.call225 Tryz.func225 rfl rfl ?_
 conv => whnf
 refine CallC.sca _ (c) ?_ ?_
 · exact rfl
 exact And.intro trivial ⟨[(0, 0)], rfl, AVle.refl _, ⟨MOle.refl _, trivial⟩⟩
theorem wo_self {x : Sto} (hs : x.ok = true) {k : List UInt8} (h : x.has k = false) : wo x k = x := by
 unfold wo
 have : x.os.filter (fun o => !decide (o.key = k)) = x.os := List.filter_eq_self.2 fun o ho => by
  have : o.key ≠ k := fun e => by
   have := has_of_mem hs (List.mem_map.2 ⟨o, ho, e⟩)
   rw [h] at this; cases this
  simp [this]
 rw [this]
theorem withoutG_fn (x : Sto) (hs : x.ok = true) (k : List UInt8) : VFn Tryz.prog 198 [x.av, .str (B k)] (wo x k).av := by
 cases hk : x.has k with
 | true => exact without_fn x hs k hk
 | false =>
   have hL := (Sto.ok_at hs).2.1
   have hany : x.os.any (fun o => decide (o.key = k)) = false := by
    rw [Bool.eq_false_iff]
    intro h
    obtain ⟨o, ho, h2⟩ := List.any_eq_true.1 h
    have := has_of_mem hs (List.mem_map.2 ⟨o, ho, of_decide_eq_true h2⟩)
    rw [hk] at this; cases this
   have hd := DelOb_none x.os (by omega) 226 [.str (B k)] (fun o => decide (o.key = k)) (fun o _ => without1_fn o k) hany
   rw [wo_self hs hk]
   have : FnM Tryz.prog 198 0 [x.av, .str (B k)] [] x.own [(0, .arr 93 3 x.os.length fun i => (ix x.os i).row)] 1 := by
    refine FnM.introC Tryz.call198 Tryz.func198 rfl rfl ?_
    conv => whnf
    refine CallC.k [] (copied_own x (by omega)) rfl rfl (AVsle.refl _) trivial rfl ?_
    conv => whnf
    refine CallC.m [(3, 0)] hd rfl rfl (AVsle.refl _) ⟨MOle.refl _, trivial⟩ rfl ⟨fun i hi => rfl, trivial⟩ rfl ?_
    exact And.intro trivial ⟨[(3, 0)], rfl, AVle.refl _, ⟨MOle.refl _, trivial⟩⟩
   exact this.vfn
def igOK (id seq f t : Int) (b : List Smp) (put : Bool) : Bool := within id 0 9 && (smpsOK b && (!decide (8 < (b.length : Int)) && (if put = true then decide (0 < (b.length : Int)) && (within seq 1 999999 && (within f 0 (ix b (Int.toNat 0)).t && decide (t = (ix b ((b.length : Int) - 1).toNat).t + 1))) else decide (seq = 0) && (decide (f = 0) && decide (t = 0)))))
def Ig.ok (e : Ig) : Bool := igOK e.id e.seq e.f e.t e.b e.put
theorem smps_b {L : List Smp} (h : smpsOK L = true) {i : Nat} (hi : i < L.length) : 0 ≤ (ix L i).t ∧ (ix L i).t ≤ 99999 := by
 unfold smpsOK at h
 simp only [Bool.and_eq_true] at h
 have := Go.Vw.allN_iff.1 h.2 i hi
 simp [smpAt, within] at this
 omega
theorem IngesterOK_fn0 (id seq f t : Int) (b : List Smp) (put : Bool) (h : b.length ≤ 1048576) : VFn Tryz.prog 50 [.agg [.int .i64 id, .int .i64 seq, .int .i64 f, .int .i64 t, smps b, .bool put]] (.bool (igOK id seq f t b put)) := by
 cases hs : smpsOK b
 · have cs := SamplesOK_fn b
   rw [hs] at cs
   have ho : igOK id seq f t b put = false := by unfold igOK; rw [hs]; simp
   rw [ho]
   refine VFn.introC Tryz.call50 Tryz.func50 rfl rfl ?_
   conv => whnf
   refine CallC.sca _ (isId0 id) ?_ ?_
   · exact rfl
   refine Grd.intro (fun h => ?_) (fun h => ?_)
   · exact And.intro trivial (AVle.refl _)
   · conv => whnf
     refine CallC.sca _ (cs) ?_ ?_
     · exact rfl
     exact And.intro trivial (AVle.refl _)
 · have cs := SamplesOK_fn b
   rw [hs] at cs
   cases put
   · refine VFn.introC Tryz.call50 Tryz.func50 rfl rfl ?_
     repeat' (conv => whnf
              first
               | (refine Grd.intro (fun h => ?_) (fun h => ?_); rotate_left; focus (exfalso; simp_all; done))
               | (refine Grd.intro (fun h => ?_) (fun h => ?_); focus (exfalso; simp_all; done))
               | refine Grd.intro (fun h => ?_) (fun h => ?_)
               | (refine CallC.sca _ (isId0 id) ?_ ?_; focus (exact rfl))
               | (refine CallC.sca _ (cs) ?_ ?_; focus (exact rfl))
               | (refine And.intro trivial (AVle.of_eq (congrArg AV.bool ?_)); focus (simp_all [igOK]; done))
               | (refine And.intro trivial (AVle.of_eq (congrArg AV.bool ?_)); focus (simp only [igOK, *, cond_true, cond_false, Bool.true_and, Bool.and_true, Bool.false_and, Bool.and_false, Bool.not_true, Bool.not_false, Bool.true_or, Bool.or_true, Bool.false_or, Bool.or_false, if_true, ite_true, reduceIte]; done))
               | (refine And.intro trivial (AVle.of_eq (congrArg AV.bool ?_)); focus (simp_all [igOK]; intros; omega))
               | fail)
   by_cases hl : b.length = 0
   · refine VFn.introC Tryz.call50 Tryz.func50 rfl rfl ?_
     conv => whnf
     refine CallC.sca _ (isId0 id) ?_ ?_
     · exact rfl
     refine Grd.intro (fun h1 => ?_) (fun h1 => ?_)
     · rw [show igOK id seq f t b true = false by unfold igOK; simp_all]
       exact And.intro trivial (AVle.refl _)
     conv => whnf
     refine CallC.sca _ (cs) ?_ ?_
     · exact rfl
     refine Grd.intro (fun h2 => ?_) (fun h2 => ?_)
     · rw [show igOK id seq f t b true = false by unfold igOK; simp_all]
       exact And.intro trivial (AVle.refl _)
     refine DrawC.mkQ 32 [] rfl (by kernel_rfl) ?_; refine And.intro (by kernel_rfl) ?_
     repeat' (conv => whnf
              first
               | (refine Grd.intro (fun h => ?_) (fun h => ?_); rotate_left; focus (exfalso; simp_all; done))
               | (refine Grd.intro (fun h => ?_) (fun h => ?_); focus (exfalso; simp_all; done))
               | refine Grd.intro (fun h => ?_) (fun h => ?_)
               | (refine And.intro trivial (AVle.of_eq (congrArg AV.bool ?_)); focus (simp_all [igOK]; done))
               | (refine And.intro trivial (AVle.of_eq (congrArg AV.bool ?_)); focus (simp only [igOK, *, cond_true, cond_false, Bool.true_and, Bool.and_true, Bool.false_and, Bool.and_false, Bool.not_true, Bool.not_false, Bool.true_or, Bool.or_true, Bool.false_or, Bool.or_false, if_true, ite_true, reduceIte]; done))
               | (refine And.intro trivial (AVle.of_eq (congrArg AV.bool ?_)); focus (simp_all [igOK]; intros; omega))
               | fail)
   · have b0 := smps_b hs (i := 0) (by omega)
     have bl := smps_b hs (i := ((b.length : Int) - 1).toNat) (by omega)
     refine VFn.introC Tryz.call50 Tryz.func50 rfl rfl ?_
     conv => whnf
     refine CallC.sca _ (isId0 id) ?_ ?_
     · exact rfl
     refine Grd.intro (fun h1 => ?_) (fun h1 => ?_)
     · rw [show igOK id seq f t b true = false by unfold igOK; simp_all]
       exact And.intro trivial (AVle.refl _)
     conv => whnf
     refine CallC.sca _ (cs) ?_ ?_
     · exact rfl
     clear cs
     refine Grd.intro (fun h2 => ?_) (fun h2 => ?_)
     · rw [show igOK id seq f t b true = false by unfold igOK; simp_all]
       exact And.intro trivial (AVle.refl _)
     refine DrawC.mkQ 32 [] rfl (by kernel_rfl) ?_; refine And.intro (by kernel_rfl) ?_
     repeat' (conv => whnf
              first
               | (refine Grd.intro (fun h => ?_) (fun h => ?_); rotate_left; focus (exfalso; simp_all; done))
               | (refine Grd.intro (fun h => ?_) (fun h => ?_); focus (exfalso; simp_all; done))
               | refine Grd.intro (fun h => ?_) (fun h => ?_)
               | (refine CallC.sca _ (within_fn seq 1 999999) ?_ ?_; focus (exact rfl))
               | (refine CallC.sca _ (within_fn f 0 _) ?_ ?_; focus (exact rfl))
               | refine PCallQ.sca _ (within_fn seq 1 999999) rfl ?_
               | refine PCallQ.sca _ (within_fn f 0 _) rfl ?_
               | (refine And.intro trivial (AVle.of_eq (congrArg AV.bool ?_)); focus (simp_all [igOK]; done))
               | (refine And.intro trivial (AVle.of_eq (congrArg AV.bool ?_)); focus (simp only [igOK, *, cond_true, cond_false, Bool.true_and, Bool.and_true, Bool.false_and, Bool.and_false, Bool.not_true, Bool.not_false, Bool.true_or, Bool.or_true, Bool.false_or, Bool.or_false, if_true, ite_true, reduceIte]; done))
               | (refine And.intro trivial (AVle.of_eq (congrArg AV.bool ?_)); focus (simp_all [igOK]; intros; omega))
               | (refine And.intro ?_ ?_; focus (apply inI64 <;> omega))
               | (refine And.intro ?_ ?_; focus (constructor <;> omega))
               | fail)
theorem IngesterOK_fn (e : Ig) (h : e.b.length ≤ 1048576) : VFn Tryz.prog 50 [e.av] (.bool e.ok) := IngesterOK_fn0 e.id e.seq e.f e.t e.b e.put h
def atTier (k : Int) (x : En) : Bool := x.ok && decide (x.tier = k)
def Rr.ok (r : Rr) : Bool := within r.id 0 9 && (within r.ph 0 4 && (within r.tier 0 2 && (isRange r.f r.t && (within r.til 0 200000 && (within r.code 0 19 && (gotOK r.got && (decide ((r.left.length : Int) ≤ 300) && r.left.all (atTier r.tier))))))))
theorem ReaderOK1_fn (e : En) (r : Rr) : VFn Tryz.prog 108 [e.av, .eptr r.row 0] (.bool (atTier r.tier e)) := by
 refine VFn.introC Tryz.call108 Tryz.func108 rfl rfl ?_
 repeat' (conv => whnf
          first
           | (refine Grd.intro (fun h => ?_) (fun h => ?_); rotate_left; focus (exfalso; simp_all; done))
           | (refine Grd.intro (fun h => ?_) (fun h => ?_); focus (exfalso; simp_all; done))
           | refine Grd.intro (fun h => ?_) (fun h => ?_)
           | (refine CallC.sca _ (entryOK_fn e) ?_ ?_; focus (exact rfl))
           | (refine And.intro trivial (AVle.of_eq (congrArg AV.bool ?_)); focus (simp_all [atTier]; done))
           | (refine And.intro trivial (AVle.of_eq (congrArg AV.bool ?_)); focus (simp only [atTier, *, cond_true, cond_false, Bool.true_and, Bool.and_true, Bool.false_and, Bool.and_false, Bool.not_true, Bool.not_false, Bool.true_or, Bool.or_true, Bool.false_or, Bool.or_false, if_true, ite_true, reduceIte]; done))
           | (refine And.intro trivial (AVle.of_eq (congrArg AV.bool ?_)); focus (simp_all [atTier]; intros; omega))
           | (refine And.intro trivial (AVle.of_eq (congrArg AV.bool ?_)); focus (simp only [cond_true, cond_false, Bool.not_eq_true', Bool.not_eq_false'] at *; simp only [atTier, *, cond_true, cond_false, Bool.true_and, Bool.and_true, Bool.false_and, Bool.and_false, Bool.not_true, Bool.not_false, Bool.true_or, Bool.or_true, Bool.false_or, Bool.or_false, if_true, ite_true, reduceIte]; done))
           | fail)
theorem ReaderOK_fn (r : Rr) (h : r.left.length ≤ 1048576) : VFn Tryz.prog 51 [r.av] (.bool r.ok) := by
 refine VFn.introC Tryz.call51 Tryz.func51 rfl rfl ?_
 repeat' (conv => whnf
          first
           | (refine Grd.intro (fun h => ?_) (fun h => ?_); rotate_left; focus (exfalso; simp_all; done))
           | (refine Grd.intro (fun h => ?_) (fun h => ?_); focus (exfalso; simp_all; done))
           | refine Grd.intro (fun h => ?_) (fun h => ?_)
           | (refine CallC.sca _ (isId0 r.id) ?_ ?_; focus (exact rfl))
           | (refine CallC.sca _ (within_fn r.ph 0 4) ?_ ?_; focus (exact rfl))
           | (refine CallC.sca _ (isTier_fn r.tier) ?_ ?_; focus (exact rfl))
           | (refine CallC.sca _ (isRange_fn r.f r.t) ?_ ?_; focus (exact rfl))
           | (refine CallC.sca _ (isUntil0 r.til) ?_ ?_; focus (exact rfl))
           | (refine CallC.sca _ (isCode0 r.code) ?_ ?_; focus (exact rfl))
           | (refine CallC.sca _ (isGot_fn r.got) ?_ ?_; focus (exact rfl))
           | (refine CallC.sca _ (allEnC_fn r.left (by omega) 108 r.row (atTier r.tier) (fun e _ => ReaderOK1_fn e r)) ?_ ?_; focus (exact rfl))
           | (refine And.intro trivial (AVle.of_eq (congrArg AV.bool ?_)); focus (simp_all [Rr.ok, -List.all_eq_true, -List.all_eq_false]; done))
           | (refine And.intro trivial (AVle.of_eq (congrArg AV.bool ?_)); focus (simp only [Rr.ok, *, cond_true, cond_false, Bool.true_and, Bool.and_true, Bool.false_and, Bool.and_false, Bool.not_true, Bool.not_false, Bool.true_or, Bool.or_true, Bool.false_or, Bool.or_false, if_true, ite_true, reduceIte]; done))
           | (refine And.intro trivial (AVle.of_eq (congrArg AV.bool ?_)); focus (simp_all [Rr.ok, -List.all_eq_true, -List.all_eq_false]; intros; omega))
           | (refine And.intro trivial (AVle.of_eq (congrArg AV.bool ?_)); focus (simp only [cond_true, cond_false, Bool.not_eq_true', Bool.not_eq_false'] at *; simp only [Rr.ok, *, cond_true, cond_false, Bool.true_and, Bool.and_true, Bool.false_and, Bool.and_false, Bool.not_true, Bool.not_false, Bool.true_or, Bool.or_true, Bool.false_or, Bool.or_false, if_true, ite_true, reduceIte]; done))
           | fail)
theorem tick_staOK {s : Sta} (h : StaOK s) (hq : s.seq < 999999) : StaOK s.tick :=
 ⟨by have := h.q; exact ⟨show 0 ≤ s.seq + 1 by omega, show s.seq + 1 ≤ 999999 by omega⟩, h.f, h.len, h.es, fun t ht => by have := h.ts t ht; exact ⟨this.1, this.2.1, show t.seq ≤ s.seq + 1 by omega⟩, h.nd, h.lo, h.runs⟩
theorem logN_staOK (x : Sto) : ∀ n : Nat, n ≤ 400 → StaOK (logN x n)
 | 0, _ => staOK0
 | n + 1, hn => by
   have ih := logN_staOK x n (by omega)
   have hs := logN_seq x n
   have hl := logN_len x n
   show StaOK (stepL x (logN x n))
   unfold stepL
   split
   · exact tick_staOK ih (by omega)
   · rename_i r hr
     exact app_staOK ih (readR_ok hr) (by omega) (by omega)
theorem logS_ok (x : Sto) : (logS x).ok = true := (staOK_iff _).2 (logN_staOK x _ (log_b x).2.1)
end Go.Proofs.YtnplgeogieoioaaGreatDoor
