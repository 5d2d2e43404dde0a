/- Stores: a key taken out: contracts; the conditions are the theorems' own. -/
import Derived.Test.YtgiaaaejobhngaaGreatDoorQ7
import Derived.Test.YtgiaaaejobhngaaGreatDoorQ3
set_option linter.unusedVariables false
set_option linter.constructorNameAsVariable false
set_option linter.unusedSimpArgs false
set_option maxRecDepth 20000
namespace Go.Proofs.YtgiaaaejobhngaaGreatDoor
open Go Go.Vw

theorem IndexOb_1 (L : List Ob) (hL : L.length ≤ 9223372036854775807) (F : Nat) (row : List AV) (p : Ob → Bool) (hp : ∀ e ∈ L, VFn Tryz.prog F [e.av, .eptr row 0] (.bool (p e))) :
    VFn Tryz.prog 253 [obs L, .fn (.func F) [] [.eptr row 0]] (.int .i64 (fi p L)) := by
  refine VFn.introC Tryz.call253 Tryz.func253 rfl rfl ?_
  refine LoopC.mk (fun i : Nat => i ≤ L.length ∧ ∀ j, j < i → p (ix L j) = false) (fun i => [(0, obs L), (1, .fn (.func F) [] [.eptr row 0]), (7, .int .i64 L.length), (8, .int .i64 i)]) (fun _ => []) 0 (fun i => L.length - i) 0
    ⟨⟨Nat.zero_le _, fun j hj => absurd hj (Nat.not_lt_zero j)⟩, [], rfl, rfl, ⟨AVle.refl _, AVle.refl _, AVle.refl _, AVle.refl _, trivial⟩, trivial⟩ ?_
  intro i hi
  refine Grd.intro (fun h2 => ?_) (fun h2 => ?_)
  · have hin : i < L.length := by have := of_decide_eq_true h2; omega
    refine And.intro (by omega) ?_
    conv => whnf
    refine CallC.sca _ (hp (ix L i) (getD_mem hin)) ?_ ?_
    · exact rfl
    refine Grd.intro (fun h3 => ?_) (fun h3 => ?_)
    · exact And.intro trivial (AVle.of_eq (congrArg (AV.int .i64) (fi_at hin hi.2 h3).symm))
    · refine And.intro (inI64 (by omega) (by omega)) ?_
      exact ⟨i + 1, ⟨hin, fun j hj => by
        rcases Nat.lt_or_ge j i with h' | h'
        · exact hi.2 j h'
        · rw [show j = i by omega]; exact h3⟩, by omega, [], rfl, rfl, ⟨AVle.refl _, AVle.refl _, AVle.refl _, AVle.of_eq (congrArg (AV.int .i64) (by simp)), trivial⟩, trivial⟩
  · have : i = L.length := by have := of_decide_eq_false h2; omega
    subst this
    exact And.intro trivial (AVle.of_eq (congrArg (AV.int .i64) (fi_none hi.2).symm))
theorem DelOb_some (L : List Ob) (hL : L.length ≤ 1000000) (F : Nat) (row : List AV) (p : Ob → Bool) (hp : ∀ e ∈ L, VFn Tryz.prog F [e.av, .eptr row 0] (.bool (p e))) (hs : L.any p = true) :
    FnM Tryz.prog 229 1 [.osl 0, .fn (.func F) [] [.eptr row 0]] [(0, .arr 98 3 L.length fun i => (ix L i).row)] (.osl 1) [(1, .arr 98 3 (L.filter fun e => !p e).length fun i => (ix (L.filter fun e => !p e) i).row)] 2 := by
  have c := IndexOb_1 L (by omega) F row p hp
  obtain ⟨i0, hi0, hfi, hp0⟩ : ∃ i0 : Nat, i0 < L.length ∧ fi p L = (i0 : Int) ∧ p (ix L i0) = true ∧ ∀ j, j < i0 → p (ix L j) = false := by
    rcases fi_first p L with ⟨h, _⟩ | h
    · have := fi_any (p := p) (L := L)
      rw [h, hs] at this; simp at this
    · exact h
  rw [hfi] at c
  have hk0 : (L.take (i0 + 1)).filter (fun e => !p e) = L.take i0 := by
    rw [filter_snoc hi0, if_neg (by rw [hp0.1]; simp)]
    exact List.filter_eq_self.2 fun x hx => by
      obtain ⟨j, hj, rfl⟩ := List.getElem_of_mem hx
      have hj' : j < i0 := by simp at hj; omega
      have := hp0.2 j hj'
      rw [ix_lt (by omega)] at this
      simp [this]
  have hlt : ∀ j, i0 < j → j ≤ L.length → ((L.take j).filter fun e => !p e).length < j := fun j h1 h2 => filter_lt h1 h2 (by rw [hp0.1]; rfl)
  refine FnM.introC Tryz.call229 Tryz.func229 rfl rfl ?_
  conv => whnf
  refine CallC.sca _ (c) ?_ ?_
  · exact rfl
  refine And.intro (inI64 (by omega) (by omega)) ?_
  refine LoopC.mk (fun j : Nat => i0 < j ∧ j ≤ L.length) (fun j => [(0, .osl 0), (1, .fn (.func F) [] [.eptr row 0]), (5, .int .i64 ((L.take j).filter fun e => !p e).length), (6, .int .i64 j)])
    (fun j => [(0, .arr 98 3 L.length fun i => (ix (kept p L j) i).row)]) 1 (fun j => L.length - j) (i0 + 1)
    ⟨⟨by omega, hi0⟩, [(0, 0)], rfl, rfl, ⟨AVle.refl _, AVle.refl _, AVle.of_eq (congrArg (AV.int .i64) (by rw [hk0]; simp; omega)), AVle.of_eq (congrArg (AV.int .i64) (by simp)), trivial⟩, ⟨MOle.arr rfl fun i hi => by
      have e : kept p L (i0 + 1) = L := by unfold kept; rw [hk0]; simp only [List.length_take]; rw [Nat.min_eq_left (by omega)]; simp
      rw [e], trivial⟩⟩ ?_
  intro j hj
  obtain ⟨hj1, hj2⟩ := hj
  have hkl := hlt j hj1 hj2
  refine Grd.intro (fun h2 => ?_) (fun h2 => ?_)
  · have hjn : j < L.length := by have := of_decide_eq_true h2; omega
    have hsn := filter_snoc (p := fun e => !p e) hjn
    have e := kept_at (p := p) hjn (Nat.le_of_lt hkl)
    have cp := hp (ix L j) (getD_mem hjn)
    rw [← e] at cp
    refine And.intro (by omega) ?_
    conv => whnf
    refine CallC.sca _ (cp) ?_ ?_
    · exact rfl
    refine Grd.intro (fun h3 => ?_) (fun h3 => ?_)
    · have h3 : p (ix L j) = false := by rw [e] at h3; simpa using h3
      rw [h3] at hsn
      have hl := hlt (j + 1) (by omega) hjn
      rw [hsn] at hl
      simp at hl
      refine And.intro (by omega) ?_
      refine And.intro (inI64 (by omega) (by omega)) ?_
      refine And.intro (inI64 (by omega) (by omega)) ?_
      refine ⟨j + 1, ⟨by omega, hjn⟩, by omega, [(0, 0)], rfl, rfl, ⟨AVle.refl _, AVle.refl _, AVle.of_eq (congrArg (AV.int .i64) (by rw [hsn]; simp)), AVle.of_eq (congrArg (AV.int .i64) (by simp)), trivial⟩, ⟨MOle.arr rfl fun k hk => ?_, trivial⟩⟩
      have en := kept_next hjn h3 hkl k hk
      by_cases hkc : k = ((L.take j).filter fun e => !p e).length
      · rw [en, if_pos hkc, ← e]
        show (bif Nat.beq k ((L.take j).filter fun e => !p e).length then _ else _) = _
        rw [hkc, beq_t]; rfl
      · rw [en, if_neg hkc]
        show (bif Nat.beq k ((L.take j).filter fun e => !p e).length then _ else _) = _
        rw [beq_f hkc]; rfl
    · have h3 : p (ix L j) = true := by rw [e] at h3; simpa using h3
      rw [h3] at hsn
      refine And.intro (inI64 (by omega) (by omega)) ?_
      refine ⟨j + 1, ⟨by omega, hjn⟩, by omega, [(0, 0)], rfl, rfl, ⟨AVle.refl _, AVle.refl _, AVle.of_eq (congrArg (AV.int .i64) (by rw [hsn]; simp)), AVle.of_eq (congrArg (AV.int .i64) (by simp)), trivial⟩, ⟨MOle.arr rfl fun k hk => ?_, trivial⟩⟩
      have e2 : kept p L (j + 1) = kept p L j := by unfold kept; rw [hsn]; simp
      rw [e2]
  · have : j = L.length := by have := of_decide_eq_false h2; omega
    subst this
    have eT : L.take L.length = L := List.take_of_length_le (Nat.le_refl _)
    obtain ⟨c, hc⟩ : ∃ c, c = ((L.take L.length).filter fun e => !p e).length := ⟨_, rfl⟩
    have hk : ∀ k, k < c → ix (kept p L L.length) k = ix (L.filter fun e => !p e) k := fun k hk => by
      unfold kept
      rw [ix_app_l (by omega), eT]
    have hcl : c = (L.filter fun e => !p e).length := by rw [hc, eT]
    rw [← hc] at hkl
    rw [← hc]
    refine And.intro ⟨by omega, by omega⟩ ?_
    conv => whnf
    refine OpC.clear rfl rfl rfl rfl rfl rfl rfl (by show 1 ≤ L.length - ((c : Int)).toNat; omega) ?_
    conv => whnf
    refine OpC.head rfl rfl rfl rfl rfl rfl rfl ⟨by omega, by omega⟩ ?_
    refine And.intro trivial ⟨[(0, 0), (1, 1)], rfl, AVle.refl _, ⟨MOle.arr (by show ((c : Int)).toNat = _; omega) fun k hk' => ?_, trivial⟩⟩
    have hk' : k < c := by have : k < ((c : Int)).toNat := hk'; omega
    rw [← hk k hk']
    show (bif Nat.blt k ((c : Int)).toNat then _ else _) = _
    rw [blt_t (show k < ((c : Int)).toNat by omega)]; rfl
theorem has_of_mem {x : Sto} (hs : x.ok = true) {k : List UInt8} (h : k ∈ x.os.map (·.key)) : x.has k = true := by
  obtain ⟨o, ho, rfl⟩ := List.mem_map.1 h
  have h1 := Srt.fi (Sto.srt hs) o.key
  have h2 := fi_any (p := fun q : Ob => decide (q.key = o.key)) (L := x.os)
  rw [List.any_eq_true.2 ⟨o, ho, decide_eq_true rfl⟩, h1] at h2
  cases hh : hasK o.key x.os with
  | true => exact hh
  | false => rw [hh] at h2; simp at h2
theorem without1_fn (o : Ob) (k : List UInt8) : VFn Tryz.prog 230 [o.av, .eptr [.str (B k)] 0] (.bool (decide (o.key = k))) := by
  refine VFn.introC Tryz.call230 Tryz.func230 rfl rfl ?_
  exact And.intro trivial (AVle.of_eq (congrArg AV.bool (show ((B o.key).toList == (B k).toList) = _ from B_eq)))
theorem without_own (x : Sto) (hs : x.ok = true) (k : List UInt8) (hk : x.has k = true) : FnM Tryz.prog 176 0 [x.av, .str (B k)] [] (wo x k).own [(0, .arr 98 3 (wo x k).os.length fun i => (ix (wo x k).os i).row)] 1 := by
  have hL := (Sto.ok_at hs).2.1
  have hany : x.os.any (fun o => decide (o.key = k)) = true := by
    obtain ⟨h1, h2⟩ := hasK_at hk
    exact List.any_eq_true.2 ⟨_, getD_mem h1, decide_eq_true h2⟩
  have hd := DelOb_some x.os (by omega) 230 [.str (B k)] (fun o => decide (o.key = k)) (fun o _ => without1_fn o k) hany
  refine FnM.introC Tryz.call176 Tryz.func176 rfl rfl ?_
  conv => whnf
  refine CallC.k [] (copied_own x (by omega)) rfl rfl (AVsle.refl _) trivial rfl ?_
  conv => whnf
  refine CallC.m [(3, 0)] hd rfl rfl (AVsle.refl _) ⟨MOle.refl _, trivial⟩ rfl ⟨fun i hi => rfl, trivial⟩ rfl ?_
  exact And.intro trivial ⟨[(5, 0)], rfl, AVle.refl _, ⟨MOle.refl _, trivial⟩⟩
theorem without_fn (x : Sto) (hs : x.ok = true) (k : List UInt8) (hk : x.has k = true) : VFn Tryz.prog 176 [x.av, .str (B k)] (wo x k).av := (without_own x hs k hk).vfn
theorem cut_rows' {α : Type} [Inhabited α] {f : α → List AV} {L : List α} {i q : Nat} (hi : i < L.length) (hq : q = i + 1) {M : List α} (hM : L.take i ++ L.drop (i + 1) = M) {r0 : Nat → List AV} {n1 : Nat} (hn : n1 = i) :
    ∀ j, j < M.length → appRows n1 (appRows 0 r0 fun j => f (ix L j)) (fun j => f (ix L (q + j))) j = f (ix M j) := by
  subst hM hq hn
  refine app_rows (f := f) (by simp; omega) (fun j hj => ?_) fun j hj => ?_
  · rw [appRows_ge (Nat.zero_le _), Nat.sub_zero, ix_take (by simp at hj; omega)]
  · rw [ix_drop]
theorem l01Delete_fn (x : Sto) (hs : x.ok = true) (k : List UInt8) (hk : x.has k = true) : VFn Tryz.prog 142 [x.av, .str (B k), .int .i64 (x.get k).ver] (.tup [(wo x k).av, .int .i64 0]) := by
  have hL := (Sto.ok_at hs).2.1
  have c := l01Find_fn x (by omega) k
  rw [Srt.fi (Sto.srt hs) k, if_pos (show hasK k x.os = true from hk)] at c
  obtain ⟨h1, h2⟩ := hasK_at hk
  have hcut := wo_cut hs hk
  have hlen : (wo x k).os.length = lb k x.os + (x.os.length - (lb k x.os + 1)) := by rw [← hcut]; unfold Sto.pos; simp; omega
  refine VFn.introC Tryz.call142 Tryz.func142 rfl rfl ?_
  conv => whnf
  refine CallC.sca _ (c) ?_ ?_
  · exact rfl
  refine And.intro ⟨by omega, by omega⟩ ?_
  refine Grd.intro (fun h => (wyes' h (decide_eq_true rfl)).elim) (fun _ => ?_)
  refine DrawC.mkK 11 [(.inr 0, 5)] rfl (by kernel_rfl) ?_
  refine And.intro rfl ?_
  conv => whnf
  refine And.intro ⟨by omega, by omega⟩ ?_
  conv => whnf
  refine And.intro ⟨show (0 + ((lb k x.os : Nat) : Int).toNat) * 40 ≤ 140737488355328 by omega, fun i hi => rfl⟩ ?_
  conv => whnf
  refine And.intro (inI64 (by omega) (by omega)) ?_
  conv => whnf
  refine And.intro ⟨by omega, by omega⟩ ?_
  conv => whnf
  refine And.intro ⟨show (0 + ((lb k x.os : Nat) : Int).toNat + (x.os.length - (((lb k x.os : Nat) : Int) + 1).toNat)) * 40 ≤ 140737488355328 by omega, fun i hi => rfl⟩ ?_
  refine And.intro trivial (AVle.tup (AVsle.cons (AVle.agg (AVsle.cons (AVle.sl (show 0 + ((lb k x.os : Nat) : Int).toNat + (x.os.length - (((lb k x.os : Nat) : Int) + 1).toNat) = _ by omega) fun j hj => cut_rows' (f := Ob.row) h1 (show (((lb k x.os : Nat) : Int) + 1).toNat = lb k x.os + 1 by omega) hcut (show 0 + ((lb k x.os : Nat) : Int).toNat = lb k x.os by omega) j (by have hj' : j < 0 + ((lb k x.os : Nat) : Int).toNat + (x.os.length - (((lb k x.os : Nat) : Int) + 1).toNat) := hj; omega)) (AVsle.refl _))) (AVsle.refl _)))
end Go.Proofs.YtgiaaaejobhngaaGreatDoor
