/- Contracts of functions that the claim reaches, and the plain law of what they compute; each theorem bears its own conditions. -/
import Derived.Test.YtfaffgneccjpbaaGreatDoorQ2
import Derived.Test.YtfaffgneccjpbaaGreatDoorQ1
import Derived.Test.YtfaffgneccjpbaaGreatDoorV50
set_option linter.unusedVariables false
set_option linter.constructorNameAsVariable false
set_option linter.unusedSimpArgs false
set_option maxRecDepth 20000
namespace Go.Proofs.YtfaffgneccjpbaaGreatDoor
open Go Go.Vw

structure StoOK (s : Sto) : Prop where
  nx : 1 ≤ s.next ∧ s.next ≤ 1000000000
  len : s.os.length ≤ 300
  el : ∀ o ∈ s.os, keyOK o.key = true ∧ (1 ≤ o.ver ∧ o.ver ≤ s.next - 1) ∧ o.data.length ≤ 600
  vs : (s.os.map (·.ver)).Nodup
  ks : s.os.Pairwise fun a b => a.key < b.key
theorem pw_srt {L : List Ob} : (L.Pairwise fun a b => a.key < b.key) ↔ Srt L := by
  constructor
  · intro h i hi
    have := List.pairwise_iff_getElem.1 h i (i + 1) (by omega) hi (by omega)
    rw [ix_lt (by omega), ix_lt hi]; exact this
  · intro h
    refine List.pairwise_iff_getElem.2 fun i j hi hj hij => ?_
    have := h.lt hij hj
    rw [ix_lt hi, ix_lt hj] at this; exact this
theorem nodup_take {L : List Int} : L.Nodup ↔ ∀ i, i < L.length → ix L i ∉ L.take i := by
  constructor
  · intro h i hi hm
    obtain ⟨j, hj, e⟩ := List.getElem_of_mem hm
    have hj' : j < i := by simp at hj; omega
    have := List.pairwise_iff_getElem.1 h j i (by omega) hi hj'
    rw [ix_lt hi] at e
    simp at e
    exact this e
  · intro h
    refine List.pairwise_iff_getElem.2 fun i j hi hj hij e => ?_
    refine h j hj ?_
    rw [ix_lt hj, ← e]
    exact List.mem_take_iff_getElem.2 ⟨i, by omega, rfl⟩
theorem stoOK_iff (s : Sto) : s.ok = true ↔ StoOK s := by
  have hv : ∀ i, i < s.os.length → ix (s.os.map (·.ver)) i = (ix s.os i).ver := fun i hi => by rw [ix_lt (by simpa using hi), ix_lt hi, List.getElem_map]
  constructor
  · intro h
    obtain ⟨h1, h2, h3⟩ := Sto.ok_at h
    have h3' : ∀ i, i < s.os.length → keyOK (ix s.os i).key = true ∧ (1 ≤ (ix s.os i).ver ∧ (ix s.os i).ver ≤ s.next - 1) ∧ (ix s.os i).data.length ≤ 600 ∧ (ix s.os i).ver ∉ (s.os.take i).map (·.ver) := fun i hi => by
      have := h3 i hi
      simp only [Sto.eOK, Bool.and_eq_true, decide_eq_true_eq, within, Bool.not_eq_true', decide_eq_false_iff_not] at this
      exact ⟨this.1, this.2.1, this.2.2.1, this.2.2.2.1⟩
    refine ⟨by simpa [within] using h1, h2, fun o ho => ?_, nodup_take.2 fun i hi => ?_, pw_srt.2 (Sto.srt h)⟩
    · obtain ⟨i, hi, rfl⟩ := List.getElem_of_mem ho
      have := h3' i hi
      rw [ix_lt hi] at this
      exact ⟨this.1, this.2.1, this.2.2.1⟩
    · have hi' : i < s.os.length := by simpa using hi
      rw [hv i hi', ← List.map_take]
      exact (h3' i hi').2.2.2
  · rintro ⟨h1, h2, h3, h4, h5⟩
    refine Sto.ok_yes (by simpa [within] using h1) h2 fun i hi => ?_
    have h6 := h3 (ix s.os i) (getD_mem hi)
    have h7 := nodup_take.1 h4 i (by simpa using hi)
    rw [hv i hi, ← List.map_take] at h7
    have h8 : i = 0 ∨ (ix s.os (i - 1)).key < (ix s.os i).key := by
      rcases Nat.eq_zero_or_pos i with h | h
      · exact .inl h
      · have := pw_srt.1 h5 (i - 1) (by omega)
        rw [show i - 1 + 1 = i by omega] at this
        exact .inr this
    simp only [Sto.eOK, Bool.and_eq_true, decide_eq_true_eq, within, Bool.not_eq_true', decide_eq_false_iff_not, Bool.or_eq_true]
    exact ⟨h6.1, h6.2.1, h6.2.2, h7, h8⟩
theorem lb_take {k : List UInt8} {L : List Ob} : ∀ o ∈ L.take (lb k L), o.key < k := fun o ho => by
  obtain ⟨j, hj, rfl⟩ := List.getElem_of_mem ho
  have hj' : j < lb k L := by simp at hj; omega
  have hl := lb_le k L
  have := lb_lt hj'
  rw [ix_lt (by omega)] at this
  simpa using this
theorem lb_drop {k : List UInt8} {L : List Ob} (h : Srt L) : ∀ o ∈ L.drop (if hasK k L = true then lb k L + 1 else lb k L), k < o.key := fun o ho => by
  obtain ⟨j, hj, rfl⟩ := List.getElem_of_mem ho
  rw [List.getElem_drop]
  split at hj <;> rename_i hk
  all_goals (rw [List.length_drop] at hj)
  · obtain ⟨h1, h2⟩ := hasK_at hk
    have := h.lt (i := lb k L) (j := lb k L + 1 + j) (by omega) (by omega)
    rw [h2, ix_lt (by omega)] at this
    simp only [if_pos hk]; exact this
  · have h1 := h.ge (k := k) (j := lb k L + j) (by omega) (by omega)
    have h2 : (ix L (lb k L + j)).key ≠ k := fun e => by
      rcases Nat.eq_zero_or_pos j with h0 | h0
      · subst h0
        apply hk
        unfold hasK
        rw [decide_eq_true (by omega : lb k L < L.length), decide_eq_true (by simpa using e)]; rfl
      · have h3 := h.lt (i := lb k L) (j := lb k L + j) (by omega) (by omega)
        rw [e] at h3
        exact lb_ge (by omega) h3
    have := lt_tri h1 h2
    rw [ix_lt (by omega)] at this
    simp only [if_neg hk]; exact this
/-- room for it -/
theorem room_ok {s : Sto} {k d : List UInt8} (h : s.room k d = 0) : d.length ≤ 600 ∧ (s.has k = false → s.os.length ≠ 300) ∧ s.next ≠ 1000000000 := by
  unfold Sto.room at h
  split at h
  · cases h
  · split at h
    · cases h
    · rename_i h1 h2
      simp only [Bool.or_eq_true, Bool.and_eq_true, Bool.not_eq_true', decide_eq_true_eq, not_or, not_and] at h2
      exact ⟨by omega, h2.1, h2.2⟩
theorem room_yes {s : Sto} {k d : List UInt8} (h1 : d.length ≤ 600) (h2 : s.os.length < 300) (h3 : s.next < 1000000000) : s.room k d = 0 := by
  unfold Sto.room
  rw [if_neg (by omega), if_neg (by simp only [Bool.or_eq_true, Bool.and_eq_true, decide_eq_true_eq]; omega)]
theorem set_ok {s : Sto} (hs : s.ok = true) {k d : List UInt8} (hk : keyOK k = true) (hr : s.room k d = 0) : (s.set k d).ok = true := by
  have h := (stoOK_iff s).1 hs
  have hsr := Sto.srt hs
  obtain ⟨r1, r2, r3⟩ := room_ok hr
  have hl := s.set_len k d
  have e : (s.set k d).os = s.os.take (lb k s.os) ++ (⟨k, s.next, d⟩ :: s.os.drop (if hasK k s.os = true then lb k s.os + 1 else lb k s.os)) := rfl
  have hsub : ∀ q, lb k s.os ≤ q → (s.os.take (lb k s.os) ++ s.os.drop q).Sublist s.os := fun q hq => by
    have h1 : (s.os.drop q).Sublist (s.os.drop (lb k s.os)) := by
      obtain ⟨c, rfl⟩ : ∃ c, q = lb k s.os + c := ⟨q - lb k s.os, by omega⟩
      rw [← List.drop_drop]; exact List.drop_sublist _ _
    have := List.Sublist.append (List.Sublist.refl (s.os.take (lb k s.os))) h1
    rwa [List.take_append_drop] at this
  have hsub' := hsub (if hasK k s.os = true then lb k s.os + 1 else lb k s.os) (by split <;> omega)
  have hd := lb_drop (k := k) hsr
  have ht := lb_take (k := k) (L := s.os)
  generalize hq : (if hasK k s.os = true then lb k s.os + 1 else lb k s.os) = q at *
  refine (stoOK_iff _).2 ⟨by show 1 ≤ s.next + 1 ∧ s.next + 1 ≤ 1000000000; have := h.nx; omega, ?_, fun o ho => ?_, ?_, ?_⟩
  · rw [hl]
    have := h.len
    split
    · omega
    · rename_i hn
      have := r2 (by simpa using hn); omega
  · have hold : ∀ o ∈ s.os, keyOK o.key = true ∧ (1 ≤ o.ver ∧ o.ver ≤ s.next + 1 - 1) ∧ o.data.length ≤ 600 := fun o ho => by have := h.el o ho; exact ⟨this.1, ⟨this.2.1.1, by omega⟩, this.2.2⟩
    rw [e] at ho
    rcases List.mem_append.1 ho with ho | ho
    · exact hold o (List.mem_of_mem_take ho)
    · rcases List.mem_cons.1 ho with rfl | ho
      · exact ⟨hk, ⟨h.nx.1, by show s.next ≤ s.next + 1 - 1; omega⟩, r1⟩
      · exact hold o (List.mem_of_mem_drop ho)
  · rw [e, List.map_append, List.map_cons]
    have hn : ((s.os.take (lb k s.os) ++ s.os.drop q).map (·.ver)).Nodup := (hsub'.map _).nodup h.vs
    rw [List.map_append] at hn
    have h1 := List.nodup_append.1 hn
    have hne : ∀ o ∈ s.os, o.ver ≠ s.next := fun o ho => by have := (h.el o ho).2.1; omega
    refine List.nodup_append.2 ⟨h1.1, List.nodup_cons.2 ⟨fun hm => ?_, h1.2.1⟩, fun a ha b hb => ?_⟩
    · obtain ⟨o, ho, e⟩ := List.mem_map.1 hm
      exact hne o (List.mem_of_mem_drop ho) e
    · rcases List.mem_cons.1 hb with rfl | hb
      · obtain ⟨o, ho, rfl⟩ := List.mem_map.1 ha
        exact hne o (List.mem_of_mem_take ho)
      · exact h1.2.2 a ha b hb
  · rw [e]
    have hp : (s.os.take (lb k s.os) ++ s.os.drop q).Pairwise fun a b => a.key < b.key := h.ks.sublist hsub'
    have h1 := List.pairwise_append.1 hp
    refine List.pairwise_append.2 ⟨h1.1, List.pairwise_cons.2 ⟨hd, h1.2.1⟩, fun a ha b hb => ?_⟩
    rcases List.mem_cons.1 hb with rfl | hb
    · exact ht a ha
    · exact h1.2.2 a ha b hb
theorem lb_set (s : Sto) (k d : List UInt8) : lb k (s.set k d).os = lb k s.os := by
  have hl := lb_le k s.os
  have e : (s.set k d).os = s.os.take (lb k s.os) ++ (⟨k, s.next, d⟩ :: s.os.drop (if hasK k s.os = true then lb k s.os + 1 else lb k s.os)) := rfl
  rw [e]
  have key : ∀ (A B : List Ob), (∀ o ∈ A, o.key < k) → lb k (A ++ ⟨k, s.next, d⟩ :: B) = A.length := by
    intro A B
    induction A with
    | nil => intro _; show (if k < k then _ else 0) = 0; rw [if_neg (List.lt_irrefl _)]
    | cons x r ih =>
      intro h
      show (if x.key < k then lb k (r ++ _ :: B) + 1 else 0) = _
      rw [if_pos (h x (by simp)), ih fun o ho => h o (by simp [ho])]; rfl
  rw [key _ _ lb_take]
  simp; omega
theorem set_at (s : Sto) (k d : List UInt8) : (s.set k d).has k = true ∧ (s.set k d).get k = ⟨k, s.next, d⟩ := by
  have hl := lb_le k s.os
  have e : (s.set k d).os = s.os.take (lb k s.os) ++ (⟨k, s.next, d⟩ :: s.os.drop (if hasK k s.os = true then lb k s.os + 1 else lb k s.os)) := rfl
  have h1 := lb_set s k d
  have hlen : (s.os.take (lb k s.os)).length = lb k s.os := by simp; omega
  have h2 : ix (s.set k d).os (lb k s.os) = ⟨k, s.next, d⟩ := by
    rw [e, ix_app_r (by omega), hlen, Nat.sub_self]; rfl
  have h3 : lb k s.os < (s.set k d).os.length := by rw [e]; simp; omega
  refine ⟨?_, ?_⟩
  · unfold Sto.has hasK
    rw [h1, h2, decide_eq_true h3]; simp
  · unfold Sto.get Sto.pos
    rw [h1, h2]
theorem leaText_back {l : Lea} (h : l.ok = true) : readL l.text = some l := by
  have hb : ∀ n ∈ [l.tok, l.who, l.til], -999999999999999999 ≤ n ∧ n ≤ 999999999999999999 := by
    simp [Lea.ok, within] at h
    intro x hx
    simp at hx
    omega
  have := nums_back (c := 44) (by decide) (by decide) (N := [l.tok, l.who, l.til]) (by simp) hb
  unfold readL
  have e : l.text = Lib.join ([l.tok, l.who, l.til].map Lib.itoa) [44] := rfl
  rw [e, show (3 : Nat) = [l.tok, l.who, l.til].length from rfl, this]
  show (if Lea.ok ⟨l.tok, l.who, l.til⟩ = true then some (⟨l.tok, l.who, l.til⟩ : Lea) else none) = some l
  have h' : Lea.ok ⟨l.tok, l.who, l.til⟩ = true := h
  rw [if_pos h']
/-- a store without a key -/
def wo (x : Sto) (k : List UInt8) : Sto := ⟨x.os.filter fun o => !decide (o.key = k), x.next⟩
theorem wo_len (x : Sto) (k : List UInt8) : (wo x k).os.length ≤ x.os.length := List.length_filter_le _ _
theorem wo_ok {x : Sto} (hs : x.ok = true) (k : List UInt8) : (wo x k).ok = true := by
  have h := (stoOK_iff x).1 hs
  have hsub : (wo x k).os.Sublist x.os := List.filter_sublist
  exact (stoOK_iff _).2 ⟨h.nx, Nat.le_trans (wo_len x k) h.len, fun o ho => h.el o (hsub.subset ho), (hsub.map _).nodup h.vs, h.ks.sublist hsub⟩
end Go.Proofs.YtfaffgneccjpbaaGreatDoor
set_option linter.unusedVariables false
set_option linter.constructorNameAsVariable false
set_option linter.unusedSimpArgs false
set_option maxRecDepth 20000
namespace Go.Proofs.YtfaffgneccjpbaaGreatDoor
open Go Go.Vw

theorem alloc_new (w : World) (o : Obj) : (w.alloc o).heap[w.heap.size]? = some o ∧ (w.alloc o).heap.size = w.heap.size + 1 := by
  unfold World.alloc; simp
theorem SplitN_fn (l : List UInt8) (c : UInt8) (m : Nat) (hl : l.length < 4294967281) (hm : m ≤ 1000000) : VFn Tryz.prog 161 [.str (B l), .str (B [c]), .int .i64 ((m + 1 : Nat) : Int)] (txts (Lib.splitN l [c] (m + 1))) := by
  refine ⟨Tryz.call161, fun w ok vs hJ hok hv => ?_⟩
  obtain ⟨v, us, rfl, hv, v2, us2, rfl, hv2, v3, us3, rfl, hv3, hus⟩ := hv
  have e1 : v = .string (B l) := hv
  have e2 : v2 = .string (B [c]) := hv2
  have e3 : v3 = .int .i64 ((m + 1 : Nat) : Int) := hv3
  have e4 : us3 = [] := hus
  subst e1 e2 e3 e4
  obtain ⟨mv, hmv⟩ := tab_maxlen hJ
  have hd := Lib.splitB_data (B [c]) 0 (min (m + 1) ((B l).size + 1) - 1) (B l)
  have hle := Lib.splitB_length_le (B [c]) 0 (min (m + 1) ((B l).size + 1) - 1) (B l)
  refine (Tryz.strings_SplitN (B l) (B [c]) (m + 1) mv w (by rw [B_size]; exact hl) hmv (by rw [B_size]; exact Nat.le_refl 1) (by omega) (by omega)).mono ?_
  rintro e w' ⟨rfl, rfl⟩
  generalize Lib.splitB (B [c]) 0 (min (m + 1) ((B l).size + 1) - 1) (B l) = S at hd hle
  rw [B_data, B_data, B_size] at hd
  have hR : Lib.splitN l [c] (m + 1) = S.map (·.data.toList) := hd.symm
  have hlen : (Lib.splitN l [c] (m + 1)).length = S.length := by rw [hR]; simp
  have bel := (Go.RowKit.Below.refl w.heap.size w).alloc (Nat.le_refl _) (.cells (Lib.cellsOf S (min (m + 1) ((B l).size + 1))) 9)
  obtain ⟨hnew, hsz⟩ := alloc_new w (.cells (Lib.cellsOf S (min (m + 1) ((B l).size + 1))) 9)
  refine ⟨_, rfl, ⟨bel.os, bel.tape, bel.output, bel.size, fun b hb _ => bel.block b hb⟩, ?_⟩
  show RV _ _ G0 (.sl 1 (Lib.splitN l [c] (m + 1)).length fun i => [.str (B (ix (Lib.splitN l [c] (m + 1)) i))]) _
  rw [hlen]
  refine ⟨_, _, rfl, by omega, .inr ⟨w.heap.size, 0, rfl, .inr ⟨Nat.le_refl _, by rw [hsz]; omega⟩, fun i hi => ⟨[.string S[i]], rfl, ⟨_, _, rfl, ?_, rfl⟩, fun j hj => ?_⟩⟩⟩
  · show Value.string _ = Value.string _
    rw [hR, ix_lt (by simpa using hi)]
    simp [B]
  · have : j = 0 := by omega
    subst this
    rw [Nat.zero_add, Nat.mul_one, Nat.add_zero, cell_of_row _ _ _ _ _ _ hnew]
    simp [Lib.cellsOf, List.getElem?_append_left, hi]
theorem atoi_range (t : List UInt8) : -9223372036854775808 ≤ atoiV t ∧ atoiV t ≤ 9223372036854775807 := by
  rcases atoi_end t with ⟨_, h⟩ | ⟨_, h, e⟩ | ⟨_, h, e⟩
  · generalize atoiV t = v at h
    unfold Lib.atoiAll at h
    cases t with
    | nil => cases h
    | cons c r =>
      simp only at h
      split at h
      · cases h
      · cases h
      · split at h
        · cases h
        · split at h
          · cases h
          · injection h with h
            subst h
            split <;> omega
  · rw [e]; decide
  · rw [e]; unfold Lib.atoiSat; split <;> decide
theorem number_fn (t : List UInt8) (hl : t.length ≤ 281474976710656) : VFn Tryz.prog 111 [.str (B t)] (.tup [.int .i64 (atoiV t), .bool (numOk t)]) := by
  refine VFn.introC Tryz.call111 Tryz.func111 rfl rfl ?_
  by_cases ho : atoiOk t = true
  · conv => whnf
    refine CallC.sca _ (Atoi_ok t hl ho) ?_ ?_
    · exact rfl
    have hb := atoi_range t
    conv => whnf
    refine CallC.sca _ (Itoa_fn (atoiV t) hb.1 hb.2) ?_ ?_
    · exact rfl
    refine Grd.intro (fun h => ?_) (fun h => ?_)
    · have h : ((B (Lib.itoa (atoiV t))).toList == (B t).toList) = true := h
      rw [B_eq] at h
      conv => whnf
      refine CallC.sca _ (within_fn _ _ _) ?_ ?_
      · exact rfl
      refine And.intro trivial (AVle.of_eq (show AV.tup [.int .i64 (atoiV t), .bool (within (atoiV t) (-999999999999999999) 999999999999999999)] = _ from ?_))
      unfold numOk; rw [ho, h]; rfl
    · have h : ((B (Lib.itoa (atoiV t))).toList == (B t).toList) = false := h
      rw [B_eq] at h
      refine And.intro trivial (AVle.of_eq (show AV.tup [.int .i64 (atoiV t), .bool false] = _ from ?_))
      unfold numOk; rw [ho, h]; rfl
  · have ho : atoiOk t = false := by simpa using ho
    conv => whnf
    refine CallC.sca _ (Atoi_no t hl ho) ?_ ?_
    · exact rfl
    refine And.intro trivial (AVle.of_eq (show AV.tup [.int .i64 (atoiV t), .bool false] = _ from ?_))
    unfold numOk; rw [ho]; rfl
theorem cutP_piece (c : UInt8) : ∀ (l cur : List UInt8), ∀ x ∈ cutP c cur l, x.length ≤ cur.length + l.length
  | [], cur, x, hx => by simp [cutP] at hx; rw [hx]; simp
  | y :: r, cur, x, hx => by
    unfold cutP at hx
    split at hx
    · rcases List.mem_cons.1 hx with rfl | hx
      · simp
      · have := cutP_piece c r [] x hx; simp at this ⊢; omega
    · have := cutP_piece c r (cur ++ [y]) x hx; simp at this ⊢; omega
theorem numbers_gen (t : List UInt8) (c : UInt8) (m : Nat) (hl : t.length ≤ 1000000000) (hm : m ≤ 1000000) (R : AV) (hy : ∀ N, numsK c m t = some N → R = .tup [ints N, .bool true]) (hn : numsK c m t = none → R = .tup [.nilsl, .bool false]) :
    VFn Tryz.prog 136 [.str (B t), .str (B [c]), .int .i64 (m : Int)] R := by
  have hsl := splitN_len c t m
  refine VFn.introC Tryz.call136 Tryz.func136 rfl rfl ?_
  refine And.intro (inI64 (by omega) (by omega)) ?_
  conv => whnf
  refine CallC.nl _ (SplitN_fn t c m (by omega) hm) ?_ ?_
  · exact rfl
  refine Grd.intro (fun h1 => ?_) (fun h1 => ?_)
  · have h1 : ¬ (Lib.splitN t [c] (m + 1)).length = m := by
      have h : (!decide ((((Lib.splitN t [c] (m + 1)).length : Nat) : Int) = (m : Int))) = true := h1
      simp at h; omega
    rw [hn (by unfold numsK; rw [if_neg (fun h => h1 (hsl.2 h.1))])]
    exact And.intro trivial (AVle.refl _)
  have h1 : (Lib.splitN t [c] (m + 1)).length = m := by
    have h : (!decide ((((Lib.splitN t [c] (m + 1)).length : Nat) : Int) = (m : Int))) = false := h1
    simp at h; omega
  have hcm := hsl.1 h1
  rw [splitN_eq c t m hcm]
  have hcl := cutP_len c t []
  have hpl : ∀ x ∈ cutP c [] t, x.length ≤ t.length := fun x hx => by have := cutP_piece c t [] x hx; simpa using this
  obtain ⟨P, hP⟩ : ∃ P, P = cutP c [] t := ⟨_, rfl⟩
  rw [← hP]
  rw [← hP] at hcm hcl hpl
  have hK : numsK c m t = if P.all numOk = true then some (P.map atoiV) else none := by
    unfold numsK; rw [← hP]
    by_cases h : P.all numOk = true
    · rw [if_pos ⟨hcm, h⟩, if_pos h]
    · rw [if_neg (fun q => h q.2), if_neg h]
  refine LoopC.mk (fun i : Nat => i ≤ P.length ∧ ∀ j, j < i → numOk (ix P j) = true) (fun i => [(9, .osl 0), (24, txts P), (25, .int .i64 P.length), (26, .int .i64 i)])
    (fun i => [(0, .arr 3 1 ((P.take i).map atoiV).length fun j => [.int .i64 (ix ((P.take i).map atoiV) j)])]) 1 (fun i => P.length - i) 0
    ⟨⟨Nat.zero_le _, fun j hj => absurd hj (Nat.not_lt_zero j)⟩, [(0, 0)], rfl, rfl, ⟨AVle.refl _, AVle.refl _, AVle.refl _, AVle.refl _, trivial⟩, ⟨MOle.arr rfl fun i hi => absurd hi (Nat.not_lt_zero i), trivial⟩⟩ ?_
  intro i hi
  obtain ⟨hi, hall⟩ := hi
  refine Grd.intro (fun h2 => ?_) (fun h2 => ?_)
  · have hin : i < P.length := by have := of_decide_eq_true h2; omega
    refine And.intro (by omega) ?_
    conv => whnf
    refine CallC.sca _ (number_fn (ix P i) (by have := hpl _ (getD_mem hin); omega)) ?_ ?_
    · exact rfl
    refine Grd.intro (fun h3 => ?_) (fun h3 => ?_)
    · have h3 : numOk (ix P i) = false := by simpa using (show (!numOk (ix P i)) = true from h3)
      have : ¬ P.all numOk = true := fun h => by rw [List.all_eq_true.1 h _ (getD_mem hin)] at h3; cases h3
      rw [hn (by rw [hK, if_neg this])]
      exact And.intro trivial (AVle.refl _)
    have h3 : numOk (ix P i) = true := by simpa using (show (!numOk (ix P i)) = false from h3)
    refine And.intro ⟨show (((P.take i).map atoiV).length + 1) * 8 ≤ 140737488355328 by simp; omega, all1 rfl⟩ ?_
    refine And.intro (inI64 (by omega) (by omega)) ?_
    refine ⟨i + 1, ⟨hin, fun j hj => ?_⟩, by omega, [(2, 0)], rfl, rfl, ⟨AVle.refl _, AVle.refl _, AVle.refl _, AVle.of_eq (congrArg (AV.int .i64) (by simp)), trivial⟩, ⟨arr_next (f := fun x => [.int .i64 x]) (map_take_snoc hin) rfl, trivial⟩⟩
    rcases Nat.lt_or_ge j i with h' | h'
    · exact hall j h'
    · rw [show j = i by omega]; exact h3
  · have : i = P.length := by have := of_decide_eq_false h2; omega
    subst this
    have e : P.take P.length = P := List.take_of_length_le (Nat.le_refl _)
    have hA : P.all numOk = true := List.all_eq_true.2 fun x hx => by
      obtain ⟨j, hj, q⟩ := List.getElem_of_mem hx
      have := hall j hj
      rw [ix_lt hj, q] at this; exact this
    rw [hy _ (by rw [hK, if_pos hA]), e]
    exact And.intro trivial (AVle.refl _)
theorem numbers_yes (t : List UInt8) (c : UInt8) (m : Nat) (hl : t.length ≤ 1000000000) (hm : m ≤ 1000000) {N : List Int} (h : numsK c m t = some N) : VFn Tryz.prog 136 [.str (B t), .str (B [c]), .int .i64 (m : Int)] (.tup [ints N, .bool true]) :=
  numbers_gen t c m hl hm _ (fun N' h' => by rw [h] at h'; cases h'; rfl) (fun h' => by rw [h] at h'; cases h')
theorem numbers_no (t : List UInt8) (c : UInt8) (m : Nat) (hl : t.length ≤ 1000000000) (hm : m ≤ 1000000) (h : numsK c m t = none) : VFn Tryz.prog 136 [.str (B t), .str (B [c]), .int .i64 (m : Int)] (.tup [.nilsl, .bool false]) :=
  numbers_gen t c m hl hm _ (fun N' h' => by rw [h] at h'; cases h') (fun h' => rfl)
end Go.Proofs.YtfaffgneccjpbaaGreatDoor
set_option linter.unusedVariables false
set_option linter.constructorNameAsVariable false
set_option linter.unusedSimpArgs false
set_option maxRecDepth 20000
namespace Go.Proofs.YtfaffgneccjpbaaGreatDoor
open Go Go.Vw

theorem B_nil (a : List UInt8) : ((B a).toList == (ByteArray.mk #[]).toList) = decide (a = []) := B_eq (b := [])
theorem B_isEmpty (a : List UInt8) : (B a).toList.isEmpty = decide (a = []) := by rw [B_toList]; cases a <;> simp
structure En where
  tier : Int
  f : Int
  t : Int
  key : List UInt8
  deriving Inhabited, DecidableEq
def En.row (e : En) : List AV := [.int .i64 e.tier, .int .i64 e.f, .int .i64 e.t, .str (B e.key)]
def En.av (e : En) : AV := .agg e.row
def En.ok (e : En) : Bool := kOk e.key && (decide (kT e.key = e.tier) && (isRange e.f e.t && decide (e.f < e.t)))
structure Rc where
  k : Int
  tok : Int
  tier : Int
  f : Int
  t : Int
  key : List UInt8
  deriving Inhabited, DecidableEq
def Rc.row (r : Rc) : List AV := [.int .i64 r.k, .int .i64 r.tok, .int .i64 r.tier, .int .i64 r.f, .int .i64 r.t, .str (B r.key)]
def Rc.av (r : Rc) : AV := .agg r.row
@[reducible] def Rc.en (r : Rc) : En := ⟨r.tier, r.f, r.t, r.key⟩
def Rc.bare (r : Rc) : Bool := decide (r.tier = 0) && (decide (r.f = 0) && decide (r.t = 0))
def Rc.ok (r : Rc) : Bool :=
  if r.k = 1 then decide (r.tok = 0) && (decide (r.tier = 0) && r.en.ok)
  else if r.k = 2 then within r.tok 1 999999 && (r.bare && decide (r.key = []))
  else if r.k = 3 then within r.tok 1 999999 && (decide (0 < r.tier) && r.en.ok)
  else if r.k = 4 then within r.tok 1 999999 && r.en.ok
  else if r.k = 5 then decide (r.tok = 0) && (r.bare && kOk r.key)
  else false
theorem entryOK_fn (e : En) : VFn Tryz.prog 49 [e.av] (.bool e.ok) := by
  refine VFn.introC Tryz.call49 Tryz.func49 rfl rfl ?_
  conv => whnf
  refine CallC.sca _ (readDataKey_fn e.key) ?_ ?_
  · exact rfl
  repeat' (conv => whnf
           first
      | refine Grd.intro (fun h => ?_) (fun h => ?_)
      | (refine CallC.sca _ (isRange_fn _ _) ?_ ?_; exact rfl)
      | refine And.intro trivial (AVle.of_eq (congrArg AV.bool ?_)))
  all_goals (simp_all [En.ok])
theorem entry_fn (r : Rc) : VFn Tryz.prog 77 [r.av] r.en.av := by
  refine VFn.introC Tryz.call77 Tryz.func77 rfl rfl ?_
  exact And.intro trivial (AVle.refl _)
theorem isToken_fn (n : Int) : VFn Tryz.prog 78 [.int .i64 n] (.bool (within n 1 999999)) := by
  refine VFn.introC Tryz.call78 Tryz.func78 rfl rfl ?_
  conv => whnf
  refine CallC.sca _ (within_fn _ _ _) ?_ ?_
  · exact rfl
  exact And.intro trivial (AVle.refl _)
theorem RecordOK_fn (r : Rc) : VFn Tryz.prog 34 [r.av] (.bool r.ok) := by
  refine VFn.introC Tryz.call34 Tryz.func34 rfl rfl ?_
  repeat' (conv => whnf
           first
      | refine Grd.intro (fun h => ?_) (fun h => ?_)
      | (refine CallC.sca _ (isToken_fn _) ?_ ?_; exact rfl)
      | (refine CallC.sca _ (entry_fn r) ?_ ?_; exact rfl)
      | (refine CallC.sca _ (entryOK_fn r.en) ?_ ?_; exact rfl)
      | (refine CallC.sca _ (readDataKey_fn r.key) ?_ ?_; exact rfl)
      | refine And.intro trivial (AVle.of_eq (congrArg AV.bool ?_)))
  all_goals (first | (simp_all [Rc.ok, Rc.bare, B_nil, B_isEmpty]; done) | (simp_all [Rc.ok, Rc.bare, B_nil, B_isEmpty]; intros; omega))
theorem kT_nat (k : List UInt8) : 0 ≤ kT k ∧ kT k ≤ 2 := by
  unfold kT
  cases h : parseKey k with
  | none => simp
  | some q =>
    obtain ⟨t, n, w⟩ := q
    have := key_parse h
    simp only; omega
theorem key_len {k : List UInt8} (h : kOk k = true) : k.length ≤ 17 := by
  unfold kOk at h
  cases e : parseKey k with
  | none => rw [e] at h; cases h
  | some q =>
    obtain ⟨t, n, w⟩ := q
    obtain ⟨e1, ht, hn, hw⟩ := key_parse e
    rw [e1]
    have h3 : t = 0 ∨ t = 1 ∨ t = 2 := by omega
    rcases h3 with rfl | rfl | rfl <;> simp [keyB, pre, six6_len]
def Rc.nums (r : Rc) : List Int := [r.k, r.tok, r.tier, r.f, r.t]
def Rc.text (r : Rc) : List UInt8 := Lib.join (r.nums.map Lib.itoa) [44] ++ ([32] ++ r.key)
theorem Rc.okN {r : Rc} (h : r.ok = true) : (∀ x ∈ r.nums, mid x) ∧ r.key.length ≤ 17 := by
  have hT := kT_nat r.key
  have hL := @key_len r.key
  have m : (mid r.k ∧ mid r.tok ∧ mid r.tier ∧ mid r.f ∧ mid r.t) ∧ r.key.length ≤ 17 := by
    unfold Rc.ok at h
    split at h
    · simp [Rc.en, En.ok, isRange, within] at h
      refine ⟨⟨?_, ?_, ?_, ?_, ?_⟩, hL h.2.2.1⟩ <;> (unfold mid; omega)
    split at h
    · simp [Rc.bare, within] at h
      refine ⟨⟨?_, ?_, ?_, ?_, ?_⟩, by rw [h.2.2]; simp⟩ <;> (unfold mid; omega)
    split at h
    · simp [Rc.en, En.ok, isRange, within] at h
      refine ⟨⟨?_, ?_, ?_, ?_, ?_⟩, hL h.2.2.1⟩ <;> (unfold mid; omega)
    split at h
    · simp [Rc.en, En.ok, isRange, within] at h
      refine ⟨⟨?_, ?_, ?_, ?_, ?_⟩, hL h.2.1⟩ <;> (unfold mid; omega)
    split at h
    · simp [Rc.bare, within] at h
      refine ⟨⟨?_, ?_, ?_, ?_, ?_⟩, hL h.2.2⟩ <;> (unfold mid; omega)
    · cases h
  refine ⟨fun x hx => ?_, m.2⟩
  obtain ⟨m1, m2, m3, m4, m5⟩ := m.1
  simp only [Rc.nums, List.mem_cons, List.not_mem_nil, or_false] at hx
  rcases hx with rfl | rfl | rfl | rfl | rfl <;> assumption
theorem Rc.head_len {r : Rc} (h : r.ok = true) : (Lib.join (r.nums.map Lib.itoa) [44]).length ≤ 110 := by
  have := join_len (m := 21) (c := 1) (L := r.nums.map Lib.itoa) (s := [44]) (fun x hx => by
    obtain ⟨n, hn, rfl⟩ := List.mem_map.1 hx
    exact mid_len ((Rc.okN h).1 n hn)) (by simp)
  exact Nat.le_trans this (by simp [Rc.nums])
end Go.Proofs.YtfaffgneccjpbaaGreatDoor
set_option linter.unusedVariables false
set_option linter.constructorNameAsVariable false
set_option linter.unusedSimpArgs false
set_option maxRecDepth 20000
namespace Go.Proofs.YtfaffgneccjpbaaGreatDoor
open Go Go.Vw

end Go.Proofs.YtfaffgneccjpbaaGreatDoor
set_option linter.unusedVariables false
set_option linter.constructorNameAsVariable false
set_option linter.unusedSimpArgs false
set_option maxRecDepth 20000
namespace Go.Proofs.YtfaffgneccjpbaaGreatDoor
open Go Go.Vw

theorem Lea.text_len (l : Lea) (h : ∀ x ∈ [l.tok, l.who, l.til], -9223372036854775807 ≤ x ∧ x ≤ 9223372036854775807) : l.text.length ≤ 65 := by
  have h1 := h l.tok (by simp)
  have h2 := h l.who (by simp)
  have h3 := h l.til (by simp)
  have l1 := itoa_len (n := l.tok) (by omega) h1.2
  have l2 := itoa_len (n := l.who) (by omega) h2.2
  have l3 := itoa_len (n := l.til) (by omega) h3.2
  show (Lib.join [Lib.itoa l.tok, Lib.itoa l.who, Lib.itoa l.til] [44]).length ≤ 65
  simp [Lib.join]
  omega
theorem get_ok (s : Sto) (hs : s.ok = true) (k : List UInt8) (h : s.has k = true) : (s.get k).data.length ≤ 600 ∧ 1 ≤ (s.get k).ver ∧ (s.get k).ver ≤ 1000000000 := by
  have h1 : s.eOK (s.pos k) = true := (Sto.ok_at hs).2.2 _ (hasK_at h).1
  have h2 := (Sto.ok_at hs).1
  simp [within] at h2
  simp [Sto.eOK, within] at h1
  unfold Sto.get
  omega
end Go.Proofs.YtfaffgneccjpbaaGreatDoor
set_option linter.unusedVariables false
set_option linter.constructorNameAsVariable false
set_option linter.unusedSimpArgs false
set_option maxRecDepth 20000
namespace Go.Proofs.YtfaffgneccjpbaaGreatDoor
open Go Go.Vw

def ask (s : Sto) (who now : Int) : Int := if s.ok = true then (if within who 0 9 = true ∧ within now 0 101000 = true then 0 else 4) else 1
end Go.Proofs.YtfaffgneccjpbaaGreatDoor
set_option linter.unusedVariables false
set_option linter.constructorNameAsVariable false
set_option linter.unusedSimpArgs false
set_option maxRecDepth 20000
namespace Go.Proofs.YtfaffgneccjpbaaGreatDoor
open Go Go.Vw

/-- the digits of a positive number, none of 0 -/
def posD : Nat → List UInt8
  | 0 => []
  | n + 1 => posD ((n + 1) / 10) ++ [d1 (n + 1)]
decreasing_by omega
def markT (k : Int) : List UInt8 := if k ≤ 0 then [109, 48] else 109 :: posD k.toNat
theorem posD_len : ∀ (k n : Nat), n < 10 ^ k → (posD n).length ≤ k
  | 0, n, h => by
    have : n = 0 := by simpa using h
    subst this; simp [posD]
  | k + 1, 0, h => by simp [posD]
  | k + 1, n + 1, h => by
    rw [posD]
    have := posD_len k ((n + 1) / 10) (by rw [Nat.pow_succ] at h; omega)
    simp; omega
/-- texts marked from a number on -/
def mkT (k : Int) (n : Nat) : List (List UInt8) := (List.range n).map fun j : Nat => markT (k + (j : Int))
end Go.Proofs.YtfaffgneccjpbaaGreatDoor
set_option linter.unusedVariables false
set_option linter.constructorNameAsVariable false
set_option linter.unusedSimpArgs false
set_option maxRecDepth 20000
namespace Go.Proofs.YtfaffgneccjpbaaGreatDoor
open Go Go.Vw

def Ob.size (e : Ob) : Nat := e.key.length + e.data.length
def mkO (k : Int) (i : Nat) : List AV := [.str (B (markT (k + 3 * i))), .int .i64 (k + 3 * i + 1), .str (B (markT (k + 3 * i + 1 + 1)))]
def stoN (s : Sto) : Nat := s.os.length + sumL Ob.size s.os
structure StoIn (s : Sto) : Prop where
  len : s.os.length ≤ 9223372036854775807
  sz : ∀ e ∈ s.os, e.key.length ≤ 9223372036854775807 ∧ e.data.length ≤ 9223372036854775807
  nxt : -9223372036854775808 ≤ s.next ∧ s.next ≤ 9223372036854775807
/-- no store -/
def sto0 : AV := .agg [.nilsl, .int .i64 0]
end Go.Proofs.YtfaffgneccjpbaaGreatDoor
set_option linter.unusedVariables false
set_option linter.constructorNameAsVariable false
set_option linter.unusedSimpArgs false
set_option maxRecDepth 20000
namespace Go.Proofs.YtfaffgneccjpbaaGreatDoor
open Go Go.Vw

end Go.Proofs.YtfaffgneccjpbaaGreatDoor
set_option linter.unusedVariables false
set_option linter.constructorNameAsVariable false
set_option linter.unusedSimpArgs false
set_option maxRecDepth 20000
namespace Go.Proofs.YtfaffgneccjpbaaGreatDoor
open Go Go.Vw

end Go.Proofs.YtfaffgneccjpbaaGreatDoor
set_option linter.unusedVariables false
set_option linter.constructorNameAsVariable false
set_option linter.unusedSimpArgs false
set_option maxRecDepth 20000
namespace Go.Proofs.YtfaffgneccjpbaaGreatDoor
open Go Go.Vw

theorem putAbsent_fn (s : Sto) (hs : s.ok = true) (k d : List UInt8) (hd : d.length ≤ 1000000000) : VFn Tryz.prog 45 [s.av, .str (B k), .str (B d)] (.tup [(s.putA k d).1.av, .int .i64 (if s.has k = true ∨ s.room k d ≠ 0 then 0 else s.next), .int .i64 (s.putA k d).2]) := by
  have c := find_fn s hs k
  have cp := put_fn s hs k d hd
  unfold Sto.putA
  by_cases hk : s.has k = true
  · rw [hk] at c ⊢
    rw [if_pos rfl, if_pos (.inl rfl)]
    refine VFn.introC Tryz.call45 Tryz.func45 rfl rfl ?_
    conv => whnf
    refine CallC.sca _ (c) ?_ ?_
    · exact rfl
    exact And.intro trivial (AVle.refl _)
  · have hk : s.has k = false := by simpa using hk
    rw [hk] at c ⊢
    rw [if_neg (by simp)]
    unfold Sto.put
    by_cases hr : s.room k d = 0
    · rw [if_pos hr] at cp
      rw [if_pos hr, hr, if_neg (by simp)]
      refine VFn.introC Tryz.call45 Tryz.func45 rfl rfl ?_
      conv => whnf
      refine CallC.sca _ (c) ?_ ?_
      · exact rfl
      conv => whnf
      refine CallC.nl _ (cp) ?_ ?_
      · exact rfl
      exact And.intro trivial (AVle.refl _)
    · rw [if_neg hr] at cp
      rw [if_neg hr, if_pos (.inr hr)]
      refine VFn.introC Tryz.call45 Tryz.func45 rfl rfl ?_
      conv => whnf
      refine CallC.sca _ (c) ?_ ?_
      · exact rfl
      conv => whnf
      refine CallC.nl _ (cp) ?_ ?_
      · exact rfl
      exact And.intro trivial (AVle.refl _)
end Go.Proofs.YtfaffgneccjpbaaGreatDoor
set_option linter.unusedVariables false
set_option linter.constructorNameAsVariable false
set_option linter.unusedSimpArgs false
set_option maxRecDepth 20000
namespace Go.Proofs.YtfaffgneccjpbaaGreatDoor
open Go Go.Vw

def acqC (s : Sto) (now : Int) : Int := if s.lea.2 = 17 then 17 else if s.lea.2 = 0 ∧ s.lea.1.til ≠ 0 ∧ now ≤ s.lea.1.til + 6 then 12 else if s.lea.1.tok = 999999 then 7 else 0
def acqL (s : Sto) (who now : Int) : Lea := ⟨s.lea.1.tok + 1, who, now + 20⟩
def acqS (s : Sto) (who now : Int) : Sto := if acqC s now = 0 then s.put leaK (acqL s who now).text else s
def acqT (s : Sto) (who now : Int) : Int := if acqC s now = 0 ∧ s.room leaK (acqL s who now).text = 0 then s.lea.1.tok + 1 else 0
def acqR (s : Sto) (who now : Int) : Int := if acqC s now = 0 then s.room leaK (acqL s who now).text else acqC s now
theorem first3_of (a b c : Bool) (x y z : Int) {n : Nat} {rows : Nat → List AV} (hr : FirstRows 4 3 rows 0 [(a, x), (b, y), (c, z)]) (hn : n = 6) {r : Int} (h : (if a = true then x else if b = true then y else if c = true then z else 0) = r) : VFn Tryz.prog 33 [.sl 1 n rows] (.int .i64 r) := by
  have e : firstC [(a, x), (b, y), (c, z)] = r := by
    rw [← h]
    unfold firstC firstC firstC firstC
    cases a <;> cases b <;> cases c <;> rfl
  rw [← e]
  exact first_of _ hr hn (show 3 ≤ 1000 by decide)
end Go.Proofs.YtfaffgneccjpbaaGreatDoor
set_option linter.unusedVariables false
set_option linter.constructorNameAsVariable false
set_option linter.unusedSimpArgs false
set_option maxRecDepth 20000
namespace Go.Proofs.YtfaffgneccjpbaaGreatDoor
open Go Go.Vw

theorem leaK_ok : keyOK leaK = true := by decide
theorem put_lea {s : Sto} {l : Lea} (hs : s.ok = true) (hl : l.ok = true) (h1 : s.os.length < 300) (h2 : s.next < 1000000000) :
    s.room leaK l.text = 0 ∧ (s.put leaK l.text).ok = true ∧ (s.put leaK l.text).lea = (l, 0) ∧ (s.put leaK l.text).next = s.next + 1 ∧ (s.put leaK l.text).os.length ≤ s.os.length + 1 := by
  have hb : ∀ x ∈ [l.tok, l.who, l.til], -9223372036854775807 ≤ x ∧ x ≤ 9223372036854775807 := by
    simp [Lea.ok, within] at hl
    intro x hx
    simp at hx
    omega
  have hlen := Lea.text_len l hb
  have hr := room_yes (s := s) (k := leaK) (d := l.text) (by omega) h1 h2
  have e : s.put leaK l.text = s.set leaK l.text := by unfold Sto.put; rw [if_pos hr]
  rw [e]
  refine ⟨hr, set_ok hs leaK_ok hr, ?_, rfl, set_len_le _ _ _⟩
  obtain ⟨a1, a2⟩ := set_at s leaK l.text
  unfold Sto.lea
  rw [if_pos a1, a2]
  show (match readL l.text with | some l => (l, (0 : Int)) | none => (default, 17)) = _
  rw [leaText_back hl]
/-- a store with a lease of long ago, or without one -/
structure Old (s : Sto) (t : Int) : Prop where
  ok : s.ok = true
  len : s.os.length ≤ 100
  nx : s.next ≤ 1000
  tk : 0 ≤ t ∧ t ≤ 1000
  lea : (s.lea.2 = 5 ∧ s.lea.1 = default ∧ t = 0) ∨ (s.lea.2 = 0 ∧ s.lea.1.tok = t ∧ s.lea.1.ok = true ∧ s.lea.1.til ≤ 60)
/-- a store whose lease is held -/
structure Held (s : Sto) (l : Lea) : Prop where
  ok : s.ok = true
  len : s.os.length ≤ 150
  nx : s.next ≤ 2000
  lea : s.lea = (l, 0)
  lok : l.ok = true
end Go.Proofs.YtfaffgneccjpbaaGreatDoor
set_option linter.unusedVariables false
set_option linter.constructorNameAsVariable false
set_option linter.unusedSimpArgs false
set_option maxRecDepth 20000
namespace Go.Proofs.YtfaffgneccjpbaaGreatDoor
open Go Go.Vw

structure Src where
  code : List UInt8
  at_ : Int
  seed : Int
abbrev byts (L : List UInt8) : AV := .sl 1 L.length fun i => [.int .u8 ((ix L i).toNat : Int)]
def Src.row (s : Src) : List AV := [byts s.code, .int .i64 s.at_, .int .i64 s.seed]
def Src.ok (s : Src) (k : Int) : Prop := (0 ≤ s.at_ ∧ s.at_ ≤ k) ∧ (0 ≤ s.seed ∧ s.seed < 2147483648) ∧ s.code.length ≤ 1000000000
def Src.chr (s : Src) : Int := (ix s.code (s.at_ + 1 - 1).toNat).toNat
def Src.sd (s : Src) : Int := (s.seed * 1103515245 + 12345).tmod 2147483648
def Src.byte (s : Src) : Int × Src :=
  if s.at_ + 1 ≤ s.code.length then (s.chr, { s with at_ := s.at_ + 1, seed := (s.seed * 31 + s.chr + 7).tmod 2147483648 })
  else if 3000 < s.at_ + 1 then (0, { s with at_ := s.at_ + 1 })
  else ((s.sd.tdiv 65536).tmod 256, { s with at_ := s.at_ + 1, seed := s.sd })
theorem tmod_b {n m : Int} (h : 0 ≤ n) (hm : 0 < m) : 0 ≤ n.tmod m ∧ n.tmod m < m := by
  rw [Int.tmod_eq_emod_of_nonneg h]
  exact ⟨Int.emod_nonneg _ (by omega), Int.emod_lt_of_pos _ hm⟩
theorem tdiv_b {n : Int} {m : Int} (h : 0 ≤ n) (hm : 0 < m) : 0 ≤ n.tdiv m ∧ n.tdiv m ≤ n := by
  rw [Int.tdiv_eq_ediv_of_nonneg h]
  exact ⟨Int.ediv_nonneg h (by omega), Int.ediv_le_self _ h⟩
theorem chr_b (s : Src) : 0 ≤ s.chr ∧ s.chr ≤ 255 := by
  unfold Src.chr
  have := (ix s.code (s.at_ + 1 - 1).toNat).toNat_lt
  omega
theorem byte_b (s : Src) {k : Int} (h : s.ok k) : (0 ≤ s.byte.1 ∧ s.byte.1 ≤ 255) ∧ s.byte.2.ok (k + 1) ∧ s.byte.2.code = s.code := by
  obtain ⟨⟨a0, a1⟩, ⟨s0, s1⟩, hc⟩ := h
  have hch := chr_b s
  have hsd := tmod_b (n := s.seed * 1103515245 + 12345) (m := 2147483648) (by omega) (by omega)
  unfold Src.byte
  split
  · refine ⟨hch, ⟨⟨by simp only; omega, by simp only; omega⟩, ?_, hc⟩, rfl⟩
    exact tmod_b (by omega) (by omega)
  · split
    · exact ⟨by simp, ⟨⟨by simp only; omega, by simp only; omega⟩, ⟨s0, s1⟩, hc⟩, rfl⟩
    · refine ⟨?_, ⟨⟨by simp only; omega, by simp only; omega⟩, hsd, hc⟩, rfl⟩
      have h1 := tdiv_b (n := s.sd) (m := 65536) hsd.1 (by omega)
      have h2 := tmod_b (n := s.sd.tdiv 65536) (m := 256) h1.1 (by omega)
      simp only; omega
theorem byte_fn (s : Src) (h : s.ok 1000000000) : FnM Tryz.prog 118 1 [.bptr 0 0] [(0, .box s.row)] (.int .i64 s.byte.1) [(0, .box s.byte.2.row)] 1 := by
  have h' := h
  obtain ⟨⟨a0, a1⟩, ⟨s0, s1⟩, hc⟩ := h
  have hch := chr_b s
  have hsd := tmod_b (n := s.seed * 1103515245 + 12345) (m := 2147483648) (by omega) (by omega)
  obtain ⟨R, hR⟩ : ∃ R, R = s.byte := ⟨_, rfl⟩
  rw [← hR]
  refine FnM.introC Tryz.call118 Tryz.func118 rfl rfl ?_
  refine And.intro (inI64 (by omega) (by omega)) ?_
  refine DrawC.mk 10 rfl (by kernel_rfl) ?_
  refine Grd.intro (fun g1 => ?_) (fun g1 => ?_)
  · have g1 : s.at_ + 1 ≤ s.code.length := of_decide_eq_true g1
    have hR' : R = (s.chr, { s with at_ := s.at_ + 1, seed := (s.seed * 31 + s.chr + 7).tmod 2147483648 }) := by rw [hR, Src.byte, if_pos g1]
    refine DrawC.mk 23 rfl (by kernel_rfl) ?_
    refine And.intro (inI64 (by omega) (by omega)) ?_
    refine And.intro (inI64 (by omega) (by omega)) ?_
    refine And.intro ⟨by omega, by omega⟩ ?_
    refine And.intro (show inI .i64 s.chr from inI64 (by omega) (by omega)) ?_
    refine And.intro (show inI .i64 (s.seed * 31 + s.chr) from inI64 (by omega) (by omega)) ?_
    refine And.intro (show inI .i64 (s.seed * 31 + s.chr + 7) from inI64 (by omega) (by omega)) ?_
    refine And.intro (by decide) ?_
    refine DrawC.mk 13 rfl (by kernel_rfl) ?_
    refine And.intro (inI64 (by omega) (by omega)) ?_
    refine And.intro ⟨by omega, by omega⟩ ?_
    refine And.intro (show inI .i64 s.chr from inI64 (by omega) (by omega)) ?_
    subst hR'
    exact And.intro trivial ⟨[(0, 0)], rfl, AVle.refl _, ⟨MOle.refl _, trivial⟩⟩
  · have g1 : ¬ s.at_ + 1 ≤ s.code.length := of_decide_eq_false g1
    refine Grd.intro (fun g2 => ?_) (fun g2 => ?_)
    · have g2 : 3000 < s.at_ + 1 := of_decide_eq_true g2
      have hR' : R = (0, { s with at_ := s.at_ + 1 }) := by rw [hR, Src.byte, if_neg g1, if_pos g2]
      subst hR'
      exact And.intro trivial ⟨[(0, 0)], rfl, AVle.refl _, ⟨MOle.refl _, trivial⟩⟩
    · have g2 : ¬ 3000 < s.at_ + 1 := of_decide_eq_false g2
      have hR' : R = ((s.sd.tdiv 65536).tmod 256, { s with at_ := s.at_ + 1, seed := s.sd }) := by rw [hR, Src.byte, if_neg g1, if_neg g2]
      refine And.intro (inI64 (by omega) (by omega)) ?_
      refine And.intro (inI64 (by omega) (by omega)) ?_
      refine And.intro (by decide) ?_
      have h1 := tdiv_b (n := s.sd) (m := 65536) hsd.1 (by omega)
      have hsd' : 0 ≤ s.sd ∧ s.sd < 2147483648 := hsd
      refine And.intro ⟨by decide, show inI .i64 (s.sd.tdiv 65536) from inI64 (by omega) (by omega)⟩ ?_
      refine And.intro (by decide) ?_
      subst hR'
      exact And.intro trivial ⟨[(0, 0)], rfl, AVle.refl _, ⟨MOle.refl _, trivial⟩⟩
def Src.next (s : Src) (n : Int) : Int × Src :=
  if n ≤ 1 then (0, s)
  else if n ≤ 256 then (s.byte.1.tmod n, s.byte.2)
  else ((s.byte.1 * 65536 + s.byte.2.byte.1 * 256 + s.byte.2.byte.2.byte.1).tmod n, s.byte.2.byte.2.byte.2)
theorem next_b (s : Src) {k : Int} (h : s.ok k) (hk : 0 ≤ k) (n : Int) : (0 ≤ (s.next n).1 ∧ (1 ≤ n → (s.next n).1 < n)) ∧ (s.next n).2.ok (k + 3) ∧ (s.next n).2.code = s.code := by
  have h1 := byte_b s h
  have h2 := byte_b s.byte.2 h1.2.1
  have h3 := byte_b s.byte.2.byte.2 h2.2.1
  have w : ∀ (x : Src) (a b : Int), x.ok a → a ≤ b → x.ok b := fun x a b hx hab => ⟨⟨hx.1.1, by have := hx.1.2; omega⟩, hx.2⟩
  unfold Src.next
  split
  · exact ⟨⟨by simp, fun _ => by simp only; omega⟩, w s k _ h (by omega), rfl⟩
  · split
    · have := tmod_b (n := s.byte.1) (m := n) h1.1.1 (by omega)
      exact ⟨⟨this.1, fun _ => this.2⟩, w _ _ _ h1.2.1 (by omega), h1.2.2⟩
    · have := tmod_b (n := s.byte.1 * 65536 + s.byte.2.byte.1 * 256 + s.byte.2.byte.2.byte.1) (m := n) (by omega) (by omega)
      exact ⟨⟨this.1, fun _ => this.2⟩, w _ _ _ h3.2.1 (by omega), h3.2.2.trans (h2.2.2.trans h1.2.2)⟩
theorem next_fn (s : Src) (n : Int) (h : s.ok 100000000) : FnM Tryz.prog 68 1 [.bptr 0 0, .int .i64 n] [(0, .box s.row)] (.int .i64 (s.next n).1) [(0, .box (s.next n).2.row)] 1 := by
  have h1 := byte_b s h
  have h2 := byte_b s.byte.2 h1.2.1
  have h3 := byte_b s.byte.2.byte.2 h2.2.1
  have w : ∀ (x : Src) (a : Int), x.ok a → a ≤ 1000000000 → x.ok 1000000000 := fun x a hx hab => ⟨⟨hx.1.1, by have := hx.1.2; omega⟩, hx.2⟩
  obtain ⟨R, hR⟩ : ∃ R, R = s.next n := ⟨_, rfl⟩
  rw [← hR]
  refine FnM.introC Tryz.call68 Tryz.func68 rfl rfl ?_
  refine Grd.intro (fun g1 => ?_) (fun g1 => ?_)
  · have g1 : n ≤ 1 := of_decide_eq_true g1
    rw [Src.next, if_pos g1] at hR
    subst hR
    exact And.intro trivial ⟨[(0, 0)], rfl, AVle.refl _, ⟨MOle.refl _, trivial⟩⟩
  have g1 : ¬ n ≤ 1 := of_decide_eq_false g1
  refine Grd.intro (fun g2 => ?_) (fun g2 => ?_)
  · have g2 : n ≤ 256 := of_decide_eq_true g2
    rw [Src.next, if_neg g1, if_pos g2] at hR
    conv => whnf
    refine CallC.k [(0, 0)] (byte_fn s (w _ _ h (by omega))) rfl rfl (AVsle.refl _) ⟨MOle.refl _, trivial⟩ rfl ?_
    refine And.intro (show n ≠ 0 by omega) ?_
    subst hR
    exact And.intro trivial ⟨[(0, 0)], rfl, AVle.refl _, ⟨MOle.refl _, trivial⟩⟩
  have g2 : ¬ n ≤ 256 := of_decide_eq_false g2
  rw [Src.next, if_neg g1, if_neg g2] at hR
  conv => whnf
  refine CallC.k [(0, 0)] (byte_fn s (w _ _ h (by omega))) rfl rfl (AVsle.refl _) ⟨MOle.refl _, trivial⟩ rfl ?_
  conv => whnf
  refine CallC.k [(0, 0)] (byte_fn s.byte.2 (w _ _ h1.2.1 (by omega))) rfl rfl (AVsle.refl _) ⟨MOle.refl _, trivial⟩ rfl ?_
  conv => whnf
  refine CallC.k [(0, 0)] (byte_fn s.byte.2.byte.2 (w _ _ h2.2.1 (by omega))) rfl rfl (AVsle.refl _) ⟨MOle.refl _, trivial⟩ rfl ?_
  refine And.intro (inI64 (by omega) (by omega)) ?_
  refine And.intro (inI64 (by omega) (by omega)) ?_
  refine And.intro (inI64 (by omega) (by omega)) ?_
  refine And.intro (inI64 (by omega) (by omega)) ?_
  refine And.intro (show n ≠ 0 by omega) ?_
  subst hR
  exact And.intro trivial ⟨[(0, 0)], rfl, AVle.refl _, ⟨MOle.refl _, trivial⟩⟩
end Go.Proofs.YtfaffgneccjpbaaGreatDoor
set_option linter.unusedVariables false
set_option linter.constructorNameAsVariable false
set_option linter.unusedSimpArgs false
set_option maxRecDepth 20000
namespace Go.Proofs.YtfaffgneccjpbaaGreatDoor
open Go Go.Vw

abbrev SS := List Smp × Int × Src
def smpStep (x : SS) : SS :=
  let f := x.2.1 + (x.2.2.next 4).1
  let a := (x.2.2.next 4).2.next 40
  let b := a.2.next 12
  let c := b.2.next 2
  let v := if b.1.tdiv 10 * (1 + c.1) = 0 then a.1 - 10 else if b.1.tdiv 10 * (1 + c.1) = 1 then 1000000 else -1000000
  (x.1 ++ [⟨f, v⟩], f + 1, c.2)
def smpIt : Nat → SS → SS
  | 0, x => x
  | k + 1, x => smpStep (smpIt k x)
def SSok (x : SS) (n : Nat) (k : Int) : Prop := x.1.length = n ∧ (∀ e ∈ x.1, -1000000 ≤ e.v ∧ e.v ≤ 1000000) ∧ x.2.2.ok k ∧ (0 ≤ x.2.1 ∧ x.2.1 ≤ k)
theorem wk {x : Src} {a b : Int} (hx : x.ok a) (h : a ≤ b) : x.ok b := ⟨⟨hx.1.1, by have := hx.1.2; omega⟩, hx.2⟩
theorem step_ok {x : SS} {n : Nat} {k : Int} (h : SSok x n k) (hk : 0 ≤ k) : SSok (smpStep x) (n + 1) (k + 12) := by
  obtain ⟨h1, h2, h3, h4⟩ := h
  have n1 := next_b x.2.2 h3 hk 4
  have n2 := next_b (x.2.2.next 4).2 n1.2.1 (by omega) 40
  have n3 := next_b ((x.2.2.next 4).2.next 40).2 n2.2.1 (by omega) 12
  have n4 := next_b (((x.2.2.next 4).2.next 40).2.next 12).2 n3.2.1 (by omega) 2
  have a1 := n1.1.2 (by omega)
  have a2 := n2.1.2 (by omega)
  unfold smpStep
  refine ⟨by simp [h1], fun e he => ?_, wk n4.2.1 (by omega), by simp only; omega⟩
  simp only [List.mem_append, List.mem_cons, List.not_mem_nil, or_false] at he
  rcases he with he | he
  · exact h2 e he
  · subst he
    simp only
    have := n2.1.1
    split
    · omega
    · split <;> omega
theorem it_ok {x : SS} {k : Int} (h : SSok x 0 k) (hk : 0 ≤ k) : ∀ n, SSok (smpIt n x) n (k + 12 * n)
  | 0 => by simpa [smpIt] using h
  | n + 1 => by
    have := step_ok (it_ok h hk n) (by omega)
    have e : k + 12 * ((n + 1 : Nat) : Int) = k + 12 * (n : Int) + 12 := by omega
    rw [e]; exact this
def Src.samples (s : Src) (f n : Int) : SS := smpIt (s.next (n + 1)).1.toNat ([], f, (s.next (n + 1)).2)
theorem samples_fn (s : Src) (f n : Int) (h : s.ok 1000000) (hf : 0 ≤ f ∧ f ≤ 1000000) (hn : 0 ≤ n ∧ n ≤ 1000) :
    FnM Tryz.prog 60 1 [.bptr 0 0, .int .i64 f, .int .i64 n] [(0, .box s.row)] (.osl 1) [(0, .box (s.samples f n).2.2.row), (1, .arr 73 2 (s.samples f n).1.length fun i => (ix (s.samples f n).1 i).row)] 2 := by
  have n0 := next_b s h (by omega) (n + 1)
  have hm := n0.1.2 (by omega)
  have h0 : SSok ([], f, (s.next (n + 1)).2) 0 1000003 := ⟨rfl, by simp, n0.2.1, by simp only; omega⟩
  have hit := it_ok h0 (by omega)
  obtain ⟨R, hR⟩ : ∃ R, R = s.samples f n := ⟨_, rfl⟩
  rw [← hR]
  refine FnM.introC Tryz.call60 Tryz.func60 rfl rfl ?_
  refine And.intro (inI64 (by omega) (by omega)) ?_
  conv => whnf
  refine CallC.k [(0, 0)] (next_fn s (n + 1) (wk h (by omega))) rfl rfl (AVsle.refl _) ⟨MOle.refl _, trivial⟩ rfl ?_
  obtain ⟨M, hM⟩ : ∃ M : Nat, (s.next (n + 1)).1 = M := ⟨(s.next (n + 1)).1.toNat, by omega⟩
  have hR2 : R = smpIt M ([], f, (s.next (n + 1)).2) := by rw [hR, Src.samples, hM]; rfl
  obtain ⟨x0, hx0⟩ : ∃ x0 : SS, x0 = ([], f, (s.next (n + 1)).2) := ⟨_, rfl⟩
  rw [← hx0] at hit hR2
  rw [hM]
  refine LoopC.mk (fun k : Nat => k ≤ M) (fun k => [(0, .bptr 0 0), (1, .int .i64 (smpIt k x0).2.1), (7, .osl 1), (8, .int .i64 ((M : Int) - k))])
    (fun k => [(0, .box (smpIt k x0).2.2.row), (1, .arr 73 2 (smpIt k x0).1.length fun i => (ix (smpIt k x0).1 i).row)]) 2 (fun k => M - k) 0
    ⟨Nat.zero_le _, [(0, 0), (1, 1)], rfl, rfl, ⟨AVle.refl _, AVle.of_eq (congrArg (AV.int .i64) (show f = _ by rw [hx0]; rfl)), AVle.refl _, AVle.of_eq (congrArg (AV.int .i64) (by simp)), trivial⟩, ⟨MOle.of_eq (show MO.box (s.next (n + 1)).2.row = _ by rw [hx0]; rfl), MOle.arr (by rw [hx0]; rfl) fun i hi => absurd hi (Nat.not_lt_zero i), trivial⟩⟩ ?_
  intro k hk
  refine Grd.intro (fun g1 => ?_) (fun g1 => ?_)
  · have hkM : k < M := by have := of_decide_eq_true g1; omega
    obtain ⟨h1, h2, h3, h4⟩ := hit k
    have hstep : smpIt (k + 1) x0 = smpStep (smpIt k x0) := rfl
    generalize smpIt k x0 = x at h1 h2 h3 h4 hstep
    have n1 := next_b x.2.2 h3 (by omega) 4
    have n2 := next_b (x.2.2.next 4).2 n1.2.1 (by omega) 40
    have n3 := next_b ((x.2.2.next 4).2.next 40).2 n2.2.1 (by omega) 12
    have n4 := next_b (((x.2.2.next 4).2.next 40).2.next 12).2 n3.2.1 (by omega) 2
    have a1 := n1.1.2 (by omega)
    have a2 := n2.1.2 (by omega)
    have a3 := n3.1.2 (by omega)
    have a4 := n4.1.2 (by omega)
    conv => whnf
    refine CallC.k [(0, 0)] (next_fn x.2.2 4 (wk h3 (by omega))) rfl rfl (AVsle.refl _) ⟨MOle.refl _, trivial⟩ rfl ?_
    refine And.intro (show inI .i64 (x.2.1 + (x.2.2.next 4).1) from inI64 (by omega) (by omega)) ?_
    conv => whnf
    refine CallC.k [(0, 0)] (next_fn (x.2.2.next 4).2 40 (wk n1.2.1 (by omega))) rfl rfl (AVsle.refl _) ⟨MOle.refl _, trivial⟩ rfl ?_
    refine And.intro (inI64 (by omega) (by omega)) ?_
    conv => whnf
    refine CallC.k [(0, 0)] (next_fn ((x.2.2.next 4).2.next 40).2 12 (wk n2.2.1 (by omega))) rfl rfl (AVsle.refl _) ⟨MOle.refl _, trivial⟩ rfl ?_
    have hq : (((x.2.2.next 4).2.next 40).2.next 12).1.tdiv 10 = (((x.2.2.next 4).2.next 40).2.next 12).1 / 10 := Int.tdiv_eq_ediv_of_nonneg n3.1.1
    have hq01 : (((x.2.2.next 4).2.next 40).2.next 12).1.tdiv 10 = 0 ∨ (((x.2.2.next 4).2.next 40).2.next 12).1.tdiv 10 = 1 := by omega
    have hd01 : ((((x.2.2.next 4).2.next 40).2.next 12).2.next 2).1 = 0 ∨ ((((x.2.2.next 4).2.next 40).2.next 12).2.next 2).1 = 1 := by omega
    have hrow : ∀ v, v = (if (((x.2.2.next 4).2.next 40).2.next 12).1.tdiv 10 * (1 + ((((x.2.2.next 4).2.next 40).2.next 12).2.next 2).1) = 0 then ((x.2.2.next 4).2.next 40).1 - 10 else if (((x.2.2.next 4).2.next 40).2.next 12).1.tdiv 10 * (1 + ((((x.2.2.next 4).2.next 40).2.next 12).2.next 2).1) = 1 then 1000000 else -1000000) →
        (smpIt (k + 1) x0).1 = x.1 ++ [⟨x.2.1 + (x.2.2.next 4).1, v⟩] ∧ (smpIt (k + 1) x0).2.1 = x.2.1 + (x.2.2.next 4).1 + 1 ∧ (smpIt (k + 1) x0).2.2 = ((((x.2.2.next 4).2.next 40).2.next 12).2.next 2).2 := fun v hv => by
      rw [hstep, hv]; exact ⟨rfl, rfl, rfl⟩
    refine And.intro ⟨by decide, show inI .i64 ((((x.2.2.next 4).2.next 40).2.next 12).1.tdiv 10) from inI64 (by omega) (by omega)⟩ ?_
    conv => whnf
    refine CallC.k [(0, 0)] (next_fn (((x.2.2.next 4).2.next 40).2.next 12).2 2 (wk n3.2.1 (by omega))) rfl rfl (AVsle.refl _) ⟨MOle.refl _, trivial⟩ rfl ?_
    rcases hq01 with hq0 | hq0
    · rw [hq0]
      rw [hq0] at hrow
      refine And.intro (show inI .i64 (1 + ((((x.2.2.next 4).2.next 40).2.next 12).2.next 2).1) from inI64 (by omega) (by omega)) ?_
      rcases hd01 with hd | hd
      · rw [hd]
        rw [hd] at hrow
        obtain ⟨w1, w2, w3⟩ := hrow (((x.2.2.next 4).2.next 40).1 - 10) (by simp)
        refine And.intro (inI64 (by omega) (by omega)) ?_
        refine And.intro ⟨by decide, by decide⟩ ?_
        refine And.intro ⟨show (x.1.length + 1) * 16 ≤ 140737488355328 by omega, all1 rfl⟩ ?_
        refine And.intro (show inI .i64 (x.2.1 + (x.2.2.next 4).1 + 1) from inI64 (by omega) (by omega)) ?_
        refine And.intro (inI64 (by omega) (by omega)) ?_
        exact ⟨k + 1, hkM, by omega, [(0, 0), (8, 1)], rfl, rfl, ⟨AVle.refl _, AVle.of_eq (congrArg (AV.int .i64) w2.symm), AVle.refl _, AVle.of_eq (congrArg (AV.int .i64) (show (M : Int) - k - 1 = _ by omega)), trivial⟩, ⟨MOle.of_eq (show MO.box ((((x.2.2.next 4).2.next 40).2.next 12).2.next 2).2.row = _ by rw [w3]), arr_next (f := Smp.row) w1 rfl, trivial⟩⟩
      · rw [hd]
        rw [hd] at hrow
        obtain ⟨w1, w2, w3⟩ := hrow (((x.2.2.next 4).2.next 40).1 - 10) (by simp)
        refine And.intro (inI64 (by omega) (by omega)) ?_
        refine And.intro ⟨by decide, by decide⟩ ?_
        refine And.intro ⟨show (x.1.length + 1) * 16 ≤ 140737488355328 by omega, all1 rfl⟩ ?_
        refine And.intro (show inI .i64 (x.2.1 + (x.2.2.next 4).1 + 1) from inI64 (by omega) (by omega)) ?_
        refine And.intro (inI64 (by omega) (by omega)) ?_
        exact ⟨k + 1, hkM, by omega, [(0, 0), (8, 1)], rfl, rfl, ⟨AVle.refl _, AVle.of_eq (congrArg (AV.int .i64) w2.symm), AVle.refl _, AVle.of_eq (congrArg (AV.int .i64) (show (M : Int) - k - 1 = _ by omega)), trivial⟩, ⟨MOle.of_eq (show MO.box ((((x.2.2.next 4).2.next 40).2.next 12).2.next 2).2.row = _ by rw [w3]), arr_next (f := Smp.row) w1 rfl, trivial⟩⟩
    · rw [hq0]
      rw [hq0] at hrow
      refine And.intro (show inI .i64 (1 + ((((x.2.2.next 4).2.next 40).2.next 12).2.next 2).1) from inI64 (by omega) (by omega)) ?_
      rcases hd01 with hd | hd
      · rw [hd]
        rw [hd] at hrow
        obtain ⟨w1, w2, w3⟩ := hrow (1000000) (by simp)
        refine And.intro (inI64 (by omega) (by omega)) ?_
        refine And.intro ⟨by decide, by decide⟩ ?_
        refine And.intro ⟨show (x.1.length + 1) * 16 ≤ 140737488355328 by omega, all1 rfl⟩ ?_
        refine And.intro (show inI .i64 (x.2.1 + (x.2.2.next 4).1 + 1) from inI64 (by omega) (by omega)) ?_
        refine And.intro (inI64 (by omega) (by omega)) ?_
        exact ⟨k + 1, hkM, by omega, [(0, 0), (8, 1)], rfl, rfl, ⟨AVle.refl _, AVle.of_eq (congrArg (AV.int .i64) w2.symm), AVle.refl _, AVle.of_eq (congrArg (AV.int .i64) (show (M : Int) - k - 1 = _ by omega)), trivial⟩, ⟨MOle.of_eq (show MO.box ((((x.2.2.next 4).2.next 40).2.next 12).2.next 2).2.row = _ by rw [w3]), arr_next (f := Smp.row) w1 rfl, trivial⟩⟩
      · rw [hd]
        rw [hd] at hrow
        obtain ⟨w1, w2, w3⟩ := hrow (-1000000) (by simp)
        refine And.intro (inI64 (by omega) (by omega)) ?_
        refine And.intro ⟨by decide, by decide⟩ ?_
        refine And.intro ⟨show (x.1.length + 1) * 16 ≤ 140737488355328 by omega, all1 rfl⟩ ?_
        refine And.intro (show inI .i64 (x.2.1 + (x.2.2.next 4).1 + 1) from inI64 (by omega) (by omega)) ?_
        refine And.intro (inI64 (by omega) (by omega)) ?_
        exact ⟨k + 1, hkM, by omega, [(0, 0), (8, 1)], rfl, rfl, ⟨AVle.refl _, AVle.of_eq (congrArg (AV.int .i64) w2.symm), AVle.refl _, AVle.of_eq (congrArg (AV.int .i64) (show (M : Int) - k - 1 = _ by omega)), trivial⟩, ⟨MOle.of_eq (show MO.box ((((x.2.2.next 4).2.next 40).2.next 12).2.next 2).2.row = _ by rw [w3]), arr_next (f := Smp.row) w1 rfl, trivial⟩⟩
  · have : k = M := by have := of_decide_eq_false g1; omega
    subst this
    rw [hR2]
    exact And.intro trivial ⟨[(0, 0), (1, 1)], rfl, AVle.refl _, ⟨MOle.refl _, MOle.refl _, trivial⟩⟩
end Go.Proofs.YtfaffgneccjpbaaGreatDoor
