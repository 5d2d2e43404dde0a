/- Contracts of functions that the claim reaches, and the plain law of what they compute; each theorem bears its own conditions. -/
import Derived.Test.YtfaffgneccjpbaaGreatDoorQ4
import Derived.Test.YtfaffgneccjpbaaGreatDoorQ3
import Derived.Test.YtfaffgneccjpbaaGreatDoorV50
import Derived.Test.YtfaffgneccjpbaaGreatDoorQ2
set_option linter.unusedVariables false
set_option linter.constructorNameAsVariable false
set_option linter.unusedSimpArgs false
set_option maxRecDepth 20000
namespace Go.Proofs.YtfaffgneccjpbaaGreatDoor
open Go Go.Vw

theorem leaK_ok : keyOK leaK = true := by decide
theorem put_lea {s : Sto} {l : Lea} (hs : s.ok = true) (hl : l.ok = true) (h1 : s.os.length < 300) (h2 : s.next < 1000000000) :
    s.room leaK l.text = 0 ∧ (s.put leaK l.text).ok = true ∧ (s.put leaK l.text).lea = (l, 0) ∧ (s.put leaK l.text).next = s.next + 1 ∧ (s.put leaK l.text).os.length ≤ s.os.length + 1 := by
  have hb : ∀ x ∈ [l.tok, l.who, l.til], -9223372036854775807 ≤ x ∧ x ≤ 9223372036854775807 := by
    simp [Lea.ok, within] at hl
    intro x hx
    simp at hx
    omega
  have hlen := Lea.text_len l hb
  have hr := room_yes (s := s) (k := leaK) (d := l.text) (by omega) h1 h2
  have e : s.put leaK l.text = s.set leaK l.text := by unfold Sto.put; rw [if_pos hr]
  rw [e]
  refine ⟨hr, set_ok hs leaK_ok hr, ?_, rfl, set_len_le _ _ _⟩
  obtain ⟨a1, a2⟩ := set_at s leaK l.text
  unfold Sto.lea
  rw [if_pos a1, a2]
  show (match readL l.text with | some l => (l, (0 : Int)) | none => (default, 17)) = _
  rw [leaText_back hl]
/-- a store with a lease of long ago, or without one -/
structure Old (s : Sto) (t : Int) : Prop where
  ok : s.ok = true
  len : s.os.length ≤ 100
  nx : s.next ≤ 1000
  tk : 0 ≤ t ∧ t ≤ 1000
  lea : (s.lea.2 = 5 ∧ s.lea.1 = default ∧ t = 0) ∨ (s.lea.2 = 0 ∧ s.lea.1.tok = t ∧ s.lea.1.ok = true ∧ s.lea.1.til ≤ 60)
/-- a store whose lease is held -/
structure Held (s : Sto) (l : Lea) : Prop where
  ok : s.ok = true
  len : s.os.length ≤ 150
  nx : s.next ≤ 2000
  lea : s.lea = (l, 0)
  lok : l.ok = true
end Go.Proofs.YtfaffgneccjpbaaGreatDoor
set_option linter.unusedVariables false
set_option linter.constructorNameAsVariable false
set_option linter.unusedSimpArgs false
set_option maxRecDepth 20000
namespace Go.Proofs.YtfaffgneccjpbaaGreatDoor
open Go Go.Vw

def keysS : List (List UInt8) := [[97, 47, 49], [97, 47, 50], [98, 47, 49], [98, 47, 49, 48], leaK]
def Src.shortK (s : Src) : List UInt8 × Src := (ix keysS (s.next 5).1.toNat, (s.next 5).2)
def Src.some : Nat → Src → List UInt8 × Src
  | 0, s => ([], s)
  | n + 1, s => ((Src.some n s).1 ++ [UInt8.ofNat (97 + ((Src.some n s).2.next 26).1.toNat)], ((Src.some n s).2.next 26).2)
theorem some_ok (s : Src) {k : Int} (h : s.ok k) (hk : 0 ≤ k) : ∀ n, (Src.some n s).2.ok (k + 3 * n) ∧ (Src.some n s).1.length = n
  | 0 => ⟨wk h (by omega), rfl⟩
  | n + 1 => by
    have ih := some_ok s h hk n
    have n1 := next_b (Src.some n s).2 ih.1 (by omega) 26
    exact ⟨wk n1.2.1 (by omega), by show ((Src.some n s).1 ++ [_]).length = _; rw [List.length_append, ih.2]; rfl⟩
theorem shortK_ok (s : Src) {k : Int} (h : s.ok k) (hk : 0 ≤ k) : s.shortK.2.ok (k + 3) ∧ keyOK s.shortK.1 = true ∧ s.shortK.1.length ≤ 5 := by
  have n1 := next_b s h hk 5
  have n2 := n1.1.2 (by omega)
  refine ⟨n1.2.1, ?_⟩
  have key : ∀ i : Int, 0 ≤ i → i < 5 → keyOK (ix keysS i.toNat) = true ∧ (ix keysS i.toNat).length ≤ 5 := fun i h0 h1 => by
    have : i = 0 ∨ i = 1 ∨ i = 2 ∨ i = 3 ∨ i = 4 := by omega
    rcases this with rfl | rfl | rfl | rfl | rfl <;> decide
  exact key _ n1.1.1 n2
def plStep (q : Sto × Src) : Sto × Src :=
  let k := q.2.shortK
  let a := k.2.next 5
  let d := Src.some a.1.toNat a.2
  if q.1.has k.1 = true then
    let c := d.2.next 4
    (if c.1 = 3 then wo q.1 k.1 else q.1.put k.1 d.1, c.2)
  else
    let b := d.2.next 5
    let e := Src.some b.1.toNat b.2
    (q.1.put k.1 e.1, e.2)
def plIt : Nat → Sto × Src → Sto × Src
  | 0, x => x
  | k + 1, x => plStep (plIt k x)
structure PLok (q : Sto × Src) (n : Nat) (k : Int) : Prop where
  ok : q.1.ok = true
  len : q.1.os.length ≤ n
  nx : q.1.next ≤ 1 + (n : Int)
  src : q.2.ok k
theorem put_ok {s : Sto} {k d : List UInt8} (hs : s.ok = true) (hk : keyOK k = true) (hd : d.length ≤ 600) (h1 : s.os.length < 300) (h2 : s.next < 1000000000) :
    s.room k d = 0 ∧ s.put k d = s.set k d ∧ (s.put k d).ok = true ∧ (s.put k d).next = s.next + 1 ∧ (s.put k d).os.length ≤ s.os.length + 1 := by
  have hr := room_yes (s := s) (k := k) (d := d) hd h1 h2
  have e : s.put k d = s.set k d := by unfold Sto.put; rw [if_pos hr]
  rw [e]
  exact ⟨hr, rfl, set_ok hs hk hr, rfl, set_len_le _ _ _⟩
theorem plStep_ok {q : Sto × Src} {n : Nat} {k : Int} (h : PLok q n k) (hn : n ≤ 100) (hk : 0 ≤ k) : PLok (plStep q) (n + 1) (k + 50) := by
  obtain ⟨h1, h2, h3, h4⟩ := h
  obtain ⟨k1, k2, k3⟩ := shortK_ok q.2 h4 hk
  have a1 := next_b q.2.shortK.2 k1 (by omega) 5
  have a2 := a1.1.2 (by omega)
  have s1 := some_ok (q.2.shortK.2.next 5).2 a1.2.1 (by omega) (q.2.shortK.2.next 5).1.toNat
  have hd1 : (Src.some (q.2.shortK.2.next 5).1.toNat (q.2.shortK.2.next 5).2).1.length ≤ 600 := by rw [s1.2]; omega
  unfold plStep
  dsimp only
  by_cases hh : q.1.has q.2.shortK.1 = true
  · rw [if_pos hh]
    have c1 := next_b _ s1.1 (by omega) 4
    obtain ⟨p1, p2, p3, p4, p5⟩ := put_ok h1 k2 hd1 (by omega) (by omega)
    by_cases hc : ((Src.some (q.2.shortK.2.next 5).1.toNat (q.2.shortK.2.next 5).2).2.next 4).1 = 3
    · rw [if_pos hc]
      have := wo_len q.1 q.2.shortK.1
      exact ⟨wo_ok h1 _, Nat.le_trans this (by omega), by show q.1.next ≤ _; omega, wk c1.2.1 (by omega)⟩
    · rw [if_neg hc]
      exact ⟨p3, by show (q.1.put _ _).os.length ≤ _; omega, by show (q.1.put _ _).next ≤ _; omega, wk c1.2.1 (by omega)⟩
  · rw [if_neg hh]
    have c1 := next_b _ s1.1 (by omega) 5
    have c2 := c1.1.2 (by omega)
    have s2 := some_ok _ c1.2.1 (by omega) ((Src.some (q.2.shortK.2.next 5).1.toNat (q.2.shortK.2.next 5).2).2.next 5).1.toNat
    obtain ⟨p1, p2, p3, p4, p5⟩ := put_ok h1 k2 (d := (Src.some ((Src.some (q.2.shortK.2.next 5).1.toNat (q.2.shortK.2.next 5).2).2.next 5).1.toNat ((Src.some (q.2.shortK.2.next 5).1.toNat (q.2.shortK.2.next 5).2).2.next 5).2).1) (by rw [s2.2]; omega) (by omega) (by omega)
    exact ⟨p3, by show (q.1.put _ _).os.length ≤ _; omega, by show (q.1.put _ _).next ≤ _; omega, wk s2.1 (by omega)⟩
def stoN0 : Sto := ⟨[], 1⟩
theorem plIt_ok {s : Src} {k : Int} (h : s.ok k) (hk : 0 ≤ k) : ∀ n, n ≤ 100 → PLok (plIt n (stoN0, s)) n (k + 50 * n)
  | 0, _ => ⟨(by decide : stoN0.ok = true), (by decide : stoN0.os.length ≤ 0), (by decide : stoN0.next ≤ 1 + ((0 : Nat) : Int)), wk h (by omega)⟩
  | n + 1, hn => by
    have ih := plIt_ok h hk n (by omega)
    have := plStep_ok ih (by omega) (by omega)
    exact ⟨this.1, this.2, this.3, wk this.4 (by omega)⟩
def Src.pStore (s : Src) : Sto × Src := plIt (s.next 9).1.toNat (stoN0, (s.next 9).2)
def unL (x : Sto) : Sto := if x.has leaK = true then wo x leaK else x
def Src.leL (s : Src) : Lea × Src :=
  let a := s.next 4
  let b := a.2.next 3
  let d := b.2.next 30
  let e := d.2.next 4
  (⟨1 + a.1, b.1, if ((e.1 * 3).tmod 4).tmod 2 = 0 then 0 else 10 + d.1⟩, e.2)
def Src.leased (s : Src) : Sto :=
  let p := s.pStore
  let c := p.2.next 4
  if c.1 = 3 then unL p.1 else (unL p.1).set leaK (c.2.leL).1.text
def Src.leasedR (s : Src) : Src :=
  let p := s.pStore
  let c := p.2.next 4
  if c.1 = 3 then c.2 else (c.2.leL).2
end Go.Proofs.YtfaffgneccjpbaaGreatDoor
set_option linter.unusedVariables false
set_option linter.constructorNameAsVariable false
set_option linter.unusedSimpArgs false
set_option maxRecDepth 20000
namespace Go.Proofs.YtfaffgneccjpbaaGreatDoor
open Go Go.Vw

theorem filter_snoc {α : Type} [Inhabited α] {L : List α} {p : α → Bool} {i : Nat} (h : i < L.length) : (L.take (i + 1)).filter p = if p (ix L i) = true then (L.take i).filter p ++ [ix L i] else (L.take i).filter p := by
  rw [take_snoc h, List.filter_append]
  by_cases hp : p (ix L i) = true
  · rw [if_pos hp]; simp [hp]
  · rw [if_neg hp]; simp [hp]
def kept {α : Type} (p : α → Bool) (L : List α) (j : Nat) : List α := ((L.take j).filter fun e => !p e) ++ L.drop ((L.take j).filter fun e => !p e).length
theorem kept_at {α : Type} [Inhabited α] {L : List α} {p : α → Bool} {j : Nat} (h : j < L.length) (hk : ((L.take j).filter fun e => !p e).length ≤ j) : ix (kept p L j) j = ix L j := by
  unfold kept
  rw [ix_app_r hk, ix_drop]
  congr 1; omega
theorem kept_next {α : Type} [Inhabited α] {L : List α} {p : α → Bool} {j : Nat} (h : j < L.length) (hp : p (ix L j) = false) (hk : ((L.take j).filter fun e => !p e).length < j) : ∀ k, k < L.length → ix (kept p L (j + 1)) k = if k = ((L.take j).filter fun e => !p e).length then ix L j else ix (kept p L j) k := by
  intro k hkL
  have hsn := filter_snoc (p := fun e => !p e) h
  rw [if_pos (by rw [hp]; rfl)] at hsn
  unfold kept
  rw [hsn]
  generalize (L.take j).filter (fun e => !p e) = K at hk
  have e1 : (K ++ [ix L j]).length = K.length + 1 := by simp
  split
  · rename_i hc
    subst hc
    rw [ix_app_l (by omega), ix_app_r (Nat.le_refl _), Nat.sub_self]; rfl
  · rename_i hc
    rcases Nat.lt_or_ge k K.length with h1 | h1
    · rw [ix_app_l (by omega), ix_app_l h1, ix_app_l h1]
    · rw [ix_app_r (by omega), ix_app_r h1, ix_drop, ix_drop, e1]
      congr 1; omega
theorem filter_lt {α : Type} [Inhabited α] {L : List α} {p : α → Bool} {i j : Nat} (hij : i < j) (hj : j ≤ L.length) (h : p (ix L i) = false) : ((L.take j).filter p).length < j := by
  have hi : i < L.length := by omega
  have e : L.take j = L.take i ++ (ix L i :: (L.drop (i + 1)).take (j - (i + 1))) := by
    have h1 : L = L.take i ++ (ix L i :: L.drop (i + 1)) := by rw [ix_lt hi]; simp
    have h2 := congrArg (List.take j) h1
    rw [h2, List.take_append, List.take_of_length_le (by simp; omega)]
    congr 1
    have : j - (L.take i).length = (j - (i + 1)) + 1 := by simp; omega
    rw [this, List.take_succ_cons]
  rw [e, List.filter_append, List.filter_cons_of_neg (by rw [h]; simp), List.length_append]
  have a := List.length_filter_le p (L.take i)
  have b := List.length_filter_le p ((L.drop (i + 1)).take (j - (i + 1)))
  simp only [List.length_take, List.length_drop] at a b
  omega
theorem DelEn_some (L : List En) (hL : L.length ≤ 1000000) (F : Nat) (row : List AV) (p : En → Bool) (hp : ∀ e ∈ L, VFn Tryz.prog F [e.av, .eptr row 0] (.bool (p e))) (hs : L.any p = true) :
    FnM Tryz.prog 150 1 [.osl 0, .fn (.func F) [] [.eptr row 0]] [(0, .arr 35 4 L.length fun i => (ix L i).row)] (.osl 1) [(1, .arr 35 4 (L.filter fun e => !p e).length fun i => (ix (L.filter fun e => !p e) i).row)] 2 := by
  have c := IndexEn_1 L (by omega) F row p hp
  obtain ⟨i0, hi0, hfi, hp0⟩ : ∃ i0 : Nat, i0 < L.length ∧ fi p L = (i0 : Int) ∧ p (ix L i0) = true ∧ ∀ j, j < i0 → p (ix L j) = false := by
    rcases fi_first p L with ⟨h, _⟩ | h
    · have := fi_any (p := p) (L := L)
      rw [h, hs] at this; simp at this
    · exact h
  rw [hfi] at c
  have hk0 : (L.take (i0 + 1)).filter (fun e => !p e) = L.take i0 := by
    rw [filter_snoc hi0, if_neg (by rw [hp0.1]; simp)]
    exact List.filter_eq_self.2 fun x hx => by
      obtain ⟨j, hj, rfl⟩ := List.getElem_of_mem hx
      have hj' : j < i0 := by simp at hj; omega
      have := hp0.2 j hj'
      rw [ix_lt (by omega)] at this
      simp [this]
  have hlt : ∀ j, i0 < j → j ≤ L.length → ((L.take j).filter fun e => !p e).length < j := fun j h1 h2 => filter_lt h1 h2 (by rw [hp0.1]; rfl)
  refine FnM.introC Tryz.call150 Tryz.func150 rfl rfl ?_
  conv => whnf
  refine CallC.sca _ (c) ?_ ?_
  · exact rfl
  refine And.intro (inI64 (by omega) (by omega)) ?_
  refine LoopC.mk (fun j : Nat => i0 < j ∧ j ≤ L.length) (fun j => [(0, .osl 0), (1, .fn (.func F) [] [.eptr row 0]), (5, .int .i64 ((L.take j).filter fun e => !p e).length), (6, .int .i64 j)])
    (fun j => [(0, .arr 35 4 L.length fun i => (ix (kept p L j) i).row)]) 1 (fun j => L.length - j) (i0 + 1)
    ⟨⟨by omega, hi0⟩, [(0, 0)], rfl, rfl, ⟨AVle.refl _, AVle.refl _, AVle.of_eq (congrArg (AV.int .i64) (by rw [hk0]; simp; omega)), AVle.of_eq (congrArg (AV.int .i64) (by simp)), trivial⟩, ⟨MOle.arr rfl fun i hi => by
      have e : kept p L (i0 + 1) = L := by unfold kept; rw [hk0]; simp only [List.length_take]; rw [Nat.min_eq_left (by omega)]; simp
      rw [e], trivial⟩⟩ ?_
  intro j hj
  obtain ⟨hj1, hj2⟩ := hj
  have hkl := hlt j hj1 hj2
  refine Grd.intro (fun h2 => ?_) (fun h2 => ?_)
  · have hjn : j < L.length := by have := of_decide_eq_true h2; omega
    have hsn := filter_snoc (p := fun e => !p e) hjn
    have e := kept_at (p := p) hjn (Nat.le_of_lt hkl)
    have cp := hp (ix L j) (getD_mem hjn)
    rw [← e] at cp
    refine And.intro (by omega) ?_
    conv => whnf
    refine CallC.sca _ (cp) ?_ ?_
    · exact rfl
    refine Grd.intro (fun h3 => ?_) (fun h3 => ?_)
    · have h3 : p (ix L j) = false := by rw [e] at h3; simpa using h3
      rw [h3] at hsn
      have hl := hlt (j + 1) (by omega) hjn
      rw [hsn] at hl
      simp at hl
      refine And.intro (by omega) ?_
      refine And.intro (inI64 (by omega) (by omega)) ?_
      refine And.intro (inI64 (by omega) (by omega)) ?_
      refine ⟨j + 1, ⟨by omega, hjn⟩, by omega, [(0, 0)], rfl, rfl, ⟨AVle.refl _, AVle.refl _, AVle.of_eq (congrArg (AV.int .i64) (by rw [hsn]; simp)), AVle.of_eq (congrArg (AV.int .i64) (by simp)), trivial⟩, ⟨MOle.arr rfl fun k hk => ?_, trivial⟩⟩
      have en := kept_next hjn h3 hkl k hk
      by_cases hkc : k = ((L.take j).filter fun e => !p e).length
      · rw [en, if_pos hkc, ← e]
        show (bif Nat.beq k ((L.take j).filter fun e => !p e).length then _ else _) = _
        rw [hkc, beq_t]; rfl
      · rw [en, if_neg hkc]
        show (bif Nat.beq k ((L.take j).filter fun e => !p e).length then _ else _) = _
        rw [beq_f hkc]; rfl
    · have h3 : p (ix L j) = true := by rw [e] at h3; simpa using h3
      rw [h3] at hsn
      refine And.intro (inI64 (by omega) (by omega)) ?_
      refine ⟨j + 1, ⟨by omega, hjn⟩, by omega, [(0, 0)], rfl, rfl, ⟨AVle.refl _, AVle.refl _, AVle.of_eq (congrArg (AV.int .i64) (by rw [hsn]; simp)), AVle.of_eq (congrArg (AV.int .i64) (by simp)), trivial⟩, ⟨MOle.arr rfl fun k hk => ?_, trivial⟩⟩
      have e2 : kept p L (j + 1) = kept p L j := by unfold kept; rw [hsn]; simp
      rw [e2]
  · have : j = L.length := by have := of_decide_eq_false h2; omega
    subst this
    have eT : L.take L.length = L := List.take_of_length_le (Nat.le_refl _)
    obtain ⟨c, hc⟩ : ∃ c, c = ((L.take L.length).filter fun e => !p e).length := ⟨_, rfl⟩
    have hk : ∀ k, k < c → ix (kept p L L.length) k = ix (L.filter fun e => !p e) k := fun k hk => by
      unfold kept
      rw [ix_app_l (by omega), eT]
    have hcl : c = (L.filter fun e => !p e).length := by rw [hc, eT]
    rw [← hc] at hkl
    rw [← hc]
    refine And.intro ⟨by omega, by omega⟩ ?_
    conv => whnf
    refine OpC.clear rfl rfl rfl rfl rfl rfl rfl (by show 1 ≤ L.length - ((c : Int)).toNat; omega) ?_
    conv => whnf
    refine OpC.head rfl rfl rfl rfl rfl rfl rfl ⟨by omega, by omega⟩ ?_
    refine And.intro trivial ⟨[(0, 0), (1, 1)], rfl, AVle.refl _, ⟨MOle.arr (by show ((c : Int)).toNat = _; omega) fun k hk' => ?_, trivial⟩⟩
    have hk' : k < c := by have : k < ((c : Int)).toNat := hk'; omega
    rw [← hk k hk']
    show (bif Nat.blt k ((c : Int)).toNat then _ else _) = _
    rw [blt_t (show k < ((c : Int)).toNat by omega)]; rfl
theorem DelTb_some (L : List Tb) (hL : L.length ≤ 1000000) (F : Nat) (row : List AV) (p : Tb → Bool) (hp : ∀ e ∈ L, VFn Tryz.prog F [e.av, .eptr row 0] (.bool (p e))) (hs : L.any p = true) :
    FnM Tryz.prog 152 1 [.osl 0, .fn (.func F) [] [.eptr row 0]] [(0, .arr 136 2 L.length fun i => (ix L i).row)] (.osl 1) [(1, .arr 136 2 (L.filter fun e => !p e).length fun i => (ix (L.filter fun e => !p e) i).row)] 2 := by
  have c := IndexTb_1 L (by omega) F row p hp
  obtain ⟨i0, hi0, hfi, hp0⟩ : ∃ i0 : Nat, i0 < L.length ∧ fi p L = (i0 : Int) ∧ p (ix L i0) = true ∧ ∀ j, j < i0 → p (ix L j) = false := by
    rcases fi_first p L with ⟨h, _⟩ | h
    · have := fi_any (p := p) (L := L)
      rw [h, hs] at this; simp at this
    · exact h
  rw [hfi] at c
  have hk0 : (L.take (i0 + 1)).filter (fun e => !p e) = L.take i0 := by
    rw [filter_snoc hi0, if_neg (by rw [hp0.1]; simp)]
    exact List.filter_eq_self.2 fun x hx => by
      obtain ⟨j, hj, rfl⟩ := List.getElem_of_mem hx
      have hj' : j < i0 := by simp at hj; omega
      have := hp0.2 j hj'
      rw [ix_lt (by omega)] at this
      simp [this]
  have hlt : ∀ j, i0 < j → j ≤ L.length → ((L.take j).filter fun e => !p e).length < j := fun j h1 h2 => filter_lt h1 h2 (by rw [hp0.1]; rfl)
  refine FnM.introC Tryz.call152 Tryz.func152 rfl rfl ?_
  conv => whnf
  refine CallC.sca _ (c) ?_ ?_
  · exact rfl
  refine And.intro (inI64 (by omega) (by omega)) ?_
  refine LoopC.mk (fun j : Nat => i0 < j ∧ j ≤ L.length) (fun j => [(0, .osl 0), (1, .fn (.func F) [] [.eptr row 0]), (5, .int .i64 ((L.take j).filter fun e => !p e).length), (6, .int .i64 j)])
    (fun j => [(0, .arr 136 2 L.length fun i => (ix (kept p L j) i).row)]) 1 (fun j => L.length - j) (i0 + 1)
    ⟨⟨by omega, hi0⟩, [(0, 0)], rfl, rfl, ⟨AVle.refl _, AVle.refl _, AVle.of_eq (congrArg (AV.int .i64) (by rw [hk0]; simp; omega)), AVle.of_eq (congrArg (AV.int .i64) (by simp)), trivial⟩, ⟨MOle.arr rfl fun i hi => by
      have e : kept p L (i0 + 1) = L := by unfold kept; rw [hk0]; simp only [List.length_take]; rw [Nat.min_eq_left (by omega)]; simp
      rw [e], trivial⟩⟩ ?_
  intro j hj
  obtain ⟨hj1, hj2⟩ := hj
  have hkl := hlt j hj1 hj2
  refine Grd.intro (fun h2 => ?_) (fun h2 => ?_)
  · have hjn : j < L.length := by have := of_decide_eq_true h2; omega
    have hsn := filter_snoc (p := fun e => !p e) hjn
    have e := kept_at (p := p) hjn (Nat.le_of_lt hkl)
    have cp := hp (ix L j) (getD_mem hjn)
    rw [← e] at cp
    refine And.intro (by omega) ?_
    conv => whnf
    refine CallC.sca _ (cp) ?_ ?_
    · exact rfl
    refine Grd.intro (fun h3 => ?_) (fun h3 => ?_)
    · have h3 : p (ix L j) = false := by rw [e] at h3; simpa using h3
      rw [h3] at hsn
      have hl := hlt (j + 1) (by omega) hjn
      rw [hsn] at hl
      simp at hl
      refine And.intro (by omega) ?_
      refine And.intro (inI64 (by omega) (by omega)) ?_
      refine And.intro (inI64 (by omega) (by omega)) ?_
      refine ⟨j + 1, ⟨by omega, hjn⟩, by omega, [(0, 0)], rfl, rfl, ⟨AVle.refl _, AVle.refl _, AVle.of_eq (congrArg (AV.int .i64) (by rw [hsn]; simp)), AVle.of_eq (congrArg (AV.int .i64) (by simp)), trivial⟩, ⟨MOle.arr rfl fun k hk => ?_, trivial⟩⟩
      have en := kept_next hjn h3 hkl k hk
      by_cases hkc : k = ((L.take j).filter fun e => !p e).length
      · rw [en, if_pos hkc, ← e]
        show (bif Nat.beq k ((L.take j).filter fun e => !p e).length then _ else _) = _
        rw [hkc, beq_t]; rfl
      · rw [en, if_neg hkc]
        show (bif Nat.beq k ((L.take j).filter fun e => !p e).length then _ else _) = _
        rw [beq_f hkc]; rfl
    · have h3 : p (ix L j) = true := by rw [e] at h3; simpa using h3
      rw [h3] at hsn
      refine And.intro (inI64 (by omega) (by omega)) ?_
      refine ⟨j + 1, ⟨by omega, hjn⟩, by omega, [(0, 0)], rfl, rfl, ⟨AVle.refl _, AVle.refl _, AVle.of_eq (congrArg (AV.int .i64) (by rw [hsn]; simp)), AVle.of_eq (congrArg (AV.int .i64) (by simp)), trivial⟩, ⟨MOle.arr rfl fun k hk => ?_, trivial⟩⟩
      have e2 : kept p L (j + 1) = kept p L j := by unfold kept; rw [hsn]; simp
      rw [e2]
  · have : j = L.length := by have := of_decide_eq_false h2; omega
    subst this
    have eT : L.take L.length = L := List.take_of_length_le (Nat.le_refl _)
    obtain ⟨c, hc⟩ : ∃ c, c = ((L.take L.length).filter fun e => !p e).length := ⟨_, rfl⟩
    have hk : ∀ k, k < c → ix (kept p L L.length) k = ix (L.filter fun e => !p e) k := fun k hk => by
      unfold kept
      rw [ix_app_l (by omega), eT]
    have hcl : c = (L.filter fun e => !p e).length := by rw [hc, eT]
    rw [← hc] at hkl
    rw [← hc]
    refine And.intro ⟨by omega, by omega⟩ ?_
    conv => whnf
    refine OpC.clear rfl rfl rfl rfl rfl rfl rfl (by show 1 ≤ L.length - ((c : Int)).toNat; omega) ?_
    conv => whnf
    refine OpC.head rfl rfl rfl rfl rfl rfl rfl ⟨by omega, by omega⟩ ?_
    refine And.intro trivial ⟨[(0, 0), (1, 1)], rfl, AVle.refl _, ⟨MOle.arr (by show ((c : Int)).toNat = _; omega) fun k hk' => ?_, trivial⟩⟩
    have hk' : k < c := by have : k < ((c : Int)).toNat := hk'; omega
    rw [← hk k hk']
    show (bif Nat.blt k ((c : Int)).toNat then _ else _) = _
    rw [blt_t (show k < ((c : Int)).toNat by omega)]; rfl
end Go.Proofs.YtfaffgneccjpbaaGreatDoor
set_option linter.unusedVariables false
set_option linter.constructorNameAsVariable false
set_option linter.unusedSimpArgs false
set_option maxRecDepth 20000
namespace Go.Proofs.YtfaffgneccjpbaaGreatDoor
open Go Go.Vw

def riseS (q : Int × Bool) (r : Rc) (took : Bool) : Int × Bool :=
  if took = true then (if r.k = 2 then (r.tok, q.2 && decide (q.1 < r.tok)) else if r.k = 3 ∨ r.k = 4 then (q.1, q.2 && decide (r.tok = q.1)) else q) else q
def riseN (x : Sto) : Nat → Int × Bool
  | 0 => (0, true)
  | n + 1 => match recAt x ((n : Int) + 1) with
    | none => riseN x n
    | some r => riseS (riseN x n) r ((logN x n).takes r)
theorem riseS_no {q : Int × Bool} {r : Rc} {t : Bool} (h : q.2 = false) : (riseS q r t).2 = false := by
  unfold riseS
  split
  · split
    · simp [h]
    · split
      · simp [h]
      · exact h
  · exact h
theorem riseN_mono (x : Sto) : ∀ n i, i ≤ n → (riseN x i).2 = false → (riseN x n).2 = false
  | 0, i, h, hf => by have : i = 0 := by omega
                      subst this; exact hf
  | n + 1, i, h, hf => by
    rcases Nat.lt_or_ge n i with h1 | h1
    · have : i = n + 1 := by omega
      subst this; exact hf
    · have ih := riseN_mono x n i h1 hf
      unfold riseN
      split
      · exact ih
      · exact riseS_no ih
theorem firstNo_ge {p : Nat → Bool} : ∀ f n m, (∀ j, n ≤ j → j < m → p j = true) → m ≤ n + f → m ≤ firstNo p f n
  | 0, n, m, _, h => h
  | f + 1, n, m, hp, h => by
    unfold firstNo
    rcases Nat.lt_or_ge n m with h1 | h1
    · rw [if_pos (hp n (Nat.le_refl _) h1)]
      exact firstNo_ge f (n + 1) m (fun j hj => hp j (by omega)) (by omega)
    · split
      · have := firstNo_ge f (n + 1) m (fun j hj => hp j (by omega)) (by omega); omega
      · exact h1
/-- what is of no use: data of which nothing in a state knows, nor will -/
def Sta.orph (s : Sta) (k : List UInt8) : Bool := kOk k && (!s.has k && ((decide (kT k = 0) && decide (kN k ≤ s.seq)) || (decide (0 < kT k) && decide (kW k < s.fence))))
def dataKs (x : Sto) : List (List UInt8) := (x.os.map (·.key)).filter kOk
end Go.Proofs.YtfaffgneccjpbaaGreatDoor
set_option linter.unusedVariables false
set_option linter.constructorNameAsVariable false
set_option linter.unusedSimpArgs false
set_option maxRecDepth 20000
namespace Go.Proofs.YtfaffgneccjpbaaGreatDoor
open Go Go.Vw

theorem IndexOb_1 (L : List Ob) (hL : L.length ≤ 9223372036854775807) (F : Nat) (row : List AV) (p : Ob → Bool) (hp : ∀ e ∈ L, VFn Tryz.prog F [e.av, .eptr row 0] (.bool (p e))) :
    VFn Tryz.prog 159 [obs L, .fn (.func F) [] [.eptr row 0]] (.int .i64 (fi p L)) := by
  refine VFn.introC Tryz.call159 Tryz.func159 rfl rfl ?_
  refine LoopC.mk (fun i : Nat => i ≤ L.length ∧ ∀ j, j < i → p (ix L j) = false) (fun i => [(0, obs L), (1, .fn (.func F) [] [.eptr row 0]), (7, .int .i64 L.length), (8, .int .i64 i)]) (fun _ => []) 0 (fun i => L.length - i) 0
    ⟨⟨Nat.zero_le _, fun j hj => absurd hj (Nat.not_lt_zero j)⟩, [], rfl, rfl, ⟨AVle.refl _, AVle.refl _, AVle.refl _, AVle.refl _, trivial⟩, trivial⟩ ?_
  intro i hi
  refine Grd.intro (fun h2 => ?_) (fun h2 => ?_)
  · have hin : i < L.length := by have := of_decide_eq_true h2; omega
    refine And.intro (by omega) ?_
    conv => whnf
    refine CallC.sca _ (hp (ix L i) (getD_mem hin)) ?_ ?_
    · exact rfl
    refine Grd.intro (fun h3 => ?_) (fun h3 => ?_)
    · exact And.intro trivial (AVle.of_eq (congrArg (AV.int .i64) (fi_at hin hi.2 h3).symm))
    · refine And.intro (inI64 (by omega) (by omega)) ?_
      exact ⟨i + 1, ⟨hin, fun j hj => by
        rcases Nat.lt_or_ge j i with h' | h'
        · exact hi.2 j h'
        · rw [show j = i by omega]; exact h3⟩, by omega, [], rfl, rfl, ⟨AVle.refl _, AVle.refl _, AVle.refl _, AVle.of_eq (congrArg (AV.int .i64) (by simp)), trivial⟩, trivial⟩
  · have : i = L.length := by have := of_decide_eq_false h2; omega
    subst this
    exact And.intro trivial (AVle.of_eq (congrArg (AV.int .i64) (fi_none hi.2).symm))
theorem DelOb_some (L : List Ob) (hL : L.length ≤ 1000000) (F : Nat) (row : List AV) (p : Ob → Bool) (hp : ∀ e ∈ L, VFn Tryz.prog F [e.av, .eptr row 0] (.bool (p e))) (hs : L.any p = true) :
    FnM Tryz.prog 132 1 [.osl 0, .fn (.func F) [] [.eptr row 0]] [(0, .arr 100 3 L.length fun i => (ix L i).row)] (.osl 1) [(1, .arr 100 3 (L.filter fun e => !p e).length fun i => (ix (L.filter fun e => !p e) i).row)] 2 := by
  have c := IndexOb_1 L (by omega) F row p hp
  obtain ⟨i0, hi0, hfi, hp0⟩ : ∃ i0 : Nat, i0 < L.length ∧ fi p L = (i0 : Int) ∧ p (ix L i0) = true ∧ ∀ j, j < i0 → p (ix L j) = false := by
    rcases fi_first p L with ⟨h, _⟩ | h
    · have := fi_any (p := p) (L := L)
      rw [h, hs] at this; simp at this
    · exact h
  rw [hfi] at c
  have hk0 : (L.take (i0 + 1)).filter (fun e => !p e) = L.take i0 := by
    rw [filter_snoc hi0, if_neg (by rw [hp0.1]; simp)]
    exact List.filter_eq_self.2 fun x hx => by
      obtain ⟨j, hj, rfl⟩ := List.getElem_of_mem hx
      have hj' : j < i0 := by simp at hj; omega
      have := hp0.2 j hj'
      rw [ix_lt (by omega)] at this
      simp [this]
  have hlt : ∀ j, i0 < j → j ≤ L.length → ((L.take j).filter fun e => !p e).length < j := fun j h1 h2 => filter_lt h1 h2 (by rw [hp0.1]; rfl)
  refine FnM.introC Tryz.call132 Tryz.func132 rfl rfl ?_
  conv => whnf
  refine CallC.sca _ (c) ?_ ?_
  · exact rfl
  refine And.intro (inI64 (by omega) (by omega)) ?_
  refine LoopC.mk (fun j : Nat => i0 < j ∧ j ≤ L.length) (fun j => [(0, .osl 0), (1, .fn (.func F) [] [.eptr row 0]), (5, .int .i64 ((L.take j).filter fun e => !p e).length), (6, .int .i64 j)])
    (fun j => [(0, .arr 100 3 L.length fun i => (ix (kept p L j) i).row)]) 1 (fun j => L.length - j) (i0 + 1)
    ⟨⟨by omega, hi0⟩, [(0, 0)], rfl, rfl, ⟨AVle.refl _, AVle.refl _, AVle.of_eq (congrArg (AV.int .i64) (by rw [hk0]; simp; omega)), AVle.of_eq (congrArg (AV.int .i64) (by simp)), trivial⟩, ⟨MOle.arr rfl fun i hi => by
      have e : kept p L (i0 + 1) = L := by unfold kept; rw [hk0]; simp only [List.length_take]; rw [Nat.min_eq_left (by omega)]; simp
      rw [e], trivial⟩⟩ ?_
  intro j hj
  obtain ⟨hj1, hj2⟩ := hj
  have hkl := hlt j hj1 hj2
  refine Grd.intro (fun h2 => ?_) (fun h2 => ?_)
  · have hjn : j < L.length := by have := of_decide_eq_true h2; omega
    have hsn := filter_snoc (p := fun e => !p e) hjn
    have e := kept_at (p := p) hjn (Nat.le_of_lt hkl)
    have cp := hp (ix L j) (getD_mem hjn)
    rw [← e] at cp
    refine And.intro (by omega) ?_
    conv => whnf
    refine CallC.sca _ (cp) ?_ ?_
    · exact rfl
    refine Grd.intro (fun h3 => ?_) (fun h3 => ?_)
    · have h3 : p (ix L j) = false := by rw [e] at h3; simpa using h3
      rw [h3] at hsn
      have hl := hlt (j + 1) (by omega) hjn
      rw [hsn] at hl
      simp at hl
      refine And.intro (by omega) ?_
      refine And.intro (inI64 (by omega) (by omega)) ?_
      refine And.intro (inI64 (by omega) (by omega)) ?_
      refine ⟨j + 1, ⟨by omega, hjn⟩, by omega, [(0, 0)], rfl, rfl, ⟨AVle.refl _, AVle.refl _, AVle.of_eq (congrArg (AV.int .i64) (by rw [hsn]; simp)), AVle.of_eq (congrArg (AV.int .i64) (by simp)), trivial⟩, ⟨MOle.arr rfl fun k hk => ?_, trivial⟩⟩
      have en := kept_next hjn h3 hkl k hk
      by_cases hkc : k = ((L.take j).filter fun e => !p e).length
      · rw [en, if_pos hkc, ← e]
        show (bif Nat.beq k ((L.take j).filter fun e => !p e).length then _ else _) = _
        rw [hkc, beq_t]; rfl
      · rw [en, if_neg hkc]
        show (bif Nat.beq k ((L.take j).filter fun e => !p e).length then _ else _) = _
        rw [beq_f hkc]; rfl
    · have h3 : p (ix L j) = true := by rw [e] at h3; simpa using h3
      rw [h3] at hsn
      refine And.intro (inI64 (by omega) (by omega)) ?_
      refine ⟨j + 1, ⟨by omega, hjn⟩, by omega, [(0, 0)], rfl, rfl, ⟨AVle.refl _, AVle.refl _, AVle.of_eq (congrArg (AV.int .i64) (by rw [hsn]; simp)), AVle.of_eq (congrArg (AV.int .i64) (by simp)), trivial⟩, ⟨MOle.arr rfl fun k hk => ?_, trivial⟩⟩
      have e2 : kept p L (j + 1) = kept p L j := by unfold kept; rw [hsn]; simp
      rw [e2]
  · have : j = L.length := by have := of_decide_eq_false h2; omega
    subst this
    have eT : L.take L.length = L := List.take_of_length_le (Nat.le_refl _)
    obtain ⟨c, hc⟩ : ∃ c, c = ((L.take L.length).filter fun e => !p e).length := ⟨_, rfl⟩
    have hk : ∀ k, k < c → ix (kept p L L.length) k = ix (L.filter fun e => !p e) k := fun k hk => by
      unfold kept
      rw [ix_app_l (by omega), eT]
    have hcl : c = (L.filter fun e => !p e).length := by rw [hc, eT]
    rw [← hc] at hkl
    rw [← hc]
    refine And.intro ⟨by omega, by omega⟩ ?_
    conv => whnf
    refine OpC.clear rfl rfl rfl rfl rfl rfl rfl (by show 1 ≤ L.length - ((c : Int)).toNat; omega) ?_
    conv => whnf
    refine OpC.head rfl rfl rfl rfl rfl rfl rfl ⟨by omega, by omega⟩ ?_
    refine And.intro trivial ⟨[(0, 0), (1, 1)], rfl, AVle.refl _, ⟨MOle.arr (by show ((c : Int)).toNat = _; omega) fun k hk' => ?_, trivial⟩⟩
    have hk' : k < c := by have : k < ((c : Int)).toNat := hk'; omega
    rw [← hk k hk']
    show (bif Nat.blt k ((c : Int)).toNat then _ else _) = _
    rw [blt_t (show k < ((c : Int)).toNat by omega)]; rfl
theorem has_of_mem {x : Sto} (hs : x.ok = true) {k : List UInt8} (h : k ∈ x.os.map (·.key)) : x.has k = true := by
  obtain ⟨o, ho, rfl⟩ := List.mem_map.1 h
  have h1 := Srt.fi (Sto.srt hs) o.key
  have h2 := fi_any (p := fun q : Ob => decide (q.key = o.key)) (L := x.os)
  rw [List.any_eq_true.2 ⟨o, ho, decide_eq_true rfl⟩, h1] at h2
  cases hh : hasK o.key x.os with
  | true => exact hh
  | false => rw [hh] at h2; simp at h2
theorem without1_fn (o : Ob) (k : List UInt8) : VFn Tryz.prog 133 [o.av, .eptr [.str (B k)] 0] (.bool (decide (o.key = k))) := by
  refine VFn.introC Tryz.call133 Tryz.func133 rfl rfl ?_
  exact And.intro trivial (AVle.of_eq (congrArg AV.bool (show ((B o.key).toList == (B k).toList) = _ from B_eq)))
theorem without_own (x : Sto) (hs : x.ok = true) (k : List UInt8) (hk : x.has k = true) : FnM Tryz.prog 88 0 [x.av, .str (B k)] [] (wo x k).own [(0, .arr 100 3 (wo x k).os.length fun i => (ix (wo x k).os i).row)] 1 := by
  have hL := (Sto.ok_at hs).2.1
  have hany : x.os.any (fun o => decide (o.key = k)) = true := by
    obtain ⟨h1, h2⟩ := hasK_at hk
    exact List.any_eq_true.2 ⟨_, getD_mem h1, decide_eq_true h2⟩
  have hd := DelOb_some x.os (by omega) 133 [.str (B k)] (fun o => decide (o.key = k)) (fun o _ => without1_fn o k) hany
  refine FnM.introC Tryz.call88 Tryz.func88 rfl rfl ?_
  conv => whnf
  refine CallC.k [] (copied_own x (by omega)) rfl rfl (AVsle.refl _) trivial rfl ?_
  conv => whnf
  refine CallC.m [(3, 0)] hd rfl rfl (AVsle.refl _) ⟨MOle.refl _, trivial⟩ rfl ⟨fun i hi => rfl, trivial⟩ rfl ?_
  exact And.intro trivial ⟨[(5, 0)], rfl, AVle.refl _, ⟨MOle.refl _, trivial⟩⟩
theorem without_fn (x : Sto) (hs : x.ok = true) (k : List UInt8) (hk : x.has k = true) : VFn Tryz.prog 88 [x.av, .str (B k)] (wo x k).av := (without_own x hs k hk).vfn
end Go.Proofs.YtfaffgneccjpbaaGreatDoor
set_option linter.unusedVariables false
set_option linter.constructorNameAsVariable false
set_option linter.unusedSimpArgs false
set_option maxRecDepth 20000
namespace Go.Proofs.YtfaffgneccjpbaaGreatDoor
open Go Go.Vw

end Go.Proofs.YtfaffgneccjpbaaGreatDoor
set_option linter.unusedVariables false
set_option linter.constructorNameAsVariable false
set_option linter.unusedSimpArgs false
set_option maxRecDepth 20000
namespace Go.Proofs.YtfaffgneccjpbaaGreatDoor
open Go Go.Vw

structure StaOK (s : Sta) : Prop where
  q : 0 ≤ s.seq ∧ s.seq ≤ 999999
  f : 0 ≤ s.fence ∧ s.fence ≤ 999999
  len : s.es.length + s.ts.length ≤ 4096
  es : ∀ e ∈ s.es, e.ok = true
  ts : ∀ t ∈ s.ts, kOk t.key = true ∧ 1 ≤ t.seq ∧ t.seq ≤ s.seq
  nd : s.keys.Nodup
  lo : ∀ k, (k = 0 ∨ k = 1 ∨ k = 2) → 0 ≤ s.lo k ∧ s.lo k ≤ 100000
  runs : ∀ k, (k = 0 ∨ k = 1 ∨ k = 2) → runs (ofT s.es k) (s.lo k) = some (s.hi k)
theorem runs_app1 : ∀ (L : List En) (e : En) (a b : Int), runs L a = some b → e.f = b → runs (L ++ [e]) a = some e.t
  | [], e, a, b, h, h2 => by
    have : a = b := by simpa [runs] using h
    subst this
    simp [runs, h2]
  | x :: r, e, a, b, h, h2 => by
    simp only [runs] at h
    split at h
    · rename_i hx
      simp only [List.cons_append, runs]
      rw [if_pos hx]
      exact runs_app1 r e _ b h h2
    · cases h
theorem en_tier {e : En} (h : e.ok = true) : (e.tier = 0 ∨ e.tier = 1 ∨ e.tier = 2) ∧ 0 ≤ e.f ∧ e.f < e.t ∧ e.t ≤ 100000 ∧ kOk e.key = true := by
  unfold En.ok isRange at h
  simp only [Bool.and_eq_true, decide_eq_true_eq, within] at h
  have := kT_nat e.key
  refine ⟨by omega, by omega, by omega, by omega, h.1⟩
theorem kinds {k tok tier f t : Int} {key : List UInt8} (h : Rc.ok ⟨k, tok, tier, f, t, key⟩ = true) : (k = 1 ∧ tier = 0) ∨ k = 2 ∨ (k = 3 ∧ (tier = 1 ∨ tier = 2) ∧ (0 ≤ f ∧ f ≤ 1000000)) ∨ (k = 4 ∧ (tier = 0 ∨ tier = 1 ∨ tier = 2)) ∨ k = 5 := by
  unfold Rc.ok at h
  dsimp only at h
  by_cases h1 : k = 1
  · rw [if_pos h1] at h
    simp only [Bool.and_eq_true, decide_eq_true_eq] at h
    exact .inl ⟨h1, h.2.1⟩
  rw [if_neg h1] at h
  by_cases h2 : k = 2
  · exact .inr (.inl h2)
  rw [if_neg h2] at h
  by_cases h3 : k = 3
  · rw [if_pos h3] at h
    simp only [Bool.and_eq_true, decide_eq_true_eq] at h
    obtain ⟨ht, hb⟩ := en_tier h.2.2
    have ht : tier = 0 ∨ tier = 1 ∨ tier = 2 := ht
    have hb : 0 ≤ f ∧ f < t ∧ t ≤ 100000 ∧ _ := hb
    exact .inr (.inr (.inl ⟨h3, by have := h.2.1; omega, by omega, by omega⟩))
  rw [if_neg h3] at h
  by_cases h4 : k = 4
  · rw [if_pos h4] at h
    simp only [Bool.and_eq_true] at h
    exact .inr (.inr (.inr (.inl ⟨h4, (en_tier h.2).1⟩)))
  rw [if_neg h4] at h
  by_cases h5 : k = 5
  · exact .inr (.inr (.inr (.inr h5)))
  rw [if_neg h5] at h
  cases h
theorem nodup_key : ∀ {L : List En}, (L.map (·.key)).Nodup → ∀ {a b : En}, a ∈ L → b ∈ L → a.key = b.key → a = b
  | [], _, a, b, ha, _, _ => by cases ha
  | x :: r, nd, a, b, ha, hb, h => by
    rw [List.map_cons] at nd
    have h' := List.nodup_cons.1 nd
    rcases List.mem_cons.1 ha with ha | ha <;> rcases List.mem_cons.1 hb with hb | hb
    · rw [ha, hb]
    · exact absurd (List.mem_map.2 ⟨b, hb, by rw [← h, ha]⟩) h'.1
    · exact absurd (List.mem_map.2 ⟨a, ha, by rw [h, hb]⟩) h'.1
    · exact nodup_key h'.2 ha hb h
end Go.Proofs.YtfaffgneccjpbaaGreatDoor
set_option linter.unusedVariables false
set_option linter.constructorNameAsVariable false
set_option linter.unusedSimpArgs false
set_option maxRecDepth 20000
namespace Go.Proofs.YtfaffgneccjpbaaGreatDoor
open Go Go.Vw

def SSf (x : SS) (f : Int) (n : Nat) : Prop := (f ≤ x.2.1 ∧ x.2.1 ≤ f + 4 * n) ∧ (∀ e ∈ x.1, f ≤ e.t ∧ e.t < x.2.1) ∧ x.1.Pairwise (fun a b => a.t < b.t)
theorem stepf_t {x : SS} {f : Int} {n : Nat} {k : Int} (h : SSf x f n) (hs : x.2.2.ok k) (hk : 0 ≤ k) : SSf (smpStep x) f (n + 1) := by
  obtain ⟨⟨h1, h2⟩, h3, h4⟩ := h
  have n1 := next_b x.2.2 hs hk 4
  have a1 := n1.1.2 (by omega)
  have a0 := n1.1.1
  unfold smpStep
  refine ⟨⟨by simp only; omega, by simp only; omega⟩, fun e he => ?_, ?_⟩
  · simp only [List.mem_append, List.mem_cons, List.not_mem_nil, or_false] at he
    rcases he with he | he
    · have := h3 e he
      simp only; omega
    · subst he
      simp only; omega
  · refine List.pairwise_append.2 ⟨h4, List.pairwise_singleton _ _, fun a ha b hb => ?_⟩
    simp only [List.mem_cons, List.not_mem_nil, or_false] at hb
    subst hb
    have := h3 a ha
    simp only; omega
theorem itf_t {x : SS} {f : Int} {k : Int} (h : SSok x 0 k) (ht : SSf x f 0) (hk : 0 ≤ k) : ∀ n, SSf (smpIt n x) f n
  | 0 => by simpa [smpIt] using ht
  | n + 1 => stepf_t (itf_t h ht hk n) (it_ok h hk n).2.2.1 (by omega)
theorem pairf_smps {L : List Smp} (h : L.Pairwise (fun a b => a.t < b.t)) (ht : ∀ e ∈ L, 0 ≤ e.t ∧ e.t ≤ 99999) (hv : ∀ e ∈ L, -1000000 ≤ e.v ∧ e.v ≤ 1000000) (hl : L.length ≤ 4096) : smpsOK L = true := by
  unfold smpsOK
  rw [decide_eq_true hl, Bool.true_and, allN_iff]
  intro i hi
  have a := ht _ (getD_mem hi)
  have b := hv _ (getD_mem hi)
  unfold smpAt
  simp only [Bool.and_eq_true, Bool.or_eq_true, decide_eq_true_eq, within]
  refine ⟨⟨⟨a.1, a.2⟩, ⟨b.1, b.2⟩⟩, ?_⟩
  rcases Nat.eq_zero_or_pos i with h0 | h0
  · exact .inl h0
  · right
    have := (List.pairwise_iff_getElem.1 h) (i - 1) i (by omega) hi (by omega)
    rw [ix_lt hi, ix_lt (by omega : i - 1 < L.length)]
    exact this
structure SmpF (S : SS) (f : Int) (n : Nat) : Prop where
  ok : smpsOK S.1 = true
  len : S.1.length ≤ n
  tm : ∀ e ∈ S.1, f ≤ e.t ∧ e.t < f + 4 * n
theorem samples_b (s : Src) (f : Int) (n : Nat) {k : Int} (h : s.ok k) (hf : -10 ≤ f ∧ f ≤ 90000) (hk : 90000 ≤ k ∧ k ≤ 900000) (hn : n ≤ 10) (h0 : 0 ≤ f) : SmpF (s.samples f n) f n ∧ (s.samples f n).2.2.ok (k + 3 + 12 * n) := by
  have n0 := next_b s h (by omega) (n + 1)
  have hm := n0.1.2 (by omega)
  have hm0 := n0.1.1
  have s0 : SSok ([], f, (s.next (n + 1)).2) 0 (k + 3) := ⟨rfl, by simp, n0.2.1, by simp only; omega⟩
  have t0 : SSf ([], f, (s.next (n + 1)).2) f 0 := ⟨⟨Int.le_refl _, by simp⟩, by simp, List.Pairwise.nil⟩
  have a := it_ok s0 (by omega) (s.next (n + 1)).1.toNat
  have b := itf_t s0 t0 (by omega) (s.next (n + 1)).1.toNat
  unfold Src.samples
  obtain ⟨a1, a2, a3, _⟩ := a
  obtain ⟨⟨b1, b2⟩, b3, b4⟩ := b
  refine ⟨⟨pairf_smps b4 (fun e he => ?_) a2 (by omega), by omega, fun e he => ?_⟩, wk a3 (by omega)⟩
  · have := b3 e he
    omega
  · have := b3 e he
    omega
theorem keyF_ok {t n w : Nat} (ht : t ≤ 2) : keyOK (keyB t n w) = true := by
  have hs : (keyB t n w).length ≤ 17 ∧ 13 ≤ (keyB t n w).length := by
    unfold keyB pre
    split <;> simp [six6]
  unfold keyOK
  have e : (keyB t n w).all keyC = true := by
    have hd : ∀ m, (six6 m).all keyC = true := fun m => List.all_eq_true.2 fun x hx => by
      have := List.all_eq_true.1 (six6_dig m) x hx
      have := of_decide_eq_true this
      unfold keyC
      simp only [Bool.or_eq_true, Bool.and_eq_true, decide_eq_true_eq]
      left; left; right
      omega
    unfold keyB
    rw [List.all_append, List.all_append, List.all_cons, hd, hd]
    have h : t = 0 ∨ t = 1 ∨ t = 2 := by omega
    rcases h with rfl | rfl | rfl <;> decide
  rw [e]
  simp [within]; omega
structure FS where
  x : Sto
  at_ : Int
  s : Src
def FS.L (q : FS) : SS := q.s.samples q.at_ 6
def FS.D (q : FS) : Int × Src := q.L.2.2.next 6
def FS.to (q : FS) : Int := if q.L.1.length = 0 then q.at_ + 1 + q.D.1 else (ix q.L.1 (q.L.1.length - 1)).t + 1
def FS.W (q : FS) : Int × Src := q.D.2.next 2
def FS.key (q : FS) (i : Nat) : List UInt8 := keyB 0 i q.W.1.toNat
def FS.rc (q : FS) (i : Nat) : Rc := ⟨1, 0, 0, q.at_, q.to, q.key i⟩
def FS.x1 (q : FS) (i : Nat) : Sto := q.x.set (q.key i) (smpsText q.L.1)
def FS.step (q : FS) (i : Nat) : FS := ⟨(q.x1 i).set (manK i) (q.rc i).text, q.to, q.W.2⟩
def FS.draw (q : FS) : FS := ⟨q.x, q.at_, (q.s.next 5).2⟩
def fiIt : Nat → Nat → FS → FS
  | 0, _, q => q
  | f + 1, i, q => if (i : Int) ≤ 1 + (q.s.next 5).1 then fiIt f (i + 1) (q.draw.step i) else q.draw
def Src.filled (s : Src) : FS := fiIt 6 1 ⟨stoN0, 0, s⟩
structure FI (i : Nat) (q : FS) : Prop where
  ok : q.x.ok = true
  len : q.x.os.length ≤ 2 * (i - 1)
  nxt : q.x.next ≤ 1 + 2 * ((i : Int) - 1)
  at_ : 0 ≤ q.at_ ∧ q.at_ ≤ 100 * ((i : Int) - 1)
  s : q.s.ok (100000 + 200 * i)
theorem FI.zero {s : Src} (h : s.ok 100000) : FI 1 ⟨stoN0, 0, s⟩ := ⟨(by decide : stoN0.ok = true), (by decide : stoN0.os.length ≤ 0), (by decide : stoN0.next ≤ 1), by simp only; omega, wk h (by omega)⟩
structure FB (i : Nat) (q : FS) : Prop where
  m : SmpF q.L q.at_ 6
  s1 : q.L.2.2.ok (100075 + 200 * i + 10)
  s2 : q.D.2.ok (100078 + 200 * i + 10)
  s3 : q.W.2.ok (100081 + 200 * i + 10)
  d : 0 ≤ q.D.1 ∧ q.D.1 < 6
  w : 0 ≤ q.W.1 ∧ q.W.1 < 2
  tb : q.at_ < q.to ∧ q.to ≤ q.at_ + 60
  rc : (q.rc i).ok = true
  k1 : keyOK (q.key i) = true
  k2 : keyOK (manK i) = true
  ln : (smpsText q.L.1).length ≤ 300
  ok1 : (q.x1 i).ok = true
  len1 : (q.x1 i).os.length ≤ 2 * (i - 1) + 1
  nxt1 : (q.x1 i).next ≤ 2 + 2 * ((i : Int) - 1)
theorem FI.draw {i : Nat} {q : FS} (h : FI i q) (hi : 1 ≤ i ∧ i ≤ 6) : ((0 ≤ (q.s.next 5).1 ∧ (q.s.next 5).1 < 5) ∧ q.draw.s.ok (100003 + 200 * i)) := by
  have n1 := next_b q.s h.s (by omega) 5
  exact ⟨⟨n1.1.1, n1.1.2 (by omega)⟩, wk n1.2.1 (by omega)⟩
theorem manK_keyOK (n : Int) : keyOK (manK n) = true := by
  have hs : (manK n).length = 10 := by simp [manK, six6]
  have e : (manK n).all keyC = true := by
    unfold manK
    rw [List.all_append]
    have : (six6 n.toNat).all keyC = true := List.all_eq_true.2 fun x hx => by
      have := List.all_eq_true.1 (six6_dig n.toNat) x hx
      have := of_decide_eq_true this
      unfold keyC
      simp only [Bool.or_eq_true, Bool.and_eq_true, decide_eq_true_eq]
      left; left; right
      omega
    rw [this]
    decide
  unfold keyOK
  rw [e, hs]
  decide
theorem keyF_fields {t n w : Nat} (ht : t ≤ 2) (hn : n ≤ 999999) (hw : w ≤ 999999) : kOk (keyB t n w) = true ∧ kT (keyB t n w) = t ∧ kN (keyB t n w) = n ∧ kW (keyB t n w) = w := by
  have h := parse_key ht hn hw
  unfold kOk kT kN kW
  rw [h]
  exact ⟨rfl, rfl, rfl, rfl⟩
theorem rcF_ok {f t : Int} {n w : Nat} (hf : 0 ≤ f) (hft : f < t) (ht : t ≤ 100000) (hn : n ≤ 999999) (hn1 : 1 ≤ n) (hw : w ≤ 9) : Rc.ok ⟨1, 0, 0, f, t, keyB 0 n w⟩ = true := by
  obtain ⟨k1, k2, k3, k4⟩ := keyF_fields (t := 0) (n := n) (w := w) (by omega) (by omega) (by omega)
  unfold Rc.ok Rc.en En.ok
  simp only [if_true, k1, k2, isRange, within]
  simp
  omega
theorem Rc.txt_len {r : Rc} (h : r.ok = true) : r.text.length ≤ 130 := by
  have hk := (Rc.okN h).2
  have hh := Rc.head_len h
  unfold Rc.text; simp only [List.length_append, List.length_cons, List.length_nil]; omega
theorem FI.facts {i : Nat} {q : FS} (h : FI i q) (hs : q.draw.s.ok (100003 + 200 * i)) (hi : 1 ≤ i ∧ i ≤ 6) : FB i q.draw := by
  obtain ⟨h1, h2, h3, h4, h5⟩ := h
  have h1 : q.draw.x.ok = true := h1
  have h2 : q.draw.x.os.length ≤ 2 * (i - 1) := h2
  have h3 : q.draw.x.next ≤ 1 + 2 * ((i : Int) - 1) := h3
  have h4 : 0 ≤ q.draw.at_ ∧ q.draw.at_ ≤ 100 * ((i : Int) - 1) := h4
  generalize q.draw = q at *
  obtain ⟨m1, m2⟩ := samples_b q.s q.at_ 6 hs (by omega) (by omega) (by omega) h4.1
  have m1 : SmpF q.L q.at_ 6 := m1
  have m2 : q.L.2.2.ok (100003 + 200 * i + 3 + 12 * 6) := by have := m2; exact wk this (by omega)
  have n1 := next_b q.L.2.2 m2 (by omega) 6
  have d1 : 0 ≤ q.D.1 ∧ q.D.1 < 6 := ⟨n1.1.1, n1.1.2 (by omega)⟩
  have n1 : q.D.2.ok (100003 + 200 * i + 3 + 12 * 6 + 3) := n1.2.1
  have n2 := next_b q.D.2 n1 (by omega) 2
  have w1 : 0 ≤ q.W.1 ∧ q.W.1 < 2 := ⟨n2.1.1, n2.1.2 (by omega)⟩
  have n2 : q.W.2.ok (100003 + 200 * i + 3 + 12 * 6 + 3 + 3) := n2.2.1
  have hto : q.at_ < q.to ∧ q.to ≤ q.at_ + 60 := by
    unfold FS.to
    split
    · omega
    · have := m1.tm _ (getD_mem (show q.L.1.length - 1 < q.L.1.length by omega))
      exact ⟨by have := this.1; omega, by have := this.2; omega⟩
  have hrc : (q.rc i).ok = true := rcF_ok h4.1 hto.1 (by omega) (by omega) (by omega) (by omega)
  have hln := smpsText_len (smpsOK_num m1.ok)
  have hlen := m1.len
  have hl3 : (smpsText q.L.1).length ≤ 300 := by omega
  have hk : keyOK (q.key i) = true := keyF_ok (by omega)
  obtain ⟨p1, p2, p3, p4, p5⟩ := put_ok h1 hk (d := smpsText q.L.1) (by omega) (by omega) (by omega)
  rw [p2] at p3 p4 p5
  exact ⟨m1, wk m2 (by omega), wk n1 (by omega), wk n2 (by omega), d1, w1, hto, hrc, hk, manK_keyOK _, hl3, p3, by show (q.x.set _ _).os.length ≤ _; omega, by show (q.x.set _ _).next ≤ _; omega⟩
theorem FI.step {i : Nat} {q : FS} (h : FI i q) (hs : q.draw.s.ok (100003 + 200 * i)) (hi : 1 ≤ i ∧ i ≤ 6) : FI (i + 1) (q.draw.step i) := by
  have b := h.facts hs hi
  have hat := h.at_
  have hat : 0 ≤ q.draw.at_ ∧ q.draw.at_ ≤ 100 * ((i : Int) - 1) := hat
  obtain ⟨p1, p2, p3, p4, p5⟩ := put_ok b.ok1 b.k2 (d := (q.draw.rc i).text) (by have := Rc.txt_len b.rc; omega) (by have := b.len1; omega) (by have := b.nxt1; omega)
  rw [p2] at p3 p4 p5
  have l1 := b.len1
  have l2 := b.nxt1
  have l3 := b.tb
  exact ⟨p3, by show ((q.draw.x1 i).set _ _).os.length ≤ _; omega, by show ((q.draw.x1 i).set _ _).next ≤ _; omega, by show 0 ≤ q.draw.to ∧ q.draw.to ≤ _; omega, wk b.s3 (by omega)⟩
theorem fiIt_eq {i : Nat} (hi : i ≤ 6) (q : FS) : fiIt (7 - i) i q = if (i : Int) ≤ 1 + (q.s.next 5).1 then fiIt (7 - (i + 1)) (i + 1) (q.draw.step i) else q.draw := by
  rw [show 7 - i = (7 - (i + 1)) + 1 by omega]
  rfl
theorem NewStoreF_fn : VFn Tryz.prog 67 [] stoN0.av := by
  refine VFn.introC Tryz.call67 Tryz.func67 rfl rfl ?_
  conv => whnf
  refine And.intro trivial (AVle.agg (AVsle.cons (AVle.sl rfl fun i hi => absurd hi (Nat.not_lt_zero i)) (AVsle.cons (AVle.refl _) AVsle.nil)))
theorem filled_fn (s : Src) (h : s.ok 100000) : FnM Tryz.prog 30 1 [.bptr 0 0] [(0, .box s.row)] s.filled.x.av [(0, .box s.filled.s.row)] 1 := by
  obtain ⟨R, hR⟩ : ∃ R, R = s.filled := ⟨_, rfl⟩
  rw [← hR]
  refine FnM.introC Tryz.call30 Tryz.func30 rfl rfl ?_
  conv => whnf
  refine CallC.nl _ (NewStoreF_fn) ?_ ?_
  · exact rfl
  refine LoopC.mk (fun a : Nat × FS => (1 ≤ a.1 ∧ a.1 ≤ 6) ∧ FI a.1 a.2 ∧ fiIt (7 - a.1) a.1 a.2 = R) (fun a => [(0, .bptr 0 0), (2, .bptr 1 0), (3, .bptr 2 0), (4, .int .i64 a.2.at_), (5, .int .i64 a.1)])
    (fun a => [(0, .box a.2.s.row), (1, .box [.nilsl, .int .i64 0]), (2, .box a.2.x.row)]) 3 (fun a => 7 - a.1) (1, ⟨stoN0, 0, s⟩)
    ⟨⟨⟨Nat.le_refl _, (by decide : 1 ≤ 6)⟩, FI.zero h, hR.symm⟩, [(0, 0), (1, 1), (2, 2)], rfl, rfl, ⟨AVle.refl _, AVle.refl _, AVle.refl _, AVle.refl _, AVle.refl _, trivial⟩, ⟨MOle.refl _, MOle.refl _, MOle.refl _, trivial⟩⟩ ?_
  intro a ha
  obtain ⟨i, q⟩ := a
  obtain ⟨hi, hq, he⟩ := ha
  simp only at hi hq he
  have hd := hq.draw hi
  have hb := hq.facts hd.2 hi
  have hn := hq.step hd.2 hi
  rw [fiIt_eq hi.2] at he
  have hnx := hq.nxt
  have hln := hq.len
  conv => whnf
  refine CallC.k [(0, 0)] (next_fn q.s 5 (wk hq.s (by omega))) rfl rfl (AVsle.refl _) ⟨MOle.refl _, trivial⟩ rfl ?_
  refine And.intro (inI64 (by omega) (by omega)) ?_
  refine Grd.intro (fun g1 => ?_) (fun g1 => ?_)
  case _ =>
    have g1 : (i : Int) ≤ 1 + (q.s.next 5).1 := of_decide_eq_true g1
    rw [if_pos g1] at he
    have hi5 : i ≤ 5 := by have := hd.1.2; omega
    have hat : 0 ≤ q.draw.at_ ∧ q.draw.at_ ≤ 100 * ((i : Int) - 1) := hq.at_
    have hdl := hb.m.len
    have hd6 := hb.d
    have hw2 := hb.w
    have hto := hb.tb
    obtain ⟨w, hw⟩ : ∃ w : Nat, q.draw.W.1 = w := ⟨q.draw.W.1.toNat, by omega⟩
    have ck : VFn Tryz.prog 69 [.int .i64 0, .int .i64 i, .int .i64 q.draw.W.1] (.str (B (q.draw.key i))) := by
      have hk : q.draw.key i = keyB 0 i w := by unfold FS.key; rw [hw]; rfl
      rw [hk, hw]
      exact l03Key_at (t := 0) (n := i) (w := w) rfl rfl rfl (by omega) (by omega) (by omega)
    have ct := l03Samples_fn q.draw.L.1 (by omega) (smpsOK_num hb.m.ok)
    have cs1 := l01Set_fn q.draw.x (by show q.x.os.length ≤ _; omega) ⟨by show q.x.next ≤ _; omega, by have := ((stoOK_iff _).1 hq.ok).nx; show 0 ≤ q.x.next; omega⟩ (q.draw.key i) (smpsText q.draw.L.1)
    have ckm := l06Key_fn (i : Int) (by simp [within]; omega)
    have crt := l06Text_fn (q.draw.rc i) hb.rc
    have cs2 := l01Set_fn (q.draw.x1 i) (by have := hb.len1; omega) ⟨by have := hb.nxt1; omega, by have := ((stoOK_iff _).1 hb.ok1).nx; omega⟩ (manK i) (q.draw.rc i).text
    conv => whnf
    refine CallC.k [(0, 0)] (samples_fn q.draw.s q.draw.at_ 6 (wk hd.2 (by omega)) (by omega) (by omega)) rfl rfl (AVsle.refl _) ⟨MOle.refl _, trivial⟩ rfl ?_
    refine And.intro (show inI .i64 (q.draw.at_ + 1) from inI64 (by omega) (by omega)) ?_
    conv => whnf
    refine CallC.k [(0, 0)] (next_fn q.draw.L.2.2 6 (wk hb.s1 (by omega))) rfl rfl (AVsle.refl _) ⟨MOle.refl _, trivial⟩ rfl ?_
    refine And.intro (show inI .i64 (q.draw.at_ + 1 + q.draw.D.1) from inI64 (by omega) (by omega)) ?_
    refine Grd.intro (fun g2 => ?_) (fun g2 => ?_)
    case _ =>
      have g2 : 0 < q.draw.L.1.length := by have : (0 : Int) < (q.draw.L.1.length : Int) := of_decide_eq_true g2; omega
      have hb9 := hb.m.tm _ (getD_mem (show ((q.draw.L.1.length : Int) - 1).toNat < q.draw.L.1.length by omega))
      have e9 : ((q.draw.L.1.length : Int) - 1).toNat = q.draw.L.1.length - 1 := by omega
      have eto : q.draw.to = (ix q.draw.L.1 ((q.draw.L.1.length : Int) - 1).toNat).t + 1 := by unfold FS.to; rw [if_neg (by omega), e9]
      refine And.intro (show inI .i64 ((q.draw.L.1.length : Int) - 1) from inI64 (by omega) (by omega)) ?_
      refine And.intro (show (0 : Int) ≤ (q.draw.L.1.length : Int) - 1 ∧ (q.draw.L.1.length : Int) - 1 < (q.draw.L.1.length : Int) by omega) ?_
      refine And.intro (show inI .i64 ((ix q.draw.L.1 ((q.draw.L.1.length : Int) - 1).toNat).t + 1) from inI64 (by have := hb9.1; omega) (by have := hb9.2; omega)) ?_
      conv => whnf
      refine CallC.k [(0, 0)] (next_fn q.draw.D.2 2 (wk hb.s2 (by omega))) rfl rfl (AVsle.refl _) ⟨MOle.refl _, trivial⟩ rfl ?_
      have crt' : VFn Tryz.prog 73 [.agg [.int .i64 1, .int .i64 0, .int .i64 0, .int .i64 q.draw.at_, .int .i64 ((ix q.draw.L.1 ((q.draw.L.1.length : Int) - 1).toNat).t + 1), .str (B (q.draw.key i))]] (.str (B (q.draw.rc i).text)) := by rw [← eto]; exact crt
      conv => whnf
      refine CallC.sca _ (ck) ?_ ?_
      · exact rfl
      conv => whnf
      refine DrawC.mk 5 rfl (by kernel_rfl) ?_
      refine PCallC.sca _ (ct) rfl ?_
      refine PCallC.nl _ (cs1) rfl ?_
      conv => whnf
      refine DrawC.mk 9 rfl (by kernel_rfl) ?_
      refine PCallC.sca _ (ckm) rfl ?_
      refine PCallC.sca _ (crt') rfl ?_
      refine PCallC.nl _ (cs2) rfl ?_
      refine And.intro (inI64 (by omega) (by omega)) ?_
      exact ⟨(i + 1, q.draw.step i), ⟨⟨by omega, by omega⟩, hn, he⟩, (by show 7 - (i + 1) < 7 - i; omega), [(0, 0), (1, 1), (2, 2)], rfl, rfl, ⟨AVle.refl _, AVle.refl _, AVle.refl _, AVle.of_eq (congrArg (AV.int .i64) eto.symm), AVle.of_eq (congrArg (AV.int .i64) (by simp)), trivial⟩, ⟨MOle.refl _, MOle.refl _, MOle.refl _, trivial⟩⟩
    case _ =>
      have g2 : q.draw.L.1.length = 0 := by have : ¬ (0 : Int) < (q.draw.L.1.length : Int) := of_decide_eq_false g2; omega
      have eto : q.draw.to = q.draw.at_ + 1 + q.draw.D.1 := by unfold FS.to; rw [if_pos g2]
      conv => whnf
      refine CallC.k [(0, 0)] (next_fn q.draw.D.2 2 (wk hb.s2 (by omega))) rfl rfl (AVsle.refl _) ⟨MOle.refl _, trivial⟩ rfl ?_
      have crt' : VFn Tryz.prog 73 [.agg [.int .i64 1, .int .i64 0, .int .i64 0, .int .i64 q.draw.at_, .int .i64 (q.draw.at_ + 1 + q.draw.D.1), .str (B (q.draw.key i))]] (.str (B (q.draw.rc i).text)) := by rw [← eto]; exact crt
      conv => whnf
      refine CallC.sca _ (ck) ?_ ?_
      · exact rfl
      conv => whnf
      refine DrawC.mk 5 rfl (by kernel_rfl) ?_
      refine PCallC.sca _ (ct) rfl ?_
      refine PCallC.nl _ (cs1) rfl ?_
      conv => whnf
      refine DrawC.mk 9 rfl (by kernel_rfl) ?_
      refine PCallC.sca _ (ckm) rfl ?_
      refine PCallC.sca _ (crt') rfl ?_
      refine PCallC.nl _ (cs2) rfl ?_
      refine And.intro (inI64 (by omega) (by omega)) ?_
      exact ⟨(i + 1, q.draw.step i), ⟨⟨by omega, by omega⟩, hn, he⟩, (by show 7 - (i + 1) < 7 - i; omega), [(0, 0), (1, 1), (2, 2)], rfl, rfl, ⟨AVle.refl _, AVle.refl _, AVle.refl _, AVle.of_eq (congrArg (AV.int .i64) eto.symm), AVle.of_eq (congrArg (AV.int .i64) (by simp)), trivial⟩, ⟨MOle.refl _, MOle.refl _, MOle.refl _, trivial⟩⟩
  case _ =>
    have g1 : ¬ (i : Int) ≤ 1 + (q.s.next 5).1 := of_decide_eq_false g1
    rw [if_neg g1] at he
    subst he
    exact And.intro trivial ⟨[(0, 0)], rfl, AVle.refl _, ⟨MOle.refl _, trivial⟩⟩
end Go.Proofs.YtfaffgneccjpbaaGreatDoor
