/- V27: a part of a tool for walks: what a piece of a Go program does, by abstract values. It holds of every program; no condition. -/
import Derived.Test.YtigbaclopbcjnaaGreatDoorV23
import Derived.Lib.LaidTab
import Derived.Lib.AppendIntMem
set_option linter.unusedVariables false
set_option linter.unusedSimpArgs false
set_option linter.unusedSectionVars false
set_option linter.constructorNameAsVariable false

namespace Go.Vw
open Go
@[reducible] def Tabs.one {P : Program} (g : Nat) (name : String) (k : IntKind) (zs : List Int) (hg : P.globalNamed name = some g) : Tabs P where
  tab := fun b => b = g
  J := fun w => Lib.TabIs P w name k zs
  lt := fun w b h e => by
   subst e
   unfold Lib.TabIs World.var? at h
   rw [hg] at h
   simp only [Option.bind_some] at h
   rcases Nat.lt_or_ge b w.heap.size with hl | hl
   · exact hl
   · have : w.heap[b]? = none := by simp [hl]
     rw [this] at h; cases h
  stay := fun w w' h hs => by
   unfold Lib.TabIs World.var? at *
   rw [hg] at *
   simp only [Option.bind_some] at *
   rw [hs g rfl]; exact h
theorem VFn.lib {P : Program} [Tabs P] {F : FuncId} {args : List AV} {r : AV} (hen : Enters P F)
 (h : ∀ (w : World) (ok : Nat → Prop) (vs : List Value), Tabs.J P w → (∀ b, ok b → b < w.heap.size) → RVs w ok G0 args vs →
  Calls P F vs.toArray w fun e w' => ∃ v, e = .returned v ∧ Go.RowKit.Below w.heap.size w w' ∧ ∀ (w2 : World) (ok2 : Nat → Prop), RV w2 ok2 G0 r v) : VFn P F args r := by
 refine ⟨hen, fun w ok vs hJ hok hargs => (h w ok vs hJ hok hargs).mono ?_⟩
 rintro e w' ⟨v, e1, bel, hv⟩
 exact ⟨v, e1, ⟨bel.os, bel.tape, bel.output, bel.size, fun b hb _ => bel.block b hb⟩, hv _ _⟩
end Go.Vw

namespace Go.Vw
open Go
def B (l : List UInt8) : ByteArray := ⟨l.toArray⟩
theorem B_app (a b : List UInt8) : B a ++ B b = B (a ++ b) := by
 apply ByteArray.ext; simp [B]
theorem B_size (a : List UInt8) : (B a).size = a.length := by simp [B, ByteArray.size]
theorem B_data (a : List UInt8) : (B a).data.toList = a := by simp [B]
def ix {α : Type} [Inhabited α] (L : List α) (i : Nat) : α := L.getD i default
theorem ix_lt {α : Type} [Inhabited α] {L : List α} {i : Nat} (h : i < L.length) : ix L i = L[i] := by simp [ix, List.getD, h]
theorem ix_app_l {α : Type} [Inhabited α] {L K : List α} {i : Nat} (h : i < L.length) : ix (L ++ K) i = ix L i := by simp [ix, List.getD, List.getElem?_append_left h]
theorem ix_app_r {α : Type} [Inhabited α] {L K : List α} {i : Nat} (h : L.length ≤ i) : ix (L ++ K) i = ix K (i - L.length) := by simp [ix, List.getD, List.getElem?_append_right h]
@[simp] theorem ix_zero {α : Type} [Inhabited α] {x : α} {L : List α} : ix (x :: L) 0 = x := rfl
@[simp] theorem ix_succ {α : Type} [Inhabited α] {x : α} {L : List α} {i : Nat} : ix (x :: L) (i + 1) = ix L i := rfl
theorem ix_drop {α : Type} [Inhabited α] {L : List α} {k i : Nat} : ix (L.drop k) i = ix L (k + i) := by simp [ix, List.getD]
theorem ix_take {α : Type} [Inhabited α] {L : List α} {k i : Nat} (h : i < k) : ix (L.take k) i = ix L i := by simp [ix, List.getD, h]
def RowsAre (rows : Nat → List AV) : Nat → List (List AV) → Prop
 | _, [] => True
 | k, r :: rs => rows k = r ∧ RowsAre rows (k + 1) rs
theorem RowsAre.get {rows : Nat → List AV} : ∀ {rs : List (List AV)} {k : Nat}, RowsAre rows k rs → ∀ i, i < rs.length → rows (k + i) = rs.getD i []
 | [], _, _, i, h => by simp at h
 | r :: rs, k, ⟨h1, h2⟩, 0, _ => by simpa using h1
 | r :: rs, k, ⟨h1, h2⟩, i + 1, h => by
   have := RowsAre.get h2 i (by simpa using h)
   rw [show k + (i + 1) = k + 1 + i by omega, this]; simp
theorem RowsAre.le {sz : Nat} {rows : Nat → List AV} {α : Type} [Inhabited α] {f : α → List AV} {L : List α} {n : Nat} (hn : n = L.length) (h : RowsAre rows 0 (L.map f)) : AVle (.sl sz n rows) (.sl sz L.length fun i => f (ix L i)) := by
 subst hn
 refine AVle.sl rfl fun i hi => ?_
 have := h.get i (by simpa using hi)
 rw [Nat.zero_add] at this
 rw [this]; simp [ix, List.getD, hi]
section lists
variable {α : Type} [Inhabited α]
theorem getD_app_lt {L K : List α} {i : Nat} (h : i < L.length) : ix (L ++ K) i = ix L i := by
 exact ix_app_l h
theorem getD_app_ge {L K : List α} {i : Nat} (h : L.length ≤ i) : ix (L ++ K) i = ix K (i - L.length) := by
 exact ix_app_r h
theorem app_rowsL {f : α → List AV} {L K : List α} {r2 : Nat → List AV} (h : ∀ j, j < K.length → r2 j = f (ix K j)) {i : Nat} (hi : i < L.length + K.length) :
 appRows L.length (fun i => f (ix L i)) r2 i = f (ix (L ++ K) i) := by
 unfold appRows
 rcases Nat.lt_or_ge i L.length with h' | h'
 · rw [blt_t h', cond_true, getD_app_lt h']
 · rw [blt_f h', cond_false, getD_app_ge h', h _ (by omega)]
theorem app_row1 {f : α → List AV} {L : List α} {x : α} {r2 : Nat → List AV} (h : r2 0 = f x) {i : Nat} (hi : i < L.length + 1) :
 appRows L.length (fun i => f (ix L i)) r2 i = f (ix (L ++ [x]) i) :=
 app_rowsL (K := [x]) (fun j hj => by
  have : j = 0 := by simpa using hj
  subst this; simpa using h) (by simpa using hi)
theorem arr_app1 {e sz : Nat} {f : α → List AV} {L : List α} {x : α} {r2 : Nat → List AV} (h : r2 0 = f x) :
 MOle (.arr e sz (L.length + 1) (appRows L.length (fun i => f (ix L i)) r2)) (.arr e sz (L ++ [x]).length fun i => f (ix (L ++ [x]) i)) :=
 MOle.arr (by simp) fun i hi => app_row1 h hi
theorem arr_next {e sz : Nat} {f : α → List AV} {L K : List α} {x : α} {r2 : Nat → List AV} (hK : K = L ++ [x]) (h : r2 0 = f x) :
 MOle (.arr e sz (L.length + 1) (appRows L.length (fun i => f (ix L i)) r2)) (.arr e sz K.length fun i => f (ix K i)) := by subst hK; exact arr_app1 h
theorem take_snoc {L : List α} {i : Nat} (h : i < L.length) : L.take (i + 1) = L.take i ++ [ix L i] := by
 rw [List.take_succ_eq_append_getElem h, ix_lt h]
theorem map_take_snoc {β : Type} {f : α → β} {L : List α} {i : Nat} (h : i < L.length) : (L.take (i + 1)).map f = (L.take i).map f ++ [f (ix L i)] := by rw [take_snoc h, List.map_append]; rfl
theorem getD_mem {L : List α} {i : Nat} (h : i < L.length) : ix L i ∈ L := by
 rw [ix_lt h]; exact List.getElem_mem h
theorem drop_ix {L : List α} {i : Nat} (h : i < L.length) : L.drop i = ix L i :: L.drop (i + 1) := by rw [List.drop_eq_getElem_cons h, ix_lt h]
end lists
def allN (n : Nat) (q : Nat → Bool) : Bool := (List.range n).all q
theorem allN_succ {n : Nat} {q : Nat → Bool} : allN (n + 1) q = (allN n q && q n) := by simp [allN, List.range_succ]
theorem allN_iff {n : Nat} {q : Nat → Bool} : allN n q = true ↔ ∀ i, i < n → q i = true := by simp [allN]
theorem allN_step {n : Nat} {q : Nat → Bool} (h : allN n q = true) (h1 : q n = true) : allN (n + 1) q = true := by rw [allN_succ, h, h1]; rfl
theorem allN_no {n i : Nat} {q : Nat → Bool} (hi : i < n) (h : q i = false) : allN n q = false := by
 cases hc : allN n q
 · rfl
 · rw [allN_iff.1 hc i hi] at h; cases h
def within (n lo hi : Int) : Bool := decide (lo ≤ n) && decide (n ≤ hi)
theorem win_iff {n lo hi : Int} : within n lo hi = true ↔ lo ≤ n ∧ n ≤ hi := by simp [within]
def firstC : List (Bool × Int) → Int
 | [] => 0
 | (b, c) :: r => bif b then c else firstC r
def FirstRows (tb ti : TypeId) (rows : Nat → List AV) : Nat → List (Bool × Int) → Prop
 | _, [] => True
 | k, (b, c) :: r => rows k = [.iface tb (.bool b)] ∧ rows (k + 1) = [.iface ti (.int .i64 c)] ∧ FirstRows tb ti rows (k + 2) r
theorem FirstRows.get {tb ti : TypeId} {rows : Nat → List AV} : ∀ {l : List (Bool × Int)} {k : Nat}, FirstRows tb ti rows k l → ∀ i, i < l.length → rows (k + 2 * i) = [.iface tb (.bool (ix l i).1)] ∧ rows (k + (2 * i + 1)) = [.iface ti (.int .i64 (ix l i).2)]
 | [], _, _, i, h => by simp at h
 | (b, c) :: r, k, ⟨h1, h2, h3⟩, 0, _ => ⟨by simpa using h1, by simpa using h2⟩
 | (b, c) :: r, k, ⟨h1, h2, h3⟩, i + 1, h => by
   have := FirstRows.get h3 i (by simpa using h)
   rw [show k + 2 * (i + 1) = k + 2 + 2 * i by omega, show k + (2 * (i + 1) + 1) = k + 2 + (2 * i + 1) by omega]
   simpa using this
theorem firstC_none {l : List (Bool × Int)} : ∀ {i : Nat}, (∀ j, j < i → (ix l j).1 = false) → i ≤ l.length → firstC l = firstC (l.drop i) := by
 intro i
 induction i generalizing l with
 | zero => intro _ _; rfl
 | succ i ih =>
   intro h hl
   match l, hl with
   | (b, c) :: r, hl =>
     have h0 := h 0 (by omega)
     have hb : b = false := by simpa using h0
     subst hb
     show firstC r = _
     rw [List.drop_succ_cons]
     exact ih (fun j hj => by have := h (j + 1) (by omega); simpa using this) (by simpa using hl)
theorem dd_len : ∀ (k u : Nat), u < 10 ^ (k + 1) → (Lib.decDigits u).length ≤ k + 1
 | 0, u, h => by rw [Lib.decDigits, dif_pos (by simpa using h)]; simp
 | k + 1, u, h => by
   rw [Lib.decDigits]
   split
   · simp
   · have := dd_len k (u / 10) (by rw [Nat.pow_succ] at h; omega)
     simp; omega
theorem itoa_len {n : Int} (h0 : -9223372036854775808 ≤ n) (h1 : n ≤ 9223372036854775807) : (Lib.itoa n).length ≤ 21 := by
 unfold Lib.itoa
 split
 · have := dd_len 19 n.natAbs (by simp; omega)
   simp; omega
 · have := dd_len 19 n.toNat (by simp; omega)
   omega
end Go.Vw
namespace Go.Vw
open Go
section
variable {H : Type} {enc : TypeId × Value → H} {P : Program} {w : World}
theorem Rd.list {t e : TypeId} {sz : Nat} {α : Type} [Inhabited α] {f : α → List AV} (ht : P.underlying t = some (.slice e)) (hC : P.cellsOf e = sz) (hsz : 1 ≤ sz) (he : Rd enc P w e fun l => ∃ x, l = f x) :
 Rd enc P w t (fun l => ∃ L : List α, l = [.sl sz L.length fun i => f (ix L i)] ∧ L.length ≤ maxLen) :=
 (Rd.slice ht hC hsz he).le fun l h => by
  obtain ⟨n, rows, rfl, hn, hr⟩ := h
  let g : Nat → α := fun i => if h : i < n then (hr i h).choose else default
  have hg : ∀ i, i < n → rows i = f (g i) := fun i h => by simp only [g, h, dif_pos]; exact (hr i h).choose_spec
  have hl : ((List.range n).map g).length = n := by simp
  refine ⟨[.sl sz ((List.range n).map g).length fun i => f (ix ((List.range n).map g) i)], ⟨_, rfl, by rw [hl]; exact hn⟩, AVsle.cons (AVle.sl hl.symm fun i hi => ?_) AVsle.nil⟩
  rw [hg i hi, ix_lt (by rw [hl]; exact hi)]; simp
end
end Go.Vw

namespace Go.Vw
open Go
inductive Tr where
 | e
 | n (v : AV) (l r : Tr)
def Tr.get (d : AV) : Tr → Nat → AV
 | .e, _ => d
 | .n v l r, k => bif Nat.ble k 1 then v else bif Nat.beq (Nat.mod k 2) 0 then l.get d (Nat.div k 2) else r.get d (Nat.div k 2)
def roadK (d x : AV) : Nat → Nat → (Tr → Prop) → Prop
 | 0, _, _ => False
 | f + 1, k, c => bif Nat.ble k 1 then c (.n x .e .e) else bif Nat.beq (Nat.mod k 2) 0 then roadK d x f (Nat.div k 2) fun t => c (.n d t .e) else roadK d x f (Nat.div k 2) fun t => c (.n d .e t)
def Tr.putK (d x : AV) : Tr → Nat → (Tr → Prop) → Prop
 | .e, k, c => roadK d x 14 k c
 | .n v l r, k, c => bif Nat.ble k 1 then c (.n x l r) else bif Nat.beq (Nat.mod k 2) 0 then l.putK d x (Nat.div k 2) fun t => c (.n v t r) else r.putK d x (Nat.div k 2) fun t => c (.n v l t)
theorem bf {b : Bool} {α : Sort _} {x y : α} : (bif b then x else y) = if b = true then x else y := by cases b <;> rfl
theorem half_ne {k j : Nat} (hk : 1 < k) (hj : 1 < j) (h2 : j % 2 = k % 2) : (j / 2 = k / 2 ↔ j = k) := by omega
theorem nb1 {k : Nat} (h : Nat.beq (Nat.mod k 2) 0 = true) : k % 2 = 0 := Nat.eq_of_beq_eq_true h
theorem nb0 {k : Nat} (h : k % 2 = 0) : Nat.beq (Nat.mod k 2) 0 = true := by
 show Nat.beq (k % 2) 0 = true
 rw [h]; rfl
theorem nbn {k : Nat} (h : ¬ k % 2 = 0) : ¬ Nat.beq (Nat.mod k 2) 0 = true := fun e => h (nb1 e)
theorem road_spec {d x : AV} : ∀ (f k : Nat) (c : Tr → Prop), roadK d x f k c → 1 ≤ k → ∃ t, c t ∧ ∀ j, 1 ≤ j → t.get d j = if j = k then x else d
 | 0, _, _, h, _ => h.elim
 | f + 1, k, c, h, h1 => by
   simp only [roadK, bf, Nat.ble_eq] at h
   split at h
   · have : k = 1 := by omega
     subst this
     refine ⟨_, h, fun j hj => ?_⟩
     simp only [Tr.get, bf, Nat.ble_eq]
     by_cases e : j ≤ 1
     · have : j = 1 := by omega
       subst this; simp
     · rw [if_neg e, if_neg (show ¬ j = 1 by omega)]; split <;> rfl
   · rename_i hk
     split at h
     · rename_i h2
       have h2' : k % 2 = 0 := nb1 h2
       obtain ⟨t, ht, hg⟩ := road_spec f (Nat.div k 2) _ h (show 1 ≤ k / 2 by omega)
       refine ⟨_, ht, fun j hj => ?_⟩
       simp only [Tr.get, bf, Nat.ble_eq]
       by_cases e : j ≤ 1
       · rw [if_pos e, if_neg (show ¬ j = k by omega)]
       · rw [if_neg e]
         by_cases p : j % 2 = 0
         · rw [if_pos (nb0 p), hg (Nat.div j 2) (show 1 ≤ j / 2 by omega)]
           simp only [show Nat.div j 2 = Nat.div k 2 ↔ j = k from half_ne (by omega) (by omega) (by omega)]
         · rw [if_neg (nbn p), if_neg (show ¬ j = k by omega)]
     · rename_i h2
       have h2' : ¬ k % 2 = 0 := fun e => h2 (nb0 e)
       obtain ⟨t, ht, hg⟩ := road_spec f (Nat.div k 2) _ h (show 1 ≤ k / 2 by omega)
       refine ⟨_, ht, fun j hj => ?_⟩
       simp only [Tr.get, bf, Nat.ble_eq]
       by_cases e : j ≤ 1
       · rw [if_pos e, if_neg (show ¬ j = k by omega)]
       · rw [if_neg e]
         by_cases p : j % 2 = 0
         · rw [if_pos (nb0 p), if_neg (show ¬ j = k by omega)]
         · rw [if_neg (nbn p), hg (Nat.div j 2) (show 1 ≤ j / 2 by omega)]
           simp only [show Nat.div j 2 = Nat.div k 2 ↔ j = k from half_ne (by omega) (by omega) (by omega)]
theorem put_spec {d x : AV} : ∀ (t : Tr) (k : Nat) (c : Tr → Prop), t.putK d x k c → 1 ≤ k → ∃ t', c t' ∧ ∀ j, 1 ≤ j → t'.get d j = if j = k then x else t.get d j
 | .e, k, c, h, h1 => by
   obtain ⟨t, ht, hg⟩ := road_spec 14 k c h h1
   exact ⟨t, ht, fun j hj => hg j hj⟩
 | .n v l r, k, c, h, h1 => by
   simp only [Tr.putK, bf, Nat.ble_eq] at h
   split at h
   · have : k = 1 := by omega
     subst this
     refine ⟨_, h, fun j hj => ?_⟩
     simp only [Tr.get, bf, Nat.ble_eq]
     by_cases e : j ≤ 1
     · have : j = 1 := by omega
       subst this; simp
     · rw [if_neg e, if_neg e, if_neg (show ¬ j = 1 by omega)]
   · rename_i hk
     split at h
     · rename_i h2
       have h2' : k % 2 = 0 := nb1 h2
       obtain ⟨t, ht, hg⟩ := put_spec l (Nat.div k 2) _ h (show 1 ≤ k / 2 by omega)
       refine ⟨_, ht, fun j hj => ?_⟩
       simp only [Tr.get, bf, Nat.ble_eq]
       by_cases e : j ≤ 1
       · rw [if_pos e, if_pos e, if_neg (show ¬ j = k by omega)]
       · rw [if_neg e, if_neg e]
         by_cases p : j % 2 = 0
         · rw [if_pos (nb0 p), if_pos (nb0 p), hg (Nat.div j 2) (show 1 ≤ j / 2 by omega)]
           simp only [show Nat.div j 2 = Nat.div k 2 ↔ j = k from half_ne (by omega) (by omega) (by omega)]
         · rw [if_neg (nbn p), if_neg (nbn p), if_neg (show ¬ j = k by omega)]
     · rename_i h2
       have h2' : ¬ k % 2 = 0 := fun e => h2 (nb0 e)
       obtain ⟨t, ht, hg⟩ := put_spec r (Nat.div k 2) _ h (show 1 ≤ k / 2 by omega)
       refine ⟨_, ht, fun j hj => ?_⟩
       simp only [Tr.get, bf, Nat.ble_eq]
       by_cases e : j ≤ 1
       · rw [if_pos e, if_pos e, if_neg (show ¬ j = k by omega)]
       · rw [if_neg e, if_neg e]
         by_cases p : j % 2 = 0
         · rw [if_pos (nb0 p), if_pos (nb0 p), if_neg (show ¬ j = k by omega)]
         · rw [if_neg (nbn p), if_neg (nbn p), hg (Nat.div j 2) (show 1 ≤ j / 2 by omega)]
           simp only [show Nat.div j 2 = Nat.div k 2 ↔ j = k from half_ne (by omega) (by omega) (by omega)]
structure CSt where
 tr : Tr
 df : AV
 ob : List (Nat × MO)
 next : Nat
 n : Nat
def CSt.st (cs : CSt) : St := { tm := fun t => cs.tr.get cs.df (t + 1), ob := cs.ob, next := cs.next, n := cs.n }
def fM (x : MO) (k : MO → Prop) : Prop :=
 match x with
 | .box c => fL c fun c => k (.box c)
 | .arr a b c d => k (.arr a b c d)
 | .arrc a b c d e => k (.arrc a b c d e)
 | .imap a => k (.imap a)
 | .smap a => k (.smap a)
theorem fM_eq (x : MO) (k : MO → Prop) : fM x k = k x := by cases x <;> simp [fM, fL_eq]
def fOb : List (Nat × MO) → (List (Nat × MO) → Prop) → Prop
 | [], k => k []
 | (m, o) :: r, k => fN m fun m => fM o fun o => fOb r fun s => k ((m, o) :: s)
theorem fOb_eq : ∀ (l : List (Nat × MO)) (k : List (Nat × MO) → Prop), fOb l k = k l
 | [], _ => rfl
 | (m, o) :: r, _ => by simp only [fOb, fN_eq, fM_eq, fOb_eq r]
def CSt.putK (cs : CSt) (d : Option Tmp) (x : AV) (c : CSt → Prop) : Prop :=
 match cs with
 | ⟨tr, df, ob, next, n⟩ => match d with
   | none => c ⟨tr, df, ob, next, n⟩
   | some t => fN (t + 1) fun k => tr.putK df x k fun tr => c ⟨tr, df, ob, next, n⟩
def CSt.obK (cs : CSt) (ob' : List (Nat × MO)) (next' : Nat) (c : CSt → Prop) : Prop :=
 match cs with
 | ⟨tr, df, ob, next, n⟩ => fOb ob' fun ob' => fN next' fun next' => c ⟨tr, df, ob', next', n⟩
theorem St.ext' {a b : St} (h1 : ∀ t, a.tm t = b.tm t) (h2 : a.ob = b.ob) (h3 : a.next = b.next) (h4 : a.n = b.n) : a = b := by
 cases a; cases b; simp only at h1 h2 h3 h4; subst h2 h3 h4; congr 1; funext t; exact h1 t
theorem CSt.putK_st {cs : CSt} {d : Option Tmp} {x : AV} {c : CSt → Prop} (h : cs.putK d x c) : ∃ cs', cs'.st = cs.st.put d x ∧ c cs' := by
 obtain ⟨tr, df, ob, next, n⟩ := cs
 cases d with
 | none => exact ⟨_, rfl, h⟩
 | some t =>
   simp only [CSt.putK, fN_eq] at h
   obtain ⟨t', hc, hg⟩ := put_spec tr (t + 1) _ h (by omega)
   refine ⟨_, St.ext' (fun s => ?_) rfl rfl rfl, hc⟩
   show t'.get df (s + 1) = bif Nat.beq s t then x else tr.get df (s + 1)
   rw [hg (s + 1) (by omega), bf]
   by_cases e : s = t
   · subst e; simp
   · rw [if_neg (by omega), if_neg (by simpa using e)]
theorem CSt.obK_st {cs : CSt} {ob' : List (Nat × MO)} {nx : Nat} {c : CSt → Prop} (h : cs.obK ob' nx c) : ∃ cs', cs'.st = { cs.st with ob := ob', next := nx } ∧ c cs' := by
 obtain ⟨tr, df, ob, next, n⟩ := cs
 simp only [CSt.obK, fN_eq, fOb_eq] at h
 exact ⟨_, rfl, h⟩
@[irreducible] def CallC (P : Program) [Tabs P] (F : FuncId) (l : List AV) (cs : CSt) (d : Option Tmp) (next : CSt → Prop) : Prop := CallG P F l cs.st d fun st => ∃ cs', cs'.st = st ∧ next cs'
theorem CallC.g {P : Program} [Tabs P] {F : FuncId} {l : List AV} {cs : CSt} {d : Option Tmp} {next : CSt → Prop} (h : CallC P F l cs d next) : CallG P F l cs.st d fun st => ∃ cs', cs'.st = st ∧ next cs' := by
 unfold CallC at h; exact h
theorem CallC.sca {P : Program} [Tabs P] {F : FuncId} {l : List AV} {cs : CSt} {d : Option Tmp} {next : CSt → Prop} (r : AV) (h : VFn P F (AV.fzs cs.ob (fun _ => none) l) r) (hr : (r.sca && dstOK d cs.n) = true)
 (hn : r.force fun r => cs.putK d r next) : CallC P F l cs d next := by
 unfold CallC
 rw [AV.force_eq] at hn
 rw [Bool.and_eq_true] at hr
 exact CallG.mk _ (callR_sca (st := cs.st) h hr.1 hr.2) (CSt.putK_st hn)
theorem CallC.nl {P : Program} [Tabs P] {F : FuncId} {l : List AV} {cs : CSt} {d : Option Tmp} {next : CSt → Prop} (r : AV) (h : VFn P F l r) (hr : (AV.nls l && dstOK d cs.n) = true)
 (hn : r.force fun r => cs.putK d r next) : CallC P F l cs d next := by
 unfold CallC
 rw [AV.force_eq] at hn
 rw [Bool.and_eq_true] at hr
 exact CallG.mk _ (callR_nl (st := cs.st) h hr.1 hr.2) (CSt.putK_st hn)
theorem CallC.m {P : Program} [Tabs P] {F : FuncId} {nb nx : Nat} {args l : List AV} {O O' : List (Nat × MO)} {r : AV} {cs : CSt} {d : Option Tmp} {next : CSt → Prop} (kl : List (Nat × Nat)) (h : FnM P F nb args O r O' nx)
 (hkl : klOK nb kl = true) (hcov : covB O nb = true) (ha : AVsle (AV.fzs cs.ob (kL kl) l) args) (hO : allO (cs.st.fz (kL kl) nb) O) (hr : r.scn = true) (hO' : obP O') (hd : dstOK d cs.n = true)
 (hn : cs.obK (renOb (backN kl nb cs.next) O' ++ delK kl cs.ob) (cs.next + nx) fun cs' => (r.ren (backN kl nb cs.next)).force fun r => cs'.putK d r next) : CallC P F l cs d next := by
 unfold CallC
 obtain ⟨cs1, e1, h1⟩ := CSt.obK_st hn
 rw [AV.force_eq] at h1
 obtain ⟨cs2, e2, h2⟩ := CSt.putK_st h1
 exact CallG.mk _ (callM (st := cs.st) kl h hkl hcov ha hO hr hO' hd) ⟨cs2, by rw [e2, e1]; rfl, h2⟩
@[irreducible] def OpC (P : Program) [Tabs P] (o : Oper) (cs : CSt) (next : CSt → Prop) : Prop := OpG P o cs.st fun st => ∃ cs', cs'.st = st ∧ next cs'
theorem OpC.g {P : Program} [Tabs P] {o : Oper} {cs : CSt} {next : CSt → Prop} (h : OpC P o cs next) : OpG P o cs.st fun st => ∃ cs', cs'.st = st ∧ next cs' := by
 unfold OpC at h; exact h
theorem op_mono {P : Program} {o : Oper} {a : Act} {w : World} {K K' : Act → World → Prop} {Q : Exit → Act → World → Prop} (hK : o.wp P a w K Q) (hKQ : ∀ a w, K a w → K' a w) : o.wp P a w K' Q := by
 unfold Oper.wp Oper.upon at *
 split at hK <;> first | exact hKQ _ _ hK | exact hK | skip
 all_goals (first | (refine Calls.mono hK ?_; intro e w' he; cases e <;> first | exact hKQ _ _ he | exact he) | (exact Rows.mono hK fun v w' hv => hKQ _ _ hv))
theorem OpG.mono {P : Program} [Tabs P] {o : Oper} {st : St} {next next' : St → Prop} (h : OpG P o st next) (hn : ∀ st', next st' → next' st') : OpG P o st next' := by
 unfold OpG at *
 exact fun gb w0 gr ok0 g ok a w hj hr Q => op_mono (h gb w0 gr ok0 g ok a w hj hr Q) fun a' w' ⟨st', g', ok', h1, h2⟩ => ⟨st', g', ok', h1, hn _ h2⟩
def exOpC (P : Program) [Tabs P] (o : Oper) (cs : CSt) (next : CSt → Prop) : Prop :=
 match dstOK o.dst cs.n with
 | false => False
 | true => match o.op with
   | .store t x y => (match stAV P cs.st t (cs.st.ev x) (cs.st.ev y) with | some st' => cs.obK st'.ob cs.next fun cs' => cs'.putK o.dst .any next | none => False)
   | .mapUpdate t x k y => (match mupAV P cs.st t (cs.st.ev x) (cs.st.ev k) (cs.st.ev y) with | some st' => cs.obK st'.ob cs.next fun cs' => cs'.putK o.dst .any next | none => False)
   | .call ⟨.value f, args, _⟩ => (match cs.st.ev f with | .fn (.func F) xs ys => forceL (xs ++ (args.toList.map cs.st.ev ++ ys)) (fun l => CallC P F l cs o.dst next) | _ => False)
   | .call ⟨.builtin .append, args, tys⟩ => (match args.toList, tys.toList with
     | [x, y], [t, tx] => (match appAV P cs.st t tx (cs.st.ev x) (cs.st.ev y) with | some out => out.pre ∧ cs.obK out.st.ob out.st.next fun cs' => fN cs.next fun nm => cs'.putK o.dst (.osl nm) next | none => OpC P o cs next)
     | _, _ => False)
   | op => fN cs.next fun nm => match pas P cs.st.ev (look cs.ob) nm op with
     | some p => (match p.mo with
       | none => andO p.pre (p.r.force fun r => cs.putK o.dst r next)
       | some mo => andO p.pre (p.r.force fun r => cs.obK ((nm, mo) :: cs.ob) (nm + 1) fun cs' => cs'.putK o.dst r next))
     | none => OpC P o cs next
theorem stAV_st {P : Program} {st st' : St} {t : TypeId} {x y : AV} (h : stAV P st t x y = some st') : st' = { st with ob := st'.ob } := by
 unfold stAV at h
 simp only [fL_eq, fN_eq] at h
 split at h
 · split at h
   · simp only [cond_eq_ite] at h; split at h <;> cases h; rfl
   · cases h
 · split at h
   · simp only [cond_eq_ite] at h; split at h <;> cases h; rfl
   · cases h
 · cases h
theorem mupAV_st {P : Program} {st st' : St} {t : TypeId} {x k y : AV} (h : mupAV P st t x k y = some st') : st' = { st with ob := st'.ob } := by
 unfold mupAV at h
 split at h
 · split at h <;> cases h <;> rfl
 · cases h
theorem appAV_st {P : Program} {st : St} {out : AppOut} {t tx : TypeId} {x y : AV} (h : appAV P st t tx x y = some out) : out.st = { st with ob := out.st.ob, next := out.st.next } := by
 unfold appAV appAVn at h
 simp only [fN_eq] at h
 split at h
 · split at h
   · simp only [cond_eq_ite] at h; split at h <;> cases h; rfl
   · cases h
 · cases h
theorem andO_map {p : Option Prop} {q q' : Prop} (h : andO p q) (hq : q → q') : andO p q' := by
 cases p with
 | none => exact hq h
 | some r => exact ⟨h.1, hq h.2⟩
theorem exOpC_st {P : Program} [Tabs P] {o : Oper} {cs : CSt} {next : CSt → Prop} {next' : St → Prop} (h : exOpC P o cs next) (hn : ∀ cs', next cs' → next' cs'.st) : exOp P o cs.st next' := by
 unfold exOpC at h
 unfold exOp
 split at h
 · cases h
 rename_i hd
 rw [show dstOK o.dst cs.st.n = true from hd]
 split at h
 · rename_i t x y hop
   split at h
   · rename_i st' hst
     obtain ⟨cs1, e1, h1⟩ := CSt.obK_st h
     obtain ⟨cs2, e2, h2⟩ := CSt.putK_st h1
     simp only [hop, hst]
     have e : cs2.st = st'.put o.dst .any := by rw [e2, e1]; rw [stAV_st hst]; rfl
     exact e ▸ hn cs2 h2
   · cases h
 · rename_i t x k y hop
   split at h
   · rename_i st' hst
     obtain ⟨cs1, e1, h1⟩ := CSt.obK_st h
     obtain ⟨cs2, e2, h2⟩ := CSt.putK_st h1
     simp only [hop, hst]
     have e : cs2.st = st'.put o.dst .any := by rw [e2, e1]; rw [mupAV_st hst]; rfl
     exact e ▸ hn cs2 h2
   · cases h
 · rename_i f args tys hop
   split at h
   · rename_i F xs ys hf
     simp only [hop, hf]
     rw [forceL_eq] at h ⊢
     have := h.g
     unfold CallG at this ⊢
     rcases this with ⟨st2, q1, cs', q2, q3⟩ | ⟨r, q1, q0, cs', q2, q3⟩
     · exact .inl ⟨st2, q1, q2 ▸ hn cs' q3⟩
     · exact .inr ⟨r, q1, q0, q2 ▸ hn cs' q3⟩
   · cases h
 · rename_i args tys hop
   split at h
   · rename_i x y t tx ha ht
     split at h
     · rename_i out hout
       obtain ⟨hp, h⟩ := h
       obtain ⟨cs1, e1, h1⟩ := CSt.obK_st h
       rw [fN_eq] at h1
       obtain ⟨cs2, e2, h2⟩ := CSt.putK_st h1
       simp only [hop, ha, ht, hout]
       have e : cs2.st = out.st.put o.dst (.osl cs.st.next) := by rw [e2, e1]; rw [appAV_st hout]; rfl
       exact ⟨hp, e ▸ hn cs2 h2⟩
     · rename_i hout
       simp only [hop, ha, ht, hout]
       exact h.g.mono fun st' ⟨cs', e, h2⟩ => e ▸ hn cs' h2
   · cases h
 · rename_i op n1 n2 n3 n4
   rw [fN_eq] at h
   split at h
   · rename_i p hp
     have hp' : pas P cs.st.ev (look cs.st.ob) cs.st.next o.op = some p := hp
     have key : (match p.mo with
      | none => andO p.pre (p.r.force fun r => next' (cs.st.put o.dst r))
      | some mo => andO p.pre (p.r.force fun r => next' ((cs.st.add mo).put o.dst r))) := by
      split at h
      · rename_i hm
        refine andO_map h fun h => ?_
        rw [AV.force_eq] at h ⊢
        obtain ⟨cs2, e2, h2⟩ := CSt.putK_st h
        exact e2 ▸ hn cs2 h2
      · rename_i mo hm
        refine andO_map h fun h => ?_
        rw [AV.force_eq] at h ⊢
        obtain ⟨cs1, e1, h1⟩ := CSt.obK_st h
        obtain ⟨cs2, e2, h2⟩ := CSt.putK_st h1
        have e : cs2.st = (cs.st.add mo).put o.dst p.r := by rw [e2, e1]; rfl
        exact e ▸ hn cs2 h2
     split
     · rename_i e; cases e
     · split
       · rename_i t x y hop; exact absurd hop (n1 _ _ _)
       · rename_i t x k y hop; exact absurd hop (n2 _ _ _ _)
       · rename_i f args tys hop; exact absurd hop (n3 _ _ _)
       · rename_i args tys hop; exact absurd hop (n4 _ _)
       · rw [hp']; exact key
   · rename_i hp
     have hp' : pas P cs.st.ev (look cs.st.ob) cs.st.next o.op = none := hp
     have key : OpG P o cs.st next' := h.g.mono fun st' ⟨cs', e, h2⟩ => e ▸ hn cs' h2
     split
     · rename_i e; cases e
     · split
       · rename_i t x y hop; exact absurd hop (n1 _ _ _)
       · rename_i t x k y hop; exact absurd hop (n2 _ _ _ _)
       · rename_i f args tys hop; exact absurd hop (n3 _ _ _)
       · rename_i args tys hop; exact absurd hop (n4 _ _)
       · rw [hp']; exact key
end Go.Vw

namespace Go.Vw
open Go
def exOpsC (P : Program) [Tabs P] (all : Array Oper) : List Oper → CSt → (CSt → Prop) → Prop
 | [], cs, next => next cs
 | o :: r, cs, next => match o.guard with
   | none => exOpC P o cs fun cs' => exOpsC P all r cs' next
   | some (j, want) => match (all[j]?).bind (·.dst) with
     | some t => (match Nat.blt t cs.n, dstOK o.dst cs.n with
       | true, true => (match cs.st.tm t with
         | .bool c => (match want with
           | true => Grd c (cs.putK (some t) (.bool true) fun cs => exOpC P o cs fun cs' => exOpsC P all r cs' next) (cs.putK (some t) (.bool false) fun cs => cs.putK o.dst .undef fun cs => exOpsC P all r cs next)
           | false => Grd c (cs.putK (some t) (.bool true) fun cs => cs.putK o.dst .undef fun cs => exOpsC P all r cs next) (cs.putK (some t) (.bool false) fun cs => exOpC P o cs fun cs' => exOpsC P all r cs' next))
         | .undef => cs.putK o.dst .undef fun cs => exOpsC P all r cs next
         | _ => False)
       | _, _ => False)
     | none => False
theorem Grd.map {c : Bool} {A B A' B' : Prop} (h : Grd c A B) (ha : A → A') (hb : B → B') : Grd c A' B' := by
 cases c
 · exact hb h
 · exact ha h
theorem exOpsC_st {P : Program} [Tabs P] {all : Array Oper} : ∀ (l : List Oper) {cs : CSt} {next : CSt → Prop} {next' : St → Prop}, exOpsC P all l cs next → (∀ cs', next cs' → next' cs'.st) → exOps P all l cs.st next'
 | [], cs, next, next', h, hn => hn cs h
 | o :: r, cs, next, next', h, hn => by
   have step : ∀ cs1 : CSt, (exOpC P o cs1 fun cs' => exOpsC P all r cs' next) → exOp P o cs1.st fun st' => exOps P all r st' next' := fun cs1 h1 =>
    exOpC_st h1 fun cs' h2 => exOpsC_st r h2 hn
   have skip : ∀ (cs1 : CSt), (cs1.putK o.dst .undef fun cs => exOpsC P all r cs next) → exOps P all r (cs1.st.put o.dst .undef) next' := fun cs1 h1 => by
    obtain ⟨cs2, e, h2⟩ := CSt.putK_st h1
    rw [← e]; exact exOpsC_st r h2 hn
   unfold exOpsC at h
   unfold exOps
   cases hg : o.guard with
   | none => simp only [hg] at h ⊢; exact step cs h
   | some jw =>
     obtain ⟨j, want⟩ := jw
     simp only [hg] at h ⊢
     cases hj : (all[j]?).bind (·.dst) with
     | none => simp only [hj] at h
     | some t =>
       simp only [hj] at h ⊢
       rw [show cs.st.n = cs.n from rfl]
       cases hb : Nat.blt t cs.n <;> cases hd : dstOK o.dst cs.n <;> simp only [hb, hd] at h ⊢
       cases hc : cs.st.tm t <;> simp only [hc] at h ⊢
       · rename_i c
         cases want
         · exact h.map (fun h => by obtain ⟨cs2, e, h2⟩ := CSt.putK_st h; rw [← e]; exact skip cs2 h2) (fun h => by obtain ⟨cs2, e, h2⟩ := CSt.putK_st h; rw [← e]; exact step cs2 h2)
         · exact h.map (fun h => by obtain ⟨cs2, e, h2⟩ := CSt.putK_st h; rw [← e]; exact step cs2 h2) (fun h => by obtain ⟨cs2, e, h2⟩ := CSt.putK_st h; rw [← e]; exact skip cs2 h2)
       · exact skip cs h
theorem OwnCall.ofM {P : Program} [Tabs P] {F : FuncId} {l : List AV} {ob : List (Nat × MO)} {nm : Nat} {r : AV} {mo : MO} (h : FnM P F 0 (AV.fzs ob (fun _ => none) l) [] r [(0, mo)] 1) (hr : r.scn = true) (hm : mo.scP) : OwnCall P F l ob nm (r.ren fun _ => nm) (mo.ren fun _ => nm) := by
 refine ⟨h.1, fun w ok vs hJ hok hargs => ?_⟩
 have ng : ∀ b, ¬ grO [] G0 b := fun b ⟨m, mo, G, e, _⟩ => by cases e
 have hobs : Obs [] G0 ok w := ⟨fun _ _ e => (by cases e), fun _ _ _ _ _ _ _ e => (by cases e), fun b hb => ⟨hok b hb, fun _ _ _ e => (by cases e)⟩, fun _ _ _ _ e => (by cases e)⟩
 refine (h.2 w ok G0 vs ⟨hJ, fun b _ hg => ng b hg⟩ hobs (fun _ _ => rfl) hargs).mono ?_
 rintro e w' ⟨v, g', ok', rfl, hf, hob, _, hfr, hv, hown, hokn⟩
 obtain ⟨G, hG, hrel⟩ := hob.rel 0 mo rfl
 have hren : ∀ g m K, g' m = some K → gset g nm G ((fun _ => nm) m) = some K := fun g m K hk => by
  rcases Nat.eq_zero_or_pos m with h0 | h0
  · subst h0; rw [hG] at hk; cases hk; exact gset_same
  · rw [hfr m h0] at hk; cases hk
 refine ⟨v, G, rfl, ⟨hf.os, hf.tape, hf.output, hf.size, fun b hb _ => hf.old b hb (ng b)⟩, fun b hb => ?_, fun ok2 g => ⟨MRel.scP (hren g) hm hrel, RV.scn (hren g) r v hr hv⟩⟩
 rcases hown 0 mo G b rfl hG hb with h1 | h1
 · exact ⟨h1, hob.lt 0 mo G b rfl hG hb⟩
 · exact absurd h1 (ng b)
@[irreducible] def LoopC (P : Program) [Tabs P] (nb : Nat) (b : Code) (cs : CSt) (Q : Exit → CSt → Prop) : Prop := LoopG P nb b cs.st fun e st => ∃ cs', cs'.st = st ∧ Q e cs'
@[irreducible] def DrawC (P : Program) [Tabs P] (nb : Nat) (ops : Array Oper) (cs : CSt) (next : CSt → Prop) : Prop := DrawG P nb ops cs.st fun st => ∃ cs', cs'.st = st ∧ next cs'
@[irreducible] def ScopeC (P : Program) [Tabs P] (nb : Nat) (b : Code) (cs : CSt) (Q : Exit → CSt → Prop) : Prop := ScopeG P nb b cs.st fun e st => ∃ cs', cs'.st = st ∧ Q e cs'
def wpC (P : Program) [Tabs P] (nb : Nat) : Code → CSt → (Exit → CSt → Prop) → Prop
 | .skip, cs, Q => Q .normal cs
 | .region _ ops draw, cs, Q => (match draw with | true => DrawC P nb ops cs (Q .normal) | false => exOpsC P ops ops.toList cs (Q .normal))
 | .seq x y, cs, Q => wpC P nb x cs fun e cs' => match e with | .normal => wpC P nb y cs' Q | e => Q e cs'
 | .cond c x y, cs, Q => (match cs.st.ev c with
   | .bool t => Grd t (wpC P nb x cs Q) (wpC P nb y cs Q)
   | _ => False)
 | .block id b, cs, Q => wpC P nb b cs fun e cs' => match e with | .exit k => (bif Nat.beq k id then Q .normal cs' else Q (.exit k) cs') | e => Q e cs'
 | .loop b, cs, Q => LoopC P nb b cs Q
 | .exit id, cs, Q => Q (.exit id) cs
 | .scope b, cs, Q => ScopeC P nb b cs Q
 | .ret, cs, Q => Q .ret cs
 | .label _, cs, Q => Q .normal cs
 | .goto l, cs, Q => Q (.goto l) cs
 | _, _, _ => False
theorem wpC_SW {P : Program} [Tabs P] {nb : Nat} : ∀ (c : Code) (cs : CSt) (Q : Exit → CSt → Prop), wpC P nb c cs Q → SW P nb c cs.st fun e st => ∃ cs', cs'.st = st ∧ Q e cs'
 | .skip, cs, Q, h => fun gb w0 gr ok0 g ok a w _ hr => wp_skip ⟨cs.st, g, ok, hr, cs, rfl, h⟩
 | .region id ops draw, cs, Q, h => by
   cases draw with
   | true =>
     have h' : DrawC P nb ops cs (Q .normal) := h
     unfold DrawC at h'
     exact wpS_SW (nb := nb) (.region id ops true) cs.st (fun e st => ∃ cs' : CSt, cs'.st = st ∧ Q e cs') h'
   | false =>
     have h' : exOpsC P ops ops.toList cs (Q .normal) := h
     exact wpS_SW (nb := nb) (.region id ops false) cs.st (fun e st => ∃ cs' : CSt, cs'.st = st ∧ Q e cs') (exOpsC_st _ h' fun cs' h => ⟨cs', rfl, h⟩)
 | .seq x y, cs, Q, h => by
   intro gb w0 gr ok0 g ok a w hgb hr
   have h1 := wpC_SW x cs _ h gb w0 gr ok0 g ok a w hgb hr
   refine wp_seq (wp_mono h1 fun e a' w' ⟨st', g', ok', hr', cs', ecs, hq⟩ => ?_)
   subst ecs
   cases e
   case normal => exact wpC_SW y cs' Q hq gb w0 gr ok0 g' ok' a' w' hgb hr'
   all_goals exact ⟨_, g', ok', hr', cs', rfl, hq⟩
 | .cond c x y, cs, Q, h => by
   intro gb w0 gr ok0 g ok a w hgb hr
   unfold wpC at h
   split at h
   · rename_i t ht
     have hv := hr.ev c
     rw [ht] at hv
     simp only [RV] at hv
     refine wp_cond hv ?_
     cases t <;> simp only [Grd] at h
     · exact wpC_SW y cs Q h gb w0 gr ok0 g ok a w hgb hr
     · exact wpC_SW x cs Q h gb w0 gr ok0 g ok a w hgb hr
   · cases h
 | .block id b, cs, Q, h => by
   intro gb w0 gr ok0 g ok a w hgb hr
   have h1 := wpC_SW b cs _ h gb w0 gr ok0 g ok a w hgb hr
   refine wp_block (wp_mono h1 fun e a' w' ⟨st', g', ok', hr', cs', ecs, hq⟩ => ?_)
   subst ecs
   cases e with
   | exit j =>
     simp only [Exit.inBlock]
     cases hb : Nat.beq j id <;> simp only [hb, cond_true, cond_false] at hq
     · rw [if_neg (fun e => by subst e; simp at hb)]; exact ⟨_, g', ok', hr', cs', rfl, hq⟩
     · rw [if_pos (Nat.eq_of_beq_eq_true hb)]; exact ⟨_, g', ok', hr', cs', rfl, hq⟩
   | normal => exact ⟨_, g', ok', hr', cs', rfl, hq⟩
   | goto l => exact ⟨_, g', ok', hr', cs', rfl, hq⟩
   | ret => exact ⟨_, g', ok', hr', cs', rfl, hq⟩
   | panic ch => exact ⟨_, g', ok', hr', cs', rfl, hq⟩
   | outgrown => exact ⟨_, g', ok', hr', cs', rfl, hq⟩
 | .loop b, cs, Q, h => by
   have h' : LoopC P nb b cs Q := h
   unfold LoopC at h'
   exact wpS_SW (.loop b) cs.st _ h'
 | .exit id, cs, Q, h => fun gb w0 gr ok0 g ok a w _ hr => wp_exit ⟨cs.st, g, ok, hr, cs, rfl, h⟩
 | .scope b, cs, Q, h => by
   have h' : ScopeC P nb b cs Q := h
   unfold ScopeC at h'
   exact wpS_SW (.scope b) cs.st _ h'
 | .ret, cs, Q, h => fun gb w0 gr ok0 g ok a w _ hr => wp_ret ⟨cs.st, g, ok, hr, cs, rfl, h⟩
 | .label _, cs, Q, h => fun gb w0 gr ok0 g ok a w _ hr => wp_label ⟨cs.st, g, ok, hr, cs, rfl, h⟩
 | .goto l, cs, Q, h => fun gb w0 gr ok0 g ok a w _ hr => wp_goto ⟨cs.st, g, ok, hr, cs, rfl, h⟩
 | .rangeFunc _ _ _ _, _, _, h => by cases h
 | .refuse _, _, _, h => by cases h
def slotsK : List (Nat × AV) → CSt → (CSt → Prop) → Prop
 | [], cs, k => k cs
 | (t, x) :: r, cs, k => slotsK r cs fun cs => x.force fun x => cs.putK (some t) x k
theorem slotsK_st : ∀ {S : List (Nat × AV)} {cs : CSt} {k : CSt → Prop}, slotsK S cs k → (∀ t, cs.st.tm t = .any) → ∃ cs', cs'.st = { cs.st with tm := lookT S } ∧ k cs'
 | [], cs, k, h, hc => ⟨cs, St.ext' (fun t => hc t) rfl rfl rfl, h⟩
 | (t, x) :: r, cs, k, h, hc => by
   have h' : slotsK r cs (fun cs => x.force fun x => cs.putK (some t) x k) := h
   obtain ⟨cs1, e1, h1⟩ := slotsK_st h' hc
   rw [AV.force_eq] at h1
   obtain ⟨cs2, e2, h2⟩ := CSt.putK_st h1
   refine ⟨cs2, ?_, h2⟩
   rw [e2, e1]
   refine St.ext' (fun s => ?_) rfl rfl rfl
   show (bif Nat.beq s t then x else lookT r s) = bif Nat.beq t s then x else lookT r s
   by_cases e : s = t
   · subst e; simp
   · rw [beq_f e, beq_f (fun h => e h.symm)]
def mkK (S : List (Nat × AV)) (O : List (Nat × MO)) (nx n : Nat) (k : CSt → Prop) : Prop := fOb O fun O => slotsK S ⟨.e, .any, O, nx, n⟩ k
theorem mkK_st {S : List (Nat × AV)} {O : List (Nat × MO)} {nx n : Nat} {k : CSt → Prop} (h : mkK S O nx n k) : ∃ cs, cs.st = mkSt S O nx n ∧ k cs := by
 unfold mkK at h
 rw [fOb_eq] at h
 exact slotsK_st h fun t => rfl
theorem LoopC.mk {P : Program} [Tabs P] {nb : Nat} {b : Code} {cs : CSt} {Q : Exit → CSt → Prop} {ι : Type} (R : ι → Prop) (S : ι → List (Nat × AV)) (O : ι → List (Nat × MO)) (nx : Nat) (m : ι → Nat) (i0 : ι)
 (h0 : R i0 ∧ ∃ kl, Ent nb cs.st kl (S i0) (O i0) nx cs.n)
 (hr : ∀ i, R i → mkK (S i) (O i) nx cs.n fun cs1 => wpC P nb b cs1 fun e cs' => match e with | .normal => ∃ i', R i' ∧ m i' < m i ∧ ∃ kl, Ent nb cs'.st kl (S i') (O i') nx cs.n | e => Q e cs') :
 LoopC P nb b cs Q := by
 unfold LoopC
 refine LoopG.mkSW R S O nx m i0 h0 fun i hi => ?_
 obtain ⟨cs1, e1, h1⟩ := mkK_st (hr i hi)
 have h2 := wpC_SW b cs1 _ h1
 rw [e1] at h2
 refine h2.mono fun e st' ⟨cs', ecs, hq⟩ => ?_
 subst ecs
 cases e
 case normal => exact hq
 all_goals exact ⟨cs', rfl, hq⟩
def roundsC (P : Program) [Tabs P] (nb : Nat) (b : Code) (Q : Exit → CSt → Prop) : Nat → CSt → Prop
 | 0, _ => False
 | n + 1, cs => wpC P nb b cs fun e cs' => match e with | .normal => roundsC P nb b Q n cs' | e => Q e cs'
theorem roundsC_wp {P : Program} [Tabs P] {nb : Nat} {b : Code} {Q : Exit → CSt → Prop} {gb : Nat → Option Gh} {w0 : World} {gr ok0 : Nat → Prop} (hgb : (∀ m, nb ≤ m → gb m = none) ∧ JJ P w0 gr) :
 ∀ (n : Nat) (cs : CSt) (g : Nat → Option Gh) (ok : Nat → Prop) (a : Act) (w : World), roundsC P nb b Q n cs → Rep gb w0 gr ok0 cs.st g ok a w →
   Code.rounds P b (fun e a' w' => ∃ st' g' ok', Rep gb w0 gr ok0 st' g' ok' a' w' ∧ ∃ cs', cs'.st = st' ∧ Q e cs') n a w
 | 0, _, _, _, _, _, h, _ => h
 | n + 1, cs, g, ok, a, w, h, hr => by
   rw [rounds_succ]
   have h1 := wpC_SW b cs _ h gb w0 gr ok0 g ok a w hgb hr
   refine Code.wp_mono (fun e a' w' ⟨st', g', ok', hr', cs', ecs, hq⟩ => ?_) h1
   subst ecs
   cases e with
   | normal => exact roundsC_wp hgb n cs' g' ok' a' w' hq hr'
   | exit j => exact ⟨_, g', ok', hr', cs', rfl, hq⟩
   | goto l => exact ⟨_, g', ok', hr', cs', rfl, hq⟩
   | ret => exact ⟨_, g', ok', hr', cs', rfl, hq⟩
   | panic ch => exact ⟨_, g', ok', hr', cs', rfl, hq⟩
   | outgrown => exact ⟨_, g', ok', hr', cs', rfl, hq⟩
theorem LoopC.rounds {P : Program} [Tabs P] {nb : Nat} {b : Code} {cs : CSt} {Q : Exit → CSt → Prop} (n : Nat) (h : roundsC P nb b Q n cs) : LoopC P nb b cs Q := by
 unfold LoopC LoopG
 exact fun gb w0 gr ok0 g ok a w hgb hr => wp_loop_rounds n (roundsC_wp hgb n cs g ok a w h hr)
def argsK : Nat → List AV → CSt → (CSt → Prop) → Prop
 | _, [], cs, k => k cs
 | i, x :: r, cs, k => x.force fun x => cs.putK (some i) x fun cs => argsK (i + 1) r cs k
theorem argsK_st : ∀ {l : List AV} {i : Nat} {cs : CSt} {k : CSt → Prop}, argsK i l cs k → (∀ t, i ≤ t → cs.st.tm t = .undef) → ∃ cs', cs'.st = { cs.st with tm := fun t => if t < i then cs.st.tm t else l.getD (t - i) .undef } ∧ k cs'
 | [], i, cs, k, h, hc => ⟨cs, St.ext' (fun t => by
  show cs.st.tm t = if t < i then cs.st.tm t else _
  split
  · rfl
  · rw [hc t (by omega)]; rfl) rfl rfl rfl, h⟩
 | x :: r, i, cs, k, h, hc => by
   unfold argsK at h
   rw [AV.force_eq] at h
   obtain ⟨cs1, e1, h1⟩ := CSt.putK_st h
   have hput : ∀ t, cs1.st.tm t = if t = i then x else cs.st.tm t := fun t => by
    rw [e1]
    show (bif Nat.beq t i then x else cs.st.tm t) = _
    rw [bf]; simp
   obtain ⟨cs2, e2, h2⟩ := argsK_st h1 fun t ht => by rw [hput, if_neg (by omega), hc t (by omega)]
   refine ⟨cs2, ?_, h2⟩
   rw [e2]
   refine St.ext' (fun t => ?_) (by rw [e1]; rfl) (by rw [e1]; rfl) (by rw [e1]; rfl)
   show (if t < i + 1 then cs1.st.tm t else r.getD (t - (i + 1)) .undef) = if t < i then cs.st.tm t else (x :: r).getD (t - i) .undef
   rw [hput]
   by_cases h1 : t < i
   · rw [if_pos (by omega), if_pos h1, if_neg (by omega)]
   · rw [if_neg h1]
     by_cases h2 : t = i
     · subst h2; rw [if_pos (by omega), if_pos rfl]; simp
     · rw [if_neg (by omega), show t - i = (t - (i + 1)) + 1 by omega]; simp
def entryK (args : List AV) (ob : List (Nat × MO)) (nb n : Nat) (k : CSt → Prop) : Prop := fOb ob fun ob => fN n fun n => argsK 0 args ⟨.e, .undef, ob, nb, n⟩ k
theorem entryK_st {args : List AV} {ob : List (Nat × MO)} {nb n : Nat} {k : CSt → Prop} (h : entryK args ob nb n k) : ∃ cs, cs.st = entry args ob nb n ∧ k cs := by
 unfold entryK at h
 rw [fOb_eq, fN_eq] at h
 obtain ⟨cs, e, hk⟩ := argsK_st h fun t _ => rfl
 exact ⟨cs, by rw [e]; exact St.ext' (fun t => show (if t < 0 then AV.undef else args.getD (t - 0) .undef) = args.getD t .undef by rw [if_neg (Nat.not_lt_zero t)]; rfl) rfl rfl rfl, hk⟩
theorem VFn.introC {P : Program} [Tabs P] {F : FuncId} {fn : Func} {c : Code} {args : List AV} {r : AV} (hen : Enters P F) (hf : P.funcs[F]? = some fn) (hb : fn.body = some c) (hn : Nat.ble args.length fn.ntmps = true)
 (h : entryK args [] 0 fn.ntmps fun cs => wpC P 0 c cs fun e cs => Done P fn.results.toList r e cs.st) : VFn P F args r := by
 obtain ⟨cs, e, h1⟩ := entryK_st h
 refine VFn.introSW hen hf hb hn ?_
 have h2 := wpC_SW c cs _ h1
 rw [e] at h2
 exact h2.mono fun e st' ⟨cs', ecs, hq⟩ => by subst ecs; exact hq
theorem FnM.introC {P : Program} [Tabs P] {F : FuncId} {fn : Func} {c : Code} {nb nx : Nat} {args : List AV} {O O' : List (Nat × MO)} {r : AV} (hen : Enters P F) (hf : P.funcs[F]? = some fn) (hb : fn.body = some c) (hn : Nat.ble args.length fn.ntmps = true)
 (h : entryK args O nb fn.ntmps fun cs => wpC P nb c cs fun e cs => DoneM P fn.results.toList nb r O' nx e cs.st) : FnM P F nb args O r O' nx := by
 obtain ⟨cs, e, h1⟩ := entryK_st h
 refine FnM.introSW hen hf hb hn ?_
 have h2 := wpC_SW c cs _ h1
 rw [e] at h2
 exact h2.mono fun e st' ⟨cs', ecs, hq⟩ => by subst ecs; exact hq
end Go.Vw

