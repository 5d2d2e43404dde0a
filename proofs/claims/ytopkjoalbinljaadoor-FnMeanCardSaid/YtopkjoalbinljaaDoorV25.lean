/- Vw25: a part of a tool for walks: what a piece of a Go program does, by abstract values. It holds of every program; no condition. -/
import Derived.Test.YtopkjoalbinljaaDoorV24
import Derived.Lib.AppendIntMem
set_option linter.unusedVariables false
set_option linter.unusedSimpArgs false
set_option linter.unusedSectionVars false
namespace Go.Vw
open Go

/-- A text of bytes. -/
def B (l : List UInt8) : ByteArray := ⟨l.toArray⟩
theorem B_app (a b : List UInt8) : B a ++ B b = B (a ++ b) := by
  apply ByteArray.ext; simp [B]
theorem B_size (a : List UInt8) : (B a).size = a.length := by simp [B, ByteArray.size]
theorem B_inj {a b : List UInt8} (h : B a = B b) : a = b := by
  have := congrArg (fun x : ByteArray => x.data.toList) h
  simpa [B] using this
theorem B_data (a : List UInt8) : (B a).data.toList = a := by simp [B]
theorem B_of (s : ByteArray) : ∃ l, s = B l ∧ s.size = l.length := ⟨s.data.toList, by obtain ⟨a⟩ := s; rfl, Array.length_toList.symm⟩

/-- the i-th of a list -/
def ix {α : Type} [Inhabited α] (L : List α) (i : Nat) : α := L.getD i default
theorem ix_lt {α : Type} [Inhabited α] {L : List α} {i : Nat} (h : i < L.length) : ix L i = L[i] := by simp [ix, List.getD, h]
theorem ix_app_l {α : Type} [Inhabited α] {L K : List α} {i : Nat} (h : i < L.length) : ix (L ++ K) i = ix L i := by simp [ix, List.getD, List.getElem?_append_left h]
theorem ix_app_r {α : Type} [Inhabited α] {L K : List α} {i : Nat} (h : L.length ≤ i) : ix (L ++ K) i = ix K (i - L.length) := by simp [ix, List.getD, List.getElem?_append_right h]
@[simp] theorem ix_zero {α : Type} [Inhabited α] {x : α} {L : List α} : ix (x :: L) 0 = x := rfl
@[simp] theorem ix_succ {α : Type} [Inhabited α] {x : α} {L : List α} {i : Nat} : ix (x :: L) (i + 1) = ix L i := rfl
theorem ix_map {α β : Type} [Inhabited α] [Inhabited β] {f : α → β} {L : List α} {i : Nat} (h : i < L.length) : ix (L.map f) i = f (ix L i) := by simp [ix, List.getD, h]
theorem ix_drop {α : Type} [Inhabited α] {L : List α} {k i : Nat} : ix (L.drop k) i = ix L (k + i) := by simp [ix, List.getD]
theorem ix_take {α : Type} [Inhabited α] {L : List α} {k i : Nat} (h : i < k) : ix (L.take k) i = ix L i := by simp [ix, List.getD, h]

/-- rows written out -/
def RowsAre (rows : Nat → List AV) : Nat → List (List AV) → Prop
  | _, [] => True
  | k, r :: rs => rows k = r ∧ RowsAre rows (k + 1) rs
theorem RowsAre.get {rows : Nat → List AV} : ∀ {rs : List (List AV)} {k : Nat}, RowsAre rows k rs → ∀ i, i < rs.length → rows (k + i) = rs.getD i []
  | [], _, _, i, h => by simp at h
  | r :: rs, k, ⟨h1, h2⟩, 0, _ => by simpa using h1
  | r :: rs, k, ⟨h1, h2⟩, i + 1, h => by
    have := RowsAre.get h2 i (by simpa using h)
    rw [show k + (i + 1) = k + 1 + i by omega, this]; simp
theorem RowsAre.le {sz : Nat} {rows : Nat → List AV} {α : Type} [Inhabited α] {f : α → List AV} {L : List α} {n : Nat} (hn : n = L.length) (h : RowsAre rows 0 (L.map f)) : AVle (.sl sz n rows) (.sl sz L.length fun i => f (ix L i)) := by
  subst hn
  refine AVle.sl rfl fun i hi => ?_
  have := h.get i (by simpa using hi)
  rw [Nat.zero_add] at this
  rw [this]; simp [ix, List.getD, hi]

section lists
variable {α : Type} [Inhabited α]
theorem getD_app_lt {L K : List α} {i : Nat} (h : i < L.length) : ix (L ++ K) i = ix L i := by
  exact ix_app_l h
theorem getD_app_ge {L K : List α} {i : Nat} (h : L.length ≤ i) : ix (L ++ K) i = ix K (i - L.length) := by
  exact ix_app_r h
theorem app_rowsL {f : α → List AV} {L K : List α} {r2 : Nat → List AV} (h : ∀ j, j < K.length → r2 j = f (ix K j)) {i : Nat} (hi : i < L.length + K.length) :
    appRows L.length (fun i => f (ix L i)) r2 i = f (ix (L ++ K) i) := by
  unfold appRows
  rcases Nat.lt_or_ge i L.length with h' | h'
  · rw [blt_t h', cond_true, getD_app_lt h']
  · rw [blt_f h', cond_false, getD_app_ge h', h _ (by omega)]
theorem app_row1 {f : α → List AV} {L : List α} {x : α} {r2 : Nat → List AV} (h : r2 0 = f x) {i : Nat} (hi : i < L.length + 1) :
    appRows L.length (fun i => f (ix L i)) r2 i = f (ix (L ++ [x]) i) :=
  app_rowsL (K := [x]) (fun j hj => by
    have : j = 0 := by simpa using hj
    subst this; simpa using h) (by simpa using hi)
/-- An array to which one element is appended. -/
theorem arr_app1 {e sz : Nat} {f : α → List AV} {L : List α} {x : α} {r2 : Nat → List AV} (h : r2 0 = f x) :
    MOle (.arr e sz (L.length + 1) (appRows L.length (fun i => f (ix L i)) r2)) (.arr e sz (L ++ [x]).length fun i => f (ix (L ++ [x]) i)) :=
  MOle.arr (by simp) fun i hi => app_row1 h hi
theorem arr_next {e sz : Nat} {f : α → List AV} {L K : List α} {x : α} {r2 : Nat → List AV} (hK : K = L ++ [x]) (h : r2 0 = f x) :
    MOle (.arr e sz (L.length + 1) (appRows L.length (fun i => f (ix L i)) r2)) (.arr e sz K.length fun i => f (ix K i)) := by subst hK; exact arr_app1 h
theorem arr_app {e sz k : Nat} {f : α → List AV} {L K : List α} {r2 : Nat → List AV} (hk : k = K.length) (h : ∀ j, j < K.length → r2 j = f (ix K j)) :
    MOle (.arr e sz (L.length + k) (appRows L.length (fun i => f (ix L i)) r2)) (.arr e sz (L ++ K).length fun i => f (ix (L ++ K) i)) := by
  subst hk
  exact MOle.arr (by simp) fun i hi => app_rowsL h hi
theorem take_snoc {L : List α} {i : Nat} (h : i < L.length) : L.take (i + 1) = L.take i ++ [ix L i] := by
  rw [List.take_succ_eq_append_getElem h, ix_lt h]
theorem map_take_snoc {β : Type} {f : α → β} {L : List α} {i : Nat} (h : i < L.length) : (L.take (i + 1)).map f = (L.take i).map f ++ [f (ix L i)] := by rw [take_snoc h, List.map_append]; rfl
theorem getD_mem {L : List α} {i : Nat} (h : i < L.length) : ix L i ∈ L := by
  rw [ix_lt h]; exact List.getElem_mem h
theorem drop_ix {L : List α} {i : Nat} (h : i < L.length) : L.drop i = ix L i :: L.drop (i + 1) := by rw [List.drop_eq_getElem_cons h, ix_lt h]
end lists

/-- it holds of 0 .. n - 1 -/
def allN (n : Nat) (q : Nat → Bool) : Bool := (List.range n).all q
theorem allN_zero (q : Nat → Bool) : allN 0 q = true := rfl
theorem allN_succ {n : Nat} {q : Nat → Bool} : allN (n + 1) q = (allN n q && q n) := by simp [allN, List.range_succ]
theorem allN_iff {n : Nat} {q : Nat → Bool} : allN n q = true ↔ ∀ i, i < n → q i = true := by simp [allN]
theorem allN_step {n : Nat} {q : Nat → Bool} (h : allN n q = true) (h1 : q n = true) : allN (n + 1) q = true := by rw [allN_succ, h, h1]; rfl
theorem allN_no {n i : Nat} {q : Nat → Bool} (hi : i < n) (h : q i = false) : allN n q = false := by
  cases hc : allN n q
  · rfl
  · rw [allN_iff.1 hc i hi] at h; cases h
theorem allN_congr {n : Nat} {p q : Nat → Bool} (h : ∀ i, i < n → p i = q i) : allN n p = allN n q := by
  rw [Bool.eq_iff_iff, allN_iff, allN_iff]
  exact ⟨fun hp i hi => by rw [← h i hi]; exact hp i hi, fun hp i hi => by rw [h i hi]; exact hp i hi⟩
theorem allN_all {α : Type} [Inhabited α] {L : List α} {p : α → Bool} : allN L.length (fun i => p (ix L i)) = L.all p := by
  rw [Bool.eq_iff_iff, allN_iff, List.all_eq_true]
  constructor
  · intro h x hx
    obtain ⟨i, hi, rfl⟩ := List.mem_iff_getElem.1 hx
    have := h i hi
    rwa [ix_lt hi] at this
  · intro h i hi
    exact h _ (getD_mem hi)

def within (n lo hi : Int) : Bool := decide (lo ≤ n) && decide (n ≤ hi)
theorem win_iff {n lo hi : Int} : within n lo hi = true ↔ lo ≤ n ∧ n ≤ hi := by simp [within]
theorem win_no {n lo hi : Int} : within n lo hi = false ↔ n < lo ∨ hi < n := by
  rw [Bool.eq_false_iff, ne_eq, win_iff]; omega

/-- the first code that applies -/
def firstC : List (Bool × Int) → Int
  | [] => 0
  | (b, c) :: r => bif b then c else firstC r
def FirstRows (tb ti : TypeId) (rows : Nat → List AV) : Nat → List (Bool × Int) → Prop
  | _, [] => True
  | k, (b, c) :: r => rows k = [.iface tb (.bool b)] ∧ rows (k + 1) = [.iface ti (.int .i64 c)] ∧ FirstRows tb ti rows (k + 2) r
theorem FirstRows.get {tb ti : TypeId} {rows : Nat → List AV} : ∀ {l : List (Bool × Int)} {k : Nat}, FirstRows tb ti rows k l → ∀ i, i < l.length → rows (k + 2 * i) = [.iface tb (.bool (ix l i).1)] ∧ rows (k + (2 * i + 1)) = [.iface ti (.int .i64 (ix l i).2)]
  | [], _, _, i, h => by simp at h
  | (b, c) :: r, k, ⟨h1, h2, h3⟩, 0, _ => ⟨by simpa using h1, by simpa using h2⟩
  | (b, c) :: r, k, ⟨h1, h2, h3⟩, i + 1, h => by
    have := FirstRows.get h3 i (by simpa using h)
    rw [show k + 2 * (i + 1) = k + 2 + 2 * i by omega, show k + (2 * (i + 1) + 1) = k + 2 + (2 * i + 1) by omega]
    simpa using this
theorem firstC_none {l : List (Bool × Int)} : ∀ {i : Nat}, (∀ j, j < i → (ix l j).1 = false) → i ≤ l.length → firstC l = firstC (l.drop i) := by
  intro i
  induction i generalizing l with
  | zero => intro _ _; rfl
  | succ i ih =>
    intro h hl
    match l, hl with
    | (b, c) :: r, hl =>
      have h0 := h 0 (by omega)
      have hb : b = false := by simpa using h0
      subst hb
      show firstC r = _
      rw [List.drop_succ_cons]
      exact ih (fun j hj => by have := h (j + 1) (by omega); simpa using this) (by simpa using hl)

theorem dd_len : ∀ (k u : Nat), u < 10 ^ (k + 1) → (Lib.decDigits u).length ≤ k + 1
  | 0, u, h => by rw [Lib.decDigits, dif_pos (by simpa using h)]; simp
  | k + 1, u, h => by
    rw [Lib.decDigits]
    split
    · simp
    · have := dd_len k (u / 10) (by rw [Nat.pow_succ] at h; omega)
      simp; omega
theorem itoa_len {n : Int} (h0 : -9223372036854775808 ≤ n) (h1 : n ≤ 9223372036854775807) : (Lib.itoa n).length ≤ 21 := by
  unfold Lib.itoa
  split
  · have := dd_len 19 n.natAbs (by simp; omega)
    simp; omega
  · have := dd_len 19 n.toNat (by simp; omega)
    omega
end Go.Vw
namespace Go.Vw
open Go
section
variable {H : Type} {enc : TypeId × Value → H} {P : Program} {w : World}
theorem Rd.list {t e : TypeId} {sz : Nat} {α : Type} [Inhabited α] {f : α → List AV} (ht : P.underlying t = some (.slice e)) (hC : P.cellsOf e = sz) (hsz : 1 ≤ sz) (he : Rd enc P w e fun l => ∃ x, l = f x) :
    Rd enc P w t (fun l => ∃ L : List α, l = [.sl sz L.length fun i => f (ix L i)] ∧ L.length ≤ maxLen) :=
  (Rd.slice ht hC hsz he).le fun l h => by
    obtain ⟨n, rows, rfl, hn, hr⟩ := h
    let g : Nat → α := fun i => if h : i < n then (hr i h).choose else default
    have hg : ∀ i, i < n → rows i = f (g i) := fun i h => by simp only [g, h, dif_pos]; exact (hr i h).choose_spec
    have hl : ((List.range n).map g).length = n := by simp
    refine ⟨[.sl sz ((List.range n).map g).length fun i => f (ix ((List.range n).map g) i)], ⟨_, rfl, by rw [hl]; exact hn⟩, AVsle.cons (AVle.sl hl.symm fun i hi => ?_) AVsle.nil⟩
    rw [hg i hi, ix_lt (by rw [hl]; exact hi)]; simp
theorem Rd.strB {t : TypeId} (ht : P.underlying t = some .string) : Rd enc P w t (fun as => ∃ l : List UInt8, as = [.str (B l)] ∧ l.length ≤ maxLen) :=
  (Rd.str ht).weak fun as h => by
    obtain ⟨s, rfl, hs⟩ := h
    obtain ⟨l, rfl, hl⟩ := B_of s
    exact ⟨l, rfl, by omega⟩
end
end Go.Vw
