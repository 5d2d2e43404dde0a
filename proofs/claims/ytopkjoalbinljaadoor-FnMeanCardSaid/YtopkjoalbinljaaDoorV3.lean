/- Vw3: a part of a tool for walks: what a piece of a Go program does, by abstract values. It holds of every program; no condition. -/
import Derived.Test.YtopkjoalbinljaaDoorV2
import Derived.Laws.BytesArg
set_option linter.unusedVariables false
set_option linter.unusedSimpArgs false
set_option linter.unusedSectionVars false
namespace Go.Vw
open Go

/-- 'k n', n being brought to a numeral. -/
def fN {α : Sort _} (n : Nat) (k : Nat → α) : α := match n with | 0 => k 0 | m + 1 => k (m + 1)
theorem fN_eq {α : Sort _} (n : Nat) (k : Nat → α) : fN n k = k n := by cases n <;> rfl
/-- 'k x', x being brought to its first sign. -/
def fA {α : Sort _} (x : AV) (k : AV → α) : α :=
  match x with
  | .any => k .any | .int a b => k (.int a b) | .bool b => k (.bool b) | .str s => k (.str s) | .agg c => k (.agg c) | .tup c => k (.tup c) | .nilsl => k .nilsl
  | .sl a b c => k (.sl a b c) | .osl m => k (.osl m) | .eptr a b => k (.eptr a b) | .bptr a b => k (.bptr a b) | .aptr a b c d => k (.aptr a b c d) | .nilptr => k .nilptr | .iface a b => k (.iface a b)
  | .niliface => k .niliface | .fn a b c => k (.fn a b c) | .nilfn => k .nilfn | .omap m => k (.omap m) | .undef => k .undef
theorem fA_eq {α : Sort _} (x : AV) (k : AV → α) : fA x k = k x := by cases x <;> rfl
/-- 'k l', l being brought to a list written out. -/
def fL {α : Sort _} : List AV → (List AV → α) → α
  | [], k => k []
  | x :: r, k => fA x fun y => fL r fun s => k (y :: s)
theorem fL_eq {α : Sort _} : ∀ (l : List AV) (k : List AV → α), fL l k = k l
  | [], _ => rfl
  | x :: r, k => by simp only [fL, fA_eq, fL_eq r]
def fPl {α : Sort _} : List (Nat × Nat) → (List (Nat × Nat) → α) → α
  | [], k => k []
  | (a, b) :: r, k => fN a fun a => fN b fun b => fPl r fun s => k ((a, b) :: s)
theorem fPl_eq {α : Sort _} : ∀ (l : List (Nat × Nat)) (k : List (Nat × Nat) → α), fPl l k = k l
  | [], _ => rfl
  | (a, b) :: r, k => by simp only [fPl, fN_eq, fPl_eq r]

def AV.isVal : AV → Bool
  | .any | .tup _ | .undef => false
  | _ => true

/-- no name in it (one cell) -/
def AV.nameless : AV → Bool
  | .int _ _ | .bool _ | .str _ | .nilsl | .sl _ _ _ | .nilptr | .niliface | .nilfn => true
  | .iface _ (.int _ _) | .iface _ (.bool _) | .iface _ (.str _) => true
  | _ => false

def rowB : List AV → Int
  | [.int .u8 b] => b
  | _ => 0
def bytesOf (n : Nat) (rows : Nat → List AV) : ByteArray := strOfNums ((List.range n).map fun i => rowB (rows i))
/-- a slice's rows, its own or not -/
def rowsOf (look : Nat → Option MO) : AV → Option (Nat × Nat × (Nat → List AV))
  | .sl sz n rows => some (sz, n, rows)
  | .nilsl => some (1, 0, fun _ => [])
  | .osl m => match look m with | some (.arr _ sz n rows) => some (sz, n, rows) | _ => none
  | _ => none

def elemOf? (P : Program) (t : TypeId) : Option TypeId := match P.underlying t with | some (.slice e) => some e | _ => none

def placesOf (P : Program) : List Field → Option (List (Nat × Nat))
  | [] => some []
  | f :: fs => match P.info? f.type, placesOf P fs with | some i, some r => some ((f.offset, i.size) :: r) | _, _ => none

/-- The parts laid into cells, at their places. -/
def fillAV (place : Nat → Option (Nat × Nat)) (cells : List AV) : List (Nat × AV) → Option (List AV)
  | [] => some cells
  | (i, v) :: rest => match place i with
    | none => none
    | some (off, size) => fN off fun off => fN size fun size => fA v fun v => bif (v.isVal && Nat.beq v.cells.length size) && Nat.ble (off + size) cells.length then fL (cells.take off ++ v.cells ++ cells.drop (off + size)) fun cs => fillAV place cs rest else none

def lenAV (d : Option TypeDesc) (look : Nat → Option MO) (x : AV) : Option Nat :=
  match d with
  | some .string => match x with | .str s => some s.size | _ => none
  | some (.slice _) => match x with
    | .sl _ n _ => some n
    | .nilsl => some 0
    | .osl m => match look m with | some (.arr _ _ n _) => some n | _ => none
    | _ => none
  | some (.map _ _) => match x with
    | .omap m => match look m with | some (.imap ks) => some ks.length | some (.smap ks) => some ks.length | _ => none
    | _ => none
  | _ => none

def minAV : AV → AV → Option AV
  | .int .i64 x, .int .i64 y => some (.int .i64 (if y < x then y else x))
  | _, _ => none
def maxAV : AV → AV → Option AV
  | .int .i64 x, .int .i64 y => some (.int .i64 (if y > x then y else x))
  | _, _ => none

def sliceAV (P : Program) (t : TypeId) (x : AV) (lo hi : Option AV) : Option PO :=
  match P.underlying t with
  | some .string => match x with
    | .str s => match lo, hi with
      | some (.int .i64 l), some (.int .i64 h) => some ⟨some (0 ≤ l ∧ l ≤ h ∧ h ≤ s.size), .str (s.extract l.toNat h.toNat), none⟩
      | some (.int .i64 l), none => some ⟨some (0 ≤ l ∧ l ≤ s.size), .str (s.extract l.toNat s.size), none⟩
      | none, some (.int .i64 h) => some ⟨some (0 ≤ h ∧ h ≤ s.size), .str (s.extract 0 h.toNat), none⟩
      | _, _ => none
    | _ => none
  | some (.slice e) => match x with
    | .sl sz n rows => bif Nat.beq (P.cellsOf e) sz && Nat.ble 1 sz then (match lo, hi with
      | some (.int .i64 l), some (.int .i64 h) => some ⟨some (0 ≤ l ∧ l ≤ h ∧ h ≤ n), .sl sz (h.toNat - l.toNat) (fun i => rows (l.toNat + i)), none⟩
      | some (.int .i64 l), none => some ⟨some (0 ≤ l ∧ l ≤ n), .sl sz (n - l.toNat) (fun i => rows (l.toNat + i)), none⟩
      | none, some (.int .i64 h) => some ⟨some (0 ≤ h ∧ h ≤ n), .sl sz h.toNat rows, none⟩
      | none, none => some ⟨none, .sl sz n rows, none⟩
      | _, _ => none) else none
    | _ => none
  | _ => none

/-- A type's zero value is false. -/
def zeroFalse (P : Program) (t : TypeId) : Bool := match (P.info? t).bind (·.zero) with | some (.bool false) => true | _ => false
/-- Are two cells alike? -/
def eqCell (P : Program) (t : TypeId) (x y : AV) : Option Bool := match P.underlying t, x, y with
  | some (.int _), .int .i64 a, .int .i64 b => some (decide (a = b))
  | some .string, .str a, .str b => some (a.toList == b.toList)
  | some .bool, .bool a, .bool b => some (a == b)
  | _, _, _ => none
def eqL (P : Program) (sub : TypeId → List AV → List AV → Option Bool) (xs ys : List AV) : List Field → Option Bool
  | [] => some true
  | f :: fs => match eqL P sub xs ys fs with
    | none => none
    | some r => match tyI P f.type with
      | some (false, _) => (match xs[f.offset]?, ys[f.offset]? with
        | some x, some y => (match eqCell P f.type x y with | some b => some (b && r) | none => none)
        | _, _ => none)
      | some (true, n) => bif Nat.ble (f.offset + n) xs.length && Nat.ble (f.offset + n) ys.length then (match sub f.type ((xs.drop f.offset).take n) ((ys.drop f.offset).take n) with | some b => some (b && r) | none => none) else none
      | none => none
def eqT (P : Program) : Nat → TypeId → List AV → List AV → Option Bool
  | 0, _, _, _ => none
  | d + 1, t, xs, ys => match P.underlying t with
    | some (.struct fs) => eqL P (eqT P d) xs ys fs.toList
    | _ => none
def fldOK (P : Program) (sub : TypeId → Bool) (f : Field) : Bool := !(f.name == "_") && (match P.underlying f.type with | some (.struct _) => sub f.type | _ => true)
def eqOKB (P : Program) : Nat → TypeId → Bool
  | 0, _ => false
  | d + 1, t => match P.underlying t with
    | some (.struct fs) => !P.stoodInHeld t && fs.toList.all (fldOK P (eqOKB P d))
    | _ => false
def eqGB (P : Program) (t : TypeId) : Bool := eqOKB P 8 t && !P.eqGuardType P.depth t

/-- An operation that writes nothing that was there: what is asked, its value, what it has made (under the name nm). -/
def pas (P : Program) (ev : Operand → AV) (look : Nat → Option MO) (nm : Nat) (o : Op) : Option PO :=
  match o with
  | .move x => some ⟨none, ev x, none⟩
  | .assign x => some ⟨none, ev x, none⟩
  | .pick c a b => match ev c with
    | .bool t => (match ev a, ev b with
      | .bool x, .bool y => some ⟨none, .bool (bif t then x else y), none⟩
      | x, y => match t with | true => some ⟨none, x, none⟩ | false => some ⟨none, y, none⟩)
    | _ => none
  | .binOp op t x y _ => match ev x, ev y with
    | .agg xs, .agg ys => (match op with
      | .eql => (match eqT P 8 t xs ys with | some b => some ⟨some (eqGB P t = true), .bool b, none⟩ | none => none)
      | .neq => (match eqT P 8 t xs ys with | some b => some ⟨some (eqGB P t = true), .bool !b, none⟩ | none => none)
      | _ => none)
    | .niliface, .niliface => (match P.underlying t, y, op with
      | some (.interface _), .const _, .eql => some ⟨none, .bool true, none⟩
      | some (.interface _), .const _, .neq => some ⟨none, .bool false, none⟩
      | _, _, _ => none)
    | .iface _ _, .niliface => (match P.underlying t, op with
      | some (.interface _), .eql => some ⟨none, .bool false, none⟩
      | some (.interface _), .neq => some ⟨none, .bool true, none⟩
      | _, _ => none)
    | ax, ay => binAV op ax ay
  | .unOp .not _ x => match ev x with | .bool b => some ⟨none, .bool (!b), none⟩ | _ => none
  | .unOp .neg _ x => match ev x with | .int .i64 n => some ⟨some (inI .i64 (-n)), .int .i64 (-n), none⟩ | _ => none
  | .fieldAddr t x f => match fieldOf P t f with
    | some fd => match ev x with
      | .eptr row off => bif Nat.beq (P.cellsOf fd.type) 0 then none else fN (off + fd.offset) fun o => some ⟨none, .eptr row o, none⟩
      | .bptr m off => bif Nat.beq (P.cellsOf fd.type) 0 then none else fN (off + fd.offset) fun o => some ⟨none, .bptr m o, none⟩
      | .aptr m sz i off => bif Nat.beq (P.cellsOf fd.type) 0 then none else fN (off + fd.offset) fun o => some ⟨none, .aptr m sz i o, none⟩
      | _ => none
    | none => none
  | .indexAddr t x i => match P.underlying t, ev x, ev i with
    | some (.slice e), .sl sz n rows, .int .i64 i => bif Nat.beq (P.cellsOf e) sz && Nat.ble 1 sz then some ⟨some (0 ≤ i ∧ i < n), .eptr (rows i.toNat) 0, none⟩ else none
    | some (.array n e), .bptr m off, .int .i64 i => bif Nat.ble n 1 || Nat.beq (P.cellsOf e) 0 then none else some ⟨some (0 ≤ i ∧ i < n), .bptr m (off + i.toNat * P.cellsOf e), none⟩
    | some (.slice e), .osl m, .int .i64 i => match look m with
      | some (.arr _ sz n _) => bif Nat.beq (P.cellsOf e) sz && Nat.ble 1 sz then some ⟨some (0 ≤ i ∧ i < n), .aptr m sz i.toNat 0, none⟩ else none
      | _ => none
    | _, _, _ => none
  | .load t x => match tyI P t, ev x with
    | some (ag, n), .eptr row off => bif Nat.ble (off + n) row.length && Nat.ble 1 n then fL ((row.drop off).take n) fun l => some ⟨none, cellsAV ag l, none⟩ else none
    | some (ag, n), .bptr m off => match look m with
      | some (.box cs) => bif Nat.ble (off + n) cs.length && Nat.ble 1 n then fL ((cs.drop off).take n) fun l => some ⟨none, cellsAV ag l, none⟩ else none
      | _ => none
    | some (ag, n), .aptr m sz i off => match look m with
      | some (.arr _ sz' _ rows) => bif Nat.beq sz sz' && (Nat.ble (off + n) sz && (Nat.ble (off + n) (rows i).length && Nat.ble 1 n)) then fL (((rows i).drop off).take n) fun l => some ⟨none, cellsAV ag l, none⟩ else none
      | _ => none
    | _, _ => none
  | .alloc t => match zeroAV P t with | some z => fL z fun z => some ⟨none, .bptr nm 0, some (.box z)⟩ | none => none
  | .box t x => match (ev x).isVal with | true => some ⟨none, .bptr nm 0, some (.box (ev x).cells)⟩ | false => none
  | .field t x f => match fieldOf P t f, ev x with
    | some fd, .agg cs => match tyI P fd.type with
      | some (ag, n) => bif Nat.ble (fd.offset + n) cs.length && Nat.ble 1 n then fL ((cs.drop fd.offset).take n) fun l => some ⟨none, cellsAV ag l, none⟩ else none
      | none => none
    | _, _ => none
  | .index t x i => match P.underlying t, ev x, ev i with
    | some .string, .str s, .int .i64 i => some ⟨some (0 ≤ i ∧ i < s.size), .int .u8 ((s.data.toList.getD i.toNat 0).toNat), none⟩
    | some (.array n e), .agg cs, .int .i64 i => (match tyI P e with
      | some (false, 1) => bif Nat.beq cs.length n then some ⟨some (0 ≤ i ∧ i < n), cs.getD i.toNat .any, none⟩ else none
      | _ => none)
    | _, _, _ => none
  | .build t parts => match zeroAV P t, P.underlying t with
    | some z, some (.struct fs) => (match placesOf P fs.toList with
      | some pl => fPl pl fun pl => fL z fun z => (match fillAV (fun i => pl[i]?) z (parts.toList.map fun p => (p.1, ev p.2)) with | some cs => some ⟨none, .agg cs, none⟩ | none => none)
      | none => none)
    | some z, some (.array _ e) => fN (P.cellsOf e) fun c => fL z fun z => bif Nat.beq c 0 then none else (match fillAV (fun i => some (i * c, c)) z (parts.toList.map fun p => (p.1, ev p.2)) with | some cs => some ⟨none, .agg cs, none⟩ | none => none)
    | _, _ => none
  | .buildSlice t len parts => match elemOf? P t with
    | some e => (match zeroAV P e with
      | some z => fN (P.cellsOf e) fun c => fL z fun z => bif Nat.beq c 0 || !Nat.beq z.length c || Nat.ble 1000 len || Nat.ble 1000 c then none else
        fL ((List.replicate len z).flatten) fun zs => (match fillAV (fun i => some (i * c, c)) zs (parts.toList.map fun p => (p.1, ev p.2)) with
        | some cs => bif cs.all AV.nameless then some ⟨none, .osl nm, some (.arr e c len fun i => (cs.drop (i * c)).take c)⟩ else none
        | none => none)
      | none => none)
    | none => none
  | .makeSlice t l c => match elemOf? P t, ev l, ev c with
    | some e, .int .i64 n, .int .i64 k => (match zeroAV P e with
      | some z => fN (P.cellsOf e) fun c => fL z fun z => fN (P.bytesOf e) fun by' => bif Nat.beq c 0 || !Nat.beq z.length c then none else
        some ⟨some (0 ≤ n ∧ k = n ∧ by' * n ≤ 140737488355328 ∧ n ≤ 9223372036854775807), .osl nm, some (.arr e c n.toNat fun _ => z)⟩
      | none => none)
    | _, _, _ => none
  | .makeInterface t x => bif P.concrete t then some ⟨none, .iface t (ev x), none⟩ else none
  | .typeAssert x _ asserted ok => bif P.concrete asserted then (match ev x with
      | .iface t v => bif ok then (bif Nat.beq t asserted then some ⟨none, .tup [v, .bool true], none⟩ else (match (P.info? asserted).bind (·.zero) with | some z => some ⟨none, .tup [ofVal z, .bool false], none⟩ | none => none)) else (bif Nat.beq t asserted then some ⟨none, v, none⟩ else none)
      | _ => none) else none
  | .extract x i => match ev x with | .tup vs => (match vs[i]? with | some v => some ⟨none, v, none⟩ | none => none) | _ => none
  | .slice t x lo hi none => sliceAV P t (ev x) (lo.map ev) (hi.map ev)
  | .convert s d x => match P.underlying s, P.underlying d with
    | some (.int _), some (.int k) => (match ev x with | .int _ n => some ⟨some (inI k n), .int k n, none⟩ | _ => none)
    | some .string, some .string => (match ev x with | .str s => some ⟨none, .str s, none⟩ | _ => none)
    | some (.slice e), some .string => (match P.underlying e, rowsOf look (ev x) with
      | some (.int .u8), some (1, n, rows) => some ⟨some (∀ i, i < n → rows i = [.int .u8 (rowB (rows i))]), .str (bytesOf n rows), none⟩
      | _, _ => none)
    | _, _ => none
  | .nilCheck x => match ev x with
    | .bptr m off => some ⟨none, .bptr m off, none⟩
    | .eptr row off => some ⟨none, .eptr row off, none⟩
    | .aptr m sz i off => some ⟨none, .aptr m sz i off, none⟩
    | _ => none
  | .makeMap t none => match P.underlying t with
    | some (.map k e) => (match zeroFalse P e, P.underlying k with
      | true, some (.int .i64) => some ⟨none, .omap nm, some (.imap [])⟩
      | true, some .string => some ⟨none, .omap nm, some (.smap [])⟩
      | _, _ => none)
    | _ => none
  | .lookup t x i false => match P.underlying t, ev x with
    | some (.map k e), .omap m => (match zeroFalse P e, P.underlying k, look m, ev i with
      | true, some (.int .i64), some (.imap ks), .int .i64 n => some ⟨none, .bool (decide (n ∈ ks)), none⟩
      | true, some .string, some (.smap ks), .str s => some ⟨none, .bool (decide (s.data.toList ∈ ks)), none⟩
      | _, _, _, _ => none)
    | _, _ => none
  | .makeFunc f xs ys => some ⟨none, .fn f (xs.toList.map ev) (ys.toList.map ev), none⟩
  | .call { callee := .builtin .len, args, argTypes } => match args.toList with
    | [x] => (match argTypes[0]? with | some t => (match lenAV (P.underlying t) look (ev x) with | some n => some ⟨none, .int .i64 n, none⟩ | none => none) | none => none)
    | _ => none
  | .call { callee := .builtin .min, args, .. } => match args.toList with
    | [x, y] => (match minAV (ev x) (ev y) with | some v => some ⟨none, v, none⟩ | none => none)
    | _ => none
  | .call { callee := .builtin .max, args, .. } => match args.toList with
    | [x, y] => (match maxAV (ev x) (ev y) with | some v => some ⟨none, v, none⟩ | none => none)
    | _ => none
  | _ => none

end Go.Vw
