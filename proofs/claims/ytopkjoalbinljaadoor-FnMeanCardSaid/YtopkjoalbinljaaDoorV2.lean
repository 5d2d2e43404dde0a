/- Vw2: a part of a tool for walks: what a piece of a Go program does, by abstract values. It holds of every program; no condition. -/
import Derived.Test.YtopkjoalbinljaaDoorV1
import Derived.WalkKit
import Derived.Laws.MakeOwn
set_option linter.unusedVariables false
set_option linter.unusedSimpArgs false
set_option linter.unusedSectionVars false
namespace Go.Vw
open Go

/-- A state: of each slot what it holds, what may be written (by name), the next free name, how many slots there are. -/
structure St where
  tm : Nat → AV
  ob : List (Nat × MO)
  next : Nat
  n : Nat

mutual
def ofVal : Value → AV
  | .int k n => .int k n
  | .bool b => .bool b
  | .string s => .str s
  | .pointer none => .nilptr
  | .slice none 0 0 => .nilsl
  | .nilIface => .niliface
  | .nilFunc => .nilfn
  | .agg ⟨cs⟩ => .agg (ofVals cs)
  | _ => .any
def ofVals : List Value → List AV
  | [] => []
  | v :: vs => ofVal v :: ofVals vs
end

mutual
theorem RV_ofVal (w : World) (ok : Nat → Prop) (g : Nat → Option Gh) : ∀ v, RV w ok g (ofVal v) v
  | .int _ _ => rfl
  | .bool _ => rfl
  | .string _ => rfl
  | .pointer none => rfl
  | .pointer (some _) => trivial
  | .slice none 0 0 => rfl
  | .slice none 0 (_ + 1) => trivial
  | .slice none (_ + 1) _ => trivial
  | .slice (some _) _ _ => trivial
  | .nilIface => rfl
  | .nilFunc => rfl
  | .agg ⟨cs⟩ => ⟨cs, rfl, RVs_ofVals w ok g cs⟩
  | .float _ _ => trivial
  | .complex _ _ _ => trivial
  | .map _ => trivial
  | .chan _ => trivial
  | .func _ _ _ => trivial
  | .iface _ _ => trivial
  | .tuple _ => trivial
theorem RVs_ofVals (w : World) (ok : Nat → Prop) (g : Nat → Option Gh) : ∀ vs, RVs w ok g (ofVals vs) vs
  | [] => rfl
  | v :: vs => ⟨v, vs, rfl, RV_ofVal w ok g v, RVs_ofVals w ok g vs⟩
end

def St.ev (st : St) : Operand → AV
  | .tmp t => st.tm t
  | .const v => ofVal v
  | .func f => .fn (.func f) [] []
  | .global _ => .any

def St.put (st : St) (d : Option Tmp) (x : AV) : St :=
  match d with
  | some t => { st with tm := fun s => bif Nat.beq s t then x else st.tm s }
  | none => st

def look : List (Nat × MO) → Nat → Option MO
  | [], _ => none
  | (k, o) :: r, m => bif Nat.beq k m then some o else look r m

def upd : List (Nat × MO) → Nat → MO → List (Nat × MO)
  | [], _, _ => []
  | (k, p) :: r, m, o => bif Nat.beq k m then (k, o) :: r else (k, p) :: upd r m o

def del : List (Nat × MO) → Nat → List (Nat × MO)
  | [], _ => []
  | (k, p) :: r, m => bif Nat.beq k m then r else (k, p) :: del r m

theorem look_mem : ∀ {ob : List (Nat × MO)} {m o}, look ob m = some o → (m, o) ∈ ob
  | (k, p) :: r, m, o, h => by
    unfold look at h
    cases e : Nat.beq k m with
    | true => rw [e] at h; have := Nat.eq_of_beq_eq_true e; simp at h; subst this h; simp
    | false => rw [e] at h; exact List.mem_cons_of_mem _ (look_mem h)

/-- Of an object in memory: what it holds. -/
def MRel (w : World) (ok : Nat → Prop) (g : Nat → Option Gh) (G : Gh) : MO → Prop
  | .box cs => ∃ b vs ty, G.b = some b ∧ w.heap[b]? = some (.cells (List.toArray vs) ty (0, 0)) ∧ RVs w ok g cs vs
  | .arr e sz n rows => G.n = n ∧ ((G.b = none ∧ n = 0 ∧ G.c = 0) ∨ ∃ b cur, G.b = some b ∧ w.heap[b]? = some (.cells cur e (0, 0)) ∧ n ≤ G.c ∧ G.c ≤ maxLen ∧
      cur.size = G.c * sz ∧ ∀ i, i < n → ∃ vs : List Value, vs.length = sz ∧ RVs w ok G0 (rows i) vs ∧ ∀ j, j < sz → cur[i * sz + j]? = vs[j]?)
  | .imap ks => ∃ b es clock, G.b = some b ∧ w.heap[b]? = some (.map es clock) ∧ es.toList.map (·.key) = ks.map (fun k => Value.int .i64 k) ∧ ks.Nodup ∧ ∀ e ∈ es.toList, e.val = .bool true
  | .smap ks => ∃ b es clock, G.b = some b ∧ w.heap[b]? = some (.map es clock) ∧ es.toList.map (·.key) = ks.map (fun l => Value.string ⟨l.toArray⟩) ∧ ks.Nodup ∧ ∀ e ∈ es.toList, e.val = .bool true

structure PO where
  pre : Option Prop
  r : AV
  mo : Option MO

/-- struct or array? how many cells? -/
def tyI (P : Program) (t : TypeId) : Option (Bool × Nat) :=
  match P.underlying t, P.info? t with
  | some (.struct _), some i => some (true, i.size)
  | some (.array _ _), some i => some (true, i.size)
  | some _, some i => some (false, i.size)
  | _, _ => none
def fieldOf (P : Program) (t : TypeId) (f : Nat) : Option Field := match P.underlying t with | some (.struct fs) => fs[f]? | _ => none

def cellsAV (agg : Bool) (cs : List AV) : AV := bif agg then .agg cs else cs.headD .any
def AV.cells : AV → List AV
  | .agg cs => cs
  | v => [v]
/-- one cell's value -/
def AV.one : AV → Bool
  | .any | .agg _ | .tup _ | .undef => false
  | _ => true

def zeroAV (P : Program) (t : TypeId) : Option (List AV) := match (P.info? t) with | some i => (match i.zero with | some z => some (ofVal z).cells | none => none) | none => none

def inI (k : IntKind) (n : Int) : Prop := k.min ≤ n ∧ n ≤ k.max

def binAV (op : BinOp) (x y : AV) : Option PO :=
  match op, x, y with
  | .lss, .int .i64 a, .int .i64 b => some ⟨none, .bool (decide (a < b)), none⟩
  | .leq, .int .i64 a, .int .i64 b => some ⟨none, .bool (decide (a ≤ b)), none⟩
  | .gtr, .int .i64 a, .int .i64 b => some ⟨none, .bool (decide (b < a)), none⟩
  | .geq, .int .i64 a, .int .i64 b => some ⟨none, .bool (decide (b ≤ a)), none⟩
  | .eql, .int .i64 a, .int .i64 b => some ⟨none, .bool (decide (a = b)), none⟩
  | .neq, .int .i64 a, .int .i64 b => some ⟨none, .bool (!decide (a = b)), none⟩
  | .add, .int .i64 a, .int .i64 b => some ⟨some (inI .i64 (a + b)), .int .i64 (a + b), none⟩
  | .sub, .int .i64 a, .int .i64 b => some ⟨some (inI .i64 (a - b)), .int .i64 (a - b), none⟩
  | .mul, .int .i64 a, .int .i64 b => some ⟨some (inI .i64 (a * b)), .int .i64 (a * b), none⟩
  | .quo, .int .i64 a, .int .i64 b => some ⟨some (b ≠ 0 ∧ inI .i64 (a.tdiv b)), .int .i64 (a.tdiv b), none⟩
  | .rem, .int .i64 a, .int .i64 b => some ⟨some (b ≠ 0), .int .i64 (a.tmod b), none⟩
  | .lss, .int .u8 a, .int .u8 b => some ⟨none, .bool (decide (a < b)), none⟩
  | .leq, .int .u8 a, .int .u8 b => some ⟨none, .bool (decide (a ≤ b)), none⟩
  | .gtr, .int .u8 a, .int .u8 b => some ⟨none, .bool (decide (b < a)), none⟩
  | .geq, .int .u8 a, .int .u8 b => some ⟨none, .bool (decide (b ≤ a)), none⟩
  | .eql, .int .u8 a, .int .u8 b => some ⟨none, .bool (decide (a = b)), none⟩
  | .neq, .int .u8 a, .int .u8 b => some ⟨none, .bool (!decide (a = b)), none⟩
  | .add, .int .u8 a, .int .u8 b => some ⟨some (inI .u8 (a + b)), .int .u8 (a + b), none⟩
  | .sub, .int .u8 a, .int .u8 b => some ⟨some (inI .u8 (a - b)), .int .u8 (a - b), none⟩
  | .eql, .bool a, .bool b => none
  | .eql, .str a, .str b => some ⟨none, .bool (a.toList == b.toList), none⟩
  | .neq, .str a, .str b => some ⟨none, .bool !(a.toList == b.toList), none⟩
  | .lss, .str a, .str b => some ⟨none, .bool (Op.bytesLess a.toList b.toList), none⟩
  | .leq, .str a, .str b => some ⟨none, .bool (Op.bytesLess a.toList b.toList || a.toList == b.toList), none⟩
  | .gtr, .str a, .str b => some ⟨none, .bool !(Op.bytesLess a.toList b.toList || a.toList == b.toList), none⟩
  | .geq, .str a, .str b => some ⟨none, .bool !(Op.bytesLess a.toList b.toList), none⟩
  | .add, .str a, .str b => some ⟨some (((a.size + b.size : Nat) : Int) ≤ IntKind.i64.max), .str (a ++ b), none⟩
  | _, _, _ => none

def AV.asInt? : AV → Option Int
  | .int .i64 n => some n
  | _ => none

end Go.Vw
