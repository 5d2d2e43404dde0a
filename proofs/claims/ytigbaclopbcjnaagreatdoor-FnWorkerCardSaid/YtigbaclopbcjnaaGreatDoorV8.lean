/- V8: a part of a tool for walks: what a piece of a Go program does, by abstract values. It holds of every program; no condition. -/
import Derived.Calls
import Derived.Below
import Derived.RowKit
import Derived.KernelRfl
import Derived.Laws.AppendOwn
import Derived.WalkKit
import Derived.Laws.MakeOwn
import Derived.Laws.BytesArg
import Derived.Laws.StructEq
import Derived.Great.BuildSlice
import Derived.WideLaws
set_option linter.unusedVariables false
set_option linter.unusedSimpArgs false
set_option linter.unusedSectionVars false
set_option linter.constructorNameAsVariable false

namespace Go.Vw
open Go
inductive AV where
 | any
 | int (k : IntKind) (n : Int)
 | bool (b : Bool)
 | str (s : ByteArray)
 | agg (cs : List AV)
 | tup (vs : List AV)
 | nilsl
 | sl (sz n : Nat) (rows : Nat → List AV)
 | osl (m : Nat)
 | eptr (row : List AV) (off : Nat)
 | bptr (m off : Nat)
 | aptr (m sz i off : Nat)
 | vw (m sz i n : Nat)
 | nilptr
 | iface (t : TypeId) (v : AV)
 | niliface
 | fn (f : Fn) (first captured : List AV)
 | nilfn
 | omap (m : Nat)
 | undef
 | lo
 deriving Inhabited
inductive MO where
 | box (cs : List AV)
 | arr (e : TypeId) (sz n : Nat) (rows : Nat → List AV)
 | arrc (e : TypeId) (sz n c : Nat) (rows : Nat → List AV)
 | imap (ks : List Int)
 | smap (ks : List (List UInt8))
 deriving Inhabited
structure Gh where
 b : Option Nat
 n : Nat
 c : Nat
abbrev G0 : Nat → Option Gh := fun _ => none
mutual
def RV (w : World) (ok : Nat → Prop) (g : Nat → Option Gh) : AV → Value → Prop
 | .any, _ => True
 | .int k n, v => v = .int k n
 | .bool b, v => v = .bool b
 | .str s, v => v = .string s
 | .agg cs, v => ∃ vs : List Value, v = .agg vs.toArray ∧ RVs w ok g cs vs
 | .tup cs, v => ∃ vs : List Value, v = .tuple vs.toArray ∧ RVs w ok g cs vs
 | .nilsl, v => v = .slice none 0 0
 | .sl sz n rows, v => ∃ A c, v = .slice A n c ∧ n ≤ c ∧ (n = 0 ∨ ∃ b o, A = some ⟨b, o, none⟩ ∧ ok b ∧
  ∀ i, i < n → ∃ vs : List Value, vs.length = sz ∧ RVs w ok G0 (rows i) vs ∧ ∀ j, j < sz → w.cell? ⟨b, o + (i * sz + j), none⟩ = vs[j]?)
 | .osl m, v => ∃ G, g m = some G ∧ v = .slice (G.b.map fun b => ⟨b, 0, none⟩) G.n G.c
 | .eptr row off, v => ∃ b o, v = .pointer (some ⟨b, o + off, none⟩) ∧ ok b ∧
  ∃ vs : List Value, RVs w ok G0 row vs ∧ ∀ j, j < vs.length → w.cell? ⟨b, o + j, none⟩ = vs[j]?
 | .bptr m off, v => ∃ G b, g m = some G ∧ G.b = some b ∧ v = .pointer (some ⟨b, off, none⟩)
 | .aptr m sz i off, v => ∃ G b, g m = some G ∧ (G.b = some b ∧ i < G.n) ∧ v = .pointer (some ⟨b, i * sz + off, none⟩)
 | .vw m sz i n, v => ∃ G, g m = some G ∧ i + n ≤ G.n ∧ ∃ A, v = .slice A n (G.c - i) ∧ (1 ≤ n → A = G.b.map fun b => ⟨b, i * sz, none⟩)
 | .nilptr, v => v = .pointer none
 | .iface t x, v => ∃ u, v = .iface t u ∧ RV w ok g x u
 | .niliface, v => v = .nilIface
 | .fn f xs ys, v => ∃ us vs : List Value, v = .func f us.toArray vs.toArray ∧ RVs w ok g xs us ∧ RVs w ok g ys vs
 | .nilfn, v => v = .nilFunc
 | .omap m, v => ∃ G b, g m = some G ∧ G.b = some b ∧ v = .map (some b)
 | .undef, v => v = Go.undef
 | .lo, v => v = .int .i64 (-9223372036854775808)
def RVs (w : World) (ok : Nat → Prop) (g : Nat → Option Gh) : List AV → List Value → Prop
 | [], vs => vs = []
 | a :: as, vs => ∃ v us, vs = v :: us ∧ RV w ok g a v ∧ RVs w ok g as us
end
section mono
variable {w w' : World} {ok ok' : Nat → Prop}
theorem cell_same {b : Nat} (h : w'.heap[b]? = w.heap[b]?) (o : Nat) : w'.cell? ⟨b, o, none⟩ = w.cell? ⟨b, o, none⟩ :=
 World.cell?_of_block (w := w) (w' := w') (a := ⟨b, o, none⟩) h
mutual
theorem RV.mono (hok : ∀ b, ok b → ok' b) (hc : ∀ b, ok b → w'.heap[b]? = w.heap[b]?) :
 ∀ (g g' : Nat → Option Gh), (∀ m G, g m = some G → g' m = some G) → ∀ (a : AV) (v : Value), RV w ok g a v → RV w' ok' g' a v
 | _, _, _, .any, _, _ => trivial
 | _, _, _, .int _ _, _, h => h
 | _, _, _, .bool _, _, h => h
 | _, _, _, .str _, _, h => h
 | g, g', hg, .agg cs, _, ⟨vs, e, h⟩ => ⟨vs, e, RVs.mono hok hc g g' hg cs vs h⟩
 | g, g', hg, .tup cs, _, ⟨vs, e, h⟩ => ⟨vs, e, RVs.mono hok hc g g' hg cs vs h⟩
 | _, _, _, .nilsl, _, h => h
 | _, _, _, .sl sz n rows, _, ⟨A, c, e, hn, h⟩ => ⟨A, c, e, hn, h.imp id fun ⟨b, o, eA, hb, hr⟩ => ⟨b, o, eA, hok b hb, fun i hi =>
  let ⟨vs, hl, hv, hcell⟩ := hr i hi
  ⟨vs, hl, RVs.mono hok hc G0 G0 (fun _ _ h => h) (rows i) vs hv, fun j hj => (cell_same (hc b hb) _).trans (hcell j hj)⟩⟩⟩
 | _, _, hg, .osl m, _, ⟨G, hm, e⟩ => ⟨G, hg m G hm, e⟩
 | _, _, _, .eptr row _, _, ⟨b, o, e, hb, vs, hv, hcell⟩ => ⟨b, o, e, hok b hb, vs, RVs.mono hok hc G0 G0 (fun _ _ h => h) row vs hv,
  fun j hj => (cell_same (hc b hb) _).trans (hcell j hj)⟩
 | _, _, hg, .bptr m _, _, ⟨G, b, hm, hb, e⟩ => ⟨G, b, hg m G hm, hb, e⟩
 | _, _, hg, .aptr m _ _ _, _, ⟨G, b, hm, hb, e⟩ => ⟨G, b, hg m G hm, hb, e⟩
 | _, _, hg, .vw m _ _ _, _, ⟨G, hm, hb, e⟩ => ⟨G, hg m G hm, hb, e⟩
 | _, _, _, .nilptr, _, h => h
 | g, g', hg, .iface _ x, _, ⟨u, e, h⟩ => ⟨u, e, RV.mono hok hc g g' hg x u h⟩
 | _, _, _, .niliface, _, h => h
 | g, g', hg, .fn _ xs ys, _, ⟨us, vs, e, h1, h2⟩ => ⟨us, vs, e, RVs.mono hok hc g g' hg xs us h1, RVs.mono hok hc g g' hg ys vs h2⟩
 | _, _, _, .nilfn, _, h => h
 | _, _, hg, .omap m, _, ⟨G, b, hm, hb, e⟩ => ⟨G, b, hg m G hm, hb, e⟩
 | _, _, _, .undef, _, h => h
 | _, _, _, .lo, _, h => h
theorem RVs.mono (hok : ∀ b, ok b → ok' b) (hc : ∀ b, ok b → w'.heap[b]? = w.heap[b]?) :
 ∀ (g g' : Nat → Option Gh), (∀ m G, g m = some G → g' m = some G) → ∀ (as : List AV) (vs : List Value), RVs w ok g as vs → RVs w' ok' g' as vs
 | _, _, _, [], _, h => h
 | g, g', hg, a :: as, _, ⟨v, us, e, h1, h2⟩ => ⟨v, us, e, RV.mono hok hc g g' hg a v h1, RVs.mono hok hc g g' hg as us h2⟩
end
end mono
theorem RVs.length {w : World} {ok : Nat → Prop} {g : Nat → Option Gh} : ∀ {as : List AV} {vs : List Value}, RVs w ok g as vs → vs.length = as.length
 | [], _, h => by simp only [RVs] at h; subst h; rfl
 | _ :: _, _, ⟨_, _, e, _, h⟩ => by subst e; simp [RVs.length h]
theorem RVs.get {w : World} {ok : Nat → Prop} {g : Nat → Option Gh} : ∀ {as : List AV} {vs : List Value}, RVs w ok g as vs → ∀ (i : Nat) (a : AV), as[i]? = some a → ∃ v, vs[i]? = some v ∧ RV w ok g a v
 | [], _, _, _, _, h => by simp at h
 | a :: as, _, ⟨v, us, e, h1, h2⟩, 0, x, hx => by simp at hx; subst hx e; exact ⟨v, rfl, h1⟩
 | a :: as, _, ⟨v, us, e, h1, h2⟩, i + 1, x, hx => by simp at hx; subst e; simpa using RVs.get h2 i x hx
theorem RVs.drop {w : World} {ok : Nat → Prop} {g : Nat → Option Gh} : ∀ (k : Nat) {as : List AV} {vs : List Value}, RVs w ok g as vs → RVs w ok g (as.drop k) (vs.drop k)
 | 0, _, _, h => by simpa using h
 | _ + 1, [], _, h => by simp only [RVs] at h; subst h; simp [RVs]
 | k + 1, _ :: _, _, ⟨_, _, e, _, h⟩ => by subst e; simpa using RVs.drop k h
theorem RVs.take {w : World} {ok : Nat → Prop} {g : Nat → Option Gh} : ∀ (k : Nat) {as : List AV} {vs : List Value}, RVs w ok g as vs → RVs w ok g (as.take k) (vs.take k)
 | 0, _, _, h => by simp [RVs]
 | _ + 1, [], _, h => by simp only [RVs] at h; subst h; simp [RVs]
 | k + 1, _ :: _, _, ⟨v, us, e, h1, h⟩ => by subst e; simp only [List.take_succ_cons, RVs]; exact ⟨_, _, rfl, h1, RVs.take k h⟩
theorem RVs.append {w : World} {ok : Nat → Prop} {g : Nat → Option Gh} : ∀ {as : List AV} {vs : List Value} {bs us}, RVs w ok g as vs → RVs w ok g bs us → RVs w ok g (as ++ bs) (vs ++ us)
 | [], _, _, _, h, k => by simp only [RVs] at h; subst h; simpa using k
 | _ :: _, _, _, _, ⟨v, us, e, h1, h⟩, k => by subst e; simp only [List.cons_append, RVs]; exact ⟨_, _, rfl, h1, RVs.append h k⟩
theorem RVs.set {w : World} {ok : Nat → Prop} {g : Nat → Option Gh} : ∀ {as : List AV} {vs : List Value} (i : Nat) {a v}, RVs w ok g as vs → RV w ok g a v → RVs w ok g (as.set i a) (vs.set i v)
 | [], _, _, _, _, h, _ => by simp only [RVs] at h; subst h; simp [RVs]
 | _ :: _, _, 0, _, _, ⟨x, us, e, h1, h⟩, k => by subst e; simp only [List.set_cons_zero, RVs]; exact ⟨_, _, rfl, k, h⟩
 | _ :: _, _, i + 1, _, _, ⟨x, us, e, h1, h⟩, k => by subst e; simp only [List.set_cons_succ, RVs]; exact ⟨_, _, rfl, h1, RVs.set i h k⟩
end Go.Vw

namespace Go.Vw
open Go
structure St where
 tm : Nat → AV
 ob : List (Nat × MO)
 next : Nat
 n : Nat
mutual
def ofVal : Value → AV
 | .int k n => .int k n
 | .bool b => .bool b
 | .string s => .str s
 | .pointer none => .nilptr
 | .slice none 0 0 => .nilsl
 | .nilIface => .niliface
 | .nilFunc => .nilfn
 | .agg ⟨cs⟩ => .agg (ofVals cs)
 | _ => .any
def ofVals : List Value → List AV
 | [] => []
 | v :: vs => ofVal v :: ofVals vs
end
mutual
theorem RV_ofVal (w : World) (ok : Nat → Prop) (g : Nat → Option Gh) : ∀ v, RV w ok g (ofVal v) v
 | .int _ _ => rfl
 | .bool _ => rfl
 | .string _ => rfl
 | .pointer none => rfl
 | .pointer (some _) => trivial
 | .slice none 0 0 => rfl
 | .slice none 0 (_ + 1) => trivial
 | .slice none (_ + 1) _ => trivial
 | .slice (some _) _ _ => trivial
 | .nilIface => rfl
 | .nilFunc => rfl
 | .agg ⟨cs⟩ => ⟨cs, rfl, RVs_ofVals w ok g cs⟩
 | .float _ _ => trivial
 | .complex _ _ _ => trivial
 | .map _ => trivial
 | .chan _ => trivial
 | .func _ _ _ => trivial
 | .iface _ _ => trivial
 | .tuple _ => trivial
theorem RVs_ofVals (w : World) (ok : Nat → Prop) (g : Nat → Option Gh) : ∀ vs, RVs w ok g (ofVals vs) vs
 | [] => rfl
 | v :: vs => ⟨v, vs, rfl, RV_ofVal w ok g v, RVs_ofVals w ok g vs⟩
end
def St.ev (st : St) : Operand → AV
 | .tmp t => st.tm t
 | .const v => ofVal v
 | .func f => .fn (.func f) [] []
 | .global _ => .any
def St.put (st : St) (d : Option Tmp) (x : AV) : St :=
 match d with
 | some t => { st with tm := fun s => bif Nat.beq s t then x else st.tm s }
 | none => st
def look : List (Nat × MO) → Nat → Option MO
 | [], _ => none
 | (k, o) :: r, m => bif Nat.beq k m then some o else look r m
def upd : List (Nat × MO) → Nat → MO → List (Nat × MO)
 | [], _, _ => []
 | (k, p) :: r, m, o => bif Nat.beq k m then (k, o) :: r else (k, p) :: upd r m o
def MRel (w : World) (ok : Nat → Prop) (g : Nat → Option Gh) (G : Gh) : MO → Prop
 | .box cs => ∃ b vs ty, G.b = some b ∧ w.heap[b]? = some (.cells (List.toArray vs) ty (0, 0)) ∧ RVs w ok g cs vs
 | .arr e sz n rows => G.n = n ∧ ((G.b = none ∧ n = 0 ∧ G.c = 0) ∨ ∃ b cur, G.b = some b ∧ w.heap[b]? = some (.cells cur e (0, 0)) ∧ n ≤ G.c ∧ G.c ≤ maxLen ∧
  cur.size = G.c * sz ∧ ∀ i, i < n → ∃ vs : List Value, vs.length = sz ∧ RVs w ok G0 (rows i) vs ∧ ∀ j, j < sz → cur[i * sz + j]? = vs[j]?)
 | .arrc e sz n c rows => G.c = c ∧ G.n = n ∧ ((G.b = none ∧ n = 0 ∧ G.c = 0) ∨ ∃ b cur, G.b = some b ∧ w.heap[b]? = some (.cells cur e (0, 0)) ∧ n ≤ G.c ∧ G.c ≤ maxLen ∧
  cur.size = G.c * sz ∧ ∀ i, i < n → ∃ vs : List Value, vs.length = sz ∧ RVs w ok G0 (rows i) vs ∧ ∀ j, j < sz → cur[i * sz + j]? = vs[j]?)
 | .imap ks => ∃ b es clock, G.b = some b ∧ w.heap[b]? = some (.map es clock) ∧ es.toList.map (·.key) = ks.map (fun k => Value.int .i64 k) ∧ ks.Nodup ∧ ∀ e ∈ es.toList, e.val = .bool true
 | .smap ks => ∃ b es clock, G.b = some b ∧ w.heap[b]? = some (.map es clock) ∧ es.toList.map (·.key) = ks.map (fun l => Value.string ⟨l.toArray⟩) ∧ ks.Nodup ∧ ∀ e ∈ es.toList, e.val = .bool true
structure PO where
 pre : Option Prop
 r : AV
 mo : Option MO
def tyI (P : Program) (t : TypeId) : Option (Bool × Nat) :=
 match P.underlying t, P.info? t with
 | some (.struct _), some i => some (true, i.size)
 | some (.array _ _), some i => some (true, i.size)
 | some _, some i => some (false, i.size)
 | _, _ => none
def fieldOf (P : Program) (t : TypeId) (f : Nat) : Option Field := match P.underlying t with | some (.struct fs) => fs[f]? | _ => none
def cellsAV (agg : Bool) (cs : List AV) : AV := bif agg then .agg cs else cs.headD .any
def AV.cells : AV → List AV
 | .agg cs => cs
 | v => [v]
def AV.one : AV → Bool
 | .any | .agg _ | .tup _ | .undef => false
 | _ => true
def zeroAV (P : Program) (t : TypeId) : Option (List AV) := match (P.info? t) with | some i => (match i.zero with | some z => some (ofVal z).cells | none => none) | none => none
def inI (k : IntKind) (n : Int) : Prop := k.min ≤ n ∧ n ≤ k.max
def binAV (op : BinOp) (x y : AV) : Option PO :=
 match op, x, y with
 | .lss, .int .i64 a, .int .i64 b => some ⟨none, .bool (decide (a < b)), none⟩
 | .leq, .int .i64 a, .int .i64 b => some ⟨none, .bool (decide (a ≤ b)), none⟩
 | .gtr, .int .i64 a, .int .i64 b => some ⟨none, .bool (decide (b < a)), none⟩
 | .geq, .int .i64 a, .int .i64 b => some ⟨none, .bool (decide (b ≤ a)), none⟩
 | .eql, .int .i64 a, .int .i64 b => some ⟨none, .bool (decide (a = b)), none⟩
 | .neq, .int .i64 a, .int .i64 b => some ⟨none, .bool (!decide (a = b)), none⟩
 | .add, .int .i64 a, .int .i64 b => some ⟨some (inI .i64 (a + b)), .int .i64 (a + b), none⟩
 | .sub, .int .i64 a, .int .i64 b => some ⟨some (inI .i64 (a - b)), .int .i64 (a - b), none⟩
 | .mul, .int .i64 a, .int .i64 b => some ⟨some (inI .i64 (a * b)), .int .i64 (a * b), none⟩
 | .quo, .int .i64 a, .int .i64 b => some ⟨some (b ≠ 0 ∧ inI .i64 (a.tdiv b)), .int .i64 (a.tdiv b), none⟩
 | .rem, .int .i64 a, .int .i64 b => some ⟨some (b ≠ 0), .int .i64 (a.tmod b), none⟩
 | .lss, .int .u8 a, .int .u8 b => some ⟨none, .bool (decide (a < b)), none⟩
 | .leq, .int .u8 a, .int .u8 b => some ⟨none, .bool (decide (a ≤ b)), none⟩
 | .gtr, .int .u8 a, .int .u8 b => some ⟨none, .bool (decide (b < a)), none⟩
 | .geq, .int .u8 a, .int .u8 b => some ⟨none, .bool (decide (b ≤ a)), none⟩
 | .eql, .int .u8 a, .int .u8 b => some ⟨none, .bool (decide (a = b)), none⟩
 | .neq, .int .u8 a, .int .u8 b => some ⟨none, .bool (!decide (a = b)), none⟩
 | .add, .int .u8 a, .int .u8 b => some ⟨some (inI .u8 (a + b)), .int .u8 (a + b), none⟩
 | .sub, .int .u8 a, .int .u8 b => some ⟨some (inI .u8 (a - b)), .int .u8 (a - b), none⟩
 | .eql, .bool a, .bool b => none
 | .eql, .str a, .str b => some ⟨none, .bool (a.toList == b.toList), none⟩
 | .neq, .str a, .str b => some ⟨none, .bool !(a.toList == b.toList), none⟩
 | .lss, .str a, .str b => some ⟨none, .bool (Op.bytesLess a.toList b.toList), none⟩
 | .leq, .str a, .str b => some ⟨none, .bool (Op.bytesLess a.toList b.toList || a.toList == b.toList), none⟩
 | .gtr, .str a, .str b => some ⟨none, .bool !(Op.bytesLess a.toList b.toList || a.toList == b.toList), none⟩
 | .geq, .str a, .str b => some ⟨none, .bool !(Op.bytesLess a.toList b.toList), none⟩
 | .add, .str a, .str b => some ⟨some (((a.size + b.size : Nat) : Int) ≤ IntKind.i64.max), .str (a ++ b), none⟩
 | .sub, .lo, .int .i64 b => some ⟨some (1 ≤ b ∧ b ≤ 9223372036854775807), .int .i64 (9223372036854775808 - b), none⟩
 | .leq, .int .i64 a, .lo => some ⟨none, .bool (decide (a ≤ -9223372036854775808)), none⟩
 | .leq, .lo, .int .i64 b => some ⟨none, .bool (decide (-9223372036854775808 ≤ b)), none⟩
 | .shr, .int .u64 a, .int .i64 b => some ⟨some (0 ≤ a ∧ a ≤ 18446744073709551615 ∧ b = 1), .int .u64 (a / 2), none⟩
 | .shr, .int .u64 a, .int .u64 b => some ⟨some (0 ≤ a ∧ a ≤ 18446744073709551615 ∧ b = 1), .int .u64 (a / 2), none⟩
 | _, _, _ => none
end Go.Vw

namespace Go.Vw
open Go
def fN {α : Sort _} (n : Nat) (k : Nat → α) : α := match n with | 0 => k 0 | m + 1 => k (m + 1)
theorem fN_eq {α : Sort _} (n : Nat) (k : Nat → α) : fN n k = k n := by cases n <;> rfl
def fA {α : Sort _} (x : AV) (k : AV → α) : α :=
 match x with
 | .any => k .any | .int a b => k (.int a b) | .bool b => k (.bool b) | .str s => k (.str s) | .agg c => k (.agg c) | .tup c => k (.tup c) | .nilsl => k .nilsl
 | .sl a b c => k (.sl a b c) | .osl m => k (.osl m) | .eptr a b => k (.eptr a b) | .bptr a b => k (.bptr a b) | .aptr a b c d => k (.aptr a b c d) | .vw a b c d => k (.vw a b c d) | .nilptr => k .nilptr | .iface a b => k (.iface a b)
 | .niliface => k .niliface | .fn a b c => k (.fn a b c) | .nilfn => k .nilfn | .omap m => k (.omap m) | .undef => k .undef | .lo => k .lo
theorem fA_eq {α : Sort _} (x : AV) (k : AV → α) : fA x k = k x := by cases x <;> rfl
def fL {α : Sort _} : List AV → (List AV → α) → α
 | [], k => k []
 | x :: r, k => fA x fun y => fL r fun s => k (y :: s)
theorem fL_eq {α : Sort _} : ∀ (l : List AV) (k : List AV → α), fL l k = k l
 | [], _ => rfl
 | x :: r, k => by simp only [fL, fA_eq, fL_eq r]
def fPl {α : Sort _} : List (Nat × Nat) → (List (Nat × Nat) → α) → α
 | [], k => k []
 | (a, b) :: r, k => fN a fun a => fN b fun b => fPl r fun s => k ((a, b) :: s)
theorem fPl_eq {α : Sort _} : ∀ (l : List (Nat × Nat)) (k : List (Nat × Nat) → α), fPl l k = k l
 | [], _ => rfl
 | (a, b) :: r, k => by simp only [fPl, fN_eq, fPl_eq r]
def AV.isVal : AV → Bool
 | .any | .tup _ | .undef | .vw _ _ _ _ => false
 | _ => true
def AV.nameless : AV → Bool
 | .int _ _ | .bool _ | .str _ | .nilsl | .sl _ _ _ | .nilptr | .niliface | .nilfn | .lo => true
 | .iface _ (.int _ _) | .iface _ (.bool _) | .iface _ (.str _) => true
 | _ => false
def rowB : List AV → Int
 | [.int .u8 b] => b
 | _ => 0
def bytesOf (n : Nat) (rows : Nat → List AV) : ByteArray := strOfNums ((List.range n).map fun i => rowB (rows i))
def rowsOf (look : Nat → Option MO) : AV → Option (Nat × Nat × (Nat → List AV))
 | .sl sz n rows => some (sz, n, rows)
 | .nilsl => some (1, 0, fun _ => [])
 | .osl m => match look m with | some (.arr _ sz n rows) => some (sz, n, rows) | _ => none
 | .vw m sz' l k => match look m with
   | some (.arr _ sz n rows) => bif Nat.beq sz' sz then some (sz, k, fun i => rows (l + i)) else none
   | some (.arrc _ sz n _ rows) => bif Nat.beq sz' sz then some (sz, k, fun i => rows (l + i)) else none
   | _ => none
 | _ => none
def elemOf? (P : Program) (t : TypeId) : Option TypeId := match P.underlying t with | some (.slice e) => some e | _ => none
def placesOf (P : Program) : List Field → Option (List (Nat × Nat))
 | [] => some []
 | f :: fs => match P.info? f.type, placesOf P fs with | some i, some r => some ((f.offset, i.size) :: r) | _, _ => none
def fillAV (place : Nat → Option (Nat × Nat)) (cells : List AV) : List (Nat × AV) → Option (List AV)
 | [] => some cells
 | (i, v) :: rest => match place i with
   | none => none
   | some (off, size) => fN off fun off => fN size fun size => fA v fun v => bif (v.isVal && Nat.beq v.cells.length size) && Nat.ble (off + size) cells.length then fL (cells.take off ++ v.cells ++ cells.drop (off + size)) fun cs => fillAV place cs rest else none
def lenAV (d : Option TypeDesc) (look : Nat → Option MO) (x : AV) : Option Nat :=
 match d with
 | some .string => match x with | .str s => some s.size | _ => none
 | some (.slice _) => match x with
   | .sl _ n _ => some n
   | .nilsl => some 0
   | .osl m => match look m with | some (.arr _ _ n _) => some n | _ => none
   | _ => none
 | some (.map _ _) => match x with
   | .omap m => match look m with | some (.imap ks) => some ks.length | some (.smap ks) => some ks.length | _ => none
   | _ => none
 | _ => none
def minAV : AV → AV → Option AV
 | .int .i64 x, .int .i64 y => some (.int .i64 (if y < x then y else x))
 | _, _ => none
def maxAV : AV → AV → Option AV
 | .int .i64 x, .int .i64 y => some (.int .i64 (if y > x then y else x))
 | _, _ => none
def sliceAV (P : Program) (t : TypeId) (x : AV) (lo hi : Option AV) : Option PO :=
 match P.underlying t with
 | some .string => match x with
   | .str s => match lo, hi with
     | some (.int .i64 l), some (.int .i64 h) => some ⟨some (0 ≤ l ∧ l ≤ h ∧ h ≤ s.size), .str (s.extract l.toNat h.toNat), none⟩
     | some (.int .i64 l), none => some ⟨some (0 ≤ l ∧ l ≤ s.size), .str (s.extract l.toNat s.size), none⟩
     | none, some (.int .i64 h) => some ⟨some (0 ≤ h ∧ h ≤ s.size), .str (s.extract 0 h.toNat), none⟩
     | _, _ => none
   | _ => none
 | some (.slice e) => match x with
   | .sl sz n rows => bif Nat.beq (P.cellsOf e) sz && Nat.ble 1 sz then (match lo, hi with
     | some (.int .i64 l), some (.int .i64 h) => some ⟨some (0 ≤ l ∧ l ≤ h ∧ h ≤ n), .sl sz (h.toNat - l.toNat) (fun i => rows (l.toNat + i)), none⟩
     | some (.int .i64 l), none => some ⟨some (0 ≤ l ∧ l ≤ n), .sl sz (n - l.toNat) (fun i => rows (l.toNat + i)), none⟩
     | none, some (.int .i64 h) => some ⟨some (0 ≤ h ∧ h ≤ n), .sl sz h.toNat rows, none⟩
     | none, none => some ⟨none, .sl sz n rows, none⟩
     | _, _ => none) else none
   | _ => none
 | _ => none
def szn : Option MO → Option (Nat × Nat)
 | some (.arr _ sz n _) => some (sz, n)
 | some (.arrc _ sz n _ _) => some (sz, n)
 | _ => none
def sliceOwn (P : Program) (t : TypeId) (m : Nat) (mo : Option MO) (lo : AV) (hi : Option AV) : Option PO :=
 match P.underlying t, szn mo, lo with
 | some (.slice e), some (sz, n), .int .i64 l => bif Nat.beq (P.cellsOf e) sz && Nat.ble 1 sz then (match hi with
   | none => some ⟨some (0 ≤ l ∧ l ≤ n), .vw m sz l.toNat (n - l.toNat), none⟩
   | some (.int .i64 h) => some ⟨some (0 ≤ l ∧ l ≤ h ∧ h ≤ n), .vw m sz l.toNat (h.toNat - l.toNat), none⟩
   | _ => none) else none
 | _, _, _ => none
def zeroFalse (P : Program) (t : TypeId) : Bool := match (P.info? t).bind (·.zero) with | some (.bool false) => true | _ => false
def eqCell (P : Program) (t : TypeId) (x y : AV) : Option Bool := match P.underlying t, x, y with
 | some (.int _), .int .i64 a, .int .i64 b => some (decide (a = b))
 | some .string, .str a, .str b => some (a.toList == b.toList)
 | some .bool, .bool a, .bool b => some (a == b)
 | _, _, _ => none
def eqL (P : Program) (sub : TypeId → List AV → List AV → Option Bool) (xs ys : List AV) : List Field → Option Bool
 | [] => some true
 | f :: fs => match eqL P sub xs ys fs with
   | none => none
   | some r => match tyI P f.type with
     | some (false, _) => (match xs[f.offset]?, ys[f.offset]? with
       | some x, some y => (match eqCell P f.type x y with | some b => some (b && r) | none => none)
       | _, _ => none)
     | some (true, n) => bif Nat.ble (f.offset + n) xs.length && Nat.ble (f.offset + n) ys.length then (match sub f.type ((xs.drop f.offset).take n) ((ys.drop f.offset).take n) with | some b => some (b && r) | none => none) else none
     | none => none
def eqT (P : Program) : Nat → TypeId → List AV → List AV → Option Bool
 | 0, _, _, _ => none
 | d + 1, t, xs, ys => match P.underlying t with
   | some (.struct fs) => eqL P (eqT P d) xs ys fs.toList
   | _ => none
def fldOK (P : Program) (sub : TypeId → Bool) (f : Field) : Bool := !(f.name == "_") && (match P.underlying f.type with | some (.struct _) => sub f.type | _ => true)
def eqOKB (P : Program) : Nat → TypeId → Bool
 | 0, _ => false
 | d + 1, t => match P.underlying t with
   | some (.struct fs) => !P.stoodInHeld t && fs.toList.all (fldOK P (eqOKB P d))
   | _ => false
def eqGB (P : Program) (t : TypeId) : Bool := eqOKB P 8 t && !P.eqGuardType P.depth t
def pas (P : Program) (ev : Operand → AV) (look : Nat → Option MO) (nm : Nat) (o : Op) : Option PO :=
 match o with
 | .move x => some ⟨none, ev x, none⟩
 | .assign x => some ⟨none, ev x, none⟩
 | .pick c a b => match ev c with
   | .bool t => (match ev a, ev b with
     | .bool x, .bool y => some ⟨none, .bool (bif t then x else y), none⟩
     | x, y => match t with | true => some ⟨none, x, none⟩ | false => some ⟨none, y, none⟩)
   | _ => none
 | .binOp op t x y _ => match ev x, ev y with
   | .agg xs, .agg ys => (match op with
     | .eql => (match eqT P 8 t xs ys with | some b => some ⟨some (eqGB P t = true), .bool b, none⟩ | none => none)
     | .neq => (match eqT P 8 t xs ys with | some b => some ⟨some (eqGB P t = true), .bool !b, none⟩ | none => none)
     | _ => none)
   | .niliface, .niliface => (match P.underlying t, y, op with
     | some (.interface _), .const _, .eql => some ⟨none, .bool true, none⟩
     | some (.interface _), .const _, .neq => some ⟨none, .bool false, none⟩
     | _, _, _ => none)
   | .iface _ _, .niliface => (match P.underlying t, op with
     | some (.interface _), .eql => some ⟨none, .bool false, none⟩
     | some (.interface _), .neq => some ⟨none, .bool true, none⟩
     | _, _ => none)
   | .nilsl, .nilsl => (match P.underlying t, op with
     | some (.slice _), .eql => some ⟨none, .bool true, none⟩
     | some (.slice _), .neq => some ⟨none, .bool false, none⟩
     | _, _ => none)
   | ax, ay => binAV op ax ay
 | .unOp .not _ x => match ev x with | .bool b => some ⟨none, .bool (!b), none⟩ | _ => none
 | .unOp .neg _ x => match ev x with | .int .i64 n => some ⟨some (inI .i64 (-n)), .int .i64 (-n), none⟩ | _ => none
 | .fieldAddr t x f => match fieldOf P t f with
   | some fd => match ev x with
     | .eptr row off => bif Nat.beq (P.cellsOf fd.type) 0 then none else fN (off + fd.offset) fun o => some ⟨none, .eptr row o, none⟩
     | .bptr m off => bif Nat.beq (P.cellsOf fd.type) 0 then none else fN (off + fd.offset) fun o => some ⟨none, .bptr m o, none⟩
     | .aptr m sz i off => bif Nat.beq (P.cellsOf fd.type) 0 then none else fN (off + fd.offset) fun o => some ⟨none, .aptr m sz i o, none⟩
     | _ => none
   | none => none
 | .indexAddr t x i => match P.underlying t, ev x, ev i with
   | some (.slice e), .sl sz n rows, .int .i64 i => bif Nat.beq (P.cellsOf e) sz && Nat.ble 1 sz then some ⟨some (0 ≤ i ∧ i < n), .eptr (rows i.toNat) 0, none⟩ else none
   | some (.array n e), .bptr m off, .int .i64 i => bif Nat.ble n 1 || Nat.beq (P.cellsOf e) 0 then none else some ⟨some (0 ≤ i ∧ i < n), .bptr m (off + i.toNat * P.cellsOf e), none⟩
   | some (.slice e), .osl m, .int .i64 i => match look m with
     | some (.arr _ sz n _) => bif Nat.beq (P.cellsOf e) sz && Nat.ble 1 sz then some ⟨some (0 ≤ i ∧ i < n), .aptr m sz i.toNat 0, none⟩ else none
     | _ => none
   | _, _, _ => none
 | .load t x => match tyI P t, ev x with
   | some (ag, n), .eptr row off => bif Nat.ble (off + n) row.length && Nat.ble 1 n then fL ((row.drop off).take n) fun l => some ⟨none, cellsAV ag l, none⟩ else none
   | some (ag, n), .bptr m off => match look m with
     | some (.box cs) => bif Nat.ble (off + n) cs.length && Nat.ble 1 n then fL ((cs.drop off).take n) fun l => some ⟨none, cellsAV ag l, none⟩ else none
     | _ => none
   | some (ag, n), .aptr m sz i off => match look m with
     | some (.arr _ sz' _ rows) => bif Nat.beq sz sz' && (Nat.ble (off + n) sz && (Nat.ble (off + n) (rows i).length && Nat.ble 1 n)) then fL (((rows i).drop off).take n) fun l => some ⟨none, cellsAV ag l, none⟩ else none
     | _ => none
   | _, _ => none
 | .alloc t => match zeroAV P t with | some z => fL z fun z => some ⟨none, .bptr nm 0, some (.box z)⟩ | none => none
 | .box t x => match (ev x).isVal with | true => some ⟨none, .bptr nm 0, some (.box (ev x).cells)⟩ | false => none
 | .field t x f => match fieldOf P t f, ev x with
   | some fd, .agg cs => match tyI P fd.type with
     | some (ag, n) => bif Nat.ble (fd.offset + n) cs.length && Nat.ble 1 n then fL ((cs.drop fd.offset).take n) fun l => some ⟨none, cellsAV ag l, none⟩ else none
     | none => none
   | _, _ => none
 | .index t x i => match P.underlying t, ev x, ev i with
   | some .string, .str s, .int .i64 i => some ⟨some (0 ≤ i ∧ i < s.size), .int .u8 ((s.data.toList.getD i.toNat 0).toNat), none⟩
   | some (.array n e), .agg cs, .int .i64 i => (match tyI P e with
     | some (false, 1) => bif Nat.beq cs.length n then some ⟨some (0 ≤ i ∧ i < n), cs.getD i.toNat .any, none⟩ else none
     | _ => none)
   | _, _, _ => none
 | .build t parts => match zeroAV P t, P.underlying t with
   | some z, some (.struct fs) => (match placesOf P fs.toList with
     | some pl => fPl pl fun pl => fL z fun z => (match fillAV (fun i => pl[i]?) z (parts.toList.map fun p => (p.1, ev p.2)) with | some cs => some ⟨none, .agg cs, none⟩ | none => none)
     | none => none)
   | some z, some (.array _ e) => fN (P.cellsOf e) fun c => fL z fun z => bif Nat.beq c 0 then none else (match fillAV (fun i => some (i * c, c)) z (parts.toList.map fun p => (p.1, ev p.2)) with | some cs => some ⟨none, .agg cs, none⟩ | none => none)
   | _, _ => none
 | .buildSlice t len parts => match elemOf? P t with
   | some e => (match zeroAV P e with
     | some z => fN (P.cellsOf e) fun c => fL z fun z => bif Nat.beq c 0 || !Nat.beq z.length c || Nat.ble 1000 len || Nat.ble 1000 c then none else
       fL ((List.replicate len z).flatten) fun zs => (match fillAV (fun i => some (i * c, c)) zs (parts.toList.map fun p => (p.1, ev p.2)) with
       | some cs => bif cs.all AV.nameless then some ⟨none, .osl nm, some (.arr e c len fun i => (cs.drop (i * c)).take c)⟩ else none
       | none => none)
     | none => none)
   | none => none
 | .makeSlice t l c => match elemOf? P t, ev l, ev c with
   | some e, .int .i64 n, .int .i64 k => (match zeroAV P e with
     | some z => fN (P.cellsOf e) fun c => fL z fun z => fN (P.bytesOf e) fun by' => bif Nat.beq c 0 || !Nat.beq z.length c then none else
       some ⟨some (0 ≤ n ∧ k = n ∧ by' * n ≤ 140737488355328 ∧ n ≤ 9223372036854775807), .osl nm, some (.arr e c n.toNat fun _ => z)⟩
     | none => none)
   | _, _, _ => none
 | .makeInterface t x => bif P.concrete t then some ⟨none, .iface t (ev x), none⟩ else none
 | .typeAssert x _ asserted ok => bif P.concrete asserted then (match ev x with
  | .iface t v => bif ok then (bif Nat.beq t asserted then some ⟨none, .tup [v, .bool true], none⟩ else (match (P.info? asserted).bind (·.zero) with | some z => some ⟨none, .tup [ofVal z, .bool false], none⟩ | none => none)) else (bif Nat.beq t asserted then some ⟨none, v, none⟩ else none)
  | _ => none) else none
 | .extract x i => match ev x with | .tup vs => (match vs[i]? with | some v => some ⟨none, v, none⟩ | none => none) | _ => none
 | .slice t x lo hi none => match ev x with
   | .osl m => (match lo with | some lo => sliceOwn P t m (look m) (ev lo) (hi.map ev) | none => none)
   | v => sliceAV P t v (lo.map ev) (hi.map ev)
 | .convert s d x => match P.underlying s, P.underlying d with
   | some (.int _), some (.int k) => (match ev x with | .int _ n => some ⟨some (inI k n), .int k n, none⟩ | _ => none)
   | some .string, some .string => (match ev x with | .str s => some ⟨none, .str s, none⟩ | _ => none)
   | some (.slice e), some .string => (match P.underlying e, rowsOf look (ev x) with
     | some (.int .u8), some (1, n, rows) => some ⟨some (∀ i, i < n → rows i = [.int .u8 (rowB (rows i))]), .str (bytesOf n rows), none⟩
     | _, _ => none)
   | _, _ => none
 | .nilCheck x => match ev x with
   | .bptr m off => some ⟨none, .bptr m off, none⟩
   | .eptr row off => some ⟨none, .eptr row off, none⟩
   | .aptr m sz i off => some ⟨none, .aptr m sz i off, none⟩
   | _ => none
 | .makeMap t none => match P.underlying t with
   | some (.map k e) => (match zeroFalse P e, P.underlying k with
     | true, some (.int .i64) => some ⟨none, .omap nm, some (.imap [])⟩
     | true, some .string => some ⟨none, .omap nm, some (.smap [])⟩
     | _, _ => none)
   | _ => none
 | .lookup t x i false => match P.underlying t, ev x with
   | some (.map k e), .omap m => (match zeroFalse P e, P.underlying k, look m, ev i with
     | true, some (.int .i64), some (.imap ks), .int .i64 n => some ⟨none, .bool (decide (n ∈ ks)), none⟩
     | true, some .string, some (.smap ks), .str s => some ⟨none, .bool (decide (s.data.toList ∈ ks)), none⟩
     | _, _, _, _ => none)
   | _, _ => none
 | .makeFunc f xs ys => some ⟨none, .fn f (xs.toList.map ev) (ys.toList.map ev), none⟩
 | .call { callee := .builtin .len, args, argTypes } => match args.toList with
   | [x] => (match argTypes[0]? with | some t => (match lenAV (P.underlying t) look (ev x) with | some n => some ⟨none, .int .i64 n, none⟩ | none => none) | none => none)
   | _ => none
 | .call { callee := .builtin .min, args, .. } => match args.toList with
   | [x, y] => (match minAV (ev x) (ev y) with | some v => some ⟨none, v, none⟩ | none => none)
   | _ => none
 | .call { callee := .builtin .max, args, .. } => match args.toList with
   | [x, y] => (match maxAV (ev x) (ev y) with | some v => some ⟨none, v, none⟩ | none => none)
   | _ => none
 | _ => none
end Go.Vw

namespace Go.Vw
open Go
def gset (g : Nat → Option Gh) (m : Nat) (G : Gh) : Nat → Option Gh := fun k => if k = m then some G else g k
theorem gset_le {g : Nat → Option Gh} {m : Nat} {G : Gh} (h : g m = none) : ∀ k H, g k = some H → gset g m G k = some H := by
 intro k H hk
 unfold gset
 split
 · rename_i e; subst e; rw [h] at hk; cases hk
 · exact hk
theorem gset_same {g : Nat → Option Gh} {m : Nat} {G : Gh} : gset g m G m = some G := by simp [gset]
def Does (P : Program) (o : Oper) (a : Act) (w : World) (ok : Nat → Prop) (g : Nat → Option Gh) (nm : Nat) (p : PO) : Prop :=
 match p.mo with
 | none => ∃ v, (execOp a.eval o).run P w = .ok (.value v) w ∧ RV w ok g p.r v
 | some mo => ∃ v obj G, (execOp a.eval o).run P w = .ok (.value v) (w.alloc obj) ∧ G.b = some w.heap.size ∧ MRel (w.alloc obj) ok (gset g nm G) G mo ∧ RV (w.alloc obj) ok (gset g nm G) p.r v
def AV.sv : AV → Value
 | .int k n => .int k n
 | .bool b => .bool b
 | .str s => .string s
 | _ => Go.undef
def AV.sc : AV → Bool
 | .int _ _ | .bool _ | .str _ => true
 | _ => false
theorem RV_sv {w : World} {ok : Nat → Prop} {g : Nat → Option Gh} {r : AV} (h : r.sc = true) : RV w ok g r r.sv := by
 cases r <;> first | rfl | cases h
theorem Does.val {P : Program} {o : Oper} {a : Act} {w : World} {ok : Nat → Prop} {g : Nat → Option Gh} {nm : Nat} {r : AV} {pre : Option Prop} {v : Value}
 (h : (execOp a.eval o).run P w = .ok (.value v) w) (hv : RV w ok g r v) : Does P o a w ok g nm ⟨pre, r, none⟩ := ⟨v, h, hv⟩
section
variable {P : Program} {o : Oper} {a : Act} {w : World} {ok : Nat → Prop} {g : Nat → Option Gh} {nm : Nat} {ev : Operand → AV} {lk : Nat → Option MO}
theorem inI_wrap {k : IntKind} {n : Int} (h : inI k n) : k.wrap n = n := by
 unfold inI at h
 cases k <;> simp only [IntKind.min, IntKind.max, IntKind.signed, IntKind.bits, IntKind.wrap] at h ⊢ <;> simp at h ⊢ <;> first | omega | (split <;> omega)
theorem run_bin {op : BinOp} {t u : TypeId} {x y : Operand} {v v1 v2 : Value} (hop : o.op = .binOp op t x y u) (h1 : a.eval x = v1) (h2 : a.eval y = v2)
 (hg : (eqGuard op t x y v1 v2).run P w = .ok () w) (h : (binOp op t v1 v2).run P w = .ok v w) : (execOp a.eval o).run P w = .ok (.value v) w := by
 subst h1 h2
 simp [execOp, hop, hg, h]
theorem binAV_does {op : BinOp} {t u : TypeId} {x y : Operand} {p : PO} (hop : o.op = .binOp op t x y u) (hx : RV w ok g (ev x) (a.eval x)) (hy : RV w ok g (ev y) (a.eval y))
 (hp : binAV op (ev x) (ev y) = some p) (hpre : ∀ q, p.pre = some q → q) : Does P o a w ok g nm p := by
 revert hp hpre hx hy
 generalize hvx : a.eval x = vx
 generalize hvy : a.eval y = vy
 generalize ev x = ax
 generalize ev y = ay
 intro hx hy hp hpre
 unfold binAV at hp
 split at hp <;> first | (cases hp; done) | skip
 all_goals
  simp only [RV] at hx hy
  subst hx hy
  cases hp
  try (have hq := hpre _ rfl)
  refine Does.val (v := AV.sv _) (run_bin hop hvx hvy (by simp [eqGuard]) ?_) (RV_sv rfl)
  first
   | (simp [binOp, Op.intCmp, Op.intArith, Op.stringOp, AV.sv]; done)
   | (simp [binOp, Op.intArith, inI_wrap hq, AV.sv]; done)
   | (simp [binOp, Op.intDiv, hq, AV.sv]; done)
   | (simp [binOp, Op.intDiv, hq.1, inI_wrap hq.2, AV.sv]; done)
   | (simp only [binOp, Op.stringOp, AV.sv]; rw [if_neg (by omega)]; rfl)
   | (simp [binOp, Op.intCmp, AV.sv]; rfl)
   | (obtain ⟨q1, q2⟩ := hq; simp [binOp, Op.intArith, AV.sv, IntKind.wrap, IntKind.bits, IntKind.signed]; omega)
   | (obtain ⟨q1, q2, q3⟩ := hq; subst q3; simp [binOp, Op.shift, AV.sv, Int.fdiv_eq_ediv_of_nonneg]; done)
end
end Go.Vw

namespace Go.Vw
open Go
section
variable {P : Program} {o : Oper} {a : Act} {w : World} {ok : Nat → Prop} {g : Nat → Option Gh} {nm : Nat} {ev : Operand → AV} {lk : Nat → Option MO}
theorem add_off {b o n : Nat} : (⟨b, o, none⟩ : Addr).add n = ⟨b, o + n, none⟩ := by
 unfold Addr.add; split <;> simp_all
theorem move_does {x : Operand} (hop : o.op = .move x ∨ o.op = .assign x) (hx : RV w ok g (ev x) (a.eval x)) : Does P o a w ok g nm ⟨none, ev x, none⟩ :=
 Does.val (by rcases hop with h | h <;> simp [execOp, h]) hx
theorem pick_does {c x y : Operand} {p : PO} (hop : o.op = .pick c x y) (hc : RV w ok g (ev c) (a.eval c)) (hx : RV w ok g (ev x) (a.eval x)) (hy : RV w ok g (ev y) (a.eval y))
 (hp : pas P ev lk nm o.op = some p) : Does P o a w ok g nm p := by
 rw [hop] at hp
 simp only [pas, fN_eq, fL_eq, fPl_eq] at hp
 have hrun : ∀ t, a.eval c = .bool t → (execOp a.eval o).run P w = .ok (.value (if t then a.eval x else a.eval y)) w := by
  intro t ht; simp [execOp, hop, ht, asBool]
 split at hp
 · rename_i t hct
   rw [hct] at hc
   simp only [RV] at hc
   split at hp
   · rename_i bx byy h1 h2
     cases hp
     rw [h1] at hx; rw [h2] at hy
     simp only [RV] at hx hy
     refine Does.val (hrun t hc) ?_
     rw [hx, hy]
     cases t <;> rfl
   · split at hp <;> cases hp
     · exact Does.val (hrun true hc) (by simpa using hx)
     · exact Does.val (hrun false hc) (by simpa using hy)
 · cases hp
theorem unop_does {op : UnOp} {t : TypeId} {x : Operand} {p : PO} (hop : o.op = .unOp op t x) (hx : RV w ok g (ev x) (a.eval x)) (hp : pas P ev lk nm o.op = some p)
 (hpre : ∀ q, p.pre = some q → q) : Does P o a w ok g nm p := by
 rw [hop] at hp
 cases op <;> simp only [pas, fN_eq, fL_eq, fPl_eq] at hp <;> first | (cases hp; done) | skip
 all_goals
  split at hp <;> cases hp
  rename_i h
  rw [h] at hx
  simp only [RV] at hx
  try (have hq := hpre _ rfl)
  refine Does.val (v := AV.sv _) ?_ (RV_sv rfl)
  first
  | (simp [execOp, hop, hx, Op.unary, AV.sv]; done)
  | (simp [execOp, hop, hx, Op.unary, Op.intArith, AV.sv]; exact inI_wrap hq)
theorem fieldOf_spec {t : TypeId} {f : Nat} {fd : Field} (h : fieldOf P t f = some fd) : ∃ fs, P.underlying t = some (.struct fs) ∧ fs[f]? = some fd := by
 unfold fieldOf at h
 split at h
 · exact ⟨_, ‹_›, h⟩
 · cases h
theorem run_fieldPlace {ad : Addr} {fd : Field} (h : ¬ P.cellsOf fd.type = 0) : (fieldPlace ad fd).run P w = .ok (ad.add fd.offset) w := by
 unfold Program.cellsOf at h
 cases hi : P.info? fd.type with
 | none => simp [hi] at h
 | some i => simp [hi] at h; simp [fieldPlace, sizeOf, typeInfo, hi, h]
theorem fieldAddr_does {t : TypeId} {x : Operand} {f : Nat} {p : PO} (hop : o.op = .fieldAddr t x f) (hx : RV w ok g (ev x) (a.eval x)) (hp : pas P ev lk nm o.op = some p) : Does P o a w ok g nm p := by
 rw [hop] at hp
 simp only [pas, fN_eq, fL_eq, fPl_eq] at hp
 split at hp
 · rename_i fd hfd
   obtain ⟨fs, hu, hf⟩ := fieldOf_spec hfd
   have key : ∀ b off, a.eval x = .pointer (some ⟨b, off, none⟩) → ¬ P.cellsOf fd.type = 0 → (execOp a.eval o).run P w = .ok (.value (.pointer (some ⟨b, off + fd.offset, none⟩))) w := by
    intro b off hv hz
    have hu' := run_underlying (w := w) hu
    simp [execOp, hop, hv, Instr.fieldAt, Instr.sureAddr, hu', hf, run_fieldPlace hz, add_off]
   split at hp
   · rename_i row off he
     rw [he] at hx
     obtain ⟨b, o', hv, hb, vs, hvs, hc⟩ := hx
     cases hz : Nat.beq (P.cellsOf fd.type) 0 <;> simp [hz] at hp
     subst hp
     have hz' : ¬ P.cellsOf fd.type = 0 := fun e => by rw [e] at hz; cases hz
     exact Does.val (key _ _ hv hz') ⟨b, o', by rw [Nat.add_assoc], hb, vs, hvs, hc⟩
   · rename_i m off he
     rw [he] at hx
     obtain ⟨G, b, hm, hb, hv⟩ := hx
     cases hz : Nat.beq (P.cellsOf fd.type) 0 <;> simp [hz] at hp
     subst hp
     have hz' : ¬ P.cellsOf fd.type = 0 := fun e => by rw [e] at hz; cases hz
     exact Does.val (key _ _ hv hz') ⟨G, b, hm, hb, rfl⟩
   · rename_i m sz i off he
     rw [he] at hx
     obtain ⟨G, b, hm, hb, hv⟩ := hx
     cases hz : Nat.beq (P.cellsOf fd.type) 0 <;> simp [hz] at hp
     subst hp
     have hz' : ¬ P.cellsOf fd.type = 0 := fun e => by rw [e] at hz; cases hz
     exact Does.val (key _ _ hv hz') ⟨G, b, hm, hb, by rw [Nat.add_assoc]⟩
   · cases hp
 · cases hp
theorem run_sizeOf_cellsOf {t : TypeId} {n : Nat} (h : P.cellsOf t = n) (hn : 1 ≤ n) : (sizeOf t).run P w = .ok n w := by
 unfold Program.cellsOf at h
 cases hi : P.info? t with
 | none => simp [hi] at h; omega
 | some i => simp [hi] at h; simp [sizeOf, typeInfo, hi, h]
theorem tyI_spec {t : TypeId} {ag : Bool} {n : Nat} (h : tyI P t = some (ag, n)) : (sizeOf t).run P w = .ok n w ∧ (isAgg t).run P w = .ok ag w := by
 unfold tyI at h
 split at h <;> cases h
 all_goals
  rename_i i hu hi
  refine ⟨by simp [sizeOf, typeInfo, hi], ?_⟩
  simp only [isAgg, Sem.run_bind, run_underlying hu w, Result.andThen_ok]
  first | rfl | (split <;> first | rfl | (rename_i h; exact absurd hu (by simp_all)))
def cellsV (agg : Bool) (vs : List Value) : Value := if agg then .agg vs.toArray else vs.headD undef
theorem RV_cells {ag : Bool} {cs : List AV} {vs : List Value} (h : RVs w ok g cs vs) (hn : 1 ≤ cs.length) : RV w ok g (cellsAV ag cs) (cellsV ag vs) := by
 cases ag
 · cases cs with
   | nil => simp at hn
   | cons c r => obtain ⟨v, us, e, h1, _⟩ := h; subst e; exact h1
 · exact ⟨vs, rfl, h⟩
theorem run_loadVar_cells {t : TypeId} {ag : Bool} {n : Nat} {b off : Nat} {vs : List Value} (h : tyI P t = some (ag, n)) (hl : vs.length = n) (hn : 1 ≤ n)
 (hc : ∀ j, j < n → w.cell? ⟨b, off + j, none⟩ = vs[j]?) : (loadVar t ⟨b, off, none⟩).run P w = .ok (cellsV ag vs) w := by
 obtain ⟨hs, ha⟩ := tyI_spec (w := w) h
 subst hl
 cases ag
 · cases vs with
   | nil => simp at hn
   | cons v us =>
     have h0 := hc 0 (by simp)
     simp only [Nat.add_zero, List.getElem?_cons_zero] at h0
     simp [loadVar, Sem.run_bind, ha, h0, cellsV]
 · have := run_loadCells_list (P := P) w ⟨b, off, none⟩ vs (fun j v hv => by
    have hj : j < vs.length := by
     rcases Nat.lt_or_ge j vs.length with h | h
     · exact h
     · rw [List.getElem?_eq_none h] at hv; cases hv
    rw [add_off, hc j hj, hv])
   simp [loadVar, Sem.run_bind, ha, hs, this, cellsV]
theorem load_does {t : TypeId} {x : Operand} {p : PO} (hop : o.op = .load t x) (hx : RV w ok g (ev x) (a.eval x)) (hob : ∀ m mo G, lk m = some mo → g m = some G → MRel w ok g G mo)
 (hp : pas P ev lk nm o.op = some p) : Does P o a w ok g nm p := by
 rw [hop] at hp
 simp only [pas, fN_eq, fL_eq, fPl_eq] at hp
 split at hp
 · rename_i ag n row off ht he
   rw [he] at hx
   obtain ⟨b, o', hv, hb, vs, hvs, hc⟩ := hx
   cases hz : (Nat.ble (off + n) row.length && Nat.ble 1 n) <;> simp [hz] at hp
   subst hp
   simp only [Bool.and_eq_true, Nat.ble_eq] at hz
   have hvl := hvs.length
   have h1 := (hvs.drop off).take n
   have hl1 : ((vs.drop off).take n).length = n := by simp; omega
   refine Does.val ?_ (RV_cells (ag := ag) (hvs.drop off |>.take n |> fun h => RVs.mono (fun _ h => h) (fun _ _ => rfl) G0 g (fun _ _ h => by cases h) _ _ h) (by simp; omega))
   have := run_loadVar_cells (P := P) (w := w) (b := b) (off := o' + off) ht hl1 hz.2 (fun j hj => by
    rw [Nat.add_assoc, hc (off + j) (by omega), List.getElem?_take, if_pos hj, List.getElem?_drop])
   simp [execOp, hop, hv, Instr.loadAt, Instr.sureAddr, this]
 · rename_i ag n m off ht he
   split at hp
   · rename_i cs hlk
     rw [he] at hx
     obtain ⟨G, b, hm, hb, hv⟩ := hx
     obtain ⟨b', vs, ty, hb', hh, hvs⟩ := hob m _ G hlk hm
     rw [hb] at hb'
     cases hb'
     cases hz : (Nat.ble (off + n) cs.length && Nat.ble 1 n) <;> simp [hz] at hp
     subst hp
     simp only [Bool.and_eq_true, Nat.ble_eq] at hz
     have hvl := hvs.length
     have hl1 : ((vs.drop off).take n).length = n := by simp; omega
     refine Does.val ?_ (RV_cells (ag := ag) (hvs.drop off |>.take n) (by simp; omega))
     have := run_loadVar_cells (P := P) (w := w) (b := b) (off := off) ht hl1 hz.2 (fun j hj => by
      rw [cell_of_row w b _ _ _ _ hh, List.getElem?_take, if_pos hj, List.getElem?_drop]; simp)
     simp [execOp, hop, hv, Instr.loadAt, Instr.sureAddr, this]
   · cases hp
 · rename_i ag n m sz i off ht he
   split at hp
   · rename_i ee sz' n' rows hlk
     rw [he] at hx
     obtain ⟨G, b, hm, ⟨hb, hin⟩, hv⟩ := hx
     obtain ⟨hGn, hr⟩ := hob m _ G hlk hm
     rcases hr with ⟨hb', _, _⟩ | ⟨b', cur, hb', hh, _, _, hsz, hrow⟩
     · rw [hb] at hb'; cases hb'
     rw [hb] at hb'
     cases hb'
     cases hz : (Nat.beq sz sz' && (Nat.ble (off + n) sz && (Nat.ble (off + n) (rows i).length && Nat.ble 1 n))) <;> simp [hz] at hp
     subst hp
     simp only [Bool.and_eq_true, Nat.ble_eq] at hz
     obtain ⟨hz0, hz1, hz2, hz3⟩ := hz
     have e0 := Nat.eq_of_beq_eq_true hz0
     subst e0
     obtain ⟨vs, hvl, hvs, hc⟩ := hrow i (by omega)
     have hl1 : ((vs.drop off).take n).length = n := by simp; omega
     refine Does.val ?_ (RV_cells (ag := ag) (hvs.drop off |>.take n |> fun h => RVs.mono (fun _ h => h) (fun _ _ => rfl) G0 g (fun _ _ h => by cases h) _ _ h) (by simp; omega))
     have := run_loadVar_cells (P := P) (w := w) (b := b) (off := i * sz + off) ht hl1 hz3 (fun j hj => by
      rw [cell_of_row w b _ _ _ _ hh, Nat.add_assoc, hc (off + j) (by omega), List.getElem?_take, if_pos hj, List.getElem?_drop])
     simp [execOp, hop, hv, Instr.loadAt, Instr.sureAddr, this]
   · cases hp
 · cases hp
theorem indexAddr_does {t : TypeId} {x i : Operand} {p : PO} (hop : o.op = .indexAddr t x i) (hx : RV w ok g (ev x) (a.eval x)) (hi : RV w ok g (ev i) (a.eval i)) (hp : pas P ev lk nm o.op = some p)
 (hob : ∀ m mo G, lk m = some mo → g m = some G → MRel w ok g G mo) (hpre : ∀ q, p.pre = some q → q) : Does P o a w ok g nm p := by
 rw [hop] at hp
 simp only [pas, fN_eq, fL_eq, fPl_eq] at hp
 split at hp
 · rename_i e sz n rows k hu hex hei
   rw [hex] at hx; rw [hei] at hi
   simp only [RV] at hi
   obtain ⟨A, c, hv, hn, h⟩ := hx
   cases hz : (Nat.beq (P.cellsOf e) sz && Nat.ble 1 sz) <;> simp [hz] at hp
   subst hp
   obtain ⟨h0, h1⟩ := hpre _ rfl
   rcases h with h | ⟨b, o', hA, hb, hr⟩
   · omega
   obtain ⟨vs, hl, hvs, hc⟩ := hr k.toNat (by omega)
   simp only [Bool.and_eq_true, Nat.ble_eq] at hz
   have hsz := Nat.eq_of_beq_eq_true hz.1
   have hu' := run_underlying (w := w) hu
   have hs := run_sizeOf_cellsOf (w := w) hsz hz.2
   refine Does.val (v := .pointer (some ⟨b, o' + k.toNat * sz, none⟩)) ?_ ⟨b, o' + k.toNat * sz, rfl, hb, vs, hvs, fun j hj => ?_⟩
   · have hk : k < (n : Int) := h1
     simp [execOp, hop, hv, hi, Instr.indexAt, asIntOf, hu', hA, h0, hk, hs, add_off]
   · rw [Nat.add_assoc]; exact hc j (by omega)
 · rename_i n e m off k hu hex hei
   rw [hex] at hx; rw [hei] at hi
   simp only [RV] at hi
   obtain ⟨G, b, hm, hb, hv⟩ := hx
   cases hz : (Nat.ble n 1 || Nat.beq (P.cellsOf e) 0) <;> simp [hz] at hp
   subst hp
   obtain ⟨h0, h1⟩ := hpre _ rfl
   simp only [Bool.or_eq_false_iff] at hz
   have hn : ¬ n ≤ 1 := fun h => by have := Nat.ble_eq_true_of_le h; rw [hz.1] at this; cases this
   have he : ¬ P.cellsOf e = 0 := fun h => by rw [h] at hz; cases hz.2
   have hu' := run_underlying (w := w) hu
   have hs := run_sizeOf_cellsOf (w := w) (P := P) (t := e) rfl (by omega)
   refine Does.val (v := .pointer (some ⟨b, off + k.toNat * P.cellsOf e, none⟩)) ?_ ⟨G, b, hm, hb, rfl⟩
   have hk : k < (n : Int) := h1
   simp [execOp, hop, hv, hi, Instr.indexAt, asIntOf, hu', h0, hk, hs, add_off, Instr.sureAddr]
 · rename_i e m k hu hex hei
   rw [hex] at hx; rw [hei] at hi
   simp only [RV] at hi
   obtain ⟨G, hm, hv⟩ := hx
   split at hp
   · rename_i ee sz n rows hlk
     cases hz : (Nat.beq (P.cellsOf e) sz && Nat.ble 1 sz) <;> simp [hz] at hp
     subst hp
     obtain ⟨h0, h1⟩ := hpre _ rfl
     obtain ⟨hGn, hr⟩ := hob m _ G hlk hm
     rcases hr with ⟨_, hn0, _⟩ | ⟨b, cur, hb, hh, hnc, _, hsz', hrow⟩
     · omega
     simp only [Bool.and_eq_true, Nat.ble_eq] at hz
     have hsz := Nat.eq_of_beq_eq_true hz.1
     have hu' := run_underlying (w := w) hu
     have hs := run_sizeOf_cellsOf (w := w) hsz hz.2
     refine Does.val (v := .pointer (some ⟨b, 0 + k.toNat * sz, none⟩)) ?_ ⟨G, b, hm, ⟨hb, by omega⟩, by rw [Nat.zero_add, Nat.add_zero]⟩
     have hk : k < (G.n : Int) := by omega
     simp [execOp, hop, hv, hi, Instr.indexAt, asIntOf, hu', hb, h0, hk, hs, add_off]
   · cases hp
 · cases hp
end
end Go.Vw

namespace Go.Vw
open Go
section
variable {P : Program} {o : Oper} {a : Act} {w : World} {ok : Nat → Prop} {g : Nat → Option Gh} {nm : Nat} {ev : Operand → AV} {lk : Nat → Option MO}
theorem RVs_alloc {obj : Obj} (hok : ∀ b, ok b → b < w.heap.size) {G : Gh} (hnm : g nm = none) {x : List AV} {v : List Value} (h : RVs w ok g x v) : RVs (w.alloc obj) ok (gset g nm G) x v :=
 RVs.mono (fun _ h => h) (fun b hb => RowKit.Below.heap_alloc _ _ _ (hok b hb)) g _ (gset_le hnm) x v h
theorem cells_RVs {x : AV} {v : Value} (h : RV w ok g x v) (hx : x ≠ .any) (ht : ∀ l, x ≠ .tup l) (hu : x ≠ .undef) : RVs w ok g x.cells v.cells.toList := by
 cases x <;> simp only [AV.cells] <;> first | (exact absurd rfl hx) | (exact absurd rfl (ht _)) | (exact absurd rfl hu) | skip
 all_goals first
  | (obtain ⟨vs, e, h'⟩ := h; subst e; exact h')
  | skip
 all_goals
  refine ⟨v, [], ?_, h, rfl⟩
  simp only [RV] at h
  first
  | (subst h; rfl)
  | (obtain ⟨_, e⟩ := h; subst e; rfl)
  | (obtain ⟨_, _, e⟩ := h; subst e; rfl)
  | (obtain ⟨_, e, _⟩ := h; subst e; rfl)
  | (obtain ⟨_, _, e, _⟩ := h; subst e; rfl)
  | (obtain ⟨_, _, _, _, e⟩ := h; subst e; rfl)
  | (obtain ⟨_, _, _, e⟩ := h; subst e; rfl)
  | (obtain ⟨_, _, _, _, e, _⟩ := h; subst e; rfl)
theorem zeroAV_spec {t : TypeId} {z : List AV} (h : zeroAV P t = some z) : ∃ i v, P.info? t = some i ∧ i.zero = some v ∧ z = (ofVal v).cells := by
 unfold zeroAV at h
 split at h
 · rename_i i hi
   split at h
   · rename_i v hv; cases h; exact ⟨i, v, hi, hv, rfl⟩
   · cases h
 · cases h
theorem ofVal_cells (v : Value) : ∃ vs, v.cells.toList = vs ∧ RVs w ok g (ofVal v).cells vs := by
 refine ⟨_, rfl, ?_⟩
 cases v with
 | agg cs =>
   cases cs with
   | mk l => exact RVs_ofVals w ok g l
 | slice x n c => cases x with
   | none => cases n <;> cases c <;> exact ⟨_, _, rfl, RV_ofVal w ok g _, rfl⟩
   | some _ => exact ⟨_, _, rfl, RV_ofVal w ok g _, rfl⟩
 | pointer x => cases x <;> exact ⟨_, _, rfl, RV_ofVal w ok g _, rfl⟩
 | _ => exact ⟨_, _, rfl, RV_ofVal w ok g _, rfl⟩
theorem box_new (hok : ∀ b, ok b → b < w.heap.size) (hnm : g nm = none) {t : TypeId} {cs : List AV} {vs : List Value} (h : RVs w ok g cs vs)
 (hrun : (execOp a.eval o).run P w = .ok (.value (.pointer (some ⟨w.heap.size, 0, none⟩))) (w.alloc (.cells vs.toArray t))) : Does P o a w ok g nm ⟨none, .bptr nm 0, some (.box cs)⟩ :=
 ⟨_, _, ⟨some w.heap.size, 0, 0⟩, hrun, rfl, ⟨w.heap.size, vs, t, rfl, heap_alloc_new w _, RVs_alloc hok hnm h⟩, ⟨_, _, gset_same, rfl, rfl⟩⟩
theorem alloc_does {t : TypeId} {p : PO} (hok : ∀ b, ok b → b < w.heap.size) (hnm : g nm = none) (hop : o.op = .alloc t) (hp : pas P ev lk nm o.op = some p) : Does P o a w ok g nm p := by
 rw [hop] at hp
 simp only [pas, fN_eq, fL_eq, fPl_eq] at hp
 split at hp <;> cases hp
 rename_i z hz
 obtain ⟨i, v, hi, hv, rfl⟩ := zeroAV_spec hz
 obtain ⟨vs, hvs, h⟩ := ofVal_cells (w := w) (ok := ok) (g := g) v
 have e : vs.toArray = v.cells := by rw [← hvs]
 refine box_new (t := t) hok hnm h ?_
 rw [e]
 simp [execOp, hop, Instr.alloc, zeroValue, typeInfo, hi, hv, newVar, newRow]
theorem box_does {t : TypeId} {x : Operand} {p : PO} (hok : ∀ b, ok b → b < w.heap.size) (hnm : g nm = none) (hop : o.op = .box t x) (hx : RV w ok g (ev x) (a.eval x)) (hp : pas P ev lk nm o.op = some p) : Does P o a w ok g nm p := by
 rw [hop] at hp
 simp only [pas, fN_eq, fL_eq, fPl_eq] at hp
 split at hp <;> cases hp
 rename_i h
 have hcs := cells_RVs hx (fun e => by rw [e] at h; cases h) (fun l e => by rw [e] at h; cases h) (fun e => by rw [e] at h; cases h)
 refine box_new (t := t) hok hnm hcs ?_
 simp [execOp, hop, Instr.box, newVar, newRow]
theorem field_does {t : TypeId} {x : Operand} {f : Nat} {p : PO} (hop : o.op = .field t x f) (hx : RV w ok g (ev x) (a.eval x)) (hp : pas P ev lk nm o.op = some p) : Does P o a w ok g nm p := by
 rw [hop] at hp
 simp only [pas, fN_eq, fL_eq, fPl_eq] at hp
 split at hp
 · rename_i fd cs hfd he
   rw [he] at hx
   obtain ⟨vs, hv, hvs⟩ := hx
   obtain ⟨fs, hu, hf⟩ := fieldOf_spec hfd
   have hu' := run_underlying (w := w) hu
   split at hp
   · rename_i ag n ht
     cases hz : (Nat.ble (fd.offset + n) cs.length && Nat.ble 1 n) <;> simp [hz] at hp
     subst hp
     simp only [Bool.and_eq_true, Nat.ble_eq] at hz
     have hvl := hvs.length
     obtain ⟨hs, ha⟩ := tyI_spec (w := w) ht
     refine Does.val ?_ (RV_cells (ag := ag) (hvs.drop fd.offset |>.take n) (by simp; omega))
     have hpart : (part fd.type vs.toArray fd.offset).run P w = .ok (cellsV ag ((vs.drop fd.offset).take n)) w := by
      cases ag
      · have h1 : fd.offset < vs.length := by omega
        simp [part, ha, h1, cellsV]
        cases n with
        | zero => omega
        | succ n => rw [List.drop_eq_getElem_cons h1]; rfl
      · simp [part, ha, hs, cellsV]
     simp [execOp, hop, hv, Instr.field, hu', hf, asAgg, hpart]
   · cases hp
 · cases hp
theorem run_part_one {t : TypeId} {n off : Nat} {us : List Value} {v : Value} (ht : tyI P t = some (false, n)) (h : us[off]? = some v) : (part t us.toArray off).run P w = .ok v w := by
 obtain ⟨_, ha⟩ := tyI_spec (w := w) ht
 have h1 : off < us.length := by
  rcases Nat.lt_or_ge off us.length with h' | h'
  · exact h'
  · rw [List.getElem?_eq_none h'] at h; cases h
 rw [List.getElem?_eq_getElem h1] at h
 cases h
 simp [part, ha, h1]
theorem run_part_agg {t : TypeId} {n off : Nat} {us : List Value} (ht : tyI P t = some (true, n)) : (part t us.toArray off).run P w = .ok (.agg ((us.drop off).take n).toArray) w := by
 obtain ⟨hs, ha⟩ := tyI_spec (w := w) ht
 simp [part, ha, hs]
theorem eqCell_spec {t : TypeId} {x y : AV} {u v : Value} {b : Bool} (D : Nat) (h : eqCell P t x y = some b) (hx : RV w ok g x u) (hy : RV w ok g y v) : (Op.equalIn (D + 1) t u v).run P w = .ok b w := by
 unfold eqCell at h
 split at h <;> cases h
 all_goals
  rename_i hu
  simp only [RV] at hx hy
  subst hx hy
 · rw [run_equalIn_int w D t _ _ _ _ hu]; rfl
 · rw [run_equalIn_string w D t _ _ hu]
 · rw [run_equalIn_bool' w D t _ _ hu]
theorem eqL_spec {sub : TypeId → List AV → List AV → Option Bool} {D : Nat} {xs ys : List AV} {us vs : List Value} (hx : RVs w ok g xs us) (hy : RVs w ok g ys vs) {okT : TypeId → Bool}
 (hsub : ∀ t as bs cs ds b, sub t as bs = some b → okT t = true → RVs w ok g as cs → RVs w ok g bs ds → (Op.equalIn (D + 1) t (.agg cs.toArray) (.agg ds.toArray)).run P w = .ok b w) :
 ∀ (fs : List Field) (b : Bool), eqL P sub xs ys fs = some b → fs.all (fldOK P okT) = true →
   (∀ t as bs b, sub t as bs = some b → ∃ q, P.underlying t = some (.struct q)) → (Op.eqFields (D + 1) us.toArray vs.toArray fs).run P w = .ok b w
 | [], b, h, _, _ => by simp [eqL] at h; subst h; simp [Op.eqFields]
 | f :: fs, b, h, hok, hst => by
   simp only [List.all_cons, fldOK, Bool.and_eq_true] at hok
   obtain ⟨⟨hname, hty⟩, hrest⟩ := hok
   have hnm : f.name ≠ "_" := fun e => by simp [e] at hname
   unfold eqL at h
   split at h
   · cases h
   rename_i r hr
   have ih := eqL_spec hx hy hsub fs r hr hrest hst
   have fin : ∀ (a c : Value) (e : Bool), (part f.type us.toArray f.offset).run P w = .ok a w → (part f.type vs.toArray f.offset).run P w = .ok c w → (Op.equalIn (D + 1) f.type a c).run P w = .ok e w →
    (Op.eqFields (D + 1) us.toArray vs.toArray (f :: fs)).run P w = .ok (e && r) w := by
    intro a c e h1 h2 h3
    cases e <;> simp [Op.eqFields, hnm, h1, h2, h3, ih]
   split at h
   · rename_i n ht
     split at h
     · rename_i x y hxe hye
       split at h <;> cases h
       rename_i e he
       obtain ⟨u, hu, hru⟩ := hx.get _ _ hxe
       obtain ⟨v, hv, hrv⟩ := hy.get _ _ hye
       exact fin u v e (run_part_one ht hu) (run_part_one ht hv) (eqCell_spec D he hru hrv)
     · cases h
   · rename_i n ht
     cases hz : (Nat.ble (f.offset + n) xs.length && Nat.ble (f.offset + n) ys.length) <;> simp [hz] at h
     split at h <;> cases h
     rename_i e he
     obtain ⟨q, hq⟩ := hst _ _ _ _ he
     rw [hq] at hty
     exact fin _ _ e (run_part_agg ht) (run_part_agg ht) (hsub _ _ _ _ _ e he hty ((hx.drop _).take _) ((hy.drop _).take _))
   · cases h
theorem eqT_struct {d : Nat} {t : TypeId} {xs ys : List AV} {b : Bool} (h : eqT P d t xs ys = some b) : ∃ q, P.underlying t = some (.struct q) := by
 cases d with
 | zero => cases h
 | succ d =>
   unfold eqT at h
   split at h
   · rename_i fs hu; exact ⟨fs, hu⟩
   · cases h
theorem eqT_spec : ∀ (d e : Nat) (t : TypeId) (xs ys : List AV) (us vs : List Value) (b : Bool), eqT P d t xs ys = some b → eqOKB P d t = true → RVs w ok g xs us → RVs w ok g ys vs →
 (Op.equalIn (d + e + 1) t (.agg us.toArray) (.agg vs.toArray)).run P w = .ok b w
 | 0, _, _, _, _, _, _, _, h, _, _, _ => by cases h
 | d + 1, e, t, xs, ys, us, vs, b, h, hok, hx, hy => by
   unfold eqT at h
   split at h
   · rename_i fs hu
     unfold eqOKB at hok
     rw [hu] at hok
     simp only [Bool.and_eq_true, Bool.not_eq_true'] at hok
     have hfs : P.fieldsOf t = fs := by unfold Program.fieldsOf; rw [hu]
     have := eqL_spec (D := d + e) hx hy (okT := eqOKB P d) (fun t as bs cs ds b h1 h2 h3 h4 => eqT_spec d e t as bs cs ds b h1 h2 h3 h4) fs.toList b h hok.2 fun t as bs b h => eqT_struct h
     rw [show d + 1 + e + 1 = (d + e + 1) + 1 by omega, run_equalIn_struct w (d + e + 1) t _ _ (by rw [hfs]; exact hu) hok.1, hfs]
     exact this
   · cases h
theorem run_equalIn_sl_nil (d : Nat) (t e : TypeId) (a : Option Addr) (l c : Nat) (h : P.underlying t = some (.slice e)) : (Op.equalIn (d + 1) t (.slice a l c) (.slice none 0 0)).run P w = .ok a.isNone w := by
 cases a <;> simp [Op.equalIn, run_underlying h]
theorem run_equal_sl_nil (t e : TypeId) (a : Option Addr) (l c : Nat) (h : P.underlying t = some (.slice e)) : (Op.equal t (.slice a l c) (.slice none 0 0)).run P w = .ok a.isNone w := run_equalIn_sl_nil 9999 t e a l c h
theorem run_eql_slice_nil (t e : TypeId) (a : Option Addr) (l c : Nat) (h : P.underlying t = some (.slice e)) : (binOp .eql t (.slice a l c) (.slice none 0 0)).run P w = .ok (.bool a.isNone) w := by
 simp only [binOp]
 simp [run_equal_sl_nil t e a l c h]
theorem run_neq_slice_nil (t e : TypeId) (a : Option Addr) (l c : Nat) (h : P.underlying t = some (.slice e)) : (binOp .neq t (.slice a l c) (.slice none 0 0)).run P w = .ok (.bool (!a.isNone)) w := by
 simp only [binOp]
 simp [run_equal_sl_nil t e a l c h]
theorem binOp_does {op : BinOp} {t u : TypeId} {x y : Operand} {p : PO} (hop : o.op = .binOp op t x y u) (hx : RV w ok g (ev x) (a.eval x)) (hy : RV w ok g (ev y) (a.eval y))
 (hp : pas P ev lk nm o.op = some p) (hpre : ∀ q, p.pre = some q → q) : Does P o a w ok g nm p := by
 rw [hop] at hp
 simp only [pas] at hp
 split at hp
 · rename_i xs ys hex hey
   rw [hex] at hx
   rw [hey] at hy
   obtain ⟨us, hu, hxs⟩ := hx
   obtain ⟨vs, hv, hys⟩ := hy
   have key : ∀ b, eqT P 8 t xs ys = some b → eqGB P t = true → (∀ op, (eqGuard op t x y (a.eval x) (a.eval y)).run P w = .ok () w) ∧ (Op.equalIn 10000 t (.agg us.toArray) (.agg vs.toArray)).run P w = .ok b w := by
    intro b hb hgb
    simp only [eqGB, Bool.and_eq_true, Bool.not_eq_true'] at hgb
    refine ⟨fun op => by rw [hu, hv]; exact run_eqGuard_agg w op t x y _ _ hgb.2, ?_⟩
    exact eqT_spec 8 9991 t xs ys us vs b hb hgb.1 hxs hys
   split at hp
   · split at hp <;> cases hp
     rename_i b hb
     obtain ⟨k1, k2⟩ := key b hb (hpre _ rfl)
     refine Does.val (v := .bool b) (run_bin hop rfl rfl (k1 _) ?_) rfl
     rw [hu, hv, run_eql_struct, k2]; rfl
   · split at hp <;> cases hp
     rename_i b hb
     obtain ⟨k1, k2⟩ := key b hb (hpre _ rfl)
     refine Does.val (v := .bool !b) (run_bin hop rfl rfl (k1 _) ?_) rfl
     rw [hu, hv, run_neq_struct, k2]; rfl
   · cases hp
 · rename_i hex hey
   rw [hex] at hx
   rw [hey] at hy
   have hx' : a.eval x = .nilIface := hx
   have hy' : a.eval y = .nilIface := hy
   split at hp <;> cases hp
   · rename_i hu
     have hm : P.underlying t = some (.interface (P.methodsAt t)) := by simp [Program.methodsAt, hu]
     exact Does.val (v := .bool true) (run_bin hop hx' hy' (by simp [eqGuard]) (run_eql_nil_nil w t hm)) rfl
   · rename_i hu
     have hm : P.underlying t = some (.interface (P.methodsAt t)) := by simp [Program.methodsAt, hu]
     exact Does.val (v := .bool false) (run_bin hop hx' hy' (by simp [eqGuard]) (run_neq_nil_nil w t hm)) rfl
 · rename_i tt xx hex hey
   rw [hex] at hx
   rw [hey] at hy
   obtain ⟨xv, hx', _⟩ := hx
   have hy' : a.eval y = .nilIface := hy
   split at hp <;> cases hp
   · rename_i hu
     have hm : P.underlying t = some (.interface (P.methodsAt t)) := by simp [Program.methodsAt, hu]
     exact Does.val (v := .bool false) (run_bin hop hx' hy' (by simp [eqGuard]) (run_eql_held_nil w t tt xv hm)) rfl
   · rename_i hu
     have hm : P.underlying t = some (.interface (P.methodsAt t)) := by simp [Program.methodsAt, hu]
     exact Does.val (v := .bool true) (run_bin hop hx' hy' (by simp [eqGuard]) (run_neq_held_nil w t tt xv hm)) rfl
 · rename_i hex hey
   rw [hex] at hx
   rw [hey] at hy
   have hx' : a.eval x = .slice none 0 0 := hx
   have hy' : a.eval y = .slice none 0 0 := hy
   split at hp <;> cases hp
   · rename_i e hu
     exact Does.val (v := .bool true) (run_bin hop hx' hy' (by simp [eqGuard]) (run_eql_slice_nil t e _ _ _ hu)) rfl
   · rename_i e hu
     exact Does.val (v := .bool false) (run_bin hop hx' hy' (by simp [eqGuard]) (run_neq_slice_nil t e _ _ _ hu)) rfl
 · exact binAV_does hop hx hy hp hpre
theorem makeInterface_does {t : TypeId} {x : Operand} {p : PO} (hop : o.op = .makeInterface t x) (hx : RV w ok g (ev x) (a.eval x)) (hp : pas P ev lk nm o.op = some p) : Does P o a w ok g nm p := by
 rw [hop] at hp
 simp only [pas, fN_eq, fL_eq, fPl_eq] at hp
 cases hc : P.concrete t <;> simp [hc] at hp
 subst hp
 refine Does.val (v := .iface t (a.eval x)) ?_ ⟨_, rfl, hx⟩
 simp [execOp, hop, run_makeInterface (P := P) w t (a.eval x) hc]
theorem extract_does {x : Operand} {i : Nat} {p : PO} (hop : o.op = .extract x i) (hx : RV w ok g (ev x) (a.eval x)) (hp : pas P ev lk nm o.op = some p) : Does P o a w ok g nm p := by
 rw [hop] at hp
 simp only [pas, fN_eq, fL_eq, fPl_eq] at hp
 split at hp
 · rename_i vs he
   rw [he] at hx
   obtain ⟨us, hv, h⟩ := hx
   split at hp <;> cases hp
   rename_i v hvi
   obtain ⟨u, hu, hr⟩ := h.get i v hvi
   refine Does.val ?_ hr
   simp [execOp, hop, hv, Instr.extract, hu]
 · cases hp
theorem nilCheck_does {x : Operand} {p : PO} (hop : o.op = .nilCheck x) (hx : RV w ok g (ev x) (a.eval x)) (hp : pas P ev lk nm o.op = some p) : Does P o a w ok g nm p := by
 rw [hop] at hp
 simp only [pas, fN_eq, fL_eq, fPl_eq] at hp
 split at hp <;> cases hp
 · rename_i m off he
   rw [he] at hx
   obtain ⟨G, b, h1, h2, hv⟩ := hx
   refine Does.val (v := .pointer (some ⟨b, off, none⟩)) ?_ ⟨G, b, h1, h2, rfl⟩
   simp [execOp, hop, hv]
 · rename_i row off he
   rw [he] at hx
   obtain ⟨b, o', hv, r⟩ := hx
   refine Does.val (v := .pointer (some ⟨b, o' + off, none⟩)) ?_ ⟨b, o', rfl, r⟩
   simp [execOp, hop, hv]
 · rename_i m sz i off he
   rw [he] at hx
   obtain ⟨G, b, h1, h2, hv⟩ := hx
   refine Does.val (v := .pointer (some ⟨b, i * sz + off, none⟩)) ?_ ⟨G, b, h1, h2, rfl⟩
   simp [execOp, hop, hv]
theorem RVs_map (hev : ∀ x, RV w ok g (ev x) (a.eval x)) : ∀ l : List Operand, RVs w ok g (l.map ev) (l.map a.eval)
 | [] => rfl
 | x :: l => ⟨_, _, rfl, hev x, RVs_map hev l⟩
theorem makeFunc_does {f : Fn} {xs ys : Array Operand} {p : PO} (hop : o.op = .makeFunc f xs ys) (hev : ∀ x, RV w ok g (ev x) (a.eval x)) (hp : pas P ev lk nm o.op = some p) : Does P o a w ok g nm p := by
 rw [hop] at hp
 simp only [pas, fN_eq, fL_eq, fPl_eq] at hp
 cases hp
 refine Does.val (v := .func f (xs.map a.eval) (ys.map a.eval)) ?_ ⟨xs.toList.map a.eval, ys.toList.map a.eval, ?_, RVs_map hev _, RVs_map hev _⟩
 · simp [execOp, hop, Instr.makeFunc]
 · congr 1 <;> (apply Array.ext'; simp)
theorem minAV_spec {x y r : AV} {v u : Value} (h : minAV x y = some r) (hx : RV w ok g x v) (hy : RV w ok g y u) : (Builtin.min2 v u).run P w = .ok r.sv w ∧ RV w ok g r r.sv := by
 unfold minAV at h
 split at h <;> cases h
 simp only [RV] at hx hy
 subst hx hy
 exact ⟨by simp [Builtin.min2, AV.sv], rfl⟩
theorem maxAV_spec {x y r : AV} {v u : Value} (h : maxAV x y = some r) (hx : RV w ok g x v) (hy : RV w ok g y u) : (Builtin.max2 v u).run P w = .ok r.sv w ∧ RV w ok g r r.sv := by
 unfold maxAV at h
 split at h <;> cases h
 simp only [RV] at hx hy
 subst hx hy
 exact ⟨by simp [Builtin.max2, AV.sv], rfl⟩
theorem min_does {args : Array Operand} {tys : Array TypeId} {p : PO} (hop : o.op = .call ⟨.builtin .min, args, tys⟩) (hev : ∀ x, RV w ok g (ev x) (a.eval x)) (hp : pas P ev lk nm o.op = some p) : Does P o a w ok g nm p := by
 rw [hop] at hp
 simp only [pas, fN_eq, fL_eq, fPl_eq] at hp
 split at hp
 · rename_i x y hl
   split at hp <;> cases hp
   rename_i r hr
   have hargs : args = #[x, y] := by apply Array.ext'; simpa using hl
   obtain ⟨h1, h2⟩ := minAV_spec (P := P) hr (hev x) (hev y)
   refine Does.val ?_ h2
   simp [execOp, hop, hargs, resolve, invoke, builtin, Builtin.min_, h1]
 · cases hp
theorem max_does {args : Array Operand} {tys : Array TypeId} {p : PO} (hop : o.op = .call ⟨.builtin .max, args, tys⟩) (hev : ∀ x, RV w ok g (ev x) (a.eval x)) (hp : pas P ev lk nm o.op = some p) : Does P o a w ok g nm p := by
 rw [hop] at hp
 simp only [pas, fN_eq, fL_eq, fPl_eq] at hp
 split at hp
 · rename_i x y hl
   split at hp <;> cases hp
   rename_i r hr
   have hargs : args = #[x, y] := by apply Array.ext'; simpa using hl
   obtain ⟨h1, h2⟩ := maxAV_spec (P := P) hr (hev x) (hev y)
   refine Does.val ?_ h2
   simp [execOp, hop, hargs, resolve, invoke, builtin, Builtin.max_, h1]
 · cases hp
end
end Go.Vw

namespace Go.Vw
open Go
section
variable {P : Program} {o : Oper} {a : Act} {w : World} {ok : Nat → Prop} {g : Nat → Option Gh} {nm : Nat} {ev : Operand → AV} {lk : Nat → Option MO}
theorem typeAssert_does {x : Operand} {xt t : TypeId} {c : Bool} {p : PO} (hop : o.op = .typeAssert x xt t c) (hx : RV w ok g (ev x) (a.eval x)) (hp : pas P ev lk nm o.op = some p) : Does P o a w ok g nm p := by
 rw [hop] at hp
 simp only [pas, fN_eq, fL_eq, fPl_eq] at hp
 cases hc : P.concrete t <;> simp [hc] at hp
 have hu : ∃ d, P.underlying t = some d ∧ ∀ m, d ≠ .interface m := by
  unfold Program.concrete at hc
  cases hd : P.underlying t with
  | none => simp [hd] at hc
  | some d => exact ⟨d, rfl, fun m e => by subst e; simp [hd] at hc⟩
 obtain ⟨d, hu, hni⟩ := hu
 have hu' := run_underlying (w := w) hu
 split at hp
 · rename_i u v he
   rw [he] at hx
   obtain ⟨y, hv, hy⟩ := hx
   cases hb : Nat.beq u t
   · cases c <;> simp [hb] at hp
     split at hp <;> cases hp
     rename_i z hz
     have hne : ¬ u = t := fun e => by subst e; simp at hb
     refine Does.val (v := .tuple #[z, .bool false]) ?_ ⟨[z, .bool false], rfl, _, _, rfl, RV_ofVal w ok g z, _, _, rfl, rfl, rfl⟩
     cases hi : P.info? t with
     | none => simp [hi] at hz
     | some i =>
       simp [hi] at hz
       cases d <;> first | exact absurd rfl (hni _) | simp [execOp, hop, hv, Instr.typeAssert, hu', hne, zeroValue, typeInfo, hi, hz]
   · have e := Nat.eq_of_beq_eq_true hb
     cases c <;> simp [hb] at hp <;> subst hp
     · refine Does.val (v := y) ?_ hy
       cases d <;> first | exact absurd rfl (hni _) | simp [execOp, hop, hv, Instr.typeAssert, hu', e]
     · refine Does.val (v := .tuple #[y, .bool true]) ?_ ⟨[y, .bool true], rfl, _, _, rfl, hy, _, _, rfl, rfl, rfl⟩
       cases d <;> first | exact absurd rfl (hni _) | simp [execOp, hop, hv, Instr.typeAssert, hu', e]
 · cases hp
theorem len_does {args : Array Operand} {tys : Array TypeId} {p : PO} (hop : o.op = .call ⟨.builtin .len, args, tys⟩) (hev : ∀ x, RV w ok g (ev x) (a.eval x))
 (hob : ∀ m mo G, lk m = some mo → g m = some G → MRel w ok g G mo) (hp : pas P ev lk nm o.op = some p) : Does P o a w ok g nm p := by
 rw [hop] at hp
 simp only [pas, fN_eq, fL_eq, fPl_eq] at hp
 split at hp
 · rename_i x hl
   split at hp
   · rename_i t ht
     have hargs : args = #[x] := by apply Array.ext'; simpa using hl
     have hx := hev x
     split at hp
     · rename_i n hn
       cases hp
       have key : (Builtin.len_ tys o.type #[a.eval x]).run P w = .ok (.int .i64 n) w := by
        cases hd : P.underlying t with
        | none => rw [hd] at hn; simp [lenAV] at hn
        | some d =>
          have hu' := run_underlying (w := w) hd
          rw [hd] at hn
          cases d <;> simp only [lenAV] at hn <;> first | (cases hn; done) | skip
          case string =>
           split at hn <;> cases hn
           rename_i s he
           rw [he] at hx; simp only [RV] at hx
           simp [Builtin.len_, ht, hx, hu', goInt]
          case slice e =>
           have hx' : ∃ A c, a.eval x = .slice A n c := by
            split at hn
            · rename_i he; cases hn; rw [he] at hx; obtain ⟨A, c, hv, _⟩ := hx; exact ⟨A, c, hv⟩
            · rename_i he; cases hn; rw [he] at hx; exact ⟨_, _, hx⟩
            · rename_i m he
              rw [he] at hx
              obtain ⟨G, hm, hv⟩ := hx
              split at hn <;> cases hn
              rename_i hlk
              have := (hob m _ G hlk hm).1
              exact ⟨_, _, by rw [hv, this]⟩
            · cases hn
           obtain ⟨A, c, hv⟩ := hx'
           simp [Builtin.len_, ht, hv, hu', goInt]
          case map k e =>
           split at hn
           · rename_i m he
             rw [he] at hx
             obtain ⟨G, b, hm, hb, hv⟩ := hx
             split at hn <;> cases hn
             all_goals
              rename_i ks hlk
              obtain ⟨b', es, cl, hb', hh, hk, _⟩ := hob m _ G hlk hm
              rw [hb] at hb'; cases hb'
              have hsz : es.size = ks.length := by have := congrArg List.length hk; simpa using this
              have hget : (getObj b).run P w = .ok (.map es cl) w := by unfold getObj Sem.run; simp only [hh]; rfl
              simp [Builtin.len_, ht, hv, hu', goInt, hget, hsz]
           · cases hn
       refine Does.val ?_ (show RV w ok g (.int .i64 n) (.int .i64 n) from rfl)
       simp [execOp, hop, hargs, resolve, invoke, builtin, key]
     · cases hp
   · cases hp
 · cases hp
theorem index_does {t : TypeId} {x i : Operand} {p : PO} (hop : o.op = .index t x i) (hx : RV w ok g (ev x) (a.eval x)) (hi : RV w ok g (ev i) (a.eval i)) (hp : pas P ev lk nm o.op = some p)
 (hpre : ∀ q, p.pre = some q → q) : Does P o a w ok g nm p := by
 rw [hop] at hp
 simp only [pas, fN_eq, fL_eq, fPl_eq] at hp
 split at hp
 · rename_i s k hu he hk
   cases hp
   rw [he] at hx; rw [hk] at hi
   simp only [RV] at hx hi
   obtain ⟨h0, h1⟩ := hpre _ rfl
   have hu' := run_underlying (w := w) hu
   have hlt : k.toNat < s.size := by omega
   have hb : s[k.toNat]? = some (s.data.toList.getD k.toNat 0) := by
    rw [List.getD, getElem?_pos s k.toNat hlt]
    have : k.toNat < s.data.toList.length := by simpa using hlt
    simp [List.getElem?_eq_getElem this]
    rfl
   refine Does.val (v := AV.sv _) ?_ (RV_sv rfl)
   simp [execOp, hop, hx, hi, Instr.index, asIntOf, hu', h0, hb, AV.sv]
 · rename_i n e cs k hu he hk
   split at hp
   · rename_i ht
     cases hz : Nat.beq cs.length n <;> simp [hz] at hp
     subst hp
     have hl := Nat.eq_of_beq_eq_true hz
     rw [he] at hx; rw [hk] at hi
     simp only [RV] at hi
     obtain ⟨vs, hv, hvs⟩ := hx
     obtain ⟨h0, h1⟩ := hpre _ rfl
     have hvl := hvs.length
     have hu' := run_underlying (w := w) hu
     obtain ⟨hs, _⟩ := tyI_spec (w := w) ht
     have hlt : k.toNat < cs.length := by omega
     obtain ⟨v, h2, h3⟩ := hvs.get k.toNat (cs.getD k.toNat .any) (by simp [List.getD, hlt])
     have hp := run_part_one (P := P) (w := w) ht h2
     refine Does.val (v := v) ?_ h3
     have hk' : k < (n : Int) := h1
     simp [execOp, hop, hv, hi, Instr.index, asIntOf, hu', h0, hk', hs, hp]
   · cases hp
 · cases hp
end
end Go.Vw

namespace Go.Vw
open Go
section
variable {P : Program} {o : Oper} {a : Act} {w : World} {ok : Nat → Prop} {g : Nat → Option Gh} {nm : Nat} {ev : Operand → AV} {lk : Nat → Option MO}
theorem run_sliceBounds_s {n c : Nat} {lo hi : Option Int} {l h : Nat} (hl : (match lo with | some x => x = (l : Int) | none => l = 0)) (hh : (match hi with | some x => x = (h : Int) | none => h = n)) (h1 : l ≤ h) (h2 : h ≤ c) :
 (Instr.sliceBounds true n c (lo.map (Value.int .i64)) (hi.map (Value.int .i64)) none).run P w = .ok (l, h, c) w := by
 cases lo <;> cases hi <;> simp only at hl hh <;> subst hl hh
 · simp [Instr.sliceBounds]
 · simp [Instr.sliceBounds, Instr.sliceBound, asIntOf, h2]
 · simp [Instr.sliceBounds, Instr.sliceBound, asIntOf, h1]
 · simp [Instr.sliceBounds, Instr.sliceBound, asIntOf, h1, h2]
theorem run_sliceBounds_t {n : Nat} {lo hi : Option Int} {l h : Nat} (hl : (match lo with | some x => x = (l : Int) | none => l = 0)) (hh : (match hi with | some x => x = (h : Int) | none => h = n)) (h1 : l ≤ h) (h2 : h ≤ n) :
 (Instr.sliceBounds false n n (lo.map (Value.int .i64)) (hi.map (Value.int .i64)) none).run P w = .ok (l, h, n) w := by
 cases lo <;> cases hi <;> simp only at hl hh <;> subst hl hh
 · simp [Instr.sliceBounds]
 · simp [Instr.sliceBounds, Instr.sliceBound, asIntOf, h2]
 · simp [Instr.sliceBounds, Instr.sliceBound, asIntOf, h1]
 · simp [Instr.sliceBounds, Instr.sliceBound, asIntOf, h1, h2]
theorem sub_sl {sz n : Nat} {rows : Nat → List AV} {A : Option Addr} {c l h : Nat} {m : Nat} (hn : n ≤ c) (hr : n = 0 ∨ ∃ b o', A = some ⟨b, o', none⟩ ∧ ok b ∧
 ∀ i, i < n → ∃ vs : List Value, vs.length = sz ∧ RVs w ok G0 (rows i) vs ∧ ∀ j, j < sz → w.cell? ⟨b, o' + (i * sz + j), none⟩ = vs[j]?) (h1 : l ≤ h) (h2 : h ≤ n) :
 RV w ok g (.sl sz (h - l) (fun i => rows (l + i))) (.slice (if c = l then A else A.map (·.add (l * sz))) (h - l) (c - l)) := by
 refine ⟨_, _, rfl, by omega, ?_⟩
 by_cases e : h - l = 0
 · exact .inl e
 refine .inr ?_
 rcases hr with hr | ⟨b, o', hA, hb, hr⟩
 · omega
 refine ⟨b, o' + l * sz, ?_, hb, fun i hi => ?_⟩
 · rw [if_neg (by omega), hA]; simp [add_off]
 · obtain ⟨vs, hl, hv, hc⟩ := hr (l + i) (by omega)
   refine ⟨vs, hl, hv, fun j hj => ?_⟩
   rw [← hc j hj, Nat.add_mul]
   congr 2; omega
theorem slice_frz {t : TypeId} {x : Operand} {lo hi : Option Operand} {p : PO} (hop : o.op = .slice t x lo hi none) (hev : ∀ x, RV w ok g (ev x) (a.eval x)) (hp : sliceAV P t (ev x) (lo.map ev) (hi.map ev) = some p)
 (hpre : ∀ q, p.pre = some q → q) : Does P o a w ok g nm p := by
 have hx := hev x
 have hlo : ∀ y n, lo = some y → ev y = .int .i64 n → a.eval y = .int .i64 n := fun y n _ h => by have := hev y; rw [h] at this; exact this
 have hhi : ∀ y n, hi = some y → ev y = .int .i64 n → a.eval y = .int .i64 n := fun y n _ h => by have := hev y; rw [h] at this; exact this
 unfold sliceAV at hp
 cases hu : P.underlying t with
 | none => simp [hu] at hp
 | some d =>
 have hu' := run_underlying (w := w) hu
 rw [hu] at hp
 cases d <;> simp only at hp <;> first | (cases hp; done) | skip
 case string =>
  split at hp
  · rename_i s he
    rw [he] at hx
    simp only [RV] at hx
    have key : ∀ (lo' hi' : Option Int) (l h : Nat), lo.map a.eval = lo'.map (Value.int .i64) → hi.map a.eval = hi'.map (Value.int .i64) →
     (match lo' with | some x => x = (l : Int) | none => l = 0) → (match hi' with | some x => x = (h : Int) | none => h = s.size) → l ≤ h → h ≤ s.size →
     (execOp a.eval o).run P w = .ok (.value (.string (s.extract l h))) w := by
     intro lo' hi' l h e1 e2 hl hh h1 h2
     have := run_sliceBounds_t (P := P) (w := w) hl hh h1 h2
     simp [execOp, hop, hx, Instr.sliceAt, hu', Instr.slice, e1, e2, this]
    split at hp <;> first | (cases hp; done) | skip
    · rename_i y1 y2 l h e1 e2
      cases lo <;> cases hi <;> simp at e1 e2
      cases hp
      obtain ⟨q1, q2, q3⟩ := hpre _ rfl
      exact Does.val (key (some l) (some h) l.toNat h.toNat (by simp [hlo _ _ rfl e1]) (by simp [hhi _ _ rfl e2]) (by simp; omega) (by simp; omega) (by omega) (by omega)) rfl
    · rename_i y1 y2 l e1 e2
      cases lo <;> cases hi <;> simp at e1 e2
      cases hp
      obtain ⟨q1, q2⟩ := hpre _ rfl
      exact Does.val (key (some l) none l.toNat s.size (by simp [hlo _ _ rfl e1]) rfl (by simp; omega) rfl (by omega) (by omega)) rfl
    · rename_i y1 y2 h e1 e2
      cases lo <;> cases hi <;> simp at e1 e2
      cases hp
      obtain ⟨q1, q2⟩ := hpre _ rfl
      exact Does.val (key none (some h) 0 h.toNat rfl (by simp [hhi _ _ rfl e2]) rfl (by simp; omega) (by omega) (by omega)) rfl
  · cases hp
 case slice e =>
  split at hp
  · rename_i sz n rows he
    rw [he] at hx
    obtain ⟨A, c, hv, hn, hr⟩ := hx
    cases hz : (Nat.beq (P.cellsOf e) sz && Nat.ble 1 sz) <;> simp [hz] at hp
    simp only [Bool.and_eq_true, Nat.ble_eq] at hz
    have hs := run_sizeOf_cellsOf (w := w) (Nat.eq_of_beq_eq_true hz.1) hz.2
    have key : ∀ (lo' hi' : Option Int) (l h : Nat), lo.map a.eval = lo'.map (Value.int .i64) → hi.map a.eval = hi'.map (Value.int .i64) →
     (match lo' with | some x => x = (l : Int) | none => l = 0) → (match hi' with | some x => x = (h : Int) | none => h = n) → l ≤ h → h ≤ n →
     (execOp a.eval o).run P w = .ok (.value (.slice (if c = l then A else A.map (·.add (l * sz))) (h - l) (c - l))) w := by
     intro lo' hi' l h e1 e2 hl hh h1 h2
     have := run_sliceBounds_s (P := P) (w := w) (c := c) hl hh h1 (by omega)
     simp [execOp, hop, hv, Instr.sliceAt, hu', Instr.slice, e1, e2, this, hs]
    split at hp <;> first | (cases hp; done) | skip
    · rename_i y1 y2 l h e1 e2
      cases lo <;> cases hi <;> simp at e1 e2
      cases hp
      obtain ⟨q1, q2, q3⟩ := hpre _ rfl
      exact Does.val (key (some l) (some h) l.toNat h.toNat (by simp [hlo _ _ rfl e1]) (by simp [hhi _ _ rfl e2]) (by simp; omega) (by simp; omega) (by omega) (by omega)) (sub_sl (m := 0) hn hr (by omega) (by omega))
    · rename_i y1 y2 l e1 e2
      cases lo <;> cases hi <;> simp at e1 e2
      cases hp
      obtain ⟨q1, q2⟩ := hpre _ rfl
      exact Does.val (key (some l) none l.toNat n (by simp [hlo _ _ rfl e1]) rfl (by simp; omega) rfl (by omega) (by omega)) (sub_sl (m := 0) hn hr (by omega) (by omega))
    · rename_i y1 y2 h e1 e2
      cases lo <;> cases hi <;> simp at e1 e2
      cases hp
      obtain ⟨q1, q2⟩ := hpre _ rfl
      exact Does.val (key none (some h) 0 h.toNat rfl (by simp [hhi _ _ rfl e2]) rfl (by simp; omega) (by omega) (by omega)) (by simpa using sub_sl (g := g) (m := 0) (l := 0) (h := h.toNat) hn hr (by omega) (by omega))
    · rename_i y1 y2 e1 e2
      cases lo <;> cases hi <;> simp at e1 e2
      cases hp
      exact Does.val (key none none 0 n rfl rfl rfl rfl (by omega) (by omega)) (by simpa using sub_sl (g := g) (m := 0) (l := 0) (h := n) hn hr (by omega) (by omega))
  · cases hp
theorem slice_own {t : TypeId} {x lo : Operand} {hi : Option Operand} {p : PO} {m : Nat} (hop : o.op = .slice t x (some lo) hi none) (hev : ∀ x, RV w ok g (ev x) (a.eval x)) (hx : ev x = .osl m) (hob : ∀ m mo G, lk m = some mo → g m = some G → MRel w ok g G mo)
 (hp : sliceOwn P t m (lk m) (ev lo) (hi.map ev) = some p) (hpre : ∀ q, p.pre = some q → q) : Does P o a w ok g nm p := by
 have hxv := hev x
 rw [hx] at hxv
 obtain ⟨G, hg, hv⟩ := hxv
 unfold sliceOwn at hp
 split at hp
 · rename_i e sz n l hu hz hl
   have hGn : G.n = n ∧ n ≤ G.c := by
    unfold szn at hz
    split at hz <;> cases hz
    · rename_i h
      obtain ⟨h1, h2⟩ := hob m _ G h hg
      exact ⟨h1, by rcases h2 with ⟨_, h3, _⟩ | ⟨_, _, _, _, h3, _⟩ <;> omega⟩
    · rename_i h
      obtain ⟨_, h1, h2⟩ := hob m _ G h hg
      exact ⟨h1, by rcases h2 with ⟨_, h3, _⟩ | ⟨_, _, _, _, h3, _⟩ <;> omega⟩
   cases hc : (Nat.beq (P.cellsOf e) sz && Nat.ble 1 sz) <;> simp only [hc, cond_true, cond_false] at hp
   · cases hp
   simp only [Bool.and_eq_true, Nat.ble_eq] at hc
   have hs := run_sizeOf_cellsOf (w := w) (Nat.eq_of_beq_eq_true hc.1) hc.2
   have hu' := run_underlying (w := w) hu
   have hlo : a.eval lo = .int .i64 l := by have := hev lo; rw [hl] at this; exact this
   have key : ∀ (hi' : Option Int) (h : Nat), hi.map a.eval = hi'.map (Value.int .i64) → (match hi' with | some x => x = (h : Int) | none => h = n) → 0 ≤ l → l.toNat ≤ h → h ≤ n → Does P o a w ok g nm ⟨none, .vw m sz l.toNat (h - l.toNat), none⟩ := by
    intro hi' h e2 hh h0 h1 h2
    have hb := run_sliceBounds_s (P := P) (w := w) (n := n) (c := G.c) (lo := some l) (hi := hi') (l := l.toNat) (h := h) (by simp; omega) hh h1 (by omega)
    have hb' : (Instr.sliceBounds true n G.c (some (Value.int .i64 l)) (hi'.map (Value.int .i64)) none).run P w = .ok (l.toNat, h, G.c) w := hb
    rw [hGn.1] at hv
    refine Does.val (v := .slice (if G.c = l.toNat then G.b.map (fun b => (⟨b, 0, none⟩ : Addr)) else (G.b.map fun b => (⟨b, 0, none⟩ : Addr)).map (·.add (l.toNat * sz))) (h - l.toNat) (G.c - l.toNat)) ?_ ⟨G, hg, by omega, _, rfl, fun h3 => ?_⟩
    · simp [execOp, hop, hv, hlo, Instr.sliceAt, hu', Instr.slice, e2, hb', hs]
    · rw [if_neg (by omega)]
      cases G.b <;> simp [add_off]
   have keyp : ∀ q, Does P o a w ok g nm ⟨none, p.r, p.mo⟩ → p = ⟨some q, p.r, p.mo⟩ → Does P o a w ok g nm p := fun q hd _ => hd
   split at hp
   · rename_i e2
     cases hp
     obtain ⟨q1, q2⟩ := hpre _ rfl
     exact key none n (by cases hi <;> simp at e2 ⊢) rfl q1 (by omega) (Nat.le_refl _)
   · rename_i h e2
     cases hp
     obtain ⟨q1, q2, q3⟩ := hpre _ rfl
     refine key (some h) h.toNat ?_ (by simp; omega) q1 (by omega) (by omega)
     cases hi with
     | none => simp at e2
     | some y =>
       simp at e2
       have := hev y
       rw [e2] at this
       have h' : a.eval y = .int .i64 h := this
       simp [h']
   · cases hp
 · cases hp
theorem slice_does {t : TypeId} {x : Operand} {lo hi : Option Operand} {p : PO} (hop : o.op = .slice t x lo hi none) (hev : ∀ x, RV w ok g (ev x) (a.eval x)) (hob : ∀ m mo G, lk m = some mo → g m = some G → MRel w ok g G mo) (hp : pas P ev lk nm o.op = some p)
 (hpre : ∀ q, p.pre = some q → q) : Does P o a w ok g nm p := by
 rw [hop] at hp
 simp only [pas, fN_eq, fL_eq, fPl_eq] at hp
 split at hp
 · rename_i m hx
   split at hp
   · exact slice_own hop hev hx hob hp hpre
   · cases hp
 · exact slice_frz hop hev hp hpre
end
end Go.Vw

