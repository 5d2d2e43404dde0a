/- Vw4: a part of a tool for walks: what a piece of a Go program does, by abstract values. It holds of every program; no condition. -/
import Derived.Test.YtopkjoalbinljaaDoorV3
set_option linter.unusedVariables false
set_option linter.unusedSimpArgs false
set_option linter.unusedSectionVars false
namespace Go.Vw
open Go

def gset (g : Nat → Option Gh) (m : Nat) (G : Gh) : Nat → Option Gh := fun k => if k = m then some G else g k

theorem gset_le {g : Nat → Option Gh} {m : Nat} {G : Gh} (h : g m = none) : ∀ k H, g k = some H → gset g m G k = some H := by
  intro k H hk
  unfold gset
  split
  · rename_i e; subst e; rw [h] at hk; cases hk
  · exact hk
theorem gset_same {g : Nat → Option Gh} {m : Nat} {G : Gh} : gset g m G m = some G := by simp [gset]

def Does (P : Program) (o : Oper) (a : Act) (w : World) (ok : Nat → Prop) (g : Nat → Option Gh) (nm : Nat) (p : PO) : Prop :=
  match p.mo with
  | none => ∃ v, (execOp a.eval o).run P w = .ok (.value v) w ∧ RV w ok g p.r v
  | some mo => ∃ v obj G, (execOp a.eval o).run P w = .ok (.value v) (w.alloc obj) ∧ G.b = some w.heap.size ∧ MRel (w.alloc obj) ok (gset g nm G) G mo ∧ RV (w.alloc obj) ok (gset g nm G) p.r v

def AV.sv : AV → Value
  | .int k n => .int k n
  | .bool b => .bool b
  | .str s => .string s
  | _ => Go.undef
def AV.sc : AV → Bool
  | .int _ _ | .bool _ | .str _ => true
  | _ => false
theorem RV_sv {w : World} {ok : Nat → Prop} {g : Nat → Option Gh} {r : AV} (h : r.sc = true) : RV w ok g r r.sv := by
  cases r <;> first | rfl | cases h

theorem Does.val {P : Program} {o : Oper} {a : Act} {w : World} {ok : Nat → Prop} {g : Nat → Option Gh} {nm : Nat} {r : AV} {pre : Option Prop} {v : Value}
    (h : (execOp a.eval o).run P w = .ok (.value v) w) (hv : RV w ok g r v) : Does P o a w ok g nm ⟨pre, r, none⟩ := ⟨v, h, hv⟩

section
variable {P : Program} {o : Oper} {a : Act} {w : World} {ok : Nat → Prop} {g : Nat → Option Gh} {nm : Nat} {ev : Operand → AV} {lk : Nat → Option MO}

theorem inI_wrap {k : IntKind} {n : Int} (h : inI k n) : k.wrap n = n := by
  unfold inI at h
  cases k <;> simp only [IntKind.min, IntKind.max, IntKind.signed, IntKind.bits, IntKind.wrap] at h ⊢ <;> simp at h ⊢ <;> first | omega | (split <;> omega)

theorem run_bin {op : BinOp} {t u : TypeId} {x y : Operand} {v v1 v2 : Value} (hop : o.op = .binOp op t x y u) (h1 : a.eval x = v1) (h2 : a.eval y = v2)
    (hg : (eqGuard op t x y v1 v2).run P w = .ok () w) (h : (binOp op t v1 v2).run P w = .ok v w) : (execOp a.eval o).run P w = .ok (.value v) w := by
  subst h1 h2
  simp [execOp, hop, hg, h]

theorem binAV_does {op : BinOp} {t u : TypeId} {x y : Operand} {p : PO} (hop : o.op = .binOp op t x y u) (hx : RV w ok g (ev x) (a.eval x)) (hy : RV w ok g (ev y) (a.eval y))
    (hp : binAV op (ev x) (ev y) = some p) (hpre : ∀ q, p.pre = some q → q) : Does P o a w ok g nm p := by
  revert hp hpre hx hy
  generalize hvx : a.eval x = vx
  generalize hvy : a.eval y = vy
  generalize ev x = ax
  generalize ev y = ay
  intro hx hy hp hpre
  unfold binAV at hp
  split at hp <;> first | (cases hp; done) | skip
  all_goals
    simp only [RV] at hx hy
    subst hx hy
    cases hp
    try (have hq := hpre _ rfl)
    refine Does.val (v := AV.sv _) (run_bin hop hvx hvy (by simp [eqGuard]) ?_) (RV_sv rfl)
    first
      | (simp [binOp, Op.intCmp, Op.intArith, Op.stringOp, AV.sv]; done)
      | (simp [binOp, Op.intArith, inI_wrap hq, AV.sv]; done)
      | (simp [binOp, Op.intDiv, hq, AV.sv]; done)
      | (simp [binOp, Op.intDiv, hq.1, inI_wrap hq.2, AV.sv]; done)
      | (simp only [binOp, Op.stringOp, AV.sv]; rw [if_neg (by omega)]; rfl)
      | (simp [binOp, Op.intCmp, AV.sv]; rfl)
end
end Go.Vw
