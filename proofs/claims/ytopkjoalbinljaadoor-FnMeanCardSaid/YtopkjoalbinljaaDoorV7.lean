/- Vw7: a part of a tool for walks: what a piece of a Go program does, by abstract values. It holds of every program; no condition. -/
import Derived.Test.YtopkjoalbinljaaDoorV6
set_option linter.unusedVariables false
set_option linter.unusedSimpArgs false
set_option linter.unusedSectionVars false
namespace Go.Vw
open Go
section
variable {P : Program} {o : Oper} {a : Act} {w : World} {ok : Nat → Prop} {g : Nat → Option Gh} {nm : Nat} {ev : Operand → AV} {lk : Nat → Option MO}

theorem typeAssert_does {x : Operand} {xt t : TypeId} {c : Bool} {p : PO} (hop : o.op = .typeAssert x xt t c) (hx : RV w ok g (ev x) (a.eval x)) (hp : pas P ev lk nm o.op = some p) : Does P o a w ok g nm p := by
  rw [hop] at hp
  simp only [pas, fN_eq, fL_eq, fPl_eq] at hp
  cases hc : P.concrete t <;> simp [hc] at hp
  have hu : ∃ d, P.underlying t = some d ∧ ∀ m, d ≠ .interface m := by
    unfold Program.concrete at hc
    cases hd : P.underlying t with
    | none => simp [hd] at hc
    | some d => exact ⟨d, rfl, fun m e => by subst e; simp [hd] at hc⟩
  obtain ⟨d, hu, hni⟩ := hu
  have hu' := run_underlying (w := w) hu
  split at hp
  · rename_i u v he
    rw [he] at hx
    obtain ⟨y, hv, hy⟩ := hx
    cases hb : Nat.beq u t
    · cases c <;> simp [hb] at hp
      split at hp <;> cases hp
      rename_i z hz
      have hne : ¬ u = t := fun e => by subst e; simp at hb
      refine Does.val (v := .tuple #[z, .bool false]) ?_ ⟨[z, .bool false], rfl, _, _, rfl, RV_ofVal w ok g z, _, _, rfl, rfl, rfl⟩
      cases hi : P.info? t with
      | none => simp [hi] at hz
      | some i =>
        simp [hi] at hz
        cases d <;> first | exact absurd rfl (hni _) | simp [execOp, hop, hv, Instr.typeAssert, hu', hne, zeroValue, typeInfo, hi, hz]
    · have e := Nat.eq_of_beq_eq_true hb
      cases c <;> simp [hb] at hp <;> subst hp
      · refine Does.val (v := y) ?_ hy
        cases d <;> first | exact absurd rfl (hni _) | simp [execOp, hop, hv, Instr.typeAssert, hu', e]
      · refine Does.val (v := .tuple #[y, .bool true]) ?_ ⟨[y, .bool true], rfl, _, _, rfl, hy, _, _, rfl, rfl, rfl⟩
        cases d <;> first | exact absurd rfl (hni _) | simp [execOp, hop, hv, Instr.typeAssert, hu', e]
  · cases hp

theorem len_does {args : Array Operand} {tys : Array TypeId} {p : PO} (hop : o.op = .call ⟨.builtin .len, args, tys⟩) (hev : ∀ x, RV w ok g (ev x) (a.eval x))
    (hob : ∀ m mo G, lk m = some mo → g m = some G → MRel w ok g G mo) (hp : pas P ev lk nm o.op = some p) : Does P o a w ok g nm p := by
  rw [hop] at hp
  simp only [pas, fN_eq, fL_eq, fPl_eq] at hp
  split at hp
  · rename_i x hl
    split at hp
    · rename_i t ht
      have hargs : args = #[x] := by apply Array.ext'; simpa using hl
      have hx := hev x
      split at hp
      · rename_i n hn
        cases hp
        have key : (Builtin.len_ tys o.type #[a.eval x]).run P w = .ok (.int .i64 n) w := by
          cases hd : P.underlying t with
          | none => rw [hd] at hn; simp [lenAV] at hn
          | some d =>
            have hu' := run_underlying (w := w) hd
            rw [hd] at hn
            cases d <;> simp only [lenAV] at hn <;> first | (cases hn; done) | skip
            case string =>
              split at hn <;> cases hn
              rename_i s he
              rw [he] at hx; simp only [RV] at hx
              simp [Builtin.len_, ht, hx, hu', goInt]
            case slice e =>
              have hx' : ∃ A c, a.eval x = .slice A n c := by
                split at hn
                · rename_i he; cases hn; rw [he] at hx; obtain ⟨A, c, hv, _⟩ := hx; exact ⟨A, c, hv⟩
                · rename_i he; cases hn; rw [he] at hx; exact ⟨_, _, hx⟩
                · rename_i m he
                  rw [he] at hx
                  obtain ⟨G, hm, hv⟩ := hx
                  split at hn <;> cases hn
                  rename_i hlk
                  have := (hob m _ G hlk hm).1
                  exact ⟨_, _, by rw [hv, this]⟩
                · cases hn
              obtain ⟨A, c, hv⟩ := hx'
              simp [Builtin.len_, ht, hv, hu', goInt]
            case map k e =>
              split at hn
              · rename_i m he
                rw [he] at hx
                obtain ⟨G, b, hm, hb, hv⟩ := hx
                split at hn <;> cases hn
                all_goals
                  rename_i ks hlk
                  obtain ⟨b', es, cl, hb', hh, hk, _⟩ := hob m _ G hlk hm
                  rw [hb] at hb'; cases hb'
                  have hsz : es.size = ks.length := by have := congrArg List.length hk; simpa using this
                  have hget : (getObj b).run P w = .ok (.map es cl) w := by unfold getObj Sem.run; simp only [hh]; rfl
                  simp [Builtin.len_, ht, hv, hu', goInt, hget, hsz]
              · cases hn
        refine Does.val ?_ (show RV w ok g (.int .i64 n) (.int .i64 n) from rfl)
        simp [execOp, hop, hargs, resolve, invoke, builtin, key]
      · cases hp
    · cases hp
  · cases hp

theorem index_does {t : TypeId} {x i : Operand} {p : PO} (hop : o.op = .index t x i) (hx : RV w ok g (ev x) (a.eval x)) (hi : RV w ok g (ev i) (a.eval i)) (hp : pas P ev lk nm o.op = some p)
    (hpre : ∀ q, p.pre = some q → q) : Does P o a w ok g nm p := by
  rw [hop] at hp
  simp only [pas, fN_eq, fL_eq, fPl_eq] at hp
  split at hp
  · rename_i s k hu he hk
    cases hp
    rw [he] at hx; rw [hk] at hi
    simp only [RV] at hx hi
    obtain ⟨h0, h1⟩ := hpre _ rfl
    have hu' := run_underlying (w := w) hu
    have hlt : k.toNat < s.size := by omega
    have hb : s[k.toNat]? = some (s.data.toList.getD k.toNat 0) := by
      rw [List.getD, getElem?_pos s k.toNat hlt]
      have : k.toNat < s.data.toList.length := by simpa using hlt
      simp [List.getElem?_eq_getElem this]
      rfl
    refine Does.val (v := AV.sv _) ?_ (RV_sv rfl)
    simp [execOp, hop, hx, hi, Instr.index, asIntOf, hu', h0, hb, AV.sv]
  · rename_i n e cs k hu he hk
    split at hp
    · rename_i ht
      cases hz : Nat.beq cs.length n <;> simp [hz] at hp
      subst hp
      have hl := Nat.eq_of_beq_eq_true hz
      rw [he] at hx; rw [hk] at hi
      simp only [RV] at hi
      obtain ⟨vs, hv, hvs⟩ := hx
      obtain ⟨h0, h1⟩ := hpre _ rfl
      have hvl := hvs.length
      have hu' := run_underlying (w := w) hu
      obtain ⟨hs, _⟩ := tyI_spec (w := w) ht
      have hlt : k.toNat < cs.length := by omega
      obtain ⟨v, h2, h3⟩ := hvs.get k.toNat (cs.getD k.toNat .any) (by simp [List.getD, hlt])
      have hp := run_part_one (P := P) (w := w) ht h2
      refine Does.val (v := v) ?_ h3
      have hk' : k < (n : Int) := h1
      simp [execOp, hop, hv, hi, Instr.index, asIntOf, hu', h0, hk', hs, hp]
    · cases hp
  · cases hp
end
end Go.Vw
