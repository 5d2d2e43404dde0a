/- Vw21: a part of a tool for walks: what a piece of a Go program does, by abstract values. It holds of every program; no condition. -/
import Derived.Test.YtopkjoalbinljaaDoorV20
import Derived.LoopN
set_option linter.unusedVariables false
set_option linter.unusedSimpArgs false
set_option linter.unusedSectionVars false
namespace Go.Vw
open Go

def roundsS (P : Program) [Tabs P] (nb : Nat) (b : Code) (Q : Exit → St → Prop) : Nat → St → Prop
  | 0, _ => False
  | n + 1, st => wpS P nb b st fun e st' => match e with | .normal => roundsS P nb b Q n st' | e => Q e st'

theorem roundsS_wp {P : Program} [Tabs P] {nb : Nat} {b : Code} {Q : Exit → St → Prop} {gb : Nat → Option Gh} {w0 : World} {gr ok0 : Nat → Prop} (hgb : (∀ m, nb ≤ m → gb m = none) ∧ JJ P w0 gr) :
    ∀ (n : Nat) (st : St) (g : Nat → Option Gh) (ok : Nat → Prop) (a : Act) (w : World), roundsS P nb b Q n st → Rep gb w0 gr ok0 st g ok a w →
      Code.rounds P b (fun e a' w' => ∃ st' g' ok', Rep gb w0 gr ok0 st' g' ok' a' w' ∧ Q e st') n a w
  | 0, _, _, _, _, _, h, _ => h
  | n + 1, st, g, ok, a, w, h, hr => by
    rw [rounds_succ]
    have h1 := wpS_SW b st _ h gb w0 gr ok0 g ok a w hgb hr
    refine Code.wp_mono (fun e a' w' ⟨st', g', ok', hr', hq⟩ => ?_) h1
    cases e with
    | normal => exact roundsS_wp hgb n st' g' ok' a' w' hq hr'
    | exit j => exact ⟨st', g', ok', hr', hq⟩
    | goto l => exact ⟨st', g', ok', hr', hq⟩
    | ret => exact ⟨st', g', ok', hr', hq⟩
    | panic ch => exact ⟨st', g', ok', hr', hq⟩
    | outgrown => exact ⟨st', g', ok', hr', hq⟩

/-- So many rounds, one after the other. -/
theorem LoopG.rounds {P : Program} [Tabs P] {nb : Nat} {b : Code} {st : St} {Q : Exit → St → Prop} (n : Nat) (h : roundsS P nb b Q n st) : LoopG P nb b st Q := by
  unfold LoopG
  exact fun gb w0 gr ok0 g ok a w hgb hr => wp_loop_rounds n (roundsS_wp hgb n st g ok a w h hr)
end Go.Vw
namespace Go.Vw
open Go
theorem inI64 {n : Int} (h1 : -9223372036854775808 ≤ n) (h2 : n ≤ 9223372036854775807) : inI .i64 n := ⟨h1, h2⟩
theorem Grd.T {c : Bool} {A B : Prop} (h : c = true) (a : A) : Grd c A B := by subst h; exact a
theorem Grd.F {c : Bool} {A B : Prop} (h : c = false) (b : B) : Grd c A B := by subst h; exact b
theorem Done.mk {P : Program} [Tabs P] {rs : List ResultVar} {r : AV} {e : Exit} {st : St} (h : Done P rs r e st) : Done P rs r e st := h
theorem VFn.weak {P : Program} [Tabs P] {F : FuncId} {as bs : List AV} {r q : AV} (h : VFn P F bs r) (ha : AVsle as bs) (hr : AVle r q) : VFn P F as q := by
  refine ⟨h.1, fun w ok vs hJ hok hv => ?_⟩
  refine (h.2 w ok vs hJ hok (ha w ok G0 vs hv)).mono ?_
  rintro e w' ⟨v, e1, e2, e3⟩
  exact ⟨v, e1, e2, hr w' _ G0 v e3⟩
theorem AVle.sl1 {sz : Nat} {r1 r2 : Nat → List AV} (h : r1 0 = r2 0) : AVle (.sl sz 1 r1) (.sl sz 1 r2) := AVle.sl rfl fun i hi => by
  have : i = 0 := by omega
  subst this; exact h
theorem all1 {r : Nat → List AV} (h : (r 0).all AV.one = true) : ∀ i, i < 1 → (r i).all AV.one = true := fun i hi => by
  have : i = 0 := by omega
  subst this; exact h
theorem blt_t {k i : Nat} (h : k < i) : Nat.blt k i = true := Nat.ble_eq_true_of_le h
theorem blt_f {k i : Nat} (h : i ≤ k) : Nat.blt k i = false := by
  cases hc : Nat.blt k i
  · rfl
  · have := Nat.le_of_ble_eq_true hc; omega
theorem beq_t (k : Nat) : Nat.beq k k = true := by simp
theorem beq_f {k i : Nat} (h : k ≠ i) : Nat.beq k i = false := by
  cases hc : Nat.beq k i
  · rfl
  · exact absurd (Nat.eq_of_beq_eq_true hc) h
/-- rows written one after the other -/
def wr (new old : Nat → List AV) (i k : Nat) : List AV := bif Nat.blt k i then new k else old k
theorem wr_lt {new old : Nat → List AV} {i k : Nat} (h : k < i) : wr new old i k = new k := by unfold wr; rw [blt_t h]; rfl
theorem wr_ge {new old : Nat → List AV} {i k : Nat} (h : i ≤ k) : wr new old i k = old k := by unfold wr; rw [blt_f h]; rfl
theorem wr_next {new old : Nat → List AV} {i k : Nat} {row : List AV} (h : k = i → row = new k) : (bif Nat.beq k i then row else wr new old i k) = wr new old (i + 1) k := by
  by_cases e : k = i
  · rw [h e]; subst e; rw [beq_t, wr_lt (Nat.lt_succ_self k)]; rfl
  · rw [beq_f e]
    rcases Nat.lt_or_ge k i with h' | h'
    · rw [wr_lt (show k < i + 1 by omega), cond_false, wr_lt h']
    · rw [wr_ge (show i + 1 ≤ k by omega), cond_false, wr_ge h']
end Go.Vw
