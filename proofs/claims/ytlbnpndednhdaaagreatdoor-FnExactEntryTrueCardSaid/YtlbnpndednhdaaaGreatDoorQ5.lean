/- Contracts of functions that the claim reaches, and the plain law of what they compute; each theorem bears its own conditions. -/
import Derived.Test.YtlbnpndednhdaaaGreatDoorQ4
import Derived.Test.YtlbnpndednhdaaaGreatDoorV49
import Derived.Test.YtlbnpndednhdaaaGreatDoorQ1
import Derived.WalkSmall
import Derived.Test.YtlbnpndednhdaaaGreatDoorQ2
set_option linter.unusedVariables false
set_option linter.constructorNameAsVariable false
set_option linter.unusedSimpArgs false
set_option maxRecDepth 20000
namespace Go.Proofs.YtlbnpndednhdaaaGreatDoor
open Go Go.Vw

structure Sta where
  seq : Int
  fence : Int
  es : List En
  ts : List Tb
  l0 : Int
  l1 : Int
  l2 : Int
  h0 : Int
  h1 : Int
  h2 : Int
  deriving Inhabited, DecidableEq
def Sta.row (s : Sta) : List AV := [.int .i64 s.seq, .int .i64 s.fence, ents s.es, tbs s.ts, .int .i64 s.l0, .int .i64 s.l1, .int .i64 s.l2, .int .i64 s.h0, .int .i64 s.h1, .int .i64 s.h2]
def Sta.av (s : Sta) : AV := .agg s.row
def ofT (L : List En) (k : Int) : List En := L.filter fun e => decide (e.tier = k)
theorem ofT_snoc {L : List En} {i : Nat} (h : i < L.length) (k : Int) : ofT (L.take (i + 1)) k = if (ix L i).tier = k then ofT (L.take i) k ++ [ix L i] else ofT (L.take i) k := by
  unfold ofT
  rw [take_snoc h, List.filter_append]
  by_cases hk : (ix L i).tier = k
  · rw [if_pos hk]; simp [hk]
  · rw [if_neg hk]; simp [hk]
/-- keys met, each once -/
def addK (ks : List (List UInt8)) (k : List UInt8) : List (List UInt8) := if k ∈ ks then ks else ks ++ [k]
def ddk (L : List (List UInt8)) : List (List UInt8) := L.foldl addK []
/-- entries one beside the other, from a moment on: where they end -/
def runs : List En → Int → Option Int
  | [], a => some a
  | e :: r, a => if e.f = a then runs r e.t else none
def atN (a : Int) (L : List En) : Nat → Int
  | 0 => a
  | i + 1 => (ix L i).t
def tierOK (L : List En) (lo hi : Int) (k : Int) : Bool := within lo 0 100000 && decide (runs (ofT L k) lo = some hi)
def tbOK (n : Int) (t : Tb) : Bool := kOk t.key && within t.seq 1 n
def Sta.keys (s : Sta) : List (List UInt8) := s.es.map (·.key) ++ s.ts.map (·.key)
def Sta.ok (s : Sta) : Bool :=
  within s.seq 0 999999 && (within s.fence 0 999999 && (decide (((s.es.length : Nat) : Int) + ((s.ts.length : Nat) : Int) ≤ 4096) && (s.es.all En.ok && (s.ts.all (tbOK s.seq) && (decide s.keys.Nodup &&
    (tierOK s.es s.l0 s.h0 0 && (tierOK s.es s.l1 s.h1 1 && tierOK s.es s.l2 s.h2 2)))))))
end Go.Proofs.YtlbnpndednhdaaaGreatDoor
set_option linter.unusedVariables false
set_option linter.constructorNameAsVariable false
set_option linter.unusedSimpArgs false
set_option maxRecDepth 20000
namespace Go.Proofs.YtlbnpndednhdaaaGreatDoor
open Go Go.Vw

def En.rc (e : En) : Rc := ⟨0, 0, e.tier, e.f, e.t, e.key⟩
/-- where a tier's entries end -/
def endE (L : List En) (lo : Int) (k : Int) : Int := match (ofT L k).getLast? with | some e => e.t | none => lo
theorem endE_snoc {L : List En} {i : Nat} (h : i < L.length) (lo k : Int) : endE (L.take (i + 1)) lo k = if (ix L i).tier = k then (ix L i).t else endE (L.take i) lo k := by
  unfold endE
  rw [ofT_snoc h]
  by_cases hk : (ix L i).tier = k
  · rw [if_pos hk, if_pos hk]; simp
  · rw [if_neg hk, if_neg hk]
def Sta.lo (s : Sta) (k : Int) : Int := if k = 0 then s.l0 else if k = 1 then s.l1 else s.l2
def Sta.hi (s : Sta) (k : Int) : Int := if k = 0 then s.h0 else if k = 1 then s.h1 else s.h2
def Sta.eOK (s : Sta) (i : Nat) : Bool := (ix s.es i).ok && (decide ((ix s.es i).f = endE (s.es.take i) (s.lo (ix s.es i).tier) (ix s.es i).tier) && !decide ((ix s.es i).key ∈ (s.es.take i).map (·.key)))
def Sta.tOK (s : Sta) (i : Nat) : Bool := tbOK s.seq (ix s.ts i) && !decide ((ix s.ts i).key ∈ s.es.map (·.key) ++ (s.ts.take i).map (·.key))
def Sta.ok' (s : Sta) : Bool :=
  within s.seq 0 999999 && (within s.fence 0 999999 && (decide (((s.es.length : Nat) : Int) + ((s.ts.length : Nat) : Int) ≤ 4096) && (allN s.es.length s.eOK && (allN s.ts.length s.tOK &&
    ((within s.l0 0 100000 && decide (s.h0 = endE s.es s.l0 0)) && ((within s.l1 0 100000 && decide (s.h1 = endE s.es s.l1 1)) && (within s.l2 0 100000 && decide (s.h2 = endE s.es s.l2 2))))))))
end Go.Proofs.YtlbnpndednhdaaaGreatDoor
set_option linter.unusedVariables false
set_option linter.constructorNameAsVariable false
set_option linter.unusedSimpArgs false
set_option maxRecDepth 20000
namespace Go.Proofs.YtlbnpndednhdaaaGreatDoor
open Go Go.Vw

theorem runs_snoc : ∀ (L : List En) (e : En) (a : Int), runs (L ++ [e]) a = (runs L a).bind fun b => if e.f = b then some e.t else none
  | [], e, a => by simp [runs]
  | x :: r, e, a => by
    rw [List.cons_append]; unfold runs
    by_cases h : x.f = a
    · rw [if_pos h, if_pos h]; exact runs_snoc r e x.t
    · rw [if_neg h, if_neg h]; rfl
theorem runs_end : ∀ (L : List En) (a b : Int), runs L a = some b → b = match L.getLast? with | some e => e.t | none => a
  | [], a, b, h => by cases h; rfl
  | x :: r, a, b, h => by
    unfold runs at h
    by_cases hx : x.f = a
    · rw [if_pos hx] at h
      have := runs_end r x.t b h
      cases r with
      | nil => exact this
      | cons y r => rw [this, List.getLast?_cons_cons]; cases hq : (y :: r).getLast? with
        | none => simp at hq
        | some z => rfl
    · rw [if_neg hx] at h; cases h
theorem runs_endE {L : List En} {k a b : Int} (h : runs (ofT L k) a = some b) : b = endE L a k := runs_end _ _ _ h
def sideBy (s : Sta) (m : Nat) : Prop := ∀ k, (k = 0 ∨ k = 1 ∨ k = 2) → runs (ofT (s.es.take m) k) (s.lo k) = some (endE (s.es.take m) (s.lo k) k)
theorem sideBy_iff (s : Sta) (ht : ∀ e ∈ s.es, e.tier = 0 ∨ e.tier = 1 ∨ e.tier = 2) : ∀ m, m ≤ s.es.length →
    ((∀ i, i < m → (ix s.es i).f = endE (s.es.take i) (s.lo (ix s.es i).tier) (ix s.es i).tier) ↔ sideBy s m)
  | 0, _ => ⟨fun _ k _ => rfl, fun _ i hi => absurd hi (Nat.not_lt_zero i)⟩
  | m + 1, hm => by
    have hin : m < s.es.length := hm
    have ih := sideBy_iff s ht m (by omega)
    have hs := fun k => ofT_snoc hin k
    have he := fun lo k => endE_snoc hin lo k
    have hte := ht _ (getD_mem hin)
    constructor
    · intro h k hk
      have h0 := ih.1 (fun i hi => h i (by omega)) k hk
      rw [hs, he]
      by_cases hkt : (ix s.es m).tier = k
      · rw [if_pos hkt, if_pos hkt, runs_snoc, h0]
        have := h m (by omega)
        rw [hkt] at this
        simp [this]
      · rw [if_neg hkt, if_neg hkt]; exact h0
    · intro h
      have hprev : sideBy s m := fun k hk => by
        have h1 := h k hk
        rw [hs] at h1
        by_cases hkt : (ix s.es m).tier = k
        · rw [if_pos hkt, runs_snoc] at h1
          cases hr : runs (ofT (s.es.take m) k) (s.lo k) with
          | none => rw [hr] at h1; cases h1
          | some b => rw [runs_endE hr]
        · rw [if_neg hkt] at h1
          rw [h1, runs_endE h1]
      intro i hi
      rcases Nat.lt_or_ge i m with h' | h'
      · exact ih.2 hprev i h'
      · have : i = m := by omega
        subst this
        have h1 := h _ hte
        rw [hs, if_pos rfl, runs_snoc, hprev _ hte] at h1
        simp only [Option.bind_some] at h1
        by_cases hf : (ix s.es i).f = endE (s.es.take i) (s.lo (ix s.es i).tier) (ix s.es i).tier
        · exact hf
        · rw [if_neg hf] at h1; cases h1
theorem allN_iff {n : Nat} {p : Nat → Bool} : allN n p = true ↔ ∀ i, i < n → p i = true := by
  unfold allN; rw [List.all_eq_true]; simp
end Go.Proofs.YtlbnpndednhdaaaGreatDoor
set_option linter.unusedVariables false
set_option linter.constructorNameAsVariable false
set_option linter.unusedSimpArgs false
set_option maxRecDepth 20000
namespace Go.Proofs.YtlbnpndednhdaaaGreatDoor
open Go Go.Vw

def Sta.tombAt (s : Sta) (k : List UInt8) : Int := fi (fun t : Tb => decide (t.key = k)) s.ts
def Sta.has (s : Sta) (k : List UInt8) : Bool := s.es.any (fun e => decide (e.key = k)) || decide (0 ≤ s.tombAt k)
end Go.Proofs.YtlbnpndednhdaaaGreatDoor
set_option linter.unusedVariables false
set_option linter.constructorNameAsVariable false
set_option linter.unusedSimpArgs false
set_option maxRecDepth 20000
namespace Go.Proofs.YtlbnpndednhdaaaGreatDoor
open Go Go.Vw

end Go.Proofs.YtlbnpndednhdaaaGreatDoor
set_option linter.unusedVariables false
set_option linter.constructorNameAsVariable false
set_option linter.unusedSimpArgs false
set_option maxRecDepth 20000
namespace Go.Proofs.YtlbnpndednhdaaaGreatDoor
open Go Go.Vw

def En.size (e : En) : Nat := e.key.length
def Tb.size (e : Tb) : Nat := e.key.length
theorem szEntry_fn (e : En) (n : Int) (h0 : 0 ≤ n) (h1 : n ≤ 1048576) (hk : En.size e ≤ 9223372036854775807) : VFn Tryz.prog 26 [e.av, .int .i64 n] (.int .i64 (szr (En.size e) n)) := by
  have hk' : e.key.length ≤ 9223372036854775807 := hk
  refine VFn.introC Tryz.call26 Tryz.func26 rfl rfl ?_
  refine And.intro (show inI .i64 (n - ((B e.key).size : Int)) by rw [B_size]; exact inI64 (by omega) (by omega)) ?_
  refine Grd.intro (fun h2 => ?_) (fun h2 => ?_)
  · have h2 : n - ((B e.key).size : Int) < 0 := of_decide_eq_true h2
    rw [B_size] at h2
    rw [szr_no (k := En.size e) (show ¬ ((e.key.length : Nat) : Int) ≤ n by omega)]
    exact And.intro trivial (AVle.refl _)
  · have h2 : ¬ n - ((B e.key).size : Int) < 0 := of_decide_eq_false h2
    rw [B_size] at h2
    rw [szr_yes (k := En.size e) (show ((e.key.length : Nat) : Int) ≤ n by omega)]
    exact And.intro trivial (AVle.of_eq (congrArg (AV.int .i64) (show n - ((B e.key).size : Int) = _ by rw [B_size]; rfl)))
theorem toEntry_fn (e : En) : VFn Tryz.prog 30 [e.av] e.av := by
  refine VFn.introC Tryz.call30 Tryz.func30 rfl rfl ?_
  exact And.intro trivial (AVle.refl _)
def Sta.size (s : Sta) : Nat := (s.es.length + sumL En.size s.es) + (s.ts.length + sumL Tb.size s.ts)
/-- what is read of a state -/
def Sta.read (s : Sta) : Prop := s.es.length ≤ 9223372036854775807 ∧ s.ts.length ≤ 9223372036854775807 ∧ (∀ e ∈ s.es, e.size ≤ 9223372036854775807) ∧ ∀ e ∈ s.ts, e.size ≤ 9223372036854775807
theorem Sta.small {s : Sta} (h : (s.size : Int) ≤ 1048576) : s.es.length ≤ 1048576 ∧ s.ts.length ≤ 1048576 ∧ (∀ e ∈ s.es, e.key.length ≤ 1048576) ∧ ∀ e ∈ s.ts, e.key.length ≤ 1048576 := by
  unfold Sta.size at h
  refine ⟨by omega, by omega, fun e he => ?_, fun e he => ?_⟩
  · have := sum_mem (f := En.size) he
    have e' : e.size = e.key.length := rfl
    omega
  · have := sum_mem (f := Tb.size) he
    have e' : e.size = e.key.length := rfl
    omega
end Go.Proofs.YtlbnpndednhdaaaGreatDoor
set_option linter.unusedVariables false
set_option linter.constructorNameAsVariable false
set_option linter.unusedSimpArgs false
set_option maxRecDepth 20000
namespace Go.Proofs.YtlbnpndednhdaaaGreatDoor
open Go Go.Vw

def wd (k : Int) : Int := if k = 0 then 1 else if k = 1 then 5 else 20
/-- the tier whose next window is due: 0, none -/
def dueT (h0 h1 h2 : Int) : Int := if h1 + 5 ≤ h0 then 1 else if h2 + 20 ≤ h1 then 2 else 0
def dueF (h0 h1 h2 : Int) : Int := if h1 + 5 ≤ h0 then h1 else if h2 + 20 ≤ h1 then h2 else 0
/-- how many windows are due -/
def dueN : Nat → Int → Int → Int → Int
  | 0, _, _, _ => 0
  | f + 1, h0, h1, h2 => if h1 + 5 ≤ h0 then 1 + dueN f h0 (h1 + 5) h2 else if h2 + 20 ≤ h1 then 1 + dueN f h0 h1 (h2 + 20) else 0
theorem dueN_b : ∀ f h0 h1 h2, 0 ≤ dueN f h0 h1 h2 ∧ dueN f h0 h1 h2 ≤ f
  | 0, _, _, _ => by simp [dueN]
  | f + 1, h0, h1, h2 => by
    have a := dueN_b f h0 (h1 + 5) h2
    have b := dueN_b f h0 h1 (h2 + 20)
    unfold dueN
    split
    · omega
    · split <;> omega
def Sta.h (s : Sta) (a b : Int) : Sta := { s with h1 := a, h2 := b }
def Sta.due (s : Sta) : Int := dueN 300000 s.h0 s.h1 s.h2
end Go.Proofs.YtlbnpndednhdaaaGreatDoor
set_option linter.unusedVariables false
set_option linter.constructorNameAsVariable false
set_option linter.unusedSimpArgs false
set_option maxRecDepth 20000
namespace Go.Proofs.YtlbnpndednhdaaaGreatDoor
open Go Go.Vw

def headIs (L : List En) (e : En) : Bool := match L with | x :: _ => decide (x = e) | [] => false
def Sta.takes (s : Sta) (r : Rc) : Bool :=
  if r.k = 1 then decide (r.f = s.h0) && (decide (kN r.key = s.seq + 1) && !s.has r.key)
  else if r.k = 2 then decide (s.fence < r.tok)
  else if r.k = 3 then decide (r.tok = s.fence) && (decide (r.f = s.hi r.tier) && (decide (kN r.key = r.f) && (decide (kW r.key = r.tok) && (decide (r.t = r.f + wd r.tier) && (decide (r.t ≤ s.hi (r.tier - 1)) && (decide (s.lo (r.tier - 1) ≤ r.f) && !s.has r.key))))))
  else if r.k = 4 then decide (r.tok = s.fence) && (headIs (ofT s.es r.tier) r.en && (decide (r.tier = 2) || decide (r.t ≤ s.hi (r.tier + 1))))
  else decide (0 ≤ s.tombAt r.key)
end Go.Proofs.YtlbnpndednhdaaaGreatDoor
set_option linter.unusedVariables false
set_option linter.constructorNameAsVariable false
set_option linter.unusedSimpArgs false
set_option maxRecDepth 20000
namespace Go.Proofs.YtlbnpndednhdaaaGreatDoor
open Go Go.Vw

def readP : List (List UInt8) → Option Rc
  | [a, b] => (match numsK 44 5 a with
    | some [k, tok, tier, f, e] => if Rc.ok ⟨k, tok, tier, f, e, b⟩ = true then some ⟨k, tok, tier, f, e, b⟩ else none
    | _ => none)
  | _ => none
def readR (t : List UInt8) : Option Rc := readP (cutP 32 [] t)
theorem readR_ok {t : List UInt8} {r : Rc} (h : readR t = some r) : r.ok = true := by
  unfold readR readP at h
  split at h
  · split at h
    · split at h
      · cases h; assumption
      · cases h
    · cases h
  · cases h
def Sta.tick (s : Sta) : Sta := { s with seq := s.seq + 1 }
def Sta.lift (s : Sta) (k v : Int) : Sta := if k = 0 then { s with h0 := v } else if k = 1 then { s with h1 := v } else { s with h2 := v }
def Sta.lower (s : Sta) (k v : Int) : Sta := if k = 0 then { s with l0 := v } else if k = 1 then { s with l1 := v } else { s with l2 := v }
def noE (k : List UInt8) (L : List En) : List En := L.filter fun e => !decide (e.key = k)
def noT (k : List UInt8) (L : List Tb) : List Tb := L.filter fun e => !decide (e.key = k)
def Sta.app (s : Sta) (r : Rc) : Sta :=
  if s.takes r = true then
    if r.k = 1 ∨ r.k = 3 then ({ s.tick with es := s.es ++ [r.en] } : Sta).lift r.tier r.t
    else if r.k = 2 then { s.tick with fence := r.tok }
    else if r.k = 4 then ({ s.tick with es := noE r.key s.es, ts := s.ts ++ [⟨s.seq + 1, r.key⟩] } : Sta).lower r.tier r.t
    else { s.tick with ts := noT r.key s.ts }
  else s.tick
theorem lift_es (s : Sta) (k v : Int) : (s.lift k v).es = s.es ∧ (s.lift k v).ts = s.ts ∧ (s.lift k v).seq = s.seq ∧ (s.lift k v).fence = s.fence := by
  unfold Sta.lift; split
  · exact ⟨rfl, rfl, rfl, rfl⟩
  · split <;> exact ⟨rfl, rfl, rfl, rfl⟩
theorem lower_es (s : Sta) (k v : Int) : (s.lower k v).es = s.es ∧ (s.lower k v).ts = s.ts ∧ (s.lower k v).seq = s.seq ∧ (s.lower k v).fence = s.fence := by
  unfold Sta.lower; split
  · exact ⟨rfl, rfl, rfl, rfl⟩
  · split <;> exact ⟨rfl, rfl, rfl, rfl⟩
theorem app_seq (s : Sta) (r : Rc) : (s.app r).seq = s.seq + 1 := by
  unfold Sta.app
  split
  · split
    · rw [(lift_es _ _ _).2.2.1]; rfl
    · split
      · rfl
      · split
        · rw [(lower_es _ _ _).2.2.1]; rfl
        · rfl
  · rfl
theorem noE_len (k : List UInt8) (L : List En) : (noE k L).length ≤ L.length := List.length_filter_le _ _
theorem noT_len (k : List UInt8) (L : List Tb) : (noT k L).length ≤ L.length := List.length_filter_le _ _
theorem has_iff (s : Sta) (k : List UInt8) : s.has k = true ↔ k ∈ s.keys := by
  unfold Sta.has Sta.tombAt Sta.keys
  rw [fi_any]
  simp only [Bool.or_eq_true, List.any_eq_true, decide_eq_true_eq, List.mem_append, List.mem_map]
/-- the first of a tier is an entry -/
theorem headIs_mem {L : List En} {k : Int} {e : En} (h : headIs (ofT L k) e = true) : e ∈ L := by
  unfold headIs at h
  cases hl : ofT L k with
  | nil => rw [hl] at h; cases h
  | cons x r =>
    rw [hl] at h
    have hx : x = e := of_decide_eq_true h
    have : x ∈ ofT L k := by rw [hl]; simp
    rw [← hx]
    exact (List.mem_filter.1 this).1
theorem takes_k {s : Sta} {r : Rc} (h : s.takes r = true) (hk : r.k = 1 ∨ r.k = 3) : s.has r.key = false := by
  unfold Sta.takes at h
  rcases hk with hk | hk
  · rw [if_pos hk] at h
    simp only [Bool.and_eq_true, Bool.not_eq_true'] at h
    exact h.2.2
  · rw [if_neg (by omega), if_neg (by omega), if_pos hk] at h
    simp only [Bool.and_eq_true, Bool.not_eq_true'] at h
    exact h.2.2.2.2.2.2.2
theorem takes_4 {s : Sta} {r : Rc} (h : s.takes r = true) (hk : r.k = 4) : headIs (ofT s.es r.tier) r.en = true := by
  unfold Sta.takes at h
  rw [if_neg (by omega), if_neg (by omega), if_neg (by omega), if_pos hk] at h
  simp only [Bool.and_eq_true] at h
  exact h.2.1
theorem appL_len (s : Sta) (r : Rc) : (s.app r).es.length + (s.app r).ts.length ≤ s.es.length + s.ts.length + 1 := by
  unfold Sta.app
  split
  · rename_i ht
    split
    · rw [(lift_es _ _ _).1, (lift_es _ _ _).2.1]
      show (s.es ++ [r.en]).length + s.ts.length ≤ _
      rw [List.length_append]; simp only [List.length_cons, List.length_nil]; omega
    · split
      · show s.es.length + s.ts.length ≤ _; omega
      · split
        · rw [(lower_es _ _ _).1, (lower_es _ _ _).2.1]
          show (noE r.key s.es).length + (s.ts ++ [(⟨s.seq + 1, r.key⟩ : Tb)]).length ≤ _
          have := noE_len r.key s.es
          rw [List.length_append]; simp only [List.length_cons, List.length_nil]; omega
        · show s.es.length + (noT r.key s.ts).length ≤ _
          have := noT_len r.key s.ts; omega
  · show s.es.length + s.ts.length ≤ _; omega
/-- what a log makes has each key once, and each is one of data -/
structure LogS (s : Sta) : Prop where
  nd : s.keys.Nodup
  kk : ∀ k ∈ s.keys, kOk k = true
theorem LogS.of {q : Sta} {K : List (List UInt8)} (e : q.keys = K) (h : K.Nodup ∧ ∀ k ∈ K, kOk k = true) : LogS q := ⟨e ▸ h.1, fun k hk => h.2 k (e ▸ hk)⟩
theorem nodup_snoc {α : Type} {L : List α} {a : α} (h : L.Nodup) (ha : a ∉ L) : (L ++ [a]).Nodup :=
  List.nodup_append.2 ⟨h, by simp, fun x hx y hy e => by
    have : y = a := by simpa using hy
    subst this; subst e; exact ha hx⟩
theorem noE_keys (k : List UInt8) (L : List En) : (noE k L).map (·.key) = (L.map (·.key)).filter fun x => !decide (x = k) := by
  unfold noE; rw [List.filter_map]; rfl
theorem noT_keys (k : List UInt8) (L : List Tb) : (noT k L).map (·.key) = (L.map (·.key)).filter fun x => !decide (x = k) := by
  unfold noT; rw [List.filter_map]; rfl
theorem app_log {s : Sta} {r : Rc} (h : LogS s) (hr : r.ok = true) : LogS (s.app r) := by
  obtain ⟨nd, kk⟩ := h
  have nd' := nd
  unfold Sta.keys at nd'
  have nda := List.nodup_append.1 nd'
  unfold Sta.app
  split
  · rename_i ht
    split
    · rename_i hk
      have hno := takes_k ht hk
      have hnk : r.key ∉ s.keys := fun h => by rw [(has_iff s r.key).2 h] at hno; cases hno
      have hok : kOk r.key = true := by
        unfold Rc.ok at hr
        rcases hk with hk | hk
        · rw [if_pos hk] at hr; simp [Rc.en, En.ok] at hr; exact hr.2.2.1
        · rw [if_neg (by omega), if_neg (by omega), if_pos hk] at hr; simp [Rc.en, En.ok] at hr; exact hr.2.2.1
      have e : ∀ q : Sta, q.es = s.es ++ [r.en] → q.ts = s.ts → q.keys = (s.es.map (·.key) ++ [r.key]) ++ s.ts.map (·.key) := fun q h1 h2 => by unfold Sta.keys; rw [h1, h2, List.map_append]; rfl
      refine LogS.of (e _ (lift_es _ _ _).1 (lift_es _ _ _).2.1) ?_
      have hm : r.key ∉ s.es.map (·.key) ∧ r.key ∉ s.ts.map (·.key) := ⟨fun h => hnk (List.mem_append.2 (.inl h)), fun h => hnk (List.mem_append.2 (.inr h))⟩
      refine ⟨List.nodup_append.2 ⟨nodup_snoc nda.1 hm.1, nda.2.1, fun x hx y hy => ?_⟩, fun k hk' => ?_⟩
      · rcases List.mem_append.1 hx with hx | hx
        · exact nda.2.2 x hx y hy
        · have : x = r.key := by simpa using hx
          subst this
          exact fun e => hm.2 (e ▸ hy)
      · rcases List.mem_append.1 hk' with hk' | hk'
        · rcases List.mem_append.1 hk' with hk' | hk'
          · exact kk k (List.mem_append.2 (.inl hk'))
          · have : k = r.key := by simpa using hk'
            rw [this]; exact hok
        · exact kk k (List.mem_append.2 (.inr hk'))
    · split
      · exact ⟨nd, kk⟩
      · split
        · rename_i hk1 hk2 hk4
          have hm := headIs_mem (takes_4 ht hk4)
          have hke : r.key ∈ s.es.map (·.key) := List.mem_map.2 ⟨_, hm, rfl⟩
          have hkt : r.key ∉ s.ts.map (·.key) := fun h => nda.2.2 _ hke _ h rfl
          have e : ∀ q : Sta, q.es = noE r.key s.es → q.ts = s.ts ++ [⟨s.seq + 1, r.key⟩] → q.keys = (s.es.map (·.key)).filter (fun x => !decide (x = r.key)) ++ (s.ts.map (·.key) ++ [r.key]) := fun q h1 h2 => by unfold Sta.keys; rw [h1, h2, List.map_append, noE_keys]; rfl
          refine LogS.of (e _ (lower_es _ _ _).1 (lower_es _ _ _).2.1) ?_
          refine ⟨List.nodup_append.2 ⟨nda.1.filter _, nodup_snoc nda.2.1 hkt, fun x hx y hy => ?_⟩, fun k hk' => ?_⟩
          · have hx' := List.mem_filter.1 hx
            rcases List.mem_append.1 hy with hy | hy
            · exact nda.2.2 x hx'.1 y hy
            · have : y = r.key := by simpa using hy
              subst this
              intro e; rw [e] at hx'; simp at hx'
          · rcases List.mem_append.1 hk' with hk' | hk'
            · exact kk k (List.mem_append.2 (.inl (List.mem_filter.1 hk').1))
            · rcases List.mem_append.1 hk' with hk' | hk'
              · exact kk k (List.mem_append.2 (.inr hk'))
              · have : k = r.key := by simpa using hk'
                rw [this]; exact kk _ (List.mem_append.2 (.inl hke))
        · have e : ∀ q : Sta, q.es = s.es → q.ts = noT r.key s.ts → q.keys = s.es.map (·.key) ++ (s.ts.map (·.key)).filter (fun x => !decide (x = r.key)) := fun q h1 h2 => by unfold Sta.keys; rw [h1, h2, noT_keys]
          refine LogS.of (e _ rfl rfl) ?_
          refine ⟨List.nodup_append.2 ⟨nda.1, nda.2.1.filter _, fun x hx y hy => nda.2.2 x hx y (List.mem_filter.1 hy).1⟩, fun k hk' => ?_⟩
          rcases List.mem_append.1 hk' with hk' | hk'
          · exact kk k (List.mem_append.2 (.inl hk'))
          · exact kk k (List.mem_append.2 (.inr (List.mem_filter.1 hk').1))
  · exact ⟨nd, kk⟩
/-- so many different ones in a list, so long it is -/
theorem nodup_le {α : Type} [DecidableEq α] : ∀ (L M : List α), L.Nodup → (∀ x ∈ L, x ∈ M) → L.length ≤ M.length
  | [], _, _, _ => Nat.zero_le _
  | a :: l, M, h, hm => by
    have h' := List.nodup_cons.1 h
    have ha := hm a (by simp)
    have := nodup_le l (M.erase a) h'.2 fun x hx => (List.mem_erase_of_ne (fun e => h'.1 (by rw [← e]; exact hx))).2 (hm x (by simp [hx]))
    rw [List.length_erase_of_mem ha] at this
    have hp : 0 < M.length := List.length_pos_of_mem ha
    simp only [List.length_cons]; omega
def sta0 : Sta := ⟨0, 0, [], [], 0, 0, 0, 0, 0, 0⟩
def recAt (x : Sto) (n : Int) : Option Rc := readR (x.get (manK n)).data
def stepL (x : Sto) (s : Sta) : Sta := match recAt x (s.seq + 1) with | none => s.tick | some r => s.app r
def logN (x : Sto) : Nat → Sta
  | 0 => sta0
  | n + 1 => stepL x (logN x n)
theorem logN_seq (x : Sto) : ∀ n, (logN x n).seq = (n : Int)
  | 0 => rfl
  | n + 1 => by
    have ih := logN_seq x n
    show (stepL x (logN x n)).seq = _
    unfold stepL
    split
    · show (logN x n).seq + 1 = _; rw [ih]; simp
    · rw [app_seq, ih]; simp
theorem logN_len (x : Sto) : ∀ n, (logN x n).es.length + (logN x n).ts.length ≤ n
  | 0 => Nat.le_refl _
  | n + 1 => by
    have ih := logN_len x n
    show (stepL x (logN x n)).es.length + (stepL x (logN x n)).ts.length ≤ _
    unfold stepL
    split
    · show (logN x n).es.length + (logN x n).ts.length ≤ _; omega
    · rename_i r _
      have := appL_len (logN x n) r; omega
theorem logN_log (x : Sto) : ∀ n, LogS (logN x n)
  | 0 => ⟨by simp [logN, sta0, Sta.keys], fun k hk => by simp [logN, sta0, Sta.keys] at hk⟩
  | n + 1 => by
    have ih := logN_log x n
    show LogS (stepL x (logN x n))
    unfold stepL
    split
    · exact ⟨ih.1, ih.2⟩
    · rename_i r hr
      exact app_log ih (readR_ok hr)
def firstNo (p : Nat → Bool) : Nat → Nat → Nat
  | 0, n => n
  | f + 1, n => if p n = true then firstNo p f (n + 1) else n
theorem firstNo_at {p : Nat → Bool} {i : Nat} (h0 : p i = false) : ∀ f n, n ≤ i → i ≤ n + f → (∀ j, n ≤ j → j < i → p j = true) → firstNo p f n = i
  | 0, n, h1, h2, _ => by show n = i; omega
  | f + 1, n, h1, h2, h => by
    unfold firstNo
    rcases Nat.lt_or_ge n i with h3 | h3
    · rw [if_pos (h n (Nat.le_refl _) h3)]
      exact firstNo_at h0 f (n + 1) h3 (by omega) fun j hj => h j (by omega)
    · have : n = i := by omega
      subst this
      rw [if_neg (by rw [h0]; simp)]
def logEnd (x : Sto) : Nat := firstNo (fun j => x.has (manK ((j + 1 : Nat) : Int))) 400 0
def logS (x : Sto) : Sta := logN x (logEnd x)
theorem firstNo_le (p : Nat → Bool) : ∀ f n, firstNo p f n ≤ n + f
  | 0, n => Nat.le_refl _
  | f + 1, n => by
    unfold firstNo
    split
    · have := firstNo_le p f (n + 1); omega
    · omega
end Go.Proofs.YtlbnpndednhdaaaGreatDoor
set_option linter.unusedVariables false
set_option linter.constructorNameAsVariable false
set_option linter.unusedSimpArgs false
set_option maxRecDepth 20000
namespace Go.Proofs.YtlbnpndednhdaaaGreatDoor
open Go Go.Vw

theorem nums5 {t : List UInt8} {N : List Int} (h : numsK 44 5 t = some N) : ∃ a b c d e, N = [a, b, c, d, e] := by
  unfold numsK at h
  split at h
  · rename_i h1
    cases h
    have hl : ((cutP 44 [] t).map atoiV).length = 5 := by rw [List.length_map]; exact h1.1
    generalize (cutP 44 [] t).map atoiV = L at hl
    match L, hl with
    | [a, b, c, d, e], _ => exact ⟨a, b, c, d, e, rfl⟩
  · cases h
end Go.Proofs.YtlbnpndednhdaaaGreatDoor
set_option linter.unusedVariables false
set_option linter.constructorNameAsVariable false
set_option linter.unusedSimpArgs false
set_option maxRecDepth 20000
namespace Go.Proofs.YtlbnpndednhdaaaGreatDoor
open Go Go.Vw

theorem Cut_fn (s : List UInt8) (c : UInt8) (hl : s.length ≤ 1000000000) : VFn Tryz.prog 260 [.str (B s), .str (B [c])] (.tup [.str (B (Lib.cut s [c]).1), .str (B (Lib.cut s [c]).2.1), .bool (Lib.cut s [c]).2.2]) := by
  refine VFn.lib Tryz.call260 fun w ok vs hJ hok hv => ?_
  obtain ⟨v, us, rfl, hv, v2, us2, rfl, hv2, hus⟩ := hv
  have e1 : v = .string (B s) := hv
  have e2 : v2 = .string (B [c]) := hv2
  have e3 : us2 = [] := hus
  subst e1 e2 e3
  obtain ⟨mv, hmv⟩ := tab_maxlen hJ
  refine (Tryz.strings_Cut (B s) (B [c]) mv w (by rw [B_size]; omega) hmv).mono ?_
  rintro e w' ⟨rfl, n, rfl⟩
  refine ⟨_, rfl, ⟨rfl, rfl, rfl, Nat.le_refl _, fun _ _ => rfl⟩, fun _ _ => ⟨[_, _, _], rfl, _, _, rfl, ?_, _, _, rfl, ?_, _, _, rfl, ?_, rfl⟩⟩
  · show Value.string _ = _
    rw [B_data, B_data]; rfl
  · show Value.string _ = _
    rw [B_data, B_data]; rfl
  · show Value.bool _ = _
    rw [B_data, B_data]
theorem cut_none {s : List UInt8} {c : UInt8} (h : ∀ x ∈ s, x ≠ c) : Lib.cut s [c] = (s, [], false) := by
  unfold Lib.cut; rw [index_none c s h]; rfl
theorem cut_at {a b : List UInt8} {c : UInt8} (h : ∀ x ∈ a, x ≠ c) : Lib.cut (a ++ c :: b) [c] = (a, b, true) := by
  unfold Lib.cut; rw [index_at c a b h]
  rw [if_pos (by omega)]
  simp
theorem l06Read_gen (t : List UInt8) (hl : t.length ≤ 1000000) (R : AV) (hy : ∀ r, readR t = some r → R = .tup [r.av, .bool true]) (hn : readR t = none → R = .tup [(default : Rc).av, .bool false]) : VFn Tryz.prog 264 [.str (B t)] R := by
  have cc := l00Cut_fn t 32 (by omega)
  have hpl : ∀ x ∈ cutP 32 [] t, x.length ≤ t.length := fun x hx => by have := cutP_piece 32 t [] x hx; simpa using this
  have hR : readR t = readP (cutP 32 [] t) := rfl
  generalize cutP 32 [] t = P at cc hpl hR
  by_cases h2 : P.length = 2
  case neg =>
    have hr : readR t = none := by
      match P, h2 with
      | [], _ => exact hR
      | [_], _ => exact hR
      | [_, _], h => exact absurd rfl h
      | _ :: _ :: _ :: _, _ => exact hR
    rw [hn hr]
    refine VFn.introC Tryz.call264 Tryz.func264 rfl rfl ?_
    conv => whnf
    refine CallC.nl _ (cc) ?_ ?_
    · exact rfl
    refine Grd.intro (fun g => ?_) (fun g => absurd (show ((P.length : Nat) : Int) = 2 by simpa using g) (by omega))
    exact And.intro trivial (AVle.refl _)
  case pos =>
    obtain ⟨a, b, rfl⟩ : ∃ a b, P = [a, b] := by
      match P, h2 with
      | [a, b], _ => exact ⟨a, b, rfl⟩
    have hR : readR t = (match numsK 44 5 a with
      | some [k, tok, tier, f, e] => if Rc.ok ⟨k, tok, tier, f, e, b⟩ = true then some ⟨k, tok, tier, f, e, b⟩ else none
      | _ => none) := hR
    have hal := hpl a (by simp)
    have hbl := hpl b (by simp)
    cases hN : numsK 44 5 a with
    | none =>
      rw [hN] at hR
      rw [hn hR]
      refine VFn.introC Tryz.call264 Tryz.func264 rfl rfl ?_
      conv => whnf
      refine CallC.nl _ (cc) ?_ ?_
      · exact rfl
      refine And.intro ⟨by decide, show (0 : Int) < 2 by decide⟩ ?_
      conv => whnf
      refine CallC.nl _ (l02Numbers_gen a 44 5 (by omega) _ (fun N h => by rw [hN] at h; cases h) (fun h => rfl)) ?_ ?_
      · exact rfl
      exact And.intro trivial (AVle.refl _)
    | some N =>
      obtain ⟨k, tok, tier, f, e, rfl⟩ := nums5 hN
      rw [hN] at hR
      have hR : readR t = if Rc.ok ⟨k, tok, tier, f, e, b⟩ = true then some ⟨k, tok, tier, f, e, b⟩ else none := hR
      have ct := specRecordOK_fn ⟨k, tok, tier, f, e, b⟩ (by show b.length ≤ _; omega)
      by_cases hok : Rc.ok ⟨k, tok, tier, f, e, b⟩ = true
      · rw [if_pos hok] at hR
        rw [hy _ hR]
        rw [hok] at ct
        refine VFn.introC Tryz.call264 Tryz.func264 rfl rfl ?_
        conv => whnf
        refine CallC.nl _ (cc) ?_ ?_
        · exact rfl
        refine And.intro ⟨by decide, show (0 : Int) < 2 by decide⟩ ?_
        conv => whnf
        refine CallC.nl _ (l02Numbers_gen a 44 5 (by omega) _ (fun N h => by rw [hN] at h; cases h; rfl) (fun h => by rw [hN] at h; cases h)) ?_ ?_
        · exact rfl
        refine DrawC.mkK 21 [(.inr 19, 20)] rfl (by kernel_rfl) ?_
        refine And.intro rfl ?_
        refine And.intro ⟨by decide, show (0 : Int) < 5 by decide⟩ ?_
        refine And.intro ⟨by decide, show (1 : Int) < 5 by decide⟩ ?_
        refine And.intro ⟨by decide, show (2 : Int) < 5 by decide⟩ ?_
        refine And.intro ⟨by decide, show (3 : Int) < 5 by decide⟩ ?_
        refine And.intro ⟨by decide, show (4 : Int) < 5 by decide⟩ ?_
        refine And.intro ⟨by decide, show (1 : Int) < 2 by decide⟩ ?_
        conv => whnf
        refine CallC.sca _ (ct) ?_ ?_
        · exact rfl
        exact And.intro trivial (AVle.refl _)
      · have hok : Rc.ok ⟨k, tok, tier, f, e, b⟩ = false := by simpa using hok
        rw [if_neg (by rw [hok]; simp)] at hR
        rw [hn hR]
        rw [hok] at ct
        refine VFn.introC Tryz.call264 Tryz.func264 rfl rfl ?_
        conv => whnf
        refine CallC.nl _ (cc) ?_ ?_
        · exact rfl
        refine And.intro ⟨by decide, show (0 : Int) < 2 by decide⟩ ?_
        conv => whnf
        refine CallC.nl _ (l02Numbers_gen a 44 5 (by omega) _ (fun N h => by rw [hN] at h; cases h; rfl) (fun h => by rw [hN] at h; cases h)) ?_ ?_
        · exact rfl
        refine DrawC.mkK 21 [(.inr 19, 20)] rfl (by kernel_rfl) ?_
        refine And.intro rfl ?_
        refine And.intro ⟨by decide, show (0 : Int) < 5 by decide⟩ ?_
        refine And.intro ⟨by decide, show (1 : Int) < 5 by decide⟩ ?_
        refine And.intro ⟨by decide, show (2 : Int) < 5 by decide⟩ ?_
        refine And.intro ⟨by decide, show (3 : Int) < 5 by decide⟩ ?_
        refine And.intro ⟨by decide, show (4 : Int) < 5 by decide⟩ ?_
        refine And.intro ⟨by decide, show (1 : Int) < 2 by decide⟩ ?_
        conv => whnf
        refine CallC.sca _ (ct) ?_ ?_
        · exact rfl
        exact And.intro trivial (AVle.refl _)
end Go.Proofs.YtlbnpndednhdaaaGreatDoor
set_option linter.unusedVariables false
set_option linter.constructorNameAsVariable false
set_option linter.unusedSimpArgs false
set_option maxRecDepth 20000
namespace Go.Proofs.YtlbnpndednhdaaaGreatDoor
open Go Go.Vw

theorem nums6 {c : UInt8} {t : List UInt8} {N : List Int} (h : numsK c 6 t = some N) : ∃ a b d e f g, N = [a, b, d, e, f, g] := by
  unfold numsK at h
  split at h
  · rename_i hc
    injection h with h
    have : N.length = 6 := by rw [← h, List.length_map]; exact hc.1
    match N, this with
    | [a, b, d, e, f, g], _ => exact ⟨a, b, d, e, f, g, rfl⟩
  · cases h
def agV (t : List UInt8) : Ag := match numsK 44 6 t with | some [a, b, c, d, e, f] => ⟨a, b, c, d, e, f⟩ | _ => ⟨0, 0, 0, 0, 0, 0⟩
def agOk (t : List UInt8) : Bool := (numsK 44 6 t).isSome && (agV t).ok
theorem readAgg_fn (t : List UInt8) (hl : t.length ≤ 1048576) : VFn Tryz.prog 261 [.str (B t)] (.tup [(agV t).av, .bool (agOk t)]) := by
  unfold agOk agV
  cases hn : numsK 44 6 t with
  | none =>
    refine VFn.introC Tryz.call261 Tryz.func261 rfl rfl ?_
    conv => whnf
    refine CallC.nl _ (numbers_no t 44 6 (by omega) (by decide) hn) ?_ ?_
    · exact rfl
    exact And.intro trivial (AVle.refl _)
  | some N =>
    obtain ⟨a, b, c, d, e, f, rfl⟩ := nums6 hn
    refine VFn.introC Tryz.call261 Tryz.func261 rfl rfl ?_
    conv => whnf
    refine CallC.nl _ (numbers_yes t 44 6 (by omega) (by decide) hn) ?_ ?_
    · exact rfl
    refine DrawC.mk 20 rfl (by kernel_rfl) ?_
    iterate 6 (refine And.intro ⟨by decide, by show (_ : Int) < ((6 : Nat) : Int); decide⟩ ?_)
    refine DrawC.mk 3 rfl (by kernel_rfl) ?_
    refine PCallC.sca _ (AggOK_fn ⟨a, b, c, d, e, f⟩) rfl ?_
    exact And.intro trivial (AVle.refl _)
theorem l02Read_fn (t : List UInt8) (hl : t.length ≤ 1000000) : VFn Tryz.prog 254 [.str (B t)] (.tup [(if agOk t = true then agV t else ⟨0, 0, 0, 0, 0, 0⟩ : Ag).av, .bool (agOk t)]) := by
  unfold agOk agV
  cases hn : numsK 44 6 t with
  | none =>
    refine VFn.introC Tryz.call254 Tryz.func254 rfl rfl ?_
    conv => whnf
    refine CallC.nl _ (l02Numbers_gen t 44 6 hl _ (fun N h => by rw [hn] at h; cases h) (fun h => rfl)) ?_ ?_
    · exact rfl
    exact And.intro trivial (AVle.refl _)
  | some N =>
    obtain ⟨a, b, c, d, e, f, rfl⟩ := nums6 hn
    have k := specAggOK_fn ⟨a, b, c, d, e, f⟩
    show VFn _ _ _ (.tup [(if (Ag.mk a b c d e f).ok = true then Ag.mk a b c d e f else ⟨0, 0, 0, 0, 0, 0⟩ : Ag).av, .bool (Ag.mk a b c d e f).ok])
    by_cases ho : (Ag.mk a b c d e f).ok = true
    · rw [ho] at k ⊢
      refine VFn.introC Tryz.call254 Tryz.func254 rfl rfl ?_
      conv => whnf
      refine CallC.nl _ (l02Numbers_gen t 44 6 hl _ (fun N h => by rw [hn] at h; cases h; rfl) (fun h => by rw [hn] at h; cases h)) ?_ ?_
      · exact rfl
      refine DrawC.mk 20 rfl (by kernel_rfl) ?_
      iterate 6 (refine And.intro ⟨by decide, by show (_ : Int) < ((6 : Nat) : Int); decide⟩ ?_)
      conv => whnf
      refine CallC.sca _ (k) ?_ ?_
      · exact rfl
      exact And.intro trivial (AVle.refl _)
    · have ho : (Ag.mk a b c d e f).ok = false := by simpa using ho
      rw [ho] at k ⊢
      refine VFn.introC Tryz.call254 Tryz.func254 rfl rfl ?_
      conv => whnf
      refine CallC.nl _ (l02Numbers_gen t 44 6 hl _ (fun N h => by rw [hn] at h; cases h; rfl) (fun h => by rw [hn] at h; cases h)) ?_ ?_
      · exact rfl
      refine DrawC.mk 20 rfl (by kernel_rfl) ?_
      iterate 6 (refine And.intro ⟨by decide, by show (_ : Int) < ((6 : Nat) : Int); decide⟩ ?_)
      conv => whnf
      refine CallC.sca _ (k) ?_ ?_
      · exact rfl
      exact And.intro trivial (AVle.refl _)
def bOk (w : List UInt8) : Bool := (Lib.cut w [58]).2.2 && (numOk (Lib.cut w [58]).1 && agOk (Lib.cut w [58]).2.1)
def bv (w : List UInt8) : Bk := ⟨atoiV (Lib.cut w [58]).1, agV (Lib.cut w [58]).2.1⟩
theorem numOk_58 {t : List UInt8} {c : UInt8} (h45 : c ≠ 45) (hc : c.toNat < 48 ∨ 57 < c.toNat) (h : c ∈ t) : numOk t = false := by
  cases hb : numOk t
  · rfl
  · obtain ⟨n, rfl, _⟩ := num_of hb
    exact absurd rfl (itoa_ne h45 hc c h)
theorem cutP_has (c x : UInt8) (hx : x ≠ c) : ∀ (l cur : List UInt8), x ∈ cur ∨ x ∈ l → ∃ p ∈ cutP c cur l, x ∈ p
  | [], cur, h => ⟨cur, by simp [cutP], by rcases h with h | h; exact h; cases h⟩
  | y :: r, cur, h => by
    unfold cutP
    split
    · rename_i hy
      rcases h with h | h
      · exact ⟨cur, by simp, h⟩
      · rcases List.mem_cons.1 h with rfl | h
        · exact absurd (by simpa using hy) hx
        · obtain ⟨p, hp, q⟩ := cutP_has c x hx r [] (.inr h)
          exact ⟨p, List.mem_cons_of_mem _ hp, q⟩
    · obtain ⟨p, hp, q⟩ := cutP_has c x hx r (cur ++ [y]) (by
        rcases h with h | h
        · exact .inl (by simp [h])
        · rcases List.mem_cons.1 h with rfl | h
          · exact .inl (by simp)
          · exact .inr h)
      exact ⟨p, hp, q⟩
theorem agOk_58 {t : List UInt8} (h : 58 ∈ t) : agOk t = false := by
  have : numsK 44 6 t = none := by
    unfold numsK
    rw [if_neg]
    rintro ⟨_, h2⟩
    obtain ⟨p, hp, q⟩ := cutP_has 44 58 (by decide) t [] (.inr h)
    have := List.all_eq_true.1 h2 p hp
    rw [numOk_58 (by decide) (by decide) q] at this
    cases this
  unfold agOk; rw [this]; rfl
/-- a word of a bucket by the reference's cut -/
theorem bOk_cut (w : List UInt8) : (∃ a b, cutP 58 [] w = [a, b] ∧ bOk w = (numOk a && agOk b) ∧ bv w = ⟨atoiV a, agV b⟩ ∧ a.length ≤ w.length ∧ b.length ≤ w.length) ∨ ((cutP 58 [] w).length ≠ 2 ∧ bOk w = false) := by
  rcases first_c 58 w with h | ⟨a, b, rfl, ha⟩
  · right
    refine ⟨by rw [cutP_none 58 w [] h]; simp, ?_⟩
    unfold bOk; rw [cut_none h]; rfl
  · rcases first_c 58 b with h | ⟨a2, b2, rfl, ha2⟩
    · left
      refine ⟨a, b, by rw [cutP_app 58 a [] b ha, cutP_none 58 b [] h]; simp, ?_, ?_, by simp, by simp <;> omega⟩
      · unfold bOk; rw [cut_at ha]; simp
      · unfold bv; rw [cut_at ha]
    · right
      have := cutP_len 58 b2 []
      refine ⟨by rw [cutP_app 58 a [] _ ha, cutP_app 58 a2 [] b2 ha2]; simp only [List.nil_append, List.length_cons]; omega, ?_⟩
      unfold bOk; rw [cut_at ha]
      simp only
      rw [agOk_58 (t := a2 ++ 58 :: b2) (by simp)]
      simp
def rbOk (t : List UInt8) : Bool := (wds t).all bOk && bksOK ((wds t).map bv)
def rbV (t : List UInt8) : List Bk := (wds t).map bv
theorem bks_8 {L : List Bk} (h : bksOK L = true) : L.length ≤ 8 := by
  unfold bksOK at h
  rw [Bool.and_eq_true] at h
  exact of_decide_eq_true h.1
theorem rbOk_pts (t : List UInt8) : rbOk t = ((pts t).all bOk && bksOK ((pts t).map bv)) := by
  have h := pts_wds t
  unfold rbOk
  rcases Nat.lt_or_ge 8 (wds t).length with h8 | h8
  · have a : bksOK ((wds t).map bv) = false := by
      rw [Bool.eq_false_iff]; intro q; have := bks_8 q; simp at this; omega
    have b : bksOK ((pts t).map bv) = false := by
      rw [Bool.eq_false_iff]; intro q; have := bks_8 q; rw [List.length_map, h.2 h8] at this; omega
    rw [a, b]; simp
  · rw [h.1 h8]
theorem rbV_pts {t : List UInt8} (h : rbOk t = true) : rbV t = (pts t).map bv := by
  simp only [rbOk, Bool.and_eq_true] at h
  have := bks_8 h.2
  rw [List.length_map] at this
  unfold rbV
  rw [(pts_wds t).1 this]
theorem cut_len (w : List UInt8) : (Lib.cut w [58]).1.length ≤ w.length ∧ (Lib.cut w [58]).2.1.length ≤ w.length := by
  rcases first_c 58 w with h | ⟨a, b, rfl, ha⟩
  · rw [cut_none h]; simp
  · rw [cut_at ha]; simp; omega
theorem readBuckets_gen (t : List UInt8) (hl : t.length ≤ 1048576) (R : AV) (hy : rbOk t = true → R = .tup [bks (rbV t), .bool true]) (hn : rbOk t = false → R = .tup [.any, .bool false]) : VFn Tryz.prog 186 [.str (B t)] R := by
  have e0 := rbOk_pts t
  have e1 := fun h => rbV_pts (t := t) h
  have hpl := pts_piece t
  have hc := parts_fn t hl
  obtain ⟨P, hP⟩ : ∃ P, P = pts t := ⟨_, rfl⟩
  rw [← hP] at e0 e1 hpl hc
  have hPl : P.length ≤ 9 := by
    rw [hP]
    rcases Nat.lt_or_ge 8 (wds t).length with h8 | h8
    · rw [(pts_wds t).2 h8]; omega
    · rw [(pts_wds t).1 h8]; omega
  clear hP
  refine VFn.introC Tryz.call186 Tryz.func186 rfl rfl ?_
  conv => whnf
  refine CallC.nl _ (hc) ?_ ?_
  · exact rfl
  refine LoopC.mk (fun i : Nat => i ≤ P.length ∧ ∀ j, j < i → bOk (ix P j) = true) (fun i => [(4, .osl 0), (16, txts P), (17, .int .i64 P.length), (18, .int .i64 i)])
    (fun i => [(0, .arr 223 7 ((P.take i).map bv).length fun j => (ix ((P.take i).map bv) j).row)]) 1 (fun i => P.length - i) 0
    ⟨⟨Nat.zero_le _, fun j hj => absurd hj (Nat.not_lt_zero j)⟩, [(0, 0)], rfl, rfl, ⟨AVle.refl _, AVle.refl _, AVle.refl _, AVle.refl _, trivial⟩, ⟨MOle.arr rfl fun i hi => absurd hi (Nat.not_lt_zero i), trivial⟩⟩ ?_
  intro i hi
  obtain ⟨hi, hall⟩ := hi
  refine Grd.intro (fun h2 => ?_) (fun h2 => ?_)
  · have hin : i < P.length := by have := of_decide_eq_true h2; omega
    have hpi := hpl _ (getD_mem hin)
    have hcl := cut_len (ix P i)
    have c1 := Cut_fn (ix P i) 58 (by omega)
    obtain ⟨x, hcut⟩ : ∃ x, Lib.cut (ix P i) [58] = x := ⟨_, rfl⟩
    obtain ⟨a, b, r⟩ := x
    have e3 : bOk (ix P i) = (r && (numOk a && agOk b)) := by unfold bOk; rw [hcut]
    have e4 : bv (ix P i) = ⟨atoiV a, agV b⟩ := by unfold bv; rw [hcut]
    rw [hcut] at c1 hcl
    simp only at c1
    have hcl1 : a.length ≤ 1048576 := by have := hcl.1; simp only at this; omega
    have hcl2 : b.length ≤ 1048576 := by have := hcl.2; simp only at this; omega
    have c2 := number_fn a (by omega)
    have c3 := readAgg_fn b hcl2
    clear hcut hcl
    have cg : ∀ g : Bool, agOk b = g → VFn Tryz.prog 261 [.str (B b)] (.tup [(agV b).av, .bool g]) := fun g h => by rw [h] at c3; exact c3
    refine And.intro (by omega) ?_
    by_cases h3 : bOk (ix P i) = true
    · have q := h3
      rw [e3] at q
      simp only [Bool.and_eq_true] at q
      obtain ⟨q1, q2, q3⟩ := q
      rw [q1] at c1
      rw [q2] at c2
      have c3 := cg true q3
      conv => whnf
      refine CallC.sca _ (c1) ?_ ?_
      · exact rfl
      conv => whnf
      refine CallC.sca _ (c2) ?_ ?_
      · exact rfl
      conv => whnf
      refine CallC.sca _ (c3) ?_ ?_
      · exact rfl
      refine And.intro ⟨show (((P.take i).map bv).length + 1) * 56 ≤ 140737488355328 by simp; omega, all1 rfl⟩ ?_
      refine And.intro (inI64 (by omega) (by omega)) ?_
      refine ⟨i + 1, ⟨hin, fun j hj => ?_⟩, by omega, [(3, 0)], rfl, rfl, ⟨AVle.refl _, AVle.refl _, AVle.refl _, AVle.of_eq (congrArg (AV.int .i64) (by simp)), trivial⟩, ⟨arr_next (f := Bk.row) (map_take_snoc hin) (by rw [e4]; rfl), trivial⟩⟩
      rcases Nat.lt_or_ge j i with h' | h'
      · exact hall j h'
      · rw [show j = i by omega]; exact h3
    · have h3 : bOk (ix P i) = false := by simpa using h3
      rw [hn (by rw [e0, bad_all hin h3]; rfl)]
      rw [e3] at h3
      have c3 := cg _ rfl
      generalize numOk a = q2 at c2 h3
      generalize agOk b = q3 at c3 h3
      cases r <;> cases q2 <;> cases q3
      all_goals first | (exfalso; cases h3; done) | skip
      all_goals
        conv => whnf
        refine CallC.sca _ (c1) ?_ ?_
        · exact rfl
        conv => whnf
        refine CallC.sca _ (c2) ?_ ?_
        · exact rfl
        conv => whnf
        refine CallC.sca _ (c3) ?_ ?_
        · exact rfl
        exact And.intro trivial (AVle.tup (AVsle.cons (AVle.any _) (AVsle.cons (AVle.refl _) AVsle.nil)))
  · have : i = P.length := by have := of_decide_eq_false h2; omega
    subst this
    have e : P.take P.length = P := List.take_of_length_le (Nat.le_refl _)
    have hA : P.all bOk = true := pre_all hall
    rw [hA, Bool.true_and] at e0
    rw [e]
    have c := BucketsOK_fn (P.map bv)
    cases hq : bksOK (P.map bv)
    · rw [hq] at c e0
      rw [hn e0]
      conv => whnf
      refine CallC.sca _ (c) ?_ ?_
      · exact rfl
      exact And.intro trivial (AVle.tup (AVsle.cons (AVle.any _) (AVsle.cons (AVle.refl _) AVsle.nil)))
    · rw [hq] at c e0
      rw [hy e0, e1 e0]
      conv => whnf
      refine CallC.sca _ (c) ?_ ?_
      · exact rfl
      exact And.intro trivial (AVle.refl _)
theorem l03ToBuckets_gen (t : List UInt8) (hl : t.length ≤ 1000000) (R : AV) (hy : rbOk t = true → R = .tup [bks (rbV t), .bool true]) (hn : rbOk t = false → R = .tup [.any, .bool false]) : VFn Tryz.prog 180 [.str (B t)] R := by
  have hb := B_nil t
  by_cases h0 : t = []
  · have e1 : rbOk t = true := by rw [h0]; rfl
    have e2 : rbV t = [] := by rw [h0]; rfl
    rw [hy e1, e2]
    refine VFn.introC Tryz.call180 Tryz.func180 rfl rfl ?_
    refine Grd.intro (fun g => ?_) (fun g => ?_)
    · exact And.intro trivial (AVle.tup (AVsle.cons (AVle.sl rfl fun j hj => absurd hj (Nat.not_lt_zero j)) (AVsle.cons (AVle.refl _) AVsle.nil)))
    · exact absurd h0 (of_decide_eq_false (hb.symm.trans g))
  have hpl := wds_piece t
  have hwl := wds_len t
  have hc := l00Cut_fn t 32 (by omega)
  have ew : wds t = cutP 32 [] t := by unfold wds; rw [if_neg h0]
  rw [← ew] at hc
  have e0 : rbOk t = ((wds t).all bOk && bksOK ((wds t).map bv)) := rfl
  have e1 : rbV t = (wds t).map bv := rfl
  obtain ⟨P, hP⟩ : ∃ P, P = wds t := ⟨_, rfl⟩
  rw [← hP] at e0 e1 hpl hwl hc
  clear hP ew
  refine VFn.introC Tryz.call180 Tryz.func180 rfl rfl ?_
  refine Grd.intro (fun g => ?_) (fun g => ?_)
  · exact absurd (of_decide_eq_true (hb.symm.trans g)) h0
  conv => whnf
  refine CallC.nl _ (hc) ?_ ?_
  · exact rfl
  refine LoopC.mk (fun i : Nat => i ≤ P.length ∧ ∀ j, j < i → bOk (ix P j) = true) (fun i => [(4, .osl 0), (5, txts P), (6, .int .i64 i)])
    (fun i => [(0, .arr 223 7 ((P.take i).map bv).length fun j => (ix ((P.take i).map bv) j).row)]) 1 (fun i => P.length - i) 0
    ⟨⟨Nat.zero_le _, fun j hj => absurd hj (Nat.not_lt_zero j)⟩, [(0, 0)], rfl, rfl, ⟨AVle.refl _, AVle.refl _, AVle.refl _, trivial⟩, ⟨MOle.arr rfl fun i hi => absurd hi (Nat.not_lt_zero i), trivial⟩⟩ ?_
  intro i hi
  obtain ⟨hi, hall⟩ := hi
  refine Grd.intro (fun h2 => ?_) (fun h2 => ?_)
  · have hin : i < P.length := by have := of_decide_eq_true h2; omega
    have hpi := hpl _ (getD_mem hin)
    have c1 := l00Cut_fn (ix P i) 58 (by omega)
    refine And.intro (by omega) ?_
    rcases bOk_cut (ix P i) with ⟨a, b, hcut, e3, e4, la, lb⟩ | ⟨hcut, e3⟩
    · rw [hcut] at c1
      have c2 := l02Number_fn a (by omega)
      have c3 := l02Read_fn b (by omega)
      have cg : ∀ g : Bool, agOk b = g → VFn Tryz.prog 254 [.str (B b)] (.tup [(if g = true then agV b else ⟨0, 0, 0, 0, 0, 0⟩ : Ag).av, .bool g]) := fun g h => by rw [h] at c3; exact c3
      by_cases h3 : bOk (ix P i) = true
      · have q := h3
        rw [e3] at q
        simp only [Bool.and_eq_true] at q
        obtain ⟨q2, q3⟩ := q
        rw [q2] at c2
        have c3 := cg true q3
        rw [if_pos rfl] at c2 c3
        conv => whnf
        refine CallC.nl _ (c1) ?_ ?_
        · exact rfl
        refine And.intro ⟨by decide, by show (0 : Int) < ((2 : Nat) : Int); decide⟩ ?_
        conv => whnf
        refine CallC.sca _ (c2) ?_ ?_
        · exact rfl
        refine And.intro ⟨by decide, by show (1 : Int) < ((2 : Nat) : Int); decide⟩ ?_
        conv => whnf
        refine CallC.sca _ (c3) ?_ ?_
        · exact rfl
        refine And.intro ⟨show (((P.take i).map bv).length + 1) * 56 ≤ 140737488355328 by simp; omega, all1 rfl⟩ ?_
        refine And.intro (inI64 (by omega) (by omega)) ?_
        refine ⟨i + 1, ⟨hin, fun j hj => ?_⟩, by omega, [(3, 0)], rfl, rfl, ⟨AVle.refl _, AVle.refl _, AVle.of_eq (congrArg (AV.int .i64) (by simp)), trivial⟩, ⟨arr_next (f := Bk.row) (map_take_snoc hin) (by rw [e4]; rfl), trivial⟩⟩
        rcases Nat.lt_or_ge j i with h' | h'
        · exact hall j h'
        · rw [show j = i by omega]; exact h3
      · have h3 : bOk (ix P i) = false := by simpa using h3
        rw [hn (by rw [e0, bad_all hin h3]; rfl)]
        rw [e3] at h3
        have c3 := cg _ rfl
        clear cg
        generalize numOk a = q2 at c2 h3
        generalize agOk b = q3 at c3 h3
        cases q2 <;> cases q3
        all_goals first | (exfalso; cases h3; done) | skip
        all_goals
          simp only [if_true, Bool.false_eq_true, if_false] at c2 c3
          conv => whnf
          refine CallC.nl _ (c1) ?_ ?_
          · exact rfl
          refine And.intro ⟨by decide, by show (0 : Int) < ((2 : Nat) : Int); decide⟩ ?_
          conv => whnf
          refine CallC.sca _ (c2) ?_ ?_
          · exact rfl
          refine And.intro ⟨by decide, by show (1 : Int) < ((2 : Nat) : Int); decide⟩ ?_
          conv => whnf
          refine CallC.sca _ (c3) ?_ ?_
          · exact rfl
          exact And.intro trivial (AVle.tup (AVsle.cons (AVle.any _) (AVsle.cons (AVle.refl _) AVsle.nil)))
    · rw [hn (by rw [e0, bad_all hin e3]; rfl)]
      obtain ⟨Q, hQ⟩ : ∃ Q, Q = cutP 58 [] (ix P i) := ⟨_, rfl⟩
      rw [← hQ] at c1 hcut
      conv => whnf
      refine CallC.nl _ (c1) ?_ ?_
      · exact rfl
      refine Grd.intro (fun g2 => ?_) (fun g2 => ?_)
      · exact And.intro trivial (AVle.tup (AVsle.cons (AVle.any _) (AVsle.cons (AVle.refl _) AVsle.nil)))
      · exfalso
        have g2 : (!decide ((Q.length : Int) = 2)) = false := g2
        simp at g2; omega
  · have : i = P.length := by have := of_decide_eq_false h2; omega
    subst this
    have e : P.take P.length = P := List.take_of_length_le (Nat.le_refl _)
    have hA : P.all bOk = true := pre_all hall
    rw [hA, Bool.true_and] at e0
    rw [e]
    have c := specBucketsOK_fn (P.map bv)
    cases hq : bksOK (P.map bv)
    · rw [hq] at c e0
      rw [hn e0]
      conv => whnf
      refine CallC.sca _ (c) ?_ ?_
      · exact rfl
      exact And.intro trivial (AVle.tup (AVsle.cons (AVle.any _) (AVsle.cons (AVle.refl _) AVsle.nil)))
    · rw [hq] at c e0
      rw [hy e0, e1]
      conv => whnf
      refine CallC.sca _ (c) ?_ ?_
      · exact rfl
      exact And.intro trivial (AVle.refl _)
theorem join_has {c x : UInt8} : ∀ {L : List (List UInt8)}, x ∈ Lib.join L [c] → x = c ∨ ∃ y ∈ L, x ∈ y
  | [], h => by simp [Lib.join, List.intercalate] at h
  | [a], h => by rw [Lib.join_one] at h; exact .inr ⟨a, by simp, h⟩
  | a :: b :: r, h => by
    have e : Lib.join (a :: b :: r) [c] = a ++ c :: Lib.join (b :: r) [c] := by simp [Lib.join, List.intercalate, List.intersperse]
    rw [e, List.mem_append, List.mem_cons] at h
    rcases h with h | rfl | h
    · exact .inr ⟨a, by simp, h⟩
    · exact .inl rfl
    · rcases join_has h with h | ⟨y, hy, q⟩
      · exact .inl h
      · exact .inr ⟨y, List.mem_cons_of_mem _ hy, q⟩
theorem atext_has {a : Ag} {x c : UInt8} (h45 : c ≠ 45) (h44 : c ≠ 44) (hc : c.toNat < 48 ∨ 57 < c.toNat) (h : x ∈ atext a) : x ≠ c := by
  rcases join_has h with rfl | ⟨y, hy, q⟩
  · exact fun e => h44 e.symm
  · obtain ⟨n, _, rfl⟩ := List.mem_map.1 hy
    exact itoa_ne h45 hc x q
theorem bkText_eq (b : Bk) : bkText b = Lib.itoa b.t ++ 58 :: atext b.a := by unfold bkText; rw [join2]; simp
theorem bkText_32 (b : Bk) : ∀ x ∈ bkText b, x ≠ 32 := by
  intro x hx
  rw [bkText_eq, List.mem_append, List.mem_cons] at hx
  rcases hx with hx | rfl | hx
  · exact itoa_ne (by decide) (by decide) x hx
  · decide
  · exact atext_has (by decide) (by decide) (by decide) hx
theorem bkText_ne (b : Bk) : bkText b ≠ [] := by rw [bkText_eq]; simp
theorem bv_text {b : Bk} (h : b.ok) : bOk (bkText b) = true ∧ bv (bkText b) = b := by
  have e : Lib.cut (bkText b) [58] = (Lib.itoa b.t, atext b.a, true) := by
    rw [bkText_eq]; exact cut_at (itoa_ne (by decide) (by decide))
  have hn := num_back (n := b.t) (by have := h.1; omega) (by have := h.1; omega)
  have ha : numsK 44 6 (atext b.a) = some b.a.six := nums_back (c := 44) (N := b.a.six) (by decide) (by decide) (by simp [Ag.six]) (fun n hn => by have := six_b h.2 n hn; omega)
  have hv : agV (atext b.a) = b.a := by unfold agV; rw [ha]; rfl
  unfold bOk bv agOk
  rw [e]
  simp only
  rw [hn.1, hn.2, ha, hv, h.2]
  exact ⟨rfl, rfl⟩
theorem wds_bks (L : List Bk) : wds (bksText L) = L.map bkText := by
  unfold bksText
  exact wds_join (fun x hx => by obtain ⟨s, _, rfl⟩ := List.mem_map.1 hx; exact bkText_ne s) (fun x hx => by obtain ⟨s, _, rfl⟩ := List.mem_map.1 hx; exact bkText_32 s)
theorem rbV_text {L : List Bk} (h : ∀ b ∈ L, b.ok) : rbV (bksText L) = L := by
  unfold rbV
  rw [wds_bks, List.map_map]
  exact (List.map_congr_left fun s hs => (bv_text (h s hs)).2).trans (List.map_id' L)
theorem bksText_inj {L M : List Bk} (hL : ∀ b ∈ L, b.ok) (hM : ∀ b ∈ M, b.ok) (h : bksText L = bksText M) : L = M := by
  rw [← rbV_text hL, ← rbV_text hM, h]
end Go.Proofs.YtlbnpndednhdaaaGreatDoor
