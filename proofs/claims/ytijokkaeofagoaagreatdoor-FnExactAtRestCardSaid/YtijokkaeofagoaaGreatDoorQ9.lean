/- Contracts of functions that the claim reaches, and the plain law of what they compute; each theorem bears its own conditions. -/
import Derived.Test.YtijokkaeofagoaaGreatDoorQ3
import Derived.Test.YtijokkaeofagoaaGreatDoorQ8
import Derived.Test.YtijokkaeofagoaaGreatDoorV50
set_option linter.unusedVariables false
set_option linter.constructorNameAsVariable false
set_option linter.unusedSimpArgs false
set_option maxRecDepth 20000
namespace Go.Proofs.YtijokkaeofagoaaGreatDoor
open Go Go.Vw

def Ag.cl (a : Ag) : List AV := [.int .i64 a.c, .int .i64 a.s, .int .i64 a.mn, .int .i64 a.mx, .int .i64 a.f, .int .i64 a.l]
instance : Inhabited Ag := ⟨⟨0, 0, 0, 0, 0, 0⟩⟩
structure Wk where
  id : Int
  ph : Int
  tok : Int
  job : Rc
  ins : List En
  got : Ag
instance : Inhabited Wk := ⟨⟨0, 0, 0, default, [], default⟩⟩
def Wk.row (e : Wk) : List AV := [.int .i64 e.id, .int .i64 e.ph, .int .i64 e.tok, .int .i64 e.job.k, .int .i64 e.job.tok, .int .i64 e.job.tier, .int .i64 e.job.f, .int .i64 e.job.t, .str (B e.job.key), ents e.ins, .int .i64 e.got.c, .int .i64 e.got.s, .int .i64 e.got.mn, .int .i64 e.got.mx, .int .i64 e.got.f, .int .i64 e.got.l]
def Wk.av (e : Wk) : AV := .agg e.row
abbrev wks (L : List Wk) : AV := .sl 16 L.length fun i => (ix L i).row
def Wk.size (e : Wk) : Nat := e.job.key.length + (e.ins.length + sumL En.size e.ins)
structure Wk.rd (e : Wk) : Prop where
  key : e.job.key.length ≤ 9223372036854775807
  ins : e.ins.length ≤ 9223372036854775807
  es : ∀ x ∈ e.ins, En.size x ≤ 9223372036854775807
def Wk.small (e : Wk) : Prop := e.ins.length ≤ 1048576
structure Ig where
  id : Int
  seq : Int
  f : Int
  t : Int
  b : List Smp
  put : Bool
instance : Inhabited Ig := ⟨⟨0, 0, 0, 0, [], false⟩⟩
def Ig.row (e : Ig) : List AV := [.int .i64 e.id, .int .i64 e.seq, .int .i64 e.f, .int .i64 e.t, smps e.b, .bool e.put]
def Ig.av (e : Ig) : AV := .agg e.row
abbrev igs (L : List Ig) : AV := .sl 6 L.length fun i => (ix L i).row
def Ig.size (e : Ig) : Nat := e.b.length
def Ig.rd (e : Ig) : Prop := e.b.length ≤ 9223372036854775807
def Ig.small (e : Ig) : Prop := e.b.length ≤ 1048576
structure Rr where
  id : Int
  ph : Int
  tier : Int
  f : Int
  t : Int
  til : Int
  code : Int
  left : List En
  got : Ag
instance : Inhabited Rr := ⟨⟨0, 0, 0, 0, 0, 0, 0, [], default⟩⟩
def Rr.row (e : Rr) : List AV := [.int .i64 e.id, .int .i64 e.ph, .int .i64 e.tier, .int .i64 e.f, .int .i64 e.t, .int .i64 e.til, .int .i64 e.code, ents e.left, .int .i64 e.got.c, .int .i64 e.got.s, .int .i64 e.got.mn, .int .i64 e.got.mx, .int .i64 e.got.f, .int .i64 e.got.l]
def Rr.av (e : Rr) : AV := .agg e.row
abbrev rrs (L : List Rr) : AV := .sl 14 L.length fun i => (ix L i).row
def Rr.size (e : Rr) : Nat := e.left.length + sumL En.size e.left
structure Rr.rd (e : Rr) : Prop where
  left : e.left.length ≤ 9223372036854775807
  es : ∀ x ∈ e.left, En.size x ≤ 9223372036854775807
def Rr.small (e : Rr) : Prop := e.left.length ≤ 1048576
structure An where
  tier : Int
  f : Int
  t : Int
  code : Int
  a : Ag
instance : Inhabited An := ⟨⟨0, 0, 0, 0, default⟩⟩
def An.row (e : An) : List AV := [.int .i64 e.tier, .int .i64 e.f, .int .i64 e.t, .int .i64 e.code, .int .i64 e.a.c, .int .i64 e.a.s, .int .i64 e.a.mn, .int .i64 e.a.mx, .int .i64 e.a.f, .int .i64 e.a.l]
def An.av (e : An) : AV := .agg e.row
abbrev ans (L : List An) : AV := .sl 10 L.length fun i => (ix L i).row
def An.small (e : An) : Prop := True
theorem eqRecord_fn (r : Rc) : VFn Tryz.prog 155 [r.av, r.av] (.bool true) := by
  refine VFn.introC Tryz.call155 Tryz.func155 rfl rfl ?_
  refine Grd.intro (fun h => absurd h (by simp)) (fun _ => ?_)
  refine Grd.intro (fun h => absurd h (by simp)) (fun _ => ?_)
  refine Grd.intro (fun h => absurd h (by simp)) (fun _ => ?_)
  refine Grd.intro (fun h => absurd h (by simp)) (fun _ => ?_)
  refine Grd.intro (fun h => absurd h (by simp)) (fun _ => ?_)
  refine Grd.intro (fun h => absurd h (by simp)) (fun _ => ?_)
  exact And.intro trivial (AVle.refl _)
theorem szWorker_fn (e : Wk) (n : Int) (h0 : 0 ≤ n) (h1 : n ≤ 1048576) (h : e.rd) : VFn Tryz.prog 43 [e.av, .int .i64 n] (.int .i64 (szr e.size n)) := by
  have es : e.size = e.job.key.length + (e.ins.length + sumL En.size e.ins) := rfl
  refine VFn.introC Tryz.call43 Tryz.func43 rfl rfl ?_
  conv => whnf
  refine CallC.sca _ (szRecordN_fn e.job n h0 h1 h.key) ?_ ?_
  · exact rfl
  by_cases f1 : ((e.job.key.length : Nat) : Int) ≤ n
  · rw [szr_yes f1]
    refine Grd.intro (fun h2 => absurd (of_decide_eq_true h2) (by omega)) (fun _ => ?_)
    conv => whnf
    refine CallC.sca _ (szEntryS_fn e.ins (n - ((e.job.key.length : Nat) : Int)) (by omega) (by omega) h.ins h.es) ?_ ?_
    · exact rfl
    by_cases f2 : ((e.ins.length + sumL En.size e.ins : Nat) : Int) ≤ n - ((e.job.key.length : Nat) : Int)
    · rw [szr_yes f2, szr_yes (by omega)]
      refine Grd.intro (fun h2 => absurd (of_decide_eq_true h2) (by omega)) (fun _ => ?_)
      exact And.intro trivial (AVle.of_eq (congrArg (AV.int .i64) (by omega)))
    · rw [szr_no f2, szr_no (by omega)]
      exact And.intro trivial (AVle.refl _)
  · rw [szr_no f1, szr_no (by omega)]
    exact And.intro trivial (AVle.refl _)
theorem toWorker_fn (e : Wk) (h : e.small) : VFn Tryz.prog 59 [e.av] e.av := by
  refine VFn.introC Tryz.call59 Tryz.func59 rfl rfl ?_
  conv => whnf
  refine CallC.sca _ (toRecord_fn e.job) ?_ ?_
  · exact rfl
  conv => whnf
  refine CallC.nl _ (toEntryS_fn e.ins h) ?_ ?_
  · exact rfl
  conv => whnf
  refine CallC.sca _ (toAgg_fn e.got) ?_ ?_
  · exact rfl
  exact And.intro trivial (AVle.refl _)
theorem eqWorker_fn (e : Wk) (h : e.small) : VFn Tryz.prog 82 [e.av, e.av] (.bool true) := by
  refine VFn.introC Tryz.call82 Tryz.func82 rfl rfl ?_
  refine Grd.intro (fun h => absurd h (by simp)) (fun _ => ?_)
  refine Grd.intro (fun h => absurd h (by simp)) (fun _ => ?_)
  refine Grd.intro (fun h => absurd h (by simp)) (fun _ => ?_)
  conv => whnf
  refine CallC.sca _ (eqRecord_fn e.job) ?_ ?_
  · exact rfl
  conv => whnf
  refine CallC.sca _ (eqEntryS_fn e.ins h) ?_ ?_
  · exact rfl
  conv => whnf
  refine CallC.sca _ (eqAgg_fn e.got) ?_ ?_
  · exact rfl
  exact And.intro trivial (AVle.refl _)
theorem szSampleSN_fn (L : List Smp) (n : Int) (h0 : 0 ≤ n) (h1 : n ≤ 1048576) (hL : L.length ≤ 9223372036854775807) : VFn Tryz.prog 16 [smps L, .int .i64 n] (.int .i64 (szr L.length n)) := by
  refine VFn.introC Tryz.call16 Tryz.func16 rfl rfl ?_
  refine And.intro (inI64 (by omega) (by omega)) ?_
  by_cases f : ((L.length : Nat) : Int) ≤ n
  · rw [szr_yes f]
    refine Grd.intro (fun h2 => absurd (of_decide_eq_true h2) (by omega)) (fun _ => ?_)
    exact And.intro trivial (AVle.refl _)
  · rw [szr_no f]
    refine Grd.intro (fun _ => ?_) (fun h2 => absurd (of_decide_eq_false h2) (by omega))
    exact And.intro trivial (AVle.refl _)
theorem szAnswerS_fn (L : List An) (n : Int) (h0 : 0 ≤ n) (h1 : n ≤ 1048576) (hL : L.length ≤ 9223372036854775807) : VFn Tryz.prog 17 [ans L, .int .i64 n] (.int .i64 (szr L.length n)) := by
  refine VFn.introC Tryz.call17 Tryz.func17 rfl rfl ?_
  refine And.intro (inI64 (by omega) (by omega)) ?_
  by_cases f : ((L.length : Nat) : Int) ≤ n
  · rw [szr_yes f]
    refine Grd.intro (fun h2 => absurd (of_decide_eq_true h2) (by omega)) (fun _ => ?_)
    exact And.intro trivial (AVle.refl _)
  · rw [szr_no f]
    refine Grd.intro (fun _ => ?_) (fun h2 => absurd (of_decide_eq_false h2) (by omega))
    exact And.intro trivial (AVle.refl _)
theorem szIngester_fn (e : Ig) (n : Int) (h0 : 0 ≤ n) (h1 : n ≤ 1048576) (h : e.rd) : VFn Tryz.prog 44 [e.av, .int .i64 n] (.int .i64 (szr e.size n)) := by
  refine VFn.introC Tryz.call44 Tryz.func44 rfl rfl ?_
  conv => whnf
  refine CallC.sca _ (szSampleSN_fn e.b n h0 h1 h) ?_ ?_
  · exact rfl
  unfold Ig.size
  by_cases f : ((e.b.length : Nat) : Int) ≤ n
  · rw [szr_yes f]
    refine Grd.intro (fun h2 => absurd (of_decide_eq_true h2) (by omega)) (fun _ => ?_)
    exact And.intro trivial (AVle.refl _)
  · rw [szr_no f]
    exact And.intro trivial (AVle.refl _)
theorem toIngester_fn (e : Ig) (h : e.small) : VFn Tryz.prog 60 [e.av] e.av := by
  refine VFn.introC Tryz.call60 Tryz.func60 rfl rfl ?_
  conv => whnf
  refine CallC.nl _ (toSampleS_fn e.b h) ?_ ?_
  · exact rfl
  exact And.intro trivial (AVle.refl _)
theorem eqIngester_fn (e : Ig) (h : e.small) : VFn Tryz.prog 83 [e.av, e.av] (.bool true) := by
  refine VFn.introC Tryz.call83 Tryz.func83 rfl rfl ?_
  refine Grd.intro (fun h => absurd h (by simp)) (fun _ => ?_)
  refine Grd.intro (fun h => absurd h (by simp)) (fun _ => ?_)
  refine Grd.intro (fun h => absurd h (by simp)) (fun _ => ?_)
  refine Grd.intro (fun h => absurd h (by simp)) (fun _ => ?_)
  conv => whnf
  refine CallC.sca _ (eqSampleS_fn e.b h) ?_ ?_
  · exact rfl
  conv => whnf
  refine OpC.bneq rfl rfl rfl rfl rfl ?_
  refine Grd.intro (fun h => absurd h (by simp)) (fun _ => ?_)
  exact And.intro trivial (AVle.refl _)
theorem szReader_fn (e : Rr) (n : Int) (h0 : 0 ≤ n) (h1 : n ≤ 1048576) (h : e.rd) : VFn Tryz.prog 45 [e.av, .int .i64 n] (.int .i64 (szr e.size n)) := by
  refine VFn.introC Tryz.call45 Tryz.func45 rfl rfl ?_
  conv => whnf
  refine CallC.sca _ (szEntryS_fn e.left n h0 h1 h.left h.es) ?_ ?_
  · exact rfl
  unfold Rr.size
  by_cases f : ((e.left.length + sumL En.size e.left : Nat) : Int) ≤ n
  · rw [szr_yes f]
    refine Grd.intro (fun h2 => absurd (of_decide_eq_true h2) (by omega)) (fun _ => ?_)
    exact And.intro trivial (AVle.refl _)
  · rw [szr_no f]
    exact And.intro trivial (AVle.refl _)
theorem toReader_fn (e : Rr) (h : e.small) : VFn Tryz.prog 61 [e.av] e.av := by
  refine VFn.introC Tryz.call61 Tryz.func61 rfl rfl ?_
  conv => whnf
  refine CallC.nl _ (toEntryS_fn e.left h) ?_ ?_
  · exact rfl
  conv => whnf
  refine CallC.sca _ (toAgg_fn e.got) ?_ ?_
  · exact rfl
  exact And.intro trivial (AVle.refl _)
theorem eqReader_fn (e : Rr) (h : e.small) : VFn Tryz.prog 84 [e.av, e.av] (.bool true) := by
  refine VFn.introC Tryz.call84 Tryz.func84 rfl rfl ?_
  refine Grd.intro (fun h => absurd h (by simp)) (fun _ => ?_)
  refine Grd.intro (fun h => absurd h (by simp)) (fun _ => ?_)
  refine Grd.intro (fun h => absurd h (by simp)) (fun _ => ?_)
  refine Grd.intro (fun h => absurd h (by simp)) (fun _ => ?_)
  refine Grd.intro (fun h => absurd h (by simp)) (fun _ => ?_)
  refine Grd.intro (fun h => absurd h (by simp)) (fun _ => ?_)
  refine Grd.intro (fun h => absurd h (by simp)) (fun _ => ?_)
  conv => whnf
  refine CallC.sca _ (eqEntryS_fn e.left h) ?_ ?_
  · exact rfl
  conv => whnf
  refine CallC.sca _ (eqAgg_fn e.got) ?_ ?_
  · exact rfl
  exact And.intro trivial (AVle.refl _)
theorem toAnswer_fn (e : An) (h : e.small) : VFn Tryz.prog 63 [e.av] e.av := by
  refine VFn.introC Tryz.call63 Tryz.func63 rfl rfl ?_
  conv => whnf
  refine CallC.sca _ (toAgg_fn e.a) ?_ ?_
  · exact rfl
  exact And.intro trivial (AVle.refl _)
theorem eqAnswer_fn (e : An) (h : e.small) : VFn Tryz.prog 86 [e.av, e.av] (.bool true) := by
  refine VFn.introC Tryz.call86 Tryz.func86 rfl rfl ?_
  refine Grd.intro (fun h => absurd h (by simp)) (fun _ => ?_)
  refine Grd.intro (fun h => absurd h (by simp)) (fun _ => ?_)
  refine Grd.intro (fun h => absurd h (by simp)) (fun _ => ?_)
  refine Grd.intro (fun h => absurd h (by simp)) (fun _ => ?_)
  conv => whnf
  refine CallC.sca _ (eqAgg_fn e.a) ?_ ?_
  · exact rfl
  exact And.intro trivial (AVle.refl _)
theorem szWorkerS_fn (L : List Wk) (n : Int) (h0 : 0 ≤ n) (h1 : n ≤ 1048576) (hL : L.length ≤ 9223372036854775807) (hk : ∀ e ∈ L, Wk.rd e) : VFn Tryz.prog 13 [wks L, .int .i64 n] (.int .i64 (szr (L.length + sumL Wk.size L) n)) := by
  refine VFn.introC Tryz.call13 Tryz.func13 rfl rfl ?_
  refine And.intro (inI64 (by omega) (by omega)) ?_
  refine Grd.intro (fun h2 => ?_) (fun h2 => ?_)
  · have h2 : n - (L.length : Int) < 0 := of_decide_eq_true h2
    rw [szr_no (by omega)]
    exact And.intro trivial (AVle.refl _)
  have h2 : ¬ n - (L.length : Int) < 0 := of_decide_eq_false h2
  refine LoopC.mk (fun i : Nat => i ≤ L.length ∧ ((L.length + sumL Wk.size (L.take i) : Nat) : Int) ≤ n) (fun i => [(0, wks L), (1, .int .i64 (n - ((L.length + sumL Wk.size (L.take i) : Nat) : Int))), (5, .int .i64 i)]) (fun _ => []) 0 (fun i => L.length - i) 0
    ⟨⟨Nat.zero_le _, by simp [sumL]; omega⟩, [], rfl, rfl, ⟨AVle.refl _, AVle.of_eq (congrArg (AV.int .i64) (by simp [sumL])), AVle.refl _, trivial⟩, trivial⟩ ?_
  intro i hi
  obtain ⟨hi, hs⟩ := hi
  refine Grd.intro (fun h3 => ?_) (fun h3 => ?_)
  · have hin : i < L.length := by have := of_decide_eq_true h3; omega
    have hsn := sum_snoc (f := Wk.size) hin
    have hle := sum_take_le (f := Wk.size) (L := L) (k := L.length - (i + 1)) (i := i + 1) (by omega)
    refine And.intro (by omega) ?_
    conv => whnf
    refine CallC.sca _ (szWorker_fn (ix L i) (n - ((L.length + sumL Wk.size (L.take i) : Nat) : Int)) (by omega) (by omega) (hk _ (getD_mem hin))) ?_ ?_
    · exact rfl
    by_cases hfit : ((Wk.size (ix L i) : Nat) : Int) ≤ n - ((L.length + sumL Wk.size (L.take i) : Nat) : Int)
    · rw [szr_yes hfit]
      refine Grd.intro (fun h4 => absurd (of_decide_eq_true h4) (by omega)) (fun _ => ?_)
      refine And.intro (inI64 (by omega) (by omega)) ?_
      exact ⟨i + 1, ⟨hin, by omega⟩, by omega, [], rfl, rfl, ⟨AVle.refl _, AVle.of_eq (congrArg (AV.int .i64) (by omega)), AVle.of_eq (congrArg (AV.int .i64) (by simp)), trivial⟩, trivial⟩
    · rw [szr_no hfit, szr_no (by omega)]
      exact And.intro trivial (AVle.refl _)
  · have : i = L.length := by have := of_decide_eq_false h3; omega
    subst this
    have e : L.take L.length = L := List.take_of_length_le (Nat.le_refl _)
    have hs' := hs
    rw [e] at hs'
    rw [szr_yes hs']
    exact And.intro trivial (AVle.of_eq (congrArg (AV.int .i64) (show n - ((L.length + sumL Wk.size (L.take L.length) : Nat) : Int) = _ by rw [e])))
theorem toWorkerS_fn (L : List Wk) (hL : L.length ≤ 1048576) (hs : ∀ e ∈ L, Wk.small e) : VFn Tryz.prog 22 [wks L] (wks L) := by
  refine VFn.introC Tryz.call22 Tryz.func22 rfl rfl ?_
  refine And.intro ⟨by omega, rfl, (show (152 : Int) * L.length ≤ 140737488355328 by omega), by omega⟩ ?_
  refine LoopC.mk (fun i : Nat => i ≤ L.length) (fun i => [(0, wks L), (3, .osl 0), (4, .int .i64 i)])
    (fun i => [(0, .arr 108 16 L.length (wr (fun i => (ix L i).row) (fun _ => [.int .i64 0, .int .i64 0, .int .i64 0, .int .i64 0, .int .i64 0, .int .i64 0, .int .i64 0, .int .i64 0, .str ⟨#[]⟩, .nilsl, .int .i64 0, .int .i64 0, .int .i64 0, .int .i64 0, .int .i64 0, .int .i64 0]) i))]) 1 (fun i => L.length - i) 0
    ⟨Nat.zero_le _, [(0, 0)], rfl, rfl, ⟨AVle.refl _, AVle.refl _, AVle.refl _, trivial⟩, ⟨MOle.arr rfl fun i hi => by rw [wr_ge (Nat.zero_le i)], trivial⟩⟩ ?_
  intro i hi
  refine Grd.intro (fun h2 => ?_) (fun h2 => ?_)
  · have hin : i < L.length := by have := of_decide_eq_true h2; omega
    refine And.intro (by omega) ?_
    conv => whnf
    refine CallC.nl _ (toWorker_fn (ix L i) (hs _ (getD_mem hin))) ?_ ?_
    · exact rfl
    refine And.intro (by omega) ?_
    refine And.intro (inI64 (by omega) (by omega)) ?_
    exact ⟨i + 1, hin, by omega, [(0, 0)], rfl, rfl, ⟨AVle.refl _, AVle.refl _, AVle.of_eq (congrArg (AV.int .i64) (by simp)), trivial⟩, ⟨MOle.arr rfl fun k hk => wr_next fun e => by subst e; rw [wr_ge (Nat.le_refl _)]; rfl, trivial⟩⟩
  · have : i = L.length := by have := of_decide_eq_false h2; omega
    subst this
    exact And.intro trivial (AVle.sl rfl fun k hk => wr_lt hk)
theorem eqWorkerS_fn (L : List Wk) (hL : L.length ≤ 1048576) (hs : ∀ e ∈ L, Wk.small e) : VFn Tryz.prog 31 [wks L, wks L] (.bool true) := by
  refine VFn.introC Tryz.call31 Tryz.func31 rfl rfl ?_
  refine Grd.intro (fun h => absurd h (by simp)) (fun _ => ?_)
  refine LoopC.mk (fun i : Nat => i ≤ L.length) (fun i => [(0, wks L), (1, wks L), (5, .int .i64 i)]) (fun _ => []) 0 (fun i => L.length - i) 0
    ⟨Nat.zero_le _, [], rfl, rfl, ⟨AVle.refl _, AVle.refl _, AVle.refl _, trivial⟩, trivial⟩ ?_
  intro i hi
  refine Grd.intro (fun h2 => ?_) (fun h2 => ?_)
  · have hin : i < L.length := by have := of_decide_eq_true h2; omega
    refine DrawC.mk 10 rfl (by kernel_rfl) ?_
    refine And.intro (by omega) ?_
    refine And.intro (by omega) ?_
    refine PCallC.sca _ (eqWorker_fn (ix L i) (hs _ (getD_mem hin))) rfl ?_
    refine And.intro (inI64 (by omega) (by omega)) ?_
    exact ⟨i + 1, hin, by omega, [], rfl, rfl, ⟨AVle.refl _, AVle.refl _, AVle.of_eq (congrArg (AV.int .i64) (by simp)), trivial⟩, trivial⟩
  · exact And.intro trivial (AVle.refl _)
theorem szIngesterS_fn (L : List Ig) (n : Int) (h0 : 0 ≤ n) (h1 : n ≤ 1048576) (hL : L.length ≤ 9223372036854775807) (hk : ∀ e ∈ L, Ig.rd e) : VFn Tryz.prog 14 [igs L, .int .i64 n] (.int .i64 (szr (L.length + sumL Ig.size L) n)) := by
  refine VFn.introC Tryz.call14 Tryz.func14 rfl rfl ?_
  refine And.intro (inI64 (by omega) (by omega)) ?_
  refine Grd.intro (fun h2 => ?_) (fun h2 => ?_)
  · have h2 : n - (L.length : Int) < 0 := of_decide_eq_true h2
    rw [szr_no (by omega)]
    exact And.intro trivial (AVle.refl _)
  have h2 : ¬ n - (L.length : Int) < 0 := of_decide_eq_false h2
  refine LoopC.mk (fun i : Nat => i ≤ L.length ∧ ((L.length + sumL Ig.size (L.take i) : Nat) : Int) ≤ n) (fun i => [(0, igs L), (1, .int .i64 (n - ((L.length + sumL Ig.size (L.take i) : Nat) : Int))), (5, .int .i64 i)]) (fun _ => []) 0 (fun i => L.length - i) 0
    ⟨⟨Nat.zero_le _, by simp [sumL]; omega⟩, [], rfl, rfl, ⟨AVle.refl _, AVle.of_eq (congrArg (AV.int .i64) (by simp [sumL])), AVle.refl _, trivial⟩, trivial⟩ ?_
  intro i hi
  obtain ⟨hi, hs⟩ := hi
  refine Grd.intro (fun h3 => ?_) (fun h3 => ?_)
  · have hin : i < L.length := by have := of_decide_eq_true h3; omega
    have hsn := sum_snoc (f := Ig.size) hin
    have hle := sum_take_le (f := Ig.size) (L := L) (k := L.length - (i + 1)) (i := i + 1) (by omega)
    refine And.intro (by omega) ?_
    conv => whnf
    refine CallC.sca _ (szIngester_fn (ix L i) (n - ((L.length + sumL Ig.size (L.take i) : Nat) : Int)) (by omega) (by omega) (hk _ (getD_mem hin))) ?_ ?_
    · exact rfl
    by_cases hfit : ((Ig.size (ix L i) : Nat) : Int) ≤ n - ((L.length + sumL Ig.size (L.take i) : Nat) : Int)
    · rw [szr_yes hfit]
      refine Grd.intro (fun h4 => absurd (of_decide_eq_true h4) (by omega)) (fun _ => ?_)
      refine And.intro (inI64 (by omega) (by omega)) ?_
      exact ⟨i + 1, ⟨hin, by omega⟩, by omega, [], rfl, rfl, ⟨AVle.refl _, AVle.of_eq (congrArg (AV.int .i64) (by omega)), AVle.of_eq (congrArg (AV.int .i64) (by simp)), trivial⟩, trivial⟩
    · rw [szr_no hfit, szr_no (by omega)]
      exact And.intro trivial (AVle.refl _)
  · have : i = L.length := by have := of_decide_eq_false h3; omega
    subst this
    have e : L.take L.length = L := List.take_of_length_le (Nat.le_refl _)
    have hs' := hs
    rw [e] at hs'
    rw [szr_yes hs']
    exact And.intro trivial (AVle.of_eq (congrArg (AV.int .i64) (show n - ((L.length + sumL Ig.size (L.take L.length) : Nat) : Int) = _ by rw [e])))
theorem toIngesterS_fn (L : List Ig) (hL : L.length ≤ 1048576) (hs : ∀ e ∈ L, Ig.small e) : VFn Tryz.prog 23 [igs L] (igs L) := by
  refine VFn.introC Tryz.call23 Tryz.func23 rfl rfl ?_
  refine And.intro ⟨by omega, rfl, (show (64 : Int) * L.length ≤ 140737488355328 by omega), by omega⟩ ?_
  refine LoopC.mk (fun i : Nat => i ≤ L.length) (fun i => [(0, igs L), (3, .osl 0), (4, .int .i64 i)])
    (fun i => [(0, .arr 111 6 L.length (wr (fun i => (ix L i).row) (fun _ => [.int .i64 0, .int .i64 0, .int .i64 0, .int .i64 0, .nilsl, .bool false]) i))]) 1 (fun i => L.length - i) 0
    ⟨Nat.zero_le _, [(0, 0)], rfl, rfl, ⟨AVle.refl _, AVle.refl _, AVle.refl _, trivial⟩, ⟨MOle.arr rfl fun i hi => by rw [wr_ge (Nat.zero_le i)], trivial⟩⟩ ?_
  intro i hi
  refine Grd.intro (fun h2 => ?_) (fun h2 => ?_)
  · have hin : i < L.length := by have := of_decide_eq_true h2; omega
    refine And.intro (by omega) ?_
    conv => whnf
    refine CallC.nl _ (toIngester_fn (ix L i) (hs _ (getD_mem hin))) ?_ ?_
    · exact rfl
    refine And.intro (by omega) ?_
    refine And.intro (inI64 (by omega) (by omega)) ?_
    exact ⟨i + 1, hin, by omega, [(0, 0)], rfl, rfl, ⟨AVle.refl _, AVle.refl _, AVle.of_eq (congrArg (AV.int .i64) (by simp)), trivial⟩, ⟨MOle.arr rfl fun k hk => wr_next fun e => by subst e; rw [wr_ge (Nat.le_refl _)]; rfl, trivial⟩⟩
  · have : i = L.length := by have := of_decide_eq_false h2; omega
    subst this
    exact And.intro trivial (AVle.sl rfl fun k hk => wr_lt hk)
theorem eqIngesterS_fn (L : List Ig) (hL : L.length ≤ 1048576) (hs : ∀ e ∈ L, Ig.small e) : VFn Tryz.prog 32 [igs L, igs L] (.bool true) := by
  refine VFn.introC Tryz.call32 Tryz.func32 rfl rfl ?_
  refine Grd.intro (fun h => absurd h (by simp)) (fun _ => ?_)
  refine LoopC.mk (fun i : Nat => i ≤ L.length) (fun i => [(0, igs L), (1, igs L), (5, .int .i64 i)]) (fun _ => []) 0 (fun i => L.length - i) 0
    ⟨Nat.zero_le _, [], rfl, rfl, ⟨AVle.refl _, AVle.refl _, AVle.refl _, trivial⟩, trivial⟩ ?_
  intro i hi
  refine Grd.intro (fun h2 => ?_) (fun h2 => ?_)
  · have hin : i < L.length := by have := of_decide_eq_true h2; omega
    refine DrawC.mk 10 rfl (by kernel_rfl) ?_
    refine And.intro (by omega) ?_
    refine And.intro (by omega) ?_
    refine PCallC.sca _ (eqIngester_fn (ix L i) (hs _ (getD_mem hin))) rfl ?_
    refine And.intro (inI64 (by omega) (by omega)) ?_
    exact ⟨i + 1, hin, by omega, [], rfl, rfl, ⟨AVle.refl _, AVle.refl _, AVle.of_eq (congrArg (AV.int .i64) (by simp)), trivial⟩, trivial⟩
  · exact And.intro trivial (AVle.refl _)
theorem szReaderS_fn (L : List Rr) (n : Int) (h0 : 0 ≤ n) (h1 : n ≤ 1048576) (hL : L.length ≤ 9223372036854775807) (hk : ∀ e ∈ L, Rr.rd e) : VFn Tryz.prog 15 [rrs L, .int .i64 n] (.int .i64 (szr (L.length + sumL Rr.size L) n)) := by
  refine VFn.introC Tryz.call15 Tryz.func15 rfl rfl ?_
  refine And.intro (inI64 (by omega) (by omega)) ?_
  refine Grd.intro (fun h2 => ?_) (fun h2 => ?_)
  · have h2 : n - (L.length : Int) < 0 := of_decide_eq_true h2
    rw [szr_no (by omega)]
    exact And.intro trivial (AVle.refl _)
  have h2 : ¬ n - (L.length : Int) < 0 := of_decide_eq_false h2
  refine LoopC.mk (fun i : Nat => i ≤ L.length ∧ ((L.length + sumL Rr.size (L.take i) : Nat) : Int) ≤ n) (fun i => [(0, rrs L), (1, .int .i64 (n - ((L.length + sumL Rr.size (L.take i) : Nat) : Int))), (5, .int .i64 i)]) (fun _ => []) 0 (fun i => L.length - i) 0
    ⟨⟨Nat.zero_le _, by simp [sumL]; omega⟩, [], rfl, rfl, ⟨AVle.refl _, AVle.of_eq (congrArg (AV.int .i64) (by simp [sumL])), AVle.refl _, trivial⟩, trivial⟩ ?_
  intro i hi
  obtain ⟨hi, hs⟩ := hi
  refine Grd.intro (fun h3 => ?_) (fun h3 => ?_)
  · have hin : i < L.length := by have := of_decide_eq_true h3; omega
    have hsn := sum_snoc (f := Rr.size) hin
    have hle := sum_take_le (f := Rr.size) (L := L) (k := L.length - (i + 1)) (i := i + 1) (by omega)
    refine And.intro (by omega) ?_
    conv => whnf
    refine CallC.sca _ (szReader_fn (ix L i) (n - ((L.length + sumL Rr.size (L.take i) : Nat) : Int)) (by omega) (by omega) (hk _ (getD_mem hin))) ?_ ?_
    · exact rfl
    by_cases hfit : ((Rr.size (ix L i) : Nat) : Int) ≤ n - ((L.length + sumL Rr.size (L.take i) : Nat) : Int)
    · rw [szr_yes hfit]
      refine Grd.intro (fun h4 => absurd (of_decide_eq_true h4) (by omega)) (fun _ => ?_)
      refine And.intro (inI64 (by omega) (by omega)) ?_
      exact ⟨i + 1, ⟨hin, by omega⟩, by omega, [], rfl, rfl, ⟨AVle.refl _, AVle.of_eq (congrArg (AV.int .i64) (by omega)), AVle.of_eq (congrArg (AV.int .i64) (by simp)), trivial⟩, trivial⟩
    · rw [szr_no hfit, szr_no (by omega)]
      exact And.intro trivial (AVle.refl _)
  · have : i = L.length := by have := of_decide_eq_false h3; omega
    subst this
    have e : L.take L.length = L := List.take_of_length_le (Nat.le_refl _)
    have hs' := hs
    rw [e] at hs'
    rw [szr_yes hs']
    exact And.intro trivial (AVle.of_eq (congrArg (AV.int .i64) (show n - ((L.length + sumL Rr.size (L.take L.length) : Nat) : Int) = _ by rw [e])))
theorem toReaderS_fn (L : List Rr) (hL : L.length ≤ 1048576) (hs : ∀ e ∈ L, Rr.small e) : VFn Tryz.prog 24 [rrs L] (rrs L) := by
  refine VFn.introC Tryz.call24 Tryz.func24 rfl rfl ?_
  refine And.intro ⟨by omega, rfl, (show (128 : Int) * L.length ≤ 140737488355328 by omega), by omega⟩ ?_
  refine LoopC.mk (fun i : Nat => i ≤ L.length) (fun i => [(0, rrs L), (3, .osl 0), (4, .int .i64 i)])
    (fun i => [(0, .arr 114 14 L.length (wr (fun i => (ix L i).row) (fun _ => [.int .i64 0, .int .i64 0, .int .i64 0, .int .i64 0, .int .i64 0, .int .i64 0, .int .i64 0, .nilsl, .int .i64 0, .int .i64 0, .int .i64 0, .int .i64 0, .int .i64 0, .int .i64 0]) i))]) 1 (fun i => L.length - i) 0
    ⟨Nat.zero_le _, [(0, 0)], rfl, rfl, ⟨AVle.refl _, AVle.refl _, AVle.refl _, trivial⟩, ⟨MOle.arr rfl fun i hi => by rw [wr_ge (Nat.zero_le i)], trivial⟩⟩ ?_
  intro i hi
  refine Grd.intro (fun h2 => ?_) (fun h2 => ?_)
  · have hin : i < L.length := by have := of_decide_eq_true h2; omega
    refine And.intro (by omega) ?_
    conv => whnf
    refine CallC.nl _ (toReader_fn (ix L i) (hs _ (getD_mem hin))) ?_ ?_
    · exact rfl
    refine And.intro (by omega) ?_
    refine And.intro (inI64 (by omega) (by omega)) ?_
    exact ⟨i + 1, hin, by omega, [(0, 0)], rfl, rfl, ⟨AVle.refl _, AVle.refl _, AVle.of_eq (congrArg (AV.int .i64) (by simp)), trivial⟩, ⟨MOle.arr rfl fun k hk => wr_next fun e => by subst e; rw [wr_ge (Nat.le_refl _)]; rfl, trivial⟩⟩
  · have : i = L.length := by have := of_decide_eq_false h2; omega
    subst this
    exact And.intro trivial (AVle.sl rfl fun k hk => wr_lt hk)
theorem eqReaderS_fn (L : List Rr) (hL : L.length ≤ 1048576) (hs : ∀ e ∈ L, Rr.small e) : VFn Tryz.prog 33 [rrs L, rrs L] (.bool true) := by
  refine VFn.introC Tryz.call33 Tryz.func33 rfl rfl ?_
  refine Grd.intro (fun h => absurd h (by simp)) (fun _ => ?_)
  refine LoopC.mk (fun i : Nat => i ≤ L.length) (fun i => [(0, rrs L), (1, rrs L), (5, .int .i64 i)]) (fun _ => []) 0 (fun i => L.length - i) 0
    ⟨Nat.zero_le _, [], rfl, rfl, ⟨AVle.refl _, AVle.refl _, AVle.refl _, trivial⟩, trivial⟩ ?_
  intro i hi
  refine Grd.intro (fun h2 => ?_) (fun h2 => ?_)
  · have hin : i < L.length := by have := of_decide_eq_true h2; omega
    refine DrawC.mk 10 rfl (by kernel_rfl) ?_
    refine And.intro (by omega) ?_
    refine And.intro (by omega) ?_
    refine PCallC.sca _ (eqReader_fn (ix L i) (hs _ (getD_mem hin))) rfl ?_
    refine And.intro (inI64 (by omega) (by omega)) ?_
    exact ⟨i + 1, hin, by omega, [], rfl, rfl, ⟨AVle.refl _, AVle.refl _, AVle.of_eq (congrArg (AV.int .i64) (by simp)), trivial⟩, trivial⟩
  · exact And.intro trivial (AVle.refl _)
theorem toAnswerS_fn (L : List An) (hL : L.length ≤ 1048576) (hs : ∀ e ∈ L, An.small e) : VFn Tryz.prog 26 [ans L] (ans L) := by
  refine VFn.introC Tryz.call26 Tryz.func26 rfl rfl ?_
  refine And.intro ⟨by omega, rfl, (show (80 : Int) * L.length ≤ 140737488355328 by omega), by omega⟩ ?_
  refine LoopC.mk (fun i : Nat => i ≤ L.length) (fun i => [(0, ans L), (3, .osl 0), (4, .int .i64 i)])
    (fun i => [(0, .arr 116 10 L.length (wr (fun i => (ix L i).row) (fun _ => [.int .i64 0, .int .i64 0, .int .i64 0, .int .i64 0, .int .i64 0, .int .i64 0, .int .i64 0, .int .i64 0, .int .i64 0, .int .i64 0]) i))]) 1 (fun i => L.length - i) 0
    ⟨Nat.zero_le _, [(0, 0)], rfl, rfl, ⟨AVle.refl _, AVle.refl _, AVle.refl _, trivial⟩, ⟨MOle.arr rfl fun i hi => by rw [wr_ge (Nat.zero_le i)], trivial⟩⟩ ?_
  intro i hi
  refine Grd.intro (fun h2 => ?_) (fun h2 => ?_)
  · have hin : i < L.length := by have := of_decide_eq_true h2; omega
    refine And.intro (by omega) ?_
    conv => whnf
    refine CallC.nl _ (toAnswer_fn (ix L i) (hs _ (getD_mem hin))) ?_ ?_
    · exact rfl
    refine And.intro (by omega) ?_
    refine And.intro (inI64 (by omega) (by omega)) ?_
    exact ⟨i + 1, hin, by omega, [(0, 0)], rfl, rfl, ⟨AVle.refl _, AVle.refl _, AVle.of_eq (congrArg (AV.int .i64) (by simp)), trivial⟩, ⟨MOle.arr rfl fun k hk => wr_next fun e => by subst e; rw [wr_ge (Nat.le_refl _)]; rfl, trivial⟩⟩
  · have : i = L.length := by have := of_decide_eq_false h2; omega
    subst this
    exact And.intro trivial (AVle.sl rfl fun k hk => wr_lt hk)
theorem eqAnswerS_fn (L : List An) (hL : L.length ≤ 1048576) (hs : ∀ e ∈ L, An.small e) : VFn Tryz.prog 35 [ans L, ans L] (.bool true) := by
  refine VFn.introC Tryz.call35 Tryz.func35 rfl rfl ?_
  refine Grd.intro (fun h => absurd h (by simp)) (fun _ => ?_)
  refine LoopC.mk (fun i : Nat => i ≤ L.length) (fun i => [(0, ans L), (1, ans L), (5, .int .i64 i)]) (fun _ => []) 0 (fun i => L.length - i) 0
    ⟨Nat.zero_le _, [], rfl, rfl, ⟨AVle.refl _, AVle.refl _, AVle.refl _, trivial⟩, trivial⟩ ?_
  intro i hi
  refine Grd.intro (fun h2 => ?_) (fun h2 => ?_)
  · have hin : i < L.length := by have := of_decide_eq_true h2; omega
    refine DrawC.mk 10 rfl (by kernel_rfl) ?_
    refine And.intro (by omega) ?_
    refine And.intro (by omega) ?_
    refine PCallC.sca _ (eqAnswer_fn (ix L i) (hs _ (getD_mem hin))) rfl ?_
    refine And.intro (inI64 (by omega) (by omega)) ?_
    exact ⟨i + 1, hin, by omega, [], rfl, rfl, ⟨AVle.refl _, AVle.refl _, AVle.of_eq (congrArg (AV.int .i64) (by simp)), trivial⟩, trivial⟩
  · exact And.intro trivial (AVle.refl _)
end Go.Proofs.YtijokkaeofagoaaGreatDoor
set_option linter.unusedVariables false
set_option linter.constructorNameAsVariable false
set_option linter.unusedSimpArgs false
set_option maxRecDepth 20000
namespace Go.Proofs.YtijokkaeofagoaaGreatDoor
open Go Go.Vw

structure Fl where
  st : Sto
  clk : Int
  k0 : Int
  k1 : Int
  k2 : Int
  k3 : Int
  k4 : Int
  k5 : Int
  k6 : Int
  ws : List Wk
  gs : List Ig
  rs : List Rr
  ac : List Smp
  an : List An
def Fl.row (s : Fl) : List AV := [obs s.st.os, .int .i64 s.st.next, .int .i64 s.clk, .int .i64 s.k0, .int .i64 s.k1, .int .i64 s.k2, .int .i64 s.k3, .int .i64 s.k4, .int .i64 s.k5, .int .i64 s.k6, wks s.ws, igs s.gs, rrs s.rs, smps s.ac, ans s.an]
def Fl.av (s : Fl) : AV := .agg s.row
def Fl.sk (s : Fl) : List AV := [.int .i64 s.k0, .int .i64 s.k1, .int .i64 s.k2, .int .i64 s.k3, .int .i64 s.k4, .int .i64 s.k5, .int .i64 s.k6]
structure FlIn (s : Fl) : Prop where
  st : StoIn s.st
  ws : s.ws.length ≤ 9223372036854775807
  wr : ∀ e ∈ s.ws, Wk.rd e
  gs : s.gs.length ≤ 9223372036854775807
  gr : ∀ e ∈ s.gs, Ig.rd e
  rs : s.rs.length ≤ 9223372036854775807
  rr : ∀ e ∈ s.rs, Rr.rd e
  ac : s.ac.length ≤ 9223372036854775807
  an : s.an.length ≤ 9223372036854775807
  ck : IntKind.i64.min ≤ s.clk ∧ s.clk ≤ IntKind.i64.max
  k0 : IntKind.i64.min ≤ s.k0 ∧ s.k0 ≤ IntKind.i64.max
  k1 : IntKind.i64.min ≤ s.k1 ∧ s.k1 ≤ IntKind.i64.max
  k2 : IntKind.i64.min ≤ s.k2 ∧ s.k2 ≤ IntKind.i64.max
  k3 : IntKind.i64.min ≤ s.k3 ∧ s.k3 ≤ IntKind.i64.max
  k4 : IntKind.i64.min ≤ s.k4 ∧ s.k4 ≤ IntKind.i64.max
  k5 : IntKind.i64.min ≤ s.k5 ∧ s.k5 ≤ IntKind.i64.max
  k6 : IntKind.i64.min ≤ s.k6 ∧ s.k6 ≤ IntKind.i64.max
def flN (s : Fl) : Nat := stoN s.st + ((s.ws.length + sumL Wk.size s.ws) + ((s.gs.length + sumL Ig.size s.gs) + ((s.rs.length + sumL Rr.size s.rs) + (s.ac.length + s.an.length))))
theorem szStoreN_fn (s : Sto) (h : StoIn s) (n : Int) (h0 : 0 ≤ n) (h1 : n ≤ 1048576) : VFn Tryz.prog 12 [s.av, .int .i64 n] (.int .i64 (szr (stoN s) n)) := by
  unfold stoN
  refine VFn.introC Tryz.call12 Tryz.func12 rfl rfl ?_
  conv => whnf
  refine CallC.sca _ (szObjectS_fn s.os n h0 h1 h.len h.sz) ?_ ?_
  · exact rfl
  by_cases f1 : ((s.os.length + sumL Ob.size s.os : Nat) : Int) ≤ n
  · rw [szr_yes f1]
    refine Grd.intro (fun h2 => absurd (of_decide_eq_true h2) (by omega)) (fun _ => ?_)
    exact And.intro trivial (AVle.refl _)
  · rw [szr_no f1]
    exact And.intro trivial (AVle.refl _)
theorem szFleet_fn (s : Fl) (n : Int) (h0 : 0 ≤ n) (h1 : n ≤ 1048576) (h : FlIn s) : VFn Tryz.prog 5 [s.av, .int .i64 n] (.int .i64 (szr (flN s) n)) := by
  have es : flN s = stoN s.st + ((s.ws.length + sumL Wk.size s.ws) + ((s.gs.length + sumL Ig.size s.gs) + ((s.rs.length + sumL Rr.size s.rs) + (s.ac.length + s.an.length)))) := rfl
  refine VFn.introC Tryz.call5 Tryz.func5 rfl rfl ?_
  conv => whnf
  refine CallC.sca _ (szStoreN_fn s.st h.st (n) (by omega) (by omega)) ?_ ?_
  · exact rfl
  by_cases f0 : ((stoN s.st : Nat) : Int) ≤ n
  · rw [szr_yes f0]
    refine Grd.intro (fun h2 => absurd (of_decide_eq_true h2) (by omega)) (fun _ => ?_)
    conv => whnf
    refine CallC.sca _ (szWorkerS_fn s.ws (n - ((stoN s.st : Nat) : Int)) (by omega) (by omega) h.ws h.wr) ?_ ?_
    · exact rfl
    by_cases f1 : ((s.ws.length + sumL Wk.size s.ws : Nat) : Int) ≤ n - ((stoN s.st : Nat) : Int)
    · rw [szr_yes f1]
      refine Grd.intro (fun h2 => absurd (of_decide_eq_true h2) (by omega)) (fun _ => ?_)
      conv => whnf
      refine CallC.sca _ (szIngesterS_fn s.gs (n - ((stoN s.st : Nat) : Int) - ((s.ws.length + sumL Wk.size s.ws : Nat) : Int)) (by omega) (by omega) h.gs h.gr) ?_ ?_
      · exact rfl
      by_cases f2 : ((s.gs.length + sumL Ig.size s.gs : Nat) : Int) ≤ n - ((stoN s.st : Nat) : Int) - ((s.ws.length + sumL Wk.size s.ws : Nat) : Int)
      · rw [szr_yes f2]
        refine Grd.intro (fun h2 => absurd (of_decide_eq_true h2) (by omega)) (fun _ => ?_)
        conv => whnf
        refine CallC.sca _ (szReaderS_fn s.rs (n - ((stoN s.st : Nat) : Int) - ((s.ws.length + sumL Wk.size s.ws : Nat) : Int) - ((s.gs.length + sumL Ig.size s.gs : Nat) : Int)) (by omega) (by omega) h.rs h.rr) ?_ ?_
        · exact rfl
        by_cases f3 : ((s.rs.length + sumL Rr.size s.rs : Nat) : Int) ≤ n - ((stoN s.st : Nat) : Int) - ((s.ws.length + sumL Wk.size s.ws : Nat) : Int) - ((s.gs.length + sumL Ig.size s.gs : Nat) : Int)
        · rw [szr_yes f3]
          refine Grd.intro (fun h2 => absurd (of_decide_eq_true h2) (by omega)) (fun _ => ?_)
          conv => whnf
          refine CallC.sca _ (szSampleSN_fn s.ac (n - ((stoN s.st : Nat) : Int) - ((s.ws.length + sumL Wk.size s.ws : Nat) : Int) - ((s.gs.length + sumL Ig.size s.gs : Nat) : Int) - ((s.rs.length + sumL Rr.size s.rs : Nat) : Int)) (by omega) (by omega) h.ac) ?_ ?_
          · exact rfl
          by_cases f4 : ((s.ac.length : Nat) : Int) ≤ n - ((stoN s.st : Nat) : Int) - ((s.ws.length + sumL Wk.size s.ws : Nat) : Int) - ((s.gs.length + sumL Ig.size s.gs : Nat) : Int) - ((s.rs.length + sumL Rr.size s.rs : Nat) : Int)
          · rw [szr_yes f4]
            refine Grd.intro (fun h2 => absurd (of_decide_eq_true h2) (by omega)) (fun _ => ?_)
            conv => whnf
            refine CallC.sca _ (szAnswerS_fn s.an (n - ((stoN s.st : Nat) : Int) - ((s.ws.length + sumL Wk.size s.ws : Nat) : Int) - ((s.gs.length + sumL Ig.size s.gs : Nat) : Int) - ((s.rs.length + sumL Rr.size s.rs : Nat) : Int) - ((s.ac.length : Nat) : Int)) (by omega) (by omega) h.an) ?_ ?_
            · exact rfl
            by_cases f5 : ((s.an.length : Nat) : Int) ≤ n - ((stoN s.st : Nat) : Int) - ((s.ws.length + sumL Wk.size s.ws : Nat) : Int) - ((s.gs.length + sumL Ig.size s.gs : Nat) : Int) - ((s.rs.length + sumL Rr.size s.rs : Nat) : Int) - ((s.ac.length : Nat) : Int)
            · rw [szr_yes f5]
              refine Grd.intro (fun h2 => absurd (of_decide_eq_true h2) (by omega)) (fun _ => ?_)
              rw [szr_yes (k := flN s) (by omega)]
              exact And.intro trivial (AVle.of_eq (congrArg (AV.int .i64) (by omega)))
            · rw [szr_no f5, szr_no (k := flN s) (by omega)]
              exact And.intro trivial (AVle.refl _)
          · rw [szr_no f4, szr_no (k := flN s) (by omega)]
            exact And.intro trivial (AVle.refl _)
        · rw [szr_no f3, szr_no (k := flN s) (by omega)]
          exact And.intro trivial (AVle.refl _)
      · rw [szr_no f2, szr_no (k := flN s) (by omega)]
        exact And.intro trivial (AVle.refl _)
    · rw [szr_no f1, szr_no (k := flN s) (by omega)]
      exact And.intro trivial (AVle.refl _)
  · rw [szr_no f0, szr_no (k := flN s) (by omega)]
    exact And.intro trivial (AVle.refl _)
structure Fl.small (s : Fl) : Prop where
  st : s.st.os.length ≤ 1048576
  sk : ∀ e ∈ s.st.os, e.key.length ≤ 1048576
  ws : s.ws.length ≤ 1048576
  wr : ∀ e ∈ s.ws, Wk.small e
  wk : ∀ e ∈ s.ws, e.job.key.length ≤ 1048576 ∧ ∀ x ∈ e.ins, x.key.length ≤ 1048576
  gs : s.gs.length ≤ 1048576
  gr : ∀ e ∈ s.gs, Ig.small e
  rs : s.rs.length ≤ 1048576
  rr : ∀ e ∈ s.rs, Rr.small e
  rk : ∀ e ∈ s.rs, ∀ x ∈ e.left, x.key.length ≤ 1048576
  ac : s.ac.length ≤ 1048576
  an : s.an.length ≤ 1048576
theorem Fl.small_of {s : Fl} (h : (flN s : Int) ≤ 1048576) : s.small := by
  unfold flN at h
  have hst : (stoN s.st : Int) ≤ 1048576 := by omega
  have q := Sto_small hst
  refine ⟨q.1, q.2.1, by omega, fun e he => ?_, fun e he => ?_, by omega, fun e he => ?_, by omega, fun e he => ?_, fun e he x hx => ?_, by omega, by omega⟩
  · have := sum_mem (f := Wk.size) he
    have e' : Wk.size e = e.job.key.length + (e.ins.length + sumL En.size e.ins) := rfl
    unfold Wk.small; omega
  · have := sum_mem (f := Wk.size) he
    have e' : Wk.size e = e.job.key.length + (e.ins.length + sumL En.size e.ins) := rfl
    refine ⟨by omega, fun x hx => ?_⟩
    have := sum_mem (f := En.size) hx
    have e2 : En.size x = x.key.length := rfl
    omega
  · have := sum_mem (f := Ig.size) he
    have e' : Ig.size e = e.b.length := rfl
    unfold Ig.small; omega
  · have := sum_mem (f := Rr.size) he
    have e' : Rr.size e = e.left.length + sumL En.size e.left := rfl
    unfold Rr.small; omega
  · have := sum_mem (f := Rr.size) he
    have e' : Rr.size e = e.left.length + sumL En.size e.left := rfl
    have := sum_mem (f := En.size) hx
    have e2 : En.size x = x.key.length := rfl
    omega
theorem toIntA7_fn (k0 k1 k2 k3 k4 k5 k6 : Int) : VFn Tryz.prog 21 [.agg [.int .i64 k0, .int .i64 k1, .int .i64 k2, .int .i64 k3, .int .i64 k4, .int .i64 k5, .int .i64 k6]] (.agg [.int .i64 k0, .int .i64 k1, .int .i64 k2, .int .i64 k3, .int .i64 k4, .int .i64 k5, .int .i64 k6]) := by
  refine VFn.introC Tryz.call21 Tryz.func21 rfl rfl ?_
  refine LoopC.rounds 8 ?_
  iterate 7 (refine And.intro (by decide) ?_; refine And.intro (by decide) ?_; refine And.intro (inI64 (by omega) (by omega)) ?_)
  exact And.intro trivial (AVle.refl _)
theorem eqIntA7_fn (k0 k1 k2 k3 k4 k5 k6 : Int) : VFn Tryz.prog 30 [.agg [.int .i64 k0, .int .i64 k1, .int .i64 k2, .int .i64 k3, .int .i64 k4, .int .i64 k5, .int .i64 k6], .agg [.int .i64 k0, .int .i64 k1, .int .i64 k2, .int .i64 k3, .int .i64 k4, .int .i64 k5, .int .i64 k6]] (.bool true) := by
  refine VFn.introC Tryz.call30 Tryz.func30 rfl rfl ?_
  refine LoopC.rounds 8 ?_
  iterate 7 (refine DrawC.mk 7 rfl (by kernel_rfl) ?_; refine And.intro (by decide) ?_; refine And.intro (by decide) ?_; refine Grd.intro (fun h => absurd h (by simp)) (fun _ => ?_); refine And.intro (inI64 (by omega) (by omega)) ?_)
  exact And.intro trivial (AVle.refl _)
theorem toFleet_fn (s : Fl) (h : s.small) : VFn Tryz.prog 7 [s.av] s.av := by
  refine VFn.introC Tryz.call7 Tryz.func7 rfl rfl ?_
  conv => whnf
  refine CallC.nl _ (toStore_fn s.st h.st) ?_ ?_
  · exact rfl
  conv => whnf
  refine CallC.sca _ (toIntA7_fn s.k0 s.k1 s.k2 s.k3 s.k4 s.k5 s.k6) ?_ ?_
  · exact rfl
  conv => whnf
  refine CallC.nl _ (toWorkerS_fn s.ws h.ws h.wr) ?_ ?_
  · exact rfl
  conv => whnf
  refine CallC.nl _ (toIngesterS_fn s.gs h.gs h.gr) ?_ ?_
  · exact rfl
  conv => whnf
  refine CallC.nl _ (toReaderS_fn s.rs h.rs h.rr) ?_ ?_
  · exact rfl
  conv => whnf
  refine CallC.nl _ (toSampleS_fn s.ac h.ac) ?_ ?_
  · exact rfl
  conv => whnf
  refine CallC.nl _ (toAnswerS_fn s.an h.an (fun _ _ => trivial)) ?_ ?_
  · exact rfl
  exact And.intro trivial (AVle.refl _)
theorem eqFleet_fn (s : Fl) (h : s.small) : VFn Tryz.prog 9 [s.av, s.av] (.bool true) := by
  refine VFn.introC Tryz.call9 Tryz.func9 rfl rfl ?_
  conv => whnf
  refine CallC.sca _ (eqStore_fn s.st h.st) ?_ ?_
  · exact rfl
  refine Grd.intro (fun h => absurd h (by simp)) (fun _ => ?_)
  conv => whnf
  refine CallC.sca _ (eqIntA7_fn s.k0 s.k1 s.k2 s.k3 s.k4 s.k5 s.k6) ?_ ?_
  · exact rfl
  conv => whnf
  refine CallC.sca _ (eqWorkerS_fn s.ws h.ws h.wr) ?_ ?_
  · exact rfl
  conv => whnf
  refine CallC.sca _ (eqIngesterS_fn s.gs h.gs h.gr) ?_ ?_
  · exact rfl
  conv => whnf
  refine CallC.sca _ (eqReaderS_fn s.rs h.rs h.rr) ?_ ?_
  · exact rfl
  conv => whnf
  refine CallC.sca _ (eqSampleS_fn s.ac h.ac) ?_ ?_
  · exact rfl
  conv => whnf
  refine CallC.sca _ (eqAnswerS_fn s.an h.an (fun _ _ => trivial)) ?_ ?_
  · exact rfl
  exact And.intro trivial (AVle.refl _)
end Go.Proofs.YtijokkaeofagoaaGreatDoor
set_option linter.unusedVariables false
set_option linter.constructorNameAsVariable false
set_option linter.unusedSimpArgs false
set_option maxRecDepth 20000
namespace Go.Proofs.YtijokkaeofagoaaGreatDoor
open Go Go.Vw

abbrev nums (L : List Int) : AV := .sl 1 L.length fun i => [.int .i64 (ix L i)]
theorem isId0 (n : Int) : VFn Tryz.prog 126 [.int .i64 n] (.bool (within n 0 9)) := by
  refine VFn.introC Tryz.call126 Tryz.func126 rfl rfl ?_
  conv => whnf
  refine CallC.sca _ (within_fn _ _ _) ?_ ?_
  · exact rfl
  exact And.intro trivial (AVle.refl _)
theorem isUntil0 (n : Int) : VFn Tryz.prog 132 [.int .i64 n] (.bool (within n 0 200000)) := by
  refine VFn.introC Tryz.call132 Tryz.func132 rfl rfl ?_
  conv => whnf
  refine CallC.sca _ (within_fn _ _ _) ?_ ?_
  · exact rfl
  exact And.intro trivial (AVle.refl _)
theorem isCode0 (n : Int) : VFn Tryz.prog 133 [.int .i64 n] (.bool (within n 0 19)) := by
  refine VFn.introC Tryz.call133 Tryz.func133 rfl rfl ?_
  conv => whnf
  refine CallC.sca _ (within_fn _ _ _) ?_ ?_
  · exact rfl
  exact And.intro trivial (AVle.refl _)
def gotOK (a : Ag) : Bool := a.ok && decide (a.c ≤ 1000)
theorem isGot_fn (a : Ag) : VFn Tryz.prog 129 [a.av] (.bool (gotOK a)) := by
  refine VFn.introC Tryz.call129 Tryz.func129 rfl rfl ?_
  repeat' (conv => whnf
           first
             | (refine Grd.intro (fun h => ?_) (fun h => ?_); rotate_left; focus (exfalso; simp_all; done))
             | (refine Grd.intro (fun h => ?_) (fun h => ?_); focus (exfalso; simp_all; done))
             | refine Grd.intro (fun h => ?_) (fun h => ?_)
             | (refine CallC.sca _ (AggOK_fn a) ?_ ?_; focus (exact rfl))
             | (refine And.intro trivial (AVle.of_eq (congrArg AV.bool ?_)); focus (simp_all [gotOK]; done))
             | (refine And.intro trivial (AVle.of_eq (congrArg AV.bool ?_)); focus (simp only [gotOK, *, cond_true, cond_false, Bool.true_and, Bool.and_true, Bool.false_and, Bool.and_false, Bool.not_true, Bool.not_false, Bool.true_or, Bool.or_true, Bool.false_or, Bool.or_false, if_true, ite_true, reduceIte]; done))
             | (refine And.intro trivial (AVle.of_eq (congrArg AV.bool ?_)); focus (simp_all [gotOK]; intros; omega))
             | (refine And.intro trivial (AVle.of_eq (congrArg AV.bool ?_)); focus (simp only [cond_true, cond_false, Bool.not_eq_true', Bool.not_eq_false'] at *; simp only [gotOK, *, cond_true, cond_false, Bool.true_and, Bool.and_true, Bool.false_and, Bool.and_false, Bool.not_true, Bool.not_false, Bool.true_or, Bool.or_true, Bool.false_or, Bool.or_false, if_true, ite_true, reduceIte]; done))
             | fail)

def An.ok (a : An) : Bool := within a.tier 0 2 && (isRange a.f a.t && (within a.code 0 19 && a.a.ok))
theorem answerOK_fn (a : An) : VFn Tryz.prog 74 [a.av] (.bool a.ok) := by
  refine VFn.introC Tryz.call74 Tryz.func74 rfl rfl ?_
  repeat' (conv => whnf
           first
             | (refine Grd.intro (fun h => ?_) (fun h => ?_); rotate_left; focus (exfalso; simp_all; done))
             | (refine Grd.intro (fun h => ?_) (fun h => ?_); focus (exfalso; simp_all; done))
             | refine Grd.intro (fun h => ?_) (fun h => ?_)
             | (refine CallC.sca _ (isTier_fn a.tier) ?_ ?_; focus (exact rfl))
             | (refine CallC.sca _ (isRange_fn a.f a.t) ?_ ?_; focus (exact rfl))
             | (refine CallC.sca _ (isCode0 a.code) ?_ ?_; focus (exact rfl))
             | (refine CallC.sca _ (AggOK_fn a.a) ?_ ?_; focus (exact rfl))
             | (refine And.intro trivial (AVle.of_eq (congrArg AV.bool ?_)); focus (simp_all [An.ok]; done))
             | (refine And.intro trivial (AVle.of_eq (congrArg AV.bool ?_)); focus (simp only [An.ok, *, cond_true, cond_false, Bool.true_and, Bool.and_true, Bool.false_and, Bool.and_false, Bool.not_true, Bool.not_false, Bool.true_or, Bool.or_true, Bool.false_or, Bool.or_false, if_true, ite_true, reduceIte]; done))
             | (refine And.intro trivial (AVle.of_eq (congrArg AV.bool ?_)); focus (simp_all [An.ok]; intros; omega))
             | (refine And.intro trivial (AVle.of_eq (congrArg AV.bool ?_)); focus (simp only [cond_true, cond_false, Bool.not_eq_true', Bool.not_eq_false'] at *; simp only [An.ok, *, cond_true, cond_false, Bool.true_and, Bool.and_true, Bool.false_and, Bool.and_false, Bool.not_true, Bool.not_false, Bool.true_or, Bool.or_true, Bool.false_or, Bool.or_false, if_true, ite_true, reduceIte]; done))
             | fail)
theorem IndexAn_1 (L : List An) (hL : L.length ≤ 9223372036854775807) (F : Nat) (row : List AV) (p : An → Bool) (hp : ∀ e ∈ L, VFn Tryz.prog F [e.av, .eptr row 0] (.bool (p e))) :
    VFn Tryz.prog 193 [ans L, .fn (.func F) [] [.eptr row 0]] (.int .i64 (fi p L)) := by
  refine VFn.introC Tryz.call193 Tryz.func193 rfl rfl ?_
  refine LoopC.mk (fun i : Nat => i ≤ L.length ∧ ∀ j, j < i → p (ix L j) = false) (fun i => [(0, ans L), (1, .fn (.func F) [] [.eptr row 0]), (7, .int .i64 L.length), (8, .int .i64 i)]) (fun _ => []) 0 (fun i => L.length - i) 0
    ⟨⟨Nat.zero_le _, fun j hj => absurd hj (Nat.not_lt_zero j)⟩, [], rfl, rfl, ⟨AVle.refl _, AVle.refl _, AVle.refl _, AVle.refl _, trivial⟩, trivial⟩ ?_
  intro i hi
  refine Grd.intro (fun h2 => ?_) (fun h2 => ?_)
  · have hin : i < L.length := by have := of_decide_eq_true h2; omega
    refine And.intro (by omega) ?_
    conv => whnf
    refine CallC.sca _ (hp (ix L i) (getD_mem hin)) ?_ ?_
    · exact rfl
    refine Grd.intro (fun h3 => ?_) (fun h3 => ?_)
    · exact And.intro trivial (AVle.of_eq (congrArg (AV.int .i64) (fi_at hin hi.2 h3).symm))
    · refine And.intro (inI64 (by omega) (by omega)) ?_
      exact ⟨i + 1, ⟨hin, fun j hj => by
        rcases Nat.lt_or_ge j i with h' | h'
        · exact hi.2 j h'
        · rw [show j = i by omega]; exact h3⟩, by omega, [], rfl, rfl, ⟨AVle.refl _, AVle.refl _, AVle.refl _, AVle.of_eq (congrArg (AV.int .i64) (by simp)), trivial⟩, trivial⟩
  · have : i = L.length := by have := of_decide_eq_false h2; omega
    subst this
    exact And.intro trivial (AVle.of_eq (congrArg (AV.int .i64) (fi_none hi.2).symm))
theorem ContainsAn_1 (L : List An) (hL : L.length ≤ 9223372036854775807) (F : Nat) (row : List AV) (p : An → Bool) (hp : ∀ e ∈ L, VFn Tryz.prog F [e.av, .eptr row 0] (.bool (p e))) :
    VFn Tryz.prog 138 [ans L, .fn (.func F) [] [.eptr row 0]] (.bool (L.any p)) := by
  refine VFn.introC Tryz.call138 Tryz.func138 rfl rfl ?_
  conv => whnf
  refine CallC.sca _ (IndexAn_1 L hL F row p hp) ?_ ?_
  · exact rfl
  exact And.intro trivial (AVle.of_eq (congrArg AV.bool (show decide (0 ≤ fi p L) = _ from fi_any)))
theorem allAn1_fn (e : An) (G : Nat) (p : An → Bool) (hp : VFn Tryz.prog G [e.av] (.bool (p e))) : VFn Tryz.prog 139 [e.av, .eptr [.fn (.func G) [] []] 0] (.bool (!p e)) := by
  refine VFn.introC Tryz.call139 Tryz.func139 rfl rfl ?_
  conv => whnf
  refine CallC.sca _ (hp) ?_ ?_
  · exact rfl
  exact And.intro trivial (AVle.refl _)
theorem allAn_fn (L : List An) (hL : L.length ≤ 9223372036854775807) (G : Nat) (p : An → Bool) (hp : ∀ e ∈ L, VFn Tryz.prog G [e.av] (.bool (p e))) : VFn Tryz.prog 73 [ans L, .fn (.func G) [] []] (.bool (L.all p)) := by
  refine VFn.introC Tryz.call73 Tryz.func73 rfl rfl ?_
  conv => whnf
  refine CallC.sca _ (ContainsAn_1 L hL 139 [.fn (.func G) [] []] (fun e => !p e) (fun e he => allAn1_fn e G p (hp e he))) ?_ ?_
  · exact rfl
  exact And.intro trivial (AVle.of_eq (congrArg AV.bool (show (!L.any fun e => !p e) = _ by rw [Bool.eq_iff_iff]; simp)))
theorem IndexIn_1 (L : List Int) (hL : L.length ≤ 9223372036854775807) (F : Nat) (row : List AV) (p : Int → Bool) (hp : ∀ e ∈ L, VFn Tryz.prog F [.int .i64 e, .eptr row 0] (.bool (p e))) :
    VFn Tryz.prog 190 [nums L, .fn (.func F) [] [.eptr row 0]] (.int .i64 (fi p L)) := by
  refine VFn.introC Tryz.call190 Tryz.func190 rfl rfl ?_
  refine LoopC.mk (fun i : Nat => i ≤ L.length ∧ ∀ j, j < i → p (ix L j) = false) (fun i => [(0, nums L), (1, .fn (.func F) [] [.eptr row 0]), (7, .int .i64 L.length), (8, .int .i64 i)]) (fun _ => []) 0 (fun i => L.length - i) 0
    ⟨⟨Nat.zero_le _, fun j hj => absurd hj (Nat.not_lt_zero j)⟩, [], rfl, rfl, ⟨AVle.refl _, AVle.refl _, AVle.refl _, AVle.refl _, trivial⟩, trivial⟩ ?_
  intro i hi
  refine Grd.intro (fun h2 => ?_) (fun h2 => ?_)
  · have hin : i < L.length := by have := of_decide_eq_true h2; omega
    refine And.intro (by omega) ?_
    conv => whnf
    refine CallC.sca _ (hp (ix L i) (getD_mem hin)) ?_ ?_
    · exact rfl
    refine Grd.intro (fun h3 => ?_) (fun h3 => ?_)
    · exact And.intro trivial (AVle.of_eq (congrArg (AV.int .i64) (fi_at hin hi.2 h3).symm))
    · refine And.intro (inI64 (by omega) (by omega)) ?_
      exact ⟨i + 1, ⟨hin, fun j hj => by
        rcases Nat.lt_or_ge j i with h' | h'
        · exact hi.2 j h'
        · rw [show j = i by omega]; exact h3⟩, by omega, [], rfl, rfl, ⟨AVle.refl _, AVle.refl _, AVle.refl _, AVle.of_eq (congrArg (AV.int .i64) (by simp)), trivial⟩, trivial⟩
  · have : i = L.length := by have := of_decide_eq_false h2; omega
    subst this
    exact And.intro trivial (AVle.of_eq (congrArg (AV.int .i64) (fi_none hi.2).symm))
theorem ContainsIn_1 (L : List Int) (hL : L.length ≤ 9223372036854775807) (F : Nat) (row : List AV) (p : Int → Bool) (hp : ∀ e ∈ L, VFn Tryz.prog F [.int .i64 e, .eptr row 0] (.bool (p e))) :
    VFn Tryz.prog 124 [nums L, .fn (.func F) [] [.eptr row 0]] (.bool (L.any p)) := by
  refine VFn.introC Tryz.call124 Tryz.func124 rfl rfl ?_
  conv => whnf
  refine CallC.sca _ (IndexIn_1 L hL F row p hp) ?_ ?_
  · exact rfl
  exact And.intro trivial (AVle.of_eq (congrArg AV.bool (show decide (0 ≤ fi p L) = _ from fi_any)))
theorem allIn1_fn (e : Int) (G : Nat) (p : Int → Bool) (hp : VFn Tryz.prog G [.int .i64 e] (.bool (p e))) : VFn Tryz.prog 125 [.int .i64 e, .eptr [.fn (.func G) [] []] 0] (.bool (!p e)) := by
  refine VFn.introC Tryz.call125 Tryz.func125 rfl rfl ?_
  conv => whnf
  refine CallC.sca _ (hp) ?_ ?_
  · exact rfl
  exact And.intro trivial (AVle.refl _)
theorem allIn_fn (L : List Int) (hL : L.length ≤ 9223372036854775807) (G : Nat) (p : Int → Bool) (hp : ∀ e ∈ L, VFn Tryz.prog G [.int .i64 e] (.bool (p e))) : VFn Tryz.prog 66 [nums L, .fn (.func G) [] []] (.bool (L.all p)) := by
  refine VFn.introC Tryz.call66 Tryz.func66 rfl rfl ?_
  conv => whnf
  refine CallC.sca _ (ContainsIn_1 L hL 125 [.fn (.func G) [] []] (fun e => !p e) (fun e he => allIn1_fn e G p (hp e he))) ?_ ?_
  · exact rfl
  exact And.intro trivial (AVle.of_eq (congrArg AV.bool (show (!L.any fun e => !p e) = _ by rw [Bool.eq_iff_iff]; simp)))
theorem allEnC1_fn (e : En) (G : Nat) (row : List AV) (p : En → Bool) (hp : VFn Tryz.prog G [e.av, .eptr row 0] (.bool (p e))) : VFn Tryz.prog 143 [e.av, .eptr [.fn (.func G) [] [.eptr row 0]] 0] (.bool (!p e)) := by
  refine VFn.introC Tryz.call143 Tryz.func143 rfl rfl ?_
  conv => whnf
  refine CallC.sca _ (hp) ?_ ?_
  · exact rfl
  exact And.intro trivial (AVle.refl _)
theorem allEnC_fn (L : List En) (hL : L.length ≤ 9223372036854775807) (G : Nat) (row : List AV) (p : En → Bool) (hp : ∀ e ∈ L, VFn Tryz.prog G [e.av, .eptr row 0] (.bool (p e))) : VFn Tryz.prog 76 [ents L, .fn (.func G) [] [.eptr row 0]] (.bool (L.all p)) := by
  refine VFn.introC Tryz.call76 Tryz.func76 rfl rfl ?_
  conv => whnf
  refine CallC.sca _ (ContainsEn_1 L hL 143 [.fn (.func G) [] [.eptr row 0]] (fun e => !p e) (fun e he => allEnC1_fn e G row p (hp e he))) ?_ ?_
  · exact rfl
  exact And.intro trivial (AVle.of_eq (congrArg AV.bool (show (!L.any fun e => !p e) = _ by rw [Bool.eq_iff_iff]; simp)))
theorem isLongAn_fn (L : List An) : VFn Tryz.prog 72 [ans L] (.bool (decide (4096 < L.length))) := by
  refine VFn.introC Tryz.call72 Tryz.func72 rfl rfl ?_
  exact And.intro trivial (AVle.of_eq (congrArg AV.bool (decide_eq_decide.2 (by omega))))
def Wk.ok (w : Wk) : Bool := within w.id 0 9 && (within w.ph 0 7 && (within w.tok 0 999999 && (!(decide (2 ≤ w.ph) && decide (w.tok = 0)) && ((!within w.ph 4 6 || (w.job.ok && (decide (w.job.tok = w.tok) && (decide (w.job.k = 3) || (decide (w.ph = 6) && decide (w.job.k = 4)))))) && (decide ((w.ins.length : Int) ≤ 300) && (w.ins.all En.ok && gotOK w.got))))))
theorem WorkerOK_fn (w : Wk) (h : w.ins.length ≤ 1048576) : VFn Tryz.prog 68 [w.av] (.bool w.ok) := by
  refine VFn.introC Tryz.call68 Tryz.func68 rfl rfl ?_
  repeat' (conv => whnf
           first
             | (refine Grd.intro (fun h => ?_) (fun h => ?_); rotate_left; focus (exfalso; simp_all; done))
             | (refine Grd.intro (fun h => ?_) (fun h => ?_); focus (exfalso; simp_all; done))
             | refine Grd.intro (fun h => ?_) (fun h => ?_)
             | (refine CallC.sca _ (isId0 w.id) ?_ ?_; focus (exact rfl))
             | (refine CallC.sca _ (within_fn w.ph 0 7) ?_ ?_; focus (exact rfl))
             | (refine CallC.sca _ (within_fn w.ph 4 6) ?_ ?_; focus (exact rfl))
             | (refine CallC.sca _ (within_fn w.tok 0 999999) ?_ ?_; focus (exact rfl))
             | (refine CallC.sca _ (RecordOK_fn w.job) ?_ ?_; focus (exact rfl))
             | (refine CallC.sca _ (allEn_fn w.ins (by omega) 128 En.ok (fun e _ => entryOK_fn e)) ?_ ?_; focus (exact rfl))
             | (refine CallC.sca _ (isGot_fn w.got) ?_ ?_; focus (exact rfl))
             | (refine And.intro trivial (AVle.of_eq (congrArg AV.bool ?_)); focus (simp_all [Wk.ok, -List.all_eq_true, -List.all_eq_false]; done))
             | (refine And.intro trivial (AVle.of_eq (congrArg AV.bool ?_)); focus (simp only [Wk.ok, *, cond_true, cond_false, Bool.true_and, Bool.and_true, Bool.false_and, Bool.and_false, Bool.not_true, Bool.not_false, Bool.true_or, Bool.or_true, Bool.false_or, Bool.or_false, if_true, ite_true, reduceIte]; done))
             | (refine And.intro trivial (AVle.of_eq (congrArg AV.bool ?_)); focus (simp_all [Wk.ok, -List.all_eq_true, -List.all_eq_false]; intros; omega))
             | (refine And.intro trivial (AVle.of_eq (congrArg AV.bool ?_)); focus (simp only [cond_true, cond_false, Bool.not_eq_true', Bool.not_eq_false'] at *; simp only [Wk.ok, *, cond_true, cond_false, Bool.true_and, Bool.and_true, Bool.false_and, Bool.and_false, Bool.not_true, Bool.not_false, Bool.true_or, Bool.or_true, Bool.false_or, Bool.or_false, if_true, ite_true, reduceIte]; done))
             | fail)
end Go.Proofs.YtijokkaeofagoaaGreatDoor
