/- Contracts of functions that the claim reaches, and the plain law of what they compute; each theorem bears its own conditions. -/
import Derived.Test.YtgiaaaejobhngaaGreatDoorQ5
import Derived.Test.YtgiaaaejobhngaaGreatDoorQ6
import Derived.Test.YtgiaaaejobhngaaGreatDoorQ3
import Derived.Test.YtgiaaaejobhngaaGreatDoorV46
set_option linter.unusedVariables false
set_option linter.constructorNameAsVariable false
set_option linter.unusedSimpArgs false
set_option maxRecDepth 20000
namespace Go.Proofs.YtgiaaaejobhngaaGreatDoor
open Go Go.Vw

def tch (x y : Int) (e : En) : Bool := decide ((if x > e.f then x else e.f) < (if y < e.t then y else e.t))
def adj : List En → Prop
  | e :: e' :: r => e.t = e'.f ∧ adj (e' :: r)
  | _ => True
theorem adj_ix : ∀ {M : List En}, adj M → ∀ i, i + 1 < M.length → (ix M i).t = (ix M (i + 1)).f
  | [], _, i, h => by simp at h
  | [e], _, i, h => by simp at h
  | e :: e' :: r, h, 0, _ => h.1
  | e :: e' :: r, h, i + 1, hi => adj_ix (M := e' :: r) h.2 i (by simpa using hi)
/-- what comes behind touches nothing -/
theorem cov_no {x y : Int} : ∀ {L : List En} {a b : Int}, runs L a = some b → (∀ e ∈ L, e.f < e.t) → y ≤ a → L.filter (tch x y) = []
  | [], a, b, _, _, _ => rfl
  | e :: r, a, b, h, hL, hy => by
    unfold runs at h
    split at h
    · rename_i ha
      have he := hL e (by simp)
      have : tch x y e = false := by
        unfold tch
        apply decide_eq_false
        split <;> split <;> omega
      rw [List.filter_cons_of_neg (by rw [this]; simp)]
      exact cov_no h (fun e he => hL e (by simp [he])) (by omega)
    · cases h
theorem runs_ge : ∀ {L : List En} {a b : Int}, runs L a = some b → (∀ e ∈ L, e.f < e.t) → a ≤ b
  | [], a, b, h, _ => by simp [runs] at h; omega
  | e :: r, a, b, h, hL => by
    unfold runs at h
    split at h
    · have := runs_ge h (fun e he => hL e (by simp [he]))
      have := hL e (by simp)
      omega
    · cases h
/-- from a range's midst on -/
theorem cov_mid {x y : Int} : ∀ {L : List En} {a b : Int}, runs L a = some b → (∀ e ∈ L, e.f < e.t) → x ≤ a → a < y → y ≤ b →
    adj (L.filter (tch x y)) ∧ ∃ e r, L.filter (tch x y) = e :: r ∧ e.f = a ∧ ∃ q l, L.filter (tch x y) = q ++ [l] ∧ y ≤ l.t
  | [], a, b, h, _, _, h1, h2 => by simp [runs] at h; omega
  | e :: r, a, b, h, hL, hx, h1, h2 => by
    unfold runs at h
    split at h
    · rename_i ha
      have he := hL e (by simp)
      have ht : tch x y e = true := by
        unfold tch
        apply decide_eq_true
        split <;> split <;> omega
      rw [List.filter_cons_of_pos ht]
      have hr : ∀ e ∈ r, e.f < e.t := fun e he => hL e (by simp [he])
      by_cases hy : y ≤ e.t
      · rw [cov_no h hr hy]
        exact ⟨trivial, e, [], rfl, ha, [], e, rfl, hy⟩
      · obtain ⟨q1, e', r', q2, q3, p, l, q4, q5⟩ := cov_mid (x := x) (a := e.t) h hr (by omega) (by omega) h2
        rw [q2] at q1 q4 ⊢
        refine ⟨⟨q3.symm, q1⟩, e, _, rfl, ha, e :: p, l, ?_, q5⟩
        rw [q4]; rfl
    · cases h
theorem cov {x y : Int} (hxy : x < y) : ∀ {L : List En} {a b : Int}, runs L a = some b → (∀ e ∈ L, e.f < e.t) → a ≤ x → y ≤ b →
    adj (L.filter (tch x y)) ∧ ∃ e r, L.filter (tch x y) = e :: r ∧ e.f ≤ x ∧ ∃ q l, L.filter (tch x y) = q ++ [l] ∧ y ≤ l.t
  | [], a, b, h, _, _, h2 => by simp [runs] at h; omega
  | e :: r, a, b, h, hL, hx, h2 => by
    unfold runs at h
    split at h
    · rename_i ha
      have he := hL e (by simp)
      have hr : ∀ e ∈ r, e.f < e.t := fun e he => hL e (by simp [he])
      by_cases hex : e.t ≤ x
      · have : tch x y e = false := by
          unfold tch
          apply decide_eq_false
          split <;> split <;> omega
        rw [List.filter_cons_of_neg (by rw [this]; simp)]
        exact cov hxy h hr hex h2
      · have ht : tch x y e = true := by
          unfold tch
          apply decide_eq_true
          split <;> split <;> omega
        rw [List.filter_cons_of_pos ht]
        by_cases hy : y ≤ e.t
        · rw [cov_no h hr hy]
          exact ⟨trivial, e, [], rfl, by omega, [], e, rfl, hy⟩
        · obtain ⟨q1, e', r', q2, q3, p, l, q4, q5⟩ := cov_mid (x := x) (a := e.t) h hr (by omega) (by omega) h2
          rw [q2] at q1 q4 ⊢
          refine ⟨⟨q3.symm, q1⟩, e, _, rfl, by omega, e :: p, l, ?_, q5⟩
          rw [q4]; rfl
    · cases h
/-- the same in numbers -/
theorem cov_ix {x y : Int} (hxy : x < y) {L : List En} {a b : Int} (h : runs L a = some b) (hL : ∀ e ∈ L, e.f < e.t) (ha : a ≤ x) (hb : y ≤ b) (M : List En) (hM : M = L.filter (tch x y)) :
    0 < M.length ∧ (ix M 0).f ≤ x ∧ y ≤ (ix M (M.length - 1)).t ∧ ∀ i, i + 1 < M.length → (ix M i).t = (ix M (i + 1)).f := by
  obtain ⟨q1, e, r, q2, q3, p, l, q4, q5⟩ := cov hxy h hL ha hb
  rw [← hM] at q1 q2 q4
  refine ⟨by rw [q2]; simp, by rw [q2]; exact q3, ?_, adj_ix q1⟩
  rw [q4]
  have : ix (p ++ [l]) ((p ++ [l]).length - 1) = l := by
    rw [ix_app_r (by simp)]
    simp
  rw [this]; exact q5
/-- the low ends stay behind the next tier's high ends -/
def Low (s : Sta) : Prop := s.l0 ≤ s.h1 ∧ s.l1 ≤ s.h2
theorem app_low {s : Sta} {r : Rc} (h : Low s) (hr : r.ok = true) : Low (s.app r) := by
  obtain ⟨h0, h1⟩ := h
  unfold Sta.app
  split
  · rename_i ht
    obtain ⟨k, tok, tier, f, t, key⟩ := r
    rcases kinds hr with ⟨rfl, rfl⟩ | rfl | ⟨rfl, hk, hf⟩ | ⟨rfl, hk⟩ | rfl
    · rw [if_pos (.inl rfl)]
      exact ⟨h0, h1⟩
    · rw [if_neg (by simp), if_pos rfl]
      exact ⟨h0, h1⟩
    · rw [if_pos (.inr rfl)]
      have := takes_f ht hr (.inr rfl)
      have hf2 : f = s.hi tier := this.1
      have hft : f < t := by
        have := this.2
        simp [Rc.en, En.ok] at this
        exact this.2.2.2
      rcases hk with rfl | rfl
      · have hf2 : f = s.h1 := hf2
        exact ⟨show s.l0 ≤ t by omega, h1⟩
      · have hf2 : f = s.h2 := hf2
        exact ⟨h0, show s.l1 ≤ t by omega⟩
    · rw [if_neg (by simp), if_neg (by simp), if_pos rfl]
      have e4 : s.takes ⟨4, tok, tier, f, t, key⟩ = (decide (tok = s.fence) && (headIs (ofT s.es tier) ⟨tier, f, t, key⟩ && (decide (tier = 2) || decide (t ≤ s.hi (tier + 1))))) := rfl
      rw [e4] at ht
      simp only [Bool.and_eq_true, Bool.or_eq_true, decide_eq_true_eq] at ht
      rcases hk with rfl | rfl | rfl
      · have : t ≤ s.h1 := by
          rcases ht.2.2 with h | h
          · cases h
          · exact h
        exact ⟨this, h1⟩
      · have : t ≤ s.h2 := by
          rcases ht.2.2 with h | h
          · cases h
          · exact h
        exact ⟨h0, this⟩
      · exact ⟨h0, h1⟩
    · rw [if_neg (by simp), if_neg (by simp), if_neg (by simp)]
      exact ⟨h0, h1⟩
  · exact ⟨h0, h1⟩
end Go.Proofs.YtgiaaaejobhngaaGreatDoor
set_option linter.unusedVariables false
set_option linter.constructorNameAsVariable false
set_option linter.unusedSimpArgs false
set_option maxRecDepth 20000
namespace Go.Proofs.YtgiaaaejobhngaaGreatDoor
open Go Go.Vw

theorem l06Empty0 : VFn Tryz.prog 83 [] sta0.av := by
  refine VFn.introC Tryz.call83 Tryz.func83 rfl rfl ?_
  exact And.intro trivial (AVle.agg (AVsle.cons (AVle.refl _) (AVsle.cons (AVle.refl _) (AVsle.cons (AVle.sl rfl fun i hi => absurd hi (Nat.not_lt_zero i)) (AVsle.cons (AVle.sl rfl fun i hi => absurd hi (Nat.not_lt_zero i)) (AVsle.refl _))))))
theorem seq_ex {α : Type} (M : Nat) (I : Nat → α → Prop) (T : α → α → Prop) (a0 : α) (h0 : I 0 a0) (hs : ∀ n a, n < M → I n a → ∃ b, T a b ∧ I (n + 1) b) :
    ∃ f : Nat → α, f 0 = a0 ∧ (∀ n, n ≤ M → I n (f n)) ∧ ∀ n, n < M → T (f n) (f (n + 1)) := by
  classical
  let g : Nat → α → α := fun n a => if h : ∃ b, T a b ∧ I (n + 1) b then Classical.choose h else a
  let f : Nat → α := fun n => Nat.rec a0 (fun n a => g n a) n
  have hf : ∀ n, f (n + 1) = g n (f n) := fun n => rfl
  have hg : ∀ n a, (h : ∃ b, T a b ∧ I (n + 1) b) → T a (g n a) ∧ I (n + 1) (g n a) := fun n a h => by
    show T a (if h : ∃ b, T a b ∧ I (n + 1) b then Classical.choose h else a) ∧ I (n + 1) (if h : ∃ b, T a b ∧ I (n + 1) b then Classical.choose h else a)
    rw [dif_pos h]
    exact Classical.choose_spec h
  have hI : ∀ n, n ≤ M → I n (f n) := by
    intro n
    induction n with
    | zero => intro _; exact h0
    | succ n ih => intro h; rw [hf]; exact (hg n _ (hs n _ (by omega) (ih (by omega)))).2
  exact ⟨f, rfl, hI, fun n h => by rw [hf]; exact (hg n _ (hs n _ h (hI n (by omega)))).1⟩
theorem app_fence (s : Sta) (r : Rc) : (s.app r).fence = s.fence ∨ (s.app r).fence = r.tok := by
  unfold Sta.app
  split
  · split
    · exact .inl (lift_es _ _ _).2.2.2
    · split
      · exact .inr rfl
      · split
        · exact .inl (by unfold Sta.lower; split <;> (try split) <;> rfl)
        · exact .inl rfl
  · exact .inl rfl
theorem size_fn (s : Src) (n : Int) (h : s.ok 100000000) (hn : 1 ≤ n ∧ n ≤ 1000) : ∃ v : Int, (1 ≤ v ∧ v ≤ n) ∧ FnM Tryz.prog 184 1 [.bptr 0 0, .int .i64 n] [(0, .box s.row)] (.int .i64 v) [(0, .box s.row)] 1 := by
  have hc := h.2.2
  have q := tdiv_b (n := (s.code.length : Int)) (m := 12) (by omega) (by decide)
  refine ⟨if n < 1 + (s.code.length : Int).tdiv 12 then n else 1 + (s.code.length : Int).tdiv 12, by split <;> omega, ?_⟩
  refine FnM.introC Tryz.call184 Tryz.func184 rfl rfl ?_
  refine And.intro ⟨by decide, inI64 (by omega) (by omega)⟩ ?_
  refine And.intro (inI64 (by omega) (by omega)) ?_
  exact And.intro trivial ⟨[(0, 0)], rfl, AVle.refl _, ⟨MOle.refl _, trivial⟩⟩
theorem src_ok1 (code : List UInt8) (h : code.length ≤ 1048577) : (srcOf code).ok 0 := by
  have := tmod_b (n := (code.length : Int)) (m := 1000) (by omega) (by omega)
  exact ⟨⟨by simp [srcOf], by simp [srcOf]⟩, ⟨this.1, by have := this.2; simp only [srcOf]; omega⟩, by simp only [srcOf]; omega⟩
theorem l00Source_fn1 (code : List UInt8) (h : code.length ≤ 1048577) : FnM Tryz.prog 61 0 [byts code] [] (.bptr 0 0) [(0, .box (srcOf code).row)] 1 := by
  refine FnM.introC Tryz.call61 Tryz.func61 rfl rfl ?_
  refine And.intro (by decide) ?_
  exact And.intro trivial ⟨[(0, 0)], rfl, AVle.refl _, ⟨MOle.refl _, trivial⟩⟩
structure Dr (i : Nat) (x : Sta) : Prop where
  ok : x.ok = true
  sq : x.seq ≤ i
  fe : x.fence ≤ 3 * (i : Int)
  len : x.es.length + x.ts.length ≤ i
theorem stateL_fn (s : Src) {k : Int} (h : s.ok k) (hk : 0 ≤ k ∧ k ≤ 100000) : ∃ (x : Sta) (q : Src), (Dr 30 x ∧ Low x) ∧ q.ok (k + 1000) ∧ FnM Tryz.prog 110 1 [.bptr 0 0] [(0, .box s.row)] x.av [(0, .box q.row)] 1 := by
  obtain ⟨z, hz, cz⟩ := size_fn s 24 (wk h (by omega)) (by decide)
  obtain ⟨M, s1, hM, k1, c1⟩ := draw s h (by omega) (z + 6) (by omega)
  obtain ⟨f, f0, fI, fT⟩ := seq_ex (α := Sta × Src) M (fun i y => (Dr i y.1 ∧ Low y.1) ∧ y.2.ok (k + 3 + 30 * i))
    (fun a b => ∃ r : Rc, r.key.length ≤ 1000 ∧ FnM Tryz.prog 109 1 [.bptr 0 0, a.1.av] [(0, .box a.2.row)] r.av [(0, .box b.2.row)] 1 ∧ b.1 = if r.ok = true then a.1.app r else a.1) (sta0, s1)
    ⟨⟨⟨(staOK_iff _).2 staOK0, show (0 : Int) ≤ 0 by decide, show (0 : Int) ≤ 0 by decide, show (0 : Nat) ≤ 0 by decide⟩, show (0 : Int) ≤ 0 by decide, show (0 : Int) ≤ 0 by decide⟩, wk k1 (by omega)⟩ (fun n a hn hI => by
      obtain ⟨⟨⟨h1, h2, h3, h4⟩, hlo⟩, h5⟩ := hI
      obtain ⟨r, q, k2, hr, ht, c⟩ := record_fn a.2 a.1 h5 (by omega) h1 (by omega) (by omega)
      refine ⟨(if r.ok = true then a.1.app r else a.1, q), ⟨r, hr, c, rfl⟩, ?_, wk k2 (by omega)⟩
      by_cases ho : r.ok = true
      · rw [if_pos ho]
        have a1 := app_fence a.1 r
        have a2 := appL_len a.1 r
        have a3 := app_seq a.1 r
        refine ⟨⟨(staOK_iff _).2 (app_staOK ((staOK_iff _).1 h1) ho (by omega) (by omega)), show (a.1.app r).seq ≤ _ by omega, ?_, show (a.1.app r).es.length + (a.1.app r).ts.length ≤ _ by omega⟩, app_low hlo ho⟩
        show (a.1.app r).fence ≤ _
        rcases a1 with a1 | a1 <;> omega
      · rw [if_neg ho]
        exact ⟨⟨h1, show a.1.seq ≤ _ by omega, show a.1.fence ≤ _ by omega, show a.1.es.length + a.1.ts.length ≤ _ by omega⟩, hlo⟩)
  obtain ⟨⟨⟨g1, g2, g3, g4⟩, glo⟩, g5⟩ := fI M (Nat.le_refl _)
  refine ⟨(f M).1, (f M).2, ⟨⟨g1, by omega, by omega, by omega⟩, glo⟩, wk g5 (by omega), ?_⟩
  refine FnM.introC Tryz.call110 Tryz.func110 rfl rfl ?_
  conv => whnf
  refine CallC.nl _ (l06Empty0) ?_ ?_
  · exact rfl
  conv => whnf
  refine CallC.k [(0, 0)] (cz) rfl rfl (AVsle.refl _) ⟨MOle.refl _, trivial⟩ rfl ?_
  refine And.intro (inI64 (by omega) (by omega)) ?_
  conv => whnf
  refine CallC.k [(0, 0)] (c1) rfl rfl (AVsle.refl _) ⟨MOle.refl _, trivial⟩ rfl ?_
  refine LoopC.mk (fun i : Nat => i ≤ M) (fun i => [(0, .bptr 0 0), (2, .bptr 1 0), (3, .bptr 2 0), (4, .int .i64 ((M : Int) - i))])
    (fun i => [(0, .box (f i).2.row), (1, .box [.int .i64 0, .int .i64 0, .nilsl, .nilsl, .int .i64 0, .int .i64 0, .int .i64 0, .int .i64 0, .int .i64 0, .int .i64 0]), (2, .box (f i).1.row)]) 3 (fun i => M - i) 0
    ⟨Nat.zero_le _, [(0, 0), (1, 1), (2, 2)], rfl, rfl, ⟨AVle.refl _, AVle.refl _, AVle.refl _, AVle.of_eq (congrArg (AV.int .i64) (by simp)), trivial⟩, ⟨MOle.of_eq (by rw [f0]; rfl), MOle.refl _, MOle.of_eq (by rw [f0]; rfl), trivial⟩⟩ ?_
  intro i hi
  refine Grd.intro (fun j1 => ?_) (fun j1 => ?_)
  · have hiM : i < M := by have := of_decide_eq_true j1; omega
    obtain ⟨⟨⟨y1, y2, y3, y4⟩, _⟩, y5⟩ := fI i hi
    obtain ⟨r, hr, c, hn⟩ := fT i hiM
    have hO := (staOK_iff _).1 y1
    have cr := specRecordOK_fn r (by omega)
    conv => whnf
    refine CallC.k [(0, 0)] (c) rfl rfl (AVsle.refl _) ⟨MOle.refl _, trivial⟩ rfl ?_
    by_cases ho : r.ok = true
    · rw [if_pos ho] at hn
      rw [ho] at cr
      conv => whnf
      refine CallC.sca _ (cr) ?_ ?_
      · exact rfl
      conv => whnf
      refine CallC.nl _ (l06Apply_fn (f i).1 (by omega) ⟨hO.q.1, by omega⟩ hO.nd r ho) ?_ ?_
      · exact rfl
      refine And.intro (inI64 (by omega) (by omega)) ?_
      exact ⟨i + 1, hiM, by omega, [(0, 0), (1, 1), (2, 2)], rfl, rfl, ⟨AVle.refl _, AVle.refl _, AVle.refl _, AVle.of_eq (congrArg (AV.int .i64) (show (M : Int) - i - 1 = _ by omega)), trivial⟩, ⟨MOle.refl _, MOle.refl _, MOle.of_eq (by rw [hn]; rfl), trivial⟩⟩
    · rw [if_neg ho] at hn
      rw [show r.ok = false by simpa using ho] at cr
      conv => whnf
      refine CallC.sca _ (cr) ?_ ?_
      · exact rfl
      refine And.intro (inI64 (by omega) (by omega)) ?_
      exact ⟨i + 1, hiM, by omega, [(0, 0), (1, 1), (2, 2)], rfl, rfl, ⟨AVle.refl _, AVle.refl _, AVle.refl _, AVle.of_eq (congrArg (AV.int .i64) (show (M : Int) - i - 1 = _ by omega)), trivial⟩, ⟨MOle.refl _, MOle.refl _, MOle.of_eq (by rw [hn]; rfl), trivial⟩⟩
  · have : i = M := by have := of_decide_eq_false j1; omega
    subst this
    conv => whnf
    refine CallC.nl _ ((l06Own_own (f i).1 (by omega) (by omega)).vfn) ?_ ?_
    · exact rfl
    exact And.intro trivial ⟨[(0, 0)], rfl, AVle.refl _, ⟨MOle.refl _, trivial⟩⟩
theorem StateDrawnL_fn (code : List UInt8) (h : code.length ≤ 1048577) : ∃ x : Sta, (Dr 30 x ∧ Low x) ∧ VFn Tryz.prog 42 [byts code] x.av := by
  obtain ⟨x, q, hx, hq, c⟩ := stateL_fn (srcOf code) (src_ok1 code h) (by omega)
  refine ⟨x, hx, ?_⟩
  refine VFn.introC Tryz.call42 Tryz.func42 rfl rfl ?_
  conv => whnf
  refine CallC.k [] (l00Source_fn1 code h) rfl rfl (AVsle.refl _) trivial rfl ?_
  conv => whnf
  refine CallC.k [(1, 0)] (c) rfl rfl (AVsle.refl _) ⟨MOle.refl _, trivial⟩ rfl ?_
  exact And.intro trivial (AVle.refl _)
end Go.Proofs.YtgiaaaejobhngaaGreatDoor
set_option linter.unusedVariables false
set_option linter.constructorNameAsVariable false
set_option linter.unusedSimpArgs false
set_option maxRecDepth 20000
namespace Go.Proofs.YtgiaaaejobhngaaGreatDoor
open Go Go.Vw

end Go.Proofs.YtgiaaaejobhngaaGreatDoor
