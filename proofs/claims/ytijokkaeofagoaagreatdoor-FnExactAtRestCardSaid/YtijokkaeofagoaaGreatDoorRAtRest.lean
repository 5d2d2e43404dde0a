/- laws.FnExactAtRest returns true for every input, and its arguments read as before. The package tables that the library reads are as the program's text lays them (tied). -/
import Derived.Test.YtijokkaeofagoaaGreatDoorQ11
import Derived.Test.YtijokkaeofagoaaGreatDoorGL
import Derived.Test.YtijokkaeofagoaaGreatDoorRows
import Derived.Test.YtijokkaeofagoaaGreatDoorCards
import Derived.Test.YtijokkaeofagoaaGreatDoorTie
import Derived.ProofKit
import Derived.LaidMore
import Derived.OpenShut
import Derived.Stop.Joined
import Derived.SevenTiedAt
namespace Go.Proofs.YtijokkaeofagoaaGreatDoor
open Go Go.Vw Go.ChangeShapes Go.WideShapes Go.ChangeAt Go.RowKit
set_option linter.unusedVariables false
set_option linter.constructorNameAsVariable false
set_option linter.unusedSimpArgs false

section
variable {H : Type} {enc : TypeId × Value → H} {w : World}
theorem rd_int : Rd enc Tryz.prog w 3 (fun l => ∃ n, l = [.int .i64 n] ∧ IntKind.i64.min ≤ n ∧ n ≤ IntKind.i64.max) := Rd.int Tryz.underlying3
theorem rd_str : Rd enc Tryz.prog w 9 (fun l => ∃ s, l = [.str (B s)] ∧ s.length ≤ maxLen) := Rd.strB Tryz.underlying9
theorem rd_ob : Rd enc Tryz.prog w 164 (fun l => ∃ e : Ob, l = e.row ∧ (e.key.length ≤ maxLen ∧ e.data.length ≤ maxLen)) :=
  (Rd.struct Tryz.underlying164 (by kernel_rfl) (.cons rd_str (.cons rd_int (.cons rd_str .nil)))).weak fun l h => by
    obtain ⟨_, _, rfl, ⟨k, rfl, h1⟩, _, _, rfl, ⟨v, rfl, _⟩, _, _, rfl, ⟨d, rfl, h2⟩, rfl⟩ := h
    exact ⟨⟨k, v, d⟩, rfl, h1, h2⟩
theorem rd_obs : Rd enc Tryz.prog w 22 (fun l => ∃ L : List Ob, l = [obs L] ∧ L.length ≤ maxLen ∧ ∀ e ∈ L, (e.key.length ≤ maxLen ∧ e.data.length ≤ maxLen)) := Rd.listQ Tryz.underlying22 (by kernel_rfl) (by decide) rd_ob
theorem rd_store : Rd enc Tryz.prog w 24 (fun l => ∃ s : Sto, l = s.row ∧ StoIn s) :=
  (Rd.struct Tryz.underlying24 (by kernel_rfl) (.cons rd_obs (.cons rd_int .nil))).weak fun l h => by
    obtain ⟨_, _, rfl, ⟨L, rfl, h1, h2⟩, _, _, rfl, ⟨n, rfl, h3, h4⟩, rfl⟩ := h
    refine ⟨⟨L, n⟩, rfl, ⟨?_, ?_, ⟨h3, h4⟩⟩⟩
    · unfold maxLen at h1; show L.length ≤ _; omega
    · intro e he; have := h2 e he; unfold maxLen at this; exact ⟨by omega, by omega⟩
theorem rd_rec : Rd enc Tryz.prog w 90 (fun l => ∃ r : Rc, l = r.row ∧ r.key.length ≤ 9223372036854775807) :=
  (Rd.struct Tryz.underlying90 (by kernel_rfl) (.cons rd_int (.cons rd_int (.cons rd_int (.cons rd_int (.cons rd_int (.cons rd_str .nil))))))).weak fun l h => by
    obtain ⟨_, _, rfl, ⟨k, rfl, _⟩, _, _, rfl, ⟨tok, rfl, _⟩, _, _, rfl, ⟨tier, rfl, _⟩, _, _, rfl, ⟨f, rfl, _⟩, _, _, rfl, ⟨t, rfl, _⟩, _, _, rfl, ⟨s, rfl, hL⟩, rfl⟩ := h
    exact ⟨⟨k, tok, tier, f, t, s⟩, rfl, by unfold maxLen at hL; show s.length ≤ _; omega⟩
theorem rd_en : Rd enc Tryz.prog w 215 (fun l => ∃ e : En, l = e.row ∧ e.size ≤ maxLen) :=
  (Rd.struct Tryz.underlying215 (by kernel_rfl) (.cons rd_int (.cons rd_int (.cons rd_int (.cons rd_str .nil))))).weak fun l h => by
    obtain ⟨_, _, rfl, ⟨tier, rfl, _⟩, _, _, rfl, ⟨f, rfl, _⟩, _, _, rfl, ⟨t, rfl, _⟩, _, _, rfl, ⟨s, rfl, hL⟩, rfl⟩ := h
    exact ⟨⟨tier, f, t, s⟩, rfl, hL⟩
theorem rd_ens : Rd enc Tryz.prog w 91 (fun l => ∃ L : List En, l = [ents L] ∧ L.length ≤ maxLen ∧ ∀ e ∈ L, e.size ≤ maxLen) := Rd.listQ Tryz.underlying91 (by kernel_rfl) (by decide) rd_en
theorem rd_smp : Rd enc Tryz.prog w 130 (fun l => ∃ b : Smp, l = b.row) :=
  (Rd.struct Tryz.underlying130 (by kernel_rfl) (.cons rd_int (.cons rd_int .nil))).weak fun l h => by
    obtain ⟨_, _, rfl, ⟨t, rfl, _⟩, _, _, rfl, ⟨v, rfl, _⟩, rfl⟩ := h
    exact ⟨⟨t, v⟩, rfl⟩
theorem rd_smps : Rd enc Tryz.prog w 29 (fun l => ∃ L : List Smp, l = [smps L] ∧ L.length ≤ maxLen) := Rd.list Tryz.underlying29 (by kernel_rfl) (by decide) rd_smp
theorem rd_bool : Rd enc Tryz.prog w 4 (fun l => ∃ b, l = [.bool b]) := Rd.bool Tryz.underlying4
def Ag.cellz (a : Ag) : List AV := [.int .i64 a.c, .int .i64 a.s, .int .i64 a.mn, .int .i64 a.mx, .int .i64 a.f, .int .i64 a.l]
theorem rd_ag : Rd enc Tryz.prog w 93 (fun l => ∃ a : Ag, l = a.cellz) :=
  (Rd.struct Tryz.underlying93 (by kernel_rfl) (.cons rd_int (.cons rd_int (.cons rd_int (.cons rd_int (.cons rd_int (.cons rd_int .nil))))))).weak fun l h => by
    obtain ⟨_, _, rfl, ⟨c, rfl, _⟩, _, _, rfl, ⟨s, rfl, _⟩, _, _, rfl, ⟨mn, rfl, _⟩, _, _, rfl, ⟨mx, rfl, _⟩, _, _, rfl, ⟨f, rfl, _⟩, _, _, rfl, ⟨l, rfl, _⟩, rfl⟩ := h
    exact ⟨⟨c, s, mn, mx, f, l⟩, rfl⟩
theorem rd_wk : Rd enc Tryz.prog w 95 (fun l => ∃ e : Wk, l = e.row ∧ Wk.rd e) :=
  (Rd.struct Tryz.underlying95 (by kernel_rfl) (.cons rd_int (.cons rd_int (.cons rd_int (.cons rd_rec (.cons rd_ens (.cons rd_ag .nil))))))).weak fun l h => by
    obtain ⟨_, _, rfl, ⟨id, rfl, _⟩, _, _, rfl, ⟨ph, rfl, _⟩, _, _, rfl, ⟨tok, rfl, _⟩, _, _, rfl, ⟨j, rfl, hj⟩, _, _, rfl, ⟨L, rfl, h1, h2⟩, _, _, rfl, ⟨a, rfl⟩, rfl⟩ := h
    refine ⟨⟨id, ph, tok, j, L, a⟩, rfl, ⟨hj, ?_, ?_⟩⟩
    · unfold maxLen at h1; show L.length ≤ _; omega
    · intro x hx; have := h2 x hx; unfold maxLen at this; omega
theorem rd_wks : Rd enc Tryz.prog w 26 (fun l => ∃ L : List Wk, l = [wks L] ∧ L.length ≤ maxLen ∧ ∀ e ∈ L, Wk.rd e) := Rd.listQ Tryz.underlying26 (by kernel_rfl) (by decide) rd_wk
theorem rd_ig : Rd enc Tryz.prog w 98 (fun l => ∃ e : Ig, l = e.row ∧ Ig.rd e) :=
  (Rd.struct Tryz.underlying98 (by kernel_rfl) (.cons rd_int (.cons rd_int (.cons rd_int (.cons rd_int (.cons rd_smps (.cons rd_bool .nil))))))).weak fun l h => by
    obtain ⟨_, _, rfl, ⟨id, rfl, _⟩, _, _, rfl, ⟨sq, rfl, _⟩, _, _, rfl, ⟨f, rfl, _⟩, _, _, rfl, ⟨t, rfl, _⟩, _, _, rfl, ⟨L, rfl, h1⟩, _, _, rfl, ⟨b, rfl⟩, rfl⟩ := h
    refine ⟨⟨id, sq, f, t, L, b⟩, rfl, ?_⟩
    unfold maxLen at h1; show L.length ≤ _; omega
theorem rd_igs : Rd enc Tryz.prog w 27 (fun l => ∃ L : List Ig, l = [igs L] ∧ L.length ≤ maxLen ∧ ∀ e ∈ L, Ig.rd e) := Rd.listQ Tryz.underlying27 (by kernel_rfl) (by decide) rd_ig
theorem rd_rr : Rd enc Tryz.prog w 101 (fun l => ∃ e : Rr, l = e.row ∧ Rr.rd e) :=
  (Rd.struct Tryz.underlying101 (by kernel_rfl) (.cons rd_int (.cons rd_int (.cons rd_int (.cons rd_int (.cons rd_int (.cons rd_int (.cons rd_int (.cons rd_ens (.cons rd_ag .nil)))))))))).weak fun l h => by
    obtain ⟨_, _, rfl, ⟨id, rfl, _⟩, _, _, rfl, ⟨ph, rfl, _⟩, _, _, rfl, ⟨tier, rfl, _⟩, _, _, rfl, ⟨f, rfl, _⟩, _, _, rfl, ⟨t, rfl, _⟩, _, _, rfl, ⟨til, rfl, _⟩, _, _, rfl, ⟨cd, rfl, _⟩, _, _, rfl, ⟨L, rfl, h1, h2⟩, _, _, rfl, ⟨a, rfl⟩, rfl⟩ := h
    refine ⟨⟨id, ph, tier, f, t, til, cd, L, a⟩, rfl, ⟨?_, ?_⟩⟩
    · unfold maxLen at h1; show L.length ≤ _; omega
    · intro x hx; have := h2 x hx; unfold maxLen at this; omega
theorem rd_rrs : Rd enc Tryz.prog w 28 (fun l => ∃ L : List Rr, l = [rrs L] ∧ L.length ≤ maxLen ∧ ∀ e ∈ L, Rr.rd e) := Rd.listQ Tryz.underlying28 (by kernel_rfl) (by decide) rd_rr
theorem rd_an : Rd enc Tryz.prog w 133 (fun l => ∃ e : An, l = e.row) :=
  (Rd.struct Tryz.underlying133 (by kernel_rfl) (.cons rd_int (.cons rd_int (.cons rd_int (.cons rd_int (.cons rd_ag .nil)))))).weak fun l h => by
    obtain ⟨_, _, rfl, ⟨tier, rfl, _⟩, _, _, rfl, ⟨f, rfl, _⟩, _, _, rfl, ⟨t, rfl, _⟩, _, _, rfl, ⟨cd, rfl, _⟩, _, _, rfl, ⟨a, rfl⟩, rfl⟩ := h
    exact ⟨⟨tier, f, t, cd, a⟩, rfl⟩
theorem rd_ans : Rd enc Tryz.prog w 30 (fun l => ∃ L : List An, l = [ans L] ∧ L.length ≤ maxLen) := Rd.list Tryz.underlying30 (by kernel_rfl) (by decide) rd_an
theorem rd_arr7 {t e : TypeId} {k : IntKind} {P : Program} (ht : P.underlying t = some (.array 7 e)) (he : P.underlying e = some (.int k)) (hce : P.cellsOf e = 1) (hct : P.cellsOf t = 7) :
    Rd enc P w t (fun zs => ∃ a b c d x y z, zs = [.int k a, .int k b, .int k c, .int k d, .int k x, .int k y, .int k z] ∧ (k.min ≤ a ∧ a ≤ k.max) ∧ (k.min ≤ b ∧ b ≤ k.max) ∧ (k.min ≤ c ∧ c ≤ k.max) ∧ (k.min ≤ d ∧ d ≤ k.max) ∧ (k.min ≤ x ∧ x ≤ k.max) ∧ (k.min ≤ y ∧ y ≤ k.max) ∧ (k.min ≤ z ∧ z ≤ k.max)) := fun fuel cs x hx => by
  cases fuel with
  | zero => simp [DataW.trod] at hx
  | succ fuel =>
    simp only [DataW.trod, ht, hce, hct, Nat.mul_one] at hx
    split at hx
    · rename_i hl
      obtain ⟨xs, hm, hx⟩ := Option.map_eq_some_iff.1 hx
      match cs, hl with
      | [_, _, _, _, _, _, _], _ =>
        obtain ⟨r0, _, h0⟩ := Go.Lib.mapM_at hm 0 0 rfl
        obtain ⟨r1, _, h1⟩ := Go.Lib.mapM_at hm 1 1 rfl
        obtain ⟨r2, _, h2⟩ := Go.Lib.mapM_at hm 2 2 rfl
        obtain ⟨r3, _, h3⟩ := Go.Lib.mapM_at hm 3 3 rfl
        obtain ⟨r4, _, h4⟩ := Go.Lib.mapM_at hm 4 4 rfl
        obtain ⟨r5, _, h5⟩ := Go.Lib.mapM_at hm 5 5 rfl
        obtain ⟨r6, _, h6⟩ := Go.Lib.mapM_at hm 6 6 rfl
        obtain ⟨n0, e0, l0, u0⟩ := DataW.trod_int he (x := r0) h0
        obtain ⟨n1, e1, l1, u1⟩ := DataW.trod_int he (x := r1) h1
        obtain ⟨n2, e2, l2, u2⟩ := DataW.trod_int he (x := r2) h2
        obtain ⟨n3, e3, l3, u3⟩ := DataW.trod_int he (x := r3) h3
        obtain ⟨n4, e4, l4, u4⟩ := DataW.trod_int he (x := r4) h4
        obtain ⟨n5, e5, l5, u5⟩ := DataW.trod_int he (x := r5) h5
        obtain ⟨n6, e6, l6, u6⟩ := DataW.trod_int he (x := r6) h6
        injection e0 with e0
        injection e1 with e1
        injection e2 with e2
        injection e3 with e3
        injection e4 with e4
        injection e5 with e5
        injection e6 with e6
        subst e0 e1 e2 e3 e4 e5 e6
        exact ⟨_, ⟨n0, n1, n2, n3, n4, n5, n6, rfl, by simpa [Lit.wf] using u0, by simpa [Lit.wf] using u1, by simpa [Lit.wf] using u2, by simpa [Lit.wf] using u3, by simpa [Lit.wf] using u4, by simpa [Lit.wf] using u5, by simpa [Lit.wf] using u6⟩, ⟨_, _, rfl, rfl, _, _, rfl, rfl, _, _, rfl, rfl, _, _, rfl, rfl, _, _, rfl, rfl, _, _, rfl, rfl, _, _, rfl, rfl, rfl⟩⟩
    · cases hx
theorem rd_fleet : Rd enc Tryz.prog w 32 (fun l => ∃ s : Fl, l = s.row ∧ FlIn s) :=
  (Rd.struct Tryz.underlying32 (by kernel_rfl) (.cons rd_store (.cons rd_int (.cons (rd_arr7 Tryz.underlying25 Tryz.underlying3 (by kernel_rfl) (by kernel_rfl)) (.cons rd_wks (.cons rd_igs (.cons rd_rrs (.cons rd_smps (.cons rd_ans .nil))))))))).weak fun l h => by
    obtain ⟨_, _, rfl, ⟨s, rfl, hs⟩, _, _, rfl, ⟨ck, rfl, hck⟩, _, _, rfl, ⟨a, b, c, d, x, y, z, rfl, q0, q1, q2, q3, q4, q5, q6⟩, _, _, rfl, ⟨W, rfl, w1, w2⟩, _, _, rfl, ⟨I, rfl, i1, i2⟩, _, _, rfl, ⟨R, rfl, r1, r2⟩, _, _, rfl, ⟨S, rfl, s1⟩, _, _, rfl, ⟨N, rfl, n1⟩, rfl⟩ := h
    unfold maxLen at w1 i1 r1 s1 n1
    exact ⟨⟨s, ck, a, b, c, d, x, y, z, W, I, R, S, N⟩, rfl, ⟨hs, by simp only; omega, w2, by simp only; omega, i2, by simp only; omega, r2, by simp only; omega, by simp only; omega, hck, q0, q1, q2, q3, q4, q5, q6⟩⟩
end

set_option maxRecDepth 100000 in
theorem liftedAtRest (os : Os) (started : os.Started) (H : Type) (enc : TypeId × Value → H) :
    ReturnsInHanded {} Tryz.checked os 4 .any (fun w args => (Rows.fnExactAtRestSpec.pre enc Tryz.prog Tryz.f4 [] false w args ∧ laidMetH Tryz.prog laidT w) ∧ sizedMet enc Tryz.prog Tryz.f4 (OpenSpec.ofChange Rows.fnExactAtRestSpec) false w args)
      (Rows.fnExactAtRestSpec.post enc Tryz.prog Tryz.f4 false true false false) := by
  refine rowG (C := Tryz.checked) (X := fun w _ => laidMetH Tryz.prog laidT w) (fun _ _ _ hh h => h.of_heap hh) ownG started (by kernel_rfl) Tryz.func4
    (ChangeSpec.witness_shaped (enc := enc) (C := Tryz.checked) (os := os) (X := fun w _ => laidMetH Tryz.prog laidT w) false (World.laidAll Tryz.prog os laidT) #[.agg #[.slice none 0 0, .int .i64 0, .int .i64 0, .int .i64 0, .int .i64 0, .int .i64 0, .int .i64 0, .int .i64 0, .int .i64 0, .int .i64 0, .slice none 0 0, .slice none 0 0, .slice none 0 0, .slice none 0 0, .slice none 0 0]] 8 (World.laidAll_os _ _ _) (World.shaped_of_ZipB (by kernel_rfl) (by kernel_rfl)) (by kernel_rfl) (by kernel_rfl) (by kernel_rfl) (door_metG os _)) ?_
  intro W base args ds gs before hval0 hW hC1 hC2 hL hC3
  have hval : ∀ (j : Nat) t v, Tryz.f4.params[j]? = some t → args[j]? = some v → Value.okWide Tryz.prog W .any base t v := hval0
  have hW' := hW
  obtain ⟨p, q, hA0, hV, rfl, hfz, hnd⟩ := hW
  have hA : DataW.TrodAll enc Tryz.prog W 0 (fun _ => true) true Tryz.f4.params.toList args.toList ds p := hA0
  rw [Tryz.params4] at hA hval
  obtain ⟨v0, vs0, d0, ds0, p0, q0, hargs, rfl, rfl, h0, r0⟩ := trodAll_cons hA
  obtain ⟨rfl, rfl, rfl⟩ := trodAll_nil r0
  obtain rfl : args = #[v0] := by cases args; simp_all
  obtain ⟨rfl, rfl⟩ := trodVars_none hV
  obtain ⟨cs0, rfl, _⟩ := okWide_struct Tryz.underlying32 (hval 0 32 v0 rfl rfl)
  have lt0 : ∀ x ∈ p0, x.block < W.heap.size := by obtain ⟨m, hm⟩ := h0; exact DataW.trod_lt m _ _ _ hm
  obtain ⟨_, ⟨x0, rfl, b0⟩, e0⟩ := rd_fleet.arg1 h0
  have g0 := arg_agg e0
  clear hA0 hval0
  refine ((law_AtRest x0 b0).calls W (fun b => b < W.heap.size) [_] (tab_ofG hL.1 hL.2) (fun b h => h) ⟨_, _, rfl, g0, rfl⟩).mono fun e W' ⟨v, he, fr, hv⟩ => ?_
  subst he
  have hv' : v = .bool true := hv
  subst hv'
  have bel := fr.below
  exact ⟨_, rfl, _, _, _, [], _, [], hW', trodAll_mk1 (shut_bool Tryz.underlying4 _), (trodAll_cons_mk (Below.trod laidOutG (by kernel_rfl) (of_decide_eq_true (by kernel_rfl)) h0 bel lt0) trodAll_mk0), rfl, bel.frame _, fun h => by cases h⟩

theorem closedAAtRest : (Rows.fnExactAtRestRow.inPlace == Tryz.prog.inPlace 4) = true := by kernel_rfl
theorem closedBAtRest : (Rows.fnExactAtRestRow.unfollowed == Tryz.prog.unfollowed 4) = true := by kernel_rfl
theorem closedCAtRest : (Rows.fnExactAtRestRow.recurses == Tryz.prog.recurses 4) = true := by kernel_rfl
theorem closedDAtRest : (Rows.fnExactAtRestRow.named == Tryz.prog.varsNamed 4) = true := by kernel_rfl
set_option maxHeartbeats 8000000 in
theorem closedAtRest : joinedFacts Tryz.prog 4 Tryz.f4 Rows.fnExactAtRestSpec Rows.fnExactAtRestRow = true := by
  unfold joinedFacts
  rw [closedAAtRest, closedBAtRest, closedCAtRest, closedDAtRest]
  simp only [Bool.and_eq_true]
  repeat' apply And.intro
  all_goals (first | exact True.intro | (as_aux_lemma => kernel_rfl))
theorem saidAtRest : Rows.FnExactAtRestSaid :=
  OpenClaim.holds_of_wide 4 Tryz.f4 rfl rfl rfl rfl rfl rfl rfl ⟨rfl, rfl, rfl, rfl, rfl⟩ rfl rfl rfl rfl rfl (by kernel_rfl) Tryz.func4 closedAtRest
    (of_decide_eq_true (by kernel_rfl)) (by unfold Func.isWrapper; first | (rw [if_pos (by decide +kernel)]; kernel_rfl) | (rw [if_neg (by decide +kernel)]; exact ⟨rfl, rfl⟩))
    (fun os started H enc _ => liftedAtRest os started H enc)

set_option maxHeartbeats 8000000 in
theorem provedAtRest : Rows.FnExactAtRestCardSaid :=
  Claim7.holds_tied_plain_at .later [] [.data, .data, .data, .data, .sentinel, .sentinel, .pinned] true (true, "34542023d0a927b06d276386dd5d5f271219d3235326dd3dd80299e4c51297d9") true
    saidAtRest (fun _ h => by cases h) (by as_aux_lemma => kernel_rfl) (fun _ h => by cases h) fnExactAtRest_row_tie rfl ⟨rfl, rfl⟩ (by as_aux_lemma => kernel_rfl) rfl
    (fun f fn hf hfn => by
      obtain rfl : f = 4 := Option.some.inj ((show Tryz.prog.funcNamed "loop.example/g00601/laws.FnExactAtRest" = some 4 by as_aux_lemma => kernel_rfl).symm.trans hf) |>.symm
      obtain rfl : fn = Tryz.f4 := (Option.some.inj (Tryz.func4.symm.trans hfn)).symm
      exact ⟨by as_aux_lemma => kernel_rfl, fun j t ht => by
        rw [Tryz.params4] at ht
        have hm : t ∈ [32] := by simpa using Array.mem_of_getElem? ht
        have hall : ([32].all fun u => !Tryz.prog.wantsStandIn u) = true := by as_aux_lemma => kernel_rfl
        exact (show Tryz.prog.wantsStandIn t = false by simpa using List.all_eq_true.1 hall t hm)⟩)
    (by as_aux_lemma => kernel_rfl)
#print axioms provedAtRest
end Go.Proofs.YtijokkaeofagoaaGreatDoor
