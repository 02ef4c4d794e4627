import Derived.Test.YtndndlofepehiaaG28

set_option linter.unusedSimpArgs false
set_option linter.unusedVariables false

/- Layer 12, walked: what a submit is answered (2). -/
-- cuts
namespace Go.Aff.L10
open Go.Proofs Go.Aff Go.Aff.L01 Classical
set_option linter.unusedVariables false
set_option linter.unusedSimpArgs false
set_option maxRecDepth 20000
attribute [local go_sem] push_app app_app length_app cellAt_app cellAt_app0 set_app set_app0 objs_app objs_app0 List.cons_append List.nil_append List.length_cons List.length_nil List.getElem?_cons_zero List.getElem?_cons_succ List.set_cons_zero List.set_cons_succ List.length_map
attribute [-go_sem] cellAt_new
attribute [-simp] List.length_flatMap
attribute [local go_sem] Try.underlying3 Try.underlying4 Try.underlying5 Try.underlying9 Try.underlying31 Try.underlying32 Try.underlying41 Try.underlying75 Try.underlying24 Try.underlying81 subPs_0 subAt_0 subSet_0 subPs_1 subAt_1 subSet_1 subPs_2 subAt_2 subSet_2 subPs_3 subAt_3 subSet_3 subPs_4 subAt_4 subSet_4 subPs_5 subAt_5 subSet_5 sizes_sub shapes_sub fits_sub zero_sub zt_sub built_sub Try.underlying34 pendPs_0 pendAt_0 pendSet_0 pendPs_1 pendAt_1 pendSet_1 pendPs_2 pendAt_2 pendSet_2 pendPs_3 pendAt_3 pendSet_3 pendPs_4 pendAt_4 pendSet_4 pendPs_5 pendAt_5 pendSet_5 sizes_pend shapes_pend fits_pend zero_pend zt_pend built_pend Try.underlying70 repPs_0 repAt_0 repSet_0 repPs_1 repAt_1 repSet_1 repPs_2 repAt_2 repSet_2 repPs_3 repAt_3 repSet_3 repPs_4 repAt_4 repSet_4 repPs_5 repAt_5 repSet_5 repPs_6 repAt_6 repSet_6 repPs_7 repAt_7 repSet_7 repPs_8 repAt_8 repSet_8 repPs_9 repAt_9 repSet_9 sizes_rep shapes_rep fits_rep zero_rep zt_rep built_rep Try.underlying43 blobPs_0 blobAt_0 blobSet_0 blobPs_1 blobAt_1 blobSet_1 blobPs_2 blobAt_2 blobSet_2 blobPs_3 blobAt_3 blobSet_3 sizes_blob shapes_blob fits_blob zero_blob zt_blob built_blob Try.underlying74 msgPs_0 msgAt_0 msgSet_0 msgPs_1 msgAt_1 msgSet_1 msgPs_2 msgAt_2 msgSet_2 msgPs_3 msgAt_3 msgSet_3 msgPs_4 msgAt_4 msgSet_4 msgPs_5 msgAt_5 msgSet_5 msgPs_6 msgAt_6 msgSet_6 msgPs_7 msgAt_7 msgSet_7 msgPs_8 msgAt_8 msgSet_8 msgPs_9 msgAt_9 msgSet_9 sizes_msg shapes_msg fits_msg zero_msg zt_msg built_msg Try.underlying77 at_Ps_0 at_Set_0 at_Ps_1 at_Set_1 sizes_at_ shapes_at_
attribute [local go_sem] fits3 fits4 fits5 fits9 fits23 fits26 fits31 fits34 fits52 zt3 zero3 zt34 zero34 zt23 zero23 bin_sub_eql bin_pend_eql bin_pend_neq bin_blob_eql bin_dig23_eql bin_dig23_neq slice23
attribute [local go_sem ↓] blockQ_exit2
attribute [local simp] dig_ext
attribute [local go_sem] cliPs_0 cliAt_0 cliSet_0 cliPs_1 cliAt_1 cliSet_1 cliPs_2 cliAt_2 cliSet_2 cliPs_3 cliAt_3 cliSet_3 sizes_cli shapes_cli fits_cli zero_cli zt_cli built_cli actPs_0 actAt_0 actSet_0 actPs_1 actAt_1 actSet_1 actPs_2 actAt_2 actSet_2 actPs_3 actAt_3 actSet_3 actPs_4 actAt_4 actSet_4 sizes_act shapes_act fits_act zero_act zt_act built_act rgPs_0 rgPs_1 rgPs_2 rgPs_3 rgPs_4 rgPs_5 rgSet_0 rgSet_2 rgSet_3 rgSet_4 rgSet_5 rgAt_0 rgAt_1 fits_rg zero_rg zt_rg built_rg fits66 rrgPs_0 rrgSet_0 rrgAt_0 rrgPs_1 rrgSet_1 rrgAt_1 rrgPs_2 rrgSet_2 rrgAt_2 rrgPs_3 rrgSet_3 rrgAt_3 rrgPs_4 rrgSet_4 rrgAt_4 rrgPs_5 rrgSet_5 rrgAt_5 rrgPs_6 rrgSet_6 rrgAt_6 rrgPs_7 rrgSet_7 rrgAt_7 sizes_rrg shapes_rrg fits_rrg zero_rrg zt_rrg built_rrg fits57 fits58 fits39 fits59 fits23r fits41 arrV_none arrV_some arrV_size arrV_agg arrV_shape Try.underlying22 Try.underlying23 Try.underlying28 Try.underlying36 Try.underlying39 Try.underlying57 Try.underlying58 Try.underlying59 Try.underlying61 Try.underlying65 Try.underlying66 Try.underlying68 Try.underlying78
attribute [local go_sem] Try.underlying81
def cliOf (R : Rg) (i : Int) : Cli := ((R.cs[i.toNat]?).map (·.2)).getD cli0
def ansP (R : Rg) (p : Pend) : Pend := { p with proof := (cliOf R p.client).tag }
def ans0 (R : Rg) (n : Int) (l : List Pend) : Rep := ⟨n, R.by_, R.long, R.tag, l, 0, [], dig0, [], dig0⟩
def ansC (R : Rg) (n : Int) (l : List Pend) (c : Cli) : Rep := ⟨n, R.by_, R.long, R.tag, l, c.last.num, c.last.value, c.last.data, c.view, c.tag⟩
def ansOf (R : Rg) (x : Sub) : Rep := if x.kind = 2 then ansC R x.num (R.pend.map (ansP R)) (cliOf R x.target) else ans0 R x.num (R.pend.map (ansP R))
theorem cli_get {R : Rg} (h8 : R.cs.length = 8) {i : Int} (h0 : 0 ≤ i) (h1 : i < 8) : ∃ t, R.cs[i.toNat]? = some (t, cliOf R i) := by
  have : i.toNat < R.cs.length := by omega
  refine ⟨(R.cs[i.toNat]).1, ?_⟩
  rw [List.getElem?_eq_getElem this]
  simp [cliOf, List.getElem?_eq_getElem this]
theorem set_set {s : AST} {i : Nat} {a b : AObj} : (s.set i a).set i b = s.set i b := by simp [AST.set]
theorem ansP_next {R : Rg} {i : Nat} {y : Pend} (h : R.pend[i]? = some y) : (R.pend.take (i + 1)).map (ansP R) = (R.pend.take i).map (ansP R) ++ [ansP R y] := by
  rw [List.take_add_one, h]; simp
section
variable {σ0 s : AST} {j : Nat} {R : Rg} {F : List (Nat × AObj)} {K : AV → AST → Prop}
theorem answer_c (hP : PF σ0 s j R F) (hR : RgOk R) {x : Sub} (hx0 : 0 ≤ x.target) (hx1 : x.target < R.n) (hK : ∀ t, K (repV t (ansOf R x)) s) : TCalls Try.prog 30 [.ptr (some (j, [])), subV x] s K := by
  refine TCalls.drop ?_
  have hn8 := hR.n8
  have hpl := hR.pl
  obtain ⟨tk, o⟩ := hP.o
  have hjl := (List.getElem?_eq_some_iff.1 o).1
  have oA : ∀ l, (s.app l).objs[j]? = some _ := fun l => objs_known_app o l
  have cA : ∀ l p, cellAt (s.app l) j p = _ := fun l p => cellAt_known (oA l) p
  have hfin : ∀ s' t, Ext s s' → Ext s s' ∧ (repV t (ansOf R x)).noRef = true ∧ K (repV t (ansOf R x)).strip s := fun s' t h => ⟨h, noRef_rep, by simp only [AV.strip, rep_strips]; exact hK _⟩
  refine tcalls_walk Try.f30 _ [.cell 4 43] Try.func30 rfl rfl rfl mixed (Nat.le_of_ble_eq_true rfl) rfl fun hlen => ?_
  repeat' (first | (simp -dsimp only [↓reduceIte, go_sem, cA, oA, rgAt_2 hP.h8, rgAt_3 hP.h8, rgAt_4 hP.h8, rgAt_5 hP.h8]) | (refine arr_intro fun _ => ?_) | (refine later_intro ⟨keeps_nil, ?_⟩) | (refine later_intro ⟨keeps_refl, ?_⟩) | (with_reducible refine keeps_go ?_ ?_; focus (first | (simp [keeps_cons, keeps_none, objs_app, objs_app0]; done) | (simp only [keeps_cons, keeps_none, objs_app0, objs_app, and_true]; first | rfl | exact ⟨rfl, rfl⟩ | exact ⟨rfl, rfl, rfl⟩))) | (with_reducible refine (And.intro (a := keeps _ _ _) ?_ ?_); focus (first | (simp [keeps_cons, keeps_none, objs_app, objs_app0]; done) | (simp only [keeps_cons, keeps_none, objs_app0, objs_app, and_true]; first | rfl | exact ⟨rfl, rfl⟩ | exact ⟨rfl, rfl, rfl⟩))) | (refine both_ways ?_ ?_) | (rw [wrap_i64 (by omega) (by omega)]) | (refine guardV_split (fun h => ?_) (fun h => ?_) <;> (try rw [h]) <;> (try simp at h) <;> (try (exfalso; omega))) | (with_reducible refine awp_drawU (id := 1) (.op 0 0 (.op 1 0 (.op 2 0 (.op 3 0 (.op 4 0 (.op 5 0 (.op 6 0 (.op 7 0 (.op 8 0 (.op 9 0 (.op 10 0 (.op 11 0 (.op 12 0 (.op 13 0 (.op 14 0 (.op 15 1 (.cut (.op 16 1 .nil)))))))))))))))))) (by kernel_rfl) ?_) | (with_reducible refine keeps_go ?_ ?_; focus (simp [keeps_cons, keeps_none, objs_app, objs_app0, oA]; done)) | (with_reducible refine (And.intro (a := keeps _ _ _) ?_ ?_); focus (simp [keeps_cons, keeps_none, objs_app, objs_app0, oA]; done)))
  refine awp_rounds (fun (i : Nat) τ s' => ∃ tk', Gr s s' tk' i 68 ∧ s'.objs[s.objs.length]? = some (.cells (subV x)) ∧ s'.objs[s.objs.length + 1]? = some (.cells (repV .full rep0)) ∧ s'.objs[s.objs.length + 2]? = some (.cells (repV tk' (ans0 R x.num ((R.pend.take i).map (ansP R))))) ∧ i ≤ R.pend.length ∧ τ 0 = .ptr (some (j, [])) ∧ τ 3 = .ptr (some (s.objs.length, [])) ∧ τ 4 = .ptr (some (s.objs.length + 1, [])) ∧ τ 5 = .ptr (some (s.objs.length + 2, [])) ∧ τ 27 = .slice tk (R.pend.map pendV) ∧ τ 28 = .int .i64 R.pend.length ∧ τ 29 = .int .i64 i) (fun i => R.pend.length - i) 0 ?_ ?_
  · refine ⟨.full, Gr.start' (Ext.app _ _), objs_app0, ?_, ?_, by omega, ?_, ?_, ?_, ?_, ?_, ?_, ?_⟩ <;> (try simp only [go_sem]) <;> (try rfl)
  · rintro i τ s' ⟨tk', hg, b0, b1, b2, hi, t0, t3, t4, t5, t27, t28, t29⟩
    have oj := ext_known hg.x o
    have oA : ∀ l, (s'.app l).objs[j]? = some _ := fun l => objs_known_app oj l
    have cA : ∀ l p, cellAt (s'.app l) j p = _ := fun l p => cellAt_known (oA l) p
    have b0A : ∀ l, (s'.app l).objs[s.objs.length]? = some _ := fun l => objs_known_app b0 l
    have b2A : ∀ l, (s'.app l).objs[s.objs.length + 2]? = some _ := fun l => objs_known_app b2 l
    have c0A : ∀ l p, cellAt (s'.app l) s.objs.length p = _ := fun l p => cellAt_known (b0A l) p
    have c2A : ∀ l p, cellAt (s'.app l) (s.objs.length + 2) p = _ := fun l p => cellAt_known (b2A l) p
    have h2 := (List.getElem?_eq_some_iff.1 b2).1
    by_cases hil : i < R.pend.length
    · have hi1 : (i : Int) < R.pend.length := by omega
      obtain ⟨y, hy, hym⟩ := get_of_lt hil
      have hcy := hR.cl y hym
      obtain ⟨tc, hc⟩ := cli_get hP.h8 (i := y.client) hcy.1 (by omega)
      have hyc : ((y.client.toNat : Nat) : Int) = y.client := Int.toNat_of_nonneg hcy.1
      have hnx := ansP_next hy
      have hgA := fun l => hg.app (l := l)
      repeat' (first | (simp -dsimp only [↓reduceIte, go_sem, t0, t3, t4, t5, t27, t28, t29, hi1, cA, oA, b0A, b2A, c0A, c2A, rg_at hc, sz8 hP.h8, cellAt_growS, objs_growS]) | (refine arr_intro fun _ => ?_) | (refine later_intro ⟨keeps_nil, ?_⟩) | (refine later_intro ⟨keeps_refl, ?_⟩) | (with_reducible refine keeps_go ?_ ?_; focus (first | (simp [keeps_cons, keeps_none, objs_app, objs_app0]; done) | (simp only [keeps_cons, keeps_none, objs_app0, objs_app, and_true]; first | rfl | exact ⟨rfl, rfl⟩ | exact ⟨rfl, rfl, rfl⟩))) | (with_reducible refine (And.intro (a := keeps _ _ _) ?_ ?_); focus (first | (simp [keeps_cons, keeps_none, objs_app, objs_app0]; done) | (simp only [keeps_cons, keeps_none, objs_app0, objs_app, and_true]; first | rfl | exact ⟨rfl, rfl⟩ | exact ⟨rfl, rfl, rfl⟩))) | (refine both_ways ?_ ?_) | (rw [wrap_i64 (by omega) (by omega)]) | (refine guardV_split (fun h => ?_) (fun h => ?_) <;> (try rw [h]) <;> (try simp at h) <;> (try (exfalso; omega))) | (refine nth_get hy ?_) | (with_reducible refine awp_drawT (id := 5) (.op 0 2 (.op 1 2 (.op 2 2 (.op 3 2 (.op 4 2 (.op 5 2 (.op 6 2 (.op 7 2 (.op 8 2 (.op 9 1 .nil)))))))))) (by kernel_rfl) ?_) | ((rw [← hyc]; refine index_cli (oA _) hP.h8 hc ?_; rw [hyc])) | (with_reducible refine keeps_go ?_ ?_; focus (simp [keeps_cons, keeps_none, objs_app, objs_app0, oA]; done)) | (with_reducible refine (And.intro (a := keeps _ _ _) ?_ ?_); focus (simp [keeps_cons, keeps_none, objs_app, objs_app0, oA]; done)) | (refine build_pend ?_) | (refine append_pend (a := (R.pend.take i).map (ansP R)) (canApp_of (hgA _).c (by simp; omega)) (by simp; omega) ?_))
      have hsz : ∀ a m tk t v, (s.objs.length + 2) < ((growS (s'.app [a]) tk m t)).objs.length := fun a m tk t v => by simp only [growS_objs]; simp [AST.app]; omega
      have hg2 := (hgA [.cells (pendV (ansP R y))]).grow (m := i + 1)
      refine later_intro ⟨i + 1, by omega, growT (s'.app [.cells (pendV (ansP R y))]) tk', ?_, ?_, ?_, ?_, by omega, ?_, ?_, ?_, ?_, ?_, ?_, ?_⟩ <;> (try simp only [go_sem, t0, t3, t4, t5, t27, t28, t29]) <;> (try rfl)
      · have he : (R.pend.take i).length = i := by simp; omega
        rw [he]
        exact hg2.set (by omega)
      · rw [objs_setN (by omega), growS_objs]; exact b0A _
      · rw [objs_setN (by omega), growS_objs]; exact objs_known_app b1 _
      · rw [objs_setS (by simp only [growS_objs]; exact (List.getElem?_eq_some_iff.1 (b2A _)).1), hnx]; rfl
    · have hi1 : ¬ (i : Int) < R.pend.length := by omega
      have he : i = R.pend.length := by omega
      subst he
      rw [List.take_length] at b2 b2A c2A
      have b1A : ∀ l, (s'.app l).objs[s.objs.length + 1]? = some _ := fun l => objs_known_app b1 l
      have c1A : ∀ l p, cellAt (s'.app l) (s.objs.length + 1) p = _ := fun l p => cellAt_known (b1A l) p
      have cj := cellAt_known oj
      have c0 := cellAt_known b0
      have c2 := cellAt_known b2
      have cS2 : ∀ l v p, cellAt ((s'.app l).set (s.objs.length + 2) (.cells v)) (s.objs.length + 2) p = v.at p := fun l v p => cellAt_setS (by simp [AST.app]; omega)
      have oS2 : ∀ l v, ((s'.app l).set (s.objs.length + 2) (.cells v)).objs[s.objs.length + 2]? = some (.cells v) := fun l v => objs_setS (by simp [AST.app]; omega)
      by_cases hk : x.kind = 2
      · obtain ⟨tc, hc⟩ := cli_get hP.h8 hx0 (by omega)
        have hxc : ((x.target.toNat : Nat) : Int) = x.target := Int.toNat_of_nonneg hx0
        have hno : ∀ l v k, k ≠ s.objs.length + 2 → ((s'.app l).set (s.objs.length + 2) v).objs[k]? = (s'.app l).objs[k]? := fun l v k h => objs_setN (Ne.symm h)
        have n1 : s.objs.length + 2 ≠ s'.objs.length := by omega
        have n2 : s.objs.length + 2 ≠ s.objs.length + 1 := by omega
        have cS1 : ∀ l w v p, cellAt (((s'.app l).set (s.objs.length + 2) w).set (s.objs.length + 1) (.cells v)) (s.objs.length + 1) p = v.at p := fun l w v p => cellAt_setS (by simp [AST.app, AST.set]; omega)
        repeat' (first | (simp -dsimp only [↓reduceIte, go_sem, t0, t3, t4, t5, t27, t28, t29, hi1, hk, cj, c0, c2, cA, oA, b0A, b2A, c0A, c2A, rg_at hc, sz8 hP.h8, cellAt_setN n1, objs_setN n1, cellAt_setN n2, objs_setN n2, cS2, oS2, cS1, set_set, b1A, c1A]) | (refine arr_intro fun _ => ?_) | (refine later_intro ⟨keeps_nil, ?_⟩) | (refine later_intro ⟨keeps_refl, ?_⟩) | (with_reducible refine keeps_go ?_ ?_; focus (first | (simp [keeps_cons, keeps_none, objs_app, objs_app0]; done) | (simp only [keeps_cons, keeps_none, objs_app0, objs_app, and_true]; first | rfl | exact ⟨rfl, rfl⟩ | exact ⟨rfl, rfl, rfl⟩))) | (with_reducible refine (And.intro (a := keeps _ _ _) ?_ ?_); focus (first | (simp [keeps_cons, keeps_none, objs_app, objs_app0]; done) | (simp only [keeps_cons, keeps_none, objs_app0, objs_app, and_true]; first | rfl | exact ⟨rfl, rfl⟩ | exact ⟨rfl, rfl, rfl⟩))) | (refine both_ways ?_ ?_) | (rw [wrap_i64 (by omega) (by omega)]) | (refine guardV_split (fun h => ?_) (fun h => ?_) <;> (try rw [h]) <;> (try simp at h) <;> (try (exfalso; omega))) | (with_reducible refine awp_drawU (id := 9) (.op 0 0 (.op 1 0 (.op 2 0 (.op 3 0 (.op 4 0 (.op 5 0 (.op 6 0 (.op 7 1 (.cut (.op 8 1 .nil)))))))))) (by kernel_rfl) ?_) | ((rw [← hxc]; refine index_cli oj hP.h8 hc ?_; rw [hxc])) | (with_reducible refine awp_drawU (id := 10) (.op 0 2 (.op 1 2 (.op 2 2 (.op 3 0 (.op 4 0 (.op 5 0 (.op 6 0 (.op 7 0 (.op 8 0 (.op 9 2 (.op 10 1 (.op 11 2 (.op 12 1 (.cut (.op 13 2 (.op 14 1 .nil)))))))))))))))) (by kernel_rfl) ?_) | (with_reducible refine awp_drawU (id := 11) (.op 0 2 (.op 1 2 (.op 2 0 (.op 3 0 (.op 4 2 (.op 5 1 (.cut (.op 6 2 (.op 7 1 .nil))))))))) (by kernel_rfl) ?_) | (with_reducible refine keeps_go ?_ ?_; focus (simp [keeps_cons, keeps_none, objs_app, objs_app0, oA, oj, b0, b0A, objs_setN n1, oS2, b2A]; done)) | (with_reducible refine (And.intro (a := keeps _ _ _) ?_ ?_); focus (simp [keeps_cons, keeps_none, objs_app, objs_app0, oA, oj, b0, b0A, objs_setN n1, oS2, b2A]; done)))
        have hA : ansOf R x = ansC R x.num (R.pend.map (ansP R)) (cliOf R x.target) := by unfold ansOf; rw [if_pos hk]
        rw [hA] at hfin
        exact hfin _ tk' (((hg.x.trans (Ext.app _ _)).set (by omega)).set (by omega))
      · have cS1 : ∀ v p, cellAt (s'.set (s.objs.length + 1) (.cells v)) (s.objs.length + 1) p = v.at p := fun v p => cellAt_setS (by omega)
        repeat' (first | (simp -dsimp only [↓reduceIte, go_sem, t0, t3, t4, t5, t27, t28, t29, hi1, hk, c0, c2, b1, c1A, cS1]) | (refine arr_intro fun _ => ?_) | (refine later_intro ⟨keeps_nil, ?_⟩) | (refine later_intro ⟨keeps_refl, ?_⟩) | (with_reducible refine keeps_go ?_ ?_; focus (first | (simp [keeps_cons, keeps_none, objs_app, objs_app0]; done) | (simp only [keeps_cons, keeps_none, objs_app0, objs_app, and_true]; first | rfl | exact ⟨rfl, rfl⟩ | exact ⟨rfl, rfl, rfl⟩))) | (with_reducible refine (And.intro (a := keeps _ _ _) ?_ ?_); focus (first | (simp [keeps_cons, keeps_none, objs_app, objs_app0]; done) | (simp only [keeps_cons, keeps_none, objs_app0, objs_app, and_true]; first | rfl | exact ⟨rfl, rfl⟩ | exact ⟨rfl, rfl, rfl⟩))) | (refine both_ways ?_ ?_) | (rw [wrap_i64 (by omega) (by omega)]) | (refine guardV_split (fun h => ?_) (fun h => ?_) <;> (try rw [h]) <;> (try simp at h) <;> (try (exfalso; omega))))
        have hA : ansOf R x = ans0 R x.num (R.pend.map (ansP R)) := by unfold ansOf; rw [if_neg hk]
        rw [hA] at hfin
        exact hfin _ tk' (hg.x.set (by omega))
end
end Go.Aff.L10

/- Layer 12: registers, plainly. -/
-- cuts
namespace Go.Aff.L10
open Go.Proofs Go.Aff Go.Aff.L01 Classical
set_option linter.unusedVariables false
set_option linter.unusedSimpArgs false
set_option maxRecDepth 20000
attribute [local go_sem] push_app app_app length_app cellAt_app cellAt_app0 set_app set_app0 objs_app objs_app0 List.cons_append List.nil_append List.length_cons List.length_nil List.getElem?_cons_zero List.getElem?_cons_succ List.set_cons_zero List.set_cons_succ List.length_map
attribute [-go_sem] cellAt_new
attribute [-simp] List.length_flatMap
attribute [local go_sem] Try.underlying3 Try.underlying4 Try.underlying5 Try.underlying9 Try.underlying31 Try.underlying32 Try.underlying41 Try.underlying75 Try.underlying24 Try.underlying81 subPs_0 subAt_0 subSet_0 subPs_1 subAt_1 subSet_1 subPs_2 subAt_2 subSet_2 subPs_3 subAt_3 subSet_3 subPs_4 subAt_4 subSet_4 subPs_5 subAt_5 subSet_5 sizes_sub shapes_sub fits_sub zero_sub zt_sub built_sub Try.underlying34 pendPs_0 pendAt_0 pendSet_0 pendPs_1 pendAt_1 pendSet_1 pendPs_2 pendAt_2 pendSet_2 pendPs_3 pendAt_3 pendSet_3 pendPs_4 pendAt_4 pendSet_4 pendPs_5 pendAt_5 pendSet_5 sizes_pend shapes_pend fits_pend zero_pend zt_pend built_pend Try.underlying70 repPs_0 repAt_0 repSet_0 repPs_1 repAt_1 repSet_1 repPs_2 repAt_2 repSet_2 repPs_3 repAt_3 repSet_3 repPs_4 repAt_4 repSet_4 repPs_5 repAt_5 repSet_5 repPs_6 repAt_6 repSet_6 repPs_7 repAt_7 repSet_7 repPs_8 repAt_8 repSet_8 repPs_9 repAt_9 repSet_9 sizes_rep shapes_rep fits_rep zero_rep zt_rep built_rep Try.underlying43 blobPs_0 blobAt_0 blobSet_0 blobPs_1 blobAt_1 blobSet_1 blobPs_2 blobAt_2 blobSet_2 blobPs_3 blobAt_3 blobSet_3 sizes_blob shapes_blob fits_blob zero_blob zt_blob built_blob Try.underlying74 msgPs_0 msgAt_0 msgSet_0 msgPs_1 msgAt_1 msgSet_1 msgPs_2 msgAt_2 msgSet_2 msgPs_3 msgAt_3 msgSet_3 msgPs_4 msgAt_4 msgSet_4 msgPs_5 msgAt_5 msgSet_5 msgPs_6 msgAt_6 msgSet_6 msgPs_7 msgAt_7 msgSet_7 msgPs_8 msgAt_8 msgSet_8 msgPs_9 msgAt_9 msgSet_9 sizes_msg shapes_msg fits_msg zero_msg zt_msg built_msg Try.underlying77 at_Ps_0 at_Set_0 at_Ps_1 at_Set_1 sizes_at_ shapes_at_
attribute [local go_sem] fits3 fits4 fits5 fits9 fits23 fits26 fits31 fits34 fits52 zt3 zero3 zt34 zero34 zt23 zero23 bin_sub_eql bin_pend_eql bin_pend_neq bin_blob_eql bin_dig23_eql bin_dig23_neq slice23
attribute [local go_sem ↓] blockQ_exit2
attribute [local simp] dig_ext
attribute [local go_sem] cliPs_0 cliAt_0 cliSet_0 cliPs_1 cliAt_1 cliSet_1 cliPs_2 cliAt_2 cliSet_2 cliPs_3 cliAt_3 cliSet_3 sizes_cli shapes_cli fits_cli zero_cli zt_cli built_cli actPs_0 actAt_0 actSet_0 actPs_1 actAt_1 actSet_1 actPs_2 actAt_2 actSet_2 actPs_3 actAt_3 actSet_3 actPs_4 actAt_4 actSet_4 sizes_act shapes_act fits_act zero_act zt_act built_act rgPs_0 rgPs_1 rgPs_2 rgPs_3 rgPs_4 rgPs_5 rgSet_0 rgSet_2 rgSet_3 rgSet_4 rgSet_5 rgAt_0 rgAt_1 fits_rg zero_rg zt_rg built_rg fits66 rrgPs_0 rrgSet_0 rrgAt_0 rrgPs_1 rrgSet_1 rrgAt_1 rrgPs_2 rrgSet_2 rrgAt_2 rrgPs_3 rrgSet_3 rrgAt_3 rrgPs_4 rrgSet_4 rrgAt_4 rrgPs_5 rrgSet_5 rrgAt_5 rrgPs_6 rrgSet_6 rrgAt_6 rrgPs_7 rrgSet_7 rrgAt_7 sizes_rrg shapes_rrg fits_rrg zero_rrg zt_rrg built_rrg fits57 fits58 fits39 fits59 fits23r fits41 arrV_none arrV_some arrV_size arrV_agg arrV_shape Try.underlying22 Try.underlying23 Try.underlying28 Try.underlying36 Try.underlying39 Try.underlying57 Try.underlying58 Try.underlying59 Try.underlying61 Try.underlying65 Try.underlying66 Try.underlying68 Try.underlying78
/-- Registers without owners. -/
structure Reg where
  n : Int
  cs : List Cli
  by_ : Int
  long : List UInt8
  tag : Dig
  pend : List Pend
def Rg.plain (R : Rg) : Reg := ⟨R.n, R.cs.map (·.2), R.by_, R.long, R.tag, R.pend⟩
namespace Reg
def cli (M : Reg) (i : Int) : Cli := (M.cs[i.toNat]?).getD cli0
def has (M : Reg) (i : Int) : Prop := 0 ≤ i ∧ i < M.n
def ansP (M : Reg) (p : Pend) : Pend := { p with proof := (M.cli p.client).tag }
def ans (M : Reg) (x : Sub) : Rep :=
  if x.kind = 2 then ⟨x.num, M.by_, M.long, M.tag, M.pend.map M.ansP, (M.cli x.target).last.num, (M.cli x.target).last.value, (M.cli x.target).last.data, (M.cli x.target).view, (M.cli x.target).tag⟩
  else ⟨x.num, M.by_, M.long, M.tag, M.pend.map M.ansP, 0, [], dig0, [], dig0⟩
def order (M : Reg) : List UInt8 := orderL M.long M.pend
def setC (M : Reg) (i : Int) (c : Cli) : Reg := { M with cs := M.cs.set i.toNat c }
def subM (n : Int) (x : Sub) : Msg := { msg0 with kind := 1, client := n, sub := x }
def comM (n : Int) (v : List UInt8) (t : Dig) : Msg := { msg0 with kind := 3, client := n, view := v, tag := t }
def newP (n : Int) (x : Sub) : Pend := ⟨n, x.num, x.kind, x.target, x.asked, dig0⟩
/-- What a submit does, answers, and its word. -/
noncomputable def submit (M : Reg) (n : Int) (x : Sub) : Reg × Rep × Int :=
  if ¬ (subM n x).Ok ∨ ¬ M.has n ∨ ¬ M.has x.target then (M, rep0, 2)
  else if x.num = (M.cli n).last.num then (if x = (M.cli n).last then (M, (M.cli n).reply, 0) else (M, rep0, 10))
  else if x.num ≠ (M.cli n).last.num + 1 then (M, rep0, 3)
  else if 512 ≤ M.order.length ∨ 8 ≤ M.pend.length then (M, rep0, 11)
  else ({ M.setC n { M.cli n with last := x, reply := M.ans x } with pend := M.pend ++ [newP n x] }, M.ans x, 0)
/-- What is left of what is pending. -/
def cutP (n k : Int) : List Pend → List Pend
  | [] => []
  | p :: l => if p.client = n ∧ p.num = k then l else cutP n k l
def cut (n k : Int) (l : List Pend) : List Pend := if l.any (fun p => decide (p.client = n ∧ p.num = k)) then cutP n k l else l
/-- What a commit does, and its word. -/
noncomputable def commit (M : Reg) (n : Int) (v : List UInt8) (t : Dig) : Reg × Int :=
  if ¬ (comM n v t).Ok ∨ ¬ M.has n then (M, 2)
  else if ((v.getLast?.getD 0).toNat : Int) ≠ n ∨ (Go.Aff.L09.cnt n v : Int) ≠ (M.cli n).last.num then (M, 3)
  else if Go.Aff.L09.cnt n (M.cli n).view = Go.Aff.L09.cnt n v then (M, 10)
  else if v.length ≤ M.long.length then (M.setC n { M.cli n with view := v, tag := t }, 0)
  else ({ M.setC n { M.cli n with view := v, tag := t } with by_ := n, long := v, tag := t, pend := cut n (Go.Aff.L09.cnt n v) M.pend }, 0)
/-- Registers that may be. -/
structure Ok (M : Reg) : Prop where
  h8 : M.cs.length = 8
  n2 : 2 ≤ M.n
  n8 : M.n ≤ 8
  cl : PendIn M.n M.pend
  pl : M.pend.length ≤ 8
  ll : M.long.length ≤ 512
  rp : ∀ c ∈ M.cs, c.reply.pending.length ≤ 8
  rv : ∀ c ∈ M.cs, c.reply.view.length ≤ 512
  nm : ∀ c ∈ M.cs, 0 ≤ c.last.num ∧ c.last.num ≤ 512
end Reg
theorem cliOf_plain {R : Rg} {i : Int} : cliOf R i = R.plain.cli i := by simp [cliOf, Reg.cli, Rg.plain]
theorem ansP_plain {R : Rg} {p : Pend} : ansP R p = R.plain.ansP p := by simp [ansP, Reg.ansP, cliOf_plain]
theorem ansOf_plain {R : Rg} {x : Sub} : ansOf R x = R.plain.ans x := by
  have e : ansP R = R.plain.ansP := funext fun p => ansP_plain
  unfold ansOf Reg.ans ansC ans0
  rw [e]; simp [cliOf_plain, Rg.plain]
theorem ok_plain {R : Rg} (h : R.plain.Ok) : RgOk R := ⟨h.n2, h.n8, h.cl, h.pl, h.ll⟩
end Go.Aff.L10

