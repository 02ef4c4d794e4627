import Derived.Test.YtndndlofepehiaaG33

set_option linter.unusedSimpArgs false
set_option linter.unusedVariables false

/- Layer 12, walked: the reference's Submit (2). -/
-- cuts
namespace Go.Aff.L10
open Go.Proofs Go.Aff Go.Aff.L01 Classical
set_option linter.unusedVariables false
set_option linter.unusedSimpArgs false
set_option maxRecDepth 20000
attribute [local go_sem] push_app app_app length_app cellAt_app cellAt_app0 set_app set_app0 objs_app objs_app0 List.cons_append List.nil_append List.length_cons List.length_nil List.getElem?_cons_zero List.getElem?_cons_succ List.set_cons_zero List.set_cons_succ List.length_map
attribute [-go_sem] cellAt_new
attribute [-simp] List.length_flatMap
attribute [local go_sem] Try.underlying3 Try.underlying4 Try.underlying5 Try.underlying9 Try.underlying31 Try.underlying32 Try.underlying41 Try.underlying75 Try.underlying24 Try.underlying81 subPs_0 subAt_0 subSet_0 subPs_1 subAt_1 subSet_1 subPs_2 subAt_2 subSet_2 subPs_3 subAt_3 subSet_3 subPs_4 subAt_4 subSet_4 subPs_5 subAt_5 subSet_5 sizes_sub shapes_sub fits_sub zero_sub zt_sub built_sub Try.underlying34 pendPs_0 pendAt_0 pendSet_0 pendPs_1 pendAt_1 pendSet_1 pendPs_2 pendAt_2 pendSet_2 pendPs_3 pendAt_3 pendSet_3 pendPs_4 pendAt_4 pendSet_4 pendPs_5 pendAt_5 pendSet_5 sizes_pend shapes_pend fits_pend zero_pend zt_pend built_pend Try.underlying70 repPs_0 repAt_0 repSet_0 repPs_1 repAt_1 repSet_1 repPs_2 repAt_2 repSet_2 repPs_3 repAt_3 repSet_3 repPs_4 repAt_4 repSet_4 repPs_5 repAt_5 repSet_5 repPs_6 repAt_6 repSet_6 repPs_7 repAt_7 repSet_7 repPs_8 repAt_8 repSet_8 repPs_9 repAt_9 repSet_9 sizes_rep shapes_rep fits_rep zero_rep zt_rep built_rep Try.underlying43 blobPs_0 blobAt_0 blobSet_0 blobPs_1 blobAt_1 blobSet_1 blobPs_2 blobAt_2 blobSet_2 blobPs_3 blobAt_3 blobSet_3 sizes_blob shapes_blob fits_blob zero_blob zt_blob built_blob Try.underlying74 msgPs_0 msgAt_0 msgSet_0 msgPs_1 msgAt_1 msgSet_1 msgPs_2 msgAt_2 msgSet_2 msgPs_3 msgAt_3 msgSet_3 msgPs_4 msgAt_4 msgSet_4 msgPs_5 msgAt_5 msgSet_5 msgPs_6 msgAt_6 msgSet_6 msgPs_7 msgAt_7 msgSet_7 msgPs_8 msgAt_8 msgSet_8 msgPs_9 msgAt_9 msgSet_9 sizes_msg shapes_msg fits_msg zero_msg zt_msg built_msg Try.underlying77 at_Ps_0 at_Set_0 at_Ps_1 at_Set_1 sizes_at_ shapes_at_
attribute [local go_sem] fits3 fits4 fits5 fits9 fits23 fits26 fits31 fits34 fits52 zt3 zero3 zt34 zero34 zt23 zero23 bin_sub_eql bin_pend_eql bin_pend_neq bin_blob_eql bin_dig23_eql bin_dig23_neq slice23
attribute [local go_sem ↓] blockQ_exit2
attribute [local simp] dig_ext
attribute [local go_sem] cliPs_0 cliAt_0 cliSet_0 cliPs_1 cliAt_1 cliSet_1 cliPs_2 cliAt_2 cliSet_2 cliPs_3 cliAt_3 cliSet_3 sizes_cli shapes_cli fits_cli zero_cli zt_cli built_cli actPs_0 actAt_0 actSet_0 actPs_1 actAt_1 actSet_1 actPs_2 actAt_2 actSet_2 actPs_3 actAt_3 actSet_3 actPs_4 actAt_4 actSet_4 sizes_act shapes_act fits_act zero_act zt_act built_act rgPs_0 rgPs_1 rgPs_2 rgPs_3 rgPs_4 rgPs_5 rgSet_0 rgSet_2 rgSet_3 rgSet_4 rgSet_5 rgAt_0 rgAt_1 fits_rg zero_rg zt_rg built_rg fits66 rrgPs_0 rrgSet_0 rrgAt_0 rrgPs_1 rrgSet_1 rrgAt_1 rrgPs_2 rrgSet_2 rrgAt_2 rrgPs_3 rrgSet_3 rrgAt_3 rrgPs_4 rrgSet_4 rrgAt_4 rrgPs_5 rrgSet_5 rrgAt_5 rrgPs_6 rrgSet_6 rrgAt_6 rrgPs_7 rrgSet_7 rrgAt_7 sizes_rrg shapes_rrg fits_rrg zero_rrg zt_rrg built_rrg fits57 fits58 fits39 fits59 fits23r fits41 arrV_none arrV_some arrV_size arrV_agg arrV_shape Try.underlying22 Try.underlying23 Try.underlying28 Try.underlying36 Try.underlying39 Try.underlying57 Try.underlying58 Try.underlying59 Try.underlying61 Try.underlying65 Try.underlying66 Try.underlying68 Try.underlying78
attribute [local go_sem] Try.underlying81
attribute [local go_sem] isAgg_arr size_arr shape_arr known_arr
section
variable {σ0 s s2 : AST} {k i1 i2 i3 i4 : Nat} {X : RM} {F : List (Nat × AObj)} {K : AV → AST → Prop}
theorem refSubmit_c (h : QF σ0 s k i1 i2 i3 i4 X F) (hM : X.Ok) {n : Int} {x : Sub} (hK : ∀ t s', QF σ0 s' k i1 i2 i3 i4 (X.submit n x).1 F → K (.tuple [repV t (X.submit n x).2.1, .int .i64 (X.submit n x).2.2]) s') :
    TCalls Try.prog 25 [.ptr (some (k, [])), .int .i64 n, subV x] s K := by
  have hn8 := h.n8
  have hlt := h.lt
  have hB := h.box2 (.cells (subV x)) (.cells (.agg (repPs .full rep0)))
  have hFl : ∀ y ∈ F, y.1 < s.objs.length := fun y hy => (List.getElem?_eq_some_iff.1 (h.f y hy).2).1
  have hs0 : σ0.objs.length ≤ s.objs.length := by have := h.jn k (by simp); omega
  have cS : ∀ v p, cellAt ((s.app [.cells (subV x), .cells (.agg (repPs .full rep0))]).set (s.objs.length + 1) (.cells v)) (s.objs.length + 1) p = v.at p := fun v p => cellAt_setS (by simp [AST.app])
  generalize hs1 : s.app [.cells (subV x), .cells (.agg (repPs .full rep0))] = s1 at hB cS
  obtain ⟨tk, o⟩ := hB.o
  have c0 := cellAt_known o
  have b0 := (hB.f _ (List.mem_cons_self ..)).2
  have b1 := (hB.f _ (List.mem_cons_of_mem _ (List.mem_cons_self ..))).2
  simp only at b0 b1
  have cb0 := cellAt_known b0
  have hend : ∀ t r e, X.submit n x = (X, r, e) → K (.tuple [repV t r, .int .i64 e]) (s1.set (s.objs.length + 1) (.cells (repV t r))) := fun t r e he => by
    have := hK t (s1.set (s.objs.length + 1) (.cells (repV t r))) ?_
    · rw [he] at this; exact this
    · rw [he]
      refine hB.less.less.setN (by omega) ?_ fun y hy => by have := hFl y hy; omega
      simp only [List.mem_cons, List.not_mem_nil, or_false, not_or]; omega
  refine tcalls_walk Try.f25 _ [.cell 6 43, .tmp 7] Try.func25 rfl rfl rfl mixed (Nat.le_of_ble_eq_true rfl) rfl fun hlen => ?_
  by_cases hok : (Reg.subM n x).Ok
  · by_cases hnH : X.has n
    · by_cases hxH : X.has x.target
      · have hgo : ¬ (¬ (Reg.subM n x).Ok ∨ ¬ X.has n ∨ ¬ X.has x.target) := by rintro (h | h | h) <;> contradiction
        have hn0 := hnH.1
        have hn1 := hnH.2
        have hx0 := hxH.1
        have hx1 := hxH.2
        have hokt := eq_true hok
        have hA1 := arr_at (f := fun x => AV.agg (subPs x)) (hB.sub hnH)
        have A1 : ∀ q, cellAt s1 i1 (n.toNat :: q) = (AV.agg (subPs (X.sub n))).at q := fun q => by rw [cellAt_known hB.o1, hA1]
        have hnm := hM.nm _ (List.mem_of_getElem? (hB.sub hnH))
        have hwr : IntKind.i64.wrap ((X.sub n).num + 1) = (X.sub n).num + 1 := wrap_i64 (by omega) (by omega)
        have hsub : X.submit n x = if x.num = (X.sub n).num then (if x = X.sub n then (X, X.rep n, 0) else (X, rep0, 10))
            else if x.num ≠ (X.sub n).num + 1 then (X, rep0, 3)
            else if 512 ≤ X.long.length + X.pend.length ∨ 8 ≤ X.pend.length then (X, rep0, 11)
            else ({ X with subs := X.subs.set n.toNat x, reps := X.reps.set n.toNat (X.ans x), pend := X.pend ++ [Reg.newP n x] }, X.ans x, 0) := by
          unfold RM.submit; rw [if_neg hgo]
        by_cases e1 : x.num = (X.sub n).num
        · rw [if_pos e1] at hsub
          have e1t := eq_true e1
          by_cases e2 : x = X.sub n
          · rw [if_pos e2] at hsub
            have e2t := eq_true e2
            obtain ⟨l, hl, o2⟩ := hB.o2
            obtain ⟨tr, hlr⟩ : ∃ tr, l[n.toNat]? = some (tr, X.rep n) := by
              have h1 := hB.rep hnH
              rw [← hl, List.getElem?_map, Option.map_eq_some_iff] at h1
              obtain ⟨⟨a, b⟩, h2, h3⟩ := h1
              simp only at h3; subst h3; exact ⟨a, h2⟩
            have A2 : ∀ q, cellAt s1 i2 (n.toNat :: q) = (AV.agg (repPs tr (X.rep n))).at q := fun q => by rw [cellAt_known o2, arr_at hlr]; rfl
            repeat' (first | (simp -dsimp only [↓reduceIte, go_sem, hs1, c0, cb0, hn0, hn1, hx0, hx1, b1, cS, A1, A2, hwr, hokt, e1t, e2t]) | (refine arr_intro fun _ => ?_) | (refine later_intro ⟨keeps_nil, ?_⟩) | (refine later_intro ⟨keeps_refl, ?_⟩) | (with_reducible refine keeps_go ?_ ?_; focus (first | (simp [keeps_cons, keeps_none, objs_app, objs_app0]; done) | (simp only [keeps_cons, keeps_none, objs_app0, objs_app, and_true]; first | rfl | exact ⟨rfl, rfl⟩ | exact ⟨rfl, rfl, rfl⟩))) | (with_reducible refine (And.intro (a := keeps _ _ _) ?_ ?_); focus (first | (simp [keeps_cons, keeps_none, objs_app, objs_app0]; done) | (simp only [keeps_cons, keeps_none, objs_app0, objs_app, and_true]; first | rfl | exact ⟨rfl, rfl⟩ | exact ⟨rfl, rfl, rfl⟩))) | (refine both_ways ?_ ?_) | (rw [wrap_i64 (by omega) (by omega)]) | (refine guardV_split (fun h => ?_) (fun h => ?_) <;> (try rw [h]) <;> (try simp at h) <;> (try (exfalso; omega))) | (refine refIs_c hB ?_) | ((refine refRight_c (m := Reg.subM n x) subM_by ?_)) | (refine idx1 hB hnH ?_) | (refine idx2 hB hnH ?_) | (with_reducible refine awp_drawS (id := 3) [0, 1, 2, 3, 4, 5, 6, 7, 8, 9, 10] (by kernel_rfl) ?_) | (with_reducible refine awp_drawS (id := 4) [0, 1, 2, 3, 4, 5, 6, 7, 8] (by kernel_rfl) ?_))
            exact hend tr _ 0 hsub
          · rw [if_neg e2] at hsub
            repeat' (first | (simp -dsimp only [↓reduceIte, go_sem, hs1, c0, cb0, hn0, hn1, hx0, hx1, b1, cS, A1, hwr, hokt, e1t, e2]) | (refine arr_intro fun _ => ?_) | (refine later_intro ⟨keeps_nil, ?_⟩) | (refine later_intro ⟨keeps_refl, ?_⟩) | (with_reducible refine keeps_go ?_ ?_; focus (first | (simp [keeps_cons, keeps_none, objs_app, objs_app0]; done) | (simp only [keeps_cons, keeps_none, objs_app0, objs_app, and_true]; first | rfl | exact ⟨rfl, rfl⟩ | exact ⟨rfl, rfl, rfl⟩))) | (with_reducible refine (And.intro (a := keeps _ _ _) ?_ ?_); focus (first | (simp [keeps_cons, keeps_none, objs_app, objs_app0]; done) | (simp only [keeps_cons, keeps_none, objs_app0, objs_app, and_true]; first | rfl | exact ⟨rfl, rfl⟩ | exact ⟨rfl, rfl, rfl⟩))) | (refine both_ways ?_ ?_) | (rw [wrap_i64 (by omega) (by omega)]) | (refine guardV_split (fun h => ?_) (fun h => ?_) <;> (try rw [h]) <;> (try simp at h) <;> (try (exfalso; omega))) | (refine refIs_c hB ?_) | ((refine refRight_c (m := Reg.subM n x) subM_by ?_)) | (refine idx1 hB hnH ?_) | (with_reducible refine awp_drawS (id := 3) [0, 1, 2, 3, 4, 5, 6, 7, 8, 9, 10] (by kernel_rfl) ?_) | (with_reducible refine awp_drawS (id := 4) [0, 1, 2, 3, 4, 5, 6, 7, 8] (by kernel_rfl) ?_))
            exact hend .full rep0 10 hsub
        · rw [if_neg e1] at hsub
          by_cases e3 : x.num = (X.sub n).num + 1
          · rw [if_neg (by simpa using e3)] at hsub
            have e3t := eq_true e3
            have hlb := hM.ll
            have hpb := hM.pl
            by_cases e4 : 512 ≤ X.long.length + X.pend.length ∨ 8 ≤ X.pend.length
            · rw [if_pos e4] at hsub
              repeat' (first | (simp -dsimp only [↓reduceIte, go_sem, hs1, c0, cb0, hn0, hn1, hx0, hx1, b1, cS, A1, hwr, hokt, e1, e3t]) | (refine arr_intro fun _ => ?_) | (refine later_intro ⟨keeps_nil, ?_⟩) | (refine later_intro ⟨keeps_refl, ?_⟩) | (with_reducible refine keeps_go ?_ ?_; focus (first | (simp [keeps_cons, keeps_none, objs_app, objs_app0]; done) | (simp only [keeps_cons, keeps_none, objs_app0, objs_app, and_true]; first | rfl | exact ⟨rfl, rfl⟩ | exact ⟨rfl, rfl, rfl⟩))) | (with_reducible refine (And.intro (a := keeps _ _ _) ?_ ?_); focus (first | (simp [keeps_cons, keeps_none, objs_app, objs_app0]; done) | (simp only [keeps_cons, keeps_none, objs_app0, objs_app, and_true]; first | rfl | exact ⟨rfl, rfl⟩ | exact ⟨rfl, rfl, rfl⟩))) | (refine both_ways ?_ ?_) | (rw [wrap_i64 (by omega) (by omega)]) | (refine guardV_split (fun h => ?_) (fun h => ?_) <;> (try rw [h]) <;> (try simp at h) <;> (try (exfalso; omega))) | (refine refIs_c hB ?_) | ((refine refRight_c (m := Reg.subM n x) subM_by ?_)) | (refine idx1 hB hnH ?_) | (with_reducible refine awp_drawS (id := 3) [0, 1, 2, 3, 4, 5, 6, 7, 8, 9, 10] (by kernel_rfl) ?_) | (with_reducible refine awp_drawS (id := 4) [0, 1, 2, 3, 4, 5, 6, 7, 8] (by kernel_rfl) ?_) | (with_reducible refine awp_drawS (id := 7) [0, 1, 2, 3, 4, 5, 6, 7, 8, 9, 10, 11] (by kernel_rfl) ?_) | (with_reducible refine awp_drawS (id := 9) [0, 1, 2, 3, 4, 5, 6, 7, 8, 9, 10, 11, 12, 13, 14, 15, 16, 17, 18, 19] (by kernel_rfl) ?_))
              all_goals first
                | exact hend .full rep0 11 hsub
                | (exfalso; omega)
            · rw [if_neg e4] at hsub
              have e4' : ¬ (512 : Int) ≤ (X.long.length : Int) + X.pend.length := by omega
              have e5' : ¬ (8 : Int) ≤ X.pend.length := by omega
              have hk1 := cellAt_known hB.o1
              repeat' (first | (simp -dsimp only [↓reduceIte, go_sem, hs1, c0, cb0, hn0, hn1, hx0, hx1, b1, cS, A1, hwr, hokt, e1, e3t, e4', e5']) | (refine arr_intro fun _ => ?_) | (refine later_intro ⟨keeps_nil, ?_⟩) | (refine later_intro ⟨keeps_refl, ?_⟩) | (with_reducible refine keeps_go ?_ ?_; focus (first | (simp [keeps_cons, keeps_none, objs_app, objs_app0]; done) | (simp only [keeps_cons, keeps_none, objs_app0, objs_app, and_true]; first | rfl | exact ⟨rfl, rfl⟩ | exact ⟨rfl, rfl, rfl⟩))) | (with_reducible refine (And.intro (a := keeps _ _ _) ?_ ?_); focus (first | (simp [keeps_cons, keeps_none, objs_app, objs_app0]; done) | (simp only [keeps_cons, keeps_none, objs_app0, objs_app, and_true]; first | rfl | exact ⟨rfl, rfl⟩ | exact ⟨rfl, rfl, rfl⟩))) | (refine both_ways ?_ ?_) | (rw [wrap_i64 (by omega) (by omega)]) | (refine guardV_split (fun h => ?_) (fun h => ?_) <;> (try rw [h]) <;> (try simp at h) <;> (try (exfalso; omega))) | (refine refIs_c hB ?_) | ((refine refRight_c (m := Reg.subM n x) subM_by ?_)) | (refine idx1 hB hnH ?_) | (with_reducible refine awp_drawS (id := 3) [0, 1, 2, 3, 4, 5, 6, 7, 8, 9, 10] (by kernel_rfl) ?_) | (with_reducible refine awp_drawS (id := 4) [0, 1, 2, 3, 4, 5, 6, 7, 8] (by kernel_rfl) ?_) | (with_reducible refine awp_drawS (id := 7) [0, 1, 2, 3, 4, 5, 6, 7, 8, 9, 10, 11] (by kernel_rfl) ?_) | (with_reducible refine awp_drawS (id := 9) [0, 1, 2, 3, 4, 5, 6, 7, 8, 9, 10, 11, 12, 13, 14, 15, 16, 17, 18, 19] (by kernel_rfl) ?_))
              have oA := fun l => objs_known_app o l
              have cA := fun l => cellAt_known (oA l)
              have b0A := fun l => objs_known_app b0 l
              have hl1 := hB.lt
              have hb1l := (List.getElem?_eq_some_iff.1 b1).1
              repeat' (first | (simp -dsimp only [↓reduceIte, go_sem, c0, o, cb0, cA, oA]) | (refine arr_intro fun _ => ?_) | (refine later_intro ⟨keeps_nil, ?_⟩) | (refine later_intro ⟨keeps_refl, ?_⟩) | (with_reducible refine keeps_go ?_ ?_; focus (first | (simp [keeps_cons, keeps_none, objs_app, objs_app0]; done) | (simp only [keeps_cons, keeps_none, objs_app0, objs_app, and_true]; first | rfl | exact ⟨rfl, rfl⟩ | exact ⟨rfl, rfl, rfl⟩))) | (with_reducible refine (And.intro (a := keeps _ _ _) ?_ ?_); focus (first | (simp [keeps_cons, keeps_none, objs_app, objs_app0]; done) | (simp only [keeps_cons, keeps_none, objs_app0, objs_app, and_true]; first | rfl | exact ⟨rfl, rfl⟩ | exact ⟨rfl, rfl, rfl⟩))) | (refine both_ways ?_ ?_) | (rw [wrap_i64 (by omega) (by omega)]) | (refine guardV_split (fun h => ?_) (fun h => ?_) <;> (try rw [h]) <;> (try simp at h) <;> (try (exfalso; omega))) | (with_reducible refine awp_drawU (id := 11) (.op 0 0 (.op 1 0 (.op 2 0 (.op 3 0 (.op 4 0 (.op 5 0 (.op 6 0 (.op 7 0 (.op 8 0 (.op 9 0 (.op 10 0 (.op 11 0 (.op 12 0 (.op 13 0 (.op 14 0 (.op 15 1 (.cut (.op 16 1 .nil)))))))))))))))))) (by kernel_rfl) ?_) | (with_reducible refine keeps_go ?_ ?_; focus (simp [keeps_cons, keeps_none, objs_app, objs_app0, oA, o, b0, b0A]; done)) | (with_reducible refine (And.intro (a := keeps _ _ _) ?_ ?_); focus (simp [keeps_cons, keeps_none, objs_app, objs_app0, oA, o, b0, b0A]; done)))
              refine awp_rounds (fun (i : Nat) τ s' => ∃ tk', Gr s1 s' tk' i 68 ∧ s'.objs[s1.objs.length]? = some (.cells (repV tk' (X.ans0 x.num ((X.pend.take i).map X.ansP)))) ∧ i ≤ X.pend.length ∧ τ 0 = .ptr (some (k, [])) ∧ τ 1 = .int .i64 n ∧ τ 5 = .ptr (some (s.objs.length, [])) ∧ τ 6 = .ptr (some (s.objs.length + 1, [])) ∧ τ 8 = .ptr (some (s1.objs.length, [])) ∧ τ 9 = .int .i64 i) (fun i => X.pend.length - i) 0 ?_ ?_
              · refine ⟨.full, Gr.start' (Ext.app _ _), objs_app0, by omega, ?_, ?_, ?_, ?_, ?_, ?_⟩ <;> (try simp only [go_sem]) <;> (try rfl)
              · rintro i τ s' ⟨tk', hg, b2, hi, t0, t1, t5, t6, t8, t9⟩
                have hQ := hB.ext hg.x
                have hQA := fun l => hQ.ext (Ext.app s' l)
                obtain ⟨tq, oq⟩ := hQ.o
                have oqA := fun l => objs_known_app oq l
                have cqA := fun l => cellAt_known (oqA l)
                have cq := cellAt_known oq
                have c2 := cellAt_known b2
                have b2A := fun l => objs_known_app b2 l
                have c2A := fun l => cellAt_known (b2A l)
                have h2 := (List.getElem?_eq_some_iff.1 b2).1
                have hkb0 := (hQ.f _ (List.mem_cons_self ..)).2
                have hkb1 := (hQ.f _ (List.mem_cons_of_mem _ (List.mem_cons_self ..))).2
                simp only at hkb0 hkb1
                have ckb0 := cellAt_known hkb0
                by_cases hil : i < X.pend.length
                · have hi1 : (i : Int) < X.pend.length := by omega
                  obtain ⟨y, hy, hym⟩ := get_of_lt hil
                  have hcy : X.has y.client := hM.cl y hym
                  have hnx := RM.ansP_next hy
                  have hgA := fun l => hg.app (l := l)
                  have A4 : ∀ l q, cellAt (s'.app l) i4 (y.client.toNat :: q) = (AV.dig (X.tg y.client)).at q := fun l q => by rw [cellAt_known (hQA l).o4, arr_at ((hQA l).tg hcy)]
                  repeat' (first | (simp -dsimp only [↓reduceIte, go_sem, t0, t1, t5, t6, t8, t9, hi1, cq, cqA, oqA, b2A, c2A, A4, cellAt_growS, objs_growS]) | (refine arr_intro fun _ => ?_) | (refine later_intro ⟨keeps_nil, ?_⟩) | (refine later_intro ⟨keeps_refl, ?_⟩) | (with_reducible refine keeps_go ?_ ?_; focus (first | (simp [keeps_cons, keeps_none, objs_app, objs_app0]; done) | (simp only [keeps_cons, keeps_none, objs_app0, objs_app, and_true]; first | rfl | exact ⟨rfl, rfl⟩ | exact ⟨rfl, rfl, rfl⟩))) | (with_reducible refine (And.intro (a := keeps _ _ _) ?_ ?_); focus (first | (simp [keeps_cons, keeps_none, objs_app, objs_app0]; done) | (simp only [keeps_cons, keeps_none, objs_app0, objs_app, and_true]; first | rfl | exact ⟨rfl, rfl⟩ | exact ⟨rfl, rfl, rfl⟩))) | (refine both_ways ?_ ?_) | (rw [wrap_i64 (by omega) (by omega)]) | (refine guardV_split (fun h => ?_) (fun h => ?_) <;> (try rw [h]) <;> (try simp at h) <;> (try (exfalso; omega))) | (refine nth_get hy ?_) | (with_reducible refine awp_drawT (id := 16) (.op 0 2 (.op 1 2 (.op 2 2 (.op 3 2 (.op 4 2 (.op 5 2 (.op 6 2 (.op 7 2 (.op 8 2 (.op 9 1 .nil)))))))))) (by kernel_rfl) ?_) | (refine idx4 (hQA _) hcy ?_) | (with_reducible refine keeps_go ?_ ?_; focus (simp [keeps_cons, keeps_none, objs_app, objs_app0, oqA, (hQA _).o4]; done)) | (with_reducible refine (And.intro (a := keeps _ _ _) ?_ ?_); focus (simp [keeps_cons, keeps_none, objs_app, objs_app0, oqA, (hQA _).o4]; done)) | (refine build_pend ?_) | (refine append_pend (a := (X.pend.take i).map X.ansP) (canApp_of (hgA _).c (by simp; omega)) (by simp; omega) ?_))
                  have hg2 := (hgA [.cells (pendV (X.ansP y))]).grow (m := i + 1)
                  refine later_intro ⟨i + 1, by omega, growT (s'.app [.cells (pendV (X.ansP y))]) tk', ?_, ?_, by omega, ?_, ?_, ?_, ?_, ?_, ?_⟩ <;> (try simp only [go_sem, t0, t1, t5, t6, t8, t9]) <;> (try rfl)
                  · have he : (X.pend.take i).length = i := by simp; omega
                    rw [he]
                    exact hg2.set (Nat.le_refl _)
                  · rw [objs_setS (by simp only [growS_objs]; exact (List.getElem?_eq_some_iff.1 (b2A _)).1), hnx]; rfl
                · have hi1 : ¬ (i : Int) < X.pend.length := by omega
                  have he : i = X.pend.length := by omega
                  subst he
                  rw [List.take_length] at b2 b2A c2A c2
                  by_cases hk : x.kind = 2
                  · have hlq := hQ.lt
                    have nkq : s1.objs.length ≠ k ∧ s1.objs.length ≠ i1 ∧ s1.objs.length ≠ i2 ∧ s1.objs.length ≠ i3 ∧ s1.objs.length ≠ i4 ∧ s1.objs.length ≠ s.objs.length := by omega
                    obtain ⟨m0, m1, m2, m3, m4, m5⟩ := nkq
                    have hQv : ∀ v, QF σ0 (s'.set s1.objs.length v) k i1 i2 i3 i4 X ((s.objs.length, .cells (subV x)) :: (s.objs.length + 1, .cells (.agg (repPs .full rep0))) :: F) := fun v => by
                      refine hQ.setN (by omega) ?_ fun y hy => ?_
                      · simp only [List.mem_cons, List.not_mem_nil, or_false, not_or]; omega
                      · simp only [List.mem_cons] at hy
                        rcases hy with rfl | rfl | hy
                        · simp only; omega
                        · simp only; omega
                        · have := hFl y hy; omega
                    have cS2 : ∀ v p, cellAt (s'.set s1.objs.length (.cells v)) s1.objs.length p = v.at p := fun v p => cellAt_setS h2
                    have oS2 : ∀ v, (s'.set s1.objs.length v).objs[s1.objs.length]? = some v := fun v => objs_setS h2
                    have A1s : ∀ q, cellAt s' i1 (x.target.toNat :: q) = (AV.agg (subPs (X.sub x.target))).at q := fun q => by rw [cellAt_known hQ.o1, arr_at (f := fun x => AV.agg (subPs x)) (hQ.sub hxH)]
                    have A3s : ∀ q, cellAt s' i3 (x.target.toNat :: q) = (AV.str (X.view x.target)).at q := fun q => by rw [cellAt_known hQ.o3, arr_at (hQ.view hxH)]
                    have A4s : ∀ q, cellAt s' i4 (x.target.toNat :: q) = (AV.dig (X.tg x.target)).at q := fun q => by rw [cellAt_known hQ.o4, arr_at (hQ.tg hxH)]
                    repeat' (first | (simp -dsimp only [↓reduceIte, go_sem, t0, t1, t5, t6, t8, t9, hi1, cq, ckb0, hk, b2, c2, A1s, A3s, A4s, cellAt_setN m0, cellAt_setN m1, cellAt_setN m3, cellAt_setN m4, cellAt_setN m5, objs_setN m0, cS2, oS2, set_set]) | (refine arr_intro fun _ => ?_) | (refine later_intro ⟨keeps_nil, ?_⟩) | (refine later_intro ⟨keeps_refl, ?_⟩) | (with_reducible refine keeps_go ?_ ?_; focus (first | (simp [keeps_cons, keeps_none, objs_app, objs_app0]; done) | (simp only [keeps_cons, keeps_none, objs_app0, objs_app, and_true]; first | rfl | exact ⟨rfl, rfl⟩ | exact ⟨rfl, rfl, rfl⟩))) | (with_reducible refine (And.intro (a := keeps _ _ _) ?_ ?_); focus (first | (simp [keeps_cons, keeps_none, objs_app, objs_app0]; done) | (simp only [keeps_cons, keeps_none, objs_app0, objs_app, and_true]; first | rfl | exact ⟨rfl, rfl⟩ | exact ⟨rfl, rfl, rfl⟩))) | (refine both_ways ?_ ?_) | (rw [wrap_i64 (by omega) (by omega)]) | (refine guardV_split (fun h => ?_) (fun h => ?_) <;> (try rw [h]) <;> (try simp at h) <;> (try (exfalso; omega))) | (refine idx1 hQ hxH ?_) | (refine idx1 (hQv _) hxH ?_) | (refine idx3 (hQv _) hxH ?_) | (refine idx4 (hQv _) hxH ?_))
                    have h2S := oS2 (.cells (repV tk' (X.ansC x.num (X.pend.map X.ansP) x.target)))
                    have hQ0 := hQv (.cells (repV tk' (X.ansC x.num (X.pend.map X.ansP) x.target)))
                    have hQ1 := hQ0.more (i := s1.objs.length) (o := .cells (repV tk' (X.ansC x.num (X.pend.map X.ansP) x.target))) h2S (by simp only [List.mem_cons, List.not_mem_nil, or_false, not_or]; omega)
                    generalize hSS : AST.set s' s1.objs.length _ = S
                    replace hQ1 : QF σ0 S k i1 i2 i3 i4 X ((s1.objs.length, .cells (repV tk' (X.ansC x.num (X.pend.map X.ansP) x.target))) :: (s.objs.length, .cells (subV x)) :: (s.objs.length + 1, .cells (.agg (repPs .full rep0))) :: F) := by first | exact hQ1 | (rw [← hSS]; exact hQ1)
                    have hAA : X.ansC x.num (X.pend.map X.ansP) x.target = X.ans x := by unfold RM.ans; rw [if_pos hk]
                    rw [hAA] at hQ1
                    clear hQ0 h2S
                    obtain ⟨ta, oa⟩ := hQ1.o
                    have ca := cellAt_known oa
                    have g2 := (hQ1.f _ (List.mem_cons_self ..)).2
                    have g0 := (hQ1.f _ (List.mem_cons_of_mem _ (List.mem_cons_self ..))).2
                    simp only at g2 g0
                    have cg0 := cellAt_known g0
                    have so1 : ∀ w, setOk (.agg (X.subs.map fun x => AV.agg (subPs x))) [n.toNat] w := fun w => arr_setOk
                    have sa1 : (AV.agg (X.subs.map fun x => AV.agg (subPs x))).setAt [n.toNat] (.agg (subPs x)) = .agg ((X.subs.set n.toNat x).map fun x => AV.agg (subPs x)) := arr_setAt (f := fun x => AV.agg (subPs x)) (hQ1.sub hnH)
                    have at1 : (AV.agg (X.subs.map fun x => AV.agg (subPs x))).at [n.toNat] = some (.agg (subPs (X.sub n))) := by rw [arr_at (f := fun x => AV.agg (subPs x)) (hQ1.sub hnH)]; rfl
                    repeat' (first | (simp -dsimp only [↓reduceIte, go_sem, hQ1.o1, so1, sa1, at1, ca, cg0, t0, t1, t5, t6, t8, t9]) | (refine arr_intro fun _ => ?_) | (refine later_intro ⟨keeps_nil, ?_⟩) | (refine later_intro ⟨keeps_refl, ?_⟩) | (with_reducible refine keeps_go ?_ ?_; focus (first | (simp [keeps_cons, keeps_none, objs_app, objs_app0]; done) | (simp only [keeps_cons, keeps_none, objs_app0, objs_app, and_true]; first | rfl | exact ⟨rfl, rfl⟩ | exact ⟨rfl, rfl, rfl⟩))) | (with_reducible refine (And.intro (a := keeps _ _ _) ?_ ?_); focus (first | (simp [keeps_cons, keeps_none, objs_app, objs_app0]; done) | (simp only [keeps_cons, keeps_none, objs_app0, objs_app, and_true]; first | rfl | exact ⟨rfl, rfl⟩ | exact ⟨rfl, rfl, rfl⟩))) | (refine both_ways ?_ ?_) | (rw [wrap_i64 (by omega) (by omega)]) | (refine guardV_split (fun h => ?_) (fun h => ?_) <;> (try rw [h]) <;> (try simp at h) <;> (try (exfalso; omega))) | (with_reducible refine awp_drawT (id := 25) (.op 0 2 (.op 1 2 (.op 2 2 (.op 3 2 (.op 4 2 (.op 5 2 (.op 6 2 (.op 7 1 .nil)))))))) (by kernel_rfl) ?_) | (refine idx1 hQ1 hnH ?_))
                    have hQ2 := hQ1.put1 (i := n.toNat) (y := x)
                    generalize S.set i1 _ = S2 at hQ2 ⊢
                    obtain ⟨tb, ob⟩ := hQ2.o
                    have cb := cellAt_known ob
                    have g2 := (hQ2.f _ (List.mem_cons_self ..)).2
                    simp only at g2
                    have cg2 := cellAt_known g2
                    obtain ⟨l, hl, o2⟩ := hQ2.o2
                    have hll : n.toNat < l.length := by
                      have h1 := congrArg List.length hl
                      simp only [List.length_map] at h1
                      have h2 := hQ2.l2
                      simp only at h1 h2
                      omega
                    have hlg := List.getElem?_eq_getElem hll
                    have so2 : ∀ w, setOk (.agg (l.map repP)) [n.toNat] w := fun w => arr_setOk
                    have sa2 : ∀ t y, (AV.agg (l.map repP)).setAt [n.toNat] (.agg (repPs t y)) = .agg ((l.set n.toNat (t, y)).map repP) := fun t y => arr_setAt (f := repP) (z := (t, y)) hlg
                    have at2 : (AV.agg (l.map repP)).at [n.toNat] = some (.agg (repPs (l[n.toNat]).1 (l[n.toNat]).2)) := by rw [arr_at (f := repP) hlg]; rfl
                    repeat' (first | (simp -dsimp only [↓reduceIte, go_sem, o2, so2, sa2, at2, cb, cg2, t0, t1, t5, t6, t8, t9]) | (refine arr_intro fun _ => ?_) | (refine later_intro ⟨keeps_nil, ?_⟩) | (refine later_intro ⟨keeps_refl, ?_⟩) | (with_reducible refine keeps_go ?_ ?_; focus (first | (simp [keeps_cons, keeps_none, objs_app, objs_app0]; done) | (simp only [keeps_cons, keeps_none, objs_app0, objs_app, and_true]; first | rfl | exact ⟨rfl, rfl⟩ | exact ⟨rfl, rfl, rfl⟩))) | (with_reducible refine (And.intro (a := keeps _ _ _) ?_ ?_); focus (first | (simp [keeps_cons, keeps_none, objs_app, objs_app0]; done) | (simp only [keeps_cons, keeps_none, objs_app0, objs_app, and_true]; first | rfl | exact ⟨rfl, rfl⟩ | exact ⟨rfl, rfl, rfl⟩))) | (refine both_ways ?_ ?_) | (rw [wrap_i64 (by omega) (by omega)]) | (refine guardV_split (fun h => ?_) (fun h => ?_) <;> (try rw [h]) <;> (try simp at h) <;> (try (exfalso; omega))) | (with_reducible refine awp_drawT (id := 26) (.op 0 2 (.op 1 2 (.op 2 2 (.op 3 2 (.op 4 2 (.op 5 2 (.op 6 2 (.op 7 1 .nil)))))))) (by kernel_rfl) ?_) | (refine idx2 hQ2 hnH ?_))
                    have hQ3 := hQ2.put2 hl (i := n.toNat) (t := tk') (y := X.ans x)
                    generalize S2.set i2 _ = S3 at hQ3 ⊢
                    obtain ⟨tc, oc⟩ := hQ3.o
                    have cc := cellAt_known oc
                    have g0 := (hQ3.f _ (List.mem_cons_of_mem _ (List.mem_cons_self ..))).2
                    simp only at g0
                    have cg0 := cellAt_known g0
                    have hpb' : X.pend.length ≤ 8 := hpb
                    repeat' (first | (simp -dsimp only [↓reduceIte, go_sem, oc, cc, cg0, cellAt_growS, objs_growS, t0, t1, t5, t6, t8, t9]) | (refine arr_intro fun _ => ?_) | (refine later_intro ⟨keeps_nil, ?_⟩) | (refine later_intro ⟨keeps_refl, ?_⟩) | (with_reducible refine keeps_go ?_ ?_; focus (first | (simp [keeps_cons, keeps_none, objs_app, objs_app0]; done) | (simp only [keeps_cons, keeps_none, objs_app0, objs_app, and_true]; first | rfl | exact ⟨rfl, rfl⟩ | exact ⟨rfl, rfl, rfl⟩))) | (with_reducible refine (And.intro (a := keeps _ _ _) ?_ ?_); focus (first | (simp [keeps_cons, keeps_none, objs_app, objs_app0]; done) | (simp only [keeps_cons, keeps_none, objs_app0, objs_app, and_true]; first | rfl | exact ⟨rfl, rfl⟩ | exact ⟨rfl, rfl, rfl⟩))) | (refine both_ways ?_ ?_) | (rw [wrap_i64 (by omega) (by omega)]) | (refine guardV_split (fun h => ?_) (fun h => ?_) <;> (try rw [h]) <;> (try simp at h) <;> (try (exfalso; omega))) | (with_reducible refine awp_drawU (id := 27) (.op 0 0 (.op 1 2 (.op 2 2 (.op 3 2 (.op 4 2 (.op 5 2 (.op 7 0 (.op 8 0 (.op 9 0 (.op 10 0 (.op 11 0 (.op 12 0 (.op 13 0 (.op 14 0 (.op 15 0 (.op 16 0 (.op 17 0 (.op 6 1 (.op 18 1 (.cut (.op 19 2 (.op 20 2 (.op 21 1 .nil))))))))))))))))))))))) (by kernel_rfl) ?_) | (with_reducible refine keeps_go ?_ ?_; focus (simp [keeps_cons, keeps_none, objs_app, objs_app0, oc, g0, objs_growS]; done)) | (with_reducible refine (And.intro (a := keeps _ _ _) ?_ ?_); focus (simp [keeps_cons, keeps_none, objs_app, objs_app0, oc, g0, objs_growS]; done)) | (refine build_pend0 ?_) | (refine build_pend ?_) | (refine append_pnone (by omega) ?_) | (refine append_pend canGrow (by omega) ?_))
                    have hQ4 := ((hQ3.grow (tk := .full) (m := X.pend.length) (e := 68) (.inl rfl)).grow (tk := growT S3 .full) (m := X.pend.length + 1) (e := 68) ((show tkNew σ0 .full from .inl rfl).grow hQ3.x)).putk (t := growT (growS S3 .full X.pend.length 68) (growT S3 .full)) (b := X.by_) (l := X.long) (g := X.tag) (p := X.pend ++ [{ client := n, num := x.num, kind := x.kind, target := x.target, asked := x.asked, proof := pend0.proof }])
                    generalize AST.set _ k _ = S4 at hQ4 ⊢
                    have g2 := (hQ4.f _ (List.mem_cons_self ..)).2
                    have g1 := (hQ4.f _ (List.mem_cons_of_mem _ (List.mem_cons_of_mem _ (List.mem_cons_self ..)))).2
                    simp only at g2 g1
                    have cg2 := cellAt_known g2
                    have cS4 : ∀ v p, cellAt (S4.set (s.objs.length + 1) (.cells v)) (s.objs.length + 1) p = v.at p := fun v p => cellAt_setS (List.getElem?_eq_some_iff.1 g1).1
                    repeat' (first | (simp -dsimp only [↓reduceIte, go_sem, cg2, g1, cS4, t0, t1, t5, t6, t8, t9]) | (refine arr_intro fun _ => ?_) | (refine later_intro ⟨keeps_nil, ?_⟩) | (refine later_intro ⟨keeps_refl, ?_⟩) | (with_reducible refine keeps_go ?_ ?_; focus (first | (simp [keeps_cons, keeps_none, objs_app, objs_app0]; done) | (simp only [keeps_cons, keeps_none, objs_app0, objs_app, and_true]; first | rfl | exact ⟨rfl, rfl⟩ | exact ⟨rfl, rfl, rfl⟩))) | (with_reducible refine (And.intro (a := keeps _ _ _) ?_ ?_); focus (first | (simp [keeps_cons, keeps_none, objs_app, objs_app0]; done) | (simp only [keeps_cons, keeps_none, objs_app0, objs_app, and_true]; first | rfl | exact ⟨rfl, rfl⟩ | exact ⟨rfl, rfl, rfl⟩))) | (refine both_ways ?_ ?_) | (rw [wrap_i64 (by omega) (by omega)]) | (refine guardV_split (fun h => ?_) (fun h => ?_) <;> (try rw [h]) <;> (try simp at h) <;> (try (exfalso; omega))))
                    have hfin := hK tk' (S4.set (s.objs.length + 1) (.cells (repV tk' (X.ans x)))) (by
                      rw [hsub]
                      refine hQ4.less.less.less.setN (by omega) ?_ fun y hy => by have := hFl y hy; omega
                      simp only [List.mem_cons, List.not_mem_nil, or_false, not_or]; omega)
                    rw [hsub] at hfin
                    exact hfin
                  · repeat' (first | (simp -dsimp only [↓reduceIte, go_sem, t0, t1, t5, t6, t8, t9, hi1, cq, ckb0, hk]) | (refine arr_intro fun _ => ?_) | (refine later_intro ⟨keeps_nil, ?_⟩) | (refine later_intro ⟨keeps_refl, ?_⟩) | (with_reducible refine keeps_go ?_ ?_; focus (first | (simp [keeps_cons, keeps_none, objs_app, objs_app0]; done) | (simp only [keeps_cons, keeps_none, objs_app0, objs_app, and_true]; first | rfl | exact ⟨rfl, rfl⟩ | exact ⟨rfl, rfl, rfl⟩))) | (with_reducible refine (And.intro (a := keeps _ _ _) ?_ ?_); focus (first | (simp [keeps_cons, keeps_none, objs_app, objs_app0]; done) | (simp only [keeps_cons, keeps_none, objs_app0, objs_app, and_true]; first | rfl | exact ⟨rfl, rfl⟩ | exact ⟨rfl, rfl, rfl⟩))) | (refine both_ways ?_ ?_) | (rw [wrap_i64 (by omega) (by omega)]) | (refine guardV_split (fun h => ?_) (fun h => ?_) <;> (try rw [h]) <;> (try simp at h) <;> (try (exfalso; omega))))
                    have h2S := b2
                    have hQ0 := hQ
                    have hQ1 := hQ0.more (i := s1.objs.length) (o := .cells (repV tk' (X.ans0 x.num (X.pend.map X.ansP)))) h2S (by simp only [List.mem_cons, List.not_mem_nil, or_false, not_or]; omega)
                    generalize hSS : s' = S at hQ1 ⊢
                    replace hQ1 : QF σ0 S k i1 i2 i3 i4 X ((s1.objs.length, .cells (repV tk' (X.ans0 x.num (X.pend.map X.ansP)))) :: (s.objs.length, .cells (subV x)) :: (s.objs.length + 1, .cells (.agg (repPs .full rep0))) :: F) := by first | exact hQ1 | (rw [← hSS]; exact hQ1)
                    have hAA : X.ans0 x.num (X.pend.map X.ansP) = X.ans x := by unfold RM.ans; rw [if_neg hk]
                    rw [hAA] at hQ1
                    clear hQ0 h2S
                    obtain ⟨ta, oa⟩ := hQ1.o
                    have ca := cellAt_known oa
                    have g2 := (hQ1.f _ (List.mem_cons_self ..)).2
                    have g0 := (hQ1.f _ (List.mem_cons_of_mem _ (List.mem_cons_self ..))).2
                    simp only at g2 g0
                    have cg0 := cellAt_known g0
                    have so1 : ∀ w, setOk (.agg (X.subs.map fun x => AV.agg (subPs x))) [n.toNat] w := fun w => arr_setOk
                    have sa1 : (AV.agg (X.subs.map fun x => AV.agg (subPs x))).setAt [n.toNat] (.agg (subPs x)) = .agg ((X.subs.set n.toNat x).map fun x => AV.agg (subPs x)) := arr_setAt (f := fun x => AV.agg (subPs x)) (hQ1.sub hnH)
                    have at1 : (AV.agg (X.subs.map fun x => AV.agg (subPs x))).at [n.toNat] = some (.agg (subPs (X.sub n))) := by rw [arr_at (f := fun x => AV.agg (subPs x)) (hQ1.sub hnH)]; rfl
                    repeat' (first | (simp -dsimp only [↓reduceIte, go_sem, hQ1.o1, so1, sa1, at1, ca, cg0, t0, t1, t5, t6, t8, t9]) | (refine arr_intro fun _ => ?_) | (refine later_intro ⟨keeps_nil, ?_⟩) | (refine later_intro ⟨keeps_refl, ?_⟩) | (with_reducible refine keeps_go ?_ ?_; focus (first | (simp [keeps_cons, keeps_none, objs_app, objs_app0]; done) | (simp only [keeps_cons, keeps_none, objs_app0, objs_app, and_true]; first | rfl | exact ⟨rfl, rfl⟩ | exact ⟨rfl, rfl, rfl⟩))) | (with_reducible refine (And.intro (a := keeps _ _ _) ?_ ?_); focus (first | (simp [keeps_cons, keeps_none, objs_app, objs_app0]; done) | (simp only [keeps_cons, keeps_none, objs_app0, objs_app, and_true]; first | rfl | exact ⟨rfl, rfl⟩ | exact ⟨rfl, rfl, rfl⟩))) | (refine both_ways ?_ ?_) | (rw [wrap_i64 (by omega) (by omega)]) | (refine guardV_split (fun h => ?_) (fun h => ?_) <;> (try rw [h]) <;> (try simp at h) <;> (try (exfalso; omega))) | (with_reducible refine awp_drawT (id := 25) (.op 0 2 (.op 1 2 (.op 2 2 (.op 3 2 (.op 4 2 (.op 5 2 (.op 6 2 (.op 7 1 .nil)))))))) (by kernel_rfl) ?_) | (refine idx1 hQ1 hnH ?_))
                    have hQ2 := hQ1.put1 (i := n.toNat) (y := x)
                    generalize S.set i1 _ = S2 at hQ2 ⊢
                    obtain ⟨tb, ob⟩ := hQ2.o
                    have cb := cellAt_known ob
                    have g2 := (hQ2.f _ (List.mem_cons_self ..)).2
                    simp only at g2
                    have cg2 := cellAt_known g2
                    obtain ⟨l, hl, o2⟩ := hQ2.o2
                    have hll : n.toNat < l.length := by
                      have h1 := congrArg List.length hl
                      simp only [List.length_map] at h1
                      have h2 := hQ2.l2
                      simp only at h1 h2
                      omega
                    have hlg := List.getElem?_eq_getElem hll
                    have so2 : ∀ w, setOk (.agg (l.map repP)) [n.toNat] w := fun w => arr_setOk
                    have sa2 : ∀ t y, (AV.agg (l.map repP)).setAt [n.toNat] (.agg (repPs t y)) = .agg ((l.set n.toNat (t, y)).map repP) := fun t y => arr_setAt (f := repP) (z := (t, y)) hlg
                    have at2 : (AV.agg (l.map repP)).at [n.toNat] = some (.agg (repPs (l[n.toNat]).1 (l[n.toNat]).2)) := by rw [arr_at (f := repP) hlg]; rfl
                    repeat' (first | (simp -dsimp only [↓reduceIte, go_sem, o2, so2, sa2, at2, cb, cg2, t0, t1, t5, t6, t8, t9]) | (refine arr_intro fun _ => ?_) | (refine later_intro ⟨keeps_nil, ?_⟩) | (refine later_intro ⟨keeps_refl, ?_⟩) | (with_reducible refine keeps_go ?_ ?_; focus (first | (simp [keeps_cons, keeps_none, objs_app, objs_app0]; done) | (simp only [keeps_cons, keeps_none, objs_app0, objs_app, and_true]; first | rfl | exact ⟨rfl, rfl⟩ | exact ⟨rfl, rfl, rfl⟩))) | (with_reducible refine (And.intro (a := keeps _ _ _) ?_ ?_); focus (first | (simp [keeps_cons, keeps_none, objs_app, objs_app0]; done) | (simp only [keeps_cons, keeps_none, objs_app0, objs_app, and_true]; first | rfl | exact ⟨rfl, rfl⟩ | exact ⟨rfl, rfl, rfl⟩))) | (refine both_ways ?_ ?_) | (rw [wrap_i64 (by omega) (by omega)]) | (refine guardV_split (fun h => ?_) (fun h => ?_) <;> (try rw [h]) <;> (try simp at h) <;> (try (exfalso; omega))) | (with_reducible refine awp_drawT (id := 26) (.op 0 2 (.op 1 2 (.op 2 2 (.op 3 2 (.op 4 2 (.op 5 2 (.op 6 2 (.op 7 1 .nil)))))))) (by kernel_rfl) ?_) | (refine idx2 hQ2 hnH ?_))
                    have hQ3 := hQ2.put2 hl (i := n.toNat) (t := tk') (y := X.ans x)
                    generalize S2.set i2 _ = S3 at hQ3 ⊢
                    obtain ⟨tc, oc⟩ := hQ3.o
                    have cc := cellAt_known oc
                    have g0 := (hQ3.f _ (List.mem_cons_of_mem _ (List.mem_cons_self ..))).2
                    simp only at g0
                    have cg0 := cellAt_known g0
                    have hpb' : X.pend.length ≤ 8 := hpb
                    repeat' (first | (simp -dsimp only [↓reduceIte, go_sem, oc, cc, cg0, cellAt_growS, objs_growS, t0, t1, t5, t6, t8, t9]) | (refine arr_intro fun _ => ?_) | (refine later_intro ⟨keeps_nil, ?_⟩) | (refine later_intro ⟨keeps_refl, ?_⟩) | (with_reducible refine keeps_go ?_ ?_; focus (first | (simp [keeps_cons, keeps_none, objs_app, objs_app0]; done) | (simp only [keeps_cons, keeps_none, objs_app0, objs_app, and_true]; first | rfl | exact ⟨rfl, rfl⟩ | exact ⟨rfl, rfl, rfl⟩))) | (with_reducible refine (And.intro (a := keeps _ _ _) ?_ ?_); focus (first | (simp [keeps_cons, keeps_none, objs_app, objs_app0]; done) | (simp only [keeps_cons, keeps_none, objs_app0, objs_app, and_true]; first | rfl | exact ⟨rfl, rfl⟩ | exact ⟨rfl, rfl, rfl⟩))) | (refine both_ways ?_ ?_) | (rw [wrap_i64 (by omega) (by omega)]) | (refine guardV_split (fun h => ?_) (fun h => ?_) <;> (try rw [h]) <;> (try simp at h) <;> (try (exfalso; omega))) | (with_reducible refine awp_drawU (id := 27) (.op 0 0 (.op 1 2 (.op 2 2 (.op 3 2 (.op 4 2 (.op 5 2 (.op 7 0 (.op 8 0 (.op 9 0 (.op 10 0 (.op 11 0 (.op 12 0 (.op 13 0 (.op 14 0 (.op 15 0 (.op 16 0 (.op 17 0 (.op 6 1 (.op 18 1 (.cut (.op 19 2 (.op 20 2 (.op 21 1 .nil))))))))))))))))))))))) (by kernel_rfl) ?_) | (with_reducible refine keeps_go ?_ ?_; focus (simp [keeps_cons, keeps_none, objs_app, objs_app0, oc, g0, objs_growS]; done)) | (with_reducible refine (And.intro (a := keeps _ _ _) ?_ ?_); focus (simp [keeps_cons, keeps_none, objs_app, objs_app0, oc, g0, objs_growS]; done)) | (refine build_pend0 ?_) | (refine build_pend ?_) | (refine append_pnone (by omega) ?_) | (refine append_pend canGrow (by omega) ?_))
                    have hQ4 := ((hQ3.grow (tk := .full) (m := X.pend.length) (e := 68) (.inl rfl)).grow (tk := growT S3 .full) (m := X.pend.length + 1) (e := 68) ((show tkNew σ0 .full from .inl rfl).grow hQ3.x)).putk (t := growT (growS S3 .full X.pend.length 68) (growT S3 .full)) (b := X.by_) (l := X.long) (g := X.tag) (p := X.pend ++ [{ client := n, num := x.num, kind := x.kind, target := x.target, asked := x.asked, proof := pend0.proof }])
                    generalize AST.set _ k _ = S4 at hQ4 ⊢
                    have g2 := (hQ4.f _ (List.mem_cons_self ..)).2
                    have g1 := (hQ4.f _ (List.mem_cons_of_mem _ (List.mem_cons_of_mem _ (List.mem_cons_self ..)))).2
                    simp only at g2 g1
                    have cg2 := cellAt_known g2
                    have cS4 : ∀ v p, cellAt (S4.set (s.objs.length + 1) (.cells v)) (s.objs.length + 1) p = v.at p := fun v p => cellAt_setS (List.getElem?_eq_some_iff.1 g1).1
                    repeat' (first | (simp -dsimp only [↓reduceIte, go_sem, cg2, g1, cS4, t0, t1, t5, t6, t8, t9]) | (refine arr_intro fun _ => ?_) | (refine later_intro ⟨keeps_nil, ?_⟩) | (refine later_intro ⟨keeps_refl, ?_⟩) | (with_reducible refine keeps_go ?_ ?_; focus (first | (simp [keeps_cons, keeps_none, objs_app, objs_app0]; done) | (simp only [keeps_cons, keeps_none, objs_app0, objs_app, and_true]; first | rfl | exact ⟨rfl, rfl⟩ | exact ⟨rfl, rfl, rfl⟩))) | (with_reducible refine (And.intro (a := keeps _ _ _) ?_ ?_); focus (first | (simp [keeps_cons, keeps_none, objs_app, objs_app0]; done) | (simp only [keeps_cons, keeps_none, objs_app0, objs_app, and_true]; first | rfl | exact ⟨rfl, rfl⟩ | exact ⟨rfl, rfl, rfl⟩))) | (refine both_ways ?_ ?_) | (rw [wrap_i64 (by omega) (by omega)]) | (refine guardV_split (fun h => ?_) (fun h => ?_) <;> (try rw [h]) <;> (try simp at h) <;> (try (exfalso; omega))))
                    have hfin := hK tk' (S4.set (s.objs.length + 1) (.cells (repV tk' (X.ans x)))) (by
                      rw [hsub]
                      refine hQ4.less.less.less.setN (by omega) ?_ fun y hy => by have := hFl y hy; omega
                      simp only [List.mem_cons, List.not_mem_nil, or_false, not_or]; omega)
                    rw [hsub] at hfin
                    exact hfin
          · rw [if_pos e3] at hsub
            repeat' (first | (simp -dsimp only [↓reduceIte, go_sem, hs1, c0, cb0, hn0, hn1, hx0, hx1, b1, cS, A1, hwr, hokt, e1, e3]) | (refine arr_intro fun _ => ?_) | (refine later_intro ⟨keeps_nil, ?_⟩) | (refine later_intro ⟨keeps_refl, ?_⟩) | (with_reducible refine keeps_go ?_ ?_; focus (first | (simp [keeps_cons, keeps_none, objs_app, objs_app0]; done) | (simp only [keeps_cons, keeps_none, objs_app0, objs_app, and_true]; first | rfl | exact ⟨rfl, rfl⟩ | exact ⟨rfl, rfl, rfl⟩))) | (with_reducible refine (And.intro (a := keeps _ _ _) ?_ ?_); focus (first | (simp [keeps_cons, keeps_none, objs_app, objs_app0]; done) | (simp only [keeps_cons, keeps_none, objs_app0, objs_app, and_true]; first | rfl | exact ⟨rfl, rfl⟩ | exact ⟨rfl, rfl, rfl⟩))) | (refine both_ways ?_ ?_) | (rw [wrap_i64 (by omega) (by omega)]) | (refine guardV_split (fun h => ?_) (fun h => ?_) <;> (try rw [h]) <;> (try simp at h) <;> (try (exfalso; omega))) | (refine refIs_c hB ?_) | ((refine refRight_c (m := Reg.subM n x) subM_by ?_)) | (refine idx1 hB hnH ?_) | (with_reducible refine awp_drawS (id := 3) [0, 1, 2, 3, 4, 5, 6, 7, 8, 9, 10] (by kernel_rfl) ?_) | (with_reducible refine awp_drawS (id := 4) [0, 1, 2, 3, 4, 5, 6, 7, 8] (by kernel_rfl) ?_) | (with_reducible refine awp_drawS (id := 7) [0, 1, 2, 3, 4, 5, 6, 7, 8, 9, 10, 11] (by kernel_rfl) ?_))
            exact hend .full rep0 3 hsub
      · have hsub : X.submit n x = (X, rep0, 2) := by unfold RM.submit; rw [if_pos (.inr (.inr hxH))]
        have hokt := eq_true hok
        have hn0 := hnH.1
        have hn1 := hnH.2
        have hxd : (0 ≤ x.target ∧ x.target < X.n) = False := eq_false hxH
        repeat' (first | (simp -dsimp only [↓reduceIte, go_sem, hs1, c0, cb0, hn0, hn1, hxd, b1, cS, hokt]) | (refine arr_intro fun _ => ?_) | (refine later_intro ⟨keeps_nil, ?_⟩) | (refine later_intro ⟨keeps_refl, ?_⟩) | (with_reducible refine keeps_go ?_ ?_; focus (first | (simp [keeps_cons, keeps_none, objs_app, objs_app0]; done) | (simp only [keeps_cons, keeps_none, objs_app0, objs_app, and_true]; first | rfl | exact ⟨rfl, rfl⟩ | exact ⟨rfl, rfl, rfl⟩))) | (with_reducible refine (And.intro (a := keeps _ _ _) ?_ ?_); focus (first | (simp [keeps_cons, keeps_none, objs_app, objs_app0]; done) | (simp only [keeps_cons, keeps_none, objs_app0, objs_app, and_true]; first | rfl | exact ⟨rfl, rfl⟩ | exact ⟨rfl, rfl, rfl⟩))) | (refine both_ways ?_ ?_) | (rw [wrap_i64 (by omega) (by omega)]) | (refine guardV_split (fun h => ?_) (fun h => ?_) <;> (try rw [h]) <;> (try simp at h) <;> (try (exfalso; omega))) | (refine refIs_c hB ?_) | ((refine refRight_c (m := Reg.subM n x) subM_by ?_)))
        all_goals first
          | exact hend .full rep0 2 hsub
          | (refine absurd ?_ hxH; assumption)
    · have hsub : X.submit n x = (X, rep0, 2) := by unfold RM.submit; rw [if_pos (.inr (.inl hnH))]
      have hokt := eq_true hok
      have hnd : (0 ≤ n ∧ n < X.n) = False := eq_false hnH
      repeat' (first | (simp -dsimp only [↓reduceIte, go_sem, hs1, c0, cb0, hnd, b1, cS, hokt]) | (refine arr_intro fun _ => ?_) | (refine later_intro ⟨keeps_nil, ?_⟩) | (refine later_intro ⟨keeps_refl, ?_⟩) | (with_reducible refine keeps_go ?_ ?_; focus (first | (simp [keeps_cons, keeps_none, objs_app, objs_app0]; done) | (simp only [keeps_cons, keeps_none, objs_app0, objs_app, and_true]; first | rfl | exact ⟨rfl, rfl⟩ | exact ⟨rfl, rfl, rfl⟩))) | (with_reducible refine (And.intro (a := keeps _ _ _) ?_ ?_); focus (first | (simp [keeps_cons, keeps_none, objs_app, objs_app0]; done) | (simp only [keeps_cons, keeps_none, objs_app0, objs_app, and_true]; first | rfl | exact ⟨rfl, rfl⟩ | exact ⟨rfl, rfl, rfl⟩))) | (refine both_ways ?_ ?_) | (rw [wrap_i64 (by omega) (by omega)]) | (refine guardV_split (fun h => ?_) (fun h => ?_) <;> (try rw [h]) <;> (try simp at h) <;> (try (exfalso; omega))) | (refine refIs_c hB ?_) | ((refine refRight_c (m := Reg.subM n x) subM_by ?_)))
      all_goals first
        | exact hend .full rep0 2 hsub
        | (refine absurd ?_ hnH; assumption)
  · have hsub : X.submit n x = (X, rep0, 2) := by unfold RM.submit; rw [if_pos (.inl hok)]
    repeat' (first | (simp -dsimp only [↓reduceIte, go_sem, hs1, c0, cb0, b1, cS, hok]) | (refine arr_intro fun _ => ?_) | (refine later_intro ⟨keeps_nil, ?_⟩) | (refine later_intro ⟨keeps_refl, ?_⟩) | (with_reducible refine keeps_go ?_ ?_; focus (first | (simp [keeps_cons, keeps_none, objs_app, objs_app0]; done) | (simp only [keeps_cons, keeps_none, objs_app0, objs_app, and_true]; first | rfl | exact ⟨rfl, rfl⟩ | exact ⟨rfl, rfl, rfl⟩))) | (with_reducible refine (And.intro (a := keeps _ _ _) ?_ ?_); focus (first | (simp [keeps_cons, keeps_none, objs_app, objs_app0]; done) | (simp only [keeps_cons, keeps_none, objs_app0, objs_app, and_true]; first | rfl | exact ⟨rfl, rfl⟩ | exact ⟨rfl, rfl, rfl⟩))) | (refine both_ways ?_ ?_) | (rw [wrap_i64 (by omega) (by omega)]) | (refine guardV_split (fun h => ?_) (fun h => ?_) <;> (try rw [h]) <;> (try simp at h) <;> (try (exfalso; omega))) | ((refine refRight_c (m := Reg.subM n x) subM_by ?_)))
    exact hend .full rep0 2 hsub
end
end Go.Aff.L10

