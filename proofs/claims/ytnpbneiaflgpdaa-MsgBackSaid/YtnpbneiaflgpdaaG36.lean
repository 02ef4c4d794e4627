import Derived.Test.YtnpbneiaflgpdaaG35

set_option linter.unusedSimpArgs false
set_option linter.unusedVariables false

/- Layer 10, walked: the reference's Get. -/
-- cuts
namespace Go.Aff.L10
open Go.Proofs Go.Aff Go.Aff.L01 Classical
set_option linter.unusedVariables false
set_option linter.unusedSimpArgs false
set_option maxRecDepth 20000
attribute [local go_sem] push_app app_app length_app cellAt_app cellAt_app0 set_app set_app0 objs_app objs_app0 List.cons_append List.nil_append List.length_cons List.length_nil List.getElem?_cons_zero List.getElem?_cons_succ List.set_cons_zero List.set_cons_succ List.length_map
attribute [-go_sem] cellAt_new
attribute [-simp] List.length_flatMap
attribute [local go_sem] Try.underlying3 Try.underlying4 Try.underlying5 Try.underlying9 Try.underlying22 Try.underlying23 Try.underlying26 Try.underlying31 Try.underlying34 Try.underlying52 subPs_0 subAt_0 subSet_0 subPs_1 subAt_1 subSet_1 subPs_2 subAt_2 subSet_2 subPs_3 subAt_3 subSet_3 subPs_4 subAt_4 subSet_4 subPs_5 subAt_5 subSet_5 sizes_sub shapes_sub fits_sub zero_sub zt_sub built_sub Try.underlying25 pendPs_0 pendAt_0 pendSet_0 pendPs_1 pendAt_1 pendSet_1 pendPs_2 pendAt_2 pendSet_2 pendPs_3 pendAt_3 pendSet_3 pendPs_4 pendAt_4 pendSet_4 pendPs_5 pendAt_5 pendSet_5 sizes_pend shapes_pend fits_pend zero_pend zt_pend built_pend Try.underlying98 repPs_0 repAt_0 repSet_0 repPs_1 repAt_1 repSet_1 repPs_2 repAt_2 repSet_2 repPs_3 repAt_3 repSet_3 repPs_4 repAt_4 repSet_4 repPs_5 repAt_5 repSet_5 repPs_6 repAt_6 repSet_6 repPs_7 repAt_7 repSet_7 repPs_8 repAt_8 repSet_8 repPs_9 repAt_9 repSet_9 sizes_rep shapes_rep fits_rep zero_rep zt_rep built_rep Try.underlying28 blobPs_0 blobAt_0 blobSet_0 blobPs_1 blobAt_1 blobSet_1 blobPs_2 blobAt_2 blobSet_2 blobPs_3 blobAt_3 blobSet_3 sizes_blob shapes_blob fits_blob zero_blob zt_blob built_blob Try.underlying30 msgPs_0 msgAt_0 msgSet_0 msgPs_1 msgAt_1 msgSet_1 msgPs_2 msgAt_2 msgSet_2 msgPs_3 msgAt_3 msgSet_3 msgPs_4 msgAt_4 msgSet_4 msgPs_5 msgAt_5 msgSet_5 msgPs_6 msgAt_6 msgSet_6 msgPs_7 msgAt_7 msgSet_7 msgPs_8 msgAt_8 msgSet_8 msgPs_9 msgAt_9 msgSet_9 sizes_msg shapes_msg fits_msg zero_msg zt_msg built_msg Try.underlying33 at_Ps_0 at_At_0 at_Set_0 at_Ps_1 at_At_1 at_Set_1 sizes_at_ shapes_at_ fits_at_ zero_at_ zt_at_ built_at_ Try.underlying77
attribute [local go_sem] fits3 fits4 fits5 fits9 fits23 fits26 fits31 fits34 fits52 zt3 zero3 zt34 zero34 zt23 zero23 bin_sub_eql bin_pend_eql bin_pend_neq bin_blob_eql bin_dig23_eql bin_dig23_neq slice23
attribute [local go_sem ↓] blockQ_exit2
attribute [local simp] dig_ext
attribute [local go_sem] rdrPs_0 rdrAt_0 rdrSet_0 rdrPs_1 rdrAt_1 rdrSet_1 rdrPs_2 rdrAt_2 rdrSet_2 sizes_rdr shapes_rdr fits_rdr zero_rdr zt_rdr built_rdr Try.underlying72 Try.underlying70 Try.underlying75 bin_bool_ne appc appn built23
attribute [local go_sem] msgSet_9s slV_eq
attribute [local go_sem ↓] res_cc
theorem rng0 : Rng 0 := ⟨by decide, by decide⟩
theorem numT_rng {s : List UInt8} {low : Bool} {q most : Nat} (hm : most ≤ 9223372036854775808) (hl : low = false → most ≤ 9223372036854775807) : Rng (numT s low q most).1 := by
  unfold numT
  split
  · exact rng0
  · split
    · exact rng0
    · split
      · exact rng0
      · rename_i h
        cases low
        · have := hl rfl
          refine ⟨?_, ?_⟩ <;> simp <;> omega
        · refine ⟨?_, ?_⟩ <;> simp <;> omega
theorem numR_rng {s : List UInt8} {i : Int} : Rng (numR s i).1 := by
  unfold numR
  split
  · exact rng0
  · unfold numP
    refine numT_rng ?_ ?_
    · split <;> omega
    · intro h; rw [h]; simp
theorem int_rng {r : Rdr} : Rng r.int.1 := by
  unfold Rdr.int
  split
  · exact rng0
  · exact numR_rng
theorem fields_out {r : Rdr} {n c : Int} (h : ¬ (1 ≤ n ∧ n ≤ 11)) : r.fields (getM n c) = (getM n c, r) := by
  have e : (getM n c).kind = n := rfl
  unfold Rdr.fields
  rw [e, if_neg (by omega), if_neg (by omega), if_neg (by omega), if_neg (by omega), if_neg (by omega), if_neg (by omega), if_neg (by omega)]
theorem fields_by {r : Rdr} {n c : Int} : Rng (r.fields (getM n c)).1.by_ := by
  have h0 : Rng 0 := ⟨by decide, by decide⟩
  unfold Rdr.fields
  repeat' split
  all_goals first | exact h0 | exact int_rng
theorem refGet_c {l : List UInt8} {σ : AST} {K : AV → AST → Prop} (hK : ∀ t u, K (.tuple [msgV t u (getR l).1, .int .i64 (getR l).2]) σ) : TCalls Try.prog 15 [.str l] σ K := by
  refine TCalls.drop ?_
  refine tcalls_walk Try.f15 _ [.cell 2 33, .tmp 3] Try.func15 rfl rfl rfl mixed (Nat.le_of_ble_eq_true rfl) rfl fun hlen => ?_
  have hll : l.length ≤ 9223372036854775807 := hlen (.str l) (by simp)
  have hS : Sim l ⟨l, 0, 0⟩ at_0 := ⟨rfl, rfl, fun _ => ⟨rfl, by simp, by simp⟩, hll⟩
  repeat' (first | (simp -dsimp only [↓reduceIte, go_sem]) | (refine arr_intro fun _ => ?_) | (refine later_intro ⟨keeps_nil, ?_⟩) | (refine later_intro ⟨keeps_refl, ?_⟩) | (with_reducible refine keeps_go ?_ ?_; focus (first | (simp [keeps_cons, keeps_none, objs_app, objs_app0]; done) | (simp only [keeps_cons, keeps_none, objs_app0, objs_app, and_true]; first | rfl | exact ⟨rfl, rfl⟩ | exact ⟨rfl, rfl, rfl⟩))) | (with_reducible refine (And.intro (a := keeps _ _ _) ?_ ?_); focus (first | (simp [keeps_cons, keeps_none, objs_app, objs_app0]; done) | (simp only [keeps_cons, keeps_none, objs_app0, objs_app, and_true]; first | rfl | exact ⟨rfl, rfl⟩ | exact ⟨rfl, rfl, rfl⟩))) | (refine both_ways ?_ ?_) | (rw [wrap_i64 (by omega) (by omega)]) | (refine guardV_split (fun h => ?_) (fun h => ?_) <;> (try rw [h]) <;> (try simp at h) <;> (try (exfalso; omega))))
  refine refInt_c hS fun b hS => ?_
  have hA : getA l = ((Rdr.mk l 0 0).int.1, if (Rdr.mk l 0 0).int.2.e = 0 ∧ ¬ In 1 11 (Rdr.mk l 0 0).int.1 then { (Rdr.mk l 0 0).int.2 with e := 6 } else (Rdr.mk l 0 0).int.2) := rfl
  generalize (Rdr.mk l 0 0).int = A at *
  obtain ⟨n, r1⟩ := A
  dsimp only at hA hS ⊢
  have hse := hS.e
  have fin : ∀ (v : AV) (s : AST) (t u : Tk), Ext σ s → v = .tuple [msgV t u (getR l).1, .int .i64 (getR l).2] → Ext σ s ∧ v.noRef = true ∧ K v.strip σ := fun v s t u hx hv => by
    subst hv
    refine ⟨hx, ?_, ?_⟩
    · simp [AV.noRef, AV.noRefs, msgPs, repPs, subPs, blobPs, noRefs_pends, noRefs_ints]
    · simp only [AV.strip, AV.strips, msg_strips]; exact hK _ _
  clear hK
  by_cases hbad : r1.e = 0 ∧ ¬ In 1 11 n
  · rw [if_pos hbad] at hA
    have hnn : ¬ (1 ≤ n ∧ n ≤ 11) := hbad.2
    have hg : getR l = (msg0, 6) := by
      have hB : getB (getA l) = (0, { r1 with e := 6 }) := by
        rw [hA]; unfold getB; rw [if_neg (by dsimp only; omega)]; simp [Rdr.int]
      have hC : (getC l).2 = { r1 with e := 6 } := by
        simp only [getC, hB]
        rw [hA]
        simp only [fields_out hnn]
      simp [getR, hC]
    rw [hg] at fin
    have h1 := hbad.1
    have h2 := hbad.2
    rw [h1] at hse
    repeat' (first | (simp -dsimp only [↓reduceIte, go_sem, hse, h2]) | (refine arr_intro fun _ => ?_) | (refine later_intro ⟨keeps_nil, ?_⟩) | (refine later_intro ⟨keeps_refl, ?_⟩) | (with_reducible refine keeps_go ?_ ?_; focus (first | (simp [keeps_cons, keeps_none, objs_app, objs_app0]; done) | (simp only [keeps_cons, keeps_none, objs_app0, objs_app, and_true]; first | rfl | exact ⟨rfl, rfl⟩ | exact ⟨rfl, rfl, rfl⟩))) | (with_reducible refine (And.intro (a := keeps _ _ _) ?_ ?_); focus (first | (simp [keeps_cons, keeps_none, objs_app, objs_app0]; done) | (simp only [keeps_cons, keeps_none, objs_app0, objs_app, and_true]; first | rfl | exact ⟨rfl, rfl⟩ | exact ⟨rfl, rfl, rfl⟩))) | (refine both_ways ?_ ?_) | (rw [wrap_i64 (by omega) (by omega)]) | (refine guardV_split (fun h => ?_) (fun h => ?_) <;> (try rw [h]) <;> (try simp at h) <;> (try (exfalso; omega))) | (refine Within_c ?_))
    exact fin _ _ .full .full (Ext.app _ _) rfl
  · rw [if_neg hbad] at hA
    have hgo : r1.e = 0 → In 1 11 n := fun h0 => Classical.byContradiction fun h1 => hbad ⟨h0, h1⟩
    have hbs : b.e = 0 → In 1 11 n := fun h0 => hgo (by rw [← hse]; exact h0)
    by_cases h246 : n = 2 ∨ n = 4 ∨ n = 6
    · have hB : getB (getA l) = (0, r1) := by rw [hA]; unfold getB; rw [if_pos h246]
      have hC : getC l = r1.fields (getM n 0) := by simp only [getC, hB]; rw [hA]
      rcases h246 with hq | hq | hq
      · subst hq
        repeat' (first | (simp -dsimp only [↓reduceIte, go_sem]) | (refine arr_intro fun _ => ?_) | (refine later_intro ⟨keeps_nil, ?_⟩) | (refine later_intro ⟨keeps_refl, ?_⟩) | (with_reducible refine keeps_go ?_ ?_; focus (first | (simp [keeps_cons, keeps_none, objs_app, objs_app0]; done) | (simp only [keeps_cons, keeps_none, objs_app0, objs_app, and_true]; first | rfl | exact ⟨rfl, rfl⟩ | exact ⟨rfl, rfl, rfl⟩))) | (with_reducible refine (And.intro (a := keeps _ _ _) ?_ ?_); focus (first | (simp [keeps_cons, keeps_none, objs_app, objs_app0]; done) | (simp only [keeps_cons, keeps_none, objs_app0, objs_app, and_true]; first | rfl | exact ⟨rfl, rfl⟩ | exact ⟨rfl, rfl, rfl⟩))) | (refine both_ways ?_ ?_) | (rw [wrap_i64 (by omega) (by omega)]) | (refine guardV_split (fun h => ?_) (fun h => ?_) <;> (try rw [h]) <;> (try simp at h) <;> (try (exfalso; omega))) | (refine Within_c ?_))
        all_goals first
          | (exfalso; exact absurd (hbs (by assumption)) (by assumption))
          | skip
        all_goals
          refine refRep_c hS fun b3 t3 hS => ?_
          have e3 : getC l = (⟨2, msg0.client, msg0.sub, r1.rep.1, msg0.view, msg0.by_, msg0.tag, msg0.own, msg0.blob, msg0.nums⟩, r1.rep.2) := by rw [hC]; simp [Rdr.fields, getM, msg0]
          have hse3 := hS.e
          by_cases he3 : (r1.rep.2).e = 0
          · rw [he3] at hse3
            obtain ⟨p1, p2, p3⟩ := hS.p he3
            by_cases hat : (r1.rep.2).at_ < l.length
            · have e4 : getR l = (msg0, 6) := by simp only [getR, e3]; simp [he3, hat]
              rw [e4] at fin
              rw [← p1] at hat
              repeat' (first | (simp -dsimp only [↓reduceIte, go_sem, hse3, hat]) | (refine arr_intro fun _ => ?_) | (refine later_intro ⟨keeps_nil, ?_⟩) | (refine later_intro ⟨keeps_refl, ?_⟩) | (with_reducible refine keeps_go ?_ ?_; focus (first | (simp [keeps_cons, keeps_none, objs_app, objs_app0]; done) | (simp only [keeps_cons, keeps_none, objs_app0, objs_app, and_true]; first | rfl | exact ⟨rfl, rfl⟩ | exact ⟨rfl, rfl, rfl⟩))) | (with_reducible refine (And.intro (a := keeps _ _ _) ?_ ?_); focus (first | (simp [keeps_cons, keeps_none, objs_app, objs_app0]; done) | (simp only [keeps_cons, keeps_none, objs_app0, objs_app, and_true]; first | rfl | exact ⟨rfl, rfl⟩ | exact ⟨rfl, rfl, rfl⟩))) | (refine both_ways ?_ ?_) | (rw [wrap_i64 (by omega) (by omega)]) | (refine guardV_split (fun h => ?_) (fun h => ?_) <;> (try rw [h]) <;> (try simp at h) <;> (try (exfalso; omega))))
              exact fin _ _ .full .full (Ext.app _ _) rfl
            · by_cases hm : (⟨2, msg0.client, msg0.sub, r1.rep.1, msg0.view, msg0.by_, msg0.tag, msg0.own, msg0.blob, msg0.nums⟩ : Msg).Ok
              · have e4 : getR l = (⟨2, msg0.client, msg0.sub, r1.rep.1, msg0.view, msg0.by_, msg0.tag, msg0.own, msg0.blob, msg0.nums⟩, 0) := by simp only [getR, e3]; simp [he3, hat, hm]
                rw [e4] at fin
                rw [← p1] at hat
                repeat' (first | (simp -dsimp only [↓reduceIte, go_sem, hse3, hat, hm]) | (refine arr_intro fun _ => ?_) | (refine later_intro ⟨keeps_nil, ?_⟩) | (refine later_intro ⟨keeps_refl, ?_⟩) | (with_reducible refine keeps_go ?_ ?_; focus (first | (simp [keeps_cons, keeps_none, objs_app, objs_app0]; done) | (simp only [keeps_cons, keeps_none, objs_app0, objs_app, and_true]; first | rfl | exact ⟨rfl, rfl⟩ | exact ⟨rfl, rfl, rfl⟩))) | (with_reducible refine (And.intro (a := keeps _ _ _) ?_ ?_); focus (first | (simp [keeps_cons, keeps_none, objs_app, objs_app0]; done) | (simp only [keeps_cons, keeps_none, objs_app0, objs_app, and_true]; first | rfl | exact ⟨rfl, rfl⟩ | exact ⟨rfl, rfl, rfl⟩))) | (refine both_ways ?_ ?_) | (rw [wrap_i64 (by omega) (by omega)]) | (refine guardV_split (fun h => ?_) (fun h => ?_) <;> (try rw [h]) <;> (try simp at h) <;> (try (exfalso; omega))) | (refine refRight_c (m := ⟨2, msg0.client, msg0.sub, r1.rep.1, msg0.view, msg0.by_, msg0.tag, msg0.own, msg0.blob, msg0.nums⟩) rng0 ?_))
                exact fin _ _ t3 .full (Ext.app _ _) rfl
              · have e4 : getR l = (msg0, 6) := by simp only [getR, e3]; simp [he3, hat, hm]
                rw [e4] at fin
                rw [← p1] at hat
                repeat' (first | (simp -dsimp only [↓reduceIte, go_sem, hse3, hat, hm]) | (refine arr_intro fun _ => ?_) | (refine later_intro ⟨keeps_nil, ?_⟩) | (refine later_intro ⟨keeps_refl, ?_⟩) | (with_reducible refine keeps_go ?_ ?_; focus (first | (simp [keeps_cons, keeps_none, objs_app, objs_app0]; done) | (simp only [keeps_cons, keeps_none, objs_app0, objs_app, and_true]; first | rfl | exact ⟨rfl, rfl⟩ | exact ⟨rfl, rfl, rfl⟩))) | (with_reducible refine (And.intro (a := keeps _ _ _) ?_ ?_); focus (first | (simp [keeps_cons, keeps_none, objs_app, objs_app0]; done) | (simp only [keeps_cons, keeps_none, objs_app0, objs_app, and_true]; first | rfl | exact ⟨rfl, rfl⟩ | exact ⟨rfl, rfl, rfl⟩))) | (refine both_ways ?_ ?_) | (rw [wrap_i64 (by omega) (by omega)]) | (refine guardV_split (fun h => ?_) (fun h => ?_) <;> (try rw [h]) <;> (try simp at h) <;> (try (exfalso; omega))) | (refine refRight_c (m := ⟨2, msg0.client, msg0.sub, r1.rep.1, msg0.view, msg0.by_, msg0.tag, msg0.own, msg0.blob, msg0.nums⟩) rng0 ?_))
                exact fin _ _ .full .full (Ext.app _ _) rfl
          · have e4 : getR l = (msg0, (r1.rep.2).e) := by simp only [getR, e3]; simp [he3]
            rw [e4, ← hse3] at fin
            rw [← hse3] at he3
            repeat' (first | (simp -dsimp only [↓reduceIte, go_sem, he3]) | (refine arr_intro fun _ => ?_) | (refine later_intro ⟨keeps_nil, ?_⟩) | (refine later_intro ⟨keeps_refl, ?_⟩) | (with_reducible refine keeps_go ?_ ?_; focus (first | (simp [keeps_cons, keeps_none, objs_app, objs_app0]; done) | (simp only [keeps_cons, keeps_none, objs_app0, objs_app, and_true]; first | rfl | exact ⟨rfl, rfl⟩ | exact ⟨rfl, rfl, rfl⟩))) | (with_reducible refine (And.intro (a := keeps _ _ _) ?_ ?_); focus (first | (simp [keeps_cons, keeps_none, objs_app, objs_app0]; done) | (simp only [keeps_cons, keeps_none, objs_app0, objs_app, and_true]; first | rfl | exact ⟨rfl, rfl⟩ | exact ⟨rfl, rfl, rfl⟩))) | (refine both_ways ?_ ?_) | (rw [wrap_i64 (by omega) (by omega)]) | (refine guardV_split (fun h => ?_) (fun h => ?_) <;> (try rw [h]) <;> (try simp at h) <;> (try (exfalso; omega))) | (with_reducible refine awp_drawT (id := 27) (.op 0 2 (.op 1 0 (.op 2 0 (.op 3 1 (.op 4 2 .nil))))) (by kernel_rfl) ?_))
            exact fin _ _ .full .full (Ext.app _ _) rfl
      · subst hq
        repeat' (first | (simp -dsimp only [↓reduceIte, go_sem]) | (refine arr_intro fun _ => ?_) | (refine later_intro ⟨keeps_nil, ?_⟩) | (refine later_intro ⟨keeps_refl, ?_⟩) | (with_reducible refine keeps_go ?_ ?_; focus (first | (simp [keeps_cons, keeps_none, objs_app, objs_app0]; done) | (simp only [keeps_cons, keeps_none, objs_app0, objs_app, and_true]; first | rfl | exact ⟨rfl, rfl⟩ | exact ⟨rfl, rfl, rfl⟩))) | (with_reducible refine (And.intro (a := keeps _ _ _) ?_ ?_); focus (first | (simp [keeps_cons, keeps_none, objs_app, objs_app0]; done) | (simp only [keeps_cons, keeps_none, objs_app0, objs_app, and_true]; first | rfl | exact ⟨rfl, rfl⟩ | exact ⟨rfl, rfl, rfl⟩))) | (refine both_ways ?_ ?_) | (rw [wrap_i64 (by omega) (by omega)]) | (refine guardV_split (fun h => ?_) (fun h => ?_) <;> (try rw [h]) <;> (try simp at h) <;> (try (exfalso; omega))) | (refine Within_c ?_))
        all_goals first
          | (exfalso; exact absurd (hbs (by assumption)) (by assumption))
          | skip
        all_goals
          refine refBlob_c hS fun b3 hS => ?_
          have e3 : getC l = (⟨4, msg0.client, msg0.sub, msg0.rep, msg0.view, msg0.by_, msg0.tag, msg0.own, r1.blob.1, msg0.nums⟩, r1.blob.2) := by rw [hC]; simp [Rdr.fields, getM, msg0, Rdr.blob]
          have hse3 := hS.e
          by_cases he3 : (r1.blob.2).e = 0
          · rw [he3] at hse3
            obtain ⟨p1, p2, p3⟩ := hS.p he3
            by_cases hat : (r1.blob.2).at_ < l.length
            · have e4 : getR l = (msg0, 6) := by simp only [getR, e3]; simp [he3, hat]
              rw [e4] at fin
              rw [← p1] at hat
              repeat' (first | (simp -dsimp only [↓reduceIte, go_sem, hse3, hat]) | (refine arr_intro fun _ => ?_) | (refine later_intro ⟨keeps_nil, ?_⟩) | (refine later_intro ⟨keeps_refl, ?_⟩) | (with_reducible refine keeps_go ?_ ?_; focus (first | (simp [keeps_cons, keeps_none, objs_app, objs_app0]; done) | (simp only [keeps_cons, keeps_none, objs_app0, objs_app, and_true]; first | rfl | exact ⟨rfl, rfl⟩ | exact ⟨rfl, rfl, rfl⟩))) | (with_reducible refine (And.intro (a := keeps _ _ _) ?_ ?_); focus (first | (simp [keeps_cons, keeps_none, objs_app, objs_app0]; done) | (simp only [keeps_cons, keeps_none, objs_app0, objs_app, and_true]; first | rfl | exact ⟨rfl, rfl⟩ | exact ⟨rfl, rfl, rfl⟩))) | (refine both_ways ?_ ?_) | (rw [wrap_i64 (by omega) (by omega)]) | (refine guardV_split (fun h => ?_) (fun h => ?_) <;> (try rw [h]) <;> (try simp at h) <;> (try (exfalso; omega))))
              exact fin _ _ .full .full (Ext.app _ _) rfl
            · by_cases hm : (⟨4, msg0.client, msg0.sub, msg0.rep, msg0.view, msg0.by_, msg0.tag, msg0.own, r1.blob.1, msg0.nums⟩ : Msg).Ok
              · have e4 : getR l = (⟨4, msg0.client, msg0.sub, msg0.rep, msg0.view, msg0.by_, msg0.tag, msg0.own, r1.blob.1, msg0.nums⟩, 0) := by simp only [getR, e3]; simp [he3, hat, hm]
                rw [e4] at fin
                rw [← p1] at hat
                repeat' (first | (simp -dsimp only [↓reduceIte, go_sem, hse3, hat, hm]) | (refine arr_intro fun _ => ?_) | (refine later_intro ⟨keeps_nil, ?_⟩) | (refine later_intro ⟨keeps_refl, ?_⟩) | (with_reducible refine keeps_go ?_ ?_; focus (first | (simp [keeps_cons, keeps_none, objs_app, objs_app0]; done) | (simp only [keeps_cons, keeps_none, objs_app0, objs_app, and_true]; first | rfl | exact ⟨rfl, rfl⟩ | exact ⟨rfl, rfl, rfl⟩))) | (with_reducible refine (And.intro (a := keeps _ _ _) ?_ ?_); focus (first | (simp [keeps_cons, keeps_none, objs_app, objs_app0]; done) | (simp only [keeps_cons, keeps_none, objs_app0, objs_app, and_true]; first | rfl | exact ⟨rfl, rfl⟩ | exact ⟨rfl, rfl, rfl⟩))) | (refine both_ways ?_ ?_) | (rw [wrap_i64 (by omega) (by omega)]) | (refine guardV_split (fun h => ?_) (fun h => ?_) <;> (try rw [h]) <;> (try simp at h) <;> (try (exfalso; omega))) | (refine refRight_c (m := ⟨4, msg0.client, msg0.sub, msg0.rep, msg0.view, msg0.by_, msg0.tag, msg0.own, r1.blob.1, msg0.nums⟩) rng0 ?_))
                exact fin _ _ .full .full (Ext.app _ _) rfl
              · have e4 : getR l = (msg0, 6) := by simp only [getR, e3]; simp [he3, hat, hm]
                rw [e4] at fin
                rw [← p1] at hat
                repeat' (first | (simp -dsimp only [↓reduceIte, go_sem, hse3, hat, hm]) | (refine arr_intro fun _ => ?_) | (refine later_intro ⟨keeps_nil, ?_⟩) | (refine later_intro ⟨keeps_refl, ?_⟩) | (with_reducible refine keeps_go ?_ ?_; focus (first | (simp [keeps_cons, keeps_none, objs_app, objs_app0]; done) | (simp only [keeps_cons, keeps_none, objs_app0, objs_app, and_true]; first | rfl | exact ⟨rfl, rfl⟩ | exact ⟨rfl, rfl, rfl⟩))) | (with_reducible refine (And.intro (a := keeps _ _ _) ?_ ?_); focus (first | (simp [keeps_cons, keeps_none, objs_app, objs_app0]; done) | (simp only [keeps_cons, keeps_none, objs_app0, objs_app, and_true]; first | rfl | exact ⟨rfl, rfl⟩ | exact ⟨rfl, rfl, rfl⟩))) | (refine both_ways ?_ ?_) | (rw [wrap_i64 (by omega) (by omega)]) | (refine guardV_split (fun h => ?_) (fun h => ?_) <;> (try rw [h]) <;> (try simp at h) <;> (try (exfalso; omega))) | (refine refRight_c (m := ⟨4, msg0.client, msg0.sub, msg0.rep, msg0.view, msg0.by_, msg0.tag, msg0.own, r1.blob.1, msg0.nums⟩) rng0 ?_))
                exact fin _ _ .full .full (Ext.app _ _) rfl
          · have e4 : getR l = (msg0, (r1.blob.2).e) := by simp only [getR, e3]; simp [he3]
            rw [e4, ← hse3] at fin
            rw [← hse3] at he3
            repeat' (first | (simp -dsimp only [↓reduceIte, go_sem, he3]) | (refine arr_intro fun _ => ?_) | (refine later_intro ⟨keeps_nil, ?_⟩) | (refine later_intro ⟨keeps_refl, ?_⟩) | (with_reducible refine keeps_go ?_ ?_; focus (first | (simp [keeps_cons, keeps_none, objs_app, objs_app0]; done) | (simp only [keeps_cons, keeps_none, objs_app0, objs_app, and_true]; first | rfl | exact ⟨rfl, rfl⟩ | exact ⟨rfl, rfl, rfl⟩))) | (with_reducible refine (And.intro (a := keeps _ _ _) ?_ ?_); focus (first | (simp [keeps_cons, keeps_none, objs_app, objs_app0]; done) | (simp only [keeps_cons, keeps_none, objs_app0, objs_app, and_true]; first | rfl | exact ⟨rfl, rfl⟩ | exact ⟨rfl, rfl, rfl⟩))) | (refine both_ways ?_ ?_) | (rw [wrap_i64 (by omega) (by omega)]) | (refine guardV_split (fun h => ?_) (fun h => ?_) <;> (try rw [h]) <;> (try simp at h) <;> (try (exfalso; omega))) | (with_reducible refine awp_drawT (id := 27) (.op 0 2 (.op 1 0 (.op 2 0 (.op 3 1 (.op 4 2 .nil))))) (by kernel_rfl) ?_))
            exact fin _ _ .full .full (Ext.app _ _) rfl
      · subst hq
        repeat' (first | (simp -dsimp only [↓reduceIte, go_sem]) | (refine arr_intro fun _ => ?_) | (refine later_intro ⟨keeps_nil, ?_⟩) | (refine later_intro ⟨keeps_refl, ?_⟩) | (with_reducible refine keeps_go ?_ ?_; focus (first | (simp [keeps_cons, keeps_none, objs_app, objs_app0]; done) | (simp only [keeps_cons, keeps_none, objs_app0, objs_app, and_true]; first | rfl | exact ⟨rfl, rfl⟩ | exact ⟨rfl, rfl, rfl⟩))) | (with_reducible refine (And.intro (a := keeps _ _ _) ?_ ?_); focus (first | (simp [keeps_cons, keeps_none, objs_app, objs_app0]; done) | (simp only [keeps_cons, keeps_none, objs_app0, objs_app, and_true]; first | rfl | exact ⟨rfl, rfl⟩ | exact ⟨rfl, rfl, rfl⟩))) | (refine both_ways ?_ ?_) | (rw [wrap_i64 (by omega) (by omega)]) | (refine guardV_split (fun h => ?_) (fun h => ?_) <;> (try rw [h]) <;> (try simp at h) <;> (try (exfalso; omega))) | (refine Within_c ?_))
        all_goals first
          | (exfalso; exact absurd (hbs (by assumption)) (by assumption))
          | skip
        all_goals
          refine refBlob_c hS fun b3 hS => ?_
          have e3 : getC l = (⟨6, msg0.client, msg0.sub, msg0.rep, msg0.view, msg0.by_, msg0.tag, msg0.own, r1.blob.1, msg0.nums⟩, r1.blob.2) := by rw [hC]; simp [Rdr.fields, getM, msg0, Rdr.blob]
          have hse3 := hS.e
          by_cases he3 : (r1.blob.2).e = 0
          · rw [he3] at hse3
            obtain ⟨p1, p2, p3⟩ := hS.p he3
            by_cases hat : (r1.blob.2).at_ < l.length
            · have e4 : getR l = (msg0, 6) := by simp only [getR, e3]; simp [he3, hat]
              rw [e4] at fin
              rw [← p1] at hat
              repeat' (first | (simp -dsimp only [↓reduceIte, go_sem, hse3, hat]) | (refine arr_intro fun _ => ?_) | (refine later_intro ⟨keeps_nil, ?_⟩) | (refine later_intro ⟨keeps_refl, ?_⟩) | (with_reducible refine keeps_go ?_ ?_; focus (first | (simp [keeps_cons, keeps_none, objs_app, objs_app0]; done) | (simp only [keeps_cons, keeps_none, objs_app0, objs_app, and_true]; first | rfl | exact ⟨rfl, rfl⟩ | exact ⟨rfl, rfl, rfl⟩))) | (with_reducible refine (And.intro (a := keeps _ _ _) ?_ ?_); focus (first | (simp [keeps_cons, keeps_none, objs_app, objs_app0]; done) | (simp only [keeps_cons, keeps_none, objs_app0, objs_app, and_true]; first | rfl | exact ⟨rfl, rfl⟩ | exact ⟨rfl, rfl, rfl⟩))) | (refine both_ways ?_ ?_) | (rw [wrap_i64 (by omega) (by omega)]) | (refine guardV_split (fun h => ?_) (fun h => ?_) <;> (try rw [h]) <;> (try simp at h) <;> (try (exfalso; omega))))
              exact fin _ _ .full .full (Ext.app _ _) rfl
            · by_cases hm : (⟨6, msg0.client, msg0.sub, msg0.rep, msg0.view, msg0.by_, msg0.tag, msg0.own, r1.blob.1, msg0.nums⟩ : Msg).Ok
              · have e4 : getR l = (⟨6, msg0.client, msg0.sub, msg0.rep, msg0.view, msg0.by_, msg0.tag, msg0.own, r1.blob.1, msg0.nums⟩, 0) := by simp only [getR, e3]; simp [he3, hat, hm]
                rw [e4] at fin
                rw [← p1] at hat
                repeat' (first | (simp -dsimp only [↓reduceIte, go_sem, hse3, hat, hm]) | (refine arr_intro fun _ => ?_) | (refine later_intro ⟨keeps_nil, ?_⟩) | (refine later_intro ⟨keeps_refl, ?_⟩) | (with_reducible refine keeps_go ?_ ?_; focus (first | (simp [keeps_cons, keeps_none, objs_app, objs_app0]; done) | (simp only [keeps_cons, keeps_none, objs_app0, objs_app, and_true]; first | rfl | exact ⟨rfl, rfl⟩ | exact ⟨rfl, rfl, rfl⟩))) | (with_reducible refine (And.intro (a := keeps _ _ _) ?_ ?_); focus (first | (simp [keeps_cons, keeps_none, objs_app, objs_app0]; done) | (simp only [keeps_cons, keeps_none, objs_app0, objs_app, and_true]; first | rfl | exact ⟨rfl, rfl⟩ | exact ⟨rfl, rfl, rfl⟩))) | (refine both_ways ?_ ?_) | (rw [wrap_i64 (by omega) (by omega)]) | (refine guardV_split (fun h => ?_) (fun h => ?_) <;> (try rw [h]) <;> (try simp at h) <;> (try (exfalso; omega))) | (refine refRight_c (m := ⟨6, msg0.client, msg0.sub, msg0.rep, msg0.view, msg0.by_, msg0.tag, msg0.own, r1.blob.1, msg0.nums⟩) rng0 ?_))
                exact fin _ _ .full .full (Ext.app _ _) rfl
              · have e4 : getR l = (msg0, 6) := by simp only [getR, e3]; simp [he3, hat, hm]
                rw [e4] at fin
                rw [← p1] at hat
                repeat' (first | (simp -dsimp only [↓reduceIte, go_sem, hse3, hat, hm]) | (refine arr_intro fun _ => ?_) | (refine later_intro ⟨keeps_nil, ?_⟩) | (refine later_intro ⟨keeps_refl, ?_⟩) | (with_reducible refine keeps_go ?_ ?_; focus (first | (simp [keeps_cons, keeps_none, objs_app, objs_app0]; done) | (simp only [keeps_cons, keeps_none, objs_app0, objs_app, and_true]; first | rfl | exact ⟨rfl, rfl⟩ | exact ⟨rfl, rfl, rfl⟩))) | (with_reducible refine (And.intro (a := keeps _ _ _) ?_ ?_); focus (first | (simp [keeps_cons, keeps_none, objs_app, objs_app0]; done) | (simp only [keeps_cons, keeps_none, objs_app0, objs_app, and_true]; first | rfl | exact ⟨rfl, rfl⟩ | exact ⟨rfl, rfl, rfl⟩))) | (refine both_ways ?_ ?_) | (rw [wrap_i64 (by omega) (by omega)]) | (refine guardV_split (fun h => ?_) (fun h => ?_) <;> (try rw [h]) <;> (try simp at h) <;> (try (exfalso; omega))) | (refine refRight_c (m := ⟨6, msg0.client, msg0.sub, msg0.rep, msg0.view, msg0.by_, msg0.tag, msg0.own, r1.blob.1, msg0.nums⟩) rng0 ?_))
                exact fin _ _ .full .full (Ext.app _ _) rfl
          · have e4 : getR l = (msg0, (r1.blob.2).e) := by simp only [getR, e3]; simp [he3]
            rw [e4, ← hse3] at fin
            rw [← hse3] at he3
            repeat' (first | (simp -dsimp only [↓reduceIte, go_sem, he3]) | (refine arr_intro fun _ => ?_) | (refine later_intro ⟨keeps_nil, ?_⟩) | (refine later_intro ⟨keeps_refl, ?_⟩) | (with_reducible refine keeps_go ?_ ?_; focus (first | (simp [keeps_cons, keeps_none, objs_app, objs_app0]; done) | (simp only [keeps_cons, keeps_none, objs_app0, objs_app, and_true]; first | rfl | exact ⟨rfl, rfl⟩ | exact ⟨rfl, rfl, rfl⟩))) | (with_reducible refine (And.intro (a := keeps _ _ _) ?_ ?_); focus (first | (simp [keeps_cons, keeps_none, objs_app, objs_app0]; done) | (simp only [keeps_cons, keeps_none, objs_app0, objs_app, and_true]; first | rfl | exact ⟨rfl, rfl⟩ | exact ⟨rfl, rfl, rfl⟩))) | (refine both_ways ?_ ?_) | (rw [wrap_i64 (by omega) (by omega)]) | (refine guardV_split (fun h => ?_) (fun h => ?_) <;> (try rw [h]) <;> (try simp at h) <;> (try (exfalso; omega))) | (with_reducible refine awp_drawT (id := 27) (.op 0 2 (.op 1 0 (.op 2 0 (.op 3 1 (.op 4 2 .nil))))) (by kernel_rfl) ?_))
            exact fin _ _ .full .full (Ext.app _ _) rfl
    · have hB : getB (getA l) = r1.int := by rw [hA]; unfold getB; rw [if_neg h246]
      have hC : getC l = r1.int.2.fields (getM n r1.int.1) := by simp only [getC, hB]; rw [hA]
      have n2 : ¬ n = 2 := fun h => h246 (.inl h)
      have n4 : ¬ n = 4 := fun h => h246 (.inr (.inl h))
      have n6 : ¬ n = 6 := fun h => h246 (.inr (.inr h))
      repeat' (first | (simp -dsimp only [↓reduceIte, go_sem, n2, n4, n6]) | (refine arr_intro fun _ => ?_) | (refine later_intro ⟨keeps_nil, ?_⟩) | (refine later_intro ⟨keeps_refl, ?_⟩) | (with_reducible refine keeps_go ?_ ?_; focus (first | (simp [keeps_cons, keeps_none, objs_app, objs_app0]; done) | (simp only [keeps_cons, keeps_none, objs_app0, objs_app, and_true]; first | rfl | exact ⟨rfl, rfl⟩ | exact ⟨rfl, rfl, rfl⟩))) | (with_reducible refine (And.intro (a := keeps _ _ _) ?_ ?_); focus (first | (simp [keeps_cons, keeps_none, objs_app, objs_app0]; done) | (simp only [keeps_cons, keeps_none, objs_app0, objs_app, and_true]; first | rfl | exact ⟨rfl, rfl⟩ | exact ⟨rfl, rfl, rfl⟩))) | (refine both_ways ?_ ?_) | (rw [wrap_i64 (by omega) (by omega)]) | (refine guardV_split (fun h => ?_) (fun h => ?_) <;> (try rw [h]) <;> (try simp at h) <;> (try (exfalso; omega))) | (refine Within_c ?_))
      all_goals first
        | (exfalso; exact absurd (hbs (by assumption)) (by assumption))
        | skip
      all_goals
        refine refInt_c hS fun b2 hS => ?_
        generalize r1.int.1 = c at *
        generalize r1.int.2 = r2 at *
        by_cases hq : n = 1
        · subst hq
          repeat' (first | (simp -dsimp only [↓reduceIte, go_sem]) | (refine arr_intro fun _ => ?_) | (refine later_intro ⟨keeps_nil, ?_⟩) | (refine later_intro ⟨keeps_refl, ?_⟩) | (with_reducible refine keeps_go ?_ ?_; focus (first | (simp [keeps_cons, keeps_none, objs_app, objs_app0]; done) | (simp only [keeps_cons, keeps_none, objs_app0, objs_app, and_true]; first | rfl | exact ⟨rfl, rfl⟩ | exact ⟨rfl, rfl, rfl⟩))) | (with_reducible refine (And.intro (a := keeps _ _ _) ?_ ?_); focus (first | (simp [keeps_cons, keeps_none, objs_app, objs_app0]; done) | (simp only [keeps_cons, keeps_none, objs_app0, objs_app, and_true]; first | rfl | exact ⟨rfl, rfl⟩ | exact ⟨rfl, rfl, rfl⟩))) | (refine both_ways ?_ ?_) | (rw [wrap_i64 (by omega) (by omega)]) | (refine guardV_split (fun h => ?_) (fun h => ?_) <;> (try rw [h]) <;> (try simp at h) <;> (try (exfalso; omega))))
          refine refSubmit_c hS fun b3 hS => ?_
          have e3 : getC l = (⟨1, c, r2.sub.1, msg0.rep, msg0.view, msg0.by_, msg0.tag, msg0.own, msg0.blob, msg0.nums⟩, r2.sub.2) := by rw [hC]; simp [Rdr.fields, getM, msg0, Rdr.sub]
          have hse3 := hS.e
          by_cases he3 : (r2.sub.2).e = 0
          · rw [he3] at hse3
            obtain ⟨p1, p2, p3⟩ := hS.p he3
            by_cases hat : (r2.sub.2).at_ < l.length
            · have e4 : getR l = (msg0, 6) := by simp only [getR, e3]; simp [he3, hat]
              rw [e4] at fin
              rw [← p1] at hat
              repeat' (first | (simp -dsimp only [↓reduceIte, go_sem, hse3, hat]) | (refine arr_intro fun _ => ?_) | (refine later_intro ⟨keeps_nil, ?_⟩) | (refine later_intro ⟨keeps_refl, ?_⟩) | (with_reducible refine keeps_go ?_ ?_; focus (first | (simp [keeps_cons, keeps_none, objs_app, objs_app0]; done) | (simp only [keeps_cons, keeps_none, objs_app0, objs_app, and_true]; first | rfl | exact ⟨rfl, rfl⟩ | exact ⟨rfl, rfl, rfl⟩))) | (with_reducible refine (And.intro (a := keeps _ _ _) ?_ ?_); focus (first | (simp [keeps_cons, keeps_none, objs_app, objs_app0]; done) | (simp only [keeps_cons, keeps_none, objs_app0, objs_app, and_true]; first | rfl | exact ⟨rfl, rfl⟩ | exact ⟨rfl, rfl, rfl⟩))) | (refine both_ways ?_ ?_) | (rw [wrap_i64 (by omega) (by omega)]) | (refine guardV_split (fun h => ?_) (fun h => ?_) <;> (try rw [h]) <;> (try simp at h) <;> (try (exfalso; omega))))
              exact fin _ _ .full .full (Ext.app _ _) rfl
            · by_cases hm : (⟨1, c, r2.sub.1, msg0.rep, msg0.view, msg0.by_, msg0.tag, msg0.own, msg0.blob, msg0.nums⟩ : Msg).Ok
              · have e4 : getR l = (⟨1, c, r2.sub.1, msg0.rep, msg0.view, msg0.by_, msg0.tag, msg0.own, msg0.blob, msg0.nums⟩, 0) := by simp only [getR, e3]; simp [he3, hat, hm]
                rw [e4] at fin
                rw [← p1] at hat
                repeat' (first | (simp -dsimp only [↓reduceIte, go_sem, hse3, hat, hm]) | (refine arr_intro fun _ => ?_) | (refine later_intro ⟨keeps_nil, ?_⟩) | (refine later_intro ⟨keeps_refl, ?_⟩) | (with_reducible refine keeps_go ?_ ?_; focus (first | (simp [keeps_cons, keeps_none, objs_app, objs_app0]; done) | (simp only [keeps_cons, keeps_none, objs_app0, objs_app, and_true]; first | rfl | exact ⟨rfl, rfl⟩ | exact ⟨rfl, rfl, rfl⟩))) | (with_reducible refine (And.intro (a := keeps _ _ _) ?_ ?_); focus (first | (simp [keeps_cons, keeps_none, objs_app, objs_app0]; done) | (simp only [keeps_cons, keeps_none, objs_app0, objs_app, and_true]; first | rfl | exact ⟨rfl, rfl⟩ | exact ⟨rfl, rfl, rfl⟩))) | (refine both_ways ?_ ?_) | (rw [wrap_i64 (by omega) (by omega)]) | (refine guardV_split (fun h => ?_) (fun h => ?_) <;> (try rw [h]) <;> (try simp at h) <;> (try (exfalso; omega))) | (refine refRight_c (m := ⟨1, c, r2.sub.1, msg0.rep, msg0.view, msg0.by_, msg0.tag, msg0.own, msg0.blob, msg0.nums⟩) rng0 ?_))
                exact fin _ _ .full .full (Ext.app _ _) rfl
              · have e4 : getR l = (msg0, 6) := by simp only [getR, e3]; simp [he3, hat, hm]
                rw [e4] at fin
                rw [← p1] at hat
                repeat' (first | (simp -dsimp only [↓reduceIte, go_sem, hse3, hat, hm]) | (refine arr_intro fun _ => ?_) | (refine later_intro ⟨keeps_nil, ?_⟩) | (refine later_intro ⟨keeps_refl, ?_⟩) | (with_reducible refine keeps_go ?_ ?_; focus (first | (simp [keeps_cons, keeps_none, objs_app, objs_app0]; done) | (simp only [keeps_cons, keeps_none, objs_app0, objs_app, and_true]; first | rfl | exact ⟨rfl, rfl⟩ | exact ⟨rfl, rfl, rfl⟩))) | (with_reducible refine (And.intro (a := keeps _ _ _) ?_ ?_); focus (first | (simp [keeps_cons, keeps_none, objs_app, objs_app0]; done) | (simp only [keeps_cons, keeps_none, objs_app0, objs_app, and_true]; first | rfl | exact ⟨rfl, rfl⟩ | exact ⟨rfl, rfl, rfl⟩))) | (refine both_ways ?_ ?_) | (rw [wrap_i64 (by omega) (by omega)]) | (refine guardV_split (fun h => ?_) (fun h => ?_) <;> (try rw [h]) <;> (try simp at h) <;> (try (exfalso; omega))) | (refine refRight_c (m := ⟨1, c, r2.sub.1, msg0.rep, msg0.view, msg0.by_, msg0.tag, msg0.own, msg0.blob, msg0.nums⟩) rng0 ?_))
                exact fin _ _ .full .full (Ext.app _ _) rfl
          · have e4 : getR l = (msg0, (r2.sub.2).e) := by simp only [getR, e3]; simp [he3]
            rw [e4, ← hse3] at fin
            rw [← hse3] at he3
            repeat' (first | (simp -dsimp only [↓reduceIte, go_sem, he3]) | (refine arr_intro fun _ => ?_) | (refine later_intro ⟨keeps_nil, ?_⟩) | (refine later_intro ⟨keeps_refl, ?_⟩) | (with_reducible refine keeps_go ?_ ?_; focus (first | (simp [keeps_cons, keeps_none, objs_app, objs_app0]; done) | (simp only [keeps_cons, keeps_none, objs_app0, objs_app, and_true]; first | rfl | exact ⟨rfl, rfl⟩ | exact ⟨rfl, rfl, rfl⟩))) | (with_reducible refine (And.intro (a := keeps _ _ _) ?_ ?_); focus (first | (simp [keeps_cons, keeps_none, objs_app, objs_app0]; done) | (simp only [keeps_cons, keeps_none, objs_app0, objs_app, and_true]; first | rfl | exact ⟨rfl, rfl⟩ | exact ⟨rfl, rfl, rfl⟩))) | (refine both_ways ?_ ?_) | (rw [wrap_i64 (by omega) (by omega)]) | (refine guardV_split (fun h => ?_) (fun h => ?_) <;> (try rw [h]) <;> (try simp at h) <;> (try (exfalso; omega))) | (with_reducible refine awp_drawT (id := 27) (.op 0 2 (.op 1 0 (.op 2 0 (.op 3 1 (.op 4 2 .nil))))) (by kernel_rfl) ?_))
            exact fin _ _ .full .full (Ext.app _ _) rfl
        · repeat' (first | (simp -dsimp only [↓reduceIte, go_sem, hq, n2, n4, n6]) | (refine arr_intro fun _ => ?_) | (refine later_intro ⟨keeps_nil, ?_⟩) | (refine later_intro ⟨keeps_refl, ?_⟩) | (with_reducible refine keeps_go ?_ ?_; focus (first | (simp [keeps_cons, keeps_none, objs_app, objs_app0]; done) | (simp only [keeps_cons, keeps_none, objs_app0, objs_app, and_true]; first | rfl | exact ⟨rfl, rfl⟩ | exact ⟨rfl, rfl, rfl⟩))) | (with_reducible refine (And.intro (a := keeps _ _ _) ?_ ?_); focus (first | (simp [keeps_cons, keeps_none, objs_app, objs_app0]; done) | (simp only [keeps_cons, keeps_none, objs_app0, objs_app, and_true]; first | rfl | exact ⟨rfl, rfl⟩ | exact ⟨rfl, rfl, rfl⟩))) | (refine both_ways ?_ ?_) | (rw [wrap_i64 (by omega) (by omega)]) | (refine guardV_split (fun h => ?_) (fun h => ?_) <;> (try rw [h]) <;> (try simp at h) <;> (try (exfalso; omega))))
          refine refRest_c (n := n) (c := c) (by omega) hS fun b3 t3 u3 hS => ?_
          have hby := fields_by (r := r2) (n := n) (c := c)
          generalize r2.fields (getM n c) = Z at hS hC hby
          obtain ⟨m3, r3⟩ := Z
          dsimp only at hS hby ⊢
          have e3 : getC l = (m3, r3) := hC
          have hse3 := hS.e
          by_cases he3 : (r3).e = 0
          · rw [he3] at hse3
            obtain ⟨p1, p2, p3⟩ := hS.p he3
            by_cases hat : (r3).at_ < l.length
            · have e4 : getR l = (msg0, 6) := by simp only [getR, e3]; simp [he3, hat]
              rw [e4] at fin
              rw [← p1] at hat
              repeat' (first | (simp -dsimp only [↓reduceIte, go_sem, hse3, hat]) | (refine arr_intro fun _ => ?_) | (refine later_intro ⟨keeps_nil, ?_⟩) | (refine later_intro ⟨keeps_refl, ?_⟩) | (with_reducible refine keeps_go ?_ ?_; focus (first | (simp [keeps_cons, keeps_none, objs_app, objs_app0]; done) | (simp only [keeps_cons, keeps_none, objs_app0, objs_app, and_true]; first | rfl | exact ⟨rfl, rfl⟩ | exact ⟨rfl, rfl, rfl⟩))) | (with_reducible refine (And.intro (a := keeps _ _ _) ?_ ?_); focus (first | (simp [keeps_cons, keeps_none, objs_app, objs_app0]; done) | (simp only [keeps_cons, keeps_none, objs_app0, objs_app, and_true]; first | rfl | exact ⟨rfl, rfl⟩ | exact ⟨rfl, rfl, rfl⟩))) | (refine both_ways ?_ ?_) | (rw [wrap_i64 (by omega) (by omega)]) | (refine guardV_split (fun h => ?_) (fun h => ?_) <;> (try rw [h]) <;> (try simp at h) <;> (try (exfalso; omega))))
              exact fin _ _ .full .full (Ext.app _ _) rfl
            · by_cases hm : (m3 : Msg).Ok
              · have e4 : getR l = (m3, 0) := by simp only [getR, e3]; simp [he3, hat, hm]
                rw [e4] at fin
                rw [← p1] at hat
                repeat' (first | (simp -dsimp only [↓reduceIte, go_sem, hse3, hat, hm]) | (refine arr_intro fun _ => ?_) | (refine later_intro ⟨keeps_nil, ?_⟩) | (refine later_intro ⟨keeps_refl, ?_⟩) | (with_reducible refine keeps_go ?_ ?_; focus (first | (simp [keeps_cons, keeps_none, objs_app, objs_app0]; done) | (simp only [keeps_cons, keeps_none, objs_app0, objs_app, and_true]; first | rfl | exact ⟨rfl, rfl⟩ | exact ⟨rfl, rfl, rfl⟩))) | (with_reducible refine (And.intro (a := keeps _ _ _) ?_ ?_); focus (first | (simp [keeps_cons, keeps_none, objs_app, objs_app0]; done) | (simp only [keeps_cons, keeps_none, objs_app0, objs_app, and_true]; first | rfl | exact ⟨rfl, rfl⟩ | exact ⟨rfl, rfl, rfl⟩))) | (refine both_ways ?_ ?_) | (rw [wrap_i64 (by omega) (by omega)]) | (refine guardV_split (fun h => ?_) (fun h => ?_) <;> (try rw [h]) <;> (try simp at h) <;> (try (exfalso; omega))) | (refine refRight_c (m := m3) hby ?_))
                exact fin _ _ t3 u3 (Ext.app _ _) rfl
              · have e4 : getR l = (msg0, 6) := by simp only [getR, e3]; simp [he3, hat, hm]
                rw [e4] at fin
                rw [← p1] at hat
                repeat' (first | (simp -dsimp only [↓reduceIte, go_sem, hse3, hat, hm]) | (refine arr_intro fun _ => ?_) | (refine later_intro ⟨keeps_nil, ?_⟩) | (refine later_intro ⟨keeps_refl, ?_⟩) | (with_reducible refine keeps_go ?_ ?_; focus (first | (simp [keeps_cons, keeps_none, objs_app, objs_app0]; done) | (simp only [keeps_cons, keeps_none, objs_app0, objs_app, and_true]; first | rfl | exact ⟨rfl, rfl⟩ | exact ⟨rfl, rfl, rfl⟩))) | (with_reducible refine (And.intro (a := keeps _ _ _) ?_ ?_); focus (first | (simp [keeps_cons, keeps_none, objs_app, objs_app0]; done) | (simp only [keeps_cons, keeps_none, objs_app0, objs_app, and_true]; first | rfl | exact ⟨rfl, rfl⟩ | exact ⟨rfl, rfl, rfl⟩))) | (refine both_ways ?_ ?_) | (rw [wrap_i64 (by omega) (by omega)]) | (refine guardV_split (fun h => ?_) (fun h => ?_) <;> (try rw [h]) <;> (try simp at h) <;> (try (exfalso; omega))) | (refine refRight_c (m := m3) hby ?_))
                exact fin _ _ .full .full (Ext.app _ _) rfl
          · have e4 : getR l = (msg0, (r3).e) := by simp only [getR, e3]; simp [he3]
            rw [e4, ← hse3] at fin
            rw [← hse3] at he3
            repeat' (first | (simp -dsimp only [↓reduceIte, go_sem, he3]) | (refine arr_intro fun _ => ?_) | (refine later_intro ⟨keeps_nil, ?_⟩) | (refine later_intro ⟨keeps_refl, ?_⟩) | (with_reducible refine keeps_go ?_ ?_; focus (first | (simp [keeps_cons, keeps_none, objs_app, objs_app0]; done) | (simp only [keeps_cons, keeps_none, objs_app0, objs_app, and_true]; first | rfl | exact ⟨rfl, rfl⟩ | exact ⟨rfl, rfl, rfl⟩))) | (with_reducible refine (And.intro (a := keeps _ _ _) ?_ ?_); focus (first | (simp [keeps_cons, keeps_none, objs_app, objs_app0]; done) | (simp only [keeps_cons, keeps_none, objs_app0, objs_app, and_true]; first | rfl | exact ⟨rfl, rfl⟩ | exact ⟨rfl, rfl, rfl⟩))) | (refine both_ways ?_ ?_) | (rw [wrap_i64 (by omega) (by omega)]) | (refine guardV_split (fun h => ?_) (fun h => ?_) <;> (try rw [h]) <;> (try simp at h) <;> (try (exfalso; omega))) | (with_reducible refine awp_drawT (id := 27) (.op 0 2 (.op 1 0 (.op 2 0 (.op 3 1 (.op 4 2 .nil))))) (by kernel_rfl) ?_))
            exact fin _ _ .full .full (Ext.app _ _) rfl
end Go.Aff.L10

