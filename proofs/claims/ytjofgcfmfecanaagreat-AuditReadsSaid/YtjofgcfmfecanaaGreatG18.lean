import Derived.Test.YtjofgcfmfecanaaGreatG17
import Derived.Test.YtjofgcfmfecanaaGreatG16

set_option linter.unusedSimpArgs false
set_option linter.unusedVariables false

/- Layer 10, walked: the reference's rest of a message. -/
-- cuts
namespace Go.Aff.L10
open Go.Proofs Go.Aff Go.Aff.L01 Classical
set_option linter.unusedVariables false
set_option linter.unusedSimpArgs false
set_option maxRecDepth 20000
attribute [local go_sem] push_app app_app length_app cellAt_app cellAt_app0 set_app set_app0 objs_app objs_app0 List.cons_append List.nil_append List.length_cons List.length_nil List.getElem?_cons_zero List.getElem?_cons_succ List.set_cons_zero List.set_cons_succ List.length_map
attribute [-go_sem] cellAt_new
attribute [-simp] List.length_flatMap
attribute [local go_sem] Tryz.underlying3 Tryz.underlying4 Tryz.underlying5 Tryz.underlying9 Tryz.underlying39 Tryz.underlying40 Tryz.underlying43 Tryz.underlying25 Tryz.underlying50 Tryz.underlying76 subPs_0 subAt_0 subSet_0 subPs_1 subAt_1 subSet_1 subPs_2 subAt_2 subSet_2 subPs_3 subAt_3 subSet_3 subPs_4 subAt_4 subSet_4 subPs_5 subAt_5 subSet_5 sizes_sub shapes_sub fits_sub zero_sub zt_sub built_sub Tryz.underlying42 pendPs_0 pendAt_0 pendSet_0 pendPs_1 pendAt_1 pendSet_1 pendPs_2 pendAt_2 pendSet_2 pendPs_3 pendAt_3 pendSet_3 pendPs_4 pendAt_4 pendSet_4 pendPs_5 pendAt_5 pendSet_5 sizes_pend shapes_pend fits_pend zero_pend zt_pend built_pend Tryz.underlying104 repPs_0 repAt_0 repSet_0 repPs_1 repAt_1 repSet_1 repPs_2 repAt_2 repSet_2 repPs_3 repAt_3 repSet_3 repPs_4 repAt_4 repSet_4 repPs_5 repAt_5 repSet_5 repPs_6 repAt_6 repSet_6 repPs_7 repAt_7 repSet_7 repPs_8 repAt_8 repSet_8 repPs_9 repAt_9 repSet_9 sizes_rep shapes_rep fits_rep zero_rep zt_rep built_rep Tryz.underlying45 blobPs_0 blobAt_0 blobSet_0 blobPs_1 blobAt_1 blobSet_1 blobPs_2 blobAt_2 blobSet_2 blobPs_3 blobAt_3 blobSet_3 sizes_blob shapes_blob fits_blob zero_blob zt_blob built_blob Tryz.underlying47 msgPs_0 msgAt_0 msgSet_0 msgPs_1 msgAt_1 msgSet_1 msgPs_2 msgAt_2 msgSet_2 msgPs_3 msgAt_3 msgSet_3 msgPs_4 msgAt_4 msgSet_4 msgPs_5 msgAt_5 msgSet_5 msgPs_6 msgAt_6 msgSet_6 msgPs_7 msgAt_7 msgSet_7 msgPs_8 msgAt_8 msgSet_8 msgPs_9 msgAt_9 msgSet_9 sizes_msg shapes_msg fits_msg zero_msg zt_msg built_msg Tryz.underlying49 at_Ps_0 at_At_0 at_Set_0 at_Ps_1 at_At_1 at_Set_1 sizes_at_ shapes_at_ fits_at_ zero_at_ zt_at_ built_at_ Tryz.underlying62
attribute [local go_sem] fits3 fits4 fits5 fits9 fits23 fits26 fits31 fits34 fits52 zt3 zero3 zt34 zero34 zt23 zero23 bin_sub_eql bin_pend_eql bin_pend_neq bin_blob_eql bin_dig23_eql bin_dig23_neq slice23
attribute [local go_sem ↓] blockQ_exit2
attribute [local simp] dig_ext
attribute [local go_sem] rdrPs_0 rdrAt_0 rdrSet_0 rdrPs_1 rdrAt_1 rdrSet_1 rdrPs_2 rdrAt_2 rdrSet_2 sizes_rdr shapes_rdr fits_rdr zero_rdr zt_rdr built_rdr Tryz.underlying133 Tryz.underlying131 Tryz.underlying136 bin_bool_ne appc appn built23
attribute [local go_sem] msgSet_9s slV_eq
attribute [local go_sem ↓] res_cc
theorem refRest_c {s : List UInt8} {r : Rdr} {a : At} {n c : Int} (hk : n = 3 ∨ n = 5 ∨ n = 7 ∨ n = 8 ∨ n = 10 ∨ n = 11 ∨ (¬ n = 1 ∧ ¬ n = 2 ∧ ¬ n = 3 ∧ ¬ n = 4 ∧ ¬ n = 6 ∧ ¬ n = 5 ∧ ¬ n = 7 ∧ ¬ n = 8 ∧ ¬ n = 10 ∧ ¬ n = 11)) {σ : AST} {K : AV → AST → Prop} (hS : Sim s r a)
    (hK : ∀ b t u, Sim s (r.fields (getM n c)).2 b → K (.tuple [msgV t u (r.fields (getM n c)).1, at_V b]) σ) : TCalls Tryz.prog 26 [.str s, msgV .full .full (getM n c), at_V a] σ K := by
  refine TCalls.drop ?_
  have fin : ∀ (l : List AObj) (m : Msg) (b : At) (t u : Tk), m = (r.fields (getM n c)).1 → Sim s (r.fields (getM n c)).2 b → Ext σ (σ.app l) ∧ (AV.tuple [msgV t u m, at_V b]).noRef = true ∧ K (AV.tuple [msgV t u m, at_V b]).strip σ := fun l m b t u h1 h2 => by
    subst h1
    refine ⟨Ext.app _ _, ?_, ?_⟩
    · simp [AV.noRef, AV.noRefs, msgPs, repPs, subPs, blobPs, noRefs_pends, noRefs_ints, noRef_at_]
    · simp only [AV.strip, AV.strips, msg_strips, strip_at_]; exact hK b _ _ h2
  clear hK
  have hkk : (getM n c).kind = n := rfl
  refine tcalls_walk Tryz.f26 _ [.cell 6 49, .cell 7 62] Tryz.func26 rfl rfl rfl mixed (Nat.le_of_ble_eq_true rfl) rfl fun hlen => ?_
  simp -dsimp only [↓reduceIte, go_sem]
  rcases hk with hq | hq | hq | hq | hq | hq | hq
  · subst hq
    repeat' (first | (simp -dsimp only [↓reduceIte, go_sem, hkk]) | (refine arr_intro fun _ => ?_) | (refine later_intro ⟨keeps_nil, ?_⟩) | (refine later_intro ⟨keeps_refl, ?_⟩) | (with_reducible refine keeps_go ?_ ?_; focus (first | (simp [keeps_cons, keeps_none, objs_app, objs_app0]; done) | (simp only [keeps_cons, keeps_none, objs_app0, objs_app, and_true]; first | rfl | exact ⟨rfl, rfl⟩ | exact ⟨rfl, rfl, rfl⟩))) | (with_reducible refine (And.intro (a := keeps _ _ _) ?_ ?_); focus (first | (simp [keeps_cons, keeps_none, objs_app, objs_app0]; done) | (simp only [keeps_cons, keeps_none, objs_app0, objs_app, and_true]; first | rfl | exact ⟨rfl, rfl⟩ | exact ⟨rfl, rfl, rfl⟩))) | (refine both_ways ?_ ?_) | (rw [wrap_i64 (by omega) (by omega)]) | (refine guardV_split (fun h => ?_) (fun h => ?_) <;> (try rw [h]) <;> (try simp at h) <;> (try (exfalso; omega))))
    refine refStr_c hS fun b hS => ?_
    repeat' (first | (simp -dsimp only [↓reduceIte, go_sem]) | (refine arr_intro fun _ => ?_) | (refine later_intro ⟨keeps_nil, ?_⟩) | (refine later_intro ⟨keeps_refl, ?_⟩) | (with_reducible refine keeps_go ?_ ?_; focus (first | (simp [keeps_cons, keeps_none, objs_app, objs_app0]; done) | (simp only [keeps_cons, keeps_none, objs_app0, objs_app, and_true]; first | rfl | exact ⟨rfl, rfl⟩ | exact ⟨rfl, rfl, rfl⟩))) | (with_reducible refine (And.intro (a := keeps _ _ _) ?_ ?_); focus (first | (simp [keeps_cons, keeps_none, objs_app, objs_app0]; done) | (simp only [keeps_cons, keeps_none, objs_app0, objs_app, and_true]; first | rfl | exact ⟨rfl, rfl⟩ | exact ⟨rfl, rfl, rfl⟩))) | (refine both_ways ?_ ?_) | (rw [wrap_i64 (by omega) (by omega)]) | (refine guardV_split (fun h => ?_) (fun h => ?_) <;> (try rw [h]) <;> (try simp at h) <;> (try (exfalso; omega))))
    refine refDigest_c hS fun b hS => ?_
    repeat' (first | (simp -dsimp only [↓reduceIte, go_sem]) | (refine arr_intro fun _ => ?_) | (refine later_intro ⟨keeps_nil, ?_⟩) | (refine later_intro ⟨keeps_refl, ?_⟩) | (with_reducible refine keeps_go ?_ ?_; focus (first | (simp [keeps_cons, keeps_none, objs_app, objs_app0]; done) | (simp only [keeps_cons, keeps_none, objs_app0, objs_app, and_true]; first | rfl | exact ⟨rfl, rfl⟩ | exact ⟨rfl, rfl, rfl⟩))) | (with_reducible refine (And.intro (a := keeps _ _ _) ?_ ?_); focus (first | (simp [keeps_cons, keeps_none, objs_app, objs_app0]; done) | (simp only [keeps_cons, keeps_none, objs_app0, objs_app, and_true]; first | rfl | exact ⟨rfl, rfl⟩ | exact ⟨rfl, rfl, rfl⟩))) | (refine both_ways ?_ ?_) | (rw [wrap_i64 (by omega) (by omega)]) | (refine guardV_split (fun h => ?_) (fun h => ?_) <;> (try rw [h]) <;> (try simp at h) <;> (try (exfalso; omega))) | (with_reducible refine awp_drawU (id := 7) (.op 0 2 (.op 1 0 (.op 2 1 (.cut (.op 3 1 .nil))))) (by kernel_rfl) ?_))
    exact fin _ _ _ _ _ (by simp [Rdr.fields, getM]) (by simpa [Rdr.fields, getM] using hS)
  · subst hq
    have hse := hS.e
    have hl := hS.l
    by_cases he : r.e = 0
    · rw [he] at hse
      obtain ⟨p1, p2, p3⟩ := hS.p he
      have e : r.ints = ((intsR s a.n).1, { r with at_ := (intsR s a.n).2.1, e := (intsR s a.n).2.2 }) := by rw [Rdr.ints, if_neg (by simp [he])]; rw [hS.q, p1]
      repeat' (first | (simp -dsimp only [↓reduceIte, go_sem, hkk, hse]) | (refine arr_intro fun _ => ?_) | (refine later_intro ⟨keeps_nil, ?_⟩) | (refine later_intro ⟨keeps_refl, ?_⟩) | (with_reducible refine keeps_go ?_ ?_; focus (first | (simp [keeps_cons, keeps_none, objs_app, objs_app0]; done) | (simp only [keeps_cons, keeps_none, objs_app0, objs_app, and_true]; first | rfl | exact ⟨rfl, rfl⟩ | exact ⟨rfl, rfl, rfl⟩))) | (with_reducible refine (And.intro (a := keeps _ _ _) ?_ ?_); focus (first | (simp [keeps_cons, keeps_none, objs_app, objs_app0]; done) | (simp only [keeps_cons, keeps_none, objs_app0, objs_app, and_true]; first | rfl | exact ⟨rfl, rfl⟩ | exact ⟨rfl, rfl, rfl⟩))) | (refine both_ways ?_ ?_) | (rw [wrap_i64 (by omega) (by omega)]) | (refine guardV_split (fun h => ?_) (fun h => ?_) <;> (try rw [h]) <;> (try simp at h) <;> (try (exfalso; omega))) | (refine L01.ReadNumbers_c (by omega) (by omega) ?_) | (rw [tupL_slV]))
      have hb : Sim s r.ints.2 ⟨(intsR s a.n).2.1, (intsR s a.n).2.2⟩ := by
        rw [e]
        exact ⟨hS.q, rfl, fun h0 => by have : a.n < (intsR s a.n).2.1 ∧ (intsR s a.n).2.1 ≤ s.length := readR_prog h0; exact ⟨rfl, by dsimp only; omega, by dsimp only; omega⟩, hl⟩
      exact fin _ _ ⟨(intsR s a.n).2.1, (intsR s a.n).2.2⟩ _ _ (by simp [Rdr.fields, getM, e]) (by simpa [Rdr.fields, getM] using hb)
    · have hse : ¬ a.e = 0 := by rw [hse]; exact he
      have e : r.ints = ([], r) := by rw [Rdr.ints, if_pos he]
      repeat' (first | (simp -dsimp only [↓reduceIte, go_sem, hkk, hse]) | (refine arr_intro fun _ => ?_) | (refine later_intro ⟨keeps_nil, ?_⟩) | (refine later_intro ⟨keeps_refl, ?_⟩) | (with_reducible refine keeps_go ?_ ?_; focus (first | (simp [keeps_cons, keeps_none, objs_app, objs_app0]; done) | (simp only [keeps_cons, keeps_none, objs_app0, objs_app, and_true]; first | rfl | exact ⟨rfl, rfl⟩ | exact ⟨rfl, rfl, rfl⟩))) | (with_reducible refine (And.intro (a := keeps _ _ _) ?_ ?_); focus (first | (simp [keeps_cons, keeps_none, objs_app, objs_app0]; done) | (simp only [keeps_cons, keeps_none, objs_app0, objs_app, and_true]; first | rfl | exact ⟨rfl, rfl⟩ | exact ⟨rfl, rfl, rfl⟩))) | (refine both_ways ?_ ?_) | (rw [wrap_i64 (by omega) (by omega)]) | (refine guardV_split (fun h => ?_) (fun h => ?_) <;> (try rw [h]) <;> (try simp at h) <;> (try (exfalso; omega))) | (with_reducible refine awp_drawU (id := 12) (.op 0 2 (.op 1 0 (.op 2 1 (.cut (.op 3 1 .nil))))) (by kernel_rfl) ?_))
      exact fin _ _ a _ _ (by simp [Rdr.fields, getM, e]) (by simpa [Rdr.fields, getM, e] using hS)
  · subst hq
    have hse := hS.e
    have hl := hS.l
    by_cases he : r.e = 0
    · rw [he] at hse
      obtain ⟨p1, p2, p3⟩ := hS.p he
      have e : r.ints = ((intsR s a.n).1, { r with at_ := (intsR s a.n).2.1, e := (intsR s a.n).2.2 }) := by rw [Rdr.ints, if_neg (by simp [he])]; rw [hS.q, p1]
      repeat' (first | (simp -dsimp only [↓reduceIte, go_sem, hkk, hse]) | (refine arr_intro fun _ => ?_) | (refine later_intro ⟨keeps_nil, ?_⟩) | (refine later_intro ⟨keeps_refl, ?_⟩) | (with_reducible refine keeps_go ?_ ?_; focus (first | (simp [keeps_cons, keeps_none, objs_app, objs_app0]; done) | (simp only [keeps_cons, keeps_none, objs_app0, objs_app, and_true]; first | rfl | exact ⟨rfl, rfl⟩ | exact ⟨rfl, rfl, rfl⟩))) | (with_reducible refine (And.intro (a := keeps _ _ _) ?_ ?_); focus (first | (simp [keeps_cons, keeps_none, objs_app, objs_app0]; done) | (simp only [keeps_cons, keeps_none, objs_app0, objs_app, and_true]; first | rfl | exact ⟨rfl, rfl⟩ | exact ⟨rfl, rfl, rfl⟩))) | (refine both_ways ?_ ?_) | (rw [wrap_i64 (by omega) (by omega)]) | (refine guardV_split (fun h => ?_) (fun h => ?_) <;> (try rw [h]) <;> (try simp at h) <;> (try (exfalso; omega))) | (refine L01.ReadNumbers_c (by omega) (by omega) ?_) | (rw [tupL_slV]))
      have hb : Sim s r.ints.2 ⟨(intsR s a.n).2.1, (intsR s a.n).2.2⟩ := by
        rw [e]
        exact ⟨hS.q, rfl, fun h0 => by have : a.n < (intsR s a.n).2.1 ∧ (intsR s a.n).2.1 ≤ s.length := readR_prog h0; exact ⟨rfl, by dsimp only; omega, by dsimp only; omega⟩, hl⟩
      exact fin _ _ ⟨(intsR s a.n).2.1, (intsR s a.n).2.2⟩ _ _ (by simp [Rdr.fields, getM, e]) (by simpa [Rdr.fields, getM] using hb)
    · have hse : ¬ a.e = 0 := by rw [hse]; exact he
      have e : r.ints = ([], r) := by rw [Rdr.ints, if_pos he]
      repeat' (first | (simp -dsimp only [↓reduceIte, go_sem, hkk, hse]) | (refine arr_intro fun _ => ?_) | (refine later_intro ⟨keeps_nil, ?_⟩) | (refine later_intro ⟨keeps_refl, ?_⟩) | (with_reducible refine keeps_go ?_ ?_; focus (first | (simp [keeps_cons, keeps_none, objs_app, objs_app0]; done) | (simp only [keeps_cons, keeps_none, objs_app0, objs_app, and_true]; first | rfl | exact ⟨rfl, rfl⟩ | exact ⟨rfl, rfl, rfl⟩))) | (with_reducible refine (And.intro (a := keeps _ _ _) ?_ ?_); focus (first | (simp [keeps_cons, keeps_none, objs_app, objs_app0]; done) | (simp only [keeps_cons, keeps_none, objs_app0, objs_app, and_true]; first | rfl | exact ⟨rfl, rfl⟩ | exact ⟨rfl, rfl, rfl⟩))) | (refine both_ways ?_ ?_) | (rw [wrap_i64 (by omega) (by omega)]) | (refine guardV_split (fun h => ?_) (fun h => ?_) <;> (try rw [h]) <;> (try simp at h) <;> (try (exfalso; omega))) | (with_reducible refine awp_drawU (id := 12) (.op 0 2 (.op 1 0 (.op 2 1 (.cut (.op 3 1 .nil))))) (by kernel_rfl) ?_))
      exact fin _ _ a _ _ (by simp [Rdr.fields, getM, e]) (by simpa [Rdr.fields, getM, e] using hS)
  · subst hq
    have hse := hS.e
    have hl := hS.l
    by_cases he : r.e = 0
    · rw [he] at hse
      obtain ⟨p1, p2, p3⟩ := hS.p he
      have e : r.ints = ((intsR s a.n).1, { r with at_ := (intsR s a.n).2.1, e := (intsR s a.n).2.2 }) := by rw [Rdr.ints, if_neg (by simp [he])]; rw [hS.q, p1]
      repeat' (first | (simp -dsimp only [↓reduceIte, go_sem, hkk, hse]) | (refine arr_intro fun _ => ?_) | (refine later_intro ⟨keeps_nil, ?_⟩) | (refine later_intro ⟨keeps_refl, ?_⟩) | (with_reducible refine keeps_go ?_ ?_; focus (first | (simp [keeps_cons, keeps_none, objs_app, objs_app0]; done) | (simp only [keeps_cons, keeps_none, objs_app0, objs_app, and_true]; first | rfl | exact ⟨rfl, rfl⟩ | exact ⟨rfl, rfl, rfl⟩))) | (with_reducible refine (And.intro (a := keeps _ _ _) ?_ ?_); focus (first | (simp [keeps_cons, keeps_none, objs_app, objs_app0]; done) | (simp only [keeps_cons, keeps_none, objs_app0, objs_app, and_true]; first | rfl | exact ⟨rfl, rfl⟩ | exact ⟨rfl, rfl, rfl⟩))) | (refine both_ways ?_ ?_) | (rw [wrap_i64 (by omega) (by omega)]) | (refine guardV_split (fun h => ?_) (fun h => ?_) <;> (try rw [h]) <;> (try simp at h) <;> (try (exfalso; omega))) | (refine L01.ReadNumbers_c (by omega) (by omega) ?_) | (rw [tupL_slV]))
      have hb : Sim s r.ints.2 ⟨(intsR s a.n).2.1, (intsR s a.n).2.2⟩ := by
        rw [e]
        exact ⟨hS.q, rfl, fun h0 => by have : a.n < (intsR s a.n).2.1 ∧ (intsR s a.n).2.1 ≤ s.length := readR_prog h0; exact ⟨rfl, by dsimp only; omega, by dsimp only; omega⟩, hl⟩
      exact fin _ _ ⟨(intsR s a.n).2.1, (intsR s a.n).2.2⟩ _ _ (by simp [Rdr.fields, getM, e]) (by simpa [Rdr.fields, getM] using hb)
    · have hse : ¬ a.e = 0 := by rw [hse]; exact he
      have e : r.ints = ([], r) := by rw [Rdr.ints, if_pos he]
      repeat' (first | (simp -dsimp only [↓reduceIte, go_sem, hkk, hse]) | (refine arr_intro fun _ => ?_) | (refine later_intro ⟨keeps_nil, ?_⟩) | (refine later_intro ⟨keeps_refl, ?_⟩) | (with_reducible refine keeps_go ?_ ?_; focus (first | (simp [keeps_cons, keeps_none, objs_app, objs_app0]; done) | (simp only [keeps_cons, keeps_none, objs_app0, objs_app, and_true]; first | rfl | exact ⟨rfl, rfl⟩ | exact ⟨rfl, rfl, rfl⟩))) | (with_reducible refine (And.intro (a := keeps _ _ _) ?_ ?_); focus (first | (simp [keeps_cons, keeps_none, objs_app, objs_app0]; done) | (simp only [keeps_cons, keeps_none, objs_app0, objs_app, and_true]; first | rfl | exact ⟨rfl, rfl⟩ | exact ⟨rfl, rfl, rfl⟩))) | (refine both_ways ?_ ?_) | (rw [wrap_i64 (by omega) (by omega)]) | (refine guardV_split (fun h => ?_) (fun h => ?_) <;> (try rw [h]) <;> (try simp at h) <;> (try (exfalso; omega))) | (with_reducible refine awp_drawU (id := 12) (.op 0 2 (.op 1 0 (.op 2 1 (.cut (.op 3 1 .nil))))) (by kernel_rfl) ?_))
      exact fin _ _ a _ _ (by simp [Rdr.fields, getM, e]) (by simpa [Rdr.fields, getM, e] using hS)
  · subst hq
    repeat' (first | (simp -dsimp only [↓reduceIte, go_sem, hkk]) | (refine arr_intro fun _ => ?_) | (refine later_intro ⟨keeps_nil, ?_⟩) | (refine later_intro ⟨keeps_refl, ?_⟩) | (with_reducible refine keeps_go ?_ ?_; focus (first | (simp [keeps_cons, keeps_none, objs_app, objs_app0]; done) | (simp only [keeps_cons, keeps_none, objs_app0, objs_app, and_true]; first | rfl | exact ⟨rfl, rfl⟩ | exact ⟨rfl, rfl, rfl⟩))) | (with_reducible refine (And.intro (a := keeps _ _ _) ?_ ?_); focus (first | (simp [keeps_cons, keeps_none, objs_app, objs_app0]; done) | (simp only [keeps_cons, keeps_none, objs_app0, objs_app, and_true]; first | rfl | exact ⟨rfl, rfl⟩ | exact ⟨rfl, rfl, rfl⟩))) | (refine both_ways ?_ ?_) | (rw [wrap_i64 (by omega) (by omega)]) | (refine guardV_split (fun h => ?_) (fun h => ?_) <;> (try rw [h]) <;> (try simp at h) <;> (try (exfalso; omega))))
    refine refInt_c hS fun b hS => ?_
    repeat' (first | (simp -dsimp only [↓reduceIte, go_sem]) | (refine arr_intro fun _ => ?_) | (refine later_intro ⟨keeps_nil, ?_⟩) | (refine later_intro ⟨keeps_refl, ?_⟩) | (with_reducible refine keeps_go ?_ ?_; focus (first | (simp [keeps_cons, keeps_none, objs_app, objs_app0]; done) | (simp only [keeps_cons, keeps_none, objs_app0, objs_app, and_true]; first | rfl | exact ⟨rfl, rfl⟩ | exact ⟨rfl, rfl, rfl⟩))) | (with_reducible refine (And.intro (a := keeps _ _ _) ?_ ?_); focus (first | (simp [keeps_cons, keeps_none, objs_app, objs_app0]; done) | (simp only [keeps_cons, keeps_none, objs_app0, objs_app, and_true]; first | rfl | exact ⟨rfl, rfl⟩ | exact ⟨rfl, rfl, rfl⟩))) | (refine both_ways ?_ ?_) | (rw [wrap_i64 (by omega) (by omega)]) | (refine guardV_split (fun h => ?_) (fun h => ?_) <;> (try rw [h]) <;> (try simp at h) <;> (try (exfalso; omega))))
    refine refStr_c hS fun b hS => ?_
    repeat' (first | (simp -dsimp only [↓reduceIte, go_sem]) | (refine arr_intro fun _ => ?_) | (refine later_intro ⟨keeps_nil, ?_⟩) | (refine later_intro ⟨keeps_refl, ?_⟩) | (with_reducible refine keeps_go ?_ ?_; focus (first | (simp [keeps_cons, keeps_none, objs_app, objs_app0]; done) | (simp only [keeps_cons, keeps_none, objs_app0, objs_app, and_true]; first | rfl | exact ⟨rfl, rfl⟩ | exact ⟨rfl, rfl, rfl⟩))) | (with_reducible refine (And.intro (a := keeps _ _ _) ?_ ?_); focus (first | (simp [keeps_cons, keeps_none, objs_app, objs_app0]; done) | (simp only [keeps_cons, keeps_none, objs_app0, objs_app, and_true]; first | rfl | exact ⟨rfl, rfl⟩ | exact ⟨rfl, rfl, rfl⟩))) | (refine both_ways ?_ ?_) | (rw [wrap_i64 (by omega) (by omega)]) | (refine guardV_split (fun h => ?_) (fun h => ?_) <;> (try rw [h]) <;> (try simp at h) <;> (try (exfalso; omega))))
    refine refDigest_c hS fun b hS => ?_
    repeat' (first | (simp -dsimp only [↓reduceIte, go_sem]) | (refine arr_intro fun _ => ?_) | (refine later_intro ⟨keeps_nil, ?_⟩) | (refine later_intro ⟨keeps_refl, ?_⟩) | (with_reducible refine keeps_go ?_ ?_; focus (first | (simp [keeps_cons, keeps_none, objs_app, objs_app0]; done) | (simp only [keeps_cons, keeps_none, objs_app0, objs_app, and_true]; first | rfl | exact ⟨rfl, rfl⟩ | exact ⟨rfl, rfl, rfl⟩))) | (with_reducible refine (And.intro (a := keeps _ _ _) ?_ ?_); focus (first | (simp [keeps_cons, keeps_none, objs_app, objs_app0]; done) | (simp only [keeps_cons, keeps_none, objs_app0, objs_app, and_true]; first | rfl | exact ⟨rfl, rfl⟩ | exact ⟨rfl, rfl, rfl⟩))) | (refine both_ways ?_ ?_) | (rw [wrap_i64 (by omega) (by omega)]) | (refine guardV_split (fun h => ?_) (fun h => ?_) <;> (try rw [h]) <;> (try simp at h) <;> (try (exfalso; omega))))
    refine refDigest_c hS fun b hS => ?_
    repeat' (first | (simp -dsimp only [↓reduceIte, go_sem]) | (refine arr_intro fun _ => ?_) | (refine later_intro ⟨keeps_nil, ?_⟩) | (refine later_intro ⟨keeps_refl, ?_⟩) | (with_reducible refine keeps_go ?_ ?_; focus (first | (simp [keeps_cons, keeps_none, objs_app, objs_app0]; done) | (simp only [keeps_cons, keeps_none, objs_app0, objs_app, and_true]; first | rfl | exact ⟨rfl, rfl⟩ | exact ⟨rfl, rfl, rfl⟩))) | (with_reducible refine (And.intro (a := keeps _ _ _) ?_ ?_); focus (first | (simp [keeps_cons, keeps_none, objs_app, objs_app0]; done) | (simp only [keeps_cons, keeps_none, objs_app0, objs_app, and_true]; first | rfl | exact ⟨rfl, rfl⟩ | exact ⟨rfl, rfl, rfl⟩))) | (refine both_ways ?_ ?_) | (rw [wrap_i64 (by omega) (by omega)]) | (refine guardV_split (fun h => ?_) (fun h => ?_) <;> (try rw [h]) <;> (try simp at h) <;> (try (exfalso; omega))) | (with_reducible refine awp_drawU (id := 25) (.op 0 2 (.op 1 0 (.op 2 1 (.cut (.op 3 1 .nil))))) (by kernel_rfl) ?_))
    exact fin _ _ _ _ _ (by simp [Rdr.fields, getM]) (by simpa [Rdr.fields, getM] using hS)
  · subst hq
    repeat' (first | (simp -dsimp only [↓reduceIte, go_sem, hkk]) | (refine arr_intro fun _ => ?_) | (refine later_intro ⟨keeps_nil, ?_⟩) | (refine later_intro ⟨keeps_refl, ?_⟩) | (with_reducible refine keeps_go ?_ ?_; focus (first | (simp [keeps_cons, keeps_none, objs_app, objs_app0]; done) | (simp only [keeps_cons, keeps_none, objs_app0, objs_app, and_true]; first | rfl | exact ⟨rfl, rfl⟩ | exact ⟨rfl, rfl, rfl⟩))) | (with_reducible refine (And.intro (a := keeps _ _ _) ?_ ?_); focus (first | (simp [keeps_cons, keeps_none, objs_app, objs_app0]; done) | (simp only [keeps_cons, keeps_none, objs_app0, objs_app, and_true]; first | rfl | exact ⟨rfl, rfl⟩ | exact ⟨rfl, rfl, rfl⟩))) | (refine both_ways ?_ ?_) | (rw [wrap_i64 (by omega) (by omega)]) | (refine guardV_split (fun h => ?_) (fun h => ?_) <;> (try rw [h]) <;> (try simp at h) <;> (try (exfalso; omega))))
    refine refDigest_c hS fun b hS => ?_
    repeat' (first | (simp -dsimp only [↓reduceIte, go_sem]) | (refine arr_intro fun _ => ?_) | (refine later_intro ⟨keeps_nil, ?_⟩) | (refine later_intro ⟨keeps_refl, ?_⟩) | (with_reducible refine keeps_go ?_ ?_; focus (first | (simp [keeps_cons, keeps_none, objs_app, objs_app0]; done) | (simp only [keeps_cons, keeps_none, objs_app0, objs_app, and_true]; first | rfl | exact ⟨rfl, rfl⟩ | exact ⟨rfl, rfl, rfl⟩))) | (with_reducible refine (And.intro (a := keeps _ _ _) ?_ ?_); focus (first | (simp [keeps_cons, keeps_none, objs_app, objs_app0]; done) | (simp only [keeps_cons, keeps_none, objs_app0, objs_app, and_true]; first | rfl | exact ⟨rfl, rfl⟩ | exact ⟨rfl, rfl, rfl⟩))) | (refine both_ways ?_ ?_) | (rw [wrap_i64 (by omega) (by omega)]) | (refine guardV_split (fun h => ?_) (fun h => ?_) <;> (try rw [h]) <;> (try simp at h) <;> (try (exfalso; omega))) | (with_reducible refine awp_drawU (id := 29) (.op 0 2 (.op 1 0 (.op 2 1 (.cut (.op 3 1 .nil))))) (by kernel_rfl) ?_))
    exact fin _ _ _ _ _ (by simp [Rdr.fields, getM]) (by simpa [Rdr.fields, getM] using hS)
  · repeat' (first | (simp -dsimp only [↓reduceIte, go_sem, hkk, hq]) | (refine arr_intro fun _ => ?_) | (refine later_intro ⟨keeps_nil, ?_⟩) | (refine later_intro ⟨keeps_refl, ?_⟩) | (with_reducible refine keeps_go ?_ ?_; focus (first | (simp [keeps_cons, keeps_none, objs_app, objs_app0]; done) | (simp only [keeps_cons, keeps_none, objs_app0, objs_app, and_true]; first | rfl | exact ⟨rfl, rfl⟩ | exact ⟨rfl, rfl, rfl⟩))) | (with_reducible refine (And.intro (a := keeps _ _ _) ?_ ?_); focus (first | (simp [keeps_cons, keeps_none, objs_app, objs_app0]; done) | (simp only [keeps_cons, keeps_none, objs_app0, objs_app, and_true]; first | rfl | exact ⟨rfl, rfl⟩ | exact ⟨rfl, rfl, rfl⟩))) | (refine both_ways ?_ ?_) | (rw [wrap_i64 (by omega) (by omega)]) | (refine guardV_split (fun h => ?_) (fun h => ?_) <;> (try rw [h]) <;> (try simp at h) <;> (try (exfalso; omega))) | (with_reducible refine awp_drawU (id := 30) (.op 0 2 (.op 1 0 (.op 2 1 (.cut (.op 3 1 .nil))))) (by kernel_rfl) ?_))
    exact fin _ _ a _ _ (by simp [Rdr.fields, getM, hq]) (by simpa [Rdr.fields, getM, hq] using hS)
theorem rng0 : Rng 0 := ⟨by decide, by decide⟩
theorem numT_rng {s : List UInt8} {low : Bool} {q most : Nat} (hm : most ≤ 9223372036854775808) (hl : low = false → most ≤ 9223372036854775807) : Rng (numT s low q most).1 := by
  unfold numT
  split
  · exact rng0
  · split
    · exact rng0
    · split
      · exact rng0
      · rename_i h
        cases low
        · have := hl rfl
          refine ⟨?_, ?_⟩ <;> simp <;> omega
        · refine ⟨?_, ?_⟩ <;> simp <;> omega
theorem numR_rng {s : List UInt8} {i : Int} : Rng (numR s i).1 := by
  unfold numR
  split
  · exact rng0
  · unfold numP
    refine numT_rng ?_ ?_
    · split <;> omega
    · intro h; rw [h]; simp
theorem int_rng {r : Rdr} : Rng r.int.1 := by
  unfold Rdr.int
  split
  · exact rng0
  · exact numR_rng
theorem fields_out {r : Rdr} {n c : Int} (h : ¬ (1 ≤ n ∧ n ≤ 11)) : r.fields (getM n c) = (getM n c, r) := by
  have e : (getM n c).kind = n := rfl
  unfold Rdr.fields
  rw [e, if_neg (by omega), if_neg (by omega), if_neg (by omega), if_neg (by omega), if_neg (by omega), if_neg (by omega), if_neg (by omega)]
theorem fields_by {r : Rdr} {n c : Int} : Rng (r.fields (getM n c)).1.by_ := by
  have h0 : Rng 0 := ⟨by decide, by decide⟩
  unfold Rdr.fields
  repeat' split
  all_goals first | exact h0 | exact int_rng
theorem refGet_c {l : List UInt8} {σ : AST} {K : AV → AST → Prop} (hK : ∀ t u, K (.tuple [msgV t u (getR l).1, .int .i64 (getR l).2]) σ) : TCalls Tryz.prog 12 [.str l] σ K := by
  refine TCalls.drop ?_
  refine tcalls_walk Tryz.f12 _ [.cell 2 49, .tmp 3] Tryz.func12 rfl rfl rfl mixed (Nat.le_of_ble_eq_true rfl) rfl fun hlen => ?_
  have hll : l.length ≤ 9223372036854775807 := hlen (.str l) (by simp)
  have hS : Sim l ⟨l, 0, 0⟩ at_0 := ⟨rfl, rfl, fun _ => ⟨rfl, by simp, by simp⟩, hll⟩
  repeat' (first | (simp -dsimp only [↓reduceIte, go_sem]) | (refine arr_intro fun _ => ?_) | (refine later_intro ⟨keeps_nil, ?_⟩) | (refine later_intro ⟨keeps_refl, ?_⟩) | (with_reducible refine keeps_go ?_ ?_; focus (first | (simp [keeps_cons, keeps_none, objs_app, objs_app0]; done) | (simp only [keeps_cons, keeps_none, objs_app0, objs_app, and_true]; first | rfl | exact ⟨rfl, rfl⟩ | exact ⟨rfl, rfl, rfl⟩))) | (with_reducible refine (And.intro (a := keeps _ _ _) ?_ ?_); focus (first | (simp [keeps_cons, keeps_none, objs_app, objs_app0]; done) | (simp only [keeps_cons, keeps_none, objs_app0, objs_app, and_true]; first | rfl | exact ⟨rfl, rfl⟩ | exact ⟨rfl, rfl, rfl⟩))) | (refine both_ways ?_ ?_) | (rw [wrap_i64 (by omega) (by omega)]) | (refine guardV_split (fun h => ?_) (fun h => ?_) <;> (try rw [h]) <;> (try simp at h) <;> (try (exfalso; omega))))
  refine refInt_c hS fun b hS => ?_
  have hA : getA l = ((Rdr.mk l 0 0).int.1, if (Rdr.mk l 0 0).int.2.e = 0 ∧ ¬ In 1 11 (Rdr.mk l 0 0).int.1 then { (Rdr.mk l 0 0).int.2 with e := 6 } else (Rdr.mk l 0 0).int.2) := rfl
  generalize (Rdr.mk l 0 0).int = A at *
  obtain ⟨n, r1⟩ := A
  dsimp only at hA hS ⊢
  have hse := hS.e
  have fin : ∀ (v : AV) (s : AST) (t u : Tk), Ext σ s → v = .tuple [msgV t u (getR l).1, .int .i64 (getR l).2] → Ext σ s ∧ v.noRef = true ∧ K v.strip σ := fun v s t u hx hv => by
    subst hv
    refine ⟨hx, ?_, ?_⟩
    · simp [AV.noRef, AV.noRefs, msgPs, repPs, subPs, blobPs, noRefs_pends, noRefs_ints]
    · simp only [AV.strip, AV.strips, msg_strips]; exact hK _ _
  clear hK
  by_cases hbad : r1.e = 0 ∧ ¬ In 1 11 n
  · rw [if_pos hbad] at hA
    have hnn : ¬ (1 ≤ n ∧ n ≤ 11) := hbad.2
    have hg : getR l = (msg0, 6) := by
      have hB : getB (getA l) = (0, { r1 with e := 6 }) := by
        rw [hA]; unfold getB; rw [if_neg (by dsimp only; omega)]; simp [Rdr.int]
      have hC : (getC l).2 = { r1 with e := 6 } := by
        simp only [getC, hB]
        rw [hA]
        simp only [fields_out hnn]
      simp [getR, hC]
    rw [hg] at fin
    have h1 := hbad.1
    have h2 := hbad.2
    rw [h1] at hse
    repeat' (first | (simp -dsimp only [↓reduceIte, go_sem, hse, h2]) | (refine arr_intro fun _ => ?_) | (refine later_intro ⟨keeps_nil, ?_⟩) | (refine later_intro ⟨keeps_refl, ?_⟩) | (with_reducible refine keeps_go ?_ ?_; focus (first | (simp [keeps_cons, keeps_none, objs_app, objs_app0]; done) | (simp only [keeps_cons, keeps_none, objs_app0, objs_app, and_true]; first | rfl | exact ⟨rfl, rfl⟩ | exact ⟨rfl, rfl, rfl⟩))) | (with_reducible refine (And.intro (a := keeps _ _ _) ?_ ?_); focus (first | (simp [keeps_cons, keeps_none, objs_app, objs_app0]; done) | (simp only [keeps_cons, keeps_none, objs_app0, objs_app, and_true]; first | rfl | exact ⟨rfl, rfl⟩ | exact ⟨rfl, rfl, rfl⟩))) | (refine both_ways ?_ ?_) | (rw [wrap_i64 (by omega) (by omega)]) | (refine guardV_split (fun h => ?_) (fun h => ?_) <;> (try rw [h]) <;> (try simp at h) <;> (try (exfalso; omega))) | (refine Within_c ?_))
    exact fin _ _ .full .full (Ext.app _ _) rfl
  · rw [if_neg hbad] at hA
    have hgo : r1.e = 0 → In 1 11 n := fun h0 => Classical.byContradiction fun h1 => hbad ⟨h0, h1⟩
    have hbs : b.e = 0 → In 1 11 n := fun h0 => hgo (by rw [← hse]; exact h0)
    by_cases h246 : n = 2 ∨ n = 4 ∨ n = 6
    · have hB : getB (getA l) = (0, r1) := by rw [hA]; unfold getB; rw [if_pos h246]
      have hC : getC l = r1.fields (getM n 0) := by simp only [getC, hB]; rw [hA]
      rcases h246 with hq | hq | hq
      · subst hq
        repeat' (first | (simp -dsimp only [↓reduceIte, go_sem]) | (refine arr_intro fun _ => ?_) | (refine later_intro ⟨keeps_nil, ?_⟩) | (refine later_intro ⟨keeps_refl, ?_⟩) | (with_reducible refine keeps_go ?_ ?_; focus (first | (simp [keeps_cons, keeps_none, objs_app, objs_app0]; done) | (simp only [keeps_cons, keeps_none, objs_app0, objs_app, and_true]; first | rfl | exact ⟨rfl, rfl⟩ | exact ⟨rfl, rfl, rfl⟩))) | (with_reducible refine (And.intro (a := keeps _ _ _) ?_ ?_); focus (first | (simp [keeps_cons, keeps_none, objs_app, objs_app0]; done) | (simp only [keeps_cons, keeps_none, objs_app0, objs_app, and_true]; first | rfl | exact ⟨rfl, rfl⟩ | exact ⟨rfl, rfl, rfl⟩))) | (refine both_ways ?_ ?_) | (rw [wrap_i64 (by omega) (by omega)]) | (refine guardV_split (fun h => ?_) (fun h => ?_) <;> (try rw [h]) <;> (try simp at h) <;> (try (exfalso; omega))) | (refine Within_c ?_))
        all_goals first
          | (exfalso; exact absurd (hbs (by assumption)) (by assumption))
          | skip
        all_goals
          refine refRep_c hS fun b3 t3 hS => ?_
          have e3 : getC l = (⟨2, msg0.client, msg0.sub, r1.rep.1, msg0.view, msg0.by_, msg0.tag, msg0.own, msg0.blob, msg0.nums⟩, r1.rep.2) := by rw [hC]; simp [Rdr.fields, getM, msg0]
          have hse3 := hS.e
          by_cases he3 : (r1.rep.2).e = 0
          · rw [he3] at hse3
            obtain ⟨p1, p2, p3⟩ := hS.p he3
            by_cases hat : (r1.rep.2).at_ < l.length
            · have e4 : getR l = (msg0, 6) := by simp only [getR, e3]; simp [he3, hat]
              rw [e4] at fin
              rw [← p1] at hat
              repeat' (first | (simp -dsimp only [↓reduceIte, go_sem, hse3, hat]) | (refine arr_intro fun _ => ?_) | (refine later_intro ⟨keeps_nil, ?_⟩) | (refine later_intro ⟨keeps_refl, ?_⟩) | (with_reducible refine keeps_go ?_ ?_; focus (first | (simp [keeps_cons, keeps_none, objs_app, objs_app0]; done) | (simp only [keeps_cons, keeps_none, objs_app0, objs_app, and_true]; first | rfl | exact ⟨rfl, rfl⟩ | exact ⟨rfl, rfl, rfl⟩))) | (with_reducible refine (And.intro (a := keeps _ _ _) ?_ ?_); focus (first | (simp [keeps_cons, keeps_none, objs_app, objs_app0]; done) | (simp only [keeps_cons, keeps_none, objs_app0, objs_app, and_true]; first | rfl | exact ⟨rfl, rfl⟩ | exact ⟨rfl, rfl, rfl⟩))) | (refine both_ways ?_ ?_) | (rw [wrap_i64 (by omega) (by omega)]) | (refine guardV_split (fun h => ?_) (fun h => ?_) <;> (try rw [h]) <;> (try simp at h) <;> (try (exfalso; omega))))
              exact fin _ _ .full .full (Ext.app _ _) rfl
            · by_cases hm : (⟨2, msg0.client, msg0.sub, r1.rep.1, msg0.view, msg0.by_, msg0.tag, msg0.own, msg0.blob, msg0.nums⟩ : Msg).Ok
              · have e4 : getR l = (⟨2, msg0.client, msg0.sub, r1.rep.1, msg0.view, msg0.by_, msg0.tag, msg0.own, msg0.blob, msg0.nums⟩, 0) := by simp only [getR, e3]; simp [he3, hat, hm]
                rw [e4] at fin
                rw [← p1] at hat
                repeat' (first | (simp -dsimp only [↓reduceIte, go_sem, hse3, hat, hm]) | (refine arr_intro fun _ => ?_) | (refine later_intro ⟨keeps_nil, ?_⟩) | (refine later_intro ⟨keeps_refl, ?_⟩) | (with_reducible refine keeps_go ?_ ?_; focus (first | (simp [keeps_cons, keeps_none, objs_app, objs_app0]; done) | (simp only [keeps_cons, keeps_none, objs_app0, objs_app, and_true]; first | rfl | exact ⟨rfl, rfl⟩ | exact ⟨rfl, rfl, rfl⟩))) | (with_reducible refine (And.intro (a := keeps _ _ _) ?_ ?_); focus (first | (simp [keeps_cons, keeps_none, objs_app, objs_app0]; done) | (simp only [keeps_cons, keeps_none, objs_app0, objs_app, and_true]; first | rfl | exact ⟨rfl, rfl⟩ | exact ⟨rfl, rfl, rfl⟩))) | (refine both_ways ?_ ?_) | (rw [wrap_i64 (by omega) (by omega)]) | (refine guardV_split (fun h => ?_) (fun h => ?_) <;> (try rw [h]) <;> (try simp at h) <;> (try (exfalso; omega))) | (refine refRight_c (m := ⟨2, msg0.client, msg0.sub, r1.rep.1, msg0.view, msg0.by_, msg0.tag, msg0.own, msg0.blob, msg0.nums⟩) rng0 ?_))
                exact fin _ _ t3 .full (Ext.app _ _) rfl
              · have e4 : getR l = (msg0, 6) := by simp only [getR, e3]; simp [he3, hat, hm]
                rw [e4] at fin
                rw [← p1] at hat
                repeat' (first | (simp -dsimp only [↓reduceIte, go_sem, hse3, hat, hm]) | (refine arr_intro fun _ => ?_) | (refine later_intro ⟨keeps_nil, ?_⟩) | (refine later_intro ⟨keeps_refl, ?_⟩) | (with_reducible refine keeps_go ?_ ?_; focus (first | (simp [keeps_cons, keeps_none, objs_app, objs_app0]; done) | (simp only [keeps_cons, keeps_none, objs_app0, objs_app, and_true]; first | rfl | exact ⟨rfl, rfl⟩ | exact ⟨rfl, rfl, rfl⟩))) | (with_reducible refine (And.intro (a := keeps _ _ _) ?_ ?_); focus (first | (simp [keeps_cons, keeps_none, objs_app, objs_app0]; done) | (simp only [keeps_cons, keeps_none, objs_app0, objs_app, and_true]; first | rfl | exact ⟨rfl, rfl⟩ | exact ⟨rfl, rfl, rfl⟩))) | (refine both_ways ?_ ?_) | (rw [wrap_i64 (by omega) (by omega)]) | (refine guardV_split (fun h => ?_) (fun h => ?_) <;> (try rw [h]) <;> (try simp at h) <;> (try (exfalso; omega))) | (refine refRight_c (m := ⟨2, msg0.client, msg0.sub, r1.rep.1, msg0.view, msg0.by_, msg0.tag, msg0.own, msg0.blob, msg0.nums⟩) rng0 ?_))
                exact fin _ _ .full .full (Ext.app _ _) rfl
          · have e4 : getR l = (msg0, (r1.rep.2).e) := by simp only [getR, e3]; simp [he3]
            rw [e4, ← hse3] at fin
            rw [← hse3] at he3
            repeat' (first | (simp -dsimp only [↓reduceIte, go_sem, he3]) | (refine arr_intro fun _ => ?_) | (refine later_intro ⟨keeps_nil, ?_⟩) | (refine later_intro ⟨keeps_refl, ?_⟩) | (with_reducible refine keeps_go ?_ ?_; focus (first | (simp [keeps_cons, keeps_none, objs_app, objs_app0]; done) | (simp only [keeps_cons, keeps_none, objs_app0, objs_app, and_true]; first | rfl | exact ⟨rfl, rfl⟩ | exact ⟨rfl, rfl, rfl⟩))) | (with_reducible refine (And.intro (a := keeps _ _ _) ?_ ?_); focus (first | (simp [keeps_cons, keeps_none, objs_app, objs_app0]; done) | (simp only [keeps_cons, keeps_none, objs_app0, objs_app, and_true]; first | rfl | exact ⟨rfl, rfl⟩ | exact ⟨rfl, rfl, rfl⟩))) | (refine both_ways ?_ ?_) | (rw [wrap_i64 (by omega) (by omega)]) | (refine guardV_split (fun h => ?_) (fun h => ?_) <;> (try rw [h]) <;> (try simp at h) <;> (try (exfalso; omega))) | (with_reducible refine awp_drawT (id := 27) (.op 0 2 (.op 1 0 (.op 2 0 (.op 3 1 (.op 4 2 .nil))))) (by kernel_rfl) ?_))
            exact fin _ _ .full .full (Ext.app _ _) rfl
      · subst hq
        repeat' (first | (simp -dsimp only [↓reduceIte, go_sem]) | (refine arr_intro fun _ => ?_) | (refine later_intro ⟨keeps_nil, ?_⟩) | (refine later_intro ⟨keeps_refl, ?_⟩) | (with_reducible refine keeps_go ?_ ?_; focus (first | (simp [keeps_cons, keeps_none, objs_app, objs_app0]; done) | (simp only [keeps_cons, keeps_none, objs_app0, objs_app, and_true]; first | rfl | exact ⟨rfl, rfl⟩ | exact ⟨rfl, rfl, rfl⟩))) | (with_reducible refine (And.intro (a := keeps _ _ _) ?_ ?_); focus (first | (simp [keeps_cons, keeps_none, objs_app, objs_app0]; done) | (simp only [keeps_cons, keeps_none, objs_app0, objs_app, and_true]; first | rfl | exact ⟨rfl, rfl⟩ | exact ⟨rfl, rfl, rfl⟩))) | (refine both_ways ?_ ?_) | (rw [wrap_i64 (by omega) (by omega)]) | (refine guardV_split (fun h => ?_) (fun h => ?_) <;> (try rw [h]) <;> (try simp at h) <;> (try (exfalso; omega))) | (refine Within_c ?_))
        all_goals first
          | (exfalso; exact absurd (hbs (by assumption)) (by assumption))
          | skip
        all_goals
          refine refBlob_c hS fun b3 hS => ?_
          have e3 : getC l = (⟨4, msg0.client, msg0.sub, msg0.rep, msg0.view, msg0.by_, msg0.tag, msg0.own, r1.blob.1, msg0.nums⟩, r1.blob.2) := by rw [hC]; simp [Rdr.fields, getM, msg0, Rdr.blob]
          have hse3 := hS.e
          by_cases he3 : (r1.blob.2).e = 0
          · rw [he3] at hse3
            obtain ⟨p1, p2, p3⟩ := hS.p he3
            by_cases hat : (r1.blob.2).at_ < l.length
            · have e4 : getR l = (msg0, 6) := by simp only [getR, e3]; simp [he3, hat]
              rw [e4] at fin
              rw [← p1] at hat
              repeat' (first | (simp -dsimp only [↓reduceIte, go_sem, hse3, hat]) | (refine arr_intro fun _ => ?_) | (refine later_intro ⟨keeps_nil, ?_⟩) | (refine later_intro ⟨keeps_refl, ?_⟩) | (with_reducible refine keeps_go ?_ ?_; focus (first | (simp [keeps_cons, keeps_none, objs_app, objs_app0]; done) | (simp only [keeps_cons, keeps_none, objs_app0, objs_app, and_true]; first | rfl | exact ⟨rfl, rfl⟩ | exact ⟨rfl, rfl, rfl⟩))) | (with_reducible refine (And.intro (a := keeps _ _ _) ?_ ?_); focus (first | (simp [keeps_cons, keeps_none, objs_app, objs_app0]; done) | (simp only [keeps_cons, keeps_none, objs_app0, objs_app, and_true]; first | rfl | exact ⟨rfl, rfl⟩ | exact ⟨rfl, rfl, rfl⟩))) | (refine both_ways ?_ ?_) | (rw [wrap_i64 (by omega) (by omega)]) | (refine guardV_split (fun h => ?_) (fun h => ?_) <;> (try rw [h]) <;> (try simp at h) <;> (try (exfalso; omega))))
              exact fin _ _ .full .full (Ext.app _ _) rfl
            · by_cases hm : (⟨4, msg0.client, msg0.sub, msg0.rep, msg0.view, msg0.by_, msg0.tag, msg0.own, r1.blob.1, msg0.nums⟩ : Msg).Ok
              · have e4 : getR l = (⟨4, msg0.client, msg0.sub, msg0.rep, msg0.view, msg0.by_, msg0.tag, msg0.own, r1.blob.1, msg0.nums⟩, 0) := by simp only [getR, e3]; simp [he3, hat, hm]
                rw [e4] at fin
                rw [← p1] at hat
                repeat' (first | (simp -dsimp only [↓reduceIte, go_sem, hse3, hat, hm]) | (refine arr_intro fun _ => ?_) | (refine later_intro ⟨keeps_nil, ?_⟩) | (refine later_intro ⟨keeps_refl, ?_⟩) | (with_reducible refine keeps_go ?_ ?_; focus (first | (simp [keeps_cons, keeps_none, objs_app, objs_app0]; done) | (simp only [keeps_cons, keeps_none, objs_app0, objs_app, and_true]; first | rfl | exact ⟨rfl, rfl⟩ | exact ⟨rfl, rfl, rfl⟩))) | (with_reducible refine (And.intro (a := keeps _ _ _) ?_ ?_); focus (first | (simp [keeps_cons, keeps_none, objs_app, objs_app0]; done) | (simp only [keeps_cons, keeps_none, objs_app0, objs_app, and_true]; first | rfl | exact ⟨rfl, rfl⟩ | exact ⟨rfl, rfl, rfl⟩))) | (refine both_ways ?_ ?_) | (rw [wrap_i64 (by omega) (by omega)]) | (refine guardV_split (fun h => ?_) (fun h => ?_) <;> (try rw [h]) <;> (try simp at h) <;> (try (exfalso; omega))) | (refine refRight_c (m := ⟨4, msg0.client, msg0.sub, msg0.rep, msg0.view, msg0.by_, msg0.tag, msg0.own, r1.blob.1, msg0.nums⟩) rng0 ?_))
                exact fin _ _ .full .full (Ext.app _ _) rfl
              · have e4 : getR l = (msg0, 6) := by simp only [getR, e3]; simp [he3, hat, hm]
                rw [e4] at fin
                rw [← p1] at hat
                repeat' (first | (simp -dsimp only [↓reduceIte, go_sem, hse3, hat, hm]) | (refine arr_intro fun _ => ?_) | (refine later_intro ⟨keeps_nil, ?_⟩) | (refine later_intro ⟨keeps_refl, ?_⟩) | (with_reducible refine keeps_go ?_ ?_; focus (first | (simp [keeps_cons, keeps_none, objs_app, objs_app0]; done) | (simp only [keeps_cons, keeps_none, objs_app0, objs_app, and_true]; first | rfl | exact ⟨rfl, rfl⟩ | exact ⟨rfl, rfl, rfl⟩))) | (with_reducible refine (And.intro (a := keeps _ _ _) ?_ ?_); focus (first | (simp [keeps_cons, keeps_none, objs_app, objs_app0]; done) | (simp only [keeps_cons, keeps_none, objs_app0, objs_app, and_true]; first | rfl | exact ⟨rfl, rfl⟩ | exact ⟨rfl, rfl, rfl⟩))) | (refine both_ways ?_ ?_) | (rw [wrap_i64 (by omega) (by omega)]) | (refine guardV_split (fun h => ?_) (fun h => ?_) <;> (try rw [h]) <;> (try simp at h) <;> (try (exfalso; omega))) | (refine refRight_c (m := ⟨4, msg0.client, msg0.sub, msg0.rep, msg0.view, msg0.by_, msg0.tag, msg0.own, r1.blob.1, msg0.nums⟩) rng0 ?_))
                exact fin _ _ .full .full (Ext.app _ _) rfl
          · have e4 : getR l = (msg0, (r1.blob.2).e) := by simp only [getR, e3]; simp [he3]
            rw [e4, ← hse3] at fin
            rw [← hse3] at he3
            repeat' (first | (simp -dsimp only [↓reduceIte, go_sem, he3]) | (refine arr_intro fun _ => ?_) | (refine later_intro ⟨keeps_nil, ?_⟩) | (refine later_intro ⟨keeps_refl, ?_⟩) | (with_reducible refine keeps_go ?_ ?_; focus (first | (simp [keeps_cons, keeps_none, objs_app, objs_app0]; done) | (simp only [keeps_cons, keeps_none, objs_app0, objs_app, and_true]; first | rfl | exact ⟨rfl, rfl⟩ | exact ⟨rfl, rfl, rfl⟩))) | (with_reducible refine (And.intro (a := keeps _ _ _) ?_ ?_); focus (first | (simp [keeps_cons, keeps_none, objs_app, objs_app0]; done) | (simp only [keeps_cons, keeps_none, objs_app0, objs_app, and_true]; first | rfl | exact ⟨rfl, rfl⟩ | exact ⟨rfl, rfl, rfl⟩))) | (refine both_ways ?_ ?_) | (rw [wrap_i64 (by omega) (by omega)]) | (refine guardV_split (fun h => ?_) (fun h => ?_) <;> (try rw [h]) <;> (try simp at h) <;> (try (exfalso; omega))) | (with_reducible refine awp_drawT (id := 27) (.op 0 2 (.op 1 0 (.op 2 0 (.op 3 1 (.op 4 2 .nil))))) (by kernel_rfl) ?_))
            exact fin _ _ .full .full (Ext.app _ _) rfl
      · subst hq
        repeat' (first | (simp -dsimp only [↓reduceIte, go_sem]) | (refine arr_intro fun _ => ?_) | (refine later_intro ⟨keeps_nil, ?_⟩) | (refine later_intro ⟨keeps_refl, ?_⟩) | (with_reducible refine keeps_go ?_ ?_; focus (first | (simp [keeps_cons, keeps_none, objs_app, objs_app0]; done) | (simp only [keeps_cons, keeps_none, objs_app0, objs_app, and_true]; first | rfl | exact ⟨rfl, rfl⟩ | exact ⟨rfl, rfl, rfl⟩))) | (with_reducible refine (And.intro (a := keeps _ _ _) ?_ ?_); focus (first | (simp [keeps_cons, keeps_none, objs_app, objs_app0]; done) | (simp only [keeps_cons, keeps_none, objs_app0, objs_app, and_true]; first | rfl | exact ⟨rfl, rfl⟩ | exact ⟨rfl, rfl, rfl⟩))) | (refine both_ways ?_ ?_) | (rw [wrap_i64 (by omega) (by omega)]) | (refine guardV_split (fun h => ?_) (fun h => ?_) <;> (try rw [h]) <;> (try simp at h) <;> (try (exfalso; omega))) | (refine Within_c ?_))
        all_goals first
          | (exfalso; exact absurd (hbs (by assumption)) (by assumption))
          | skip
        all_goals
          refine refBlob_c hS fun b3 hS => ?_
          have e3 : getC l = (⟨6, msg0.client, msg0.sub, msg0.rep, msg0.view, msg0.by_, msg0.tag, msg0.own, r1.blob.1, msg0.nums⟩, r1.blob.2) := by rw [hC]; simp [Rdr.fields, getM, msg0, Rdr.blob]
          have hse3 := hS.e
          by_cases he3 : (r1.blob.2).e = 0
          · rw [he3] at hse3
            obtain ⟨p1, p2, p3⟩ := hS.p he3
            by_cases hat : (r1.blob.2).at_ < l.length
            · have e4 : getR l = (msg0, 6) := by simp only [getR, e3]; simp [he3, hat]
              rw [e4] at fin
              rw [← p1] at hat
              repeat' (first | (simp -dsimp only [↓reduceIte, go_sem, hse3, hat]) | (refine arr_intro fun _ => ?_) | (refine later_intro ⟨keeps_nil, ?_⟩) | (refine later_intro ⟨keeps_refl, ?_⟩) | (with_reducible refine keeps_go ?_ ?_; focus (first | (simp [keeps_cons, keeps_none, objs_app, objs_app0]; done) | (simp only [keeps_cons, keeps_none, objs_app0, objs_app, and_true]; first | rfl | exact ⟨rfl, rfl⟩ | exact ⟨rfl, rfl, rfl⟩))) | (with_reducible refine (And.intro (a := keeps _ _ _) ?_ ?_); focus (first | (simp [keeps_cons, keeps_none, objs_app, objs_app0]; done) | (simp only [keeps_cons, keeps_none, objs_app0, objs_app, and_true]; first | rfl | exact ⟨rfl, rfl⟩ | exact ⟨rfl, rfl, rfl⟩))) | (refine both_ways ?_ ?_) | (rw [wrap_i64 (by omega) (by omega)]) | (refine guardV_split (fun h => ?_) (fun h => ?_) <;> (try rw [h]) <;> (try simp at h) <;> (try (exfalso; omega))))
              exact fin _ _ .full .full (Ext.app _ _) rfl
            · by_cases hm : (⟨6, msg0.client, msg0.sub, msg0.rep, msg0.view, msg0.by_, msg0.tag, msg0.own, r1.blob.1, msg0.nums⟩ : Msg).Ok
              · have e4 : getR l = (⟨6, msg0.client, msg0.sub, msg0.rep, msg0.view, msg0.by_, msg0.tag, msg0.own, r1.blob.1, msg0.nums⟩, 0) := by simp only [getR, e3]; simp [he3, hat, hm]
                rw [e4] at fin
                rw [← p1] at hat
                repeat' (first | (simp -dsimp only [↓reduceIte, go_sem, hse3, hat, hm]) | (refine arr_intro fun _ => ?_) | (refine later_intro ⟨keeps_nil, ?_⟩) | (refine later_intro ⟨keeps_refl, ?_⟩) | (with_reducible refine keeps_go ?_ ?_; focus (first | (simp [keeps_cons, keeps_none, objs_app, objs_app0]; done) | (simp only [keeps_cons, keeps_none, objs_app0, objs_app, and_true]; first | rfl | exact ⟨rfl, rfl⟩ | exact ⟨rfl, rfl, rfl⟩))) | (with_reducible refine (And.intro (a := keeps _ _ _) ?_ ?_); focus (first | (simp [keeps_cons, keeps_none, objs_app, objs_app0]; done) | (simp only [keeps_cons, keeps_none, objs_app0, objs_app, and_true]; first | rfl | exact ⟨rfl, rfl⟩ | exact ⟨rfl, rfl, rfl⟩))) | (refine both_ways ?_ ?_) | (rw [wrap_i64 (by omega) (by omega)]) | (refine guardV_split (fun h => ?_) (fun h => ?_) <;> (try rw [h]) <;> (try simp at h) <;> (try (exfalso; omega))) | (refine refRight_c (m := ⟨6, msg0.client, msg0.sub, msg0.rep, msg0.view, msg0.by_, msg0.tag, msg0.own, r1.blob.1, msg0.nums⟩) rng0 ?_))
                exact fin _ _ .full .full (Ext.app _ _) rfl
              · have e4 : getR l = (msg0, 6) := by simp only [getR, e3]; simp [he3, hat, hm]
                rw [e4] at fin
                rw [← p1] at hat
                repeat' (first | (simp -dsimp only [↓reduceIte, go_sem, hse3, hat, hm]) | (refine arr_intro fun _ => ?_) | (refine later_intro ⟨keeps_nil, ?_⟩) | (refine later_intro ⟨keeps_refl, ?_⟩) | (with_reducible refine keeps_go ?_ ?_; focus (first | (simp [keeps_cons, keeps_none, objs_app, objs_app0]; done) | (simp only [keeps_cons, keeps_none, objs_app0, objs_app, and_true]; first | rfl | exact ⟨rfl, rfl⟩ | exact ⟨rfl, rfl, rfl⟩))) | (with_reducible refine (And.intro (a := keeps _ _ _) ?_ ?_); focus (first | (simp [keeps_cons, keeps_none, objs_app, objs_app0]; done) | (simp only [keeps_cons, keeps_none, objs_app0, objs_app, and_true]; first | rfl | exact ⟨rfl, rfl⟩ | exact ⟨rfl, rfl, rfl⟩))) | (refine both_ways ?_ ?_) | (rw [wrap_i64 (by omega) (by omega)]) | (refine guardV_split (fun h => ?_) (fun h => ?_) <;> (try rw [h]) <;> (try simp at h) <;> (try (exfalso; omega))) | (refine refRight_c (m := ⟨6, msg0.client, msg0.sub, msg0.rep, msg0.view, msg0.by_, msg0.tag, msg0.own, r1.blob.1, msg0.nums⟩) rng0 ?_))
                exact fin _ _ .full .full (Ext.app _ _) rfl
          · have e4 : getR l = (msg0, (r1.blob.2).e) := by simp only [getR, e3]; simp [he3]
            rw [e4, ← hse3] at fin
            rw [← hse3] at he3
            repeat' (first | (simp -dsimp only [↓reduceIte, go_sem, he3]) | (refine arr_intro fun _ => ?_) | (refine later_intro ⟨keeps_nil, ?_⟩) | (refine later_intro ⟨keeps_refl, ?_⟩) | (with_reducible refine keeps_go ?_ ?_; focus (first | (simp [keeps_cons, keeps_none, objs_app, objs_app0]; done) | (simp only [keeps_cons, keeps_none, objs_app0, objs_app, and_true]; first | rfl | exact ⟨rfl, rfl⟩ | exact ⟨rfl, rfl, rfl⟩))) | (with_reducible refine (And.intro (a := keeps _ _ _) ?_ ?_); focus (first | (simp [keeps_cons, keeps_none, objs_app, objs_app0]; done) | (simp only [keeps_cons, keeps_none, objs_app0, objs_app, and_true]; first | rfl | exact ⟨rfl, rfl⟩ | exact ⟨rfl, rfl, rfl⟩))) | (refine both_ways ?_ ?_) | (rw [wrap_i64 (by omega) (by omega)]) | (refine guardV_split (fun h => ?_) (fun h => ?_) <;> (try rw [h]) <;> (try simp at h) <;> (try (exfalso; omega))) | (with_reducible refine awp_drawT (id := 27) (.op 0 2 (.op 1 0 (.op 2 0 (.op 3 1 (.op 4 2 .nil))))) (by kernel_rfl) ?_))
            exact fin _ _ .full .full (Ext.app _ _) rfl
    · have hB : getB (getA l) = r1.int := by rw [hA]; unfold getB; rw [if_neg h246]
      have hC : getC l = r1.int.2.fields (getM n r1.int.1) := by simp only [getC, hB]; rw [hA]
      have n2 : ¬ n = 2 := fun h => h246 (.inl h)
      have n4 : ¬ n = 4 := fun h => h246 (.inr (.inl h))
      have n6 : ¬ n = 6 := fun h => h246 (.inr (.inr h))
      repeat' (first | (simp -dsimp only [↓reduceIte, go_sem, n2, n4, n6]) | (refine arr_intro fun _ => ?_) | (refine later_intro ⟨keeps_nil, ?_⟩) | (refine later_intro ⟨keeps_refl, ?_⟩) | (with_reducible refine keeps_go ?_ ?_; focus (first | (simp [keeps_cons, keeps_none, objs_app, objs_app0]; done) | (simp only [keeps_cons, keeps_none, objs_app0, objs_app, and_true]; first | rfl | exact ⟨rfl, rfl⟩ | exact ⟨rfl, rfl, rfl⟩))) | (with_reducible refine (And.intro (a := keeps _ _ _) ?_ ?_); focus (first | (simp [keeps_cons, keeps_none, objs_app, objs_app0]; done) | (simp only [keeps_cons, keeps_none, objs_app0, objs_app, and_true]; first | rfl | exact ⟨rfl, rfl⟩ | exact ⟨rfl, rfl, rfl⟩))) | (refine both_ways ?_ ?_) | (rw [wrap_i64 (by omega) (by omega)]) | (refine guardV_split (fun h => ?_) (fun h => ?_) <;> (try rw [h]) <;> (try simp at h) <;> (try (exfalso; omega))) | (refine Within_c ?_))
      all_goals first
        | (exfalso; exact absurd (hbs (by assumption)) (by assumption))
        | skip
      all_goals
        refine refInt_c hS fun b2 hS => ?_
        generalize r1.int.1 = c at *
        generalize r1.int.2 = r2 at *
        by_cases hq : n = 1
        · subst hq
          repeat' (first | (simp -dsimp only [↓reduceIte, go_sem]) | (refine arr_intro fun _ => ?_) | (refine later_intro ⟨keeps_nil, ?_⟩) | (refine later_intro ⟨keeps_refl, ?_⟩) | (with_reducible refine keeps_go ?_ ?_; focus (first | (simp [keeps_cons, keeps_none, objs_app, objs_app0]; done) | (simp only [keeps_cons, keeps_none, objs_app0, objs_app, and_true]; first | rfl | exact ⟨rfl, rfl⟩ | exact ⟨rfl, rfl, rfl⟩))) | (with_reducible refine (And.intro (a := keeps _ _ _) ?_ ?_); focus (first | (simp [keeps_cons, keeps_none, objs_app, objs_app0]; done) | (simp only [keeps_cons, keeps_none, objs_app0, objs_app, and_true]; first | rfl | exact ⟨rfl, rfl⟩ | exact ⟨rfl, rfl, rfl⟩))) | (refine both_ways ?_ ?_) | (rw [wrap_i64 (by omega) (by omega)]) | (refine guardV_split (fun h => ?_) (fun h => ?_) <;> (try rw [h]) <;> (try simp at h) <;> (try (exfalso; omega))))
          refine refSubmit_c hS fun b3 hS => ?_
          have e3 : getC l = (⟨1, c, r2.sub.1, msg0.rep, msg0.view, msg0.by_, msg0.tag, msg0.own, msg0.blob, msg0.nums⟩, r2.sub.2) := by rw [hC]; simp [Rdr.fields, getM, msg0, Rdr.sub]
          have hse3 := hS.e
          by_cases he3 : (r2.sub.2).e = 0
          · rw [he3] at hse3
            obtain ⟨p1, p2, p3⟩ := hS.p he3
            by_cases hat : (r2.sub.2).at_ < l.length
            · have e4 : getR l = (msg0, 6) := by simp only [getR, e3]; simp [he3, hat]
              rw [e4] at fin
              rw [← p1] at hat
              repeat' (first | (simp -dsimp only [↓reduceIte, go_sem, hse3, hat]) | (refine arr_intro fun _ => ?_) | (refine later_intro ⟨keeps_nil, ?_⟩) | (refine later_intro ⟨keeps_refl, ?_⟩) | (with_reducible refine keeps_go ?_ ?_; focus (first | (simp [keeps_cons, keeps_none, objs_app, objs_app0]; done) | (simp only [keeps_cons, keeps_none, objs_app0, objs_app, and_true]; first | rfl | exact ⟨rfl, rfl⟩ | exact ⟨rfl, rfl, rfl⟩))) | (with_reducible refine (And.intro (a := keeps _ _ _) ?_ ?_); focus (first | (simp [keeps_cons, keeps_none, objs_app, objs_app0]; done) | (simp only [keeps_cons, keeps_none, objs_app0, objs_app, and_true]; first | rfl | exact ⟨rfl, rfl⟩ | exact ⟨rfl, rfl, rfl⟩))) | (refine both_ways ?_ ?_) | (rw [wrap_i64 (by omega) (by omega)]) | (refine guardV_split (fun h => ?_) (fun h => ?_) <;> (try rw [h]) <;> (try simp at h) <;> (try (exfalso; omega))))
              exact fin _ _ .full .full (Ext.app _ _) rfl
            · by_cases hm : (⟨1, c, r2.sub.1, msg0.rep, msg0.view, msg0.by_, msg0.tag, msg0.own, msg0.blob, msg0.nums⟩ : Msg).Ok
              · have e4 : getR l = (⟨1, c, r2.sub.1, msg0.rep, msg0.view, msg0.by_, msg0.tag, msg0.own, msg0.blob, msg0.nums⟩, 0) := by simp only [getR, e3]; simp [he3, hat, hm]
                rw [e4] at fin
                rw [← p1] at hat
                repeat' (first | (simp -dsimp only [↓reduceIte, go_sem, hse3, hat, hm]) | (refine arr_intro fun _ => ?_) | (refine later_intro ⟨keeps_nil, ?_⟩) | (refine later_intro ⟨keeps_refl, ?_⟩) | (with_reducible refine keeps_go ?_ ?_; focus (first | (simp [keeps_cons, keeps_none, objs_app, objs_app0]; done) | (simp only [keeps_cons, keeps_none, objs_app0, objs_app, and_true]; first | rfl | exact ⟨rfl, rfl⟩ | exact ⟨rfl, rfl, rfl⟩))) | (with_reducible refine (And.intro (a := keeps _ _ _) ?_ ?_); focus (first | (simp [keeps_cons, keeps_none, objs_app, objs_app0]; done) | (simp only [keeps_cons, keeps_none, objs_app0, objs_app, and_true]; first | rfl | exact ⟨rfl, rfl⟩ | exact ⟨rfl, rfl, rfl⟩))) | (refine both_ways ?_ ?_) | (rw [wrap_i64 (by omega) (by omega)]) | (refine guardV_split (fun h => ?_) (fun h => ?_) <;> (try rw [h]) <;> (try simp at h) <;> (try (exfalso; omega))) | (refine refRight_c (m := ⟨1, c, r2.sub.1, msg0.rep, msg0.view, msg0.by_, msg0.tag, msg0.own, msg0.blob, msg0.nums⟩) rng0 ?_))
                exact fin _ _ .full .full (Ext.app _ _) rfl
              · have e4 : getR l = (msg0, 6) := by simp only [getR, e3]; simp [he3, hat, hm]
                rw [e4] at fin
                rw [← p1] at hat
                repeat' (first | (simp -dsimp only [↓reduceIte, go_sem, hse3, hat, hm]) | (refine arr_intro fun _ => ?_) | (refine later_intro ⟨keeps_nil, ?_⟩) | (refine later_intro ⟨keeps_refl, ?_⟩) | (with_reducible refine keeps_go ?_ ?_; focus (first | (simp [keeps_cons, keeps_none, objs_app, objs_app0]; done) | (simp only [keeps_cons, keeps_none, objs_app0, objs_app, and_true]; first | rfl | exact ⟨rfl, rfl⟩ | exact ⟨rfl, rfl, rfl⟩))) | (with_reducible refine (And.intro (a := keeps _ _ _) ?_ ?_); focus (first | (simp [keeps_cons, keeps_none, objs_app, objs_app0]; done) | (simp only [keeps_cons, keeps_none, objs_app0, objs_app, and_true]; first | rfl | exact ⟨rfl, rfl⟩ | exact ⟨rfl, rfl, rfl⟩))) | (refine both_ways ?_ ?_) | (rw [wrap_i64 (by omega) (by omega)]) | (refine guardV_split (fun h => ?_) (fun h => ?_) <;> (try rw [h]) <;> (try simp at h) <;> (try (exfalso; omega))) | (refine refRight_c (m := ⟨1, c, r2.sub.1, msg0.rep, msg0.view, msg0.by_, msg0.tag, msg0.own, msg0.blob, msg0.nums⟩) rng0 ?_))
                exact fin _ _ .full .full (Ext.app _ _) rfl
          · have e4 : getR l = (msg0, (r2.sub.2).e) := by simp only [getR, e3]; simp [he3]
            rw [e4, ← hse3] at fin
            rw [← hse3] at he3
            repeat' (first | (simp -dsimp only [↓reduceIte, go_sem, he3]) | (refine arr_intro fun _ => ?_) | (refine later_intro ⟨keeps_nil, ?_⟩) | (refine later_intro ⟨keeps_refl, ?_⟩) | (with_reducible refine keeps_go ?_ ?_; focus (first | (simp [keeps_cons, keeps_none, objs_app, objs_app0]; done) | (simp only [keeps_cons, keeps_none, objs_app0, objs_app, and_true]; first | rfl | exact ⟨rfl, rfl⟩ | exact ⟨rfl, rfl, rfl⟩))) | (with_reducible refine (And.intro (a := keeps _ _ _) ?_ ?_); focus (first | (simp [keeps_cons, keeps_none, objs_app, objs_app0]; done) | (simp only [keeps_cons, keeps_none, objs_app0, objs_app, and_true]; first | rfl | exact ⟨rfl, rfl⟩ | exact ⟨rfl, rfl, rfl⟩))) | (refine both_ways ?_ ?_) | (rw [wrap_i64 (by omega) (by omega)]) | (refine guardV_split (fun h => ?_) (fun h => ?_) <;> (try rw [h]) <;> (try simp at h) <;> (try (exfalso; omega))) | (with_reducible refine awp_drawT (id := 27) (.op 0 2 (.op 1 0 (.op 2 0 (.op 3 1 (.op 4 2 .nil))))) (by kernel_rfl) ?_))
            exact fin _ _ .full .full (Ext.app _ _) rfl
        · repeat' (first | (simp -dsimp only [↓reduceIte, go_sem, hq, n2, n4, n6]) | (refine arr_intro fun _ => ?_) | (refine later_intro ⟨keeps_nil, ?_⟩) | (refine later_intro ⟨keeps_refl, ?_⟩) | (with_reducible refine keeps_go ?_ ?_; focus (first | (simp [keeps_cons, keeps_none, objs_app, objs_app0]; done) | (simp only [keeps_cons, keeps_none, objs_app0, objs_app, and_true]; first | rfl | exact ⟨rfl, rfl⟩ | exact ⟨rfl, rfl, rfl⟩))) | (with_reducible refine (And.intro (a := keeps _ _ _) ?_ ?_); focus (first | (simp [keeps_cons, keeps_none, objs_app, objs_app0]; done) | (simp only [keeps_cons, keeps_none, objs_app0, objs_app, and_true]; first | rfl | exact ⟨rfl, rfl⟩ | exact ⟨rfl, rfl, rfl⟩))) | (refine both_ways ?_ ?_) | (rw [wrap_i64 (by omega) (by omega)]) | (refine guardV_split (fun h => ?_) (fun h => ?_) <;> (try rw [h]) <;> (try simp at h) <;> (try (exfalso; omega))))
          refine refRest_c (n := n) (c := c) (by omega) hS fun b3 t3 u3 hS => ?_
          have hby := fields_by (r := r2) (n := n) (c := c)
          generalize r2.fields (getM n c) = Z at hS hC hby
          obtain ⟨m3, r3⟩ := Z
          dsimp only at hS hby ⊢
          have e3 : getC l = (m3, r3) := hC
          have hse3 := hS.e
          by_cases he3 : (r3).e = 0
          · rw [he3] at hse3
            obtain ⟨p1, p2, p3⟩ := hS.p he3
            by_cases hat : (r3).at_ < l.length
            · have e4 : getR l = (msg0, 6) := by simp only [getR, e3]; simp [he3, hat]
              rw [e4] at fin
              rw [← p1] at hat
              repeat' (first | (simp -dsimp only [↓reduceIte, go_sem, hse3, hat]) | (refine arr_intro fun _ => ?_) | (refine later_intro ⟨keeps_nil, ?_⟩) | (refine later_intro ⟨keeps_refl, ?_⟩) | (with_reducible refine keeps_go ?_ ?_; focus (first | (simp [keeps_cons, keeps_none, objs_app, objs_app0]; done) | (simp only [keeps_cons, keeps_none, objs_app0, objs_app, and_true]; first | rfl | exact ⟨rfl, rfl⟩ | exact ⟨rfl, rfl, rfl⟩))) | (with_reducible refine (And.intro (a := keeps _ _ _) ?_ ?_); focus (first | (simp [keeps_cons, keeps_none, objs_app, objs_app0]; done) | (simp only [keeps_cons, keeps_none, objs_app0, objs_app, and_true]; first | rfl | exact ⟨rfl, rfl⟩ | exact ⟨rfl, rfl, rfl⟩))) | (refine both_ways ?_ ?_) | (rw [wrap_i64 (by omega) (by omega)]) | (refine guardV_split (fun h => ?_) (fun h => ?_) <;> (try rw [h]) <;> (try simp at h) <;> (try (exfalso; omega))))
              exact fin _ _ .full .full (Ext.app _ _) rfl
            · by_cases hm : (m3 : Msg).Ok
              · have e4 : getR l = (m3, 0) := by simp only [getR, e3]; simp [he3, hat, hm]
                rw [e4] at fin
                rw [← p1] at hat
                repeat' (first | (simp -dsimp only [↓reduceIte, go_sem, hse3, hat, hm]) | (refine arr_intro fun _ => ?_) | (refine later_intro ⟨keeps_nil, ?_⟩) | (refine later_intro ⟨keeps_refl, ?_⟩) | (with_reducible refine keeps_go ?_ ?_; focus (first | (simp [keeps_cons, keeps_none, objs_app, objs_app0]; done) | (simp only [keeps_cons, keeps_none, objs_app0, objs_app, and_true]; first | rfl | exact ⟨rfl, rfl⟩ | exact ⟨rfl, rfl, rfl⟩))) | (with_reducible refine (And.intro (a := keeps _ _ _) ?_ ?_); focus (first | (simp [keeps_cons, keeps_none, objs_app, objs_app0]; done) | (simp only [keeps_cons, keeps_none, objs_app0, objs_app, and_true]; first | rfl | exact ⟨rfl, rfl⟩ | exact ⟨rfl, rfl, rfl⟩))) | (refine both_ways ?_ ?_) | (rw [wrap_i64 (by omega) (by omega)]) | (refine guardV_split (fun h => ?_) (fun h => ?_) <;> (try rw [h]) <;> (try simp at h) <;> (try (exfalso; omega))) | (refine refRight_c (m := m3) hby ?_))
                exact fin _ _ t3 u3 (Ext.app _ _) rfl
              · have e4 : getR l = (msg0, 6) := by simp only [getR, e3]; simp [he3, hat, hm]
                rw [e4] at fin
                rw [← p1] at hat
                repeat' (first | (simp -dsimp only [↓reduceIte, go_sem, hse3, hat, hm]) | (refine arr_intro fun _ => ?_) | (refine later_intro ⟨keeps_nil, ?_⟩) | (refine later_intro ⟨keeps_refl, ?_⟩) | (with_reducible refine keeps_go ?_ ?_; focus (first | (simp [keeps_cons, keeps_none, objs_app, objs_app0]; done) | (simp only [keeps_cons, keeps_none, objs_app0, objs_app, and_true]; first | rfl | exact ⟨rfl, rfl⟩ | exact ⟨rfl, rfl, rfl⟩))) | (with_reducible refine (And.intro (a := keeps _ _ _) ?_ ?_); focus (first | (simp [keeps_cons, keeps_none, objs_app, objs_app0]; done) | (simp only [keeps_cons, keeps_none, objs_app0, objs_app, and_true]; first | rfl | exact ⟨rfl, rfl⟩ | exact ⟨rfl, rfl, rfl⟩))) | (refine both_ways ?_ ?_) | (rw [wrap_i64 (by omega) (by omega)]) | (refine guardV_split (fun h => ?_) (fun h => ?_) <;> (try rw [h]) <;> (try simp at h) <;> (try (exfalso; omega))) | (refine refRight_c (m := m3) hby ?_))
                exact fin _ _ .full .full (Ext.app _ _) rfl
          · have e4 : getR l = (msg0, (r3).e) := by simp only [getR, e3]; simp [he3]
            rw [e4, ← hse3] at fin
            rw [← hse3] at he3
            repeat' (first | (simp -dsimp only [↓reduceIte, go_sem, he3]) | (refine arr_intro fun _ => ?_) | (refine later_intro ⟨keeps_nil, ?_⟩) | (refine later_intro ⟨keeps_refl, ?_⟩) | (with_reducible refine keeps_go ?_ ?_; focus (first | (simp [keeps_cons, keeps_none, objs_app, objs_app0]; done) | (simp only [keeps_cons, keeps_none, objs_app0, objs_app, and_true]; first | rfl | exact ⟨rfl, rfl⟩ | exact ⟨rfl, rfl, rfl⟩))) | (with_reducible refine (And.intro (a := keeps _ _ _) ?_ ?_); focus (first | (simp [keeps_cons, keeps_none, objs_app, objs_app0]; done) | (simp only [keeps_cons, keeps_none, objs_app0, objs_app, and_true]; first | rfl | exact ⟨rfl, rfl⟩ | exact ⟨rfl, rfl, rfl⟩))) | (refine both_ways ?_ ?_) | (rw [wrap_i64 (by omega) (by omega)]) | (refine guardV_split (fun h => ?_) (fun h => ?_) <;> (try rw [h]) <;> (try simp at h) <;> (try (exfalso; omega))) | (with_reducible refine awp_drawT (id := 27) (.op 0 2 (.op 1 0 (.op 2 0 (.op 3 1 (.op 4 2 .nil))))) (by kernel_rfl) ?_))
            exact fin _ _ .full .full (Ext.app _ _) rfl
end Go.Aff.L10

/- The reference of layer 32, walked: Goes, Fit, Same. -/
-- cuts
namespace Go.Aff.L10
open Go.Proofs Go.Aff Go.Aff.L01 Classical
set_option linter.unusedVariables false
set_option linter.unusedSimpArgs false
set_option maxRecDepth 20000
attribute [local go_sem] push_app app_app length_app cellAt_app cellAt_app0 set_app set_app0 objs_app objs_app0 List.cons_append List.nil_append List.length_cons List.length_nil List.getElem?_cons_zero List.getElem?_cons_succ List.set_cons_zero List.set_cons_succ List.length_map
attribute [-go_sem] cellAt_new
attribute [-simp] List.length_flatMap
attribute [local go_sem] Tryz.underlying3 Tryz.underlying4 Tryz.underlying5 Tryz.underlying9 Tryz.underlying39 Tryz.underlying40 Tryz.underlying43 Tryz.underlying25 Tryz.underlying50 Tryz.underlying76 subPs_0 subAt_0 subSet_0 subPs_1 subAt_1 subSet_1 subPs_2 subAt_2 subSet_2 subPs_3 subAt_3 subSet_3 subPs_4 subAt_4 subSet_4 subPs_5 subAt_5 subSet_5 sizes_sub shapes_sub fits_sub zero_sub zt_sub built_sub Tryz.underlying42 pendPs_0 pendAt_0 pendSet_0 pendPs_1 pendAt_1 pendSet_1 pendPs_2 pendAt_2 pendSet_2 pendPs_3 pendAt_3 pendSet_3 pendPs_4 pendAt_4 pendSet_4 pendPs_5 pendAt_5 pendSet_5 sizes_pend shapes_pend fits_pend zero_pend zt_pend built_pend Tryz.underlying104 repPs_0 repAt_0 repSet_0 repPs_1 repAt_1 repSet_1 repPs_2 repAt_2 repSet_2 repPs_3 repAt_3 repSet_3 repPs_4 repAt_4 repSet_4 repPs_5 repAt_5 repSet_5 repPs_6 repAt_6 repSet_6 repPs_7 repAt_7 repSet_7 repPs_8 repAt_8 repSet_8 repPs_9 repAt_9 repSet_9 sizes_rep shapes_rep fits_rep zero_rep zt_rep built_rep Tryz.underlying45 blobPs_0 blobAt_0 blobSet_0 blobPs_1 blobAt_1 blobSet_1 blobPs_2 blobAt_2 blobSet_2 blobPs_3 blobAt_3 blobSet_3 sizes_blob shapes_blob fits_blob zero_blob zt_blob built_blob Tryz.underlying47 msgPs_0 msgAt_0 msgSet_0 msgPs_1 msgAt_1 msgSet_1 msgPs_2 msgAt_2 msgSet_2 msgPs_3 msgAt_3 msgSet_3 msgPs_4 msgAt_4 msgSet_4 msgPs_5 msgAt_5 msgSet_5 msgPs_6 msgAt_6 msgSet_6 msgPs_7 msgAt_7 msgSet_7 msgPs_8 msgAt_8 msgSet_8 msgPs_9 msgAt_9 msgSet_9 sizes_msg shapes_msg fits_msg zero_msg zt_msg built_msg Tryz.underlying49 at_Ps_0 at_Set_0 at_Ps_1 at_Set_1 sizes_at_ shapes_at_
attribute [local go_sem] fits3 fits4 fits5 fits9 fits23 fits26 fits31 fits34 fits52 zt3 zero3 zt34 zero34 zt23 zero23 bin_sub_eql bin_pend_eql bin_pend_neq bin_blob_eql bin_dig23_eql bin_dig23_neq slice23
attribute [local go_sem ↓] blockQ_exit2
attribute [local simp] dig_ext
attribute [local go_sem] postPs_0 postAt_0 postSet_0 postPs_1 postAt_1 postSet_1 postPs_2 postAt_2 postSet_2 sizes_post shapes_post fits_post zero_post zt_post built_post Tryz.underlying38 keyPs_0 keyAt_0 keySet_0 keyPs_1 keyAt_1 keySet_1 keyPs_2 keyAt_2 keySet_2 sizes_key shapes_key fits_key zero_key zt_key built_key Tryz.underlying87 conPs_0 conAt_0 conSet_0 conPs_1 conAt_1 conSet_1 sizes_con shapes_con fits_con zero_con zt_con built_con Tryz.underlying89 Tryz.underlying22 Tryz.underlying28 Tryz.underlying29 Tryz.underlying31 Tryz.underlying24 Tryz.underlying25 Tryz.underlying125 Tryz.underlying127 Tryz.underlying128 Tryz.underlying130
open Go.Aff.L09 in
theorem goes_iff {a b : List UInt8} : Go.Aff.L09.goes a b = true ↔ (b.length ≤ a.length ∧ ∀ (i : Nat) x y, a[i]? = some x → b[i]? = some y → x = y) := by
  simp only [Go.Aff.L09.goes, decide_eq_true_eq]
  constructor
  · rintro ⟨t, rfl⟩
    refine ⟨by simp, fun i x y hx hy => ?_⟩
    rw [List.getElem?_append_left (List.getElem?_eq_some_iff.1 hy).1, hy] at hx
    cases hx; rfl
  · rintro ⟨hl, h⟩
    refine ⟨a.drop b.length, ?_⟩
    apply List.ext_getElem?
    intro i
    rw [List.getElem?_append]
    split
    · rename_i hi
      rw [List.getElem?_eq_getElem hi, List.getElem?_eq_getElem (show i < a.length by omega)]
      rw [h i _ _ (List.getElem?_eq_getElem (show i < a.length by omega)) (List.getElem?_eq_getElem hi)]
    · rw [List.getElem?_drop]; congr 1; omega
theorem refGoes_c {a b : List UInt8} {σ : AST} {K : AV → AST → Prop} (hK : K (.bool (Go.Aff.L09.goes a b)) σ) : TCalls Tryz.prog 29 [.str a, .str b] σ K := by
  refine tcalls_walk Tryz.f29 _ [.tmp 4] Tryz.func29 rfl rfl rfl mixed (Nat.le_of_ble_eq_true rfl) rfl fun hlen => ?_
  have hla : a.length ≤ 9223372036854775807 := hlen (.str a) (by simp)
  have hlb : b.length ≤ 9223372036854775807 := hlen (.str b) (by simp)
  by_cases hl : b.length ≤ a.length
  · have hl1 : ¬ (b.length : Int) > a.length := by omega
    repeat' (first | (simp -dsimp only [↓reduceIte, go_sem, hl1]) | (refine arr_intro fun _ => ?_) | (refine later_intro ⟨keeps_nil, ?_⟩) | (refine later_intro ⟨keeps_refl, ?_⟩) | (refine both_ways ?_ ?_) | (rw [wrap_i64 (by omega) (by omega)]) | (refine guardV_split (fun h => ?_) (fun h => ?_) <;> (try rw [h]) <;> (try simp at h) <;> (try (exfalso; omega))))
    refine awp_rounds (fun (i : Nat) τ s => s = σ ∧ i ≤ b.length ∧ (∀ (j : Nat) x y, j < i → a[j]? = some x → b[j]? = some y → x = y) ∧ τ 0 = .str a ∧ τ 1 = .str b ∧ τ 5 = .int .i64 i) (fun i => b.length - i) 0 ?_ ?_
    · refine ⟨rfl, by omega, by omega, ?_, ?_, ?_⟩ <;> (try simp only [go_sem]) <;> (try rfl)
    · rintro i τ s ⟨rfl, hi, hall, t0, t1, t5⟩
      by_cases hlt : i < b.length
      · have hlt1 : (i : Int) < b.length := by omega
        obtain ⟨x, hx⟩ : ∃ x, a[i]? = some x := ⟨_, List.getElem?_eq_getElem (show i < a.length by omega)⟩
        obtain ⟨y, hy⟩ : ∃ y, b[i]? = some y := ⟨_, List.getElem?_eq_getElem hlt⟩
        have w1 : IntKind.i64.wrap ((i : Int) + 1) = (i : Int) + 1 := wrap_i64 (by omega) (by omega)
        by_cases hxy : x = y
        · subst hxy
          have hq : ((x.toNat : Int) != x.toNat) = false := by simp
          repeat' (first | (simp -dsimp only [↓reduceIte, go_sem, t0, t1, t5, hlt1, hq, w1]) | (refine arr_intro fun _ => ?_) | (refine later_intro ⟨keeps_nil, ?_⟩) | (refine later_intro ⟨keeps_refl, ?_⟩) | (refine both_ways ?_ ?_) | (rw [wrap_i64 (by omega) (by omega)]) | (refine guardV_split (fun h => ?_) (fun h => ?_) <;> (try rw [h]) <;> (try simp at h) <;> (try (exfalso; omega))) | (with_reducible refine awp_drawS (id := 6) [0, 1, 2, 3, 4, 5, 6] (by kernel_rfl) ?_) | (refine nth_get hx ?_) | (refine nth_get hy ?_))
          have hj : ∀ (j : Nat) u v, j < i + 1 → a[j]? = some u → b[j]? = some v → u = v := by
            intro j u v hj hu hv
            by_cases e : j = i
            · subst e; rw [hx] at hu; rw [hy] at hv; cases hu; cases hv; rfl
            · exact hall j u v (by omega) hu hv
          refine later_intro ⟨i + 1, by omega, ?_⟩
          (repeat' apply And.intro) <;> (try simp only [go_sem, t0, t1, t5]) <;> first | rfl | omega | exact hj | trivial
        · have hne : ¬ (x.toNat : Int) = y.toNat := fun e => hxy (UInt8.toNat_inj.1 (by omega))
          have hq : ((x.toNat : Int) != y.toNat) = true := by simpa using hne
          repeat' (first | (simp -dsimp only [↓reduceIte, go_sem, t0, t1, t5, hlt1, hq, w1]) | (refine arr_intro fun _ => ?_) | (refine later_intro ⟨keeps_nil, ?_⟩) | (refine later_intro ⟨keeps_refl, ?_⟩) | (refine both_ways ?_ ?_) | (rw [wrap_i64 (by omega) (by omega)]) | (refine guardV_split (fun h => ?_) (fun h => ?_) <;> (try rw [h]) <;> (try simp at h) <;> (try (exfalso; omega))) | (with_reducible refine awp_drawS (id := 6) [0, 1, 2, 3, 4, 5, 6] (by kernel_rfl) ?_) | (refine nth_get hx ?_) | (refine nth_get hy ?_))
          have hg : Go.Aff.L09.goes a b = false := by
            cases hgg : Go.Aff.L09.goes a b with
            | false => rfl
            | true => exact absurd ((goes_iff.1 hgg).2 i x y hx hy) hxy
          rw [hg] at hK; exact hK
      · have hlt1 : ¬ (i : Int) < b.length := by omega
        repeat' (first | (simp -dsimp only [↓reduceIte, go_sem, t0, t1, t5, hlt1]) | (refine arr_intro fun _ => ?_) | (refine later_intro ⟨keeps_nil, ?_⟩) | (refine later_intro ⟨keeps_refl, ?_⟩) | (refine both_ways ?_ ?_) | (rw [wrap_i64 (by omega) (by omega)]) | (refine guardV_split (fun h => ?_) (fun h => ?_) <;> (try rw [h]) <;> (try simp at h) <;> (try (exfalso; omega))))
        have hg : Go.Aff.L09.goes a b = true := goes_iff.2 ⟨hl, fun j x y hx hy => hall j x y (by have := (List.getElem?_eq_some_iff.1 hy).1; omega) hx hy⟩
        rw [hg] at hK; exact hK
  · have hl1 : (b.length : Int) > a.length := by omega
    repeat' (first | (simp -dsimp only [↓reduceIte, go_sem, hl1]) | (refine arr_intro fun _ => ?_) | (refine later_intro ⟨keeps_nil, ?_⟩) | (refine later_intro ⟨keeps_refl, ?_⟩) | (refine both_ways ?_ ?_) | (rw [wrap_i64 (by omega) (by omega)]) | (refine guardV_split (fun h => ?_) (fun h => ?_) <;> (try rw [h]) <;> (try simp at h) <;> (try (exfalso; omega))))
    have hg : Go.Aff.L09.goes a b = false := by
      cases hgg : Go.Aff.L09.goes a b with
      | false => rfl
      | true => exact absurd (goes_iff.1 hgg).1 hl
    rw [hg] at hK; exact hK
theorem refFit_c {a b : List UInt8} {σ : AST} {K : AV → AST → Prop} (hK : K (.bool (Go.Aff.L09.fit a b)) σ) : TCalls Tryz.prog 14 [.str a, .str b] σ K := by
  rw [Go.Aff.L09.fit_eq] at hK
  refine tcalls_walk Tryz.f14 _ [.tmp 4] Tryz.func14 rfl rfl rfl mixed (Nat.le_of_ble_eq_true rfl) rfl fun hlen => ?_
  repeat' (first | (simp -dsimp only [↓reduceIte, go_sem]) | (refine arr_intro fun _ => ?_) | (rw [wrap_i64 (by omega) (by omega)]) | (refine guardV_split (fun h => ?_) (fun h => ?_) <;> (try rw [h]) <;> (try simp at h) <;> (try (exfalso; omega))))
  refine refGoes_c ?_
  cases h1 : Go.Aff.L09.goes a b with
  | true => rw [h1] at hK; repeat' (first | (simp -dsimp only [↓reduceIte, go_sem]) | (refine arr_intro fun _ => ?_) | (rw [wrap_i64 (by omega) (by omega)]) | (refine guardV_split (fun h => ?_) (fun h => ?_) <;> (try rw [h]) <;> (try simp at h) <;> (try (exfalso; omega)))); exact hK
  | false =>
    rw [h1] at hK
    repeat' (first | (simp -dsimp only [↓reduceIte, go_sem]) | (refine arr_intro fun _ => ?_) | (rw [wrap_i64 (by omega) (by omega)]) | (refine guardV_split (fun h => ?_) (fun h => ?_) <;> (try rw [h]) <;> (try simp at h) <;> (try (exfalso; omega))))
    refine refGoes_c ?_
    repeat' (first | (simp -dsimp only [↓reduceIte, go_sem]) | (refine arr_intro fun _ => ?_) | (rw [wrap_i64 (by omega) (by omega)]) | (refine guardV_split (fun h => ?_) (fun h => ?_) <;> (try rw [h]) <;> (try simp at h) <;> (try (exfalso; omega))))
    simpa using hK
end Go.Aff.L10

/- The reference of layer 32, walked: Key, same. -/
-- cuts
namespace Go.Aff.L10
open Go.Proofs Go.Aff Go.Aff.L01 Classical
set_option linter.unusedVariables false
set_option linter.unusedSimpArgs false
set_option maxRecDepth 20000
attribute [local go_sem] push_app app_app length_app cellAt_app cellAt_app0 set_app set_app0 objs_app objs_app0 List.cons_append List.nil_append List.length_cons List.length_nil List.getElem?_cons_zero List.getElem?_cons_succ List.set_cons_zero List.set_cons_succ List.length_map
attribute [-go_sem] cellAt_new
attribute [-simp] List.length_flatMap
attribute [local go_sem] Tryz.underlying3 Tryz.underlying4 Tryz.underlying5 Tryz.underlying9 Tryz.underlying39 Tryz.underlying40 Tryz.underlying43 Tryz.underlying25 Tryz.underlying50 Tryz.underlying76 subPs_0 subAt_0 subSet_0 subPs_1 subAt_1 subSet_1 subPs_2 subAt_2 subSet_2 subPs_3 subAt_3 subSet_3 subPs_4 subAt_4 subSet_4 subPs_5 subAt_5 subSet_5 sizes_sub shapes_sub fits_sub zero_sub zt_sub built_sub Tryz.underlying42 pendPs_0 pendAt_0 pendSet_0 pendPs_1 pendAt_1 pendSet_1 pendPs_2 pendAt_2 pendSet_2 pendPs_3 pendAt_3 pendSet_3 pendPs_4 pendAt_4 pendSet_4 pendPs_5 pendAt_5 pendSet_5 sizes_pend shapes_pend fits_pend zero_pend zt_pend built_pend Tryz.underlying104 repPs_0 repAt_0 repSet_0 repPs_1 repAt_1 repSet_1 repPs_2 repAt_2 repSet_2 repPs_3 repAt_3 repSet_3 repPs_4 repAt_4 repSet_4 repPs_5 repAt_5 repSet_5 repPs_6 repAt_6 repSet_6 repPs_7 repAt_7 repSet_7 repPs_8 repAt_8 repSet_8 repPs_9 repAt_9 repSet_9 sizes_rep shapes_rep fits_rep zero_rep zt_rep built_rep Tryz.underlying45 blobPs_0 blobAt_0 blobSet_0 blobPs_1 blobAt_1 blobSet_1 blobPs_2 blobAt_2 blobSet_2 blobPs_3 blobAt_3 blobSet_3 sizes_blob shapes_blob fits_blob zero_blob zt_blob built_blob Tryz.underlying47 msgPs_0 msgAt_0 msgSet_0 msgPs_1 msgAt_1 msgSet_1 msgPs_2 msgAt_2 msgSet_2 msgPs_3 msgAt_3 msgSet_3 msgPs_4 msgAt_4 msgSet_4 msgPs_5 msgAt_5 msgSet_5 msgPs_6 msgAt_6 msgSet_6 msgPs_7 msgAt_7 msgSet_7 msgPs_8 msgAt_8 msgSet_8 msgPs_9 msgAt_9 msgSet_9 sizes_msg shapes_msg fits_msg zero_msg zt_msg built_msg Tryz.underlying49 at_Ps_0 at_Set_0 at_Ps_1 at_Set_1 sizes_at_ shapes_at_
attribute [local go_sem] fits3 fits4 fits5 fits9 fits23 fits26 fits31 fits34 fits52 zt3 zero3 zt34 zero34 zt23 zero23 bin_sub_eql bin_pend_eql bin_pend_neq bin_blob_eql bin_dig23_eql bin_dig23_neq slice23
attribute [local go_sem ↓] blockQ_exit2
attribute [local simp] dig_ext
attribute [local go_sem] postPs_0 postAt_0 postSet_0 postPs_1 postAt_1 postSet_1 postPs_2 postAt_2 postSet_2 sizes_post shapes_post fits_post zero_post zt_post built_post Tryz.underlying38 keyPs_0 keyAt_0 keySet_0 keyPs_1 keyAt_1 keySet_1 keyPs_2 keyAt_2 keySet_2 sizes_key shapes_key fits_key zero_key zt_key built_key Tryz.underlying87 conPs_0 conAt_0 conSet_0 conPs_1 conAt_1 conSet_1 sizes_con shapes_con fits_con zero_con zt_con built_con Tryz.underlying89 Tryz.underlying22 Tryz.underlying28 Tryz.underlying29 Tryz.underlying31 Tryz.underlying24 Tryz.underlying25 Tryz.underlying125 Tryz.underlying127 Tryz.underlying128 Tryz.underlying130
noncomputable def rkey (b : List UInt8) : Key := if (getR b).2 = 0 then (named (getR b).1).1 else key0
theorem refKey_c {b : List UInt8} {σ : AST} {K : AV → AST → Prop} (hK : K (.tuple [.int .i64 (rkey b).kind, .int .i64 (rkey b).who, .int .i64 (rkey b).number]) σ) : TCalls Tryz.prog 58 [.str b] σ K := by
  refine TCalls.drop ?_
  have fin : ∀ s' x y z, Ext σ s' → rkey b = ⟨x, y, z⟩ → Ext σ s' ∧ (AV.tuple [.int .i64 x, .int .i64 y, .int .i64 z]).noRef = true ∧ K (AV.tuple [.int .i64 x, .int .i64 y, .int .i64 z]).strip σ := fun s' x y z hx he => ⟨hx, rfl, by rw [he] at hK; simpa [AV.strip, AV.strips] using hK⟩
  unfold rkey at fin
  refine tcalls_walk Tryz.f58 _ [.tmp 2, .tmp 3, .tmp 4] Tryz.func58 rfl rfl rfl mixed (Nat.le_of_ble_eq_true rfl) rfl fun hlen => ?_
  repeat' (first | (simp -dsimp only [↓reduceIte, go_sem]) | (refine arr_intro fun _ => ?_) | (refine later_intro ⟨keeps_nil, ?_⟩) | (refine later_intro ⟨keeps_refl, ?_⟩) | (refine both_ways ?_ ?_) | (rw [wrap_i64 (by omega) (by omega)]) | (refine guardV_split (fun h => ?_) (fun h => ?_) <;> (try rw [h]) <;> (try simp at h) <;> (try (exfalso; omega))))
  refine refGet_c fun t u => ?_
  generalize getR b = R at *
  by_cases he : R.2 = 0
  · rw [if_pos he] at fin
    by_cases h1 : R.1.kind = 1
    · repeat' (first | (simp -dsimp only [↓reduceIte, go_sem, he, h1]) | (refine arr_intro fun _ => ?_) | (refine later_intro ⟨keeps_nil, ?_⟩) | (refine later_intro ⟨keeps_refl, ?_⟩) | (refine both_ways ?_ ?_) | (rw [wrap_i64 (by omega) (by omega)]) | (refine guardV_split (fun h => ?_) (fun h => ?_) <;> (try rw [h]) <;> (try simp at h) <;> (try (exfalso; omega))) | (with_reducible refine awp_drawS (id := 5) [0, 1, 2, 3, 4, 5, 6, 7] (by kernel_rfl) ?_))
      exact fin _ _ _ _ (Ext.app _ _) (by unfold named; rw [if_pos h1, h1])
    · by_cases h4 : R.1.kind = 4
      · repeat' (first | (simp -dsimp only [↓reduceIte, go_sem, he, h1, h4]) | (refine arr_intro fun _ => ?_) | (refine later_intro ⟨keeps_nil, ?_⟩) | (refine later_intro ⟨keeps_refl, ?_⟩) | (refine both_ways ?_ ?_) | (rw [wrap_i64 (by omega) (by omega)]) | (refine guardV_split (fun h => ?_) (fun h => ?_) <;> (try rw [h]) <;> (try simp at h) <;> (try (exfalso; omega))) | (with_reducible refine awp_drawS (id := 7) [0, 1, 2, 3, 4, 5, 6, 7, 8] (by kernel_rfl) ?_))
        exact fin _ _ _ _ (Ext.app _ _) (by unfold named; rw [if_neg h1, if_pos h4, h4])
      · repeat' (first | (simp -dsimp only [↓reduceIte, go_sem, he, h1, h4]) | (refine arr_intro fun _ => ?_) | (refine later_intro ⟨keeps_nil, ?_⟩) | (refine later_intro ⟨keeps_refl, ?_⟩) | (refine both_ways ?_ ?_) | (rw [wrap_i64 (by omega) (by omega)]) | (refine guardV_split (fun h => ?_) (fun h => ?_) <;> (try rw [h]) <;> (try simp at h) <;> (try (exfalso; omega))))
        exact fin _ _ _ _ (Ext.app _ _) (by unfold named; rw [if_neg h1, if_neg h4]; rfl)
  · rw [if_neg he] at fin
    repeat' (first | (simp -dsimp only [↓reduceIte, go_sem, he]) | (refine arr_intro fun _ => ?_) | (refine later_intro ⟨keeps_nil, ?_⟩) | (refine later_intro ⟨keeps_refl, ?_⟩) | (refine both_ways ?_ ?_) | (rw [wrap_i64 (by omega) (by omega)]) | (refine guardV_split (fun h => ?_) (fun h => ?_) <;> (try rw [h]) <;> (try simp at h) <;> (try (exfalso; omega))))
    exact fin _ _ _ _ (Ext.app _ _) rfl
noncomputable def sameK (a b : Key) : Bool := decide (0 < a.kind ∧ a = b)
theorem refSame32_c {a b : List UInt8} {σ : AST} {K : AV → AST → Prop} (hK : K (.bool (sameK (rkey a) (rkey b))) σ) : TCalls Tryz.prog 28 [.str a, .str b] σ K := by
  have qt : ∀ {a b : Int}, a = b → (a == b) = true := fun h => by simp [h]
  have qf : ∀ {a b : Int}, ¬ a = b → (a == b) = false := fun h => by simp [h]
  have fin : ∀ v, v = sameK (rkey a) (rkey b) → K (.bool v) σ := fun v h => h ▸ hK
  refine tcalls_walk Tryz.f28 _ [.tmp 4] Tryz.func28 rfl rfl rfl mixed (Nat.le_of_ble_eq_true rfl) rfl fun hlen => ?_
  repeat' (first | (simp -dsimp only [↓reduceIte, go_sem]) | (refine arr_intro fun _ => ?_) | (rw [wrap_i64 (by omega) (by omega)]) | (refine guardV_split (fun h => ?_) (fun h => ?_) <;> (try rw [h]) <;> (try simp at h) <;> (try (exfalso; omega))))
  refine refKey_c ?_
  repeat' (first | (simp -dsimp only [↓reduceIte, go_sem]) | (refine arr_intro fun _ => ?_) | (rw [wrap_i64 (by omega) (by omega)]) | (refine guardV_split (fun h => ?_) (fun h => ?_) <;> (try rw [h]) <;> (try simp at h) <;> (try (exfalso; omega))))
  refine refKey_c ?_
  generalize rkey a = x at *
  generalize rkey b = y at *
  obtain ⟨x1, x2, x3⟩ := x
  obtain ⟨y1, y2, y3⟩ := y
  simp only [sameK, Key.mk.injEq] at fin
  by_cases h0 : x1 > 0
  · by_cases h1 : x1 = y1
    · have e1 := qt h1
      by_cases h2 : x2 = y2
      · have e2 := qt h2
        by_cases h3 : x3 = y3
        · have e3 := qt h3
          repeat' (first | (simp -dsimp only [↓reduceIte, go_sem, h0, e1, e2, e3]) | (refine arr_intro fun _ => ?_) | (rw [wrap_i64 (by omega) (by omega)]) | (refine guardV_split (fun h => ?_) (fun h => ?_) <;> (try rw [h]) <;> (try simp at h) <;> (try (exfalso; omega))))
          exact fin _ (by simp [h1, h2, h3]; omega)
        · have e3 := qf h3
          repeat' (first | (simp -dsimp only [↓reduceIte, go_sem, h0, e1, e2, e3]) | (refine arr_intro fun _ => ?_) | (rw [wrap_i64 (by omega) (by omega)]) | (refine guardV_split (fun h => ?_) (fun h => ?_) <;> (try rw [h]) <;> (try simp at h) <;> (try (exfalso; omega))))
          exact fin _ (by simp [h3])
      · have e2 := qf h2
        repeat' (first | (simp -dsimp only [↓reduceIte, go_sem, h0, e1, e2]) | (refine arr_intro fun _ => ?_) | (rw [wrap_i64 (by omega) (by omega)]) | (refine guardV_split (fun h => ?_) (fun h => ?_) <;> (try rw [h]) <;> (try simp at h) <;> (try (exfalso; omega))))
        exact fin _ (by simp [h2])
    · have e1 := qf h1
      repeat' (first | (simp -dsimp only [↓reduceIte, go_sem, h0, e1]) | (refine arr_intro fun _ => ?_) | (rw [wrap_i64 (by omega) (by omega)]) | (refine guardV_split (fun h => ?_) (fun h => ?_) <;> (try rw [h]) <;> (try simp at h) <;> (try (exfalso; omega))))
      exact fin _ (by simp [h1])
  · repeat' (first | (simp -dsimp only [↓reduceIte, go_sem, h0]) | (refine arr_intro fun _ => ?_) | (rw [wrap_i64 (by omega) (by omega)]) | (refine guardV_split (fun h => ?_) (fun h => ?_) <;> (try rw [h]) <;> (try simp at h) <;> (try (exfalso; omega))))
    exact fin _ (by simp; omega)
/-! ### How many keys have two contents -/
theorem filter_two {α : Type} {l : List α} {p : α → Bool} {x y : α} (hx : x ∈ l) (hy : y ∈ l) (hne : x ≠ y) (px : p x = true) (py : p y = true) : 2 ≤ l.countP p := by
  rw [List.countP_eq_length_filter]
  have h1 : x ∈ l.filter p := List.mem_filter.2 ⟨hx, px⟩
  have h2 : y ∈ l.filter p := List.mem_filter.2 ⟨hy, py⟩
  match hl : l.filter p with
  | [] => rw [hl] at h1; cases h1
  | [z] => rw [hl] at h1 h2; simp at h1 h2; exact absurd (h1.trans h2.symm) hne
  | z :: w :: r => simp
theorem nodup_one {α : Type} : ∀ {l : List α} {p : α → Bool} {x : α}, l.Nodup → (∀ y ∈ l, p y = true → y = x) → l.countP p ≤ 1
  | [], _, _, _, _ => by simp
  | z :: l, p, x, hn, h => by
    rw [List.countP_cons]
    rw [List.nodup_cons] at hn
    by_cases hz : p z = true
    · have e := h z (List.mem_cons_self ..) hz
      have : l.countP p = 0 := List.countP_eq_zero.2 fun y hy hp => hn.1 (by
        have := h y (List.mem_cons_of_mem _ hy) hp
        rw [e, ← this]; exact hy)
      simp [hz, this]
    · have := nodup_one hn.2 (fun y hy => h y (List.mem_cons_of_mem _ hy))
      simp [hz]; exact this
section
variable {V : List (Key × List UInt8)} {k : Key}
theorem many_zero (h : ∀ y ∈ V, y.1 ≠ k) : L32.many V k = 0 := List.countP_eq_zero.2 fun y hy => by simpa using h y (L32.D_mem.1 hy)
theorem many_one {b : List UInt8} (hb : (k, b) ∈ V) (h : ∀ y ∈ V, y.1 = k → y.2 = b) : L32.many V k = 1 := by
  have h1 : L32.many V k ≤ 1 := nodup_one (x := (k, b)) L32.D_nodup fun y hy hp => by
    have e1 : y.1 = k := by simpa using hp
    exact Prod.ext e1 (h y (L32.D_mem.1 hy) e1)
  have h2 : 0 < L32.many V k := List.countP_pos_iff.2 ⟨(k, b), L32.D_mem.2 hb, by simp⟩
  omega
theorem many_two {b c : List UInt8} (hb : (k, b) ∈ V) (hc : (k, c) ∈ V) (hne : b ≠ c) : 2 ≤ L32.many V k :=
  filter_two (L32.D_mem.2 hb) (L32.D_mem.2 hc) (fun e => hne (congrArg Prod.snd e)) (by simp) (by simp)
end
theorem named_pos {m : Msg} : (named m).2 = decide (0 < (named m).1.kind) := by
  unfold named
  split
  · rename_i h; simp [h]
  · split
    · rename_i h; simp [h]
    · simp [key0]
theorem cont1_eq {p : Post} : cont1 p = if 0 < (rkey p.b).kind then [(rkey p.b, p.b)] else [] := by
  unfold cont1 rkey
  by_cases he : (getR p.b).2 = 0
  · simp [he, named_pos]
  · simp [he, key0]
theorem mem_conts {l : List Post} {k : Key} {b : List UInt8} : (k, b) ∈ conts l ↔ ∃ p ∈ l, 0 < (rkey p.b).kind ∧ rkey p.b = k ∧ p.b = b := by
  unfold conts
  rw [List.mem_flatMap]
  constructor
  · rintro ⟨p, hp, h⟩
    rw [cont1_eq] at h
    split at h
    · rename_i hk; simp at h; exact ⟨p, hp, hk, h.1.symm, h.2.symm⟩
    · cases h
  · rintro ⟨p, hp, hk, h1, h2⟩
    exact ⟨p, hp, by rw [cont1_eq, if_pos hk, h1, h2]; simp⟩
end Go.Aff.L10

