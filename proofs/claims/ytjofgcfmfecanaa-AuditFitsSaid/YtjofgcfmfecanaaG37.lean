import Derived.Test.YtjofgcfmfecanaaG36
import Derived.Test.YtjofgcfmfecanaaG16

set_option linter.unusedSimpArgs false
set_option linter.unusedVariables false

/- Layer 32: AuditMore. -/
-- cuts
namespace Go.Aff.L10
open Go.Proofs Go.Aff Go.Aff.L01 Classical
set_option linter.unusedVariables false
set_option linter.unusedSimpArgs false
set_option maxRecDepth 20000
attribute [local go_sem] push_app app_app length_app cellAt_app cellAt_app0 set_app set_app0 objs_app objs_app0 List.cons_append List.nil_append List.length_cons List.length_nil List.getElem?_cons_zero List.getElem?_cons_succ List.set_cons_zero List.set_cons_succ List.length_map
attribute [-go_sem] cellAt_new
attribute [-simp] List.length_flatMap
attribute [local go_sem] Try.underlying3 Try.underlying4 Try.underlying5 Try.underlying9 Try.underlying42 Try.underlying43 Try.underlying46 Try.underlying51 Try.underlying39 Try.underlying37 subPs_0 subAt_0 subSet_0 subPs_1 subAt_1 subSet_1 subPs_2 subAt_2 subSet_2 subPs_3 subAt_3 subSet_3 subPs_4 subAt_4 subSet_4 subPs_5 subAt_5 subSet_5 sizes_sub shapes_sub fits_sub zero_sub zt_sub built_sub Try.underlying45 pendPs_0 pendAt_0 pendSet_0 pendPs_1 pendAt_1 pendSet_1 pendPs_2 pendAt_2 pendSet_2 pendPs_3 pendAt_3 pendSet_3 pendPs_4 pendAt_4 pendSet_4 pendPs_5 pendAt_5 pendSet_5 sizes_pend shapes_pend fits_pend zero_pend zt_pend built_pend Try.underlying96 repPs_0 repAt_0 repSet_0 repPs_1 repAt_1 repSet_1 repPs_2 repAt_2 repSet_2 repPs_3 repAt_3 repSet_3 repPs_4 repAt_4 repSet_4 repPs_5 repAt_5 repSet_5 repPs_6 repAt_6 repSet_6 repPs_7 repAt_7 repSet_7 repPs_8 repAt_8 repSet_8 repPs_9 repAt_9 repSet_9 sizes_rep shapes_rep fits_rep zero_rep zt_rep built_rep Try.underlying48 blobPs_0 blobAt_0 blobSet_0 blobPs_1 blobAt_1 blobSet_1 blobPs_2 blobAt_2 blobSet_2 blobPs_3 blobAt_3 blobSet_3 sizes_blob shapes_blob fits_blob zero_blob zt_blob built_blob Try.underlying50 msgPs_0 msgAt_0 msgSet_0 msgPs_1 msgAt_1 msgSet_1 msgPs_2 msgAt_2 msgSet_2 msgPs_3 msgAt_3 msgSet_3 msgPs_4 msgAt_4 msgSet_4 msgPs_5 msgAt_5 msgSet_5 msgPs_6 msgAt_6 msgSet_6 msgPs_7 msgAt_7 msgSet_7 msgPs_8 msgAt_8 msgSet_8 msgPs_9 msgAt_9 msgSet_9 sizes_msg shapes_msg fits_msg zero_msg zt_msg built_msg Try.underlying53 at_Ps_0 at_Set_0 at_Ps_1 at_Set_1 sizes_at_ shapes_at_
attribute [local go_sem] fits3 fits4 fits5 fits9 fits23 fits26 fits31 fits34 fits52 zt3 zero3 zt34 zero34 zt23 zero23 bin_sub_eql bin_pend_eql bin_pend_neq bin_blob_eql bin_dig23_eql bin_dig23_neq slice23
attribute [local go_sem ↓] blockQ_exit2
attribute [local simp] dig_ext
attribute [local go_sem] postPs_0 postAt_0 postSet_0 postPs_1 postAt_1 postSet_1 postPs_2 postAt_2 postSet_2 sizes_post shapes_post fits_post zero_post zt_post built_post Try.underlying34 keyPs_0 keyAt_0 keySet_0 keyPs_1 keyAt_1 keySet_1 keyPs_2 keyAt_2 keySet_2 sizes_key shapes_key fits_key zero_key zt_key built_key Try.underlying74 conPs_0 conAt_0 conSet_0 conPs_1 conAt_1 conSet_1 sizes_con shapes_con fits_con zero_con zt_con built_con Try.underlying76 Try.underlying22 Try.underlying24 Try.underlying25 Try.underlying27 Try.underlying30 Try.underlying51 Try.underlying99 Try.underlying101 Try.underlying102 Try.underlying104
attribute [local go_sem] rptPs_0 rptAt_0 rptSet_0 rptPs_1 rptAt_1 rptSet_1 rptPs_2 rptAt_2 rptSet_2 rptPs_3 rptAt_3 rptSet_3 rptPs_4 rptAt_4 rptSet_4 sizes_rpt shapes_rpt fits_rpt zero_rpt zt_rpt built_rpt fits24 fits25 sizes_arrI shapes_arrI arrI_len mm_max
theorem fits_c {ps : List Post} {ta : Tk} {σ : AST} {K : AV → AST → Prop} (hl : ps.length ≤ 1000) (hK : ∀ s, Ext σ s → K (.bool (decide (allFit (vwsV ps)))) s) : TCalls Try.prog 11 [.slice ta (ps.map postV)] σ K := by
  refine fits32_c hl fun s a b hx hF => ?_
  rw [vws_views] at hF
  have e : decide (a < 0) = decide (allFit (vwsV ps)) := by
    have := fork_fits hF
    by_cases h : a < 0
    · simp [h, this.1 h]
    · simp [h]; intro h2; exact absurd (this.2 h2) h
  rw [e]; exact hK s hx
theorem auditMore_c {ps qs : List Post} {ta tb : Tk} {σ : AST} {K : AV → AST → Prop} (hK : K (.bool true) σ) : TCalls Try.prog 5 [.slice ta (ps.map postV), .slice tb (qs.map postV)] σ K := by
  refine TCalls.drop ?_
  refine tcalls_walk Try.f5 _ [.tmp 4] Try.func5 rfl rfl rfl mixed (Nat.le_of_ble_eq_true rfl) rfl fun hlen => ?_
  repeat' (first | (simp -dsimp only [↓reduceIte, go_sem]) | (refine arr_intro fun _ => ?_) | (refine later_intro ⟨keeps_nil, ?_⟩) | (refine later_intro ⟨keeps_refl, ?_⟩) | (with_reducible refine keeps_go ?_ ?_; focus (first | (simp [keeps_cons, keeps_none, objs_app, objs_app0]; done) | (simp only [keeps_cons, keeps_none, objs_app0, objs_app, and_true]; first | rfl | exact ⟨rfl, rfl⟩ | exact ⟨rfl, rfl, rfl⟩))) | (with_reducible refine (And.intro (a := keeps _ _ _) ?_ ?_); focus (first | (simp [keeps_cons, keeps_none, objs_app, objs_app0]; done) | (simp only [keeps_cons, keeps_none, objs_app0, objs_app, and_true]; first | rfl | exact ⟨rfl, rfl⟩ | exact ⟨rfl, rfl, rfl⟩))) | (refine both_ways ?_ ?_) | (rw [wrap_i64 (by omega) (by omega)]) | (refine guardV_split (fun h => ?_) (fun h => ?_) <;> (try rw [h]) <;> (try simp at h) <;> (try (exfalso; omega))))
  refine few_c fun s1 tk hx hn hc => ?_
  repeat' (first | (simp -dsimp only [↓reduceIte, go_sem]) | (refine arr_intro fun _ => ?_) | (refine later_intro ⟨keeps_nil, ?_⟩) | (refine later_intro ⟨keeps_refl, ?_⟩) | (with_reducible refine keeps_go ?_ ?_; focus (first | (simp [keeps_cons, keeps_none, objs_app, objs_app0]; done) | (simp only [keeps_cons, keeps_none, objs_app0, objs_app, and_true]; first | rfl | exact ⟨rfl, rfl⟩ | exact ⟨rfl, rfl, rfl⟩))) | (with_reducible refine (And.intro (a := keeps _ _ _) ?_ ?_); focus (first | (simp [keeps_cons, keeps_none, objs_app, objs_app0]; done) | (simp only [keeps_cons, keeps_none, objs_app0, objs_app, and_true]; first | rfl | exact ⟨rfl, rfl⟩ | exact ⟨rfl, rfl, rfl⟩))) | (refine both_ways ?_ ?_) | (rw [wrap_i64 (by omega) (by omega)]) | (refine guardV_split (fun h => ?_) (fun h => ?_) <;> (try rw [h]) <;> (try simp at h) <;> (try (exfalso; omega))))
  refine few_c fun s2 tk2 hx2 hn2 hc2 => ?_
  have hl := fewL_len (l := ps)
  have hl2 := fewL_len (l := qs)
  generalize fewL ps = l at *
  generalize fewL qs = m at *
  repeat' (first | (simp -dsimp only [↓reduceIte, go_sem]) | (refine arr_intro fun _ => ?_) | (refine later_intro ⟨keeps_nil, ?_⟩) | (refine later_intro ⟨keeps_refl, ?_⟩) | (with_reducible refine keeps_go ?_ ?_; focus (first | (simp [keeps_cons, keeps_none, objs_app, objs_app0]; done) | (simp only [keeps_cons, keeps_none, objs_app0, objs_app, and_true]; first | rfl | exact ⟨rfl, rfl⟩ | exact ⟨rfl, rfl, rfl⟩))) | (with_reducible refine (And.intro (a := keeps _ _ _) ?_ ?_); focus (first | (simp [keeps_cons, keeps_none, objs_app, objs_app0]; done) | (simp only [keeps_cons, keeps_none, objs_app0, objs_app, and_true]; first | rfl | exact ⟨rfl, rfl⟩ | exact ⟨rfl, rfl, rfl⟩))) | (refine both_ways ?_ ?_) | (rw [wrap_i64 (by omega) (by omega)]) | (refine guardV_split (fun h => ?_) (fun h => ?_) <;> (try rw [h]) <;> (try simp at h) <;> (try (exfalso; omega))) | (refine build_slice E22 rfl (by decide) (by intro v hv; simp at hv) ?_) | (refine append_pnone (by omega) ?_) | (refine append_posts canGrow (by omega) ?_))
  refine read_c (by omega) fun F1 T1 hr1 => ?_
  repeat' (first | (simp -dsimp only [↓reduceIte, go_sem]) | (refine arr_intro fun _ => ?_) | (refine later_intro ⟨keeps_nil, ?_⟩) | (refine later_intro ⟨keeps_refl, ?_⟩) | (with_reducible refine keeps_go ?_ ?_; focus (first | (simp [keeps_cons, keeps_none, objs_app, objs_app0]; done) | (simp only [keeps_cons, keeps_none, objs_app0, objs_app, and_true]; first | rfl | exact ⟨rfl, rfl⟩ | exact ⟨rfl, rfl, rfl⟩))) | (with_reducible refine (And.intro (a := keeps _ _ _) ?_ ?_); focus (first | (simp [keeps_cons, keeps_none, objs_app, objs_app0]; done) | (simp only [keeps_cons, keeps_none, objs_app0, objs_app, and_true]; first | rfl | exact ⟨rfl, rfl⟩ | exact ⟨rfl, rfl, rfl⟩))) | (refine both_ways ?_ ?_) | (rw [wrap_i64 (by omega) (by omega)]) | (refine guardV_split (fun h => ?_) (fun h => ?_) <;> (try rw [h]) <;> (try simp at h) <;> (try (exfalso; omega))))
  refine read_c (by omega) fun F2 T2 hr2 => ?_
  repeat' (first | (simp -dsimp only [↓reduceIte, go_sem]) | (refine arr_intro fun _ => ?_) | (refine later_intro ⟨keeps_nil, ?_⟩) | (refine later_intro ⟨keeps_refl, ?_⟩) | (with_reducible refine keeps_go ?_ ?_; focus (first | (simp [keeps_cons, keeps_none, objs_app, objs_app0]; done) | (simp only [keeps_cons, keeps_none, objs_app0, objs_app, and_true]; first | rfl | exact ⟨rfl, rfl⟩ | exact ⟨rfl, rfl, rfl⟩))) | (with_reducible refine (And.intro (a := keeps _ _ _) ?_ ?_); focus (first | (simp [keeps_cons, keeps_none, objs_app, objs_app0]; done) | (simp only [keeps_cons, keeps_none, objs_app0, objs_app, and_true]; first | rfl | exact ⟨rfl, rfl⟩ | exact ⟨rfl, rfl, rfl⟩))) | (refine both_ways ?_ ?_) | (rw [wrap_i64 (by omega) (by omega)]) | (refine guardV_split (fun h => ?_) (fun h => ?_) <;> (try rw [h]) <;> (try simp at h) <;> (try (exfalso; omega))))
  refine read_c (by simp; omega) fun F3 T3 hr3 => ?_
  rw [growFull, growT_growS]
  have hx3 := (hx.trans hx2).trans (Ext.growFull s2 (l.length + m.length) 3)
  generalize growS s2 Tk.full (l.length + m.length) 3 = s3 at *
  have k1 : ∀ j, (rptOf (l ++ m) F3 T3).kinds j = (rptOf l F1 T1).kinds j + (rptOf m F2 T2).kinds j := fun j => kindsN_app
  have k2 : ∀ j, (rptOf (l ++ m) F3 T3).last j = max ((rptOf l F1 T1).last j) ((rptOf m F2 T2).last j) := fun j => lastN_app
  have k3 : (rptOf l F1 T1).twice ≤ (rptOf (l ++ m) F3 T3).twice := by
    have := twiceN_mono (l := l) (m := l ++ m) fun p hp => List.mem_append_left _ hp
    show ((twiceN l : Nat) : Int) ≤ (twiceN (l ++ m) : Nat); omega
  have k4 : (rptOf m F2 T2).twice ≤ (rptOf (l ++ m) F3 T3).twice := by
    have := twiceN_mono (l := m) (m := l ++ m) fun p hp => List.mem_append_right _ hp
    show ((twiceN m : Nat) : Int) ≤ (twiceN (l ++ m) : Nat); omega
  have k5 : 0 ≤ (rptOf l F1 T1).first → (rptOf (l ++ m) F3 T3).first = (rptOf l F1 T1).first ∧ (rptOf (l ++ m) F3 T3).then_ = (rptOf l F1 T1).then_ := fun h => hr1.more h hr3
  have kb : ∀ j, 0 ≤ (rptOf l F1 T1).kinds j ∧ (rptOf l F1 T1).kinds j ≤ 25 := fun j => by
    have := kinds_b (ps := l) (q := j); show 0 ≤ kindsN l j ∧ kindsN l j ≤ 25; omega
  have kb2 : ∀ j, 0 ≤ (rptOf m F2 T2).kinds j ∧ (rptOf m F2 T2).kinds j ≤ 25 := fun j => by
    have := kinds_b (ps := m) (q := j); show 0 ≤ kindsN m j ∧ kindsN m j ≤ 25; omega
  clear hr1 hr2 hr3
  generalize rptOf (l ++ m) F3 T3 = z at *
  generalize rptOf l F1 T1 = x at *
  generalize rptOf m F2 T2 = y at *
  repeat' (first | (simp -dsimp only [↓reduceIte, go_sem]) | (refine arr_intro fun _ => ?_) | (refine later_intro ⟨keeps_nil, ?_⟩) | (refine later_intro ⟨keeps_refl, ?_⟩) | (with_reducible refine keeps_go ?_ ?_; focus (first | (simp [keeps_cons, keeps_none, objs_app, objs_app0]; done) | (simp only [keeps_cons, keeps_none, objs_app0, objs_app, and_true]; first | rfl | exact ⟨rfl, rfl⟩ | exact ⟨rfl, rfl, rfl⟩))) | (with_reducible refine (And.intro (a := keeps _ _ _) ?_ ?_); focus (first | (simp [keeps_cons, keeps_none, objs_app, objs_app0]; done) | (simp only [keeps_cons, keeps_none, objs_app0, objs_app, and_true]; first | rfl | exact ⟨rfl, rfl⟩ | exact ⟨rfl, rfl, rfl⟩))) | (refine both_ways ?_ ?_) | (rw [wrap_i64 (by omega) (by omega)]) | (refine guardV_split (fun h => ?_) (fun h => ?_) <;> (try rw [h]) <;> (try simp at h) <;> (try (exfalso; omega))))
  have hx4 := hx3.trans (Ext.app s3 [.cells (rptV x), .cells (rptV y), .cells (rptV z)])
  have cx : ∀ p, cellAt (s3.app [.cells (rptV x), .cells (rptV y), .cells (rptV z)]) s3.objs.length p = (AV.agg (rptPs x)).at p := fun p => by rw [cellAt_app0]; rfl
  have cy : ∀ p, cellAt (s3.app [.cells (rptV x), .cells (rptV y), .cells (rptV z)]) (s3.objs.length + 1) p = (AV.agg (rptPs y)).at p := fun p => by rw [cellAt_app]; rfl
  have cz : ∀ p, cellAt (s3.app [.cells (rptV x), .cells (rptV y), .cells (rptV z)]) (s3.objs.length + 2) p = (AV.agg (rptPs z)).at p := fun p => by rw [cellAt_app]; rfl
  generalize hS : s3.app [.cells (rptV x), .cells (rptV y), .cells (rptV z)] = S at *
  generalize ht : growT s2 Tk.full = tt at *
  clear hS
  refine awp_rounds (fun (i : Nat) τ s => s = S ∧ i ≤ 12 ∧ τ 0 = .slice tk (l.map postV) ∧ τ 1 = .slice tk2 (m.map postV) ∧ τ 5 = .slice tt ((l ++ m).map postV) ∧ τ 6 = .ptr (some (s3.objs.length, [])) ∧ τ 7 = .ptr (some (s3.objs.length + 1, [])) ∧ τ 8 = .ptr (some (s3.objs.length + 2, [])) ∧ τ 9 = .int .i64 i) (fun i => 12 - i) 0 ?_ ?_
  · refine ⟨?_, by omega, ?_, ?_, ?_, ?_, ?_, ?_, ?_⟩ <;> (try simp only [go_sem]) <;> (try rfl)
  · rintro i τ s ⟨rfl, hi, t0, t1, t5, t6, t7, t8, t9⟩
    by_cases hlt : i < 12
    · have hlt1 : (i : Int) < 12 := by omega
      have rx := rat0 (x := x) hlt
      have ry := rat0 (x := y) hlt
      have rz := rat0 (x := z) hlt
      have hb1 := kb i
      have hb2 := kb2 i
      have hz := k1 i
      have hw : IntKind.i64.wrap (x.kinds i + y.kinds i) = x.kinds i + y.kinds i := wrap_i64 (by omega) (by omega)
      have hne : (z.kinds i != x.kinds i + y.kinds i) = false := by simp [hz]
      repeat' (first | (simp -dsimp only [↓reduceIte, go_sem, t0, t1, t5, t6, t7, t8, t9, hlt1, cx, cy, cz, rx, ry, rz, hw, hne]) | (refine arr_intro fun _ => ?_) | (refine later_intro ⟨keeps_nil, ?_⟩) | (refine later_intro ⟨keeps_refl, ?_⟩) | (with_reducible refine keeps_go ?_ ?_; focus (first | (simp [keeps_cons, keeps_none, objs_app, objs_app0]; done) | (simp only [keeps_cons, keeps_none, objs_app0, objs_app, and_true]; first | rfl | exact ⟨rfl, rfl⟩ | exact ⟨rfl, rfl, rfl⟩))) | (with_reducible refine (And.intro (a := keeps _ _ _) ?_ ?_); focus (first | (simp [keeps_cons, keeps_none, objs_app, objs_app0]; done) | (simp only [keeps_cons, keeps_none, objs_app0, objs_app, and_true]; first | rfl | exact ⟨rfl, rfl⟩ | exact ⟨rfl, rfl, rfl⟩))) | (refine both_ways ?_ ?_) | (rw [wrap_i64 (by omega) (by omega)]) | (refine guardV_split (fun h => ?_) (fun h => ?_) <;> (try rw [h]) <;> (try simp at h) <;> (try (exfalso; omega))) | (with_reducible refine awp_drawS (id := 7) [0, 1, 2, 3, 4, 5, 6, 7, 8, 9, 10, 11, 12, 13] (by kernel_rfl) ?_) | (refine idx0 cx hlt ?_) | (refine idx0 cy hlt ?_) | (refine idx0 cz hlt ?_))
      refine later_intro ⟨i + 1, by omega, rfl, by omega, ?_, ?_, ?_, ?_, ?_, ?_, ?_⟩ <;> (try simp only [go_sem, t0, t1, t5, t6, t7, t8, t9]) <;> (try rfl)
    · obtain rfl : i = 12 := by omega
      have hlt1 : ¬ (((12 : Nat) : Int) < 12) := by omega
      repeat' (first | (simp -dsimp only [↓reduceIte, go_sem, t0, t1, t5, t6, t7, t8, t9, hlt1]) | (refine arr_intro fun _ => ?_) | (refine later_intro ⟨keeps_nil, ?_⟩) | (refine later_intro ⟨keeps_refl, ?_⟩) | (with_reducible refine keeps_go ?_ ?_; focus (first | (simp [keeps_cons, keeps_none, objs_app, objs_app0]; done) | (simp only [keeps_cons, keeps_none, objs_app0, objs_app, and_true]; first | rfl | exact ⟨rfl, rfl⟩ | exact ⟨rfl, rfl, rfl⟩))) | (with_reducible refine (And.intro (a := keeps _ _ _) ?_ ?_); focus (first | (simp [keeps_cons, keeps_none, objs_app, objs_app0]; done) | (simp only [keeps_cons, keeps_none, objs_app0, objs_app, and_true]; first | rfl | exact ⟨rfl, rfl⟩ | exact ⟨rfl, rfl, rfl⟩))) | (refine both_ways ?_ ?_) | (rw [wrap_i64 (by omega) (by omega)]) | (refine guardV_split (fun h => ?_) (fun h => ?_) <;> (try rw [h]) <;> (try simp at h) <;> (try (exfalso; omega))))
      refine awp_rounds (fun (i : Nat) τ s' => s' = s ∧ i ≤ 8 ∧ τ 0 = .slice tk (l.map postV) ∧ τ 1 = .slice tk2 (m.map postV) ∧ τ 5 = .slice tt ((l ++ m).map postV) ∧ τ 6 = .ptr (some (s3.objs.length, [])) ∧ τ 7 = .ptr (some (s3.objs.length + 1, [])) ∧ τ 8 = .ptr (some (s3.objs.length + 2, [])) ∧ τ 10 = .int .i64 i) (fun i => 8 - i) 0 ?_ ?_
      · refine ⟨?_, by omega, ?_, ?_, ?_, ?_, ?_, ?_, ?_⟩ <;> (try simp only [go_sem, t0, t1, t5, t6, t7, t8, t9]) <;> (try rfl)
      · clear t0 t1 t5 t6 t7 t8 t9 hi
        rintro i τ s' ⟨rfl, hi, t0, t1, t5, t6, t7, t8, t9⟩
        by_cases hlt : i < 8
        · have hlt1 : (i : Int) < 8 := by omega
          have rx := rat4 (x := x) hlt
          have ry := rat4 (x := y) hlt
          have rz := rat4 (x := z) hlt
          have hne : (z.last i != max (x.last i) (y.last i)) = false := by simp [k2 i]
          repeat' (first | (simp -dsimp only [↓reduceIte, go_sem, t0, t1, t5, t6, t7, t8, t9, hlt1, cx, cy, cz, rx, ry, rz, hne]) | (refine arr_intro fun _ => ?_) | (refine later_intro ⟨keeps_nil, ?_⟩) | (refine later_intro ⟨keeps_refl, ?_⟩) | (with_reducible refine keeps_go ?_ ?_; focus (first | (simp [keeps_cons, keeps_none, objs_app, objs_app0]; done) | (simp only [keeps_cons, keeps_none, objs_app0, objs_app, and_true]; first | rfl | exact ⟨rfl, rfl⟩ | exact ⟨rfl, rfl, rfl⟩))) | (with_reducible refine (And.intro (a := keeps _ _ _) ?_ ?_); focus (first | (simp [keeps_cons, keeps_none, objs_app, objs_app0]; done) | (simp only [keeps_cons, keeps_none, objs_app0, objs_app, and_true]; first | rfl | exact ⟨rfl, rfl⟩ | exact ⟨rfl, rfl, rfl⟩))) | (refine both_ways ?_ ?_) | (rw [wrap_i64 (by omega) (by omega)]) | (refine guardV_split (fun h => ?_) (fun h => ?_) <;> (try rw [h]) <;> (try simp at h) <;> (try (exfalso; omega))) | (with_reducible refine awp_drawS (id := 12) [0, 1, 2, 3, 4, 5, 6, 7, 8, 9, 10, 11, 12, 13] (by kernel_rfl) ?_) | (refine idx4 cx hlt ?_) | (refine idx4 cy hlt ?_) | (refine idx4 cz hlt ?_))
          refine later_intro ⟨i + 1, by omega, rfl, by omega, ?_, ?_, ?_, ?_, ?_, ?_, ?_⟩ <;> (try simp only [go_sem, t0, t1, t5, t6, t7, t8, t9]) <;> (try rfl)
        · obtain rfl : i = 8 := by omega
          have hlt1 : ¬ (((8 : Nat) : Int) < 8) := by omega
          have hfin : ∀ s, Ext s' s → Ext σ s ∧ (AV.bool true).noRef = true ∧ K (AV.bool true).strip σ := fun s h => ⟨hx4.trans h, rfl, by simpa [AV.strip] using hK⟩
          have g3 : decide (z.twice ≥ x.twice) = true := by simp; omega
          have g4 : decide (z.twice ≥ y.twice) = true := by simp; omega
          have f1 : allFit (vwsV (l ++ m)) → allFit (vwsV l) ∧ allFit (vwsV m) := fun h => ⟨allFit_mono (vwsV_mem fun p hp => List.mem_append_left _ hp) h, allFit_mono (vwsV_mem fun p hp => List.mem_append_right _ hp) h⟩
          have hla : (l ++ m).length ≤ 1000 := by simp; omega
          have hg0 : (decide (x.first ≥ 0) = true ∧ (z.first != x.first) = false ∧ (z.then_ != x.then_) = false) ∨ (decide (x.first ≥ 0) = false ∧ ((0 : Nat) != 0) = false ∧ ((0 : Nat) != 0) = false) := by
            by_cases hge : 0 ≤ x.first
            · obtain ⟨e1, e2⟩ := k5 hge
              exact .inl ⟨by simp; omega, by simp [e1], by simp [e2]⟩
            · exact .inr ⟨by simp; omega, rfl, rfl⟩
          rcases hg0 with ⟨g1, g2, g2'⟩ | ⟨g1, g2, g2'⟩
          all_goals
            by_cases h1 : allFit (vwsV l)
            · by_cases h2 : allFit (vwsV m)
              · repeat' (first | (simp -dsimp only [↓reduceIte, go_sem, t0, t1, t5, t6, t7, t8, t9, hlt1, cx, cy, cz, g1, g2, g2', g3, g4, h1, h2, decide_true, decide_false]) | (refine arr_intro fun _ => ?_) | (refine later_intro ⟨keeps_nil, ?_⟩) | (refine later_intro ⟨keeps_refl, ?_⟩) | (with_reducible refine keeps_go ?_ ?_; focus (first | (simp [keeps_cons, keeps_none, objs_app, objs_app0]; done) | (simp only [keeps_cons, keeps_none, objs_app0, objs_app, and_true]; first | rfl | exact ⟨rfl, rfl⟩ | exact ⟨rfl, rfl, rfl⟩))) | (with_reducible refine (And.intro (a := keeps _ _ _) ?_ ?_); focus (first | (simp [keeps_cons, keeps_none, objs_app, objs_app0]; done) | (simp only [keeps_cons, keeps_none, objs_app0, objs_app, and_true]; first | rfl | exact ⟨rfl, rfl⟩ | exact ⟨rfl, rfl, rfl⟩))) | (refine both_ways ?_ ?_) | (rw [wrap_i64 (by omega) (by omega)]) | (refine guardV_split (fun h => ?_) (fun h => ?_) <;> (try rw [h]) <;> (try simp at h) <;> (try (exfalso; omega))) | ((refine awake_c ?_)) | ((refine fits_c (by first | assumption | omega) fun s9 hx9 => ?_)))
                exact hfin _ (by first | exact hx9 | exact Ext.trans (by assumption) hx9 | exact Ext.trans (Ext.trans (by assumption) (by assumption)) hx9)
              · have ha : ¬ allFit (vwsV (l ++ m)) := fun h => h2 (f1 h).2
                repeat' (first | (simp -dsimp only [↓reduceIte, go_sem, t0, t1, t5, t6, t7, t8, t9, hlt1, cx, cy, cz, g1, g2, g2', g3, g4, h1, h2, ha, decide_true, decide_false]) | (refine arr_intro fun _ => ?_) | (refine later_intro ⟨keeps_nil, ?_⟩) | (refine later_intro ⟨keeps_refl, ?_⟩) | (with_reducible refine keeps_go ?_ ?_; focus (first | (simp [keeps_cons, keeps_none, objs_app, objs_app0]; done) | (simp only [keeps_cons, keeps_none, objs_app0, objs_app, and_true]; first | rfl | exact ⟨rfl, rfl⟩ | exact ⟨rfl, rfl, rfl⟩))) | (with_reducible refine (And.intro (a := keeps _ _ _) ?_ ?_); focus (first | (simp [keeps_cons, keeps_none, objs_app, objs_app0]; done) | (simp only [keeps_cons, keeps_none, objs_app0, objs_app, and_true]; first | rfl | exact ⟨rfl, rfl⟩ | exact ⟨rfl, rfl, rfl⟩))) | (refine both_ways ?_ ?_) | (rw [wrap_i64 (by omega) (by omega)]) | (refine guardV_split (fun h => ?_) (fun h => ?_) <;> (try rw [h]) <;> (try simp at h) <;> (try (exfalso; omega))) | ((refine awake_c ?_)) | ((refine fits_c (by first | assumption | omega) fun s9 hx9 => ?_)))
                exact hfin _ (by first | exact hx9 | exact Ext.trans (by assumption) hx9 | exact Ext.trans (Ext.trans (by assumption) (by assumption)) hx9)
            · have ha : ¬ allFit (vwsV (l ++ m)) := fun h => h1 (f1 h).1
              repeat' (first | (simp -dsimp only [↓reduceIte, go_sem, t0, t1, t5, t6, t7, t8, t9, hlt1, cx, cy, cz, g1, g2, g2', g3, g4, h1, ha, decide_true, decide_false]) | (refine arr_intro fun _ => ?_) | (refine later_intro ⟨keeps_nil, ?_⟩) | (refine later_intro ⟨keeps_refl, ?_⟩) | (with_reducible refine keeps_go ?_ ?_; focus (first | (simp [keeps_cons, keeps_none, objs_app, objs_app0]; done) | (simp only [keeps_cons, keeps_none, objs_app0, objs_app, and_true]; first | rfl | exact ⟨rfl, rfl⟩ | exact ⟨rfl, rfl, rfl⟩))) | (with_reducible refine (And.intro (a := keeps _ _ _) ?_ ?_); focus (first | (simp [keeps_cons, keeps_none, objs_app, objs_app0]; done) | (simp only [keeps_cons, keeps_none, objs_app0, objs_app, and_true]; first | rfl | exact ⟨rfl, rfl⟩ | exact ⟨rfl, rfl, rfl⟩))) | (refine both_ways ?_ ?_) | (rw [wrap_i64 (by omega) (by omega)]) | (refine guardV_split (fun h => ?_) (fun h => ?_) <;> (try rw [h]) <;> (try simp at h) <;> (try (exfalso; omega))) | ((refine awake_c ?_)) | ((refine fits_c (by first | assumption | omega) fun s9 hx9 => ?_)))
              exact hfin _ (by first | exact hx9 | exact Ext.trans (by assumption) hx9 | exact Ext.trans (Ext.trans (by assumption) (by assumption)) hx9)
end Go.Aff.L10

/- Layer 32: what an argument's shape says of posts. -/
namespace Go.Aff.L10
open Go.Proofs Go.Aff Go.Aff.L01 Classical
set_option linter.unusedVariables false
set_option maxRecDepth 20000
theorem sh_post {n : Nat} {v : AV} (h : ShT Try.prog (n + 6) 34 v) : ∃ y : Post, v = postV y ∧ True := by
  obtain ⟨ps, rfl, hps⟩ := sh_struct (n := n + 5) Try.underlying34 h
  obtain ⟨p0, r, rfl, h0, hps⟩ := shTs_cons (n := n + 4) hps
  obtain ⟨p1, r, rfl, h1, hps⟩ := shTs_cons (n := n + 3) hps
  obtain ⟨p2, r, rfl, h2, hps⟩ := shTs_cons (n := n + 2) hps
  obtain rfl := shTs_nil hps
  obtain ⟨a, rfl, _, _⟩ := sh_int (t := 3) Try.underlying3 h0
  obtain ⟨b, rfl, _, _⟩ := sh_int (t := 3) Try.underlying3 h1
  obtain ⟨c, rfl⟩ := sh_str (t := 9) Try.underlying9 h2
  exact ⟨⟨a, b, c⟩, rfl, trivial⟩
theorem sh_posts {n : Nat} {v : AV} (h : ShT Try.prog (n + 7) 22 v) : ∃ (tk : Tk) (l : List Post), v = .slice tk (l.map postV) := by
  obtain ⟨tk, xs, rfl, e⟩ := sh_slice (n := n + 6) (t := 22) Try.underlying22 h
  obtain ⟨l, rfl, _⟩ := map_of (f := postV) (p := fun _ => True) (fun x hx => sh_post (n := n) (e x hx))
  exact ⟨tk, l, rfl⟩
end Go.Aff.L10

/- Layer 32: AuditOrder. -/
-- cuts
namespace Go.Aff.L10
open Go.Proofs Go.Aff Go.Aff.L01 Classical
set_option linter.unusedVariables false
set_option linter.unusedSimpArgs false
set_option maxRecDepth 20000
attribute [local go_sem] push_app app_app length_app cellAt_app cellAt_app0 set_app set_app0 objs_app objs_app0 List.cons_append List.nil_append List.length_cons List.length_nil List.getElem?_cons_zero List.getElem?_cons_succ List.set_cons_zero List.set_cons_succ List.length_map
attribute [-go_sem] cellAt_new
attribute [-simp] List.length_flatMap
attribute [local go_sem] Try.underlying3 Try.underlying4 Try.underlying5 Try.underlying9 Try.underlying42 Try.underlying43 Try.underlying46 Try.underlying51 Try.underlying39 Try.underlying37 subPs_0 subAt_0 subSet_0 subPs_1 subAt_1 subSet_1 subPs_2 subAt_2 subSet_2 subPs_3 subAt_3 subSet_3 subPs_4 subAt_4 subSet_4 subPs_5 subAt_5 subSet_5 sizes_sub shapes_sub fits_sub zero_sub zt_sub built_sub Try.underlying45 pendPs_0 pendAt_0 pendSet_0 pendPs_1 pendAt_1 pendSet_1 pendPs_2 pendAt_2 pendSet_2 pendPs_3 pendAt_3 pendSet_3 pendPs_4 pendAt_4 pendSet_4 pendPs_5 pendAt_5 pendSet_5 sizes_pend shapes_pend fits_pend zero_pend zt_pend built_pend Try.underlying96 repPs_0 repAt_0 repSet_0 repPs_1 repAt_1 repSet_1 repPs_2 repAt_2 repSet_2 repPs_3 repAt_3 repSet_3 repPs_4 repAt_4 repSet_4 repPs_5 repAt_5 repSet_5 repPs_6 repAt_6 repSet_6 repPs_7 repAt_7 repSet_7 repPs_8 repAt_8 repSet_8 repPs_9 repAt_9 repSet_9 sizes_rep shapes_rep fits_rep zero_rep zt_rep built_rep Try.underlying48 blobPs_0 blobAt_0 blobSet_0 blobPs_1 blobAt_1 blobSet_1 blobPs_2 blobAt_2 blobSet_2 blobPs_3 blobAt_3 blobSet_3 sizes_blob shapes_blob fits_blob zero_blob zt_blob built_blob Try.underlying50 msgPs_0 msgAt_0 msgSet_0 msgPs_1 msgAt_1 msgSet_1 msgPs_2 msgAt_2 msgSet_2 msgPs_3 msgAt_3 msgSet_3 msgPs_4 msgAt_4 msgSet_4 msgPs_5 msgAt_5 msgSet_5 msgPs_6 msgAt_6 msgSet_6 msgPs_7 msgAt_7 msgSet_7 msgPs_8 msgAt_8 msgSet_8 msgPs_9 msgAt_9 msgSet_9 sizes_msg shapes_msg fits_msg zero_msg zt_msg built_msg Try.underlying53 at_Ps_0 at_Set_0 at_Ps_1 at_Set_1 sizes_at_ shapes_at_
attribute [local go_sem] fits3 fits4 fits5 fits9 fits23 fits26 fits31 fits34 fits52 zt3 zero3 zt34 zero34 zt23 zero23 bin_sub_eql bin_pend_eql bin_pend_neq bin_blob_eql bin_dig23_eql bin_dig23_neq slice23
attribute [local go_sem ↓] blockQ_exit2
attribute [local simp] dig_ext
attribute [local go_sem] postPs_0 postAt_0 postSet_0 postPs_1 postAt_1 postSet_1 postPs_2 postAt_2 postSet_2 sizes_post shapes_post fits_post zero_post zt_post built_post Try.underlying34 keyPs_0 keyAt_0 keySet_0 keyPs_1 keyAt_1 keySet_1 keyPs_2 keyAt_2 keySet_2 sizes_key shapes_key fits_key zero_key zt_key built_key Try.underlying74 conPs_0 conAt_0 conSet_0 conPs_1 conAt_1 conSet_1 sizes_con shapes_con fits_con zero_con zt_con built_con Try.underlying76 Try.underlying22 Try.underlying24 Try.underlying25 Try.underlying27 Try.underlying30 Try.underlying51 Try.underlying99 Try.underlying101 Try.underlying102 Try.underlying104
attribute [local go_sem] rptPs_0 rptAt_0 rptSet_0 rptPs_1 rptAt_1 rptSet_1 rptPs_2 rptAt_2 rptSet_2 rptPs_3 rptAt_3 rptSet_3 rptPs_4 rptAt_4 rptSet_4 sizes_rpt shapes_rpt fits_rpt zero_rpt zt_rpt built_rpt fits24 fits25 sizes_arrI shapes_arrI arrI_len mm_max
def rot {α : Type} (l : List α) (t : Nat) : List α := l.drop (t % l.length) ++ l.take (t % l.length)
theorem rot_len {α : Type} {l : List α} {t : Nat} : (rot l t).length = l.length := by
  unfold rot
  rw [List.length_append, List.length_drop, List.length_take]
  cases l with
  | nil => simp
  | cons a l => have := Nat.mod_lt t (show 0 < (a :: l).length by simp); omega
theorem rot_perm {α : Type} {l : List α} {t : Nat} : (rot l t).Perm l := by
  unfold rot
  refine List.perm_append_comm.trans ?_
  rw [List.take_append_drop]
theorem rot_get {α : Type} {l : List α} {t i : Nat} (h : i < l.length) : (rot l t)[i]? = l[(i + t) % l.length]? := by
  have hk := Nat.mod_lt t (show 0 < l.length by omega)
  have e : (i + t) % l.length = (i + t % l.length) % l.length := by simp
  rw [e]
  unfold rot
  generalize t % l.length = k at *
  rw [List.getElem?_append, List.length_drop]
  by_cases h1 : i < l.length - k
  · rw [if_pos h1, List.getElem?_drop, Nat.mod_eq_of_lt (by omega)]; congr 1; omega
  · rw [if_neg h1, List.getElem?_take, if_pos (by omega)]
    have : (i + k) % l.length = i + k - l.length := by
      rw [Nat.mod_eq_sub_mod (by omega), Nat.mod_eq_of_lt (by omega)]
    rw [this]; congr 1; omega
theorem auditOrder_c {ps : List Post} {ta : Tk} {m : Int} (hm0 : 0 ≤ m) (hm1 : m ≤ 255) {σ : AST} {K : AV → AST → Prop} (hK : K (.bool true) σ) : TCalls Try.prog 4 [.slice ta (ps.map postV), .int .u8 m] σ K := by
  refine TCalls.drop ?_
  obtain ⟨t, rfl⟩ : ∃ t : Nat, m = t := ⟨m.toNat, by omega⟩
  refine tcalls_walk Try.f4 _ [.tmp 4] Try.func4 rfl rfl rfl mixed (Nat.le_of_ble_eq_true rfl) rfl fun hlen => ?_
  repeat' (first | (simp -dsimp only [↓reduceIte, go_sem]) | (refine arr_intro fun _ => ?_) | (refine later_intro ⟨keeps_nil, ?_⟩) | (refine later_intro ⟨keeps_refl, ?_⟩) | (with_reducible refine keeps_go ?_ ?_; focus (first | (simp [keeps_cons, keeps_none, objs_app, objs_app0]; done) | (simp only [keeps_cons, keeps_none, objs_app0, objs_app, and_true]; first | rfl | exact ⟨rfl, rfl⟩ | exact ⟨rfl, rfl, rfl⟩))) | (with_reducible refine (And.intro (a := keeps _ _ _) ?_ ?_); focus (first | (simp [keeps_cons, keeps_none, objs_app, objs_app0]; done) | (simp only [keeps_cons, keeps_none, objs_app0, objs_app, and_true]; first | rfl | exact ⟨rfl, rfl⟩ | exact ⟨rfl, rfl, rfl⟩))) | (refine both_ways ?_ ?_) | (rw [wrap_i64 (by omega) (by omega)]) | (refine guardV_split (fun h => ?_) (fun h => ?_) <;> (try rw [h]) <;> (try simp at h) <;> (try (exfalso; omega))))
  refine few_c fun s1 tk hx hn hc => ?_
  have hl := fewL_len (l := ps)
  generalize fewL ps = l at *
  repeat' (first | (simp -dsimp only [↓reduceIte, go_sem]) | (refine arr_intro fun _ => ?_) | (refine later_intro ⟨keeps_nil, ?_⟩) | (refine later_intro ⟨keeps_refl, ?_⟩) | (with_reducible refine keeps_go ?_ ?_; focus (first | (simp [keeps_cons, keeps_none, objs_app, objs_app0]; done) | (simp only [keeps_cons, keeps_none, objs_app0, objs_app, and_true]; first | rfl | exact ⟨rfl, rfl⟩ | exact ⟨rfl, rfl, rfl⟩))) | (with_reducible refine (And.intro (a := keeps _ _ _) ?_ ?_); focus (first | (simp [keeps_cons, keeps_none, objs_app, objs_app0]; done) | (simp only [keeps_cons, keeps_none, objs_app0, objs_app, and_true]; first | rfl | exact ⟨rfl, rfl⟩ | exact ⟨rfl, rfl, rfl⟩))) | (refine both_ways ?_ ?_) | (rw [wrap_i64 (by omega) (by omega)]) | (refine guardV_split (fun h => ?_) (fun h => ?_) <;> (try rw [h]) <;> (try simp at h) <;> (try (exfalso; omega))))
  refine awp_rounds (fun (i : Nat) τ s => ∃ tm, i ≤ l.length ∧ Gr s1 s tm ((rot l t).take i).length 3 ∧ τ 0 = .slice tk (l.map postV) ∧ τ 1 = .int .u8 t ∧ τ 5 = .slice tm (((rot l t).take i).map postV) ∧ τ 6 = .int .i64 i) (fun i => l.length - i) 0 ?_ ?_
  · refine ⟨.full, by omega, Gr.start, ?_, ?_, ?_, ?_⟩ <;> (try simp only [go_sem]) <;> (try rfl)
  · rintro i τ s ⟨tm, hi, hg, t0, t1, t5, t6⟩
    by_cases hlt : i < l.length
    · have hlt1 : (i : Int) < l.length := by omega
      have hml := Nat.mod_lt (i + t) (show 0 < l.length by omega)
      have hgp : l[(i + t) % l.length]? = some l[(i + t) % l.length] := List.getElem?_eq_getElem hml
      generalize hp : l[(i + t) % l.length] = p at hgp
      have hrg := rot_get (t := t) hlt
      rw [hgp] at hrg
      have hnx : (rot l t).take (i + 1) = (rot l t).take i ++ [p] := by rw [List.take_add_one, hrg]; rfl
      have hrl : ((rot l t).take i).length = i := by rw [List.length_take, rot_len]; omega
      have w1 : IntKind.i64.wrap (t : Int) = t := wrap_i64 (by omega) (by omega)
      have w2 : IntKind.i64.wrap ((i : Int) + t) = ((i + t : Nat) : Int) := by rw [wrap_i64 (by omega) (by omega)]; simp
      have w3 : ((i + t : Nat) : Int).tmod (l.length : Int) = (((i + t) % l.length : Nat) : Int) := by rw [← Int.ofNat_tmod]
      have hne : ¬ (l.length : Int) = 0 := by omega
      repeat' (first | (simp -dsimp only [↓reduceIte, go_sem, t0, t1, t5, t6, hlt1, w1, w2, w3, hne]) | (refine arr_intro fun _ => ?_) | (refine later_intro ⟨keeps_nil, ?_⟩) | (refine later_intro ⟨keeps_refl, ?_⟩) | (with_reducible refine keeps_go ?_ ?_; focus (first | (simp [keeps_cons, keeps_none, objs_app, objs_app0]; done) | (simp only [keeps_cons, keeps_none, objs_app0, objs_app, and_true]; first | rfl | exact ⟨rfl, rfl⟩ | exact ⟨rfl, rfl, rfl⟩))) | (with_reducible refine (And.intro (a := keeps _ _ _) ?_ ?_); focus (first | (simp [keeps_cons, keeps_none, objs_app, objs_app0]; done) | (simp only [keeps_cons, keeps_none, objs_app0, objs_app, and_true]; first | rfl | exact ⟨rfl, rfl⟩ | exact ⟨rfl, rfl, rfl⟩))) | (refine both_ways ?_ ?_) | (rw [wrap_i64 (by omega) (by omega)]) | (refine guardV_split (fun h => ?_) (fun h => ?_) <;> (try rw [h]) <;> (try simp at h) <;> (try (exfalso; omega))) | (refine nth_get hgp ?_) | (refine build_slice E22 rfl (by decide) (by intro v hv; simp at hv; subst hv; simp [go_sem]) ?_) | (refine append_post hg.c (by omega) ?_))
      refine later_intro ⟨i + 1, by omega, growT s tm, by omega, ?_, ?_, ?_, ?_, ?_⟩ <;> (try simp only [go_sem, t0, t1, t5, t6, hnx]) <;> (try rfl)
      have := hg.grow (m := ((rot l t).take i).length + 1)
      simpa using this
    · obtain rfl : i = l.length := by omega
      have hlt1 : ¬ ((l.length : Nat) : Int) < l.length := by omega
      have hr : (rot l t).take l.length = rot l t := List.take_of_length_le (by rw [rot_len]; omega)
      have hrl := rot_len (l := l) (t := t)
      rw [hr] at hg t5
      have hp := rot_perm (l := l) (t := t)
      have hmem : ∀ p, p ∈ l ↔ p ∈ rot l t := fun p => hp.mem_iff.symm
      generalize rot l t = r at *
      repeat' (first | (simp -dsimp only [↓reduceIte, go_sem, t0, t1, t5, t6, hlt1]) | (refine arr_intro fun _ => ?_) | (refine later_intro ⟨keeps_nil, ?_⟩) | (refine later_intro ⟨keeps_refl, ?_⟩) | (with_reducible refine keeps_go ?_ ?_; focus (first | (simp [keeps_cons, keeps_none, objs_app, objs_app0]; done) | (simp only [keeps_cons, keeps_none, objs_app0, objs_app, and_true]; first | rfl | exact ⟨rfl, rfl⟩ | exact ⟨rfl, rfl, rfl⟩))) | (with_reducible refine (And.intro (a := keeps _ _ _) ?_ ?_); focus (first | (simp [keeps_cons, keeps_none, objs_app, objs_app0]; done) | (simp only [keeps_cons, keeps_none, objs_app0, objs_app, and_true]; first | rfl | exact ⟨rfl, rfl⟩ | exact ⟨rfl, rfl, rfl⟩))) | (refine both_ways ?_ ?_) | (rw [wrap_i64 (by omega) (by omega)]) | (refine guardV_split (fun h => ?_) (fun h => ?_) <;> (try rw [h]) <;> (try simp at h) <;> (try (exfalso; omega))))
      refine read_c (by omega) fun F1 T1 hr1 => ?_
      repeat' (first | (simp -dsimp only [↓reduceIte, go_sem, t0, t1, t5, t6]) | (refine arr_intro fun _ => ?_) | (refine later_intro ⟨keeps_nil, ?_⟩) | (refine later_intro ⟨keeps_refl, ?_⟩) | (with_reducible refine keeps_go ?_ ?_; focus (first | (simp [keeps_cons, keeps_none, objs_app, objs_app0]; done) | (simp only [keeps_cons, keeps_none, objs_app0, objs_app, and_true]; first | rfl | exact ⟨rfl, rfl⟩ | exact ⟨rfl, rfl, rfl⟩))) | (with_reducible refine (And.intro (a := keeps _ _ _) ?_ ?_); focus (first | (simp [keeps_cons, keeps_none, objs_app, objs_app0]; done) | (simp only [keeps_cons, keeps_none, objs_app0, objs_app, and_true]; first | rfl | exact ⟨rfl, rfl⟩ | exact ⟨rfl, rfl, rfl⟩))) | (refine both_ways ?_ ?_) | (rw [wrap_i64 (by omega) (by omega)]) | (refine guardV_split (fun h => ?_) (fun h => ?_) <;> (try rw [h]) <;> (try simp at h) <;> (try (exfalso; omega))))
      refine read_c (by omega) fun F2 T2 hr2 => ?_
      have k1 : ∀ j, (rptOf l F1 T1).kinds j = (rptOf r F2 T2).kinds j := fun j => (kindsN_perm hp).symm
      have k2 : ∀ j, (rptOf l F1 T1).last j = (rptOf r F2 T2).last j := fun j => lastN_same hmem
      have k3 : (rptOf r F2 T2).twice = (rptOf l F1 T1).twice := by show ((twiceN r : Nat) : Int) = (twiceN l : Nat); rw [twiceN_same hmem]
      have k4 : allFit (vwsV r) ↔ allFit (vwsV l) := ⟨allFit_mono (vwsV_mem fun p h => (hmem p).1 h), allFit_mono (vwsV_mem fun p h => (hmem p).2 h)⟩
      have k5 : allFit (vwsV r) = allFit (vwsV l) := propext k4
      generalize rptOf l F1 T1 = x at *
      generalize rptOf r F2 T2 = y at *
      have hx4 := (hx.trans hg.x).trans (Ext.app s [.cells (rptV x), .cells (rptV y)])
      have cx : ∀ p, cellAt (s.app [.cells (rptV x), .cells (rptV y)]) s.objs.length p = (AV.agg (rptPs x)).at p := fun p => by rw [cellAt_app0]; rfl
      have cy : ∀ p, cellAt (s.app [.cells (rptV x), .cells (rptV y)]) (s.objs.length + 1) p = (AV.agg (rptPs y)).at p := fun p => by rw [cellAt_app]; rfl
      repeat' (first | (simp -dsimp only [↓reduceIte, go_sem, t0, t1, t5, t6, k3, k5]) | (refine arr_intro fun _ => ?_) | (refine later_intro ⟨keeps_nil, ?_⟩) | (refine later_intro ⟨keeps_refl, ?_⟩) | (with_reducible refine keeps_go ?_ ?_; focus (first | (simp [keeps_cons, keeps_none, objs_app, objs_app0]; done) | (simp only [keeps_cons, keeps_none, objs_app0, objs_app, and_true]; first | rfl | exact ⟨rfl, rfl⟩ | exact ⟨rfl, rfl, rfl⟩))) | (with_reducible refine (And.intro (a := keeps _ _ _) ?_ ?_); focus (first | (simp [keeps_cons, keeps_none, objs_app, objs_app0]; done) | (simp only [keeps_cons, keeps_none, objs_app0, objs_app, and_true]; first | rfl | exact ⟨rfl, rfl⟩ | exact ⟨rfl, rfl, rfl⟩))) | (refine both_ways ?_ ?_) | (rw [wrap_i64 (by omega) (by omega)]) | (refine guardV_split (fun h => ?_) (fun h => ?_) <;> (try rw [h]) <;> (try simp at h) <;> (try (exfalso; omega))) | ((refine awake_c ?_)) | (refine bin_arr24 k1 ?_) | (refine bin_arr25 k2 ?_) | ((refine fits_c (by omega) fun s9 hx9 => ?_)))
      exact ⟨hx4.trans (Ext.trans (by assumption) hx9), rfl, by simpa [AV.strip] using hK⟩
end Go.Aff.L10

