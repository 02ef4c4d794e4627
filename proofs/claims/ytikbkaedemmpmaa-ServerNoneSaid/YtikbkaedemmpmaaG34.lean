import Derived.Test.YtikbkaedemmpmaaG33

set_option linter.unusedSimpArgs false
set_option linter.unusedVariables false

/- Layer 13, walked: what get does with one number; get. -/
-- cuts
namespace Go.Aff.L10
open Go.Proofs Go.Aff Go.Aff.L01 Classical
set_option linter.unusedVariables false
set_option linter.unusedSimpArgs false
set_option maxRecDepth 20000
attribute [local go_sem] push_app app_app length_app cellAt_app cellAt_app0 set_app set_app0 objs_app objs_app0 List.cons_append List.nil_append List.length_cons List.length_nil List.getElem?_cons_zero List.getElem?_cons_succ List.set_cons_zero List.set_cons_succ List.length_map
attribute [-go_sem] cellAt_new
attribute [-simp] List.length_flatMap
attribute [local go_sem] Try.underlying3 Try.underlying4 Try.underlying5 Try.underlying9 Try.underlying36 Try.underlying37 Try.underlying42 Try.underlying45 Try.underlying31 Try.underlying61 subPs_0 subAt_0 subSet_0 subPs_1 subAt_1 subSet_1 subPs_2 subAt_2 subSet_2 subPs_3 subAt_3 subSet_3 subPs_4 subAt_4 subSet_4 subPs_5 subAt_5 subSet_5 sizes_sub shapes_sub fits_sub zero_sub zt_sub built_sub Try.underlying41 pendPs_0 pendAt_0 pendSet_0 pendPs_1 pendAt_1 pendSet_1 pendPs_2 pendAt_2 pendSet_2 pendPs_3 pendAt_3 pendSet_3 pendPs_4 pendAt_4 pendSet_4 pendPs_5 pendAt_5 pendSet_5 sizes_pend shapes_pend fits_pend zero_pend zt_pend built_pend Try.underlying92 repPs_0 repAt_0 repSet_0 repPs_1 repAt_1 repSet_1 repPs_2 repAt_2 repSet_2 repPs_3 repAt_3 repSet_3 repPs_4 repAt_4 repSet_4 repPs_5 repAt_5 repSet_5 repPs_6 repAt_6 repSet_6 repPs_7 repAt_7 repSet_7 repPs_8 repAt_8 repSet_8 repPs_9 repAt_9 repSet_9 sizes_rep shapes_rep fits_rep zero_rep zt_rep built_rep Try.underlying44 blobPs_0 blobAt_0 blobSet_0 blobPs_1 blobAt_1 blobSet_1 blobPs_2 blobAt_2 blobSet_2 blobPs_3 blobAt_3 blobSet_3 sizes_blob shapes_blob fits_blob zero_blob zt_blob built_blob Try.underlying39 msgPs_0 msgAt_0 msgSet_0 msgPs_1 msgAt_1 msgSet_1 msgPs_2 msgAt_2 msgSet_2 msgPs_3 msgAt_3 msgSet_3 msgPs_4 msgAt_4 msgSet_4 msgPs_5 msgAt_5 msgSet_5 msgPs_6 msgAt_6 msgSet_6 msgPs_7 msgAt_7 msgSet_7 msgPs_8 msgAt_8 msgSet_8 msgPs_9 msgAt_9 msgSet_9 sizes_msg shapes_msg fits_msg zero_msg zt_msg built_msg Try.underlying47 at_Ps_0 at_Set_0 at_Ps_1 at_Set_1 sizes_at_ shapes_at_
attribute [local go_sem] fits3 fits4 fits5 fits9 fits23 fits26 fits31 fits34 fits52 zt3 zero3 zt34 zero34 zt23 zero23 bin_sub_eql bin_pend_eql bin_pend_neq bin_blob_eql bin_dig23_eql bin_dig23_neq slice23
attribute [local go_sem ↓] blockQ_exit2
attribute [local simp] dig_ext
attribute [local go_sem] bkeyPs_0 bkeyAt_0 bkeySet_0 bkeyPs_1 bkeyAt_1 bkeySet_1 sizes_bkey shapes_bkey fits_bkey zero_bkey zt_bkey built_bkey Try.underlying95 bin_blob_neq fits58 stAt zero60 zt60 built60 fits60 shape_mp Try.underlying97 Try.underlying99 Try.underlying28
attribute [local go_sem] fits26p fits28p fits22p fits76 fits24 fits51 srvPs_0 srvPs_1 srvPs_2 srvSet_0 srvSet_1 srvSet_2 srvAt_0 srvAt_1 srvAt_2 sizes_srv shapes_srv zero_srv zt_srv built_srv Try.underlying51 Try.underlying26 Try.underlying22 Try.underlying76 Try.underlying24
theorem objs_setSZ {s : AST} {k : Nat} {o : AObj} (h : k < s.objs.length) : (s.set k o).objs[k]? = some o := by simp only [AST.set]; rw [List.getElem?_set_self h]
theorem objs_setNZ {s : AST} {j k : Nat} {o : AObj} (h : j ≠ k) : (s.set j o).objs[k]? = s.objs[k]? := by simp only [AST.set]; rw [List.getElem?_set_ne h]
theorem canApp_keepZ {s s' : AST} {tk : Tk} {n e : Nat} (h : Ext s s') (hc : canApp s tk n e) : canApp s' tk n e := by
  obtain ⟨O, T, rfl⟩ := h
  cases tk with
  | full => trivial
  | own k => simp only [canApp] at hc ⊢; rw [List.getElem?_append_left (List.getElem?_eq_some_iff.1 hc).1]; exact hc
  | none => exact hc.elim
  | lit => exact hc.elim
def noneM (c : Int) (N : List Int) : Msg := { msg0 with kind := 7, client := c, nums := N }
def foundM (b : Blob) : Msg := { msg0 with kind := 6, blob := b }
/-- Both lists that get makes, in memory. -/
structure GS (σ0 s : AST) (c3 c4 : Nat) (cl : Int) (N : List Int) (L : List (Tk × Tk × Msg)) : Prop where
  x : Ext σ0 s
  d : c3 ≠ c4
  n3 : σ0.objs.length ≤ c3
  n4 : σ0.objs.length ≤ c4
  o : ∃ tn tf, s.objs[c3]? = some (.cells (msgV .full tn (noneM cl N))) ∧ s.objs[c4]? = some (.cells (.slice tf (L.map msgX))) ∧ tkNew σ0 tn ∧ tkNew σ0 tf ∧ apart tn tf ∧ canApp s tn N.length 1 ∧ canApp s tf L.length 275
theorem GS.ext {σ0 s s' : AST} {c3 c4 : Nat} {cl : Int} {N : List Int} {L : List (Tk × Tk × Msg)} (h : GS σ0 s c3 c4 cl N L) (e : Ext s s') : GS σ0 s' c3 c4 cl N L := by
  obtain ⟨tv, ta, a, b, c, d, f, g, k⟩ := h.o
  exact ⟨h.x.trans e, h.d, h.n3, h.n4, tv, ta, ext_knownB e a, ext_knownB e b, c, d, f, canApp_keepZ e g, canApp_keepZ e k⟩
theorem get1_c {σ0 σ1 s : AST} {j mi q r c1 c2 c3 c4 : Nat} {B : List Blob} {t u : Tk} {m : Msg} {N : List Int} {L : List (Tk × Tk × Msg)} {n : Int} {K : AV → AST → Prop}
    (hS : SF σ0 σ1 j mi B [(q, srvO r j), (c1, .cells (.ptr (some (q, [])))), (c2, .cells (msgV t u m))]) (h : GS σ1 s c3 c4 m.client N L) (hN : N.length ≤ 1000) (hL : L.length ≤ 1000)
    (hK1 : ∀ s', bgot B m.client n = none → GS σ1 s' c3 c4 m.client (N ++ [n]) L → K (.tuple []) s')
    (hK2 : ∀ s' b, bgot B m.client n = some b → GS σ1 s' c3 c4 m.client N (L ++ [(.full, .full, foundM b)]) → K (.tuple []) s') :
    TCalls Try.prog 28 [.int .i64 n, .ptr (some (c1, [])), .ptr (some (c2, [])), .ptr (some (c3, [])), .ptr (some (c4, []))] s K := by
  have hS1 := hS.ext h.x
  have oq := (hS1.f _ (List.mem_cons_self ..)).2.2
  have o1 := (hS1.less.f _ (List.mem_cons_self ..)).2.2
  have o2 := (hS1.less.less.f _ (List.mem_cons_self ..)).2.2
  dsimp only at oq o1 o2
  have cq := cellAt_known oq
  have k1 := cellAt_known o1
  have k2 := cellAt_known o2
  refine tcalls_walk Try.f28 _ [] Try.func28 rfl rfl rfl mixed (Nat.le_of_ble_eq_true rfl) rfl fun hlen => ?_
  have oqA := fun l => objs_known_app oq l
  have o1A := fun l => objs_known_app o1 l
  have o2A := fun l => objs_known_app o2 l
  cases hb : bgot B m.client n with
  | none =>
    repeat' (first | (simp -dsimp only [↓reduceIte, go_sem, cq, k1, k2]) | (refine arr_intro fun _ => ?_) | (refine later_intro ⟨keeps_nil, ?_⟩) | (refine later_intro ⟨keeps_refl, ?_⟩) | (with_reducible refine keeps_go ?_ ?_; focus (first | (simp [keeps_cons, keeps_none, objs_app, objs_app0]; done) | (simp only [keeps_cons, keeps_none, objs_app0, objs_app, and_true]; first | rfl | exact ⟨rfl, rfl⟩ | exact ⟨rfl, rfl, rfl⟩))) | (with_reducible refine (And.intro (a := keeps _ _ _) ?_ ?_); focus (first | (simp [keeps_cons, keeps_none, objs_app, objs_app0]; done) | (simp only [keeps_cons, keeps_none, objs_app0, objs_app, and_true]; first | rfl | exact ⟨rfl, rfl⟩ | exact ⟨rfl, rfl, rfl⟩))) | (refine both_ways ?_ ?_) | (rw [wrap_i64 (by omega) (by omega)]) | (refine guardV_split (fun h => ?_) (fun h => ?_) <;> (try rw [h]) <;> (try simp at h) <;> (try (exfalso; omega))) | (with_reducible refine awp_drawU (id := 0) (.op 0 0 (.op 1 0 (.op 2 0 (.op 3 0 (.op 4 0 (.op 5 0 (.op 6 0 (.fork 7 (.op 7 1 (.op 8 0 (.op 9 0 (.op 10 0 (.op 11 1 (.op 12 1 (.op 13 2 .nil))))))) (.op 11 1 (.cut (.op 7 1 (.op 8 2 (.op 9 2 (.op 10 0 (.op 12 1 (.op 13 2 .nil)))))))))))))))) (by kernel_rfl) ?_) | (with_reducible refine keeps_go ?_ ?_; focus (simp [keeps_cons, keeps_none, objs_app, objs_app0, oq, o1, o2, oqA, o1A, o2A]; done)) | (with_reducible refine (And.intro (a := keeps _ _ _) ?_ ?_); focus (simp [keeps_cons, keeps_none, objs_app, objs_app0, oq, o1, o2, oqA, o1A, o2A]; done)))
    case refine_1 =>
      refine sget_c hS1 fun s2 hx2 => ?_
      rw [hb]
      have oq2 := ext_knownB hx2 oq
      have o12 := ext_knownB hx2 o1
      have o22 := ext_knownB hx2 o2
      have oq3 := fun l => objs_known_app oq2 l
      have o13 := fun l => objs_known_app o12 l
      have o23 := fun l => objs_known_app o22 l
      have h2 := h.ext (hx2.trans (Ext.app s2 [.cells (.agg (blobPs blob0))]))
      have hbx : (s2.app [.cells (.agg (blobPs blob0))]).objs[s2.objs.length]? = some (.cells (.agg (blobPs blob0))) := by rw [objs_app0]; rfl
      repeat' (first | (simp -dsimp only [↓reduceIte, go_sem]) | (refine arr_intro fun _ => ?_) | (refine later_intro ⟨keeps_nil, ?_⟩) | (refine later_intro ⟨keeps_refl, ?_⟩) | (with_reducible refine keeps_go ?_ ?_; focus (first | (simp [keeps_cons, keeps_none, objs_app, objs_app0]; done) | (simp only [keeps_cons, keeps_none, objs_app0, objs_app, and_true]; first | rfl | exact ⟨rfl, rfl⟩ | exact ⟨rfl, rfl, rfl⟩))) | (with_reducible refine (And.intro (a := keeps _ _ _) ?_ ?_); focus (first | (simp [keeps_cons, keeps_none, objs_app, objs_app0]; done) | (simp only [keeps_cons, keeps_none, objs_app0, objs_app, and_true]; first | rfl | exact ⟨rfl, rfl⟩ | exact ⟨rfl, rfl, rfl⟩))) | (refine both_ways ?_ ?_) | (rw [wrap_i64 (by omega) (by omega)]) | (refine guardV_split (fun h => ?_) (fun h => ?_) <;> (try rw [h]) <;> (try simp at h) <;> (try (exfalso; omega))) | (with_reducible refine keeps_go ?_ ?_; focus (simp [keeps_cons, keeps_none, objs_app, objs_app0, oq, o1, o2, oq2, o12, o22, oq3, o13, o23]; done)) | (with_reducible refine (And.intro (a := keeps _ _ _) ?_ ?_); focus (simp [keeps_cons, keeps_none, objs_app, objs_app0, oq, o1, o2, oq2, o12, o22, oq3, o13, o23]; done)))
      clear oq3 o13 o23
      generalize s2.app [.cells (.agg (blobPs blob0))] = s3 at *
      obtain ⟨tn, tf, p3, p4, w1, w2, ap, a1, a2⟩ := h2.o
      have hx3 := h2.x
      have q3 := cellAt_known p3
      have hl3 := cell_ltB p3
      have g3 : ∀ n, (growS s3 tn n 1).objs[c3]? = some (.cells (msgV .full tn (noneM m.client N))) := fun n => by rw [growS_objs]; exact p3
      have g4 := fun n => cellAt_known (g3 n)
      repeat' (first | (simp -dsimp only [↓reduceIte, go_sem, q3, g3, g4]) | (refine arr_intro fun _ => ?_) | (refine later_intro ⟨keeps_nil, ?_⟩) | (refine later_intro ⟨keeps_refl, ?_⟩) | (with_reducible refine keeps_go ?_ ?_; focus (first | (simp [keeps_cons, keeps_none, objs_app, objs_app0]; done) | (simp only [keeps_cons, keeps_none, objs_app0, objs_app, and_true]; first | rfl | exact ⟨rfl, rfl⟩ | exact ⟨rfl, rfl, rfl⟩))) | (with_reducible refine (And.intro (a := keeps _ _ _) ?_ ?_); focus (first | (simp [keeps_cons, keeps_none, objs_app, objs_app0]; done) | (simp only [keeps_cons, keeps_none, objs_app0, objs_app, and_true]; first | rfl | exact ⟨rfl, rfl⟩ | exact ⟨rfl, rfl, rfl⟩))) | (refine both_ways ?_ ?_) | (rw [wrap_i64 (by omega) (by omega)]) | (refine guardV_split (fun h => ?_) (fun h => ?_) <;> (try rw [h]) <;> (try simp at h) <;> (try (exfalso; omega))) | (refine build_slice E45i rfl (by decide) (by intro v hv; simp at hv; subst hv; simp [go_sem]) ?_) | (refine append_num a1 (Nat.le_trans hN (by decide)) ?_))
      refine hK1 _ hb ⟨(hx3.grow w1).set h.n3, h.d, h.n3, h.n4, growT s3 tn, tf, objs_setSZ (by rw [growS_objs]; exact hl3), by rw [objs_setNZ h.d, growS_objs]; exact p4, w1.grow hx3, w2, apart_grow ap a2, ?_, by rw [canApp_set]; exact canApp_apart ap a2⟩
      rw [canApp_set, List.length_append]; exact canApp_grow a1
    case refine_2 =>
      refine sget_c (hS1.ext (Ext.app s [.cells (.agg (blobPs blob0))])) fun s2 hx2 => ?_
      rw [hb]
      have oq2 := ext_knownB hx2 (oqA _)
      have o12 := ext_knownB hx2 (o1A _)
      have o22 := ext_knownB hx2 (o2A _)
      have hb0 : s2.objs[s.objs.length]? = some (.cells (.agg (blobPs blob0))) := ext_knownB hx2 (by rw [objs_app0]; rfl)
      have cb0 := cellAt_known hb0
      have hlb := cell_ltB hb0
      have h2 := h.ext (((Ext.app s [.cells (.agg (blobPs blob0))]).trans hx2).set (o := .cells (.agg (blobPs blob0))) (Nat.le_refl s.objs.length))
      have hbx : (s2.set s.objs.length (.cells (.agg (blobPs blob0)))).objs[s.objs.length]? = some (.cells (.agg (blobPs blob0))) := objs_setSZ hlb
      repeat' (first | (simp -dsimp only [↓reduceIte, go_sem, hb0, cb0]) | (refine arr_intro fun _ => ?_) | (refine later_intro ⟨keeps_nil, ?_⟩) | (refine later_intro ⟨keeps_refl, ?_⟩) | (with_reducible refine keeps_go ?_ ?_; focus (first | (simp [keeps_cons, keeps_none, objs_app, objs_app0]; done) | (simp only [keeps_cons, keeps_none, objs_app0, objs_app, and_true]; first | rfl | exact ⟨rfl, rfl⟩ | exact ⟨rfl, rfl, rfl⟩))) | (with_reducible refine (And.intro (a := keeps _ _ _) ?_ ?_); focus (first | (simp [keeps_cons, keeps_none, objs_app, objs_app0]; done) | (simp only [keeps_cons, keeps_none, objs_app0, objs_app, and_true]; first | rfl | exact ⟨rfl, rfl⟩ | exact ⟨rfl, rfl, rfl⟩))) | (refine both_ways ?_ ?_) | (rw [wrap_i64 (by omega) (by omega)]) | (refine guardV_split (fun h => ?_) (fun h => ?_) <;> (try rw [h]) <;> (try simp at h) <;> (try (exfalso; omega))) | (with_reducible refine keeps_go ?_ ?_; focus (simp [keeps_cons, keeps_none, objs_app, objs_app0, oq, o1, o2, oqA, o1A, o2A, oq2, o12, o22]; done)) | (with_reducible refine (And.intro (a := keeps _ _ _) ?_ ?_); focus (simp [keeps_cons, keeps_none, objs_app, objs_app0, oq, o1, o2, oqA, o1A, o2A, oq2, o12, o22]; done)))
      generalize s2.set s.objs.length (.cells (.agg (blobPs blob0))) = s3 at *
      obtain ⟨tn, tf, p3, p4, w1, w2, ap, a1, a2⟩ := h2.o
      have hx3 := h2.x
      have q3 := cellAt_known p3
      have hl3 := cell_ltB p3
      have g3 : ∀ n, (growS s3 tn n 1).objs[c3]? = some (.cells (msgV .full tn (noneM m.client N))) := fun n => by rw [growS_objs]; exact p3
      have g4 := fun n => cellAt_known (g3 n)
      repeat' (first | (simp -dsimp only [↓reduceIte, go_sem, q3, g3, g4]) | (refine arr_intro fun _ => ?_) | (refine later_intro ⟨keeps_nil, ?_⟩) | (refine later_intro ⟨keeps_refl, ?_⟩) | (with_reducible refine keeps_go ?_ ?_; focus (first | (simp [keeps_cons, keeps_none, objs_app, objs_app0]; done) | (simp only [keeps_cons, keeps_none, objs_app0, objs_app, and_true]; first | rfl | exact ⟨rfl, rfl⟩ | exact ⟨rfl, rfl, rfl⟩))) | (with_reducible refine (And.intro (a := keeps _ _ _) ?_ ?_); focus (first | (simp [keeps_cons, keeps_none, objs_app, objs_app0]; done) | (simp only [keeps_cons, keeps_none, objs_app0, objs_app, and_true]; first | rfl | exact ⟨rfl, rfl⟩ | exact ⟨rfl, rfl, rfl⟩))) | (refine both_ways ?_ ?_) | (rw [wrap_i64 (by omega) (by omega)]) | (refine guardV_split (fun h => ?_) (fun h => ?_) <;> (try rw [h]) <;> (try simp at h) <;> (try (exfalso; omega))) | (refine build_slice E45i rfl (by decide) (by intro v hv; simp at hv; subst hv; simp [go_sem]) ?_) | (refine append_num a1 (Nat.le_trans hN (by decide)) ?_))
      refine hK1 _ hb ⟨(hx3.grow w1).set h.n3, h.d, h.n3, h.n4, growT s3 tn, tf, objs_setSZ (by rw [growS_objs]; exact hl3), by rw [objs_setNZ h.d, growS_objs]; exact p4, w1.grow hx3, w2, apart_grow ap a2, ?_, by rw [canApp_set]; exact canApp_apart ap a2⟩
      rw [canApp_set, List.length_append]; exact canApp_grow a1
  | some b =>
    repeat' (first | (simp -dsimp only [↓reduceIte, go_sem, cq, k1, k2]) | (refine arr_intro fun _ => ?_) | (refine later_intro ⟨keeps_nil, ?_⟩) | (refine later_intro ⟨keeps_refl, ?_⟩) | (with_reducible refine keeps_go ?_ ?_; focus (first | (simp [keeps_cons, keeps_none, objs_app, objs_app0]; done) | (simp only [keeps_cons, keeps_none, objs_app0, objs_app, and_true]; first | rfl | exact ⟨rfl, rfl⟩ | exact ⟨rfl, rfl, rfl⟩))) | (with_reducible refine (And.intro (a := keeps _ _ _) ?_ ?_); focus (first | (simp [keeps_cons, keeps_none, objs_app, objs_app0]; done) | (simp only [keeps_cons, keeps_none, objs_app0, objs_app, and_true]; first | rfl | exact ⟨rfl, rfl⟩ | exact ⟨rfl, rfl, rfl⟩))) | (refine both_ways ?_ ?_) | (rw [wrap_i64 (by omega) (by omega)]) | (refine guardV_split (fun h => ?_) (fun h => ?_) <;> (try rw [h]) <;> (try simp at h) <;> (try (exfalso; omega))) | (with_reducible refine awp_drawU (id := 0) (.op 0 0 (.op 1 0 (.op 2 0 (.op 3 0 (.op 4 0 (.op 5 0 (.op 6 0 (.fork 7 (.op 7 1 (.op 8 0 (.op 9 0 (.op 10 0 (.op 11 1 (.op 12 1 (.op 13 2 .nil))))))) (.op 11 1 (.cut (.op 7 1 (.op 8 2 (.op 9 2 (.op 10 0 (.op 12 1 (.op 13 2 .nil)))))))))))))))) (by kernel_rfl) ?_) | (with_reducible refine keeps_go ?_ ?_; focus (simp [keeps_cons, keeps_none, objs_app, objs_app0, oq, o1, o2, oqA, o1A, o2A]; done)) | (with_reducible refine (And.intro (a := keeps _ _ _) ?_ ?_); focus (simp [keeps_cons, keeps_none, objs_app, objs_app0, oq, o1, o2, oqA, o1A, o2A]; done)))
    case refine_1 =>
      refine sget_c hS1 fun s2 hx2 => ?_
      rw [hb]
      have oq2 := ext_knownB hx2 oq
      have o12 := ext_knownB hx2 o1
      have o22 := ext_knownB hx2 o2
      have oq3 := fun l => objs_known_app oq2 l
      have o13 := fun l => objs_known_app o12 l
      have o23 := fun l => objs_known_app o22 l
      have h2 := h.ext (hx2.trans (Ext.app s2 [.cells (.agg (blobPs b))]))
      have hbx : (s2.app [.cells (.agg (blobPs b))]).objs[s2.objs.length]? = some (.cells (.agg (blobPs b))) := by rw [objs_app0]; rfl
      repeat' (first | (simp -dsimp only [↓reduceIte, go_sem]) | (refine arr_intro fun _ => ?_) | (refine later_intro ⟨keeps_nil, ?_⟩) | (refine later_intro ⟨keeps_refl, ?_⟩) | (with_reducible refine keeps_go ?_ ?_; focus (first | (simp [keeps_cons, keeps_none, objs_app, objs_app0]; done) | (simp only [keeps_cons, keeps_none, objs_app0, objs_app, and_true]; first | rfl | exact ⟨rfl, rfl⟩ | exact ⟨rfl, rfl, rfl⟩))) | (with_reducible refine (And.intro (a := keeps _ _ _) ?_ ?_); focus (first | (simp [keeps_cons, keeps_none, objs_app, objs_app0]; done) | (simp only [keeps_cons, keeps_none, objs_app0, objs_app, and_true]; first | rfl | exact ⟨rfl, rfl⟩ | exact ⟨rfl, rfl, rfl⟩))) | (refine both_ways ?_ ?_) | (rw [wrap_i64 (by omega) (by omega)]) | (refine guardV_split (fun h => ?_) (fun h => ?_) <;> (try rw [h]) <;> (try simp at h) <;> (try (exfalso; omega))) | (with_reducible refine keeps_go ?_ ?_; focus (simp [keeps_cons, keeps_none, objs_app, objs_app0, oq, o1, o2, oq2, o12, o22, oq3, o13, o23]; done)) | (with_reducible refine (And.intro (a := keeps _ _ _) ?_ ?_); focus (simp [keeps_cons, keeps_none, objs_app, objs_app0, oq, o1, o2, oq2, o12, o22, oq3, o13, o23]; done)))
      clear oq3 o13 o23
      generalize s2.app [.cells (.agg (blobPs b))] = s3 at *
      obtain ⟨tn, tf, p3, p4, w1, w2, ap, a1, a2⟩ := h2.o
      have hx3 := h2.x
      have q4 := cellAt_known p4
      have hl4 := cell_ltB p4
      have g3 : ∀ n, (growS s3 tf n 275).objs[c4]? = some (.cells (.slice tf (L.map msgX))) := fun n => by rw [growS_objs]; exact p4
      have g4 := fun n => cellAt_known (g3 n)
      have cbx := cellAt_known hbx
      have hfm : ({ kind := 6, client := msg0.client, sub := msg0.sub, rep := msg0.rep, view := msg0.view, by_ := msg0.by_, tag := msg0.tag, own := msg0.own, blob := b, nums := msg0.nums } : Msg) = foundM b := rfl
      repeat' (first | (simp -dsimp only [↓reduceIte, go_sem, q4, g3, g4, cbx, hfm]) | (refine arr_intro fun _ => ?_) | (refine later_intro ⟨keeps_nil, ?_⟩) | (refine later_intro ⟨keeps_refl, ?_⟩) | (with_reducible refine keeps_go ?_ ?_; focus (first | (simp [keeps_cons, keeps_none, objs_app, objs_app0]; done) | (simp only [keeps_cons, keeps_none, objs_app0, objs_app, and_true]; first | rfl | exact ⟨rfl, rfl⟩ | exact ⟨rfl, rfl, rfl⟩))) | (with_reducible refine (And.intro (a := keeps _ _ _) ?_ ?_); focus (first | (simp [keeps_cons, keeps_none, objs_app, objs_app0]; done) | (simp only [keeps_cons, keeps_none, objs_app0, objs_app, and_true]; first | rfl | exact ⟨rfl, rfl⟩ | exact ⟨rfl, rfl, rfl⟩))) | (refine both_ways ?_ ?_) | (rw [wrap_i64 (by omega) (by omega)]) | (refine guardV_split (fun h => ?_) (fun h => ?_) <;> (try rw [h]) <;> (try simp at h) <;> (try (exfalso; omega))) | (refine build_slice E76 rfl (by decide) (by intro v hv; simp at hv; subst hv; simp [go_sem]) ?_) | (refine append_msg a2 (Nat.le_trans hL (by decide)) ?_))
      refine hK2 _ b hb ⟨(hx3.grow (n := L.length + 1) (es := 275) w2).set (o := .cells (.slice (growT s3 tf) ((L ++ [(Tk.full, Tk.full, foundM b)]).map msgX))) h.n4, h.d, h.n3, h.n4, tn, growT s3 tf, by rw [objs_setNZ (Ne.symm h.d)]; rw [growS_objs]; exact p3, objs_setSZ (by rw [growS_objs]; exact hl4), w1, w2.grow hx3, (apart_grow ap.symm a1).symm, by rw [canApp_set]; exact canApp_apart ap.symm a1, ?_⟩
      rw [canApp_set, List.length_append]; exact canApp_grow a2
    case refine_2 =>
      refine sget_c (hS1.ext (Ext.app s [.cells (.agg (blobPs blob0))])) fun s2 hx2 => ?_
      rw [hb]
      have oq2 := ext_knownB hx2 (oqA _)
      have o12 := ext_knownB hx2 (o1A _)
      have o22 := ext_knownB hx2 (o2A _)
      have hb0 : s2.objs[s.objs.length]? = some (.cells (.agg (blobPs blob0))) := ext_knownB hx2 (by rw [objs_app0]; rfl)
      have cb0 := cellAt_known hb0
      have hlb := cell_ltB hb0
      have h2 := h.ext (((Ext.app s [.cells (.agg (blobPs blob0))]).trans hx2).set (o := .cells (.agg (blobPs b))) (Nat.le_refl s.objs.length))
      have hbx : (s2.set s.objs.length (.cells (.agg (blobPs b)))).objs[s.objs.length]? = some (.cells (.agg (blobPs b))) := objs_setSZ hlb
      repeat' (first | (simp -dsimp only [↓reduceIte, go_sem, hb0, cb0]) | (refine arr_intro fun _ => ?_) | (refine later_intro ⟨keeps_nil, ?_⟩) | (refine later_intro ⟨keeps_refl, ?_⟩) | (with_reducible refine keeps_go ?_ ?_; focus (first | (simp [keeps_cons, keeps_none, objs_app, objs_app0]; done) | (simp only [keeps_cons, keeps_none, objs_app0, objs_app, and_true]; first | rfl | exact ⟨rfl, rfl⟩ | exact ⟨rfl, rfl, rfl⟩))) | (with_reducible refine (And.intro (a := keeps _ _ _) ?_ ?_); focus (first | (simp [keeps_cons, keeps_none, objs_app, objs_app0]; done) | (simp only [keeps_cons, keeps_none, objs_app0, objs_app, and_true]; first | rfl | exact ⟨rfl, rfl⟩ | exact ⟨rfl, rfl, rfl⟩))) | (refine both_ways ?_ ?_) | (rw [wrap_i64 (by omega) (by omega)]) | (refine guardV_split (fun h => ?_) (fun h => ?_) <;> (try rw [h]) <;> (try simp at h) <;> (try (exfalso; omega))) | (with_reducible refine keeps_go ?_ ?_; focus (simp [keeps_cons, keeps_none, objs_app, objs_app0, oq, o1, o2, oqA, o1A, o2A, oq2, o12, o22]; done)) | (with_reducible refine (And.intro (a := keeps _ _ _) ?_ ?_); focus (simp [keeps_cons, keeps_none, objs_app, objs_app0, oq, o1, o2, oqA, o1A, o2A, oq2, o12, o22]; done)))
      generalize s2.set s.objs.length (.cells (.agg (blobPs b))) = s3 at *
      obtain ⟨tn, tf, p3, p4, w1, w2, ap, a1, a2⟩ := h2.o
      have hx3 := h2.x
      have q4 := cellAt_known p4
      have hl4 := cell_ltB p4
      have g3 : ∀ n, (growS s3 tf n 275).objs[c4]? = some (.cells (.slice tf (L.map msgX))) := fun n => by rw [growS_objs]; exact p4
      have g4 := fun n => cellAt_known (g3 n)
      have cbx := cellAt_known hbx
      have hfm : ({ kind := 6, client := msg0.client, sub := msg0.sub, rep := msg0.rep, view := msg0.view, by_ := msg0.by_, tag := msg0.tag, own := msg0.own, blob := b, nums := msg0.nums } : Msg) = foundM b := rfl
      repeat' (first | (simp -dsimp only [↓reduceIte, go_sem, q4, g3, g4, cbx, hfm]) | (refine arr_intro fun _ => ?_) | (refine later_intro ⟨keeps_nil, ?_⟩) | (refine later_intro ⟨keeps_refl, ?_⟩) | (with_reducible refine keeps_go ?_ ?_; focus (first | (simp [keeps_cons, keeps_none, objs_app, objs_app0]; done) | (simp only [keeps_cons, keeps_none, objs_app0, objs_app, and_true]; first | rfl | exact ⟨rfl, rfl⟩ | exact ⟨rfl, rfl, rfl⟩))) | (with_reducible refine (And.intro (a := keeps _ _ _) ?_ ?_); focus (first | (simp [keeps_cons, keeps_none, objs_app, objs_app0]; done) | (simp only [keeps_cons, keeps_none, objs_app0, objs_app, and_true]; first | rfl | exact ⟨rfl, rfl⟩ | exact ⟨rfl, rfl, rfl⟩))) | (refine both_ways ?_ ?_) | (rw [wrap_i64 (by omega) (by omega)]) | (refine guardV_split (fun h => ?_) (fun h => ?_) <;> (try rw [h]) <;> (try simp at h) <;> (try (exfalso; omega))) | (refine build_slice E76 rfl (by decide) (by intro v hv; simp at hv; subst hv; simp [go_sem]) ?_) | (refine append_msg a2 (Nat.le_trans hL (by decide)) ?_))
      refine hK2 _ b hb ⟨(hx3.grow (n := L.length + 1) (es := 275) w2).set (o := .cells (.slice (growT s3 tf) ((L ++ [(Tk.full, Tk.full, foundM b)]).map msgX))) h.n4, h.d, h.n3, h.n4, tn, growT s3 tf, by rw [objs_setNZ (Ne.symm h.d)]; rw [growS_objs]; exact p3, objs_setSZ (by rw [growS_objs]; exact hl4), w1, w2.grow hx3, (apart_grow ap.symm a1).symm, by rw [canApp_set]; exact canApp_apart ap.symm a1, ?_⟩
      rw [canApp_set, List.length_append]; exact canApp_grow a2
end Go.Aff.L10

/- Layer 13, walked: get. -/
-- cuts
namespace Go.Aff.L10
open Go.Proofs Go.Aff Go.Aff.L01 Classical
set_option linter.unusedVariables false
set_option linter.unusedSimpArgs false
set_option maxRecDepth 20000
attribute [local go_sem] push_app app_app length_app cellAt_app cellAt_app0 set_app set_app0 objs_app objs_app0 List.cons_append List.nil_append List.length_cons List.length_nil List.getElem?_cons_zero List.getElem?_cons_succ List.set_cons_zero List.set_cons_succ List.length_map
attribute [-go_sem] cellAt_new
attribute [-simp] List.length_flatMap
attribute [local go_sem] Try.underlying3 Try.underlying4 Try.underlying5 Try.underlying9 Try.underlying36 Try.underlying37 Try.underlying42 Try.underlying45 Try.underlying31 Try.underlying61 subPs_0 subAt_0 subSet_0 subPs_1 subAt_1 subSet_1 subPs_2 subAt_2 subSet_2 subPs_3 subAt_3 subSet_3 subPs_4 subAt_4 subSet_4 subPs_5 subAt_5 subSet_5 sizes_sub shapes_sub fits_sub zero_sub zt_sub built_sub Try.underlying41 pendPs_0 pendAt_0 pendSet_0 pendPs_1 pendAt_1 pendSet_1 pendPs_2 pendAt_2 pendSet_2 pendPs_3 pendAt_3 pendSet_3 pendPs_4 pendAt_4 pendSet_4 pendPs_5 pendAt_5 pendSet_5 sizes_pend shapes_pend fits_pend zero_pend zt_pend built_pend Try.underlying92 repPs_0 repAt_0 repSet_0 repPs_1 repAt_1 repSet_1 repPs_2 repAt_2 repSet_2 repPs_3 repAt_3 repSet_3 repPs_4 repAt_4 repSet_4 repPs_5 repAt_5 repSet_5 repPs_6 repAt_6 repSet_6 repPs_7 repAt_7 repSet_7 repPs_8 repAt_8 repSet_8 repPs_9 repAt_9 repSet_9 sizes_rep shapes_rep fits_rep zero_rep zt_rep built_rep Try.underlying44 blobPs_0 blobAt_0 blobSet_0 blobPs_1 blobAt_1 blobSet_1 blobPs_2 blobAt_2 blobSet_2 blobPs_3 blobAt_3 blobSet_3 sizes_blob shapes_blob fits_blob zero_blob zt_blob built_blob Try.underlying39 msgPs_0 msgAt_0 msgSet_0 msgPs_1 msgAt_1 msgSet_1 msgPs_2 msgAt_2 msgSet_2 msgPs_3 msgAt_3 msgSet_3 msgPs_4 msgAt_4 msgSet_4 msgPs_5 msgAt_5 msgSet_5 msgPs_6 msgAt_6 msgSet_6 msgPs_7 msgAt_7 msgSet_7 msgPs_8 msgAt_8 msgSet_8 msgPs_9 msgAt_9 msgSet_9 sizes_msg shapes_msg fits_msg zero_msg zt_msg built_msg Try.underlying47 at_Ps_0 at_Set_0 at_Ps_1 at_Set_1 sizes_at_ shapes_at_
attribute [local go_sem] fits3 fits4 fits5 fits9 fits23 fits26 fits31 fits34 fits52 zt3 zero3 zt34 zero34 zt23 zero23 bin_sub_eql bin_pend_eql bin_pend_neq bin_blob_eql bin_dig23_eql bin_dig23_neq slice23
attribute [local go_sem ↓] blockQ_exit2
attribute [local simp] dig_ext
attribute [local go_sem] bkeyPs_0 bkeyAt_0 bkeySet_0 bkeyPs_1 bkeyAt_1 bkeySet_1 sizes_bkey shapes_bkey fits_bkey zero_bkey zt_bkey built_bkey Try.underlying95 bin_blob_neq fits58 stAt zero60 zt60 built60 fits60 shape_mp Try.underlying97 Try.underlying99 Try.underlying28
attribute [local go_sem] fits26p fits28p fits22p fits76 fits24 fits51 srvPs_0 srvPs_1 srvPs_2 srvSet_0 srvSet_1 srvSet_2 srvAt_0 srvAt_1 srvAt_2 sizes_srv shapes_srv zero_srv zt_srv built_srv Try.underlying51 Try.underlying26 Try.underlying22 Try.underlying76 Try.underlying24
theorem zero76 : zeroA Try.prog 12 76 = .slice .full [] := by kernel_rfl
theorem zt76 : ZeroOf Try.prog 76 (.slice .full []) = True := eq_true ⟨_, _, rfl, rfl, rfl, rfl, rfl⟩
attribute [local go_sem] zero76 zt76
noncomputable def foundL (B : List Blob) (c : Int) (l : List Int) : List (Tk × Tk × Msg) := l.filterMap fun n => (bgot B c n).map fun b => (Tk.full, Tk.full, foundM b)
noncomputable def noneL (B : List Blob) (c : Int) (l : List Int) : List Int := l.filter fun n => (bgot B c n).isNone
noncomputable def lettersM (B : List Blob) (m : Msg) : List Msg := (foundL B m.client m.nums).map (·.2.2) ++ if noneL B m.client m.nums = [] then [] else [noneM m.client (noneL B m.client m.nums)]
theorem foundL_next {B : List Blob} {c : Int} {l : List Int} {i : Nat} {n : Int} (h : l[i]? = some n) : foundL B c (l.take (i + 1)) = foundL B c (l.take i) ++ (match bgot B c n with | some b => [(Tk.full, Tk.full, foundM b)] | none => []) ∧
    noneL B c (l.take (i + 1)) = noneL B c (l.take i) ++ (match bgot B c n with | some b => [] | none => [n]) := by
  have hi := (List.getElem?_eq_some_iff.1 h).1
  have e : l.take (i + 1) = l.take i ++ [n] := by rw [← (List.getElem?_eq_some_iff.1 h).2]; exact (List.take_append_getElem hi).symm
  rw [e]
  unfold foundL noneL
  rw [List.filterMap_append, List.filter_append]
  cases hb : bgot B c n <;> simp [hb]
theorem foundL_len {B : List Blob} {c : Int} {l : List Int} : (foundL B c l).length ≤ l.length ∧ (noneL B c l).length ≤ l.length := ⟨List.length_filterMap_le .., List.length_filter_le ..⟩
theorem getm_c {σ0 s : AST} {j mi q r : Nat} {B : List Blob} {m : Msg} {t u : Tk} {K : AV → AST → Prop} (hS : SF σ0 s j mi B [(q, srvO r j)]) (hl : m.nums.length ≤ 900)
    (hK : ∀ s' tk L', L'.map (·.2.2) = lettersM B m → Ext s s' → K (.slice tk ((sentL L').map AV.str)) s') : TCalls Try.prog 12 [.ptr (some (q, [])), msgV t u m] s K := by
  have hb1 := (hS.box (.cells (.ptr (some (q, []))))).box (.cells (msgV t u m))
  have hS2 : SF σ0 (s.app [.cells (.ptr (some (q, []))), .cells (msgV t u m)]) j mi B [(q, srvO r j), (s.objs.length, .cells (.ptr (some (q, [])))), (s.objs.length + 1, .cells (msgV t u m))] := by
    have e : (s.app [.cells (.ptr (some (q, [])))]).app [.cells (msgV t u m)] = s.app [.cells (.ptr (some (q, []))), .cells (msgV t u m)] := by simp [AST.app]
    have e2 : (s.app [AObj.cells (.ptr (some (q, [])))]).objs.length = s.objs.length + 1 := by simp [AST.app]
    rw [e, e2] at hb1
    refine ⟨hb1.x, hb1.jn, hb1.mn, hb1.jm, hb1.o, hb1.om, fun x hx => hb1.f x ?_⟩
    simp only [List.mem_cons, List.not_mem_nil, or_false] at hx ⊢
    rcases hx with h | h | h
    · exact .inr (.inr h)
    · exact .inr (.inl h)
    · exact .inl h
  generalize hsa : s.app [.cells (.ptr (some (q, []))), .cells (msgV t u m)] = sa at hS2
  have hxa : Ext s sa := by rw [← hsa]; exact Ext.app _ _
  have hla : sa.objs.length = s.objs.length + 2 := by rw [← hsa]; simp [AST.app]
  refine tcalls_walk Try.f12 _ [.tmp 4] Try.func12 rfl rfl rfl mixed (Nat.le_of_ble_eq_true rfl) rfl fun hlen => ?_
  repeat' (first | (simp -dsimp only [↓reduceIte, go_sem]) | (refine arr_intro fun _ => ?_) | (refine later_intro ⟨keeps_nil, ?_⟩) | (refine later_intro ⟨keeps_refl, ?_⟩) | (with_reducible refine keeps_go ?_ ?_; focus (first | (simp [keeps_cons, keeps_none, objs_app, objs_app0]; done) | (simp only [keeps_cons, keeps_none, objs_app0, objs_app, and_true]; first | rfl | exact ⟨rfl, rfl⟩ | exact ⟨rfl, rfl, rfl⟩))) | (with_reducible refine (And.intro (a := keeps _ _ _) ?_ ?_); focus (first | (simp [keeps_cons, keeps_none, objs_app, objs_app0]; done) | (simp only [keeps_cons, keeps_none, objs_app0, objs_app, and_true]; first | rfl | exact ⟨rfl, rfl⟩ | exact ⟨rfl, rfl, rfl⟩))) | (refine both_ways ?_ ?_) | (rw [wrap_i64 (by omega) (by omega)]) | (refine guardV_split (fun h => ?_) (fun h => ?_) <;> (try rw [h]) <;> (try simp at h) <;> (try (exfalso; omega))))
  refine ⟨fun x hx => ?_, ?_⟩
  · simp only [List.mem_cons, List.not_mem_nil, or_false] at hx
    rcases hx with rfl | rfl | rfl | rfl <;> simp only [go_sem] <;> rfl
  refine later_intro ?_
  repeat' (first | (simp -dsimp only [↓reduceIte, go_sem]) | (refine arr_intro fun _ => ?_) | (refine later_intro ⟨keeps_nil, ?_⟩) | (refine later_intro ⟨keeps_refl, ?_⟩) | (with_reducible refine keeps_go ?_ ?_; focus (first | (simp [keeps_cons, keeps_none, objs_app, objs_app0]; done) | (simp only [keeps_cons, keeps_none, objs_app0, objs_app, and_true]; first | rfl | exact ⟨rfl, rfl⟩ | exact ⟨rfl, rfl, rfl⟩))) | (with_reducible refine (And.intro (a := keeps _ _ _) ?_ ?_); focus (first | (simp [keeps_cons, keeps_none, objs_app, objs_app0]; done) | (simp only [keeps_cons, keeps_none, objs_app0, objs_app, and_true]; first | rfl | exact ⟨rfl, rfl⟩ | exact ⟨rfl, rfl, rfl⟩))) | (refine both_ways ?_ ?_) | (rw [wrap_i64 (by omega) (by omega)]) | (refine guardV_split (fun h => ?_) (fun h => ?_) <;> (try rw [h]) <;> (try simp at h) <;> (try (exfalso; omega))))
  refine awp_rounds (fun (i : Nat) τ s' => i ≤ m.nums.length ∧ GS sa s' (s.objs.length + 3) (s.objs.length + 2) m.client (noneL B m.client (m.nums.take i)) (foundL B m.client (m.nums.take i)) ∧ τ 5 = .ptr (some (s.objs.length + 2, [])) ∧ τ 6 = .ptr (some (s.objs.length + 3, [])) ∧
    τ 7 = .fn (.func 28) [] [.ptr (some (s.objs.length, [])), .ptr (some (s.objs.length + 1, [])), .ptr (some (s.objs.length + 3, [])), .ptr (some (s.objs.length + 2, []))] ∧ τ 15 = .slice u (m.nums.map (AV.int .i64)) ∧ τ 16 = .int .i64 m.nums.length ∧ τ 17 = .int .i64 i) (fun i => m.nums.length - i) 0 ?_ ?_
  · refine ⟨by omega, ?_, ?_, ?_, ?_, ?_, ?_, ?_⟩ <;> (try simp only [go_sem]) <;> (try rfl)
    have e1 : s.app [.cells (.ptr (some (q, []))), .cells (msgV t u m), .cells (.slice .full []), .cells (msgV .full .full (noneM m.client []))] = sa.app [.cells (.slice .full []), .cells (msgV .full .full (noneM m.client []))] := by rw [← hsa]; simp [AST.app]
    have o4 : (sa.app [.cells (.slice .full []), .cells (msgV .full .full (noneM m.client []))]).objs[s.objs.length + 2]? = some (.cells (.slice .full [])) := by rw [← hla, objs_app0]; rfl
    have o3 : (sa.app [.cells (.slice .full []), .cells (msgV .full .full (noneM m.client []))]).objs[s.objs.length + 3]? = some (.cells (msgV .full .full (noneM m.client []))) := by
      have : s.objs.length + 3 = sa.objs.length + 1 := by omega
      rw [this, objs_app]; rfl
    have key : GS sa (sa.app [.cells (.slice .full []), .cells (msgV .full .full (noneM m.client []))]) (s.objs.length + 3) (s.objs.length + 2) m.client [] [] :=
      ⟨Ext.app _ _, by omega, by omega, by omega, .full, .full, o3, o4, .inl rfl, .inl rfl, apart_full, trivial, trivial⟩
    rw [← e1] at key
    exact key
  · rintro i τ s' ⟨hi, hG, t5, t6, t7, t15, t16, t17⟩
    have hfl := foundL_len (B := B) (c := m.client) (l := m.nums.take i)
    rw [List.length_take] at hfl
    by_cases hlt : i < m.nums.length
    · have hlt1 : (i : Int) < m.nums.length := by omega
      obtain ⟨n, hn⟩ : ∃ n, m.nums[i]? = some n := ⟨_, List.getElem?_eq_getElem hlt⟩
      have hnx := foundL_next (B := B) (c := m.client) hn
      have w1 : IntKind.i64.wrap ((i : Int) + 1) = (i : Int) + 1 := wrap_i64 (by omega) (by omega)
      repeat' (first | (simp -dsimp only [↓reduceIte, go_sem, t5, t6, t7, t15, t16, t17, hlt1]) | (refine arr_intro fun _ => ?_) | (refine later_intro ⟨keeps_nil, ?_⟩) | (refine later_intro ⟨keeps_refl, ?_⟩) | (with_reducible refine keeps_go ?_ ?_; focus (first | (simp [keeps_cons, keeps_none, objs_app, objs_app0]; done) | (simp only [keeps_cons, keeps_none, objs_app0, objs_app, and_true]; first | rfl | exact ⟨rfl, rfl⟩ | exact ⟨rfl, rfl, rfl⟩))) | (with_reducible refine (And.intro (a := keeps _ _ _) ?_ ?_); focus (first | (simp [keeps_cons, keeps_none, objs_app, objs_app0]; done) | (simp only [keeps_cons, keeps_none, objs_app0, objs_app, and_true]; first | rfl | exact ⟨rfl, rfl⟩ | exact ⟨rfl, rfl, rfl⟩))) | (refine both_ways ?_ ?_) | (rw [wrap_i64 (by omega) (by omega)]) | (refine guardV_split (fun h => ?_) (fun h => ?_) <;> (try rw [h]) <;> (try simp at h) <;> (try (exfalso; omega))) | (refine nth_get hn ?_))
      refine get1_c hS2 hG (by omega) (by omega) (fun s2 hb h2 => ?_) (fun s2 b hb h2 => ?_)
      all_goals
        simp only [hb, List.append_nil] at hnx
        rw [← hnx.1, ← hnx.2] at h2
        repeat' (first | (simp -dsimp only [↓reduceIte, go_sem, t5, t6, t7, t15, t16, t17, w1]) | (refine arr_intro fun _ => ?_) | (refine later_intro ⟨keeps_nil, ?_⟩) | (refine later_intro ⟨keeps_refl, ?_⟩) | (with_reducible refine keeps_go ?_ ?_; focus (first | (simp [keeps_cons, keeps_none, objs_app, objs_app0]; done) | (simp only [keeps_cons, keeps_none, objs_app0, objs_app, and_true]; first | rfl | exact ⟨rfl, rfl⟩ | exact ⟨rfl, rfl, rfl⟩))) | (with_reducible refine (And.intro (a := keeps _ _ _) ?_ ?_); focus (first | (simp [keeps_cons, keeps_none, objs_app, objs_app0]; done) | (simp only [keeps_cons, keeps_none, objs_app0, objs_app, and_true]; first | rfl | exact ⟨rfl, rfl⟩ | exact ⟨rfl, rfl, rfl⟩))) | (refine both_ways ?_ ?_) | (rw [wrap_i64 (by omega) (by omega)]) | (refine guardV_split (fun h => ?_) (fun h => ?_) <;> (try rw [h]) <;> (try simp at h) <;> (try (exfalso; omega))))
        refine later_intro ⟨i + 1, by omega, by omega, h2, ?_, ?_, ?_, ?_, ?_, ?_⟩ <;> (try simp only [go_sem, t5, t6, t7, t15, t16, t17]) <;> (try rfl)
    · obtain rfl : i = m.nums.length := by omega
      have hlt1 : ¬ ((m.nums.length : Nat) : Int) < m.nums.length := by omega
      rw [List.take_length] at hG
      obtain ⟨tn, tf, p3, p4, z1, z2, ap, a1, a2⟩ := hG.o
      have q3 := cellAt_known p3
      have q4 := cellAt_known p4
      have hl4 := cell_ltB p4
      have hfl := foundL_len (B := B) (c := m.client) (l := m.nums)
      have hd : (noneM m.client (noneL B m.client m.nums)).nums = noneL B m.client m.nums := rfl
      by_cases hn0 : noneL B m.client m.nums = []
      · have hn1 : ¬ ((noneL B m.client m.nums).length : Int) > 0 := by rw [hn0]; simp
        repeat' (first | (simp -dsimp only [↓reduceIte, go_sem, t5, t6, t7, t15, t16, t17, hlt1, q3, q4, hd, hn1]) | (refine arr_intro fun _ => ?_) | (refine later_intro ⟨keeps_nil, ?_⟩) | (refine later_intro ⟨keeps_refl, ?_⟩) | (with_reducible refine keeps_go ?_ ?_; focus (first | (simp [keeps_cons, keeps_none, objs_app, objs_app0]; done) | (simp only [keeps_cons, keeps_none, objs_app0, objs_app, and_true]; first | rfl | exact ⟨rfl, rfl⟩ | exact ⟨rfl, rfl, rfl⟩))) | (with_reducible refine (And.intro (a := keeps _ _ _) ?_ ?_); focus (first | (simp [keeps_cons, keeps_none, objs_app, objs_app0]; done) | (simp only [keeps_cons, keeps_none, objs_app0, objs_app, and_true]; first | rfl | exact ⟨rfl, rfl⟩ | exact ⟨rfl, rfl, rfl⟩))) | (refine both_ways ?_ ?_) | (rw [wrap_i64 (by omega) (by omega)]) | (refine guardV_split (fun h => ?_) (fun h => ?_) <;> (try rw [h]) <;> (try simp at h) <;> (try (exfalso; omega))) | ((refine send_c (by omega) fun s4 t4 hx4 => ?_)))
        exact hK _ _ _ (by unfold lettersM; rw [if_pos hn0]; simp) (hxa.trans (hG.x.trans hx4))
      · have hn1 : ((noneL B m.client m.nums).length : Int) > 0 := by have := List.length_pos_iff.2 hn0; omega
        have g3 : ∀ n, (growS s' tf n 275).objs[s.objs.length + 2]? = some (.cells (.slice tf ((foundL B m.client m.nums).map msgX))) := fun n => by rw [growS_objs]; exact p4
        have g4 := fun n => cellAt_known (g3 n)
        have g5 : ∀ n v p, cellAt ((growS s' tf n 275).set (s.objs.length + 2) (.cells v)) (s.objs.length + 2) p = v.at p := fun n v p => cellAt_known (objs_setSZ (by rw [growS_objs]; exact hl4)) p
        repeat' (first | (simp -dsimp only [↓reduceIte, go_sem, t5, t6, t7, t15, t16, t17, hlt1, q3, q4, hd, hn1, g3, g4, g5]) | (refine arr_intro fun _ => ?_) | (refine later_intro ⟨keeps_nil, ?_⟩) | (refine later_intro ⟨keeps_refl, ?_⟩) | (with_reducible refine keeps_go ?_ ?_; focus (first | (simp [keeps_cons, keeps_none, objs_app, objs_app0]; done) | (simp only [keeps_cons, keeps_none, objs_app0, objs_app, and_true]; first | rfl | exact ⟨rfl, rfl⟩ | exact ⟨rfl, rfl, rfl⟩))) | (with_reducible refine (And.intro (a := keeps _ _ _) ?_ ?_); focus (first | (simp [keeps_cons, keeps_none, objs_app, objs_app0]; done) | (simp only [keeps_cons, keeps_none, objs_app0, objs_app, and_true]; first | rfl | exact ⟨rfl, rfl⟩ | exact ⟨rfl, rfl, rfl⟩))) | (refine both_ways ?_ ?_) | (rw [wrap_i64 (by omega) (by omega)]) | (refine guardV_split (fun h => ?_) (fun h => ?_) <;> (try rw [h]) <;> (try simp at h) <;> (try (exfalso; omega))) | (refine build_slice E76 rfl (by decide) (by intro v hv; simp at hv; subst hv; simp [go_sem]) ?_) | (refine append_msg a2 (Nat.le_trans hfl.1 (Nat.le_trans hl (by decide))) ?_))
        refine send_c (L := foundL B m.client m.nums ++ [(Tk.full, tn, noneM m.client (noneL B m.client m.nums))]) (by simp; omega) fun s5 t5 hx5 => ?_
        repeat' (first | (simp -dsimp only [↓reduceIte, go_sem]) | (refine arr_intro fun _ => ?_) | (refine later_intro ⟨keeps_nil, ?_⟩) | (refine later_intro ⟨keeps_refl, ?_⟩) | (with_reducible refine keeps_go ?_ ?_; focus (first | (simp [keeps_cons, keeps_none, objs_app, objs_app0]; done) | (simp only [keeps_cons, keeps_none, objs_app0, objs_app, and_true]; first | rfl | exact ⟨rfl, rfl⟩ | exact ⟨rfl, rfl, rfl⟩))) | (with_reducible refine (And.intro (a := keeps _ _ _) ?_ ?_); focus (first | (simp [keeps_cons, keeps_none, objs_app, objs_app0]; done) | (simp only [keeps_cons, keeps_none, objs_app0, objs_app, and_true]; first | rfl | exact ⟨rfl, rfl⟩ | exact ⟨rfl, rfl, rfl⟩))) | (refine both_ways ?_ ?_) | (rw [wrap_i64 (by omega) (by omega)]) | (refine guardV_split (fun h => ?_) (fun h => ?_) <;> (try rw [h]) <;> (try simp at h) <;> (try (exfalso; omega))))
        exact hK _ _ _ (by unfold lettersM; rw [if_neg hn0]; simp) (hxa.trans (((hG.x.grow z2).set hG.n4).trans hx5))
end Go.Aff.L10

