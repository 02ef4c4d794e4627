import Derived.Test.YtipnjeciaagabaaG24

set_option linter.unusedSimpArgs false
set_option linter.unusedVariables false

/- Layer 10, walked: the reference's bytes. -/
namespace Go.Aff.L10
open Go.Proofs Go.Aff Go.Aff.L01 Classical
set_option linter.unusedVariables false
set_option linter.unusedSimpArgs false
set_option maxRecDepth 20000
attribute [local go_sem] push_app app_app length_app cellAt_app cellAt_app0 set_app set_app0 objs_app objs_app0 List.cons_append List.nil_append List.length_cons List.length_nil List.getElem?_cons_zero List.getElem?_cons_succ List.set_cons_zero List.set_cons_succ List.length_map
attribute [-go_sem] cellAt_new
attribute [-simp] List.length_flatMap
attribute [local go_sem] Try.underlying3 Try.underlying4 Try.underlying5 Try.underlying9 Try.underlying29 Try.underlying30 Try.underlying33 Try.underlying38 Try.underlying24 Try.underlying89 subPs_0 subAt_0 subSet_0 subPs_1 subAt_1 subSet_1 subPs_2 subAt_2 subSet_2 subPs_3 subAt_3 subSet_3 subPs_4 subAt_4 subSet_4 subPs_5 subAt_5 subSet_5 sizes_sub shapes_sub fits_sub zero_sub zt_sub built_sub Try.underlying32 pendPs_0 pendAt_0 pendSet_0 pendPs_1 pendAt_1 pendSet_1 pendPs_2 pendAt_2 pendSet_2 pendPs_3 pendAt_3 pendSet_3 pendPs_4 pendAt_4 pendSet_4 pendPs_5 pendAt_5 pendSet_5 sizes_pend shapes_pend fits_pend zero_pend zt_pend built_pend Try.underlying98 repPs_0 repAt_0 repSet_0 repPs_1 repAt_1 repSet_1 repPs_2 repAt_2 repSet_2 repPs_3 repAt_3 repSet_3 repPs_4 repAt_4 repSet_4 repPs_5 repAt_5 repSet_5 repPs_6 repAt_6 repSet_6 repPs_7 repAt_7 repSet_7 repPs_8 repAt_8 repSet_8 repPs_9 repAt_9 repSet_9 sizes_rep shapes_rep fits_rep zero_rep zt_rep built_rep Try.underlying35 blobPs_0 blobAt_0 blobSet_0 blobPs_1 blobAt_1 blobSet_1 blobPs_2 blobAt_2 blobSet_2 blobPs_3 blobAt_3 blobSet_3 sizes_blob shapes_blob fits_blob zero_blob zt_blob built_blob Try.underlying37 msgPs_0 msgAt_0 msgSet_0 msgPs_1 msgAt_1 msgSet_1 msgPs_2 msgAt_2 msgSet_2 msgPs_3 msgAt_3 msgSet_3 msgPs_4 msgAt_4 msgSet_4 msgPs_5 msgAt_5 msgSet_5 msgPs_6 msgAt_6 msgSet_6 msgPs_7 msgAt_7 msgSet_7 msgPs_8 msgAt_8 msgSet_8 msgPs_9 msgAt_9 msgSet_9 sizes_msg shapes_msg fits_msg zero_msg zt_msg built_msg Try.underlying40 at_Ps_0 at_Set_0 at_Ps_1 at_Set_1 sizes_at_ shapes_at_
attribute [local go_sem] fits3 fits4 fits5 fits9 fits23 fits26 fits31 fits34 fits52 zt3 zero3 zt34 zero34 zt23 zero23 bin_sub_eql bin_pend_eql bin_pend_neq bin_blob_eql bin_dig23_eql bin_dig23_neq slice23
attribute [local go_sem ↓] blockQ_exit2
attribute [local simp] dig_ext

theorem build_u8 {KV : AV → Prop} {y : UInt8} (h : KV (.slice .full (u8s [y]))) : buildSliceW Try.prog 89 1 [(0, .int .u8 y.toNat)] KV :=
  build_slice E51 rfl (by decide) (by simp [go_sem, fits_leaf (P := Try.prog) (t := 5) L01.agg5 (by kernel_rfl)]) (by simpa [u8s] using h)
theorem refBytes_c {d : Dig} {σ : AST} {K : AV → AST → Prop} (hK : K (.str d.l) σ) : TCalls Try.prog 45 [.dig d] σ K := by
  refine TCalls.drop ?_
  refine tcalls_walk Try.f45 _ [.tmp 2] Try.func45 rfl rfl rfl mixed (Nat.le_of_ble_eq_true rfl) rfl fun hlen => ?_
  repeat' (first | (simp -dsimp only [↓reduceIte, go_sem]) | (refine arr_intro fun _ => ?_) | (refine later_intro ⟨keeps_nil, ?_⟩) | (refine later_intro ⟨keeps_refl, ?_⟩) | (with_reducible refine keeps_go ?_ ?_; focus (first | (simp [keeps_cons, keeps_none, objs_app, objs_app0]; done) | (simp only [keeps_cons, keeps_none, objs_app0, objs_app, and_true]; first | rfl | exact ⟨rfl, rfl⟩ | exact ⟨rfl, rfl, rfl⟩))) | (with_reducible refine (And.intro (a := keeps _ _ _) ?_ ?_); focus (first | (simp [keeps_cons, keeps_none, objs_app, objs_app0]; done) | (simp only [keeps_cons, keeps_none, objs_app0, objs_app, and_true]; first | rfl | exact ⟨rfl, rfl⟩ | exact ⟨rfl, rfl, rfl⟩))) | (refine both_ways ?_ ?_) | (rw [wrap_i64 (by omega) (by omega)]) | (refine guardV_split (fun h => ?_) (fun h => ?_) <;> (try rw [h]) <;> (try simp at h) <;> (try (exfalso; omega))))
  have hd := d.h
  have hx0 : Ext σ (σ.app [.cells (.dig d)]) := Ext.app _ _
  have ho0 : (σ.app [.cells (.dig d)]).objs[σ.objs.length]? = some (.cells (.dig d)) := objs_app0
  refine awp_rounds (fun (i : Nat) τ s => ∃ tk, i ≤ 32 ∧ Gr σ s tk i ∧ s.objs[σ.objs.length]? = some (.cells (.dig d)) ∧ τ 1 = .ptr (some (σ.objs.length, [])) ∧ τ 3 = .slice tk (u8s (d.l.take i)) ∧ τ 4 = .int .i64 i) (fun i => 32 - i) 0 ?_ ?_
  · refine ⟨.full, by omega, Gr.start' hx0, ho0, ?_, ?_, ?_⟩ <;> (try simp only [go_sem]) <;> rfl
  · rintro i τ s ⟨tk, hi, hg, ho, t1, t3, t4⟩
    have c := cellAt_known ho
    simp -dsimp only [↓reduceIte, go_sem, t1, t3, t4]
    refine boolW_split (fun hb => ?_) (fun hb => ?_)
    · have hb : i < 32 := by simp at hb; omega
      obtain ⟨y, hy, hm⟩ := get_of_lt (l := d.l) (i := i) (by omega)
      have htk : d.l.take (i + 1) = d.l.take i ++ [y] := by rw [List.take_add_one, hy]; simp
      have hle : (d.l.take i).length = i := by simp; omega
      repeat' (first | (simp -dsimp only [↓reduceIte, go_sem, t1, t3, t4, c, at_dig1, hy]) | (refine arr_intro fun _ => ?_) | (refine later_intro ⟨keeps_nil, ?_⟩) | (refine later_intro ⟨keeps_refl, ?_⟩) | (with_reducible refine keeps_go ?_ ?_; focus (first | (simp [keeps_cons, keeps_none, objs_app, objs_app0]; done) | (simp only [keeps_cons, keeps_none, objs_app0, objs_app, and_true]; first | rfl | exact ⟨rfl, rfl⟩ | exact ⟨rfl, rfl, rfl⟩))) | (with_reducible refine (And.intro (a := keeps _ _ _) ?_ ?_); focus (first | (simp [keeps_cons, keeps_none, objs_app, objs_app0]; done) | (simp only [keeps_cons, keeps_none, objs_app0, objs_app, and_true]; first | rfl | exact ⟨rfl, rfl⟩ | exact ⟨rfl, rfl, rfl⟩))) | (refine both_ways ?_ ?_) | (rw [wrap_i64 (by omega) (by omega)]) | (refine guardV_split (fun h => ?_) (fun h => ?_) <;> (try rw [h]) <;> (try simp at h) <;> (try (exfalso; omega))) | (refine indexAddr_dig Try.underlying30 (by simp [go_sem]) (c []) hb ?_) | (refine build_u8 ?_) | (refine append_bytes E51 S51 (canApp_of hg.c hle) (by simp only [hle, List.length_cons, List.length_nil]; omega) (by simp only [maxL, hle, List.length_cons, List.length_nil]; omega) ?_))
      refine later_intro ⟨i + 1, by omega, growT s tk, by omega, ?_, ?_, ?_, ?_, ?_⟩ <;> (try simp only [go_sem, t1, t3, t4])
      · have := hg.grow (m := i + 1); simpa [hle] using this
      · rw [growS_objs]; exact ho
      · rw [htk]
      · rfl
    · have hb : i = 32 := by simp at hb; omega
      subst hb
      have ht : d.l.take 32 = d.l := List.take_of_length_le (by omega)
      rw [ht] at t3
      repeat' (first | (simp -dsimp only [↓reduceIte, go_sem, t1, t3, t4]) | (refine arr_intro fun _ => ?_) | (refine later_intro ⟨keeps_nil, ?_⟩) | (refine later_intro ⟨keeps_refl, ?_⟩) | (with_reducible refine keeps_go ?_ ?_; focus (first | (simp [keeps_cons, keeps_none, objs_app, objs_app0]; done) | (simp only [keeps_cons, keeps_none, objs_app0, objs_app, and_true]; first | rfl | exact ⟨rfl, rfl⟩ | exact ⟨rfl, rfl, rfl⟩))) | (with_reducible refine (And.intro (a := keeps _ _ _) ?_ ?_); focus (first | (simp [keeps_cons, keeps_none, objs_app, objs_app0]; done) | (simp only [keeps_cons, keeps_none, objs_app0, objs_app, and_true]; first | rfl | exact ⟨rfl, rfl⟩ | exact ⟨rfl, rfl, rfl⟩))) | (refine both_ways ?_ ?_) | (rw [wrap_i64 (by omega) (by omega)]) | (refine guardV_split (fun h => ?_) (fun h => ?_) <;> (try rw [h]) <;> (try simp at h) <;> (try (exfalso; omega))))
      exact ⟨hg.x, rfl, by simpa [AV.strip] using hK⟩

theorem refInts_c {l : List Int} {tk : Tk} {σ : AST} {K : AV → AST → Prop} (hl : InI l) (hn : l.length ≤ 1000000) (hK : K (.str (l.flatMap numS)) σ) : TCalls Try.prog 27 [.slice tk (l.map (AV.int .i64))] σ K := by
  have hN := numsN hl
  refine tcalls_walk Try.f27 _ [.tmp 2] Try.func27 rfl rfl rfl mixed (Nat.le_of_ble_eq_true rfl) rfl fun hlen => ?_
  repeat' (first | (simp -dsimp only [↓reduceIte, go_sem]) | (refine arr_intro fun _ => ?_) | (refine later_intro ⟨keeps_nil, ?_⟩) | (refine later_intro ⟨keeps_refl, ?_⟩) | (with_reducible refine keeps_go ?_ ?_; focus (first | (simp [keeps_cons, keeps_none, objs_app, objs_app0]; done) | (simp only [keeps_cons, keeps_none, objs_app0, objs_app, and_true]; first | rfl | exact ⟨rfl, rfl⟩ | exact ⟨rfl, rfl, rfl⟩))) | (with_reducible refine (And.intro (a := keeps _ _ _) ?_ ?_); focus (first | (simp [keeps_cons, keeps_none, objs_app, objs_app0]; done) | (simp only [keeps_cons, keeps_none, objs_app0, objs_app, and_true]; first | rfl | exact ⟨rfl, rfl⟩ | exact ⟨rfl, rfl, rfl⟩))) | (refine both_ways ?_ ?_) | (rw [wrap_i64 (by omega) (by omega)]) | (refine guardV_split (fun h => ?_) (fun h => ?_) <;> (try rw [h]) <;> (try simp at h) <;> (try (exfalso; omega))))
  refine awp_rounds (fun (i : Nat) τ s => i ≤ l.length ∧ s = σ ∧ τ 0 = .slice tk (l.map (AV.int .i64)) ∧ τ 3 = .str ((l.take i).flatMap numS) ∧ τ 4 = .int .i64 i) (fun i => l.length - i) 0 ?_ ?_
  · refine ⟨by omega, rfl, ?_, ?_, ?_⟩ <;> (try simp only [go_sem]) <;> rfl
  · rintro i τ s ⟨hi, rfl, t0, t3, t4⟩
    have hNi := hN i
    simp -dsimp only [↓reduceIte, go_sem, t0, t3, t4]
    refine arr_intro fun _ => ?_
    simp -dsimp only [↓reduceIte, go_sem, t0, t3, t4]
    refine boolW_split (fun hb => ?_) (fun hb => ?_)
    · have hb : i < l.length := by simp at hb; omega
      obtain ⟨y, hy, hm⟩ := get_of_lt hb
      have htk : (l.take (i + 1)).flatMap numS = (l.take i).flatMap numS ++ numS y := by
        rw [List.take_add_one, hy]; simp
      have h22 := numS_len (hl y hm).1 (hl y hm).2
      repeat' (first | (simp -dsimp only [↓reduceIte, go_sem, t0, t3, t4]) | (refine arr_intro fun _ => ?_) | (refine later_intro ⟨keeps_nil, ?_⟩) | (refine later_intro ⟨keeps_refl, ?_⟩) | (with_reducible refine keeps_go ?_ ?_; focus (first | (simp [keeps_cons, keeps_none, objs_app, objs_app0]; done) | (simp only [keeps_cons, keeps_none, objs_app0, objs_app, and_true]; first | rfl | exact ⟨rfl, rfl⟩ | exact ⟨rfl, rfl, rfl⟩))) | (with_reducible refine (And.intro (a := keeps _ _ _) ?_ ?_); focus (first | (simp [keeps_cons, keeps_none, objs_app, objs_app0]; done) | (simp only [keeps_cons, keeps_none, objs_app0, objs_app, and_true]; first | rfl | exact ⟨rfl, rfl⟩ | exact ⟨rfl, rfl, rfl⟩))) | (refine both_ways ?_ ?_) | (rw [wrap_i64 (by omega) (by omega)]) | (refine guardV_split (fun h => ?_) (fun h => ?_) <;> (try rw [h]) <;> (try simp at h) <;> (try (exfalso; omega))) | (refine nth_get hy ?_) | (refine L01.Number_c (hl y hm).1 (hl y hm).2 ?_) | (refine side_later (by simp only [maxL, List.length_append]; omega) ?_))
      refine ⟨i + 1, by omega, by omega, rfl, ?_, ?_, ?_⟩ <;> (try simp only [go_sem, t0, t3, t4])
      · rw [htk]
      · rfl
    · have hb : i = l.length := by simp at hb; omega
      subst hb
      repeat' (first | (simp -dsimp only [↓reduceIte, go_sem, t0, t3, t4]) | (refine arr_intro fun _ => ?_) | (refine later_intro ⟨keeps_nil, ?_⟩) | (refine later_intro ⟨keeps_refl, ?_⟩) | (with_reducible refine keeps_go ?_ ?_; focus (first | (simp [keeps_cons, keeps_none, objs_app, objs_app0]; done) | (simp only [keeps_cons, keeps_none, objs_app0, objs_app, and_true]; first | rfl | exact ⟨rfl, rfl⟩ | exact ⟨rfl, rfl, rfl⟩))) | (with_reducible refine (And.intro (a := keeps _ _ _) ?_ ?_); focus (first | (simp [keeps_cons, keeps_none, objs_app, objs_app0]; done) | (simp only [keeps_cons, keeps_none, objs_app0, objs_app, and_true]; first | rfl | exact ⟨rfl, rfl⟩ | exact ⟨rfl, rfl, rfl⟩))) | (refine both_ways ?_ ?_) | (rw [wrap_i64 (by omega) (by omega)]) | (refine guardV_split (fun h => ?_) (fun h => ?_) <;> (try rw [h]) <;> (try simp at h) <;> (try (exfalso; omega))))
      simpa using hK

theorem refText_c {t : List UInt8} {σ : AST} {K : AV → AST → Prop} (hn : t.length ≤ 1000000) (hK : K (.str (textS t)) σ) : TCalls Try.prog 28 [.str t] σ K := by
  have hd := dg_len20 (show t.length < 18446744073709551616 by omega)
  refine tcalls_walk Try.f28 _ [.tmp 2] Try.func28 rfl rfl rfl mixed (Nat.le_of_ble_eq_true rfl) rfl fun hlen => ?_
  repeat' (first | (simp -dsimp only [↓reduceIte, go_sem]) | (refine arr_intro fun _ => ?_) | (refine later_intro ⟨keeps_nil, ?_⟩) | (refine later_intro ⟨keeps_refl, ?_⟩) | (with_reducible refine keeps_go ?_ ?_; focus (first | (simp [keeps_cons, keeps_none, objs_app, objs_app0]; done) | (simp only [keeps_cons, keeps_none, objs_app0, objs_app, and_true]; first | rfl | exact ⟨rfl, rfl⟩ | exact ⟨rfl, rfl, rfl⟩))) | (with_reducible refine (And.intro (a := keeps _ _ _) ?_ ?_); focus (first | (simp [keeps_cons, keeps_none, objs_app, objs_app0]; done) | (simp only [keeps_cons, keeps_none, objs_app0, objs_app, and_true]; first | rfl | exact ⟨rfl, rfl⟩ | exact ⟨rfl, rfl, rfl⟩))) | (refine both_ways ?_ ?_) | (rw [wrap_i64 (by omega) (by omega)]) | (refine guardV_split (fun h => ?_) (fun h => ?_) <;> (try rw [h]) <;> (try simp at h) <;> (try (exfalso; omega))) | (refine L01.Digits_c _ (by omega) ?_) | (refine side_later (by simp only [maxL, List.length_append, List.length_cons, List.length_nil]; omega) ?_))
  simpa [textS] using hK

theorem refDig_c {d : Dig} {σ : AST} {K : AV → AST → Prop} (hK : K (.str (digS d)) σ) : TCalls Try.prog 29 [.dig d] σ K := by
  refine TCalls.drop ?_
  refine tcalls_walk Try.f29 _ [.tmp 2] Try.func29 rfl rfl rfl mixed (Nat.le_of_ble_eq_true rfl) rfl fun hlen => ?_
  repeat' (first | (simp -dsimp only [↓reduceIte, go_sem]) | (refine arr_intro fun _ => ?_) | (refine later_intro ⟨keeps_nil, ?_⟩) | (refine later_intro ⟨keeps_refl, ?_⟩) | (with_reducible refine keeps_go ?_ ?_; focus (first | (simp [keeps_cons, keeps_none, objs_app, objs_app0]; done) | (simp only [keeps_cons, keeps_none, objs_app0, objs_app, and_true]; first | rfl | exact ⟨rfl, rfl⟩ | exact ⟨rfl, rfl, rfl⟩))) | (with_reducible refine (And.intro (a := keeps _ _ _) ?_ ?_); focus (first | (simp [keeps_cons, keeps_none, objs_app, objs_app0]; done) | (simp only [keeps_cons, keeps_none, objs_app0, objs_app, and_true]; first | rfl | exact ⟨rfl, rfl⟩ | exact ⟨rfl, rfl, rfl⟩))) | (refine both_ways ?_ ?_) | (rw [wrap_i64 (by omega) (by omega)]) | (refine guardV_split (fun h => ?_) (fun h => ?_) <;> (try rw [h]) <;> (try simp at h) <;> (try (exfalso; omega))) | (refine refBytes_c ?_) | (refine refText_c (by simp [d.h]) ?_))
  exact ⟨Ext.app _ _, rfl, by simpa [AV.strip] using hK⟩
end Go.Aff.L10

/- Layer 10, walked: Lay. -/
namespace Go.Aff.L10
open Go.Proofs Go.Aff Go.Aff.L01 Classical
set_option linter.unusedVariables false
set_option linter.unusedSimpArgs false
set_option maxRecDepth 20000
attribute [local go_sem] push_app app_app length_app cellAt_app cellAt_app0 set_app set_app0 objs_app objs_app0 List.cons_append List.nil_append List.length_cons List.length_nil List.getElem?_cons_zero List.getElem?_cons_succ List.set_cons_zero List.set_cons_succ List.length_map
attribute [-go_sem] cellAt_new
attribute [-simp] List.length_flatMap
attribute [local go_sem] Try.underlying3 Try.underlying4 Try.underlying5 Try.underlying9 Try.underlying29 Try.underlying30 Try.underlying33 Try.underlying38 Try.underlying24 Try.underlying89 subPs_0 subAt_0 subSet_0 subPs_1 subAt_1 subSet_1 subPs_2 subAt_2 subSet_2 subPs_3 subAt_3 subSet_3 subPs_4 subAt_4 subSet_4 subPs_5 subAt_5 subSet_5 sizes_sub shapes_sub fits_sub zero_sub zt_sub built_sub Try.underlying32 pendPs_0 pendAt_0 pendSet_0 pendPs_1 pendAt_1 pendSet_1 pendPs_2 pendAt_2 pendSet_2 pendPs_3 pendAt_3 pendSet_3 pendPs_4 pendAt_4 pendSet_4 pendPs_5 pendAt_5 pendSet_5 sizes_pend shapes_pend fits_pend zero_pend zt_pend built_pend Try.underlying98 repPs_0 repAt_0 repSet_0 repPs_1 repAt_1 repSet_1 repPs_2 repAt_2 repSet_2 repPs_3 repAt_3 repSet_3 repPs_4 repAt_4 repSet_4 repPs_5 repAt_5 repSet_5 repPs_6 repAt_6 repSet_6 repPs_7 repAt_7 repSet_7 repPs_8 repAt_8 repSet_8 repPs_9 repAt_9 repSet_9 sizes_rep shapes_rep fits_rep zero_rep zt_rep built_rep Try.underlying35 blobPs_0 blobAt_0 blobSet_0 blobPs_1 blobAt_1 blobSet_1 blobPs_2 blobAt_2 blobSet_2 blobPs_3 blobAt_3 blobSet_3 sizes_blob shapes_blob fits_blob zero_blob zt_blob built_blob Try.underlying37 msgPs_0 msgAt_0 msgSet_0 msgPs_1 msgAt_1 msgSet_1 msgPs_2 msgAt_2 msgSet_2 msgPs_3 msgAt_3 msgSet_3 msgPs_4 msgAt_4 msgSet_4 msgPs_5 msgAt_5 msgSet_5 msgPs_6 msgAt_6 msgSet_6 msgPs_7 msgAt_7 msgSet_7 msgPs_8 msgAt_8 msgSet_8 msgPs_9 msgAt_9 msgSet_9 sizes_msg shapes_msg fits_msg zero_msg zt_msg built_msg Try.underlying40 at_Ps_0 at_Set_0 at_Ps_1 at_Set_1 sizes_at_ shapes_at_
attribute [local go_sem] fits3 fits4 fits5 fits9 fits23 fits26 fits31 fits34 fits52 zt3 zero3 zt34 zero34 zt23 zero23 bin_sub_eql bin_pend_eql bin_pend_neq bin_blob_eql bin_dig23_eql bin_dig23_neq slice23
attribute [local go_sem ↓] blockQ_exit2
attribute [local simp] dig_ext

section
variable {σ : AST} {K : AV → AST → Prop} {tk : Tk}
theorem refInts2_c {a b : Int} (h : InI [a, b]) (hK : K (.str ([a, b].flatMap numS)) σ) : TCalls Try.prog 27 [.slice tk [.int .i64 a, .int .i64 b]] σ K := refInts_c (l := [a, b]) h (by simp) hK
theorem refInts3_c {a b c : Int} (h : InI [a, b, c]) (hK : K (.str ([a, b, c].flatMap numS)) σ) : TCalls Try.prog 27 [.slice tk [.int .i64 a, .int .i64 b, .int .i64 c]] σ K := refInts_c (l := [a, b, c]) h (by simp) hK
theorem refInts4_c {a b c d : Int} (h : InI [a, b, c, d]) (hK : K (.str ([a, b, c, d].flatMap numS)) σ) : TCalls Try.prog 27 [.slice tk [.int .i64 a, .int .i64 b, .int .i64 c, .int .i64 d]] σ K := refInts_c (l := [a, b, c, d]) h (by simp) hK
end
theorem InI.len {l : List Int} (h : InI l) : (l.flatMap numS).length ≤ l.length * 22 := by have := numsN h l.length; simpa using this
theorem digS_len (d : Dig) : (digS d).length ≤ 53 := textS_le (m := 32) (by simp [d.h]) (by omega)

theorem refAns_c {x : Rep} (hok : x.Ok) {tk : Tk} {σ : AST} {K : AV → AST → Prop} (hK : K (.str (ansB x)) σ) : TCalls Try.prog 30 [repV tk x] σ K := by
  obtain ⟨hp, h1, h2, h3, h4, h5, h6, h7, h8⟩ := hok
  simp only [In, ViewOk] at h1 h2 h5 h6 h7
  refine TCalls.drop ?_
  refine tcalls_walk Try.f30 _ [.tmp 2] Try.func30 rfl rfl rfl mixed (Nat.le_of_ble_eq_true rfl) rfl fun hlen => ?_
  have i1 : InI [x.num, x.last] := by (intro n hn; simp at hn; omega)
  have l1 := i1.len
  have l2 := textS_le (s := x.view) (m := 512) (by omega) (by omega)
  have l3 := digS_len x.commit
  have i4 : InI [(x.pending.length : Int)] := by (intro n hn; simp at hn; omega)
  have l4 := i4.len
  simp only [List.flatMap_cons, List.flatMap_nil, List.append_nil] at l4
  repeat' (first | (simp -dsimp only [↓reduceIte, go_sem]) | (refine arr_intro fun _ => ?_) | (refine later_intro ⟨keeps_nil, ?_⟩) | (refine later_intro ⟨keeps_refl, ?_⟩) | (with_reducible refine keeps_go ?_ ?_; focus (first | (simp [keeps_cons, keeps_none, objs_app, objs_app0]; done) | (simp only [keeps_cons, keeps_none, objs_app0, objs_app, and_true]; first | rfl | exact ⟨rfl, rfl⟩ | exact ⟨rfl, rfl, rfl⟩))) | (with_reducible refine (And.intro (a := keeps _ _ _) ?_ ?_); focus (first | (simp [keeps_cons, keeps_none, objs_app, objs_app0]; done) | (simp only [keeps_cons, keeps_none, objs_app0, objs_app, and_true]; first | rfl | exact ⟨rfl, rfl⟩ | exact ⟨rfl, rfl, rfl⟩))) | (refine both_ways ?_ ?_) | (rw [wrap_i64 (by omega) (by omega)]) | (refine guardV_split (fun h => ?_) (fun h => ?_) <;> (try rw [h]) <;> (try simp at h) <;> (try (exfalso; omega))) | (with_reducible refine awp_drawS (id := 1) [0, 1, 2, 3, 4, 6, 7, 10, 11, 14, 15, 16, 5, 8, 9, 12, 13, 17, 18, 19] (by kernel_rfl) ?_) | (refine bI2 ?_) | (refine refInts2_c i1 ?_) | (refine refText_c (by omega) ?_) | (refine refDig_c ?_) | (refine L01.Number_c (by omega) (by omega) ?_) | (with_reducible refine side_later (by (simp only [maxL, List.length_append, List.length_cons, List.length_nil] at *; omega)) ?_))
  have hz : ∀ i, ((x.pending.take i).flatMap pendB).length ≤ x.pending.length * 194 := fun i => flatN fun p hm => by
    have h1 := numsN (hp p hm).in_ 4
    have h2 := digs_take (l := [p.asked, p.proof]) (i := 2)
    simp at h1 h2
    simp [pendB]; omega
  generalize hys : [x.num, x.last].flatMap numS ++ textS x.view ++ digS x.commit ++ numS x.pending.length = ys
  have hy : ys.length ≤ 2000 := by rw [← hys]; (simp only [maxL, List.length_append, List.length_cons, List.length_nil] at *; omega)
  refine awp_rounds (fun (i : Nat) τ s => i ≤ x.pending.length ∧ Ext σ s ∧ s.objs[σ.objs.length]? = some (.cells (repV tk x)) ∧ τ 1 = .ptr (some (σ.objs.length, [])) ∧ τ 3 = .str (ys ++ (x.pending.take i).flatMap pendB) ∧ τ 4 = .int .i64 i) (fun i => x.pending.length - i) 0 ?_ ?_
  · refine ⟨by omega, Ext.app _ _, objs_app0, ?_, ?_, ?_⟩ <;> (try simp only [go_sem]) <;> (try rfl)
    rw [← hys]; simp
  · rintro i τ s ⟨hi, hx, ho, t1, t3, t4⟩
    have hzi := hz i
    have c := cellAt_known ho
    have hlt := (List.getElem?_eq_some_iff.1 ho).1
    simp -dsimp only [↓reduceIte, go_sem, t1, t3, t4, c]
    refine arr_intro fun _ => ?_
    simp -dsimp only [↓reduceIte, go_sem, t1, t3, t4, c]
    refine boolW_split (fun hb => ?_) (fun hb => ?_)
    · have hb : i < x.pending.length := by simp at hb; omega
      obtain ⟨y, hy, hm⟩ := get_of_lt hb
      have htk : (x.pending.take (i + 1)).flatMap pendB = (x.pending.take i).flatMap pendB ++ pendB y := by
        rw [List.take_add_one, hy]; simp
      have hq := (hp y hm).in_
      have m1 := hq.len
      have m2 := digS_len y.asked
      have m3 := digS_len y.proof
      repeat' (first | (simp -dsimp only [↓reduceIte, go_sem, t1, t3, t4, c]) | (refine arr_intro fun _ => ?_) | (refine later_intro ⟨keeps_nil, ?_⟩) | (refine later_intro ⟨keeps_refl, ?_⟩) | (with_reducible refine keeps_go ?_ ?_; focus (first | (simp [keeps_cons, keeps_none, objs_app, objs_app0]; done) | (simp only [keeps_cons, keeps_none, objs_app0, objs_app, and_true]; first | rfl | exact ⟨rfl, rfl⟩ | exact ⟨rfl, rfl, rfl⟩))) | (with_reducible refine (And.intro (a := keeps _ _ _) ?_ ?_); focus (first | (simp [keeps_cons, keeps_none, objs_app, objs_app0]; done) | (simp only [keeps_cons, keeps_none, objs_app0, objs_app, and_true]; first | rfl | exact ⟨rfl, rfl⟩ | exact ⟨rfl, rfl, rfl⟩))) | (refine both_ways ?_ ?_) | (rw [wrap_i64 (by omega) (by omega)]) | (refine guardV_split (fun h => ?_) (fun h => ?_) <;> (try rw [h]) <;> (try simp at h) <;> (try (exfalso; omega))) | (refine nth_get hy ?_) | (with_reducible refine awp_drawS (id := 6) [0, 1, 2, 3, 4, 5, 6, 7, 8, 9, 12, 13, 16, 17, 10, 11, 14, 15, 18, 19, 20] (by kernel_rfl) ?_) | (refine bI4 ?_) | (refine refInts4_c hq ?_) | (refine refDig_c ?_) | (with_reducible refine side_later (by (simp only [maxL, List.length_append, List.length_cons, List.length_nil] at *; omega)) ?_))
      refine later_intro ⟨i + 1, by omega, by omega, hx.trans (Ext.app _ _), objs_known_app ho _, ?_, ?_, ?_⟩ <;> (try simp only [go_sem, t1, t3, t4]) <;> (try rfl)
      rw [htk]; simp [pendB]
    · have hb : i = x.pending.length := by simp at hb; omega
      subst hb
      have i5 : InI [x.vnum] := by (intro n hn; simp at hn; omega)
      have l5 := i5.len
      simp only [List.flatMap_cons, List.flatMap_nil, List.append_nil] at l5
      have l6 := textS_le (s := x.value) (m := 256) (by omega) (by omega)
      have l7 := digS_len x.data
      have l8 := textS_le (s := x.seen) (m := 512) (by omega) (by omega)
      have l9 := digS_len x.seenTag
      repeat' (first | (simp -dsimp only [↓reduceIte, go_sem, t1, t3, t4, c]) | (refine arr_intro fun _ => ?_) | (refine later_intro ⟨keeps_nil, ?_⟩) | (refine later_intro ⟨keeps_refl, ?_⟩) | (with_reducible refine keeps_go ?_ ?_; focus (first | (simp [keeps_cons, keeps_none, objs_app, objs_app0]; done) | (simp only [keeps_cons, keeps_none, objs_app0, objs_app, and_true]; first | rfl | exact ⟨rfl, rfl⟩ | exact ⟨rfl, rfl, rfl⟩))) | (with_reducible refine (And.intro (a := keeps _ _ _) ?_ ?_); focus (first | (simp [keeps_cons, keeps_none, objs_app, objs_app0]; done) | (simp only [keeps_cons, keeps_none, objs_app0, objs_app, and_true]; first | rfl | exact ⟨rfl, rfl⟩ | exact ⟨rfl, rfl, rfl⟩))) | (refine both_ways ?_ ?_) | (rw [wrap_i64 (by omega) (by omega)]) | (refine guardV_split (fun h => ?_) (fun h => ?_) <;> (try rw [h]) <;> (try simp at h) <;> (try (exfalso; omega))) | (with_reducible refine awp_drawS (id := 7) [0, 1, 2, 5, 6, 9, 10, 13, 14, 17, 18, 3, 4, 7, 8, 11, 12, 15, 16, 19, 20, 21] (by kernel_rfl) ?_) | (refine refText_c (by omega) ?_) | (refine refDig_c ?_) | (refine L01.Number_c (by omega) (by omega) ?_) | (with_reducible refine side_later (by (simp only [maxL, List.length_append, List.length_cons, List.length_nil] at *; omega)) ?_))
      refine ⟨hx, rfl, ?_⟩
      rw [← hys]
      simpa [AV.strip, ansB] using hK
theorem ansB_len {x : Rep} (hok : x.Ok) : (ansB x).length ≤ 100000 := by
  obtain ⟨hp, h1, h2, h3, h4, h5, h6, h7, h8⟩ := hok
  simp only [In, ViewOk] at h1 h2 h5 h6 h7
  have hz : (x.pending.flatMap pendB).length ≤ x.pending.length * 194 := flat_len fun p hm => by
    have h1 := numsN (hp p hm).in_ 4
    have h2 := digs_take (l := [p.asked, p.proof]) (i := 2)
    simp at h1 h2
    simp [pendB]; omega
  have i1 : InI [x.num, x.last] := by (intro n hn; simp at hn; omega)
  have l1 := i1.len
  have l2 := textS_le (s := x.view) (m := 512) (by omega) (by omega)
  have l3 := digS_len x.commit
  have i4 : InI [(x.pending.length : Int)] := by (intro n hn; simp at hn; omega)
  have l4 := i4.len
  have i5 : InI [x.vnum] := by (intro n hn; simp at hn; omega)
  have l5 := i5.len
  have l6 := textS_le (s := x.value) (m := 256) (by omega) (by omega)
  have l7 := digS_len x.data
  have l8 := textS_le (s := x.seen) (m := 512) (by omega) (by omega)
  have l9 := digS_len x.seenTag
  simp only [List.length_cons, List.length_nil, List.flatMap_cons, List.flatMap_nil, List.append_nil, List.length_append] at *
  simp only [ansB, List.length_append, List.flatMap_cons, List.flatMap_nil, List.append_nil]
  omega
theorem numS2 : numS 2 = [50, 59] := by rw [numS, if_neg (by decide)]; rw [show (2 : Int).natAbs = 2 from rfl, dg_small (by decide)]; rfl
theorem lay_c {m : Msg} (hok : m.Ok) {t u : Tk} {σ : AST} {K : AV → AST → Prop} (hK : K (.str m.bytes) σ) : TCalls Try.prog 13 [msgV t u m] σ K := by
  refine TCalls.drop ?_
  have hkinds := hok.kinds
  obtain ⟨hf, hc, ho⟩ := hok
  simp only [In] at hc
  have hk1 : 1 ≤ m.kind ∧ m.kind ≤ 11 := by omega
  have i1 : InI [m.kind, m.client] := by (intro n hn; simp at hn; omega)
  have l1 := i1.len
  have n2 := numS2
  refine tcalls_walk Try.f13 _ [.tmp 2] Try.func13 rfl rfl rfl mixed (Nat.le_of_ble_eq_true rfl) rfl fun hlen => ?_
  simp -dsimp only [↓reduceIte, go_sem]
  refine bI2 ?_
  simp -dsimp only [↓reduceIte, go_sem]
  refine refInts2_c i1 ?_
  simp -dsimp only [↓reduceIte, go_sem]
  rcases hkinds with ⟨hq, hs⟩ | ⟨hq, hs⟩ | ⟨hq, hs⟩ | ⟨hq, hs⟩ | ⟨hq, hs⟩ | ⟨hq, hs⟩ | ⟨hq, hs⟩ | ⟨hq, hs⟩ | hq | ⟨hq, hs⟩ | hq
  · rw [hq] at l1
    obtain ⟨o1, o2, o3, o4⟩ := hs
    simp only [In] at o1 o2 o3
    have i2 : InI [m.sub.num, m.sub.kind, m.sub.target] := by (intro n hn; simp at hn; omega)
    have l2 := i2.len
    have l3 := textS_le (s := m.sub.value) (m := 256) (by omega) (by omega)
    have l4 := digS_len m.sub.asked
    have l5 := digS_len m.sub.data
    repeat' (first | (simp -dsimp only [↓reduceIte, go_sem, hq]) | (refine arr_intro fun _ => ?_) | (refine later_intro ⟨keeps_nil, ?_⟩) | (refine later_intro ⟨keeps_refl, ?_⟩) | (with_reducible refine keeps_go ?_ ?_; focus (first | (simp [keeps_cons, keeps_none, objs_app, objs_app0]; done) | (simp only [keeps_cons, keeps_none, objs_app0, objs_app, and_true]; first | rfl | exact ⟨rfl, rfl⟩ | exact ⟨rfl, rfl, rfl⟩))) | (with_reducible refine (And.intro (a := keeps _ _ _) ?_ ?_); focus (first | (simp [keeps_cons, keeps_none, objs_app, objs_app0]; done) | (simp only [keeps_cons, keeps_none, objs_app0, objs_app, and_true]; first | rfl | exact ⟨rfl, rfl⟩ | exact ⟨rfl, rfl, rfl⟩))) | (refine both_ways ?_ ?_) | (rw [wrap_i64 (by omega) (by omega)]) | (refine guardV_split (fun h => ?_) (fun h => ?_) <;> (try rw [h]) <;> (try simp at h) <;> (try (exfalso; omega))) | (with_reducible refine awp_drawS (id := 4) [0, 1, 2, 3, 4, 5, 6, 7, 8, 9, 10, 13, 14, 15, 18, 19, 20, 23, 24, 25, 11, 12, 16, 17, 21, 22, 26, 27, 28] (by kernel_rfl) ?_) | (refine bI1 ?_) | (refine bI2 ?_) | (refine bI3 ?_) | (refine refDig_c ?_) | (with_reducible refine side_later (by (simp only [maxL, List.length_append, List.length_cons, List.length_nil] at *; omega)) ?_) | (refine refInts3_c i2 ?_) | (refine refText_c (by omega) ?_))
    refine ⟨Ext.app _ _, rfl, ?_⟩
    simpa [AV.strip, Msg.bytes, Msg.rest, hq, subB, blobB, laidAll, part_all] using hK
  · rw [hq] at l1
    have l2 := ansB_len hs
    repeat' (first | (simp -dsimp only [↓reduceIte, go_sem, hq]) | (refine arr_intro fun _ => ?_) | (refine later_intro ⟨keeps_nil, ?_⟩) | (refine later_intro ⟨keeps_refl, ?_⟩) | (with_reducible refine keeps_go ?_ ?_; focus (first | (simp [keeps_cons, keeps_none, objs_app, objs_app0]; done) | (simp only [keeps_cons, keeps_none, objs_app0, objs_app, and_true]; first | rfl | exact ⟨rfl, rfl⟩ | exact ⟨rfl, rfl, rfl⟩))) | (with_reducible refine (And.intro (a := keeps _ _ _) ?_ ?_); focus (first | (simp [keeps_cons, keeps_none, objs_app, objs_app0]; done) | (simp only [keeps_cons, keeps_none, objs_app0, objs_app, and_true]; first | rfl | exact ⟨rfl, rfl⟩ | exact ⟨rfl, rfl, rfl⟩))) | (refine both_ways ?_ ?_) | (rw [wrap_i64 (by omega) (by omega)]) | (refine guardV_split (fun h => ?_) (fun h => ?_) <;> (try rw [h]) <;> (try simp at h) <;> (try (exfalso; omega))) | (refine bI1 ?_) | (refine bI2 ?_) | (refine bI3 ?_) | (refine refDig_c ?_) | (with_reducible refine side_later (by (simp only [maxL, List.length_append, List.length_cons, List.length_nil] at *; omega)) ?_) | (refine refAns_c hs ?_))
    refine ⟨Ext.app _ _, rfl, ?_⟩
    simpa [AV.strip, Msg.bytes, Msg.rest, hq, subB, blobB, n2] using hK
  · rw [hq] at l1
    obtain ⟨_, o1, o2, _⟩ := hs
    have l2 := textS_le (s := m.view) (m := 512) (by omega) (by omega)
    have l4 := digS_len m.tag
    repeat' (first | (simp -dsimp only [↓reduceIte, go_sem, hq]) | (refine arr_intro fun _ => ?_) | (refine later_intro ⟨keeps_nil, ?_⟩) | (refine later_intro ⟨keeps_refl, ?_⟩) | (with_reducible refine keeps_go ?_ ?_; focus (first | (simp [keeps_cons, keeps_none, objs_app, objs_app0]; done) | (simp only [keeps_cons, keeps_none, objs_app0, objs_app, and_true]; first | rfl | exact ⟨rfl, rfl⟩ | exact ⟨rfl, rfl, rfl⟩))) | (with_reducible refine (And.intro (a := keeps _ _ _) ?_ ?_); focus (first | (simp [keeps_cons, keeps_none, objs_app, objs_app0]; done) | (simp only [keeps_cons, keeps_none, objs_app0, objs_app, and_true]; first | rfl | exact ⟨rfl, rfl⟩ | exact ⟨rfl, rfl, rfl⟩))) | (refine both_ways ?_ ?_) | (rw [wrap_i64 (by omega) (by omega)]) | (refine guardV_split (fun h => ?_) (fun h => ?_) <;> (try rw [h]) <;> (try simp at h) <;> (try (exfalso; omega))) | (with_reducible refine awp_drawS (id := 8) [0, 1, 2, 5, 6, 3, 4, 7, 8, 9] (by kernel_rfl) ?_) | (refine bI1 ?_) | (refine bI2 ?_) | (refine bI3 ?_) | (refine refDig_c ?_) | (with_reducible refine side_later (by (simp only [maxL, List.length_append, List.length_cons, List.length_nil] at *; omega)) ?_) | (refine refText_c (by omega) ?_))
    refine ⟨Ext.app _ _, rfl, ?_⟩
    simpa [AV.strip, Msg.bytes, Msg.rest, hq, subB, blobB, laidAll, part_all] using hK
  · rw [hq] at l1
    obtain ⟨o1, o2, o3⟩ := hs
    simp only [In] at o1 o2
    have i2 : InI [m.blob.owner, m.blob.num] := by (intro n hn; simp at hn; omega)
    have l2 := i2.len
    have l3 := textS_le (s := m.blob.cipher) (m := 4096) (by omega) (by omega)
    have l4 := digS_len m.blob.tag
    have l6 := numS_len (n := m.kind) (by omega) (by omega)
    rw [hq] at l6
    repeat' (first | (simp -dsimp only [↓reduceIte, go_sem, hq]) | (refine arr_intro fun _ => ?_) | (refine later_intro ⟨keeps_nil, ?_⟩) | (refine later_intro ⟨keeps_refl, ?_⟩) | (with_reducible refine keeps_go ?_ ?_; focus (first | (simp [keeps_cons, keeps_none, objs_app, objs_app0]; done) | (simp only [keeps_cons, keeps_none, objs_app0, objs_app, and_true]; first | rfl | exact ⟨rfl, rfl⟩ | exact ⟨rfl, rfl, rfl⟩))) | (with_reducible refine (And.intro (a := keeps _ _ _) ?_ ?_); focus (first | (simp [keeps_cons, keeps_none, objs_app, objs_app0]; done) | (simp only [keeps_cons, keeps_none, objs_app0, objs_app, and_true]; first | rfl | exact ⟨rfl, rfl⟩ | exact ⟨rfl, rfl, rfl⟩))) | (refine both_ways ?_ ?_) | (rw [wrap_i64 (by omega) (by omega)]) | (refine guardV_split (fun h => ?_) (fun h => ?_) <;> (try rw [h]) <;> (try simp at h) <;> (try (exfalso; omega))) | (with_reducible refine awp_drawS (id := 11) [0, 1, 3, 4, 5, 6, 7, 8, 9, 12, 13, 14, 17, 18, 19, 2, 10, 11, 15, 16, 20, 21, 22] (by kernel_rfl) ?_) | (refine bI1 ?_) | (refine bI2 ?_) | (refine bI3 ?_) | (refine refDig_c ?_) | (with_reducible refine side_later (by (simp only [maxL, List.length_append, List.length_cons, List.length_nil] at *; omega)) ?_) | (refine L01.Number_c (by omega) (by omega) ?_) | (refine refInts2_c i2 ?_) | (refine refText_c (by omega) ?_))
    refine ⟨Ext.app _ _, rfl, ?_⟩
    simpa [AV.strip, Msg.bytes, Msg.rest, hq, subB, blobB, laidAll, part_all] using hK
  · rw [hq] at l1
    have i2 := hs.in_
    have l2 := i2.len
    have hs2 := hs.2
    simp only [In] at hs2
    repeat' (first | (simp -dsimp only [↓reduceIte, go_sem, hq]) | (refine arr_intro fun _ => ?_) | (refine later_intro ⟨keeps_nil, ?_⟩) | (refine later_intro ⟨keeps_refl, ?_⟩) | (with_reducible refine keeps_go ?_ ?_; focus (first | (simp [keeps_cons, keeps_none, objs_app, objs_app0]; done) | (simp only [keeps_cons, keeps_none, objs_app0, objs_app, and_true]; first | rfl | exact ⟨rfl, rfl⟩ | exact ⟨rfl, rfl, rfl⟩))) | (with_reducible refine (And.intro (a := keeps _ _ _) ?_ ?_); focus (first | (simp [keeps_cons, keeps_none, objs_app, objs_app0]; done) | (simp only [keeps_cons, keeps_none, objs_app0, objs_app, and_true]; first | rfl | exact ⟨rfl, rfl⟩ | exact ⟨rfl, rfl, rfl⟩))) | (refine both_ways ?_ ?_) | (rw [wrap_i64 (by omega) (by omega)]) | (refine guardV_split (fun h => ?_) (fun h => ?_) <;> (try rw [h]) <;> (try simp at h) <;> (try (exfalso; omega))) | (refine bI1 ?_) | (refine bI2 ?_) | (refine bI3 ?_) | (refine refDig_c ?_) | (with_reducible refine side_later (by (simp only [maxL, List.length_append, List.length_cons, List.length_nil] at *; omega)) ?_) | (refine refInts_c hs.in_ (by omega) ?_))
    refine ⟨Ext.app _ _, rfl, ?_⟩
    simpa [AV.strip, Msg.bytes, Msg.rest, hq, subB, blobB, laidAll, part_all] using hK
  · rw [hq] at l1
    obtain ⟨o1, o2, o3⟩ := hs
    simp only [In] at o1 o2
    have i2 : InI [m.blob.owner, m.blob.num] := by (intro n hn; simp at hn; omega)
    have l2 := i2.len
    have l3 := textS_le (s := m.blob.cipher) (m := 4096) (by omega) (by omega)
    have l4 := digS_len m.blob.tag
    have l6 := numS_len (n := m.kind) (by omega) (by omega)
    rw [hq] at l6
    repeat' (first | (simp -dsimp only [↓reduceIte, go_sem, hq]) | (refine arr_intro fun _ => ?_) | (refine later_intro ⟨keeps_nil, ?_⟩) | (refine later_intro ⟨keeps_refl, ?_⟩) | (with_reducible refine keeps_go ?_ ?_; focus (first | (simp [keeps_cons, keeps_none, objs_app, objs_app0]; done) | (simp only [keeps_cons, keeps_none, objs_app0, objs_app, and_true]; first | rfl | exact ⟨rfl, rfl⟩ | exact ⟨rfl, rfl, rfl⟩))) | (with_reducible refine (And.intro (a := keeps _ _ _) ?_ ?_); focus (first | (simp [keeps_cons, keeps_none, objs_app, objs_app0]; done) | (simp only [keeps_cons, keeps_none, objs_app0, objs_app, and_true]; first | rfl | exact ⟨rfl, rfl⟩ | exact ⟨rfl, rfl, rfl⟩))) | (refine both_ways ?_ ?_) | (rw [wrap_i64 (by omega) (by omega)]) | (refine guardV_split (fun h => ?_) (fun h => ?_) <;> (try rw [h]) <;> (try simp at h) <;> (try (exfalso; omega))) | (with_reducible refine awp_drawS (id := 11) [0, 1, 3, 4, 5, 6, 7, 8, 9, 12, 13, 14, 17, 18, 19, 2, 10, 11, 15, 16, 20, 21, 22] (by kernel_rfl) ?_) | (refine bI1 ?_) | (refine bI2 ?_) | (refine bI3 ?_) | (refine refDig_c ?_) | (with_reducible refine side_later (by (simp only [maxL, List.length_append, List.length_cons, List.length_nil] at *; omega)) ?_) | (refine L01.Number_c (by omega) (by omega) ?_) | (refine refInts2_c i2 ?_) | (refine refText_c (by omega) ?_))
    refine ⟨Ext.app _ _, rfl, ?_⟩
    simpa [AV.strip, Msg.bytes, Msg.rest, hq, subB, blobB, laidAll, part_all] using hK
  · rw [hq] at l1
    have i2 := hs.in_
    have l2 := i2.len
    have hs2 := hs.2
    simp only [In] at hs2
    repeat' (first | (simp -dsimp only [↓reduceIte, go_sem, hq]) | (refine arr_intro fun _ => ?_) | (refine later_intro ⟨keeps_nil, ?_⟩) | (refine later_intro ⟨keeps_refl, ?_⟩) | (with_reducible refine keeps_go ?_ ?_; focus (first | (simp [keeps_cons, keeps_none, objs_app, objs_app0]; done) | (simp only [keeps_cons, keeps_none, objs_app0, objs_app, and_true]; first | rfl | exact ⟨rfl, rfl⟩ | exact ⟨rfl, rfl, rfl⟩))) | (with_reducible refine (And.intro (a := keeps _ _ _) ?_ ?_); focus (first | (simp [keeps_cons, keeps_none, objs_app, objs_app0]; done) | (simp only [keeps_cons, keeps_none, objs_app0, objs_app, and_true]; first | rfl | exact ⟨rfl, rfl⟩ | exact ⟨rfl, rfl, rfl⟩))) | (refine both_ways ?_ ?_) | (rw [wrap_i64 (by omega) (by omega)]) | (refine guardV_split (fun h => ?_) (fun h => ?_) <;> (try rw [h]) <;> (try simp at h) <;> (try (exfalso; omega))) | (refine bI1 ?_) | (refine bI2 ?_) | (refine bI3 ?_) | (refine refDig_c ?_) | (with_reducible refine side_later (by (simp only [maxL, List.length_append, List.length_cons, List.length_nil] at *; omega)) ?_) | (refine refInts_c hs.in_ (by omega) ?_))
    refine ⟨Ext.app _ _, rfl, ?_⟩
    simpa [AV.strip, Msg.bytes, Msg.rest, hq, subB, blobB, laidAll, part_all] using hK
  · rw [hq] at l1
    have i2 := hs.in_
    have l2 := i2.len
    have hs2 := hs.2
    simp only [In] at hs2
    repeat' (first | (simp -dsimp only [↓reduceIte, go_sem, hq]) | (refine arr_intro fun _ => ?_) | (refine later_intro ⟨keeps_nil, ?_⟩) | (refine later_intro ⟨keeps_refl, ?_⟩) | (with_reducible refine keeps_go ?_ ?_; focus (first | (simp [keeps_cons, keeps_none, objs_app, objs_app0]; done) | (simp only [keeps_cons, keeps_none, objs_app0, objs_app, and_true]; first | rfl | exact ⟨rfl, rfl⟩ | exact ⟨rfl, rfl, rfl⟩))) | (with_reducible refine (And.intro (a := keeps _ _ _) ?_ ?_); focus (first | (simp [keeps_cons, keeps_none, objs_app, objs_app0]; done) | (simp only [keeps_cons, keeps_none, objs_app0, objs_app, and_true]; first | rfl | exact ⟨rfl, rfl⟩ | exact ⟨rfl, rfl, rfl⟩))) | (refine both_ways ?_ ?_) | (rw [wrap_i64 (by omega) (by omega)]) | (refine guardV_split (fun h => ?_) (fun h => ?_) <;> (try rw [h]) <;> (try simp at h) <;> (try (exfalso; omega))) | (refine bI1 ?_) | (refine bI2 ?_) | (refine bI3 ?_) | (refine refDig_c ?_) | (with_reducible refine side_later (by (simp only [maxL, List.length_append, List.length_cons, List.length_nil] at *; omega)) ?_) | (refine refInts_c hs.in_ (by omega) ?_))
    refine ⟨Ext.app _ _, rfl, ?_⟩
    simpa [AV.strip, Msg.bytes, Msg.rest, hq, subB, blobB, laidAll, part_all] using hK
  · rw [hq] at l1
    repeat' (first | (simp -dsimp only [↓reduceIte, go_sem, hq]) | (refine arr_intro fun _ => ?_) | (refine later_intro ⟨keeps_nil, ?_⟩) | (refine later_intro ⟨keeps_refl, ?_⟩) | (with_reducible refine keeps_go ?_ ?_; focus (first | (simp [keeps_cons, keeps_none, objs_app, objs_app0]; done) | (simp only [keeps_cons, keeps_none, objs_app0, objs_app, and_true]; first | rfl | exact ⟨rfl, rfl⟩ | exact ⟨rfl, rfl, rfl⟩))) | (with_reducible refine (And.intro (a := keeps _ _ _) ?_ ?_); focus (first | (simp [keeps_cons, keeps_none, objs_app, objs_app0]; done) | (simp only [keeps_cons, keeps_none, objs_app0, objs_app, and_true]; first | rfl | exact ⟨rfl, rfl⟩ | exact ⟨rfl, rfl, rfl⟩))) | (refine both_ways ?_ ?_) | (rw [wrap_i64 (by omega) (by omega)]) | (refine guardV_split (fun h => ?_) (fun h => ?_) <;> (try rw [h]) <;> (try simp at h) <;> (try (exfalso; omega))) | (refine bI1 ?_) | (refine bI2 ?_) | (refine bI3 ?_) | (refine refDig_c ?_) | (with_reducible refine side_later (by (simp only [maxL, List.length_append, List.length_cons, List.length_nil] at *; omega)) ?_))
    refine ⟨Ext.app _ _, rfl, ?_⟩
    simpa [AV.strip, Msg.bytes, Msg.rest, hq, subB, blobB, laidAll, part_all] using hK
  · rw [hq] at l1
    obtain ⟨o0, _, o1, o2, _⟩ := hs
    simp only [In] at o0
    have l2 := textS_le (s := m.view) (m := 512) (by omega) (by omega)
    have l4 := digS_len m.tag
    have l6 := numS_len (n := m.by_) (by omega) (by omega)
    have l7 := digS_len m.own
    repeat' (first | (simp -dsimp only [↓reduceIte, go_sem, hq]) | (refine arr_intro fun _ => ?_) | (refine later_intro ⟨keeps_nil, ?_⟩) | (refine later_intro ⟨keeps_refl, ?_⟩) | (with_reducible refine keeps_go ?_ ?_; focus (first | (simp [keeps_cons, keeps_none, objs_app, objs_app0]; done) | (simp only [keeps_cons, keeps_none, objs_app0, objs_app, and_true]; first | rfl | exact ⟨rfl, rfl⟩ | exact ⟨rfl, rfl, rfl⟩))) | (with_reducible refine (And.intro (a := keeps _ _ _) ?_ ?_); focus (first | (simp [keeps_cons, keeps_none, objs_app, objs_app0]; done) | (simp only [keeps_cons, keeps_none, objs_app0, objs_app, and_true]; first | rfl | exact ⟨rfl, rfl⟩ | exact ⟨rfl, rfl, rfl⟩))) | (refine both_ways ?_ ?_) | (rw [wrap_i64 (by omega) (by omega)]) | (refine guardV_split (fun h => ?_) (fun h => ?_) <;> (try rw [h]) <;> (try simp at h) <;> (try (exfalso; omega))) | (with_reducible refine awp_drawS (id := 17) [0, 1, 2, 5, 6, 9, 10, 13, 14, 3, 4, 7, 8, 11, 12, 15, 16, 17] (by kernel_rfl) ?_) | (refine bI1 ?_) | (refine bI2 ?_) | (refine bI3 ?_) | (refine refDig_c ?_) | (with_reducible refine side_later (by (simp only [maxL, List.length_append, List.length_cons, List.length_nil] at *; omega)) ?_) | (refine L01.Number_c (by omega) (by omega) ?_) | (refine refText_c (by omega) ?_))
    refine ⟨Ext.app _ _, rfl, ?_⟩
    simpa [AV.strip, Msg.bytes, Msg.rest, hq, subB, blobB, laidAll, part_all] using hK
  · rw [hq] at l1
    have l7 := digS_len m.own
    repeat' (first | (simp -dsimp only [↓reduceIte, go_sem, hq]) | (refine arr_intro fun _ => ?_) | (refine later_intro ⟨keeps_nil, ?_⟩) | (refine later_intro ⟨keeps_refl, ?_⟩) | (with_reducible refine keeps_go ?_ ?_; focus (first | (simp [keeps_cons, keeps_none, objs_app, objs_app0]; done) | (simp only [keeps_cons, keeps_none, objs_app0, objs_app, and_true]; first | rfl | exact ⟨rfl, rfl⟩ | exact ⟨rfl, rfl, rfl⟩))) | (with_reducible refine (And.intro (a := keeps _ _ _) ?_ ?_); focus (first | (simp [keeps_cons, keeps_none, objs_app, objs_app0]; done) | (simp only [keeps_cons, keeps_none, objs_app0, objs_app, and_true]; first | rfl | exact ⟨rfl, rfl⟩ | exact ⟨rfl, rfl, rfl⟩))) | (refine both_ways ?_ ?_) | (rw [wrap_i64 (by omega) (by omega)]) | (refine guardV_split (fun h => ?_) (fun h => ?_) <;> (try rw [h]) <;> (try simp at h) <;> (try (exfalso; omega))) | (refine bI1 ?_) | (refine bI2 ?_) | (refine bI3 ?_) | (refine refDig_c ?_) | (with_reducible refine side_later (by (simp only [maxL, List.length_append, List.length_cons, List.length_nil] at *; omega)) ?_))
    refine ⟨Ext.app _ _, rfl, ?_⟩
    simpa [AV.strip, Msg.bytes, Msg.rest, hq, subB, blobB, laidAll, part_all] using hK
end Go.Aff.L10

