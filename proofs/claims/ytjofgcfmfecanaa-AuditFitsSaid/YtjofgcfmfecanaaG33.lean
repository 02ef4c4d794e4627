import Derived.Test.YtjofgcfmfecanaaG32

set_option linter.unusedSimpArgs false
set_option linter.unusedVariables false

/- Layer 32, walked: each. -/
-- cuts
namespace Go.Aff.L10
open Go.Proofs Go.Aff Go.Aff.L01 Classical
set_option linter.unusedVariables false
set_option linter.unusedSimpArgs false
set_option maxRecDepth 20000
attribute [local go_sem] push_app app_app length_app cellAt_app cellAt_app0 set_app set_app0 objs_app objs_app0 List.cons_append List.nil_append List.length_cons List.length_nil List.getElem?_cons_zero List.getElem?_cons_succ List.set_cons_zero List.set_cons_succ List.length_map
attribute [-go_sem] cellAt_new
attribute [-simp] List.length_flatMap
attribute [local go_sem] Try.underlying3 Try.underlying4 Try.underlying5 Try.underlying9 Try.underlying42 Try.underlying43 Try.underlying46 Try.underlying51 Try.underlying39 Try.underlying37 subPs_0 subAt_0 subSet_0 subPs_1 subAt_1 subSet_1 subPs_2 subAt_2 subSet_2 subPs_3 subAt_3 subSet_3 subPs_4 subAt_4 subSet_4 subPs_5 subAt_5 subSet_5 sizes_sub shapes_sub fits_sub zero_sub zt_sub built_sub Try.underlying45 pendPs_0 pendAt_0 pendSet_0 pendPs_1 pendAt_1 pendSet_1 pendPs_2 pendAt_2 pendSet_2 pendPs_3 pendAt_3 pendSet_3 pendPs_4 pendAt_4 pendSet_4 pendPs_5 pendAt_5 pendSet_5 sizes_pend shapes_pend fits_pend zero_pend zt_pend built_pend Try.underlying96 repPs_0 repAt_0 repSet_0 repPs_1 repAt_1 repSet_1 repPs_2 repAt_2 repSet_2 repPs_3 repAt_3 repSet_3 repPs_4 repAt_4 repSet_4 repPs_5 repAt_5 repSet_5 repPs_6 repAt_6 repSet_6 repPs_7 repAt_7 repSet_7 repPs_8 repAt_8 repSet_8 repPs_9 repAt_9 repSet_9 sizes_rep shapes_rep fits_rep zero_rep zt_rep built_rep Try.underlying48 blobPs_0 blobAt_0 blobSet_0 blobPs_1 blobAt_1 blobSet_1 blobPs_2 blobAt_2 blobSet_2 blobPs_3 blobAt_3 blobSet_3 sizes_blob shapes_blob fits_blob zero_blob zt_blob built_blob Try.underlying50 msgPs_0 msgAt_0 msgSet_0 msgPs_1 msgAt_1 msgSet_1 msgPs_2 msgAt_2 msgSet_2 msgPs_3 msgAt_3 msgSet_3 msgPs_4 msgAt_4 msgSet_4 msgPs_5 msgAt_5 msgSet_5 msgPs_6 msgAt_6 msgSet_6 msgPs_7 msgAt_7 msgSet_7 msgPs_8 msgAt_8 msgSet_8 msgPs_9 msgAt_9 msgSet_9 sizes_msg shapes_msg fits_msg zero_msg zt_msg built_msg Try.underlying53 at_Ps_0 at_Set_0 at_Ps_1 at_Set_1 sizes_at_ shapes_at_
attribute [local go_sem] fits3 fits4 fits5 fits9 fits23 fits26 fits31 fits34 fits52 zt3 zero3 zt34 zero34 zt23 zero23 bin_sub_eql bin_pend_eql bin_pend_neq bin_blob_eql bin_dig23_eql bin_dig23_neq slice23
attribute [local go_sem ↓] blockQ_exit2
attribute [local simp] dig_ext
attribute [local go_sem] postPs_0 postAt_0 postSet_0 postPs_1 postAt_1 postSet_1 postPs_2 postAt_2 postSet_2 sizes_post shapes_post fits_post zero_post zt_post built_post Try.underlying34 keyPs_0 keyAt_0 keySet_0 keyPs_1 keyAt_1 keySet_1 keyPs_2 keyAt_2 keySet_2 sizes_key shapes_key fits_key zero_key zt_key built_key Try.underlying74 conPs_0 conAt_0 conSet_0 conPs_1 conAt_1 conSet_1 sizes_con shapes_con fits_con zero_con zt_con built_con Try.underlying76 Try.underlying22 Try.underlying24 Try.underlying25 Try.underlying27 Try.underlying30 Try.underlying51 Try.underlying99 Try.underlying101 Try.underlying102 Try.underlying104
/-- each: what the function that is called keeps true. -/
theorem each_c {ps : List Post} {f : Nat} {caps : List AV} {ta : Tk} {σ : AST} {K : AV → AST → Prop} (J : Nat → AST → Prop) (h0 : J 0 σ) (hx : ∀ i s s', J i s → Ext s s' → J i s')
    (hstep : ∀ (i : Nat) p s t u (K' : AV → AST → Prop), ps[i]? = some p → J i s → (∀ s', J (i + 1) s' → K' (.tuple []) s') → TCalls Try.prog f (.int .i64 i :: msgV t u (getR p.b).1 :: .bool ((getR p.b).2 == 0) :: caps) s K')
    (hK : ∀ s, J ps.length s → K (.tuple []) s) : TCalls Try.prog 15 [.slice ta (ps.map postV), .fn (.func f) [] caps] σ K := by
  refine tcalls_walk Try.f15 _ [] Try.func15 rfl rfl rfl mixed (Nat.le_of_ble_eq_true rfl) rfl fun hlen => ?_
  have hl : ps.length ≤ 9223372036854775807 := by
    have h1 : (ps.map postV).length ≤ maxL := hlen (.slice ta (ps.map postV)) (by simp)
    rw [List.length_map] at h1; exact h1
  repeat' (first | (simp -dsimp only [↓reduceIte, go_sem]) | (refine arr_intro fun _ => ?_) | (refine later_intro ⟨keeps_nil, ?_⟩) | (refine later_intro ⟨keeps_refl, ?_⟩) | (with_reducible refine keeps_go ?_ ?_; focus (first | (simp [keeps_cons, keeps_none, objs_app, objs_app0]; done) | (simp only [keeps_cons, keeps_none, objs_app0, objs_app, and_true]; first | rfl | exact ⟨rfl, rfl⟩ | exact ⟨rfl, rfl, rfl⟩))) | (with_reducible refine (And.intro (a := keeps _ _ _) ?_ ?_); focus (first | (simp [keeps_cons, keeps_none, objs_app, objs_app0]; done) | (simp only [keeps_cons, keeps_none, objs_app0, objs_app, and_true]; first | rfl | exact ⟨rfl, rfl⟩ | exact ⟨rfl, rfl, rfl⟩))) | (refine both_ways ?_ ?_) | (rw [wrap_i64 (by omega) (by omega)]) | (refine guardV_split (fun h => ?_) (fun h => ?_) <;> (try rw [h]) <;> (try simp at h) <;> (try (exfalso; omega))))
  refine awp_rounds (fun (i : Nat) τ s => i ≤ ps.length ∧ J i s ∧ τ 0 = .slice ta (ps.map postV) ∧ τ 1 = .fn (.func f) [] caps ∧ τ 8 = .slice ta (ps.map postV) ∧ τ 9 = .int .i64 ps.length ∧ τ 10 = .int .i64 i) (fun i => ps.length - i) 0 ?_ ?_
  · refine ⟨by omega, h0, ?_, ?_, ?_, ?_, ?_⟩ <;> (try simp only [go_sem]) <;> (try rfl)
  · rintro i τ s ⟨hi, hJ, t0, t1, t8, t9, t10⟩
    by_cases hn : i < ps.length
    · have hn1 : (i : Int) < ps.length := by omega
      obtain ⟨p, hp, _⟩ := get_of_lt hn
      repeat' (first | (simp -dsimp only [↓reduceIte, go_sem, t0, t1, t8, t9, t10, hn1]) | (refine arr_intro fun _ => ?_) | (refine later_intro ⟨keeps_nil, ?_⟩) | (refine later_intro ⟨keeps_refl, ?_⟩) | (with_reducible refine keeps_go ?_ ?_; focus (first | (simp [keeps_cons, keeps_none, objs_app, objs_app0]; done) | (simp only [keeps_cons, keeps_none, objs_app0, objs_app, and_true]; first | rfl | exact ⟨rfl, rfl⟩ | exact ⟨rfl, rfl, rfl⟩))) | (with_reducible refine (And.intro (a := keeps _ _ _) ?_ ?_); focus (first | (simp [keeps_cons, keeps_none, objs_app, objs_app0]; done) | (simp only [keeps_cons, keeps_none, objs_app0, objs_app, and_true]; first | rfl | exact ⟨rfl, rfl⟩ | exact ⟨rfl, rfl, rfl⟩))) | (refine both_ways ?_ ?_) | (rw [wrap_i64 (by omega) (by omega)]) | (refine guardV_split (fun h => ?_) (fun h => ?_) <;> (try rw [h]) <;> (try simp at h) <;> (try (exfalso; omega))) | (refine nth_get hp ?_) | ((refine get_c fun t u => ?_)))
      refine hstep i p _ t u _ hp (hx _ _ _ hJ (Ext.app _ _)) fun s' hJ' => ?_
      repeat' (first | (simp -dsimp only [↓reduceIte, go_sem, t0, t1, t8, t9, t10]) | (refine arr_intro fun _ => ?_) | (refine later_intro ⟨keeps_nil, ?_⟩) | (refine later_intro ⟨keeps_refl, ?_⟩) | (with_reducible refine keeps_go ?_ ?_; focus (first | (simp [keeps_cons, keeps_none, objs_app, objs_app0]; done) | (simp only [keeps_cons, keeps_none, objs_app0, objs_app, and_true]; first | rfl | exact ⟨rfl, rfl⟩ | exact ⟨rfl, rfl, rfl⟩))) | (with_reducible refine (And.intro (a := keeps _ _ _) ?_ ?_); focus (first | (simp [keeps_cons, keeps_none, objs_app, objs_app0]; done) | (simp only [keeps_cons, keeps_none, objs_app0, objs_app, and_true]; first | rfl | exact ⟨rfl, rfl⟩ | exact ⟨rfl, rfl, rfl⟩))) | (refine both_ways ?_ ?_) | (rw [wrap_i64 (by omega) (by omega)]) | (refine guardV_split (fun h => ?_) (fun h => ?_) <;> (try rw [h]) <;> (try simp at h) <;> (try (exfalso; omega))))
      refine later_intro ⟨i + 1, by omega, by omega, hJ', ?_, ?_, ?_, ?_, ?_⟩ <;> (try simp only [go_sem, t0, t1, t8, t9, t10]) <;> (try rfl)
    · have hn1 : ¬ (i : Int) < ps.length := by omega
      repeat' (first | (simp -dsimp only [↓reduceIte, go_sem, t0, t1, t8, t9, t10, hn1]) | (refine arr_intro fun _ => ?_) | (refine later_intro ⟨keeps_nil, ?_⟩) | (refine later_intro ⟨keeps_refl, ?_⟩) | (with_reducible refine keeps_go ?_ ?_; focus (first | (simp [keeps_cons, keeps_none, objs_app, objs_app0]; done) | (simp only [keeps_cons, keeps_none, objs_app0, objs_app, and_true]; first | rfl | exact ⟨rfl, rfl⟩ | exact ⟨rfl, rfl, rfl⟩))) | (with_reducible refine (And.intro (a := keeps _ _ _) ?_ ?_); focus (first | (simp [keeps_cons, keeps_none, objs_app, objs_app0]; done) | (simp only [keeps_cons, keeps_none, objs_app0, objs_app, and_true]; first | rfl | exact ⟨rfl, rfl⟩ | exact ⟨rfl, rfl, rfl⟩))) | (refine both_ways ?_ ?_) | (rw [wrap_i64 (by omega) (by omega)]) | (refine guardV_split (fun h => ?_) (fun h => ?_) <;> (try rw [h]) <;> (try simp at h) <;> (try (exfalso; omega))))
      obtain rfl : i = ps.length := by omega
      exact hK _ hJ
end Go.Aff.L10

/- Layer 32, walked: few. -/
-- cuts
namespace Go.Aff.L10
open Go.Proofs Go.Aff Go.Aff.L01 Classical
set_option linter.unusedVariables false
set_option linter.unusedSimpArgs false
set_option maxRecDepth 20000
attribute [local go_sem] push_app app_app length_app cellAt_app cellAt_app0 set_app set_app0 objs_app objs_app0 List.cons_append List.nil_append List.length_cons List.length_nil List.getElem?_cons_zero List.getElem?_cons_succ List.set_cons_zero List.set_cons_succ List.length_map
attribute [-go_sem] cellAt_new
attribute [-simp] List.length_flatMap
attribute [local go_sem] Try.underlying3 Try.underlying4 Try.underlying5 Try.underlying9 Try.underlying42 Try.underlying43 Try.underlying46 Try.underlying51 Try.underlying39 Try.underlying37 subPs_0 subAt_0 subSet_0 subPs_1 subAt_1 subSet_1 subPs_2 subAt_2 subSet_2 subPs_3 subAt_3 subSet_3 subPs_4 subAt_4 subSet_4 subPs_5 subAt_5 subSet_5 sizes_sub shapes_sub fits_sub zero_sub zt_sub built_sub Try.underlying45 pendPs_0 pendAt_0 pendSet_0 pendPs_1 pendAt_1 pendSet_1 pendPs_2 pendAt_2 pendSet_2 pendPs_3 pendAt_3 pendSet_3 pendPs_4 pendAt_4 pendSet_4 pendPs_5 pendAt_5 pendSet_5 sizes_pend shapes_pend fits_pend zero_pend zt_pend built_pend Try.underlying96 repPs_0 repAt_0 repSet_0 repPs_1 repAt_1 repSet_1 repPs_2 repAt_2 repSet_2 repPs_3 repAt_3 repSet_3 repPs_4 repAt_4 repSet_4 repPs_5 repAt_5 repSet_5 repPs_6 repAt_6 repSet_6 repPs_7 repAt_7 repSet_7 repPs_8 repAt_8 repSet_8 repPs_9 repAt_9 repSet_9 sizes_rep shapes_rep fits_rep zero_rep zt_rep built_rep Try.underlying48 blobPs_0 blobAt_0 blobSet_0 blobPs_1 blobAt_1 blobSet_1 blobPs_2 blobAt_2 blobSet_2 blobPs_3 blobAt_3 blobSet_3 sizes_blob shapes_blob fits_blob zero_blob zt_blob built_blob Try.underlying50 msgPs_0 msgAt_0 msgSet_0 msgPs_1 msgAt_1 msgSet_1 msgPs_2 msgAt_2 msgSet_2 msgPs_3 msgAt_3 msgSet_3 msgPs_4 msgAt_4 msgSet_4 msgPs_5 msgAt_5 msgSet_5 msgPs_6 msgAt_6 msgSet_6 msgPs_7 msgAt_7 msgSet_7 msgPs_8 msgAt_8 msgSet_8 msgPs_9 msgAt_9 msgSet_9 sizes_msg shapes_msg fits_msg zero_msg zt_msg built_msg Try.underlying53 at_Ps_0 at_Set_0 at_Ps_1 at_Set_1 sizes_at_ shapes_at_
attribute [local go_sem] fits3 fits4 fits5 fits9 fits23 fits26 fits31 fits34 fits52 zt3 zero3 zt34 zero34 zt23 zero23 bin_sub_eql bin_pend_eql bin_pend_neq bin_blob_eql bin_dig23_eql bin_dig23_neq slice23
attribute [local go_sem ↓] blockQ_exit2
attribute [local simp] dig_ext
attribute [local go_sem] postPs_0 postAt_0 postSet_0 postPs_1 postAt_1 postSet_1 postPs_2 postAt_2 postSet_2 sizes_post shapes_post fits_post zero_post zt_post built_post Try.underlying34 keyPs_0 keyAt_0 keySet_0 keyPs_1 keyAt_1 keySet_1 keyPs_2 keyAt_2 keySet_2 sizes_key shapes_key fits_key zero_key zt_key built_key Try.underlying74 conPs_0 conAt_0 conSet_0 conPs_1 conAt_1 conSet_1 sizes_con shapes_con fits_con zero_con zt_con built_con Try.underlying76 Try.underlying22 Try.underlying24 Try.underlying25 Try.underlying27 Try.underlying30 Try.underlying51 Try.underlying99 Try.underlying101 Try.underlying102 Try.underlying104
theorem E22 : ElemT Try.prog 22 34 3 32 := ⟨rfl, by kernel_rfl, by kernel_rfl, ⟨_, of_eq_true zt_post⟩, by decide⟩
theorem size_posts {l : List Post} : ∀ v ∈ l.map postV, v.size = 3 := by
  intro v hv; obtain ⟨x, _, rfl⟩ := List.mem_map.1 hv; simp only [AV.size, sizes_post]
theorem append_posts {a b : List Post} {tk tk2 : Tk} {σ : AST} {K : AV → AST → Prop} (hca : canApp σ tk a.length 3) (hl : a.length + b.length ≤ 2000) (hK : K (.slice (growT σ tk) ((a ++ b).map postV)) (growS σ tk (a.length + b.length) 3)) :
    appendW Try.prog ⟨[22, 22]⟩ (.slice tk (a.map postV)) (.slice tk2 (b.map postV)) σ K := by
  refine append_slice E22 rfl (by rw [List.length_map]; exact hca) size_posts size_posts (by simp; omega) (by simp [maxL]; omega) ?_
  simpa using hK
theorem append_pnone {b : List Post} {tk2 : Tk} {σ : AST} {K : AV → AST → Prop} (hl : b.length ≤ 2000) (hK : K (.slice (growT σ .full) (b.map postV)) (growS σ .full b.length 3)) :
    appendW Try.prog ⟨[22, 22]⟩ (.slice .full []) (.slice tk2 (b.map postV)) σ K := append_posts (a := []) trivial (by simpa using hl) (by simpa using hK)
theorem append_post {a : List Post} {x : Post} {tk tk2 : Tk} {σ : AST} {K : AV → AST → Prop} (hca : canApp σ tk a.length 3) (hl : a.length ≤ 1999) (hK : K (.slice (growT σ tk) ((a ++ [x]).map postV)) (growS σ tk (a.length + 1) 3)) :
    appendW Try.prog ⟨[22, 22]⟩ (.slice tk (a.map postV)) (.slice tk2 [postV x]) σ K := append_posts (b := [x]) hca (by simp; omega) (by simpa using hK)
def fewL (l : List Post) : List Post := (l.take 25).filter fun p => decide (p.b.length < 2500)
theorem fewL_next {l : List Post} {i : Nat} {p : Post} (h : l[i]? = some p) (hi : i < 25) : fewL (l.take (i + 1)) = if p.b.length < 2500 then fewL (l.take i) ++ [p] else fewL (l.take i) := by
  unfold fewL
  rw [List.take_take, List.take_take, Nat.min_eq_right (by omega), Nat.min_eq_right (by omega), List.take_add_one, h]
  simp only [Option.toList_some, List.filter_append]
  by_cases e : p.b.length < 2500 <;> simp [e]
theorem fewL_len {l : List Post} : (fewL l).length ≤ 25 := by
  unfold fewL; exact Nat.le_trans (List.length_filter_le _ _) (by simp; omega)
theorem few_c {ps : List Post} {ta : Tk} {σ : AST} {K : AV → AST → Prop} (hK : ∀ s tk, Ext σ s → tkNew σ tk → canApp s tk (fewL ps).length 3 → K (.slice tk ((fewL ps).map postV)) s) : TCalls Try.prog 7 [.slice ta (ps.map postV)] σ K := by
  refine tcalls_walk Try.f7 _ [.tmp 2] Try.func7 rfl rfl rfl mixed (Nat.le_of_ble_eq_true rfl) rfl fun hlen => ?_
  have hl : ps.length ≤ 9223372036854775807 := by
    have h1 : (ps.map postV).length ≤ maxL := hlen (.slice ta (ps.map postV)) (by simp)
    rw [List.length_map] at h1; exact h1
  repeat' (first | (simp -dsimp only [↓reduceIte, go_sem]) | (refine arr_intro fun _ => ?_) | (refine later_intro ⟨keeps_nil, ?_⟩) | (refine later_intro ⟨keeps_refl, ?_⟩) | (with_reducible refine keeps_go ?_ ?_; focus (first | (simp [keeps_cons, keeps_none, objs_app, objs_app0]; done) | (simp only [keeps_cons, keeps_none, objs_app0, objs_app, and_true]; first | rfl | exact ⟨rfl, rfl⟩ | exact ⟨rfl, rfl, rfl⟩))) | (with_reducible refine (And.intro (a := keeps _ _ _) ?_ ?_); focus (first | (simp [keeps_cons, keeps_none, objs_app, objs_app0]; done) | (simp only [keeps_cons, keeps_none, objs_app0, objs_app, and_true]; first | rfl | exact ⟨rfl, rfl⟩ | exact ⟨rfl, rfl, rfl⟩))) | (refine both_ways ?_ ?_) | (rw [wrap_i64 (by omega) (by omega)]) | (refine guardV_split (fun h => ?_) (fun h => ?_) <;> (try rw [h]) <;> (try simp at h) <;> (try (exfalso; omega))))
  refine awp_rounds (fun (i : Nat) τ s => ∃ tk, i ≤ ps.length ∧ i ≤ 25 ∧ Gr σ s tk (fewL (ps.take i)).length 3 ∧ τ 0 = .slice ta (ps.map postV) ∧ τ 3 = .slice tk ((fewL (ps.take i)).map postV) ∧ τ 4 = .int .i64 i) (fun i => ps.length - i) 0 ?_ ?_
  · refine ⟨.full, by omega, by omega, Gr.start, ?_, ?_, ?_⟩ <;> (try simp only [go_sem]) <;> (try rfl)
  · rintro i τ s ⟨tk, hi, hi25, hg, t0, t3, t4⟩
    by_cases hn : i < ps.length ∧ i < 25
    · have hn1 : (i : Int) < ps.length := by omega
      have hn2 : (i : Int) < 25 := by omega
      obtain ⟨p, hp, _⟩ := get_of_lt hn.1
      have hnx := fewL_next hp hn.2
      have hfl := fewL_len (l := ps.take i)
      by_cases hb : p.b.length < 2500
      · have hb1 : (p.b.length : Int) < 2500 := by omega
        rw [if_pos hb] at hnx
        repeat' (first | (simp -dsimp only [↓reduceIte, go_sem, t0, t3, t4, hn1, hn2, hb1]) | (refine arr_intro fun _ => ?_) | (refine later_intro ⟨keeps_nil, ?_⟩) | (refine later_intro ⟨keeps_refl, ?_⟩) | (with_reducible refine keeps_go ?_ ?_; focus (first | (simp [keeps_cons, keeps_none, objs_app, objs_app0]; done) | (simp only [keeps_cons, keeps_none, objs_app0, objs_app, and_true]; first | rfl | exact ⟨rfl, rfl⟩ | exact ⟨rfl, rfl, rfl⟩))) | (with_reducible refine (And.intro (a := keeps _ _ _) ?_ ?_); focus (first | (simp [keeps_cons, keeps_none, objs_app, objs_app0]; done) | (simp only [keeps_cons, keeps_none, objs_app0, objs_app, and_true]; first | rfl | exact ⟨rfl, rfl⟩ | exact ⟨rfl, rfl, rfl⟩))) | (refine both_ways ?_ ?_) | (rw [wrap_i64 (by omega) (by omega)]) | (refine guardV_split (fun h => ?_) (fun h => ?_) <;> (try rw [h]) <;> (try simp at h) <;> (try (exfalso; omega))) | (refine nth_get hp ?_) | (refine build_slice E22 rfl (by decide) (by intro v hv; simp at hv; subst hv; simp [go_sem]) ?_) | (refine append_post hg.c (by omega) ?_))

        refine later_intro ⟨i + 1, by omega, growT s tk, by omega, by omega, ?_, ?_, ?_, ?_⟩ <;> (try simp only [go_sem, t0, t3, t4, hnx]) <;> (try rfl)
        have := hg.grow (m := (fewL (ps.take i)).length + 1)
        simpa using this
      · have hb1 : ¬ (p.b.length : Int) < 2500 := by omega
        rw [if_neg hb] at hnx
        repeat' (first | (simp -dsimp only [↓reduceIte, go_sem, t0, t3, t4, hn1, hn2, hb1]) | (refine arr_intro fun _ => ?_) | (refine later_intro ⟨keeps_nil, ?_⟩) | (refine later_intro ⟨keeps_refl, ?_⟩) | (with_reducible refine keeps_go ?_ ?_; focus (first | (simp [keeps_cons, keeps_none, objs_app, objs_app0]; done) | (simp only [keeps_cons, keeps_none, objs_app0, objs_app, and_true]; first | rfl | exact ⟨rfl, rfl⟩ | exact ⟨rfl, rfl, rfl⟩))) | (with_reducible refine (And.intro (a := keeps _ _ _) ?_ ?_); focus (first | (simp [keeps_cons, keeps_none, objs_app, objs_app0]; done) | (simp only [keeps_cons, keeps_none, objs_app0, objs_app, and_true]; first | rfl | exact ⟨rfl, rfl⟩ | exact ⟨rfl, rfl, rfl⟩))) | (refine both_ways ?_ ?_) | (rw [wrap_i64 (by omega) (by omega)]) | (refine guardV_split (fun h => ?_) (fun h => ?_) <;> (try rw [h]) <;> (try simp at h) <;> (try (exfalso; omega))) | (refine nth_get hp ?_))
        refine later_intro ⟨i + 1, by omega, tk, by omega, by omega, by rw [hnx]; exact hg, ?_, ?_, ?_⟩ <;> (try simp only [go_sem, t0, t3, t4, hnx]) <;> (try rfl)
    · have he : fewL (ps.take i) = fewL ps := by
        unfold fewL
        by_cases h : i = ps.length
        · subst h; rw [List.take_length]
        · have : i = 25 := by omega
          subst this; rw [List.take_take]; rfl
      rw [he] at hg t3
      have h2 : (¬ (i : Int) < ps.length ∧ True) ∨ ((i : Int) < ps.length ∧ ¬ (i : Int) < 25) := by
        by_cases h : (i : Int) < ps.length
        · exact .inr ⟨h, by omega⟩
        · exact .inl ⟨h, trivial⟩
      rcases h2 with ⟨hn1, hn2⟩ | ⟨hn1, hn2⟩
      all_goals
        repeat' (first | (simp -dsimp only [↓reduceIte, go_sem, t0, t3, t4, hn1, hn2]) | (refine arr_intro fun _ => ?_) | (refine later_intro ⟨keeps_nil, ?_⟩) | (refine later_intro ⟨keeps_refl, ?_⟩) | (with_reducible refine keeps_go ?_ ?_; focus (first | (simp [keeps_cons, keeps_none, objs_app, objs_app0]; done) | (simp only [keeps_cons, keeps_none, objs_app0, objs_app, and_true]; first | rfl | exact ⟨rfl, rfl⟩ | exact ⟨rfl, rfl, rfl⟩))) | (with_reducible refine (And.intro (a := keeps _ _ _) ?_ ?_); focus (first | (simp [keeps_cons, keeps_none, objs_app, objs_app0]; done) | (simp only [keeps_cons, keeps_none, objs_app0, objs_app, and_true]; first | rfl | exact ⟨rfl, rfl⟩ | exact ⟨rfl, rfl, rfl⟩))) | (refine both_ways ?_ ?_) | (rw [wrap_i64 (by omega) (by omega)]) | (refine guardV_split (fun h => ?_) (fun h => ?_) <;> (try rw [h]) <;> (try simp at h) <;> (try (exfalso; omega))))
        exact hK _ _ hg.x hg.t hg.c
end Go.Aff.L10

/- Layer 32, walked: views. -/
-- cuts
namespace Go.Aff.L10
open Go.Proofs Go.Aff Go.Aff.L01 Classical
set_option linter.unusedVariables false
set_option linter.unusedSimpArgs false
set_option maxRecDepth 20000
attribute [local go_sem] push_app app_app length_app cellAt_app cellAt_app0 set_app set_app0 objs_app objs_app0 List.cons_append List.nil_append List.length_cons List.length_nil List.getElem?_cons_zero List.getElem?_cons_succ List.set_cons_zero List.set_cons_succ List.length_map
attribute [-go_sem] cellAt_new
attribute [-simp] List.length_flatMap
attribute [local go_sem] Try.underlying3 Try.underlying4 Try.underlying5 Try.underlying9 Try.underlying42 Try.underlying43 Try.underlying46 Try.underlying51 Try.underlying39 Try.underlying37 subPs_0 subAt_0 subSet_0 subPs_1 subAt_1 subSet_1 subPs_2 subAt_2 subSet_2 subPs_3 subAt_3 subSet_3 subPs_4 subAt_4 subSet_4 subPs_5 subAt_5 subSet_5 sizes_sub shapes_sub fits_sub zero_sub zt_sub built_sub Try.underlying45 pendPs_0 pendAt_0 pendSet_0 pendPs_1 pendAt_1 pendSet_1 pendPs_2 pendAt_2 pendSet_2 pendPs_3 pendAt_3 pendSet_3 pendPs_4 pendAt_4 pendSet_4 pendPs_5 pendAt_5 pendSet_5 sizes_pend shapes_pend fits_pend zero_pend zt_pend built_pend Try.underlying96 repPs_0 repAt_0 repSet_0 repPs_1 repAt_1 repSet_1 repPs_2 repAt_2 repSet_2 repPs_3 repAt_3 repSet_3 repPs_4 repAt_4 repSet_4 repPs_5 repAt_5 repSet_5 repPs_6 repAt_6 repSet_6 repPs_7 repAt_7 repSet_7 repPs_8 repAt_8 repSet_8 repPs_9 repAt_9 repSet_9 sizes_rep shapes_rep fits_rep zero_rep zt_rep built_rep Try.underlying48 blobPs_0 blobAt_0 blobSet_0 blobPs_1 blobAt_1 blobSet_1 blobPs_2 blobAt_2 blobSet_2 blobPs_3 blobAt_3 blobSet_3 sizes_blob shapes_blob fits_blob zero_blob zt_blob built_blob Try.underlying50 msgPs_0 msgAt_0 msgSet_0 msgPs_1 msgAt_1 msgSet_1 msgPs_2 msgAt_2 msgSet_2 msgPs_3 msgAt_3 msgSet_3 msgPs_4 msgAt_4 msgSet_4 msgPs_5 msgAt_5 msgSet_5 msgPs_6 msgAt_6 msgSet_6 msgPs_7 msgAt_7 msgSet_7 msgPs_8 msgAt_8 msgSet_8 msgPs_9 msgAt_9 msgSet_9 sizes_msg shapes_msg fits_msg zero_msg zt_msg built_msg Try.underlying53 at_Ps_0 at_Set_0 at_Ps_1 at_Set_1 sizes_at_ shapes_at_
attribute [local go_sem] fits3 fits4 fits5 fits9 fits23 fits26 fits31 fits34 fits52 zt3 zero3 zt34 zero34 zt23 zero23 bin_sub_eql bin_pend_eql bin_pend_neq bin_blob_eql bin_dig23_eql bin_dig23_neq slice23
attribute [local go_sem ↓] blockQ_exit2
attribute [local simp] dig_ext
attribute [local go_sem] postPs_0 postAt_0 postSet_0 postPs_1 postAt_1 postSet_1 postPs_2 postAt_2 postSet_2 sizes_post shapes_post fits_post zero_post zt_post built_post Try.underlying34 keyPs_0 keyAt_0 keySet_0 keyPs_1 keyAt_1 keySet_1 keyPs_2 keyAt_2 keySet_2 sizes_key shapes_key fits_key zero_key zt_key built_key Try.underlying74 conPs_0 conAt_0 conSet_0 conPs_1 conAt_1 conSet_1 sizes_con shapes_con fits_con zero_con zt_con built_con Try.underlying76 Try.underlying22 Try.underlying24 Try.underlying25 Try.underlying27 Try.underlying30 Try.underlying51 Try.underlying99 Try.underlying101 Try.underlying102 Try.underlying104
theorem ext_known {a b : AST} {k : Nat} {o : AObj} (h : Ext a b) (ho : a.objs[k]? = some o) : b.objs[k]? = some o := by
  obtain ⟨O, T, rfl⟩ := h
  rw [List.getElem?_append_left (List.getElem?_eq_some_iff.1 ho).1]; exact ho
theorem canApp_keep {s s' : AST} {tk : Tk} {n e : Nat} (h : Ext s s') (hc : canApp s tk n e) : canApp s' tk n e := by
  obtain ⟨O, T, rfl⟩ := h
  cases tk with
  | full => trivial
  | own k => simp only [canApp] at hc ⊢; rw [List.getElem?_append_left (List.getElem?_eq_some_iff.1 hc).1]; exact hc
  | none => exact hc.elim
  | lit => exact hc.elim
/-- Both lists that views makes, in memory. -/
structure VS (σ0 s : AST) (c1 c2 : Nat) (V : List (List UInt8 × Int)) : Prop where
  x : Ext σ0 s
  d : c1 ≠ c2
  n1 : σ0.objs.length ≤ c1
  n2 : σ0.objs.length ≤ c2
  o : ∃ tv ta, s.objs[c1]? = some (.cells (.slice tv (V.map fun x => .str x.1))) ∧ s.objs[c2]? = some (.cells (.slice ta (V.map fun x => .int .i64 x.2))) ∧ tkNew σ0 tv ∧ tkNew σ0 ta ∧ apart tv ta ∧ canApp s tv V.length 1 ∧ canApp s ta V.length 1
theorem VS.ext {σ0 s s' : AST} {c1 c2 : Nat} {V : List (List UInt8 × Int)} (h : VS σ0 s c1 c2 V) (e : Ext s s') : VS σ0 s' c1 c2 V := by
  obtain ⟨tv, ta, a, b, c, d, f, g, k⟩ := h.o
  exact ⟨h.x.trans e, h.d, h.n1, h.n2, tv, ta, ext_known e a, ext_known e b, c, d, f, canApp_keep e g, canApp_keep e k⟩
/-- What a post adds to the views. -/
noncomputable def vStep (i : Nat) (p : Post) : List (List UInt8 × Int) := if (getR p.b).2 = 0 ∧ comM32 (getR p.b).1 then [((getR p.b).1.view, (i : Int))] else []
noncomputable def vws (l : List Post) : Nat → List (List UInt8 × Int)
  | 0 => []
  | i + 1 => vws l i ++ (match l[i]? with
    | some p => vStep i p
    | none => [])
theorem vws_len {l : List Post} : ∀ {i : Nat}, (vws l i).length ≤ i
  | 0 => by simp [vws]
  | i + 1 => by
    have := vws_len (l := l) (i := i)
    unfold vws
    rw [List.length_append]
    cases l[i]? with
    | none => simp; omega
    | some p =>
      have : (vStep i p).length ≤ 1 := by unfold vStep; split <;> simp
      simp only; omega
end Go.Aff.L10

/- Layer 32, walked: what views does with one post. -/
-- cuts
namespace Go.Aff.L10
open Go.Proofs Go.Aff Go.Aff.L01 Classical
set_option linter.unusedVariables false
set_option linter.unusedSimpArgs false
set_option maxRecDepth 20000
attribute [local go_sem] push_app app_app length_app cellAt_app cellAt_app0 set_app set_app0 objs_app objs_app0 List.cons_append List.nil_append List.length_cons List.length_nil List.getElem?_cons_zero List.getElem?_cons_succ List.set_cons_zero List.set_cons_succ List.length_map
attribute [-go_sem] cellAt_new
attribute [-simp] List.length_flatMap
attribute [local go_sem] Try.underlying3 Try.underlying4 Try.underlying5 Try.underlying9 Try.underlying42 Try.underlying43 Try.underlying46 Try.underlying51 Try.underlying39 Try.underlying37 subPs_0 subAt_0 subSet_0 subPs_1 subAt_1 subSet_1 subPs_2 subAt_2 subSet_2 subPs_3 subAt_3 subSet_3 subPs_4 subAt_4 subSet_4 subPs_5 subAt_5 subSet_5 sizes_sub shapes_sub fits_sub zero_sub zt_sub built_sub Try.underlying45 pendPs_0 pendAt_0 pendSet_0 pendPs_1 pendAt_1 pendSet_1 pendPs_2 pendAt_2 pendSet_2 pendPs_3 pendAt_3 pendSet_3 pendPs_4 pendAt_4 pendSet_4 pendPs_5 pendAt_5 pendSet_5 sizes_pend shapes_pend fits_pend zero_pend zt_pend built_pend Try.underlying96 repPs_0 repAt_0 repSet_0 repPs_1 repAt_1 repSet_1 repPs_2 repAt_2 repSet_2 repPs_3 repAt_3 repSet_3 repPs_4 repAt_4 repSet_4 repPs_5 repAt_5 repSet_5 repPs_6 repAt_6 repSet_6 repPs_7 repAt_7 repSet_7 repPs_8 repAt_8 repSet_8 repPs_9 repAt_9 repSet_9 sizes_rep shapes_rep fits_rep zero_rep zt_rep built_rep Try.underlying48 blobPs_0 blobAt_0 blobSet_0 blobPs_1 blobAt_1 blobSet_1 blobPs_2 blobAt_2 blobSet_2 blobPs_3 blobAt_3 blobSet_3 sizes_blob shapes_blob fits_blob zero_blob zt_blob built_blob Try.underlying50 msgPs_0 msgAt_0 msgSet_0 msgPs_1 msgAt_1 msgSet_1 msgPs_2 msgAt_2 msgSet_2 msgPs_3 msgAt_3 msgSet_3 msgPs_4 msgAt_4 msgSet_4 msgPs_5 msgAt_5 msgSet_5 msgPs_6 msgAt_6 msgSet_6 msgPs_7 msgAt_7 msgSet_7 msgPs_8 msgAt_8 msgSet_8 msgPs_9 msgAt_9 msgSet_9 sizes_msg shapes_msg fits_msg zero_msg zt_msg built_msg Try.underlying53 at_Ps_0 at_Set_0 at_Ps_1 at_Set_1 sizes_at_ shapes_at_
attribute [local go_sem] fits3 fits4 fits5 fits9 fits23 fits26 fits31 fits34 fits52 zt3 zero3 zt34 zero34 zt23 zero23 bin_sub_eql bin_pend_eql bin_pend_neq bin_blob_eql bin_dig23_eql bin_dig23_neq slice23
attribute [local go_sem ↓] blockQ_exit2
attribute [local simp] dig_ext
attribute [local go_sem] postPs_0 postAt_0 postSet_0 postPs_1 postAt_1 postSet_1 postPs_2 postAt_2 postSet_2 sizes_post shapes_post fits_post zero_post zt_post built_post Try.underlying34 keyPs_0 keyAt_0 keySet_0 keyPs_1 keyAt_1 keySet_1 keyPs_2 keyAt_2 keySet_2 sizes_key shapes_key fits_key zero_key zt_key built_key Try.underlying74 conPs_0 conAt_0 conSet_0 conPs_1 conAt_1 conSet_1 sizes_con shapes_con fits_con zero_con zt_con built_con Try.underlying76 Try.underlying22 Try.underlying24 Try.underlying25 Try.underlying27 Try.underlying30 Try.underlying51 Try.underlying99 Try.underlying101 Try.underlying102 Try.underlying104
theorem fits30' {v : AV} : fits Try.prog 30 v = (v.isAgg = false ∧ v.size = 1) := fits_leaf (by kernel_rfl) (by kernel_rfl)
theorem fits51' {v : AV} : fits Try.prog 51 v = (v.isAgg = false ∧ v.size = 1) := fits_leaf (by kernel_rfl) (by kernel_rfl)
attribute [local go_sem] fits30' fits51'
theorem E51i : ElemT Try.prog 51 3 1 8 := ⟨rfl, by kernel_rfl, by kernel_rfl, ⟨_, of_eq_true zt3⟩, by decide⟩
theorem E30s : ElemT Try.prog 30 9 1 16 := Go.Aff.L09.E33
theorem size_s {l : List (List UInt8 × Int)} : ∀ v ∈ l.map (fun x => AV.str x.1), v.size = 1 := by
  intro v hv; obtain ⟨x, _, rfl⟩ := List.mem_map.1 hv; rfl
theorem size_i {l : List (List UInt8 × Int)} : ∀ v ∈ l.map (fun x => AV.int .i64 x.2), v.size = 1 := by
  intro v hv; obtain ⟨x, _, rfl⟩ := List.mem_map.1 hv; rfl
theorem append_s {V : List (List UInt8 × Int)} {x : List UInt8 × Int} {tk tk2 : Tk} {σ : AST} {K : AV → AST → Prop} (hca : canApp σ tk V.length 1) (hl : V.length ≤ 1000) (hK : K (.slice (growT σ tk) ((V ++ [x]).map fun x => .str x.1)) (growS σ tk (V.length + 1) 1)) :
    appendW Try.prog ⟨[30, 30]⟩ (.slice tk (V.map fun x => .str x.1)) (.slice tk2 [.str x.1]) σ K := by
  refine append_slice E30s rfl (by rw [List.length_map]; exact hca) (by intro v hv; simp at hv; subst hv; rfl) size_s (by simp; omega) (by simp [maxL]; omega) ?_
  simpa using hK
theorem append_i {V : List (List UInt8 × Int)} {x : List UInt8 × Int} {tk tk2 : Tk} {σ : AST} {K : AV → AST → Prop} (hca : canApp σ tk V.length 1) (hl : V.length ≤ 1000) (hK : K (.slice (growT σ tk) ((V ++ [x]).map fun x => .int .i64 x.2)) (growS σ tk (V.length + 1) 1)) :
    appendW Try.prog ⟨[51, 51]⟩ (.slice tk (V.map fun x => .int .i64 x.2)) (.slice tk2 [.int .i64 x.2]) σ K := by
  refine append_slice E51i rfl (by rw [List.length_map]; exact hca) (by intro v hv; simp at hv; subst hv; rfl) size_i (by simp; omega) (by simp [maxL]; omega) ?_
  simpa using hK
theorem view1_c {σ0 s : AST} {c1 c2 : Nat} {V : List (List UInt8 × Int)} {i : Nat} {p : Post} {t u : Tk} {K : AV → AST → Prop} (h : VS σ0 s c1 c2 V) (hl : V.length ≤ 1000) (hK : ∀ s', VS σ0 s' c1 c2 (V ++ vStep i p) → K (.tuple []) s') :
    TCalls Try.prog 33 [.int .i64 i, msgV t u (getR p.b).1, .bool ((getR p.b).2 == 0), .ptr (some (c1, [])), .ptr (some (c2, []))] s K := by
  unfold vStep at hK
  generalize getR p.b = r at hK ⊢
  have hx := h.ext (Ext.app s [.cells (msgV t u r.1)])
  refine tcalls_walk Try.f33 _ [] Try.func33 rfl rfl rfl mixed (Nat.le_of_ble_eq_true rfl) rfl fun hlen => ?_
  by_cases hc : r.2 = 0 ∧ comM32 r.1
  · rw [if_pos hc] at hK
    obtain ⟨he, hm⟩ := hc
    obtain ⟨tv, ta, o1, o2, n1, n2, ap, cv, ca⟩ := hx.o
    have hd := hx.d
    generalize hs1 : s.app [.cells (msgV t u r.1)] = s1 at hx o1 o2 cv ca
    have g1 : ∀ n, (growS s1 tv n 1).objs[c1]? = some (.cells (.slice tv (V.map fun x => .str x.1))) := fun n => by rw [growS_objs]; exact o1
    have g2 : ∀ n o, ((growS s1 tv n 1).set c1 o).objs[c2]? = some (.cells (.slice ta (V.map fun x => .int .i64 x.2))) := fun n o => by rw [objs_setN' hd, growS_objs]; exact o2
    have g3 : ∀ n m o, (growS ((growS s1 tv n 1).set c1 o) ta m 1).objs[c2]? = some (.cells (.slice ta (V.map fun x => .int .i64 x.2))) := fun n m o => by rw [growS_objs]; exact g2 n o
    have k2 := fun n o => cellAt_known (g2 n o)
    have ca2 : ∀ o, canApp ((growS s1 tv (V.length + 1) 1).set c1 o) ta V.length 1 := fun o => by rw [canApp_set]; exact canApp_apart ap ca
    have b1 : s1.objs[s.objs.length]? = some (.cells (msgV t u r.1)) := by rw [← hs1]; exact objs_app0
    have cb1 := cellAt_known b1
    have q1 := cellAt_known o1
    have q2 := cellAt_known o2
    repeat' (first | (simp -dsimp only [↓reduceIte, go_sem, he, hm, q1, q2, o1, o2, hs1, g1, g2, g3, k2, cb1]) | (refine arr_intro fun _ => ?_) | (refine later_intro ⟨keeps_nil, ?_⟩) | (refine later_intro ⟨keeps_refl, ?_⟩) | (with_reducible refine keeps_go ?_ ?_; focus (first | (simp [keeps_cons, keeps_none, objs_app, objs_app0]; done) | (simp only [keeps_cons, keeps_none, objs_app0, objs_app, and_true]; first | rfl | exact ⟨rfl, rfl⟩ | exact ⟨rfl, rfl, rfl⟩))) | (with_reducible refine (And.intro (a := keeps _ _ _) ?_ ?_); focus (first | (simp [keeps_cons, keeps_none, objs_app, objs_app0]; done) | (simp only [keeps_cons, keeps_none, objs_app0, objs_app, and_true]; first | rfl | exact ⟨rfl, rfl⟩ | exact ⟨rfl, rfl, rfl⟩))) | (refine both_ways ?_ ?_) | (rw [wrap_i64 (by omega) (by omega)]) | (refine guardV_split (fun h => ?_) (fun h => ?_) <;> (try rw [h]) <;> (try simp at h) <;> (try (exfalso; omega))) | ((refine commit_c ?_)) | (refine build_slice E30s rfl (by decide) (by intro v hv; simp at hv; subst hv; simp [go_sem]) ?_) | (refine append_s (x := (r.1.view, (i : Int))) cv hl ?_) | (refine build_slice E51i rfl (by decide) (by intro v hv; simp at hv; subst hv; simp [go_sem]) ?_) | (refine append_i (x := (r.1.view, (i : Int))) (ca2 _) hl ?_))
    refine hK _ ?_
    have e1 := (hx.x.grow (n := V.length + 1) (es := 1) n1).set (o := .cells (.slice (growT s1 tv) ((V ++ [(r.1.view, (i : Int))]).map fun x => .str x.1))) hx.n1
    have v1 : canApp ((growS s1 tv (V.length + 1) 1).set c1 (.cells (.slice (growT s1 tv) ((V ++ [(r.1.view, (i : Int))]).map fun x => .str x.1)))) (growT s1 tv) (V.length + 1) 1 := by rw [canApp_set]; exact canApp_grow cv
    have a1 := ca2 (.cells (.slice (growT s1 tv) ((V ++ [(r.1.view, (i : Int))]).map fun x => .str x.1)))
    have p1 := apart_grow ap ca
    have l1 : c1 < ((growS s1 tv (V.length + 1) 1)).objs.length := by rw [growS_objs]; exact (List.getElem?_eq_some_iff.1 o1).1
    have w1 := objs_setS' (o := .cells (.slice (growT s1 tv) ((V ++ [(r.1.view, (i : Int))]).map fun x => .str x.1))) l1
    have w2 := g2 (V.length + 1) (.cells (.slice (growT s1 tv) ((V ++ [(r.1.view, (i : Int))]).map fun x => .str x.1)))
    have m1 := n1.grow hx.x
    generalize (growS s1 tv (V.length + 1) 1).set c1 (.cells (.slice (growT s1 tv) ((V ++ [(r.1.view, (i : Int))]).map fun x => .str x.1))) = s2 at *
    have l2 : c2 < (growS s2 ta (V.length + 1) 1).objs.length := by rw [growS_objs]; exact (List.getElem?_eq_some_iff.1 w2).1
    refine ⟨(e1.grow n2).set hx.n2, hd, hx.n1, hx.n2, growT s1 tv, growT s2 ta, ?_, objs_setS' l2, m1, n2.grow e1, (apart_grow p1.symm v1).symm, ?_, ?_⟩
    · rw [objs_setN' (Ne.symm hd), growS_objs]; exact w1
    · rw [canApp_set, List.length_append]; exact canApp_apart p1.symm v1
    · rw [canApp_set, List.length_append]; exact canApp_grow a1
  · rw [if_neg hc] at hK
    by_cases he : r.2 = 0
    · have hm : ¬ comM32 r.1 := fun e => hc ⟨he, e⟩
      repeat' (first | (simp -dsimp only [↓reduceIte, go_sem, he, hm]) | (refine arr_intro fun _ => ?_) | (refine later_intro ⟨keeps_nil, ?_⟩) | (refine later_intro ⟨keeps_refl, ?_⟩) | (with_reducible refine keeps_go ?_ ?_; focus (first | (simp [keeps_cons, keeps_none, objs_app, objs_app0]; done) | (simp only [keeps_cons, keeps_none, objs_app0, objs_app, and_true]; first | rfl | exact ⟨rfl, rfl⟩ | exact ⟨rfl, rfl, rfl⟩))) | (with_reducible refine (And.intro (a := keeps _ _ _) ?_ ?_); focus (first | (simp [keeps_cons, keeps_none, objs_app, objs_app0]; done) | (simp only [keeps_cons, keeps_none, objs_app0, objs_app, and_true]; first | rfl | exact ⟨rfl, rfl⟩ | exact ⟨rfl, rfl, rfl⟩))) | (refine both_ways ?_ ?_) | (rw [wrap_i64 (by omega) (by omega)]) | (refine guardV_split (fun h => ?_) (fun h => ?_) <;> (try rw [h]) <;> (try simp at h) <;> (try (exfalso; omega))) | ((refine commit_c ?_)))
      exact hK _ (by simpa using hx)
    · repeat' (first | (simp -dsimp only [↓reduceIte, go_sem, he]) | (refine arr_intro fun _ => ?_) | (refine later_intro ⟨keeps_nil, ?_⟩) | (refine later_intro ⟨keeps_refl, ?_⟩) | (with_reducible refine keeps_go ?_ ?_; focus (first | (simp [keeps_cons, keeps_none, objs_app, objs_app0]; done) | (simp only [keeps_cons, keeps_none, objs_app0, objs_app, and_true]; first | rfl | exact ⟨rfl, rfl⟩ | exact ⟨rfl, rfl, rfl⟩))) | (with_reducible refine (And.intro (a := keeps _ _ _) ?_ ?_); focus (first | (simp [keeps_cons, keeps_none, objs_app, objs_app0]; done) | (simp only [keeps_cons, keeps_none, objs_app0, objs_app, and_true]; first | rfl | exact ⟨rfl, rfl⟩ | exact ⟨rfl, rfl, rfl⟩))) | (refine both_ways ?_ ?_) | (rw [wrap_i64 (by omega) (by omega)]) | (refine guardV_split (fun h => ?_) (fun h => ?_) <;> (try rw [h]) <;> (try simp at h) <;> (try (exfalso; omega))))
      exact hK _ (by simpa using hx)
end Go.Aff.L10

/- Layer 32, walked: views. -/
-- cuts
namespace Go.Aff.L10
open Go.Proofs Go.Aff Go.Aff.L01 Classical
set_option linter.unusedVariables false
set_option linter.unusedSimpArgs false
set_option maxRecDepth 20000
attribute [local go_sem] push_app app_app length_app cellAt_app cellAt_app0 set_app set_app0 objs_app objs_app0 List.cons_append List.nil_append List.length_cons List.length_nil List.getElem?_cons_zero List.getElem?_cons_succ List.set_cons_zero List.set_cons_succ List.length_map
attribute [-go_sem] cellAt_new
attribute [-simp] List.length_flatMap
attribute [local go_sem] Try.underlying3 Try.underlying4 Try.underlying5 Try.underlying9 Try.underlying42 Try.underlying43 Try.underlying46 Try.underlying51 Try.underlying39 Try.underlying37 subPs_0 subAt_0 subSet_0 subPs_1 subAt_1 subSet_1 subPs_2 subAt_2 subSet_2 subPs_3 subAt_3 subSet_3 subPs_4 subAt_4 subSet_4 subPs_5 subAt_5 subSet_5 sizes_sub shapes_sub fits_sub zero_sub zt_sub built_sub Try.underlying45 pendPs_0 pendAt_0 pendSet_0 pendPs_1 pendAt_1 pendSet_1 pendPs_2 pendAt_2 pendSet_2 pendPs_3 pendAt_3 pendSet_3 pendPs_4 pendAt_4 pendSet_4 pendPs_5 pendAt_5 pendSet_5 sizes_pend shapes_pend fits_pend zero_pend zt_pend built_pend Try.underlying96 repPs_0 repAt_0 repSet_0 repPs_1 repAt_1 repSet_1 repPs_2 repAt_2 repSet_2 repPs_3 repAt_3 repSet_3 repPs_4 repAt_4 repSet_4 repPs_5 repAt_5 repSet_5 repPs_6 repAt_6 repSet_6 repPs_7 repAt_7 repSet_7 repPs_8 repAt_8 repSet_8 repPs_9 repAt_9 repSet_9 sizes_rep shapes_rep fits_rep zero_rep zt_rep built_rep Try.underlying48 blobPs_0 blobAt_0 blobSet_0 blobPs_1 blobAt_1 blobSet_1 blobPs_2 blobAt_2 blobSet_2 blobPs_3 blobAt_3 blobSet_3 sizes_blob shapes_blob fits_blob zero_blob zt_blob built_blob Try.underlying50 msgPs_0 msgAt_0 msgSet_0 msgPs_1 msgAt_1 msgSet_1 msgPs_2 msgAt_2 msgSet_2 msgPs_3 msgAt_3 msgSet_3 msgPs_4 msgAt_4 msgSet_4 msgPs_5 msgAt_5 msgSet_5 msgPs_6 msgAt_6 msgSet_6 msgPs_7 msgAt_7 msgSet_7 msgPs_8 msgAt_8 msgSet_8 msgPs_9 msgAt_9 msgSet_9 sizes_msg shapes_msg fits_msg zero_msg zt_msg built_msg Try.underlying53 at_Ps_0 at_Set_0 at_Ps_1 at_Set_1 sizes_at_ shapes_at_
attribute [local go_sem] fits3 fits4 fits5 fits9 fits23 fits26 fits31 fits34 fits52 zt3 zero3 zt34 zero34 zt23 zero23 bin_sub_eql bin_pend_eql bin_pend_neq bin_blob_eql bin_dig23_eql bin_dig23_neq slice23
attribute [local go_sem ↓] blockQ_exit2
attribute [local simp] dig_ext
attribute [local go_sem] postPs_0 postAt_0 postSet_0 postPs_1 postAt_1 postSet_1 postPs_2 postAt_2 postSet_2 sizes_post shapes_post fits_post zero_post zt_post built_post Try.underlying34 keyPs_0 keyAt_0 keySet_0 keyPs_1 keyAt_1 keySet_1 keyPs_2 keyAt_2 keySet_2 sizes_key shapes_key fits_key zero_key zt_key built_key Try.underlying74 conPs_0 conAt_0 conSet_0 conPs_1 conAt_1 conSet_1 sizes_con shapes_con fits_con zero_con zt_con built_con Try.underlying76 Try.underlying22 Try.underlying24 Try.underlying25 Try.underlying27 Try.underlying30 Try.underlying51 Try.underlying99 Try.underlying101 Try.underlying102 Try.underlying104
theorem vws_next {l : List Post} {i : Nat} {p : Post} (h : l[i]? = some p) : vws l (i + 1) = vws l i ++ vStep i p := by
  show vws l i ++ _ = _
  rw [h]
theorem zs30 : ZeroOf Try.prog 30 (.slice .full []) = True := eq_true ⟨_, _, rfl, rfl, rfl, rfl, rfl⟩
theorem zs51 : ZeroOf Try.prog 51 (.slice .full []) = True := eq_true ⟨_, _, rfl, rfl, rfl, rfl, rfl⟩
theorem za30 : zeroA Try.prog 12 30 = .slice .full [] := by kernel_rfl
theorem za51 : zeroA Try.prog 12 51 = .slice .full [] := by kernel_rfl
attribute [local go_sem] zs30 zs51 za30 za51 fits30' fits51'
theorem views_c {ps : List Post} {ta : Tk} {σ : AST} {K : AV → AST → Prop} (hl : ps.length ≤ 1000) (hK : ∀ s tv tw, Ext σ s → K (.tuple [.slice tv ((vws ps ps.length).map fun x => .str x.1), .slice tw ((vws ps ps.length).map fun x => .int .i64 x.2)]) s) : TCalls Try.prog 17 [.slice ta (ps.map postV)] σ K := by
  have hV0 : VS σ (σ.app [.cells (.slice .full []), .cells (.slice .full [])]) σ.objs.length (σ.objs.length + 1) (vws ps 0) := by
    refine ⟨Ext.app _ _, by omega, by omega, by omega, .full, .full, ?_, ?_, .inl rfl, .inl rfl, apart_full, trivial, trivial⟩
    · simp [AST.app, vws]
    · simp [AST.app, vws]
  refine tcalls_walk Try.f17 _ [.tmp 2, .tmp 3] Try.func17 rfl rfl rfl mixed (Nat.le_of_ble_eq_true rfl) rfl fun hlen => ?_
  repeat' (first | (simp -dsimp only [↓reduceIte, go_sem]) | (refine arr_intro fun _ => ?_) | (refine later_intro ⟨keeps_nil, ?_⟩) | (refine later_intro ⟨keeps_refl, ?_⟩) | (with_reducible refine keeps_go ?_ ?_; focus (first | (simp [keeps_cons, keeps_none, objs_app, objs_app0]; done) | (simp only [keeps_cons, keeps_none, objs_app0, objs_app, and_true]; first | rfl | exact ⟨rfl, rfl⟩ | exact ⟨rfl, rfl, rfl⟩))) | (with_reducible refine (And.intro (a := keeps _ _ _) ?_ ?_); focus (first | (simp [keeps_cons, keeps_none, objs_app, objs_app0]; done) | (simp only [keeps_cons, keeps_none, objs_app0, objs_app, and_true]; first | rfl | exact ⟨rfl, rfl⟩ | exact ⟨rfl, rfl, rfl⟩))) | (refine both_ways ?_ ?_) | (rw [wrap_i64 (by omega) (by omega)]) | (refine guardV_split (fun h => ?_) (fun h => ?_) <;> (try rw [h]) <;> (try simp at h) <;> (try (exfalso; omega))))
  refine ⟨by intro x hx; simp only [List.mem_cons, List.not_mem_nil, or_false] at hx; rcases hx with rfl | rfl <;> simp only [go_sem], later_intro ?_⟩
  repeat' (first | (simp -dsimp only [↓reduceIte, go_sem]) | (refine arr_intro fun _ => ?_) | (refine later_intro ⟨keeps_nil, ?_⟩) | (refine later_intro ⟨keeps_refl, ?_⟩) | (with_reducible refine keeps_go ?_ ?_; focus (first | (simp [keeps_cons, keeps_none, objs_app, objs_app0]; done) | (simp only [keeps_cons, keeps_none, objs_app0, objs_app, and_true]; first | rfl | exact ⟨rfl, rfl⟩ | exact ⟨rfl, rfl, rfl⟩))) | (with_reducible refine (And.intro (a := keeps _ _ _) ?_ ?_); focus (first | (simp [keeps_cons, keeps_none, objs_app, objs_app0]; done) | (simp only [keeps_cons, keeps_none, objs_app0, objs_app, and_true]; first | rfl | exact ⟨rfl, rfl⟩ | exact ⟨rfl, rfl, rfl⟩))) | (refine both_ways ?_ ?_) | (rw [wrap_i64 (by omega) (by omega)]) | (refine guardV_split (fun h => ?_) (fun h => ?_) <;> (try rw [h]) <;> (try simp at h) <;> (try (exfalso; omega))))
  refine each_c (fun i s => VS σ s σ.objs.length (σ.objs.length + 1) (vws ps i)) hV0 (fun i s s' h e => h.ext e) (fun i p s t u K' hp hJ hK' => ?_) (fun s hJ => ?_)
  · have hi := (List.getElem?_eq_some_iff.1 hp).1
    have := vws_len (l := ps) (i := i)
    refine view1_c hJ (by omega) fun s' h' => hK' s' (by rw [vws_next hp]; exact h')
  · obtain ⟨tv, tw, o1, o2, _⟩ := hJ.o
    have q1 := cellAt_known o1
    have q2 := cellAt_known o2
    repeat' (first | (simp -dsimp only [↓reduceIte, go_sem, q1, q2]) | (refine arr_intro fun _ => ?_) | (refine later_intro ⟨keeps_nil, ?_⟩) | (refine later_intro ⟨keeps_refl, ?_⟩) | (with_reducible refine keeps_go ?_ ?_; focus (first | (simp [keeps_cons, keeps_none, objs_app, objs_app0]; done) | (simp only [keeps_cons, keeps_none, objs_app0, objs_app, and_true]; first | rfl | exact ⟨rfl, rfl⟩ | exact ⟨rfl, rfl, rfl⟩))) | (with_reducible refine (And.intro (a := keeps _ _ _) ?_ ?_); focus (first | (simp [keeps_cons, keeps_none, objs_app, objs_app0]; done) | (simp only [keeps_cons, keeps_none, objs_app0, objs_app, and_true]; first | rfl | exact ⟨rfl, rfl⟩ | exact ⟨rfl, rfl, rfl⟩))) | (refine both_ways ?_ ?_) | (rw [wrap_i64 (by omega) (by omega)]) | (refine guardV_split (fun h => ?_) (fun h => ?_) <;> (try rw [h]) <;> (try simp at h) <;> (try (exfalso; omega))) | (with_reducible refine awp_drawS (id := 4) [0, 1, 2, 3] (by kernel_rfl) ?_))
    exact hK _ _ _ hJ.x
end Go.Aff.L10

