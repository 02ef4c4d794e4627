import Derived.Test.YtipnjeciaagabaaG21

set_option linter.unusedSimpArgs false
set_option linter.unusedVariables false

/- Layer 10, walked: lists that may be, lists compared, answers. -/
namespace Go.Aff.L10
open Go.Proofs Go.Aff Go.Aff.L01 Classical
set_option linter.unusedVariables false
set_option linter.unusedSimpArgs false
set_option maxRecDepth 20000
attribute [local go_sem] push_app app_app length_app cellAt_app cellAt_app0 set_app set_app0 objs_app objs_app0 List.cons_append List.nil_append List.length_cons List.length_nil List.getElem?_cons_zero List.getElem?_cons_succ List.set_cons_zero List.set_cons_succ List.length_map
attribute [-go_sem] cellAt_new
attribute [-simp] List.length_flatMap
attribute [local go_sem] Try.underlying3 Try.underlying4 Try.underlying5 Try.underlying9 Try.underlying29 Try.underlying30 Try.underlying33 Try.underlying38 Try.underlying24 Try.underlying89 subPs_0 subAt_0 subSet_0 subPs_1 subAt_1 subSet_1 subPs_2 subAt_2 subSet_2 subPs_3 subAt_3 subSet_3 subPs_4 subAt_4 subSet_4 subPs_5 subAt_5 subSet_5 sizes_sub shapes_sub fits_sub zero_sub zt_sub built_sub Try.underlying32 pendPs_0 pendAt_0 pendSet_0 pendPs_1 pendAt_1 pendSet_1 pendPs_2 pendAt_2 pendSet_2 pendPs_3 pendAt_3 pendSet_3 pendPs_4 pendAt_4 pendSet_4 pendPs_5 pendAt_5 pendSet_5 sizes_pend shapes_pend fits_pend zero_pend zt_pend built_pend Try.underlying98 repPs_0 repAt_0 repSet_0 repPs_1 repAt_1 repSet_1 repPs_2 repAt_2 repSet_2 repPs_3 repAt_3 repSet_3 repPs_4 repAt_4 repSet_4 repPs_5 repAt_5 repSet_5 repPs_6 repAt_6 repSet_6 repPs_7 repAt_7 repSet_7 repPs_8 repAt_8 repSet_8 repPs_9 repAt_9 repSet_9 sizes_rep shapes_rep fits_rep zero_rep zt_rep built_rep Try.underlying35 blobPs_0 blobAt_0 blobSet_0 blobPs_1 blobAt_1 blobSet_1 blobPs_2 blobAt_2 blobSet_2 blobPs_3 blobAt_3 blobSet_3 sizes_blob shapes_blob fits_blob zero_blob zt_blob built_blob Try.underlying37 msgPs_0 msgAt_0 msgSet_0 msgPs_1 msgAt_1 msgSet_1 msgPs_2 msgAt_2 msgSet_2 msgPs_3 msgAt_3 msgSet_3 msgPs_4 msgAt_4 msgSet_4 msgPs_5 msgAt_5 msgSet_5 msgPs_6 msgAt_6 msgSet_6 msgPs_7 msgAt_7 msgSet_7 msgPs_8 msgAt_8 msgSet_8 msgPs_9 msgAt_9 msgSet_9 sizes_msg shapes_msg fits_msg zero_msg zt_msg built_msg Try.underlying40 at_Ps_0 at_Set_0 at_Ps_1 at_Set_1 sizes_at_ shapes_at_
attribute [local go_sem] fits3 fits4 fits5 fits9 fits23 fits26 fits31 fits34 fits52 zt3 zero3 zt34 zero34 zt23 zero23 bin_sub_eql bin_pend_eql bin_pend_neq bin_blob_eql bin_dig23_eql bin_dig23_neq slice23
attribute [local go_sem ↓] blockQ_exit2
attribute [local simp] dig_ext

theorem ext_to {α : Type} {a b : List α} (h : a.length = b.length) (hall : ∀ (j : Nat) x y, j < a.length → a[j]? = some x → b[j]? = some y → x = y) : a = b := by
  apply List.ext_getElem?
  intro j
  by_cases hj : j < a.length
  · obtain ⟨x, hx⟩ := get_lt hj
    obtain ⟨y, hy⟩ := get_lt (l := b) (i := j) (by omega)
    rw [hx, hy, hall j x y hj hx hy]
  · rw [List.getElem?_eq_none (by omega), List.getElem?_eq_none (by omega)]
theorem all_next {α : Type} {a b : List α} {i : Nat} {x y : α} (hall : ∀ (j : Nat) x y, j < i → a[j]? = some x → b[j]? = some y → x = y) (hx : a[i]? = some x) (hy : b[i]? = some y) (h : x = y) : ∀ (j : Nat) x y, j < i + 1 → a[j]? = some x → b[j]? = some y → x = y := by
  intro j u v hj hu hv
  by_cases hji : j < i
  · exact hall j u v hji hu hv
  · obtain rfl : j = i := by omega
    rw [hx] at hu; rw [hy] at hv; cases hu; cases hv; exact h
theorem ne_at {α : Type} {a b : List α} {i : Nat} {x y : α} (hx : a[i]? = some x) (hy : b[i]? = some y) (h : ¬ x = y) : ¬ a = b := by
  rintro rfl; rw [hx] at hy; cases hy; exact h rfl

theorem equalInts_c {a b : List Int} {ta tb : Tk} {σ : AST} {K : AV → AST → Prop} (hK : K (.bool (decide (a = b))) σ) : TCalls Try.prog 69 [.slice ta (a.map (AV.int .i64)), .slice tb (b.map (AV.int .i64))] σ K := by
  refine tcalls_walk Try.f69 _ [.tmp 4] Try.func69 rfl rfl rfl mixed (Nat.le_of_ble_eq_true rfl) rfl fun hlen => ?_
  have hla : a.length ≤ 9223372036854775807 := by simpa [maxL, lenOk] using hlen _ (List.mem_cons_self ..)
  repeat' (first | (simp -dsimp only [↓reduceIte, go_sem]) | (refine arr_intro fun _ => ?_) | (refine later_intro ⟨keeps_nil, ?_⟩) | (refine later_intro ⟨keeps_refl, ?_⟩) | (with_reducible refine keeps_go ?_ ?_; focus (first | (simp [keeps_cons, keeps_none, objs_app, objs_app0]; done) | (simp only [keeps_cons, keeps_none, objs_app0, objs_app, and_true]; first | rfl | exact ⟨rfl, rfl⟩ | exact ⟨rfl, rfl, rfl⟩))) | (with_reducible refine (And.intro (a := keeps _ _ _) ?_ ?_); focus (first | (simp [keeps_cons, keeps_none, objs_app, objs_app0]; done) | (simp only [keeps_cons, keeps_none, objs_app0, objs_app, and_true]; first | rfl | exact ⟨rfl, rfl⟩ | exact ⟨rfl, rfl, rfl⟩))) | (refine both_ways ?_ ?_) | (rw [wrap_i64 (by omega) (by omega)]) | (refine guardV_split (fun h => ?_) (fun h => ?_) <;> (try rw [h]) <;> (try simp at h) <;> (try (exfalso; omega))))
  · refine bool_endD hK (by simp; rintro rfl; omega)
  · have hab : a.length = b.length := by omega
    refine awp_rounds (fun (i : Nat) τ s => s = σ ∧ i ≤ a.length ∧ (∀ (j : Nat) x y, j < i → a[j]? = some x → b[j]? = some y → x = y) ∧ τ 0 = .slice ta (a.map (AV.int .i64)) ∧ τ 1 = .slice tb (b.map (AV.int .i64)) ∧ τ 12 = .int .i64 a.length ∧ τ 13 = .int .i64 i) (fun i => a.length - i) 0 ?_ ?_
    · refine ⟨rfl, by omega, fun j x y h => by omega, ?_, ?_, ?_, ?_⟩ <;> (try simp only [go_sem]) <;> rfl
    · rintro i τ s ⟨rfl, hi, hall, t0, t1, t12, t13⟩
      simp -dsimp only [↓reduceIte, go_sem, t0, t1, t12, t13]
      refine boolW_split (fun hb => ?_) (fun hb => ?_)
      · have hb : i < a.length := by simp at hb; omega
        obtain ⟨x, hax⟩ := get_lt hb
        obtain ⟨y, hby⟩ := get_lt (l := b) (i := i) (by omega)
        repeat' (first | (simp -dsimp only [↓reduceIte, go_sem, t0, t1, t12, t13]) | (refine arr_intro fun _ => ?_) | (refine later_intro ⟨keeps_nil, ?_⟩) | (refine later_intro ⟨keeps_refl, ?_⟩) | (with_reducible refine keeps_go ?_ ?_; focus (first | (simp [keeps_cons, keeps_none, objs_app, objs_app0]; done) | (simp only [keeps_cons, keeps_none, objs_app0, objs_app, and_true]; first | rfl | exact ⟨rfl, rfl⟩ | exact ⟨rfl, rfl, rfl⟩))) | (with_reducible refine (And.intro (a := keeps _ _ _) ?_ ?_); focus (first | (simp [keeps_cons, keeps_none, objs_app, objs_app0]; done) | (simp only [keeps_cons, keeps_none, objs_app0, objs_app, and_true]; first | rfl | exact ⟨rfl, rfl⟩ | exact ⟨rfl, rfl, rfl⟩))) | (refine both_ways ?_ ?_) | (rw [wrap_i64 (by omega) (by omega)]) | (refine guardV_split (fun h => ?_) (fun h => ?_) <;> (try rw [h]) <;> (try simp at h) <;> (try (exfalso; omega))) | (with_reducible refine awp_drawS (id := 6) [0, 1, 2, 3, 4, 5, 6, 7, 8] (by kernel_rfl) ?_) | (refine nth_get hax ?_) | (refine nth_get hby ?_))
        · exact bool_endD hK (by simp; exact ne_at hax hby (by assumption))
        · refine later_intro ⟨i + 1, by omega, rfl, by omega, all_next hall hax hby (by assumption), ?_, ?_, ?_, ?_⟩ <;> (try simp only [go_sem, t0, t1, t12, t13]) <;> rfl
      · have hb : i = a.length := by simp at hb; omega
        subst hb
        repeat' (first | (simp -dsimp only [↓reduceIte, go_sem, t0, t1, t12, t13]) | (refine arr_intro fun _ => ?_) | (refine later_intro ⟨keeps_nil, ?_⟩) | (refine later_intro ⟨keeps_refl, ?_⟩) | (with_reducible refine keeps_go ?_ ?_; focus (first | (simp [keeps_cons, keeps_none, objs_app, objs_app0]; done) | (simp only [keeps_cons, keeps_none, objs_app0, objs_app, and_true]; first | rfl | exact ⟨rfl, rfl⟩ | exact ⟨rfl, rfl, rfl⟩))) | (with_reducible refine (And.intro (a := keeps _ _ _) ?_ ?_); focus (first | (simp [keeps_cons, keeps_none, objs_app, objs_app0]; done) | (simp only [keeps_cons, keeps_none, objs_app0, objs_app, and_true]; first | rfl | exact ⟨rfl, rfl⟩ | exact ⟨rfl, rfl, rfl⟩))) | (refine both_ways ?_ ?_) | (rw [wrap_i64 (by omega) (by omega)]) | (refine guardV_split (fun h => ?_) (fun h => ?_) <;> (try rw [h]) <;> (try simp at h) <;> (try (exfalso; omega))))
        exact bool_endD hK (by simp; exact ext_to hab hall)
theorem equalPends_c {a b : List Pend} {ta tb : Tk} {σ : AST} {K : AV → AST → Prop} (hK : K (.bool (decide (a = b))) σ) : TCalls Try.prog 75 [.slice ta (a.map pendV), .slice tb (b.map pendV)] σ K := by
  refine tcalls_walk Try.f75 _ [.tmp 4] Try.func75 rfl rfl rfl mixed (Nat.le_of_ble_eq_true rfl) rfl fun hlen => ?_
  have hla : a.length ≤ 9223372036854775807 := by simpa [maxL, lenOk] using hlen _ (List.mem_cons_self ..)
  repeat' (first | (simp -dsimp only [↓reduceIte, go_sem]) | (refine arr_intro fun _ => ?_) | (refine later_intro ⟨keeps_nil, ?_⟩) | (refine later_intro ⟨keeps_refl, ?_⟩) | (with_reducible refine keeps_go ?_ ?_; focus (first | (simp [keeps_cons, keeps_none, objs_app, objs_app0]; done) | (simp only [keeps_cons, keeps_none, objs_app0, objs_app, and_true]; first | rfl | exact ⟨rfl, rfl⟩ | exact ⟨rfl, rfl, rfl⟩))) | (with_reducible refine (And.intro (a := keeps _ _ _) ?_ ?_); focus (first | (simp [keeps_cons, keeps_none, objs_app, objs_app0]; done) | (simp only [keeps_cons, keeps_none, objs_app0, objs_app, and_true]; first | rfl | exact ⟨rfl, rfl⟩ | exact ⟨rfl, rfl, rfl⟩))) | (refine both_ways ?_ ?_) | (rw [wrap_i64 (by omega) (by omega)]) | (refine guardV_split (fun h => ?_) (fun h => ?_) <;> (try rw [h]) <;> (try simp at h) <;> (try (exfalso; omega))))
  · refine bool_endD hK (by simp; rintro rfl; omega)
  · have hab : a.length = b.length := by omega
    refine awp_rounds (fun (i : Nat) τ s => s = σ ∧ i ≤ a.length ∧ (∀ (j : Nat) x y, j < i → a[j]? = some x → b[j]? = some y → x = y) ∧ τ 0 = .slice ta (a.map pendV) ∧ τ 1 = .slice tb (b.map pendV) ∧ τ 12 = .int .i64 a.length ∧ τ 13 = .int .i64 i) (fun i => a.length - i) 0 ?_ ?_
    · refine ⟨rfl, by omega, fun j x y h => by omega, ?_, ?_, ?_, ?_⟩ <;> (try simp only [go_sem]) <;> rfl
    · rintro i τ s ⟨rfl, hi, hall, t0, t1, t12, t13⟩
      simp -dsimp only [↓reduceIte, go_sem, t0, t1, t12, t13]
      refine boolW_split (fun hb => ?_) (fun hb => ?_)
      · have hb : i < a.length := by simp at hb; omega
        obtain ⟨x, hax⟩ := get_lt hb
        obtain ⟨y, hby⟩ := get_lt (l := b) (i := i) (by omega)
        repeat' (first | (simp -dsimp only [↓reduceIte, go_sem, t0, t1, t12, t13]) | (refine arr_intro fun _ => ?_) | (refine later_intro ⟨keeps_nil, ?_⟩) | (refine later_intro ⟨keeps_refl, ?_⟩) | (with_reducible refine keeps_go ?_ ?_; focus (first | (simp [keeps_cons, keeps_none, objs_app, objs_app0]; done) | (simp only [keeps_cons, keeps_none, objs_app0, objs_app, and_true]; first | rfl | exact ⟨rfl, rfl⟩ | exact ⟨rfl, rfl, rfl⟩))) | (with_reducible refine (And.intro (a := keeps _ _ _) ?_ ?_); focus (first | (simp [keeps_cons, keeps_none, objs_app, objs_app0]; done) | (simp only [keeps_cons, keeps_none, objs_app0, objs_app, and_true]; first | rfl | exact ⟨rfl, rfl⟩ | exact ⟨rfl, rfl, rfl⟩))) | (refine both_ways ?_ ?_) | (rw [wrap_i64 (by omega) (by omega)]) | (refine guardV_split (fun h => ?_) (fun h => ?_) <;> (try rw [h]) <;> (try simp at h) <;> (try (exfalso; omega))) | (with_reducible refine awp_drawS (id := 6) [0, 1, 2, 3, 4, 5, 6, 7, 8] (by kernel_rfl) ?_) | (refine nth_get hax ?_) | (refine nth_get hby ?_))
        · exact bool_endD hK (by simp; exact ne_at hax hby (by assumption))
        · refine later_intro ⟨i + 1, by omega, rfl, by omega, all_next hall hax hby (by assumption), ?_, ?_, ?_, ?_⟩ <;> (try simp only [go_sem, t0, t1, t12, t13]) <;> rfl
      · have hb : i = a.length := by simp at hb; omega
        subst hb
        repeat' (first | (simp -dsimp only [↓reduceIte, go_sem, t0, t1, t12, t13]) | (refine arr_intro fun _ => ?_) | (refine later_intro ⟨keeps_nil, ?_⟩) | (refine later_intro ⟨keeps_refl, ?_⟩) | (with_reducible refine keeps_go ?_ ?_; focus (first | (simp [keeps_cons, keeps_none, objs_app, objs_app0]; done) | (simp only [keeps_cons, keeps_none, objs_app0, objs_app, and_true]; first | rfl | exact ⟨rfl, rfl⟩ | exact ⟨rfl, rfl, rfl⟩))) | (with_reducible refine (And.intro (a := keeps _ _ _) ?_ ?_); focus (first | (simp [keeps_cons, keeps_none, objs_app, objs_app0]; done) | (simp only [keeps_cons, keeps_none, objs_app0, objs_app, and_true]; first | rfl | exact ⟨rfl, rfl⟩ | exact ⟨rfl, rfl, rfl⟩))) | (refine both_ways ?_ ?_) | (rw [wrap_i64 (by omega) (by omega)]) | (refine guardV_split (fun h => ?_) (fun h => ?_) <;> (try rw [h]) <;> (try simp at h) <;> (try (exfalso; omega))))
        exact bool_endD hK (by simp; exact ext_to hab hall)
theorem sameReply_c {a b : Rep} {ta tb : Tk} {σ : AST} {K : AV → AST → Prop} (hK : K (.bool (decide (a = b))) σ) : TCalls Try.prog 70 [repV ta a, repV tb b] σ K := by
  refine TCalls.drop ?_
  refine tcalls_walk Try.f70 _ [.tmp 4] Try.func70 rfl rfl rfl mixed (Nat.le_of_ble_eq_true rfl) rfl fun hlen => ?_
  repeat' (first | (simp -dsimp only [↓reduceIte, go_sem]) | (refine arr_intro fun _ => ?_) | (refine later_intro ⟨keeps_nil, ?_⟩) | (refine later_intro ⟨keeps_refl, ?_⟩) | (with_reducible refine keeps_go ?_ ?_; focus (first | (simp [keeps_cons, keeps_none, objs_app, objs_app0]; done) | (simp only [keeps_cons, keeps_none, objs_app0, objs_app, and_true]; first | rfl | exact ⟨rfl, rfl⟩ | exact ⟨rfl, rfl, rfl⟩))) | (with_reducible refine (And.intro (a := keeps _ _ _) ?_ ?_); focus (first | (simp [keeps_cons, keeps_none, objs_app, objs_app0]; done) | (simp only [keeps_cons, keeps_none, objs_app0, objs_app, and_true]; first | rfl | exact ⟨rfl, rfl⟩ | exact ⟨rfl, rfl, rfl⟩))) | (refine both_ways ?_ ?_) | (rw [wrap_i64 (by omega) (by omega)]) | (refine guardV_split (fun h => ?_) (fun h => ?_) <;> (try rw [h]) <;> (try simp at h) <;> (try (exfalso; omega))) | (refine equalPends_c ?_))
  all_goals (first | exact hK | (exfalso; omega) | (refine bool_endD hK ?_; simp_all [Rep.iff] <;> fail) | (refine bool_endDX (Ext.app _ _) hK ?_; simp_all [Rep.iff] <;> fail) | (refine bool_endDX (Ext.refl _) hK ?_; simp_all [Rep.iff] <;> fail) | (refine bool_endDX hx hK ?_; simp_all [Rep.iff] <;> fail) | (refine bool_endD hK ?_; simp [Rep.iff]; omega) | (refine bool_endDX (Ext.app _ _) hK ?_; simp [Rep.iff]; omega) | (refine bool_endDX (Ext.refl _) hK ?_; simp [Rep.iff]; omega) | (refine bool_endDX hx hK ?_; simp [Rep.iff]; omega) | (refine bool_endD hK ?_; simp_all [Rep.iff]; omega) | (refine bool_endDX (Ext.app _ _) hK ?_; simp_all [Rep.iff]; omega) | (refine bool_endDX (Ext.refl _) hK ?_; simp_all [Rep.iff]; omega) | (refine bool_endDX hx hK ?_; simp_all [Rep.iff]; omega) | (refine bool_endD hK ?_; simp_all [Rep.iff] <;> omega) | (refine bool_endDX (Ext.app _ _) hK ?_; simp_all [Rep.iff] <;> omega) | (refine bool_endDX (Ext.refl _) hK ?_; simp_all [Rep.iff] <;> omega) | (refine bool_endDX hx hK ?_; simp_all [Rep.iff] <;> omega))
theorem same_c {a b : Msg} {ta ua tb ub : Tk} {σ : AST} {K : AV → AST → Prop} (hK : K (.bool (decide (a = b))) σ) : TCalls Try.prog 55 [msgV ta ua a, msgV tb ub b] σ K := by
  refine TCalls.drop ?_
  refine tcalls_walk Try.f55 _ [.tmp 4] Try.func55 rfl rfl rfl mixed (Nat.le_of_ble_eq_true rfl) rfl fun hlen => ?_
  repeat' (first | (simp -dsimp only [↓reduceIte, go_sem]) | (refine arr_intro fun _ => ?_) | (refine later_intro ⟨keeps_nil, ?_⟩) | (refine later_intro ⟨keeps_refl, ?_⟩) | (with_reducible refine keeps_go ?_ ?_; focus (first | (simp [keeps_cons, keeps_none, objs_app, objs_app0]; done) | (simp only [keeps_cons, keeps_none, objs_app0, objs_app, and_true]; first | rfl | exact ⟨rfl, rfl⟩ | exact ⟨rfl, rfl, rfl⟩))) | (with_reducible refine (And.intro (a := keeps _ _ _) ?_ ?_); focus (first | (simp [keeps_cons, keeps_none, objs_app, objs_app0]; done) | (simp only [keeps_cons, keeps_none, objs_app0, objs_app, and_true]; first | rfl | exact ⟨rfl, rfl⟩ | exact ⟨rfl, rfl, rfl⟩))) | (refine both_ways ?_ ?_) | (rw [wrap_i64 (by omega) (by omega)]) | (refine guardV_split (fun h => ?_) (fun h => ?_) <;> (try rw [h]) <;> (try simp at h) <;> (try (exfalso; omega))) | (refine equalInts_c ?_) | (refine sameReply_c ?_))
  all_goals (first | exact hK | (exfalso; omega) | (refine bool_endD hK ?_; simp_all [Msg.iff] <;> fail) | (refine bool_endDX (Ext.app _ _) hK ?_; simp_all [Msg.iff] <;> fail) | (refine bool_endDX (Ext.refl _) hK ?_; simp_all [Msg.iff] <;> fail) | (refine bool_endDX hx hK ?_; simp_all [Msg.iff] <;> fail) | (refine bool_endD hK ?_; simp [Msg.iff]; omega) | (refine bool_endDX (Ext.app _ _) hK ?_; simp [Msg.iff]; omega) | (refine bool_endDX (Ext.refl _) hK ?_; simp [Msg.iff]; omega) | (refine bool_endDX hx hK ?_; simp [Msg.iff]; omega) | (refine bool_endD hK ?_; simp_all [Msg.iff]; omega) | (refine bool_endDX (Ext.app _ _) hK ?_; simp_all [Msg.iff]; omega) | (refine bool_endDX (Ext.refl _) hK ?_; simp_all [Msg.iff]; omega) | (refine bool_endDX hx hK ?_; simp_all [Msg.iff]; omega) | (refine bool_endD hK ?_; simp_all [Msg.iff] <;> omega) | (refine bool_endDX (Ext.app _ _) hK ?_; simp_all [Msg.iff] <;> omega) | (refine bool_endDX (Ext.refl _) hK ?_; simp_all [Msg.iff] <;> omega) | (refine bool_endDX hx hK ?_; simp_all [Msg.iff] <;> omega))
end Go.Aff.L10

/- Layer 10, walked: which messages may be. -/
namespace Go.Aff.L10
open Go.Proofs Go.Aff Go.Aff.L01 Classical
set_option linter.unusedVariables false
set_option linter.unusedSimpArgs false
set_option maxRecDepth 20000
attribute [local go_sem] push_app app_app length_app cellAt_app cellAt_app0 set_app set_app0 objs_app objs_app0 List.cons_append List.nil_append List.length_cons List.length_nil List.getElem?_cons_zero List.getElem?_cons_succ List.set_cons_zero List.set_cons_succ List.length_map
attribute [-go_sem] cellAt_new
attribute [-simp] List.length_flatMap
attribute [local go_sem] Try.underlying3 Try.underlying4 Try.underlying5 Try.underlying9 Try.underlying29 Try.underlying30 Try.underlying33 Try.underlying38 Try.underlying24 Try.underlying89 subPs_0 subAt_0 subSet_0 subPs_1 subAt_1 subSet_1 subPs_2 subAt_2 subSet_2 subPs_3 subAt_3 subSet_3 subPs_4 subAt_4 subSet_4 subPs_5 subAt_5 subSet_5 sizes_sub shapes_sub fits_sub zero_sub zt_sub built_sub Try.underlying32 pendPs_0 pendAt_0 pendSet_0 pendPs_1 pendAt_1 pendSet_1 pendPs_2 pendAt_2 pendSet_2 pendPs_3 pendAt_3 pendSet_3 pendPs_4 pendAt_4 pendSet_4 pendPs_5 pendAt_5 pendSet_5 sizes_pend shapes_pend fits_pend zero_pend zt_pend built_pend Try.underlying98 repPs_0 repAt_0 repSet_0 repPs_1 repAt_1 repSet_1 repPs_2 repAt_2 repSet_2 repPs_3 repAt_3 repSet_3 repPs_4 repAt_4 repSet_4 repPs_5 repAt_5 repSet_5 repPs_6 repAt_6 repSet_6 repPs_7 repAt_7 repSet_7 repPs_8 repAt_8 repSet_8 repPs_9 repAt_9 repSet_9 sizes_rep shapes_rep fits_rep zero_rep zt_rep built_rep Try.underlying35 blobPs_0 blobAt_0 blobSet_0 blobPs_1 blobAt_1 blobSet_1 blobPs_2 blobAt_2 blobSet_2 blobPs_3 blobAt_3 blobSet_3 sizes_blob shapes_blob fits_blob zero_blob zt_blob built_blob Try.underlying37 msgPs_0 msgAt_0 msgSet_0 msgPs_1 msgAt_1 msgSet_1 msgPs_2 msgAt_2 msgSet_2 msgPs_3 msgAt_3 msgSet_3 msgPs_4 msgAt_4 msgSet_4 msgPs_5 msgAt_5 msgSet_5 msgPs_6 msgAt_6 msgSet_6 msgPs_7 msgAt_7 msgSet_7 msgPs_8 msgAt_8 msgSet_8 msgPs_9 msgAt_9 msgSet_9 sizes_msg shapes_msg fits_msg zero_msg zt_msg built_msg Try.underlying40 at_Ps_0 at_Set_0 at_Ps_1 at_Set_1 sizes_at_ shapes_at_
attribute [local go_sem] fits3 fits4 fits5 fits9 fits23 fits26 fits31 fits34 fits52 zt3 zero3 zt34 zero34 zt23 zero23 bin_sub_eql bin_pend_eql bin_pend_neq bin_blob_eql bin_dig23_eql bin_dig23_neq slice23
attribute [local go_sem ↓] blockQ_exit2
attribute [local simp] dig_ext
attribute [local go_sem] bin_bool_ne

theorem numbers_c {l : List Int} {tk : Tk} {σ : AST} {K : AV → AST → Prop} (hK : K (.bool (decide (NumsOk l))) σ) : TCalls Try.prog 67 [.slice tk (l.map (AV.int .i64))] σ K := by
  refine tcalls_walk Try.f67 _ [.tmp 2] Try.func67 rfl rfl rfl mixed (Nat.le_of_ble_eq_true rfl) rfl fun hlen => ?_
  have hll : l.length ≤ 9223372036854775807 := by simpa [maxL, lenOk] using hlen _ (List.mem_cons_self ..)
  simp -dsimp only [↓reduceIte, go_sem]
  refine arr_intro fun _ => ?_
  simp -dsimp only [↓reduceIte, go_sem]
  refine awp_rounds (fun (i : Nat) τ s => s = σ ∧ i ≤ l.length ∧ (∀ (j : Nat) n, j < i → l[j]? = some n → In 0 1099511627776 n ∧ ∀ m, 0 < j → l[j - 1]? = some m → m < n) ∧ τ 0 = .slice tk (l.map (AV.int .i64)) ∧ τ 5 = .slice tk (l.map (AV.int .i64)) ∧ τ 6 = .int .i64 l.length ∧ τ 7 = .int .i64 i) (fun i => l.length - i) 0 ?_ ?_
  · refine ⟨rfl, by omega, fun j y h => by omega, ?_, ?_, ?_, ?_⟩ <;> (try simp only [go_sem]) <;> rfl
  · rintro i τ s ⟨rfl, hi, hall, t0, t5, t6, t7⟩
    simp -dsimp only [↓reduceIte, go_sem, t0, t5, t6, t7]
    refine boolW_split (fun hb => ?_) (fun hb => ?_)
    · have hb : i < l.length := by simp at hb; omega
      obtain ⟨y, hy, hm⟩ := get_of_lt hb
      have step : In 0 1099511627776 y → (∀ m, 0 < i → l[i - 1]? = some m → m < y) → ∀ (j : Nat) n, j < i + 1 → l[j]? = some n → In 0 1099511627776 n ∧ ∀ m, 0 < j → l[j - 1]? = some m → m < n := fun h1 h2 j n hj hn => by
        by_cases hji : j < i
        · exact hall j n hji hn
        · obtain rfl : j = i := by omega
          rw [hy] at hn; cases hn; exact ⟨h1, h2⟩
      repeat' (first | (simp -dsimp only [↓reduceIte, go_sem, t0, t5, t6, t7]) | (refine arr_intro fun _ => ?_) | (refine later_intro ⟨keeps_nil, ?_⟩) | (refine later_intro ⟨keeps_refl, ?_⟩) | (with_reducible refine keeps_go ?_ ?_; focus (first | (simp [keeps_cons, keeps_none, objs_app, objs_app0]; done) | (simp only [keeps_cons, keeps_none, objs_app0, objs_app, and_true]; first | rfl | exact ⟨rfl, rfl⟩ | exact ⟨rfl, rfl, rfl⟩))) | (with_reducible refine (And.intro (a := keeps _ _ _) ?_ ?_); focus (first | (simp [keeps_cons, keeps_none, objs_app, objs_app0]; done) | (simp only [keeps_cons, keeps_none, objs_app0, objs_app, and_true]; first | rfl | exact ⟨rfl, rfl⟩ | exact ⟨rfl, rfl, rfl⟩))) | (refine both_ways ?_ ?_) | (rw [wrap_i64 (by omega) (by omega)]) | (refine guardV_split (fun h => ?_) (fun h => ?_) <;> (try rw [h]) <;> (try simp at h) <;> (try (exfalso; omega))) | (refine nth_get hy ?_) | (refine nth_pred hy (by omega) ?_) | (refine within_c ?_))
      · refine bool_endD hK ?_
        simp only [Bool.false_eq_true, false_iff]
        intro h; have := (h.1 i y hy).2 _ (by assumption) (get_pred hy (by assumption)); omega
      · refine later_intro ⟨i + 1, by omega, rfl, by omega, step (by assumption) (fun m h0 hm => by rw [get_pred hy h0] at hm; cases hm; omega), ?_, ?_, ?_, ?_⟩ <;> (try simp only [go_sem, t0, t5, t6, t7]) <;> rfl
      · refine later_intro ⟨i + 1, by omega, rfl, by omega, step (by assumption) (fun m h0 hm => by omega), ?_, ?_, ?_, ?_⟩ <;> (try simp only [go_sem, t0, t5, t6, t7]) <;> rfl
      · refine bool_endD hK ?_
        simp only [Bool.false_eq_true, false_iff]
        intro h; exact absurd (h.1 i y hy).1 (by assumption)
    · have hb : i = l.length := by simp at hb; omega
      subst hb
      repeat' (first | (simp -dsimp only [↓reduceIte, go_sem, t0, t5, t6, t7]) | (refine arr_intro fun _ => ?_) | (refine later_intro ⟨keeps_nil, ?_⟩) | (refine later_intro ⟨keeps_refl, ?_⟩) | (with_reducible refine keeps_go ?_ ?_; focus (first | (simp [keeps_cons, keeps_none, objs_app, objs_app0]; done) | (simp only [keeps_cons, keeps_none, objs_app0, objs_app, and_true]; first | rfl | exact ⟨rfl, rfl⟩ | exact ⟨rfl, rfl, rfl⟩))) | (with_reducible refine (And.intro (a := keeps _ _ _) ?_ ?_); focus (first | (simp [keeps_cons, keeps_none, objs_app, objs_app0]; done) | (simp only [keeps_cons, keeps_none, objs_app0, objs_app, and_true]; first | rfl | exact ⟨rfl, rfl⟩ | exact ⟨rfl, rfl, rfl⟩))) | (refine both_ways ?_ ?_) | (rw [wrap_i64 (by omega) (by omega)]) | (refine guardV_split (fun h => ?_) (fun h => ?_) <;> (try rw [h]) <;> (try simp at h) <;> (try (exfalso; omega))) | (refine within_c ?_))
      refine bool_endD hK ?_
      simp only [decide_eq_true_eq]
      exact ⟨fun h => ⟨fun j n hn => hall j n (List.getElem?_eq_some_iff.1 hn).1 hn, h⟩, fun h => h.2⟩
theorem view_last {l : List UInt8} {n : Int} : (l.isEmpty = (n == -1)) ↔ (l = [] ↔ n = -1) := by rw [Bool.eq_iff_iff]; simp
theorem pend_ok {p : Pend} : p.Ok ↔ In 0 7 p.client ∧ In 0 7 p.target ∧ In 1 512 p.num ∧ In 1 2 p.kind := Iff.rfl
theorem reply_c {x : Rep} {tk : Tk} {σ : AST} {K : AV → AST → Prop} (hK : K (.bool (decide x.Ok)) σ) : TCalls Try.prog 64 [repV tk x] σ K := by
  refine TCalls.drop ?_
  refine tcalls_walk Try.f64 _ [.tmp 2] Try.func64 rfl rfl rfl mixed (Nat.le_of_ble_eq_true rfl) rfl fun hlen => ?_
  simp -dsimp only [↓reduceIte, go_sem]
  refine arr_intro fun _ => ?_
  simp -dsimp only [↓reduceIte, go_sem]
  have hll : x.pending.length ≤ 9223372036854775807 := by simpa [maxL] using ‹x.pending.length ≤ maxL›
  have bad : ∀ s, Ext σ s → ¬ x.Ok → Ext σ s ∧ (AV.bool false).noRef = true ∧ K (AV.bool false).strip σ := fun s hx h => bool_endDX hx hK (by simpa using h)
  generalize hO : AObj.cells (repV tk x) = O
  refine awp_rounds (fun (i : Nat) τ s => Ext (σ.app [O]) s ∧ i ≤ x.pending.length ∧ (∀ (j : Nat) p, j < i → x.pending[j]? = some p → p.Ok) ∧ τ 1 = .ptr (some (σ.objs.length, [])) ∧ τ 6 = .slice tk (x.pending.map pendV) ∧ τ 7 = .int .i64 x.pending.length ∧ τ 8 = .int .i64 i) (fun i => x.pending.length - i) 0 ?_ ?_
  · refine ⟨Ext.refl _, by omega, fun j y h => by omega, ?_, ?_, ?_, ?_⟩ <;> (try simp only [go_sem]) <;> rfl
  · rintro i τ s ⟨hx, hi, hall, t1, t6, t7, t8⟩
    have hxx : Ext σ s := (Ext.app _ _).trans hx
    simp -dsimp only [↓reduceIte, go_sem, t1, t6, t7, t8]
    refine boolW_split (fun hb => ?_) (fun hb => ?_)
    · have hb : i < x.pending.length := by simp at hb; omega
      obtain ⟨y, hy, hm⟩ := get_of_lt hb
      repeat' (first | (simp -dsimp only [↓reduceIte, go_sem, t1, t6, t7, t8]) | (refine arr_intro fun _ => ?_) | (refine later_intro ⟨keeps_nil, ?_⟩) | (refine later_intro ⟨keeps_refl, ?_⟩) | (with_reducible refine keeps_go ?_ ?_; focus (first | (simp [keeps_cons, keeps_none, objs_app, objs_app0]; done) | (simp only [keeps_cons, keeps_none, objs_app0, objs_app, and_true]; first | rfl | exact ⟨rfl, rfl⟩ | exact ⟨rfl, rfl, rfl⟩))) | (with_reducible refine (And.intro (a := keeps _ _ _) ?_ ?_); focus (first | (simp [keeps_cons, keeps_none, objs_app, objs_app0]; done) | (simp only [keeps_cons, keeps_none, objs_app0, objs_app, and_true]; first | rfl | exact ⟨rfl, rfl⟩ | exact ⟨rfl, rfl, rfl⟩))) | (refine both_ways ?_ ?_) | (rw [wrap_i64 (by omega) (by omega)]) | (refine guardV_split (fun h => ?_) (fun h => ?_) <;> (try rw [h]) <;> (try simp at h) <;> (try (exfalso; omega))) | (refine nth_get hy ?_) | (refine client_c ?_) | (refine number_c ?_) | (refine kind_c ?_))
      all_goals first
        | exact bad _ (hxx.trans (Ext.app _ _)) (fun h => by have := h.1 y hm; simp_all [Pend.Ok])
        | skip
      refine later_intro ⟨i + 1, by omega, hx.trans (Ext.app _ _), by omega, ?_, ?_, ?_, ?_, ?_⟩ <;> (try simp only [go_sem, t1, t6, t7, t8]) <;> (try rfl)
      intro j p hj hp
      by_cases hji : j < i
      · exact hall j p hji hp
      · obtain rfl : j = i := by omega
        rw [hy] at hp; cases hp; simp_all [Pend.Ok]
    · have hb : i = x.pending.length := by simp at hb; omega
      subst hb
      have ha : ∀ p ∈ x.pending, p.Ok := fun p hp => by
        obtain ⟨j, hj⟩ := List.mem_iff_getElem?.1 hp
        exact hall j p (List.getElem?_eq_some_iff.1 hj).1 hj
      have hc : ∀ p, cellAt s σ.objs.length p = (repV tk x).at p := fun p => cell_ext0 hx (by rw [← hO]; rfl) p
      clear hx hO
      have hx := hxx
      repeat' (first | (simp -dsimp only [↓reduceIte, go_sem, t1, t6, t7, t8, hc]) | (refine arr_intro fun _ => ?_) | (refine later_intro ⟨keeps_nil, ?_⟩) | (refine later_intro ⟨keeps_refl, ?_⟩) | (with_reducible refine keeps_go ?_ ?_; focus (first | (simp [keeps_cons, keeps_none, objs_app, objs_app0]; done) | (simp only [keeps_cons, keeps_none, objs_app0, objs_app, and_true]; first | rfl | exact ⟨rfl, rfl⟩ | exact ⟨rfl, rfl, rfl⟩))) | (with_reducible refine (And.intro (a := keeps _ _ _) ?_ ?_); focus (first | (simp [keeps_cons, keeps_none, objs_app, objs_app0]; done) | (simp only [keeps_cons, keeps_none, objs_app0, objs_app, and_true]; first | rfl | exact ⟨rfl, rfl⟩ | exact ⟨rfl, rfl, rfl⟩))) | (refine both_ways ?_ ?_) | (rw [wrap_i64 (by omega) (by omega)]) | (refine guardV_split (fun h => ?_) (fun h => ?_) <;> (try rw [h]) <;> (try simp at h) <;> (try (exfalso; omega))) | (refine number_c ?_) | (refine within_c ?_) | (refine view_c ?_))
      all_goals (first | exact hK | (exfalso; omega) | (refine bool_endD hK ?_; simp_all [Rep.Ok, view_last] <;> fail) | (refine bool_endDX (Ext.app _ _) hK ?_; simp_all [Rep.Ok, view_last] <;> fail) | (refine bool_endDX (Ext.refl _) hK ?_; simp_all [Rep.Ok, view_last] <;> fail) | (refine bool_endDX hx hK ?_; simp_all [Rep.Ok, view_last] <;> fail) | (refine bool_endD hK ?_; simp [Rep.Ok, view_last]; omega) | (refine bool_endDX (Ext.app _ _) hK ?_; simp [Rep.Ok, view_last]; omega) | (refine bool_endDX (Ext.refl _) hK ?_; simp [Rep.Ok, view_last]; omega) | (refine bool_endDX hx hK ?_; simp [Rep.Ok, view_last]; omega) | (refine bool_endD hK ?_; simp_all [Rep.Ok, view_last]; omega) | (refine bool_endDX (Ext.app _ _) hK ?_; simp_all [Rep.Ok, view_last]; omega) | (refine bool_endDX (Ext.refl _) hK ?_; simp_all [Rep.Ok, view_last]; omega) | (refine bool_endDX hx hK ?_; simp_all [Rep.Ok, view_last]; omega) | (refine bool_endD hK ?_; simp_all [Rep.Ok, view_last] <;> omega) | (refine bool_endDX (Ext.app _ _) hK ?_; simp_all [Rep.Ok, view_last] <;> omega) | (refine bool_endDX (Ext.refl _) hK ?_; simp_all [Rep.Ok, view_last] <;> omega) | (refine bool_endDX hx hK ?_; simp_all [Rep.Ok, view_last] <;> omega))
def isFull : Tk → Bool
  | .full => true
  | _ => false
/-- Who may append, when it is forgotten. -/
def tkS {α : Type} (t : Tk) (l : List α) : Tk := if l = [] ∧ isFull t = true then .full else .none
theorem noRefs_pends {l : List Pend} : AV.noRefs (l.map pendV) = true := noRefs_leaf fun x => by simp only [AV.noRef]; exact noRef_pend
theorem noRefs_ints {l : List Int} : AV.noRefs (l.map (AV.int .i64)) = true := noRefs_leaf fun x => rfl
theorem slice_strip {α : Type} {f : α → AV} (h : ∀ x, (f x).strip = f x) {t : Tk} {l : List α} : (AV.slice t (l.map f)).strip = .slice (tkS t l) (l.map f) := by
  unfold tkS
  cases l with
  | nil => cases t <;> simp [AV.strip, isFull, AV.strips]
  | cons x r =>
    rw [if_neg (by simp)]
    cases t <;> simp [AV.strip, AV.strips, h x, strips_leaf h]
theorem strip_pendV (x : Pend) : (pendV x).strip = pendV x := by simp only [AV.strip, strip_pend]
theorem rep_strips {t : Tk} {x : Rep} : AV.strips (repPs t x) = repPs (tkS t x.pending) x := by
  simp only [repPs, AV.strips, slice_strip strip_pendV]
  simp [AV.strip]
theorem msg_strips {t u : Tk} {m : Msg} : AV.strips (msgPs t u m) = msgPs (tkS t m.rep.pending) (tkS u m.nums) m := by
  simp only [msgPs, AV.strips, slice_strip (f := AV.int .i64) (fun x => by simp [AV.strip])]
  simp [AV.strip, rep_strips, strip_sub, strip_blob]
theorem msg_strip {t u : Tk} {m : Msg} : (msgV t u m).strip = msgV (tkS t m.rep.pending) (tkS u m.nums) m := by
  simp only [AV.strip, msg_strips]
theorem own_c {m : Msg} {t u : Tk} {σ : AST} {K : AV → AST → Prop} (hK : ∀ t' u', K (.tuple [msgV t' u' m.own_, .bool (decide m.FieldsOk)]) σ) : TCalls Try.prog 53 [msgV t u m] σ K := by
  refine TCalls.drop ?_
  refine tcalls_walk Try.f53 _ [.cell 2 40, .tmp 3] Try.func53 rfl rfl rfl mixed (Nat.le_of_ble_eq_true rfl) rfl fun hlen => ?_
  repeat' (first | (simp -dsimp only [↓reduceIte, go_sem]) | (refine arr_intro fun _ => ?_) | (refine later_intro ⟨keeps_nil, ?_⟩) | (refine later_intro ⟨keeps_refl, ?_⟩) | (with_reducible refine keeps_go ?_ ?_; focus (first | (simp [keeps_cons, keeps_none, objs_app, objs_app0]; done) | (simp only [keeps_cons, keeps_none, objs_app0, objs_app, and_true]; first | rfl | exact ⟨rfl, rfl⟩ | exact ⟨rfl, rfl, rfl⟩))) | (with_reducible refine (And.intro (a := keeps _ _ _) ?_ ?_); focus (first | (simp [keeps_cons, keeps_none, objs_app, objs_app0]; done) | (simp only [keeps_cons, keeps_none, objs_app0, objs_app, and_true]; first | rfl | exact ⟨rfl, rfl⟩ | exact ⟨rfl, rfl, rfl⟩))) | (refine both_ways ?_ ?_) | (rw [wrap_i64 (by omega) (by omega)]) | (refine guardV_split (fun h => ?_) (fun h => ?_) <;> (try rw [h]) <;> (try simp at h) <;> (try (exfalso; omega))) | (refine submit_c ?_) | (refine reply_c ?_) | (refine view_c ?_) | (refine blob_c ?_) | (refine numbers_c ?_) | (refine client_c ?_) | (with_reducible refine awp_drawT (id := 5) (.op 0 2 (.op 1 2 (.op 2 2 (.op 3 3 (.op 4 1 (.op 5 2 .nil)))))) (by kernel_rfl) ?_) | (with_reducible refine awp_drawT (id := 7) (.op 0 0 (.op 1 0 (.op 2 2 (.op 3 1 (.op 4 2 (.op 5 1 .nil)))))) (by kernel_rfl) ?_) | (with_reducible refine awp_drawT (id := 8) (.op 0 2 (.op 1 2 (.op 2 2 (.op 3 3 (.op 4 1 (.op 5 2 .nil)))))) (by kernel_rfl) ?_) | (with_reducible refine awp_drawT (id := 10) (.op 0 2 (.op 1 2 (.op 2 0 (.op 3 0 (.op 4 2 (.op 5 1 (.op 6 2 (.op 7 1 .nil)))))))) (by kernel_rfl) ?_) | (with_reducible refine awp_drawT (id := 11) (.op 0 2 (.op 1 2 (.op 2 2 (.op 3 2 (.op 4 2 (.op 5 2 (.op 6 2 (.op 7 3 (.op 8 0 (.op 9 1 (.op 10 2 .nil))))))))))) (by kernel_rfl) ?_) | (with_reducible refine awp_drawT (id := 14) (.op 0 0 (.op 1 0 (.op 2 2 (.op 3 1 (.op 4 2 (.op 5 1 .nil)))))) (by kernel_rfl) ?_) | (with_reducible refine awp_drawT (id := 15) (.op 0 2 (.op 1 2 (.op 2 2 (.op 3 3 (.op 4 1 (.op 5 2 .nil)))))) (by kernel_rfl) ?_) | (with_reducible refine awp_drawT (id := 20) (.op 0 2 (.op 1 2 (.op 2 2 (.op 3 3 (.op 4 1 (.op 5 2 .nil)))))) (by kernel_rfl) ?_) | (with_reducible refine awp_drawT (id := 24) (.op 0 2 (.op 1 2 (.op 2 0 (.op 3 0 (.op 4 0 (.op 5 0 (.op 6 0 (.op 7 0 (.op 8 2 (.op 9 1 (.op 10 2 (.op 11 1 (.op 12 2 (.op 13 1 (.op 14 2 (.op 15 1 .nil)))))))))))))))) (by kernel_rfl) ?_) | (with_reducible refine awp_drawT (id := 25) (.op 0 2 (.op 1 2 (.op 2 2 (.op 3 3 (.op 4 2 (.op 5 2 (.op 6 2 (.op 7 2 (.op 8 2 (.op 9 2 (.op 10 2 (.op 11 2 (.op 12 3 (.op 13 0 (.op 14 1 (.op 15 2 .nil)))))))))))))))) (by kernel_rfl) ?_))
  all_goals
    refine ⟨Ext.app _ _, ?_, ?_⟩
    · simp [AV.noRef, AV.noRefs, msgPs, repPs, subPs, blobPs, noRefs_pends, noRefs_ints, msg0, rep0, sub0, blob0]
    · simp only [AV.strip, AV.strips, msg_strips]
      have key : ∀ {b : Bool} {x : Msg} {t' u' : Tk}, x = m.own_ → (b = true ↔ m.FieldsOk) → K (.tuple [msgV t' u' x, .bool b]) σ := fun {b x t' u'} h1 h2 => by
        have e : b = decide m.FieldsOk := by rw [Bool.eq_iff_iff, decide_eq_true_eq]; exact h2
        rw [h1, e]; exact hK t' u'
      refine key ?_ ?_
      · simp_all [Msg.own_]
      · simp_all [Msg.FieldsOk]
theorem right_c {m : Msg} {t u : Tk} {σ : AST} {K : AV → AST → Prop} (hK : K (.bool (decide m.Ok)) σ) : TCalls Try.prog 38 [msgV t u m] σ K := by
  refine TCalls.drop ?_
  refine tcalls_walk Try.f38 _ [.tmp 2] Try.func38 rfl rfl rfl mixed (Nat.le_of_ble_eq_true rfl) rfl fun hlen => ?_
  simp -dsimp only [↓reduceIte, go_sem]
  refine own_c fun t' u' => ?_
  repeat' (first | (simp -dsimp only [↓reduceIte, go_sem]) | (refine arr_intro fun _ => ?_) | (refine later_intro ⟨keeps_nil, ?_⟩) | (refine later_intro ⟨keeps_refl, ?_⟩) | (with_reducible refine keeps_go ?_ ?_; focus (first | (simp [keeps_cons, keeps_none, objs_app, objs_app0]; done) | (simp only [keeps_cons, keeps_none, objs_app0, objs_app, and_true]; first | rfl | exact ⟨rfl, rfl⟩ | exact ⟨rfl, rfl, rfl⟩))) | (with_reducible refine (And.intro (a := keeps _ _ _) ?_ ?_); focus (first | (simp [keeps_cons, keeps_none, objs_app, objs_app0]; done) | (simp only [keeps_cons, keeps_none, objs_app0, objs_app, and_true]; first | rfl | exact ⟨rfl, rfl⟩ | exact ⟨rfl, rfl, rfl⟩))) | (refine both_ways ?_ ?_) | (rw [wrap_i64 (by omega) (by omega)]) | (refine guardV_split (fun h => ?_) (fun h => ?_) <;> (try rw [h]) <;> (try simp at h) <;> (try (exfalso; omega))) | (refine client_c ?_) | (refine same_c ?_))
  all_goals (first | exact hK | (exfalso; omega) | (refine bool_endD hK ?_; simp_all [Msg.Ok] <;> fail) | (refine bool_endDX (Ext.app _ _) hK ?_; simp_all [Msg.Ok] <;> fail) | (refine bool_endDX (Ext.refl _) hK ?_; simp_all [Msg.Ok] <;> fail) | (refine bool_endDX hx hK ?_; simp_all [Msg.Ok] <;> fail) | (refine bool_endD hK ?_; simp [Msg.Ok]; omega) | (refine bool_endDX (Ext.app _ _) hK ?_; simp [Msg.Ok]; omega) | (refine bool_endDX (Ext.refl _) hK ?_; simp [Msg.Ok]; omega) | (refine bool_endDX hx hK ?_; simp [Msg.Ok]; omega) | (refine bool_endD hK ?_; simp_all [Msg.Ok]; omega) | (refine bool_endDX (Ext.app _ _) hK ?_; simp_all [Msg.Ok]; omega) | (refine bool_endDX (Ext.refl _) hK ?_; simp_all [Msg.Ok]; omega) | (refine bool_endDX hx hK ?_; simp_all [Msg.Ok]; omega) | (refine bool_endD hK ?_; simp_all [Msg.Ok] <;> omega) | (refine bool_endDX (Ext.app _ _) hK ?_; simp_all [Msg.Ok] <;> omega) | (refine bool_endDX (Ext.refl _) hK ?_; simp_all [Msg.Ok] <;> omega) | (refine bool_endDX hx hK ?_; simp_all [Msg.Ok] <;> omega))
end Go.Aff.L10

