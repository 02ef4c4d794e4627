import Derived.Test.YtipnjeciaagabaaG29
import Derived.Test.YtipnjeciaagabaaG16

set_option linter.unusedSimpArgs false
set_option linter.unusedVariables false

/- Layer 27, walked: no net. -/
-- cuts
namespace Go.Aff.L10
open Go.Proofs Go.Aff Go.Aff.L01 Classical
set_option linter.unusedVariables false
set_option linter.unusedSimpArgs false
set_option maxRecDepth 20000
attribute [local go_sem] push_app app_app length_app cellAt_app cellAt_app0 set_app set_app0 objs_app objs_app0 List.cons_append List.nil_append List.length_cons List.length_nil List.getElem?_cons_zero List.getElem?_cons_succ List.set_cons_zero List.set_cons_succ List.length_map
attribute [-go_sem] cellAt_new
attribute [-simp] List.length_flatMap
attribute [local go_sem] Try.underlying3 Try.underlying4 Try.underlying5 Try.underlying9 Try.underlying29 Try.underlying30 Try.underlying33 Try.underlying38 Try.underlying24 Try.underlying89 subPs_0 subAt_0 subSet_0 subPs_1 subAt_1 subSet_1 subPs_2 subAt_2 subSet_2 subPs_3 subAt_3 subSet_3 subPs_4 subAt_4 subSet_4 subPs_5 subAt_5 subSet_5 sizes_sub shapes_sub fits_sub zero_sub zt_sub built_sub Try.underlying32 pendPs_0 pendAt_0 pendSet_0 pendPs_1 pendAt_1 pendSet_1 pendPs_2 pendAt_2 pendSet_2 pendPs_3 pendAt_3 pendSet_3 pendPs_4 pendAt_4 pendSet_4 pendPs_5 pendAt_5 pendSet_5 sizes_pend shapes_pend fits_pend zero_pend zt_pend built_pend Try.underlying98 repPs_0 repAt_0 repSet_0 repPs_1 repAt_1 repSet_1 repPs_2 repAt_2 repSet_2 repPs_3 repAt_3 repSet_3 repPs_4 repAt_4 repSet_4 repPs_5 repAt_5 repSet_5 repPs_6 repAt_6 repSet_6 repPs_7 repAt_7 repSet_7 repPs_8 repAt_8 repSet_8 repPs_9 repAt_9 repSet_9 sizes_rep shapes_rep fits_rep zero_rep zt_rep built_rep Try.underlying35 blobPs_0 blobAt_0 blobSet_0 blobPs_1 blobAt_1 blobSet_1 blobPs_2 blobAt_2 blobSet_2 blobPs_3 blobAt_3 blobSet_3 sizes_blob shapes_blob fits_blob zero_blob zt_blob built_blob Try.underlying37 msgPs_0 msgAt_0 msgSet_0 msgPs_1 msgAt_1 msgSet_1 msgPs_2 msgAt_2 msgSet_2 msgPs_3 msgAt_3 msgSet_3 msgPs_4 msgAt_4 msgSet_4 msgPs_5 msgAt_5 msgSet_5 msgPs_6 msgAt_6 msgSet_6 msgPs_7 msgAt_7 msgSet_7 msgPs_8 msgAt_8 msgSet_8 msgPs_9 msgAt_9 msgSet_9 sizes_msg shapes_msg fits_msg zero_msg zt_msg built_msg Try.underlying40 at_Ps_0 at_Set_0 at_Ps_1 at_Set_1 sizes_at_ shapes_at_
attribute [local go_sem] fits3 fits4 fits5 fits9 fits23 fits26 fits31 fits34 fits52 zt3 zero3 zt34 zero34 zt23 zero23 bin_sub_eql bin_pend_eql bin_pend_neq bin_blob_eql bin_dig23_eql bin_dig23_neq slice23
attribute [local go_sem ↓] blockQ_exit2
attribute [local simp] dig_ext
attribute [local go_sem] sndPs_0 sndAt_0 sndSet_0 sndPs_1 sndAt_1 sndSet_1 sizes_snd shapes_snd fits_snd zero_snd zt_snd built_snd Try.underlying42 askPs_0 askAt_0 askSet_0 askPs_1 askAt_1 askSet_1 askPs_2 askAt_2 askSet_2 askPs_3 askAt_3 askSet_3 askPs_4 askAt_4 askSet_4 sizes_ask shapes_ask fits_ask zero_ask zt_ask built_ask Try.underlying44 let_Ps_0 let_At_0 let_Set_0 let_Ps_1 let_At_1 let_Set_1 sizes_let_ shapes_let_ fits_let_ zero_let_ zt_let_ built_let_ Try.underlying74 netPs_0 netAt_0 netSet_0 netPs_1 netAt_1 netSet_1 sizes_net shapes_net fits_net zero_net zt_net built_net Try.underlying71 rletPs_0 rletAt_0 rletSet_0 rletPs_1 rletAt_1 rletSet_1 sizes_rlet shapes_rlet fits_rlet zero_rlet zt_rlet built_rlet Try.underlying60 rnetPs_0 rnetAt_0 rnetSet_0 rnetPs_1 rnetAt_1 rnetSet_1 sizes_rnet shapes_rnet fits_rnet zero_rnet zt_rnet built_rnet Try.underlying56 Try.underlying69 Try.underlying54 Try.underlying23 Try.underlying53
attribute [local go_sem] fits69 fits54'
section
variable {σ : AST} {K : AV → AST → Prop}
theorem len_nil (hK : K (.int .i64 0) σ) : TCalls Try.prog 17 [.ptr none] σ K := by
  refine tcalls_walk Try.f17 _ [.tmp 2] Try.func17 rfl rfl rfl mixed (Nat.le_of_ble_eq_true rfl) rfl fun hlen => ?_
  repeat' (first | (simp -dsimp only [↓reduceIte, go_sem]) | (refine arr_intro fun _ => ?_) | (refine later_intro ⟨keeps_nil, ?_⟩) | (refine later_intro ⟨keeps_refl, ?_⟩) | (with_reducible refine keeps_go ?_ ?_; focus (first | (simp [keeps_cons, keeps_none, objs_app, objs_app0]; done) | (simp only [keeps_cons, keeps_none, objs_app0, objs_app, and_true]; first | rfl | exact ⟨rfl, rfl⟩ | exact ⟨rfl, rfl, rfl⟩))) | (with_reducible refine (And.intro (a := keeps _ _ _) ?_ ?_); focus (first | (simp [keeps_cons, keeps_none, objs_app, objs_app0]; done) | (simp only [keeps_cons, keeps_none, objs_app0, objs_app, and_true]; first | rfl | exact ⟨rfl, rfl⟩ | exact ⟨rfl, rfl, rfl⟩))) | (refine both_ways ?_ ?_) | (rw [wrap_i64 (by omega) (by omega)]) | (refine guardV_split (fun h => ?_) (fun h => ?_) <;> (try rw [h]) <;> (try simp at h) <;> (try (exfalso; omega))))
  exact hK
theorem at_nil {i : Int} (hK : K (.int .i64 1) σ) : TCalls Try.prog 36 [.ptr none, .int .i64 i] σ K := by
  refine tcalls_walk Try.f36 _ [.tmp 4] Try.func36 rfl rfl rfl mixed (Nat.le_of_ble_eq_true rfl) rfl fun hlen => ?_
  repeat' (first | (simp -dsimp only [↓reduceIte, go_sem]) | (refine arr_intro fun _ => ?_) | (refine later_intro ⟨keeps_nil, ?_⟩) | (refine later_intro ⟨keeps_refl, ?_⟩) | (with_reducible refine keeps_go ?_ ?_; focus (first | (simp [keeps_cons, keeps_none, objs_app, objs_app0]; done) | (simp only [keeps_cons, keeps_none, objs_app0, objs_app, and_true]; first | rfl | exact ⟨rfl, rfl⟩ | exact ⟨rfl, rfl, rfl⟩))) | (with_reducible refine (And.intro (a := keeps _ _ _) ?_ ?_); focus (first | (simp [keeps_cons, keeps_none, objs_app, objs_app0]; done) | (simp only [keeps_cons, keeps_none, objs_app0, objs_app, and_true]; first | rfl | exact ⟨rfl, rfl⟩ | exact ⟨rfl, rfl, rfl⟩))) | (refine both_ways ?_ ?_) | (rw [wrap_i64 (by omega) (by omega)]) | (refine guardV_split (fun h => ?_) (fun h => ?_) <;> (try rw [h]) <;> (try simp at h) <;> (try (exfalso; omega))))
  exact hK
theorem open_nil {i : Int} (hK : K (.tuple [.int .i64 0, .str [], .int .i64 1]) σ) : TCalls Try.prog 23 [.ptr none, .int .i64 i] σ K := by
  refine tcalls_walk Try.f23 _ [.tmp 4, .tmp 5, .tmp 6] Try.func23 rfl rfl rfl mixed (Nat.le_of_ble_eq_true rfl) rfl fun hlen => ?_
  repeat' (first | (simp -dsimp only [↓reduceIte, go_sem]) | (refine arr_intro fun _ => ?_) | (refine later_intro ⟨keeps_nil, ?_⟩) | (refine later_intro ⟨keeps_refl, ?_⟩) | (with_reducible refine keeps_go ?_ ?_; focus (first | (simp [keeps_cons, keeps_none, objs_app, objs_app0]; done) | (simp only [keeps_cons, keeps_none, objs_app0, objs_app, and_true]; first | rfl | exact ⟨rfl, rfl⟩ | exact ⟨rfl, rfl, rfl⟩))) | (with_reducible refine (And.intro (a := keeps _ _ _) ?_ ?_); focus (first | (simp [keeps_cons, keeps_none, objs_app, objs_app0]; done) | (simp only [keeps_cons, keeps_none, objs_app0, objs_app, and_true]; first | rfl | exact ⟨rfl, rfl⟩ | exact ⟨rfl, rfl, rfl⟩))) | (refine both_ways ?_ ?_) | (rw [wrap_i64 (by omega) (by omega)]) | (refine guardV_split (fun h => ?_) (fun h => ?_) <;> (try rw [h]) <;> (try simp at h) <;> (try (exfalso; omega))) | (refine at_nil ?_))
  exact hK
theorem lose_nil {i : Int} (hK : K (.int .i64 1) σ) : TCalls Try.prog 21 [.ptr none, .int .i64 i] σ K := by
  refine tcalls_walk Try.f21 _ [.tmp 4] Try.func21 rfl rfl rfl mixed (Nat.le_of_ble_eq_true rfl) rfl fun hlen => ?_
  repeat' (first | (simp -dsimp only [↓reduceIte, go_sem]) | (refine arr_intro fun _ => ?_) | (refine later_intro ⟨keeps_nil, ?_⟩) | (refine later_intro ⟨keeps_refl, ?_⟩) | (with_reducible refine keeps_go ?_ ?_; focus (first | (simp [keeps_cons, keeps_none, objs_app, objs_app0]; done) | (simp only [keeps_cons, keeps_none, objs_app0, objs_app, and_true]; first | rfl | exact ⟨rfl, rfl⟩ | exact ⟨rfl, rfl, rfl⟩))) | (with_reducible refine (And.intro (a := keeps _ _ _) ?_ ?_); focus (first | (simp [keeps_cons, keeps_none, objs_app, objs_app0]; done) | (simp only [keeps_cons, keeps_none, objs_app0, objs_app, and_true]; first | rfl | exact ⟨rfl, rfl⟩ | exact ⟨rfl, rfl, rfl⟩))) | (refine both_ways ?_ ?_) | (rw [wrap_i64 (by omega) (by omega)]) | (refine guardV_split (fun h => ?_) (fun h => ?_) <;> (try rw [h]) <;> (try simp at h) <;> (try (exfalso; omega))) | (refine open_nil ?_))
  exact hK
theorem copy_nil {i : Int} (hK : K (.int .i64 1) σ) : TCalls Try.prog 20 [.ptr none, .int .i64 i] σ K := by
  refine tcalls_walk Try.f20 _ [.tmp 4] Try.func20 rfl rfl rfl mixed (Nat.le_of_ble_eq_true rfl) rfl fun hlen => ?_
  repeat' (first | (simp -dsimp only [↓reduceIte, go_sem]) | (refine arr_intro fun _ => ?_) | (refine later_intro ⟨keeps_nil, ?_⟩) | (refine later_intro ⟨keeps_refl, ?_⟩) | (with_reducible refine keeps_go ?_ ?_; focus (first | (simp [keeps_cons, keeps_none, objs_app, objs_app0]; done) | (simp only [keeps_cons, keeps_none, objs_app0, objs_app, and_true]; first | rfl | exact ⟨rfl, rfl⟩ | exact ⟨rfl, rfl, rfl⟩))) | (with_reducible refine (And.intro (a := keeps _ _ _) ?_ ?_); focus (first | (simp [keeps_cons, keeps_none, objs_app, objs_app0]; done) | (simp only [keeps_cons, keeps_none, objs_app0, objs_app, and_true]; first | rfl | exact ⟨rfl, rfl⟩ | exact ⟨rfl, rfl, rfl⟩))) | (refine both_ways ?_ ?_) | (rw [wrap_i64 (by omega) (by omega)]) | (refine guardV_split (fun h => ?_) (fun h => ?_) <;> (try rw [h]) <;> (try simp at h) <;> (try (exfalso; omega))) | (refine at_nil ?_))
  exact hK
theorem forge_nil {to : Int} {b : List UInt8} (hK : K (.int .i64 1) σ) : TCalls Try.prog 11 [.ptr none, .int .i64 to, .str b] σ K := by
  refine tcalls_walk Try.f11 _ [.tmp 6] Try.func11 rfl rfl rfl mixed (Nat.le_of_ble_eq_true rfl) rfl fun hlen => ?_
  repeat' (first | (simp -dsimp only [↓reduceIte, go_sem]) | (refine arr_intro fun _ => ?_) | (refine later_intro ⟨keeps_nil, ?_⟩) | (refine later_intro ⟨keeps_refl, ?_⟩) | (with_reducible refine keeps_go ?_ ?_; focus (first | (simp [keeps_cons, keeps_none, objs_app, objs_app0]; done) | (simp only [keeps_cons, keeps_none, objs_app0, objs_app, and_true]; first | rfl | exact ⟨rfl, rfl⟩ | exact ⟨rfl, rfl, rfl⟩))) | (with_reducible refine (And.intro (a := keeps _ _ _) ?_ ?_); focus (first | (simp [keeps_cons, keeps_none, objs_app, objs_app0]; done) | (simp only [keeps_cons, keeps_none, objs_app0, objs_app, and_true]; first | rfl | exact ⟨rfl, rfl⟩ | exact ⟨rfl, rfl, rfl⟩))) | (refine both_ways ?_ ?_) | (rw [wrap_i64 (by omega) (by omega)]) | (refine guardV_split (fun h => ?_) (fun h => ?_) <;> (try rw [h]) <;> (try simp at h) <;> (try (exfalso; omega))))
  exact hK
theorem send_nil {x : Snd} {t u : Tk} (hK : K (.int .i64 1) σ) : TCalls Try.prog 12 [.ptr none, sndV t u x] σ K := by
  refine TCalls.drop ?_
  refine tcalls_walk Try.f12 _ [.tmp 4] Try.func12 rfl rfl rfl mixed (Nat.le_of_ble_eq_true rfl) rfl fun hlen => ?_
  repeat' (first | (simp -dsimp only [↓reduceIte, go_sem]) | (refine arr_intro fun _ => ?_) | (refine later_intro ⟨keeps_nil, ?_⟩) | (refine later_intro ⟨keeps_refl, ?_⟩) | (with_reducible refine keeps_go ?_ ?_; focus (first | (simp [keeps_cons, keeps_none, objs_app, objs_app0]; done) | (simp only [keeps_cons, keeps_none, objs_app0, objs_app, and_true]; first | rfl | exact ⟨rfl, rfl⟩ | exact ⟨rfl, rfl, rfl⟩))) | (with_reducible refine (And.intro (a := keeps _ _ _) ?_ ?_); focus (first | (simp [keeps_cons, keeps_none, objs_app, objs_app0]; done) | (simp only [keeps_cons, keeps_none, objs_app0, objs_app, and_true]; first | rfl | exact ⟨rfl, rfl⟩ | exact ⟨rfl, rfl, rfl⟩))) | (refine both_ways ?_ ?_) | (rw [wrap_i64 (by omega) (by omega)]) | (refine guardV_split (fun h => ?_) (fun h => ?_) <;> (try rw [h]) <;> (try simp at h) <;> (try (exfalso; omega))))
  exact ⟨Ext.app _ _, rfl, by simpa [AV.strip] using hK⟩
theorem first_nil {to : Int} (hK : K (.tuple [.str [], .bool false]) σ) : TCalls Try.prog 14 [.ptr none, .int .i64 to] σ K := by
  refine TCalls.drop ?_
  refine tcalls_walk Try.f14 _ [.tmp 4, .tmp 5] Try.func14 rfl rfl rfl mixed (Nat.le_of_ble_eq_true rfl) rfl fun hlen => ?_
  repeat' (first | (simp -dsimp only [↓reduceIte, go_sem]) | (refine arr_intro fun _ => ?_) | (refine later_intro ⟨keeps_nil, ?_⟩) | (refine later_intro ⟨keeps_refl, ?_⟩) | (with_reducible refine keeps_go ?_ ?_; focus (first | (simp [keeps_cons, keeps_none, objs_app, objs_app0]; done) | (simp only [keeps_cons, keeps_none, objs_app0, objs_app, and_true]; first | rfl | exact ⟨rfl, rfl⟩ | exact ⟨rfl, rfl, rfl⟩))) | (with_reducible refine (And.intro (a := keeps _ _ _) ?_ ?_); focus (first | (simp [keeps_cons, keeps_none, objs_app, objs_app0]; done) | (simp only [keeps_cons, keeps_none, objs_app0, objs_app, and_true]; first | rfl | exact ⟨rfl, rfl⟩ | exact ⟨rfl, rfl, rfl⟩))) | (refine both_ways ?_ ?_) | (rw [wrap_i64 (by omega) (by omega)]) | (refine guardV_split (fun h => ?_) (fun h => ?_) <;> (try rw [h]) <;> (try simp at h) <;> (try (exfalso; omega))))
  exact ⟨Ext.app _ _, rfl, by simpa [AV.strip, AV.strips] using hK⟩
theorem waiting_nil {to : Int} (hK : K (.int .i64 0) σ) : TCalls Try.prog 15 [.ptr none, .int .i64 to] σ K := by
  refine tcalls_walk Try.f15 _ [.tmp 4] Try.func15 rfl rfl rfl mixed (Nat.le_of_ble_eq_true rfl) rfl fun hlen => ?_
  repeat' (first | (simp -dsimp only [↓reduceIte, go_sem]) | (refine arr_intro fun _ => ?_) | (refine later_intro ⟨keeps_nil, ?_⟩) | (refine later_intro ⟨keeps_refl, ?_⟩) | (with_reducible refine keeps_go ?_ ?_; focus (first | (simp [keeps_cons, keeps_none, objs_app, objs_app0]; done) | (simp only [keeps_cons, keeps_none, objs_app0, objs_app, and_true]; first | rfl | exact ⟨rfl, rfl⟩ | exact ⟨rfl, rfl, rfl⟩))) | (with_reducible refine (And.intro (a := keeps _ _ _) ?_ ?_); focus (first | (simp [keeps_cons, keeps_none, objs_app, objs_app0]; done) | (simp only [keeps_cons, keeps_none, objs_app0, objs_app, and_true]; first | rfl | exact ⟨rfl, rfl⟩ | exact ⟨rfl, rfl, rfl⟩))) | (refine both_ways ?_ ?_) | (rw [wrap_i64 (by omega) (by omega)]) | (refine guardV_split (fun h => ?_) (fun h => ?_) <;> (try rw [h]) <;> (try simp at h) <;> (try (exfalso; omega))) | (refine len_nil ?_))
  refine awp_rounds (fun (i : Nat) τ s' => s' = σ ∧ τ 5 = .int .i64 0 ∧ τ 8 = .int .i64 0 ∧ τ 9 = .int .i64 0) (fun i => i) 0 ?_ ?_
  · refine ⟨rfl, ?_, ?_, ?_⟩ <;> (try simp only [go_sem]) <;> rfl
  · rintro i τ s' ⟨rfl, t5, t8, t9⟩
    repeat' (first | (simp -dsimp only [↓reduceIte, go_sem, t5, t8, t9]) | (refine arr_intro fun _ => ?_) | (refine later_intro ⟨keeps_nil, ?_⟩) | (refine later_intro ⟨keeps_refl, ?_⟩) | (with_reducible refine keeps_go ?_ ?_; focus (first | (simp [keeps_cons, keeps_none, objs_app, objs_app0]; done) | (simp only [keeps_cons, keeps_none, objs_app0, objs_app, and_true]; first | rfl | exact ⟨rfl, rfl⟩ | exact ⟨rfl, rfl, rfl⟩))) | (with_reducible refine (And.intro (a := keeps _ _ _) ?_ ?_); focus (first | (simp [keeps_cons, keeps_none, objs_app, objs_app0]; done) | (simp only [keeps_cons, keeps_none, objs_app0, objs_app, and_true]; first | rfl | exact ⟨rfl, rfl⟩ | exact ⟨rfl, rfl, rfl⟩))) | (refine both_ways ?_ ?_) | (rw [wrap_i64 (by omega) (by omega)]) | (refine guardV_split (fun h => ?_) (fun h => ?_) <;> (try rw [h]) <;> (try simp at h) <;> (try (exfalso; omega))))
    exact hK
end
theorem awake_d {σ : AST} {K : AV → AST → Prop} (hK : K (.bool true) σ) : TCalls Try.prog 9 [] σ K := TCalls.drop (awake_c fun s hx => ⟨hx, rfl, by simpa [AV.strip] using hK⟩)
theorem offlineNone_c {x : Ask} {t u : Tk} {σ : AST} {K : AV → AST → Prop} (hK : K (.bool true) σ) : TCalls Try.prog 7 [askV t u x] σ K := by
  refine TCalls.drop ?_
  refine tcalls_walk Try.f7 _ [.tmp 2] Try.func7 rfl rfl rfl mixed (Nat.le_of_ble_eq_true rfl) rfl fun hlen => ?_
  repeat' (first | (simp -dsimp only [↓reduceIte, go_sem]) | (refine arr_intro fun _ => ?_) | (refine later_intro ⟨keeps_nil, ?_⟩) | (refine later_intro ⟨keeps_refl, ?_⟩) | (with_reducible refine keeps_go ?_ ?_; focus (first | (simp [keeps_cons, keeps_none, objs_app, objs_app0]; done) | (simp only [keeps_cons, keeps_none, objs_app0, objs_app, and_true]; first | rfl | exact ⟨rfl, rfl⟩ | exact ⟨rfl, rfl, rfl⟩))) | (with_reducible refine (And.intro (a := keeps _ _ _) ?_ ?_); focus (first | (simp [keeps_cons, keeps_none, objs_app, objs_app0]; done) | (simp only [keeps_cons, keeps_none, objs_app0, objs_app, and_true]; first | rfl | exact ⟨rfl, rfl⟩ | exact ⟨rfl, rfl, rfl⟩))) | (refine both_ways ?_ ?_) | (rw [wrap_i64 (by omega) (by omega)]) | (refine guardV_split (fun h => ?_) (fun h => ?_) <;> (try rw [h]) <;> (try simp at h) <;> (try (exfalso; omega))) | (refine open_nil ?_) | (refine first_nil ?_) | (with_reducible refine awp_drawU (id := 4) (.op 0 3 (.op 1 2 (.op 2 2 (.op 3 2 (.op 4 2 (.op 5 2 (.op 6 2 (.op 7 2 (.op 8 2 (.op 9 2 (.op 10 2 (.op 11 2 (.op 12 2 (.op 13 2 (.op 14 2 (.op 15 2 (.op 16 2 (.op 17 2 (.op 18 2 (.op 19 2 (.op 20 2 (.op 21 2 (.op 22 2 (.op 23 2 (.op 24 2 (.op 25 1 (.op 26 2 (.op 27 2 (.op 28 2 (.op 29 2 (.op 30 2 (.op 31 2 (.op 32 2 (.op 33 2 (.op 34 1 (.op 35 2 (.op 36 2 (.op 37 2 (.op 38 2 (.op 39 2 (.op 40 2 (.op 41 1 (.op 42 2 (.op 43 2 (.op 44 2 (.op 45 2 (.op 46 2 (.op 47 2 (.op 48 1 (.op 49 2 (.op 50 2 (.op 51 2 (.op 52 2 (.op 54 0 (.op 55 0 (.op 56 0 (.op 53 1 (.cut (.op 57 1 (.op 58 2 (.op 59 2 (.op 60 2 (.op 61 2 .nil))))))))))))))))))))))))))))))))))))))))))))))))))))))))))))))) (by kernel_rfl) ?_) | (refine awake_d ?_) | (refine send_nil ?_) | (refine forge_nil ?_) | (refine copy_nil ?_) | (refine lose_nil ?_) | (refine len_nil ?_) | (refine waiting_nil ?_))
  all_goals exact ⟨Ext.app _ _, rfl, by simpa [AV.strip] using hK⟩
end Go.Aff.L10

/- Layer 27: what an argument's shape says of an act. -/
namespace Go.Aff.L10
open Go.Proofs Go.Aff Go.Aff.L01 Classical
set_option linter.unusedVariables false
set_option maxRecDepth 20000

def Rng (n : Int) : Prop := -9223372036854775808 ≤ n ∧ n ≤ 9223372036854775807
theorem sh_ints {n : Nat} {v : AV} (h : ShT Try.prog (n + 2) 38 v) : ∃ (tk : Tk) (l : List Int), v = .slice tk (l.map (AV.int .i64)) := by
  obtain ⟨tk, xs, rfl, e⟩ := sh_slice (n := n + 1) (t := 38) Try.underlying38 h
  obtain ⟨l, rfl, _⟩ := map_of (f := AV.int .i64) (p := fun _ => True) (fun x hx => by obtain ⟨i, rfl, _, _⟩ := sh_int (n := n) (t := 3) Try.underlying3 (e x hx); exact ⟨i, rfl, trivial⟩)
  exact ⟨tk, l, rfl⟩
theorem sh_pend {n : Nat} {v : AV} (h : ShT Try.prog (n + 9) 98 v) : ∃ y : Pend, v = pendV y ∧ True := by
  obtain ⟨ps, rfl, hps⟩ := sh_struct (n := n + 8) Try.underlying98 h
  obtain ⟨p0, r, rfl, h0, hps⟩ := shTs_cons (n := n + 7) hps
  obtain ⟨p1, r, rfl, h1, hps⟩ := shTs_cons (n := n + 6) hps
  obtain ⟨p2, r, rfl, h2, hps⟩ := shTs_cons (n := n + 5) hps
  obtain ⟨p3, r, rfl, h3, hps⟩ := shTs_cons (n := n + 4) hps
  obtain ⟨p4, r, rfl, h4, hps⟩ := shTs_cons (n := n + 3) hps
  obtain ⟨p5, r, rfl, h5, hps⟩ := shTs_cons (n := n + 2) hps
  obtain rfl := shTs_nil hps
  obtain ⟨a, rfl, _, _⟩ := sh_int (t := 3) Try.underlying3 h0
  obtain ⟨b, rfl, _, _⟩ := sh_int (t := 3) Try.underlying3 h1
  obtain ⟨c, rfl, _, _⟩ := sh_int (t := 3) Try.underlying3 h2
  obtain ⟨d, rfl, _, _⟩ := sh_int (t := 3) Try.underlying3 h3
  obtain ⟨e, rfl⟩ := sh_dig (t := 30) Try.underlying30 h4
  obtain ⟨f, rfl⟩ := sh_dig (t := 30) Try.underlying30 h5
  exact ⟨⟨a, b, c, d, e, f⟩, rfl, trivial⟩
theorem sh_sub {n : Nat} {v : AV} (h : ShT Try.prog (n + 9) 32 v) : ∃ y : Sub, v = subV y := by
  obtain ⟨ps, rfl, hps⟩ := sh_struct (n := n + 8) Try.underlying32 h
  obtain ⟨p0, r, rfl, h0, hps⟩ := shTs_cons (n := n + 7) hps
  obtain ⟨p1, r, rfl, h1, hps⟩ := shTs_cons (n := n + 6) hps
  obtain ⟨p2, r, rfl, h2, hps⟩ := shTs_cons (n := n + 5) hps
  obtain ⟨p3, r, rfl, h3, hps⟩ := shTs_cons (n := n + 4) hps
  obtain ⟨p4, r, rfl, h4, hps⟩ := shTs_cons (n := n + 3) hps
  obtain ⟨p5, r, rfl, h5, hps⟩ := shTs_cons (n := n + 2) hps
  obtain rfl := shTs_nil hps
  obtain ⟨a, rfl, _, _⟩ := sh_int (t := 3) Try.underlying3 h0
  obtain ⟨b, rfl, _, _⟩ := sh_int (t := 3) Try.underlying3 h1
  obtain ⟨c, rfl, _, _⟩ := sh_int (t := 3) Try.underlying3 h2
  obtain ⟨d, rfl⟩ := sh_str (t := 9) Try.underlying9 h3
  obtain ⟨e, rfl⟩ := sh_dig (t := 30) Try.underlying30 h4
  obtain ⟨f, rfl⟩ := sh_dig (t := 30) Try.underlying30 h5
  exact ⟨⟨a, b, c, d, e, f⟩, rfl⟩
theorem sh_blob {n : Nat} {v : AV} (h : ShT Try.prog (n + 9) 37 v) : ∃ y : Blob, v = blobV y := by
  obtain ⟨ps, rfl, hps⟩ := sh_struct (n := n + 8) Try.underlying37 h
  obtain ⟨p0, r, rfl, h0, hps⟩ := shTs_cons (n := n + 7) hps
  obtain ⟨p1, r, rfl, h1, hps⟩ := shTs_cons (n := n + 6) hps
  obtain ⟨p2, r, rfl, h2, hps⟩ := shTs_cons (n := n + 5) hps
  obtain ⟨p3, r, rfl, h3, hps⟩ := shTs_cons (n := n + 4) hps
  obtain rfl := shTs_nil hps
  obtain ⟨a, rfl, _, _⟩ := sh_int (t := 3) Try.underlying3 h0
  obtain ⟨b, rfl, _, _⟩ := sh_int (t := 3) Try.underlying3 h1
  obtain ⟨c, rfl⟩ := sh_str (t := 9) Try.underlying9 h2
  obtain ⟨e, rfl⟩ := sh_dig (t := 30) Try.underlying30 h3
  exact ⟨⟨a, b, c, e⟩, rfl⟩
theorem sh_rep {n : Nat} {v : AV} (h : ShT Try.prog (n + 18) 35 v) : ∃ (t : Tk) (y : Rep), v = repV t y := by
  obtain ⟨ps, rfl, hps⟩ := sh_struct (n := n + 17) Try.underlying35 h
  obtain ⟨p0, r, rfl, h0, hps⟩ := shTs_cons (n := n + 16) hps
  obtain ⟨p1, r, rfl, h1, hps⟩ := shTs_cons (n := n + 15) hps
  obtain ⟨p2, r, rfl, h2, hps⟩ := shTs_cons (n := n + 14) hps
  obtain ⟨p3, r, rfl, h3, hps⟩ := shTs_cons (n := n + 13) hps
  obtain ⟨p4, r, rfl, h4, hps⟩ := shTs_cons (n := n + 12) hps
  obtain ⟨p5, r, rfl, h5, hps⟩ := shTs_cons (n := n + 11) hps
  obtain ⟨p6, r, rfl, h6, hps⟩ := shTs_cons (n := n + 10) hps
  obtain ⟨p7, r, rfl, h7, hps⟩ := shTs_cons (n := n + 9) hps
  obtain ⟨p8, r, rfl, h8, hps⟩ := shTs_cons (n := n + 8) hps
  obtain ⟨p9, r, rfl, h9, hps⟩ := shTs_cons (n := n + 7) hps
  obtain rfl := shTs_nil hps
  obtain ⟨a, rfl, _, _⟩ := sh_int (t := 3) Try.underlying3 h0
  obtain ⟨b, rfl, _, _⟩ := sh_int (t := 3) Try.underlying3 h1
  obtain ⟨c, rfl⟩ := sh_str (t := 9) Try.underlying9 h2
  obtain ⟨d, rfl⟩ := sh_dig (t := 30) Try.underlying30 h3
  obtain ⟨tk, xs, rfl, e⟩ := sh_slice (n := n + 11) (t := 33) Try.underlying33 h4
  obtain ⟨l, rfl, _⟩ := map_of (f := pendV) (p := fun _ => True) (fun x hx => sh_pend (n := n + 2) (e x hx))
  obtain ⟨f, rfl, _, _⟩ := sh_int (t := 3) Try.underlying3 h5
  obtain ⟨g, rfl⟩ := sh_str (t := 9) Try.underlying9 h6
  obtain ⟨k, rfl⟩ := sh_dig (t := 30) Try.underlying30 h7
  obtain ⟨i, rfl⟩ := sh_str (t := 9) Try.underlying9 h8
  obtain ⟨j, rfl⟩ := sh_dig (t := 30) Try.underlying30 h9
  exact ⟨tk, ⟨a, b, c, d, l, f, g, k, i, j⟩, rfl⟩
theorem sh_msg {n : Nat} {v : AV} (h : ShT Try.prog (n + 30) 40 v) : ∃ (t u : Tk) (m : Msg), v = msgV t u m ∧ Rng m.by_ := by
  obtain ⟨ps, rfl, hps⟩ := sh_struct (n := n + 29) Try.underlying40 h
  obtain ⟨p0, r, rfl, h0, hps⟩ := shTs_cons (n := n + 28) hps
  obtain ⟨p1, r, rfl, h1, hps⟩ := shTs_cons (n := n + 27) hps
  obtain ⟨p2, r, rfl, h2, hps⟩ := shTs_cons (n := n + 26) hps
  obtain ⟨p3, r, rfl, h3, hps⟩ := shTs_cons (n := n + 25) hps
  obtain ⟨p4, r, rfl, h4, hps⟩ := shTs_cons (n := n + 24) hps
  obtain ⟨p5, r, rfl, h5, hps⟩ := shTs_cons (n := n + 23) hps
  obtain ⟨p6, r, rfl, h6, hps⟩ := shTs_cons (n := n + 22) hps
  obtain ⟨p7, r, rfl, h7, hps⟩ := shTs_cons (n := n + 21) hps
  obtain ⟨p8, r, rfl, h8, hps⟩ := shTs_cons (n := n + 20) hps
  obtain ⟨p9, r, rfl, h9, hps⟩ := shTs_cons (n := n + 19) hps
  obtain rfl := shTs_nil hps
  obtain ⟨a, rfl, _, _⟩ := sh_int (t := 3) Try.underlying3 h0
  obtain ⟨b, rfl, _, _⟩ := sh_int (t := 3) Try.underlying3 h1
  obtain ⟨c, rfl⟩ := sh_sub (n := n + 17) h2
  obtain ⟨t, d, rfl⟩ := sh_rep (n := n + 7) h3
  obtain ⟨e, rfl⟩ := sh_str (t := 9) Try.underlying9 h4
  obtain ⟨f, rfl, f1, f2⟩ := sh_int (t := 3) Try.underlying3 h5
  obtain ⟨g, rfl⟩ := sh_dig (t := 30) Try.underlying30 h6
  obtain ⟨k, rfl⟩ := sh_dig (t := 30) Try.underlying30 h7
  obtain ⟨i, rfl⟩ := sh_blob (n := n + 11) h8
  obtain ⟨u, l, rfl⟩ := sh_ints (n := n + 17) h9
  exact ⟨t, u, ⟨a, b, c, d, e, f, g, k, i, l⟩, rfl, f1, f2⟩
theorem sh_ask {v : AV} (h : ShT Try.prog 50 44 v) : ∃ (t u : Tk) (x : Ask), v = askV t u x ∧ Rng x.x.x.by_ ∧ Rng x.i ∧ Rng x.to ∧ Rng x.x.to := by
  obtain ⟨ps, rfl, hps⟩ := sh_struct (n := 49) Try.underlying44 h
  obtain ⟨p0, r, rfl, h0, hps⟩ := shTs_cons (n := 48) hps
  obtain ⟨p1, r, rfl, h1, hps⟩ := shTs_cons (n := 47) hps
  obtain ⟨p2, r, rfl, h2, hps⟩ := shTs_cons (n := 46) hps
  obtain ⟨p3, r, rfl, h3, hps⟩ := shTs_cons (n := 45) hps
  obtain ⟨p4, r, rfl, h4, hps⟩ := shTs_cons (n := 44) hps
  obtain rfl := shTs_nil hps
  obtain ⟨a, rfl, _, _⟩ := sh_int (t := 3) Try.underlying3 h0
  obtain ⟨b, rfl, b1, b2⟩ := sh_int (t := 3) Try.underlying3 h1
  obtain ⟨c, rfl, c1, c2⟩ := sh_int (t := 3) Try.underlying3 h2
  obtain ⟨e, rfl⟩ := sh_str (t := 9) Try.underlying9 h4
  obtain ⟨qs, rfl, hqs⟩ := sh_struct (n := 44) Try.underlying42 h3
  obtain ⟨q0, r, rfl, g0, hqs⟩ := shTs_cons (n := 43) hqs
  obtain ⟨q1, r, rfl, g1, hqs⟩ := shTs_cons (n := 42) hqs
  obtain rfl := shTs_nil hqs
  obtain ⟨d, rfl, d1, d2⟩ := sh_int (t := 3) Try.underlying3 g0
  obtain ⟨t, u, m, rfl, hm⟩ := sh_msg (n := 12) g1
  exact ⟨t, u, ⟨a, b, c, ⟨d, m⟩, e⟩, rfl, hm, ⟨b1, b2⟩, ⟨c1, c2⟩, ⟨d1, d2⟩⟩
end Go.Aff.L10

/- Layer 27, walked: the reference's net. -/
-- cuts
namespace Go.Aff.L10
open Go.Proofs Go.Aff Go.Aff.L01 Classical
set_option linter.unusedVariables false
set_option linter.unusedSimpArgs false
set_option maxRecDepth 20000
attribute [local go_sem] push_app app_app length_app cellAt_app cellAt_app0 set_app set_app0 objs_app objs_app0 List.cons_append List.nil_append List.length_cons List.length_nil List.getElem?_cons_zero List.getElem?_cons_succ List.set_cons_zero List.set_cons_succ List.length_map
attribute [-go_sem] cellAt_new
attribute [-simp] List.length_flatMap
attribute [local go_sem] Try.underlying3 Try.underlying4 Try.underlying5 Try.underlying9 Try.underlying29 Try.underlying30 Try.underlying33 Try.underlying38 Try.underlying24 Try.underlying89 subPs_0 subAt_0 subSet_0 subPs_1 subAt_1 subSet_1 subPs_2 subAt_2 subSet_2 subPs_3 subAt_3 subSet_3 subPs_4 subAt_4 subSet_4 subPs_5 subAt_5 subSet_5 sizes_sub shapes_sub fits_sub zero_sub zt_sub built_sub Try.underlying32 pendPs_0 pendAt_0 pendSet_0 pendPs_1 pendAt_1 pendSet_1 pendPs_2 pendAt_2 pendSet_2 pendPs_3 pendAt_3 pendSet_3 pendPs_4 pendAt_4 pendSet_4 pendPs_5 pendAt_5 pendSet_5 sizes_pend shapes_pend fits_pend zero_pend zt_pend built_pend Try.underlying98 repPs_0 repAt_0 repSet_0 repPs_1 repAt_1 repSet_1 repPs_2 repAt_2 repSet_2 repPs_3 repAt_3 repSet_3 repPs_4 repAt_4 repSet_4 repPs_5 repAt_5 repSet_5 repPs_6 repAt_6 repSet_6 repPs_7 repAt_7 repSet_7 repPs_8 repAt_8 repSet_8 repPs_9 repAt_9 repSet_9 sizes_rep shapes_rep fits_rep zero_rep zt_rep built_rep Try.underlying35 blobPs_0 blobAt_0 blobSet_0 blobPs_1 blobAt_1 blobSet_1 blobPs_2 blobAt_2 blobSet_2 blobPs_3 blobAt_3 blobSet_3 sizes_blob shapes_blob fits_blob zero_blob zt_blob built_blob Try.underlying37 msgPs_0 msgAt_0 msgSet_0 msgPs_1 msgAt_1 msgSet_1 msgPs_2 msgAt_2 msgSet_2 msgPs_3 msgAt_3 msgSet_3 msgPs_4 msgAt_4 msgSet_4 msgPs_5 msgAt_5 msgSet_5 msgPs_6 msgAt_6 msgSet_6 msgPs_7 msgAt_7 msgSet_7 msgPs_8 msgAt_8 msgSet_8 msgPs_9 msgAt_9 msgSet_9 sizes_msg shapes_msg fits_msg zero_msg zt_msg built_msg Try.underlying40 at_Ps_0 at_Set_0 at_Ps_1 at_Set_1 sizes_at_ shapes_at_
attribute [local go_sem] fits3 fits4 fits5 fits9 fits23 fits26 fits31 fits34 fits52 zt3 zero3 zt34 zero34 zt23 zero23 bin_sub_eql bin_pend_eql bin_pend_neq bin_blob_eql bin_dig23_eql bin_dig23_neq slice23
attribute [local go_sem ↓] blockQ_exit2
attribute [local simp] dig_ext
attribute [local go_sem] sndPs_0 sndAt_0 sndSet_0 sndPs_1 sndAt_1 sndSet_1 sizes_snd shapes_snd fits_snd zero_snd zt_snd built_snd Try.underlying42 askPs_0 askAt_0 askSet_0 askPs_1 askAt_1 askSet_1 askPs_2 askAt_2 askSet_2 askPs_3 askAt_3 askSet_3 askPs_4 askAt_4 askSet_4 sizes_ask shapes_ask fits_ask zero_ask zt_ask built_ask Try.underlying44 let_Ps_0 let_At_0 let_Set_0 let_Ps_1 let_At_1 let_Set_1 sizes_let_ shapes_let_ fits_let_ zero_let_ zt_let_ built_let_ Try.underlying74 netPs_0 netAt_0 netSet_0 netPs_1 netAt_1 netSet_1 sizes_net shapes_net fits_net zero_net zt_net built_net Try.underlying71 rletPs_0 rletAt_0 rletSet_0 rletPs_1 rletAt_1 rletSet_1 sizes_rlet shapes_rlet fits_rlet zero_rlet zt_rlet built_rlet Try.underlying60 rnetPs_0 rnetAt_0 rnetSet_0 rnetPs_1 rnetAt_1 rnetSet_1 sizes_rnet shapes_rnet fits_rnet zero_rnet zt_rnet built_rnet Try.underlying56 Try.underlying69 Try.underlying54 Try.underlying23 Try.underlying53
attribute [local go_sem] fits69 fits54'
theorem E54 : ElemT Try.prog 54 60 2 24 := ⟨rfl, by kernel_rfl, by kernel_rfl, ⟨_, of_eq_true zt_rlet⟩, by decide⟩
theorem size_rlets {l : List RLet} : ∀ v ∈ l.map rletV, v.size = 2 := by
  intro v hv; obtain ⟨x, _, rfl⟩ := List.mem_map.1 hv; simp only [AV.size, sizes_rlet]
/-- The reference's net in memory, and what else is known of memory. -/
structure RN (σ0 s : AST) (j : Nat) (c : Int) (l : List RLet) (F : List (Nat × AObj)) : Prop where
  x : Ext σ0 s
  jn : σ0.objs.length ≤ j
  o : ∃ tk, s.objs[j]? = some (.cells (rnetV tk ⟨c, l⟩))
  f : ∀ x ∈ F, x.1 ≠ j ∧ s.objs[x.1]? = some x.2
theorem RN.ext {σ0 s s2 : AST} {j : Nat} {c : Int} {l : List RLet} {F : List (Nat × AObj)} (hN : RN σ0 s j c l F) (h : Ext s s2) : RN σ0 s2 j c l F := by
  obtain ⟨tk, o⟩ := hN.o
  exact ⟨hN.x.trans h, hN.jn, ⟨tk, ext_known h o⟩, fun y hy => ⟨(hN.f y hy).1, ext_known h (hN.f y hy).2⟩⟩
theorem append_rlets {a b : List RLet} {tk tk2 : Tk} {σ : AST} {K : AV → AST → Prop} (hca : canApp σ tk a.length 2) (hl : a.length + b.length ≤ 2000) (hK : K (.slice (growT σ tk) ((a ++ b).map rletV)) (growS σ tk (a.length + b.length) 2)) :
    appendW Try.prog ⟨[54, 54]⟩ (.slice tk (a.map rletV)) (.slice tk2 (b.map rletV)) σ K := by
  refine append_slice E54 rfl (by rw [List.length_map]; exact hca) size_rlets size_rlets (by simp; omega) (by simp [maxL]; omega) ?_
  simpa using hK
theorem append_rnone {b : List RLet} {tk2 : Tk} {σ : AST} {K : AV → AST → Prop} (hl : b.length ≤ 2000) (hK : K (.slice (growT σ .full) (b.map rletV)) (growS σ .full b.length 2)) :
    appendW Try.prog ⟨[54, 54]⟩ (.slice .full []) (.slice tk2 (b.map rletV)) σ K := append_rlets (a := []) trivial (by simpa using hl) (by simpa using hK)
theorem append_rlet {a : List RLet} {x : RLet} {tk tk2 : Tk} {σ : AST} {K : AV → AST → Prop} (hca : canApp σ tk a.length 2) (hl : a.length ≤ 1999) (hK : K (.slice (growT σ tk) ((a ++ [x]).map rletV)) (growS σ tk (a.length + 1) 2)) :
    appendW Try.prog ⟨[54, 54]⟩ (.slice tk (a.map rletV)) (.slice tk2 [rletV x]) σ K := append_rlets (b := [x]) hca (by simp; omega) (by simpa using hK)
theorem hi_rlets {l : List RLet} {tk : Tk} {i : Nat} {KV : AV → Prop} (hi : i ≤ l.length) (h : ∀ t, KV (.slice t ((l.take i).map rletV))) : sliceW Try.prog 54 (.slice tk (l.map rletV)) none (some (.int .i64 i)) none KV :=
  slice_hi E54 ⟨_, Try.underlying60⟩ size_rlets (by simpa using hi) fun t => by rw [← List.map_take]; exact h t
theorem lo_rlets {l : List RLet} {tk : Tk} {i : Nat} {KV : AV → Prop} (hi : i + 1 ≤ l.length) (h : ∀ t, KV (.slice t ((l.drop (i + 1)).map rletV))) : sliceW Try.prog 54 (.slice tk (l.map rletV)) (some (.int .i64 ((i : Int) + 1))) none none KV := by
  have := slice_lo (P := Try.prog) (h := i + 1) (tk := tk) (q := .i64) (KV := KV) E54 ⟨_, Try.underlying60⟩ (size_rlets (l := l)) (by simpa using hi) fun t => by rw [← List.map_drop]; exact h t
  simpa using this
def raddL (l : List RLet) (x : RLet) : List RLet := if 128 ≤ l.length then l else l ++ [x]
theorem raddr_c {σ0 s : AST} {j : Nat} {c : Int} {l : List RLet} {x : RLet} {F : List (Nat × AObj)} {K : AV → AST → Prop} (hN : RN σ0 s j c l F)
    (hK : ∀ s', RN σ0 s' j c (raddL l x) F → K (.int .i64 (if 128 ≤ l.length then 11 else 0)) s') : TCalls Try.prog 35 [.ptr (some (j, [])), rletV x] s K := by
  obtain ⟨tk, o⟩ := hN.o
  have c0 := cellAt_known o
  have oA : ∀ l, (s.app l).objs[j]? = some _ := fun l => objs_known_app o l
  have cA : ∀ l p, cellAt (s.app l) j p = _ := fun l p => cellAt_known (oA l) p
  refine tcalls_walk Try.f35 _ [.tmp 4] Try.func35 rfl rfl rfl mixed (Nat.le_of_ble_eq_true rfl) rfl fun hlen => ?_
  by_cases hb : 128 ≤ l.length
  · simp only [hb, if_true, raddL] at hK
    have hb1 : (127 : Int) < l.length := by omega
    repeat' (first | (simp -dsimp only [↓reduceIte, go_sem, cA, hb1]) | (refine arr_intro fun _ => ?_) | (refine later_intro ⟨keeps_nil, ?_⟩) | (refine later_intro ⟨keeps_refl, ?_⟩) | (with_reducible refine keeps_go ?_ ?_; focus (first | (simp [keeps_cons, keeps_none, objs_app, objs_app0]; done) | (simp only [keeps_cons, keeps_none, objs_app0, objs_app, and_true]; first | rfl | exact ⟨rfl, rfl⟩ | exact ⟨rfl, rfl, rfl⟩))) | (with_reducible refine (And.intro (a := keeps _ _ _) ?_ ?_); focus (first | (simp [keeps_cons, keeps_none, objs_app, objs_app0]; done) | (simp only [keeps_cons, keeps_none, objs_app0, objs_app, and_true]; first | rfl | exact ⟨rfl, rfl⟩ | exact ⟨rfl, rfl, rfl⟩))) | (refine both_ways ?_ ?_) | (rw [wrap_i64 (by omega) (by omega)]) | (refine guardV_split (fun h => ?_) (fun h => ?_) <;> (try rw [h]) <;> (try simp at h) <;> (try (exfalso; omega))))
    exact hK _ (hN.ext (Ext.app _ _))
  · simp only [hb, if_false, raddL] at hK
    have hb1 : ¬ (127 : Int) < l.length := by omega
    repeat' (first | (simp -dsimp only [↓reduceIte, go_sem, cA, oA, hb1, cellAt_growS, objs_growS]) | (refine arr_intro fun _ => ?_) | (refine later_intro ⟨keeps_nil, ?_⟩) | (refine later_intro ⟨keeps_refl, ?_⟩) | (with_reducible refine keeps_go ?_ ?_; focus (first | (simp [keeps_cons, keeps_none, objs_app, objs_app0]; done) | (simp only [keeps_cons, keeps_none, objs_app0, objs_app, and_true]; first | rfl | exact ⟨rfl, rfl⟩ | exact ⟨rfl, rfl, rfl⟩))) | (with_reducible refine (And.intro (a := keeps _ _ _) ?_ ?_); focus (first | (simp [keeps_cons, keeps_none, objs_app, objs_app0]; done) | (simp only [keeps_cons, keeps_none, objs_app0, objs_app, and_true]; first | rfl | exact ⟨rfl, rfl⟩ | exact ⟨rfl, rfl, rfl⟩))) | (refine both_ways ?_ ?_) | (rw [wrap_i64 (by omega) (by omega)]) | (refine guardV_split (fun h => ?_) (fun h => ?_) <;> (try rw [h]) <;> (try simp at h) <;> (try (exfalso; omega))) | (with_reducible refine awp_drawU (id := 3) (.op 0 0 (.op 1 2 (.op 2 2 (.op 3 2 (.op 4 2 (.op 5 2 (.op 7 0 (.op 8 0 (.op 6 1 (.op 9 1 (.cut (.op 10 2 (.op 11 2 (.op 12 1 .nil)))))))))))))) (by kernel_rfl) ?_) | (refine build_slice E54 rfl (by decide) (by intro v hv; simp at hv; try (subst hv; simp [go_sem])) ?_) | (refine append_rnone (by omega) ?_) | (refine append_rlet canGrow (by omega) ?_))
    refine hK _ ⟨(((hN.x.trans (Ext.app _ _)).grow (.inl rfl)).grow ?_).set hN.jn, hN.jn, ⟨_, objs_setS ?_⟩, fun y hy => ⟨(hN.f y hy).1, ?_⟩⟩
    · exact (show tkNew σ0 .full from .inl rfl).grow (hN.x.trans (Ext.app _ _))
    · simp only [growS_objs]; exact (List.getElem?_eq_some_iff.1 (oA _)).1
    · rw [objs_setN (hN.f y hy).1.symm, growS_objs, growS_objs]; exact objs_known_app (hN.f y hy).2 _
theorem take_c {σ0 s : AST} {j : Nat} {c : Int} {l : List RLet} {i : Nat} {x : RLet} {F : List (Nat × AObj)} {K : AV → AST → Prop} (hN : RN σ0 s j c l F) (hx : l[i]? = some x) (hl : l.length ≤ 1000)
    (hK : ∀ s', RN σ0 s' j c (l.take i ++ l.drop (i + 1)) F → K (rletV x) s') : TCalls Try.prog 22 [.ptr (some (j, [])), .int .i64 i] s K := by
  have hil := (List.getElem?_eq_some_iff.1 hx).1
  obtain ⟨tk, o⟩ := hN.o
  have oA : ∀ l, (s.app l).objs[j]? = some _ := fun l => objs_known_app o l
  have cA : ∀ l p, cellAt (s.app l) j p = _ := fun l p => cellAt_known (oA l) p
  have hjl := (List.getElem?_eq_some_iff.1 o).1
  have n0 : j ≠ s.objs.length := by omega
  have n1 : j ≠ s.objs.length + 1 := by omega
  have cS : ∀ a b m n tk1 tk2 v w p, cellAt (((growS (growS (s.app [a, b]) tk1 m 2) tk2 n 2).set j w).set s.objs.length (.cells v)) s.objs.length p = v.at p := fun a b m n tk1 tk2 v w p =>
    cellAt_setS (by simp [AST.set, growS_objs, AST.app])
  refine tcalls_walk Try.f22 _ [.cell 4 60] Try.func22 rfl rfl rfl mixed (Nat.le_of_ble_eq_true rfl) rfl fun hlen => ?_
  repeat' (first | (simp -dsimp only [↓reduceIte, go_sem, cA, oA, cellAt_growS, objs_growS, cellAt_setN n0, cellAt_setN n1, objs_setN n0, objs_setN n1, cS]) | (refine arr_intro fun _ => ?_) | (refine later_intro ⟨keeps_nil, ?_⟩) | (refine later_intro ⟨keeps_refl, ?_⟩) | (with_reducible refine keeps_go ?_ ?_; focus (first | (simp [keeps_cons, keeps_none, objs_app, objs_app0]; done) | (simp only [keeps_cons, keeps_none, objs_app0, objs_app, and_true]; first | rfl | exact ⟨rfl, rfl⟩ | exact ⟨rfl, rfl, rfl⟩))) | (with_reducible refine (And.intro (a := keeps _ _ _) ?_ ?_); focus (first | (simp [keeps_cons, keeps_none, objs_app, objs_app0]; done) | (simp only [keeps_cons, keeps_none, objs_app0, objs_app, and_true]; first | rfl | exact ⟨rfl, rfl⟩ | exact ⟨rfl, rfl, rfl⟩))) | (refine both_ways ?_ ?_) | (rw [wrap_i64 (by omega) (by omega)]) | (refine guardV_split (fun h => ?_) (fun h => ?_) <;> (try rw [h]) <;> (try simp at h) <;> (try (exfalso; omega))) | (refine nth_get hx ?_) | (refine build_slice E54 rfl (by decide) (by intro v hv; simp at hv) ?_) | (refine hi_rlets (by omega) fun t => ?_) | (refine lo_rlets (by omega) fun t => ?_) | (refine append_rnone (by simp; omega) ?_) | (refine append_rlets canGrow (by simp; omega) ?_) | (with_reducible refine awp_drawU (id := 2) (.op 0 0 (.op 1 2 (.op 2 2 (.op 3 2 (.op 4 2 (.op 5 2 (.op 6 2 (.op 7 2 (.op 9 0 (.op 10 0 (.op 11 0 (.op 12 0 (.op 13 0 (.op 14 0 (.op 15 0 (.op 8 1 (.op 16 1 (.cut (.op 17 2 (.op 18 2 (.op 19 1 .nil))))))))))))))))))))) (by kernel_rfl) ?_))
  refine hK _ ⟨((((hN.x.trans (Ext.app _ _)).grow (.inl rfl)).grow ?_).set hN.jn).set (Nat.le_trans hN.jn (Nat.le_of_lt hjl)), hN.jn, ?_, fun y hy => ⟨(hN.f y hy).1, ?_⟩⟩
  · exact (show tkNew σ0 .full from .inl rfl).grow (hN.x.trans (Ext.app _ _))
  · apply Exists.intro
    rw [objs_setN n0.symm, objs_setS (by simp only [growS_objs]; exact (List.getElem?_eq_some_iff.1 (oA _)).1)]
  · have h1 := hN.f y hy
    have h2 := (List.getElem?_eq_some_iff.1 h1.2).1
    rw [objs_setN (by omega), objs_setN h1.1.symm, growS_objs, growS_objs]
    exact objs_known_app h1.2 _
end Go.Aff.L10

