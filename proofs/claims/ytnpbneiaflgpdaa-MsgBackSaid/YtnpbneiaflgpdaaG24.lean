import Derived.Test.YtnpbneiaflgpdaaG23
import Derived.Test.YtnpbneiaflgpdaaG18

set_option linter.unusedSimpArgs false
set_option linter.unusedVariables false

/- Layer 10, walked: what may be: numbers, submits, blobs, views. -/
namespace Go.Aff.L10
open Go.Proofs Go.Aff Go.Aff.L01 Classical
set_option linter.unusedVariables false
set_option linter.unusedSimpArgs false
set_option maxRecDepth 20000
attribute [local go_sem] push_app app_app length_app cellAt_app cellAt_app0 set_app set_app0 objs_app objs_app0 List.cons_append List.nil_append List.length_cons List.length_nil List.getElem?_cons_zero List.getElem?_cons_succ List.set_cons_zero List.set_cons_succ List.length_map
attribute [-go_sem] cellAt_new
attribute [-simp] List.length_flatMap
attribute [local go_sem] Try.underlying3 Try.underlying4 Try.underlying5 Try.underlying9 Try.underlying22 Try.underlying23 Try.underlying26 Try.underlying31 Try.underlying34 Try.underlying52 subPs_0 subAt_0 subSet_0 subPs_1 subAt_1 subSet_1 subPs_2 subAt_2 subSet_2 subPs_3 subAt_3 subSet_3 subPs_4 subAt_4 subSet_4 subPs_5 subAt_5 subSet_5 sizes_sub shapes_sub fits_sub zero_sub zt_sub built_sub Try.underlying25 pendPs_0 pendAt_0 pendSet_0 pendPs_1 pendAt_1 pendSet_1 pendPs_2 pendAt_2 pendSet_2 pendPs_3 pendAt_3 pendSet_3 pendPs_4 pendAt_4 pendSet_4 pendPs_5 pendAt_5 pendSet_5 sizes_pend shapes_pend fits_pend zero_pend zt_pend built_pend Try.underlying98 repPs_0 repAt_0 repSet_0 repPs_1 repAt_1 repSet_1 repPs_2 repAt_2 repSet_2 repPs_3 repAt_3 repSet_3 repPs_4 repAt_4 repSet_4 repPs_5 repAt_5 repSet_5 repPs_6 repAt_6 repSet_6 repPs_7 repAt_7 repSet_7 repPs_8 repAt_8 repSet_8 repPs_9 repAt_9 repSet_9 sizes_rep shapes_rep fits_rep zero_rep zt_rep built_rep Try.underlying28 blobPs_0 blobAt_0 blobSet_0 blobPs_1 blobAt_1 blobSet_1 blobPs_2 blobAt_2 blobSet_2 blobPs_3 blobAt_3 blobSet_3 sizes_blob shapes_blob fits_blob zero_blob zt_blob built_blob Try.underlying30 msgPs_0 msgAt_0 msgSet_0 msgPs_1 msgAt_1 msgSet_1 msgPs_2 msgAt_2 msgSet_2 msgPs_3 msgAt_3 msgSet_3 msgPs_4 msgAt_4 msgSet_4 msgPs_5 msgAt_5 msgSet_5 msgPs_6 msgAt_6 msgSet_6 msgPs_7 msgAt_7 msgSet_7 msgPs_8 msgAt_8 msgSet_8 msgPs_9 msgAt_9 msgSet_9 sizes_msg shapes_msg fits_msg zero_msg zt_msg built_msg Try.underlying33 at_Ps_0 at_At_0 at_Set_0 at_Ps_1 at_At_1 at_Set_1 sizes_at_ shapes_at_ fits_at_ zero_at_ zt_at_ built_at_ Try.underlying77
attribute [local go_sem] fits3 fits4 fits5 fits9 fits23 fits26 fits31 fits34 fits52 zt3 zero3 zt34 zero34 zt23 zero23 bin_sub_eql bin_pend_eql bin_pend_neq bin_blob_eql bin_dig23_eql bin_dig23_neq slice23
attribute [local go_sem ↓] blockQ_exit2
attribute [local simp] dig_ext

theorem within_c {n lo hi : Int} {σ : AST} {K : AV → AST → Prop} (hK : K (.bool (decide (In lo hi n))) σ) : TCalls Try.prog 43 [.int .i64 n, .int .i64 lo, .int .i64 hi] σ K := by
  refine tcalls_walk Try.f43 _ [.tmp 6] Try.func43 rfl rfl rfl mixed (Nat.le_of_ble_eq_true rfl) rfl fun hlen => ?_
  repeat' (first | (simp -dsimp only [↓reduceIte, go_sem]) | (refine arr_intro fun _ => ?_) | (refine later_intro ⟨keeps_nil, ?_⟩) | (refine later_intro ⟨keeps_refl, ?_⟩) | (refine both_ways ?_ ?_) | (rw [wrap_i64 (by omega) (by omega)]) | (refine guardV_split (fun h => ?_) (fun h => ?_) <;> (try rw [h]) <;> (try simp at h) <;> (try (exfalso; omega))))
  all_goals (first | exact hK | (exfalso; omega) | (refine bool_endD hK ?_; simp_all [In] <;> fail) | (refine bool_endDX (Ext.app _ _) hK ?_; simp_all [In] <;> fail) | (refine bool_endDX (Ext.refl _) hK ?_; simp_all [In] <;> fail) | (refine bool_endDX hx hK ?_; simp_all [In] <;> fail) | (refine bool_endD hK ?_; simp [In]; omega) | (refine bool_endDX (Ext.app _ _) hK ?_; simp [In]; omega) | (refine bool_endDX (Ext.refl _) hK ?_; simp [In]; omega) | (refine bool_endDX hx hK ?_; simp [In]; omega) | (refine bool_endD hK ?_; simp_all [In]; omega) | (refine bool_endDX (Ext.app _ _) hK ?_; simp_all [In]; omega) | (refine bool_endDX (Ext.refl _) hK ?_; simp_all [In]; omega) | (refine bool_endDX hx hK ?_; simp_all [In]; omega) | (refine bool_endD hK ?_; simp_all [In] <;> omega) | (refine bool_endDX (Ext.app _ _) hK ?_; simp_all [In] <;> omega) | (refine bool_endDX (Ext.refl _) hK ?_; simp_all [In] <;> omega) | (refine bool_endDX hx hK ?_; simp_all [In] <;> omega))
theorem Within_c {n lo hi : Int} {σ : AST} {K : AV → AST → Prop} (hK : K (.bool (decide (In lo hi n))) σ) : TCalls Try.prog 30 [.int .i64 n, .int .i64 lo, .int .i64 hi] σ K := by
  refine tcalls_walk Try.f30 _ [.tmp 6] Try.func30 rfl rfl rfl mixed (Nat.le_of_ble_eq_true rfl) rfl fun hlen => ?_
  repeat' (first | (simp -dsimp only [↓reduceIte, go_sem]) | (refine arr_intro fun _ => ?_) | (refine later_intro ⟨keeps_nil, ?_⟩) | (refine later_intro ⟨keeps_refl, ?_⟩) | (refine both_ways ?_ ?_) | (rw [wrap_i64 (by omega) (by omega)]) | (refine guardV_split (fun h => ?_) (fun h => ?_) <;> (try rw [h]) <;> (try simp at h) <;> (try (exfalso; omega))))
  all_goals (first | exact hK | (exfalso; omega) | (refine bool_endD hK ?_; simp_all [In] <;> fail) | (refine bool_endDX (Ext.app _ _) hK ?_; simp_all [In] <;> fail) | (refine bool_endDX (Ext.refl _) hK ?_; simp_all [In] <;> fail) | (refine bool_endDX hx hK ?_; simp_all [In] <;> fail) | (refine bool_endD hK ?_; simp [In]; omega) | (refine bool_endDX (Ext.app _ _) hK ?_; simp [In]; omega) | (refine bool_endDX (Ext.refl _) hK ?_; simp [In]; omega) | (refine bool_endDX hx hK ?_; simp [In]; omega) | (refine bool_endD hK ?_; simp_all [In]; omega) | (refine bool_endDX (Ext.app _ _) hK ?_; simp_all [In]; omega) | (refine bool_endDX (Ext.refl _) hK ?_; simp_all [In]; omega) | (refine bool_endDX hx hK ?_; simp_all [In]; omega) | (refine bool_endD hK ?_; simp_all [In] <;> omega) | (refine bool_endDX (Ext.app _ _) hK ?_; simp_all [In] <;> omega) | (refine bool_endDX (Ext.refl _) hK ?_; simp_all [In] <;> omega) | (refine bool_endDX hx hK ?_; simp_all [In] <;> omega))
theorem client_c {n : Int} {σ : AST} {K : AV → AST → Prop} (hK : K (.bool (decide (In 0 7 n))) σ) : TCalls Try.prog 58 [.int .i64 n] σ K := by
  refine tcalls_walk Try.f58 _ [.tmp 2] Try.func58 rfl rfl rfl mixed (Nat.le_of_ble_eq_true rfl) rfl fun hlen => ?_
  repeat' (first | (simp -dsimp only [↓reduceIte, go_sem]) | (refine arr_intro fun _ => ?_) | (refine later_intro ⟨keeps_nil, ?_⟩) | (refine later_intro ⟨keeps_refl, ?_⟩) | (refine both_ways ?_ ?_) | (rw [wrap_i64 (by omega) (by omega)]) | (refine guardV_split (fun h => ?_) (fun h => ?_) <;> (try rw [h]) <;> (try simp at h) <;> (try (exfalso; omega))) | (refine within_c ?_))
  all_goals (first | exact hK | (exfalso; omega) | (refine bool_endD hK ?_; simp_all [In] <;> fail) | (refine bool_endDX (Ext.app _ _) hK ?_; simp_all [In] <;> fail) | (refine bool_endDX (Ext.refl _) hK ?_; simp_all [In] <;> fail) | (refine bool_endDX hx hK ?_; simp_all [In] <;> fail) | (refine bool_endD hK ?_; simp [In]; omega) | (refine bool_endDX (Ext.app _ _) hK ?_; simp [In]; omega) | (refine bool_endDX (Ext.refl _) hK ?_; simp [In]; omega) | (refine bool_endDX hx hK ?_; simp [In]; omega) | (refine bool_endD hK ?_; simp_all [In]; omega) | (refine bool_endDX (Ext.app _ _) hK ?_; simp_all [In]; omega) | (refine bool_endDX (Ext.refl _) hK ?_; simp_all [In]; omega) | (refine bool_endDX hx hK ?_; simp_all [In]; omega) | (refine bool_endD hK ?_; simp_all [In] <;> omega) | (refine bool_endDX (Ext.app _ _) hK ?_; simp_all [In] <;> omega) | (refine bool_endDX (Ext.refl _) hK ?_; simp_all [In] <;> omega) | (refine bool_endDX hx hK ?_; simp_all [In] <;> omega))
theorem number_c {n : Int} {σ : AST} {K : AV → AST → Prop} (hK : K (.bool (decide (In 1 512 n))) σ) : TCalls Try.prog 95 [.int .i64 n] σ K := by
  refine tcalls_walk Try.f95 _ [.tmp 2] Try.func95 rfl rfl rfl mixed (Nat.le_of_ble_eq_true rfl) rfl fun hlen => ?_
  repeat' (first | (simp -dsimp only [↓reduceIte, go_sem]) | (refine arr_intro fun _ => ?_) | (refine later_intro ⟨keeps_nil, ?_⟩) | (refine later_intro ⟨keeps_refl, ?_⟩) | (refine both_ways ?_ ?_) | (rw [wrap_i64 (by omega) (by omega)]) | (refine guardV_split (fun h => ?_) (fun h => ?_) <;> (try rw [h]) <;> (try simp at h) <;> (try (exfalso; omega))) | (refine within_c ?_))
  all_goals (first | exact hK | (exfalso; omega) | (refine bool_endD hK ?_; simp_all [In] <;> fail) | (refine bool_endDX (Ext.app _ _) hK ?_; simp_all [In] <;> fail) | (refine bool_endDX (Ext.refl _) hK ?_; simp_all [In] <;> fail) | (refine bool_endDX hx hK ?_; simp_all [In] <;> fail) | (refine bool_endD hK ?_; simp [In]; omega) | (refine bool_endDX (Ext.app _ _) hK ?_; simp [In]; omega) | (refine bool_endDX (Ext.refl _) hK ?_; simp [In]; omega) | (refine bool_endDX hx hK ?_; simp [In]; omega) | (refine bool_endD hK ?_; simp_all [In]; omega) | (refine bool_endDX (Ext.app _ _) hK ?_; simp_all [In]; omega) | (refine bool_endDX (Ext.refl _) hK ?_; simp_all [In]; omega) | (refine bool_endDX hx hK ?_; simp_all [In]; omega) | (refine bool_endD hK ?_; simp_all [In] <;> omega) | (refine bool_endDX (Ext.app _ _) hK ?_; simp_all [In] <;> omega) | (refine bool_endDX (Ext.refl _) hK ?_; simp_all [In] <;> omega) | (refine bool_endDX hx hK ?_; simp_all [In] <;> omega))
theorem kind_c {n : Int} {σ : AST} {K : AV → AST → Prop} (hK : K (.bool (decide (In 1 2 n))) σ) : TCalls Try.prog 96 [.int .i64 n] σ K := by
  refine tcalls_walk Try.f96 _ [.tmp 2] Try.func96 rfl rfl rfl mixed (Nat.le_of_ble_eq_true rfl) rfl fun hlen => ?_
  repeat' (first | (simp -dsimp only [↓reduceIte, go_sem]) | (refine arr_intro fun _ => ?_) | (refine later_intro ⟨keeps_nil, ?_⟩) | (refine later_intro ⟨keeps_refl, ?_⟩) | (refine both_ways ?_ ?_) | (rw [wrap_i64 (by omega) (by omega)]) | (refine guardV_split (fun h => ?_) (fun h => ?_) <;> (try rw [h]) <;> (try simp at h) <;> (try (exfalso; omega))))
  all_goals (first | exact hK | (exfalso; omega) | (refine bool_endD hK ?_; simp_all [In] <;> fail) | (refine bool_endDX (Ext.app _ _) hK ?_; simp_all [In] <;> fail) | (refine bool_endDX (Ext.refl _) hK ?_; simp_all [In] <;> fail) | (refine bool_endDX hx hK ?_; simp_all [In] <;> fail) | (refine bool_endD hK ?_; simp [In]; omega) | (refine bool_endDX (Ext.app _ _) hK ?_; simp [In]; omega) | (refine bool_endDX (Ext.refl _) hK ?_; simp [In]; omega) | (refine bool_endDX hx hK ?_; simp [In]; omega) | (refine bool_endD hK ?_; simp_all [In]; omega) | (refine bool_endDX (Ext.app _ _) hK ?_; simp_all [In]; omega) | (refine bool_endDX (Ext.refl _) hK ?_; simp_all [In]; omega) | (refine bool_endDX hx hK ?_; simp_all [In]; omega) | (refine bool_endD hK ?_; simp_all [In] <;> omega) | (refine bool_endDX (Ext.app _ _) hK ?_; simp_all [In] <;> omega) | (refine bool_endDX (Ext.refl _) hK ?_; simp_all [In] <;> omega) | (refine bool_endDX hx hK ?_; simp_all [In] <;> omega))
theorem histRight_c {h : List UInt8} {k : Int} {σ : AST} {K : AV → AST → Prop} (hK : K (.bool (decide (ViewOk k h))) σ) : TCalls Try.prog 97 [.str h, .int .i64 k] σ K := by
  refine tcalls_walk Try.f97 _ [.tmp 4] Try.func97 rfl rfl rfl mixed (Nat.le_of_ble_eq_true rfl) rfl fun hlen => ?_
  have hll : h.length ≤ 9223372036854775807 := hlen (.str h) (by simp)
  simp -dsimp only [↓reduceIte, go_sem]
  refine arr_intro fun _ => ?_
  simp -dsimp only [↓reduceIte, go_sem]
  refine awp_rounds (fun (i : Nat) τ s => s = σ ∧ i ≤ h.length ∧ (∀ (j : Nat) b, j < i → h[j]? = some b → (b.toNat : Int) < k) ∧ τ 0 = .str h ∧ τ 1 = .int .i64 k ∧ τ 7 = .int .i64 h.length ∧ τ 8 = .int .i64 i) (fun i => h.length - i) 0 ?_ ?_
  · refine ⟨rfl, by omega, fun j y h => by omega, ?_, ?_, ?_, ?_⟩ <;> (try simp only [go_sem]) <;> rfl
  · rintro i τ s ⟨rfl, hi, hall, t0, t1, t7, t8⟩
    simp -dsimp only [↓reduceIte, go_sem, t0, t1, t7, t8]
    refine boolW_split (fun hb => ?_) (fun hb => ?_)
    · have hb : i < h.length := by simp at hb; omega
      obtain ⟨y, hy, hm⟩ := get_of_lt hb
      have hy8 : (y.toNat : Int) < 256 := by have := y.toNat_lt; omega
      repeat' (first | (simp -dsimp only [↓reduceIte, go_sem, t0, t1, t7, t8]) | (refine arr_intro fun _ => ?_) | (refine later_intro ⟨keeps_nil, ?_⟩) | (refine later_intro ⟨keeps_refl, ?_⟩) | (refine both_ways ?_ ?_) | (rw [wrap_i64 (by omega) (by omega)]) | (refine guardV_split (fun h => ?_) (fun h => ?_) <;> (try rw [h]) <;> (try simp at h) <;> (try (exfalso; omega))) | (refine nth_get hy ?_))
      · exact bool_end hK (by
          rw [eq_comm, decide_eq_false_iff_not]
          intro hv; have := hv.1 y hm; omega)
      · refine later_intro ⟨i + 1, by omega, rfl, by omega, ?_, ?_, ?_, ?_, ?_⟩ <;> (try simp only [go_sem, t0, t1, t7, t8]) <;> (try rfl)
        intro j b hj hb'
        by_cases hji : j < i
        · exact hall j b hji hb'
        · obtain rfl : j = i := by omega
          rw [hy] at hb'; cases hb'; omega
    · have hb : i = h.length := by simp at hb; omega
      have ha : ∀ b ∈ h, (b.toNat : Int) < k := fun b hb2 => by
        obtain ⟨j, hj⟩ := List.mem_iff_getElem?.1 hb2
        exact hall j b (by have := (List.getElem?_eq_some_iff.1 hj).1; omega) hj
      repeat' (first | (simp -dsimp only [↓reduceIte, go_sem, t0, t1, t7, t8]) | (refine arr_intro fun _ => ?_) | (refine later_intro ⟨keeps_nil, ?_⟩) | (refine later_intro ⟨keeps_refl, ?_⟩) | (refine both_ways ?_ ?_) | (rw [wrap_i64 (by omega) (by omega)]) | (refine guardV_split (fun h => ?_) (fun h => ?_) <;> (try rw [h]) <;> (try simp at h) <;> (try (exfalso; omega))))
      all_goals exact bool_end hK (by rw [Bool.eq_iff_iff]; simp [ViewOk]; first | (intros; omega) | (constructor <;> intros <;> simp_all <;> omega) | (simp_all; omega))
theorem view_c {h : List UInt8} {σ : AST} {K : AV → AST → Prop} (hK : K (.bool (decide (ViewOk 8 h))) σ) : TCalls Try.prog 81 [.str h] σ K := by
  refine tcalls_walk Try.f81 _ [.tmp 2] Try.func81 rfl rfl rfl mixed (Nat.le_of_ble_eq_true rfl) rfl fun hlen => ?_
  repeat' (first | (simp -dsimp only [↓reduceIte, go_sem]) | (refine arr_intro fun _ => ?_) | (refine later_intro ⟨keeps_nil, ?_⟩) | (refine later_intro ⟨keeps_refl, ?_⟩) | (refine both_ways ?_ ?_) | (rw [wrap_i64 (by omega) (by omega)]) | (refine guardV_split (fun h => ?_) (fun h => ?_) <;> (try rw [h]) <;> (try simp at h) <;> (try (exfalso; omega))) | (refine histRight_c ?_))
  exact hK
theorem submit_c {x : Sub} {σ : AST} {K : AV → AST → Prop} (hK : K (.bool (decide x.Ok)) σ) : TCalls Try.prog 79 [subV x] σ K := by
  refine TCalls.drop ?_
  refine tcalls_walk Try.f79 _ [.tmp 2] Try.func79 rfl rfl rfl mixed (Nat.le_of_ble_eq_true rfl) rfl fun hlen => ?_
  repeat' (first | (simp -dsimp only [↓reduceIte, go_sem]) | (refine arr_intro fun _ => ?_) | (refine later_intro ⟨keeps_nil, ?_⟩) | (refine later_intro ⟨keeps_refl, ?_⟩) | (refine both_ways ?_ ?_) | (rw [wrap_i64 (by omega) (by omega)]) | (refine guardV_split (fun h => ?_) (fun h => ?_) <;> (try rw [h]) <;> (try simp at h) <;> (try (exfalso; omega))) | (refine number_c ?_) | (refine kind_c ?_) | (refine client_c ?_))
  all_goals (first | exact hK | (exfalso; omega) | (refine bool_endD hK ?_; simp_all [Sub.Ok] <;> fail) | (refine bool_endDX (Ext.app _ _) hK ?_; simp_all [Sub.Ok] <;> fail) | (refine bool_endDX (Ext.refl _) hK ?_; simp_all [Sub.Ok] <;> fail) | (refine bool_endDX hx hK ?_; simp_all [Sub.Ok] <;> fail) | (refine bool_endD hK ?_; simp [Sub.Ok]; omega) | (refine bool_endDX (Ext.app _ _) hK ?_; simp [Sub.Ok]; omega) | (refine bool_endDX (Ext.refl _) hK ?_; simp [Sub.Ok]; omega) | (refine bool_endDX hx hK ?_; simp [Sub.Ok]; omega) | (refine bool_endD hK ?_; simp_all [Sub.Ok]; omega) | (refine bool_endDX (Ext.app _ _) hK ?_; simp_all [Sub.Ok]; omega) | (refine bool_endDX (Ext.refl _) hK ?_; simp_all [Sub.Ok]; omega) | (refine bool_endDX hx hK ?_; simp_all [Sub.Ok]; omega) | (refine bool_endD hK ?_; simp_all [Sub.Ok] <;> omega) | (refine bool_endDX (Ext.app _ _) hK ?_; simp_all [Sub.Ok] <;> omega) | (refine bool_endDX (Ext.refl _) hK ?_; simp_all [Sub.Ok] <;> omega) | (refine bool_endDX hx hK ?_; simp_all [Sub.Ok] <;> omega))
theorem blob_c {x : Blob} {σ : AST} {K : AV → AST → Prop} (hK : K (.bool (decide x.Ok)) σ) : TCalls Try.prog 82 [blobV x] σ K := by
  refine TCalls.drop ?_
  refine tcalls_walk Try.f82 _ [.tmp 2] Try.func82 rfl rfl rfl mixed (Nat.le_of_ble_eq_true rfl) rfl fun hlen => ?_
  repeat' (first | (simp -dsimp only [↓reduceIte, go_sem]) | (refine arr_intro fun _ => ?_) | (refine later_intro ⟨keeps_nil, ?_⟩) | (refine later_intro ⟨keeps_refl, ?_⟩) | (refine both_ways ?_ ?_) | (rw [wrap_i64 (by omega) (by omega)]) | (refine guardV_split (fun h => ?_) (fun h => ?_) <;> (try rw [h]) <;> (try simp at h) <;> (try (exfalso; omega))) | (refine client_c ?_) | (refine within_c ?_))
  all_goals (first | exact hK | (exfalso; omega) | (refine bool_endD hK ?_; simp_all [Blob.Ok] <;> fail) | (refine bool_endDX (Ext.app _ _) hK ?_; simp_all [Blob.Ok] <;> fail) | (refine bool_endDX (Ext.refl _) hK ?_; simp_all [Blob.Ok] <;> fail) | (refine bool_endDX hx hK ?_; simp_all [Blob.Ok] <;> fail) | (refine bool_endD hK ?_; simp [Blob.Ok]; omega) | (refine bool_endDX (Ext.app _ _) hK ?_; simp [Blob.Ok]; omega) | (refine bool_endDX (Ext.refl _) hK ?_; simp [Blob.Ok]; omega) | (refine bool_endDX hx hK ?_; simp [Blob.Ok]; omega) | (refine bool_endD hK ?_; simp_all [Blob.Ok]; omega) | (refine bool_endDX (Ext.app _ _) hK ?_; simp_all [Blob.Ok]; omega) | (refine bool_endDX (Ext.refl _) hK ?_; simp_all [Blob.Ok]; omega) | (refine bool_endDX hx hK ?_; simp_all [Blob.Ok]; omega) | (refine bool_endD hK ?_; simp_all [Blob.Ok] <;> omega) | (refine bool_endDX (Ext.app _ _) hK ?_; simp_all [Blob.Ok] <;> omega) | (refine bool_endDX (Ext.refl _) hK ?_; simp_all [Blob.Ok] <;> omega) | (refine bool_endDX hx hK ?_; simp_all [Blob.Ok] <;> omega))
end Go.Aff.L10

/- Layer 10, walked: lists that may be, lists compared, answers. -/
namespace Go.Aff.L10
open Go.Proofs Go.Aff Go.Aff.L01 Classical
set_option linter.unusedVariables false
set_option linter.unusedSimpArgs false
set_option maxRecDepth 20000
attribute [local go_sem] push_app app_app length_app cellAt_app cellAt_app0 set_app set_app0 objs_app objs_app0 List.cons_append List.nil_append List.length_cons List.length_nil List.getElem?_cons_zero List.getElem?_cons_succ List.set_cons_zero List.set_cons_succ List.length_map
attribute [-go_sem] cellAt_new
attribute [-simp] List.length_flatMap
attribute [local go_sem] Try.underlying3 Try.underlying4 Try.underlying5 Try.underlying9 Try.underlying22 Try.underlying23 Try.underlying26 Try.underlying31 Try.underlying34 Try.underlying52 subPs_0 subAt_0 subSet_0 subPs_1 subAt_1 subSet_1 subPs_2 subAt_2 subSet_2 subPs_3 subAt_3 subSet_3 subPs_4 subAt_4 subSet_4 subPs_5 subAt_5 subSet_5 sizes_sub shapes_sub fits_sub zero_sub zt_sub built_sub Try.underlying25 pendPs_0 pendAt_0 pendSet_0 pendPs_1 pendAt_1 pendSet_1 pendPs_2 pendAt_2 pendSet_2 pendPs_3 pendAt_3 pendSet_3 pendPs_4 pendAt_4 pendSet_4 pendPs_5 pendAt_5 pendSet_5 sizes_pend shapes_pend fits_pend zero_pend zt_pend built_pend Try.underlying98 repPs_0 repAt_0 repSet_0 repPs_1 repAt_1 repSet_1 repPs_2 repAt_2 repSet_2 repPs_3 repAt_3 repSet_3 repPs_4 repAt_4 repSet_4 repPs_5 repAt_5 repSet_5 repPs_6 repAt_6 repSet_6 repPs_7 repAt_7 repSet_7 repPs_8 repAt_8 repSet_8 repPs_9 repAt_9 repSet_9 sizes_rep shapes_rep fits_rep zero_rep zt_rep built_rep Try.underlying28 blobPs_0 blobAt_0 blobSet_0 blobPs_1 blobAt_1 blobSet_1 blobPs_2 blobAt_2 blobSet_2 blobPs_3 blobAt_3 blobSet_3 sizes_blob shapes_blob fits_blob zero_blob zt_blob built_blob Try.underlying30 msgPs_0 msgAt_0 msgSet_0 msgPs_1 msgAt_1 msgSet_1 msgPs_2 msgAt_2 msgSet_2 msgPs_3 msgAt_3 msgSet_3 msgPs_4 msgAt_4 msgSet_4 msgPs_5 msgAt_5 msgSet_5 msgPs_6 msgAt_6 msgSet_6 msgPs_7 msgAt_7 msgSet_7 msgPs_8 msgAt_8 msgSet_8 msgPs_9 msgAt_9 msgSet_9 sizes_msg shapes_msg fits_msg zero_msg zt_msg built_msg Try.underlying33 at_Ps_0 at_At_0 at_Set_0 at_Ps_1 at_At_1 at_Set_1 sizes_at_ shapes_at_ fits_at_ zero_at_ zt_at_ built_at_ Try.underlying77
attribute [local go_sem] fits3 fits4 fits5 fits9 fits23 fits26 fits31 fits34 fits52 zt3 zero3 zt34 zero34 zt23 zero23 bin_sub_eql bin_pend_eql bin_pend_neq bin_blob_eql bin_dig23_eql bin_dig23_neq slice23
attribute [local go_sem ↓] blockQ_exit2
attribute [local simp] dig_ext

theorem ext_to {α : Type} {a b : List α} (h : a.length = b.length) (hall : ∀ (j : Nat) x y, j < a.length → a[j]? = some x → b[j]? = some y → x = y) : a = b := by
  apply List.ext_getElem?
  intro j
  by_cases hj : j < a.length
  · obtain ⟨x, hx⟩ := get_lt hj
    obtain ⟨y, hy⟩ := get_lt (l := b) (i := j) (by omega)
    rw [hx, hy, hall j x y hj hx hy]
  · rw [List.getElem?_eq_none (by omega), List.getElem?_eq_none (by omega)]
theorem all_next {α : Type} {a b : List α} {i : Nat} {x y : α} (hall : ∀ (j : Nat) x y, j < i → a[j]? = some x → b[j]? = some y → x = y) (hx : a[i]? = some x) (hy : b[i]? = some y) (h : x = y) : ∀ (j : Nat) x y, j < i + 1 → a[j]? = some x → b[j]? = some y → x = y := by
  intro j u v hj hu hv
  by_cases hji : j < i
  · exact hall j u v hji hu hv
  · obtain rfl : j = i := by omega
    rw [hx] at hu; rw [hy] at hv; cases hu; cases hv; exact h
theorem ne_at {α : Type} {a b : List α} {i : Nat} {x y : α} (hx : a[i]? = some x) (hy : b[i]? = some y) (h : ¬ x = y) : ¬ a = b := by
  rintro rfl; rw [hx] at hy; cases hy; exact h rfl

theorem equalInts_c {a b : List Int} {ta tb : Tk} {σ : AST} {K : AV → AST → Prop} (hK : K (.bool (decide (a = b))) σ) : TCalls Try.prog 52 [.slice ta (a.map (AV.int .i64)), .slice tb (b.map (AV.int .i64))] σ K := by
  refine tcalls_walk Try.f52 _ [.tmp 4] Try.func52 rfl rfl rfl mixed (Nat.le_of_ble_eq_true rfl) rfl fun hlen => ?_
  have hla : a.length ≤ 9223372036854775807 := by simpa [maxL, lenOk] using hlen _ (List.mem_cons_self ..)
  repeat' (first | (simp -dsimp only [↓reduceIte, go_sem]) | (refine arr_intro fun _ => ?_) | (refine later_intro ⟨keeps_nil, ?_⟩) | (refine later_intro ⟨keeps_refl, ?_⟩) | (refine both_ways ?_ ?_) | (rw [wrap_i64 (by omega) (by omega)]) | (refine guardV_split (fun h => ?_) (fun h => ?_) <;> (try rw [h]) <;> (try simp at h) <;> (try (exfalso; omega))))
  · refine bool_endD hK (by simp; rintro rfl; omega)
  · have hab : a.length = b.length := by omega
    refine awp_rounds (fun (i : Nat) τ s => s = σ ∧ i ≤ a.length ∧ (∀ (j : Nat) x y, j < i → a[j]? = some x → b[j]? = some y → x = y) ∧ τ 0 = .slice ta (a.map (AV.int .i64)) ∧ τ 1 = .slice tb (b.map (AV.int .i64)) ∧ τ 12 = .int .i64 a.length ∧ τ 13 = .int .i64 i) (fun i => a.length - i) 0 ?_ ?_
    · refine ⟨rfl, by omega, fun j x y h => by omega, ?_, ?_, ?_, ?_⟩ <;> (try simp only [go_sem]) <;> rfl
    · rintro i τ s ⟨rfl, hi, hall, t0, t1, t12, t13⟩
      simp -dsimp only [↓reduceIte, go_sem, t0, t1, t12, t13]
      refine boolW_split (fun hb => ?_) (fun hb => ?_)
      · have hb : i < a.length := by simp at hb; omega
        obtain ⟨x, hax⟩ := get_lt hb
        obtain ⟨y, hby⟩ := get_lt (l := b) (i := i) (by omega)
        repeat' (first | (simp -dsimp only [↓reduceIte, go_sem, t0, t1, t12, t13]) | (refine arr_intro fun _ => ?_) | (refine later_intro ⟨keeps_nil, ?_⟩) | (refine later_intro ⟨keeps_refl, ?_⟩) | (refine both_ways ?_ ?_) | (rw [wrap_i64 (by omega) (by omega)]) | (refine guardV_split (fun h => ?_) (fun h => ?_) <;> (try rw [h]) <;> (try simp at h) <;> (try (exfalso; omega))) | (refine awp_drawS (id := 6) [0, 1, 2, 3, 4, 5, 6, 7, 8] (by kernel_rfl) ?_) | (refine nth_get hax ?_) | (refine nth_get hby ?_))
        · exact bool_endD hK (by simp; exact ne_at hax hby (by assumption))
        · refine later_intro ⟨i + 1, by omega, rfl, by omega, all_next hall hax hby (by assumption), ?_, ?_, ?_, ?_⟩ <;> (try simp only [go_sem, t0, t1, t12, t13]) <;> rfl
      · have hb : i = a.length := by simp at hb; omega
        subst hb
        repeat' (first | (simp -dsimp only [↓reduceIte, go_sem, t0, t1, t12, t13]) | (refine arr_intro fun _ => ?_) | (refine later_intro ⟨keeps_nil, ?_⟩) | (refine later_intro ⟨keeps_refl, ?_⟩) | (refine both_ways ?_ ?_) | (rw [wrap_i64 (by omega) (by omega)]) | (refine guardV_split (fun h => ?_) (fun h => ?_) <;> (try rw [h]) <;> (try simp at h) <;> (try (exfalso; omega))))
        exact bool_endD hK (by simp; exact ext_to hab hall)
theorem equalPends_c {a b : List Pend} {ta tb : Tk} {σ : AST} {K : AV → AST → Prop} (hK : K (.bool (decide (a = b))) σ) : TCalls Try.prog 77 [.slice ta (a.map pendV), .slice tb (b.map pendV)] σ K := by
  refine tcalls_walk Try.f77 _ [.tmp 4] Try.func77 rfl rfl rfl mixed (Nat.le_of_ble_eq_true rfl) rfl fun hlen => ?_
  have hla : a.length ≤ 9223372036854775807 := by simpa [maxL, lenOk] using hlen _ (List.mem_cons_self ..)
  repeat' (first | (simp -dsimp only [↓reduceIte, go_sem]) | (refine arr_intro fun _ => ?_) | (refine later_intro ⟨keeps_nil, ?_⟩) | (refine later_intro ⟨keeps_refl, ?_⟩) | (refine both_ways ?_ ?_) | (rw [wrap_i64 (by omega) (by omega)]) | (refine guardV_split (fun h => ?_) (fun h => ?_) <;> (try rw [h]) <;> (try simp at h) <;> (try (exfalso; omega))))
  · refine bool_endD hK (by simp; rintro rfl; omega)
  · have hab : a.length = b.length := by omega
    refine awp_rounds (fun (i : Nat) τ s => s = σ ∧ i ≤ a.length ∧ (∀ (j : Nat) x y, j < i → a[j]? = some x → b[j]? = some y → x = y) ∧ τ 0 = .slice ta (a.map pendV) ∧ τ 1 = .slice tb (b.map pendV) ∧ τ 12 = .int .i64 a.length ∧ τ 13 = .int .i64 i) (fun i => a.length - i) 0 ?_ ?_
    · refine ⟨rfl, by omega, fun j x y h => by omega, ?_, ?_, ?_, ?_⟩ <;> (try simp only [go_sem]) <;> rfl
    · rintro i τ s ⟨rfl, hi, hall, t0, t1, t12, t13⟩
      simp -dsimp only [↓reduceIte, go_sem, t0, t1, t12, t13]
      refine boolW_split (fun hb => ?_) (fun hb => ?_)
      · have hb : i < a.length := by simp at hb; omega
        obtain ⟨x, hax⟩ := get_lt hb
        obtain ⟨y, hby⟩ := get_lt (l := b) (i := i) (by omega)
        repeat' (first | (simp -dsimp only [↓reduceIte, go_sem, t0, t1, t12, t13]) | (refine arr_intro fun _ => ?_) | (refine later_intro ⟨keeps_nil, ?_⟩) | (refine later_intro ⟨keeps_refl, ?_⟩) | (refine both_ways ?_ ?_) | (rw [wrap_i64 (by omega) (by omega)]) | (refine guardV_split (fun h => ?_) (fun h => ?_) <;> (try rw [h]) <;> (try simp at h) <;> (try (exfalso; omega))) | (refine awp_drawS (id := 6) [0, 1, 2, 3, 4, 5, 6, 7, 8] (by kernel_rfl) ?_) | (refine nth_get hax ?_) | (refine nth_get hby ?_))
        · exact bool_endD hK (by simp; exact ne_at hax hby (by assumption))
        · refine later_intro ⟨i + 1, by omega, rfl, by omega, all_next hall hax hby (by assumption), ?_, ?_, ?_, ?_⟩ <;> (try simp only [go_sem, t0, t1, t12, t13]) <;> rfl
      · have hb : i = a.length := by simp at hb; omega
        subst hb
        repeat' (first | (simp -dsimp only [↓reduceIte, go_sem, t0, t1, t12, t13]) | (refine arr_intro fun _ => ?_) | (refine later_intro ⟨keeps_nil, ?_⟩) | (refine later_intro ⟨keeps_refl, ?_⟩) | (refine both_ways ?_ ?_) | (rw [wrap_i64 (by omega) (by omega)]) | (refine guardV_split (fun h => ?_) (fun h => ?_) <;> (try rw [h]) <;> (try simp at h) <;> (try (exfalso; omega))))
        exact bool_endD hK (by simp; exact ext_to hab hall)
theorem sameReply_c {a b : Rep} {ta tb : Tk} {σ : AST} {K : AV → AST → Prop} (hK : K (.bool (decide (a = b))) σ) : TCalls Try.prog 53 [repV ta a, repV tb b] σ K := by
  refine TCalls.drop ?_
  refine tcalls_walk Try.f53 _ [.tmp 4] Try.func53 rfl rfl rfl mixed (Nat.le_of_ble_eq_true rfl) rfl fun hlen => ?_
  repeat' (first | (simp -dsimp only [↓reduceIte, go_sem]) | (refine arr_intro fun _ => ?_) | (refine later_intro ⟨keeps_nil, ?_⟩) | (refine later_intro ⟨keeps_refl, ?_⟩) | (refine both_ways ?_ ?_) | (rw [wrap_i64 (by omega) (by omega)]) | (refine guardV_split (fun h => ?_) (fun h => ?_) <;> (try rw [h]) <;> (try simp at h) <;> (try (exfalso; omega))) | (refine equalPends_c ?_))
  all_goals (first | exact hK | (exfalso; omega) | (refine bool_endD hK ?_; simp_all [Rep.iff] <;> fail) | (refine bool_endDX (Ext.app _ _) hK ?_; simp_all [Rep.iff] <;> fail) | (refine bool_endDX (Ext.refl _) hK ?_; simp_all [Rep.iff] <;> fail) | (refine bool_endDX hx hK ?_; simp_all [Rep.iff] <;> fail) | (refine bool_endD hK ?_; simp [Rep.iff]; omega) | (refine bool_endDX (Ext.app _ _) hK ?_; simp [Rep.iff]; omega) | (refine bool_endDX (Ext.refl _) hK ?_; simp [Rep.iff]; omega) | (refine bool_endDX hx hK ?_; simp [Rep.iff]; omega) | (refine bool_endD hK ?_; simp_all [Rep.iff]; omega) | (refine bool_endDX (Ext.app _ _) hK ?_; simp_all [Rep.iff]; omega) | (refine bool_endDX (Ext.refl _) hK ?_; simp_all [Rep.iff]; omega) | (refine bool_endDX hx hK ?_; simp_all [Rep.iff]; omega) | (refine bool_endD hK ?_; simp_all [Rep.iff] <;> omega) | (refine bool_endDX (Ext.app _ _) hK ?_; simp_all [Rep.iff] <;> omega) | (refine bool_endDX (Ext.refl _) hK ?_; simp_all [Rep.iff] <;> omega) | (refine bool_endDX hx hK ?_; simp_all [Rep.iff] <;> omega))
theorem same_c {a b : Msg} {ta ua tb ub : Tk} {σ : AST} {K : AV → AST → Prop} (hK : K (.bool (decide (a = b))) σ) : TCalls Try.prog 17 [msgV ta ua a, msgV tb ub b] σ K := by
  refine TCalls.drop ?_
  refine tcalls_walk Try.f17 _ [.tmp 4] Try.func17 rfl rfl rfl mixed (Nat.le_of_ble_eq_true rfl) rfl fun hlen => ?_
  repeat' (first | (simp -dsimp only [↓reduceIte, go_sem]) | (refine arr_intro fun _ => ?_) | (refine later_intro ⟨keeps_nil, ?_⟩) | (refine later_intro ⟨keeps_refl, ?_⟩) | (refine both_ways ?_ ?_) | (rw [wrap_i64 (by omega) (by omega)]) | (refine guardV_split (fun h => ?_) (fun h => ?_) <;> (try rw [h]) <;> (try simp at h) <;> (try (exfalso; omega))) | (refine equalInts_c ?_) | (refine sameReply_c ?_))
  all_goals (first | exact hK | (exfalso; omega) | (refine bool_endD hK ?_; simp_all [Msg.iff] <;> fail) | (refine bool_endDX (Ext.app _ _) hK ?_; simp_all [Msg.iff] <;> fail) | (refine bool_endDX (Ext.refl _) hK ?_; simp_all [Msg.iff] <;> fail) | (refine bool_endDX hx hK ?_; simp_all [Msg.iff] <;> fail) | (refine bool_endD hK ?_; simp [Msg.iff]; omega) | (refine bool_endDX (Ext.app _ _) hK ?_; simp [Msg.iff]; omega) | (refine bool_endDX (Ext.refl _) hK ?_; simp [Msg.iff]; omega) | (refine bool_endDX hx hK ?_; simp [Msg.iff]; omega) | (refine bool_endD hK ?_; simp_all [Msg.iff]; omega) | (refine bool_endDX (Ext.app _ _) hK ?_; simp_all [Msg.iff]; omega) | (refine bool_endDX (Ext.refl _) hK ?_; simp_all [Msg.iff]; omega) | (refine bool_endDX hx hK ?_; simp_all [Msg.iff]; omega) | (refine bool_endD hK ?_; simp_all [Msg.iff] <;> omega) | (refine bool_endDX (Ext.app _ _) hK ?_; simp_all [Msg.iff] <;> omega) | (refine bool_endDX (Ext.refl _) hK ?_; simp_all [Msg.iff] <;> omega) | (refine bool_endDX hx hK ?_; simp_all [Msg.iff] <;> omega))
end Go.Aff.L10

