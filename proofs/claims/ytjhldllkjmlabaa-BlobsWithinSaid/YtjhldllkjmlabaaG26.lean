import Derived.Test.YtjhldllkjmlabaaG25
import Derived.Test.YtjhldllkjmlabaaG16

set_option linter.unusedSimpArgs false
set_option linter.unusedVariables false

/- Layer 11, walked: both behind some calls; awake. -/
-- cuts
namespace Go.Aff.L10
open Go.Proofs Go.Aff Go.Aff.L01 Classical
set_option linter.unusedVariables false
set_option linter.unusedSimpArgs false
set_option maxRecDepth 20000
attribute [local go_sem] push_app app_app length_app cellAt_app cellAt_app0 set_app set_app0 objs_app objs_app0 List.cons_append List.nil_append List.length_cons List.length_nil List.getElem?_cons_zero List.getElem?_cons_succ List.set_cons_zero List.set_cons_succ List.length_map
attribute [-go_sem] cellAt_new
attribute [-simp] List.length_flatMap
attribute [local go_sem] Try.underlying3 Try.underlying4 Try.underlying5 Try.underlying9 Try.underlying24 Try.underlying43 Try.underlying37 Try.underlying22 Try.underlying32 blobPs_0 blobAt_0 blobSet_0 blobPs_1 blobAt_1 blobSet_1 blobPs_2 blobAt_2 blobSet_2 blobPs_3 blobAt_3 blobSet_3 sizes_blob shapes_blob fits_blob zero_blob zt_blob built_blob Try.underlying26 bkeyPs_0 bkeyAt_0 bkeySet_0 bkeyPs_1 bkeyAt_1 bkeySet_1 sizes_bkey shapes_bkey fits_bkey zero_bkey zt_bkey built_bkey Try.underlying56 rstPs_0 rstAt_0 rstSet_0 sizes_rst shapes_rst fits_rst zero_rst zt_rst built_rst Try.underlying45 actPs_0 actAt_0 actSet_0 actPs_1 actAt_1 actSet_1 actPs_2 actAt_2 actSet_2 actPs_3 actAt_3 actSet_3 actPs_4 actAt_4 actSet_4 sizes_act shapes_act fits_act zero_act zt_act built_act Try.underlying42
attribute [local go_sem] fits3 fits4 fits5 fits9 fits23 fits26 fits31 fits34 zt3 zero3 bin_blob_eql bin_blob_neq
attribute [local go_sem ↓] blockQ_exit2
attribute [local simp] dig_ext
attribute [local go_sem] fits58 stAt zero60 zt60 built60 fits60 shape_mp Try.underlying58 Try.underlying60 Try.underlying27 Try.underlying28
attribute [local go_sem] fits_bkey zero_bkey zt_bkey built_bkey
def IsAct11 (v : AV) : Prop := ∃ t a, v = AV.agg (actPs t a)
theorem made_c {σ : AST} {ta : Tk} {la : List AV} (hla : ∀ v ∈ la, IsAct11 v) {K : AV → AST → Prop} (hK : ∀ s' j mi k B, Tw σ s' j mi k B B [] → BOk B → K (.tuple [.ptr (some (j, [])), .ptr (some (k, [])), .bool true]) s') : TCalls Try.prog 8 [.slice ta la] σ K := by
  refine tcalls_walk Try.f8 _ [.tmp 2, .tmp 3, .tmp 4] Try.func8 rfl rfl rfl mixed (Nat.le_of_ble_eq_true rfl) rfl fun hlen => ?_
  repeat' (first | (simp -dsimp only [↓reduceIte, go_sem]) | (refine arr_intro fun _ => ?_) | (refine later_intro ⟨keeps_nil, ?_⟩) | (refine later_intro ⟨keeps_refl, ?_⟩) | (with_reducible refine keeps_go ?_ ?_; focus (first | (simp [keeps_cons, keeps_none, objs_app, objs_app0]; done) | (simp only [keeps_cons, keeps_none, objs_app0, objs_app, and_true]; first | rfl | exact ⟨rfl, rfl⟩ | exact ⟨rfl, rfl, rfl⟩))) | (with_reducible refine (And.intro (a := keeps _ _ _) ?_ ?_); focus (first | (simp [keeps_cons, keeps_none, objs_app, objs_app0]; done) | (simp only [keeps_cons, keeps_none, objs_app0, objs_app, and_true]; first | rfl | exact ⟨rfl, rfl⟩ | exact ⟨rfl, rfl, rfl⟩))) | (refine both_ways ?_ ?_) | (rw [wrap_i64 (by omega) (by omega)]) | (refine guardV_split (fun h => ?_) (fun h => ?_) <;> (try rw [h]) <;> (try simp at h) <;> (try (exfalso; omega))))
  refine snew_c fun s1 j mi h1 => ?_
  have hl := h1.lt
  have hT : Tw σ (s1.app [.cells (.agg (rstPs .full rst0))]) j mi s1.objs.length [] [] [] := by
    have h2 := h1.ext (Ext.app s1 [.cells (.agg (rstPs .full rst0))])
    have hle : σ.objs.length ≤ s1.objs.length := by obtain ⟨O, T, rfl⟩ := h1.x; simp
    exact ⟨h2, ⟨h2.x, hle, ⟨_, by rw [objs_app0]; rfl⟩, by simp⟩, by omega, by omega⟩
  generalize hk : s1.objs.length = k at hT
  repeat' (first | (simp -dsimp only [↓reduceIte, go_sem, hk]) | (refine arr_intro fun _ => ?_) | (refine later_intro ⟨keeps_nil, ?_⟩) | (refine later_intro ⟨keeps_refl, ?_⟩) | (with_reducible refine keeps_go ?_ ?_; focus (first | (simp [keeps_cons, keeps_none, objs_app, objs_app0]; done) | (simp only [keeps_cons, keeps_none, objs_app0, objs_app, and_true]; first | rfl | exact ⟨rfl, rfl⟩ | exact ⟨rfl, rfl, rfl⟩))) | (with_reducible refine (And.intro (a := keeps _ _ _) ?_ ?_); focus (first | (simp [keeps_cons, keeps_none, objs_app, objs_app0]; done) | (simp only [keeps_cons, keeps_none, objs_app0, objs_app, and_true]; first | rfl | exact ⟨rfl, rfl⟩ | exact ⟨rfl, rfl, rfl⟩))) | (refine both_ways ?_ ?_) | (rw [wrap_i64 (by omega) (by omega)]) | (refine guardV_split (fun h => ?_) (fun h => ?_) <;> (try rw [h]) <;> (try simp at h) <;> (try (exfalso; omega))))
  generalize s1.app [.cells (.agg (rstPs .full rst0))] = s2 at hT ⊢
  refine awp_rounds (fun (i : Nat) τ s' => ∃ B, i ≤ la.length ∧ i ≤ 40 ∧ Tw σ s' j mi k B B [] ∧ BOk B ∧ τ 0 = .slice ta la ∧ τ 5 = .ptr (some (j, [])) ∧ τ 6 = .ptr (some (k, [])) ∧ τ 7 = .int .i64 i) (fun i => 40 - i) 0 ?_ ?_
  · refine ⟨[], by omega, by omega, hT, BOk.nil, ?_, ?_, ?_, ?_⟩ <;> (try simp only [go_sem]) <;> (try rfl)
  · rintro i τ s' ⟨B, hi, hi4, hT, hB, t0, t5, t6, t7⟩
    by_cases hlt : i < la.length ∧ i < 40
    · have hlt1 : (i : Int) < la.length := by omega
      have hlt2 : (i : Int) < 40 := by omega
      have hb : la[i]? = some la[i] := List.getElem?_eq_getElem hlt.1
      obtain ⟨t, a, ha⟩ := hla _ (List.getElem_mem hlt.1)
      rw [ha] at hb
      repeat' (first | (simp -dsimp only [↓reduceIte, go_sem, t0, t5, t6, t7, hlt1, hlt2]) | (refine arr_intro fun _ => ?_) | (refine later_intro ⟨keeps_nil, ?_⟩) | (refine later_intro ⟨keeps_refl, ?_⟩) | (with_reducible refine keeps_go ?_ ?_; focus (first | (simp [keeps_cons, keeps_none, objs_app, objs_app0]; done) | (simp only [keeps_cons, keeps_none, objs_app0, objs_app, and_true]; first | rfl | exact ⟨rfl, rfl⟩ | exact ⟨rfl, rfl, rfl⟩))) | (with_reducible refine (And.intro (a := keeps _ _ _) ?_ ?_); focus (first | (simp [keeps_cons, keeps_none, objs_app, objs_app0]; done) | (simp only [keeps_cons, keeps_none, objs_app0, objs_app, and_true]; first | rfl | exact ⟨rfl, rfl⟩ | exact ⟨rfl, rfl, rfl⟩))) | (refine both_ways ?_ ?_) | (rw [wrap_i64 (by omega) (by omega)]) | (refine guardV_split (fun h => ?_) (fun h => ?_) <;> (try rw [h]) <;> (try simp at h) <;> (try (exfalso; omega))) | (refine nth_get hb ?_))
      refine do_c hT hB fun s3 h3 => ?_
      repeat' (first | (simp -dsimp only [↓reduceIte, go_sem, t0, t5, t6, t7]) | (refine arr_intro fun _ => ?_) | (refine later_intro ⟨keeps_nil, ?_⟩) | (refine later_intro ⟨keeps_refl, ?_⟩) | (with_reducible refine keeps_go ?_ ?_; focus (first | (simp [keeps_cons, keeps_none, objs_app, objs_app0]; done) | (simp only [keeps_cons, keeps_none, objs_app0, objs_app, and_true]; first | rfl | exact ⟨rfl, rfl⟩ | exact ⟨rfl, rfl, rfl⟩))) | (with_reducible refine (And.intro (a := keeps _ _ _) ?_ ?_); focus (first | (simp [keeps_cons, keeps_none, objs_app, objs_app0]; done) | (simp only [keeps_cons, keeps_none, objs_app0, objs_app, and_true]; first | rfl | exact ⟨rfl, rfl⟩ | exact ⟨rfl, rfl, rfl⟩))) | (refine both_ways ?_ ?_) | (rw [wrap_i64 (by omega) (by omega)]) | (refine guardV_split (fun h => ?_) (fun h => ?_) <;> (try rw [h]) <;> (try simp at h) <;> (try (exfalso; omega))))
      refine later_intro ⟨i + 1, by omega, _, by omega, by omega, h3, bdo_ok hB a, ?_, ?_, ?_, ?_⟩ <;> (try simp only [go_sem, t0, t5, t6, t7]) <;> (try rfl)
    · have hlt' : (¬ (i : Int) < la.length ∧ True) ∨ ((i : Int) < la.length ∧ ¬ (i : Int) < 40) := by
        by_cases h : (i : Int) < la.length
        · exact .inr ⟨h, by omega⟩
        · exact .inl ⟨h, trivial⟩
      rcases hlt' with ⟨hlt1, hlt2⟩ | ⟨hlt1, hlt2⟩
      all_goals
        repeat' (first | (simp -dsimp only [↓reduceIte, go_sem, t0, t5, t6, t7, hlt1, hlt2]) | (refine arr_intro fun _ => ?_) | (refine later_intro ⟨keeps_nil, ?_⟩) | (refine later_intro ⟨keeps_refl, ?_⟩) | (with_reducible refine keeps_go ?_ ?_; focus (first | (simp [keeps_cons, keeps_none, objs_app, objs_app0]; done) | (simp only [keeps_cons, keeps_none, objs_app0, objs_app, and_true]; first | rfl | exact ⟨rfl, rfl⟩ | exact ⟨rfl, rfl, rfl⟩))) | (with_reducible refine (And.intro (a := keeps _ _ _) ?_ ?_); focus (first | (simp [keeps_cons, keeps_none, objs_app, objs_app0]; done) | (simp only [keeps_cons, keeps_none, objs_app0, objs_app, and_true]; first | rfl | exact ⟨rfl, rfl⟩ | exact ⟨rfl, rfl, rfl⟩))) | (refine both_ways ?_ ?_) | (rw [wrap_i64 (by omega) (by omega)]) | (refine guardV_split (fun h => ?_) (fun h => ?_) <;> (try rw [h]) <;> (try simp at h) <;> (try (exfalso; omega))))
        exact hK _ _ _ _ _ hT hB
def bA : Blob := ⟨1, 5, [97, 98, 99], dig0⟩
def bA' : Blob := ⟨1, 5, [], dig0⟩
theorem bA_rt : bA.Rt := by simp [Blob.Rt, bA]
theorem bA'_rt : bA'.Rt := by simp [Blob.Rt, bA']
theorem bA_ne : ¬ bA = bA' := fun h => by have := congrArg Blob.cipher h; simp [bA, bA'] at this
theorem find_nil {o n : Int} : bfind [] o n = none := rfl
theorem find_bA : bfind [bA] 1 5 = some 0 := by simp [bfind, isB, bA, List.findIdx?_cons]
theorem put_A1 : bput [] bA = ([bA], 0) := by
  unfold bput
  rw [if_neg (fun h => h bA_rt)]
  simp [find_nil, usedN, usedB, bA]
theorem put_A2 : bput [bA] bA = ([bA], 0) := by
  unfold bput
  rw [if_neg (fun h => h bA_rt)]
  have : bfind [bA] bA.owner bA.num = some 0 := find_bA
  simp [this]
theorem put_A3 : bput [bA] bA' = ([bA], 10) := by
  unfold bput
  rw [if_neg (fun h => h bA'_rt)]
  have : bfind [bA] bA'.owner bA'.num = some 0 := find_bA
  simp [this, bA_ne]
theorem bA_ok : BOk [bA] := by have := BOk.nil.put bA; rw [put_A1] at this; exact this
theorem got_A : bgot [bA] 1 5 = some bA := by unfold bgot; rw [find_bA]; rfl
theorem used_A : usedN [bA] 1 = 1 ∧ usedB [bA] 1 = 3 := ⟨by simp [usedN, bA], by simp [usedB, lenOf, bA]⟩
theorem prune_A : bprune [bA] 1 [5, 6] = ([], 1) := by
  simp [bprune, bprune1, find_bA, find_nil]
theorem awake_c {σ : AST} {K : AV → AST → Prop} (hK : K (.bool true) σ) : TCalls Try.prog 9 [] σ K := by
  refine TCalls.drop ?_
  have e1 : (⟨1, 5, [97, 98, 99], blob0.tag⟩ : Blob) = bA := rfl
  have e2 : (⟨1, 5, blob0.cipher, blob0.tag⟩ : Blob) = bA' := rfl
  refine tcalls_walk Try.f9 _ [.tmp 0] Try.func9 rfl rfl rfl mixed (Nat.le_of_ble_eq_true rfl) rfl fun hlen => ?_
  repeat' (first | (simp -dsimp only [↓reduceIte, go_sem]) | (refine arr_intro fun _ => ?_) | (refine later_intro ⟨keeps_nil, ?_⟩) | (refine later_intro ⟨keeps_refl, ?_⟩) | (with_reducible refine keeps_go ?_ ?_; focus (first | (simp [keeps_cons, keeps_none, objs_app, objs_app0]; done) | (simp only [keeps_cons, keeps_none, objs_app0, objs_app, and_true]; first | rfl | exact ⟨rfl, rfl⟩ | exact ⟨rfl, rfl, rfl⟩))) | (with_reducible refine (And.intro (a := keeps _ _ _) ?_ ?_); focus (first | (simp [keeps_cons, keeps_none, objs_app, objs_app0]; done) | (simp only [keeps_cons, keeps_none, objs_app0, objs_app, and_true]; first | rfl | exact ⟨rfl, rfl⟩ | exact ⟨rfl, rfl, rfl⟩))) | (refine both_ways ?_ ?_) | (rw [wrap_i64 (by omega) (by omega)]) | (refine guardV_split (fun h => ?_) (fun h => ?_) <;> (try rw [h]) <;> (try simp at h) <;> (try (exfalso; omega))))
  refine snew_c fun s1 j mi h1 => ?_
  have hl := h1.lt
  have h2 := h1.box (.cells (.agg (blobPs bA)))
  repeat' (first | (simp -dsimp only [↓reduceIte, go_sem, e1]) | (refine arr_intro fun _ => ?_) | (refine later_intro ⟨keeps_nil, ?_⟩) | (refine later_intro ⟨keeps_refl, ?_⟩) | (with_reducible refine keeps_go ?_ ?_; focus (first | (simp [keeps_cons, keeps_none, objs_app, objs_app0]; done) | (simp only [keeps_cons, keeps_none, objs_app0, objs_app, and_true]; first | rfl | exact ⟨rfl, rfl⟩ | exact ⟨rfl, rfl, rfl⟩))) | (with_reducible refine (And.intro (a := keeps _ _ _) ?_ ?_); focus (first | (simp [keeps_cons, keeps_none, objs_app, objs_app0]; done) | (simp only [keeps_cons, keeps_none, objs_app0, objs_app, and_true]; first | rfl | exact ⟨rfl, rfl⟩ | exact ⟨rfl, rfl, rfl⟩))) | (refine both_ways ?_ ?_) | (rw [wrap_i64 (by omega) (by omega)]) | (refine guardV_split (fun h => ?_) (fun h => ?_) <;> (try rw [h]) <;> (try simp at h) <;> (try (exfalso; omega))))
  refine sput_c h2 BOk.nil fun s3 h3 => ?_
  rw [put_A1] at h3 ⊢
  have c3 := cellAt_known (h3.f _ (List.mem_cons_self ..)).2.2
  repeat' (first | (simp -dsimp only [↓reduceIte, go_sem, c3]) | (refine arr_intro fun _ => ?_) | (refine later_intro ⟨keeps_nil, ?_⟩) | (refine later_intro ⟨keeps_refl, ?_⟩) | (with_reducible refine keeps_go ?_ ?_; focus (first | (simp [keeps_cons, keeps_none, objs_app, objs_app0]; done) | (simp only [keeps_cons, keeps_none, objs_app0, objs_app, and_true]; first | rfl | exact ⟨rfl, rfl⟩ | exact ⟨rfl, rfl, rfl⟩))) | (with_reducible refine (And.intro (a := keeps _ _ _) ?_ ?_); focus (first | (simp [keeps_cons, keeps_none, objs_app, objs_app0]; done) | (simp only [keeps_cons, keeps_none, objs_app0, objs_app, and_true]; first | rfl | exact ⟨rfl, rfl⟩ | exact ⟨rfl, rfl, rfl⟩))) | (refine both_ways ?_ ?_) | (rw [wrap_i64 (by omega) (by omega)]) | (refine guardV_split (fun h => ?_) (fun h => ?_) <;> (try rw [h]) <;> (try simp at h) <;> (try (exfalso; omega))))
  refine sput_c h3 bA_ok fun s4 h4 => ?_
  rw [put_A2] at h4 ⊢
  have c4 := cellAt_known (h4.f _ (List.mem_cons_self ..)).2.2
  repeat' (first | (simp -dsimp only [↓reduceIte, go_sem, c4, e2]) | (refine arr_intro fun _ => ?_) | (refine later_intro ⟨keeps_nil, ?_⟩) | (refine later_intro ⟨keeps_refl, ?_⟩) | (with_reducible refine keeps_go ?_ ?_; focus (first | (simp [keeps_cons, keeps_none, objs_app, objs_app0]; done) | (simp only [keeps_cons, keeps_none, objs_app0, objs_app, and_true]; first | rfl | exact ⟨rfl, rfl⟩ | exact ⟨rfl, rfl, rfl⟩))) | (with_reducible refine (And.intro (a := keeps _ _ _) ?_ ?_); focus (first | (simp [keeps_cons, keeps_none, objs_app, objs_app0]; done) | (simp only [keeps_cons, keeps_none, objs_app0, objs_app, and_true]; first | rfl | exact ⟨rfl, rfl⟩ | exact ⟨rfl, rfl, rfl⟩))) | (refine both_ways ?_ ?_) | (rw [wrap_i64 (by omega) (by omega)]) | (refine guardV_split (fun h => ?_) (fun h => ?_) <;> (try rw [h]) <;> (try simp at h) <;> (try (exfalso; omega))))
  refine sput_c h4 bA_ok fun s5 h5 => ?_
  rw [put_A3] at h5 ⊢
  repeat' (first | (simp -dsimp only [↓reduceIte, go_sem]) | (refine arr_intro fun _ => ?_) | (refine later_intro ⟨keeps_nil, ?_⟩) | (refine later_intro ⟨keeps_refl, ?_⟩) | (with_reducible refine keeps_go ?_ ?_; focus (first | (simp [keeps_cons, keeps_none, objs_app, objs_app0]; done) | (simp only [keeps_cons, keeps_none, objs_app0, objs_app, and_true]; first | rfl | exact ⟨rfl, rfl⟩ | exact ⟨rfl, rfl, rfl⟩))) | (with_reducible refine (And.intro (a := keeps _ _ _) ?_ ?_); focus (first | (simp [keeps_cons, keeps_none, objs_app, objs_app0]; done) | (simp only [keeps_cons, keeps_none, objs_app0, objs_app, and_true]; first | rfl | exact ⟨rfl, rfl⟩ | exact ⟨rfl, rfl, rfl⟩))) | (refine both_ways ?_ ?_) | (rw [wrap_i64 (by omega) (by omega)]) | (refine guardV_split (fun h => ?_) (fun h => ?_) <;> (try rw [h]) <;> (try simp at h) <;> (try (exfalso; omega))))
  refine sget_c h5 fun s6 hx => ?_
  rw [got_A]
  have h6 := (h5.ext hx).box (.cells (.agg (blobPs bA)))
  repeat' (first | (simp -dsimp only [↓reduceIte, go_sem]) | (refine arr_intro fun _ => ?_) | (refine later_intro ⟨keeps_nil, ?_⟩) | (refine later_intro ⟨keeps_refl, ?_⟩) | (with_reducible refine keeps_go ?_ ?_; focus (first | (simp [keeps_cons, keeps_none, objs_app, objs_app0]; done) | (simp only [keeps_cons, keeps_none, objs_app0, objs_app, and_true]; first | rfl | exact ⟨rfl, rfl⟩ | exact ⟨rfl, rfl, rfl⟩))) | (with_reducible refine (And.intro (a := keeps _ _ _) ?_ ?_); focus (first | (simp [keeps_cons, keeps_none, objs_app, objs_app0]; done) | (simp only [keeps_cons, keeps_none, objs_app0, objs_app, and_true]; first | rfl | exact ⟨rfl, rfl⟩ | exact ⟨rfl, rfl, rfl⟩))) | (refine both_ways ?_ ?_) | (rw [wrap_i64 (by omega) (by omega)]) | (refine guardV_split (fun h => ?_) (fun h => ?_) <;> (try rw [h]) <;> (try simp at h) <;> (try (exfalso; omega))))
  refine sused_c h6 bA_ok fun s7 hx7 => ?_
  have h7 := h6.ext hx7
  have o7 := (h7.f _ (List.mem_cons_self ..)).2.2
  have o7b := (h7.less.f _ (List.mem_cons_self ..)).2.2
  dsimp only at o7 o7b
  have c7 := cellAt_known o7
  have c7b := cellAt_known o7b
  rw [used_A.1, used_A.2]
  have hb : ([.int .i64 5, .int .i64 6] : List AV) = [(5 : Int), 6].map (AV.int .i64) := rfl
  repeat' (first | (simp -dsimp only [↓reduceIte, go_sem, c7, c7b]) | (refine arr_intro fun _ => ?_) | (refine later_intro ⟨keeps_nil, ?_⟩) | (refine later_intro ⟨keeps_refl, ?_⟩) | (with_reducible refine keeps_go ?_ ?_; focus (first | (simp [keeps_cons, keeps_none, objs_app, objs_app0]; done) | (simp only [keeps_cons, keeps_none, objs_app0, objs_app, and_true]; first | rfl | exact ⟨rfl, rfl⟩ | exact ⟨rfl, rfl, rfl⟩))) | (with_reducible refine (And.intro (a := keeps _ _ _) ?_ ?_); focus (first | (simp [keeps_cons, keeps_none, objs_app, objs_app0]; done) | (simp only [keeps_cons, keeps_none, objs_app0, objs_app, and_true]; first | rfl | exact ⟨rfl, rfl⟩ | exact ⟨rfl, rfl, rfl⟩))) | (refine both_ways ?_ ?_) | (rw [wrap_i64 (by omega) (by omega)]) | (refine guardV_split (fun h => ?_) (fun h => ?_) <;> (try rw [h]) <;> (try simp at h) <;> (try (exfalso; omega))) | (refine build_slice E25 rfl (by decide) (by intro v hv; simp at hv; rcases hv with rfl | rfl <;> simp [go_sem]) ?_))
  rw [hb]
  refine sprune_c h7 bA_ok fun s8 h8 => ?_
  have e8 : ([bA], (10 : Int)).1 = [bA] := rfl
  rw [e8, prune_A]
  repeat' (first | (simp -dsimp only [↓reduceIte, go_sem]) | (refine arr_intro fun _ => ?_) | (refine later_intro ⟨keeps_nil, ?_⟩) | (refine later_intro ⟨keeps_refl, ?_⟩) | (with_reducible refine keeps_go ?_ ?_; focus (first | (simp [keeps_cons, keeps_none, objs_app, objs_app0]; done) | (simp only [keeps_cons, keeps_none, objs_app0, objs_app, and_true]; first | rfl | exact ⟨rfl, rfl⟩ | exact ⟨rfl, rfl, rfl⟩))) | (with_reducible refine (And.intro (a := keeps _ _ _) ?_ ?_); focus (first | (simp [keeps_cons, keeps_none, objs_app, objs_app0]; done) | (simp only [keeps_cons, keeps_none, objs_app0, objs_app, and_true]; first | rfl | exact ⟨rfl, rfl⟩ | exact ⟨rfl, rfl, rfl⟩))) | (refine both_ways ?_ ?_) | (rw [wrap_i64 (by omega) (by omega)]) | (refine guardV_split (fun h => ?_) (fun h => ?_) <;> (try rw [h]) <;> (try simp at h) <;> (try (exfalso; omega))))
  exact ⟨h8.x, rfl, by simpa [AV.strip] using hK⟩
end Go.Aff.L10

/- Layer 11: BlobsKept. -/
-- cuts
namespace Go.Aff.L10
open Go.Proofs Go.Aff Go.Aff.L01 Classical
set_option linter.unusedVariables false
set_option linter.unusedSimpArgs false
set_option maxRecDepth 20000
attribute [local go_sem] push_app app_app length_app cellAt_app cellAt_app0 set_app set_app0 objs_app objs_app0 List.cons_append List.nil_append List.length_cons List.length_nil List.getElem?_cons_zero List.getElem?_cons_succ List.set_cons_zero List.set_cons_succ List.length_map
attribute [-go_sem] cellAt_new
attribute [-simp] List.length_flatMap
attribute [local go_sem] Try.underlying3 Try.underlying4 Try.underlying5 Try.underlying9 Try.underlying24 Try.underlying43 Try.underlying37 Try.underlying22 Try.underlying32 blobPs_0 blobAt_0 blobSet_0 blobPs_1 blobAt_1 blobSet_1 blobPs_2 blobAt_2 blobSet_2 blobPs_3 blobAt_3 blobSet_3 sizes_blob shapes_blob fits_blob zero_blob zt_blob built_blob Try.underlying26 bkeyPs_0 bkeyAt_0 bkeySet_0 bkeyPs_1 bkeyAt_1 bkeySet_1 sizes_bkey shapes_bkey fits_bkey zero_bkey zt_bkey built_bkey Try.underlying56 rstPs_0 rstAt_0 rstSet_0 sizes_rst shapes_rst fits_rst zero_rst zt_rst built_rst Try.underlying45 actPs_0 actAt_0 actSet_0 actPs_1 actAt_1 actSet_1 actPs_2 actAt_2 actSet_2 actPs_3 actAt_3 actSet_3 actPs_4 actAt_4 actSet_4 sizes_act shapes_act fits_act zero_act zt_act built_act Try.underlying42
attribute [local go_sem] fits3 fits4 fits5 fits9 fits23 fits26 fits31 fits34 zt3 zero3 bin_blob_eql bin_blob_neq
attribute [local go_sem ↓] blockQ_exit2
attribute [local simp] dig_ext
attribute [local go_sem] fits58 stAt zero60 zt60 built60 fits60 shape_mp Try.underlying58 Try.underlying60 Try.underlying27 Try.underlying28
attribute [local go_sem] fits_bkey zero_bkey zt_bkey built_bkey
theorem put_zero {B : List Blob} {b : Blob} (h : (bput B b).2 = 0) : b.Rt ∧ ∃ i : Nat, (bput B b).1[i]? = some b := by
  unfold bput at h ⊢
  split
  · rename_i hr; rw [if_pos hr] at h; cases h
  · rename_i hr
    rw [if_neg hr] at h
    refine ⟨Classical.not_not.1 hr, ?_⟩
    split
    · rename_i i hf
      simp only [hf] at h
      split
      · rename_i hb; exact ⟨i, hb⟩
      · rename_i hb; rw [if_neg hb] at h; cases h
    · rename_i hf
      simp only [hf] at h
      split
      · rename_i hroom; rw [if_pos hroom] at h; cases h
      · exact ⟨B.length, by simp⟩
theorem erase_find {B : List Blob} (hB : BOk B) {i : Nat} {b : Blob} (hb : B[i]? = some b) : bfind (B.eraseIdx i) b.owner b.num = none := by
  unfold bfind
  rw [List.findIdx?_eq_none_iff]
  intro x hx
  obtain ⟨q, hq⟩ := List.mem_iff_getElem?.1 hx
  rw [List.getElem?_eraseIdx] at hq
  simp only [isB, decide_eq_false_iff_not]
  rintro ⟨h1, h2⟩
  split at hq
  · have := hB.nd q i x b hq hb h1 h2; omega
  · have := hB.nd (q + 1) i x b hq hb h1 h2; omega
theorem put_back {B : List Blob} (hB : BOk B) {i : Nat} {b : Blob} (hb : B[i]? = some b) : (bput (B.eraseIdx i) b).2 = 0 := by
  unfold bput
  rw [if_neg (fun h => h (hB.rt _ (List.mem_of_getElem? hb)))]
  simp only [erase_find hB hb]
  have h1 := usedN_erase hb (o := b.owner)
  have h2 := usedB_erase hb (o := b.owner)
  have h3 := hB.n b.owner
  have h4 := hB.b b.owner
  simp only [if_true, lenOf] at h1 h2
  rw [if_neg (by omega)]
theorem put_other {B : List Blob} (hB : BOk B) {i : Nat} {b : Blob} (hb : B[i]? = some b) (other : List UInt8) :
    bput B { b with cipher := other } = (B, if 4096 < other.length then 2 else if b.cipher = other then 0 else 10) := by
  have hr := hB.rt _ (List.mem_of_getElem? hb)
  unfold bput
  by_cases hl : 4096 < other.length
  · rw [if_pos (fun h : Blob.Rt _ => by have := h.2.2.2.2; simp only at this; omega), if_pos hl]
  · rw [if_neg (fun h => h ⟨hr.1, hr.2.1, hr.2.2.1, hr.2.2.2.1, by simp only; omega⟩), if_neg hl]
    have hf : bfind B b.owner b.num = some i := hB.find hb
    simp only [hf, hb, Option.some.injEq]
    by_cases he : b.cipher = other
    · rw [if_pos (by rw [← he]), if_pos he]
    · rw [if_neg (fun h => he (by have := congrArg Blob.cipher h; exact this)), if_neg he]
theorem prune_one {B : List Blob} (hB : BOk B) {i : Nat} {b : Blob} (hb : B[i]? = some b) : bprune B b.owner [b.num] = (B.eraseIdx i, 1) := by
  have hf := hB.find hb
  simp [bprune, bprune1, hf]
theorem blobsKept_c {ta : Tk} {la : List AV} (hla : ∀ v ∈ la, IsAct11 v) {b : Blob} {other : List UInt8} {σ : AST} {K : AV → AST → Prop} (hK : K (.bool true) σ) : TCalls Try.prog 3 [.slice ta la, .agg (blobPs b), .str other] σ K := by
  refine TCalls.drop ?_
  have fin : ∀ s', Ext σ s' → Ext σ s' ∧ (AV.bool true).noRef = true ∧ K (AV.bool true).strip σ := fun s' hx => ⟨hx, rfl, by simpa [AV.strip] using hK⟩
  refine tcalls_walk Try.f3 _ [.tmp 6] Try.func3 rfl rfl rfl mixed (Nat.le_of_ble_eq_true rfl) rfl fun hlen => ?_
  have hol : other.length ≤ 9223372036854775807 := hlen (.str other) (by simp)
  have ob0 : (σ.app [.cells (.agg (blobPs b))]).objs[σ.objs.length]? = some (.cells (.agg (blobPs b))) := by rw [objs_app0]; rfl
  repeat' (first | (simp -dsimp only [↓reduceIte, go_sem]) | (refine arr_intro fun _ => ?_) | (refine later_intro ⟨keeps_nil, ?_⟩) | (refine later_intro ⟨keeps_refl, ?_⟩) | (with_reducible refine keeps_go ?_ ?_; focus (first | (simp [keeps_cons, keeps_none, objs_app, objs_app0]; done) | (simp only [keeps_cons, keeps_none, objs_app0, objs_app, and_true]; first | rfl | exact ⟨rfl, rfl⟩ | exact ⟨rfl, rfl, rfl⟩))) | (with_reducible refine (And.intro (a := keeps _ _ _) ?_ ?_); focus (first | (simp [keeps_cons, keeps_none, objs_app, objs_app0]; done) | (simp only [keeps_cons, keeps_none, objs_app0, objs_app, and_true]; first | rfl | exact ⟨rfl, rfl⟩ | exact ⟨rfl, rfl, rfl⟩))) | (refine both_ways ?_ ?_) | (rw [wrap_i64 (by omega) (by omega)]) | (refine guardV_split (fun h => ?_) (fun h => ?_) <;> (try rw [h]) <;> (try simp at h) <;> (try (exfalso; omega))))
  refine made_c hla fun s1 j mi k B hT hB => ?_
  have hx1 := hT.p.x
  have ob1 := ext_knownB hx1 ob0
  have h1 : SF σ s1 j mi B [(σ.objs.length, .cells (.agg (blobPs b)))] := by
    have e0 : σ.objs.length < (σ.app [AObj.cells (.agg (blobPs b))]).objs.length := by simp [AST.app]
    refine ⟨(Ext.app _ _).trans hx1, by have := hT.p.jn; omega, by have := hT.p.mn; omega, hT.p.jm, hT.p.o, hT.p.om, fun x hx => ?_⟩
    simp at hx; subst hx
    exact ⟨by have := hT.p.jn; simp only; omega, by have := hT.p.mn; simp only; omega, ob1⟩
  clear hT hx1 ob1
  have cb := cellAt_known (h1.f _ (List.mem_cons_self ..)).2.2
  repeat' (first | (simp -dsimp only [↓reduceIte, go_sem, cb]) | (refine arr_intro fun _ => ?_) | (refine later_intro ⟨keeps_nil, ?_⟩) | (refine later_intro ⟨keeps_refl, ?_⟩) | (with_reducible refine keeps_go ?_ ?_; focus (first | (simp [keeps_cons, keeps_none, objs_app, objs_app0]; done) | (simp only [keeps_cons, keeps_none, objs_app0, objs_app, and_true]; first | rfl | exact ⟨rfl, rfl⟩ | exact ⟨rfl, rfl, rfl⟩))) | (with_reducible refine (And.intro (a := keeps _ _ _) ?_ ?_); focus (first | (simp [keeps_cons, keeps_none, objs_app, objs_app0]; done) | (simp only [keeps_cons, keeps_none, objs_app0, objs_app, and_true]; first | rfl | exact ⟨rfl, rfl⟩ | exact ⟨rfl, rfl, rfl⟩))) | (refine both_ways ?_ ?_) | (rw [wrap_i64 (by omega) (by omega)]) | (refine guardV_split (fun h => ?_) (fun h => ?_) <;> (try rw [h]) <;> (try simp at h) <;> (try (exfalso; omega))) | ((refine awake_c ?_)))
  refine sput_c h1 hB fun s2 h2 => ?_
  have cb2 := cellAt_known (h2.f _ (List.mem_cons_self ..)).2.2
  by_cases hz : (bput B b).2 = 0
  · obtain ⟨hr, i, hi⟩ := put_zero hz
    have hB1 := hB.put b
    have hzz : ((bput B b).2 != 0) = false := by simp [hz]
    generalize (bput B b).2 = z0 at *
    generalize (bput B b).1 = B1 at *
    repeat' (first | (simp -dsimp only [↓reduceIte, go_sem, cb2, hzz]) | (refine arr_intro fun _ => ?_) | (refine later_intro ⟨keeps_nil, ?_⟩) | (refine later_intro ⟨keeps_refl, ?_⟩) | (with_reducible refine keeps_go ?_ ?_; focus (first | (simp [keeps_cons, keeps_none, objs_app, objs_app0]; done) | (simp only [keeps_cons, keeps_none, objs_app0, objs_app, and_true]; first | rfl | exact ⟨rfl, rfl⟩ | exact ⟨rfl, rfl, rfl⟩))) | (with_reducible refine (And.intro (a := keeps _ _ _) ?_ ?_); focus (first | (simp [keeps_cons, keeps_none, objs_app, objs_app0]; done) | (simp only [keeps_cons, keeps_none, objs_app0, objs_app, and_true]; first | rfl | exact ⟨rfl, rfl⟩ | exact ⟨rfl, rfl, rfl⟩))) | (refine both_ways ?_ ?_) | (rw [wrap_i64 (by omega) (by omega)]) | (refine guardV_split (fun h => ?_) (fun h => ?_) <;> (try rw [h]) <;> (try simp at h) <;> (try (exfalso; omega))))
    refine sput_c (h2.box (.cells (.agg (blobPs ⟨b.owner, b.num, other, b.tag⟩)))) hB1 fun s4 h4 => ?_
    have ho := put_other hB1 hi other
    rw [ho] at h4 ⊢
    dsimp only at h4
    have o4 := (h4.less.f _ (List.mem_cons_self ..)).2.2
    dsimp only at o4
    have c4 := cellAt_known o4
    have hB1f := prune_one hB1 hi
    have hgot : bgot B1 b.owner b.num = some b := by unfold bgot; rw [hB1.find hi]; exact hi
    have hBe := hB1.erase hi
    have hnone : bgot (B1.eraseIdx i) b.owner b.num = none := by unfold bgot; rw [erase_find hB1 hi]
    have hback := put_back hB1 hi
    generalize hz : (if 4096 < other.length then (2 : Int) else if b.cipher = other then 0 else 10) = z at *
    have hq : (decide ((other.length : Int) ≤ 4096) = false ∧ True) ∨ (decide ((other.length : Int) ≤ 4096) = true ∧ (z == 0) = (b.cipher == other)) := by
      by_cases hl : 4096 < other.length
      · exact .inl ⟨by simp; omega, trivial⟩
      · rw [if_neg hl] at hz
        refine .inr ⟨by simp; omega, ?_⟩
        by_cases he : b.cipher = other
        · rw [if_pos he] at hz; subst hz; simp [he]
        · rw [if_neg he] at hz; subst hz; simp [he]
    have hbn : ((b.cipher == other) != (b.cipher == other)) = false := by simp
    rcases hq with ⟨q1, q2⟩ | ⟨q1, q2⟩
    all_goals
      repeat' (first | (simp -dsimp only [↓reduceIte, go_sem, c4, q1, q2, hbn]) | (refine arr_intro fun _ => ?_) | (refine later_intro ⟨keeps_nil, ?_⟩) | (refine later_intro ⟨keeps_refl, ?_⟩) | (with_reducible refine keeps_go ?_ ?_; focus (first | (simp [keeps_cons, keeps_none, objs_app, objs_app0]; done) | (simp only [keeps_cons, keeps_none, objs_app0, objs_app, and_true]; first | rfl | exact ⟨rfl, rfl⟩ | exact ⟨rfl, rfl, rfl⟩))) | (with_reducible refine (And.intro (a := keeps _ _ _) ?_ ?_); focus (first | (simp [keeps_cons, keeps_none, objs_app, objs_app0]; done) | (simp only [keeps_cons, keeps_none, objs_app0, objs_app, and_true]; first | rfl | exact ⟨rfl, rfl⟩ | exact ⟨rfl, rfl, rfl⟩))) | (refine both_ways ?_ ?_) | (rw [wrap_i64 (by omega) (by omega)]) | (refine guardV_split (fun h => ?_) (fun h => ?_) <;> (try rw [h]) <;> (try simp at h) <;> (try (exfalso; omega))))
      refine sget_c h4 fun s5 hx5 => ?_
      rw [hgot]
      have h5 := (h4.ext hx5).box (.cells (.agg (blobPs b)))
      have o5 := (h5.f _ (List.mem_cons_self ..)).2.2
      have o5b := (h5.less.less.f _ (List.mem_cons_self ..)).2.2
      dsimp only at o5 o5b
      have c5 := cellAt_known o5
      have c5b := cellAt_known o5b
      have hbl : [AV.int .i64 b.num] = [b.num].map (AV.int .i64) := rfl
      repeat' (first | (simp -dsimp only [↓reduceIte, go_sem, c5, c5b]) | (refine arr_intro fun _ => ?_) | (refine later_intro ⟨keeps_nil, ?_⟩) | (refine later_intro ⟨keeps_refl, ?_⟩) | (with_reducible refine keeps_go ?_ ?_; focus (first | (simp [keeps_cons, keeps_none, objs_app, objs_app0]; done) | (simp only [keeps_cons, keeps_none, objs_app0, objs_app, and_true]; first | rfl | exact ⟨rfl, rfl⟩ | exact ⟨rfl, rfl, rfl⟩))) | (with_reducible refine (And.intro (a := keeps _ _ _) ?_ ?_); focus (first | (simp [keeps_cons, keeps_none, objs_app, objs_app0]; done) | (simp only [keeps_cons, keeps_none, objs_app0, objs_app, and_true]; first | rfl | exact ⟨rfl, rfl⟩ | exact ⟨rfl, rfl, rfl⟩))) | (refine both_ways ?_ ?_) | (rw [wrap_i64 (by omega) (by omega)]) | (refine guardV_split (fun h => ?_) (fun h => ?_) <;> (try rw [h]) <;> (try simp at h) <;> (try (exfalso; omega))) | (refine build_slice E25 rfl (by decide) (by intro v hv; simp at hv; subst hv; simp [go_sem]) ?_))
      rw [hbl]
      refine sprune_c h5 hB1 fun s6 h6 => ?_
      rw [hB1f] at h6 ⊢
      dsimp only at h6
      have c6 := cellAt_known (h6.less.less.f _ (List.mem_cons_self ..)).2.2
      repeat' (first | (simp -dsimp only [↓reduceIte, go_sem, c6]) | (refine arr_intro fun _ => ?_) | (refine later_intro ⟨keeps_nil, ?_⟩) | (refine later_intro ⟨keeps_refl, ?_⟩) | (with_reducible refine keeps_go ?_ ?_; focus (first | (simp [keeps_cons, keeps_none, objs_app, objs_app0]; done) | (simp only [keeps_cons, keeps_none, objs_app0, objs_app, and_true]; first | rfl | exact ⟨rfl, rfl⟩ | exact ⟨rfl, rfl, rfl⟩))) | (with_reducible refine (And.intro (a := keeps _ _ _) ?_ ?_); focus (first | (simp [keeps_cons, keeps_none, objs_app, objs_app0]; done) | (simp only [keeps_cons, keeps_none, objs_app0, objs_app, and_true]; first | rfl | exact ⟨rfl, rfl⟩ | exact ⟨rfl, rfl, rfl⟩))) | (refine both_ways ?_ ?_) | (rw [wrap_i64 (by omega) (by omega)]) | (refine guardV_split (fun h => ?_) (fun h => ?_) <;> (try rw [h]) <;> (try simp at h) <;> (try (exfalso; omega))))
      refine sget_c h6 fun s7 hx7 => ?_
      rw [hnone]
      have h7 := (h6.ext hx7).box (.cells (.agg (blobPs blob0)))
      have c7 := cellAt_known (h7.less.less.less.f _ (List.mem_cons_self ..)).2.2
      repeat' (first | (simp -dsimp only [↓reduceIte, go_sem, c7]) | (refine arr_intro fun _ => ?_) | (refine later_intro ⟨keeps_nil, ?_⟩) | (refine later_intro ⟨keeps_refl, ?_⟩) | (with_reducible refine keeps_go ?_ ?_; focus (first | (simp [keeps_cons, keeps_none, objs_app, objs_app0]; done) | (simp only [keeps_cons, keeps_none, objs_app0, objs_app, and_true]; first | rfl | exact ⟨rfl, rfl⟩ | exact ⟨rfl, rfl, rfl⟩))) | (with_reducible refine (And.intro (a := keeps _ _ _) ?_ ?_); focus (first | (simp [keeps_cons, keeps_none, objs_app, objs_app0]; done) | (simp only [keeps_cons, keeps_none, objs_app0, objs_app, and_true]; first | rfl | exact ⟨rfl, rfl⟩ | exact ⟨rfl, rfl, rfl⟩))) | (refine both_ways ?_ ?_) | (rw [wrap_i64 (by omega) (by omega)]) | (refine guardV_split (fun h => ?_) (fun h => ?_) <;> (try rw [h]) <;> (try simp at h) <;> (try (exfalso; omega))))
      refine sput_c h7 hBe fun s8 h8 => ?_
      rw [hback]
      repeat' (first | (simp -dsimp only [↓reduceIte, go_sem]) | (refine arr_intro fun _ => ?_) | (refine later_intro ⟨keeps_nil, ?_⟩) | (refine later_intro ⟨keeps_refl, ?_⟩) | (with_reducible refine keeps_go ?_ ?_; focus (first | (simp [keeps_cons, keeps_none, objs_app, objs_app0]; done) | (simp only [keeps_cons, keeps_none, objs_app0, objs_app, and_true]; first | rfl | exact ⟨rfl, rfl⟩ | exact ⟨rfl, rfl, rfl⟩))) | (with_reducible refine (And.intro (a := keeps _ _ _) ?_ ?_); focus (first | (simp [keeps_cons, keeps_none, objs_app, objs_app0]; done) | (simp only [keeps_cons, keeps_none, objs_app0, objs_app, and_true]; first | rfl | exact ⟨rfl, rfl⟩ | exact ⟨rfl, rfl, rfl⟩))) | (refine both_ways ?_ ?_) | (rw [wrap_i64 (by omega) (by omega)]) | (refine guardV_split (fun h => ?_) (fun h => ?_) <;> (try rw [h]) <;> (try simp at h) <;> (try (exfalso; omega))))
      exact fin _ h8.x
  · have hzz : ((bput B b).2 != 0) = true := by simp [hz]
    repeat' (first | (simp -dsimp only [↓reduceIte, go_sem, hzz]) | (refine arr_intro fun _ => ?_) | (refine later_intro ⟨keeps_nil, ?_⟩) | (refine later_intro ⟨keeps_refl, ?_⟩) | (with_reducible refine keeps_go ?_ ?_; focus (first | (simp [keeps_cons, keeps_none, objs_app, objs_app0]; done) | (simp only [keeps_cons, keeps_none, objs_app0, objs_app, and_true]; first | rfl | exact ⟨rfl, rfl⟩ | exact ⟨rfl, rfl, rfl⟩))) | (with_reducible refine (And.intro (a := keeps _ _ _) ?_ ?_); focus (first | (simp [keeps_cons, keeps_none, objs_app, objs_app0]; done) | (simp only [keeps_cons, keeps_none, objs_app0, objs_app, and_true]; first | rfl | exact ⟨rfl, rfl⟩ | exact ⟨rfl, rfl, rfl⟩))) | (refine both_ways ?_ ?_) | (rw [wrap_i64 (by omega) (by omega)]) | (refine guardV_split (fun h => ?_) (fun h => ?_) <;> (try rw [h]) <;> (try simp at h) <;> (try (exfalso; omega))))
    exact fin _ h2.x
end Go.Aff.L10

/- Layer 11: BlobsNone. -/
-- cuts
namespace Go.Aff.L10
open Go.Proofs Go.Aff Go.Aff.L01 Classical
set_option linter.unusedVariables false
set_option linter.unusedSimpArgs false
set_option maxRecDepth 20000
attribute [local go_sem] push_app app_app length_app cellAt_app cellAt_app0 set_app set_app0 objs_app objs_app0 List.cons_append List.nil_append List.length_cons List.length_nil List.getElem?_cons_zero List.getElem?_cons_succ List.set_cons_zero List.set_cons_succ List.length_map
attribute [-go_sem] cellAt_new
attribute [-simp] List.length_flatMap
attribute [local go_sem] Try.underlying3 Try.underlying4 Try.underlying5 Try.underlying9 Try.underlying24 Try.underlying43 Try.underlying37 Try.underlying22 Try.underlying32 blobPs_0 blobAt_0 blobSet_0 blobPs_1 blobAt_1 blobSet_1 blobPs_2 blobAt_2 blobSet_2 blobPs_3 blobAt_3 blobSet_3 sizes_blob shapes_blob fits_blob zero_blob zt_blob built_blob Try.underlying26 bkeyPs_0 bkeyAt_0 bkeySet_0 bkeyPs_1 bkeyAt_1 bkeySet_1 sizes_bkey shapes_bkey fits_bkey zero_bkey zt_bkey built_bkey Try.underlying56 rstPs_0 rstAt_0 rstSet_0 sizes_rst shapes_rst fits_rst zero_rst zt_rst built_rst Try.underlying45 actPs_0 actAt_0 actSet_0 actPs_1 actAt_1 actSet_1 actPs_2 actAt_2 actSet_2 actPs_3 actAt_3 actSet_3 actPs_4 actAt_4 actSet_4 sizes_act shapes_act fits_act zero_act zt_act built_act Try.underlying42
attribute [local go_sem] fits3 fits4 fits5 fits9 fits23 fits26 fits31 fits34 zt3 zero3 bin_blob_eql bin_blob_neq
attribute [local go_sem ↓] blockQ_exit2
attribute [local simp] dig_ext
attribute [local go_sem] fits58 stAt zero60 zt60 built60 fits60 shape_mp Try.underlying58 Try.underlying60 Try.underlying27 Try.underlying28
attribute [local go_sem] fits_bkey zero_bkey zt_bkey built_bkey
theorem snumbers_nil {σ : AST} {o : Int} {K : AV → AST → Prop} (hK : K (.slice .full []) σ) : TCalls Try.prog 17 [.ptr none, .int .i64 o] σ K := by
  refine tcalls_walk Try.f17 _ [.tmp 4] Try.func17 rfl rfl rfl mixed (Nat.le_of_ble_eq_true rfl) rfl fun hlen => ?_
  repeat' (first | (simp -dsimp only [↓reduceIte, go_sem]) | (refine arr_intro fun _ => ?_) | (refine later_intro ⟨keeps_nil, ?_⟩) | (refine later_intro ⟨keeps_refl, ?_⟩) | (with_reducible refine keeps_go ?_ ?_; focus (first | (simp [keeps_cons, keeps_none, objs_app, objs_app0]; done) | (simp only [keeps_cons, keeps_none, objs_app0, objs_app, and_true]; first | rfl | exact ⟨rfl, rfl⟩ | exact ⟨rfl, rfl, rfl⟩))) | (with_reducible refine (And.intro (a := keeps _ _ _) ?_ ?_); focus (first | (simp [keeps_cons, keeps_none, objs_app, objs_app0]; done) | (simp only [keeps_cons, keeps_none, objs_app0, objs_app, and_true]; first | rfl | exact ⟨rfl, rfl⟩ | exact ⟨rfl, rfl, rfl⟩))) | (refine both_ways ?_ ?_) | (rw [wrap_i64 (by omega) (by omega)]) | (refine guardV_split (fun h => ?_) (fun h => ?_) <;> (try rw [h]) <;> (try simp at h) <;> (try (exfalso; omega))))
  exact hK
theorem blobsNone_c {t : Tk} {a : Act11} {σ : AST} {K : AV → AST → Prop} (hK : K (.bool true) σ) : TCalls Try.prog 7 [.agg (actPs t a)] σ K := by
  refine TCalls.drop ?_
  refine tcalls_walk Try.f7 _ [.tmp 2] Try.func7 rfl rfl rfl mixed (Nat.le_of_ble_eq_true rfl) rfl fun hlen => ?_
  repeat' (first | (simp -dsimp only [↓reduceIte, go_sem]) | (refine arr_intro fun _ => ?_) | (refine later_intro ⟨keeps_nil, ?_⟩) | (refine later_intro ⟨keeps_refl, ?_⟩) | (with_reducible refine keeps_go ?_ ?_; focus (first | (simp [keeps_cons, keeps_none, objs_app, objs_app0]; done) | (simp only [keeps_cons, keeps_none, objs_app0, objs_app, and_true]; first | rfl | exact ⟨rfl, rfl⟩ | exact ⟨rfl, rfl, rfl⟩))) | (with_reducible refine (And.intro (a := keeps _ _ _) ?_ ?_); focus (first | (simp [keeps_cons, keeps_none, objs_app, objs_app0]; done) | (simp only [keeps_cons, keeps_none, objs_app0, objs_app, and_true]; first | rfl | exact ⟨rfl, rfl⟩ | exact ⟨rfl, rfl, rfl⟩))) | (refine both_ways ?_ ?_) | (rw [wrap_i64 (by omega) (by omega)]) | (refine guardV_split (fun h => ?_) (fun h => ?_) <;> (try rw [h]) <;> (try simp at h) <;> (try (exfalso; omega))) | ((refine awake_c ?_)) | ((refine sget_nil ?_)) | ((refine sused_nil ?_)) | ((refine sput_nil ?_)) | ((refine sprune_nil ?_)) | ((refine snumbers_nil ?_)) | (with_reducible refine awp_drawT (id := 4) (.op 0 3 (.op 1 2 (.op 2 2 (.op 3 2 (.op 4 2 (.op 5 2 (.op 6 2 (.op 7 2 (.op 8 2 (.op 9 2 (.op 10 2 (.op 11 2 (.op 12 2 (.op 13 2 (.op 14 1 (.op 15 2 (.op 16 2 (.op 17 2 (.op 18 2 (.op 19 2 (.op 20 2 (.op 21 2 (.op 22 2 (.op 24 0 (.op 26 0 (.op 28 0 (.op 29 0 (.op 30 0 (.op 23 1 (.op 25 0 (.op 27 0 (.op 31 1 (.op 32 2 (.op 33 2 (.op 34 2 (.op 35 2 (.op 36 2 .nil))))))))))))))))))))))))))))))))))))) (by kernel_rfl) ?_))
  exact ⟨Ext.app _ _, rfl, by simpa [AV.strip] using hK⟩
end Go.Aff.L10

/- Layer 11: what an argument's shape says of blobs, of calls. -/
namespace Go.Aff.L10
open Go.Proofs Go.Aff Go.Aff.L01 Classical
set_option linter.unusedVariables false
set_option maxRecDepth 20000
theorem sh_ints11 {n : Nat} {v : AV} (h : ShT Try.prog (n + 2) 37 v) : ∃ (tk : Tk) (l : List Int), v = .slice tk (l.map (AV.int .i64)) := by
  obtain ⟨tk, xs, rfl, e⟩ := sh_slice (n := n + 1) (t := 37) Try.underlying37 h
  obtain ⟨l, rfl, _⟩ := map_of (f := AV.int .i64) (p := fun _ => True) (fun x hx => by obtain ⟨i, rfl, _, _⟩ := sh_int (n := n) (t := 3) Try.underlying3 (e x hx); exact ⟨i, rfl, trivial⟩)
  exact ⟨tk, l, rfl⟩
theorem sh_blob {n : Nat} {v : AV} (h : ShT Try.prog (n + 9) 26 v) : ∃ y : Blob, v = blobV y := by
  obtain ⟨ps, rfl, hps⟩ := sh_struct (n := n + 8) Try.underlying26 h
  obtain ⟨p0, r, rfl, h0, hps⟩ := shTs_cons (n := n + 7) hps
  obtain ⟨p1, r, rfl, h1, hps⟩ := shTs_cons (n := n + 6) hps
  obtain ⟨p2, r, rfl, h2, hps⟩ := shTs_cons (n := n + 5) hps
  obtain ⟨p3, r, rfl, h3, hps⟩ := shTs_cons (n := n + 4) hps
  obtain rfl := shTs_nil hps
  obtain ⟨a, rfl, _, _⟩ := sh_int (t := 3) Try.underlying3 h0
  obtain ⟨b, rfl, _, _⟩ := sh_int (t := 3) Try.underlying3 h1
  obtain ⟨c, rfl⟩ := sh_str (t := 9) Try.underlying9 h2
  obtain ⟨e, rfl⟩ := sh_dig (t := 24) Try.underlying24 h3
  exact ⟨⟨a, b, c, e⟩, rfl⟩
theorem sh_act {n : Nat} {v : AV} (h : ShT Try.prog (n + 20) 42 v) : IsAct11 v := by
  obtain ⟨ps, rfl, hps⟩ := sh_struct (n := n + 19) Try.underlying42 h
  obtain ⟨p0, r, rfl, h0, hps⟩ := shTs_cons (n := n + 18) hps
  obtain ⟨p1, r, rfl, h1, hps⟩ := shTs_cons (n := n + 17) hps
  obtain ⟨p2, r, rfl, h2, hps⟩ := shTs_cons (n := n + 16) hps
  obtain ⟨p3, r, rfl, h3, hps⟩ := shTs_cons (n := n + 15) hps
  obtain ⟨p4, r, rfl, h4, hps⟩ := shTs_cons (n := n + 14) hps
  obtain rfl := shTs_nil hps
  obtain ⟨a, rfl, _, _⟩ := sh_int (t := 3) Try.underlying3 h0
  obtain ⟨b, rfl, _, _⟩ := sh_int (t := 3) Try.underlying3 h1
  obtain ⟨c, rfl, _, _⟩ := sh_int (t := 3) Try.underlying3 h2
  obtain ⟨d, rfl⟩ := sh_blob (n := n + 6) h3
  obtain ⟨t, l, rfl⟩ := sh_ints11 (n := n + 12) h4
  exact ⟨t, ⟨a, b, c, d, l⟩, rfl⟩
theorem sh_acts {v : AV} (h : ShT Try.prog 51 22 v) : ∃ tk la, v = .slice tk la ∧ ∀ v ∈ la, IsAct11 v := by
  obtain ⟨tk, xs, rfl, e⟩ := sh_slice (n := 50) (t := 22) Try.underlying22 h
  exact ⟨tk, xs, rfl, fun v hv => sh_act (n := 30) (e v hv)⟩
end Go.Aff.L10

