import Derived.Test.YtikbkaedemmpmaaG31
import Derived.Test.YtikbkaedemmpmaaG22
import Derived.Test.YtikbkaedemmpmaaG30

set_option linter.unusedSimpArgs false
set_option linter.unusedVariables false

/- Layer 11, walked: Get, Put, Prune. -/
-- cuts
namespace Go.Aff.L10
open Go.Proofs Go.Aff Go.Aff.L01 Classical
set_option linter.unusedVariables false
set_option linter.unusedSimpArgs false
set_option maxRecDepth 20000
attribute [local go_sem] push_app app_app length_app cellAt_app cellAt_app0 set_app set_app0 objs_app objs_app0 List.cons_append List.nil_append List.length_cons List.length_nil List.getElem?_cons_zero List.getElem?_cons_succ List.set_cons_zero List.set_cons_succ List.length_map
attribute [-go_sem] cellAt_new
attribute [-simp] List.length_flatMap
attribute [local go_sem] Try.underlying3 Try.underlying4 Try.underlying5 Try.underlying9 Try.underlying36 Try.underlying37 Try.underlying42 Try.underlying45 Try.underlying31 Try.underlying61 subPs_0 subAt_0 subSet_0 subPs_1 subAt_1 subSet_1 subPs_2 subAt_2 subSet_2 subPs_3 subAt_3 subSet_3 subPs_4 subAt_4 subSet_4 subPs_5 subAt_5 subSet_5 sizes_sub shapes_sub fits_sub zero_sub zt_sub built_sub Try.underlying41 pendPs_0 pendAt_0 pendSet_0 pendPs_1 pendAt_1 pendSet_1 pendPs_2 pendAt_2 pendSet_2 pendPs_3 pendAt_3 pendSet_3 pendPs_4 pendAt_4 pendSet_4 pendPs_5 pendAt_5 pendSet_5 sizes_pend shapes_pend fits_pend zero_pend zt_pend built_pend Try.underlying92 repPs_0 repAt_0 repSet_0 repPs_1 repAt_1 repSet_1 repPs_2 repAt_2 repSet_2 repPs_3 repAt_3 repSet_3 repPs_4 repAt_4 repSet_4 repPs_5 repAt_5 repSet_5 repPs_6 repAt_6 repSet_6 repPs_7 repAt_7 repSet_7 repPs_8 repAt_8 repSet_8 repPs_9 repAt_9 repSet_9 sizes_rep shapes_rep fits_rep zero_rep zt_rep built_rep Try.underlying44 blobPs_0 blobAt_0 blobSet_0 blobPs_1 blobAt_1 blobSet_1 blobPs_2 blobAt_2 blobSet_2 blobPs_3 blobAt_3 blobSet_3 sizes_blob shapes_blob fits_blob zero_blob zt_blob built_blob Try.underlying39 msgPs_0 msgAt_0 msgSet_0 msgPs_1 msgAt_1 msgSet_1 msgPs_2 msgAt_2 msgSet_2 msgPs_3 msgAt_3 msgSet_3 msgPs_4 msgAt_4 msgSet_4 msgPs_5 msgAt_5 msgSet_5 msgPs_6 msgAt_6 msgSet_6 msgPs_7 msgAt_7 msgSet_7 msgPs_8 msgAt_8 msgSet_8 msgPs_9 msgAt_9 msgSet_9 sizes_msg shapes_msg fits_msg zero_msg zt_msg built_msg Try.underlying47 at_Ps_0 at_Set_0 at_Ps_1 at_Set_1 sizes_at_ shapes_at_
attribute [local go_sem] fits3 fits4 fits5 fits9 fits23 fits26 fits31 fits34 fits52 zt3 zero3 zt34 zero34 zt23 zero23 bin_sub_eql bin_pend_eql bin_pend_neq bin_blob_eql bin_dig23_eql bin_dig23_neq slice23
attribute [local go_sem ↓] blockQ_exit2
attribute [local simp] dig_ext
attribute [local go_sem] bkeyPs_0 bkeyAt_0 bkeySet_0 bkeyPs_1 bkeyAt_1 bkeySet_1 sizes_bkey shapes_bkey fits_bkey zero_bkey zt_bkey built_bkey Try.underlying95 bin_blob_neq fits58 stAt zero60 zt60 built60 fits60 shape_mp Try.underlying97 Try.underlying99 Try.underlying28
attribute [local go_sem] fits_bkey zero_bkey zt_bkey built_bkey
noncomputable def bgot (B : List Blob) (o n : Int) : Option Blob := match bfind B o n with
  | some i => B[i]?
  | none => none
section
variable {σ0 s : AST} {j mi : Nat} {B : List Blob} {F : List (Nat × AObj)} {K : AV → AST → Prop}
theorem sget_nil {σ : AST} {o n : Int} {K : AV → AST → Prop} (hK : K (.tuple [.agg (blobPs blob0), .int .i64 1]) σ) : TCalls Try.prog 29 [.ptr none, .int .i64 o, .int .i64 n] σ K := by
  refine TCalls.drop ?_
  refine tcalls_walk Try.f29 _ [.cell 6 39, .tmp 7] Try.func29 rfl rfl rfl mixed (Nat.le_of_ble_eq_true rfl) rfl fun hlen => ?_
  repeat' (first | (simp -dsimp only [↓reduceIte, go_sem]) | (refine arr_intro fun _ => ?_) | (refine later_intro ⟨keeps_nil, ?_⟩) | (refine later_intro ⟨keeps_refl, ?_⟩) | (with_reducible refine keeps_go ?_ ?_; focus (first | (simp [keeps_cons, keeps_none, objs_app, objs_app0]; done) | (simp only [keeps_cons, keeps_none, objs_app0, objs_app, and_true]; first | rfl | exact ⟨rfl, rfl⟩ | exact ⟨rfl, rfl, rfl⟩))) | (with_reducible refine (And.intro (a := keeps _ _ _) ?_ ?_); focus (first | (simp [keeps_cons, keeps_none, objs_app, objs_app0]; done) | (simp only [keeps_cons, keeps_none, objs_app0, objs_app, and_true]; first | rfl | exact ⟨rfl, rfl⟩ | exact ⟨rfl, rfl, rfl⟩))) | (refine both_ways ?_ ?_) | (rw [wrap_i64 (by omega) (by omega)]) | (refine guardV_split (fun h => ?_) (fun h => ?_) <;> (try rw [h]) <;> (try simp at h) <;> (try (exfalso; omega))))
  exact ⟨Ext.app _ _, by simp [AV.noRef, AV.noRefs, blobPs], by simpa [AV.strip, AV.strips, blobPs] using hK⟩
theorem sget_c (h : SF σ0 s j mi B F) {o n : Int} (hK : ∀ s', Ext s s' → K (match bgot B o n with | some b => .tuple [.agg (blobPs b), .int .i64 0] | none => .tuple [.agg (blobPs blob0), .int .i64 9]) s') : TCalls Try.prog 29 [.ptr (some (j, [])), .int .i64 o, .int .i64 n] s K := by
  obtain ⟨E, ck, rfl, hm, hck, hnd⟩ := h.om
  have oA := fun l => objs_known_app h.o l
  have cj := fun l => cellAt_known (oA l)
  have mA := fun l => objs_known_app hm l
  unfold bgot at hK
  refine tcalls_walk Try.f29 _ [.cell 6 39, .tmp 7] Try.func29 rfl rfl rfl mixed (Nat.le_of_ble_eq_true rfl) rfl fun hlen => ?_
  repeat' (first | (simp -dsimp only [↓reduceIte, go_sem, cj]) | (refine arr_intro fun _ => ?_) | (refine later_intro ⟨keeps_nil, ?_⟩) | (refine later_intro ⟨keeps_refl, ?_⟩) | (with_reducible refine keeps_go ?_ ?_; focus (first | (simp [keeps_cons, keeps_none, objs_app, objs_app0]; done) | (simp only [keeps_cons, keeps_none, objs_app0, objs_app, and_true]; first | rfl | exact ⟨rfl, rfl⟩ | exact ⟨rfl, rfl, rfl⟩))) | (with_reducible refine (And.intro (a := keeps _ _ _) ?_ ?_); focus (first | (simp [keeps_cons, keeps_none, objs_app, objs_app0]; done) | (simp only [keeps_cons, keeps_none, objs_app0, objs_app, and_true]; first | rfl | exact ⟨rfl, rfl⟩ | exact ⟨rfl, rfl, rfl⟩))) | (refine both_ways ?_ ?_) | (rw [wrap_i64 (by omega) (by omega)]) | (refine guardV_split (fun h => ?_) (fun h => ?_) <;> (try rw [h]) <;> (try simp at h) <;> (try (exfalso; omega))) | (refine lookupB (mA _) (fun i b hf hb => ?_) (fun hf => ?_)))
  · simp only [hf, hb] at hK
    exact hK _ (Ext.app _ _)
  · simp only [hf] at hK
    exact hK _ (Ext.app _ _)
theorem lookupB_some {σ : AST} {E : List (Nat × Blob)} {ck i : Nat} {o n : Int} {b : Blob} {KV : AV → Prop} (ho : σ.objs[mi]? = some (.map (E.map entB) ck)) (hf : bfind (E.map (·.2)) o n = some i) (hb : (E.map (·.2))[i]? = some b)
    (h1 : KV (.tuple [.agg (blobPs b), .bool true])) : lookupW Try.prog σ 97 (.mp (some mi)) (.agg (bkeyPs ⟨o, n⟩)) true KV :=
  lookupB ho (fun i' b' hf' hb' => by rw [hf] at hf'; cases hf'; rw [hb] at hb'; cases hb'; exact h1) (fun hf' => by rw [hf] at hf'; cases hf')
theorem lookupB_none {σ : AST} {E : List (Nat × Blob)} {ck : Nat} {o n : Int} {KV : AV → Prop} (ho : σ.objs[mi]? = some (.map (E.map entB) ck)) (hf : bfind (E.map (·.2)) o n = none)
    (h1 : KV (.tuple [.agg (blobPs blob0), .bool false])) : lookupW Try.prog σ 97 (.mp (some mi)) (.agg (bkeyPs ⟨o, n⟩)) true KV :=
  lookupB ho (fun i' b' hf' hb' => by rw [hf] at hf'; cases hf') (fun _ => h1)
theorem sput_nil {σ : AST} {b : Blob} {K : AV → AST → Prop} (hK : K (.int .i64 1) σ) : TCalls Try.prog 15 [.ptr none, .agg (blobPs b)] σ K := by
  refine TCalls.drop ?_
  refine tcalls_walk Try.f15 _ [.tmp 4] Try.func15 rfl rfl rfl mixed (Nat.le_of_ble_eq_true rfl) rfl fun hlen => ?_
  repeat' (first | (simp -dsimp only [↓reduceIte, go_sem]) | (refine arr_intro fun _ => ?_) | (refine later_intro ⟨keeps_nil, ?_⟩) | (refine later_intro ⟨keeps_refl, ?_⟩) | (with_reducible refine keeps_go ?_ ?_; focus (first | (simp [keeps_cons, keeps_none, objs_app, objs_app0]; done) | (simp only [keeps_cons, keeps_none, objs_app0, objs_app, and_true]; first | rfl | exact ⟨rfl, rfl⟩ | exact ⟨rfl, rfl, rfl⟩))) | (with_reducible refine (And.intro (a := keeps _ _ _) ?_ ?_); focus (first | (simp [keeps_cons, keeps_none, objs_app, objs_app0]; done) | (simp only [keeps_cons, keeps_none, objs_app0, objs_app, and_true]; first | rfl | exact ⟨rfl, rfl⟩ | exact ⟨rfl, rfl, rfl⟩))) | (refine both_ways ?_ ?_) | (rw [wrap_i64 (by omega) (by omega)]) | (refine guardV_split (fun h => ?_) (fun h => ?_) <;> (try rw [h]) <;> (try simp at h) <;> (try (exfalso; omega))))
  exact ⟨Ext.app _ _, rfl, by simpa [AV.strip] using hK⟩
theorem sput_c (h : SF σ0 s j mi B F) (hB : BOk B) {b : Blob} (hK : ∀ s', SF σ0 s' j mi (bput B b).1 F → K (.int .i64 (bput B b).2) s') : TCalls Try.prog 15 [.ptr (some (j, [])), .agg (blobPs b)] s K := by
  have hA := fun l => h.ext (Ext.app s l)
  have oA := fun l => (hA l).o
  have cj := fun l => cellAt_known (oA l)
  obtain ⟨E, ck, hE, hm, hck, hnd⟩ := h.om
  have mA := fun l => objs_known_app hm l
  unfold bput at hK
  by_cases hr : b.Rt
  · rw [if_neg (fun hh => hh hr)] at hK
    cases hf : bfind B b.owner b.num with
    | some i =>
      obtain ⟨b', hb', _⟩ := bfind_some hf
      simp only [hf, hb', Option.some.injEq] at hK
      rw [← hE] at hf hb'
      by_cases he : b' = b
      · rw [if_pos he] at hK
        subst he
        refine tcalls_walk Try.f15 _ [.tmp 4] Try.func15 rfl rfl rfl mixed (Nat.le_of_ble_eq_true rfl) rfl fun hlen => ?_
        repeat' (first | (simp -dsimp only [↓reduceIte, go_sem, cj, hr]) | (refine arr_intro fun _ => ?_) | (refine later_intro ⟨keeps_nil, ?_⟩) | (refine later_intro ⟨keeps_refl, ?_⟩) | (with_reducible refine keeps_go ?_ ?_; focus (first | (simp [keeps_cons, keeps_none, objs_app, objs_app0]; done) | (simp only [keeps_cons, keeps_none, objs_app0, objs_app, and_true]; first | rfl | exact ⟨rfl, rfl⟩ | exact ⟨rfl, rfl, rfl⟩))) | (with_reducible refine (And.intro (a := keeps _ _ _) ?_ ?_); focus (first | (simp [keeps_cons, keeps_none, objs_app, objs_app0]; done) | (simp only [keeps_cons, keeps_none, objs_app0, objs_app, and_true]; first | rfl | exact ⟨rfl, rfl⟩ | exact ⟨rfl, rfl, rfl⟩))) | (refine both_ways ?_ ?_) | (rw [wrap_i64 (by omega) (by omega)]) | (refine guardV_split (fun h => ?_) (fun h => ?_) <;> (try rw [h]) <;> (try simp at h) <;> (try (exfalso; omega))) | ((refine bright_c ?_)) | (with_reducible refine awp_drawU (id := 6) (.op 0 0 (.op 1 0 (.op 2 0 (.op 3 0 (.op 4 0 (.fork 5 (.op 5 1 (.op 6 0 (.op 7 0 (.op 8 0 (.op 9 1 (.op 10 1 (.op 11 2 .nil))))))) (.op 9 1 (.cut (.op 5 1 (.op 6 2 (.op 7 2 (.op 8 0 (.op 10 1 (.op 11 2 .nil)))))))))))))) (by kernel_rfl) ?_) | (with_reducible refine keeps_go ?_ ?_; focus (simp [keeps_cons, keeps_none, objs_app, objs_app0, oA]; done)) | (with_reducible refine (And.intro (a := keeps _ _ _) ?_ ?_); focus (simp [keeps_cons, keeps_none, objs_app, objs_app0, oA]; done)) | (refine lookupB_some (mA _) hf hb' ?_))
        all_goals exact hK _ (hA _)
      · rw [if_neg he] at hK
        refine tcalls_walk Try.f15 _ [.tmp 4] Try.func15 rfl rfl rfl mixed (Nat.le_of_ble_eq_true rfl) rfl fun hlen => ?_
        repeat' (first | (simp -dsimp only [↓reduceIte, go_sem, cj, hr, he]) | (refine arr_intro fun _ => ?_) | (refine later_intro ⟨keeps_nil, ?_⟩) | (refine later_intro ⟨keeps_refl, ?_⟩) | (with_reducible refine keeps_go ?_ ?_; focus (first | (simp [keeps_cons, keeps_none, objs_app, objs_app0]; done) | (simp only [keeps_cons, keeps_none, objs_app0, objs_app, and_true]; first | rfl | exact ⟨rfl, rfl⟩ | exact ⟨rfl, rfl, rfl⟩))) | (with_reducible refine (And.intro (a := keeps _ _ _) ?_ ?_); focus (first | (simp [keeps_cons, keeps_none, objs_app, objs_app0]; done) | (simp only [keeps_cons, keeps_none, objs_app0, objs_app, and_true]; first | rfl | exact ⟨rfl, rfl⟩ | exact ⟨rfl, rfl, rfl⟩))) | (refine both_ways ?_ ?_) | (rw [wrap_i64 (by omega) (by omega)]) | (refine guardV_split (fun h => ?_) (fun h => ?_) <;> (try rw [h]) <;> (try simp at h) <;> (try (exfalso; omega))) | ((refine bright_c ?_)) | (with_reducible refine awp_drawU (id := 6) (.op 0 0 (.op 1 0 (.op 2 0 (.op 3 0 (.op 4 0 (.fork 5 (.op 5 1 (.op 6 0 (.op 7 0 (.op 8 0 (.op 9 1 (.op 10 1 (.op 11 2 .nil))))))) (.op 9 1 (.cut (.op 5 1 (.op 6 2 (.op 7 2 (.op 8 0 (.op 10 1 (.op 11 2 .nil)))))))))))))) (by kernel_rfl) ?_) | (with_reducible refine keeps_go ?_ ?_; focus (simp [keeps_cons, keeps_none, objs_app, objs_app0, oA]; done)) | (with_reducible refine (And.intro (a := keeps _ _ _) ?_ ?_); focus (simp [keeps_cons, keeps_none, objs_app, objs_app0, oA]; done)) | (refine lookupB_some (mA _) hf hb' ?_))
        all_goals exact hK _ (hA _)
    | none =>
      simp only [hf] at hK
      have hf' := hf
      rw [← hE] at hf'
      have hn := hB.n b.owner
      have hb := hB.b b.owner
      have hbl := hr.2.2.2.2
      have hws : IntKind.i64.wrap (32768 - (b.cipher.length : Int)) = 32768 - (b.cipher.length : Int) := wrap_i64 (by omega) (by omega)
      by_cases hroom : 256 ≤ usedN B b.owner ∨ 32768 < usedB B b.owner + b.cipher.length
      · rw [if_pos hroom] at hK
        refine tcalls_walk Try.f15 _ [.tmp 4] Try.func15 rfl rfl rfl mixed (Nat.le_of_ble_eq_true rfl) rfl fun hlen => ?_
        repeat' (first | (simp -dsimp only [↓reduceIte, go_sem, cj, hr, hws]) | (refine arr_intro fun _ => ?_) | (refine later_intro ⟨keeps_nil, ?_⟩) | (refine later_intro ⟨keeps_refl, ?_⟩) | (with_reducible refine keeps_go ?_ ?_; focus (first | (simp [keeps_cons, keeps_none, objs_app, objs_app0]; done) | (simp only [keeps_cons, keeps_none, objs_app0, objs_app, and_true]; first | rfl | exact ⟨rfl, rfl⟩ | exact ⟨rfl, rfl, rfl⟩))) | (with_reducible refine (And.intro (a := keeps _ _ _) ?_ ?_); focus (first | (simp [keeps_cons, keeps_none, objs_app, objs_app0]; done) | (simp only [keeps_cons, keeps_none, objs_app0, objs_app, and_true]; first | rfl | exact ⟨rfl, rfl⟩ | exact ⟨rfl, rfl, rfl⟩))) | (refine both_ways ?_ ?_) | (rw [wrap_i64 (by omega) (by omega)]) | (refine guardV_split (fun h => ?_) (fun h => ?_) <;> (try rw [h]) <;> (try simp at h) <;> (try (exfalso; omega))) | ((refine bright_c ?_)) | (with_reducible refine awp_drawU (id := 6) (.op 0 0 (.op 1 0 (.op 2 0 (.op 3 0 (.op 4 0 (.fork 5 (.op 5 1 (.op 6 0 (.op 7 0 (.op 8 0 (.op 9 1 (.op 10 1 (.op 11 2 .nil))))))) (.op 9 1 (.cut (.op 5 1 (.op 6 2 (.op 7 2 (.op 8 0 (.op 10 1 (.op 11 2 .nil)))))))))))))) (by kernel_rfl) ?_) | (with_reducible refine keeps_go ?_ ?_; focus (simp [keeps_cons, keeps_none, objs_app, objs_app0, oA]; done)) | (with_reducible refine (And.intro (a := keeps _ _ _) ?_ ?_); focus (simp [keeps_cons, keeps_none, objs_app, objs_app0, oA]; done)) | (refine lookupB_none (mA _) hf' ?_))
        all_goals
          refine sused_c (hA _) hB fun s' hx => ?_
          have hT := (hA _).ext hx
          have b0 := ext_knownB hx (k := s.objs.length) (by rw [objs_app0]; rfl)
          have b1 := ext_knownB hx (k := s.objs.length + 1) (by rw [objs_app]; rfl)
          have c0 := cellAt_known b0
          have c1 := cellAt_known b1
          have oj := hT.o
          have cj := cellAt_known oj
          repeat' (first | (simp -dsimp only [↓reduceIte, go_sem, c0, c1, cj, hws]) | (refine arr_intro fun _ => ?_) | (refine later_intro ⟨keeps_nil, ?_⟩) | (refine later_intro ⟨keeps_refl, ?_⟩) | (with_reducible refine keeps_go ?_ ?_; focus (first | (simp [keeps_cons, keeps_none, objs_app, objs_app0]; done) | (simp only [keeps_cons, keeps_none, objs_app0, objs_app, and_true]; first | rfl | exact ⟨rfl, rfl⟩ | exact ⟨rfl, rfl, rfl⟩))) | (with_reducible refine (And.intro (a := keeps _ _ _) ?_ ?_); focus (first | (simp [keeps_cons, keeps_none, objs_app, objs_app0]; done) | (simp only [keeps_cons, keeps_none, objs_app0, objs_app, and_true]; first | rfl | exact ⟨rfl, rfl⟩ | exact ⟨rfl, rfl, rfl⟩))) | (refine both_ways ?_ ?_) | (rw [wrap_i64 (by omega) (by omega)]) | (refine guardV_split (fun h => ?_) (fun h => ?_) <;> (try rw [h]) <;> (try simp at h) <;> (try (exfalso; omega))))
          all_goals first | exact hK _ hT | (exfalso; omega) | skip
      · rw [if_neg hroom] at hK
        refine tcalls_walk Try.f15 _ [.tmp 4] Try.func15 rfl rfl rfl mixed (Nat.le_of_ble_eq_true rfl) rfl fun hlen => ?_
        repeat' (first | (simp -dsimp only [↓reduceIte, go_sem, cj, hr, hws]) | (refine arr_intro fun _ => ?_) | (refine later_intro ⟨keeps_nil, ?_⟩) | (refine later_intro ⟨keeps_refl, ?_⟩) | (with_reducible refine keeps_go ?_ ?_; focus (first | (simp [keeps_cons, keeps_none, objs_app, objs_app0]; done) | (simp only [keeps_cons, keeps_none, objs_app0, objs_app, and_true]; first | rfl | exact ⟨rfl, rfl⟩ | exact ⟨rfl, rfl, rfl⟩))) | (with_reducible refine (And.intro (a := keeps _ _ _) ?_ ?_); focus (first | (simp [keeps_cons, keeps_none, objs_app, objs_app0]; done) | (simp only [keeps_cons, keeps_none, objs_app0, objs_app, and_true]; first | rfl | exact ⟨rfl, rfl⟩ | exact ⟨rfl, rfl, rfl⟩))) | (refine both_ways ?_ ?_) | (rw [wrap_i64 (by omega) (by omega)]) | (refine guardV_split (fun h => ?_) (fun h => ?_) <;> (try rw [h]) <;> (try simp at h) <;> (try (exfalso; omega))) | ((refine bright_c ?_)) | (with_reducible refine awp_drawU (id := 6) (.op 0 0 (.op 1 0 (.op 2 0 (.op 3 0 (.op 4 0 (.fork 5 (.op 5 1 (.op 6 0 (.op 7 0 (.op 8 0 (.op 9 1 (.op 10 1 (.op 11 2 .nil))))))) (.op 9 1 (.cut (.op 5 1 (.op 6 2 (.op 7 2 (.op 8 0 (.op 10 1 (.op 11 2 .nil)))))))))))))) (by kernel_rfl) ?_) | (with_reducible refine keeps_go ?_ ?_; focus (simp [keeps_cons, keeps_none, objs_app, objs_app0, oA]; done)) | (with_reducible refine (And.intro (a := keeps _ _ _) ?_ ?_); focus (simp [keeps_cons, keeps_none, objs_app, objs_app0, oA]; done)) | (refine lookupB_none (mA _) hf' ?_))
        all_goals
          refine sused_c (hA _) hB fun s' hx => ?_
          have hT := (hA _).ext hx
          have b0 := ext_knownB hx (k := s.objs.length) (by rw [objs_app0]; rfl)
          have b1 := ext_knownB hx (k := s.objs.length + 1) (by rw [objs_app]; rfl)
          have c0 := cellAt_known b0
          have c1 := cellAt_known b1
          have oj := hT.o
          have cj := cellAt_known oj
          obtain ⟨E', ck', hE', hm', hck', hnd'⟩ := hT.om
          have hf2 := hf
          rw [← hE'] at hf2
          have hnew := hT.put (E := E' ++ [(ck', b)]) (ck := ck' + 1) (fun e he => by
            rcases List.mem_append.1 he with he | he
            · have := hck' e he; omega
            · simp at he; subst he; simp) (by
            rw [List.map_append, List.nodup_append]
            refine ⟨hnd', by simp, fun a ha c hc => ?_⟩
            simp at hc; subst hc
            obtain ⟨e, he, rfl⟩ := List.mem_map.1 ha
            have := hck' e he; omega)
          have e5 : (E' ++ [(ck', b)]).map (·.2) = B ++ [b] := by rw [List.map_append, hE']; rfl
          rw [e5] at hnew
          repeat' (first | (simp -dsimp only [↓reduceIte, go_sem, c0, c1, cj, hws]) | (refine arr_intro fun _ => ?_) | (refine later_intro ⟨keeps_nil, ?_⟩) | (refine later_intro ⟨keeps_refl, ?_⟩) | (with_reducible refine keeps_go ?_ ?_; focus (first | (simp [keeps_cons, keeps_none, objs_app, objs_app0]; done) | (simp only [keeps_cons, keeps_none, objs_app0, objs_app, and_true]; first | rfl | exact ⟨rfl, rfl⟩ | exact ⟨rfl, rfl, rfl⟩))) | (with_reducible refine (And.intro (a := keeps _ _ _) ?_ ?_); focus (first | (simp [keeps_cons, keeps_none, objs_app, objs_app0]; done) | (simp only [keeps_cons, keeps_none, objs_app0, objs_app, and_true]; first | rfl | exact ⟨rfl, rfl⟩ | exact ⟨rfl, rfl, rfl⟩))) | (refine both_ways ?_ ?_) | (rw [wrap_i64 (by omega) (by omega)]) | (refine guardV_split (fun h => ?_) (fun h => ?_) <;> (try rw [h]) <;> (try simp at h) <;> (try (exfalso; omega))) | (with_reducible refine awp_drawT (id := 14) (.op 0 2 (.op 1 2 (.op 2 2 (.op 3 2 (.op 4 2 (.op 5 2 (.op 6 1 .nil))))))) (by kernel_rfl) ?_) | (refine updateB hm' hf2 ?_))
          all_goals first | exact hK _ hnew | (exfalso; omega) | skip
  · rw [if_pos hr] at hK
    refine tcalls_walk Try.f15 _ [.tmp 4] Try.func15 rfl rfl rfl mixed (Nat.le_of_ble_eq_true rfl) rfl fun hlen => ?_
    repeat' (first | (simp -dsimp only [↓reduceIte, go_sem, cj, hr]) | (refine arr_intro fun _ => ?_) | (refine later_intro ⟨keeps_nil, ?_⟩) | (refine later_intro ⟨keeps_refl, ?_⟩) | (with_reducible refine keeps_go ?_ ?_; focus (first | (simp [keeps_cons, keeps_none, objs_app, objs_app0]; done) | (simp only [keeps_cons, keeps_none, objs_app0, objs_app, and_true]; first | rfl | exact ⟨rfl, rfl⟩ | exact ⟨rfl, rfl, rfl⟩))) | (with_reducible refine (And.intro (a := keeps _ _ _) ?_ ?_); focus (first | (simp [keeps_cons, keeps_none, objs_app, objs_app0]; done) | (simp only [keeps_cons, keeps_none, objs_app0, objs_app, and_true]; first | rfl | exact ⟨rfl, rfl⟩ | exact ⟨rfl, rfl, rfl⟩))) | (refine both_ways ?_ ?_) | (rw [wrap_i64 (by omega) (by omega)]) | (refine guardV_split (fun h => ?_) (fun h => ?_) <;> (try rw [h]) <;> (try simp at h) <;> (try (exfalso; omega))) | ((refine bright_c ?_)))
    exact hK _ (hA _)
end
end Go.Aff.L10

/- Layer 11, walked: Prune. -/
-- cuts
namespace Go.Aff.L10
open Go.Proofs Go.Aff Go.Aff.L01 Classical
set_option linter.unusedVariables false
set_option linter.unusedSimpArgs false
set_option maxRecDepth 20000
attribute [local go_sem] push_app app_app length_app cellAt_app cellAt_app0 set_app set_app0 objs_app objs_app0 List.cons_append List.nil_append List.length_cons List.length_nil List.getElem?_cons_zero List.getElem?_cons_succ List.set_cons_zero List.set_cons_succ List.length_map
attribute [-go_sem] cellAt_new
attribute [-simp] List.length_flatMap
attribute [local go_sem] Try.underlying3 Try.underlying4 Try.underlying5 Try.underlying9 Try.underlying36 Try.underlying37 Try.underlying42 Try.underlying45 Try.underlying31 Try.underlying61 subPs_0 subAt_0 subSet_0 subPs_1 subAt_1 subSet_1 subPs_2 subAt_2 subSet_2 subPs_3 subAt_3 subSet_3 subPs_4 subAt_4 subSet_4 subPs_5 subAt_5 subSet_5 sizes_sub shapes_sub fits_sub zero_sub zt_sub built_sub Try.underlying41 pendPs_0 pendAt_0 pendSet_0 pendPs_1 pendAt_1 pendSet_1 pendPs_2 pendAt_2 pendSet_2 pendPs_3 pendAt_3 pendSet_3 pendPs_4 pendAt_4 pendSet_4 pendPs_5 pendAt_5 pendSet_5 sizes_pend shapes_pend fits_pend zero_pend zt_pend built_pend Try.underlying92 repPs_0 repAt_0 repSet_0 repPs_1 repAt_1 repSet_1 repPs_2 repAt_2 repSet_2 repPs_3 repAt_3 repSet_3 repPs_4 repAt_4 repSet_4 repPs_5 repAt_5 repSet_5 repPs_6 repAt_6 repSet_6 repPs_7 repAt_7 repSet_7 repPs_8 repAt_8 repSet_8 repPs_9 repAt_9 repSet_9 sizes_rep shapes_rep fits_rep zero_rep zt_rep built_rep Try.underlying44 blobPs_0 blobAt_0 blobSet_0 blobPs_1 blobAt_1 blobSet_1 blobPs_2 blobAt_2 blobSet_2 blobPs_3 blobAt_3 blobSet_3 sizes_blob shapes_blob fits_blob zero_blob zt_blob built_blob Try.underlying39 msgPs_0 msgAt_0 msgSet_0 msgPs_1 msgAt_1 msgSet_1 msgPs_2 msgAt_2 msgSet_2 msgPs_3 msgAt_3 msgSet_3 msgPs_4 msgAt_4 msgSet_4 msgPs_5 msgAt_5 msgSet_5 msgPs_6 msgAt_6 msgSet_6 msgPs_7 msgAt_7 msgSet_7 msgPs_8 msgAt_8 msgSet_8 msgPs_9 msgAt_9 msgSet_9 sizes_msg shapes_msg fits_msg zero_msg zt_msg built_msg Try.underlying47 at_Ps_0 at_Set_0 at_Ps_1 at_Set_1 sizes_at_ shapes_at_
attribute [local go_sem] fits3 fits4 fits5 fits9 fits23 fits26 fits31 fits34 fits52 zt3 zero3 zt34 zero34 zt23 zero23 bin_sub_eql bin_pend_eql bin_pend_neq bin_blob_eql bin_dig23_eql bin_dig23_neq slice23
attribute [local go_sem ↓] blockQ_exit2
attribute [local simp] dig_ext
attribute [local go_sem] bkeyPs_0 bkeyAt_0 bkeySet_0 bkeyPs_1 bkeyAt_1 bkeySet_1 sizes_bkey shapes_bkey fits_bkey zero_bkey zt_bkey built_bkey Try.underlying95 bin_blob_neq fits58 stAt zero60 zt60 built60 fits60 shape_mp Try.underlying97 Try.underlying99 Try.underlying28
attribute [local go_sem] fits_bkey zero_bkey zt_bkey built_bkey
section
variable {σ0 s : AST} {j mi : Nat} {B : List Blob} {F : List (Nat × AObj)} {K : AV → AST → Prop}
theorem sprune_nil {σ : AST} {o : Int} {l : AV} {K : AV → AST → Prop} (hK : K (.int .i64 0) σ) : TCalls Try.prog 16 [.ptr none, .int .i64 o, l] σ K := by
  refine tcalls_walk Try.f16 _ [.tmp 6] Try.func16 rfl rfl rfl mixed (Nat.le_of_ble_eq_true rfl) rfl fun hlen => ?_
  repeat' (first | (simp -dsimp only [↓reduceIte, go_sem]) | (refine arr_intro fun _ => ?_) | (refine later_intro ⟨keeps_nil, ?_⟩) | (refine later_intro ⟨keeps_refl, ?_⟩) | (with_reducible refine keeps_go ?_ ?_; focus (first | (simp [keeps_cons, keeps_none, objs_app, objs_app0]; done) | (simp only [keeps_cons, keeps_none, objs_app0, objs_app, and_true]; first | rfl | exact ⟨rfl, rfl⟩ | exact ⟨rfl, rfl, rfl⟩))) | (with_reducible refine (And.intro (a := keeps _ _ _) ?_ ?_); focus (first | (simp [keeps_cons, keeps_none, objs_app, objs_app0]; done) | (simp only [keeps_cons, keeps_none, objs_app0, objs_app, and_true]; first | rfl | exact ⟨rfl, rfl⟩ | exact ⟨rfl, rfl, rfl⟩))) | (refine both_ways ?_ ?_) | (rw [wrap_i64 (by omega) (by omega)]) | (refine guardV_split (fun h => ?_) (fun h => ?_) <;> (try rw [h]) <;> (try simp at h) <;> (try (exfalso; omega))))
  exact hK
theorem sprune_c (h : SF σ0 s j mi B F) (hB : BOk B) {o : Int} {tl : Tk} {l : List Int} (hK : ∀ s', SF σ0 s' j mi (bprune B o l).1 F → K (.int .i64 (bprune B o l).2) s') : TCalls Try.prog 16 [.ptr (some (j, [])), .int .i64 o, .slice tl (l.map (AV.int .i64))] s K := by
  refine tcalls_walk Try.f16 _ [.tmp 6] Try.func16 rfl rfl rfl mixed (Nat.le_of_ble_eq_true rfl) rfl fun hlen => ?_
  have hll : l.length ≤ 9223372036854775807 := by
    have := hlen (.slice tl (l.map (AV.int .i64))) (by simp)
    simp only [lenOk, List.length_map, maxL] at this; exact this
  repeat' (first | (simp -dsimp only [↓reduceIte, go_sem]) | (refine arr_intro fun _ => ?_) | (refine later_intro ⟨keeps_nil, ?_⟩) | (refine later_intro ⟨keeps_refl, ?_⟩) | (with_reducible refine keeps_go ?_ ?_; focus (first | (simp [keeps_cons, keeps_none, objs_app, objs_app0]; done) | (simp only [keeps_cons, keeps_none, objs_app0, objs_app, and_true]; first | rfl | exact ⟨rfl, rfl⟩ | exact ⟨rfl, rfl, rfl⟩))) | (with_reducible refine (And.intro (a := keeps _ _ _) ?_ ?_); focus (first | (simp [keeps_cons, keeps_none, objs_app, objs_app0]; done) | (simp only [keeps_cons, keeps_none, objs_app0, objs_app, and_true]; first | rfl | exact ⟨rfl, rfl⟩ | exact ⟨rfl, rfl, rfl⟩))) | (refine both_ways ?_ ?_) | (rw [wrap_i64 (by omega) (by omega)]) | (refine guardV_split (fun h => ?_) (fun h => ?_) <;> (try rw [h]) <;> (try simp at h) <;> (try (exfalso; omega))))
  refine awp_rounds (fun (i : Nat) τ s' => i ≤ l.length ∧ SF σ0 s' j mi (bprune B o (l.take i)).1 F ∧ τ 0 = .ptr (some (j, [])) ∧ τ 1 = .int .i64 o ∧ τ 7 = .int .i64 (bprune B o (l.take i)).2 ∧ τ 16 = .slice tl (l.map (AV.int .i64)) ∧ τ 17 = .int .i64 l.length ∧ τ 18 = .int .i64 i) (fun i => l.length - i) 0 ?_ ?_
  · refine ⟨by omega, h, ?_, ?_, ?_, ?_, ?_, ?_⟩ <;> (try simp only [go_sem]) <;> (try rfl)
  · rintro i τ s' ⟨hi, hT, t0, t1, t7, t16, t17, t18⟩
    have hBi := hB.prune_take o l i hi
    have hle := prune_le (B := B) (o := o) i hi
    by_cases hlt : i < l.length
    · have hlt1 : (i : Int) < l.length := by omega
      have hp : l[i]? = some l[i] := List.getElem?_eq_getElem hlt
      generalize l[i] = n at hp
      have hnx := bprune_next (B := B) (o := o) hp
      generalize hC : bprune B o (l.take i) = C at *
      obtain ⟨C, c⟩ := C
      simp only at hT hBi hle hnx t7
      have hA := fun l => hT.ext (Ext.app s' l)
      have oA := fun l => (hA l).o
      have cj := fun l => cellAt_known (oA l)
      obtain ⟨E, ck, hE, hm, hck, hnd⟩ := hT.om
      have mA := fun l => objs_known_app hm l
      have hjl := hT.lt
      have w1 : IntKind.i64.wrap ((c : Int) + 1) = ((c + 1 : Nat) : Int) := by rw [wrap_i64 (by omega) (by omega)]; simp
      cases hf : bfind C o n with
      | some k =>
        obtain ⟨b, hb, _⟩ := bfind_some hf
        have h1 : bprune1 C o n = (C.eraseIdx k, 1) := by unfold bprune1; rw [hf]
        rw [h1] at hnx
        have hne : ∀ L, SF σ0 ((s'.app L).set mi (.map ((E.eraseIdx k).map entB) ck)) j mi (C.eraseIdx k) F := fun L => by
          have := (hA L).put (E := E.eraseIdx k) (ck := ck) (fun e he => hck e (List.mem_of_mem_eraseIdx he)) (by
            have e0 : (E.eraseIdx k).map (·.1) = (E.map (·.1)).eraseIdx k := by rw [List.eraseIdx_eq_take_drop_succ, List.eraseIdx_eq_take_drop_succ, List.map_append, List.map_take, List.map_drop]
            rw [e0]; exact hnd.sublist (List.eraseIdx_sublist ..))
          have e1 : (E.eraseIdx k).map (·.2) = C.eraseIdx k := by rw [List.eraseIdx_eq_take_drop_succ, List.map_append, List.map_take, List.map_drop, hE, ← List.eraseIdx_eq_take_drop_succ]
          rwa [e1] at this
        rw [← hE] at hf hb
        repeat' (first | (simp -dsimp only [↓reduceIte, go_sem, cj, t0, t1, t7, t16, t17, t18, hlt1, w1]) | (refine arr_intro fun _ => ?_) | (refine later_intro ⟨keeps_nil, ?_⟩) | (refine later_intro ⟨keeps_refl, ?_⟩) | (with_reducible refine keeps_go ?_ ?_; focus (first | (simp [keeps_cons, keeps_none, objs_app, objs_app0]; done) | (simp only [keeps_cons, keeps_none, objs_app0, objs_app, and_true]; first | rfl | exact ⟨rfl, rfl⟩ | exact ⟨rfl, rfl, rfl⟩))) | (with_reducible refine (And.intro (a := keeps _ _ _) ?_ ?_); focus (first | (simp [keeps_cons, keeps_none, objs_app, objs_app0]; done) | (simp only [keeps_cons, keeps_none, objs_app0, objs_app, and_true]; first | rfl | exact ⟨rfl, rfl⟩ | exact ⟨rfl, rfl, rfl⟩))) | (refine both_ways ?_ ?_) | (rw [wrap_i64 (by omega) (by omega)]) | (refine guardV_split (fun h => ?_) (fun h => ?_) <;> (try rw [h]) <;> (try simp at h) <;> (try (exfalso; omega))) | (with_reducible refine awp_drawU (id := 8) (.op 0 0 (.op 1 0 (.op 2 0 (.op 3 0 (.op 4 0 (.fork 5 (.op 5 1 (.op 6 0 (.op 7 0 (.op 8 0 (.op 9 1 (.op 10 1 (.op 11 2 .nil))))))) (.op 9 1 (.cut (.op 5 1 (.op 6 2 (.op 7 2 (.op 8 0 (.op 10 1 (.op 11 2 .nil)))))))))))))) (by kernel_rfl) ?_) | (with_reducible refine keeps_go ?_ ?_; focus (simp [keeps_cons, keeps_none, objs_app, objs_app0, oA]; done)) | (with_reducible refine (And.intro (a := keeps _ _ _) ?_ ?_); focus (simp [keeps_cons, keeps_none, objs_app, objs_app0, oA]; done)) | (with_reducible refine awp_drawT (id := 10) (.op 0 2 (.op 1 2 (.op 2 2 (.op 3 2 (.op 4 2 (.op 5 1 .nil)))))) (by kernel_rfl) ?_) | (refine nth_get hp ?_) | (refine lookupB_some (mA _) hf hb ?_) | (refine deleteB (mA _) hf ?_))
        all_goals (refine later_intro ⟨i + 1, by omega, by omega, ?_, ?_, ?_, ?_, ?_, ?_, ?_⟩ <;> (try simp only [go_sem, t0, t1, t7, t16, t17, t18, hnx]) <;> (try rfl))
        all_goals exact hne _
      | none =>
        have h1 : bprune1 C o n = (C, 0) := by unfold bprune1; rw [hf]
        rw [h1] at hnx
        rw [← hE] at hf
        repeat' (first | (simp -dsimp only [↓reduceIte, go_sem, cj, t0, t1, t7, t16, t17, t18, hlt1, w1]) | (refine arr_intro fun _ => ?_) | (refine later_intro ⟨keeps_nil, ?_⟩) | (refine later_intro ⟨keeps_refl, ?_⟩) | (with_reducible refine keeps_go ?_ ?_; focus (first | (simp [keeps_cons, keeps_none, objs_app, objs_app0]; done) | (simp only [keeps_cons, keeps_none, objs_app0, objs_app, and_true]; first | rfl | exact ⟨rfl, rfl⟩ | exact ⟨rfl, rfl, rfl⟩))) | (with_reducible refine (And.intro (a := keeps _ _ _) ?_ ?_); focus (first | (simp [keeps_cons, keeps_none, objs_app, objs_app0]; done) | (simp only [keeps_cons, keeps_none, objs_app0, objs_app, and_true]; first | rfl | exact ⟨rfl, rfl⟩ | exact ⟨rfl, rfl, rfl⟩))) | (refine both_ways ?_ ?_) | (rw [wrap_i64 (by omega) (by omega)]) | (refine guardV_split (fun h => ?_) (fun h => ?_) <;> (try rw [h]) <;> (try simp at h) <;> (try (exfalso; omega))) | (with_reducible refine awp_drawU (id := 8) (.op 0 0 (.op 1 0 (.op 2 0 (.op 3 0 (.op 4 0 (.fork 5 (.op 5 1 (.op 6 0 (.op 7 0 (.op 8 0 (.op 9 1 (.op 10 1 (.op 11 2 .nil))))))) (.op 9 1 (.cut (.op 5 1 (.op 6 2 (.op 7 2 (.op 8 0 (.op 10 1 (.op 11 2 .nil)))))))))))))) (by kernel_rfl) ?_) | (with_reducible refine keeps_go ?_ ?_; focus (simp [keeps_cons, keeps_none, objs_app, objs_app0, oA]; done)) | (with_reducible refine (And.intro (a := keeps _ _ _) ?_ ?_); focus (simp [keeps_cons, keeps_none, objs_app, objs_app0, oA]; done)) | (with_reducible refine awp_drawT (id := 10) (.op 0 2 (.op 1 2 (.op 2 2 (.op 3 2 (.op 4 2 (.op 5 1 .nil)))))) (by kernel_rfl) ?_) | (refine nth_get hp ?_) | (refine lookupB_none (mA _) hf ?_))
        all_goals (refine later_intro ⟨i + 1, by omega, by omega, ?_, ?_, ?_, ?_, ?_, ?_, ?_⟩ <;> (try simp only [go_sem, t0, t1, t7, t16, t17, t18, hnx]) <;> (try rfl))
        all_goals exact hA _
    · obtain rfl : i = l.length := by omega
      have hlt1 : ¬ ((l.length : Nat) : Int) < l.length := by omega
      rw [List.take_length] at hT t7
      repeat' (first | (simp -dsimp only [↓reduceIte, go_sem, t0, t1, t7, t16, t17, t18, hlt1]) | (refine arr_intro fun _ => ?_) | (refine later_intro ⟨keeps_nil, ?_⟩) | (refine later_intro ⟨keeps_refl, ?_⟩) | (with_reducible refine keeps_go ?_ ?_; focus (first | (simp [keeps_cons, keeps_none, objs_app, objs_app0]; done) | (simp only [keeps_cons, keeps_none, objs_app0, objs_app, and_true]; first | rfl | exact ⟨rfl, rfl⟩ | exact ⟨rfl, rfl, rfl⟩))) | (with_reducible refine (And.intro (a := keeps _ _ _) ?_ ?_); focus (first | (simp [keeps_cons, keeps_none, objs_app, objs_app0]; done) | (simp only [keeps_cons, keeps_none, objs_app0, objs_app, and_true]; first | rfl | exact ⟨rfl, rfl⟩ | exact ⟨rfl, rfl, rfl⟩))) | (refine both_ways ?_ ?_) | (rw [wrap_i64 (by omega) (by omega)]) | (refine guardV_split (fun h => ?_) (fun h => ?_) <;> (try rw [h]) <;> (try simp at h) <;> (try (exfalso; omega))))
      exact hK _ hT
end
end Go.Aff.L10

/- Layer 12: structs. -/
namespace Go.Aff.L10
open Go.Proofs Go.Aff Go.Aff.L01 Classical
set_option linter.unusedVariables false
set_option linter.unusedSimpArgs false
set_option maxRecDepth 20000
structure Cli where
  last : Sub
  reply : Rep
  view : List UInt8
  tag : Dig
def cli0 : Cli := ⟨sub0, rep0, [], dig0⟩
def cliPs (t0 : Tk) (x : Cli) : List AV := [.agg (subPs x.last), .agg (repPs t0 x.reply), .str x.view, .dig x.tag]
abbrev cliV (t0 : Tk) (x : Cli) : AV := .agg (cliPs t0 x)
theorem cliPs_0 {t0 : Tk} {x : Cli} : (cliPs t0 x)[0]? = some (.agg (subPs x.last)) := nr rfl
theorem cliAt_0 {t0 : Tk} {x : Cli} {v : AV} : partIs Try.prog 86 (cliPs t0 x) 0 v = fits Try.prog 41 v := by rw [partIs_of (o := 0) (T := 41) (by kernel_rfl)]; simp [cliPs, AV.sizes, AV.size]
theorem cliSet_0 {t0 : Tk} {x : Cli} {y : Sub} : (cliPs t0 x).set 0 (.agg (subPs y)) = cliPs t0 { x with last := y } := nr rfl
theorem cliPs_1 {t0 : Tk} {x : Cli} : (cliPs t0 x)[1]? = some (.agg (repPs t0 x.reply)) := nr rfl
theorem cliAt_1 {t0 : Tk} {x : Cli} {v : AV} : partIs Try.prog 86 (cliPs t0 x) 1 v = fits Try.prog 44 v := by rw [partIs_of (o := 68) (T := 44) (by kernel_rfl)]; simp [cliPs, AV.sizes, AV.size, sizes_sub]
theorem cliSet_1 {t0 : Tk} {u0 : Tk} {x : Cli} {y : Rep} : (cliPs t0 x).set 1 (.agg (repPs u0 y)) = cliPs u0 { x with reply := y } := nr rfl
theorem cliPs_2 {t0 : Tk} {x : Cli} : (cliPs t0 x)[2]? = some (.str x.view) := nr rfl
theorem cliAt_2 {t0 : Tk} {x : Cli} {v : AV} : partIs Try.prog 86 (cliPs t0 x) 2 v = fits Try.prog 9 v := by rw [partIs_of (o := 171) (T := 9) (by kernel_rfl)]; simp [cliPs, AV.sizes, AV.size, sizes_sub, sizes_rep]
theorem cliSet_2 {t0 : Tk} {x : Cli} {y : List UInt8} : (cliPs t0 x).set 2 (.str y) = cliPs t0 { x with view := y } := nr rfl
theorem cliPs_3 {t0 : Tk} {x : Cli} : (cliPs t0 x)[3]? = some (.dig x.tag) := nr rfl
theorem cliAt_3 {t0 : Tk} {x : Cli} {v : AV} : partIs Try.prog 86 (cliPs t0 x) 3 v = fits Try.prog 37 v := by rw [partIs_of (o := 172) (T := 37) (by kernel_rfl)]; simp [cliPs, AV.sizes, AV.size, sizes_sub, sizes_rep]
theorem cliSet_3 {t0 : Tk} {x : Cli} {y : Dig} : (cliPs t0 x).set 3 (.dig y) = cliPs t0 { x with tag := y } := nr rfl
theorem sizes_cli {t0 : Tk} {x : Cli} : AV.sizes (cliPs t0 x) = 204 := by simp [cliPs, AV.sizes, AV.size, sizes_sub, sizes_rep]
theorem shapes_cli {t0 : Tk} {x : Cli} : AV.shapes (cliPs t0 x) = [.node [.leaf, .leaf, .leaf, .leaf, .dig, .dig], .node [.leaf, .leaf, .leaf, .dig, .leaf, .leaf, .leaf, .dig, .leaf, .dig], .leaf, .dig] := by simp [cliPs, AV.shapes, AV.shape, shapes_sub, shapes_rep]
theorem fits_cli {v : AV} : fits Try.prog 86 v = (v.isAgg = true ∧ v.size = 204) := fits_agg (by kernel_rfl) (by kernel_rfl)
theorem zero_cli : zeroA Try.prog 12 86 = .agg (cliPs .full cli0) := by kernel_rfl
theorem zt_cli : ZeroOf Try.prog 86 (.agg (cliPs .full cli0)) = True := eq_true ⟨_, _, rfl, rfl, rfl, rfl, rfl⟩
theorem built_cli : Built Try.prog 86 = True := eq_true (by unfold Built; rw [Try.underlying86]; decide +kernel)
structure Rg where
  n : Int
  cs : List (Tk × Cli)
  by_ : Int
  long : List UInt8
  tag : Dig
  pend : List Pend
def cliP (c : Tk × Cli) : AV := cliV c.1 c.2
def rgPs (t0 : Tk) (x : Rg) : List AV := [.int .i64 x.n, .agg (x.cs.map cliP), .int .i64 x.by_, .str x.long, .dig x.tag, .slice t0 (x.pend.map pendV)]
abbrev rgV (t0 : Tk) (x : Rg) : AV := .agg (rgPs t0 x)
theorem sizes_clis {cs : List (Tk × Cli)} : AV.sizes (cs.map cliP) = cs.length * 204 := by
  induction cs with
  | nil => rfl
  | cons c cs ih => simp only [List.map_cons, AV.sizes, ih, cliP, AV.size, sizes_cli, List.length_cons]; omega
def rg0 : Rg := ⟨0, List.replicate 8 (.full, cli0), 0, [], dig0, []⟩
section
variable {t0 u0 : Tk} {x : Rg} {v : AV}
theorem rgPs_0 : (rgPs t0 x)[0]? = some (.int .i64 x.n) := nr rfl
theorem rgPs_1 : (rgPs t0 x)[1]? = some (.agg (x.cs.map cliP)) := nr rfl
theorem rgPs_2 : (rgPs t0 x)[2]? = some (.int .i64 x.by_) := nr rfl
theorem rgPs_3 : (rgPs t0 x)[3]? = some (.str x.long) := nr rfl
theorem rgPs_4 : (rgPs t0 x)[4]? = some (.dig x.tag) := nr rfl
theorem rgPs_5 : (rgPs t0 x)[5]? = some (.slice t0 (x.pend.map pendV)) := nr rfl
theorem rgSet_0 {y : Int} : (rgPs t0 x).set 0 (.int .i64 y) = rgPs t0 { x with n := y } := nr rfl
theorem rgSet_2 {y : Int} : (rgPs t0 x).set 2 (.int .i64 y) = rgPs t0 { x with by_ := y } := nr rfl
theorem rgSet_3 {y : List UInt8} : (rgPs t0 x).set 3 (.str y) = rgPs t0 { x with long := y } := nr rfl
theorem rgSet_4 {y : Dig} : (rgPs t0 x).set 4 (.dig y) = rgPs t0 { x with tag := y } := nr rfl
theorem rgSet_5 {y : List Pend} : (rgPs t0 x).set 5 (.slice u0 (y.map pendV)) = rgPs u0 { x with pend := y } := nr rfl
theorem rgAt_0 : partIs Try.prog 89 (rgPs t0 x) 0 v = fits Try.prog 3 v := by rw [partIs_of (o := 0) (T := 3) (by kernel_rfl)]; simp [rgPs, AV.sizes, AV.size]
theorem rgAt_1 : partIs Try.prog 89 (rgPs t0 x) 1 v = fits Try.prog 87 v := by rw [partIs_of (o := 1) (T := 87) (by kernel_rfl)]; simp [rgPs, AV.sizes, AV.size]
theorem rgAt_2 (h : x.cs.length = 8) : partIs Try.prog 89 (rgPs t0 x) 2 v = fits Try.prog 3 v := by rw [partIs_of (o := 1633) (T := 3) (by kernel_rfl)]; simp [rgPs, AV.sizes, AV.size, sizes_clis, h]
theorem rgAt_3 (h : x.cs.length = 8) : partIs Try.prog 89 (rgPs t0 x) 3 v = fits Try.prog 9 v := by rw [partIs_of (o := 1634) (T := 9) (by kernel_rfl)]; simp [rgPs, AV.sizes, AV.size, sizes_clis, h]
theorem rgAt_4 (h : x.cs.length = 8) : partIs Try.prog 89 (rgPs t0 x) 4 v = fits Try.prog 37 v := by rw [partIs_of (o := 1635) (T := 37) (by kernel_rfl)]; simp [rgPs, AV.sizes, AV.size, sizes_clis, h]
theorem rgAt_5 (h : x.cs.length = 8) : partIs Try.prog 89 (rgPs t0 x) 5 v = fits Try.prog 42 v := by rw [partIs_of (o := 1667) (T := 42) (by kernel_rfl)]; simp [rgPs, AV.sizes, AV.size, sizes_clis, h]
theorem sizes_rg (h : x.cs.length = 8) : AV.sizes (rgPs t0 x) = 1668 := by simp [rgPs, AV.sizes, AV.size, sizes_clis, h]
end
theorem fits_rg {v : AV} : fits Try.prog 89 v = (v.isAgg = true ∧ v.size = 1668) := fits_agg (by kernel_rfl) (by kernel_rfl)
theorem zero_rg : zeroA Try.prog 12 89 = .agg (rgPs .full rg0) := by kernel_rfl
theorem zt_rg : ZeroOf Try.prog 89 (.agg (rgPs .full rg0)) = True := eq_true ⟨_, _, rfl, rfl, rfl, rfl, rfl⟩
theorem built_rg : Built Try.prog 89 = True := eq_true (by unfold Built; rw [Try.underlying89]; decide +kernel)
theorem fits66 {v : AV} : fits Try.prog 87 v = (v.isAgg = true ∧ v.size = 1632) := fits_agg (by kernel_rfl) (by kernel_rfl)
end Go.Aff.L10

