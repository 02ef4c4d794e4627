import Derived.Test.YtndndlofepehiaaG26
import Derived.Test.YtndndlofepehiaaG27
import Derived.Test.YtndndlofepehiaaG25

set_option linter.unusedSimpArgs false
set_option linter.unusedVariables false

/- Layer 12, walked: clients, numbers, views. -/
-- cuts
namespace Go.Aff.L10
open Go.Proofs Go.Aff Go.Aff.L01 Classical
set_option linter.unusedVariables false
set_option linter.unusedSimpArgs false
set_option maxRecDepth 20000
attribute [local go_sem] push_app app_app length_app cellAt_app cellAt_app0 set_app set_app0 objs_app objs_app0 List.cons_append List.nil_append List.length_cons List.length_nil List.getElem?_cons_zero List.getElem?_cons_succ List.set_cons_zero List.set_cons_succ List.length_map
attribute [-go_sem] cellAt_new
attribute [-simp] List.length_flatMap
attribute [local go_sem] Try.underlying3 Try.underlying4 Try.underlying5 Try.underlying9 Try.underlying31 Try.underlying32 Try.underlying41 Try.underlying75 Try.underlying24 Try.underlying81 subPs_0 subAt_0 subSet_0 subPs_1 subAt_1 subSet_1 subPs_2 subAt_2 subSet_2 subPs_3 subAt_3 subSet_3 subPs_4 subAt_4 subSet_4 subPs_5 subAt_5 subSet_5 sizes_sub shapes_sub fits_sub zero_sub zt_sub built_sub Try.underlying34 pendPs_0 pendAt_0 pendSet_0 pendPs_1 pendAt_1 pendSet_1 pendPs_2 pendAt_2 pendSet_2 pendPs_3 pendAt_3 pendSet_3 pendPs_4 pendAt_4 pendSet_4 pendPs_5 pendAt_5 pendSet_5 sizes_pend shapes_pend fits_pend zero_pend zt_pend built_pend Try.underlying70 repPs_0 repAt_0 repSet_0 repPs_1 repAt_1 repSet_1 repPs_2 repAt_2 repSet_2 repPs_3 repAt_3 repSet_3 repPs_4 repAt_4 repSet_4 repPs_5 repAt_5 repSet_5 repPs_6 repAt_6 repSet_6 repPs_7 repAt_7 repSet_7 repPs_8 repAt_8 repSet_8 repPs_9 repAt_9 repSet_9 sizes_rep shapes_rep fits_rep zero_rep zt_rep built_rep Try.underlying43 blobPs_0 blobAt_0 blobSet_0 blobPs_1 blobAt_1 blobSet_1 blobPs_2 blobAt_2 blobSet_2 blobPs_3 blobAt_3 blobSet_3 sizes_blob shapes_blob fits_blob zero_blob zt_blob built_blob Try.underlying74 msgPs_0 msgAt_0 msgSet_0 msgPs_1 msgAt_1 msgSet_1 msgPs_2 msgAt_2 msgSet_2 msgPs_3 msgAt_3 msgSet_3 msgPs_4 msgAt_4 msgSet_4 msgPs_5 msgAt_5 msgSet_5 msgPs_6 msgAt_6 msgSet_6 msgPs_7 msgAt_7 msgSet_7 msgPs_8 msgAt_8 msgSet_8 msgPs_9 msgAt_9 msgSet_9 sizes_msg shapes_msg fits_msg zero_msg zt_msg built_msg Try.underlying77 at_Ps_0 at_Set_0 at_Ps_1 at_Set_1 sizes_at_ shapes_at_
attribute [local go_sem] fits3 fits4 fits5 fits9 fits23 fits26 fits31 fits34 fits52 zt3 zero3 zt34 zero34 zt23 zero23 bin_sub_eql bin_pend_eql bin_pend_neq bin_blob_eql bin_dig23_eql bin_dig23_neq slice23
attribute [local go_sem ↓] blockQ_exit2
attribute [local simp] dig_ext
attribute [local go_sem] cliPs_0 cliAt_0 cliSet_0 cliPs_1 cliAt_1 cliSet_1 cliPs_2 cliAt_2 cliSet_2 cliPs_3 cliAt_3 cliSet_3 sizes_cli shapes_cli fits_cli zero_cli zt_cli built_cli actPs_0 actAt_0 actSet_0 actPs_1 actAt_1 actSet_1 actPs_2 actAt_2 actSet_2 actPs_3 actAt_3 actSet_3 actPs_4 actAt_4 actSet_4 sizes_act shapes_act fits_act zero_act zt_act built_act rgPs_0 rgPs_1 rgPs_2 rgPs_3 rgPs_4 rgPs_5 rgSet_0 rgSet_2 rgSet_3 rgSet_4 rgSet_5 rgAt_0 rgAt_1 fits_rg zero_rg zt_rg built_rg fits66 rrgPs_0 rrgSet_0 rrgAt_0 rrgPs_1 rrgSet_1 rrgAt_1 rrgPs_2 rrgSet_2 rrgAt_2 rrgPs_3 rrgSet_3 rrgAt_3 rrgPs_4 rrgSet_4 rrgAt_4 rrgPs_5 rrgSet_5 rrgAt_5 rrgPs_6 rrgSet_6 rrgAt_6 rrgPs_7 rrgSet_7 rrgAt_7 sizes_rrg shapes_rrg fits_rrg zero_rrg zt_rrg built_rrg fits57 fits58 fits39 fits59 fits23r fits41 arrV_none arrV_some arrV_size arrV_agg arrV_shape Try.underlying22 Try.underlying23 Try.underlying28 Try.underlying36 Try.underlying39 Try.underlying57 Try.underlying58 Try.underlying59 Try.underlying61 Try.underlying65 Try.underlying66 Try.underlying68 Try.underlying78
section
variable {s : AST} {j k : Nat} {o : AObj} {v : AV} {p : List Nat}
theorem cellAt_setS (h : k < s.objs.length) : cellAt (s.set k (.cells v)) k p = v.at p := cellAt_known (by simp only [AST.set]; rw [List.getElem?_set_self h]) p
theorem cellAt_setN (h : j ≠ k) : cellAt (s.set j o) k p = cellAt s k p := by simp only [cellAt, AST.set]; rw [List.getElem?_set_ne h]
theorem objs_setS (h : k < s.objs.length) : (s.set k o).objs[k]? = some o := by simp only [AST.set]; rw [List.getElem?_set_self h]
theorem objs_setN (h : j ≠ k) : (s.set j o).objs[k]? = s.objs[k]? := by simp only [AST.set]; rw [List.getElem?_set_ne h]
end
theorem ext_known {a b : AST} {k : Nat} {o : AObj} (h : Ext a b) (ho : a.objs[k]? = some o) : b.objs[k]? = some o := by
  obtain ⟨O, T, rfl⟩ := h
  rw [List.getElem?_append_left (List.getElem?_eq_some_iff.1 ho).1]; exact ho
/-- The registers in memory, and what else is known of memory. -/
structure PF (σ0 s : AST) (j : Nat) (R : Rg) (F : List (Nat × AObj)) : Prop where
  x : Ext σ0 s
  jn : σ0.objs.length ≤ j
  h8 : R.cs.length = 8
  o : ∃ tk, s.objs[j]? = some (.cells (rgV tk R))
  f : ∀ x ∈ F, x.1 ≠ j ∧ s.objs[x.1]? = some x.2
theorem PF.ext {σ0 s s2 : AST} {j : Nat} {R : Rg} {F : List (Nat × AObj)} (h : PF σ0 s j R F) (e : Ext s s2) : PF σ0 s2 j R F := by
  obtain ⟨t, o⟩ := h.o
  exact ⟨h.x.trans e, h.jn, h.h8, ⟨t, ext_known e o⟩, fun y hy => ⟨(h.f y hy).1, ext_known e (h.f y hy).2⟩⟩
theorem index_cli {σ : AST} {tk : Tk} {R : Rg} {j i : Nat} {c : Tk × Cli} {q : IntKind} {KV : AV → Prop} (o : σ.objs[j]? = some (.cells (rgV tk R))) (h8 : R.cs.length = 8) (hc : R.cs[i]? = some c)
    (hK : KV (.ptr (some (j, [1, i])))) : indexAddrW Try.prog σ 66 (.ptr (some (j, [1]))) (.int q i) KV := by
  have hi := (List.getElem?_eq_some_iff.1 hc).1
  have e1 : (rgV tk R).at [1] = some (.agg (R.cs.map cliP)) := rfl
  simp only [indexAddrW, o, e1]
  refine ⟨by omega, by simpa using hi, fun x hx => ?_⟩
  have hx' : x = cliP c := by
    have : (R.cs.map cliP)[i]? = some (cliP c) := by simp [hc]
    have h2 : (R.cs.map cliP)[(i : Int).toNat]? = some x := hx
    rw [Int.toNat_natCast, this] at h2; exact (Option.some.inj h2).symm
  subst hx'
  refine ⟨⟨65, ?_, ?_⟩, ⟨65, ?_⟩, ?_⟩
  · have e2 : Try.prog.cellsOf 65 = 204 := by kernel_rfl
    rw [Int.toNat_natCast, ← List.map_take, sizes_clis]
    simp only [placeOf, Try.underlying66]
    rw [if_pos (by omega), e2, List.length_take]
    congr 2; rw [Nat.min_eq_left (by omega)]
  · rw [fits_cli]; exact ⟨rfl, by simp [cliP, AV.size, sizes_cli]⟩
  · rw [Try.underlying66, List.length_map, h8]
  · rw [Int.toNat_natCast]; exact hK
theorem sz8 {R : Rg} (h : R.cs.length = 8) : AV.sizes (R.cs.map cliP) = 1632 := by rw [sizes_clis, h]
theorem rg_at {tk : Tk} {R : Rg} {i : Nat} {c : Tk × Cli} (hc : R.cs[i]? = some c) (q : List Nat) : (rgV tk R).at (1 :: i :: q) = (cliV c.1 c.2).at q := by
  simp [AV.at, rgPs, hc, cliP]
section
variable {σ0 s : AST} {j : Nat} {R : Rg} {F : List (Nat × AObj)} {K : AV → AST → Prop}
theorem rgIs_nil {i : Int} (hK : K (.bool false) s) : TCalls Try.prog 27 [.ptr none, .int .i64 i] s K := by
  refine tcalls_walk Try.f27 _ [.tmp 4] Try.func27 rfl rfl rfl mixed (Nat.le_of_ble_eq_true rfl) rfl fun hlen => ?_
  repeat' (first | (simp -dsimp only [↓reduceIte, go_sem]) | (refine arr_intro fun _ => ?_) | (refine later_intro ⟨keeps_nil, ?_⟩) | (refine later_intro ⟨keeps_refl, ?_⟩) | (with_reducible refine keeps_go ?_ ?_; focus (first | (simp [keeps_cons, keeps_none, objs_app, objs_app0]; done) | (simp only [keeps_cons, keeps_none, objs_app0, objs_app, and_true]; first | rfl | exact ⟨rfl, rfl⟩ | exact ⟨rfl, rfl, rfl⟩))) | (with_reducible refine (And.intro (a := keeps _ _ _) ?_ ?_); focus (first | (simp [keeps_cons, keeps_none, objs_app, objs_app0]; done) | (simp only [keeps_cons, keeps_none, objs_app0, objs_app, and_true]; first | rfl | exact ⟨rfl, rfl⟩ | exact ⟨rfl, rfl, rfl⟩))) | (refine both_ways ?_ ?_) | (rw [wrap_i64 (by omega) (by omega)]) | (refine guardV_split (fun h => ?_) (fun h => ?_) <;> (try rw [h]) <;> (try simp at h) <;> (try (exfalso; omega))))
  exact hK
theorem rgIs_c (hP : PF σ0 s j R F) {i : Int} (hK : K (.bool (decide (0 ≤ i ∧ i < R.n))) s) : TCalls Try.prog 27 [.ptr (some (j, [])), .int .i64 i] s K := by
  obtain ⟨tk, o⟩ := hP.o
  have c0 := cellAt_known o
  refine tcalls_walk Try.f27 _ [.tmp 4] Try.func27 rfl rfl rfl mixed (Nat.le_of_ble_eq_true rfl) rfl fun hlen => ?_
  repeat' (first | (simp -dsimp only [↓reduceIte, go_sem, c0]) | (refine arr_intro fun _ => ?_) | (refine later_intro ⟨keeps_nil, ?_⟩) | (refine later_intro ⟨keeps_refl, ?_⟩) | (with_reducible refine keeps_go ?_ ?_; focus (first | (simp [keeps_cons, keeps_none, objs_app, objs_app0]; done) | (simp only [keeps_cons, keeps_none, objs_app0, objs_app, and_true]; first | rfl | exact ⟨rfl, rfl⟩ | exact ⟨rfl, rfl, rfl⟩))) | (with_reducible refine (And.intro (a := keeps _ _ _) ?_ ?_); focus (first | (simp [keeps_cons, keeps_none, objs_app, objs_app0]; done) | (simp only [keeps_cons, keeps_none, objs_app0, objs_app, and_true]; first | rfl | exact ⟨rfl, rfl⟩ | exact ⟨rfl, rfl, rfl⟩))) | (refine both_ways ?_ ?_) | (rw [wrap_i64 (by omega) (by omega)]) | (refine guardV_split (fun h => ?_) (fun h => ?_) <;> (try rw [h]) <;> (try simp at h) <;> (try (exfalso; omega))))
  all_goals
    refine bool_endD hK ?_
    constructor <;> intro hh <;> simp_all <;> omega
theorem rgNumber_bad (hP : PF σ0 s j R F) {i : Int} (hi : ¬ (0 ≤ i ∧ i < R.n)) (hK : K (.int .i64 0) s) : TCalls Try.prog 12 [.ptr (some (j, [])), .int .i64 i] s K := by
  refine tcalls_walk Try.f12 _ [.tmp 4] Try.func12 rfl rfl rfl mixed (Nat.le_of_ble_eq_true rfl) rfl fun hlen => ?_
  simp -dsimp only [↓reduceIte, go_sem]
  refine rgIs_c hP ?_
  rw [decide_eq_false hi]
  repeat' (first | (simp -dsimp only [↓reduceIte, go_sem]) | (refine arr_intro fun _ => ?_) | (refine later_intro ⟨keeps_nil, ?_⟩) | (refine later_intro ⟨keeps_refl, ?_⟩) | (with_reducible refine keeps_go ?_ ?_; focus (first | (simp [keeps_cons, keeps_none, objs_app, objs_app0]; done) | (simp only [keeps_cons, keeps_none, objs_app0, objs_app, and_true]; first | rfl | exact ⟨rfl, rfl⟩ | exact ⟨rfl, rfl, rfl⟩))) | (with_reducible refine (And.intro (a := keeps _ _ _) ?_ ?_); focus (first | (simp [keeps_cons, keeps_none, objs_app, objs_app0]; done) | (simp only [keeps_cons, keeps_none, objs_app0, objs_app, and_true]; first | rfl | exact ⟨rfl, rfl⟩ | exact ⟨rfl, rfl, rfl⟩))) | (refine both_ways ?_ ?_) | (rw [wrap_i64 (by omega) (by omega)]) | (refine guardV_split (fun h => ?_) (fun h => ?_) <;> (try rw [h]) <;> (try simp at h) <;> (try (exfalso; omega))))
  exact hK
theorem rgNumber_c (hP : PF σ0 s j R F) {i : Nat} {c : Tk × Cli} (hc : R.cs[i]? = some c) (hi : (i : Int) < R.n) (hK : K (.int .i64 c.2.last.num) s) : TCalls Try.prog 12 [.ptr (some (j, [])), .int .i64 i] s K := by
  obtain ⟨tk, o⟩ := hP.o
  have c0 := cellAt_known o
  refine tcalls_walk Try.f12 _ [.tmp 4] Try.func12 rfl rfl rfl mixed (Nat.le_of_ble_eq_true rfl) rfl fun hlen => ?_
  simp -dsimp only [↓reduceIte, go_sem]
  refine rgIs_c hP ?_
  rw [decide_eq_true ⟨by omega, hi⟩]
  repeat' (first | (simp -dsimp only [↓reduceIte, go_sem, c0, rg_at hc, sz8 hP.h8]) | (refine arr_intro fun _ => ?_) | (refine later_intro ⟨keeps_nil, ?_⟩) | (refine later_intro ⟨keeps_refl, ?_⟩) | (with_reducible refine keeps_go ?_ ?_; focus (first | (simp [keeps_cons, keeps_none, objs_app, objs_app0]; done) | (simp only [keeps_cons, keeps_none, objs_app0, objs_app, and_true]; first | rfl | exact ⟨rfl, rfl⟩ | exact ⟨rfl, rfl, rfl⟩))) | (with_reducible refine (And.intro (a := keeps _ _ _) ?_ ?_); focus (first | (simp [keeps_cons, keeps_none, objs_app, objs_app0]; done) | (simp only [keeps_cons, keeps_none, objs_app0, objs_app, and_true]; first | rfl | exact ⟨rfl, rfl⟩ | exact ⟨rfl, rfl, rfl⟩))) | (refine both_ways ?_ ?_) | (rw [wrap_i64 (by omega) (by omega)]) | (refine guardV_split (fun h => ?_) (fun h => ?_) <;> (try rw [h]) <;> (try simp at h) <;> (try (exfalso; omega))) | (refine index_cli o hP.h8 hc ?_))
  exact hK
theorem rgView_bad (hP : PF σ0 s j R F) {i : Int} (hi : ¬ (0 ≤ i ∧ i < R.n)) (hK : K (.str []) s) : TCalls Try.prog 18 [.ptr (some (j, [])), .int .i64 i] s K := by
  refine tcalls_walk Try.f18 _ [.tmp 4] Try.func18 rfl rfl rfl mixed (Nat.le_of_ble_eq_true rfl) rfl fun hlen => ?_
  simp -dsimp only [↓reduceIte, go_sem]
  refine rgIs_c hP ?_
  rw [decide_eq_false hi]
  repeat' (first | (simp -dsimp only [↓reduceIte, go_sem]) | (refine arr_intro fun _ => ?_) | (refine later_intro ⟨keeps_nil, ?_⟩) | (refine later_intro ⟨keeps_refl, ?_⟩) | (with_reducible refine keeps_go ?_ ?_; focus (first | (simp [keeps_cons, keeps_none, objs_app, objs_app0]; done) | (simp only [keeps_cons, keeps_none, objs_app0, objs_app, and_true]; first | rfl | exact ⟨rfl, rfl⟩ | exact ⟨rfl, rfl, rfl⟩))) | (with_reducible refine (And.intro (a := keeps _ _ _) ?_ ?_); focus (first | (simp [keeps_cons, keeps_none, objs_app, objs_app0]; done) | (simp only [keeps_cons, keeps_none, objs_app0, objs_app, and_true]; first | rfl | exact ⟨rfl, rfl⟩ | exact ⟨rfl, rfl, rfl⟩))) | (refine both_ways ?_ ?_) | (rw [wrap_i64 (by omega) (by omega)]) | (refine guardV_split (fun h => ?_) (fun h => ?_) <;> (try rw [h]) <;> (try simp at h) <;> (try (exfalso; omega))))
  exact hK
theorem rgView_c (hP : PF σ0 s j R F) {i : Nat} {c : Tk × Cli} (hc : R.cs[i]? = some c) (hi : (i : Int) < R.n) (hK : K (.str c.2.view) s) : TCalls Try.prog 18 [.ptr (some (j, [])), .int .i64 i] s K := by
  obtain ⟨tk, o⟩ := hP.o
  have c0 := cellAt_known o
  refine tcalls_walk Try.f18 _ [.tmp 4] Try.func18 rfl rfl rfl mixed (Nat.le_of_ble_eq_true rfl) rfl fun hlen => ?_
  simp -dsimp only [↓reduceIte, go_sem]
  refine rgIs_c hP ?_
  rw [decide_eq_true ⟨by omega, hi⟩]
  repeat' (first | (simp -dsimp only [↓reduceIte, go_sem, c0, rg_at hc, sz8 hP.h8]) | (refine arr_intro fun _ => ?_) | (refine later_intro ⟨keeps_nil, ?_⟩) | (refine later_intro ⟨keeps_refl, ?_⟩) | (with_reducible refine keeps_go ?_ ?_; focus (first | (simp [keeps_cons, keeps_none, objs_app, objs_app0]; done) | (simp only [keeps_cons, keeps_none, objs_app0, objs_app, and_true]; first | rfl | exact ⟨rfl, rfl⟩ | exact ⟨rfl, rfl, rfl⟩))) | (with_reducible refine (And.intro (a := keeps _ _ _) ?_ ?_); focus (first | (simp [keeps_cons, keeps_none, objs_app, objs_app0]; done) | (simp only [keeps_cons, keeps_none, objs_app0, objs_app, and_true]; first | rfl | exact ⟨rfl, rfl⟩ | exact ⟨rfl, rfl, rfl⟩))) | (refine both_ways ?_ ?_) | (rw [wrap_i64 (by omega) (by omega)]) | (refine guardV_split (fun h => ?_) (fun h => ?_) <;> (try rw [h]) <;> (try simp at h) <;> (try (exfalso; omega))) | (refine index_cli o hP.h8 hc ?_))
  exact hK
end
end Go.Aff.L10

/- Layer 12, walked: the order. -/
-- cuts
namespace Go.Aff.L10
open Go.Proofs Go.Aff Go.Aff.L01 Classical
set_option linter.unusedVariables false
set_option linter.unusedSimpArgs false
set_option maxRecDepth 20000
attribute [local go_sem] push_app app_app length_app cellAt_app cellAt_app0 set_app set_app0 objs_app objs_app0 List.cons_append List.nil_append List.length_cons List.length_nil List.getElem?_cons_zero List.getElem?_cons_succ List.set_cons_zero List.set_cons_succ List.length_map
attribute [-go_sem] cellAt_new
attribute [-simp] List.length_flatMap
attribute [local go_sem] Try.underlying3 Try.underlying4 Try.underlying5 Try.underlying9 Try.underlying31 Try.underlying32 Try.underlying41 Try.underlying75 Try.underlying24 Try.underlying81 subPs_0 subAt_0 subSet_0 subPs_1 subAt_1 subSet_1 subPs_2 subAt_2 subSet_2 subPs_3 subAt_3 subSet_3 subPs_4 subAt_4 subSet_4 subPs_5 subAt_5 subSet_5 sizes_sub shapes_sub fits_sub zero_sub zt_sub built_sub Try.underlying34 pendPs_0 pendAt_0 pendSet_0 pendPs_1 pendAt_1 pendSet_1 pendPs_2 pendAt_2 pendSet_2 pendPs_3 pendAt_3 pendSet_3 pendPs_4 pendAt_4 pendSet_4 pendPs_5 pendAt_5 pendSet_5 sizes_pend shapes_pend fits_pend zero_pend zt_pend built_pend Try.underlying70 repPs_0 repAt_0 repSet_0 repPs_1 repAt_1 repSet_1 repPs_2 repAt_2 repSet_2 repPs_3 repAt_3 repSet_3 repPs_4 repAt_4 repSet_4 repPs_5 repAt_5 repSet_5 repPs_6 repAt_6 repSet_6 repPs_7 repAt_7 repSet_7 repPs_8 repAt_8 repSet_8 repPs_9 repAt_9 repSet_9 sizes_rep shapes_rep fits_rep zero_rep zt_rep built_rep Try.underlying43 blobPs_0 blobAt_0 blobSet_0 blobPs_1 blobAt_1 blobSet_1 blobPs_2 blobAt_2 blobSet_2 blobPs_3 blobAt_3 blobSet_3 sizes_blob shapes_blob fits_blob zero_blob zt_blob built_blob Try.underlying74 msgPs_0 msgAt_0 msgSet_0 msgPs_1 msgAt_1 msgSet_1 msgPs_2 msgAt_2 msgSet_2 msgPs_3 msgAt_3 msgSet_3 msgPs_4 msgAt_4 msgSet_4 msgPs_5 msgAt_5 msgSet_5 msgPs_6 msgAt_6 msgSet_6 msgPs_7 msgAt_7 msgSet_7 msgPs_8 msgAt_8 msgSet_8 msgPs_9 msgAt_9 msgSet_9 sizes_msg shapes_msg fits_msg zero_msg zt_msg built_msg Try.underlying77 at_Ps_0 at_Set_0 at_Ps_1 at_Set_1 sizes_at_ shapes_at_
attribute [local go_sem] fits3 fits4 fits5 fits9 fits23 fits26 fits31 fits34 fits52 zt3 zero3 zt34 zero34 zt23 zero23 bin_sub_eql bin_pend_eql bin_pend_neq bin_blob_eql bin_dig23_eql bin_dig23_neq slice23
attribute [local go_sem ↓] blockQ_exit2
attribute [local simp] dig_ext
attribute [local go_sem] cliPs_0 cliAt_0 cliSet_0 cliPs_1 cliAt_1 cliSet_1 cliPs_2 cliAt_2 cliSet_2 cliPs_3 cliAt_3 cliSet_3 sizes_cli shapes_cli fits_cli zero_cli zt_cli built_cli actPs_0 actAt_0 actSet_0 actPs_1 actAt_1 actSet_1 actPs_2 actAt_2 actSet_2 actPs_3 actAt_3 actSet_3 actPs_4 actAt_4 actSet_4 sizes_act shapes_act fits_act zero_act zt_act built_act rgPs_0 rgPs_1 rgPs_2 rgPs_3 rgPs_4 rgPs_5 rgSet_0 rgSet_2 rgSet_3 rgSet_4 rgSet_5 rgAt_0 rgAt_1 fits_rg zero_rg zt_rg built_rg fits66 rrgPs_0 rrgSet_0 rrgAt_0 rrgPs_1 rrgSet_1 rrgAt_1 rrgPs_2 rrgSet_2 rrgAt_2 rrgPs_3 rrgSet_3 rrgAt_3 rrgPs_4 rrgSet_4 rrgAt_4 rrgPs_5 rrgSet_5 rrgAt_5 rrgPs_6 rrgSet_6 rrgAt_6 rrgPs_7 rrgSet_7 rrgAt_7 sizes_rrg shapes_rrg fits_rrg zero_rrg zt_rrg built_rrg fits57 fits58 fits39 fits59 fits23r fits41 arrV_none arrV_some arrV_size arrV_agg arrV_shape Try.underlying22 Try.underlying23 Try.underlying28 Try.underlying36 Try.underlying39 Try.underlying57 Try.underlying58 Try.underlying59 Try.underlying61 Try.underlying65 Try.underlying66 Try.underlying68 Try.underlying78
attribute [local go_sem] Try.underlying81
def bch (n : Int) : UInt8 := UInt8.ofNat (IntKind.u8.wrap n).toNat
theorem cellAt_growS {s : AST} {tk : Tk} {n e j : Nat} {p : List Nat} : cellAt (growS s tk n e) j p = cellAt s j p := by simp only [cellAt, growS_objs]
theorem objs_growS {s : AST} {tk : Tk} {n e j : Nat} : (growS s tk n e).objs[j]? = s.objs[j]? := by rw [growS_objs]
theorem bch_any {n : Int} : IntKind.u8.wrap n = ((bch n).toNat : Int) := by
  unfold bch
  have h := IntKind.wrap_u8 n
  have h0 : 0 ≤ IntKind.u8.wrap n := by rw [h]; omega
  have h1 : IntKind.u8.wrap n < 256 := by rw [h]; omega
  rw [UInt8.toNat_ofNat_of_lt' (by show (IntKind.u8.wrap n).toNat < 256; omega)]; omega
theorem bch_int {n : Int} (h0 : 0 ≤ n) (h1 : n < 256) : IntKind.u8.wrap n = ((bch n).toNat : Int) := bch_any
theorem bch_small {n : Int} (h0 : 0 ≤ n) (h1 : n < 256) : ((bch n).toNat : Int) = n := by rw [← bch_any, wrap_u8 h0 h1]
theorem conv_mk {l : List UInt8} {σ : AST} {K : AV → AST → Prop} (h : K (.slice (growT σ .full) (u8s l)) (growS σ .full l.length 1)) : convW Try.prog 9 81 (.str l) σ K := .inr ⟨5, Try.underlying81, Try.underlying5, Try.underlying9, h⟩
def orderL (long : List UInt8) (l : List Pend) : List UInt8 := long ++ l.map fun p => bch p.client
theorem orderL_next {long : List UInt8} {l : List Pend} {i : Nat} {y : Pend} (h : l[i]? = some y) : orderL long (l.take (i + 1)) = orderL long (l.take i) ++ [bch y.client] := by
  unfold orderL; rw [List.take_add_one, h]; simp
def PendIn (n : Int) (l : List Pend) : Prop := ∀ p ∈ l, 0 ≤ p.client ∧ p.client < n
structure RgOk (R : Rg) : Prop where
  n2 : 2 ≤ R.n
  n8 : R.n ≤ 8
  cl : PendIn R.n R.pend
  pl : R.pend.length ≤ 8
  ll : R.long.length ≤ 512
section
variable {σ0 s : AST} {j : Nat} {R : Rg} {F : List (Nat × AObj)} {K : AV → AST → Prop}
theorem order_nil (hK : K (.str []) s) : TCalls Try.prog 16 [.ptr none] s K := by
  refine tcalls_walk Try.f16 _ [.tmp 2] Try.func16 rfl rfl rfl mixed (Nat.le_of_ble_eq_true rfl) rfl fun hlen => ?_
  repeat' (first | (simp -dsimp only [↓reduceIte, go_sem]) | (refine arr_intro fun _ => ?_) | (refine later_intro ⟨keeps_nil, ?_⟩) | (refine later_intro ⟨keeps_refl, ?_⟩) | (with_reducible refine keeps_go ?_ ?_; focus (first | (simp [keeps_cons, keeps_none, objs_app, objs_app0]; done) | (simp only [keeps_cons, keeps_none, objs_app0, objs_app, and_true]; first | rfl | exact ⟨rfl, rfl⟩ | exact ⟨rfl, rfl, rfl⟩))) | (with_reducible refine (And.intro (a := keeps _ _ _) ?_ ?_); focus (first | (simp [keeps_cons, keeps_none, objs_app, objs_app0]; done) | (simp only [keeps_cons, keeps_none, objs_app0, objs_app, and_true]; first | rfl | exact ⟨rfl, rfl⟩ | exact ⟨rfl, rfl, rfl⟩))) | (refine both_ways ?_ ?_) | (rw [wrap_i64 (by omega) (by omega)]) | (refine guardV_split (fun h => ?_) (fun h => ?_) <;> (try rw [h]) <;> (try simp at h) <;> (try (exfalso; omega))))
  exact hK
theorem order_c (hP : PF σ0 s j R F) (hR : RgOk R) (hK : K (.str (orderL R.long R.pend)) s) : TCalls Try.prog 16 [.ptr (some (j, []))] s K := by
  refine TCalls.drop ?_
  obtain ⟨tk, o⟩ := hP.o
  have c0 := cellAt_known o
  have hpl := hR.pl
  have hll := hR.ll
  have hn8 := hR.n8
  refine tcalls_walk Try.f16 _ [.tmp 2] Try.func16 rfl rfl rfl mixed (Nat.le_of_ble_eq_true rfl) rfl fun hlen => ?_
  repeat' (first | (simp -dsimp only [↓reduceIte, go_sem, c0, rgAt_3 hP.h8, rgAt_5 hP.h8, cellAt_growS]) | (refine arr_intro fun _ => ?_) | (refine later_intro ⟨keeps_nil, ?_⟩) | (refine later_intro ⟨keeps_refl, ?_⟩) | (with_reducible refine keeps_go ?_ ?_; focus (first | (simp [keeps_cons, keeps_none, objs_app, objs_app0]; done) | (simp only [keeps_cons, keeps_none, objs_app0, objs_app, and_true]; first | rfl | exact ⟨rfl, rfl⟩ | exact ⟨rfl, rfl, rfl⟩))) | (with_reducible refine (And.intro (a := keeps _ _ _) ?_ ?_); focus (first | (simp [keeps_cons, keeps_none, objs_app, objs_app0]; done) | (simp only [keeps_cons, keeps_none, objs_app0, objs_app, and_true]; first | rfl | exact ⟨rfl, rfl⟩ | exact ⟨rfl, rfl, rfl⟩))) | (refine both_ways ?_ ?_) | (rw [wrap_i64 (by omega) (by omega)]) | (refine guardV_split (fun h => ?_) (fun h => ?_) <;> (try rw [h]) <;> (try simp at h) <;> (try (exfalso; omega))) | (refine conv_mk ?_))
  refine awp_rounds (fun (i : Nat) τ s' => ∃ tk', i ≤ R.pend.length ∧ Gr s s' tk' (orderL R.long (R.pend.take i)).length ∧ τ 3 = .slice tk' (u8s (orderL R.long (R.pend.take i))) ∧ τ 16 = .slice tk (R.pend.map pendV) ∧ τ 17 = .int .i64 R.pend.length ∧ τ 18 = .int .i64 i) (fun i => R.pend.length - i) 0 ?_ ?_
  · refine ⟨growT s .full, by omega, ?_, ?_, ?_, ?_, ?_⟩ <;> (try simp only [go_sem]) <;> (try rfl)
    · have := (Gr.start (σ := s) (n := 0) (e := 1)).grow (m := R.long.length)
      simpa [orderL] using this
    · simp [orderL]
  · rintro i τ s' ⟨tk', hi, hg, t3, t16, t17, t18⟩
    have hol : (orderL R.long (R.pend.take i)).length = R.long.length + i := by simp [orderL]; omega
    by_cases hil : i < R.pend.length
    · have hi1 : (i : Int) < R.pend.length := by omega
      obtain ⟨y, hy, hym⟩ := get_of_lt hil
      have hcy := hR.cl y hym
      have hb := bch_int (n := y.client) hcy.1 (by omega)
      have hnx := orderL_next (long := R.long) hy
      have hgA := fun l => hg.app (l := l)
      repeat' (first | (simp -dsimp only [↓reduceIte, go_sem, t3, t16, t17, t18, hi1, hb]) | (refine arr_intro fun _ => ?_) | (refine later_intro ⟨keeps_nil, ?_⟩) | (refine later_intro ⟨keeps_refl, ?_⟩) | (with_reducible refine keeps_go ?_ ?_; focus (first | (simp [keeps_cons, keeps_none, objs_app, objs_app0]; done) | (simp only [keeps_cons, keeps_none, objs_app0, objs_app, and_true]; first | rfl | exact ⟨rfl, rfl⟩ | exact ⟨rfl, rfl, rfl⟩))) | (with_reducible refine (And.intro (a := keeps _ _ _) ?_ ?_); focus (first | (simp [keeps_cons, keeps_none, objs_app, objs_app0]; done) | (simp only [keeps_cons, keeps_none, objs_app0, objs_app, and_true]; first | rfl | exact ⟨rfl, rfl⟩ | exact ⟨rfl, rfl, rfl⟩))) | (refine both_ways ?_ ?_) | (rw [wrap_i64 (by omega) (by omega)]) | (refine guardV_split (fun h => ?_) (fun h => ?_) <;> (try rw [h]) <;> (try simp at h) <;> (try (exfalso; omega))) | (refine nth_get hy ?_) | (refine build_u8 ?_) | (refine append_bytes E51 S51 (hgA _).c (by rw [hol]; simp; omega) (by rw [hol]; simp [maxL]; omega) ?_))
      refine later_intro ⟨i + 1, by omega, growT (s'.app [.cells (pendV y)]) tk', by omega, ?_, ?_, ?_, ?_, ?_⟩ <;> (try simp only [go_sem, t3, t16, t17, t18, hnx]) <;> (try rfl)
      have := (hgA [.cells (pendV y)]).grow (m := R.long.length + i + 1)
      simpa [hol] using this
    · have hi1 : ¬ (i : Int) < R.pend.length := by omega
      have he : i = R.pend.length := by omega
      subst he
      rw [List.take_length] at t3
      repeat' (first | (simp -dsimp only [↓reduceIte, go_sem, t3, t16, t17, t18, hi1]) | (refine arr_intro fun _ => ?_) | (refine later_intro ⟨keeps_nil, ?_⟩) | (refine later_intro ⟨keeps_refl, ?_⟩) | (with_reducible refine keeps_go ?_ ?_; focus (first | (simp [keeps_cons, keeps_none, objs_app, objs_app0]; done) | (simp only [keeps_cons, keeps_none, objs_app0, objs_app, and_true]; first | rfl | exact ⟨rfl, rfl⟩ | exact ⟨rfl, rfl, rfl⟩))) | (with_reducible refine (And.intro (a := keeps _ _ _) ?_ ?_); focus (first | (simp [keeps_cons, keeps_none, objs_app, objs_app0]; done) | (simp only [keeps_cons, keeps_none, objs_app0, objs_app, and_true]; first | rfl | exact ⟨rfl, rfl⟩ | exact ⟨rfl, rfl, rfl⟩))) | (refine both_ways ?_ ?_) | (rw [wrap_i64 (by omega) (by omega)]) | (refine guardV_split (fun h => ?_) (fun h => ?_) <;> (try rw [h]) <;> (try simp at h) <;> (try (exfalso; omega))))
      exact ⟨hg.x, rfl, by simpa [AV.strip] using hK⟩
end
end Go.Aff.L10

/- Layer 12, walked: what a submit is answered. -/
-- cuts
namespace Go.Aff.L10
open Go.Proofs Go.Aff Go.Aff.L01 Classical
set_option linter.unusedVariables false
set_option linter.unusedSimpArgs false
set_option maxRecDepth 20000
attribute [local go_sem] push_app app_app length_app cellAt_app cellAt_app0 set_app set_app0 objs_app objs_app0 List.cons_append List.nil_append List.length_cons List.length_nil List.getElem?_cons_zero List.getElem?_cons_succ List.set_cons_zero List.set_cons_succ List.length_map
attribute [-go_sem] cellAt_new
attribute [-simp] List.length_flatMap
attribute [local go_sem] Try.underlying3 Try.underlying4 Try.underlying5 Try.underlying9 Try.underlying31 Try.underlying32 Try.underlying41 Try.underlying75 Try.underlying24 Try.underlying81 subPs_0 subAt_0 subSet_0 subPs_1 subAt_1 subSet_1 subPs_2 subAt_2 subSet_2 subPs_3 subAt_3 subSet_3 subPs_4 subAt_4 subSet_4 subPs_5 subAt_5 subSet_5 sizes_sub shapes_sub fits_sub zero_sub zt_sub built_sub Try.underlying34 pendPs_0 pendAt_0 pendSet_0 pendPs_1 pendAt_1 pendSet_1 pendPs_2 pendAt_2 pendSet_2 pendPs_3 pendAt_3 pendSet_3 pendPs_4 pendAt_4 pendSet_4 pendPs_5 pendAt_5 pendSet_5 sizes_pend shapes_pend fits_pend zero_pend zt_pend built_pend Try.underlying70 repPs_0 repAt_0 repSet_0 repPs_1 repAt_1 repSet_1 repPs_2 repAt_2 repSet_2 repPs_3 repAt_3 repSet_3 repPs_4 repAt_4 repSet_4 repPs_5 repAt_5 repSet_5 repPs_6 repAt_6 repSet_6 repPs_7 repAt_7 repSet_7 repPs_8 repAt_8 repSet_8 repPs_9 repAt_9 repSet_9 sizes_rep shapes_rep fits_rep zero_rep zt_rep built_rep Try.underlying43 blobPs_0 blobAt_0 blobSet_0 blobPs_1 blobAt_1 blobSet_1 blobPs_2 blobAt_2 blobSet_2 blobPs_3 blobAt_3 blobSet_3 sizes_blob shapes_blob fits_blob zero_blob zt_blob built_blob Try.underlying74 msgPs_0 msgAt_0 msgSet_0 msgPs_1 msgAt_1 msgSet_1 msgPs_2 msgAt_2 msgSet_2 msgPs_3 msgAt_3 msgSet_3 msgPs_4 msgAt_4 msgSet_4 msgPs_5 msgAt_5 msgSet_5 msgPs_6 msgAt_6 msgSet_6 msgPs_7 msgAt_7 msgSet_7 msgPs_8 msgAt_8 msgSet_8 msgPs_9 msgAt_9 msgSet_9 sizes_msg shapes_msg fits_msg zero_msg zt_msg built_msg Try.underlying77 at_Ps_0 at_Set_0 at_Ps_1 at_Set_1 sizes_at_ shapes_at_
attribute [local go_sem] fits3 fits4 fits5 fits9 fits23 fits26 fits31 fits34 fits52 zt3 zero3 zt34 zero34 zt23 zero23 bin_sub_eql bin_pend_eql bin_pend_neq bin_blob_eql bin_dig23_eql bin_dig23_neq slice23
attribute [local go_sem ↓] blockQ_exit2
attribute [local simp] dig_ext
attribute [local go_sem] cliPs_0 cliAt_0 cliSet_0 cliPs_1 cliAt_1 cliSet_1 cliPs_2 cliAt_2 cliSet_2 cliPs_3 cliAt_3 cliSet_3 sizes_cli shapes_cli fits_cli zero_cli zt_cli built_cli actPs_0 actAt_0 actSet_0 actPs_1 actAt_1 actSet_1 actPs_2 actAt_2 actSet_2 actPs_3 actAt_3 actSet_3 actPs_4 actAt_4 actSet_4 sizes_act shapes_act fits_act zero_act zt_act built_act rgPs_0 rgPs_1 rgPs_2 rgPs_3 rgPs_4 rgPs_5 rgSet_0 rgSet_2 rgSet_3 rgSet_4 rgSet_5 rgAt_0 rgAt_1 fits_rg zero_rg zt_rg built_rg fits66 rrgPs_0 rrgSet_0 rrgAt_0 rrgPs_1 rrgSet_1 rrgAt_1 rrgPs_2 rrgSet_2 rrgAt_2 rrgPs_3 rrgSet_3 rrgAt_3 rrgPs_4 rrgSet_4 rrgAt_4 rrgPs_5 rrgSet_5 rrgAt_5 rrgPs_6 rrgSet_6 rrgAt_6 rrgPs_7 rrgSet_7 rrgAt_7 sizes_rrg shapes_rrg fits_rrg zero_rrg zt_rrg built_rrg fits57 fits58 fits39 fits59 fits23r fits41 arrV_none arrV_some arrV_size arrV_agg arrV_shape Try.underlying22 Try.underlying23 Try.underlying28 Try.underlying36 Try.underlying39 Try.underlying57 Try.underlying58 Try.underlying59 Try.underlying61 Try.underlying65 Try.underlying66 Try.underlying68 Try.underlying78
attribute [local go_sem] Try.underlying81
theorem E41 : ElemT Try.prog 41 70 68 96 := ⟨rfl, by kernel_rfl, by kernel_rfl, ⟨_, of_eq_true zt_pend⟩, by decide⟩
theorem size_pends {l : List Pend} : ∀ v ∈ l.map pendV, v.size = 68 := by
  intro v hv; obtain ⟨x, _, rfl⟩ := List.mem_map.1 hv; simp only [AV.size, sizes_pend]
theorem append_pends {a b : List Pend} {tk tk2 : Tk} {σ : AST} {K : AV → AST → Prop} (hca : canApp σ tk a.length 68) (hl : a.length + b.length ≤ 2000) (hK : K (.slice (growT σ tk) ((a ++ b).map pendV)) (growS σ tk (a.length + b.length) 68)) :
    appendW Try.prog ⟨[41, 41]⟩ (.slice tk (a.map pendV)) (.slice tk2 (b.map pendV)) σ K := by
  refine append_slice E41 rfl (by rw [List.length_map]; exact hca) size_pends size_pends (by simp; omega) (by simp [maxL]; omega) ?_
  simpa using hK
theorem append_pnone {b : List Pend} {tk2 : Tk} {σ : AST} {K : AV → AST → Prop} (hl : b.length ≤ 2000) (hK : K (.slice (growT σ .full) (b.map pendV)) (growS σ .full b.length 68)) :
    appendW Try.prog ⟨[41, 41]⟩ (.slice .full []) (.slice tk2 (b.map pendV)) σ K := append_pends (a := []) trivial (by simpa using hl) (by simpa using hK)
theorem append_pend {a : List Pend} {x : Pend} {tk tk2 : Tk} {σ : AST} {K : AV → AST → Prop} (hca : canApp σ tk a.length 68) (hl : a.length ≤ 1999) (hK : K (.slice (growT σ tk) ((a ++ [x]).map pendV)) (growS σ tk (a.length + 1) 68)) :
    appendW Try.prog ⟨[41, 41]⟩ (.slice tk (a.map pendV)) (.slice tk2 [pendV x]) σ K := append_pends (b := [x]) hca (by simp; omega) (by simpa using hK)
theorem build_pend {x : Pend} {KV : AV → Prop} (h : KV (.slice .full [pendV x])) : buildSliceW Try.prog 41 1 [(0, pendV x)] KV := build_slice E41 rfl (by decide) (by intro v hv; simp at hv; subst hv; simp [go_sem]) (by simpa using h)
theorem build_pend0 {KV : AV → Prop} (h : KV (.slice .full [])) : buildSliceW Try.prog 41 0 [] KV := build_slice E41 rfl (by decide) (by intro v hv; simp at hv) (by simpa using h)
theorem noRef_rep {t : Tk} {x : Rep} : (AV.agg (repPs t x)).noRef = true := by simp [AV.noRef, AV.noRefs, repPs, noRefs_pends]
theorem rgNew_c {n : Int} {σ : AST} {K : AV → AST → Prop} (h1 : n < 2 ∨ 8 < n → K (.tuple [.ptr none, .int .i64 2]) σ)
    (h2 : ¬ (n < 2 ∨ 8 < n) → ∀ s, PF σ s σ.objs.length ⟨n, List.replicate 8 (.full, cli0), -1, [], dig0, []⟩ [] → K (.tuple [.ptr (some (σ.objs.length, [])), .int .i64 0]) s) : TCalls Try.prog 7 [.int .i64 n] σ K := by
  refine tcalls_walk Try.f7 _ [.tmp 2, .tmp 3] Try.func7 rfl rfl rfl mixed (Nat.le_of_ble_eq_true rfl) rfl fun hlen => ?_
  have hA := fun v => rgAt_2 (t0 := .full) (v := v) (x := { rg0 with n := n }) rfl
  repeat' (first | (simp -dsimp only [↓reduceIte, go_sem, hA]) | (refine arr_intro fun _ => ?_) | (refine later_intro ⟨keeps_nil, ?_⟩) | (refine later_intro ⟨keeps_refl, ?_⟩) | (with_reducible refine keeps_go ?_ ?_; focus (first | (simp [keeps_cons, keeps_none, objs_app, objs_app0]; done) | (simp only [keeps_cons, keeps_none, objs_app0, objs_app, and_true]; first | rfl | exact ⟨rfl, rfl⟩ | exact ⟨rfl, rfl, rfl⟩))) | (with_reducible refine (And.intro (a := keeps _ _ _) ?_ ?_); focus (first | (simp [keeps_cons, keeps_none, objs_app, objs_app0]; done) | (simp only [keeps_cons, keeps_none, objs_app0, objs_app, and_true]; first | rfl | exact ⟨rfl, rfl⟩ | exact ⟨rfl, rfl, rfl⟩))) | (refine both_ways ?_ ?_) | (rw [wrap_i64 (by omega) (by omega)]) | (refine guardV_split (fun h => ?_) (fun h => ?_) <;> (try rw [h]) <;> (try simp at h) <;> (try (exfalso; omega))))
  · exact h1 (by omega)
  · refine h2 (by omega) _ ⟨Ext.app _ _, Nat.le_refl _, rfl, ⟨.full, ?_⟩, fun y hy => by simp at hy⟩
    exact objs_app0
  · exact h1 (by omega)
theorem kept_c {x : Rep} {t : Tk} {σ : AST} {K : AV → AST → Prop} (hl : x.pending.length ≤ 1000) (hK : ∀ t', K (repV t' x) σ) : TCalls Try.prog 29 [repV t x] σ K := by
  refine TCalls.drop ?_
  have cS : ∀ a b m v w p, cellAt (((growS (σ.app [a, b]) .full m 68).set σ.objs.length (.cells v)).set (σ.objs.length + 1) (.cells w)) (σ.objs.length + 1) p = w.at p := fun a b m v w p => cellAt_setS (by simp [AST.set, growS_objs, AST.app])
  have cS1 : ∀ a b m v p, cellAt ((growS (σ.app [a, b]) .full m 68).set σ.objs.length (.cells v)) σ.objs.length p = v.at p := fun a b m v p => cellAt_setS (by simp [growS_objs, AST.app])
  have nn : σ.objs.length ≠ σ.objs.length + 1 := by omega
  refine tcalls_walk Try.f29 _ [.cell 2 43] Try.func29 rfl rfl rfl mixed (Nat.le_of_ble_eq_true rfl) rfl fun hlen => ?_
  repeat' (first | (simp -dsimp only [↓reduceIte, go_sem, cellAt_growS, objs_growS, cS, cS1, objs_setN nn, cellAt_setN nn]) | (refine arr_intro fun _ => ?_) | (refine later_intro ⟨keeps_nil, ?_⟩) | (refine later_intro ⟨keeps_refl, ?_⟩) | (with_reducible refine keeps_go ?_ ?_; focus (first | (simp [keeps_cons, keeps_none, objs_app, objs_app0]; done) | (simp only [keeps_cons, keeps_none, objs_app0, objs_app, and_true]; first | rfl | exact ⟨rfl, rfl⟩ | exact ⟨rfl, rfl, rfl⟩))) | (with_reducible refine (And.intro (a := keeps _ _ _) ?_ ?_); focus (first | (simp [keeps_cons, keeps_none, objs_app, objs_app0]; done) | (simp only [keeps_cons, keeps_none, objs_app0, objs_app, and_true]; first | rfl | exact ⟨rfl, rfl⟩ | exact ⟨rfl, rfl, rfl⟩))) | (refine both_ways ?_ ?_) | (rw [wrap_i64 (by omega) (by omega)]) | (refine guardV_split (fun h => ?_) (fun h => ?_) <;> (try rw [h]) <;> (try simp at h) <;> (try (exfalso; omega))) | (refine build_pend0 ?_) | (refine append_pnone (by omega) ?_))
  refine ⟨((((Ext.app _ _).grow (.inl rfl)).set (Nat.le_refl _)).set (by omega)), noRef_rep, ?_⟩
  simp only [AV.strip, rep_strips]
  exact hK _
end Go.Aff.L10

