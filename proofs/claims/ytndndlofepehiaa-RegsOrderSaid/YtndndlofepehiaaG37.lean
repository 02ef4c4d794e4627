import Derived.Test.YtndndlofepehiaaG36

set_option linter.unusedSimpArgs false
set_option linter.unusedVariables false

/- Layer 12, walked: do, same. -/
-- cuts
namespace Go.Aff.L10
open Go.Proofs Go.Aff Go.Aff.L01 Classical
set_option linter.unusedVariables false
set_option linter.unusedSimpArgs false
set_option maxRecDepth 20000
attribute [local go_sem] push_app app_app length_app cellAt_app cellAt_app0 set_app set_app0 objs_app objs_app0 List.cons_append List.nil_append List.length_cons List.length_nil List.getElem?_cons_zero List.getElem?_cons_succ List.set_cons_zero List.set_cons_succ List.length_map
attribute [-go_sem] cellAt_new
attribute [-simp] List.length_flatMap
attribute [local go_sem] Try.underlying3 Try.underlying4 Try.underlying5 Try.underlying9 Try.underlying31 Try.underlying32 Try.underlying41 Try.underlying75 Try.underlying24 Try.underlying81 subPs_0 subAt_0 subSet_0 subPs_1 subAt_1 subSet_1 subPs_2 subAt_2 subSet_2 subPs_3 subAt_3 subSet_3 subPs_4 subAt_4 subSet_4 subPs_5 subAt_5 subSet_5 sizes_sub shapes_sub fits_sub zero_sub zt_sub built_sub Try.underlying34 pendPs_0 pendAt_0 pendSet_0 pendPs_1 pendAt_1 pendSet_1 pendPs_2 pendAt_2 pendSet_2 pendPs_3 pendAt_3 pendSet_3 pendPs_4 pendAt_4 pendSet_4 pendPs_5 pendAt_5 pendSet_5 sizes_pend shapes_pend fits_pend zero_pend zt_pend built_pend Try.underlying70 repPs_0 repAt_0 repSet_0 repPs_1 repAt_1 repSet_1 repPs_2 repAt_2 repSet_2 repPs_3 repAt_3 repSet_3 repPs_4 repAt_4 repSet_4 repPs_5 repAt_5 repSet_5 repPs_6 repAt_6 repSet_6 repPs_7 repAt_7 repSet_7 repPs_8 repAt_8 repSet_8 repPs_9 repAt_9 repSet_9 sizes_rep shapes_rep fits_rep zero_rep zt_rep built_rep Try.underlying43 blobPs_0 blobAt_0 blobSet_0 blobPs_1 blobAt_1 blobSet_1 blobPs_2 blobAt_2 blobSet_2 blobPs_3 blobAt_3 blobSet_3 sizes_blob shapes_blob fits_blob zero_blob zt_blob built_blob Try.underlying74 msgPs_0 msgAt_0 msgSet_0 msgPs_1 msgAt_1 msgSet_1 msgPs_2 msgAt_2 msgSet_2 msgPs_3 msgAt_3 msgSet_3 msgPs_4 msgAt_4 msgSet_4 msgPs_5 msgAt_5 msgSet_5 msgPs_6 msgAt_6 msgSet_6 msgPs_7 msgAt_7 msgSet_7 msgPs_8 msgAt_8 msgSet_8 msgPs_9 msgAt_9 msgSet_9 sizes_msg shapes_msg fits_msg zero_msg zt_msg built_msg Try.underlying77 at_Ps_0 at_Set_0 at_Ps_1 at_Set_1 sizes_at_ shapes_at_
attribute [local go_sem] fits3 fits4 fits5 fits9 fits23 fits26 fits31 fits34 fits52 zt3 zero3 zt34 zero34 zt23 zero23 bin_sub_eql bin_pend_eql bin_pend_neq bin_blob_eql bin_dig23_eql bin_dig23_neq slice23
attribute [local go_sem ↓] blockQ_exit2
attribute [local simp] dig_ext
attribute [local go_sem] cliPs_0 cliAt_0 cliSet_0 cliPs_1 cliAt_1 cliSet_1 cliPs_2 cliAt_2 cliSet_2 cliPs_3 cliAt_3 cliSet_3 sizes_cli shapes_cli fits_cli zero_cli zt_cli built_cli actPs_0 actAt_0 actSet_0 actPs_1 actAt_1 actSet_1 actPs_2 actAt_2 actSet_2 actPs_3 actAt_3 actSet_3 actPs_4 actAt_4 actSet_4 sizes_act shapes_act fits_act zero_act zt_act built_act rgPs_0 rgPs_1 rgPs_2 rgPs_3 rgPs_4 rgPs_5 rgSet_0 rgSet_2 rgSet_3 rgSet_4 rgSet_5 rgAt_0 rgAt_1 fits_rg zero_rg zt_rg built_rg fits66 rrgPs_0 rrgSet_0 rrgAt_0 rrgPs_1 rrgSet_1 rrgAt_1 rrgPs_2 rrgSet_2 rrgAt_2 rrgPs_3 rrgSet_3 rrgAt_3 rrgPs_4 rrgSet_4 rrgAt_4 rrgPs_5 rrgSet_5 rrgAt_5 rrgPs_6 rrgSet_6 rrgAt_6 rrgPs_7 rrgSet_7 rrgAt_7 sizes_rrg shapes_rrg fits_rrg zero_rrg zt_rrg built_rrg fits57 fits58 fits39 fits59 fits23r fits41 arrV_none arrV_some arrV_size arrV_agg arrV_shape Try.underlying22 Try.underlying23 Try.underlying28 Try.underlying36 Try.underlying39 Try.underlying57 Try.underlying58 Try.underlying59 Try.underlying61 Try.underlying65 Try.underlying66 Try.underlying68 Try.underlying78
attribute [local go_sem] isAgg_arr size_arr shape_arr known_arr
def comA (a : Act12) : Prop := 4 ≤ a.kind ∧ a.kind ≤ 7
noncomputable def Reg.act (M : Reg) (a : Act12) : Reg := if comA a then (M.commit a.client (M.ofA a).2 a.tag).1 else (M.submit a.client (M.ofA a).1).1
theorem Reg.act_ok {M : Reg} (h : M.Ok) {a : Act12} : (M.act a).Ok := by unfold Reg.act; split; exact commit_ok h; exact submit_ok h
section
variable {σ0 s s2 : AST} {j k i1 i2 i3 i4 : Nat} {M N : Reg} {F : List (Nat × AObj)} {K : AV → AST → Prop}
theorem commits_c {a : Act12} {σ : AST} (hK : K (.bool (decide (comA a))) σ) : TCalls Try.prog 21 [actV a] σ K := by
  refine TCalls.drop ?_
  refine tcalls_walk Try.f21 _ [.tmp 2] Try.func21 rfl rfl rfl mixed (Nat.le_of_ble_eq_true rfl) rfl fun hlen => ?_
  repeat' (first | (simp -dsimp only [↓reduceIte, go_sem]) | (refine arr_intro fun _ => ?_) | (refine later_intro ⟨keeps_nil, ?_⟩) | (refine later_intro ⟨keeps_refl, ?_⟩) | (with_reducible refine keeps_go ?_ ?_; focus (first | (simp [keeps_cons, keeps_none, objs_app, objs_app0]; done) | (simp only [keeps_cons, keeps_none, objs_app0, objs_app, and_true]; first | rfl | exact ⟨rfl, rfl⟩ | exact ⟨rfl, rfl, rfl⟩))) | (with_reducible refine (And.intro (a := keeps _ _ _) ?_ ?_); focus (first | (simp [keeps_cons, keeps_none, objs_app, objs_app0]; done) | (simp only [keeps_cons, keeps_none, objs_app0, objs_app, and_true]; first | rfl | exact ⟨rfl, rfl⟩ | exact ⟨rfl, rfl, rfl⟩))) | (refine both_ways ?_ ?_) | (rw [wrap_i64 (by omega) (by omega)]) | (refine guardV_split (fun h => ?_) (fun h => ?_) <;> (try rw [h]) <;> (try simp at h) <;> (try (exfalso; omega))))
  all_goals
    refine bool_endDX (Ext.app _ _) hK ?_
    unfold comA
    constructor <;> intro hh <;> simp_all <;> omega
theorem regDo_c (hB : Bo σ0 s j k i1 i2 i3 i4 M M F) (hM : M.Ok) {a : Act12} (hK : ∀ s', Bo σ0 s' j k i1 i2 i3 i4 (M.act a) (M.act a) F → K (.bool true) s') : TCalls Try.prog 10 [.ptr (some (j, [])), .ptr (some (k, [])), actV a] s K := by
  have h1 := hB.box (.cells (actV a))
  have hlt := hB.lt
  generalize hs1 : s.app [.cells (actV a)] = s1 at h1
  have b0 := (h1.q.f _ (List.mem_cons_self ..)).2
  simp only at b0
  have cb0 := cellAt_known b0
  refine tcalls_walk Try.f10 _ [.tmp 6] Try.func10 rfl rfl rfl mixed (Nat.le_of_ble_eq_true rfl) rfl fun hlen => ?_
  repeat' (first | (simp -dsimp only [↓reduceIte, go_sem, hs1, cb0]) | (refine arr_intro fun _ => ?_) | (refine later_intro ⟨keeps_nil, ?_⟩) | (refine later_intro ⟨keeps_refl, ?_⟩) | (with_reducible refine keeps_go ?_ ?_; focus (first | (simp [keeps_cons, keeps_none, objs_app, objs_app0]; done) | (simp only [keeps_cons, keeps_none, objs_app0, objs_app, and_true]; first | rfl | exact ⟨rfl, rfl⟩ | exact ⟨rfl, rfl, rfl⟩))) | (with_reducible refine (And.intro (a := keeps _ _ _) ?_ ?_); focus (first | (simp [keeps_cons, keeps_none, objs_app, objs_app0]; done) | (simp only [keeps_cons, keeps_none, objs_app0, objs_app, and_true]; first | rfl | exact ⟨rfl, rfl⟩ | exact ⟨rfl, rfl, rfl⟩))) | (refine both_ways ?_ ?_) | (rw [wrap_i64 (by omega) (by omega)]) | (refine guardV_split (fun h => ?_) (fun h => ?_) <;> (try rw [h]) <;> (try simp at h) <;> (try (exfalso; omega))) | ((refine of_c h1.q hM ?_)))
  have h2 := h1.box (.cells (subV (M.ofA a).1))
  have hl1 := h1.lt
  have hne : s.objs.length < s1.objs.length := (List.getElem?_eq_some_iff.1 b0).1
  have hj1 : j < s1.objs.length := hl1.1
  generalize s1.app [.cells (subV (M.ofA a).1)] = s2 at h2 ⊢
  have hk1 : s1.objs.length ∉ [j, k, i1, i2, i3, i4] := by simp only [List.mem_cons, List.not_mem_nil, or_false, not_or]; omega
  generalize s1.objs.length = b at h2 hne hk1 ⊢
  have g1 := (h2.q.f _ (List.mem_cons_self ..)).2
  have g0 := (h2.q.f _ (List.mem_cons_of_mem _ (List.mem_cons_self ..))).2
  simp only at g1 g0
  have cg1 := cellAt_known g1
  have cg0 := cellAt_known g0
  by_cases hc : comA a
  · have hct := eq_true hc
    have hact : M.act a = (M.commit a.client (M.ofA a).2 a.tag).1 := by unfold Reg.act; rw [if_pos hc]
    repeat' (first | (simp -dsimp only [↓reduceIte, go_sem, cg0, cg1, hct]) | (refine arr_intro fun _ => ?_) | (refine later_intro ⟨keeps_nil, ?_⟩) | (refine later_intro ⟨keeps_refl, ?_⟩) | (with_reducible refine keeps_go ?_ ?_; focus (first | (simp [keeps_cons, keeps_none, objs_app, objs_app0]; done) | (simp only [keeps_cons, keeps_none, objs_app0, objs_app, and_true]; first | rfl | exact ⟨rfl, rfl⟩ | exact ⟨rfl, rfl, rfl⟩))) | (with_reducible refine (And.intro (a := keeps _ _ _) ?_ ?_); focus (first | (simp [keeps_cons, keeps_none, objs_app, objs_app0]; done) | (simp only [keeps_cons, keeps_none, objs_app0, objs_app, and_true]; first | rfl | exact ⟨rfl, rfl⟩ | exact ⟨rfl, rfl, rfl⟩))) | (refine both_ways ?_ ?_) | (rw [wrap_i64 (by omega) (by omega)]) | (refine guardV_split (fun h => ?_) (fun h => ?_) <;> (try rw [h]) <;> (try simp at h) <;> (try (exfalso; omega))) | (refine commits_c ?_) | (with_reducible refine awp_drawU (id := 3) (.op 0 2 (.op 1 2 (.op 2 2 (.op 3 2 (.op 4 2 (.op 5 2 (.op 7 0 (.op 8 0 (.op 9 0 (.op 10 0 (.op 11 0 (.op 12 0 (.op 6 1 (.cut (.op 13 1 (.op 14 2 (.op 15 2 .nil))))))))))))))))) (by kernel_rfl) ?_))
    refine bCommit_c h2 hM fun s3 h3 => ?_
    have q0 := (h3.q.f _ (List.mem_cons_of_mem _ (List.mem_cons_self ..))).2
    simp only at q0
    have cq0 := cellAt_known q0
    repeat' (first | (simp -dsimp only [↓reduceIte, go_sem, cq0]) | (refine arr_intro fun _ => ?_) | (refine later_intro ⟨keeps_nil, ?_⟩) | (refine later_intro ⟨keeps_refl, ?_⟩) | (with_reducible refine keeps_go ?_ ?_; focus (first | (simp [keeps_cons, keeps_none, objs_app, objs_app0]; done) | (simp only [keeps_cons, keeps_none, objs_app0, objs_app, and_true]; first | rfl | exact ⟨rfl, rfl⟩ | exact ⟨rfl, rfl, rfl⟩))) | (with_reducible refine (And.intro (a := keeps _ _ _) ?_ ?_); focus (first | (simp [keeps_cons, keeps_none, objs_app, objs_app0]; done) | (simp only [keeps_cons, keeps_none, objs_app0, objs_app, and_true]; first | rfl | exact ⟨rfl, rfl⟩ | exact ⟨rfl, rfl, rfl⟩))) | (refine both_ways ?_ ?_) | (rw [wrap_i64 (by omega) (by omega)]) | (refine guardV_split (fun h => ?_) (fun h => ?_) <;> (try rw [h]) <;> (try simp at h) <;> (try (exfalso; omega))) | (with_reducible refine keeps_go ?_ ?_; focus (simp [keeps_cons, keeps_none, objs_app, objs_app0, q0, g0]; done)) | (with_reducible refine (And.intro (a := keeps _ _ _) ?_ ?_); focus (simp [keeps_cons, keeps_none, objs_app, objs_app0, q0, g0]; done)))
    refine bRCommit_c h3 hM fun s4 h4 => ?_
    repeat' (first | (simp -dsimp only [↓reduceIte, go_sem]) | (refine arr_intro fun _ => ?_) | (refine later_intro ⟨keeps_nil, ?_⟩) | (refine later_intro ⟨keeps_refl, ?_⟩) | (with_reducible refine keeps_go ?_ ?_; focus (first | (simp [keeps_cons, keeps_none, objs_app, objs_app0]; done) | (simp only [keeps_cons, keeps_none, objs_app0, objs_app, and_true]; first | rfl | exact ⟨rfl, rfl⟩ | exact ⟨rfl, rfl, rfl⟩))) | (with_reducible refine (And.intro (a := keeps _ _ _) ?_ ?_); focus (first | (simp [keeps_cons, keeps_none, objs_app, objs_app0]; done) | (simp only [keeps_cons, keeps_none, objs_app0, objs_app, and_true]; first | rfl | exact ⟨rfl, rfl⟩ | exact ⟨rfl, rfl, rfl⟩))) | (refine both_ways ?_ ?_) | (rw [wrap_i64 (by omega) (by omega)]) | (refine guardV_split (fun h => ?_) (fun h => ?_) <;> (try rw [h]) <;> (try simp at h) <;> (try (exfalso; omega))))
    rw [hact] at hK
    exact hK s4 h4.less.less
  · have hact : M.act a = (M.submit a.client (M.ofA a).1).1 := by unfold Reg.act; rw [if_neg hc]
    rw [hact] at hK
    repeat' (first | (simp -dsimp only [↓reduceIte, go_sem, cg0, cg1, hc]) | (refine arr_intro fun _ => ?_) | (refine later_intro ⟨keeps_nil, ?_⟩) | (refine later_intro ⟨keeps_refl, ?_⟩) | (with_reducible refine keeps_go ?_ ?_; focus (first | (simp [keeps_cons, keeps_none, objs_app, objs_app0]; done) | (simp only [keeps_cons, keeps_none, objs_app0, objs_app, and_true]; first | rfl | exact ⟨rfl, rfl⟩ | exact ⟨rfl, rfl, rfl⟩))) | (with_reducible refine (And.intro (a := keeps _ _ _) ?_ ?_); focus (first | (simp [keeps_cons, keeps_none, objs_app, objs_app0]; done) | (simp only [keeps_cons, keeps_none, objs_app0, objs_app, and_true]; first | rfl | exact ⟨rfl, rfl⟩ | exact ⟨rfl, rfl, rfl⟩))) | (refine both_ways ?_ ?_) | (rw [wrap_i64 (by omega) (by omega)]) | (refine guardV_split (fun h => ?_) (fun h => ?_) <;> (try rw [h]) <;> (try simp at h) <;> (try (exfalso; omega))) | (refine commits_c ?_))
    refine bSubmit_c h2 hM fun t s3 h3 => ?_
    have h4 := h3.box (.cells (repV t (M.submit a.client (M.ofA a).1).2.1))
    have hl3 := h3.lt
    have q1 := (h4.q.f _ (List.mem_cons_of_mem _ (List.mem_cons_self ..))).2
    have q0 := (h4.q.f _ (List.mem_cons_of_mem _ (List.mem_cons_of_mem _ (List.mem_cons_self ..)))).2
    simp only at q1 q0
    have cq1 := cellAt_known q1
    have cq0 := cellAt_known q0
    repeat' (first | (simp -dsimp only [↓reduceIte, go_sem, cq0, cq1]) | (refine arr_intro fun _ => ?_) | (refine later_intro ⟨keeps_nil, ?_⟩) | (refine later_intro ⟨keeps_refl, ?_⟩) | (with_reducible refine keeps_go ?_ ?_; focus (first | (simp [keeps_cons, keeps_none, objs_app, objs_app0]; done) | (simp only [keeps_cons, keeps_none, objs_app0, objs_app, and_true]; first | rfl | exact ⟨rfl, rfl⟩ | exact ⟨rfl, rfl, rfl⟩))) | (with_reducible refine (And.intro (a := keeps _ _ _) ?_ ?_); focus (first | (simp [keeps_cons, keeps_none, objs_app, objs_app0]; done) | (simp only [keeps_cons, keeps_none, objs_app0, objs_app, and_true]; first | rfl | exact ⟨rfl, rfl⟩ | exact ⟨rfl, rfl, rfl⟩))) | (refine both_ways ?_ ?_) | (rw [wrap_i64 (by omega) (by omega)]) | (refine guardV_split (fun h => ?_) (fun h => ?_) <;> (try rw [h]) <;> (try simp at h) <;> (try (exfalso; omega))))
    refine bRSubmit_c h4 hM fun t' s5 h5 => ?_
    have r2 := (h5.q.f _ (List.mem_cons_self ..)).2
    simp only at r2
    have hr2 := (List.getElem?_eq_some_iff.1 r2).1
    have h6 := h5.ext (Ext.app s5 [.cells (repV t' (M.submit a.client (M.ofA a).1).2.1)])
    have v2 := (h6.q.f _ (List.mem_cons_self ..)).2
    simp only at v2
    have cv2 := cellAt_known v2
    have hdt : (decide ((M.submit a.client (M.ofA a).1).2.1 = (M.submit a.client (M.ofA a).1).2.1)) = true := decide_eq_true rfl
    repeat' (first | (simp -dsimp only [↓reduceIte, go_sem, cv2]) | (refine arr_intro fun _ => ?_) | (refine later_intro ⟨keeps_nil, ?_⟩) | (refine later_intro ⟨keeps_refl, ?_⟩) | (with_reducible refine keeps_go ?_ ?_; focus (first | (simp [keeps_cons, keeps_none, objs_app, objs_app0]; done) | (simp only [keeps_cons, keeps_none, objs_app0, objs_app, and_true]; first | rfl | exact ⟨rfl, rfl⟩ | exact ⟨rfl, rfl, rfl⟩))) | (with_reducible refine (And.intro (a := keeps _ _ _) ?_ ?_); focus (first | (simp [keeps_cons, keeps_none, objs_app, objs_app0]; done) | (simp only [keeps_cons, keeps_none, objs_app0, objs_app, and_true]; first | rfl | exact ⟨rfl, rfl⟩ | exact ⟨rfl, rfl, rfl⟩))) | (refine both_ways ?_ ?_) | (rw [wrap_i64 (by omega) (by omega)]) | (refine guardV_split (fun h => ?_) (fun h => ?_) <;> (try rw [h]) <;> (try simp at h) <;> (try (exfalso; omega))) | ((refine refSameReply_c ?_)))
    exact hK _ h6.less.less.less
theorem regSame_c (hB : Bo σ0 s j k i1 i2 i3 i4 M M F) (hM : M.Ok) (hK : K (.bool true) s) : TCalls Try.prog 11 [.ptr (some (j, [])), .ptr (some (k, []))] s K := by
  obtain ⟨R, hR, hP⟩ := hB.p
  have hQ := hB.q
  obtain ⟨tk, o⟩ := hQ.o
  have c0 := cellAt_known o
  have hn2 := hM.n2
  have hn8 := hM.n8
  have hRn : R.n = M.n := by rw [← hR]; rfl
  refine tcalls_walk Try.f11 _ [.tmp 4] Try.func11 rfl rfl rfl mixed (Nat.le_of_ble_eq_true rfl) rfl fun hlen => ?_
  simp -dsimp only [↓reduceIte, go_sem]
  refine awp_rounds (fun (m : Nat) τ s' => s' = s ∧ m ≤ 10 ∧ τ 0 = .ptr (some (j, [])) ∧ τ 1 = .ptr (some (k, [])) ∧ τ 5 = .int .i64 ((m : Int) - 1)) (fun m => 10 - m) 0 ?_ ?_
  · refine ⟨rfl, by omega, ?_, ?_, ?_⟩ <;> (try simp only [go_sem]) <;> rfl
  · rintro m τ s' ⟨rfl, hm, t0, t1, t5⟩
    by_cases hm9 : m < 10
    · have hm1 : (m : Int) - 1 < 9 := by omega
      by_cases hi : M.has ((m : Int) - 1)
      · have hiR : M.rm.has ((m : Int) - 1) := hi
        have hi0 : 0 ≤ (m : Int) - 1 := hi.1
        have hi1 : (m : Int) - 1 < M.rm.n := hi.2
        have e : (((m : Int) - 1).toNat : Int) = (m : Int) - 1 := Int.toNat_of_nonneg hi0
        have hi2 : (m : Int) - 1 < R.n := by rw [hRn]; exact hi.2
        obtain ⟨tc, hc⟩ := cli_get hP.h8 hi0 (by omega)
        have hcl : cliOf R ((m : Int) - 1) = M.cli ((m : Int) - 1) := by rw [← hR]; exact cliOf_plain
        rw [hcl] at hc
        have cN : ∀ K', K' (.int .i64 (M.cli ((m : Int) - 1)).last.num) s' → TCalls Try.prog 12 [.ptr (some (j, [])), .int .i64 ((m : Int) - 1)] s' K' := fun K' h => by
          have := rgNumber_c (K := K') hP hc (by rw [e]; exact hi2) h
          rw [e] at this; exact this
        have cV : ∀ K', K' (.str (M.cli ((m : Int) - 1)).view) s' → TCalls Try.prog 18 [.ptr (some (j, [])), .int .i64 ((m : Int) - 1)] s' K' := fun K' h => by
          have := rgView_c (K := K') hP hc (by rw [e]; exact hi2) h
          rw [e] at this; exact this
        have A1 : ∀ q, cellAt s' i1 (((m : Int) - 1).toNat :: q) = (AV.agg (subPs (M.cli ((m : Int) - 1)).last)).at q := fun q => by rw [cellAt_known hQ.o1, arr_at (f := fun x => AV.agg (subPs x)) (hQ.sub hiR), Reg.rm_sub hM hi]
        have A3 : ∀ q, cellAt s' i3 (((m : Int) - 1).toNat :: q) = (AV.str (M.cli ((m : Int) - 1)).view).at q := fun q => by rw [cellAt_known hQ.o3, arr_at (hQ.view hiR), Reg.rm_view hM hi]
        repeat' (first | (simp -dsimp only [↓reduceIte, go_sem, t0, t1, t5, hm1, c0, hi0, hi1, A1, A3]) | (refine arr_intro fun _ => ?_) | (refine later_intro ⟨keeps_nil, ?_⟩) | (refine later_intro ⟨keeps_refl, ?_⟩) | (with_reducible refine keeps_go ?_ ?_; focus (first | (simp [keeps_cons, keeps_none, objs_app, objs_app0]; done) | (simp only [keeps_cons, keeps_none, objs_app0, objs_app, and_true]; first | rfl | exact ⟨rfl, rfl⟩ | exact ⟨rfl, rfl, rfl⟩))) | (with_reducible refine (And.intro (a := keeps _ _ _) ?_ ?_); focus (first | (simp [keeps_cons, keeps_none, objs_app, objs_app0]; done) | (simp only [keeps_cons, keeps_none, objs_app0, objs_app, and_true]; first | rfl | exact ⟨rfl, rfl⟩ | exact ⟨rfl, rfl, rfl⟩))) | (refine both_ways ?_ ?_) | (rw [wrap_i64 (by omega) (by omega)]) | (refine guardV_split (fun h => ?_) (fun h => ?_) <;> (try rw [h]) <;> (try simp at h) <;> (try (exfalso; omega))) | ((refine refIs_c hQ ?_)) | (refine idx1 hQ hiR ?_) | (refine idx3 hQ hiR ?_) | (refine cN _ ?_) | (refine cV _ ?_))
        refine later_intro ⟨m + 1, by omega, rfl, by omega, ?_, ?_, ?_⟩ <;> (try simp only [go_sem, t0, t1, t5]) <;> (try rfl)
        congr 1; omega
      · have hiR : (0 ≤ (m : Int) - 1 ∧ (m : Int) - 1 < M.rm.n) = False := eq_false hi
        have hiP : ¬ (0 ≤ (m : Int) - 1 ∧ (m : Int) - 1 < R.n) := by rw [hRn]; exact hi
        repeat' (first | (simp -dsimp only [↓reduceIte, go_sem, t0, t1, t5, hm1, hiR]) | (refine arr_intro fun _ => ?_) | (refine later_intro ⟨keeps_nil, ?_⟩) | (refine later_intro ⟨keeps_refl, ?_⟩) | (with_reducible refine keeps_go ?_ ?_; focus (first | (simp [keeps_cons, keeps_none, objs_app, objs_app0]; done) | (simp only [keeps_cons, keeps_none, objs_app0, objs_app, and_true]; first | rfl | exact ⟨rfl, rfl⟩ | exact ⟨rfl, rfl, rfl⟩))) | (with_reducible refine (And.intro (a := keeps _ _ _) ?_ ?_); focus (first | (simp [keeps_cons, keeps_none, objs_app, objs_app0]; done) | (simp only [keeps_cons, keeps_none, objs_app0, objs_app, and_true]; first | rfl | exact ⟨rfl, rfl⟩ | exact ⟨rfl, rfl, rfl⟩))) | (refine both_ways ?_ ?_) | (rw [wrap_i64 (by omega) (by omega)]) | (refine guardV_split (fun h => ?_) (fun h => ?_) <;> (try rw [h]) <;> (try simp at h) <;> (try (exfalso; omega))) | ((refine refIs_c hQ ?_)) | (refine rgNumber_bad hP hiP ?_) | (refine rgView_bad hP hiP ?_))
        all_goals first
          | (refine absurd ?_ hi; assumption)
          | (refine later_intro ⟨m + 1, by omega, rfl, by omega, ?_, ?_, ?_⟩ <;> (try simp only [go_sem, t0, t1, t5]) <;> (try rfl)
             congr 1; omega)
    · have hm1 : ¬ (m : Int) - 1 < 9 := by omega
      have hord : orderL R.long R.pend = orderL M.rm.long M.rm.pend := by rw [← hR]; rfl
      have hMR : R.plain.Ok := hR ▸ hM
      repeat' (first | (simp -dsimp only [↓reduceIte, go_sem, t0, t1, t5, hm1]) | (refine arr_intro fun _ => ?_) | (refine later_intro ⟨keeps_nil, ?_⟩) | (refine later_intro ⟨keeps_refl, ?_⟩) | (with_reducible refine keeps_go ?_ ?_; focus (first | (simp [keeps_cons, keeps_none, objs_app, objs_app0]; done) | (simp only [keeps_cons, keeps_none, objs_app0, objs_app, and_true]; first | rfl | exact ⟨rfl, rfl⟩ | exact ⟨rfl, rfl, rfl⟩))) | (with_reducible refine (And.intro (a := keeps _ _ _) ?_ ?_); focus (first | (simp [keeps_cons, keeps_none, objs_app, objs_app0]; done) | (simp only [keeps_cons, keeps_none, objs_app0, objs_app, and_true]; first | rfl | exact ⟨rfl, rfl⟩ | exact ⟨rfl, rfl, rfl⟩))) | (refine both_ways ?_ ?_) | (rw [wrap_i64 (by omega) (by omega)]) | (refine guardV_split (fun h => ?_) (fun h => ?_) <;> (try rw [h]) <;> (try simp at h) <;> (try (exfalso; omega))))
      refine order_c hP (ok_plain hMR) ?_
      rw [hord]
      repeat' (first | (simp -dsimp only [↓reduceIte, go_sem, t0, t1, t5]) | (refine arr_intro fun _ => ?_) | (refine later_intro ⟨keeps_nil, ?_⟩) | (refine later_intro ⟨keeps_refl, ?_⟩) | (with_reducible refine keeps_go ?_ ?_; focus (first | (simp [keeps_cons, keeps_none, objs_app, objs_app0]; done) | (simp only [keeps_cons, keeps_none, objs_app0, objs_app, and_true]; first | rfl | exact ⟨rfl, rfl⟩ | exact ⟨rfl, rfl, rfl⟩))) | (with_reducible refine (And.intro (a := keeps _ _ _) ?_ ?_); focus (first | (simp [keeps_cons, keeps_none, objs_app, objs_app0]; done) | (simp only [keeps_cons, keeps_none, objs_app0, objs_app, and_true]; first | rfl | exact ⟨rfl, rfl⟩ | exact ⟨rfl, rfl, rfl⟩))) | (refine both_ways ?_ ?_) | (rw [wrap_i64 (by omega) (by omega)]) | (refine guardV_split (fun h => ?_) (fun h => ?_) <;> (try rw [h]) <;> (try simp at h) <;> (try (exfalso; omega))) | (refine refOrder_c hQ hM.pl hM.ll hM.cl ?_))
      exact hK
end
end Go.Aff.L10

/- Layer 12, walked: awake. -/
-- cuts
namespace Go.Aff.L10
open Go.Proofs Go.Aff Go.Aff.L01 Classical
set_option linter.unusedVariables false
set_option linter.unusedSimpArgs false
set_option maxRecDepth 20000
attribute [local go_sem] push_app app_app length_app cellAt_app cellAt_app0 set_app set_app0 objs_app objs_app0 List.cons_append List.nil_append List.length_cons List.length_nil List.getElem?_cons_zero List.getElem?_cons_succ List.set_cons_zero List.set_cons_succ List.length_map
attribute [-go_sem] cellAt_new
attribute [-simp] List.length_flatMap
attribute [local go_sem] Try.underlying3 Try.underlying4 Try.underlying5 Try.underlying9 Try.underlying31 Try.underlying32 Try.underlying41 Try.underlying75 Try.underlying24 Try.underlying81 subPs_0 subAt_0 subSet_0 subPs_1 subAt_1 subSet_1 subPs_2 subAt_2 subSet_2 subPs_3 subAt_3 subSet_3 subPs_4 subAt_4 subSet_4 subPs_5 subAt_5 subSet_5 sizes_sub shapes_sub fits_sub zero_sub zt_sub built_sub Try.underlying34 pendPs_0 pendAt_0 pendSet_0 pendPs_1 pendAt_1 pendSet_1 pendPs_2 pendAt_2 pendSet_2 pendPs_3 pendAt_3 pendSet_3 pendPs_4 pendAt_4 pendSet_4 pendPs_5 pendAt_5 pendSet_5 sizes_pend shapes_pend fits_pend zero_pend zt_pend built_pend Try.underlying70 repPs_0 repAt_0 repSet_0 repPs_1 repAt_1 repSet_1 repPs_2 repAt_2 repSet_2 repPs_3 repAt_3 repSet_3 repPs_4 repAt_4 repSet_4 repPs_5 repAt_5 repSet_5 repPs_6 repAt_6 repSet_6 repPs_7 repAt_7 repSet_7 repPs_8 repAt_8 repSet_8 repPs_9 repAt_9 repSet_9 sizes_rep shapes_rep fits_rep zero_rep zt_rep built_rep Try.underlying43 blobPs_0 blobAt_0 blobSet_0 blobPs_1 blobAt_1 blobSet_1 blobPs_2 blobAt_2 blobSet_2 blobPs_3 blobAt_3 blobSet_3 sizes_blob shapes_blob fits_blob zero_blob zt_blob built_blob Try.underlying74 msgPs_0 msgAt_0 msgSet_0 msgPs_1 msgAt_1 msgSet_1 msgPs_2 msgAt_2 msgSet_2 msgPs_3 msgAt_3 msgSet_3 msgPs_4 msgAt_4 msgSet_4 msgPs_5 msgAt_5 msgSet_5 msgPs_6 msgAt_6 msgSet_6 msgPs_7 msgAt_7 msgSet_7 msgPs_8 msgAt_8 msgSet_8 msgPs_9 msgAt_9 msgSet_9 sizes_msg shapes_msg fits_msg zero_msg zt_msg built_msg Try.underlying77 at_Ps_0 at_Set_0 at_Ps_1 at_Set_1 sizes_at_ shapes_at_
attribute [local go_sem] fits3 fits4 fits5 fits9 fits23 fits26 fits31 fits34 fits52 zt3 zero3 zt34 zero34 zt23 zero23 bin_sub_eql bin_pend_eql bin_pend_neq bin_blob_eql bin_dig23_eql bin_dig23_neq slice23
attribute [local go_sem ↓] blockQ_exit2
attribute [local simp] dig_ext
attribute [local go_sem] cliPs_0 cliAt_0 cliSet_0 cliPs_1 cliAt_1 cliSet_1 cliPs_2 cliAt_2 cliSet_2 cliPs_3 cliAt_3 cliSet_3 sizes_cli shapes_cli fits_cli zero_cli zt_cli built_cli actPs_0 actAt_0 actSet_0 actPs_1 actAt_1 actSet_1 actPs_2 actAt_2 actSet_2 actPs_3 actAt_3 actSet_3 actPs_4 actAt_4 actSet_4 sizes_act shapes_act fits_act zero_act zt_act built_act rgPs_0 rgPs_1 rgPs_2 rgPs_3 rgPs_4 rgPs_5 rgSet_0 rgSet_2 rgSet_3 rgSet_4 rgSet_5 rgAt_0 rgAt_1 fits_rg zero_rg zt_rg built_rg fits66 rrgPs_0 rrgSet_0 rrgAt_0 rrgPs_1 rrgSet_1 rrgAt_1 rrgPs_2 rrgSet_2 rrgAt_2 rrgPs_3 rrgSet_3 rrgAt_3 rrgPs_4 rrgSet_4 rrgAt_4 rrgPs_5 rrgSet_5 rrgAt_5 rrgPs_6 rrgSet_6 rrgAt_6 rrgPs_7 rrgSet_7 rrgAt_7 sizes_rrg shapes_rrg fits_rrg zero_rrg zt_rrg built_rrg fits57 fits58 fits39 fits59 fits23r fits41 arrV_none arrV_some arrV_size arrV_agg arrV_shape Try.underlying22 Try.underlying23 Try.underlying28 Try.underlying36 Try.underlying39 Try.underlying57 Try.underlying58 Try.underlying59 Try.underlying61 Try.underlying65 Try.underlying66 Try.underlying68 Try.underlying78
theorem subM_ok {n : Int} {x : Sub} : (Reg.subM n x).Ok ↔ x.Ok ∧ In 0 7 n := by
  simp [Msg.Ok, Msg.FieldsOk, Reg.subM, Msg.own_, msg0]
theorem comM_ok {n : Int} {v : List UInt8} {t : Dig} : (Reg.comM n v t).Ok ↔ (v ≠ [] ∧ ViewOk 8 v) ∧ In 0 7 n := by
  simp [Msg.Ok, Msg.FieldsOk, Reg.comM, Msg.own_, msg0]
theorem PF.sub {σ0 s : AST} {j : Nat} {R : Rg} {F F' : List (Nat × AObj)} (h : PF σ0 s j R F) (hF : ∀ x ∈ F', x ∈ F) : PF σ0 s j R F' := ⟨h.x, h.jn, h.h8, h.o, fun x hx => h.f x (hF x hx)⟩
theorem PF.box {σ0 s : AST} {j : Nat} {R : Rg} {F : List (Nat × AObj)} (h : PF σ0 s j R F) (o : AObj) : PF σ0 (s.app [o]) j R ((s.objs.length, o) :: F) := by
  obtain ⟨t, q⟩ := h.o
  have := (List.getElem?_eq_some_iff.1 q).1
  exact (h.ext (Ext.app _ _)).more objs_app0 (by omega)
theorem Reg.submit_new {M : Reg} {n : Int} {x : Sub} (hx : x.Ok) (hn : In 0 7 n) (h1 : M.has n) (h2 : M.has x.target) (h3 : x.num = (M.cli n).last.num + 1) (h4 : M.long.length + M.pend.length < 512) (h5 : M.pend.length < 8) :
    M.submit n x = ({ M.setC n { M.cli n with last := x, reply := M.ans x } with pend := M.pend ++ [Reg.newP n x] }, M.ans x, 0) := by
  unfold Reg.submit
  have ho : M.order.length = M.long.length + M.pend.length := by simp [Reg.order, orderL]
  rw [if_neg, if_neg (by omega), if_neg (by simpa using h3), if_neg (by omega)]
  rintro (h | h | h)
  · exact h (subM_ok.2 ⟨hx, hn⟩)
  · exact h h1
  · exact h h2
def x1 : Sub := ⟨1, 1, 0, [], dig0, dig0⟩
def x2 : Sub := ⟨2, 1, 0, [], dig0, dig0⟩
theorem x1_ok : x1.Ok := ⟨⟨by decide, by decide⟩, ⟨by decide, by decide⟩, ⟨by decide, by decide⟩, by decide⟩
theorem x2_ok : x2.Ok := ⟨⟨by decide, by decide⟩, ⟨by decide, by decide⟩, ⟨by decide, by decide⟩, by decide⟩
def A1 : Rep := ⟨1, -1, [], dig0, [], 0, [], dig0, [], dig0⟩
def A2 : Rep := ⟨1, -1, [], dig0, [⟨0, 1, 1, 0, dig0, dig0⟩], 0, [], dig0, [], dig0⟩
def A3 (d : Dig) : Rep := ⟨2, 0, [0], d, [⟨1, 1, 1, 0, dig0, dig0⟩], 0, [], dig0, [], dig0⟩
def M1 : Reg := ⟨2, ⟨x1, A1, [], dig0⟩ :: List.replicate 7 cli0, -1, [], dig0, [⟨0, 1, 1, 0, dig0, dig0⟩]⟩
def M2 : Reg := ⟨2, ⟨x1, A1, [], dig0⟩ :: ⟨x1, A2, [], dig0⟩ :: List.replicate 6 cli0, -1, [], dig0, [⟨0, 1, 1, 0, dig0, dig0⟩, ⟨1, 1, 1, 0, dig0, dig0⟩]⟩
def M3 (d : Dig) : Reg := ⟨2, ⟨x1, A1, [0], d⟩ :: ⟨x1, A2, [], dig0⟩ :: List.replicate 6 cli0, 0, [0], d, [⟨1, 1, 1, 0, dig0, dig0⟩]⟩
def M4 (d : Dig) : Reg := ⟨2, ⟨x2, A3 d, [0], d⟩ :: ⟨x1, A2, [], dig0⟩ :: List.replicate 6 cli0, 0, [0], d, [⟨1, 1, 1, 0, dig0, dig0⟩, ⟨0, 2, 1, 0, dig0, dig0⟩]⟩
theorem s1_eq : (reg0 2).submit 0 x1 = (M1, A1, 0) := by
  rw [Reg.submit_new x1_ok ⟨by decide, by decide⟩ ⟨by decide, by decide⟩ ⟨by decide, by decide⟩ rfl (by decide) (by decide)]; rfl
theorem s2_eq : M1.submit 1 x1 = (M2, A2, 0) := by
  rw [Reg.submit_new x1_ok ⟨by decide, by decide⟩ ⟨by decide, by decide⟩ ⟨by decide, by decide⟩ rfl (by decide) (by decide)]; rfl
theorem s3_eq {d : Dig} : M2.commit 0 [0] d = (M3 d, 0) := by
  unfold Reg.commit
  have hc : Go.Aff.L09.cnt 0 [0] = 1 := by decide
  rw [if_neg, if_neg, if_neg, if_neg (by decide)]
  · rw [hc]; rfl
  · rw [hc]; decide
  · rw [hc]; decide
  · rintro (h | h)
    · exact h (comM_ok.2 ⟨⟨by simp, ⟨by decide, by decide, by decide, by decide⟩⟩, by decide, by decide⟩)
    · exact h ⟨by decide, by decide⟩
theorem s4_eq {d : Dig} : (M3 d).submit 0 x2 = (M4 d, A3 d, 0) := by
  rw [Reg.submit_new x2_ok ⟨by decide, by decide⟩ ⟨by show (0 : Int) ≤ 0; decide, by show (0 : Int) < 2; decide⟩ ⟨by show (0 : Int) ≤ 0; decide, by show (0 : Int) < 2; decide⟩ rfl (by show 1 + 1 < 512; decide) (by show 1 < 8; decide)]; rfl
end Go.Aff.L10

