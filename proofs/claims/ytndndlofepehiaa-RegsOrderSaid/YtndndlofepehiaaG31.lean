import Derived.Test.YtndndlofepehiaaG30

set_option linter.unusedSimpArgs false
set_option linter.unusedVariables false

/- Layer 12, walked: what is pending is cut. -/
-- cuts
namespace Go.Aff.L10
open Go.Proofs Go.Aff Go.Aff.L01 Classical
set_option linter.unusedVariables false
set_option linter.unusedSimpArgs false
set_option maxRecDepth 20000
attribute [local go_sem] push_app app_app length_app cellAt_app cellAt_app0 set_app set_app0 objs_app objs_app0 List.cons_append List.nil_append List.length_cons List.length_nil List.getElem?_cons_zero List.getElem?_cons_succ List.set_cons_zero List.set_cons_succ List.length_map
attribute [-go_sem] cellAt_new
attribute [-simp] List.length_flatMap
attribute [local go_sem] Try.underlying3 Try.underlying4 Try.underlying5 Try.underlying9 Try.underlying31 Try.underlying32 Try.underlying41 Try.underlying75 Try.underlying24 Try.underlying81 subPs_0 subAt_0 subSet_0 subPs_1 subAt_1 subSet_1 subPs_2 subAt_2 subSet_2 subPs_3 subAt_3 subSet_3 subPs_4 subAt_4 subSet_4 subPs_5 subAt_5 subSet_5 sizes_sub shapes_sub fits_sub zero_sub zt_sub built_sub Try.underlying34 pendPs_0 pendAt_0 pendSet_0 pendPs_1 pendAt_1 pendSet_1 pendPs_2 pendAt_2 pendSet_2 pendPs_3 pendAt_3 pendSet_3 pendPs_4 pendAt_4 pendSet_4 pendPs_5 pendAt_5 pendSet_5 sizes_pend shapes_pend fits_pend zero_pend zt_pend built_pend Try.underlying70 repPs_0 repAt_0 repSet_0 repPs_1 repAt_1 repSet_1 repPs_2 repAt_2 repSet_2 repPs_3 repAt_3 repSet_3 repPs_4 repAt_4 repSet_4 repPs_5 repAt_5 repSet_5 repPs_6 repAt_6 repSet_6 repPs_7 repAt_7 repSet_7 repPs_8 repAt_8 repSet_8 repPs_9 repAt_9 repSet_9 sizes_rep shapes_rep fits_rep zero_rep zt_rep built_rep Try.underlying43 blobPs_0 blobAt_0 blobSet_0 blobPs_1 blobAt_1 blobSet_1 blobPs_2 blobAt_2 blobSet_2 blobPs_3 blobAt_3 blobSet_3 sizes_blob shapes_blob fits_blob zero_blob zt_blob built_blob Try.underlying74 msgPs_0 msgAt_0 msgSet_0 msgPs_1 msgAt_1 msgSet_1 msgPs_2 msgAt_2 msgSet_2 msgPs_3 msgAt_3 msgSet_3 msgPs_4 msgAt_4 msgSet_4 msgPs_5 msgAt_5 msgSet_5 msgPs_6 msgAt_6 msgSet_6 msgPs_7 msgAt_7 msgSet_7 msgPs_8 msgAt_8 msgSet_8 msgPs_9 msgAt_9 msgSet_9 sizes_msg shapes_msg fits_msg zero_msg zt_msg built_msg Try.underlying77 at_Ps_0 at_Set_0 at_Ps_1 at_Set_1 sizes_at_ shapes_at_
attribute [local go_sem] fits3 fits4 fits5 fits9 fits23 fits26 fits31 fits34 fits52 zt3 zero3 zt34 zero34 zt23 zero23 bin_sub_eql bin_pend_eql bin_pend_neq bin_blob_eql bin_dig23_eql bin_dig23_neq slice23
attribute [local go_sem ↓] blockQ_exit2
attribute [local simp] dig_ext
attribute [local go_sem] cliPs_0 cliAt_0 cliSet_0 cliPs_1 cliAt_1 cliSet_1 cliPs_2 cliAt_2 cliSet_2 cliPs_3 cliAt_3 cliSet_3 sizes_cli shapes_cli fits_cli zero_cli zt_cli built_cli actPs_0 actAt_0 actSet_0 actPs_1 actAt_1 actSet_1 actPs_2 actAt_2 actSet_2 actPs_3 actAt_3 actSet_3 actPs_4 actAt_4 actSet_4 sizes_act shapes_act fits_act zero_act zt_act built_act rgPs_0 rgPs_1 rgPs_2 rgPs_3 rgPs_4 rgPs_5 rgSet_0 rgSet_2 rgSet_3 rgSet_4 rgSet_5 rgAt_0 rgAt_1 fits_rg zero_rg zt_rg built_rg fits66 rrgPs_0 rrgSet_0 rrgAt_0 rrgPs_1 rrgSet_1 rrgAt_1 rrgPs_2 rrgSet_2 rrgAt_2 rrgPs_3 rrgSet_3 rrgAt_3 rrgPs_4 rrgSet_4 rrgAt_4 rrgPs_5 rrgSet_5 rrgAt_5 rrgPs_6 rrgSet_6 rrgAt_6 rrgPs_7 rrgSet_7 rrgAt_7 sizes_rrg shapes_rrg fits_rrg zero_rrg zt_rrg built_rrg fits57 fits58 fits39 fits59 fits23r fits41 arrV_none arrV_some arrV_size arrV_agg arrV_shape Try.underlying22 Try.underlying23 Try.underlying28 Try.underlying36 Try.underlying39 Try.underlying57 Try.underlying58 Try.underlying59 Try.underlying61 Try.underlying65 Try.underlying66 Try.underlying68 Try.underlying78
def hitP (n k : Int) (p : Pend) : Prop := p.client = n ∧ p.num = k
theorem cutP_at {n k : Int} : ∀ {l : List Pend} {i : Nat} {y : Pend}, (∀ (m : Nat) z, m < i → l[m]? = some z → ¬ hitP n k z) → l[i]? = some y → hitP n k y → Reg.cutP n k l = l.drop (i + 1)
  | [], i, y, h, hy, hh => by simp at hy
  | p :: l, 0, y, h, hy, hh => by simp at hy; subst hy; unfold hitP at hh; simp [Reg.cutP, hh]
  | p :: l, i + 1, y, h, hy, hh => by
    have h0 := h 0 p (by omega) rfl
    unfold hitP at h0
    simp only [Reg.cutP, h0, if_false, List.drop_succ_cons]
    exact cutP_at (fun m z hm hz => h (m + 1) z (by omega) (by simpa using hz)) (by simpa using hy) hh
theorem cut_at {n k : Int} {l : List Pend} {i : Nat} {y : Pend} (h : ∀ (m : Nat) z, m < i → l[m]? = some z → ¬ hitP n k z) (hy : l[i]? = some y) (hh : hitP n k y) : Reg.cut n k l = l.drop (i + 1) := by
  unfold Reg.cut
  rw [if_pos]
  · exact cutP_at h hy hh
  · rw [List.any_eq_true]; exact ⟨y, List.mem_of_getElem? hy, decide_eq_true hh⟩
theorem cut_none {n k : Int} {l : List Pend} (h : ∀ p ∈ l, ¬ hitP n k p) : Reg.cut n k l = l := by
  unfold Reg.cut
  rw [if_neg]
  rw [List.any_eq_true]
  rintro ⟨p, hp, hd⟩
  exact h p hp (by simpa [hitP] using hd)
theorem lo_pends {l : List Pend} {tk : Tk} {i : Nat} {KV : AV → Prop} (hi : i + 1 ≤ l.length) (h : ∀ t, KV (.slice t ((l.drop (i + 1)).map pendV))) : sliceW Try.prog 41 (.slice tk (l.map pendV)) (some (.int .i64 ((i : Int) + 1))) none none KV := by
  have := slice_lo (P := Try.prog) (h := i + 1) (tk := tk) (q := .i64) (KV := KV) E41 ⟨_, Try.underlying70⟩ (size_pends (l := l)) (by simpa using hi) fun t => by rw [← List.map_drop]; exact h t
  simpa using this
section
variable {σ0 s : AST} {j : Nat} {R : Rg} {F : List (Nat × AObj)} {K : AV → AST → Prop}
theorem cut_c (hP : PF σ0 s j R F) (hl : R.pend.length ≤ 8) {b0 b1 b2 : Nat} {n k : Int} (h0 : s.objs[b0]? = some (.cells (.ptr (some (j, []))))) (h1 : s.objs[b1]? = some (.cells (.int .i64 n))) (h2 : s.objs[b2]? = some (.cells (.int .i64 k)))
    (hK : ∀ s', PF σ0 s' j { R with pend := Reg.cut n k R.pend } F → K (.tuple []) s') : TCalls Try.prog 32 [.ptr (some (b0, [])), .ptr (some (b1, [])), .ptr (some (b2, []))] s K := by
  obtain ⟨tk, o⟩ := hP.o
  have c0 := cellAt_known o
  have cb0 := cellAt_known h0
  have cb1 := cellAt_known h1
  have cb2 := cellAt_known h2
  refine tcalls_walk Try.f32 _ [] Try.func32 rfl rfl rfl mixed (Nat.le_of_ble_eq_true rfl) rfl fun hlen => ?_
  repeat' (first | (simp -dsimp only [↓reduceIte, go_sem, c0, cb0, rgAt_5 hP.h8]) | (refine arr_intro fun _ => ?_) | (refine later_intro ⟨keeps_nil, ?_⟩) | (refine later_intro ⟨keeps_refl, ?_⟩) | (with_reducible refine keeps_go ?_ ?_; focus (first | (simp [keeps_cons, keeps_none, objs_app, objs_app0]; done) | (simp only [keeps_cons, keeps_none, objs_app0, objs_app, and_true]; first | rfl | exact ⟨rfl, rfl⟩ | exact ⟨rfl, rfl, rfl⟩))) | (with_reducible refine (And.intro (a := keeps _ _ _) ?_ ?_); focus (first | (simp [keeps_cons, keeps_none, objs_app, objs_app0]; done) | (simp only [keeps_cons, keeps_none, objs_app0, objs_app, and_true]; first | rfl | exact ⟨rfl, rfl⟩ | exact ⟨rfl, rfl, rfl⟩))) | (refine both_ways ?_ ?_) | (rw [wrap_i64 (by omega) (by omega)]) | (refine guardV_split (fun h => ?_) (fun h => ?_) <;> (try rw [h]) <;> (try simp at h) <;> (try (exfalso; omega))))
  refine awp_rounds (fun (i : Nat) τ s' => Ext s s' ∧ i ≤ R.pend.length ∧ (∀ (m : Nat) z, m < i → R.pend[m]? = some z → ¬ hitP n k z) ∧ τ 0 = .ptr (some (b0, [])) ∧ τ 1 = .ptr (some (b1, [])) ∧ τ 2 = .ptr (some (b2, [])) ∧ τ 8 = .slice tk (R.pend.map pendV) ∧ τ 9 = .int .i64 R.pend.length ∧ τ 10 = .int .i64 i) (fun i => R.pend.length - i) 0 ?_ ?_
  · refine ⟨Ext.refl _, by omega, fun m z h => by omega, ?_, ?_, ?_, ?_, ?_, ?_⟩ <;> (try simp only [go_sem]) <;> (try rfl)
  · rintro i τ s' ⟨hx, hi, hno, t0, t1, t2, t8, t9, t10⟩
    by_cases hil : i < R.pend.length
    · have hi1 : (i : Int) < R.pend.length := by omega
      obtain ⟨y, hy, hym⟩ := get_of_lt hil
      have hxA := fun l => hx.trans (Ext.app s' l)
      have oA := fun l => ext_known (hxA l) o
      have b0A := fun l => ext_known (hxA l) h0
      have b1A := fun l => ext_known (hxA l) h1
      have b2A := fun l => ext_known (hxA l) h2
      have cA := fun l => cellAt_known (oA l)
      have c0A := fun l => cellAt_known (b0A l)
      have c1A := fun l => cellAt_known (b1A l)
      have c2A := fun l => cellAt_known (b2A l)
      by_cases hh : hitP n k y
      · have hcut := cut_at hno hy hh
        obtain ⟨e1, e2⟩ := hh
        repeat' (first | (simp -dsimp only [↓reduceIte, go_sem, t0, t1, t2, t8, t9, t10, hi1, oA, cA, c0A, c1A, c2A, e1, e2, rgAt_5 hP.h8, cellAt_growS, objs_growS]) | (refine arr_intro fun _ => ?_) | (refine later_intro ⟨keeps_nil, ?_⟩) | (refine later_intro ⟨keeps_refl, ?_⟩) | (with_reducible refine keeps_go ?_ ?_; focus (first | (simp [keeps_cons, keeps_none, objs_app, objs_app0]; done) | (simp only [keeps_cons, keeps_none, objs_app0, objs_app, and_true]; first | rfl | exact ⟨rfl, rfl⟩ | exact ⟨rfl, rfl, rfl⟩))) | (with_reducible refine (And.intro (a := keeps _ _ _) ?_ ?_); focus (first | (simp [keeps_cons, keeps_none, objs_app, objs_app0]; done) | (simp only [keeps_cons, keeps_none, objs_app0, objs_app, and_true]; first | rfl | exact ⟨rfl, rfl⟩ | exact ⟨rfl, rfl, rfl⟩))) | (refine both_ways ?_ ?_) | (rw [wrap_i64 (by omega) (by omega)]) | (refine guardV_split (fun h => ?_) (fun h => ?_) <;> (try rw [h]) <;> (try simp at h) <;> (try (exfalso; omega))) | (refine nth_get hy ?_) | (with_reducible refine awp_drawU (id := 4) (.op 0 0 (.op 1 2 (.op 2 2 (.op 3 2 (.op 4 2 (.op 5 2 (.op 6 2 (.op 7 2 (.op 8 2 (.op 9 1 (.cut (.op 10 2 (.op 11 2 (.op 12 1 .nil)))))))))))))) (by kernel_rfl) ?_) | (with_reducible refine keeps_go ?_ ?_; focus (simp [keeps_cons, keeps_none, objs_app, objs_app0, oA, b0A, b1A, b2A, objs_growS]; done)) | (with_reducible refine (And.intro (a := keeps _ _ _) ?_ ?_); focus (simp [keeps_cons, keeps_none, objs_app, objs_app0, oA, b0A, b1A, b2A, objs_growS]; done)) | (refine build_pend0 ?_) | (refine lo_pends (by omega) fun t => ?_) | (refine append_pnone (by simp; omega) ?_))
        refine hK _ ?_
        rw [hcut]
        exact ((hP.ext (hxA _)).grow (.inl rfl)).put (R' := { R with pend := R.pend.drop (i + 1) }) hP.h8
      · have e1 : ¬ (y.client = n ∧ y.num = k) := hh
        repeat' (first | (simp -dsimp only [↓reduceIte, go_sem, t0, t1, t2, t8, t9, t10, hi1, oA, cA, c0A, c1A, c2A, e1]) | (refine arr_intro fun _ => ?_) | (refine later_intro ⟨keeps_nil, ?_⟩) | (refine later_intro ⟨keeps_refl, ?_⟩) | (with_reducible refine keeps_go ?_ ?_; focus (first | (simp [keeps_cons, keeps_none, objs_app, objs_app0]; done) | (simp only [keeps_cons, keeps_none, objs_app0, objs_app, and_true]; first | rfl | exact ⟨rfl, rfl⟩ | exact ⟨rfl, rfl, rfl⟩))) | (with_reducible refine (And.intro (a := keeps _ _ _) ?_ ?_); focus (first | (simp [keeps_cons, keeps_none, objs_app, objs_app0]; done) | (simp only [keeps_cons, keeps_none, objs_app0, objs_app, and_true]; first | rfl | exact ⟨rfl, rfl⟩ | exact ⟨rfl, rfl, rfl⟩))) | (refine both_ways ?_ ?_) | (rw [wrap_i64 (by omega) (by omega)]) | (refine guardV_split (fun h => ?_) (fun h => ?_) <;> (try rw [h]) <;> (try simp at h) <;> (try (exfalso; omega))) | (refine nth_get hy ?_))
        all_goals first
          | (refine absurd ⟨?_, ?_⟩ e1 <;> assumption)
          | (refine later_intro ⟨i + 1, by omega, hxA _, by omega, ?_, ?_, ?_, ?_, ?_, ?_, ?_⟩ <;> (try simp only [go_sem, t0, t1, t2, t8, t9, t10]) <;> (try rfl)
             intro m z hm hz
             by_cases hmi : m < i
             · exact hno m z hmi hz
             · obtain rfl : m = i := by omega
               rw [hy] at hz; cases hz; exact hh)
    · have hi1 : ¬ (i : Int) < R.pend.length := by omega
      have he : i = R.pend.length := by omega
      have hcut : Reg.cut n k R.pend = R.pend := cut_none fun p hp => by
        obtain ⟨m, hm⟩ := List.mem_iff_getElem?.1 hp
        exact hno m p (by have := (List.getElem?_eq_some_iff.1 hm).1; omega) hm
      repeat' (first | (simp -dsimp only [↓reduceIte, go_sem, t0, t1, t2, t8, t9, t10, hi1]) | (refine arr_intro fun _ => ?_) | (refine later_intro ⟨keeps_nil, ?_⟩) | (refine later_intro ⟨keeps_refl, ?_⟩) | (with_reducible refine keeps_go ?_ ?_; focus (first | (simp [keeps_cons, keeps_none, objs_app, objs_app0]; done) | (simp only [keeps_cons, keeps_none, objs_app0, objs_app, and_true]; first | rfl | exact ⟨rfl, rfl⟩ | exact ⟨rfl, rfl, rfl⟩))) | (with_reducible refine (And.intro (a := keeps _ _ _) ?_ ?_); focus (first | (simp [keeps_cons, keeps_none, objs_app, objs_app0]; done) | (simp only [keeps_cons, keeps_none, objs_app0, objs_app, and_true]; first | rfl | exact ⟨rfl, rfl⟩ | exact ⟨rfl, rfl, rfl⟩))) | (refine both_ways ?_ ?_) | (rw [wrap_i64 (by omega) (by omega)]) | (refine guardV_split (fun h => ?_) (fun h => ?_) <;> (try rw [h]) <;> (try simp at h) <;> (try (exfalso; omega))))
      refine hK _ ?_
      rw [hcut]
      exact hP.ext hx
end
end Go.Aff.L10

