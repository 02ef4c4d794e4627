import Derived.Test.YtndndlofepehiaaG35

set_option linter.unusedSimpArgs false
set_option linter.unusedVariables false

/- Layer 12, walked: both registers together. -/
-- cuts
namespace Go.Aff.L10
open Go.Proofs Go.Aff Go.Aff.L01 Classical
set_option linter.unusedVariables false
set_option linter.unusedSimpArgs false
set_option maxRecDepth 20000
attribute [local go_sem] push_app app_app length_app cellAt_app cellAt_app0 set_app set_app0 objs_app objs_app0 List.cons_append List.nil_append List.length_cons List.length_nil List.getElem?_cons_zero List.getElem?_cons_succ List.set_cons_zero List.set_cons_succ List.length_map
attribute [-go_sem] cellAt_new
attribute [-simp] List.length_flatMap
attribute [local go_sem] Try.underlying3 Try.underlying4 Try.underlying5 Try.underlying9 Try.underlying31 Try.underlying32 Try.underlying41 Try.underlying75 Try.underlying24 Try.underlying81 subPs_0 subAt_0 subSet_0 subPs_1 subAt_1 subSet_1 subPs_2 subAt_2 subSet_2 subPs_3 subAt_3 subSet_3 subPs_4 subAt_4 subSet_4 subPs_5 subAt_5 subSet_5 sizes_sub shapes_sub fits_sub zero_sub zt_sub built_sub Try.underlying34 pendPs_0 pendAt_0 pendSet_0 pendPs_1 pendAt_1 pendSet_1 pendPs_2 pendAt_2 pendSet_2 pendPs_3 pendAt_3 pendSet_3 pendPs_4 pendAt_4 pendSet_4 pendPs_5 pendAt_5 pendSet_5 sizes_pend shapes_pend fits_pend zero_pend zt_pend built_pend Try.underlying70 repPs_0 repAt_0 repSet_0 repPs_1 repAt_1 repSet_1 repPs_2 repAt_2 repSet_2 repPs_3 repAt_3 repSet_3 repPs_4 repAt_4 repSet_4 repPs_5 repAt_5 repSet_5 repPs_6 repAt_6 repSet_6 repPs_7 repAt_7 repSet_7 repPs_8 repAt_8 repSet_8 repPs_9 repAt_9 repSet_9 sizes_rep shapes_rep fits_rep zero_rep zt_rep built_rep Try.underlying43 blobPs_0 blobAt_0 blobSet_0 blobPs_1 blobAt_1 blobSet_1 blobPs_2 blobAt_2 blobSet_2 blobPs_3 blobAt_3 blobSet_3 sizes_blob shapes_blob fits_blob zero_blob zt_blob built_blob Try.underlying74 msgPs_0 msgAt_0 msgSet_0 msgPs_1 msgAt_1 msgSet_1 msgPs_2 msgAt_2 msgSet_2 msgPs_3 msgAt_3 msgSet_3 msgPs_4 msgAt_4 msgSet_4 msgPs_5 msgAt_5 msgSet_5 msgPs_6 msgAt_6 msgSet_6 msgPs_7 msgAt_7 msgSet_7 msgPs_8 msgAt_8 msgSet_8 msgPs_9 msgAt_9 msgSet_9 sizes_msg shapes_msg fits_msg zero_msg zt_msg built_msg Try.underlying77 at_Ps_0 at_Set_0 at_Ps_1 at_Set_1 sizes_at_ shapes_at_
attribute [local go_sem] fits3 fits4 fits5 fits9 fits23 fits26 fits31 fits34 fits52 zt3 zero3 zt34 zero34 zt23 zero23 bin_sub_eql bin_pend_eql bin_pend_neq bin_blob_eql bin_dig23_eql bin_dig23_neq slice23
attribute [local go_sem ↓] blockQ_exit2
attribute [local simp] dig_ext
attribute [local go_sem] cliPs_0 cliAt_0 cliSet_0 cliPs_1 cliAt_1 cliSet_1 cliPs_2 cliAt_2 cliSet_2 cliPs_3 cliAt_3 cliSet_3 sizes_cli shapes_cli fits_cli zero_cli zt_cli built_cli actPs_0 actAt_0 actSet_0 actPs_1 actAt_1 actSet_1 actPs_2 actAt_2 actSet_2 actPs_3 actAt_3 actSet_3 actPs_4 actAt_4 actSet_4 sizes_act shapes_act fits_act zero_act zt_act built_act rgPs_0 rgPs_1 rgPs_2 rgPs_3 rgPs_4 rgPs_5 rgSet_0 rgSet_2 rgSet_3 rgSet_4 rgSet_5 rgAt_0 rgAt_1 fits_rg zero_rg zt_rg built_rg fits66 rrgPs_0 rrgSet_0 rrgAt_0 rrgPs_1 rrgSet_1 rrgAt_1 rrgPs_2 rrgSet_2 rrgAt_2 rrgPs_3 rrgSet_3 rrgAt_3 rrgPs_4 rrgSet_4 rrgAt_4 rrgPs_5 rrgSet_5 rrgAt_5 rrgPs_6 rrgSet_6 rrgAt_6 rrgPs_7 rrgSet_7 rrgAt_7 sizes_rrg shapes_rrg fits_rrg zero_rrg zt_rrg built_rrg fits57 fits58 fits39 fits59 fits23r fits41 arrV_none arrV_some arrV_size arrV_agg arrV_shape Try.underlying22 Try.underlying23 Try.underlying28 Try.underlying36 Try.underlying39 Try.underlying57 Try.underlying58 Try.underlying59 Try.underlying61 Try.underlying65 Try.underlying66 Try.underlying68 Try.underlying78
attribute [local go_sem] isAgg_arr size_arr shape_arr known_arr
/-- Both registers in memory, and what else is known of memory. -/
structure Bo (σ0 s : AST) (j k i1 i2 i3 i4 : Nat) (M N : Reg) (F : List (Nat × AObj)) : Prop where
  p : ∃ R, R.plain = M ∧ PF σ0 s j R F
  q : QF σ0 s k i1 i2 i3 i4 N.rm F
  jk : j ∉ [k, i1, i2, i3, i4]
section
variable {σ0 s s2 : AST} {j k i1 i2 i3 i4 : Nat} {M N : Reg} {F : List (Nat × AObj)} {K : AV → AST → Prop}
theorem Bo.ext (h : Bo σ0 s j k i1 i2 i3 i4 M N F) (e : Ext s s2) : Bo σ0 s2 j k i1 i2 i3 i4 M N F := by
  obtain ⟨R, hR, hP⟩ := h.p
  exact ⟨⟨R, hR, hP.ext e⟩, h.q.ext e, h.jk⟩
theorem Bo.more (h : Bo σ0 s j k i1 i2 i3 i4 M N F) {i : Nat} {o : AObj} (ho : s.objs[i]? = some o) (hj : i ≠ j) (hi : i ∉ [k, i1, i2, i3, i4]) : Bo σ0 s j k i1 i2 i3 i4 M N ((i, o) :: F) := by
  obtain ⟨R, hR, hP⟩ := h.p
  exact ⟨⟨R, hR, hP.more ho hj⟩, h.q.more ho hi, h.jk⟩
theorem Bo.less {y : Nat × AObj} (h : Bo σ0 s j k i1 i2 i3 i4 M N (y :: F)) : Bo σ0 s j k i1 i2 i3 i4 M N F := by
  obtain ⟨R, hR, hP⟩ := h.p
  exact ⟨⟨R, hR, hP.less⟩, h.q.less, h.jk⟩
theorem Bo.lt (h : Bo σ0 s j k i1 i2 i3 i4 M N F) : j < s.objs.length ∧ k < s.objs.length ∧ i1 < s.objs.length ∧ i2 < s.objs.length ∧ i3 < s.objs.length ∧ i4 < s.objs.length := by
  obtain ⟨R, hR, hP⟩ := h.p
  obtain ⟨t, o⟩ := hP.o
  exact ⟨(List.getElem?_eq_some_iff.1 o).1, h.q.lt⟩
theorem Bo.box (h : Bo σ0 s j k i1 i2 i3 i4 M N F) (o : AObj) : Bo σ0 (s.app [o]) j k i1 i2 i3 i4 M N ((s.objs.length, o) :: F) := by
  have hl := h.lt
  refine (h.ext (Ext.app _ _)).more objs_app0 (by omega) ?_
  simp only [List.mem_cons, List.not_mem_nil, or_false, not_or]; omega
theorem Bo.pf (h : Bo σ0 s j k i1 i2 i3 i4 M N F) : ∃ R Fk, R.plain = M ∧ PF σ0 s j R (Fk ++ F) ∧ ∀ s' R', PF σ0 s' j R' (Fk ++ F) → Bo σ0 s' j k i1 i2 i3 i4 R'.plain N F := by
  obtain ⟨R, hR, hP⟩ := h.p
  have hq := h.q
  obtain ⟨tk, o⟩ := hq.o
  obtain ⟨l, hl, o2⟩ := hq.o2
  have hjk := h.jk
  simp only [List.mem_cons, List.not_mem_nil, or_false, not_or] at hjk
  obtain ⟨a, b, c, d, e⟩ := hjk
  refine ⟨R, [(k, _), (i1, _), (i2, _), (i3, _), (i4, _)], hR, ((((hP.more hq.o4 (Ne.symm e)).more hq.o3 (Ne.symm d)).more o2 (Ne.symm c)).more hq.o1 (Ne.symm b)).more o (Ne.symm a), fun s' R' h' => ?_⟩
  have f := fun x hx => (h'.f x hx).2
  refine ⟨⟨R', rfl, h'.less.less.less.less.less⟩, ⟨h'.x, hq.jn, hq.nd, hq.n0, hq.n8, hq.l1, hq.l2, hq.l3, hq.l4, ⟨tk, f (k, _) (by simp)⟩, f (i1, _) (by simp), ⟨l, hl, f (i2, _) (by simp)⟩, f (i3, _) (by simp), f (i4, _) (by simp), fun x hx => ⟨(hq.f x hx).1, f x (by simp [hx])⟩⟩, h.jk⟩
theorem Bo.qf (h : Bo σ0 s j k i1 i2 i3 i4 M N F) : ∃ o, QF σ0 s k i1 i2 i3 i4 N.rm ((j, o) :: F) ∧ ∀ s' N', QF σ0 s' k i1 i2 i3 i4 (Reg.rm N') ((j, o) :: F) → Bo σ0 s' j k i1 i2 i3 i4 M N' F := by
  obtain ⟨R, hR, hP⟩ := h.p
  obtain ⟨t, o⟩ := hP.o
  refine ⟨_, h.q.more o h.jk, fun s' N' h' => ⟨⟨R, hR, h'.x, hP.jn, hP.h8, ⟨t, (h'.f _ (List.mem_cons_self ..)).2⟩, fun x hx => ⟨(hP.f x hx).1, (h'.f x (List.mem_cons_of_mem _ hx)).2⟩⟩, h'.less, h.jk⟩⟩
theorem bSubmit_c (h : Bo σ0 s j k i1 i2 i3 i4 M N F) (hM : M.Ok) {n : Int} {x : Sub} (hK : ∀ t s', Bo σ0 s' j k i1 i2 i3 i4 (M.submit n x).1 N F → K (.tuple [repV t (M.submit n x).2.1, .int .i64 (M.submit n x).2.2]) s') :
    TCalls Try.prog 13 [.ptr (some (j, [])), .int .i64 n, subV x] s K := by
  obtain ⟨R, Fk, rfl, hP, hb⟩ := h.pf
  exact rgSubmit_c hP hM fun t s' R' hR' hP' => hK t s' (hR' ▸ hb s' R' hP')
theorem bCommit_c (h : Bo σ0 s j k i1 i2 i3 i4 M N F) (hM : M.Ok) {n : Int} {v : List UInt8} {t : Dig} (hK : ∀ s', Bo σ0 s' j k i1 i2 i3 i4 (M.commit n v t).1 N F → K (.int .i64 (M.commit n v t).2) s') :
    TCalls Try.prog 15 [.ptr (some (j, [])), .int .i64 n, .str v, .dig t] s K := by
  obtain ⟨R, Fk, rfl, hP, hb⟩ := h.pf
  exact rgCommit_c hP hM fun s' R' hR' hP' => hK s' (hR' ▸ hb s' R' hP')
theorem bRSubmit_c (h : Bo σ0 s j k i1 i2 i3 i4 M N F) (hN : N.Ok) {n : Int} {x : Sub} (hK : ∀ t s', Bo σ0 s' j k i1 i2 i3 i4 M (N.submit n x).1 F → K (.tuple [repV t (N.submit n x).2.1, .int .i64 (N.submit n x).2.2]) s') :
    TCalls Try.prog 25 [.ptr (some (k, [])), .int .i64 n, subV x] s K := by
  obtain ⟨o, hQ, hb⟩ := h.qf
  refine refSubmit_c hQ hN.rm fun t s' hQ' => ?_
  have e := Reg.submit_rm hN (n := n) (x := x)
  rw [e] at hQ' ⊢
  exact hK t s' (hb s' _ hQ')
theorem bRCommit_c (h : Bo σ0 s j k i1 i2 i3 i4 M N F) (hN : N.Ok) {n : Int} {v : List UInt8} {t : Dig} (hK : ∀ s', Bo σ0 s' j k i1 i2 i3 i4 M (N.commit n v t).1 F → K (.int .i64 (N.commit n v t).2) s') :
    TCalls Try.prog 24 [.ptr (some (k, [])), .int .i64 n, .str v, .dig t] s K := by
  obtain ⟨o, hQ, hb⟩ := h.qf
  refine refCommit_c hQ hN.rm fun s' hQ' => ?_
  have e := Reg.commit_rm hN (n := n) (v := v) (t := t)
  rw [e] at hQ' ⊢
  exact hK s' (hb s' _ hQ')
theorem after_c {y : Rep} {t : Tk} {me : Int} {σ : AST} (hl : y.pending.length ≤ 1000) (hv : y.view.length ≤ 1000) (hK : K (.str (orderL y.view y.pending ++ [bch me])) σ) : TCalls Try.prog 14 [repV t y, .int .i64 me] σ K := by
  refine TCalls.drop ?_
  have hb0 : (σ.app [.cells (repV t y)]).objs[σ.objs.length]? = some (.cells (repV t y)) := objs_app0
  have c0 := cellAt_known hb0
  refine tcalls_walk Try.f14 _ [.tmp 4] Try.func14 rfl rfl rfl mixed (Nat.le_of_ble_eq_true rfl) rfl fun hlen => ?_
  repeat' (first | (simp -dsimp only [↓reduceIte, go_sem, c0, cellAt_growS]) | (refine arr_intro fun _ => ?_) | (refine later_intro ⟨keeps_nil, ?_⟩) | (refine later_intro ⟨keeps_refl, ?_⟩) | (with_reducible refine keeps_go ?_ ?_; focus (first | (simp [keeps_cons, keeps_none, objs_app, objs_app0]; done) | (simp only [keeps_cons, keeps_none, objs_app0, objs_app, and_true]; first | rfl | exact ⟨rfl, rfl⟩ | exact ⟨rfl, rfl, rfl⟩))) | (with_reducible refine (And.intro (a := keeps _ _ _) ?_ ?_); focus (first | (simp [keeps_cons, keeps_none, objs_app, objs_app0]; done) | (simp only [keeps_cons, keeps_none, objs_app0, objs_app, and_true]; first | rfl | exact ⟨rfl, rfl⟩ | exact ⟨rfl, rfl, rfl⟩))) | (refine both_ways ?_ ?_) | (rw [wrap_i64 (by omega) (by omega)]) | (refine guardV_split (fun h => ?_) (fun h => ?_) <;> (try rw [h]) <;> (try simp at h) <;> (try (exfalso; omega))) | (refine conv_mk ?_))
  refine awp_rounds (fun (i : Nat) τ s' => ∃ tk', i ≤ y.pending.length ∧ Gr (σ.app [.cells (repV t y)]) s' tk' (orderL y.view (y.pending.take i)).length ∧ τ 1 = .int .i64 me ∧ τ 2 = .ptr (some (σ.objs.length, [])) ∧ τ 5 = .slice tk' (u8s (orderL y.view (y.pending.take i))) ∧ τ 6 = .int .i64 i) (fun i => y.pending.length - i) 0 ?_ ?_
  · refine ⟨growT (σ.app [.cells (repV t y)]) .full, by omega, ?_, ?_, ?_, ?_, ?_⟩ <;> (try simp only [go_sem]) <;> (try rfl)
    · have := (Gr.start (σ := σ.app [.cells (repV t y)]) (n := 0) (e := 1)).grow (m := y.view.length)
      simpa [orderL] using this
    · simp [orderL]
  · rintro i τ s' ⟨tk', hi, hg, t1, t2, t5, t6⟩
    have c1 := cellAt_known (ext_known hg.x hb0)
    have hol : (orderL y.view (y.pending.take i)).length = y.view.length + i := by simp [orderL]; omega
    by_cases hil : i < y.pending.length
    · have hi1 : (i : Int) < y.pending.length := by omega
      obtain ⟨z, hz, _⟩ := get_of_lt hil
      have hb := bch_any (n := z.client)
      have hnx := orderL_next (long := y.view) hz
      repeat' (first | (simp -dsimp only [↓reduceIte, go_sem, t1, t2, t5, t6, hi1, hb, c1]) | (refine arr_intro fun _ => ?_) | (refine later_intro ⟨keeps_nil, ?_⟩) | (refine later_intro ⟨keeps_refl, ?_⟩) | (with_reducible refine keeps_go ?_ ?_; focus (first | (simp [keeps_cons, keeps_none, objs_app, objs_app0]; done) | (simp only [keeps_cons, keeps_none, objs_app0, objs_app, and_true]; first | rfl | exact ⟨rfl, rfl⟩ | exact ⟨rfl, rfl, rfl⟩))) | (with_reducible refine (And.intro (a := keeps _ _ _) ?_ ?_); focus (first | (simp [keeps_cons, keeps_none, objs_app, objs_app0]; done) | (simp only [keeps_cons, keeps_none, objs_app0, objs_app, and_true]; first | rfl | exact ⟨rfl, rfl⟩ | exact ⟨rfl, rfl, rfl⟩))) | (refine both_ways ?_ ?_) | (rw [wrap_i64 (by omega) (by omega)]) | (refine guardV_split (fun h => ?_) (fun h => ?_) <;> (try rw [h]) <;> (try simp at h) <;> (try (exfalso; omega))) | (refine nth_get hz ?_) | (refine build_u8 ?_) | (refine append_bytes E51 S51 hg.c (by rw [hol]; simp; omega) (by rw [hol]; simp [maxL]; omega) ?_))
      refine later_intro ⟨i + 1, by omega, growT s' tk', by omega, ?_, ?_, ?_, ?_, ?_⟩ <;> (try simp only [go_sem, t1, t2, t5, t6, hnx]) <;> (try rfl)
      have := hg.grow (m := y.view.length + i + 1)
      simpa [hol] using this
    · have hi1 : ¬ (i : Int) < y.pending.length := by omega
      have he : i = y.pending.length := by omega
      subst he
      rw [List.take_length] at t5 hg hol
      have hb := bch_any (n := me)
      repeat' (first | (simp -dsimp only [↓reduceIte, go_sem, t1, t2, t5, t6, hi1, c1, hb]) | (refine arr_intro fun _ => ?_) | (refine later_intro ⟨keeps_nil, ?_⟩) | (refine later_intro ⟨keeps_refl, ?_⟩) | (with_reducible refine keeps_go ?_ ?_; focus (first | (simp [keeps_cons, keeps_none, objs_app, objs_app0]; done) | (simp only [keeps_cons, keeps_none, objs_app0, objs_app, and_true]; first | rfl | exact ⟨rfl, rfl⟩ | exact ⟨rfl, rfl, rfl⟩))) | (with_reducible refine (And.intro (a := keeps _ _ _) ?_ ?_); focus (first | (simp [keeps_cons, keeps_none, objs_app, objs_app0]; done) | (simp only [keeps_cons, keeps_none, objs_app0, objs_app, and_true]; first | rfl | exact ⟨rfl, rfl⟩ | exact ⟨rfl, rfl, rfl⟩))) | (refine both_ways ?_ ?_) | (rw [wrap_i64 (by omega) (by omega)]) | (refine guardV_split (fun h => ?_) (fun h => ?_) <;> (try rw [h]) <;> (try simp at h) <;> (try (exfalso; omega))) | (refine build_u8 ?_) | (refine append_bytes E51 S51 hg.c (by rw [hol]; simp; omega) (by rw [hol]; simp [maxL]; omega) ?_))
      exact ⟨((Ext.app _ _).trans hg.x).grow (by rcases hg.t with h | ⟨q, h, hq⟩; exact .inl h; exact .inr ⟨q, h, by simpa [AST.app] using hq⟩), rfl, by simpa [AV.strip] using hK⟩
end
end Go.Aff.L10

/- Layer 12, walked: of. -/
-- cuts
namespace Go.Aff.L10
open Go.Proofs Go.Aff Go.Aff.L01 Classical
set_option linter.unusedVariables false
set_option linter.unusedSimpArgs false
set_option maxRecDepth 20000
attribute [local go_sem] push_app app_app length_app cellAt_app cellAt_app0 set_app set_app0 objs_app objs_app0 List.cons_append List.nil_append List.length_cons List.length_nil List.getElem?_cons_zero List.getElem?_cons_succ List.set_cons_zero List.set_cons_succ List.length_map
attribute [-go_sem] cellAt_new
attribute [-simp] List.length_flatMap
attribute [local go_sem] Try.underlying3 Try.underlying4 Try.underlying5 Try.underlying9 Try.underlying31 Try.underlying32 Try.underlying41 Try.underlying75 Try.underlying24 Try.underlying81 subPs_0 subAt_0 subSet_0 subPs_1 subAt_1 subSet_1 subPs_2 subAt_2 subSet_2 subPs_3 subAt_3 subSet_3 subPs_4 subAt_4 subSet_4 subPs_5 subAt_5 subSet_5 sizes_sub shapes_sub fits_sub zero_sub zt_sub built_sub Try.underlying34 pendPs_0 pendAt_0 pendSet_0 pendPs_1 pendAt_1 pendSet_1 pendPs_2 pendAt_2 pendSet_2 pendPs_3 pendAt_3 pendSet_3 pendPs_4 pendAt_4 pendSet_4 pendPs_5 pendAt_5 pendSet_5 sizes_pend shapes_pend fits_pend zero_pend zt_pend built_pend Try.underlying70 repPs_0 repAt_0 repSet_0 repPs_1 repAt_1 repSet_1 repPs_2 repAt_2 repSet_2 repPs_3 repAt_3 repSet_3 repPs_4 repAt_4 repSet_4 repPs_5 repAt_5 repSet_5 repPs_6 repAt_6 repSet_6 repPs_7 repAt_7 repSet_7 repPs_8 repAt_8 repSet_8 repPs_9 repAt_9 repSet_9 sizes_rep shapes_rep fits_rep zero_rep zt_rep built_rep Try.underlying43 blobPs_0 blobAt_0 blobSet_0 blobPs_1 blobAt_1 blobSet_1 blobPs_2 blobAt_2 blobSet_2 blobPs_3 blobAt_3 blobSet_3 sizes_blob shapes_blob fits_blob zero_blob zt_blob built_blob Try.underlying74 msgPs_0 msgAt_0 msgSet_0 msgPs_1 msgAt_1 msgSet_1 msgPs_2 msgAt_2 msgSet_2 msgPs_3 msgAt_3 msgSet_3 msgPs_4 msgAt_4 msgSet_4 msgPs_5 msgAt_5 msgSet_5 msgPs_6 msgAt_6 msgSet_6 msgPs_7 msgAt_7 msgSet_7 msgPs_8 msgAt_8 msgSet_8 msgPs_9 msgAt_9 msgSet_9 sizes_msg shapes_msg fits_msg zero_msg zt_msg built_msg Try.underlying77 at_Ps_0 at_Set_0 at_Ps_1 at_Set_1 sizes_at_ shapes_at_
attribute [local go_sem] fits3 fits4 fits5 fits9 fits23 fits26 fits31 fits34 fits52 zt3 zero3 zt34 zero34 zt23 zero23 bin_sub_eql bin_pend_eql bin_pend_neq bin_blob_eql bin_dig23_eql bin_dig23_neq slice23
attribute [local go_sem ↓] blockQ_exit2
attribute [local simp] dig_ext
attribute [local go_sem] cliPs_0 cliAt_0 cliSet_0 cliPs_1 cliAt_1 cliSet_1 cliPs_2 cliAt_2 cliSet_2 cliPs_3 cliAt_3 cliSet_3 sizes_cli shapes_cli fits_cli zero_cli zt_cli built_cli actPs_0 actAt_0 actSet_0 actPs_1 actAt_1 actSet_1 actPs_2 actAt_2 actSet_2 actPs_3 actAt_3 actSet_3 actPs_4 actAt_4 actSet_4 sizes_act shapes_act fits_act zero_act zt_act built_act rgPs_0 rgPs_1 rgPs_2 rgPs_3 rgPs_4 rgPs_5 rgSet_0 rgSet_2 rgSet_3 rgSet_4 rgSet_5 rgAt_0 rgAt_1 fits_rg zero_rg zt_rg built_rg fits66 rrgPs_0 rrgSet_0 rrgAt_0 rrgPs_1 rrgSet_1 rrgAt_1 rrgPs_2 rrgSet_2 rrgAt_2 rrgPs_3 rrgSet_3 rrgAt_3 rrgPs_4 rrgSet_4 rrgAt_4 rrgPs_5 rrgSet_5 rrgAt_5 rrgPs_6 rrgSet_6 rrgAt_6 rrgPs_7 rrgSet_7 rrgAt_7 sizes_rrg shapes_rrg fits_rrg zero_rrg zt_rrg built_rrg fits57 fits58 fits39 fits59 fits23r fits41 arrV_none arrV_some arrV_size arrV_agg arrV_shape Try.underlying22 Try.underlying23 Try.underlying28 Try.underlying36 Try.underlying39 Try.underlying57 Try.underlying58 Try.underlying59 Try.underlying61 Try.underlying65 Try.underlying66 Try.underlying68 Try.underlying78
attribute [local go_sem] isAgg_arr size_arr shape_arr known_arr
noncomputable def Reg.ofA (M : Reg) (a : Act12) : Sub × List UInt8 :=
  if ¬ M.has a.client then (a.x, a.view)
  else if a.kind = 1 ∨ a.kind = 2 ∨ a.kind = 3 then ({ a.x with num := (M.cli a.client).last.num + 1 }, a.view)
  else if a.kind = 5 ∨ a.kind = 6 ∨ a.kind = 7 then (a.x, orderL (M.cli a.client).reply.view (M.cli a.client).reply.pending ++ [bch a.client])
  else if a.kind = 0 ∨ a.kind = 4 then (a.x, a.view)
  else ((M.cli a.client).last, a.view)
section
variable {σ0 s s2 : AST} {j k i1 i2 i3 i4 : Nat} {M N : Reg} {F : List (Nat × AObj)} {K : AV → AST → Prop}
theorem of_c (h : QF σ0 s k i1 i2 i3 i4 M.rm F) (hM : M.Ok) {a : Act12} (hK : K (.tuple [subV (M.ofA a).1, .str (M.ofA a).2]) s) : TCalls Try.prog 20 [.ptr (some (k, [])), actV a] s K := by
  refine TCalls.drop ?_
  have hfin : ∀ s' x v, Ext s s' → M.ofA a = (x, v) → Ext s s' ∧ (AV.tuple [subV x, .str v]).noRef = true ∧ K (AV.tuple [subV x, .str v]).strip s := fun s' x v hx he => by
    refine ⟨hx, by simp [AV.noRef, AV.noRefs, subPs], ?_⟩
    simp only [AV.strip, AV.strips, strip_sub]
    rw [he] at hK; exact hK
  have hQ := h.ext (Ext.app s [.cells (actV a), .cells (subV sub0)])
  have hQA := fun l => h.ext (Ext.app s (.cells (actV a) :: .cells (subV sub0) :: l))
  have hlt := h.lt
  obtain ⟨tk, o⟩ := h.o
  have oA := fun l => objs_known_app o l
  have cA := fun l => cellAt_known (oA l)
  have cS1 : ∀ x y z v p, cellAt ((s.app [x, y, z]).set (s.objs.length + 1) (.cells v)) (s.objs.length + 1) p = v.at p := fun x y z v p => cellAt_setS (by simp [AST.app])
  have hnn : ∀ v : Sub, (AV.agg (subPs v)) = subV v := fun _ => rfl
  refine tcalls_walk Try.f20 _ [.cell 4 34, .tmp 5] Try.func20 rfl rfl rfl mixed (Nat.le_of_ble_eq_true rfl) rfl fun hlen => ?_
  by_cases hn : M.has a.client
  · have hnR : M.rm.has a.client := hn
    have hn0 : 0 ≤ a.client := hn.1
    have hn1 : a.client < M.rm.n := hn.2
    have hof : M.ofA a = if a.kind = 1 ∨ a.kind = 2 ∨ a.kind = 3 then ({ a.x with num := (M.cli a.client).last.num + 1 }, a.view)
        else if a.kind = 5 ∨ a.kind = 6 ∨ a.kind = 7 then (a.x, orderL (M.cli a.client).reply.view (M.cli a.client).reply.pending ++ [bch a.client])
        else if a.kind = 0 ∨ a.kind = 4 then (a.x, a.view)
        else ((M.cli a.client).last, a.view) := by unfold Reg.ofA; rw [if_neg (fun h => h hn)]
    have hmem := hM.cli_mem hn
    have hnm := hM.nm _ hmem
    have hrp := hM.rp _ hmem
    have hrv := hM.rv _ hmem
    have hwr : IntKind.i64.wrap ((M.cli a.client).last.num + 1) = (M.cli a.client).last.num + 1 := wrap_i64 (by omega) (by omega)
    have A1 : ∀ l q, cellAt (s.app (.cells (actV a) :: .cells (subV sub0) :: l)) i1 (a.client.toNat :: q) = (AV.agg (subPs (M.cli a.client).last)).at q := fun l q => by
      rw [cellAt_known (hQA l).o1, arr_at (f := fun x => AV.agg (subPs x)) ((hQA l).sub hnR), Reg.rm_sub hM hn]
    obtain ⟨l2, hl2, o2⟩ := h.o2
    obtain ⟨tr, hlr⟩ : ∃ tr, l2[a.client.toNat]? = some (tr, (M.cli a.client).reply) := by
      have h1 := h.rep hnR
      rw [Reg.rm_rep hM hn, ← hl2, List.getElem?_map, Option.map_eq_some_iff] at h1
      obtain ⟨⟨p, q⟩, h2, h3⟩ := h1
      simp only at h3; subst h3; exact ⟨p, h2⟩
    have A2 : ∀ l q, cellAt (s.app l) i2 (a.client.toNat :: q) = (AV.agg (repPs tr (M.cli a.client).reply)).at q := fun l q => by rw [cellAt_known (objs_known_app o2 l), arr_at hlr]; rfl
    have hk : (a.kind = 1 ∨ a.kind = 2 ∨ a.kind = 3) ∨ (a.kind = 5 ∨ a.kind = 6 ∨ a.kind = 7) ∨ (a.kind = 0 ∨ a.kind = 4) ∨ (¬ a.kind = 0 ∧ ¬ a.kind = 1 ∧ ¬ a.kind = 2 ∧ ¬ a.kind = 3 ∧ ¬ a.kind = 4 ∧ ¬ a.kind = 5 ∧ ¬ a.kind = 6 ∧ ¬ a.kind = 7) := by omega
    rcases hk with hk | hk | hk | ⟨k0, k1, k2, k3, k4, k5, k6, k7⟩
    · rw [if_pos hk] at hof
      rcases hk with hk | hk | hk
      all_goals
        repeat' (first | (simp -dsimp only [↓reduceIte, go_sem, cA, oA, hn0, hn1, hk, A1, hwr, cS1]) | (refine arr_intro fun _ => ?_) | (refine later_intro ⟨keeps_nil, ?_⟩) | (refine later_intro ⟨keeps_refl, ?_⟩) | (with_reducible refine keeps_go ?_ ?_; focus (first | (simp [keeps_cons, keeps_none, objs_app, objs_app0]; done) | (simp only [keeps_cons, keeps_none, objs_app0, objs_app, and_true]; first | rfl | exact ⟨rfl, rfl⟩ | exact ⟨rfl, rfl, rfl⟩))) | (with_reducible refine (And.intro (a := keeps _ _ _) ?_ ?_); focus (first | (simp [keeps_cons, keeps_none, objs_app, objs_app0]; done) | (simp only [keeps_cons, keeps_none, objs_app0, objs_app, and_true]; first | rfl | exact ⟨rfl, rfl⟩ | exact ⟨rfl, rfl, rfl⟩))) | (refine both_ways ?_ ?_) | (rw [wrap_i64 (by omega) (by omega)]) | (refine guardV_split (fun h => ?_) (fun h => ?_) <;> (try rw [h]) <;> (try simp at h) <;> (try (exfalso; omega))) | (with_reducible refine awp_drawT (id := 1) (.op 0 0 (.op 1 0 (.op 2 0 (.op 3 0 (.op 4 1 (.op 5 1 (.op 6 2 .nil))))))) (by kernel_rfl) ?_) | ((refine refIs_c (hQA _) ?_)) | (with_reducible refine awp_drawT (id := 9) (.op 0 2 (.op 1 2 (.op 2 2 (.op 3 2 (.op 4 2 (.op 5 2 (.op 6 2 (.op 7 2 (.op 8 2 (.op 9 2 (.op 10 2 (.op 11 1 .nil)))))))))))) (by kernel_rfl) ?_) | (refine idx1 (hQA _) hnR ?_))
        exact hfin _ _ _ (Ext.app _ _) hof
    · rw [if_neg (by omega), if_pos hk] at hof
      rcases hk with hk | hk | hk
      all_goals
        repeat' (first | (simp -dsimp only [↓reduceIte, go_sem, cA, oA, hn0, hn1, hk, A2, cS1]) | (refine arr_intro fun _ => ?_) | (refine later_intro ⟨keeps_nil, ?_⟩) | (refine later_intro ⟨keeps_refl, ?_⟩) | (with_reducible refine keeps_go ?_ ?_; focus (first | (simp [keeps_cons, keeps_none, objs_app, objs_app0]; done) | (simp only [keeps_cons, keeps_none, objs_app0, objs_app, and_true]; first | rfl | exact ⟨rfl, rfl⟩ | exact ⟨rfl, rfl, rfl⟩))) | (with_reducible refine (And.intro (a := keeps _ _ _) ?_ ?_); focus (first | (simp [keeps_cons, keeps_none, objs_app, objs_app0]; done) | (simp only [keeps_cons, keeps_none, objs_app0, objs_app, and_true]; first | rfl | exact ⟨rfl, rfl⟩ | exact ⟨rfl, rfl, rfl⟩))) | (refine both_ways ?_ ?_) | (rw [wrap_i64 (by omega) (by omega)]) | (refine guardV_split (fun h => ?_) (fun h => ?_) <;> (try rw [h]) <;> (try simp at h) <;> (try (exfalso; omega))) | (with_reducible refine awp_drawT (id := 1) (.op 0 0 (.op 1 0 (.op 2 0 (.op 3 0 (.op 4 1 (.op 5 1 (.op 6 2 .nil))))))) (by kernel_rfl) ?_) | ((refine refIs_c (hQA _) ?_)) | (with_reducible refine awp_drawS (id := 13) [0, 1, 2, 3, 4, 5, 6, 7, 8, 9, 10, 11] (by kernel_rfl) ?_) | (refine idx2 (hQA _) hnR ?_) | (refine after_c (by omega) (by omega) ?_))
        exact hfin _ _ _ (Ext.app _ _) hof
    · rw [if_neg (by omega), if_neg (by omega), if_pos hk] at hof
      rcases hk with hk | hk
      all_goals
        repeat' (first | (simp -dsimp only [↓reduceIte, go_sem, cA, oA, hn0, hn1, hk, cS1]) | (refine arr_intro fun _ => ?_) | (refine later_intro ⟨keeps_nil, ?_⟩) | (refine later_intro ⟨keeps_refl, ?_⟩) | (with_reducible refine keeps_go ?_ ?_; focus (first | (simp [keeps_cons, keeps_none, objs_app, objs_app0]; done) | (simp only [keeps_cons, keeps_none, objs_app0, objs_app, and_true]; first | rfl | exact ⟨rfl, rfl⟩ | exact ⟨rfl, rfl, rfl⟩))) | (with_reducible refine (And.intro (a := keeps _ _ _) ?_ ?_); focus (first | (simp [keeps_cons, keeps_none, objs_app, objs_app0]; done) | (simp only [keeps_cons, keeps_none, objs_app0, objs_app, and_true]; first | rfl | exact ⟨rfl, rfl⟩ | exact ⟨rfl, rfl, rfl⟩))) | (refine both_ways ?_ ?_) | (rw [wrap_i64 (by omega) (by omega)]) | (refine guardV_split (fun h => ?_) (fun h => ?_) <;> (try rw [h]) <;> (try simp at h) <;> (try (exfalso; omega))) | (with_reducible refine awp_drawT (id := 1) (.op 0 0 (.op 1 0 (.op 2 0 (.op 3 0 (.op 4 1 (.op 5 1 (.op 6 2 .nil))))))) (by kernel_rfl) ?_) | ((refine refIs_c (hQA _) ?_)))
        exact hfin _ _ _ (Ext.app _ _) hof
    · rw [if_neg (by omega), if_neg (by omega), if_neg (by omega)] at hof
      repeat' (first | (simp -dsimp only [↓reduceIte, go_sem, cA, oA, hn0, hn1, k0, k1, k2, k3, k4, k5, k6, k7, A1, cS1]) | (refine arr_intro fun _ => ?_) | (refine later_intro ⟨keeps_nil, ?_⟩) | (refine later_intro ⟨keeps_refl, ?_⟩) | (with_reducible refine keeps_go ?_ ?_; focus (first | (simp [keeps_cons, keeps_none, objs_app, objs_app0]; done) | (simp only [keeps_cons, keeps_none, objs_app0, objs_app, and_true]; first | rfl | exact ⟨rfl, rfl⟩ | exact ⟨rfl, rfl, rfl⟩))) | (with_reducible refine (And.intro (a := keeps _ _ _) ?_ ?_); focus (first | (simp [keeps_cons, keeps_none, objs_app, objs_app0]; done) | (simp only [keeps_cons, keeps_none, objs_app0, objs_app, and_true]; first | rfl | exact ⟨rfl, rfl⟩ | exact ⟨rfl, rfl, rfl⟩))) | (refine both_ways ?_ ?_) | (rw [wrap_i64 (by omega) (by omega)]) | (refine guardV_split (fun h => ?_) (fun h => ?_) <;> (try rw [h]) <;> (try simp at h) <;> (try (exfalso; omega))) | (with_reducible refine awp_drawT (id := 1) (.op 0 0 (.op 1 0 (.op 2 0 (.op 3 0 (.op 4 1 (.op 5 1 (.op 6 2 .nil))))))) (by kernel_rfl) ?_) | ((refine refIs_c (hQA _) ?_)) | (with_reducible refine awp_drawT (id := 5) (.op 0 2 (.op 1 2 (.op 2 2 (.op 3 2 (.op 4 2 (.op 5 2 (.op 6 2 (.op 7 2 (.op 8 1 .nil))))))))) (by kernel_rfl) ?_) | (refine idx1 (hQA _) hnR ?_))
      exact hfin _ _ _ (Ext.app _ _) hof
  · have hof : M.ofA a = (a.x, a.view) := by unfold Reg.ofA; rw [if_pos hn]
    have hnd : (0 ≤ a.client ∧ a.client < M.rm.n) = False := eq_false hn
    repeat' (first | (simp -dsimp only [↓reduceIte, go_sem, cA, oA, hnd, cS1]) | (refine arr_intro fun _ => ?_) | (refine later_intro ⟨keeps_nil, ?_⟩) | (refine later_intro ⟨keeps_refl, ?_⟩) | (with_reducible refine keeps_go ?_ ?_; focus (first | (simp [keeps_cons, keeps_none, objs_app, objs_app0]; done) | (simp only [keeps_cons, keeps_none, objs_app0, objs_app, and_true]; first | rfl | exact ⟨rfl, rfl⟩ | exact ⟨rfl, rfl, rfl⟩))) | (with_reducible refine (And.intro (a := keeps _ _ _) ?_ ?_); focus (first | (simp [keeps_cons, keeps_none, objs_app, objs_app0]; done) | (simp only [keeps_cons, keeps_none, objs_app0, objs_app, and_true]; first | rfl | exact ⟨rfl, rfl⟩ | exact ⟨rfl, rfl, rfl⟩))) | (refine both_ways ?_ ?_) | (rw [wrap_i64 (by omega) (by omega)]) | (refine guardV_split (fun h => ?_) (fun h => ?_) <;> (try rw [h]) <;> (try simp at h) <;> (try (exfalso; omega))) | (with_reducible refine awp_drawT (id := 1) (.op 0 0 (.op 1 0 (.op 2 0 (.op 3 0 (.op 4 1 (.op 5 1 (.op 6 2 .nil))))))) (by kernel_rfl) ?_) | ((refine refIs_c (hQA _) ?_)))
    all_goals first
      | (refine absurd ?_ hn; assumption)
      | exact hfin _ _ _ (Ext.app _ _) hof
end
end Go.Aff.L10

