import Derived.Test.YtndndlofepehiaaG37
import Derived.Test.YtndndlofepehiaaG16

set_option linter.unusedSimpArgs false
set_option linter.unusedVariables false

/- Layer 12, walked: awake (2). -/
-- cuts
namespace Go.Aff.L10
open Go.Proofs Go.Aff Go.Aff.L01 Classical
set_option linter.unusedVariables false
set_option linter.unusedSimpArgs false
set_option maxRecDepth 20000
attribute [local go_sem] push_app app_app length_app cellAt_app cellAt_app0 set_app set_app0 objs_app objs_app0 List.cons_append List.nil_append List.length_cons List.length_nil List.getElem?_cons_zero List.getElem?_cons_succ List.set_cons_zero List.set_cons_succ List.length_map
attribute [-go_sem] cellAt_new
attribute [-simp] List.length_flatMap
attribute [local go_sem] Try.underlying3 Try.underlying4 Try.underlying5 Try.underlying9 Try.underlying31 Try.underlying32 Try.underlying41 Try.underlying75 Try.underlying24 Try.underlying81 subPs_0 subAt_0 subSet_0 subPs_1 subAt_1 subSet_1 subPs_2 subAt_2 subSet_2 subPs_3 subAt_3 subSet_3 subPs_4 subAt_4 subSet_4 subPs_5 subAt_5 subSet_5 sizes_sub shapes_sub fits_sub zero_sub zt_sub built_sub Try.underlying34 pendPs_0 pendAt_0 pendSet_0 pendPs_1 pendAt_1 pendSet_1 pendPs_2 pendAt_2 pendSet_2 pendPs_3 pendAt_3 pendSet_3 pendPs_4 pendAt_4 pendSet_4 pendPs_5 pendAt_5 pendSet_5 sizes_pend shapes_pend fits_pend zero_pend zt_pend built_pend Try.underlying70 repPs_0 repAt_0 repSet_0 repPs_1 repAt_1 repSet_1 repPs_2 repAt_2 repSet_2 repPs_3 repAt_3 repSet_3 repPs_4 repAt_4 repSet_4 repPs_5 repAt_5 repSet_5 repPs_6 repAt_6 repSet_6 repPs_7 repAt_7 repSet_7 repPs_8 repAt_8 repSet_8 repPs_9 repAt_9 repSet_9 sizes_rep shapes_rep fits_rep zero_rep zt_rep built_rep Try.underlying43 blobPs_0 blobAt_0 blobSet_0 blobPs_1 blobAt_1 blobSet_1 blobPs_2 blobAt_2 blobSet_2 blobPs_3 blobAt_3 blobSet_3 sizes_blob shapes_blob fits_blob zero_blob zt_blob built_blob Try.underlying74 msgPs_0 msgAt_0 msgSet_0 msgPs_1 msgAt_1 msgSet_1 msgPs_2 msgAt_2 msgSet_2 msgPs_3 msgAt_3 msgSet_3 msgPs_4 msgAt_4 msgSet_4 msgPs_5 msgAt_5 msgSet_5 msgPs_6 msgAt_6 msgSet_6 msgPs_7 msgAt_7 msgSet_7 msgPs_8 msgAt_8 msgSet_8 msgPs_9 msgAt_9 msgSet_9 sizes_msg shapes_msg fits_msg zero_msg zt_msg built_msg Try.underlying77 at_Ps_0 at_Set_0 at_Ps_1 at_Set_1 sizes_at_ shapes_at_
attribute [local go_sem] fits3 fits4 fits5 fits9 fits23 fits26 fits31 fits34 fits52 zt3 zero3 zt34 zero34 zt23 zero23 bin_sub_eql bin_pend_eql bin_pend_neq bin_blob_eql bin_dig23_eql bin_dig23_neq slice23
attribute [local go_sem ↓] blockQ_exit2
attribute [local simp] dig_ext
attribute [local go_sem] cliPs_0 cliAt_0 cliSet_0 cliPs_1 cliAt_1 cliSet_1 cliPs_2 cliAt_2 cliSet_2 cliPs_3 cliAt_3 cliSet_3 sizes_cli shapes_cli fits_cli zero_cli zt_cli built_cli actPs_0 actAt_0 actSet_0 actPs_1 actAt_1 actSet_1 actPs_2 actAt_2 actSet_2 actPs_3 actAt_3 actSet_3 actPs_4 actAt_4 actSet_4 sizes_act shapes_act fits_act zero_act zt_act built_act rgPs_0 rgPs_1 rgPs_2 rgPs_3 rgPs_4 rgPs_5 rgSet_0 rgSet_2 rgSet_3 rgSet_4 rgSet_5 rgAt_0 rgAt_1 fits_rg zero_rg zt_rg built_rg fits66 rrgPs_0 rrgSet_0 rrgAt_0 rrgPs_1 rrgSet_1 rrgAt_1 rrgPs_2 rrgSet_2 rrgAt_2 rrgPs_3 rrgSet_3 rrgAt_3 rrgPs_4 rrgSet_4 rrgAt_4 rrgPs_5 rrgSet_5 rrgAt_5 rrgPs_6 rrgSet_6 rrgAt_6 rrgPs_7 rrgSet_7 rrgAt_7 sizes_rrg shapes_rrg fits_rrg zero_rrg zt_rrg built_rrg fits57 fits58 fits39 fits59 fits23r fits41 arrV_none arrV_some arrV_size arrV_agg arrV_shape Try.underlying22 Try.underlying23 Try.underlying28 Try.underlying36 Try.underlying39 Try.underlying57 Try.underlying58 Try.underlying59 Try.underlying61 Try.underlying65 Try.underlying66 Try.underlying68 Try.underlying78
theorem m1_ok : M1.Ok := by have := Reg.submit_ok (M := reg0 2) (n := 0) (x := x1) ⟨rfl, by decide, by decide, fun p hp => by simp [reg0] at hp, by decide, by decide, fun c hc => by simp [reg0] at hc; subst hc; decide, fun c hc => by simp [reg0] at hc; subst hc; decide, fun c hc => by simp [reg0] at hc; subst hc; decide⟩; rw [s1_eq] at this; exact this
theorem reg0_ok {n : Int} (h0 : 2 ≤ n) (h1 : n ≤ 8) : (reg0 n).Ok := ⟨rfl, h0, h1, fun p hp => by simp [reg0] at hp, by simp [reg0], by simp [reg0], fun c hc => by simp [reg0] at hc; subst hc; decide, fun c hc => by simp [reg0] at hc; subst hc; decide, fun c hc => by simp [reg0] at hc; subst hc; decide⟩
theorem m2_ok : M2.Ok := by have := Reg.submit_ok (n := 1) (x := x1) m1_ok; rw [s2_eq] at this; exact this
theorem m3_ok {d : Dig} : (M3 d).Ok := by have := Reg.commit_ok (n := 0) (v := [0]) (t := d) m2_ok; rw [s3_eq] at this; exact this
theorem m4_ok {d : Dig} : (M4 d).Ok := by have := Reg.submit_ok (n := 0) (x := x2) (m3_ok (d := d)); rw [s4_eq] at this; exact this
theorem pSubmit_c {σ0 s : AST} {j : Nat} {R : Rg} {F : List (Nat × AObj)} {K : AV → AST → Prop} (hP : PF σ0 s j R F) {M M' : Reg} {r : Rep} {e n : Int} {x : Sub} (hR : R.plain = M) (hM : M.Ok) (hs : M.submit n x = (M', r, e)) (hK : ∀ t s' R', R'.plain = M' → PF σ0 s' j R' F → K (.tuple [repV t r, .int .i64 e]) s') :
    TCalls Try.prog 13 [.ptr (some (j, [])), .int .i64 n, subV x] s K := by
  subst hR
  refine rgSubmit_c hP hM fun t s' R' h1 h2 => ?_
  rw [hs] at h1 ⊢
  exact hK t s' R' h1 h2
theorem pCommit_c {σ0 s : AST} {j : Nat} {R : Rg} {F : List (Nat × AObj)} {K : AV → AST → Prop} (hP : PF σ0 s j R F) {M M' : Reg} {e n : Int} {v : List UInt8} {t : Dig} (hR : R.plain = M) (hM : M.Ok) (hs : M.commit n v t = (M', e)) (hK : ∀ s' R', R'.plain = M' → PF σ0 s' j R' F → K (.int .i64 e) s') :
    TCalls Try.prog 15 [.ptr (some (j, [])), .int .i64 n, .str v, .dig t] s K := by
  subst hR
  refine rgCommit_c hP hM fun s' R' h1 h2 => ?_
  rw [hs] at h1 ⊢
  exact hK s' R' h1 h2
theorem awake_c {σ : AST} {K : AV → AST → Prop} (hK : ∀ s, Ext σ s → K (.bool true) s) : TCalls Try.prog 8 [] σ K := by
  refine tcalls_walk Try.f8 _ [.tmp 0] Try.func8 rfl rfl rfl mixed (Nat.le_of_ble_eq_true rfl) rfl fun hlen => ?_
  simp -dsimp only [↓reduceIte, go_sem]
  refine rgNew_c (fun h => by omega) (fun _ s hP => ?_)
  repeat' (first | (simp -dsimp only [↓reduceIte, go_sem]) | (refine arr_intro fun _ => ?_) | (refine later_intro ⟨keeps_nil, ?_⟩) | (refine later_intro ⟨keeps_refl, ?_⟩) | (with_reducible refine keeps_go ?_ ?_; focus (first | (simp [keeps_cons, keeps_none, objs_app, objs_app0]; done) | (simp only [keeps_cons, keeps_none, objs_app0, objs_app, and_true]; first | rfl | exact ⟨rfl, rfl⟩ | exact ⟨rfl, rfl, rfl⟩))) | (with_reducible refine (And.intro (a := keeps _ _ _) ?_ ?_); focus (first | (simp [keeps_cons, keeps_none, objs_app, objs_app0]; done) | (simp only [keeps_cons, keeps_none, objs_app0, objs_app, and_true]; first | rfl | exact ⟨rfl, rfl⟩ | exact ⟨rfl, rfl, rfl⟩))) | (refine both_ways ?_ ?_) | (rw [wrap_i64 (by omega) (by omega)]) | (refine guardV_split (fun h => ?_) (fun h => ?_) <;> (try rw [h]) <;> (try simp at h) <;> (try (exfalso; omega))))
  have hPx := hP.box (.cells (subV x1))
  have hx0 : σ.objs.length ≤ s.objs.length := by obtain ⟨t, q⟩ := hP.o; have := (List.getElem?_eq_some_iff.1 q).1; omega
  have hex : (AV.agg (subPs { num := 1, kind := 1, target := sub0.target, value := sub0.value, asked := sub0.asked, data := sub0.data })) = subV x1 := rfl
  rw [hex]
  generalize s.app [.cells (subV x1)] = s1 at hPx ⊢
  generalize s.objs.length = bx at hPx hx0 ⊢
  have gx := (hPx.f _ (List.mem_cons_self ..)).2
  have gxj := (hPx.f _ (List.mem_cons_self ..)).1
  simp only at gx gxj
  have cx := cellAt_known gx
  repeat' (first | (simp -dsimp only [↓reduceIte, go_sem, cx]) | (refine arr_intro fun _ => ?_) | (refine later_intro ⟨keeps_nil, ?_⟩) | (refine later_intro ⟨keeps_refl, ?_⟩) | (with_reducible refine keeps_go ?_ ?_; focus (first | (simp [keeps_cons, keeps_none, objs_app, objs_app0]; done) | (simp only [keeps_cons, keeps_none, objs_app0, objs_app, and_true]; first | rfl | exact ⟨rfl, rfl⟩ | exact ⟨rfl, rfl, rfl⟩))) | (with_reducible refine (And.intro (a := keeps _ _ _) ?_ ?_); focus (first | (simp [keeps_cons, keeps_none, objs_app, objs_app0]; done) | (simp only [keeps_cons, keeps_none, objs_app0, objs_app, and_true]; first | rfl | exact ⟨rfl, rfl⟩ | exact ⟨rfl, rfl, rfl⟩))) | (refine both_ways ?_ ?_) | (rw [wrap_i64 (by omega) (by omega)]) | (refine guardV_split (fun h => ?_) (fun h => ?_) <;> (try rw [h]) <;> (try simp at h) <;> (try (exfalso; omega))))
  refine pSubmit_c (M := reg0 2) hPx rfl (reg0_ok (by decide) (by decide)) s1_eq fun t s2 R2 hR2 hP2 => ?_
  have hP2a := hP2.box (.cells (repV t A1))
  repeat' (first | (simp -dsimp only [↓reduceIte, go_sem]) | (refine arr_intro fun _ => ?_) | (refine later_intro ⟨keeps_nil, ?_⟩) | (refine later_intro ⟨keeps_refl, ?_⟩) | (with_reducible refine keeps_go ?_ ?_; focus (first | (simp [keeps_cons, keeps_none, objs_app, objs_app0]; done) | (simp only [keeps_cons, keeps_none, objs_app0, objs_app, and_true]; first | rfl | exact ⟨rfl, rfl⟩ | exact ⟨rfl, rfl, rfl⟩))) | (with_reducible refine (And.intro (a := keeps _ _ _) ?_ ?_); focus (first | (simp [keeps_cons, keeps_none, objs_app, objs_app0]; done) | (simp only [keeps_cons, keeps_none, objs_app0, objs_app, and_true]; first | rfl | exact ⟨rfl, rfl⟩ | exact ⟨rfl, rfl, rfl⟩))) | (refine both_ways ?_ ?_) | (rw [wrap_i64 (by omega) (by omega)]) | (refine guardV_split (fun h => ?_) (fun h => ?_) <;> (try rw [h]) <;> (try simp at h) <;> (try (exfalso; omega))))
  have na2 : bx ≠ s2.objs.length := by have := (List.getElem?_eq_some_iff.1 (hP2.f _ (List.mem_cons_self ..)).2).1; simp only at this; omega
  generalize s2.app [.cells (repV t A1)] = s3 at hP2a ⊢
  generalize s2.objs.length = ba at hP2a na2 ⊢
  have ga := (hP2a.f _ (List.mem_cons_self ..)).2
  have gx := (hP2a.f _ (List.mem_cons_of_mem _ (List.mem_cons_self ..))).2
  simp only at ga gx
  have cx := cellAt_known gx
  repeat' (first | (simp -dsimp only [↓reduceIte, go_sem, cx]) | (refine arr_intro fun _ => ?_) | (refine later_intro ⟨keeps_nil, ?_⟩) | (refine later_intro ⟨keeps_refl, ?_⟩) | (with_reducible refine keeps_go ?_ ?_; focus (first | (simp [keeps_cons, keeps_none, objs_app, objs_app0]; done) | (simp only [keeps_cons, keeps_none, objs_app0, objs_app, and_true]; first | rfl | exact ⟨rfl, rfl⟩ | exact ⟨rfl, rfl, rfl⟩))) | (with_reducible refine (And.intro (a := keeps _ _ _) ?_ ?_); focus (first | (simp [keeps_cons, keeps_none, objs_app, objs_app0]; done) | (simp only [keeps_cons, keeps_none, objs_app0, objs_app, and_true]; first | rfl | exact ⟨rfl, rfl⟩ | exact ⟨rfl, rfl, rfl⟩))) | (refine both_ways ?_ ?_) | (rw [wrap_i64 (by omega) (by omega)]) | (refine guardV_split (fun h => ?_) (fun h => ?_) <;> (try rw [h]) <;> (try simp at h) <;> (try (exfalso; omega))))
  refine pSubmit_c (M := M1) hP2a hR2 m1_ok s2_eq fun t3 s4 R3 hR3 hP3 => ?_
  have hP3a := hP3.box (.cells (repV t3 A2))
  have nb : bx ≠ s4.objs.length ∧ ba ≠ s4.objs.length := by
    have h1 := (List.getElem?_eq_some_iff.1 (hP3.f _ (List.mem_cons_self ..)).2).1
    have h2 := (List.getElem?_eq_some_iff.1 (hP3.f _ (List.mem_cons_of_mem _ (List.mem_cons_self ..))).2).1
    simp only at h1 h2; omega
  repeat' (first | (simp -dsimp only [↓reduceIte, go_sem]) | (refine arr_intro fun _ => ?_) | (refine later_intro ⟨keeps_nil, ?_⟩) | (refine later_intro ⟨keeps_refl, ?_⟩) | (with_reducible refine keeps_go ?_ ?_; focus (first | (simp [keeps_cons, keeps_none, objs_app, objs_app0]; done) | (simp only [keeps_cons, keeps_none, objs_app0, objs_app, and_true]; first | rfl | exact ⟨rfl, rfl⟩ | exact ⟨rfl, rfl, rfl⟩))) | (with_reducible refine (And.intro (a := keeps _ _ _) ?_ ?_); focus (first | (simp [keeps_cons, keeps_none, objs_app, objs_app0]; done) | (simp only [keeps_cons, keeps_none, objs_app0, objs_app, and_true]; first | rfl | exact ⟨rfl, rfl⟩ | exact ⟨rfl, rfl, rfl⟩))) | (refine both_ways ?_ ?_) | (rw [wrap_i64 (by omega) (by omega)]) | (refine guardV_split (fun h => ?_) (fun h => ?_) <;> (try rw [h]) <;> (try simp at h) <;> (try (exfalso; omega))))
  generalize s4.app [.cells (repV t3 A2)] = s5 at hP3a ⊢
  generalize s4.objs.length = bb at hP3a nb ⊢
  have gb := (hP3a.f _ (List.mem_cons_self ..)).2
  have ga := (hP3a.f _ (List.mem_cons_of_mem _ (List.mem_cons_self ..))).2
  simp only at ga gb
  have ca := cellAt_known ga
  have cb := cellAt_known gb
  have l1 : A1.pending.length = 0 := rfl
  have l2 : A2.pending.length = 1 := rfl
  repeat' (first | (simp -dsimp only [↓reduceIte, go_sem, ca, cb, l1, l2]) | (refine arr_intro fun _ => ?_) | (refine later_intro ⟨keeps_nil, ?_⟩) | (refine later_intro ⟨keeps_refl, ?_⟩) | (with_reducible refine keeps_go ?_ ?_; focus (first | (simp [keeps_cons, keeps_none, objs_app, objs_app0]; done) | (simp only [keeps_cons, keeps_none, objs_app0, objs_app, and_true]; first | rfl | exact ⟨rfl, rfl⟩ | exact ⟨rfl, rfl, rfl⟩))) | (with_reducible refine (And.intro (a := keeps _ _ _) ?_ ?_); focus (first | (simp [keeps_cons, keeps_none, objs_app, objs_app0]; done) | (simp only [keeps_cons, keeps_none, objs_app0, objs_app, and_true]; first | rfl | exact ⟨rfl, rfl⟩ | exact ⟨rfl, rfl, rfl⟩))) | (refine both_ways ?_ ?_) | (rw [wrap_i64 (by omega) (by omega)]) | (refine guardV_split (fun h => ?_) (fun h => ?_) <;> (try rw [h]) <;> (try simp at h) <;> (try (exfalso; omega))))
  refine ⟨of_eq_true built23, ⟨5, Try.underlying32, by simp [fits5, AV.isAgg, AV.size]⟩, by decide, by decide, by decide, ?_⟩
  generalize hd7 : dig0.set 0 7 = d7
  have hd7l : d7.l = 7 :: List.replicate 31 0 := by rw [← hd7]; rfl
  repeat' (first | (simp -dsimp only [↓reduceIte, go_sem]) | (refine arr_intro fun _ => ?_) | (refine later_intro ⟨keeps_nil, ?_⟩) | (refine later_intro ⟨keeps_refl, ?_⟩) | (with_reducible refine keeps_go ?_ ?_; focus (first | (simp [keeps_cons, keeps_none, objs_app, objs_app0]; done) | (simp only [keeps_cons, keeps_none, objs_app0, objs_app, and_true]; first | rfl | exact ⟨rfl, rfl⟩ | exact ⟨rfl, rfl, rfl⟩))) | (with_reducible refine (And.intro (a := keeps _ _ _) ?_ ?_); focus (first | (simp [keeps_cons, keeps_none, objs_app, objs_app0]; done) | (simp only [keeps_cons, keeps_none, objs_app0, objs_app, and_true]; first | rfl | exact ⟨rfl, rfl⟩ | exact ⟨rfl, rfl, rfl⟩))) | (refine both_ways ?_ ?_) | (rw [wrap_i64 (by omega) (by omega)]) | (refine guardV_split (fun h => ?_) (fun h => ?_) <;> (try rw [h]) <;> (try simp at h) <;> (try (exfalso; omega))))
  refine pCommit_c (M := M2) hP3a hR3 m2_ok s3_eq fun s6 R4 hR4 hP4 => ?_
  have gx := (hP4.f _ (List.mem_cons_of_mem _ (List.mem_cons_of_mem _ (List.mem_cons_self ..)))).2
  simp only at gx
  have cx := cellAt_known gx
  have hxl := (List.getElem?_eq_some_iff.1 gx).1
  have cxS : ∀ v p, cellAt (s6.set bx (.cells v)) bx p = v.at p := fun v p => cellAt_setS hxl
  have gxj := (hP4.f _ (List.mem_cons_of_mem _ (List.mem_cons_of_mem _ (List.mem_cons_self ..)))).1
  simp only at gxj
  repeat' (first | (simp -dsimp only [↓reduceIte, go_sem, cx, gx, cxS]) | (refine arr_intro fun _ => ?_) | (refine later_intro ⟨keeps_nil, ?_⟩) | (refine later_intro ⟨keeps_refl, ?_⟩) | (with_reducible refine keeps_go ?_ ?_; focus (first | (simp [keeps_cons, keeps_none, objs_app, objs_app0]; done) | (simp only [keeps_cons, keeps_none, objs_app0, objs_app, and_true]; first | rfl | exact ⟨rfl, rfl⟩ | exact ⟨rfl, rfl, rfl⟩))) | (with_reducible refine (And.intro (a := keeps _ _ _) ?_ ?_); focus (first | (simp [keeps_cons, keeps_none, objs_app, objs_app0]; done) | (simp only [keeps_cons, keeps_none, objs_app0, objs_app, and_true]; first | rfl | exact ⟨rfl, rfl⟩ | exact ⟨rfl, rfl, rfl⟩))) | (refine both_ways ?_ ?_) | (rw [wrap_i64 (by omega) (by omega)]) | (refine guardV_split (fun h => ?_) (fun h => ?_) <;> (try rw [h]) <;> (try simp at h) <;> (try (exfalso; omega))))
  have hP5 := hP4.less.less.less.setN (o := .cells (subV x2)) hx0 (Ne.symm gxj) (fun y hy => by simp at hy)
  have hex2 : (AV.agg (subPs { num := 2, kind := x1.kind, target := x1.target, value := x1.value, asked := x1.asked, data := x1.data })) = subV x2 := rfl
  rw [hex2]
  generalize s6.set bx _ = s7 at hP5 ⊢
  refine pSubmit_c (M := M3 d7) hP5 hR4 m3_ok s4_eq fun t4 s8 R5 hR5 hP6 => ?_
  have hP7 := hP6.box (.cells (repV t4 (A3 d7)))
  have l3 : (A3 d7).pending = [⟨1, 1, 1, 0, dig0, dig0⟩] := rfl
  have l4 : (A3 d7).view = [0] := rfl
  have l5 : (A3 d7).commit = d7 := rfl
  repeat' (first | (simp -dsimp only [↓reduceIte, go_sem, l4]) | (refine arr_intro fun _ => ?_) | (refine later_intro ⟨keeps_nil, ?_⟩) | (refine later_intro ⟨keeps_refl, ?_⟩) | (with_reducible refine keeps_go ?_ ?_; focus (first | (simp [keeps_cons, keeps_none, objs_app, objs_app0]; done) | (simp only [keeps_cons, keeps_none, objs_app0, objs_app, and_true]; first | rfl | exact ⟨rfl, rfl⟩ | exact ⟨rfl, rfl, rfl⟩))) | (with_reducible refine (And.intro (a := keeps _ _ _) ?_ ?_); focus (first | (simp [keeps_cons, keeps_none, objs_app, objs_app0]; done) | (simp only [keeps_cons, keeps_none, objs_app0, objs_app, and_true]; first | rfl | exact ⟨rfl, rfl⟩ | exact ⟨rfl, rfl, rfl⟩))) | (refine both_ways ?_ ?_) | (rw [wrap_i64 (by omega) (by omega)]) | (refine guardV_split (fun h => ?_) (fun h => ?_) <;> (try rw [h]) <;> (try simp at h) <;> (try (exfalso; omega))))
  generalize s8.app [.cells (repV t4 (A3 d7))] = s9 at hP7 ⊢
  generalize s8.objs.length = bc at hP7 ⊢
  have gc := (hP7.f _ (List.mem_cons_self ..)).2
  simp only at gc
  have cc := cellAt_known gc
  have hM4 : R5.plain.Ok := hR5 ▸ m4_ok
  have hord : orderL R5.long R5.pend = [0, 1, 0] := by
    have h1 : R5.long = R5.plain.long := rfl
    have h2 : R5.pend = R5.plain.pend := rfl
    rw [h1, h2, hR5]
    show orderL [0] [⟨1, 1, 1, 0, dig0, dig0⟩, ⟨0, 2, 1, 0, dig0, dig0⟩] = [0, 1, 0]
    decide
  have hd70 : (d7.l[0]?) = some 7 := by rw [hd7l]; rfl
  have hn4 : R5.n = 2 := by have h1 : R5.n = R5.plain.n := rfl; rw [h1, hR5]; rfl
  obtain ⟨tc, hc⟩ := cli_get (R := R5) hP7.h8 (i := 0) (by decide) (by decide)
  have hnum : (cliOf R5 0).last.num = 2 := by rw [cliOf_plain, hR5]; rfl
  repeat' (first | (simp -dsimp only [↓reduceIte, go_sem, cc, l3, l4, l5, at_dig1, hd70, hord, hnum]) | (refine arr_intro fun _ => ?_) | (refine later_intro ⟨keeps_nil, ?_⟩) | (refine later_intro ⟨keeps_refl, ?_⟩) | (with_reducible refine keeps_go ?_ ?_; focus (first | (simp [keeps_cons, keeps_none, objs_app, objs_app0]; done) | (simp only [keeps_cons, keeps_none, objs_app0, objs_app, and_true]; first | rfl | exact ⟨rfl, rfl⟩ | exact ⟨rfl, rfl, rfl⟩))) | (with_reducible refine (And.intro (a := keeps _ _ _) ?_ ?_); focus (first | (simp [keeps_cons, keeps_none, objs_app, objs_app0]; done) | (simp only [keeps_cons, keeps_none, objs_app0, objs_app, and_true]; first | rfl | exact ⟨rfl, rfl⟩ | exact ⟨rfl, rfl, rfl⟩))) | (refine both_ways ?_ ?_) | (rw [wrap_i64 (by omega) (by omega)]) | (refine guardV_split (fun h => ?_) (fun h => ?_) <;> (try rw [h]) <;> (try simp at h) <;> (try (exfalso; omega))) | (refine indexAddr_dig Try.underlying32 (by simp [fits5, AV.isAgg, AV.size]) (by rw [cc]; rfl) (by decide) ?_) | (refine nth_get (i := 0) (y := pendV ⟨1, 1, 1, 0, dig0, dig0⟩) rfl ?_) | (refine order_c hP7 (ok_plain hM4) ?_) | ((refine rgNumber_c (i := 0) hP7 hc (by rw [hn4]; decide) ?_)))
  exact hK _ hP7.x
end Go.Aff.L10

/- Layer 12, walked: RegsNone, RegsDo. -/
-- cuts
namespace Go.Aff.L10
open Go.Proofs Go.Aff Go.Aff.L01 Classical
set_option linter.unusedVariables false
set_option linter.unusedSimpArgs false
set_option maxRecDepth 20000
attribute [local go_sem] push_app app_app length_app cellAt_app cellAt_app0 set_app set_app0 objs_app objs_app0 List.cons_append List.nil_append List.length_cons List.length_nil List.getElem?_cons_zero List.getElem?_cons_succ List.set_cons_zero List.set_cons_succ List.length_map
attribute [-go_sem] cellAt_new
attribute [-simp] List.length_flatMap
attribute [local go_sem] Try.underlying3 Try.underlying4 Try.underlying5 Try.underlying9 Try.underlying31 Try.underlying32 Try.underlying41 Try.underlying75 Try.underlying24 Try.underlying81 subPs_0 subAt_0 subSet_0 subPs_1 subAt_1 subSet_1 subPs_2 subAt_2 subSet_2 subPs_3 subAt_3 subSet_3 subPs_4 subAt_4 subSet_4 subPs_5 subAt_5 subSet_5 sizes_sub shapes_sub fits_sub zero_sub zt_sub built_sub Try.underlying34 pendPs_0 pendAt_0 pendSet_0 pendPs_1 pendAt_1 pendSet_1 pendPs_2 pendAt_2 pendSet_2 pendPs_3 pendAt_3 pendSet_3 pendPs_4 pendAt_4 pendSet_4 pendPs_5 pendAt_5 pendSet_5 sizes_pend shapes_pend fits_pend zero_pend zt_pend built_pend Try.underlying70 repPs_0 repAt_0 repSet_0 repPs_1 repAt_1 repSet_1 repPs_2 repAt_2 repSet_2 repPs_3 repAt_3 repSet_3 repPs_4 repAt_4 repSet_4 repPs_5 repAt_5 repSet_5 repPs_6 repAt_6 repSet_6 repPs_7 repAt_7 repSet_7 repPs_8 repAt_8 repSet_8 repPs_9 repAt_9 repSet_9 sizes_rep shapes_rep fits_rep zero_rep zt_rep built_rep Try.underlying43 blobPs_0 blobAt_0 blobSet_0 blobPs_1 blobAt_1 blobSet_1 blobPs_2 blobAt_2 blobSet_2 blobPs_3 blobAt_3 blobSet_3 sizes_blob shapes_blob fits_blob zero_blob zt_blob built_blob Try.underlying74 msgPs_0 msgAt_0 msgSet_0 msgPs_1 msgAt_1 msgSet_1 msgPs_2 msgAt_2 msgSet_2 msgPs_3 msgAt_3 msgSet_3 msgPs_4 msgAt_4 msgSet_4 msgPs_5 msgAt_5 msgSet_5 msgPs_6 msgAt_6 msgSet_6 msgPs_7 msgAt_7 msgSet_7 msgPs_8 msgAt_8 msgSet_8 msgPs_9 msgAt_9 msgSet_9 sizes_msg shapes_msg fits_msg zero_msg zt_msg built_msg Try.underlying77 at_Ps_0 at_Set_0 at_Ps_1 at_Set_1 sizes_at_ shapes_at_
attribute [local go_sem] fits3 fits4 fits5 fits9 fits23 fits26 fits31 fits34 fits52 zt3 zero3 zt34 zero34 zt23 zero23 bin_sub_eql bin_pend_eql bin_pend_neq bin_blob_eql bin_dig23_eql bin_dig23_neq slice23
attribute [local go_sem ↓] blockQ_exit2
attribute [local simp] dig_ext
attribute [local go_sem] cliPs_0 cliAt_0 cliSet_0 cliPs_1 cliAt_1 cliSet_1 cliPs_2 cliAt_2 cliSet_2 cliPs_3 cliAt_3 cliSet_3 sizes_cli shapes_cli fits_cli zero_cli zt_cli built_cli actPs_0 actAt_0 actSet_0 actPs_1 actAt_1 actSet_1 actPs_2 actAt_2 actSet_2 actPs_3 actAt_3 actSet_3 actPs_4 actAt_4 actSet_4 sizes_act shapes_act fits_act zero_act zt_act built_act rgPs_0 rgPs_1 rgPs_2 rgPs_3 rgPs_4 rgPs_5 rgSet_0 rgSet_2 rgSet_3 rgSet_4 rgSet_5 rgAt_0 rgAt_1 fits_rg zero_rg zt_rg built_rg fits66 rrgPs_0 rrgSet_0 rrgAt_0 rrgPs_1 rrgSet_1 rrgAt_1 rrgPs_2 rrgSet_2 rrgAt_2 rrgPs_3 rrgSet_3 rrgAt_3 rrgPs_4 rrgSet_4 rrgAt_4 rrgPs_5 rrgSet_5 rrgAt_5 rrgPs_6 rrgSet_6 rrgAt_6 rrgPs_7 rrgSet_7 rrgAt_7 sizes_rrg shapes_rrg fits_rrg zero_rrg zt_rrg built_rrg fits57 fits58 fits39 fits59 fits23r fits41 arrV_none arrV_some arrV_size arrV_agg arrV_shape Try.underlying22 Try.underlying23 Try.underlying28 Try.underlying36 Try.underlying39 Try.underlying57 Try.underlying58 Try.underlying59 Try.underlying61 Try.underlying65 Try.underlying66 Try.underlying68 Try.underlying78
theorem awake_d {σ : AST} {K : AV → AST → Prop} (hK : K (.bool true) σ) : TCalls Try.prog 8 [] σ K := TCalls.drop (awake_c fun s hx => ⟨hx, rfl, by simpa [AV.strip] using hK⟩)
theorem rgNumber_nil {i : Int} {s : AST} {K : AV → AST → Prop} (hK : K (.int .i64 0) s) : TCalls Try.prog 12 [.ptr none, .int .i64 i] s K := by
  refine tcalls_walk Try.f12 _ [.tmp 4] Try.func12 rfl rfl rfl mixed (Nat.le_of_ble_eq_true rfl) rfl fun hlen => ?_
  repeat' (first | (simp -dsimp only [↓reduceIte, go_sem]) | (refine arr_intro fun _ => ?_) | (refine later_intro ⟨keeps_nil, ?_⟩) | (refine later_intro ⟨keeps_refl, ?_⟩) | (with_reducible refine keeps_go ?_ ?_; focus (first | (simp [keeps_cons, keeps_none, objs_app, objs_app0]; done) | (simp only [keeps_cons, keeps_none, objs_app0, objs_app, and_true]; first | rfl | exact ⟨rfl, rfl⟩ | exact ⟨rfl, rfl, rfl⟩))) | (with_reducible refine (And.intro (a := keeps _ _ _) ?_ ?_); focus (first | (simp [keeps_cons, keeps_none, objs_app, objs_app0]; done) | (simp only [keeps_cons, keeps_none, objs_app0, objs_app, and_true]; first | rfl | exact ⟨rfl, rfl⟩ | exact ⟨rfl, rfl, rfl⟩))) | (refine both_ways ?_ ?_) | (rw [wrap_i64 (by omega) (by omega)]) | (refine guardV_split (fun h => ?_) (fun h => ?_) <;> (try rw [h]) <;> (try simp at h) <;> (try (exfalso; omega))) | (refine rgIs_nil ?_))
  exact hK
theorem rgView_nil {i : Int} {s : AST} {K : AV → AST → Prop} (hK : K (.str []) s) : TCalls Try.prog 18 [.ptr none, .int .i64 i] s K := by
  refine tcalls_walk Try.f18 _ [.tmp 4] Try.func18 rfl rfl rfl mixed (Nat.le_of_ble_eq_true rfl) rfl fun hlen => ?_
  repeat' (first | (simp -dsimp only [↓reduceIte, go_sem]) | (refine arr_intro fun _ => ?_) | (refine later_intro ⟨keeps_nil, ?_⟩) | (refine later_intro ⟨keeps_refl, ?_⟩) | (with_reducible refine keeps_go ?_ ?_; focus (first | (simp [keeps_cons, keeps_none, objs_app, objs_app0]; done) | (simp only [keeps_cons, keeps_none, objs_app0, objs_app, and_true]; first | rfl | exact ⟨rfl, rfl⟩ | exact ⟨rfl, rfl, rfl⟩))) | (with_reducible refine (And.intro (a := keeps _ _ _) ?_ ?_); focus (first | (simp [keeps_cons, keeps_none, objs_app, objs_app0]; done) | (simp only [keeps_cons, keeps_none, objs_app0, objs_app, and_true]; first | rfl | exact ⟨rfl, rfl⟩ | exact ⟨rfl, rfl, rfl⟩))) | (refine both_ways ?_ ?_) | (rw [wrap_i64 (by omega) (by omega)]) | (refine guardV_split (fun h => ?_) (fun h => ?_) <;> (try rw [h]) <;> (try simp at h) <;> (try (exfalso; omega))) | (refine rgIs_nil ?_))
  exact hK
theorem regsNone_c {a : Act12} {s : AST} {K : AV → AST → Prop} (hK : ∀ s', Ext s s' → K (.bool true) s') : TCalls Try.prog 6 [actV a] s K := by
  refine tcalls_walk Try.f6 _ [.tmp 2] Try.func6 rfl rfl rfl mixed (Nat.le_of_ble_eq_true rfl) rfl fun hlen => ?_
  repeat' (first | (simp -dsimp only [↓reduceIte, go_sem]) | (refine arr_intro fun _ => ?_) | (refine later_intro ⟨keeps_nil, ?_⟩) | (refine later_intro ⟨keeps_refl, ?_⟩) | (with_reducible refine keeps_go ?_ ?_; focus (first | (simp [keeps_cons, keeps_none, objs_app, objs_app0]; done) | (simp only [keeps_cons, keeps_none, objs_app0, objs_app, and_true]; first | rfl | exact ⟨rfl, rfl⟩ | exact ⟨rfl, rfl, rfl⟩))) | (with_reducible refine (And.intro (a := keeps _ _ _) ?_ ?_); focus (first | (simp [keeps_cons, keeps_none, objs_app, objs_app0]; done) | (simp only [keeps_cons, keeps_none, objs_app0, objs_app, and_true]; first | rfl | exact ⟨rfl, rfl⟩ | exact ⟨rfl, rfl, rfl⟩))) | (refine both_ways ?_ ?_) | (rw [wrap_i64 (by omega) (by omega)]) | (refine guardV_split (fun h => ?_) (fun h => ?_) <;> (try rw [h]) <;> (try simp at h) <;> (try (exfalso; omega))))
  refine rgSubmit_nil fun t s1 hx => ?_
  have b0 := ext_known hx (objs_app0 (σ := s))
  have cb0A := fun l => cellAt_known (objs_known_app b0 l)
  repeat' (first | (simp -dsimp only [↓reduceIte, go_sem, cb0A]) | (refine arr_intro fun _ => ?_) | (refine later_intro ⟨keeps_nil, ?_⟩) | (refine later_intro ⟨keeps_refl, ?_⟩) | (with_reducible refine keeps_go ?_ ?_; focus (first | (simp [keeps_cons, keeps_none, objs_app, objs_app0]; done) | (simp only [keeps_cons, keeps_none, objs_app0, objs_app, and_true]; first | rfl | exact ⟨rfl, rfl⟩ | exact ⟨rfl, rfl, rfl⟩))) | (with_reducible refine (And.intro (a := keeps _ _ _) ?_ ?_); focus (first | (simp [keeps_cons, keeps_none, objs_app, objs_app0]; done) | (simp only [keeps_cons, keeps_none, objs_app0, objs_app, and_true]; first | rfl | exact ⟨rfl, rfl⟩ | exact ⟨rfl, rfl, rfl⟩))) | (refine both_ways ?_ ?_) | (rw [wrap_i64 (by omega) (by omega)]) | (refine guardV_split (fun h => ?_) (fun h => ?_) <;> (try rw [h]) <;> (try simp at h) <;> (try (exfalso; omega))) | (refine awake_d ?_) | ((refine refSameReply_c ?_)))
  refine rgCommit_nil fun s2 hx2 => ?_
  have cb2 := cellAt_known (ext_known hx2 (objs_known_app b0 _))
  repeat' (first | (simp -dsimp only [↓reduceIte, go_sem, cb2]) | (refine arr_intro fun _ => ?_) | (refine later_intro ⟨keeps_nil, ?_⟩) | (refine later_intro ⟨keeps_refl, ?_⟩) | (with_reducible refine keeps_go ?_ ?_; focus (first | (simp [keeps_cons, keeps_none, objs_app, objs_app0]; done) | (simp only [keeps_cons, keeps_none, objs_app0, objs_app, and_true]; first | rfl | exact ⟨rfl, rfl⟩ | exact ⟨rfl, rfl, rfl⟩))) | (with_reducible refine (And.intro (a := keeps _ _ _) ?_ ?_); focus (first | (simp [keeps_cons, keeps_none, objs_app, objs_app0]; done) | (simp only [keeps_cons, keeps_none, objs_app0, objs_app, and_true]; first | rfl | exact ⟨rfl, rfl⟩ | exact ⟨rfl, rfl, rfl⟩))) | (refine both_ways ?_ ?_) | (rw [wrap_i64 (by omega) (by omega)]) | (refine guardV_split (fun h => ?_) (fun h => ?_) <;> (try rw [h]) <;> (try simp at h) <;> (try (exfalso; omega))) | (refine order_nil ?_) | (refine rgNumber_nil ?_) | (refine rgView_nil ?_))
  exact hK _ (((Ext.app _ _).trans hx).trans ((Ext.app _ _).trans hx2))
theorem QF.base {σ s0 s1 : AST} {k i1 i2 i3 i4 : Nat} {X : RM} {F : List (Nat × AObj)} (h : QF s0 s1 k i1 i2 i3 i4 X F) (e : Ext σ s0) : QF σ s1 k i1 i2 i3 i4 X F := by
  have hl : σ.objs.length ≤ s0.objs.length := by obtain ⟨O, T, rfl⟩ := e; simp
  exact ⟨e.trans h.x, fun i hi => Nat.le_trans hl (h.jn i hi), h.nd, h.n0, h.n8, h.l1, h.l2, h.l3, h.l4, h.o, h.o1, h.o2, h.o3, h.o4, h.f⟩
theorem Bo.mk0 {σ s0 s1 : AST} {j k i1 i2 i3 i4 : Nat} {R : Rg} {N : Reg} (hP : PF σ s0 j R []) (hQ : QF s0 s1 k i1 i2 i3 i4 N.rm []) : Bo σ s1 j k i1 i2 i3 i4 R.plain N [] := by
  obtain ⟨t, o⟩ := hP.o
  have hj := (List.getElem?_eq_some_iff.1 o).1
  exact ⟨⟨R, rfl, hP.ext hQ.x⟩, hQ.base hP.x, fun hm => by have := hQ.jn j hm; omega⟩
def IsAct (v : AV) : Prop := ∃ a, v = actV a
theorem regsDo_c {n : Int} {la : List AV} {ta : Tk} (ha : ∀ v ∈ la, IsAct v) {σ : AST} {K : AV → AST → Prop} (hK : ∀ s, Ext σ s → K (.bool true) s) : TCalls Try.prog 3 [.int .i64 n, .slice ta la] σ K := by
  refine tcalls_walk Try.f3 _ [.tmp 4] Try.func3 rfl rfl rfl mixed (Nat.le_of_ble_eq_true rfl) rfl fun hlen => ?_
  simp -dsimp only [↓reduceIte, go_sem]
  refine rgNew_c (fun hbad => ?_) (fun hgood s0 hP0 => ?_)
  · repeat' (first | (simp -dsimp only [↓reduceIte, go_sem]) | (refine arr_intro fun _ => ?_) | (refine later_intro ⟨keeps_nil, ?_⟩) | (refine later_intro ⟨keeps_refl, ?_⟩) | (with_reducible refine keeps_go ?_ ?_; focus (first | (simp [keeps_cons, keeps_none, objs_app, objs_app0]; done) | (simp only [keeps_cons, keeps_none, objs_app0, objs_app, and_true]; first | rfl | exact ⟨rfl, rfl⟩ | exact ⟨rfl, rfl, rfl⟩))) | (with_reducible refine (And.intro (a := keeps _ _ _) ?_ ?_); focus (first | (simp [keeps_cons, keeps_none, objs_app, objs_app0]; done) | (simp only [keeps_cons, keeps_none, objs_app0, objs_app, and_true]; first | rfl | exact ⟨rfl, rfl⟩ | exact ⟨rfl, rfl, rfl⟩))) | (refine both_ways ?_ ?_) | (rw [wrap_i64 (by omega) (by omega)]) | (refine guardV_split (fun h => ?_) (fun h => ?_) <;> (try rw [h]) <;> (try simp at h) <;> (try (exfalso; omega))) | (refine awake_d ?_))
    all_goals first
      | exact hK _ (Ext.refl _)
      | (exfalso; omega)
  · have g1 : ¬ n < 2 := by omega
    have g2 : ¬ 8 < n := by omega
    repeat' (first | (simp -dsimp only [↓reduceIte, go_sem, g1, g2]) | (refine arr_intro fun _ => ?_) | (refine later_intro ⟨keeps_nil, ?_⟩) | (refine later_intro ⟨keeps_refl, ?_⟩) | (with_reducible refine keeps_go ?_ ?_; focus (first | (simp [keeps_cons, keeps_none, objs_app, objs_app0]; done) | (simp only [keeps_cons, keeps_none, objs_app0, objs_app, and_true]; first | rfl | exact ⟨rfl, rfl⟩ | exact ⟨rfl, rfl, rfl⟩))) | (with_reducible refine (And.intro (a := keeps _ _ _) ?_ ?_); focus (first | (simp [keeps_cons, keeps_none, objs_app, objs_app0]; done) | (simp only [keeps_cons, keeps_none, objs_app0, objs_app, and_true]; first | rfl | exact ⟨rfl, rfl⟩ | exact ⟨rfl, rfl, rfl⟩))) | (refine both_ways ?_ ?_) | (rw [wrap_i64 (by omega) (by omega)]) | (refine guardV_split (fun h => ?_) (fun h => ?_) <;> (try rw [h]) <;> (try simp at h) <;> (try (exfalso; omega))))
    refine refNew_c (by omega) (by omega) fun s1 k i1 i2 i3 i4 hQ0 => ?_
    have hB0 : Bo σ s1 σ.objs.length k i1 i2 i3 i4 (reg0 n) (reg0 n) [] := Bo.mk0 hP0 hQ0
    generalize σ.objs.length = j at hB0 ⊢
    repeat' (first | (simp -dsimp only [↓reduceIte, go_sem]) | (refine arr_intro fun _ => ?_) | (refine later_intro ⟨keeps_nil, ?_⟩) | (refine later_intro ⟨keeps_refl, ?_⟩) | (with_reducible refine keeps_go ?_ ?_; focus (first | (simp [keeps_cons, keeps_none, objs_app, objs_app0]; done) | (simp only [keeps_cons, keeps_none, objs_app0, objs_app, and_true]; first | rfl | exact ⟨rfl, rfl⟩ | exact ⟨rfl, rfl, rfl⟩))) | (with_reducible refine (And.intro (a := keeps _ _ _) ?_ ?_); focus (first | (simp [keeps_cons, keeps_none, objs_app, objs_app0]; done) | (simp only [keeps_cons, keeps_none, objs_app0, objs_app, and_true]; first | rfl | exact ⟨rfl, rfl⟩ | exact ⟨rfl, rfl, rfl⟩))) | (refine both_ways ?_ ?_) | (rw [wrap_i64 (by omega) (by omega)]) | (refine guardV_split (fun h => ?_) (fun h => ?_) <;> (try rw [h]) <;> (try simp at h) <;> (try (exfalso; omega))) | (refine awake_d ?_))
    refine awp_rounds (fun (i : Nat) τ s' => ∃ M : Reg, M.Ok ∧ Bo σ s' j k i1 i2 i3 i4 M M [] ∧ i ≤ la.length ∧ τ 1 = .slice ta la ∧ τ 5 = .ptr (some (j, [])) ∧ τ 7 = .ptr (some (k, [])) ∧ τ 8 = .int .i64 i) (fun i => la.length - i) 0 ?_ ?_
    · refine ⟨reg0 n, reg0_ok (by omega) (by omega), hB0, by omega, ?_, ?_, ?_, ?_⟩ <;> (try simp only [go_sem]) <;> (try rfl)
    · rintro i τ s ⟨M, hM, hB, hi, t1, t5, t7, t8⟩
      by_cases hn : i < la.length ∧ i < 60
      · have hn1 : (i : Int) < la.length := by omega
        have hn2 : (i : Int) < 60 := by omega
        obtain ⟨v, hv, hvm⟩ := get_of_lt hn.1
        obtain ⟨a, rfl⟩ := ha v hvm
        repeat' (first | (simp -dsimp only [↓reduceIte, go_sem, t1, t5, t7, t8, hn1, hn2]) | (refine arr_intro fun _ => ?_) | (refine later_intro ⟨keeps_nil, ?_⟩) | (refine later_intro ⟨keeps_refl, ?_⟩) | (with_reducible refine keeps_go ?_ ?_; focus (first | (simp [keeps_cons, keeps_none, objs_app, objs_app0]; done) | (simp only [keeps_cons, keeps_none, objs_app0, objs_app, and_true]; first | rfl | exact ⟨rfl, rfl⟩ | exact ⟨rfl, rfl, rfl⟩))) | (with_reducible refine (And.intro (a := keeps _ _ _) ?_ ?_); focus (first | (simp [keeps_cons, keeps_none, objs_app, objs_app0]; done) | (simp only [keeps_cons, keeps_none, objs_app0, objs_app, and_true]; first | rfl | exact ⟨rfl, rfl⟩ | exact ⟨rfl, rfl, rfl⟩))) | (refine both_ways ?_ ?_) | (rw [wrap_i64 (by omega) (by omega)]) | (refine guardV_split (fun h => ?_) (fun h => ?_) <;> (try rw [h]) <;> (try simp at h) <;> (try (exfalso; omega))) | (refine nth_get hv ?_))
        refine regDo_c hB hM fun s2 hB2 => ?_
        repeat' (first | (simp -dsimp only [↓reduceIte, go_sem, t1, t5, t7, t8]) | (refine arr_intro fun _ => ?_) | (refine later_intro ⟨keeps_nil, ?_⟩) | (refine later_intro ⟨keeps_refl, ?_⟩) | (with_reducible refine keeps_go ?_ ?_; focus (first | (simp [keeps_cons, keeps_none, objs_app, objs_app0]; done) | (simp only [keeps_cons, keeps_none, objs_app0, objs_app, and_true]; first | rfl | exact ⟨rfl, rfl⟩ | exact ⟨rfl, rfl, rfl⟩))) | (with_reducible refine (And.intro (a := keeps _ _ _) ?_ ?_); focus (first | (simp [keeps_cons, keeps_none, objs_app, objs_app0]; done) | (simp only [keeps_cons, keeps_none, objs_app0, objs_app, and_true]; first | rfl | exact ⟨rfl, rfl⟩ | exact ⟨rfl, rfl, rfl⟩))) | (refine both_ways ?_ ?_) | (rw [wrap_i64 (by omega) (by omega)]) | (refine guardV_split (fun h => ?_) (fun h => ?_) <;> (try rw [h]) <;> (try simp at h) <;> (try (exfalso; omega))))
        refine regSame_c hB2 (Reg.act_ok hM) ?_
        repeat' (first | (simp -dsimp only [↓reduceIte, go_sem, t1, t5, t7, t8]) | (refine arr_intro fun _ => ?_) | (refine later_intro ⟨keeps_nil, ?_⟩) | (refine later_intro ⟨keeps_refl, ?_⟩) | (with_reducible refine keeps_go ?_ ?_; focus (first | (simp [keeps_cons, keeps_none, objs_app, objs_app0]; done) | (simp only [keeps_cons, keeps_none, objs_app0, objs_app, and_true]; first | rfl | exact ⟨rfl, rfl⟩ | exact ⟨rfl, rfl, rfl⟩))) | (with_reducible refine (And.intro (a := keeps _ _ _) ?_ ?_); focus (first | (simp [keeps_cons, keeps_none, objs_app, objs_app0]; done) | (simp only [keeps_cons, keeps_none, objs_app0, objs_app, and_true]; first | rfl | exact ⟨rfl, rfl⟩ | exact ⟨rfl, rfl, rfl⟩))) | (refine both_ways ?_ ?_) | (rw [wrap_i64 (by omega) (by omega)]) | (refine guardV_split (fun h => ?_) (fun h => ?_) <;> (try rw [h]) <;> (try simp at h) <;> (try (exfalso; omega))))
        refine later_intro ⟨i + 1, by omega, M.act a, Reg.act_ok hM, hB2, by omega, ?_, ?_, ?_, ?_⟩ <;> (try simp only [go_sem, t1, t5, t7, t8]) <;> (try rfl)
      · have h2 : (¬ (i : Int) < la.length ∧ True) ∨ ((i : Int) < la.length ∧ ¬ (i : Int) < 60) := by
          by_cases h : (i : Int) < la.length
          · exact .inr ⟨h, by omega⟩
          · exact .inl ⟨h, trivial⟩
        rcases h2 with ⟨hn1, hn2⟩ | ⟨hn1, hn2⟩
        all_goals
          repeat' (first | (simp -dsimp only [↓reduceIte, go_sem, t1, t5, t7, t8, hn1, hn2]) | (refine arr_intro fun _ => ?_) | (refine later_intro ⟨keeps_nil, ?_⟩) | (refine later_intro ⟨keeps_refl, ?_⟩) | (with_reducible refine keeps_go ?_ ?_; focus (first | (simp [keeps_cons, keeps_none, objs_app, objs_app0]; done) | (simp only [keeps_cons, keeps_none, objs_app0, objs_app, and_true]; first | rfl | exact ⟨rfl, rfl⟩ | exact ⟨rfl, rfl, rfl⟩))) | (with_reducible refine (And.intro (a := keeps _ _ _) ?_ ?_); focus (first | (simp [keeps_cons, keeps_none, objs_app, objs_app0]; done) | (simp only [keeps_cons, keeps_none, objs_app0, objs_app, and_true]; first | rfl | exact ⟨rfl, rfl⟩ | exact ⟨rfl, rfl, rfl⟩))) | (refine both_ways ?_ ?_) | (rw [wrap_i64 (by omega) (by omega)]) | (refine guardV_split (fun h => ?_) (fun h => ?_) <;> (try rw [h]) <;> (try simp at h) <;> (try (exfalso; omega))))
          exact hK _ hB.q.x
end Go.Aff.L10

/- Layer 12: what arguments' shapes say of acts; the laws of shapes. -/
namespace Go.Aff.L10
open Go.Proofs Go.Aff Go.Aff.L01 Classical
set_option linter.unusedVariables false
set_option maxRecDepth 20000
theorem sh_sub {n : Nat} {v : AV} (h : ShT Try.prog (n + 9) 34 v) : ∃ y : Sub, v = subV y := by
  obtain ⟨ps, rfl, hps⟩ := sh_struct (n := n + 8) Try.underlying34 h
  obtain ⟨p0, r, rfl, h0, hps⟩ := shTs_cons (n := n + 7) hps
  obtain ⟨p1, r, rfl, h1, hps⟩ := shTs_cons (n := n + 6) hps
  obtain ⟨p2, r, rfl, h2, hps⟩ := shTs_cons (n := n + 5) hps
  obtain ⟨p3, r, rfl, h3, hps⟩ := shTs_cons (n := n + 4) hps
  obtain ⟨p4, r, rfl, h4, hps⟩ := shTs_cons (n := n + 3) hps
  obtain ⟨p5, r, rfl, h5, hps⟩ := shTs_cons (n := n + 2) hps
  obtain rfl := shTs_nil hps
  obtain ⟨a, rfl, _, _⟩ := sh_int (t := 3) Try.underlying3 h0
  obtain ⟨b, rfl, _, _⟩ := sh_int (t := 3) Try.underlying3 h1
  obtain ⟨c, rfl, _, _⟩ := sh_int (t := 3) Try.underlying3 h2
  obtain ⟨d, rfl⟩ := sh_str (t := 9) Try.underlying9 h3
  obtain ⟨e, rfl⟩ := sh_dig (t := 32) Try.underlying32 h4
  obtain ⟨f, rfl⟩ := sh_dig (t := 32) Try.underlying32 h5
  exact ⟨⟨a, b, c, d, e, f⟩, rfl⟩
theorem sh_act {n : Nat} {v : AV} (h : ShT Try.prog (n + 20) 36 v) : IsAct v := by
  obtain ⟨ps, rfl, hps⟩ := sh_struct (n := n + 19) Try.underlying36 h
  obtain ⟨p0, r, rfl, h0, hps⟩ := shTs_cons (n := n + 18) hps
  obtain ⟨p1, r, rfl, h1, hps⟩ := shTs_cons (n := n + 17) hps
  obtain ⟨p2, r, rfl, h2, hps⟩ := shTs_cons (n := n + 16) hps
  obtain ⟨p3, r, rfl, h3, hps⟩ := shTs_cons (n := n + 15) hps
  obtain ⟨p4, r, rfl, h4, hps⟩ := shTs_cons (n := n + 14) hps
  obtain rfl := shTs_nil hps
  obtain ⟨a, rfl, _, _⟩ := sh_int (t := 3) Try.underlying3 h0
  obtain ⟨b, rfl, _, _⟩ := sh_int (t := 3) Try.underlying3 h1
  obtain ⟨c, rfl⟩ := sh_sub (n := n + 7) h2
  obtain ⟨d, rfl⟩ := sh_str (t := 9) Try.underlying9 h3
  obtain ⟨e, rfl⟩ := sh_dig (t := 32) Try.underlying32 h4
  exact ⟨⟨a, b, c, d, e⟩, rfl⟩
theorem sh_acts {v : AV} (h : ShT Try.prog 51 22 v) : ∃ tk la, v = .slice tk la ∧ ∀ v ∈ la, IsAct v := by
  obtain ⟨tk, xs, rfl, e⟩ := sh_slice (n := 50) (t := 22) Try.underlying22 h
  exact ⟨tk, xs, rfl, fun v hv => sh_act (n := 30) (e v hv)⟩
variable {σ : AST} {K : AV → AST → Prop} {la : List AV} {ta : Tk}
theorem regsNone_d {a : Act12} (hK : K (.bool true) σ) : TCalls Try.prog 6 [actV a] σ K :=
  TCalls.drop (regsNone_c fun s hx => ⟨hx, rfl, by simpa [AV.strip] using hK⟩)
theorem regsDo_d {n : Int} (ha : ∀ v ∈ la, IsAct v) (hK : K (.bool true) σ) : TCalls Try.prog 3 [.int .i64 n, .slice ta la] σ K :=
  TCalls.drop (regsDo_c ha fun s hx => ⟨hx, rfl, by simpa [AV.strip] using hK⟩)
end Go.Aff.L10

