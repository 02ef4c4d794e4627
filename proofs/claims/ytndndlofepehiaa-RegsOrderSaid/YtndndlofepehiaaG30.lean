import Derived.Test.YtndndlofepehiaaG29

set_option linter.unusedSimpArgs false
set_option linter.unusedVariables false

/- Layer 12, walked: Submit. -/
-- cuts
namespace Go.Aff.L10
open Go.Proofs Go.Aff Go.Aff.L01 Classical
set_option linter.unusedVariables false
set_option linter.unusedSimpArgs false
set_option maxRecDepth 20000
attribute [local go_sem] push_app app_app length_app cellAt_app cellAt_app0 set_app set_app0 objs_app objs_app0 List.cons_append List.nil_append List.length_cons List.length_nil List.getElem?_cons_zero List.getElem?_cons_succ List.set_cons_zero List.set_cons_succ List.length_map
attribute [-go_sem] cellAt_new
attribute [-simp] List.length_flatMap
attribute [local go_sem] Try.underlying3 Try.underlying4 Try.underlying5 Try.underlying9 Try.underlying31 Try.underlying32 Try.underlying41 Try.underlying75 Try.underlying24 Try.underlying81 subPs_0 subAt_0 subSet_0 subPs_1 subAt_1 subSet_1 subPs_2 subAt_2 subSet_2 subPs_3 subAt_3 subSet_3 subPs_4 subAt_4 subSet_4 subPs_5 subAt_5 subSet_5 sizes_sub shapes_sub fits_sub zero_sub zt_sub built_sub Try.underlying34 pendPs_0 pendAt_0 pendSet_0 pendPs_1 pendAt_1 pendSet_1 pendPs_2 pendAt_2 pendSet_2 pendPs_3 pendAt_3 pendSet_3 pendPs_4 pendAt_4 pendSet_4 pendPs_5 pendAt_5 pendSet_5 sizes_pend shapes_pend fits_pend zero_pend zt_pend built_pend Try.underlying70 repPs_0 repAt_0 repSet_0 repPs_1 repAt_1 repSet_1 repPs_2 repAt_2 repSet_2 repPs_3 repAt_3 repSet_3 repPs_4 repAt_4 repSet_4 repPs_5 repAt_5 repSet_5 repPs_6 repAt_6 repSet_6 repPs_7 repAt_7 repSet_7 repPs_8 repAt_8 repSet_8 repPs_9 repAt_9 repSet_9 sizes_rep shapes_rep fits_rep zero_rep zt_rep built_rep Try.underlying43 blobPs_0 blobAt_0 blobSet_0 blobPs_1 blobAt_1 blobSet_1 blobPs_2 blobAt_2 blobSet_2 blobPs_3 blobAt_3 blobSet_3 sizes_blob shapes_blob fits_blob zero_blob zt_blob built_blob Try.underlying74 msgPs_0 msgAt_0 msgSet_0 msgPs_1 msgAt_1 msgSet_1 msgPs_2 msgAt_2 msgSet_2 msgPs_3 msgAt_3 msgSet_3 msgPs_4 msgAt_4 msgSet_4 msgPs_5 msgAt_5 msgSet_5 msgPs_6 msgAt_6 msgSet_6 msgPs_7 msgAt_7 msgSet_7 msgPs_8 msgAt_8 msgSet_8 msgPs_9 msgAt_9 msgSet_9 sizes_msg shapes_msg fits_msg zero_msg zt_msg built_msg Try.underlying77 at_Ps_0 at_Set_0 at_Ps_1 at_Set_1 sizes_at_ shapes_at_
attribute [local go_sem] fits3 fits4 fits5 fits9 fits23 fits26 fits31 fits34 fits52 zt3 zero3 zt34 zero34 zt23 zero23 bin_sub_eql bin_pend_eql bin_pend_neq bin_blob_eql bin_dig23_eql bin_dig23_neq slice23
attribute [local go_sem ↓] blockQ_exit2
attribute [local simp] dig_ext
attribute [local go_sem] cliPs_0 cliAt_0 cliSet_0 cliPs_1 cliAt_1 cliSet_1 cliPs_2 cliAt_2 cliSet_2 cliPs_3 cliAt_3 cliSet_3 sizes_cli shapes_cli fits_cli zero_cli zt_cli built_cli actPs_0 actAt_0 actSet_0 actPs_1 actAt_1 actSet_1 actPs_2 actAt_2 actSet_2 actPs_3 actAt_3 actSet_3 actPs_4 actAt_4 actSet_4 sizes_act shapes_act fits_act zero_act zt_act built_act rgPs_0 rgPs_1 rgPs_2 rgPs_3 rgPs_4 rgPs_5 rgSet_0 rgSet_2 rgSet_3 rgSet_4 rgSet_5 rgAt_0 rgAt_1 fits_rg zero_rg zt_rg built_rg fits66 rrgPs_0 rrgSet_0 rrgAt_0 rrgPs_1 rrgSet_1 rrgAt_1 rrgPs_2 rrgSet_2 rrgAt_2 rrgPs_3 rrgSet_3 rrgAt_3 rrgPs_4 rrgSet_4 rrgAt_4 rrgPs_5 rrgSet_5 rrgAt_5 rrgPs_6 rrgSet_6 rrgAt_6 rrgPs_7 rrgSet_7 rrgAt_7 sizes_rrg shapes_rrg fits_rrg zero_rrg zt_rrg built_rrg fits57 fits58 fits39 fits59 fits23r fits41 arrV_none arrV_some arrV_size arrV_agg arrV_shape Try.underlying22 Try.underlying23 Try.underlying28 Try.underlying36 Try.underlying39 Try.underlying57 Try.underlying58 Try.underlying59 Try.underlying61 Try.underlying65 Try.underlying66 Try.underlying68 Try.underlying78
attribute [local go_sem] Try.underlying81
theorem slice3p {tk : Tk} {l : List Pend} {n : Int} {KV : AV → Prop} (hn : n = l.length) (h : KV (.slice .full (l.map pendV))) : sliceW Try.prog 41 (.slice tk (l.map pendV)) none (some (.int .i64 n)) (some (.int .i64 n)) KV := by
  subst hn
  refine ⟨70, E41.hu, fun v hv => by rw [E41.hc]; exact size_pends v hv, ⟨_, Try.underlying70⟩, ?_⟩
  simp [bndW]
  rw [List.take_of_length_le (by simp)]
  exact h
section
variable {tk : Tk} {R : Rg} {i : Nat} {c : Tk × Cli}
theorem rg_has1 : (rgV tk R).at [1] = some (.agg (R.cs.map cliP)) := rfl
theorem rg_setOk (hc : R.cs[i]? = some c) {q : List Nat} {x : AV} (h : setOk (cliV c.1 c.2) q x) : setOk (rgV tk R) (1 :: i :: q) x := by
  simp only [setOk, rgPs_1, Option.some.injEq]
  rintro v rfl
  simp only [setOk, List.getElem?_map, hc, Option.map_some, Option.some.injEq]
  rintro v rfl
  exact h
theorem rg_setAt (hc : R.cs[i]? = some c) {q : List Nat} {x : AV} {c' : Tk × Cli} (h : (cliV c.1 c.2).setAt q x = cliV c'.1 c'.2) : (rgV tk R).setAt (1 :: i :: q) x = rgV tk { R with cs := R.cs.set i c' } := by
  have e1 : (R.cs.map cliP)[i]? = some (cliP c) := by simp [hc]
  simp only [AV.setAt, rgPs_1, e1]
  simp only [cliP] at h ⊢
  rw [h]
  simp [rgPs, List.map_set, cliP]
end
theorem PF.more {σ0 s : AST} {j : Nat} {R : Rg} {F : List (Nat × AObj)} (h : PF σ0 s j R F) {i : Nat} {o : AObj} (ho : s.objs[i]? = some o) (hj : i ≠ j) : PF σ0 s j R ((i, o) :: F) :=
  ⟨h.x, h.jn, h.h8, h.o, fun x hx => by
    rcases List.mem_cons.1 hx with rfl | hx
    · exact ⟨hj, ho⟩
    · exact h.f x hx⟩
theorem PF.less {σ0 s : AST} {j : Nat} {R : Rg} {y : Nat × AObj} {F : List (Nat × AObj)} (h : PF σ0 s j R (y :: F)) : PF σ0 s j R F := ⟨h.x, h.jn, h.h8, h.o, fun x hx => h.f x (List.mem_cons_of_mem _ hx)⟩
theorem PF.put {σ0 s : AST} {j : Nat} {R R' : Rg} {tk : Tk} {F : List (Nat × AObj)} (h : PF σ0 s j R F) (h8 : R'.cs.length = 8) : PF σ0 (s.set j (.cells (rgV tk R'))) j R' F := by
  obtain ⟨t, o⟩ := h.o
  exact ⟨h.x.set h.jn, h.jn, h8, ⟨tk, objs_setS (List.getElem?_eq_some_iff.1 o).1⟩, fun y hy => ⟨(h.f y hy).1, by rw [objs_setN (h.f y hy).1.symm]; exact (h.f y hy).2⟩⟩
theorem PF.grow {σ0 s : AST} {j : Nat} {R : Rg} {tk : Tk} {n e : Nat} {F : List (Nat × AObj)} (h : PF σ0 s j R F) (ht : tkNew σ0 tk) : PF σ0 (growS s tk n e) j R F := by
  obtain ⟨t, o⟩ := h.o
  exact ⟨h.x.grow ht, h.jn, h.h8, ⟨t, by rw [growS_objs]; exact o⟩, fun x hx => ⟨(h.f x hx).1, by rw [growS_objs]; exact (h.f x hx).2⟩⟩
theorem PF.setN {σ0 s : AST} {j i : Nat} {R : Rg} {o : AObj} {F : List (Nat × AObj)} (h : PF σ0 s j R F) (hi : σ0.objs.length ≤ i) (hj : j ≠ i) (hf : ∀ x ∈ F, x.1 ≠ i) : PF σ0 (s.set i o) j R F := by
  obtain ⟨t, q⟩ := h.o
  exact ⟨h.x.set hi, h.jn, h.h8, ⟨t, by rw [objs_setN hj.symm]; exact q⟩, fun x hx => ⟨(h.f x hx).1, by rw [objs_setN (hf x hx).symm]; exact (h.f x hx).2⟩⟩
section
variable {σ0 s : AST} {j : Nat} {R : Rg} {F : List (Nat × AObj)} {K : AV → AST → Prop}
theorem rgSubmit_nil {n : Int} {x : Sub} (hK : ∀ t s', Ext s s' → K (.tuple [repV t rep0, .int .i64 1]) s') : TCalls Try.prog 13 [.ptr none, .int .i64 n, subV x] s K := by
  refine tcalls_walk Try.f13 _ [.cell 6 43, .tmp 7] Try.func13 rfl rfl rfl mixed (Nat.le_of_ble_eq_true rfl) rfl fun hlen => ?_
  repeat' (first | (simp -dsimp only [↓reduceIte, go_sem]) | (refine arr_intro fun _ => ?_) | (refine later_intro ⟨keeps_nil, ?_⟩) | (refine later_intro ⟨keeps_refl, ?_⟩) | (with_reducible refine keeps_go ?_ ?_; focus (first | (simp [keeps_cons, keeps_none, objs_app, objs_app0]; done) | (simp only [keeps_cons, keeps_none, objs_app0, objs_app, and_true]; first | rfl | exact ⟨rfl, rfl⟩ | exact ⟨rfl, rfl, rfl⟩))) | (with_reducible refine (And.intro (a := keeps _ _ _) ?_ ?_); focus (first | (simp [keeps_cons, keeps_none, objs_app, objs_app0]; done) | (simp only [keeps_cons, keeps_none, objs_app0, objs_app, and_true]; first | rfl | exact ⟨rfl, rfl⟩ | exact ⟨rfl, rfl, rfl⟩))) | (refine both_ways ?_ ?_) | (rw [wrap_i64 (by omega) (by omega)]) | (refine guardV_split (fun h => ?_) (fun h => ?_) <;> (try rw [h]) <;> (try simp at h) <;> (try (exfalso; omega))))
  exact hK _ _ (Ext.app _ _)
theorem rgSubmit_c (hP : PF σ0 s j R F) (hM : R.plain.Ok) {n : Int} {x : Sub} (hK : ∀ t s' R', R'.plain = (R.plain.submit n x).1 → PF σ0 s' j R' F → K (.tuple [repV t (R.plain.submit n x).2.1, .int .i64 (R.plain.submit n x).2.2]) s') :
    TCalls Try.prog 13 [.ptr (some (j, [])), .int .i64 n, subV x] s K := by
  have hR := ok_plain hM
  have hn8 := hM.n8
  obtain ⟨tk, o⟩ := hP.o
  have hjl := (List.getElem?_eq_some_iff.1 o).1
  have hA : PF σ0 (s.app [.cells (subV x), .cells (.agg (repPs .full rep0))]) j R ((s.objs.length, .cells (subV x)) :: (s.objs.length + 1, .cells (.agg (repPs .full rep0))) :: F) :=
    ((hP.ext (Ext.app _ _)).more (i := s.objs.length + 1) (by rw [objs_app]; rfl) (by omega)).more (i := s.objs.length) objs_app0 (by omega)
  have cS : ∀ v p, cellAt ((s.app [.cells (subV x), .cells (.agg (repPs .full rep0))]).set (s.objs.length + 1) (.cells v)) (s.objs.length + 1) p = v.at p := fun v p => cellAt_setS (by simp [AST.app])
  generalize hs1 : s.app [.cells (subV x), .cells (.agg (repPs .full rep0))] = s1 at hA cS
  obtain ⟨tk, o⟩ := hA.o
  have c0 := cellAt_known o
  have b0 := (hA.f _ (List.mem_cons_self ..)).2
  have b1 := (hA.f _ (List.mem_cons_of_mem _ (List.mem_cons_self ..))).2
  simp only at b0 b1
  have cb0 := cellAt_known b0
  have n1 : s.objs.length + 1 ≠ j := by omega
  have hend : ∀ t r e, (R.plain.submit n x) = (R.plain, r, e) → K (.tuple [repV t r, .int .i64 e]) (s1.set (s.objs.length + 1) (.cells (repV t r))) := fun t r e he => by
    have := hK t (s1.set (s.objs.length + 1) (.cells (repV t r))) R (by rw [he]) ?_
    · rw [he] at this; exact this
    · exact hA.less.less.setN (by have := hP.jn; omega) (by omega) fun y hy => by have := (List.getElem?_eq_some_iff.1 (hP.f y hy).2).1; omega
  refine tcalls_walk Try.f13 _ [.cell 6 43, .tmp 7] Try.func13 rfl rfl rfl mixed (Nat.le_of_ble_eq_true rfl) rfl fun hlen => ?_
  repeat' (first | (simp -dsimp only [↓reduceIte, go_sem, hs1, c0, cb0]) | (refine arr_intro fun _ => ?_) | (refine later_intro ⟨keeps_nil, ?_⟩) | (refine later_intro ⟨keeps_refl, ?_⟩) | (with_reducible refine keeps_go ?_ ?_; focus (first | (simp [keeps_cons, keeps_none, objs_app, objs_app0]; done) | (simp only [keeps_cons, keeps_none, objs_app0, objs_app, and_true]; first | rfl | exact ⟨rfl, rfl⟩ | exact ⟨rfl, rfl, rfl⟩))) | (with_reducible refine (And.intro (a := keeps _ _ _) ?_ ?_); focus (first | (simp [keeps_cons, keeps_none, objs_app, objs_app0]; done) | (simp only [keeps_cons, keeps_none, objs_app0, objs_app, and_true]; first | rfl | exact ⟨rfl, rfl⟩ | exact ⟨rfl, rfl, rfl⟩))) | (refine both_ways ?_ ?_) | (rw [wrap_i64 (by omega) (by omega)]) | (refine guardV_split (fun h => ?_) (fun h => ?_) <;> (try rw [h]) <;> (try simp at h) <;> (try (exfalso; omega))))
  refine put_c (m := Reg.subM n x) ?_
  by_cases hok : (Reg.subM n x).Ok
  · rw [if_pos hok]
    by_cases hn : R.plain.has n
    · by_cases hx : R.plain.has x.target
      · have hgo : ¬ (¬ (Reg.subM n x).Ok ∨ ¬ R.plain.has n ∨ ¬ R.plain.has x.target) := by rintro (h | h | h) <;> contradiction
        obtain ⟨hn0, hn1⟩ := hn
        obtain ⟨hx0, hx1⟩ := hx
        have hn1 : n < R.n := hn1
        have hx1 : x.target < R.n := hx1
        have hn8 : R.n ≤ 8 := hn8
        obtain ⟨tc, hc⟩ := cli_get hP.h8 hn0 (by omega)
        have hnn : ((n.toNat : Nat) : Int) = n := Int.toNat_of_nonneg hn0
        have hat := rg_at (tk := tk) hc
        have h8 := sz8 hP.h8
        have hcl : cliOf R n = R.plain.cli n := cliOf_plain
        have hmem : cliOf R n ∈ R.plain.cs := by
          have h1 : (R.plain.cs)[n.toNat]? = some (cliOf R n) := by simp [Rg.plain, hc]
          exact List.mem_of_getElem? h1
        have hrp := hM.rp _ hmem
        have hnm := hM.nm _ hmem
        have hwr : IntKind.i64.wrap ((cliOf R n).last.num + 1) = (cliOf R n).last.num + 1 := wrap_i64 (by omega) (by omega)
        have hsub : R.plain.submit n x = if x.num = (cliOf R n).last.num then (if x = (cliOf R n).last then (R.plain, (cliOf R n).reply, 0) else (R.plain, rep0, 10))
            else if x.num ≠ (cliOf R n).last.num + 1 then (R.plain, rep0, 3)
            else if 512 ≤ R.plain.order.length ∨ 8 ≤ R.plain.pend.length then (R.plain, rep0, 11)
            else ({ R.plain.setC n { R.plain.cli n with last := x, reply := R.plain.ans x } with pend := R.plain.pend ++ [Reg.newP n x] }, R.plain.ans x, 0) := by
          unfold Reg.submit; rw [if_neg hgo, ← hcl]
        by_cases e1 : x.num = (cliOf R n).last.num
        · rw [if_pos e1] at hsub
          by_cases e2 : x = (cliOf R n).last
          · rw [if_pos e2] at hsub
            have e1t := eq_true e1
            have e2t := eq_true e2
            repeat' (first | (simp -dsimp only [↓reduceIte, go_sem, hs1, c0, cb0, hn0, hn1, hx0, hx1, hat, h8, b1, cS, hwr, e1t, e2t]) | (refine arr_intro fun _ => ?_) | (refine later_intro ⟨keeps_nil, ?_⟩) | (refine later_intro ⟨keeps_refl, ?_⟩) | (with_reducible refine keeps_go ?_ ?_; focus (first | (simp [keeps_cons, keeps_none, objs_app, objs_app0]; done) | (simp only [keeps_cons, keeps_none, objs_app0, objs_app, and_true]; first | rfl | exact ⟨rfl, rfl⟩ | exact ⟨rfl, rfl, rfl⟩))) | (with_reducible refine (And.intro (a := keeps _ _ _) ?_ ?_); focus (first | (simp [keeps_cons, keeps_none, objs_app, objs_app0]; done) | (simp only [keeps_cons, keeps_none, objs_app0, objs_app, and_true]; first | rfl | exact ⟨rfl, rfl⟩ | exact ⟨rfl, rfl, rfl⟩))) | (refine both_ways ?_ ?_) | (rw [wrap_i64 (by omega) (by omega)]) | (refine guardV_split (fun h => ?_) (fun h => ?_) <;> (try rw [h]) <;> (try simp at h) <;> (try (exfalso; omega))) | (refine rgIs_c hA ?_) | ((rw [← hnn]; refine index_cli o hP.h8 hc ?_; rw [hnn])) | (with_reducible refine awp_drawS (id := 7) [0, 1, 2, 3, 4, 5, 6, 7, 8, 9, 10, 11, 12, 13, 14, 15, 16] (by kernel_rfl) ?_) | ((refine kept_c (by omega) fun t' => ?_)))
            exact hend t' _ 0 hsub
          · rw [if_neg e2] at hsub
            have e1t := eq_true e1
            repeat' (first | (simp -dsimp only [↓reduceIte, go_sem, hs1, c0, cb0, hn0, hn1, hx0, hx1, hat, h8, b1, cS, hwr, e1t, e2]) | (refine arr_intro fun _ => ?_) | (refine later_intro ⟨keeps_nil, ?_⟩) | (refine later_intro ⟨keeps_refl, ?_⟩) | (with_reducible refine keeps_go ?_ ?_; focus (first | (simp [keeps_cons, keeps_none, objs_app, objs_app0]; done) | (simp only [keeps_cons, keeps_none, objs_app0, objs_app, and_true]; first | rfl | exact ⟨rfl, rfl⟩ | exact ⟨rfl, rfl, rfl⟩))) | (with_reducible refine (And.intro (a := keeps _ _ _) ?_ ?_); focus (first | (simp [keeps_cons, keeps_none, objs_app, objs_app0]; done) | (simp only [keeps_cons, keeps_none, objs_app0, objs_app, and_true]; first | rfl | exact ⟨rfl, rfl⟩ | exact ⟨rfl, rfl, rfl⟩))) | (refine both_ways ?_ ?_) | (rw [wrap_i64 (by omega) (by omega)]) | (refine guardV_split (fun h => ?_) (fun h => ?_) <;> (try rw [h]) <;> (try simp at h) <;> (try (exfalso; omega))) | (refine rgIs_c hA ?_) | ((rw [← hnn]; refine index_cli o hP.h8 hc ?_; rw [hnn])) | (with_reducible refine awp_drawS (id := 7) [0, 1, 2, 3, 4, 5, 6, 7, 8, 9, 10, 11, 12, 13, 14, 15, 16] (by kernel_rfl) ?_) | (with_reducible refine awp_drawS (id := 9) [0, 1, 2, 3, 4, 5, 6, 7, 8] (by kernel_rfl) ?_))
            exact hend .full rep0 10 hsub
        · rw [if_neg e1] at hsub
          by_cases e3 : x.num = (cliOf R n).last.num + 1
          · rw [if_neg (by simpa using e3)] at hsub
            have e3t := eq_true e3
            have hol : (orderL R.long R.pend).length = R.long.length + R.pend.length := by simp [orderL]
            have hlb := hM.ll
            have hpb := hM.pl
            have hlb : R.long.length ≤ 512 := hlb
            have hpb : R.pend.length ≤ 8 := hpb
            by_cases e4 : 512 ≤ R.long.length + R.pend.length
            · have e4' : (512 : Int) ≤ (R.long.length : Int) + R.pend.length := by omega
              rw [if_pos (.inl (by show 512 ≤ (orderL R.long R.pend).length; omega))] at hsub
              repeat' (first | (simp -dsimp only [↓reduceIte, go_sem, hs1, c0, cb0, hn0, hn1, hx0, hx1, hat, h8, b1, cS, hwr, e1, e3t, hol, e4', Int.natCast_add]) | (refine arr_intro fun _ => ?_) | (refine later_intro ⟨keeps_nil, ?_⟩) | (refine later_intro ⟨keeps_refl, ?_⟩) | (with_reducible refine keeps_go ?_ ?_; focus (first | (simp [keeps_cons, keeps_none, objs_app, objs_app0]; done) | (simp only [keeps_cons, keeps_none, objs_app0, objs_app, and_true]; first | rfl | exact ⟨rfl, rfl⟩ | exact ⟨rfl, rfl, rfl⟩))) | (with_reducible refine (And.intro (a := keeps _ _ _) ?_ ?_); focus (first | (simp [keeps_cons, keeps_none, objs_app, objs_app0]; done) | (simp only [keeps_cons, keeps_none, objs_app0, objs_app, and_true]; first | rfl | exact ⟨rfl, rfl⟩ | exact ⟨rfl, rfl, rfl⟩))) | (refine both_ways ?_ ?_) | (rw [wrap_i64 (by omega) (by omega)]) | (refine guardV_split (fun h => ?_) (fun h => ?_) <;> (try rw [h]) <;> (try simp at h) <;> (try (exfalso; omega))) | (refine rgIs_c hA ?_) | ((rw [← hnn]; refine index_cli o hP.h8 hc ?_; rw [hnn])) | (with_reducible refine awp_drawS (id := 7) [0, 1, 2, 3, 4, 5, 6, 7, 8, 9, 10, 11, 12, 13, 14, 15, 16] (by kernel_rfl) ?_) | (with_reducible refine awp_drawS (id := 9) [0, 1, 2, 3, 4, 5, 6, 7, 8] (by kernel_rfl) ?_) | (with_reducible refine awp_drawS (id := 11) [0, 1, 2, 3, 4, 5, 6, 7, 8, 9] (by kernel_rfl) ?_) | (refine order_c hA hR ?_))
              all_goals first
                | (exfalso; omega)
                | (refine absurd e3 ?_; assumption)
                | (refine absurd ?_ e3; assumption)
                | exact hend .full rep0 11 hsub
            · have e4' : ¬ (512 : Int) ≤ (R.long.length : Int) + R.pend.length := by omega
              by_cases e5 : 8 ≤ R.pend.length
              · have e5' : (8 : Int) ≤ R.pend.length := by omega
                rw [if_pos (.inr e5)] at hsub
                repeat' (first | (simp -dsimp only [↓reduceIte, go_sem, hs1, c0, cb0, hn0, hn1, hx0, hx1, hat, h8, b1, cS, hwr, e1, e3t, hol, e4', e5', Int.natCast_add, rgAt_5 hP.h8]) | (refine arr_intro fun _ => ?_) | (refine later_intro ⟨keeps_nil, ?_⟩) | (refine later_intro ⟨keeps_refl, ?_⟩) | (with_reducible refine keeps_go ?_ ?_; focus (first | (simp [keeps_cons, keeps_none, objs_app, objs_app0]; done) | (simp only [keeps_cons, keeps_none, objs_app0, objs_app, and_true]; first | rfl | exact ⟨rfl, rfl⟩ | exact ⟨rfl, rfl, rfl⟩))) | (with_reducible refine (And.intro (a := keeps _ _ _) ?_ ?_); focus (first | (simp [keeps_cons, keeps_none, objs_app, objs_app0]; done) | (simp only [keeps_cons, keeps_none, objs_app0, objs_app, and_true]; first | rfl | exact ⟨rfl, rfl⟩ | exact ⟨rfl, rfl, rfl⟩))) | (refine both_ways ?_ ?_) | (rw [wrap_i64 (by omega) (by omega)]) | (refine guardV_split (fun h => ?_) (fun h => ?_) <;> (try rw [h]) <;> (try simp at h) <;> (try (exfalso; omega))) | (refine rgIs_c hA ?_) | ((rw [← hnn]; refine index_cli o hP.h8 hc ?_; rw [hnn])) | (with_reducible refine awp_drawS (id := 7) [0, 1, 2, 3, 4, 5, 6, 7, 8, 9, 10, 11, 12, 13, 14, 15, 16] (by kernel_rfl) ?_) | (with_reducible refine awp_drawS (id := 9) [0, 1, 2, 3, 4, 5, 6, 7, 8] (by kernel_rfl) ?_) | (with_reducible refine awp_drawS (id := 11) [0, 1, 2, 3, 4, 5, 6, 7, 8, 9] (by kernel_rfl) ?_) | (refine order_c hA hR ?_))
                all_goals first
                  | (exfalso; omega)
                  | (refine absurd e3 ?_; assumption)
                  | (refine absurd ?_ e3; assumption)
                  | exact hend .full rep0 11 hsub
              · have e5' : ¬ (8 : Int) ≤ R.pend.length := by omega
                rw [if_neg (by rintro (h | h); exact e4 (by rw [← hol]; exact h); exact e5 h)] at hsub
                repeat' (first | (simp -dsimp only [↓reduceIte, go_sem, hs1, c0, cb0, hn0, hn1, hx0, hx1, hat, h8, b1, cS, hwr, e1, e3t, hol, e4', e5', Int.natCast_add, rgAt_5 hP.h8]) | (refine arr_intro fun _ => ?_) | (refine later_intro ⟨keeps_nil, ?_⟩) | (refine later_intro ⟨keeps_refl, ?_⟩) | (with_reducible refine keeps_go ?_ ?_; focus (first | (simp [keeps_cons, keeps_none, objs_app, objs_app0]; done) | (simp only [keeps_cons, keeps_none, objs_app0, objs_app, and_true]; first | rfl | exact ⟨rfl, rfl⟩ | exact ⟨rfl, rfl, rfl⟩))) | (with_reducible refine (And.intro (a := keeps _ _ _) ?_ ?_); focus (first | (simp [keeps_cons, keeps_none, objs_app, objs_app0]; done) | (simp only [keeps_cons, keeps_none, objs_app0, objs_app, and_true]; first | rfl | exact ⟨rfl, rfl⟩ | exact ⟨rfl, rfl, rfl⟩))) | (refine both_ways ?_ ?_) | (rw [wrap_i64 (by omega) (by omega)]) | (refine guardV_split (fun h => ?_) (fun h => ?_) <;> (try rw [h]) <;> (try simp at h) <;> (try (exfalso; omega))) | (refine rgIs_c hA ?_) | ((rw [← hnn]; refine index_cli o hP.h8 hc ?_; rw [hnn])) | (with_reducible refine awp_drawS (id := 7) [0, 1, 2, 3, 4, 5, 6, 7, 8, 9, 10, 11, 12, 13, 14, 15, 16] (by kernel_rfl) ?_) | (with_reducible refine awp_drawS (id := 9) [0, 1, 2, 3, 4, 5, 6, 7, 8] (by kernel_rfl) ?_) | (with_reducible refine awp_drawS (id := 11) [0, 1, 2, 3, 4, 5, 6, 7, 8, 9] (by kernel_rfl) ?_) | (refine order_c hA hR ?_))
                all_goals first
                  | (exfalso; omega)
                  | (refine absurd e3 ?_; assumption)
                  | (refine absurd ?_ e3; assumption)
                  | skip
                refine answer_c hA hR hx0 hx1 fun t => ?_
                have hso1 : ∀ t y, setOk (rgV tk R) [1, n.toNat, 1] (repV t y) := fun t y => rg_setOk hc (by simp [setOk])
                have hsa1 : ∀ t y, (rgV tk R).setAt [1, n.toNat, 1] (repV t y) = rgV tk { R with cs := R.cs.set n.toNat (t, { cliOf R n with reply := y }) } := fun t y => rg_setAt (c' := (t, { cliOf R n with reply := y })) hc rfl
                repeat' (first | (simp -dsimp only [↓reduceIte, go_sem, o, c0, hat, hso1, hsa1]) | (refine arr_intro fun _ => ?_) | (refine later_intro ⟨keeps_nil, ?_⟩) | (refine later_intro ⟨keeps_refl, ?_⟩) | (with_reducible refine keeps_go ?_ ?_; focus (first | (simp [keeps_cons, keeps_none, objs_app, objs_app0]; done) | (simp only [keeps_cons, keeps_none, objs_app0, objs_app, and_true]; first | rfl | exact ⟨rfl, rfl⟩ | exact ⟨rfl, rfl, rfl⟩))) | (with_reducible refine (And.intro (a := keeps _ _ _) ?_ ?_); focus (first | (simp [keeps_cons, keeps_none, objs_app, objs_app0]; done) | (simp only [keeps_cons, keeps_none, objs_app0, objs_app, and_true]; first | rfl | exact ⟨rfl, rfl⟩ | exact ⟨rfl, rfl, rfl⟩))) | (refine both_ways ?_ ?_) | (rw [wrap_i64 (by omega) (by omega)]) | (refine guardV_split (fun h => ?_) (fun h => ?_) <;> (try rw [h]) <;> (try simp at h) <;> (try (exfalso; omega))))
                have hP1 := hA.put (tk := tk) (R' := { R with cs := R.cs.set n.toNat (t, { cliOf R n with reply := ansOf R x }) }) (by simpa using hP.h8)
                generalize s1.set j _ = s2 at hP1 ⊢
                obtain ⟨tk1, o1⟩ := hP1.o
                have c1 := cellAt_known o1
                have b0' := (hP1.f _ (List.mem_cons_self ..)).2
                simp only at b0'
                have cb0' := cellAt_known b0'
                have hnl : n.toNat < R.cs.length := (List.getElem?_eq_some_iff.1 hc).1
                have hc1 : ({ R with cs := R.cs.set n.toNat (t, { cliOf R n with reply := ansOf R x }) } : Rg).cs[n.toNat]? = some (t, { cliOf R n with reply := ansOf R x }) := by simp [hnl]
                have hat1 := rg_at (tk := tk1) hc1
                have hso2 : ∀ y, setOk (rgV tk1 { R with cs := R.cs.set n.toNat (t, { cliOf R n with reply := ansOf R x }) }) [1, n.toNat, 0] (subV y) := fun y => rg_setOk hc1 (by simp [setOk])
                have hsa2 : ∀ y, (rgV tk1 { R with cs := R.cs.set n.toNat (t, { cliOf R n with reply := ansOf R x }) }).setAt [1, n.toNat, 0] (subV y) = rgV tk1 { R with cs := (R.cs.set n.toNat (t, { cliOf R n with reply := ansOf R x })).set n.toNat (t, { cliOf R n with last := y, reply := ansOf R x }) } := fun y => rg_setAt (c' := (t, { cliOf R n with last := y, reply := ansOf R x })) hc1 rfl
                repeat' (first | (simp -dsimp only [↓reduceIte, go_sem, o1, c1, cb0', hat1, hso2, hsa2]) | (refine arr_intro fun _ => ?_) | (refine later_intro ⟨keeps_nil, ?_⟩) | (refine later_intro ⟨keeps_refl, ?_⟩) | (with_reducible refine keeps_go ?_ ?_; focus (first | (simp [keeps_cons, keeps_none, objs_app, objs_app0]; done) | (simp only [keeps_cons, keeps_none, objs_app0, objs_app, and_true]; first | rfl | exact ⟨rfl, rfl⟩ | exact ⟨rfl, rfl, rfl⟩))) | (with_reducible refine (And.intro (a := keeps _ _ _) ?_ ?_); focus (first | (simp [keeps_cons, keeps_none, objs_app, objs_app0]; done) | (simp only [keeps_cons, keeps_none, objs_app0, objs_app, and_true]; first | rfl | exact ⟨rfl, rfl⟩ | exact ⟨rfl, rfl, rfl⟩))) | (refine both_ways ?_ ?_) | (rw [wrap_i64 (by omega) (by omega)]) | (refine guardV_split (fun h => ?_) (fun h => ?_) <;> (try rw [h]) <;> (try simp at h) <;> (try (exfalso; omega))))
                have hP2 := hP1.put (tk := tk1) (R' := { R with cs := (R.cs.set n.toNat (t, { cliOf R n with reply := ansOf R x })).set n.toNat (t, { cliOf R n with last := x, reply := ansOf R x }) }) (by simpa using hP.h8)
                generalize s2.set j _ = s3 at hP2 ⊢
                rw [List.set_set] at hP2
                obtain ⟨tk2, o2⟩ := hP2.o
                have c2 := cellAt_known o2
                have b02 := (hP2.f _ (List.mem_cons_self ..)).2
                simp only at b02
                have cb02 := cellAt_known b02
                have h82 : ({ R with cs := R.cs.set n.toNat (t, { cliOf R n with last := x, reply := ansOf R x }) } : Rg).cs.length = 8 := by simpa using hP.h8
                repeat' (first | (simp -dsimp only [↓reduceIte, go_sem, o2, c2, cb02, rgAt_5 h82, cellAt_growS, objs_growS]) | (refine arr_intro fun _ => ?_) | (refine later_intro ⟨keeps_nil, ?_⟩) | (refine later_intro ⟨keeps_refl, ?_⟩) | (with_reducible refine keeps_go ?_ ?_; focus (first | (simp [keeps_cons, keeps_none, objs_app, objs_app0]; done) | (simp only [keeps_cons, keeps_none, objs_app0, objs_app, and_true]; first | rfl | exact ⟨rfl, rfl⟩ | exact ⟨rfl, rfl, rfl⟩))) | (with_reducible refine (And.intro (a := keeps _ _ _) ?_ ?_); focus (first | (simp [keeps_cons, keeps_none, objs_app, objs_app0]; done) | (simp only [keeps_cons, keeps_none, objs_app0, objs_app, and_true]; first | rfl | exact ⟨rfl, rfl⟩ | exact ⟨rfl, rfl, rfl⟩))) | (refine both_ways ?_ ?_) | (rw [wrap_i64 (by omega) (by omega)]) | (refine guardV_split (fun h => ?_) (fun h => ?_) <;> (try rw [h]) <;> (try simp at h) <;> (try (exfalso; omega))) | (with_reducible refine awp_drawU (id := 17) (.op 0 0 (.op 1 2 (.op 2 2 (.op 3 2 (.op 4 2 (.op 5 2 (.op 6 2 (.op 7 2 (.op 8 2 (.op 9 2 (.op 10 2 (.op 11 2 (.op 12 2 (.op 13 2 (.op 14 2 (.op 15 2 (.op 16 2 (.op 17 2 (.op 18 2 (.op 19 2 (.op 20 2 (.op 21 2 (.op 22 2 (.op 23 2 (.op 24 2 (.op 25 2 (.op 26 2 (.op 27 1 (.cut (.op 28 2 (.op 29 2 (.op 30 1 .nil)))))))))))))))))))))))))))))))) (by kernel_rfl) ?_) | (with_reducible refine keeps_go ?_ ?_; focus (simp [keeps_cons, keeps_none, objs_app, objs_app0, o2, b02, objs_growS]; done)) | (with_reducible refine (And.intro (a := keeps _ _ _) ?_ ?_); focus (simp [keeps_cons, keeps_none, objs_app, objs_app0, o2, b02, objs_growS]; done)) | (refine slice3p rfl ?_) | (refine build_pend ?_) | (refine append_pend trivial (by omega) ?_))
                have hP3 := (hP2.grow (tk := .full) (n := R.pend.length + 1) (e := 68) (.inl rfl)).put (tk := growT s3 .full) (R' := { R with cs := R.cs.set n.toNat (t, { cliOf R n with last := x, reply := ansOf R x }), pend := R.pend ++ [Reg.newP n x] }) (by simpa using hP.h8)
                have hs4 : (growS s3 .full (R.pend.length + 1) 68).set j (.cells (rgV (growT s3 .full) { R with cs := R.cs.set n.toNat (t, { cliOf R n with last := x, reply := ansOf R x }), pend := R.pend ++ [Reg.newP n x] })) = (growS s3 .full (R.pend.length + 1) 68).set j (.cells (.agg (rgPs (growT s3 .full) { R with cs := R.cs.set n.toNat (t, { last := x, reply := ansOf R x, view := (cliOf R n).view, tag := (cliOf R n).tag }), pend := R.pend ++ [{ client := n, num := x.num, kind := x.kind, target := x.target, asked := x.asked, proof := pend0.proof }] }))) := rfl
                rw [hs4] at hP3
                generalize (growS s3 .full (R.pend.length + 1) 68).set j _ = s4 at hP3 ⊢
                obtain ⟨tk3, o3⟩ := hP3.o
                have c3 := cellAt_known o3
                have b13 := (hP3.f _ (List.mem_cons_of_mem _ (List.mem_cons_self ..))).2
                simp only at b13
                have hc3 : ({ R with cs := R.cs.set n.toNat (t, { cliOf R n with last := x, reply := ansOf R x }), pend := R.pend ++ [Reg.newP n x] } : Rg).cs[n.toNat]? = some (t, { cliOf R n with last := x, reply := ansOf R x }) := by simp [hnl]
                have hat3 := rg_at (tk := tk3) hc3
                have hpa : (ansOf R x).pending.length ≤ 8 := by rw [ansOf_plain]; unfold Reg.ans; split <;> simpa [Rg.plain] using hpb
                have cS3 : ∀ v p, cellAt (s4.set (s.objs.length + 1) (.cells v)) (s.objs.length + 1) p = v.at p := fun v p => cellAt_setS (List.getElem?_eq_some_iff.1 b13).1
                repeat' (first | (simp -dsimp only [↓reduceIte, go_sem, c3, hat3, b13, cS3]) | (refine arr_intro fun _ => ?_) | (refine later_intro ⟨keeps_nil, ?_⟩) | (refine later_intro ⟨keeps_refl, ?_⟩) | (with_reducible refine keeps_go ?_ ?_; focus (first | (simp [keeps_cons, keeps_none, objs_app, objs_app0]; done) | (simp only [keeps_cons, keeps_none, objs_app0, objs_app, and_true]; first | rfl | exact ⟨rfl, rfl⟩ | exact ⟨rfl, rfl, rfl⟩))) | (with_reducible refine (And.intro (a := keeps _ _ _) ?_ ?_); focus (first | (simp [keeps_cons, keeps_none, objs_app, objs_app0]; done) | (simp only [keeps_cons, keeps_none, objs_app0, objs_app, and_true]; first | rfl | exact ⟨rfl, rfl⟩ | exact ⟨rfl, rfl, rfl⟩))) | (refine both_ways ?_ ?_) | (rw [wrap_i64 (by omega) (by omega)]) | (refine guardV_split (fun h => ?_) (fun h => ?_) <;> (try rw [h]) <;> (try simp at h) <;> (try (exfalso; omega))) | ((refine kept_c (by omega) fun t' => ?_)))
                have hpl : ({ R with cs := R.cs.set n.toNat (t, { cliOf R n with last := x, reply := ansOf R x }), pend := R.pend ++ [Reg.newP n x] } : Rg).plain = (R.plain.submit n x).1 := by
                  rw [hsub, ← hcl, ← ansOf_plain]; simp [Rg.plain, Reg.setC, List.map_set]
                have hfin := hK t' (s4.set (s.objs.length + 1) (.cells (repV t' (ansOf R x)))) _ hpl (hP3.less.less.setN (by have := hP.jn; omega) (by omega) fun y hy => by have := (List.getElem?_eq_some_iff.1 (hP.f y hy).2).1; omega)
                rw [hsub, ← ansOf_plain] at hfin
                exact hfin
          · rw [if_pos e3] at hsub
            repeat' (first | (simp -dsimp only [↓reduceIte, go_sem, hs1, c0, cb0, hn0, hn1, hx0, hx1, hat, h8, b1, cS, hwr, e1, e3]) | (refine arr_intro fun _ => ?_) | (refine later_intro ⟨keeps_nil, ?_⟩) | (refine later_intro ⟨keeps_refl, ?_⟩) | (with_reducible refine keeps_go ?_ ?_; focus (first | (simp [keeps_cons, keeps_none, objs_app, objs_app0]; done) | (simp only [keeps_cons, keeps_none, objs_app0, objs_app, and_true]; first | rfl | exact ⟨rfl, rfl⟩ | exact ⟨rfl, rfl, rfl⟩))) | (with_reducible refine (And.intro (a := keeps _ _ _) ?_ ?_); focus (first | (simp [keeps_cons, keeps_none, objs_app, objs_app0]; done) | (simp only [keeps_cons, keeps_none, objs_app0, objs_app, and_true]; first | rfl | exact ⟨rfl, rfl⟩ | exact ⟨rfl, rfl, rfl⟩))) | (refine both_ways ?_ ?_) | (rw [wrap_i64 (by omega) (by omega)]) | (refine guardV_split (fun h => ?_) (fun h => ?_) <;> (try rw [h]) <;> (try simp at h) <;> (try (exfalso; omega))) | (refine rgIs_c hA ?_) | ((rw [← hnn]; refine index_cli o hP.h8 hc ?_; rw [hnn])) | (with_reducible refine awp_drawS (id := 7) [0, 1, 2, 3, 4, 5, 6, 7, 8, 9, 10, 11, 12, 13, 14, 15, 16] (by kernel_rfl) ?_) | (with_reducible refine awp_drawS (id := 9) [0, 1, 2, 3, 4, 5, 6, 7, 8] (by kernel_rfl) ?_) | (with_reducible refine awp_drawS (id := 11) [0, 1, 2, 3, 4, 5, 6, 7, 8, 9] (by kernel_rfl) ?_))
            all_goals first
              | (exfalso; omega)
              | (refine absurd e3 ?_; assumption)
              | (refine absurd ?_ e3; assumption)
              | exact hend .full rep0 3 hsub
      · have hsub : R.plain.submit n x = (R.plain, rep0, 2) := by unfold Reg.submit; rw [if_pos (.inr (.inr hx))]
        obtain ⟨hn0, hn1⟩ := hn
        have hn1 : n < R.n := hn1
        have hx' : ¬ (0 ≤ x.target ∧ x.target < R.n) := hx
        have hxd : (decide (0 ≤ x.target) && decide (x.target < R.n)) = false := by rw [← Bool.decide_and]; exact decide_eq_false hx'
        repeat' (first | (simp -dsimp only [↓reduceIte, go_sem, hs1, c0, cb0, hn0, hn1, hxd, b1, cS]) | (refine arr_intro fun _ => ?_) | (refine later_intro ⟨keeps_nil, ?_⟩) | (refine later_intro ⟨keeps_refl, ?_⟩) | (with_reducible refine keeps_go ?_ ?_; focus (first | (simp [keeps_cons, keeps_none, objs_app, objs_app0]; done) | (simp only [keeps_cons, keeps_none, objs_app0, objs_app, and_true]; first | rfl | exact ⟨rfl, rfl⟩ | exact ⟨rfl, rfl, rfl⟩))) | (with_reducible refine (And.intro (a := keeps _ _ _) ?_ ?_); focus (first | (simp [keeps_cons, keeps_none, objs_app, objs_app0]; done) | (simp only [keeps_cons, keeps_none, objs_app0, objs_app, and_true]; first | rfl | exact ⟨rfl, rfl⟩ | exact ⟨rfl, rfl, rfl⟩))) | (refine both_ways ?_ ?_) | (rw [wrap_i64 (by omega) (by omega)]) | (refine guardV_split (fun h => ?_) (fun h => ?_) <;> (try rw [h]) <;> (try simp at h) <;> (try (exfalso; omega))) | (refine rgIs_c hA ?_))
        exact hend .full rep0 2 hsub
    · have hsub : R.plain.submit n x = (R.plain, rep0, 2) := by unfold Reg.submit; rw [if_pos (.inr (.inl hn))]
      have hn' : ¬ (0 ≤ n ∧ n < R.n) := hn
      have hnd : (decide (0 ≤ n) && decide (n < R.n)) = false := by rw [← Bool.decide_and]; exact decide_eq_false hn'
      repeat' (first | (simp -dsimp only [↓reduceIte, go_sem, hs1, c0, cb0, hnd, b1, cS]) | (refine arr_intro fun _ => ?_) | (refine later_intro ⟨keeps_nil, ?_⟩) | (refine later_intro ⟨keeps_refl, ?_⟩) | (with_reducible refine keeps_go ?_ ?_; focus (first | (simp [keeps_cons, keeps_none, objs_app, objs_app0]; done) | (simp only [keeps_cons, keeps_none, objs_app0, objs_app, and_true]; first | rfl | exact ⟨rfl, rfl⟩ | exact ⟨rfl, rfl, rfl⟩))) | (with_reducible refine (And.intro (a := keeps _ _ _) ?_ ?_); focus (first | (simp [keeps_cons, keeps_none, objs_app, objs_app0]; done) | (simp only [keeps_cons, keeps_none, objs_app0, objs_app, and_true]; first | rfl | exact ⟨rfl, rfl⟩ | exact ⟨rfl, rfl, rfl⟩))) | (refine both_ways ?_ ?_) | (rw [wrap_i64 (by omega) (by omega)]) | (refine guardV_split (fun h => ?_) (fun h => ?_) <;> (try rw [h]) <;> (try simp at h) <;> (try (exfalso; omega))) | (refine rgIs_c hA ?_))
      exact hend .full rep0 2 hsub
  · rw [if_neg hok]
    repeat' (first | (simp -dsimp only [↓reduceIte, go_sem, hs1, c0, cb0, b1, objs_setS, cS]) | (refine arr_intro fun _ => ?_) | (refine later_intro ⟨keeps_nil, ?_⟩) | (refine later_intro ⟨keeps_refl, ?_⟩) | (with_reducible refine keeps_go ?_ ?_; focus (first | (simp [keeps_cons, keeps_none, objs_app, objs_app0]; done) | (simp only [keeps_cons, keeps_none, objs_app0, objs_app, and_true]; first | rfl | exact ⟨rfl, rfl⟩ | exact ⟨rfl, rfl, rfl⟩))) | (with_reducible refine (And.intro (a := keeps _ _ _) ?_ ?_); focus (first | (simp [keeps_cons, keeps_none, objs_app, objs_app0]; done) | (simp only [keeps_cons, keeps_none, objs_app0, objs_app, and_true]; first | rfl | exact ⟨rfl, rfl⟩ | exact ⟨rfl, rfl, rfl⟩))) | (refine both_ways ?_ ?_) | (rw [wrap_i64 (by omega) (by omega)]) | (refine guardV_split (fun h => ?_) (fun h => ?_) <;> (try rw [h]) <;> (try simp at h) <;> (try (exfalso; omega))))
    exact hend .full rep0 2 (by unfold Reg.submit; rw [if_pos (.inl hok)])
end
end Go.Aff.L10

