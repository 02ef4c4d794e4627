import Derived.Test.YtndndlofepehiaaG31

set_option linter.unusedSimpArgs false
set_option linter.unusedVariables false

/- Layer 12, walked: Commit. -/
-- cuts
namespace Go.Aff.L10
open Go.Proofs Go.Aff Go.Aff.L01 Classical
set_option linter.unusedVariables false
set_option linter.unusedSimpArgs false
set_option maxRecDepth 20000
attribute [local go_sem] push_app app_app length_app cellAt_app cellAt_app0 set_app set_app0 objs_app objs_app0 List.cons_append List.nil_append List.length_cons List.length_nil List.getElem?_cons_zero List.getElem?_cons_succ List.set_cons_zero List.set_cons_succ List.length_map
attribute [-go_sem] cellAt_new
attribute [-simp] List.length_flatMap
attribute [local go_sem] Try.underlying3 Try.underlying4 Try.underlying5 Try.underlying9 Try.underlying31 Try.underlying32 Try.underlying41 Try.underlying75 Try.underlying24 Try.underlying81 subPs_0 subAt_0 subSet_0 subPs_1 subAt_1 subSet_1 subPs_2 subAt_2 subSet_2 subPs_3 subAt_3 subSet_3 subPs_4 subAt_4 subSet_4 subPs_5 subAt_5 subSet_5 sizes_sub shapes_sub fits_sub zero_sub zt_sub built_sub Try.underlying34 pendPs_0 pendAt_0 pendSet_0 pendPs_1 pendAt_1 pendSet_1 pendPs_2 pendAt_2 pendSet_2 pendPs_3 pendAt_3 pendSet_3 pendPs_4 pendAt_4 pendSet_4 pendPs_5 pendAt_5 pendSet_5 sizes_pend shapes_pend fits_pend zero_pend zt_pend built_pend Try.underlying70 repPs_0 repAt_0 repSet_0 repPs_1 repAt_1 repSet_1 repPs_2 repAt_2 repSet_2 repPs_3 repAt_3 repSet_3 repPs_4 repAt_4 repSet_4 repPs_5 repAt_5 repSet_5 repPs_6 repAt_6 repSet_6 repPs_7 repAt_7 repSet_7 repPs_8 repAt_8 repSet_8 repPs_9 repAt_9 repSet_9 sizes_rep shapes_rep fits_rep zero_rep zt_rep built_rep Try.underlying43 blobPs_0 blobAt_0 blobSet_0 blobPs_1 blobAt_1 blobSet_1 blobPs_2 blobAt_2 blobSet_2 blobPs_3 blobAt_3 blobSet_3 sizes_blob shapes_blob fits_blob zero_blob zt_blob built_blob Try.underlying74 msgPs_0 msgAt_0 msgSet_0 msgPs_1 msgAt_1 msgSet_1 msgPs_2 msgAt_2 msgSet_2 msgPs_3 msgAt_3 msgSet_3 msgPs_4 msgAt_4 msgSet_4 msgPs_5 msgAt_5 msgSet_5 msgPs_6 msgAt_6 msgSet_6 msgPs_7 msgAt_7 msgSet_7 msgPs_8 msgAt_8 msgSet_8 msgPs_9 msgAt_9 msgSet_9 sizes_msg shapes_msg fits_msg zero_msg zt_msg built_msg Try.underlying77 at_Ps_0 at_Set_0 at_Ps_1 at_Set_1 sizes_at_ shapes_at_
attribute [local go_sem] fits3 fits4 fits5 fits9 fits23 fits26 fits31 fits34 fits52 zt3 zero3 zt34 zero34 zt23 zero23 bin_sub_eql bin_pend_eql bin_pend_neq bin_blob_eql bin_dig23_eql bin_dig23_neq slice23
attribute [local go_sem ↓] blockQ_exit2
attribute [local simp] dig_ext
attribute [local go_sem] cliPs_0 cliAt_0 cliSet_0 cliPs_1 cliAt_1 cliSet_1 cliPs_2 cliAt_2 cliSet_2 cliPs_3 cliAt_3 cliSet_3 sizes_cli shapes_cli fits_cli zero_cli zt_cli built_cli actPs_0 actAt_0 actSet_0 actPs_1 actAt_1 actSet_1 actPs_2 actAt_2 actSet_2 actPs_3 actAt_3 actSet_3 actPs_4 actAt_4 actSet_4 sizes_act shapes_act fits_act zero_act zt_act built_act rgPs_0 rgPs_1 rgPs_2 rgPs_3 rgPs_4 rgPs_5 rgSet_0 rgSet_2 rgSet_3 rgSet_4 rgSet_5 rgAt_0 rgAt_1 fits_rg zero_rg zt_rg built_rg fits66 rrgPs_0 rrgSet_0 rrgAt_0 rrgPs_1 rrgSet_1 rrgAt_1 rrgPs_2 rrgSet_2 rrgAt_2 rrgPs_3 rrgSet_3 rrgAt_3 rrgPs_4 rrgSet_4 rrgAt_4 rrgPs_5 rrgSet_5 rrgAt_5 rrgPs_6 rrgSet_6 rrgAt_6 rrgPs_7 rrgSet_7 rrgAt_7 sizes_rrg shapes_rrg fits_rrg zero_rrg zt_rrg built_rrg fits57 fits58 fits39 fits59 fits23r fits41 arrV_none arrV_some arrV_size arrV_agg arrV_shape Try.underlying22 Try.underlying23 Try.underlying28 Try.underlying36 Try.underlying39 Try.underlying57 Try.underlying58 Try.underlying59 Try.underlying61 Try.underlying65 Try.underlying66 Try.underlying68 Try.underlying78
theorem last_get {v : List UInt8} (h : v ≠ []) : v[v.length - 1]? = some (v.getLast?.getD 0) := by
  rw [List.getLast?_eq_getElem?]
  have : v.length - 1 < v.length := by have := List.length_pos_iff.2 h; omega
  rw [List.getElem?_eq_getElem this]; rfl
section
variable {σ0 s : AST} {j : Nat} {R : Rg} {F : List (Nat × AObj)} {K : AV → AST → Prop}
theorem rgCommit_nil {n : Int} {v : List UInt8} {t : Dig} (hK : ∀ s', Ext s s' → K (.int .i64 1) s') : TCalls Try.prog 15 [.ptr none, .int .i64 n, .str v, .dig t] s K := by
  refine tcalls_walk Try.f15 _ [.tmp 8] Try.func15 rfl rfl rfl mixed (Nat.le_of_ble_eq_true rfl) rfl fun hlen => ?_
  repeat' (first | (simp -dsimp only [↓reduceIte, go_sem]) | (refine arr_intro fun _ => ?_) | (refine later_intro ⟨keeps_nil, ?_⟩) | (refine later_intro ⟨keeps_refl, ?_⟩) | (with_reducible refine keeps_go ?_ ?_; focus (first | (simp [keeps_cons, keeps_none, objs_app, objs_app0]; done) | (simp only [keeps_cons, keeps_none, objs_app0, objs_app, and_true]; first | rfl | exact ⟨rfl, rfl⟩ | exact ⟨rfl, rfl, rfl⟩))) | (with_reducible refine (And.intro (a := keeps _ _ _) ?_ ?_); focus (first | (simp [keeps_cons, keeps_none, objs_app, objs_app0]; done) | (simp only [keeps_cons, keeps_none, objs_app0, objs_app, and_true]; first | rfl | exact ⟨rfl, rfl⟩ | exact ⟨rfl, rfl, rfl⟩))) | (refine both_ways ?_ ?_) | (rw [wrap_i64 (by omega) (by omega)]) | (refine guardV_split (fun h => ?_) (fun h => ?_) <;> (try rw [h]) <;> (try simp at h) <;> (try (exfalso; omega))))
  exact hK _ (Ext.app _ _)
theorem rgCommit_c (hP : PF σ0 s j R F) (hM : R.plain.Ok) {n : Int} {v : List UInt8} {t : Dig} (hK : ∀ s' R', R'.plain = (R.plain.commit n v t).1 → PF σ0 s' j R' F → K (.int .i64 (R.plain.commit n v t).2) s') :
    TCalls Try.prog 15 [.ptr (some (j, [])), .int .i64 n, .str v, .dig t] s K := by
  have hR := ok_plain hM
  have hn8 : R.n ≤ 8 := hM.n8
  have hpl : R.pend.length ≤ 8 := hM.pl
  obtain ⟨tk, o⟩ := hP.o
  have hjl := (List.getElem?_eq_some_iff.1 o).1
  have hA : PF σ0 (s.app [.cells (.ptr (some (j, []))), .cells (.int .i64 n), .cells (.dig t)]) j R ((s.objs.length, .cells (.ptr (some (j, [])))) :: (s.objs.length + 1, .cells (.int .i64 n)) :: (s.objs.length + 2, .cells (.dig t)) :: F) :=
    (((hP.ext (Ext.app _ _)).more (i := s.objs.length + 2) (by rw [objs_app]; rfl) (by omega)).more (i := s.objs.length + 1) (by rw [objs_app]; rfl) (by omega)).more (i := s.objs.length) objs_app0 (by omega)
  generalize hs1 : s.app [.cells (.ptr (some (j, []))), .cells (.int .i64 n), .cells (.dig t)] = s1 at hA
  obtain ⟨tk, o⟩ := hA.o
  have c0 := cellAt_known o
  have b0 := (hA.f _ (List.mem_cons_self ..)).2
  have b1 := (hA.f _ (List.mem_cons_of_mem _ (List.mem_cons_self ..))).2
  have b2 := (hA.f _ (List.mem_cons_of_mem _ (List.mem_cons_of_mem _ (List.mem_cons_self ..)))).2
  simp only at b0 b1 b2
  have cb0 := cellAt_known b0
  have cb1 := cellAt_known b1
  have cb2 := cellAt_known b2
  have hend : ∀ e s', Ext s1 s' → R.plain.commit n v t = (R.plain, e) → K (.int .i64 e) s' := fun e s' hx he => by
    have := hK s' R (by rw [he]) (hA.less.less.less.ext hx)
    rw [he] at this; exact this
  refine tcalls_walk Try.f15 _ [.tmp 8] Try.func15 rfl rfl rfl mixed (Nat.le_of_ble_eq_true rfl) rfl fun hlen => ?_
  repeat' (first | (simp -dsimp only [↓reduceIte, go_sem, hs1, c0, cb0, cb1, cb2]) | (refine arr_intro fun _ => ?_) | (refine later_intro ⟨keeps_nil, ?_⟩) | (refine later_intro ⟨keeps_refl, ?_⟩) | (with_reducible refine keeps_go ?_ ?_; focus (first | (simp [keeps_cons, keeps_none, objs_app, objs_app0]; done) | (simp only [keeps_cons, keeps_none, objs_app0, objs_app, and_true]; first | rfl | exact ⟨rfl, rfl⟩ | exact ⟨rfl, rfl, rfl⟩))) | (with_reducible refine (And.intro (a := keeps _ _ _) ?_ ?_); focus (first | (simp [keeps_cons, keeps_none, objs_app, objs_app0]; done) | (simp only [keeps_cons, keeps_none, objs_app0, objs_app, and_true]; first | rfl | exact ⟨rfl, rfl⟩ | exact ⟨rfl, rfl, rfl⟩))) | (refine both_ways ?_ ?_) | (rw [wrap_i64 (by omega) (by omega)]) | (refine guardV_split (fun h => ?_) (fun h => ?_) <;> (try rw [h]) <;> (try simp at h) <;> (try (exfalso; omega))))
  refine put_c (m := Reg.comM n v t) ?_
  by_cases hok : (Reg.comM n v t).Ok
  · rw [if_pos hok]
    by_cases hn : R.plain.has n
    · have hgo : ¬ (¬ (Reg.comM n v t).Ok ∨ ¬ R.plain.has n) := by rintro (h | h) <;> contradiction
      obtain ⟨hn0, hn1⟩ := hn
      have hn1 : n < R.n := hn1
      have hf : v ≠ [] ∧ ViewOk 8 v := by have := hok.1; simpa [Msg.FieldsOk, Reg.comM] using this
      obtain ⟨hvne, hvo⟩ := hf
      have hvl : 1 ≤ v.length := by have := List.length_pos_iff.2 hvne; omega
      have hlast := last_get hvne
      have hl1 : (v.length : Int) - 1 = ((v.length - 1 : Nat) : Int) := by omega
      obtain ⟨tc, hc⟩ := cli_get hP.h8 hn0 (by omega)
      have hnn : ((n.toNat : Nat) : Int) = n := Int.toNat_of_nonneg hn0
      have hat := rg_at (tk := tk) hc
      have h8 := sz8 hP.h8
      have hcl : cliOf R n = R.plain.cli n := cliOf_plain
      generalize hlb : v.getLast?.getD 0 = b at hlast
      have hcom : R.plain.commit n v t = if (b.toNat : Int) ≠ n ∨ (Go.Aff.L09.cnt n v : Int) ≠ (cliOf R n).last.num then (R.plain, 3)
          else if Go.Aff.L09.cnt n (cliOf R n).view = Go.Aff.L09.cnt n v then (R.plain, 10)
          else if v.length ≤ R.plain.long.length then (R.plain.setC n { cliOf R n with view := v, tag := t }, 0)
          else ({ R.plain.setC n { cliOf R n with view := v, tag := t } with by_ := n, long := v, tag := t, pend := Reg.cut n (Go.Aff.L09.cnt n v) R.plain.pend }, 0) := by
        unfold Reg.commit; rw [if_neg hgo, hlb, ← hcl]
      generalize hcv : Go.Aff.L09.cnt n v = kv at hcom
      have hkv : kv ≤ 1000 := by
        rw [← hcv]; have := hvo.2.1; have h2 : Go.Aff.L09.cnt n v ≤ v.length := List.countP_le_length ..; omega
      have oA := fun l => objs_known_app o l
      have cA := fun l => cellAt_known (oA l)
      have b1A := fun l => objs_known_app b1 l
      have c1A := fun l => cellAt_known (b1A l)
      repeat' (first | (simp -dsimp only [↓reduceIte, go_sem, hs1, c0, cb0, cb1, cb2, hn0, hn1, hat, h8]) | (refine arr_intro fun _ => ?_) | (refine later_intro ⟨keeps_nil, ?_⟩) | (refine later_intro ⟨keeps_refl, ?_⟩) | (with_reducible refine keeps_go ?_ ?_; focus (first | (simp [keeps_cons, keeps_none, objs_app, objs_app0]; done) | (simp only [keeps_cons, keeps_none, objs_app0, objs_app, and_true]; first | rfl | exact ⟨rfl, rfl⟩ | exact ⟨rfl, rfl, rfl⟩))) | (with_reducible refine (And.intro (a := keeps _ _ _) ?_ ?_); focus (first | (simp [keeps_cons, keeps_none, objs_app, objs_app0]; done) | (simp only [keeps_cons, keeps_none, objs_app0, objs_app, and_true]; first | rfl | exact ⟨rfl, rfl⟩ | exact ⟨rfl, rfl, rfl⟩))) | (refine both_ways ?_ ?_) | (rw [wrap_i64 (by omega) (by omega)]) | (refine guardV_split (fun h => ?_) (fun h => ?_) <;> (try rw [h]) <;> (try simp at h) <;> (try (exfalso; omega))) | ((refine rgIs_c hA ?_)) | ((rw [← hnn]; refine index_cli o hP.h8 hc ?_; rw [hnn])) | (with_reducible refine awp_drawS (id := 6) [0, 1, 2, 3, 4, 5] (by kernel_rfl) ?_) | ((refine Go.Aff.L09.count_c ?_; rw [hcv])))
      have hvm : v.length ≤ 512 := hvo.2.1
      have hwl : IntKind.i64.wrap ((v.length - 1 : Nat) : Int) = ((v.length - 1 : Nat) : Int) := wrap_i64 (by omega) (by omega)
      have hwb : IntKind.i64.wrap (b.toNat : Int) = b.toNat := wrap_i64 (by omega) (by have := b.toNat_lt; omega)
      have hj1 := (List.getElem?_eq_some_iff.1 o).1
      have hB := (hA.ext (Ext.app s1 [.cells (.int .i64 kv)])).more (i := s1.objs.length) objs_app0 (by omega)
      have hx2 : Ext s1 (s1.app [.cells (.int .i64 kv)]) := Ext.app _ _
      have hk2 : s.objs.length + 2 < s1.objs.length := (List.getElem?_eq_some_iff.1 b2).1
      generalize s1.app [.cells (.int .i64 kv)] = s2 at hB hx2 ⊢
      generalize s1.objs.length = k2 at hB hk2 ⊢
      obtain ⟨tk', o'⟩ := hB.o
      have c0' := cellAt_known o'
      have b3' := (hB.f _ (List.mem_cons_self ..)).2
      have b0' := (hB.f _ (List.mem_cons_of_mem _ (List.mem_cons_self ..))).2
      have b1' := (hB.f _ (List.mem_cons_of_mem _ (List.mem_cons_of_mem _ (List.mem_cons_self ..)))).2
      have b2' := (hB.f _ (List.mem_cons_of_mem _ (List.mem_cons_of_mem _ (List.mem_cons_of_mem _ (List.mem_cons_self ..))))).2
      simp only at b3' b0' b1' b2'
      have cb3 := cellAt_known b3'
      have cb0 := cellAt_known b0'
      have cb1 := cellAt_known b1'
      have cb2 := cellAt_known b2'
      have hat' := rg_at (tk := tk') hc
      by_cases e1 : (b.toNat : Int) = n
      · by_cases e2 : (kv : Int) = (cliOf R n).last.num
        · rw [if_neg (by rintro (h | h); exact h e1; exact h e2)] at hcom
          by_cases e3 : Go.Aff.L09.cnt n (cliOf R n).view = kv
          · rw [if_pos e3] at hcom
            have e3t : ((Go.Aff.L09.cnt n (cliOf R n).view : Nat) : Int) = kv := by rw [e3]
            have e1t := eq_true e1
            have e2t := eq_true e2
            repeat' (first | (simp -dsimp only [↓reduceIte, go_sem, cb0, cb1, cb2, cb3, c0', hat', hl1, hwl, hwb, e1t, e2t]) | (refine arr_intro fun _ => ?_) | (refine later_intro ⟨keeps_nil, ?_⟩) | (refine later_intro ⟨keeps_refl, ?_⟩) | (with_reducible refine keeps_go ?_ ?_; focus (first | (simp [keeps_cons, keeps_none, objs_app, objs_app0]; done) | (simp only [keeps_cons, keeps_none, objs_app0, objs_app, and_true]; first | rfl | exact ⟨rfl, rfl⟩ | exact ⟨rfl, rfl, rfl⟩))) | (with_reducible refine (And.intro (a := keeps _ _ _) ?_ ?_); focus (first | (simp [keeps_cons, keeps_none, objs_app, objs_app0]; done) | (simp only [keeps_cons, keeps_none, objs_app0, objs_app, and_true]; first | rfl | exact ⟨rfl, rfl⟩ | exact ⟨rfl, rfl, rfl⟩))) | (refine both_ways ?_ ?_) | (rw [wrap_i64 (by omega) (by omega)]) | (refine guardV_split (fun h => ?_) (fun h => ?_) <;> (try rw [h]) <;> (try simp at h) <;> (try (exfalso; omega))) | (refine nth_get hlast ?_) | (with_reducible refine awp_drawS (id := 8) [0, 1, 2, 3, 4, 5, 6, 7, 8, 9, 10, 11, 12, 13, 14, 15, 16, 17] (by kernel_rfl) ?_) | (with_reducible refine awp_drawS (id := 10) [0, 1, 2, 3, 4, 6, 5, 7, 8] (by kernel_rfl) ?_) | ((refine Go.Aff.L09.count_c ?_; rw [e3])))
            exact hend 10 _ hx2 hcom
          · rw [if_neg e3] at hcom
            have e1t := eq_true e1
            have e2t := eq_true e2
            have e3t : ¬ ((Go.Aff.L09.cnt n (cliOf R n).view : Nat) : Int) = kv := by omega
            repeat' (first | (simp -dsimp only [↓reduceIte, go_sem, cb0, cb1, cb2, cb3, c0', hat', hl1, hwl, hwb, e1t, e2t, e3t]) | (refine arr_intro fun _ => ?_) | (refine later_intro ⟨keeps_nil, ?_⟩) | (refine later_intro ⟨keeps_refl, ?_⟩) | (with_reducible refine keeps_go ?_ ?_; focus (first | (simp [keeps_cons, keeps_none, objs_app, objs_app0]; done) | (simp only [keeps_cons, keeps_none, objs_app0, objs_app, and_true]; first | rfl | exact ⟨rfl, rfl⟩ | exact ⟨rfl, rfl, rfl⟩))) | (with_reducible refine (And.intro (a := keeps _ _ _) ?_ ?_); focus (first | (simp [keeps_cons, keeps_none, objs_app, objs_app0]; done) | (simp only [keeps_cons, keeps_none, objs_app0, objs_app, and_true]; first | rfl | exact ⟨rfl, rfl⟩ | exact ⟨rfl, rfl, rfl⟩))) | (refine both_ways ?_ ?_) | (rw [wrap_i64 (by omega) (by omega)]) | (refine guardV_split (fun h => ?_) (fun h => ?_) <;> (try rw [h]) <;> (try simp at h) <;> (try (exfalso; omega))) | (refine nth_get hlast ?_) | (with_reducible refine awp_drawS (id := 8) [0, 1, 2, 3, 4, 5, 6, 7, 8, 9, 10, 11, 12, 13, 14, 15, 16, 17] (by kernel_rfl) ?_) | (with_reducible refine awp_drawS (id := 10) [0, 1, 2, 3, 4, 6, 5, 7, 8] (by kernel_rfl) ?_) | (refine Go.Aff.L09.count_c ?_))
            have nj : s.objs.length ≠ j ∧ s.objs.length + 1 ≠ j ∧ s.objs.length + 2 ≠ j ∧ k2 ≠ j := by omega
            have hnl : n.toNat < R.cs.length := (List.getElem?_eq_some_iff.1 hc).1
            have hso1 : ∀ y, setOk (rgV tk' R) [1, n.toNat, 2] (.str y) := fun y => rg_setOk hc (by simp [setOk])
            have hsa1 : ∀ y, (rgV tk' R).setAt [1, n.toNat, 2] (.str y) = rgV tk' { R with cs := R.cs.set n.toNat (tc, { cliOf R n with view := y }) } := fun y => rg_setAt (c' := (tc, { cliOf R n with view := y })) hc rfl
            have hc1 : ({ R with cs := R.cs.set n.toNat (tc, { cliOf R n with view := v }) } : Rg).cs[n.toNat]? = some (tc, { cliOf R n with view := v }) := by simp [hnl]
            have hat1 := rg_at (tk := tk') hc1
            have hso2 : ∀ y, setOk (rgV tk' { R with cs := R.cs.set n.toNat (tc, { cliOf R n with view := v }) }) [1, n.toNat, 3] (.dig y) := fun y => rg_setOk hc1 (by simp [setOk])
            have hsa2 : ∀ y, (rgV tk' { R with cs := R.cs.set n.toNat (tc, { cliOf R n with view := v }) }).setAt [1, n.toNat, 3] (.dig y) = rgV tk' { R with cs := (R.cs.set n.toNat (tc, { cliOf R n with view := v })).set n.toNat (tc, { cliOf R n with view := v, tag := y }) } := fun y => rg_setAt (c' := (tc, { cliOf R n with view := v, tag := y })) hc1 rfl
            have hcS : ∀ w p, cellAt (s2.set j (.cells w)) j p = w.at p := fun w p => cellAt_setS (List.getElem?_eq_some_iff.1 o').1
            have hoS : ∀ w, (s2.set j w).objs[j]? = some w := fun w => objs_setS (List.getElem?_eq_some_iff.1 o').1
            have hoN : ∀ w k, k ≠ j → (s2.set j w).objs[k]? = s2.objs[k]? := fun w k h => objs_setN (Ne.symm h)
            have hcN : ∀ w k p, k ≠ j → cellAt (s2.set j w) k p = cellAt s2 k p := fun w k p h => cellAt_setN (Ne.symm h)
            repeat' (first | (simp -dsimp only [↓reduceIte, go_sem, cb0, cb1, cb2, cb3, c0', hat', o', hso1, hsa1, hso2, hsa2, hat1, hcS, hoS]) | (refine arr_intro fun _ => ?_) | (refine later_intro ⟨keeps_nil, ?_⟩) | (refine later_intro ⟨keeps_refl, ?_⟩) | (with_reducible refine keeps_go ?_ ?_; focus (first | (simp [keeps_cons, keeps_none, objs_app, objs_app0]; done) | (simp only [keeps_cons, keeps_none, objs_app0, objs_app, and_true]; first | rfl | exact ⟨rfl, rfl⟩ | exact ⟨rfl, rfl, rfl⟩))) | (with_reducible refine (And.intro (a := keeps _ _ _) ?_ ?_); focus (first | (simp [keeps_cons, keeps_none, objs_app, objs_app0]; done) | (simp only [keeps_cons, keeps_none, objs_app0, objs_app, and_true]; first | rfl | exact ⟨rfl, rfl⟩ | exact ⟨rfl, rfl, rfl⟩))) | (refine both_ways ?_ ?_) | (rw [wrap_i64 (by omega) (by omega)]) | (refine guardV_split (fun h => ?_) (fun h => ?_) <;> (try rw [h]) <;> (try simp at h) <;> (try (exfalso; omega))) | (with_reducible refine awp_drawU (id := 12) (.op 0 2 (.op 1 0 (.op 2 2 (.op 3 0 (.op 4 2 (.op 5 2 (.op 6 1 (.cut (.op 7 2 (.op 8 2 (.op 9 1 .nil))))))))))) (by kernel_rfl) ?_) | (with_reducible refine keeps_go ?_ ?_; focus (simp [keeps_cons, keeps_none, objs_app, objs_app0, hoS, o', hoN, nj]; done)) | (with_reducible refine (And.intro (a := keeps _ _ _) ?_ ?_); focus (simp [keeps_cons, keeps_none, objs_app, objs_app0, hoS, o', hoN, nj]; done)))
            simp only [set_set, List.set_set]
            have hP1 := hB.put (tk := tk') (R' := { R with cs := R.cs.set n.toNat (tc, { cliOf R n with view := v, tag := t }) }) (by simpa using hP.h8)
            generalize s2.set j _ = s3 at hP1 ⊢
            obtain ⟨tk1, o1⟩ := hP1.o
            have c1 := cellAt_known o1
            have b31 := (hP1.f _ (List.mem_cons_self ..)).2
            have b01 := (hP1.f _ (List.mem_cons_of_mem _ (List.mem_cons_self ..))).2
            have b11 := (hP1.f _ (List.mem_cons_of_mem _ (List.mem_cons_of_mem _ (List.mem_cons_self ..)))).2
            have b21 := (hP1.f _ (List.mem_cons_of_mem _ (List.mem_cons_of_mem _ (List.mem_cons_of_mem _ (List.mem_cons_self ..))))).2
            simp only at b31 b01 b11 b21
            have cb31 := cellAt_known b31
            have cb01 := cellAt_known b01
            have cb11 := cellAt_known b11
            have cb21 := cellAt_known b21
            have hp1 : ({ R with cs := R.cs.set n.toNat (tc, { cliOf R n with view := v, tag := t }) } : Rg).plain = R.plain.setC n { cliOf R n with view := v, tag := t } := by
              simp [Rg.plain, Reg.setC, List.map_set]
            have h81 : ({ R with cs := R.cs.set n.toNat (tc, { cliOf R n with view := v, tag := t }) } : Rg).cs.length = 8 := by simpa using hP.h8
            by_cases e4 : v.length ≤ R.long.length
            · rw [if_pos (show v.length ≤ R.plain.long.length from e4)] at hcom
              have e4' : (v.length : Int) ≤ R.long.length := by omega
              repeat' (first | (simp -dsimp only [↓reduceIte, go_sem, cb01, cb11, cb21, cb31, c1, rgAt_3 h81, e4']) | (refine arr_intro fun _ => ?_) | (refine later_intro ⟨keeps_nil, ?_⟩) | (refine later_intro ⟨keeps_refl, ?_⟩) | (with_reducible refine keeps_go ?_ ?_; focus (first | (simp [keeps_cons, keeps_none, objs_app, objs_app0]; done) | (simp only [keeps_cons, keeps_none, objs_app0, objs_app, and_true]; first | rfl | exact ⟨rfl, rfl⟩ | exact ⟨rfl, rfl, rfl⟩))) | (with_reducible refine (And.intro (a := keeps _ _ _) ?_ ?_); focus (first | (simp [keeps_cons, keeps_none, objs_app, objs_app0]; done) | (simp only [keeps_cons, keeps_none, objs_app0, objs_app, and_true]; first | rfl | exact ⟨rfl, rfl⟩ | exact ⟨rfl, rfl, rfl⟩))) | (refine both_ways ?_ ?_) | (rw [wrap_i64 (by omega) (by omega)]) | (refine guardV_split (fun h => ?_) (fun h => ?_) <;> (try rw [h]) <;> (try simp at h) <;> (try (exfalso; omega))))
              have := hK s3 _ (hp1.trans (by rw [hcom])) hP1.less.less.less.less
              rw [hcom] at this
              exact this
            · rw [if_neg (show ¬ v.length ≤ R.plain.long.length from e4)] at hcom
              have e4' : ¬ (v.length : Int) ≤ R.long.length := by omega
              repeat' (first | (simp -dsimp only [↓reduceIte, go_sem, cb01, cb11, cb21, cb31, c1, rgAt_3 h81, e4']) | (refine arr_intro fun _ => ?_) | (refine later_intro ⟨keeps_nil, ?_⟩) | (refine later_intro ⟨keeps_refl, ?_⟩) | (with_reducible refine keeps_go ?_ ?_; focus (first | (simp [keeps_cons, keeps_none, objs_app, objs_app0]; done) | (simp only [keeps_cons, keeps_none, objs_app0, objs_app, and_true]; first | rfl | exact ⟨rfl, rfl⟩ | exact ⟨rfl, rfl, rfl⟩))) | (with_reducible refine (And.intro (a := keeps _ _ _) ?_ ?_); focus (first | (simp [keeps_cons, keeps_none, objs_app, objs_app0]; done) | (simp only [keeps_cons, keeps_none, objs_app0, objs_app, and_true]; first | rfl | exact ⟨rfl, rfl⟩ | exact ⟨rfl, rfl, rfl⟩))) | (refine both_ways ?_ ?_) | (rw [wrap_i64 (by omega) (by omega)]) | (refine guardV_split (fun h => ?_) (fun h => ?_) <;> (try rw [h]) <;> (try simp at h) <;> (try (exfalso; omega))))
              have hcS : ∀ w p, cellAt (s3.set j (.cells w)) j p = w.at p := fun w p => cellAt_setS (List.getElem?_eq_some_iff.1 o1).1
              have hoS : ∀ w, (s3.set j w).objs[j]? = some w := fun w => objs_setS (List.getElem?_eq_some_iff.1 o1).1
              have hoN : ∀ w k, k ≠ j → (s3.set j w).objs[k]? = s3.objs[k]? := fun w k h => objs_setN (Ne.symm h)
              have hA2 := fun tk b l g p w => rgAt_2 (t0 := tk) (v := w) (x := ⟨R.n, R.cs.set n.toNat (tc, { cliOf R n with view := v, tag := t }), b, l, g, p⟩) h81
              have hA3 := fun tk b l g p w => rgAt_3 (t0 := tk) (v := w) (x := ⟨R.n, R.cs.set n.toNat (tc, { cliOf R n with view := v, tag := t }), b, l, g, p⟩) h81
              have hA4 := fun tk b l g p w => rgAt_4 (t0 := tk) (v := w) (x := ⟨R.n, R.cs.set n.toNat (tc, { cliOf R n with view := v, tag := t }), b, l, g, p⟩) h81
              repeat' (first | (simp -dsimp only [↓reduceIte, go_sem, cb01, cb11, cb21, cb31, c1, o1, hA2, hA3, hA4, hcS, hoS, set_set]) | (refine arr_intro fun _ => ?_) | (refine later_intro ⟨keeps_nil, ?_⟩) | (refine later_intro ⟨keeps_refl, ?_⟩) | (with_reducible refine keeps_go ?_ ?_; focus (first | (simp [keeps_cons, keeps_none, objs_app, objs_app0]; done) | (simp only [keeps_cons, keeps_none, objs_app0, objs_app, and_true]; first | rfl | exact ⟨rfl, rfl⟩ | exact ⟨rfl, rfl, rfl⟩))) | (with_reducible refine (And.intro (a := keeps _ _ _) ?_ ?_); focus (first | (simp [keeps_cons, keeps_none, objs_app, objs_app0]; done) | (simp only [keeps_cons, keeps_none, objs_app0, objs_app, and_true]; first | rfl | exact ⟨rfl, rfl⟩ | exact ⟨rfl, rfl, rfl⟩))) | (refine both_ways ?_ ?_) | (rw [wrap_i64 (by omega) (by omega)]) | (refine guardV_split (fun h => ?_) (fun h => ?_) <;> (try rw [h]) <;> (try simp at h) <;> (try (exfalso; omega))) | (with_reducible refine awp_drawU (id := 15) (.op 0 2 (.op 1 0 (.op 2 0 (.op 3 2 (.op 4 0 (.op 5 0 (.op 6 2 (.op 7 2 (.op 8 1 (.op 9 2 (.op 10 2 (.op 11 1 (.cut (.op 12 2 (.op 13 2 (.op 14 1 .nil)))))))))))))))) (by kernel_rfl) ?_) | (with_reducible refine keeps_go ?_ ?_; focus (simp [keeps_cons, keeps_none, objs_app, objs_app0, hoS, o1, hoN, nj, set_set]; done)) | (with_reducible refine (And.intro (a := keeps _ _ _) ?_ ?_); focus (simp [keeps_cons, keeps_none, objs_app, objs_app0, hoS, o1, hoN, nj, set_set]; done)))
              refine side_later (by intro y hy; simp only [List.mem_cons, List.not_mem_nil, or_false] at hy; rcases hy with rfl | rfl | rfl <;> simp [go_sem]) ?_
              have hP2 := hP1.put (tk := tk1) (R' := ⟨R.n, R.cs.set n.toNat (tc, { cliOf R n with view := v, tag := t }), n, v, t, R.pend⟩) h81
              generalize s3.set j _ = s4 at hP2 ⊢
              repeat' (first | (simp -dsimp only [↓reduceIte, go_sem]) | (refine arr_intro fun _ => ?_) | (refine later_intro ⟨keeps_nil, ?_⟩) | (refine later_intro ⟨keeps_refl, ?_⟩) | (with_reducible refine keeps_go ?_ ?_; focus (first | (simp [keeps_cons, keeps_none, objs_app, objs_app0]; done) | (simp only [keeps_cons, keeps_none, objs_app0, objs_app, and_true]; first | rfl | exact ⟨rfl, rfl⟩ | exact ⟨rfl, rfl, rfl⟩))) | (with_reducible refine (And.intro (a := keeps _ _ _) ?_ ?_); focus (first | (simp [keeps_cons, keeps_none, objs_app, objs_app0]; done) | (simp only [keeps_cons, keeps_none, objs_app0, objs_app, and_true]; first | rfl | exact ⟨rfl, rfl⟩ | exact ⟨rfl, rfl, rfl⟩))) | (refine both_ways ?_ ?_) | (rw [wrap_i64 (by omega) (by omega)]) | (refine guardV_split (fun h => ?_) (fun h => ?_) <;> (try rw [h]) <;> (try simp at h) <;> (try (exfalso; omega))))
              have b32 := (hP2.f _ (List.mem_cons_self ..)).2
              have b02 := (hP2.f _ (List.mem_cons_of_mem _ (List.mem_cons_self ..))).2
              have b12 := (hP2.f _ (List.mem_cons_of_mem _ (List.mem_cons_of_mem _ (List.mem_cons_self ..)))).2
              simp only at b32 b02 b12
              refine cut_c hP2 hpl b02 b12 b32 fun s5 hP3 => ?_
              repeat' (first | (simp -dsimp only [↓reduceIte, go_sem]) | (refine arr_intro fun _ => ?_) | (refine later_intro ⟨keeps_nil, ?_⟩) | (refine later_intro ⟨keeps_refl, ?_⟩) | (with_reducible refine keeps_go ?_ ?_; focus (first | (simp [keeps_cons, keeps_none, objs_app, objs_app0]; done) | (simp only [keeps_cons, keeps_none, objs_app0, objs_app, and_true]; first | rfl | exact ⟨rfl, rfl⟩ | exact ⟨rfl, rfl, rfl⟩))) | (with_reducible refine (And.intro (a := keeps _ _ _) ?_ ?_); focus (first | (simp [keeps_cons, keeps_none, objs_app, objs_app0]; done) | (simp only [keeps_cons, keeps_none, objs_app0, objs_app, and_true]; first | rfl | exact ⟨rfl, rfl⟩ | exact ⟨rfl, rfl, rfl⟩))) | (refine both_ways ?_ ?_) | (rw [wrap_i64 (by omega) (by omega)]) | (refine guardV_split (fun h => ?_) (fun h => ?_) <;> (try rw [h]) <;> (try simp at h) <;> (try (exfalso; omega))))
              have hfin := hK s5 _ (by rw [hcom]; simp [Rg.plain, Reg.setC, List.map_set]) hP3.less.less.less.less
              rw [hcom] at hfin
              exact hfin
        · rw [if_pos (.inr e2)] at hcom
          have e1t := eq_true e1
          repeat' (first | (simp -dsimp only [↓reduceIte, go_sem, cb0, cb1, cb2, cb3, c0', hat', hl1, hwl, hwb, e1t, e2]) | (refine arr_intro fun _ => ?_) | (refine later_intro ⟨keeps_nil, ?_⟩) | (refine later_intro ⟨keeps_refl, ?_⟩) | (with_reducible refine keeps_go ?_ ?_; focus (first | (simp [keeps_cons, keeps_none, objs_app, objs_app0]; done) | (simp only [keeps_cons, keeps_none, objs_app0, objs_app, and_true]; first | rfl | exact ⟨rfl, rfl⟩ | exact ⟨rfl, rfl, rfl⟩))) | (with_reducible refine (And.intro (a := keeps _ _ _) ?_ ?_); focus (first | (simp [keeps_cons, keeps_none, objs_app, objs_app0]; done) | (simp only [keeps_cons, keeps_none, objs_app0, objs_app, and_true]; first | rfl | exact ⟨rfl, rfl⟩ | exact ⟨rfl, rfl, rfl⟩))) | (refine both_ways ?_ ?_) | (rw [wrap_i64 (by omega) (by omega)]) | (refine guardV_split (fun h => ?_) (fun h => ?_) <;> (try rw [h]) <;> (try simp at h) <;> (try (exfalso; omega))) | (refine nth_get hlast ?_) | (with_reducible refine awp_drawS (id := 8) [0, 1, 2, 3, 4, 5, 6, 7, 8, 9, 10, 11, 12, 13, 14, 15, 16, 17] (by kernel_rfl) ?_) | (with_reducible refine awp_drawS (id := 10) [0, 1, 2, 3, 4, 6, 5, 7, 8] (by kernel_rfl) ?_))
          exact hend 3 _ hx2 hcom
      · rw [if_pos (.inl e1)] at hcom
        repeat' (first | (simp -dsimp only [↓reduceIte, go_sem, cb0, cb1, cb2, cb3, c0', hat', hl1, hwl, hwb, e1]) | (refine arr_intro fun _ => ?_) | (refine later_intro ⟨keeps_nil, ?_⟩) | (refine later_intro ⟨keeps_refl, ?_⟩) | (with_reducible refine keeps_go ?_ ?_; focus (first | (simp [keeps_cons, keeps_none, objs_app, objs_app0]; done) | (simp only [keeps_cons, keeps_none, objs_app0, objs_app, and_true]; first | rfl | exact ⟨rfl, rfl⟩ | exact ⟨rfl, rfl, rfl⟩))) | (with_reducible refine (And.intro (a := keeps _ _ _) ?_ ?_); focus (first | (simp [keeps_cons, keeps_none, objs_app, objs_app0]; done) | (simp only [keeps_cons, keeps_none, objs_app0, objs_app, and_true]; first | rfl | exact ⟨rfl, rfl⟩ | exact ⟨rfl, rfl, rfl⟩))) | (refine both_ways ?_ ?_) | (rw [wrap_i64 (by omega) (by omega)]) | (refine guardV_split (fun h => ?_) (fun h => ?_) <;> (try rw [h]) <;> (try simp at h) <;> (try (exfalso; omega))) | (refine nth_get hlast ?_) | (with_reducible refine awp_drawS (id := 8) [0, 1, 2, 3, 4, 5, 6, 7, 8, 9, 10, 11, 12, 13, 14, 15, 16, 17] (by kernel_rfl) ?_) | (with_reducible refine awp_drawS (id := 10) [0, 1, 2, 3, 4, 6, 5, 7, 8] (by kernel_rfl) ?_))
        all_goals first
          | exact hend 3 _ hx2 hcom
          | (refine absurd ?_ e1; assumption)
    · have hcom : R.plain.commit n v t = (R.plain, 2) := by unfold Reg.commit; rw [if_pos (.inr hn)]
      have hn' : ¬ (0 ≤ n ∧ n < R.n) := hn
      have hnd : (decide (0 ≤ n) && decide (n < R.n)) = false := by rw [← Bool.decide_and]; exact decide_eq_false hn'
      repeat' (first | (simp -dsimp only [↓reduceIte, go_sem, hs1, c0, cb0, cb1, cb2, hnd]) | (refine arr_intro fun _ => ?_) | (refine later_intro ⟨keeps_nil, ?_⟩) | (refine later_intro ⟨keeps_refl, ?_⟩) | (with_reducible refine keeps_go ?_ ?_; focus (first | (simp [keeps_cons, keeps_none, objs_app, objs_app0]; done) | (simp only [keeps_cons, keeps_none, objs_app0, objs_app, and_true]; first | rfl | exact ⟨rfl, rfl⟩ | exact ⟨rfl, rfl, rfl⟩))) | (with_reducible refine (And.intro (a := keeps _ _ _) ?_ ?_); focus (first | (simp [keeps_cons, keeps_none, objs_app, objs_app0]; done) | (simp only [keeps_cons, keeps_none, objs_app0, objs_app, and_true]; first | rfl | exact ⟨rfl, rfl⟩ | exact ⟨rfl, rfl, rfl⟩))) | (refine both_ways ?_ ?_) | (rw [wrap_i64 (by omega) (by omega)]) | (refine guardV_split (fun h => ?_) (fun h => ?_) <;> (try rw [h]) <;> (try simp at h) <;> (try (exfalso; omega))) | (refine rgIs_c hA ?_))
      exact hend 2 _ (Ext.refl _) hcom
  · rw [if_neg hok]
    repeat' (first | (simp -dsimp only [↓reduceIte, go_sem, hs1, c0, cb0, cb1, cb2]) | (refine arr_intro fun _ => ?_) | (refine later_intro ⟨keeps_nil, ?_⟩) | (refine later_intro ⟨keeps_refl, ?_⟩) | (with_reducible refine keeps_go ?_ ?_; focus (first | (simp [keeps_cons, keeps_none, objs_app, objs_app0]; done) | (simp only [keeps_cons, keeps_none, objs_app0, objs_app, and_true]; first | rfl | exact ⟨rfl, rfl⟩ | exact ⟨rfl, rfl, rfl⟩))) | (with_reducible refine (And.intro (a := keeps _ _ _) ?_ ?_); focus (first | (simp [keeps_cons, keeps_none, objs_app, objs_app0]; done) | (simp only [keeps_cons, keeps_none, objs_app0, objs_app, and_true]; first | rfl | exact ⟨rfl, rfl⟩ | exact ⟨rfl, rfl, rfl⟩))) | (refine both_ways ?_ ?_) | (rw [wrap_i64 (by omega) (by omega)]) | (refine guardV_split (fun h => ?_) (fun h => ?_) <;> (try rw [h]) <;> (try simp at h) <;> (try (exfalso; omega))))
    exact hend 2 _ (Ext.refl _) (by unfold Reg.commit; rw [if_pos (.inl hok)])
end
end Go.Aff.L10

