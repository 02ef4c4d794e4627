import Derived.Test.YtikbkaedemmpmaaGreatG12

set_option linter.unusedSimpArgs false
set_option linter.unusedVariables false

namespace Go.Aff.L10
open Go.Proofs Go.Aff Go.Aff.L01 Classical
set_option maxRecDepth 20000
attribute [-go_sem] cellAt_new
attribute [-simp] List.length_flatMap
attribute [local go_sem] Tryz.underlying3 Tryz.underlying5 Tryz.underlying9 Tryz.underlying35 subPs_0 subAt_0 sizes_sub fits_sub Tryz.underlying34 pendPs_0 pendAt_0 pendPs_1 pendAt_1 sizes_pend shapes_pend fits_pend zero_pend zt_pend Tryz.underlying138 msgPs_0 msgAt_0 msgSet_0 msgPs_1 msgAt_1 msgSet_1 msgPs_4 msgAt_4 msgSet_4 msgPs_6 msgAt_6 msgSet_6 zero_msg zt_msg built_msg
attribute [local go_sem] fits3 fits9 fits23 fits26 zt3 zero3
attribute [local go_sem] cliPs_0 cliAt_0 cliPs_2 cliAt_2 cliPs_3 cliAt_3 rgPs_1 rgPs_2 rgPs_3 rgPs_4 rgPs_5 rgSet_2 rgSet_3 rgSet_4 rgSet_5 rgAt_1 fits66 fits23r arrV_none arrV_some Tryz.underlying53 Tryz.underlying99 Tryz.underlying102
theorem last_get {v : List UInt8} (h : v ≠ []) : v[v.length - 1]? = some (v.getLast?.getD 0) := by
  rw [List.getLast?_eq_getElem?]
  have : v.length - 1 < v.length := by have := List.length_pos_iff.2 h; omega
  rw [List.getElem?_eq_getElem this]; rfl
section
variable {σ0 s : AST} {j : Nat} {R : Rg} {F : List (Nat × AObj)} {K : AV → AST → Prop}
theorem rgCommit_c (hP : PF σ0 s j R F) (hM : R.plain.Ok) {n : Int} {v : List UInt8} {t : Dig} (hK : ∀ s' R', R'.plain = (R.plain.commit n v t).1 → PF σ0 s' j R' F → K (.int .i64 (R.plain.commit n v t).2) s') :
    TCalls Tryz.prog 35 [.ptr (some (j, [])), .int .i64 n, .str v, .dig t] s K := by
  have hR := ok_plain hM
  have hn8 : R.n ≤ 8 := hM.n8
  have hpl : R.pend.length ≤ 8 := hM.pl
  obtain ⟨tk, o⟩ := hP.o
  have hjl := (List.getElem?_eq_some_iff.1 o).1
  have hA : PF σ0 (s.app [.cells (.ptr (some (j, []))), .cells (.int .i64 n), .cells (.dig t)]) j R ((s.objs.length, .cells (.ptr (some (j, [])))) :: (s.objs.length + 1, .cells (.int .i64 n)) :: (s.objs.length + 2, .cells (.dig t)) :: F) :=
    (((hP.ext (Ext.app _ _)).more (i := s.objs.length + 2) (by rw [objs_app]; rfl) (by omega)).more (i := s.objs.length + 1) (by rw [objs_app]; rfl) (by omega)).more (i := s.objs.length) objs_app0 (by omega)
  generalize hs1 : s.app [.cells (.ptr (some (j, []))), .cells (.int .i64 n), .cells (.dig t)] = s1 at hA
  obtain ⟨tk, o⟩ := hA.o
  have c0 := cellAt_known o
  have b0 := (hA.f _ (List.mem_cons_self ..)).2
  have b1 := (hA.f _ (List.mem_cons_of_mem _ (List.mem_cons_self ..))).2
  have b2 := (hA.f _ (List.mem_cons_of_mem _ (List.mem_cons_of_mem _ (List.mem_cons_self ..)))).2
  simp only at b0 b1 b2
  have cb0 := cellAt_known b0
  have cb1 := cellAt_known b1
  have cb2 := cellAt_known b2
  have hend : ∀ e s', Ext s1 s' → R.plain.commit n v t = (R.plain, e) → K (.int .i64 e) s' := fun e s' hx he => by
    have := hK s' R (by rw [he]) (hA.less.less.less.ext hx)
    rw [he] at this; exact this
  refine tcalls_walk Tryz.f35 _ [.tmp 8] Tryz.func35 rfl rfl rfl mixed (Nat.le_of_ble_eq_true rfl) rfl fun hlen => ?_
  repeat' (simp -dsimp only [↓reduceIte, go_sem, hs1, c0, cb0, cb1, cb2])
  refine put_c (m := Reg.comM n v t) ?_
  by_cases hok : (Reg.comM n v t).Ok
  · rw [if_pos hok]
    by_cases hn : R.plain.has n
    · have hgo : ¬ (¬ (Reg.comM n v t).Ok ∨ ¬ R.plain.has n) := by rintro (h | h) <;> contradiction
      obtain ⟨hn0, hn1⟩ := hn
      have hn1 : n < R.n := hn1
      have hf : v ≠ [] ∧ ViewOk 8 v := by have := hok.1; simpa [Msg.FieldsOk, Reg.comM] using this
      obtain ⟨hvne, hvo⟩ := hf
      have hvl : 1 ≤ v.length := by have := List.length_pos_iff.2 hvne; omega
      have hlast := last_get hvne
      have hl1 : (v.length : Int) - 1 = ((v.length - 1 : Nat) : Int) := by omega
      obtain ⟨tc, hc⟩ := cli_get hP.h8 hn0 (by omega)
      have hnn : ((n.toNat : Nat) : Int) = n := Int.toNat_of_nonneg hn0
      have hat := rg_at (tk := tk) hc
      have h8 := sz8 hP.h8
      have hcl : cliOf R n = R.plain.cli n := cliOf_plain
      generalize hlb : v.getLast?.getD 0 = b at hlast
      have hcom : R.plain.commit n v t = if (b.toNat : Int) ≠ n ∨ (Go.Aff.L09.cnt n v : Int) ≠ (cliOf R n).last.num then (R.plain, 3)
          else if Go.Aff.L09.cnt n (cliOf R n).view = Go.Aff.L09.cnt n v then (R.plain, 10)
          else if v.length ≤ R.plain.long.length then (R.plain.setC n { cliOf R n with view := v, tag := t }, 0)
          else ({ R.plain.setC n { cliOf R n with view := v, tag := t } with by_ := n, long := v, tag := t, pend := Reg.cut n (Go.Aff.L09.cnt n v) R.plain.pend }, 0) := by
        unfold Reg.commit; rw [if_neg hgo, hlb, ← hcl]
      generalize hcv : Go.Aff.L09.cnt n v = kv at hcom
      have hkv : kv ≤ 1000 := by
        rw [← hcv]; have := hvo.2.1; have h2 : Go.Aff.L09.cnt n v ≤ v.length := List.countP_le_length ..; omega
      have oA := fun l => objs_known_app o l
      have cA := fun l => cellAt_known (oA l)
      have b1A := fun l => objs_known_app b1 l
      have c1A := fun l => cellAt_known (b1A l)
      repeat' (first | (simp -dsimp only [↓reduceIte, go_sem, hs1, c0, cb0, cb1, cb2, hn0, hn1, hat, h8]) | ((refine rgIs_c hA ?_)) | ((rw [← hnn]; refine index_cli o hP.h8 hc ?_; rw [hnn])) | (with_reducible refine awp_drawS (id := 6) [0, 1, 2, 3, 4, 5] (by kernel_rfl) ?_) | ((refine Go.Aff.L09.count_c ?_; rw [hcv])))
      have hvm : v.length ≤ 512 := hvo.2.1
      have hwl : IntKind.i64.wrap ((v.length - 1 : Nat) : Int) = ((v.length - 1 : Nat) : Int) := wrap_i64 (by omega) (by omega)
      have hwb : IntKind.i64.wrap (b.toNat : Int) = b.toNat := wrap_i64 (by omega) (by have := b.toNat_lt; omega)
      have hj1 := (List.getElem?_eq_some_iff.1 o).1
      have hB := (hA.ext (Ext.app s1 [.cells (.int .i64 kv)])).more (i := s1.objs.length) objs_app0 (by omega)
      have hx2 : Ext s1 (s1.app [.cells (.int .i64 kv)]) := Ext.app _ _
      have hk2 : s.objs.length + 2 < s1.objs.length := (List.getElem?_eq_some_iff.1 b2).1
      generalize s1.app [.cells (.int .i64 kv)] = s2 at hB hx2 ⊢
      generalize s1.objs.length = k2 at hB hk2 ⊢
      obtain ⟨tk', o'⟩ := hB.o
      have c0' := cellAt_known o'
      have b3' := (hB.f _ (List.mem_cons_self ..)).2
      have b0' := (hB.f _ (List.mem_cons_of_mem _ (List.mem_cons_self ..))).2
      have b1' := (hB.f _ (List.mem_cons_of_mem _ (List.mem_cons_of_mem _ (List.mem_cons_self ..)))).2
      have b2' := (hB.f _ (List.mem_cons_of_mem _ (List.mem_cons_of_mem _ (List.mem_cons_of_mem _ (List.mem_cons_self ..))))).2
      simp only at b3' b0' b1' b2'
      have cb3 := cellAt_known b3'
      have cb0 := cellAt_known b0'
      have cb1 := cellAt_known b1'
      have cb2 := cellAt_known b2'
      have hat' := rg_at (tk := tk') hc
      by_cases e1 : (b.toNat : Int) = n
      · by_cases e2 : (kv : Int) = (cliOf R n).last.num
        · rw [if_neg (by rintro (h | h); exact h e1; exact h e2)] at hcom
          by_cases e3 : Go.Aff.L09.cnt n (cliOf R n).view = kv
          · rw [if_pos e3] at hcom
            have e3t : ((Go.Aff.L09.cnt n (cliOf R n).view : Nat) : Int) = kv := by rw [e3]
            have e1t := eq_true e1
            have e2t := eq_true e2
            repeat' (first | (simp -dsimp only [↓reduceIte, go_sem, cb0, cb1, cb2, cb3, c0', hat', hl1, hwl, hwb, e1t, e2t]) | (refine arr_intro fun _ => ?_) | (refine guardV_split (fun h => ?_) (fun h => ?_) <;> (try rw [h]) <;> (try simp at h) <;> (try (exfalso; omega))) | (refine nth_get hlast ?_) | (with_reducible refine awp_drawS (id := 8) [0, 1, 2, 3, 4, 5, 6, 7, 8, 9, 10, 11, 12, 13, 14, 15, 16, 17] (by kernel_rfl) ?_) | (with_reducible refine awp_drawS (id := 10) [0, 1, 2, 3, 4, 6, 5, 7, 8] (by kernel_rfl) ?_) | ((refine Go.Aff.L09.count_c ?_; rw [e3])))
            exact hend 10 _ hx2 hcom
          · rw [if_neg e3] at hcom
            have e1t := eq_true e1
            have e2t := eq_true e2
            have e3t : ¬ ((Go.Aff.L09.cnt n (cliOf R n).view : Nat) : Int) = kv := by omega
            repeat' (first | (simp -dsimp only [↓reduceIte, go_sem, cb0, cb1, cb2, cb3, c0', hat', hl1, hwl, hwb, e1t, e2t, e3t]) | (refine arr_intro fun _ => ?_) | (refine guardV_split (fun h => ?_) (fun h => ?_) <;> (try rw [h]) <;> (try simp at h) <;> (try (exfalso; omega))) | (refine nth_get hlast ?_) | (with_reducible refine awp_drawS (id := 8) [0, 1, 2, 3, 4, 5, 6, 7, 8, 9, 10, 11, 12, 13, 14, 15, 16, 17] (by kernel_rfl) ?_) | (with_reducible refine awp_drawS (id := 10) [0, 1, 2, 3, 4, 6, 5, 7, 8] (by kernel_rfl) ?_) | (refine Go.Aff.L09.count_c ?_))
            have nj : s.objs.length ≠ j ∧ s.objs.length + 1 ≠ j ∧ s.objs.length + 2 ≠ j ∧ k2 ≠ j := by omega
            have hnl : n.toNat < R.cs.length := (List.getElem?_eq_some_iff.1 hc).1
            have hso1 : ∀ y, setOk (rgV tk' R) [1, n.toNat, 2] (.str y) := fun y => rg_setOk hc (by simp [setOk])
            have hsa1 : ∀ y, (rgV tk' R).setAt [1, n.toNat, 2] (.str y) = rgV tk' { R with cs := R.cs.set n.toNat (tc, { cliOf R n with view := y }) } := fun y => rg_setAt (c' := (tc, { cliOf R n with view := y })) hc rfl
            have hc1 : ({ R with cs := R.cs.set n.toNat (tc, { cliOf R n with view := v }) } : Rg).cs[n.toNat]? = some (tc, { cliOf R n with view := v }) := by simp [hnl]
            have hat1 := rg_at (tk := tk') hc1
            have hso2 : ∀ y, setOk (rgV tk' { R with cs := R.cs.set n.toNat (tc, { cliOf R n with view := v }) }) [1, n.toNat, 3] (.dig y) := fun y => rg_setOk hc1 (by simp [setOk])
            have hsa2 : ∀ y, (rgV tk' { R with cs := R.cs.set n.toNat (tc, { cliOf R n with view := v }) }).setAt [1, n.toNat, 3] (.dig y) = rgV tk' { R with cs := (R.cs.set n.toNat (tc, { cliOf R n with view := v })).set n.toNat (tc, { cliOf R n with view := v, tag := y }) } := fun y => rg_setAt (c' := (tc, { cliOf R n with view := v, tag := y })) hc1 rfl
            have hcS : ∀ w p, cellAt (s2.set j (.cells w)) j p = w.at p := fun w p => cellAt_setSx (List.getElem?_eq_some_iff.1 o').1
            have hoS : ∀ w, (s2.set j w).objs[j]? = some w := fun w => objs_setSx (List.getElem?_eq_some_iff.1 o').1
            have hoN : ∀ w k, k ≠ j → (s2.set j w).objs[k]? = s2.objs[k]? := fun w k h => objs_setNx (Ne.symm h)
            have hcN : ∀ w k p, k ≠ j → cellAt (s2.set j w) k p = cellAt s2 k p := fun w k p h => cellAt_setNx (Ne.symm h)
            repeat' (first | (simp -dsimp only [↓reduceIte, go_sem, cb0, cb1, cb2, cb3, c0', hat', o', hso1, hsa1, hso2, hsa2, hat1, hcS, hoS]) | (refine arr_intro fun _ => ?_) | (refine later_intro ⟨keeps_nil, ?_⟩) | (with_reducible refine awp_drawU (id := 12) (.op 0 2 (.op 1 0 (.op 2 2 (.op 3 0 (.op 4 2 (.op 5 2 (.op 6 1 (.cut (.op 7 2 (.op 8 2 (.op 9 1 .nil))))))))))) (by kernel_rfl) ?_) | (with_reducible refine keeps_go ?_ ?_; focus (simp [keeps_cons, keeps_none, objs_app, objs_app0, hoS, o', hoN, nj]; done)))
            simp only [set_setx, List.set_set]
            have hP1 := hB.put (tk := tk') (R' := { R with cs := R.cs.set n.toNat (tc, { cliOf R n with view := v, tag := t }) }) (by simpa using hP.h8)
            generalize s2.set j _ = s3 at hP1 ⊢
            obtain ⟨tk1, o1⟩ := hP1.o
            have c1 := cellAt_known o1
            have b31 := (hP1.f _ (List.mem_cons_self ..)).2
            have b01 := (hP1.f _ (List.mem_cons_of_mem _ (List.mem_cons_self ..))).2
            have b11 := (hP1.f _ (List.mem_cons_of_mem _ (List.mem_cons_of_mem _ (List.mem_cons_self ..)))).2
            have b21 := (hP1.f _ (List.mem_cons_of_mem _ (List.mem_cons_of_mem _ (List.mem_cons_of_mem _ (List.mem_cons_self ..))))).2
            simp only at b31 b01 b11 b21
            have cb31 := cellAt_known b31
            have cb01 := cellAt_known b01
            have cb11 := cellAt_known b11
            have cb21 := cellAt_known b21
            have hp1 : ({ R with cs := R.cs.set n.toNat (tc, { cliOf R n with view := v, tag := t }) } : Rg).plain = R.plain.setC n { cliOf R n with view := v, tag := t } := by
              simp [Rg.plain, Reg.setC, List.map_set]
            have h81 : ({ R with cs := R.cs.set n.toNat (tc, { cliOf R n with view := v, tag := t }) } : Rg).cs.length = 8 := by simpa using hP.h8
            by_cases e4 : v.length ≤ R.long.length
            · rw [if_pos (show v.length ≤ R.plain.long.length from e4)] at hcom
              have e4' : (v.length : Int) ≤ R.long.length := by omega
              repeat' (first | (simp -dsimp only [↓reduceIte, go_sem, cb01, cb11, cb21, cb31, c1, rgAt_3 h81, e4']) | (refine arr_intro fun _ => ?_))
              have := hK s3 _ (hp1.trans (by rw [hcom])) hP1.less.less.less.less
              rw [hcom] at this
              exact this
            · rw [if_neg (show ¬ v.length ≤ R.plain.long.length from e4)] at hcom
              have e4' : ¬ (v.length : Int) ≤ R.long.length := by omega
              repeat' (first | (simp -dsimp only [↓reduceIte, go_sem, cb01, cb11, cb21, cb31, c1, rgAt_3 h81, e4']) | (refine arr_intro fun _ => ?_))
              have hcS : ∀ w p, cellAt (s3.set j (.cells w)) j p = w.at p := fun w p => cellAt_setSx (List.getElem?_eq_some_iff.1 o1).1
              have hoS : ∀ w, (s3.set j w).objs[j]? = some w := fun w => objs_setSx (List.getElem?_eq_some_iff.1 o1).1
              have hoN : ∀ w k, k ≠ j → (s3.set j w).objs[k]? = s3.objs[k]? := fun w k h => objs_setNx (Ne.symm h)
              have hA2 := fun tk b l g p w => rgAt_2 (t0 := tk) (v := w) (x := ⟨R.n, R.cs.set n.toNat (tc, { cliOf R n with view := v, tag := t }), b, l, g, p⟩) h81
              have hA3 := fun tk b l g p w => rgAt_3 (t0 := tk) (v := w) (x := ⟨R.n, R.cs.set n.toNat (tc, { cliOf R n with view := v, tag := t }), b, l, g, p⟩) h81
              have hA4 := fun tk b l g p w => rgAt_4 (t0 := tk) (v := w) (x := ⟨R.n, R.cs.set n.toNat (tc, { cliOf R n with view := v, tag := t }), b, l, g, p⟩) h81
              repeat' (first | (simp -dsimp only [↓reduceIte, go_sem, cb01, cb11, cb21, cb31, c1, o1, hA2, hA3, hA4, hcS, hoS, set_setx]) | (refine later_intro ⟨keeps_nil, ?_⟩) | (with_reducible refine awp_drawU (id := 15) (.op 0 2 (.op 1 0 (.op 2 0 (.op 3 2 (.op 4 0 (.op 5 0 (.op 6 2 (.op 7 2 (.op 8 1 (.op 9 2 (.op 10 2 (.op 11 1 (.cut (.op 12 2 (.op 13 2 (.op 14 1 .nil)))))))))))))))) (by kernel_rfl) ?_) | (with_reducible refine keeps_go ?_ ?_; focus (simp [keeps_cons, keeps_none, objs_app, objs_app0, hoS, o1, hoN, nj, set_setx]; done)))
              refine side_later (by intro y hy; simp only [List.mem_cons, List.not_mem_nil, or_false] at hy; rcases hy with rfl | rfl | rfl <;> simp [go_sem]) ?_
              have hP2 := hP1.put (tk := tk1) (R' := ⟨R.n, R.cs.set n.toNat (tc, { cliOf R n with view := v, tag := t }), n, v, t, R.pend⟩) h81
              generalize s3.set j _ = s4 at hP2 ⊢
              repeat' (simp -dsimp only [↓reduceIte, go_sem])
              have b32 := (hP2.f _ (List.mem_cons_self ..)).2
              have b02 := (hP2.f _ (List.mem_cons_of_mem _ (List.mem_cons_self ..))).2
              have b12 := (hP2.f _ (List.mem_cons_of_mem _ (List.mem_cons_of_mem _ (List.mem_cons_self ..)))).2
              simp only at b32 b02 b12
              refine cut_c hP2 hpl b02 b12 b32 fun s5 hP3 => ?_
              repeat' (simp -dsimp only [↓reduceIte, go_sem])
              have hfin := hK s5 _ (by rw [hcom]; simp [Rg.plain, Reg.setC, List.map_set]) hP3.less.less.less.less
              rw [hcom] at hfin
              exact hfin
        · rw [if_pos (.inr e2)] at hcom
          have e1t := eq_true e1
          repeat' (first | (simp -dsimp only [↓reduceIte, go_sem, cb0, cb1, cb2, cb3, c0', hat', hl1, hwl, hwb, e1t, e2]) | (refine arr_intro fun _ => ?_) | (refine guardV_split (fun h => ?_) (fun h => ?_) <;> (try rw [h]) <;> (try simp at h) <;> (try (exfalso; omega))) | (refine nth_get hlast ?_) | (with_reducible refine awp_drawS (id := 8) [0, 1, 2, 3, 4, 5, 6, 7, 8, 9, 10, 11, 12, 13, 14, 15, 16, 17] (by kernel_rfl) ?_))
          exact hend 3 _ hx2 hcom
      · rw [if_pos (.inl e1)] at hcom
        repeat' (first | (simp -dsimp only [↓reduceIte, go_sem, cb0, cb1, cb2, cb3, c0', hat', hl1, hwl, hwb, e1]) | (refine arr_intro fun _ => ?_) | (refine guardV_split (fun h => ?_) (fun h => ?_) <;> (try rw [h]) <;> (try simp at h) <;> (try (exfalso; omega))) | (refine nth_get hlast ?_) | (with_reducible refine awp_drawS (id := 8) [0, 1, 2, 3, 4, 5, 6, 7, 8, 9, 10, 11, 12, 13, 14, 15, 16, 17] (by kernel_rfl) ?_))
        all_goals first
          | exact hend 3 _ hx2 hcom
          | (refine absurd ?_ e1; assumption)
    · have hcom : R.plain.commit n v t = (R.plain, 2) := by unfold Reg.commit; rw [if_pos (.inr hn)]
      have hn' : ¬ (0 ≤ n ∧ n < R.n) := hn
      have hnd : (decide (0 ≤ n) && decide (n < R.n)) = false := by rw [← Bool.decide_and]; exact decide_eq_false hn'
      repeat' (first | (simp -dsimp only [↓reduceIte, go_sem, hs1, c0, cb0, cb1, cb2, hnd]) | (refine guardV_split (fun h => ?_) (fun h => ?_) <;> (try rw [h]) <;> (try simp at h) <;> (try (exfalso; omega))) | (refine rgIs_c hA ?_))
      exact hend 2 _ (Ext.refl _) hcom
  · rw [if_neg hok]
    repeat' (simp -dsimp only [↓reduceIte, go_sem, hs1, c0, cb0, cb1, cb2])
    exact hend 2 _ (Ext.refl _) (by unfold Reg.commit; rw [if_pos (.inl hok)])
end
attribute [local go_sem] rrgPs_0 rrgAt_0 fits57 Tryz.underlying80 Tryz.underlying84
theorem isAgg_arr {i n : Nat} {p : List Nat} : (AV.arr i p n).isAgg = false := rfl
theorem size_arr {i n : Nat} {p : List Nat} : (AV.arr i p n).size = 1 := rfl
theorem shape_arr {i n : Nat} {p : List Nat} : (AV.arr i p n).shape = .leaf := rfl
theorem known_arr {i n : Nat} {p : List Nat} : (AV.arr i p n).known = true := rfl
attribute [local go_sem] isAgg_arr size_arr shape_arr known_arr
theorem index_arr {P : Program} {α : Type} {f : α → AV} {l : List α} {t e sz j m i : Nat} {y : α} {q : IntKind} {σ : AST} {KV : AV → Prop} (hu : P.underlying t = some (.slice e)) (hc : P.cellsOf e = sz) (hs : ∀ x, (f x).size = sz) (hf : ∀ x, fits P e (f x))
    (o : σ.objs[j]? = some (.cells (.agg (l.map f)))) (hm : m = l.length) (hy : l[i]? = some y) (hK : KV (.ptr (some (j, [i])))) : indexAddrW P σ t (.arr j [] m) (.int q i) KV := by
  have hi := (List.getElem?_eq_some_iff.1 hy).1
  have e1 : (AV.agg (l.map f)).at [] = some (.agg (l.map f)) := rfl
  simp only [indexAddrW, o, e1]
  have hsz : ∀ l : List α, AV.sizes (l.map f) = l.length * sz := by
    intro l
    induction l with
    | nil => simp [AV.sizes]
    | cons a l ih => simp only [List.map_cons, AV.sizes, ih, hs, List.length_cons]; rw [Nat.add_mul]; omega
  refine ⟨e, hu, by simp [hm], ?_, by omega, by simp [hm]; omega, fun x hx => ⟨?_, by rw [Int.toNat_natCast]; exact hK⟩⟩
  · rw [Int.toNat_natCast, ← List.map_take, hsz, hc, List.length_take, Nat.min_eq_left (by omega)]
  · have h2 : ((l.map f).take m)[i]? = some x := hx
    rw [List.getElem?_take, if_pos (by omega), List.getElem?_map, hy] at h2
    cases h2; exact hf y
theorem arr_at {α : Type} {f : α → AV} {l : List α} {i : Nat} {y : α} (hy : l[i]? = some y) (q : List Nat) : (AV.agg (l.map f)).at (i :: q) = (f y).at q := by simp [AV.at, hy]
theorem arr_setAt {α : Type} {f : α → AV} {l : List α} {i : Nat} {y z : α} (hy : l[i]? = some y) : (AV.agg (l.map f)).setAt [i] (f z) = .agg ((l.set i z).map f) := by
  have e1 : (l.map f)[i]? = some (f y) := by simp [hy]
  simp only [AV.setAt, e1, List.map_set]
theorem arr_setOk {α : Type} {f : α → AV} {l : List α} {i : Nat} {x : AV} : setOk (.agg (l.map f)) [i] x := by
  simp only [setOk]; intro v _; cases v <;> trivial
namespace Reg
def front (M : Reg) : List Cli := M.cs.take M.n.toNat
theorem front_set {M : Reg} {i : Int} {c : Cli} : (M.setC i c).front = M.front.set i.toNat c := by simp [front, setC, List.take_set]
theorem front_get {M : Reg} (h8 : M.cs.length = 8) (n8 : M.n ≤ 8) {i : Int} (h : M.has i) : M.front[i.toNat]? = some (M.cli i) := by
  obtain ⟨h0, h1⟩ := h
  unfold front cli
  have : i.toNat < M.cs.length := by omega
  rw [List.getElem?_take, if_pos (by omega), List.getElem?_eq_getElem this]; rfl
theorem front_len {M : Reg} (h8 : M.cs.length = 8) (n8 : M.n ≤ 8) : M.front.length = M.n.toNat := by simp [front]; omega
end Reg
def repP (c : Tk × Rep) : AV := .agg (repPs c.1 c.2)
structure RM where
  n : Int
  subs : List Sub
  reps : List Rep
  views : List (List UInt8)
  tags : List Dig
  by_ : Int
  long : List UInt8
  tag : Dig
  pend : List Pend
def Reg.rm (M : Reg) : RM := ⟨M.n, M.front.map (·.last), M.front.map (·.reply), M.front.map (·.view), M.front.map (·.tag), M.by_, M.long, M.tag, M.pend⟩
structure QF (σ0 s : AST) (k i1 i2 i3 i4 : Nat) (X : RM) (F : List (Nat × AObj)) : Prop where
  x : Ext σ0 s
  jn : ∀ i ∈ [k, i1, i2, i3, i4], σ0.objs.length ≤ i
  nd : [k, i1, i2, i3, i4].Nodup
  n0 : 0 ≤ X.n
  n8 : X.n ≤ 8
  l1 : X.subs.length = X.n.toNat
  l2 : X.reps.length = X.n.toNat
  l3 : X.views.length = X.n.toNat
  l4 : X.tags.length = X.n.toNat
  o : ∃ tk, s.objs[k]? = some (.cells (rrgV tk ⟨some (i1, X.n.toNat), some (i2, X.n.toNat), some (i3, X.n.toNat), some (i4, X.n.toNat), X.by_, X.long, X.tag, X.pend⟩))
  o1 : s.objs[i1]? = some (.cells (.agg (X.subs.map fun x => .agg (subPs x))))
  o2 : ∃ l : List (Tk × Rep), l.map (·.2) = X.reps ∧ s.objs[i2]? = some (.cells (.agg (l.map repP)))
  o3 : s.objs[i3]? = some (.cells (.agg (X.views.map .str)))
  o4 : s.objs[i4]? = some (.cells (.agg (X.tags.map .dig)))
  f : ∀ x ∈ F, x.1 ∉ [k, i1, i2, i3, i4] ∧ s.objs[x.1]? = some x.2
section
variable {σ0 s s2 : AST} {k i1 i2 i3 i4 : Nat} {X : RM} {F : List (Nat × AObj)} {K : AV → AST → Prop}
theorem QF.ext (h : QF σ0 s k i1 i2 i3 i4 X F) (e : Ext s s2) : QF σ0 s2 k i1 i2 i3 i4 X F := by
  obtain ⟨t, o⟩ := h.o
  obtain ⟨l, hl, o2⟩ := h.o2
  exact ⟨h.x.trans e, h.jn, h.nd, h.n0, h.n8, h.l1, h.l2, h.l3, h.l4, ⟨t, ext_known e o⟩, ext_known e h.o1, ⟨l, hl, ext_known e o2⟩, ext_known e h.o3, ext_known e h.o4, fun y hy => ⟨(h.f y hy).1, ext_known e (h.f y hy).2⟩⟩
theorem QF.more (h : QF σ0 s k i1 i2 i3 i4 X F) {i : Nat} {o : AObj} (ho : s.objs[i]? = some o) (hi : i ∉ [k, i1, i2, i3, i4]) : QF σ0 s k i1 i2 i3 i4 X ((i, o) :: F) :=
  ⟨h.x, h.jn, h.nd, h.n0, h.n8, h.l1, h.l2, h.l3, h.l4, h.o, h.o1, h.o2, h.o3, h.o4, fun x hx => by
    rcases List.mem_cons.1 hx with rfl | hx
    · exact ⟨hi, ho⟩
    · exact h.f x hx⟩
theorem QF.less {y : Nat × AObj} (h : QF σ0 s k i1 i2 i3 i4 X (y :: F)) : QF σ0 s k i1 i2 i3 i4 X F := ⟨h.x, h.jn, h.nd, h.n0, h.n8, h.l1, h.l2, h.l3, h.l4, h.o, h.o1, h.o2, h.o3, h.o4, fun x hx => h.f x (List.mem_cons_of_mem _ hx)⟩
theorem QF.lt (h : QF σ0 s k i1 i2 i3 i4 X F) : k < s.objs.length ∧ i1 < s.objs.length ∧ i2 < s.objs.length ∧ i3 < s.objs.length ∧ i4 < s.objs.length := by
  obtain ⟨t, o⟩ := h.o
  obtain ⟨l, hl, o2⟩ := h.o2
  exact ⟨(List.getElem?_eq_some_iff.1 o).1, (List.getElem?_eq_some_iff.1 h.o1).1, (List.getElem?_eq_some_iff.1 o2).1, (List.getElem?_eq_some_iff.1 h.o3).1, (List.getElem?_eq_some_iff.1 h.o4).1⟩
theorem QF.ne (h : QF σ0 s k i1 i2 i3 i4 X F) : k ≠ i1 ∧ k ≠ i2 ∧ k ≠ i3 ∧ k ≠ i4 ∧ i1 ≠ i2 ∧ i1 ≠ i3 ∧ i1 ≠ i4 ∧ i2 ≠ i3 ∧ i2 ≠ i4 ∧ i3 ≠ i4 := by
  have := h.nd
  simp only [List.nodup_cons, List.mem_cons, List.not_mem_nil, or_false, not_or] at this
  obtain ⟨⟨a, b, c, d⟩, ⟨e, f, g⟩, ⟨p, q⟩, r, _⟩ := this
  exact ⟨a, b, c, d, e, f, g, p, q, r⟩
theorem QF.box (h : QF σ0 s k i1 i2 i3 i4 X F) (o : AObj) : QF σ0 (s.app [o]) k i1 i2 i3 i4 X ((s.objs.length, o) :: F) := by
  have hl := h.lt
  refine (h.ext (Ext.app _ _)).more objs_app0 ?_
  simp only [List.mem_cons, List.not_mem_nil, or_false, not_or]; omega
theorem refIs_c (h : QF σ0 s k i1 i2 i3 i4 X F) {i : Int} (hK : K (.bool (decide (0 ≤ i ∧ i < X.n))) s) : TCalls Tryz.prog 27 [.ptr (some (k, [])), .int .i64 i] s K := by
  obtain ⟨tk, o⟩ := h.o
  have c0 := cellAt_known o
  have hn : (X.n.toNat : Int) = X.n := Int.toNat_of_nonneg h.n0
  have hn8 := h.n8
  refine tcalls_walk Tryz.f27 _ [.tmp 4] Tryz.func27 rfl rfl rfl mixed (Nat.le_of_ble_eq_true rfl) rfl fun hlen => ?_
  repeat' (first | (simp -dsimp only [↓reduceIte, go_sem, c0, hn]) | (refine arr_intro fun _ => ?_) | (refine guardV_split (fun h => ?_) (fun h => ?_) <;> (try rw [h]) <;> (try simp at h) <;> (try (exfalso; omega))))
  all_goals
    refine bool_endD hK ?_
    constructor <;> intro hh <;> simp_all <;> omega
end
attribute [local go_sem] subPs_1 subAt_1 subPs_2 subAt_2 subPs_3 subAt_3 subPs_4 subAt_4 subPs_5 subAt_5 shapes_sub zt_sub pendSet_0 pendSet_1 pendPs_2 pendAt_2 pendSet_2 pendPs_3 pendAt_3 pendSet_3 pendPs_4 pendAt_4 pendSet_4 pendPs_5 pendAt_5 pendSet_5 built_pend repPs_0 repAt_0 repSet_0 repPs_1 repAt_1 repSet_1 repPs_2 repAt_2 repSet_2 repPs_3 repAt_3 repSet_3 repPs_4 repAt_4 repSet_4 repPs_5 repAt_5 repSet_5 repPs_6 repAt_6 repSet_6 repPs_7 repAt_7 repSet_7 repPs_8 repAt_8 repSet_8 repPs_9 repAt_9 repSet_9 sizes_rep shapes_rep fits_rep zero_rep zt_rep built_rep Tryz.underlying37 msgPs_2 msgAt_2 msgSet_2
attribute [local go_sem] bin_sub_eql
attribute [local go_sem] rrgSet_0 rrgPs_1 rrgSet_1 rrgAt_1 rrgPs_2 rrgSet_2 rrgAt_2 rrgPs_3 rrgSet_3 rrgAt_3 rrgPs_4 rrgSet_4 rrgAt_4 rrgPs_5 rrgAt_5 rrgPs_6 rrgAt_6 rrgPs_7 rrgSet_7 rrgAt_7 zero_rrg zt_rrg built_rrg fits58x fits39 fits59 arrV_shape Tryz.underlying46 Tryz.underlying81 Tryz.underlying82
attribute [local go_sem] isAgg_arr size_arr shape_arr known_arr
def reg0 (n : Int) : Reg := ⟨n, List.replicate 8 cli0, -1, [], dig0, []⟩
theorem zt9 : ZeroOf Tryz.prog 9 (.str []) := ⟨_, _, rfl, rfl, rfl, rfl, rfl⟩
theorem zt32d : ZeroOf Tryz.prog 32 (.dig dig0) := ⟨_, _, rfl, rfl, rfl, rfl, rfl⟩
theorem make_arr {t e : TypeId} {n : Int} {z : AV} {σ : AST} {K : AV → AST → Prop} (h0 : 0 ≤ n) (h1 : n ≤ 8) (hu : Tryz.prog.underlying t = some (.slice e)) (hz : ZeroOf Tryz.prog e z) (hc : 0 < Tryz.prog.cellsOf e) (hb : Tryz.prog.bytesOf e ≤ 100000)
    (hK : K (.arr σ.objs.length [] n.toNat) (σ.push (.cells (.agg (List.replicate n.toNat z))))) : makeSliceW Tryz.prog t (.int .i64 n) (.int .i64 n) σ K := by
  refine ⟨h0, Int.le_refl _, e, z, hu, hz, hc, ?_, by omega, .inl ⟨rfl, hK⟩⟩
  have h2 : n.toNat ≤ 8 := by omega
  exact Nat.le_trans (Nat.mul_le_mul h2 hb) (by decide)
theorem refNew_fin {n : Int} (h0 : 2 ≤ n) (h1 : n ≤ 8) {σ : AST} {K : AV → AST → Prop} (hK : ∀ s' k i1 i2 i3 i4, QF σ s' k i1 i2 i3 i4 (reg0 n).rm [] → K (.ptr (some (k, []))) s') {a b c d : AObj} {i1 i2 i3 i4 : Nat}
    (o1 : [a, b, c, d][i1]? = some (.cells (.agg (List.replicate n.toNat (.agg (subPs sub0)))))) (o2 : [a, b, c, d][i2]? = some (.cells (.agg (List.replicate n.toNat (.agg (repPs .full rep0))))))
    (o3 : [a, b, c, d][i3]? = some (.cells (.agg (List.replicate n.toNat (.str []))))) (o4 : [a, b, c, d][i4]? = some (.cells (.agg (List.replicate n.toNat (.dig dig0))))) (hd : [i1, i2, i3, i4].Nodup) :
    K (.ptr (some (σ.objs.length + 4, []))) (σ.app [a, b, c, d, .cells (.agg (rrgPs .full ⟨some (σ.objs.length + i1, n.toNat), some (σ.objs.length + i2, n.toNat), some (σ.objs.length + i3, n.toNat), some (σ.objs.length + i4, n.toNat), -1, [], dig0, []⟩))]) := by
  have look : ∀ (e : AObj) i o, [a, b, c, d][i]? = some o → (σ.app [a, b, c, d, e]).objs[σ.objs.length + i]? = some o := fun e i o h => by
    rw [objs_app]
    have hi := (List.getElem?_eq_some_iff.1 h).1
    have : [a, b, c, d, e] = [a, b, c, d] ++ [e] := rfl
    rw [this, List.getElem?_append_left hi]; exact h
  have l1 := (List.getElem?_eq_some_iff.1 o1).1
  have l2 := (List.getElem?_eq_some_iff.1 o2).1
  have l3 := (List.getElem?_eq_some_iff.1 o3).1
  have l4 := (List.getElem?_eq_some_iff.1 o4).1
  have hf : (reg0 n).front = List.replicate n.toNat cli0 := by
    unfold Reg.front reg0
    simp only [List.take_replicate]
    congr 1; omega
  refine hK _ (σ.objs.length + 4) (σ.objs.length + i1) (σ.objs.length + i2) (σ.objs.length + i3) (σ.objs.length + i4) ⟨Ext.app _ _, ?_, ?_, by show 0 ≤ n; omega, h1, ?_, ?_, ?_, ?_, ⟨.full, ?_⟩, ?_, ⟨List.replicate n.toNat (.full, rep0), ?_, ?_⟩, ?_, ?_, fun y hy => by simp at hy⟩
  · intro i hi
    simp only [List.mem_cons, List.not_mem_nil, or_false] at hi
    omega
  · simp only [List.nodup_cons, List.mem_cons, List.not_mem_nil, or_false, not_or, List.length_cons, List.length_nil, List.nodup_nil, and_true, not_false_eq_true] at hd l1 l2 l3 l4 ⊢
    omega
  · simp only [Reg.rm, hf, List.length_map, List.length_replicate]; rfl
  · simp only [Reg.rm, hf, List.length_map, List.length_replicate]; rfl
  · simp only [Reg.rm, hf, List.length_map, List.length_replicate]; rfl
  · simp only [Reg.rm, hf, List.length_map, List.length_replicate]; rfl
  · rw [objs_app]; rfl
  · rw [look _ _ _ o1]; simp only [Reg.rm, hf, List.map_replicate]; rfl
  · simp only [Reg.rm, hf, List.map_replicate]; rfl
  · rw [look _ _ _ o2, List.map_replicate]; rfl
  · rw [look _ _ _ o3]; simp only [Reg.rm, hf, List.map_replicate]; rfl
  · rw [look _ _ _ o4]; simp only [Reg.rm, hf, List.map_replicate]; rfl
theorem refNew_c {n : Int} (h0 : 2 ≤ n) (h1 : n ≤ 8) {σ : AST} {K : AV → AST → Prop} (hK : ∀ s' k i1 i2 i3 i4, QF σ s' k i1 i2 i3 i4 (reg0 n).rm [] → K (.ptr (some (k, []))) s') : TCalls Tryz.prog 26 [.int .i64 n] σ K := by
  refine tcalls_walk Tryz.f26 _ [.tmp 2] Tryz.func26 rfl rfl rfl mixed (Nat.le_of_ble_eq_true rfl) rfl fun hlen => ?_
  repeat' (first | (simp -dsimp only [↓reduceIte, go_sem]) | (refine later_intro ⟨keeps_nil, ?_⟩) | (refine both_ways ?_ ?_) | (with_reducible refine awp_drawU (id := 1) (.op 0 0 (.op 2 0 (.op 4 0 (.op 6 0 (.fork 1 (.op 1 1 (.fork 3 (.op 3 1 (.fork 5 (.op 5 1 (.op 7 1 (.cut (.op 8 2 (.op 9 1 (.op 10 2 .nil)))))) (.op 7 1 (.op 5 1 (.cut (.op 8 2 (.op 9 1 (.op 10 2 .nil)))))))) (.fork 5 (.op 5 1 (.fork 3 (.op 3 1 (.op 7 1 (.cut (.op 8 2 (.op 9 1 (.op 10 2 .nil)))))) (.op 7 1 (.op 3 1 (.cut (.op 8 2 (.op 9 1 (.op 10 2 .nil)))))))) (.op 7 1 (.fork 3 (.op 3 1 (.op 5 1 (.cut (.op 8 2 (.op 9 1 (.op 10 2 .nil)))))) (.op 5 1 (.op 3 1 (.cut (.op 8 2 (.op 9 1 (.op 10 2 .nil))))))))))) (.fork 3 (.op 3 1 (.fork 1 (.op 1 1 (.fork 5 (.op 5 1 (.op 7 1 (.cut (.op 8 2 (.op 9 1 (.op 10 2 .nil)))))) (.op 7 1 (.op 5 1 (.cut (.op 8 2 (.op 9 1 (.op 10 2 .nil)))))))) (.fork 5 (.op 5 1 (.fork 1 (.op 1 1 (.op 7 1 (.cut (.op 8 2 (.op 9 1 (.op 10 2 .nil)))))) (.op 7 1 (.op 1 1 (.cut (.op 8 2 (.op 9 1 (.op 10 2 .nil)))))))) (.op 7 1 (.fork 1 (.op 1 1 (.op 5 1 (.cut (.op 8 2 (.op 9 1 (.op 10 2 .nil)))))) (.op 5 1 (.op 1 1 (.cut (.op 8 2 (.op 9 1 (.op 10 2 .nil))))))))))) (.fork 5 (.op 5 1 (.fork 1 (.op 1 1 (.fork 3 (.op 3 1 (.op 7 1 (.cut (.op 8 2 (.op 9 1 (.op 10 2 .nil)))))) (.op 7 1 (.op 3 1 (.cut (.op 8 2 (.op 9 1 (.op 10 2 .nil)))))))) (.fork 3 (.op 3 1 (.fork 1 (.op 1 1 (.op 7 1 (.cut (.op 8 2 (.op 9 1 (.op 10 2 .nil)))))) (.op 7 1 (.op 1 1 (.cut (.op 8 2 (.op 9 1 (.op 10 2 .nil)))))))) (.op 7 1 (.fork 1 (.op 1 1 (.op 3 1 (.cut (.op 8 2 (.op 9 1 (.op 10 2 .nil)))))) (.op 3 1 (.op 1 1 (.cut (.op 8 2 (.op 9 1 (.op 10 2 .nil))))))))))) (.op 7 1 (.fork 1 (.op 1 1 (.fork 3 (.op 3 1 (.op 5 1 (.cut (.op 8 2 (.op 9 1 (.op 10 2 .nil)))))) (.op 5 1 (.op 3 1 (.cut (.op 8 2 (.op 9 1 (.op 10 2 .nil)))))))) (.fork 3 (.op 3 1 (.fork 1 (.op 1 1 (.op 5 1 (.cut (.op 8 2 (.op 9 1 (.op 10 2 .nil)))))) (.op 5 1 (.op 1 1 (.cut (.op 8 2 (.op 9 1 (.op 10 2 .nil)))))))) (.op 5 1 (.fork 1 (.op 1 1 (.op 3 1 (.cut (.op 8 2 (.op 9 1 (.op 10 2 .nil)))))) (.op 3 1 (.op 1 1 (.cut (.op 8 2 (.op 9 1 (.op 10 2 .nil)))))))))))))))))) (by kernel_rfl) ?_) | (refine make_arr (by omega) h1 Tryz.underlying80 (of_eq_true zt_sub) (by decide +kernel) (by decide +kernel) ?_) | (refine make_arr (by omega) h1 Tryz.underlying81 (of_eq_true zt_rep) (by decide +kernel) (by decide +kernel) ?_) | (refine make_arr (by omega) h1 Tryz.underlying46 zt9 (by decide +kernel) (by decide +kernel) ?_) | (refine make_arr (by omega) h1 Tryz.underlying82 zt32d (by decide +kernel) (by decide +kernel) ?_))
  all_goals
    first
      | exact refNew_fin (i1 := 0) (i2 := 1) (i3 := 2) (i4 := 3) h0 h1 hK rfl rfl rfl rfl (by decide)
      | exact refNew_fin (i1 := 0) (i2 := 1) (i3 := 3) (i4 := 2) h0 h1 hK rfl rfl rfl rfl (by decide)
      | exact refNew_fin (i1 := 0) (i2 := 2) (i3 := 1) (i4 := 3) h0 h1 hK rfl rfl rfl rfl (by decide)
      | exact refNew_fin (i1 := 0) (i2 := 2) (i3 := 3) (i4 := 1) h0 h1 hK rfl rfl rfl rfl (by decide)
      | exact refNew_fin (i1 := 0) (i2 := 3) (i3 := 1) (i4 := 2) h0 h1 hK rfl rfl rfl rfl (by decide)
      | exact refNew_fin (i1 := 0) (i2 := 3) (i3 := 2) (i4 := 1) h0 h1 hK rfl rfl rfl rfl (by decide)
      | exact refNew_fin (i1 := 1) (i2 := 0) (i3 := 2) (i4 := 3) h0 h1 hK rfl rfl rfl rfl (by decide)
      | exact refNew_fin (i1 := 1) (i2 := 0) (i3 := 3) (i4 := 2) h0 h1 hK rfl rfl rfl rfl (by decide)
      | exact refNew_fin (i1 := 1) (i2 := 2) (i3 := 0) (i4 := 3) h0 h1 hK rfl rfl rfl rfl (by decide)
      | exact refNew_fin (i1 := 1) (i2 := 2) (i3 := 3) (i4 := 0) h0 h1 hK rfl rfl rfl rfl (by decide)
      | exact refNew_fin (i1 := 1) (i2 := 3) (i3 := 0) (i4 := 2) h0 h1 hK rfl rfl rfl rfl (by decide)
      | exact refNew_fin (i1 := 1) (i2 := 3) (i3 := 2) (i4 := 0) h0 h1 hK rfl rfl rfl rfl (by decide)
      | exact refNew_fin (i1 := 2) (i2 := 0) (i3 := 1) (i4 := 3) h0 h1 hK rfl rfl rfl rfl (by decide)
      | exact refNew_fin (i1 := 2) (i2 := 0) (i3 := 3) (i4 := 1) h0 h1 hK rfl rfl rfl rfl (by decide)
      | exact refNew_fin (i1 := 2) (i2 := 1) (i3 := 0) (i4 := 3) h0 h1 hK rfl rfl rfl rfl (by decide)
      | exact refNew_fin (i1 := 2) (i2 := 1) (i3 := 3) (i4 := 0) h0 h1 hK rfl rfl rfl rfl (by decide)
      | exact refNew_fin (i1 := 2) (i2 := 3) (i3 := 0) (i4 := 1) h0 h1 hK rfl rfl rfl rfl (by decide)
      | exact refNew_fin (i1 := 2) (i2 := 3) (i3 := 1) (i4 := 0) h0 h1 hK rfl rfl rfl rfl (by decide)
      | exact refNew_fin (i1 := 3) (i2 := 0) (i3 := 1) (i4 := 2) h0 h1 hK rfl rfl rfl rfl (by decide)
      | exact refNew_fin (i1 := 3) (i2 := 0) (i3 := 2) (i4 := 1) h0 h1 hK rfl rfl rfl rfl (by decide)
      | exact refNew_fin (i1 := 3) (i2 := 1) (i3 := 0) (i4 := 2) h0 h1 hK rfl rfl rfl rfl (by decide)
      | exact refNew_fin (i1 := 3) (i2 := 1) (i3 := 2) (i4 := 0) h0 h1 hK rfl rfl rfl rfl (by decide)
      | exact refNew_fin (i1 := 3) (i2 := 2) (i3 := 0) (i4 := 1) h0 h1 hK rfl rfl rfl rfl (by decide)
      | exact refNew_fin (i1 := 3) (i2 := 2) (i3 := 1) (i4 := 0) h0 h1 hK rfl rfl rfl rfl (by decide)
theorem subM_by {n : Int} {x : Sub} : -9223372036854775808 ≤ (Reg.subM n x).by_ ∧ (Reg.subM n x).by_ ≤ 9223372036854775807 := ⟨show (-9223372036854775808 : Int) ≤ 0 by decide, show (0 : Int) ≤ 9223372036854775807 by decide⟩
theorem comM_by {n : Int} {v : List UInt8} {t : Dig} : -9223372036854775808 ≤ (Reg.comM n v t).by_ ∧ (Reg.comM n v t).by_ ≤ 9223372036854775807 := ⟨show (-9223372036854775808 : Int) ≤ 0 by decide, show (0 : Int) ≤ 9223372036854775807 by decide⟩
namespace RM
def has (X : RM) (i : Int) : Prop := 0 ≤ i ∧ i < X.n
def sub (X : RM) (i : Int) : Sub := (X.subs[i.toNat]?).getD sub0
def rep (X : RM) (i : Int) : Rep := (X.reps[i.toNat]?).getD rep0
def view (X : RM) (i : Int) : List UInt8 := (X.views[i.toNat]?).getD []
def tg (X : RM) (i : Int) : Dig := (X.tags[i.toNat]?).getD dig0
def ansP (X : RM) (p : Pend) : Pend := { p with proof := X.tg p.client }
def ans0 (X : RM) (n : Int) (l : List Pend) : Rep := ⟨n, X.by_, X.long, X.tag, l, 0, [], dig0, [], dig0⟩
def ansC (X : RM) (n : Int) (l : List Pend) (j : Int) : Rep := ⟨n, X.by_, X.long, X.tag, l, (X.sub j).num, (X.sub j).value, (X.sub j).data, X.view j, X.tg j⟩
def ans (X : RM) (x : Sub) : Rep := if x.kind = 2 then X.ansC x.num (X.pend.map X.ansP) x.target else X.ans0 x.num (X.pend.map X.ansP)
noncomputable def submit (X : RM) (n : Int) (x : Sub) : RM × Rep × Int :=
  if ¬ (Reg.subM n x).Ok ∨ ¬ X.has n ∨ ¬ X.has x.target then (X, rep0, 2)
  else if x.num = (X.sub n).num then (if x = X.sub n then (X, X.rep n, 0) else (X, rep0, 10))
  else if x.num ≠ (X.sub n).num + 1 then (X, rep0, 3)
  else if 512 ≤ X.long.length + X.pend.length ∨ 8 ≤ X.pend.length then (X, rep0, 11)
  else ({ X with subs := X.subs.set n.toNat x, reps := X.reps.set n.toNat (X.ans x), pend := X.pend ++ [Reg.newP n x] }, X.ans x, 0)
structure Ok (X : RM) : Prop where
  cl : PendIn X.n X.pend
  pl : X.pend.length ≤ 8
  ll : X.long.length ≤ 512
  rp : ∀ r ∈ X.reps, r.pending.length ≤ 8
  nm : ∀ x ∈ X.subs, 0 ≤ x.num ∧ x.num ≤ 512
theorem ansP_next {X : RM} {i : Nat} {y : Pend} (h : X.pend[i]? = some y) : (X.pend.take (i + 1)).map X.ansP = (X.pend.take i).map X.ansP ++ [X.ansP y] := by
  rw [List.take_add_one, h]; simp
end RM
section
variable {σ0 s s2 : AST} {k i1 i2 i3 i4 : Nat} {X : RM} {F : List (Nat × AObj)} {K : AV → AST → Prop}
theorem QF.sub (h : QF σ0 s k i1 i2 i3 i4 X F) {i : Int} (hi : X.has i) : X.subs[i.toNat]? = some (X.sub i) := by
  obtain ⟨a, b⟩ := hi
  have : i.toNat < X.subs.length := by have := h.l1; have := h.n0; omega
  simp [RM.sub, List.getElem?_eq_getElem this]
theorem QF.rep (h : QF σ0 s k i1 i2 i3 i4 X F) {i : Int} (hi : X.has i) : X.reps[i.toNat]? = some (X.rep i) := by
  obtain ⟨a, b⟩ := hi
  have : i.toNat < X.reps.length := by have := h.l2; have := h.n0; omega
  simp [RM.rep, List.getElem?_eq_getElem this]
theorem QF.view (h : QF σ0 s k i1 i2 i3 i4 X F) {i : Int} (hi : X.has i) : X.views[i.toNat]? = some (X.view i) := by
  obtain ⟨a, b⟩ := hi
  have : i.toNat < X.views.length := by have := h.l3; have := h.n0; omega
  simp [RM.view, List.getElem?_eq_getElem this]
theorem QF.tg (h : QF σ0 s k i1 i2 i3 i4 X F) {i : Int} (hi : X.has i) : X.tags[i.toNat]? = some (X.tg i) := by
  obtain ⟨a, b⟩ := hi
  have : i.toNat < X.tags.length := by have := h.l4; have := h.n0; omega
  simp [RM.tg, List.getElem?_eq_getElem this]
theorem QF.box2 (h : QF σ0 s k i1 i2 i3 i4 X F) (a b : AObj) : QF σ0 (s.app [a, b]) k i1 i2 i3 i4 X ((s.objs.length, a) :: (s.objs.length + 1, b) :: F) := by
  have hl := h.lt
  refine ((h.ext (Ext.app _ _)).more (i := s.objs.length + 1) (by rw [objs_app]; rfl) ?_).more (i := s.objs.length) objs_app0 ?_ <;>
  · simp only [List.mem_cons, List.not_mem_nil, or_false, not_or]; omega
theorem QF.setN {i : Nat} {o : AObj} (h : QF σ0 s k i1 i2 i3 i4 X F) (hi : σ0.objs.length ≤ i) (hj : i ∉ [k, i1, i2, i3, i4]) (hf : ∀ x ∈ F, x.1 ≠ i) : QF σ0 (s.set i o) k i1 i2 i3 i4 X F := by
  obtain ⟨t, q⟩ := h.o
  obtain ⟨l, hl, q2⟩ := h.o2
  simp only [List.mem_cons, List.not_mem_nil, or_false, not_or] at hj
  obtain ⟨a, b, c, d, e⟩ := hj
  exact ⟨h.x.set hi, h.jn, h.nd, h.n0, h.n8, h.l1, h.l2, h.l3, h.l4, ⟨t, by rw [objs_setNx a]; exact q⟩, by rw [objs_setNx b]; exact h.o1, ⟨l, hl, by rw [objs_setNx c]; exact q2⟩, by rw [objs_setNx d]; exact h.o3, by rw [objs_setNx e]; exact h.o4,
    fun x hx => ⟨(h.f x hx).1, by rw [objs_setNx (hf x hx).symm]; exact (h.f x hx).2⟩⟩
theorem idx1 (h : QF σ0 s k i1 i2 i3 i4 X F) {i : Int} (hi : X.has i) {q : IntKind} {KV : AV → Prop} (hK : KV (.ptr (some (i1, [i.toNat])))) : indexAddrW Tryz.prog s 80 (.arr i1 [] X.n.toNat) (.int q i) KV := by
  have e : ((i.toNat : Nat) : Int) = i := Int.toNat_of_nonneg hi.1
  rw [← e]
  exact index_arr (f := fun x => .agg (subPs x)) (e := 34) (sz := 68) Tryz.underlying80 (by kernel_rfl) (fun x => by simp [AV.size, sizes_sub]) (fun x => by simp [fits_sub, AV.isAgg, AV.size, sizes_sub]) h.o1 h.l1.symm (h.sub hi) hK
theorem idx3 (h : QF σ0 s k i1 i2 i3 i4 X F) {i : Int} (hi : X.has i) {q : IntKind} {KV : AV → Prop} (hK : KV (.ptr (some (i3, [i.toNat])))) : indexAddrW Tryz.prog s 46 (.arr i3 [] X.n.toNat) (.int q i) KV := by
  have e : ((i.toNat : Nat) : Int) = i := Int.toNat_of_nonneg hi.1
  rw [← e]
  exact index_arr (f := .str) (e := 9) (sz := 1) Tryz.underlying46 (by kernel_rfl) (fun x => rfl) (fun x => by simp [fits9, AV.isAgg, AV.size]) h.o3 h.l3.symm (h.view hi) hK
theorem idx4 (h : QF σ0 s k i1 i2 i3 i4 X F) {i : Int} (hi : X.has i) {q : IntKind} {KV : AV → Prop} (hK : KV (.ptr (some (i4, [i.toNat])))) : indexAddrW Tryz.prog s 82 (.arr i4 [] X.n.toNat) (.int q i) KV := by
  have e : ((i.toNat : Nat) : Int) = i := Int.toNat_of_nonneg hi.1
  rw [← e]
  exact index_arr (f := .dig) (e := 32) (sz := 32) Tryz.underlying82 (by kernel_rfl) (fun x => rfl) (fun x => by simp [fits23, AV.isAgg, AV.size]) h.o4 h.l4.symm (h.tg hi) hK
theorem idx2 (h : QF σ0 s k i1 i2 i3 i4 X F) {i : Int} (hi : X.has i) {q : IntKind} {KV : AV → Prop} (hK : KV (.ptr (some (i2, [i.toNat])))) : indexAddrW Tryz.prog s 81 (.arr i2 [] X.n.toNat) (.int q i) KV := by
  have e : ((i.toNat : Nat) : Int) = i := Int.toNat_of_nonneg hi.1
  rw [← e]
  obtain ⟨l, hl, o2⟩ := h.o2
  have hll : l.length = X.n.toNat := by rw [← h.l2, ← hl, List.length_map]
  have hi' : i.toNat < l.length := by have := hi.2; have := h.n0; have := hi.1; omega
  exact index_arr (f := repP) (e := 37) (sz := 103) Tryz.underlying81 (by kernel_rfl) (fun x => by simp [repP, AV.size, sizes_rep]) (fun x => by simp [repP, fits_rep, AV.isAgg, AV.size, sizes_rep]) o2 hll.symm (List.getElem?_eq_getElem hi') hK
theorem QF.put1 (h : QF σ0 s k i1 i2 i3 i4 X F) {i : Nat} {y : Sub} : QF σ0 (s.set i1 (.cells (.agg ((X.subs.set i y).map fun x => .agg (subPs x))))) k i1 i2 i3 i4 { X with subs := X.subs.set i y } F := by
  obtain ⟨t, q⟩ := h.o
  obtain ⟨l, hl, q2⟩ := h.o2
  obtain ⟨a, b, c, d, e, f, g, p, r, v⟩ := h.ne
  have hlt := h.lt
  exact ⟨h.x.set (h.jn i1 (by simp)), h.jn, h.nd, h.n0, h.n8, by simpa using h.l1, h.l2, h.l3, h.l4, ⟨t, by rw [objs_setNx a.symm]; exact q⟩, objs_setSx hlt.2.1, ⟨l, hl, by rw [objs_setNx e]; exact q2⟩, by rw [objs_setNx f]; exact h.o3, by rw [objs_setNx g]; exact h.o4,
    fun x hx => ⟨(h.f x hx).1, by rw [objs_setNx (fun e => (h.f x hx).1 (by rw [← e]; simp))]; exact (h.f x hx).2⟩⟩
theorem QF.put2 (h : QF σ0 s k i1 i2 i3 i4 X F) {l : List (Tk × Rep)} (hl : l.map (·.2) = X.reps) {i : Nat} {t : Tk} {y : Rep} : QF σ0 (s.set i2 (.cells (.agg ((l.set i (t, y)).map repP)))) k i1 i2 i3 i4 { X with reps := X.reps.set i y } F := by
  obtain ⟨u, q⟩ := h.o
  obtain ⟨a, b, c, d, e, f, g, p, r, v⟩ := h.ne
  have hlt := h.lt
  exact ⟨h.x.set (h.jn i2 (by simp)), h.jn, h.nd, h.n0, h.n8, h.l1, by simpa using h.l2, h.l3, h.l4, ⟨u, by rw [objs_setNx b.symm]; exact q⟩, by rw [objs_setNx e.symm]; exact h.o1, ⟨l.set i (t, y), by simp [List.map_set, hl], objs_setSx hlt.2.2.1⟩, by rw [objs_setNx p]; exact h.o3, by rw [objs_setNx r]; exact h.o4,
    fun x hx => ⟨(h.f x hx).1, by rw [objs_setNx (fun e => (h.f x hx).1 (by rw [← e]; simp))]; exact (h.f x hx).2⟩⟩
theorem QF.put3 (h : QF σ0 s k i1 i2 i3 i4 X F) {i : Nat} {y : List UInt8} : QF σ0 (s.set i3 (.cells (.agg ((X.views.set i y).map .str)))) k i1 i2 i3 i4 { X with views := X.views.set i y } F := by
  obtain ⟨t, q⟩ := h.o
  obtain ⟨l, hl, q2⟩ := h.o2
  obtain ⟨a, b, c, d, e, f, g, p, r, v⟩ := h.ne
  have hlt := h.lt
  exact ⟨h.x.set (h.jn i3 (by simp)), h.jn, h.nd, h.n0, h.n8, h.l1, h.l2, by simpa using h.l3, h.l4, ⟨t, by rw [objs_setNx c.symm]; exact q⟩, by rw [objs_setNx f.symm]; exact h.o1, ⟨l, hl, by rw [objs_setNx p.symm]; exact q2⟩, objs_setSx hlt.2.2.2.1, by rw [objs_setNx v]; exact h.o4,
    fun x hx => ⟨(h.f x hx).1, by rw [objs_setNx (fun e => (h.f x hx).1 (by rw [← e]; simp))]; exact (h.f x hx).2⟩⟩
theorem QF.put4 (h : QF σ0 s k i1 i2 i3 i4 X F) {i : Nat} {y : Dig} : QF σ0 (s.set i4 (.cells (.agg ((X.tags.set i y).map .dig)))) k i1 i2 i3 i4 { X with tags := X.tags.set i y } F := by
  obtain ⟨t, q⟩ := h.o
  obtain ⟨l, hl, q2⟩ := h.o2
  obtain ⟨a, b, c, d, e, f, g, p, r, v⟩ := h.ne
  have hlt := h.lt
  exact ⟨h.x.set (h.jn i4 (by simp)), h.jn, h.nd, h.n0, h.n8, h.l1, h.l2, h.l3, by simpa using h.l4, ⟨t, by rw [objs_setNx d.symm]; exact q⟩, by rw [objs_setNx g.symm]; exact h.o1, ⟨l, hl, by rw [objs_setNx r.symm]; exact q2⟩, by rw [objs_setNx v.symm]; exact h.o3, objs_setSx hlt.2.2.2.2,
    fun x hx => ⟨(h.f x hx).1, by rw [objs_setNx (fun e => (h.f x hx).1 (by rw [← e]; simp))]; exact (h.f x hx).2⟩⟩
theorem QF.putk (h : QF σ0 s k i1 i2 i3 i4 X F) {t : Tk} {b : Int} {l : List UInt8} {g : Dig} {p : List Pend} :
    QF σ0 (s.set k (.cells (rrgV t ⟨some (i1, X.n.toNat), some (i2, X.n.toNat), some (i3, X.n.toNat), some (i4, X.n.toNat), b, l, g, p⟩))) k i1 i2 i3 i4 { X with by_ := b, long := l, tag := g, pend := p } F := by
  obtain ⟨u, q⟩ := h.o
  obtain ⟨l', hl, q2⟩ := h.o2
  obtain ⟨a, b, c, d, e, f, g, p, r, v⟩ := h.ne
  have hlt := h.lt
  exact ⟨h.x.set (h.jn k (by simp)), h.jn, h.nd, h.n0, h.n8, h.l1, h.l2, h.l3, h.l4, ⟨t, objs_setSx hlt.1⟩, by rw [objs_setNx a]; exact h.o1, ⟨l', hl, by rw [objs_setNx b]; exact q2⟩, by rw [objs_setNx c]; exact h.o3, by rw [objs_setNx d]; exact h.o4,
    fun x hx => ⟨(h.f x hx).1, by rw [objs_setNx (fun e => (h.f x hx).1 (by rw [← e]; simp))]; exact (h.f x hx).2⟩⟩
theorem QF.grow {tk : Tk} {m e : Nat} (h : QF σ0 s k i1 i2 i3 i4 X F) (ht : tkNew σ0 tk) : QF σ0 (growS s tk m e) k i1 i2 i3 i4 X F := by
  obtain ⟨t, q⟩ := h.o
  obtain ⟨l, hl, q2⟩ := h.o2
  exact ⟨h.x.grow ht, h.jn, h.nd, h.n0, h.n8, h.l1, h.l2, h.l3, h.l4, ⟨t, by rw [growS_objs]; exact q⟩, by rw [growS_objs]; exact h.o1, ⟨l, hl, by rw [growS_objs]; exact q2⟩, by rw [growS_objs]; exact h.o3, by rw [growS_objs]; exact h.o4,
    fun x hx => ⟨(h.f x hx).1, by rw [growS_objs]; exact (h.f x hx).2⟩⟩
end
end Go.Aff.L10

namespace Go.Aff.L10
open Go.Proofs Go.Aff Go.Aff.L01 Classical
set_option maxRecDepth 20000
attribute [-go_sem] cellAt_new
attribute [-simp] List.length_flatMap
attribute [local go_sem] Tryz.underlying9 Tryz.underlying35 subPs_0 subAt_0 subPs_1 subAt_1 subPs_2 subAt_2 subPs_3 subAt_3 subPs_4 subAt_4 subPs_5 subAt_5 sizes_sub shapes_sub fits_sub zt_sub Tryz.underlying34 pendPs_0 pendAt_0 pendSet_0 pendPs_1 pendAt_1 pendSet_1 pendPs_2 pendAt_2 pendSet_2 pendPs_3 pendAt_3 pendSet_3 pendPs_4 pendAt_4 pendSet_4 pendPs_5 pendAt_5 pendSet_5 sizes_pend shapes_pend fits_pend zero_pend zt_pend built_pend Tryz.underlying138 repPs_0 repAt_0 repSet_0 repPs_1 repAt_1 repSet_1 repPs_2 repAt_2 repSet_2 repPs_3 repAt_3 repSet_3 repPs_4 repAt_4 repSet_4 repPs_5 repAt_5 repSet_5 repPs_6 repAt_6 repSet_6 repPs_7 repAt_7 repSet_7 repPs_8 repAt_8 repSet_8 repPs_9 repAt_9 repSet_9 sizes_rep shapes_rep fits_rep zero_rep zt_rep built_rep Tryz.underlying37 msgPs_0 msgAt_0 msgSet_0 msgPs_1 msgAt_1 msgSet_1 msgPs_2 msgAt_2 msgSet_2 zero_msg zt_msg built_msg
attribute [local go_sem] fits3 fits9 fits23 fits26 bin_sub_eql
attribute [local go_sem] rrgPs_0 rrgSet_0 rrgAt_0 rrgPs_1 rrgSet_1 rrgAt_1 rrgPs_2 rrgSet_2 rrgAt_2 rrgPs_3 rrgSet_3 rrgAt_3 rrgPs_4 rrgSet_4 rrgAt_4 rrgPs_5 rrgAt_5 rrgPs_6 rrgAt_6 rrgPs_7 rrgSet_7 rrgAt_7 zero_rrg zt_rrg built_rrg fits57 fits58x fits39 fits59 arrV_none arrV_some arrV_shape Tryz.underlying46 Tryz.underlying80 Tryz.underlying81 Tryz.underlying82 Tryz.underlying84
attribute [local go_sem] isAgg_arr size_arr shape_arr known_arr
section
variable {σ0 s s2 : AST} {k i1 i2 i3 i4 : Nat} {X : RM} {F : List (Nat × AObj)} {K : AV → AST → Prop}
theorem refSubmit_c (h : QF σ0 s k i1 i2 i3 i4 X F) (hM : X.Ok) {n : Int} {x : Sub} (hK : ∀ t s', QF σ0 s' k i1 i2 i3 i4 (X.submit n x).1 F → K (.tuple [repV t (X.submit n x).2.1, .int .i64 (X.submit n x).2.2]) s') :
    TCalls Tryz.prog 38 [.ptr (some (k, [])), .int .i64 n, subV x] s K := by
  have hn8 := h.n8
  have hlt := h.lt
  have hB := h.box2 (.cells (subV x)) (.cells (.agg (repPs .full rep0)))
  have hFl : ∀ y ∈ F, y.1 < s.objs.length := fun y hy => (List.getElem?_eq_some_iff.1 (h.f y hy).2).1
  have hs0 : σ0.objs.length ≤ s.objs.length := by have := h.jn k (by simp); omega
  have cS : ∀ v p, cellAt ((s.app [.cells (subV x), .cells (.agg (repPs .full rep0))]).set (s.objs.length + 1) (.cells v)) (s.objs.length + 1) p = v.at p := fun v p => cellAt_setSx (by simp [AST.app])
  generalize hs1 : s.app [.cells (subV x), .cells (.agg (repPs .full rep0))] = s1 at hB cS
  obtain ⟨tk, o⟩ := hB.o
  have c0 := cellAt_known o
  have b0 := (hB.f _ (List.mem_cons_self ..)).2
  have b1 := (hB.f _ (List.mem_cons_of_mem _ (List.mem_cons_self ..))).2
  simp only at b0 b1
  have cb0 := cellAt_known b0
  have hend : ∀ t r e, X.submit n x = (X, r, e) → K (.tuple [repV t r, .int .i64 e]) (s1.set (s.objs.length + 1) (.cells (repV t r))) := fun t r e he => by
    have := hK t (s1.set (s.objs.length + 1) (.cells (repV t r))) ?_
    · rw [he] at this; exact this
    · rw [he]
      refine hB.less.less.setN (by omega) ?_ fun y hy => by have := hFl y hy; omega
      simp only [List.mem_cons, List.not_mem_nil, or_false, not_or]; omega
  refine tcalls_walk Tryz.f38 _ [.cell 6 37, .tmp 7] Tryz.func38 rfl rfl rfl mixed (Nat.le_of_ble_eq_true rfl) rfl fun hlen => ?_
  by_cases hok : (Reg.subM n x).Ok
  · by_cases hnH : X.has n
    · by_cases hxH : X.has x.target
      · have hgo : ¬ (¬ (Reg.subM n x).Ok ∨ ¬ X.has n ∨ ¬ X.has x.target) := by rintro (h | h | h) <;> contradiction
        have hn0 := hnH.1
        have hn1 := hnH.2
        have hx0 := hxH.1
        have hx1 := hxH.2
        have hokt := eq_true hok
        have hA1 := arr_at (f := fun x => AV.agg (subPs x)) (hB.sub hnH)
        have A1 : ∀ q, cellAt s1 i1 (n.toNat :: q) = (AV.agg (subPs (X.sub n))).at q := fun q => by rw [cellAt_known hB.o1, hA1]
        have hnm := hM.nm _ (List.mem_of_getElem? (hB.sub hnH))
        have hwr : IntKind.i64.wrap ((X.sub n).num + 1) = (X.sub n).num + 1 := wrap_i64 (by omega) (by omega)
        have hsub : X.submit n x = if x.num = (X.sub n).num then (if x = X.sub n then (X, X.rep n, 0) else (X, rep0, 10))
            else if x.num ≠ (X.sub n).num + 1 then (X, rep0, 3)
            else if 512 ≤ X.long.length + X.pend.length ∨ 8 ≤ X.pend.length then (X, rep0, 11)
            else ({ X with subs := X.subs.set n.toNat x, reps := X.reps.set n.toNat (X.ans x), pend := X.pend ++ [Reg.newP n x] }, X.ans x, 0) := by
          unfold RM.submit; rw [if_neg hgo]
        by_cases e1 : x.num = (X.sub n).num
        · rw [if_pos e1] at hsub
          have e1t := eq_true e1
          by_cases e2 : x = X.sub n
          · rw [if_pos e2] at hsub
            have e2t := eq_true e2
            obtain ⟨l, hl, o2⟩ := hB.o2
            obtain ⟨tr, hlr⟩ : ∃ tr, l[n.toNat]? = some (tr, X.rep n) := by
              have h1 := hB.rep hnH
              rw [← hl, List.getElem?_map, Option.map_eq_some_iff] at h1
              obtain ⟨⟨a, b⟩, h2, h3⟩ := h1
              simp only at h3; subst h3; exact ⟨a, h2⟩
            have A2 : ∀ q, cellAt s1 i2 (n.toNat :: q) = (AV.agg (repPs tr (X.rep n))).at q := fun q => by rw [cellAt_known o2, arr_at hlr]; rfl
            repeat' (first | (simp -dsimp only [↓reduceIte, go_sem, hs1, c0, cb0, hn0, hn1, hx0, hx1, b1, cS, A1, A2, hwr, hokt, e1t, e2t]) | (refine guardV_split (fun h => ?_) (fun h => ?_) <;> (try rw [h]) <;> (try simp at h) <;> (try (exfalso; omega))) | (refine refIs_c hB ?_) | ((refine refRight_c (m := Reg.subM n x) subM_by ?_)) | (refine idx1 hB hnH ?_) | (refine idx2 hB hnH ?_) | (with_reducible refine awp_drawS (id := 3) [0, 1, 2, 3, 4, 5, 6, 7, 8, 9, 10] (by kernel_rfl) ?_) | (with_reducible refine awp_drawS (id := 4) [0, 1, 2, 3, 4, 5, 6, 7, 8] (by kernel_rfl) ?_))
            exact hend tr _ 0 hsub
          · rw [if_neg e2] at hsub
            repeat' (first | (simp -dsimp only [↓reduceIte, go_sem, hs1, c0, cb0, hn0, hn1, hx0, hx1, b1, cS, A1, hwr, hokt, e1t, e2]) | (refine guardV_split (fun h => ?_) (fun h => ?_) <;> (try rw [h]) <;> (try simp at h) <;> (try (exfalso; omega))) | (refine refIs_c hB ?_) | ((refine refRight_c (m := Reg.subM n x) subM_by ?_)) | (refine idx1 hB hnH ?_) | (with_reducible refine awp_drawS (id := 3) [0, 1, 2, 3, 4, 5, 6, 7, 8, 9, 10] (by kernel_rfl) ?_) | (with_reducible refine awp_drawS (id := 4) [0, 1, 2, 3, 4, 5, 6, 7, 8] (by kernel_rfl) ?_))
            exact hend .full rep0 10 hsub
        · rw [if_neg e1] at hsub
          by_cases e3 : x.num = (X.sub n).num + 1
          · rw [if_neg (by simpa using e3)] at hsub
            have e3t := eq_true e3
            have hlb := hM.ll
            have hpb := hM.pl
            by_cases e4 : 512 ≤ X.long.length + X.pend.length ∨ 8 ≤ X.pend.length
            · rw [if_pos e4] at hsub
              repeat' (first | (simp -dsimp only [↓reduceIte, go_sem, hs1, c0, cb0, hn0, hn1, hx0, hx1, b1, cS, A1, hwr, hokt, e1, e3t]) | (refine arr_intro fun _ => ?_) | (rw [wrap_i64 (by omega) (by omega)]) | (refine guardV_split (fun h => ?_) (fun h => ?_) <;> (try rw [h]) <;> (try simp at h) <;> (try (exfalso; omega))) | (refine refIs_c hB ?_) | ((refine refRight_c (m := Reg.subM n x) subM_by ?_)) | (refine idx1 hB hnH ?_) | (with_reducible refine awp_drawS (id := 3) [0, 1, 2, 3, 4, 5, 6, 7, 8, 9, 10] (by kernel_rfl) ?_) | (with_reducible refine awp_drawS (id := 7) [0, 1, 2, 3, 4, 5, 6, 7, 8, 9, 10, 11] (by kernel_rfl) ?_) | (with_reducible refine awp_drawS (id := 9) [0, 1, 2, 3, 4, 5, 6, 7, 8, 9, 10, 11, 12, 13, 14, 15, 16, 17, 18, 19] (by kernel_rfl) ?_))
              all_goals first
                | exact hend .full rep0 11 hsub
                | (exfalso; omega)
            · rw [if_neg e4] at hsub
              have e4' : ¬ (512 : Int) ≤ (X.long.length : Int) + X.pend.length := by omega
              have e5' : ¬ (8 : Int) ≤ X.pend.length := by omega
              have hk1 := cellAt_known hB.o1
              repeat' (first | (simp -dsimp only [↓reduceIte, go_sem, hs1, c0, cb0, hn0, hn1, hx0, hx1, b1, cS, A1, hwr, hokt, e1, e3t, e4', e5']) | (refine arr_intro fun _ => ?_) | (rw [wrap_i64 (by omega) (by omega)]) | (refine guardV_split (fun h => ?_) (fun h => ?_) <;> (try rw [h]) <;> (try simp at h) <;> (try (exfalso; omega))) | (refine refIs_c hB ?_) | ((refine refRight_c (m := Reg.subM n x) subM_by ?_)) | (refine idx1 hB hnH ?_) | (with_reducible refine awp_drawS (id := 3) [0, 1, 2, 3, 4, 5, 6, 7, 8, 9, 10] (by kernel_rfl) ?_) | (with_reducible refine awp_drawS (id := 7) [0, 1, 2, 3, 4, 5, 6, 7, 8, 9, 10, 11] (by kernel_rfl) ?_) | (with_reducible refine awp_drawS (id := 9) [0, 1, 2, 3, 4, 5, 6, 7, 8, 9, 10, 11, 12, 13, 14, 15, 16, 17, 18, 19] (by kernel_rfl) ?_))
              have oA := fun l => objs_known_app o l
              have cA := fun l => cellAt_known (oA l)
              have b0A := fun l => objs_known_app b0 l
              have hl1 := hB.lt
              have hb1l := (List.getElem?_eq_some_iff.1 b1).1
              repeat' (first | (simp -dsimp only [↓reduceIte, go_sem, c0, o, cb0, cA, oA]) | (refine later_intro ⟨keeps_nil, ?_⟩) | (with_reducible refine awp_drawU (id := 11) (.op 0 0 (.op 1 0 (.op 2 0 (.op 3 0 (.op 4 0 (.op 5 0 (.op 6 0 (.op 7 0 (.op 8 0 (.op 9 0 (.op 10 0 (.op 11 0 (.op 12 0 (.op 13 0 (.op 14 0 (.op 15 1 (.cut (.op 16 1 .nil)))))))))))))))))) (by kernel_rfl) ?_) | (with_reducible refine (And.intro (a := keeps _ _ _) ?_ ?_); focus (simp [keeps_cons, keeps_none, objs_app, objs_app0, oA, o, b0, b0A]; done)))
              refine awp_rounds (fun (i : Nat) τ s' => ∃ tk', Gr s1 s' tk' i 68 ∧ s'.objs[s1.objs.length]? = some (.cells (repV tk' (X.ans0 x.num ((X.pend.take i).map X.ansP)))) ∧ i ≤ X.pend.length ∧ τ 0 = .ptr (some (k, [])) ∧ τ 1 = .int .i64 n ∧ τ 5 = .ptr (some (s.objs.length, [])) ∧ τ 6 = .ptr (some (s.objs.length + 1, [])) ∧ τ 8 = .ptr (some (s1.objs.length, [])) ∧ τ 9 = .int .i64 i) (fun i => X.pend.length - i) 0 ?_ ?_
              · refine ⟨.full, Gr.start' (Ext.app _ _), objs_app0, by omega, ?_, ?_, ?_, ?_, ?_, ?_⟩ <;> (try simp only [go_sem]) <;> (try rfl)
              · rintro i τ s' ⟨tk', hg, b2, hi, t0, t1, t5, t6, t8, t9⟩
                have hQ := hB.ext hg.x
                have hQA := fun l => hQ.ext (Ext.app s' l)
                obtain ⟨tq, oq⟩ := hQ.o
                have oqA := fun l => objs_known_app oq l
                have cqA := fun l => cellAt_known (oqA l)
                have cq := cellAt_known oq
                have c2 := cellAt_known b2
                have b2A := fun l => objs_known_app b2 l
                have c2A := fun l => cellAt_known (b2A l)
                have h2 := (List.getElem?_eq_some_iff.1 b2).1
                have hkb0 := (hQ.f _ (List.mem_cons_self ..)).2
                have hkb1 := (hQ.f _ (List.mem_cons_of_mem _ (List.mem_cons_self ..))).2
                simp only at hkb0 hkb1
                have ckb0 := cellAt_known hkb0
                by_cases hil : i < X.pend.length
                · have hi1 : (i : Int) < X.pend.length := by omega
                  obtain ⟨y, hy, hym⟩ := get_of_lt hil
                  have hcy : X.has y.client := hM.cl y hym
                  have hnx := RM.ansP_next hy
                  have hgA := fun l => hg.app (l := l)
                  have A4 : ∀ l q, cellAt (s'.app l) i4 (y.client.toNat :: q) = (AV.dig (X.tg y.client)).at q := fun l q => by rw [cellAt_known (hQA l).o4, arr_at ((hQA l).tg hcy)]
                  repeat' (first | (simp -dsimp only [↓reduceIte, go_sem, t0, t1, t5, t6, t8, t9, hi1, cq, cqA, oqA, b2A, c2A, A4, cellAt_growS, objs_growS]) | (refine arr_intro fun _ => ?_) | (refine later_intro ⟨keeps_nil, ?_⟩) | (rw [wrap_i64 (by omega) (by omega)]) | (refine nth_get hy ?_) | (with_reducible refine awp_drawT (id := 16) (.op 0 2 (.op 1 2 (.op 2 2 (.op 3 2 (.op 4 2 (.op 5 2 (.op 6 2 (.op 7 2 (.op 8 2 (.op 9 1 .nil)))))))))) (by kernel_rfl) ?_) | (refine idx4 (hQA _) hcy ?_) | (refine build_pend ?_) | (refine append_pendx (a := (X.pend.take i).map X.ansP) (canApp_of (hgA _).c (by simp; omega)) (by simp; omega) ?_))
                  have hg2 := (hgA [.cells (pendV (X.ansP y))]).grow (m := i + 1)
                  refine later_intro ⟨i + 1, by omega, growT (s'.app [.cells (pendV (X.ansP y))]) tk', ?_, ?_, by omega, ?_, ?_, ?_, ?_, ?_, ?_⟩ <;> (try simp only [go_sem, t0, t1, t5, t6, t8, t9]) <;> (try rfl)
                  · have he : (X.pend.take i).length = i := by simp; omega
                    rw [he]
                    exact hg2.set (Nat.le_refl _)
                  · rw [objs_setSx (by simp only [growS_objs]; exact (List.getElem?_eq_some_iff.1 (b2A _)).1), hnx]; rfl
                · have hi1 : ¬ (i : Int) < X.pend.length := by omega
                  have he : i = X.pend.length := by omega
                  subst he
                  rw [List.take_length] at b2 b2A c2A c2
                  by_cases hk : x.kind = 2
                  · have hlq := hQ.lt
                    have nkq : s1.objs.length ≠ k ∧ s1.objs.length ≠ i1 ∧ s1.objs.length ≠ i2 ∧ s1.objs.length ≠ i3 ∧ s1.objs.length ≠ i4 ∧ s1.objs.length ≠ s.objs.length := by omega
                    obtain ⟨m0, m1, m2, m3, m4, m5⟩ := nkq
                    have hQv : ∀ v, QF σ0 (s'.set s1.objs.length v) k i1 i2 i3 i4 X ((s.objs.length, .cells (subV x)) :: (s.objs.length + 1, .cells (.agg (repPs .full rep0))) :: F) := fun v => by
                      refine hQ.setN (by omega) ?_ fun y hy => ?_
                      · simp only [List.mem_cons, List.not_mem_nil, or_false, not_or]; omega
                      · simp only [List.mem_cons] at hy
                        rcases hy with rfl | rfl | hy
                        · simp only; omega
                        · simp only; omega
                        · have := hFl y hy; omega
                    have cS2 : ∀ v p, cellAt (s'.set s1.objs.length (.cells v)) s1.objs.length p = v.at p := fun v p => cellAt_setSx h2
                    have oS2 : ∀ v, (s'.set s1.objs.length v).objs[s1.objs.length]? = some v := fun v => objs_setSx h2
                    have A1s : ∀ q, cellAt s' i1 (x.target.toNat :: q) = (AV.agg (subPs (X.sub x.target))).at q := fun q => by rw [cellAt_known hQ.o1, arr_at (f := fun x => AV.agg (subPs x)) (hQ.sub hxH)]
                    have A3s : ∀ q, cellAt s' i3 (x.target.toNat :: q) = (AV.str (X.view x.target)).at q := fun q => by rw [cellAt_known hQ.o3, arr_at (hQ.view hxH)]
                    have A4s : ∀ q, cellAt s' i4 (x.target.toNat :: q) = (AV.dig (X.tg x.target)).at q := fun q => by rw [cellAt_known hQ.o4, arr_at (hQ.tg hxH)]
                    repeat' (first | (simp -dsimp only [↓reduceIte, go_sem, t0, t1, t5, t6, t8, t9, hi1, cq, ckb0, hk, b2, c2, A1s, A3s, A4s, cellAt_setNx m0, cellAt_setNx m1, cellAt_setNx m3, cellAt_setNx m4, cellAt_setNx m5, objs_setNx m0, cS2, oS2, set_setx]) | (refine arr_intro fun _ => ?_) | (refine idx1 hQ hxH ?_) | (refine idx1 (hQv _) hxH ?_) | (refine idx3 (hQv _) hxH ?_) | (refine idx4 (hQv _) hxH ?_))
                    have h2S := oS2 (.cells (repV tk' (X.ansC x.num (X.pend.map X.ansP) x.target)))
                    have hQ0 := hQv (.cells (repV tk' (X.ansC x.num (X.pend.map X.ansP) x.target)))
                    have hQ1 := hQ0.more (i := s1.objs.length) (o := .cells (repV tk' (X.ansC x.num (X.pend.map X.ansP) x.target))) h2S (by simp only [List.mem_cons, List.not_mem_nil, or_false, not_or]; omega)
                    generalize hSS : AST.set s' s1.objs.length _ = S
                    replace hQ1 : QF σ0 S k i1 i2 i3 i4 X ((s1.objs.length, .cells (repV tk' (X.ansC x.num (X.pend.map X.ansP) x.target))) :: (s.objs.length, .cells (subV x)) :: (s.objs.length + 1, .cells (.agg (repPs .full rep0))) :: F) := by first | exact hQ1 | (rw [← hSS]; exact hQ1)
                    have hAA : X.ansC x.num (X.pend.map X.ansP) x.target = X.ans x := by unfold RM.ans; rw [if_pos hk]
                    rw [hAA] at hQ1
                    clear hQ0 h2S
                    obtain ⟨ta, oa⟩ := hQ1.o
                    have ca := cellAt_known oa
                    have g2 := (hQ1.f _ (List.mem_cons_self ..)).2
                    have g0 := (hQ1.f _ (List.mem_cons_of_mem _ (List.mem_cons_self ..))).2
                    simp only at g2 g0
                    have cg0 := cellAt_known g0
                    have so1 : ∀ w, setOk (.agg (X.subs.map fun x => AV.agg (subPs x))) [n.toNat] w := fun w => arr_setOk
                    have sa1 : (AV.agg (X.subs.map fun x => AV.agg (subPs x))).setAt [n.toNat] (.agg (subPs x)) = .agg ((X.subs.set n.toNat x).map fun x => AV.agg (subPs x)) := arr_setAt (f := fun x => AV.agg (subPs x)) (hQ1.sub hnH)
                    have at1 : (AV.agg (X.subs.map fun x => AV.agg (subPs x))).at [n.toNat] = some (.agg (subPs (X.sub n))) := by rw [arr_at (f := fun x => AV.agg (subPs x)) (hQ1.sub hnH)]; rfl
                    repeat' (first | (simp -dsimp only [↓reduceIte, go_sem, hQ1.o1, so1, sa1, at1, ca, cg0, t0, t1, t5, t6, t8, t9]) | (refine later_intro ⟨keeps_nil, ?_⟩) | (with_reducible refine awp_drawT (id := 25) (.op 0 2 (.op 1 2 (.op 2 2 (.op 3 2 (.op 4 2 (.op 5 2 (.op 6 2 (.op 7 1 .nil)))))))) (by kernel_rfl) ?_) | (refine idx1 hQ1 hnH ?_))
                    have hQ2 := hQ1.put1 (i := n.toNat) (y := x)
                    generalize S.set i1 _ = S2 at hQ2 ⊢
                    obtain ⟨tb, ob⟩ := hQ2.o
                    have cb := cellAt_known ob
                    have g2 := (hQ2.f _ (List.mem_cons_self ..)).2
                    simp only at g2
                    have cg2 := cellAt_known g2
                    obtain ⟨l, hl, o2⟩ := hQ2.o2
                    have hll : n.toNat < l.length := by
                      have h1 := congrArg List.length hl
                      simp only [List.length_map] at h1
                      have h2 := hQ2.l2
                      simp only at h1 h2
                      omega
                    have hlg := List.getElem?_eq_getElem hll
                    have so2 : ∀ w, setOk (.agg (l.map repP)) [n.toNat] w := fun w => arr_setOk
                    have sa2 : ∀ t y, (AV.agg (l.map repP)).setAt [n.toNat] (.agg (repPs t y)) = .agg ((l.set n.toNat (t, y)).map repP) := fun t y => arr_setAt (f := repP) (z := (t, y)) hlg
                    have at2 : (AV.agg (l.map repP)).at [n.toNat] = some (.agg (repPs (l[n.toNat]).1 (l[n.toNat]).2)) := by rw [arr_at (f := repP) hlg]; rfl
                    repeat' (first | (simp -dsimp only [↓reduceIte, go_sem, o2, so2, sa2, at2, cb, cg2, t0, t1, t5, t6, t8, t9]) | (refine later_intro ⟨keeps_nil, ?_⟩) | (with_reducible refine awp_drawT (id := 26) (.op 0 2 (.op 1 2 (.op 2 2 (.op 3 2 (.op 4 2 (.op 5 2 (.op 6 2 (.op 7 1 .nil)))))))) (by kernel_rfl) ?_) | (refine idx2 hQ2 hnH ?_))
                    have hQ3 := hQ2.put2 hl (i := n.toNat) (t := tk') (y := X.ans x)
                    generalize S2.set i2 _ = S3 at hQ3 ⊢
                    obtain ⟨tc, oc⟩ := hQ3.o
                    have cc := cellAt_known oc
                    have g0 := (hQ3.f _ (List.mem_cons_of_mem _ (List.mem_cons_self ..))).2
                    simp only at g0
                    have cg0 := cellAt_known g0
                    have hpb' : X.pend.length ≤ 8 := hpb
                    repeat' (first | (simp -dsimp only [↓reduceIte, go_sem, oc, cc, cg0, cellAt_growS, objs_growS, t0, t1, t5, t6, t8, t9]) | (refine later_intro ⟨keeps_nil, ?_⟩) | (refine later_intro ⟨keeps_refl, ?_⟩) | (with_reducible refine awp_drawU (id := 27) (.op 0 0 (.op 1 2 (.op 2 2 (.op 3 2 (.op 4 2 (.op 5 2 (.op 7 0 (.op 8 0 (.op 9 0 (.op 10 0 (.op 11 0 (.op 12 0 (.op 13 0 (.op 14 0 (.op 15 0 (.op 16 0 (.op 17 0 (.op 6 1 (.op 18 1 (.cut (.op 19 2 (.op 20 2 (.op 21 1 .nil))))))))))))))))))))))) (by kernel_rfl) ?_) | (refine build_pend0 ?_) | (refine build_pend ?_) | (refine append_pnone (by omega) ?_) | (refine append_pendx canGrow (by omega) ?_))
                    have hQ4 := ((hQ3.grow (tk := .full) (m := X.pend.length) (e := 68) (.inl rfl)).grow (tk := growT S3 .full) (m := X.pend.length + 1) (e := 68) ((show tkNew σ0 .full from .inl rfl).grow hQ3.x)).putk (t := growT (growS S3 .full X.pend.length 68) (growT S3 .full)) (b := X.by_) (l := X.long) (g := X.tag) (p := X.pend ++ [{ client := n, num := x.num, kind := x.kind, target := x.target, asked := x.asked, proof := pend0.proof }])
                    generalize AST.set _ k _ = S4 at hQ4 ⊢
                    have g2 := (hQ4.f _ (List.mem_cons_self ..)).2
                    have g1 := (hQ4.f _ (List.mem_cons_of_mem _ (List.mem_cons_of_mem _ (List.mem_cons_self ..)))).2
                    simp only at g2 g1
                    have cg2 := cellAt_known g2
                    have cS4 : ∀ v p, cellAt (S4.set (s.objs.length + 1) (.cells v)) (s.objs.length + 1) p = v.at p := fun v p => cellAt_setSx (List.getElem?_eq_some_iff.1 g1).1
                    repeat' (simp -dsimp only [↓reduceIte, go_sem, cg2, g1, cS4, t0, t1, t5, t6, t8, t9])
                    have hfin := hK tk' (S4.set (s.objs.length + 1) (.cells (repV tk' (X.ans x)))) (by
                      rw [hsub]
                      refine hQ4.less.less.less.setN (by omega) ?_ fun y hy => by have := hFl y hy; omega
                      simp only [List.mem_cons, List.not_mem_nil, or_false, not_or]; omega)
                    rw [hsub] at hfin
                    exact hfin
                  · repeat' (first | (simp -dsimp only [↓reduceIte, go_sem, t0, t1, t5, t6, t8, t9, hi1, cq, ckb0, hk]) | (refine arr_intro fun _ => ?_) | (refine guardV_split (fun h => ?_) (fun h => ?_) <;> (try rw [h]) <;> (try simp at h) <;> (try (exfalso; omega))))
                    have h2S := b2
                    have hQ0 := hQ
                    have hQ1 := hQ0.more (i := s1.objs.length) (o := .cells (repV tk' (X.ans0 x.num (X.pend.map X.ansP)))) h2S (by simp only [List.mem_cons, List.not_mem_nil, or_false, not_or]; omega)
                    generalize hSS : s' = S at hQ1 ⊢
                    replace hQ1 : QF σ0 S k i1 i2 i3 i4 X ((s1.objs.length, .cells (repV tk' (X.ans0 x.num (X.pend.map X.ansP)))) :: (s.objs.length, .cells (subV x)) :: (s.objs.length + 1, .cells (.agg (repPs .full rep0))) :: F) := by first | exact hQ1 | (rw [← hSS]; exact hQ1)
                    have hAA : X.ans0 x.num (X.pend.map X.ansP) = X.ans x := by unfold RM.ans; rw [if_neg hk]
                    rw [hAA] at hQ1
                    clear hQ0 h2S
                    obtain ⟨ta, oa⟩ := hQ1.o
                    have ca := cellAt_known oa
                    have g2 := (hQ1.f _ (List.mem_cons_self ..)).2
                    have g0 := (hQ1.f _ (List.mem_cons_of_mem _ (List.mem_cons_self ..))).2
                    simp only at g2 g0
                    have cg0 := cellAt_known g0
                    have so1 : ∀ w, setOk (.agg (X.subs.map fun x => AV.agg (subPs x))) [n.toNat] w := fun w => arr_setOk
                    have sa1 : (AV.agg (X.subs.map fun x => AV.agg (subPs x))).setAt [n.toNat] (.agg (subPs x)) = .agg ((X.subs.set n.toNat x).map fun x => AV.agg (subPs x)) := arr_setAt (f := fun x => AV.agg (subPs x)) (hQ1.sub hnH)
                    have at1 : (AV.agg (X.subs.map fun x => AV.agg (subPs x))).at [n.toNat] = some (.agg (subPs (X.sub n))) := by rw [arr_at (f := fun x => AV.agg (subPs x)) (hQ1.sub hnH)]; rfl
                    repeat' (first | (simp -dsimp only [↓reduceIte, go_sem, hQ1.o1, so1, sa1, at1, ca, cg0, t0, t1, t5, t6, t8, t9]) | (refine later_intro ⟨keeps_nil, ?_⟩) | (with_reducible refine awp_drawT (id := 25) (.op 0 2 (.op 1 2 (.op 2 2 (.op 3 2 (.op 4 2 (.op 5 2 (.op 6 2 (.op 7 1 .nil)))))))) (by kernel_rfl) ?_) | (refine idx1 hQ1 hnH ?_))
                    have hQ2 := hQ1.put1 (i := n.toNat) (y := x)
                    generalize S.set i1 _ = S2 at hQ2 ⊢
                    obtain ⟨tb, ob⟩ := hQ2.o
                    have cb := cellAt_known ob
                    have g2 := (hQ2.f _ (List.mem_cons_self ..)).2
                    simp only at g2
                    have cg2 := cellAt_known g2
                    obtain ⟨l, hl, o2⟩ := hQ2.o2
                    have hll : n.toNat < l.length := by
                      have h1 := congrArg List.length hl
                      simp only [List.length_map] at h1
                      have h2 := hQ2.l2
                      simp only at h1 h2
                      omega
                    have hlg := List.getElem?_eq_getElem hll
                    have so2 : ∀ w, setOk (.agg (l.map repP)) [n.toNat] w := fun w => arr_setOk
                    have sa2 : ∀ t y, (AV.agg (l.map repP)).setAt [n.toNat] (.agg (repPs t y)) = .agg ((l.set n.toNat (t, y)).map repP) := fun t y => arr_setAt (f := repP) (z := (t, y)) hlg
                    have at2 : (AV.agg (l.map repP)).at [n.toNat] = some (.agg (repPs (l[n.toNat]).1 (l[n.toNat]).2)) := by rw [arr_at (f := repP) hlg]; rfl
                    repeat' (first | (simp -dsimp only [↓reduceIte, go_sem, o2, so2, sa2, at2, cb, cg2, t0, t1, t5, t6, t8, t9]) | (refine later_intro ⟨keeps_nil, ?_⟩) | (with_reducible refine awp_drawT (id := 26) (.op 0 2 (.op 1 2 (.op 2 2 (.op 3 2 (.op 4 2 (.op 5 2 (.op 6 2 (.op 7 1 .nil)))))))) (by kernel_rfl) ?_) | (refine idx2 hQ2 hnH ?_))
                    have hQ3 := hQ2.put2 hl (i := n.toNat) (t := tk') (y := X.ans x)
                    generalize S2.set i2 _ = S3 at hQ3 ⊢
                    obtain ⟨tc, oc⟩ := hQ3.o
                    have cc := cellAt_known oc
                    have g0 := (hQ3.f _ (List.mem_cons_of_mem _ (List.mem_cons_self ..))).2
                    simp only at g0
                    have cg0 := cellAt_known g0
                    have hpb' : X.pend.length ≤ 8 := hpb
                    repeat' (first | (simp -dsimp only [↓reduceIte, go_sem, oc, cc, cg0, cellAt_growS, objs_growS, t0, t1, t5, t6, t8, t9]) | (refine later_intro ⟨keeps_nil, ?_⟩) | (refine later_intro ⟨keeps_refl, ?_⟩) | (with_reducible refine awp_drawU (id := 27) (.op 0 0 (.op 1 2 (.op 2 2 (.op 3 2 (.op 4 2 (.op 5 2 (.op 7 0 (.op 8 0 (.op 9 0 (.op 10 0 (.op 11 0 (.op 12 0 (.op 13 0 (.op 14 0 (.op 15 0 (.op 16 0 (.op 17 0 (.op 6 1 (.op 18 1 (.cut (.op 19 2 (.op 20 2 (.op 21 1 .nil))))))))))))))))))))))) (by kernel_rfl) ?_) | (refine build_pend0 ?_) | (refine build_pend ?_) | (refine append_pnone (by omega) ?_) | (refine append_pendx canGrow (by omega) ?_))
                    have hQ4 := ((hQ3.grow (tk := .full) (m := X.pend.length) (e := 68) (.inl rfl)).grow (tk := growT S3 .full) (m := X.pend.length + 1) (e := 68) ((show tkNew σ0 .full from .inl rfl).grow hQ3.x)).putk (t := growT (growS S3 .full X.pend.length 68) (growT S3 .full)) (b := X.by_) (l := X.long) (g := X.tag) (p := X.pend ++ [{ client := n, num := x.num, kind := x.kind, target := x.target, asked := x.asked, proof := pend0.proof }])
                    generalize AST.set _ k _ = S4 at hQ4 ⊢
                    have g2 := (hQ4.f _ (List.mem_cons_self ..)).2
                    have g1 := (hQ4.f _ (List.mem_cons_of_mem _ (List.mem_cons_of_mem _ (List.mem_cons_self ..)))).2
                    simp only at g2 g1
                    have cg2 := cellAt_known g2
                    have cS4 : ∀ v p, cellAt (S4.set (s.objs.length + 1) (.cells v)) (s.objs.length + 1) p = v.at p := fun v p => cellAt_setSx (List.getElem?_eq_some_iff.1 g1).1
                    repeat' (simp -dsimp only [↓reduceIte, go_sem, cg2, g1, cS4, t0, t1, t5, t6, t8, t9])
                    have hfin := hK tk' (S4.set (s.objs.length + 1) (.cells (repV tk' (X.ans x)))) (by
                      rw [hsub]
                      refine hQ4.less.less.less.setN (by omega) ?_ fun y hy => by have := hFl y hy; omega
                      simp only [List.mem_cons, List.not_mem_nil, or_false, not_or]; omega)
                    rw [hsub] at hfin
                    exact hfin
          · rw [if_pos e3] at hsub
            repeat' (first | (simp -dsimp only [↓reduceIte, go_sem, hs1, c0, cb0, hn0, hn1, hx0, hx1, b1, cS, A1, hwr, hokt, e1, e3]) | (refine guardV_split (fun h => ?_) (fun h => ?_) <;> (try rw [h]) <;> (try simp at h) <;> (try (exfalso; omega))) | (refine refIs_c hB ?_) | ((refine refRight_c (m := Reg.subM n x) subM_by ?_)) | (refine idx1 hB hnH ?_) | (with_reducible refine awp_drawS (id := 3) [0, 1, 2, 3, 4, 5, 6, 7, 8, 9, 10] (by kernel_rfl) ?_) | (with_reducible refine awp_drawS (id := 7) [0, 1, 2, 3, 4, 5, 6, 7, 8, 9, 10, 11] (by kernel_rfl) ?_))
            exact hend .full rep0 3 hsub
      · have hsub : X.submit n x = (X, rep0, 2) := by unfold RM.submit; rw [if_pos (.inr (.inr hxH))]
        have hokt := eq_true hok
        have hn0 := hnH.1
        have hn1 := hnH.2
        have hxd : (0 ≤ x.target ∧ x.target < X.n) = False := eq_false hxH
        repeat' (first | (simp -dsimp only [↓reduceIte, go_sem, hs1, c0, cb0, hn0, hn1, hxd, b1, cS, hokt]) | (refine refIs_c hB ?_) | ((refine refRight_c (m := Reg.subM n x) subM_by ?_)))
        all_goals first
          | exact hend .full rep0 2 hsub
          | (refine absurd ?_ hxH; assumption)
    · have hsub : X.submit n x = (X, rep0, 2) := by unfold RM.submit; rw [if_pos (.inr (.inl hnH))]
      have hokt := eq_true hok
      have hnd : (0 ≤ n ∧ n < X.n) = False := eq_false hnH
      repeat' (first | (simp -dsimp only [↓reduceIte, go_sem, hs1, c0, cb0, hnd, b1, cS, hokt]) | (refine refIs_c hB ?_) | ((refine refRight_c (m := Reg.subM n x) subM_by ?_)))
      all_goals first
        | exact hend .full rep0 2 hsub
        | (refine absurd ?_ hnH; assumption)
  · have hsub : X.submit n x = (X, rep0, 2) := by unfold RM.submit; rw [if_pos (.inl hok)]
    repeat' (first | (simp -dsimp only [↓reduceIte, go_sem, hs1, c0, cb0, b1, cS, hok]) | ((refine refRight_c (m := Reg.subM n x) subM_by ?_)))
    exact hend .full rep0 2 hsub
end
end Go.Aff.L10

