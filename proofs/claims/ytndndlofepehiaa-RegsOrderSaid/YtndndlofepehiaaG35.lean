import Derived.Test.YtndndlofepehiaaG34

set_option linter.unusedSimpArgs false
set_option linter.unusedVariables false

/- Layer 12, walked: the reference's Commit. -/
-- cuts
namespace Go.Aff.L10
open Go.Proofs Go.Aff Go.Aff.L01 Classical
set_option linter.unusedVariables false
set_option linter.unusedSimpArgs false
set_option maxRecDepth 20000
attribute [local go_sem] push_app app_app length_app cellAt_app cellAt_app0 set_app set_app0 objs_app objs_app0 List.cons_append List.nil_append List.length_cons List.length_nil List.getElem?_cons_zero List.getElem?_cons_succ List.set_cons_zero List.set_cons_succ List.length_map
attribute [-go_sem] cellAt_new
attribute [-simp] List.length_flatMap
attribute [local go_sem] Try.underlying3 Try.underlying4 Try.underlying5 Try.underlying9 Try.underlying31 Try.underlying32 Try.underlying41 Try.underlying75 Try.underlying24 Try.underlying81 subPs_0 subAt_0 subSet_0 subPs_1 subAt_1 subSet_1 subPs_2 subAt_2 subSet_2 subPs_3 subAt_3 subSet_3 subPs_4 subAt_4 subSet_4 subPs_5 subAt_5 subSet_5 sizes_sub shapes_sub fits_sub zero_sub zt_sub built_sub Try.underlying34 pendPs_0 pendAt_0 pendSet_0 pendPs_1 pendAt_1 pendSet_1 pendPs_2 pendAt_2 pendSet_2 pendPs_3 pendAt_3 pendSet_3 pendPs_4 pendAt_4 pendSet_4 pendPs_5 pendAt_5 pendSet_5 sizes_pend shapes_pend fits_pend zero_pend zt_pend built_pend Try.underlying70 repPs_0 repAt_0 repSet_0 repPs_1 repAt_1 repSet_1 repPs_2 repAt_2 repSet_2 repPs_3 repAt_3 repSet_3 repPs_4 repAt_4 repSet_4 repPs_5 repAt_5 repSet_5 repPs_6 repAt_6 repSet_6 repPs_7 repAt_7 repSet_7 repPs_8 repAt_8 repSet_8 repPs_9 repAt_9 repSet_9 sizes_rep shapes_rep fits_rep zero_rep zt_rep built_rep Try.underlying43 blobPs_0 blobAt_0 blobSet_0 blobPs_1 blobAt_1 blobSet_1 blobPs_2 blobAt_2 blobSet_2 blobPs_3 blobAt_3 blobSet_3 sizes_blob shapes_blob fits_blob zero_blob zt_blob built_blob Try.underlying74 msgPs_0 msgAt_0 msgSet_0 msgPs_1 msgAt_1 msgSet_1 msgPs_2 msgAt_2 msgSet_2 msgPs_3 msgAt_3 msgSet_3 msgPs_4 msgAt_4 msgSet_4 msgPs_5 msgAt_5 msgSet_5 msgPs_6 msgAt_6 msgSet_6 msgPs_7 msgAt_7 msgSet_7 msgPs_8 msgAt_8 msgSet_8 msgPs_9 msgAt_9 msgSet_9 sizes_msg shapes_msg fits_msg zero_msg zt_msg built_msg Try.underlying77 at_Ps_0 at_Set_0 at_Ps_1 at_Set_1 sizes_at_ shapes_at_
attribute [local go_sem] fits3 fits4 fits5 fits9 fits23 fits26 fits31 fits34 fits52 zt3 zero3 zt34 zero34 zt23 zero23 bin_sub_eql bin_pend_eql bin_pend_neq bin_blob_eql bin_dig23_eql bin_dig23_neq slice23
attribute [local go_sem ↓] blockQ_exit2
attribute [local simp] dig_ext
attribute [local go_sem] cliPs_0 cliAt_0 cliSet_0 cliPs_1 cliAt_1 cliSet_1 cliPs_2 cliAt_2 cliSet_2 cliPs_3 cliAt_3 cliSet_3 sizes_cli shapes_cli fits_cli zero_cli zt_cli built_cli actPs_0 actAt_0 actSet_0 actPs_1 actAt_1 actSet_1 actPs_2 actAt_2 actSet_2 actPs_3 actAt_3 actSet_3 actPs_4 actAt_4 actSet_4 sizes_act shapes_act fits_act zero_act zt_act built_act rgPs_0 rgPs_1 rgPs_2 rgPs_3 rgPs_4 rgPs_5 rgSet_0 rgSet_2 rgSet_3 rgSet_4 rgSet_5 rgAt_0 rgAt_1 fits_rg zero_rg zt_rg built_rg fits66 rrgPs_0 rrgSet_0 rrgAt_0 rrgPs_1 rrgSet_1 rrgAt_1 rrgPs_2 rrgSet_2 rrgAt_2 rrgPs_3 rrgSet_3 rrgAt_3 rrgPs_4 rrgSet_4 rrgAt_4 rrgPs_5 rrgSet_5 rrgAt_5 rrgPs_6 rrgSet_6 rrgAt_6 rrgPs_7 rrgSet_7 rrgAt_7 sizes_rrg shapes_rrg fits_rrg zero_rrg zt_rrg built_rrg fits57 fits58 fits39 fits59 fits23r fits41 arrV_none arrV_some arrV_size arrV_agg arrV_shape Try.underlying22 Try.underlying23 Try.underlying28 Try.underlying36 Try.underlying39 Try.underlying57 Try.underlying58 Try.underlying59 Try.underlying61 Try.underlying65 Try.underlying66 Try.underlying68 Try.underlying78
attribute [local go_sem] isAgg_arr size_arr shape_arr known_arr
noncomputable def RM.commit (X : RM) (n : Int) (v : List UInt8) (t : Dig) : RM × Int :=
  if ¬ (Reg.comM n v t).Ok ∨ ¬ X.has n then (X, 2)
  else if ((v.getLast?.getD 0).toNat : Int) ≠ n ∨ (Go.Aff.L09.cnt n v : Int) ≠ (X.sub n).num then (X, 3)
  else if Go.Aff.L09.cnt n (X.view n) = Go.Aff.L09.cnt n v then (X, 10)
  else if v.length ≤ X.long.length then ({ X with views := X.views.set n.toNat v, tags := X.tags.set n.toNat t }, 0)
  else ({ X with views := X.views.set n.toNat v, tags := X.tags.set n.toNat t, by_ := n, long := v, tag := t, pend := Reg.cut n (Go.Aff.L09.cnt n v) X.pend }, 0)
section
variable {σ0 s s2 : AST} {k i1 i2 i3 i4 : Nat} {X : RM} {F : List (Nat × AObj)} {K : AV → AST → Prop}
theorem refCommit_c (h : QF σ0 s k i1 i2 i3 i4 X F) (hM : X.Ok) {n : Int} {v : List UInt8} {t : Dig} (hK : ∀ s', QF σ0 s' k i1 i2 i3 i4 (X.commit n v t).1 F → K (.int .i64 (X.commit n v t).2) s') :
    TCalls Try.prog 24 [.ptr (some (k, [])), .int .i64 n, .str v, .dig t] s K := by
  have hn8 := h.n8
  have hlt := h.lt
  have hpb := hM.pl
  have hB := h.box (.cells (.dig t))
  generalize hs1 : s.app [.cells (.dig t)] = s1 at hB
  obtain ⟨tk, o⟩ := hB.o
  have c0 := cellAt_known o
  have b0 := (hB.f _ (List.mem_cons_self ..)).2
  simp only at b0
  have cb0 := cellAt_known b0
  have hend : ∀ e, X.commit n v t = (X, e) → K (.int .i64 e) s1 := fun e he => by
    have := hK s1 (by rw [he]; exact hB.less)
    rw [he] at this; exact this
  refine tcalls_walk Try.f24 _ [.tmp 8] Try.func24 rfl rfl rfl mixed (Nat.le_of_ble_eq_true rfl) rfl fun hlen => ?_
  by_cases hok : (Reg.comM n v t).Ok
  · have hokt := eq_true hok
    by_cases hn : X.has n
    · have hgo : ¬ (¬ (Reg.comM n v t).Ok ∨ ¬ X.has n) := by rintro (h | h) <;> contradiction
      have hn0 := hn.1
      have hn1 := hn.2
      have hf : v ≠ [] ∧ ViewOk 8 v := by have := hok.1; simpa [Msg.FieldsOk, Reg.comM] using this
      obtain ⟨hvne, hvo⟩ := hf
      have hvl : 1 ≤ v.length := by have := List.length_pos_iff.2 hvne; omega
      have hvm : v.length ≤ 512 := hvo.2.1
      have hlast := last_get hvne
      have hl1 : (v.length : Int) - 1 = ((v.length - 1 : Nat) : Int) := by omega
      have hwl : IntKind.i64.wrap ((v.length - 1 : Nat) : Int) = ((v.length - 1 : Nat) : Int) := wrap_i64 (by omega) (by omega)
      generalize hlb : v.getLast?.getD 0 = b at hlast
      have hwb : IntKind.i64.wrap (b.toNat : Int) = b.toNat := wrap_i64 (by omega) (by have := b.toNat_lt; omega)
      have hcom : X.commit n v t = if (b.toNat : Int) ≠ n ∨ (Go.Aff.L09.cnt n v : Int) ≠ (X.sub n).num then (X, 3)
          else if Go.Aff.L09.cnt n (X.view n) = Go.Aff.L09.cnt n v then (X, 10)
          else if v.length ≤ X.long.length then ({ X with views := X.views.set n.toNat v, tags := X.tags.set n.toNat t }, 0)
          else ({ X with views := X.views.set n.toNat v, tags := X.tags.set n.toNat t, by_ := n, long := v, tag := t, pend := Reg.cut n (Go.Aff.L09.cnt n v) X.pend }, 0) := by
        unfold RM.commit; rw [if_neg hgo, hlb]
      generalize hcv : Go.Aff.L09.cnt n v = kv at hcom
      have A1 : ∀ q, cellAt s1 i1 (n.toNat :: q) = (AV.agg (subPs (X.sub n))).at q := fun q => by rw [cellAt_known hB.o1, arr_at (f := fun x => AV.agg (subPs x)) (hB.sub hn)]
      have A3 : ∀ q, cellAt s1 i3 (n.toNat :: q) = (AV.str (X.view n)).at q := fun q => by rw [cellAt_known hB.o3, arr_at (hB.view hn)]
      by_cases e1 : (b.toNat : Int) = n
      · have e1t := eq_true e1
        by_cases e2 : (kv : Int) = (X.sub n).num
        · have e2t := eq_true e2
          rw [if_neg (by rintro (h | h); exact h e1; exact h e2)] at hcom
          by_cases e3 : Go.Aff.L09.cnt n (X.view n) = kv
          · rw [if_pos e3] at hcom
            repeat' (first | (simp -dsimp only [↓reduceIte, go_sem, hs1, c0, cb0, hn0, hn1, A1, A3, hl1, hwl, hwb, hokt, e1t, e2t]) | (refine arr_intro fun _ => ?_) | (refine later_intro ⟨keeps_nil, ?_⟩) | (refine later_intro ⟨keeps_refl, ?_⟩) | (with_reducible refine keeps_go ?_ ?_; focus (first | (simp [keeps_cons, keeps_none, objs_app, objs_app0]; done) | (simp only [keeps_cons, keeps_none, objs_app0, objs_app, and_true]; first | rfl | exact ⟨rfl, rfl⟩ | exact ⟨rfl, rfl, rfl⟩))) | (with_reducible refine (And.intro (a := keeps _ _ _) ?_ ?_); focus (first | (simp [keeps_cons, keeps_none, objs_app, objs_app0]; done) | (simp only [keeps_cons, keeps_none, objs_app0, objs_app, and_true]; first | rfl | exact ⟨rfl, rfl⟩ | exact ⟨rfl, rfl, rfl⟩))) | (refine both_ways ?_ ?_) | (rw [wrap_i64 (by omega) (by omega)]) | (refine guardV_split (fun h => ?_) (fun h => ?_) <;> (try rw [h]) <;> (try simp at h) <;> (try (exfalso; omega))) | (refine refIs_c hB ?_) | ((refine refRight_c (m := Reg.comM n v t) comM_by ?_)) | ((refine Go.Aff.L09.Count_c ?_; first | rw [hcv] | rw [e3])) | (refine idx1 hB hn ?_) | (refine idx3 hB hn ?_) | (refine nth_get hlast ?_))
            exact hend 10 hcom
          · rw [if_neg e3] at hcom
            have e3t : ¬ ((Go.Aff.L09.cnt n (X.view n) : Nat) : Int) = kv := by omega
            have so3 : ∀ w, setOk (.agg (X.views.map .str)) [n.toNat] w := fun w => arr_setOk
            have sa3 : (AV.agg (X.views.map .str)).setAt [n.toNat] (.str v) = .agg ((X.views.set n.toNat v).map .str) := arr_setAt (f := .str) (hB.view hn)
            have at3 : (AV.agg (X.views.map .str)).at [n.toNat] = some (.str (X.view n)) := by rw [arr_at (f := .str) (hB.view hn)]; rfl
            repeat' (first | (simp -dsimp only [↓reduceIte, go_sem, hs1, c0, cb0, hn0, hn1, A1, A3, hl1, hwl, hwb, hokt, e1t, e2t, e3t, hB.o3, so3, sa3, at3]) | (refine arr_intro fun _ => ?_) | (refine later_intro ⟨keeps_nil, ?_⟩) | (refine later_intro ⟨keeps_refl, ?_⟩) | (with_reducible refine keeps_go ?_ ?_; focus (first | (simp [keeps_cons, keeps_none, objs_app, objs_app0]; done) | (simp only [keeps_cons, keeps_none, objs_app0, objs_app, and_true]; first | rfl | exact ⟨rfl, rfl⟩ | exact ⟨rfl, rfl, rfl⟩))) | (with_reducible refine (And.intro (a := keeps _ _ _) ?_ ?_); focus (first | (simp [keeps_cons, keeps_none, objs_app, objs_app0]; done) | (simp only [keeps_cons, keeps_none, objs_app0, objs_app, and_true]; first | rfl | exact ⟨rfl, rfl⟩ | exact ⟨rfl, rfl, rfl⟩))) | (refine both_ways ?_ ?_) | (rw [wrap_i64 (by omega) (by omega)]) | (refine guardV_split (fun h => ?_) (fun h => ?_) <;> (try rw [h]) <;> (try simp at h) <;> (try (exfalso; omega))) | (refine refIs_c hB ?_) | ((refine refRight_c (m := Reg.comM n v t) comM_by ?_)) | ((refine Go.Aff.L09.Count_c ?_; try rw [hcv])) | (refine idx1 hB hn ?_) | (refine idx3 hB hn ?_) | (refine nth_get hlast ?_))
            have hQ1 := hB.put3 (i := n.toNat) (y := v)
            generalize s1.set i3 _ = S1 at hQ1 ⊢
            obtain ⟨ta, oa⟩ := hQ1.o
            have ca := cellAt_known oa
            have g0 := (hQ1.f _ (List.mem_cons_self ..)).2
            simp only at g0
            have cg0 := cellAt_known g0
            have so4 : ∀ w, setOk (.agg (X.tags.map .dig)) [n.toNat] w := fun w => arr_setOk
            have sa4 : (AV.agg (X.tags.map .dig)).setAt [n.toNat] (.dig t) = .agg ((X.tags.set n.toNat t).map .dig) := arr_setAt (f := .dig) (hB.tg hn)
            have at4 : (AV.agg (X.tags.map .dig)).at [n.toNat] = some (.dig (X.tg n)) := by rw [arr_at (f := .dig) (hB.tg hn)]; rfl
            repeat' (first | (simp -dsimp only [↓reduceIte, go_sem, ca, cg0, hQ1.o4, so4, sa4, at4]) | (refine arr_intro fun _ => ?_) | (refine later_intro ⟨keeps_nil, ?_⟩) | (refine later_intro ⟨keeps_refl, ?_⟩) | (with_reducible refine keeps_go ?_ ?_; focus (first | (simp [keeps_cons, keeps_none, objs_app, objs_app0]; done) | (simp only [keeps_cons, keeps_none, objs_app0, objs_app, and_true]; first | rfl | exact ⟨rfl, rfl⟩ | exact ⟨rfl, rfl, rfl⟩))) | (with_reducible refine (And.intro (a := keeps _ _ _) ?_ ?_); focus (first | (simp [keeps_cons, keeps_none, objs_app, objs_app0]; done) | (simp only [keeps_cons, keeps_none, objs_app0, objs_app, and_true]; first | rfl | exact ⟨rfl, rfl⟩ | exact ⟨rfl, rfl, rfl⟩))) | (refine both_ways ?_ ?_) | (rw [wrap_i64 (by omega) (by omega)]) | (refine guardV_split (fun h => ?_) (fun h => ?_) <;> (try rw [h]) <;> (try simp at h) <;> (try (exfalso; omega))) | (with_reducible refine awp_drawT (id := 9) (.op 0 2 (.op 1 2 (.op 2 2 (.op 3 2 (.op 4 2 (.op 5 2 (.op 6 2 (.op 7 1 .nil)))))))) (by kernel_rfl) ?_) | (refine idx4 hQ1 hn ?_))
            have hQ2 := hQ1.put4 (i := n.toNat) (y := t)
            generalize S1.set i4 _ = S2 at hQ2 ⊢
            obtain ⟨tb, ob⟩ := hQ2.o
            have cb := cellAt_known ob
            have g0 := (hQ2.f _ (List.mem_cons_self ..)).2
            simp only at g0
            have cg0 := cellAt_known g0
            by_cases e4 : v.length ≤ X.long.length
            · rw [if_pos e4] at hcom
              have e4' : (v.length : Int) ≤ X.long.length := by omega
              repeat' (first | (simp -dsimp only [↓reduceIte, go_sem, cb, e4']) | (refine arr_intro fun _ => ?_) | (refine later_intro ⟨keeps_nil, ?_⟩) | (refine later_intro ⟨keeps_refl, ?_⟩) | (with_reducible refine keeps_go ?_ ?_; focus (first | (simp [keeps_cons, keeps_none, objs_app, objs_app0]; done) | (simp only [keeps_cons, keeps_none, objs_app0, objs_app, and_true]; first | rfl | exact ⟨rfl, rfl⟩ | exact ⟨rfl, rfl, rfl⟩))) | (with_reducible refine (And.intro (a := keeps _ _ _) ?_ ?_); focus (first | (simp [keeps_cons, keeps_none, objs_app, objs_app0]; done) | (simp only [keeps_cons, keeps_none, objs_app0, objs_app, and_true]; first | rfl | exact ⟨rfl, rfl⟩ | exact ⟨rfl, rfl, rfl⟩))) | (refine both_ways ?_ ?_) | (rw [wrap_i64 (by omega) (by omega)]) | (refine guardV_split (fun h => ?_) (fun h => ?_) <;> (try rw [h]) <;> (try simp at h) <;> (try (exfalso; omega))))
              have hfin := hK S2 (by rw [hcom]; exact hQ2.less)
              rw [hcom] at hfin
              exact hfin
            · rw [if_neg e4] at hcom
              have e4' : ¬ (v.length : Int) ≤ X.long.length := by omega
              have hlt2 := hQ2.lt
              have hkS : ∀ w p, cellAt (S2.set k (.cells w)) k p = w.at p := fun w p => cellAt_setS hlt2.1
              have hoS : ∀ w, (S2.set k w).objs[k]? = some w := fun w => objs_setS hlt2.1
              have nk : k ≠ s.objs.length := by omega
              repeat' (first | (simp -dsimp only [↓reduceIte, go_sem, cb, ob, cg0, e4', hkS, hoS, set_set, cellAt_setN nk]) | (refine arr_intro fun _ => ?_) | (refine later_intro ⟨keeps_nil, ?_⟩) | (refine later_intro ⟨keeps_refl, ?_⟩) | (with_reducible refine keeps_go ?_ ?_; focus (first | (simp [keeps_cons, keeps_none, objs_app, objs_app0]; done) | (simp only [keeps_cons, keeps_none, objs_app0, objs_app, and_true]; first | rfl | exact ⟨rfl, rfl⟩ | exact ⟨rfl, rfl, rfl⟩))) | (with_reducible refine (And.intro (a := keeps _ _ _) ?_ ?_); focus (first | (simp [keeps_cons, keeps_none, objs_app, objs_app0]; done) | (simp only [keeps_cons, keeps_none, objs_app0, objs_app, and_true]; first | rfl | exact ⟨rfl, rfl⟩ | exact ⟨rfl, rfl, rfl⟩))) | (refine both_ways ?_ ?_) | (rw [wrap_i64 (by omega) (by omega)]) | (refine guardV_split (fun h => ?_) (fun h => ?_) <;> (try rw [h]) <;> (try simp at h) <;> (try (exfalso; omega))))
              have hQ3 := hQ2.putk (t := tb) (b := n) (l := v) (g := t) (p := X.pend)
              generalize S2.set k _ = S3 at hQ3 ⊢
              obtain ⟨tc, oc⟩ := hQ3.o
              have cc := cellAt_known oc
              refine awp_rounds (fun (i : Nat) τ s' => s' = S3 ∧ i ≤ X.pend.length ∧ τ 0 = .ptr (some (k, [])) ∧ τ 1 = .int .i64 n ∧ τ 9 = .int .i64 kv ∧ τ 11 = .int .i64 i ∧ ((τ 10 = .int .i64 (-1) ∧ ∀ (m : Nat) z, m < i → X.pend[m]? = some z → ¬ hitP n kv z) ∨ ∃ (a : Nat) (y : Pend), τ 10 = .int .i64 a ∧ a < i ∧ X.pend[a]? = some y ∧ hitP n kv y ∧ ∀ (m : Nat) z, m < a → X.pend[m]? = some z → ¬ hitP n kv z)) (fun i => X.pend.length - i) 0 ?_ ?_
              · refine ⟨rfl, by omega, ?_, ?_, ?_, ?_, .inl ⟨?_, fun m z hm => by omega⟩⟩ <;> (try simp only [go_sem]) <;> (try rfl)
              · rintro i τ s' ⟨rfl, hi, t0, t1, t9, t11, hat⟩
                by_cases hil : i < X.pend.length
                · have hi1 : (i : Int) < X.pend.length := by omega
                  obtain ⟨y, hy, _⟩ := get_of_lt hil
                  rcases hat with ⟨t10, hno⟩ | ⟨a, z, t10, ha, hz, hh, hno⟩
                  · by_cases hh : hitP n kv y
                    · obtain ⟨e5, e6⟩ := hh
                      repeat' (first | (simp -dsimp only [↓reduceIte, go_sem, t0, t1, t9, t10, t11, hi1, cc, e5, e6]) | (refine arr_intro fun _ => ?_) | (refine later_intro ⟨keeps_nil, ?_⟩) | (refine later_intro ⟨keeps_refl, ?_⟩) | (with_reducible refine keeps_go ?_ ?_; focus (first | (simp [keeps_cons, keeps_none, objs_app, objs_app0]; done) | (simp only [keeps_cons, keeps_none, objs_app0, objs_app, and_true]; first | rfl | exact ⟨rfl, rfl⟩ | exact ⟨rfl, rfl, rfl⟩))) | (with_reducible refine (And.intro (a := keeps _ _ _) ?_ ?_); focus (first | (simp [keeps_cons, keeps_none, objs_app, objs_app0]; done) | (simp only [keeps_cons, keeps_none, objs_app0, objs_app, and_true]; first | rfl | exact ⟨rfl, rfl⟩ | exact ⟨rfl, rfl, rfl⟩))) | (refine both_ways ?_ ?_) | (rw [wrap_i64 (by omega) (by omega)]) | (refine guardV_split (fun h => ?_) (fun h => ?_) <;> (try rw [h]) <;> (try simp at h) <;> (try (exfalso; omega))) | (refine nth_get hy ?_))
                      exact ⟨i + 1, by omega, by omega, rfl, .inr ⟨i, y, rfl, by omega, hy, ⟨e5, e6⟩, hno⟩⟩
                    · have e5 : ¬ (y.client = n ∧ y.num = kv) := hh
                      have hno' : ∀ (m : Nat) z, m < i + 1 → X.pend[m]? = some z → ¬ hitP n kv z := fun m z hm hz => by
                        by_cases hmi : m < i
                        · exact hno m z hmi hz
                        · obtain rfl : m = i := by omega
                          rw [hy] at hz; cases hz; exact hh
                      by_cases e5a : y.client = n
                      · have e6 : ¬ y.num = kv := fun h => e5 ⟨e5a, h⟩
                        have e5t := eq_true e5a
                        repeat' (first | (simp -dsimp only [↓reduceIte, go_sem, t0, t1, t9, t10, t11, hi1, cc, e5t, e6]) | (refine arr_intro fun _ => ?_) | (refine later_intro ⟨keeps_nil, ?_⟩) | (refine later_intro ⟨keeps_refl, ?_⟩) | (with_reducible refine keeps_go ?_ ?_; focus (first | (simp [keeps_cons, keeps_none, objs_app, objs_app0]; done) | (simp only [keeps_cons, keeps_none, objs_app0, objs_app, and_true]; first | rfl | exact ⟨rfl, rfl⟩ | exact ⟨rfl, rfl, rfl⟩))) | (with_reducible refine (And.intro (a := keeps _ _ _) ?_ ?_); focus (first | (simp [keeps_cons, keeps_none, objs_app, objs_app0]; done) | (simp only [keeps_cons, keeps_none, objs_app0, objs_app, and_true]; first | rfl | exact ⟨rfl, rfl⟩ | exact ⟨rfl, rfl, rfl⟩))) | (refine both_ways ?_ ?_) | (rw [wrap_i64 (by omega) (by omega)]) | (refine guardV_split (fun h => ?_) (fun h => ?_) <;> (try rw [h]) <;> (try simp at h) <;> (try (exfalso; omega))) | (refine nth_get hy ?_))
                        refine later_intro ⟨i + 1, by omega, rfl, by omega, ?_, ?_, ?_, ?_, .inl ⟨?_, hno'⟩⟩ <;> (try simp only [go_sem, t0, t1, t9, t10, t11]) <;> (try rfl)
                      · repeat' (first | (simp -dsimp only [↓reduceIte, go_sem, t0, t1, t9, t10, t11, hi1, cc, e5a]) | (refine arr_intro fun _ => ?_) | (refine later_intro ⟨keeps_nil, ?_⟩) | (refine later_intro ⟨keeps_refl, ?_⟩) | (with_reducible refine keeps_go ?_ ?_; focus (first | (simp [keeps_cons, keeps_none, objs_app, objs_app0]; done) | (simp only [keeps_cons, keeps_none, objs_app0, objs_app, and_true]; first | rfl | exact ⟨rfl, rfl⟩ | exact ⟨rfl, rfl, rfl⟩))) | (with_reducible refine (And.intro (a := keeps _ _ _) ?_ ?_); focus (first | (simp [keeps_cons, keeps_none, objs_app, objs_app0]; done) | (simp only [keeps_cons, keeps_none, objs_app0, objs_app, and_true]; first | rfl | exact ⟨rfl, rfl⟩ | exact ⟨rfl, rfl, rfl⟩))) | (refine both_ways ?_ ?_) | (rw [wrap_i64 (by omega) (by omega)]) | (refine guardV_split (fun h => ?_) (fun h => ?_) <;> (try rw [h]) <;> (try simp at h) <;> (try (exfalso; omega))) | (refine nth_get hy ?_))
                        refine later_intro ⟨i + 1, by omega, rfl, by omega, ?_, ?_, ?_, ?_, .inl ⟨?_, hno'⟩⟩ <;> (try simp only [go_sem, t0, t1, t9, t10, t11]) <;> (try rfl)
                  · have ha0 : ¬ (a : Int) < 0 := by omega
                    repeat' (first | (simp -dsimp only [↓reduceIte, go_sem, t0, t1, t9, t10, t11, hi1, cc, ha0]) | (refine arr_intro fun _ => ?_) | (refine later_intro ⟨keeps_nil, ?_⟩) | (refine later_intro ⟨keeps_refl, ?_⟩) | (with_reducible refine keeps_go ?_ ?_; focus (first | (simp [keeps_cons, keeps_none, objs_app, objs_app0]; done) | (simp only [keeps_cons, keeps_none, objs_app0, objs_app, and_true]; first | rfl | exact ⟨rfl, rfl⟩ | exact ⟨rfl, rfl, rfl⟩))) | (with_reducible refine (And.intro (a := keeps _ _ _) ?_ ?_); focus (first | (simp [keeps_cons, keeps_none, objs_app, objs_app0]; done) | (simp only [keeps_cons, keeps_none, objs_app0, objs_app, and_true]; first | rfl | exact ⟨rfl, rfl⟩ | exact ⟨rfl, rfl, rfl⟩))) | (refine both_ways ?_ ?_) | (rw [wrap_i64 (by omega) (by omega)]) | (refine guardV_split (fun h => ?_) (fun h => ?_) <;> (try rw [h]) <;> (try simp at h) <;> (try (exfalso; omega))) | (refine nth_get hy ?_))
                    refine later_intro ⟨i + 1, by omega, rfl, by omega, ?_, ?_, ?_, ?_, .inr ⟨a, z, ?_, by omega, hz, hh, hno⟩⟩ <;> (try simp only [go_sem, t0, t1, t9, t10, t11]) <;> (try rfl)
                · have hi1 : ¬ (i : Int) < X.pend.length := by omega
                  rcases hat with ⟨t10, hno⟩ | ⟨a, z, t10, ha, hz, hh, hno⟩
                  · have hcut : Reg.cut n kv X.pend = X.pend := cut_none fun p hp => by
                      obtain ⟨m, hm⟩ := List.mem_iff_getElem?.1 hp
                      exact hno m p (by have := (List.getElem?_eq_some_iff.1 hm).1; omega) hm
                    rw [hcut] at hcom
                    repeat' (first | (simp -dsimp only [↓reduceIte, go_sem, t0, t1, t9, t10, t11, hi1, cc]) | (refine arr_intro fun _ => ?_) | (refine later_intro ⟨keeps_nil, ?_⟩) | (refine later_intro ⟨keeps_refl, ?_⟩) | (with_reducible refine keeps_go ?_ ?_; focus (first | (simp [keeps_cons, keeps_none, objs_app, objs_app0]; done) | (simp only [keeps_cons, keeps_none, objs_app0, objs_app, and_true]; first | rfl | exact ⟨rfl, rfl⟩ | exact ⟨rfl, rfl, rfl⟩))) | (with_reducible refine (And.intro (a := keeps _ _ _) ?_ ?_); focus (first | (simp [keeps_cons, keeps_none, objs_app, objs_app0]; done) | (simp only [keeps_cons, keeps_none, objs_app0, objs_app, and_true]; first | rfl | exact ⟨rfl, rfl⟩ | exact ⟨rfl, rfl, rfl⟩))) | (refine both_ways ?_ ?_) | (rw [wrap_i64 (by omega) (by omega)]) | (refine guardV_split (fun h => ?_) (fun h => ?_) <;> (try rw [h]) <;> (try simp at h) <;> (try (exfalso; omega))))
                    have hfin := hK s' (by rw [hcom]; exact hQ3.less)
                    rw [hcom] at hfin
                    exact hfin
                  · have hcut := cut_at hno hz hh
                    have hal := (List.getElem?_eq_some_iff.1 hz).1
                    rw [hcut] at hcom
                    have ha0 : (0 : Int) ≤ a := by omega
                    repeat' (first | (simp -dsimp only [↓reduceIte, go_sem, t0, t1, t9, t10, t11, hi1, cc, ha0, oc]) | (refine arr_intro fun _ => ?_) | (refine later_intro ⟨keeps_nil, ?_⟩) | (refine later_intro ⟨keeps_refl, ?_⟩) | (with_reducible refine keeps_go ?_ ?_; focus (first | (simp [keeps_cons, keeps_none, objs_app, objs_app0]; done) | (simp only [keeps_cons, keeps_none, objs_app0, objs_app, and_true]; first | rfl | exact ⟨rfl, rfl⟩ | exact ⟨rfl, rfl, rfl⟩))) | (with_reducible refine (And.intro (a := keeps _ _ _) ?_ ?_); focus (first | (simp [keeps_cons, keeps_none, objs_app, objs_app0]; done) | (simp only [keeps_cons, keeps_none, objs_app0, objs_app, and_true]; first | rfl | exact ⟨rfl, rfl⟩ | exact ⟨rfl, rfl, rfl⟩))) | (refine both_ways ?_ ?_) | (rw [wrap_i64 (by omega) (by omega)]) | (refine guardV_split (fun h => ?_) (fun h => ?_) <;> (try rw [h]) <;> (try simp at h) <;> (try (exfalso; omega))) | (refine lo_pends (by omega) fun tt => ?_))
                    rw [hcom] at hK
                    refine hK _ ?_
                    exact hQ3.putk.less
        · rw [if_pos (.inr e2)] at hcom
          repeat' (first | (simp -dsimp only [↓reduceIte, go_sem, hs1, c0, cb0, hn0, hn1, A1, hl1, hwl, hwb, hokt, e1t, e2]) | (refine arr_intro fun _ => ?_) | (refine later_intro ⟨keeps_nil, ?_⟩) | (refine later_intro ⟨keeps_refl, ?_⟩) | (with_reducible refine keeps_go ?_ ?_; focus (first | (simp [keeps_cons, keeps_none, objs_app, objs_app0]; done) | (simp only [keeps_cons, keeps_none, objs_app0, objs_app, and_true]; first | rfl | exact ⟨rfl, rfl⟩ | exact ⟨rfl, rfl, rfl⟩))) | (with_reducible refine (And.intro (a := keeps _ _ _) ?_ ?_); focus (first | (simp [keeps_cons, keeps_none, objs_app, objs_app0]; done) | (simp only [keeps_cons, keeps_none, objs_app0, objs_app, and_true]; first | rfl | exact ⟨rfl, rfl⟩ | exact ⟨rfl, rfl, rfl⟩))) | (refine both_ways ?_ ?_) | (rw [wrap_i64 (by omega) (by omega)]) | (refine guardV_split (fun h => ?_) (fun h => ?_) <;> (try rw [h]) <;> (try simp at h) <;> (try (exfalso; omega))) | (refine refIs_c hB ?_) | ((refine refRight_c (m := Reg.comM n v t) comM_by ?_)) | ((refine Go.Aff.L09.Count_c ?_; rw [hcv])) | (refine idx1 hB hn ?_) | (refine nth_get hlast ?_))
          all_goals exact hend 3 hcom
      · rw [if_pos (.inl e1)] at hcom
        repeat' (first | (simp -dsimp only [↓reduceIte, go_sem, hs1, c0, cb0, hn0, hn1, A1, hl1, hwl, hwb, hokt, e1]) | (refine arr_intro fun _ => ?_) | (refine later_intro ⟨keeps_nil, ?_⟩) | (refine later_intro ⟨keeps_refl, ?_⟩) | (with_reducible refine keeps_go ?_ ?_; focus (first | (simp [keeps_cons, keeps_none, objs_app, objs_app0]; done) | (simp only [keeps_cons, keeps_none, objs_app0, objs_app, and_true]; first | rfl | exact ⟨rfl, rfl⟩ | exact ⟨rfl, rfl, rfl⟩))) | (with_reducible refine (And.intro (a := keeps _ _ _) ?_ ?_); focus (first | (simp [keeps_cons, keeps_none, objs_app, objs_app0]; done) | (simp only [keeps_cons, keeps_none, objs_app0, objs_app, and_true]; first | rfl | exact ⟨rfl, rfl⟩ | exact ⟨rfl, rfl, rfl⟩))) | (refine both_ways ?_ ?_) | (rw [wrap_i64 (by omega) (by omega)]) | (refine guardV_split (fun h => ?_) (fun h => ?_) <;> (try rw [h]) <;> (try simp at h) <;> (try (exfalso; omega))) | (refine refIs_c hB ?_) | ((refine refRight_c (m := Reg.comM n v t) comM_by ?_)) | ((refine Go.Aff.L09.Count_c ?_; rw [hcv])) | (refine idx1 hB hn ?_) | (refine nth_get hlast ?_))
        all_goals first
          | exact hend 3 hcom
          | (refine absurd ?_ e1; assumption)
    · have hcom : X.commit n v t = (X, 2) := by unfold RM.commit; rw [if_pos (.inr hn)]
      have hnd : (0 ≤ n ∧ n < X.n) = False := eq_false hn
      repeat' (first | (simp -dsimp only [↓reduceIte, go_sem, hs1, c0, cb0, hnd, hokt]) | (refine arr_intro fun _ => ?_) | (refine later_intro ⟨keeps_nil, ?_⟩) | (refine later_intro ⟨keeps_refl, ?_⟩) | (with_reducible refine keeps_go ?_ ?_; focus (first | (simp [keeps_cons, keeps_none, objs_app, objs_app0]; done) | (simp only [keeps_cons, keeps_none, objs_app0, objs_app, and_true]; first | rfl | exact ⟨rfl, rfl⟩ | exact ⟨rfl, rfl, rfl⟩))) | (with_reducible refine (And.intro (a := keeps _ _ _) ?_ ?_); focus (first | (simp [keeps_cons, keeps_none, objs_app, objs_app0]; done) | (simp only [keeps_cons, keeps_none, objs_app0, objs_app, and_true]; first | rfl | exact ⟨rfl, rfl⟩ | exact ⟨rfl, rfl, rfl⟩))) | (refine both_ways ?_ ?_) | (rw [wrap_i64 (by omega) (by omega)]) | (refine guardV_split (fun h => ?_) (fun h => ?_) <;> (try rw [h]) <;> (try simp at h) <;> (try (exfalso; omega))) | (refine refIs_c hB ?_) | ((refine refRight_c (m := Reg.comM n v t) comM_by ?_)))
      all_goals first
        | exact hend 2 hcom
        | (refine absurd ?_ hn; assumption)
  · have hcom : X.commit n v t = (X, 2) := by unfold RM.commit; rw [if_pos (.inl hok)]
    repeat' (first | (simp -dsimp only [↓reduceIte, go_sem, hs1, c0, cb0, hok]) | (refine arr_intro fun _ => ?_) | (refine later_intro ⟨keeps_nil, ?_⟩) | (refine later_intro ⟨keeps_refl, ?_⟩) | (with_reducible refine keeps_go ?_ ?_; focus (first | (simp [keeps_cons, keeps_none, objs_app, objs_app0]; done) | (simp only [keeps_cons, keeps_none, objs_app0, objs_app, and_true]; first | rfl | exact ⟨rfl, rfl⟩ | exact ⟨rfl, rfl, rfl⟩))) | (with_reducible refine (And.intro (a := keeps _ _ _) ?_ ?_); focus (first | (simp [keeps_cons, keeps_none, objs_app, objs_app0]; done) | (simp only [keeps_cons, keeps_none, objs_app0, objs_app, and_true]; first | rfl | exact ⟨rfl, rfl⟩ | exact ⟨rfl, rfl, rfl⟩))) | (refine both_ways ?_ ?_) | (rw [wrap_i64 (by omega) (by omega)]) | (refine guardV_split (fun h => ?_) (fun h => ?_) <;> (try rw [h]) <;> (try simp at h) <;> (try (exfalso; omega))) | ((refine refRight_c (m := Reg.comM n v t) comM_by ?_)))
    exact hend 2 hcom
end
end Go.Aff.L10

/- Layer 12, plainly: both registers do the same. -/
-- cuts
namespace Go.Aff.L10
open Go.Proofs Go.Aff Go.Aff.L01 Classical
set_option linter.unusedVariables false
set_option linter.unusedSimpArgs false
set_option maxRecDepth 20000
attribute [local go_sem] push_app app_app length_app cellAt_app cellAt_app0 set_app set_app0 objs_app objs_app0 List.cons_append List.nil_append List.length_cons List.length_nil List.getElem?_cons_zero List.getElem?_cons_succ List.set_cons_zero List.set_cons_succ List.length_map
attribute [-go_sem] cellAt_new
attribute [-simp] List.length_flatMap
attribute [local go_sem] Try.underlying3 Try.underlying4 Try.underlying5 Try.underlying9 Try.underlying31 Try.underlying32 Try.underlying41 Try.underlying75 Try.underlying24 Try.underlying81 subPs_0 subAt_0 subSet_0 subPs_1 subAt_1 subSet_1 subPs_2 subAt_2 subSet_2 subPs_3 subAt_3 subSet_3 subPs_4 subAt_4 subSet_4 subPs_5 subAt_5 subSet_5 sizes_sub shapes_sub fits_sub zero_sub zt_sub built_sub Try.underlying34 pendPs_0 pendAt_0 pendSet_0 pendPs_1 pendAt_1 pendSet_1 pendPs_2 pendAt_2 pendSet_2 pendPs_3 pendAt_3 pendSet_3 pendPs_4 pendAt_4 pendSet_4 pendPs_5 pendAt_5 pendSet_5 sizes_pend shapes_pend fits_pend zero_pend zt_pend built_pend Try.underlying70 repPs_0 repAt_0 repSet_0 repPs_1 repAt_1 repSet_1 repPs_2 repAt_2 repSet_2 repPs_3 repAt_3 repSet_3 repPs_4 repAt_4 repSet_4 repPs_5 repAt_5 repSet_5 repPs_6 repAt_6 repSet_6 repPs_7 repAt_7 repSet_7 repPs_8 repAt_8 repSet_8 repPs_9 repAt_9 repSet_9 sizes_rep shapes_rep fits_rep zero_rep zt_rep built_rep Try.underlying43 blobPs_0 blobAt_0 blobSet_0 blobPs_1 blobAt_1 blobSet_1 blobPs_2 blobAt_2 blobSet_2 blobPs_3 blobAt_3 blobSet_3 sizes_blob shapes_blob fits_blob zero_blob zt_blob built_blob Try.underlying74 msgPs_0 msgAt_0 msgSet_0 msgPs_1 msgAt_1 msgSet_1 msgPs_2 msgAt_2 msgSet_2 msgPs_3 msgAt_3 msgSet_3 msgPs_4 msgAt_4 msgSet_4 msgPs_5 msgAt_5 msgSet_5 msgPs_6 msgAt_6 msgSet_6 msgPs_7 msgAt_7 msgSet_7 msgPs_8 msgAt_8 msgSet_8 msgPs_9 msgAt_9 msgSet_9 sizes_msg shapes_msg fits_msg zero_msg zt_msg built_msg Try.underlying77 at_Ps_0 at_Set_0 at_Ps_1 at_Set_1 sizes_at_ shapes_at_
attribute [local go_sem] fits3 fits4 fits5 fits9 fits23 fits26 fits31 fits34 fits52 zt3 zero3 zt34 zero34 zt23 zero23 bin_sub_eql bin_pend_eql bin_pend_neq bin_blob_eql bin_dig23_eql bin_dig23_neq slice23
attribute [local go_sem ↓] blockQ_exit2
attribute [local simp] dig_ext
attribute [local go_sem] cliPs_0 cliAt_0 cliSet_0 cliPs_1 cliAt_1 cliSet_1 cliPs_2 cliAt_2 cliSet_2 cliPs_3 cliAt_3 cliSet_3 sizes_cli shapes_cli fits_cli zero_cli zt_cli built_cli actPs_0 actAt_0 actSet_0 actPs_1 actAt_1 actSet_1 actPs_2 actAt_2 actSet_2 actPs_3 actAt_3 actSet_3 actPs_4 actAt_4 actSet_4 sizes_act shapes_act fits_act zero_act zt_act built_act rgPs_0 rgPs_1 rgPs_2 rgPs_3 rgPs_4 rgPs_5 rgSet_0 rgSet_2 rgSet_3 rgSet_4 rgSet_5 rgAt_0 rgAt_1 fits_rg zero_rg zt_rg built_rg fits66 rrgPs_0 rrgSet_0 rrgAt_0 rrgPs_1 rrgSet_1 rrgAt_1 rrgPs_2 rrgSet_2 rrgAt_2 rrgPs_3 rrgSet_3 rrgAt_3 rrgPs_4 rrgSet_4 rrgAt_4 rrgPs_5 rrgSet_5 rrgAt_5 rrgPs_6 rrgSet_6 rrgAt_6 rrgPs_7 rrgSet_7 rrgAt_7 sizes_rrg shapes_rrg fits_rrg zero_rrg zt_rrg built_rrg fits57 fits58 fits39 fits59 fits23r fits41 arrV_none arrV_some arrV_size arrV_agg arrV_shape Try.underlying22 Try.underlying23 Try.underlying28 Try.underlying36 Try.underlying39 Try.underlying57 Try.underlying58 Try.underlying59 Try.underlying61 Try.underlying65 Try.underlying66 Try.underlying68 Try.underlying78
theorem set_same {α : Type} {l : List α} {i : Nat} {x : α} (h : l[i]? = some x) : l.set i x = l := by
  apply List.ext_getElem?
  intro j
  rw [List.getElem?_set]
  by_cases e : i = j
  · subst e; rw [if_pos rfl, h]; have := (List.getElem?_eq_some_iff.1 h).1; simp [this]
  · rw [if_neg e]
namespace Reg
variable {M : Reg}
theorem Ok.has8 (h : M.Ok) {i : Int} (hi : M.has i) : i.toNat < M.cs.length := by have := h.h8; have := h.n8; obtain ⟨a, b⟩ := hi; omega
theorem Ok.cli_mem (h : M.Ok) {i : Int} (hi : M.has i) : M.cli i ∈ M.cs := by
  have := h.has8 hi
  unfold cli; rw [List.getElem?_eq_getElem this]; exact List.getElem_mem this
theorem rm_has {i : Int} : M.rm.has i ↔ M.has i := Iff.rfl
theorem rm_sub (h : M.Ok) {i : Int} (hi : M.has i) : M.rm.sub i = (M.cli i).last := by
  simp only [RM.sub, rm, List.getElem?_map, front_get h.h8 h.n8 hi]; rfl
theorem rm_rep (h : M.Ok) {i : Int} (hi : M.has i) : M.rm.rep i = (M.cli i).reply := by
  simp only [RM.rep, rm, List.getElem?_map, front_get h.h8 h.n8 hi]; rfl
theorem rm_view (h : M.Ok) {i : Int} (hi : M.has i) : M.rm.view i = (M.cli i).view := by
  simp only [RM.view, rm, List.getElem?_map, front_get h.h8 h.n8 hi]; rfl
theorem rm_tg (h : M.Ok) {i : Int} (hi : M.has i) : M.rm.tg i = (M.cli i).tag := by
  simp only [RM.tg, rm, List.getElem?_map, front_get h.h8 h.n8 hi]; rfl
theorem rm_ans (h : M.Ok) {x : Sub} (hx : M.has x.target) : M.rm.ans x = M.ans x := by
  have e : M.pend.map M.rm.ansP = M.pend.map M.ansP := List.map_congr_left fun p hp => by
    unfold RM.ansP ansP; rw [rm_tg h (h.cl p hp)]
  unfold RM.ans ans RM.ansC RM.ans0
  rw [rm_sub h hx, rm_view h hx, rm_tg h hx]
  show (if _ then (⟨_, _, _, _, M.pend.map M.rm.ansP, _, _, _, _, _⟩ : Rep) else _) = _
  rw [show M.rm.pend.map M.rm.ansP = M.pend.map M.rm.ansP from rfl, e]; rfl
theorem Ok.rm (h : M.Ok) : M.rm.Ok := by
  have hf : ∀ c ∈ M.front, c ∈ M.cs := fun c hc => List.mem_of_mem_take hc
  refine ⟨h.cl, h.pl, h.ll, fun r hr => ?_, fun x hx => ?_⟩
  · obtain ⟨c, hc, rfl⟩ := List.mem_map.1 hr; exact h.rp c (hf c hc)
  · obtain ⟨c, hc, rfl⟩ := List.mem_map.1 hx; exact h.nm c (hf c hc)
theorem front_pend {p : List Pend} : ({ M with pend := p } : Reg).front = M.front := rfl
theorem submit_rm (h : M.Ok) {n : Int} {x : Sub} : M.rm.submit n x = ((M.submit n x).1.rm, (M.submit n x).2.1, (M.submit n x).2.2) := by
  unfold RM.submit submit
  by_cases hb : ¬ (subM n x).Ok ∨ ¬ M.has n ∨ ¬ M.has x.target
  · rw [if_pos hb, if_pos (show ¬ (subM n x).Ok ∨ ¬ M.rm.has n ∨ ¬ M.rm.has x.target from hb)]
  · rw [if_neg hb, if_neg (show ¬ (¬ (subM n x).Ok ∨ ¬ M.rm.has n ∨ ¬ M.rm.has x.target) from hb)]
    have hn : M.has n := Classical.byContradiction fun e => hb (.inr (.inl e))
    have hx : M.has x.target := Classical.byContradiction fun e => hb (.inr (.inr e))
    rw [rm_sub h hn, rm_rep h hn, rm_ans h hx]
    have ho : M.order.length = M.long.length + M.pend.length := by simp [order, orderL]
    by_cases e1 : x.num = (M.cli n).last.num
    · rw [if_pos e1, if_pos e1]
      by_cases e2 : x = (M.cli n).last
      · rw [if_pos e2, if_pos e2]
      · rw [if_neg e2, if_neg e2]
    · rw [if_neg e1, if_neg e1]
      by_cases e3 : x.num ≠ (M.cli n).last.num + 1
      · rw [if_pos e3, if_pos e3]
      · rw [if_neg e3, if_neg e3, ho]
        by_cases e4 : 512 ≤ M.long.length + M.pend.length ∨ 8 ≤ M.pend.length
        · rw [if_pos e4, if_pos (show 512 ≤ M.rm.long.length + M.rm.pend.length ∨ 8 ≤ M.rm.pend.length from e4)]
        · rw [if_neg e4, if_neg (show ¬ (512 ≤ M.rm.long.length + M.rm.pend.length ∨ 8 ≤ M.rm.pend.length) from e4)]
          have hfg := front_get h.h8 h.n8 hn
          have e5 : (M.front.map (·.view)).set n.toNat (M.cli n).view = M.front.map (·.view) := set_same (by rw [List.getElem?_map, hfg]; rfl)
          have e6 : (M.front.map (·.tag)).set n.toNat (M.cli n).tag = M.front.map (·.tag) := set_same (by rw [List.getElem?_map, hfg]; rfl)
          simp only [rm, front_pend, front_set, List.map_set, e5, e6]
          rfl
theorem commit_rm (h : M.Ok) {n : Int} {v : List UInt8} {t : Dig} : M.rm.commit n v t = ((M.commit n v t).1.rm, (M.commit n v t).2) := by
  unfold RM.commit commit
  by_cases hb : ¬ (comM n v t).Ok ∨ ¬ M.has n
  · rw [if_pos hb, if_pos (show ¬ (comM n v t).Ok ∨ ¬ M.rm.has n from hb)]
  · rw [if_neg hb, if_neg (show ¬ (¬ (comM n v t).Ok ∨ ¬ M.rm.has n) from hb)]
    have hn : M.has n := Classical.byContradiction fun e => hb (.inr e)
    rw [rm_sub h hn, rm_view h hn]
    by_cases e1 : ((v.getLast?.getD 0).toNat : Int) ≠ n ∨ (Go.Aff.L09.cnt n v : Int) ≠ (M.cli n).last.num
    · rw [if_pos e1, if_pos e1]
    · rw [if_neg e1, if_neg e1]
      by_cases e2 : Go.Aff.L09.cnt n (M.cli n).view = Go.Aff.L09.cnt n v
      · rw [if_pos e2, if_pos e2]
      · rw [if_neg e2, if_neg e2]
        have hfg := front_get h.h8 h.n8 hn
        have e5 : (M.front.map (·.last)).set n.toNat (M.cli n).last = M.front.map (·.last) := set_same (by rw [List.getElem?_map, hfg]; rfl)
        have e6 : (M.front.map (·.reply)).set n.toNat (M.cli n).reply = M.front.map (·.reply) := set_same (by rw [List.getElem?_map, hfg]; rfl)
        by_cases e3 : v.length ≤ M.long.length
        · rw [if_pos e3, if_pos (show v.length ≤ M.rm.long.length from e3)]
          simp only [rm, front_set, List.map_set, e5, e6]
          rfl
        · rw [if_neg e3, if_neg (show ¬ v.length ≤ M.rm.long.length from e3)]
          have ef : ({ M.setC n { M.cli n with view := v, tag := t } with by_ := n, long := v, tag := t, pend := cut n (Go.Aff.L09.cnt n v) M.pend } : Reg).front = (M.setC n { M.cli n with view := v, tag := t }).front := rfl
          simp only [rm, ef, front_set, List.map_set, e5, e6]
          rfl
theorem mem_setC {c d : Cli} {n : Int} (h : d ∈ (M.setC n c).cs) : d = c ∨ d ∈ M.cs := by
  rcases List.mem_or_eq_of_mem_set h with h | h
  · exact .inr h
  · exact .inl h
theorem submit_ok (h : M.Ok) {n : Int} {x : Sub} : (M.submit n x).1.Ok := by
  unfold submit
  by_cases hb : ¬ (subM n x).Ok ∨ ¬ M.has n ∨ ¬ M.has x.target
  · rw [if_pos hb]; exact h
  · rw [if_neg hb]
    have hn : M.has n := Classical.byContradiction fun e => hb (.inr (.inl e))
    have hok : (subM n x).Ok := Classical.byContradiction fun e => hb (.inl e)
    have hs : x.Ok := by have := hok.1; simpa [Msg.FieldsOk, subM] using this
    split
    · split <;> exact h
    · split
      · exact h
      · split
        · exact h
        · rename_i e4
          refine ⟨by simpa [setC] using h.h8, h.n2, h.n8, ?_, ?_, h.ll, ?_, ?_, ?_⟩
          · intro p hp
            rcases List.mem_append.1 hp with hp | hp
            · exact h.cl p hp
            · simp at hp; subst hp; exact hn
          · simp; omega
          · intro c hc
            rcases mem_setC hc with rfl | hc
            · have : (M.ans x).pending.length ≤ 8 := by unfold ans; split <;> simpa using h.pl
              exact this
            · exact h.rp c hc
          · intro c hc
            rcases mem_setC hc with rfl | hc
            · have : (M.ans x).view.length ≤ 512 := by unfold ans; split <;> simpa using h.ll
              exact this
            · exact h.rv c hc
          · intro c hc
            rcases mem_setC hc with rfl | hc
            · have := hs.1; simp only [In] at this; exact ⟨by show 0 ≤ x.num; omega, this.2⟩
            · exact h.nm c hc
theorem cutP_sub {n k : Int} : ∀ {l : List Pend}, (cutP n k l).Sublist l
  | [] => List.Sublist.slnil
  | p :: l => by
    unfold cutP; split
    · exact List.sublist_cons_self ..
    · exact cutP_sub.trans (List.sublist_cons_self ..)
theorem cut_sub {n k : Int} {l : List Pend} : (cut n k l).Sublist l := by
  unfold cut; split
  · exact cutP_sub
  · exact List.Sublist.refl _
theorem commit_ok (h : M.Ok) {n : Int} {v : List UInt8} {t : Dig} : (M.commit n v t).1.Ok := by
  unfold commit
  by_cases hb : ¬ (comM n v t).Ok ∨ ¬ M.has n
  · rw [if_pos hb]; exact h
  · rw [if_neg hb]
    have hn : M.has n := Classical.byContradiction fun e => hb (.inr e)
    have hok : (comM n v t).Ok := Classical.byContradiction fun e => hb (.inl e)
    have hf : v ≠ [] ∧ ViewOk 8 v := by have := hok.1; simpa [Msg.FieldsOk, comM] using this
    have hset : (M.setC n { M.cli n with view := v, tag := t }).Ok := by
      refine ⟨by simpa [setC] using h.h8, h.n2, h.n8, h.cl, h.pl, h.ll, ?_, ?_, ?_⟩
      · intro c hc
        rcases mem_setC hc with rfl | hc
        · exact h.rp (M.cli n) (h.cli_mem hn)
        · exact h.rp c hc
      · intro c hc
        rcases mem_setC hc with rfl | hc
        · exact h.rv (M.cli n) (h.cli_mem hn)
        · exact h.rv c hc
      · intro c hc
        rcases mem_setC hc with rfl | hc
        · exact h.nm (M.cli n) (h.cli_mem hn)
        · exact h.nm c hc
    split
    · exact h
    · split
      · exact h
      · split
        · exact hset
        · exact ⟨hset.h8, hset.n2, hset.n8, fun p hp => h.cl p (cut_sub.subset hp), Nat.le_trans cut_sub.length_le h.pl, hf.2.2.1, hset.rp, hset.rv, hset.nm⟩
end Reg
end Go.Aff.L10

