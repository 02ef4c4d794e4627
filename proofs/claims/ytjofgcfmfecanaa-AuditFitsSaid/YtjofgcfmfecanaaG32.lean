import Derived.Test.YtjofgcfmfecanaaG31

set_option linter.unusedSimpArgs false
set_option linter.unusedVariables false

/- Layer 32, walked: counts. -/
-- cuts
namespace Go.Aff.L10
open Go.Proofs Go.Aff Go.Aff.L01 Classical
set_option linter.unusedVariables false
set_option linter.unusedSimpArgs false
set_option maxRecDepth 20000
attribute [local go_sem] push_app app_app length_app cellAt_app cellAt_app0 set_app set_app0 objs_app objs_app0 List.cons_append List.nil_append List.length_cons List.length_nil List.getElem?_cons_zero List.getElem?_cons_succ List.set_cons_zero List.set_cons_succ List.length_map
attribute [-go_sem] cellAt_new
attribute [-simp] List.length_flatMap
attribute [local go_sem] Try.underlying3 Try.underlying4 Try.underlying5 Try.underlying9 Try.underlying42 Try.underlying43 Try.underlying46 Try.underlying51 Try.underlying39 Try.underlying37 subPs_0 subAt_0 subSet_0 subPs_1 subAt_1 subSet_1 subPs_2 subAt_2 subSet_2 subPs_3 subAt_3 subSet_3 subPs_4 subAt_4 subSet_4 subPs_5 subAt_5 subSet_5 sizes_sub shapes_sub fits_sub zero_sub zt_sub built_sub Try.underlying45 pendPs_0 pendAt_0 pendSet_0 pendPs_1 pendAt_1 pendSet_1 pendPs_2 pendAt_2 pendSet_2 pendPs_3 pendAt_3 pendSet_3 pendPs_4 pendAt_4 pendSet_4 pendPs_5 pendAt_5 pendSet_5 sizes_pend shapes_pend fits_pend zero_pend zt_pend built_pend Try.underlying96 repPs_0 repAt_0 repSet_0 repPs_1 repAt_1 repSet_1 repPs_2 repAt_2 repSet_2 repPs_3 repAt_3 repSet_3 repPs_4 repAt_4 repSet_4 repPs_5 repAt_5 repSet_5 repPs_6 repAt_6 repSet_6 repPs_7 repAt_7 repSet_7 repPs_8 repAt_8 repSet_8 repPs_9 repAt_9 repSet_9 sizes_rep shapes_rep fits_rep zero_rep zt_rep built_rep Try.underlying48 blobPs_0 blobAt_0 blobSet_0 blobPs_1 blobAt_1 blobSet_1 blobPs_2 blobAt_2 blobSet_2 blobPs_3 blobAt_3 blobSet_3 sizes_blob shapes_blob fits_blob zero_blob zt_blob built_blob Try.underlying50 msgPs_0 msgAt_0 msgSet_0 msgPs_1 msgAt_1 msgSet_1 msgPs_2 msgAt_2 msgSet_2 msgPs_3 msgAt_3 msgSet_3 msgPs_4 msgAt_4 msgSet_4 msgPs_5 msgAt_5 msgSet_5 msgPs_6 msgAt_6 msgSet_6 msgPs_7 msgAt_7 msgSet_7 msgPs_8 msgAt_8 msgSet_8 msgPs_9 msgAt_9 msgSet_9 sizes_msg shapes_msg fits_msg zero_msg zt_msg built_msg Try.underlying53 at_Ps_0 at_Set_0 at_Ps_1 at_Set_1 sizes_at_ shapes_at_
attribute [local go_sem] fits3 fits4 fits5 fits9 fits23 fits26 fits31 fits34 fits52 zt3 zero3 zt34 zero34 zt23 zero23 bin_sub_eql bin_pend_eql bin_pend_neq bin_blob_eql bin_dig23_eql bin_dig23_neq slice23
attribute [local go_sem ↓] blockQ_exit2
attribute [local simp] dig_ext
attribute [local go_sem] postPs_0 postAt_0 postSet_0 postPs_1 postAt_1 postSet_1 postPs_2 postAt_2 postSet_2 sizes_post shapes_post fits_post zero_post zt_post built_post Try.underlying34 keyPs_0 keyAt_0 keySet_0 keyPs_1 keyAt_1 keySet_1 keyPs_2 keyAt_2 keySet_2 sizes_key shapes_key fits_key zero_key zt_key built_key Try.underlying74 conPs_0 conAt_0 conSet_0 conPs_1 conAt_1 conSet_1 sizes_con shapes_con fits_con zero_con zt_con built_con Try.underlying76 Try.underlying22 Try.underlying24 Try.underlying25 Try.underlying27 Try.underlying30 Try.underlying51 Try.underlying99 Try.underlying101 Try.underlying102 Try.underlying104
theorem fits102 {o : Option Nat} : fits Try.prog 102 (.mp o) = True := by rw [fits_leaf (P := Try.prog) (t := 102) (by kernel_rfl) (by kernel_rfl)]; simp [AV.isAgg, AV.size]
theorem fits99 {o : Option Nat} : fits Try.prog 99 (.mp o) = True := by rw [fits_leaf (P := Try.prog) (t := 99) (by kernel_rfl) (by kernel_rfl)]; simp [AV.isAgg, AV.size]
theorem cntAt104 {x y : Option Nat} : partIs Try.prog 104 [.mp x] 0 (.mp y) = True := by rw [partIs_of (o := 0) (T := 102) (by kernel_rfl)]; simp [AV.sizes, AV.size, fits102]
theorem cntAt101 {x y : Option Nat} : partIs Try.prog 101 [.mp x] 0 (.mp y) = True := by rw [partIs_of (o := 0) (T := 99) (by kernel_rfl)]; simp [AV.sizes, AV.size, fits99]
attribute [local go_sem] fits102 fits99 cntAt104 cntAt101
theorem shape_mp {o : Option Nat} : (AV.mp o).shape = .leaf := by simp [AV.shape]
attribute [local go_sem] shape_mp
theorem zero101 : zeroA Try.prog 12 101 = .agg [.mp none] := by kernel_rfl
theorem zt101 : ZeroOf Try.prog 101 (.agg [.mp none]) = True := eq_true ⟨_, _, rfl, rfl, rfl, rfl, rfl⟩
theorem built101 : Built Try.prog 101 = True := eq_true (by unfold Built; rw [Try.underlying101]; decide +kernel)
theorem fits101 {v : AV} : fits Try.prog 101 v = (v.isAgg = true ∧ v.size = 1) := fits_agg (by kernel_rfl) (by kernel_rfl)
theorem zero104 : zeroA Try.prog 12 104 = .agg [.mp none] := by kernel_rfl
theorem zt104 : ZeroOf Try.prog 104 (.agg [.mp none]) = True := eq_true ⟨_, _, rfl, rfl, rfl, rfl, rfl⟩
theorem built104 : Built Try.prog 104 = True := eq_true (by unfold Built; rw [Try.underlying104]; decide +kernel)
theorem fits104 {v : AV} : fits Try.prog 104 v = (v.isAgg = true ∧ v.size = 1) := fits_agg (by kernel_rfl) (by kernel_rfl)
attribute [local go_sem] zero101 zt101 built101 fits101 zero104 zt104 built104 fits104
theorem set_set' {s : AST} {i : Nat} {a b : AObj} : (s.set i a).set i b = s.set i b := by simp [AST.set]
theorem objs_setS' {s : AST} {k : Nat} {o : AObj} (h : k < s.objs.length) : (s.set k o).objs[k]? = some o := by simp only [AST.set]; rw [List.getElem?_set_self h]
theorem objs_setN' {s : AST} {j k : Nat} {o : AObj} (h : j ≠ k) : (s.set j o).objs[k]? = s.objs[k]? := by simp only [AST.set]; rw [List.getElem?_set_ne h]
theorem set_app' {s : AST} {i : Nat} {o : AObj} {l : List AObj} (h : i < s.objs.length) : (s.app l).set i o = (s.set i o).app l := by
  simp only [AST.set, AST.app]; rw [List.set_append_left _ _ h]
abbrev keyF (a : Key) : AV := .agg (keyPs a)
abbrev conF (a : Con) : AV := .agg (conPs a)
theorem addKey_c {σ : AST} {c mi ck : Nat} {L : List (Nat × Key × Int)} {a : Key} {K : AV → AST → Prop} (oc : σ.objs[c]? = some (.cells (.agg [.mp (some mi)]))) (om : σ.objs[mi]? = some (.map (L.map (entV keyF)) ck)) (h0 : 0 ≤ cntK a L) (h1 : cntK a L ≤ 1000000)
    (hK : K (.int .i64 (cntK a L + 1)) ((σ.set mi (.map ((setK a (cntK a L + 1) (insK a L ck)).map (entV keyF)) (ckK a L ck))).app [.cells (keyF a)])) : TCalls Try.prog 30 [.ptr (some (c, [])), keyF a] σ K := by
  have hlc := (List.getElem?_eq_some_iff.1 oc).1
  have hlm := (List.getElem?_eq_some_iff.1 om).1
  have hcm : c ≠ mi := fun e => by subst e; rw [om] at oc; cases oc
  have ocA := fun l => objs_known_app oc l
  have cA := fun l => cellAt_known (ocA l)
  have omA := fun l => objs_known_app om l
  refine tcalls_walk Try.f30 _ [.tmp 4] Try.func30 rfl rfl rfl mixed (Nat.le_of_ble_eq_true rfl) rfl fun hlen => ?_
  repeat' (first | (simp -dsimp only [↓reduceIte, go_sem, cA, ocA]) | (refine arr_intro fun _ => ?_) | (refine later_intro ⟨keeps_nil, ?_⟩) | (refine later_intro ⟨keeps_refl, ?_⟩) | (with_reducible refine keeps_go ?_ ?_; focus (first | (simp [keeps_cons, keeps_none, objs_app, objs_app0]; done) | (simp only [keeps_cons, keeps_none, objs_app0, objs_app, and_true]; first | rfl | exact ⟨rfl, rfl⟩ | exact ⟨rfl, rfl, rfl⟩))) | (with_reducible refine (And.intro (a := keeps _ _ _) ?_ ?_); focus (first | (simp [keeps_cons, keeps_none, objs_app, objs_app0]; done) | (simp only [keeps_cons, keeps_none, objs_app0, objs_app, and_true]; first | rfl | exact ⟨rfl, rfl⟩ | exact ⟨rfl, rfl, rfl⟩))) | (refine both_ways ?_ ?_) | (rw [wrap_i64 (by omega) (by omega)]) | (refine guardV_split (fun h => ?_) (fun h => ?_) <;> (try rw [h]) <;> (try simp at h) <;> (try (exfalso; omega))) | (with_reducible refine awp_drawU (id := 1) (.op 0 2 (.op 1 2 (.op 2 2 (.op 3 2 (.op 4 2 (.fork 5 (.op 5 1 (.op 6 0 (.op 7 1 (.cut (.op 8 2 (.op 9 1 .nil)))))) (.op 7 1 (.op 8 0 (.op 5 1 (.cut (.op 6 2 (.op 9 1 .nil)))))))))))) (by kernel_rfl) ?_) | (refine lookupK (a := a) Try.underlying102 (fun _ => key_ok (n := 30)) (fun _ _ => eq_key (n := 30)) (omA _) ?_))
  · refine entryK (a := a) Try.underlying102 (fun _ => key_ok (n := 30)) (fun _ _ => eq_key (n := 30)) (omA _) fun j x hj hx => ?_
    generalize hs1 : (σ.app [.cells (keyF a)]).set mi _ = s1
    have o1 : s1.objs[mi]? = some (.map ((insK a L ck).map (entV keyF)) (ckK a L ck)) := by subst hs1; exact objs_setS' (Nat.lt_of_lt_of_le hlm (by simp [AST.app]))
    have c1 : s1.objs[c]? = some (.cells (.agg [.mp (some mi)])) := by subst hs1; rw [objs_setN' (Ne.symm hcm)]; exact ocA _
    have b1 : s1.objs[σ.objs.length]? = some (.cells (keyF a)) := by subst hs1; rw [objs_setN' (by omega)]; exact objs_app0
    have cc1 := cellAt_known c1
    have cb1 := cellAt_known b1
    have hwr : IntKind.i64.wrap (cntK a L + 1) = cntK a L + 1 := wrap_i64 (by omega) (by omega)
    have hci : cntK a (insK a L ck) = cntK a L := cnt_ins
    have hs2 : s1.set mi (.map ((setK a (cntK a L + 1) (insK a L ck)).map (entV keyF)) (ckK a L ck)) = (σ.set mi (.map ((setK a (cntK a L + 1) (insK a L ck)).map (entV keyF)) (ckK a L ck))).app [.cells (keyF a)] := by
      subst hs1; rw [set_set', set_app' hlm]
    repeat' (first | (simp -dsimp only [↓reduceIte, go_sem, cc1, cb1, hwr]) | (refine arr_intro fun _ => ?_) | (refine later_intro ⟨keeps_nil, ?_⟩) | (refine later_intro ⟨keeps_refl, ?_⟩) | (with_reducible refine keeps_go ?_ ?_; focus (first | (simp [keeps_cons, keeps_none, objs_app, objs_app0]; done) | (simp only [keeps_cons, keeps_none, objs_app0, objs_app, and_true]; first | rfl | exact ⟨rfl, rfl⟩ | exact ⟨rfl, rfl, rfl⟩))) | (with_reducible refine (And.intro (a := keeps _ _ _) ?_ ?_); focus (first | (simp [keeps_cons, keeps_none, objs_app, objs_app0]; done) | (simp only [keeps_cons, keeps_none, objs_app0, objs_app, and_true]; first | rfl | exact ⟨rfl, rfl⟩ | exact ⟨rfl, rfl, rfl⟩))) | (refine both_ways ?_ ?_) | (rw [wrap_i64 (by omega) (by omega)]) | (refine guardV_split (fun h => ?_) (fun h => ?_) <;> (try rw [h]) <;> (try simp at h) <;> (try (exfalso; omega))) | (refine storeK (a := a) o1 hj hx ?_))
    generalize hs3 : s1.set mi (.map ((setK a (cntK a L + 1) (insK a L ck)).map (entV keyF)) (ckK a L ck)) = s2 at hs2 ⊢
    rw [← hs2] at hK
    have hl1 : mi < s1.objs.length := (List.getElem?_eq_some_iff.1 o1).1
    have o2 : s2.objs[mi]? = some (.map ((setK a (cntK a L + 1) (insK a L ck)).map (entV keyF)) (ckK a L ck)) := by subst hs3; exact objs_setS' hl1
    have c2 : s2.objs[c]? = some (.cells (.agg [.mp (some mi)])) := by subst hs3; rw [objs_setN' (Ne.symm hcm)]; exact c1
    have b2 : s2.objs[σ.objs.length]? = some (.cells (keyF a)) := by subst hs3; rw [objs_setN' (by omega)]; exact b1
    have cc2 := cellAt_known c2
    have cb2 := cellAt_known b2
    have hfin : cntK a (setK a (cntK a L + 1) (insK a L ck)) = cntK a L + 1 := by rw [cnt_set hj, if_pos rfl]
    repeat' (first | (simp -dsimp only [↓reduceIte, go_sem, cc2, cb2, hfin]) | (refine arr_intro fun _ => ?_) | (refine later_intro ⟨keeps_nil, ?_⟩) | (refine later_intro ⟨keeps_refl, ?_⟩) | (with_reducible refine keeps_go ?_ ?_; focus (first | (simp [keeps_cons, keeps_none, objs_app, objs_app0]; done) | (simp only [keeps_cons, keeps_none, objs_app0, objs_app, and_true]; first | rfl | exact ⟨rfl, rfl⟩ | exact ⟨rfl, rfl, rfl⟩))) | (with_reducible refine (And.intro (a := keeps _ _ _) ?_ ?_); focus (first | (simp [keeps_cons, keeps_none, objs_app, objs_app0]; done) | (simp only [keeps_cons, keeps_none, objs_app0, objs_app, and_true]; first | rfl | exact ⟨rfl, rfl⟩ | exact ⟨rfl, rfl, rfl⟩))) | (refine both_ways ?_ ?_) | (rw [wrap_i64 (by omega) (by omega)]) | (refine guardV_split (fun h => ?_) (fun h => ?_) <;> (try rw [h]) <;> (try simp at h) <;> (try (exfalso; omega))) | (with_reducible refine awp_drawT (id := 2) (.op 0 2 (.op 1 2 (.op 2 2 (.op 3 2 (.op 4 2 (.op 5 1 (.op 6 2 .nil))))))) (by kernel_rfl) ?_) | (refine lookupK (a := a) Try.underlying102 (fun _ => key_ok (n := 30)) (fun _ _ => eq_key (n := 30)) o2 ?_))
    exact hK
  · refine entryK (a := a) Try.underlying102 (fun _ => key_ok (n := 30)) (fun _ _ => eq_key (n := 30)) (omA _) fun j x hj hx => ?_
    generalize hs1 : (σ.app [.cells (keyF a)]).set mi _ = s1
    have o1 : s1.objs[mi]? = some (.map ((insK a L ck).map (entV keyF)) (ckK a L ck)) := by subst hs1; exact objs_setS' (Nat.lt_of_lt_of_le hlm (by simp [AST.app]))
    have c1 : s1.objs[c]? = some (.cells (.agg [.mp (some mi)])) := by subst hs1; rw [objs_setN' (Ne.symm hcm)]; exact ocA _
    have b1 : s1.objs[σ.objs.length]? = some (.cells (keyF a)) := by subst hs1; rw [objs_setN' (by omega)]; exact objs_app0
    have cc1 := cellAt_known c1
    have cb1 := cellAt_known b1
    have hwr : IntKind.i64.wrap (cntK a L + 1) = cntK a L + 1 := wrap_i64 (by omega) (by omega)
    have hci : cntK a (insK a L ck) = cntK a L := cnt_ins
    have hs2 : s1.set mi (.map ((setK a (cntK a L + 1) (insK a L ck)).map (entV keyF)) (ckK a L ck)) = (σ.set mi (.map ((setK a (cntK a L + 1) (insK a L ck)).map (entV keyF)) (ckK a L ck))).app [.cells (keyF a)] := by
      subst hs1; rw [set_set', set_app' hlm]
    repeat' (first | (simp -dsimp only [↓reduceIte, go_sem, cc1, cb1, hwr, hci]) | (refine arr_intro fun _ => ?_) | (refine later_intro ⟨keeps_nil, ?_⟩) | (refine later_intro ⟨keeps_refl, ?_⟩) | (with_reducible refine keeps_go ?_ ?_; focus (first | (simp [keeps_cons, keeps_none, objs_app, objs_app0]; done) | (simp only [keeps_cons, keeps_none, objs_app0, objs_app, and_true]; first | rfl | exact ⟨rfl, rfl⟩ | exact ⟨rfl, rfl, rfl⟩))) | (with_reducible refine (And.intro (a := keeps _ _ _) ?_ ?_); focus (first | (simp [keeps_cons, keeps_none, objs_app, objs_app0]; done) | (simp only [keeps_cons, keeps_none, objs_app0, objs_app, and_true]; first | rfl | exact ⟨rfl, rfl⟩ | exact ⟨rfl, rfl, rfl⟩))) | (refine both_ways ?_ ?_) | (rw [wrap_i64 (by omega) (by omega)]) | (refine guardV_split (fun h => ?_) (fun h => ?_) <;> (try rw [h]) <;> (try simp at h) <;> (try (exfalso; omega))) | (refine lookupK (a := a) Try.underlying102 (fun _ => key_ok (n := 30)) (fun _ _ => eq_key (n := 30)) o1 ?_) | (refine storeK (a := a) o1 hj hx ?_))
    generalize hs3 : s1.set mi (.map ((setK a (cntK a L + 1) (insK a L ck)).map (entV keyF)) (ckK a L ck)) = s2 at hs2 ⊢
    rw [← hs2] at hK
    have hl1 : mi < s1.objs.length := (List.getElem?_eq_some_iff.1 o1).1
    have o2 : s2.objs[mi]? = some (.map ((setK a (cntK a L + 1) (insK a L ck)).map (entV keyF)) (ckK a L ck)) := by subst hs3; exact objs_setS' hl1
    have c2 : s2.objs[c]? = some (.cells (.agg [.mp (some mi)])) := by subst hs3; rw [objs_setN' (Ne.symm hcm)]; exact c1
    have b2 : s2.objs[σ.objs.length]? = some (.cells (keyF a)) := by subst hs3; rw [objs_setN' (by omega)]; exact b1
    have cc2 := cellAt_known c2
    have cb2 := cellAt_known b2
    have hfin : cntK a (setK a (cntK a L + 1) (insK a L ck)) = cntK a L + 1 := by rw [cnt_set hj, if_pos rfl]
    repeat' (first | (simp -dsimp only [↓reduceIte, go_sem, cc2, cb2, hfin]) | (refine arr_intro fun _ => ?_) | (refine later_intro ⟨keeps_nil, ?_⟩) | (refine later_intro ⟨keeps_refl, ?_⟩) | (with_reducible refine keeps_go ?_ ?_; focus (first | (simp [keeps_cons, keeps_none, objs_app, objs_app0]; done) | (simp only [keeps_cons, keeps_none, objs_app0, objs_app, and_true]; first | rfl | exact ⟨rfl, rfl⟩ | exact ⟨rfl, rfl, rfl⟩))) | (with_reducible refine (And.intro (a := keeps _ _ _) ?_ ?_); focus (first | (simp [keeps_cons, keeps_none, objs_app, objs_app0]; done) | (simp only [keeps_cons, keeps_none, objs_app0, objs_app, and_true]; first | rfl | exact ⟨rfl, rfl⟩ | exact ⟨rfl, rfl, rfl⟩))) | (refine both_ways ?_ ?_) | (rw [wrap_i64 (by omega) (by omega)]) | (refine guardV_split (fun h => ?_) (fun h => ?_) <;> (try rw [h]) <;> (try simp at h) <;> (try (exfalso; omega))) | (with_reducible refine awp_drawT (id := 2) (.op 0 2 (.op 1 2 (.op 2 2 (.op 3 2 (.op 4 2 (.op 5 1 (.op 6 2 .nil))))))) (by kernel_rfl) ?_) | (refine lookupK (a := a) Try.underlying102 (fun _ => key_ok (n := 30)) (fun _ _ => eq_key (n := 30)) o2 ?_))
    exact hK
theorem addCon_c {σ : AST} {c mi ck : Nat} {L : List (Nat × Con × Int)} {a : Con} {K : AV → AST → Prop} (oc : σ.objs[c]? = some (.cells (.agg [.mp (some mi)]))) (om : σ.objs[mi]? = some (.map (L.map (entV conF)) ck)) (h0 : 0 ≤ cntK a L) (h1 : cntK a L ≤ 1000000)
    (hK : K (.int .i64 (cntK a L + 1)) ((σ.set mi (.map ((setK a (cntK a L + 1) (insK a L ck)).map (entV conF)) (ckK a L ck))).app [.cells (conF a)])) : TCalls Try.prog 27 [.ptr (some (c, [])), conF a] σ K := by
  have hlc := (List.getElem?_eq_some_iff.1 oc).1
  have hlm := (List.getElem?_eq_some_iff.1 om).1
  have hcm : c ≠ mi := fun e => by subst e; rw [om] at oc; cases oc
  have ocA := fun l => objs_known_app oc l
  have cA := fun l => cellAt_known (ocA l)
  have omA := fun l => objs_known_app om l
  refine tcalls_walk Try.f27 _ [.tmp 4] Try.func27 rfl rfl rfl mixed (Nat.le_of_ble_eq_true rfl) rfl fun hlen => ?_
  repeat' (first | (simp -dsimp only [↓reduceIte, go_sem, cA, ocA]) | (refine arr_intro fun _ => ?_) | (refine later_intro ⟨keeps_nil, ?_⟩) | (refine later_intro ⟨keeps_refl, ?_⟩) | (with_reducible refine keeps_go ?_ ?_; focus (first | (simp [keeps_cons, keeps_none, objs_app, objs_app0]; done) | (simp only [keeps_cons, keeps_none, objs_app0, objs_app, and_true]; first | rfl | exact ⟨rfl, rfl⟩ | exact ⟨rfl, rfl, rfl⟩))) | (with_reducible refine (And.intro (a := keeps _ _ _) ?_ ?_); focus (first | (simp [keeps_cons, keeps_none, objs_app, objs_app0]; done) | (simp only [keeps_cons, keeps_none, objs_app0, objs_app, and_true]; first | rfl | exact ⟨rfl, rfl⟩ | exact ⟨rfl, rfl, rfl⟩))) | (refine both_ways ?_ ?_) | (rw [wrap_i64 (by omega) (by omega)]) | (refine guardV_split (fun h => ?_) (fun h => ?_) <;> (try rw [h]) <;> (try simp at h) <;> (try (exfalso; omega))) | (with_reducible refine awp_drawU (id := 1) (.op 0 2 (.op 1 2 (.op 2 2 (.op 3 2 (.op 4 2 (.fork 5 (.op 5 1 (.op 6 0 (.op 7 1 (.cut (.op 8 2 (.op 9 1 .nil)))))) (.op 7 1 (.op 8 0 (.op 5 1 (.cut (.op 6 2 (.op 9 1 .nil)))))))))))) (by kernel_rfl) ?_) | (refine lookupK (a := a) Try.underlying99 (fun _ => con_ok) (fun _ _ => eq_con) (omA _) ?_))
  · refine entryK (a := a) Try.underlying99 (fun _ => con_ok) (fun _ _ => eq_con) (omA _) fun j x hj hx => ?_
    generalize hs1 : (σ.app [.cells (conF a)]).set mi _ = s1
    have o1 : s1.objs[mi]? = some (.map ((insK a L ck).map (entV conF)) (ckK a L ck)) := by subst hs1; exact objs_setS' (Nat.lt_of_lt_of_le hlm (by simp [AST.app]))
    have c1 : s1.objs[c]? = some (.cells (.agg [.mp (some mi)])) := by subst hs1; rw [objs_setN' (Ne.symm hcm)]; exact ocA _
    have b1 : s1.objs[σ.objs.length]? = some (.cells (conF a)) := by subst hs1; rw [objs_setN' (by omega)]; exact objs_app0
    have cc1 := cellAt_known c1
    have cb1 := cellAt_known b1
    have hwr : IntKind.i64.wrap (cntK a L + 1) = cntK a L + 1 := wrap_i64 (by omega) (by omega)
    have hci : cntK a (insK a L ck) = cntK a L := cnt_ins
    have hs2 : s1.set mi (.map ((setK a (cntK a L + 1) (insK a L ck)).map (entV conF)) (ckK a L ck)) = (σ.set mi (.map ((setK a (cntK a L + 1) (insK a L ck)).map (entV conF)) (ckK a L ck))).app [.cells (conF a)] := by
      subst hs1; rw [set_set', set_app' hlm]
    repeat' (first | (simp -dsimp only [↓reduceIte, go_sem, cc1, cb1, hwr]) | (refine arr_intro fun _ => ?_) | (refine later_intro ⟨keeps_nil, ?_⟩) | (refine later_intro ⟨keeps_refl, ?_⟩) | (with_reducible refine keeps_go ?_ ?_; focus (first | (simp [keeps_cons, keeps_none, objs_app, objs_app0]; done) | (simp only [keeps_cons, keeps_none, objs_app0, objs_app, and_true]; first | rfl | exact ⟨rfl, rfl⟩ | exact ⟨rfl, rfl, rfl⟩))) | (with_reducible refine (And.intro (a := keeps _ _ _) ?_ ?_); focus (first | (simp [keeps_cons, keeps_none, objs_app, objs_app0]; done) | (simp only [keeps_cons, keeps_none, objs_app0, objs_app, and_true]; first | rfl | exact ⟨rfl, rfl⟩ | exact ⟨rfl, rfl, rfl⟩))) | (refine both_ways ?_ ?_) | (rw [wrap_i64 (by omega) (by omega)]) | (refine guardV_split (fun h => ?_) (fun h => ?_) <;> (try rw [h]) <;> (try simp at h) <;> (try (exfalso; omega))) | (refine storeK (a := a) o1 hj hx ?_))
    generalize hs3 : s1.set mi (.map ((setK a (cntK a L + 1) (insK a L ck)).map (entV conF)) (ckK a L ck)) = s2 at hs2 ⊢
    rw [← hs2] at hK
    have hl1 : mi < s1.objs.length := (List.getElem?_eq_some_iff.1 o1).1
    have o2 : s2.objs[mi]? = some (.map ((setK a (cntK a L + 1) (insK a L ck)).map (entV conF)) (ckK a L ck)) := by subst hs3; exact objs_setS' hl1
    have c2 : s2.objs[c]? = some (.cells (.agg [.mp (some mi)])) := by subst hs3; rw [objs_setN' (Ne.symm hcm)]; exact c1
    have b2 : s2.objs[σ.objs.length]? = some (.cells (conF a)) := by subst hs3; rw [objs_setN' (by omega)]; exact b1
    have cc2 := cellAt_known c2
    have cb2 := cellAt_known b2
    have hfin : cntK a (setK a (cntK a L + 1) (insK a L ck)) = cntK a L + 1 := by rw [cnt_set hj, if_pos rfl]
    repeat' (first | (simp -dsimp only [↓reduceIte, go_sem, cc2, cb2, hfin]) | (refine arr_intro fun _ => ?_) | (refine later_intro ⟨keeps_nil, ?_⟩) | (refine later_intro ⟨keeps_refl, ?_⟩) | (with_reducible refine keeps_go ?_ ?_; focus (first | (simp [keeps_cons, keeps_none, objs_app, objs_app0]; done) | (simp only [keeps_cons, keeps_none, objs_app0, objs_app, and_true]; first | rfl | exact ⟨rfl, rfl⟩ | exact ⟨rfl, rfl, rfl⟩))) | (with_reducible refine (And.intro (a := keeps _ _ _) ?_ ?_); focus (first | (simp [keeps_cons, keeps_none, objs_app, objs_app0]; done) | (simp only [keeps_cons, keeps_none, objs_app0, objs_app, and_true]; first | rfl | exact ⟨rfl, rfl⟩ | exact ⟨rfl, rfl, rfl⟩))) | (refine both_ways ?_ ?_) | (rw [wrap_i64 (by omega) (by omega)]) | (refine guardV_split (fun h => ?_) (fun h => ?_) <;> (try rw [h]) <;> (try simp at h) <;> (try (exfalso; omega))) | (with_reducible refine awp_drawT (id := 2) (.op 0 2 (.op 1 2 (.op 2 2 (.op 3 2 (.op 4 2 (.op 5 1 (.op 6 2 .nil))))))) (by kernel_rfl) ?_) | (refine lookupK (a := a) Try.underlying99 (fun _ => con_ok) (fun _ _ => eq_con) o2 ?_))
    exact hK
  · refine entryK (a := a) Try.underlying99 (fun _ => con_ok) (fun _ _ => eq_con) (omA _) fun j x hj hx => ?_
    generalize hs1 : (σ.app [.cells (conF a)]).set mi _ = s1
    have o1 : s1.objs[mi]? = some (.map ((insK a L ck).map (entV conF)) (ckK a L ck)) := by subst hs1; exact objs_setS' (Nat.lt_of_lt_of_le hlm (by simp [AST.app]))
    have c1 : s1.objs[c]? = some (.cells (.agg [.mp (some mi)])) := by subst hs1; rw [objs_setN' (Ne.symm hcm)]; exact ocA _
    have b1 : s1.objs[σ.objs.length]? = some (.cells (conF a)) := by subst hs1; rw [objs_setN' (by omega)]; exact objs_app0
    have cc1 := cellAt_known c1
    have cb1 := cellAt_known b1
    have hwr : IntKind.i64.wrap (cntK a L + 1) = cntK a L + 1 := wrap_i64 (by omega) (by omega)
    have hci : cntK a (insK a L ck) = cntK a L := cnt_ins
    have hs2 : s1.set mi (.map ((setK a (cntK a L + 1) (insK a L ck)).map (entV conF)) (ckK a L ck)) = (σ.set mi (.map ((setK a (cntK a L + 1) (insK a L ck)).map (entV conF)) (ckK a L ck))).app [.cells (conF a)] := by
      subst hs1; rw [set_set', set_app' hlm]
    repeat' (first | (simp -dsimp only [↓reduceIte, go_sem, cc1, cb1, hwr, hci]) | (refine arr_intro fun _ => ?_) | (refine later_intro ⟨keeps_nil, ?_⟩) | (refine later_intro ⟨keeps_refl, ?_⟩) | (with_reducible refine keeps_go ?_ ?_; focus (first | (simp [keeps_cons, keeps_none, objs_app, objs_app0]; done) | (simp only [keeps_cons, keeps_none, objs_app0, objs_app, and_true]; first | rfl | exact ⟨rfl, rfl⟩ | exact ⟨rfl, rfl, rfl⟩))) | (with_reducible refine (And.intro (a := keeps _ _ _) ?_ ?_); focus (first | (simp [keeps_cons, keeps_none, objs_app, objs_app0]; done) | (simp only [keeps_cons, keeps_none, objs_app0, objs_app, and_true]; first | rfl | exact ⟨rfl, rfl⟩ | exact ⟨rfl, rfl, rfl⟩))) | (refine both_ways ?_ ?_) | (rw [wrap_i64 (by omega) (by omega)]) | (refine guardV_split (fun h => ?_) (fun h => ?_) <;> (try rw [h]) <;> (try simp at h) <;> (try (exfalso; omega))) | (refine lookupK (a := a) Try.underlying99 (fun _ => con_ok) (fun _ _ => eq_con) o1 ?_) | (refine storeK (a := a) o1 hj hx ?_))
    generalize hs3 : s1.set mi (.map ((setK a (cntK a L + 1) (insK a L ck)).map (entV conF)) (ckK a L ck)) = s2 at hs2 ⊢
    rw [← hs2] at hK
    have hl1 : mi < s1.objs.length := (List.getElem?_eq_some_iff.1 o1).1
    have o2 : s2.objs[mi]? = some (.map ((setK a (cntK a L + 1) (insK a L ck)).map (entV conF)) (ckK a L ck)) := by subst hs3; exact objs_setS' hl1
    have c2 : s2.objs[c]? = some (.cells (.agg [.mp (some mi)])) := by subst hs3; rw [objs_setN' (Ne.symm hcm)]; exact c1
    have b2 : s2.objs[σ.objs.length]? = some (.cells (conF a)) := by subst hs3; rw [objs_setN' (by omega)]; exact b1
    have cc2 := cellAt_known c2
    have cb2 := cellAt_known b2
    have hfin : cntK a (setK a (cntK a L + 1) (insK a L ck)) = cntK a L + 1 := by rw [cnt_set hj, if_pos rfl]
    repeat' (first | (simp -dsimp only [↓reduceIte, go_sem, cc2, cb2, hfin]) | (refine arr_intro fun _ => ?_) | (refine later_intro ⟨keeps_nil, ?_⟩) | (refine later_intro ⟨keeps_refl, ?_⟩) | (with_reducible refine keeps_go ?_ ?_; focus (first | (simp [keeps_cons, keeps_none, objs_app, objs_app0]; done) | (simp only [keeps_cons, keeps_none, objs_app0, objs_app, and_true]; first | rfl | exact ⟨rfl, rfl⟩ | exact ⟨rfl, rfl, rfl⟩))) | (with_reducible refine (And.intro (a := keeps _ _ _) ?_ ?_); focus (first | (simp [keeps_cons, keeps_none, objs_app, objs_app0]; done) | (simp only [keeps_cons, keeps_none, objs_app0, objs_app, and_true]; first | rfl | exact ⟨rfl, rfl⟩ | exact ⟨rfl, rfl, rfl⟩))) | (refine both_ways ?_ ?_) | (rw [wrap_i64 (by omega) (by omega)]) | (refine guardV_split (fun h => ?_) (fun h => ?_) <;> (try rw [h]) <;> (try simp at h) <;> (try (exfalso; omega))) | (with_reducible refine awp_drawT (id := 2) (.op 0 2 (.op 1 2 (.op 2 2 (.op 3 2 (.op 4 2 (.op 5 1 (.op 6 2 .nil))))))) (by kernel_rfl) ?_) | (refine lookupK (a := a) Try.underlying99 (fun _ => con_ok) (fun _ _ => eq_con) o2 ?_))
    exact hK
theorem newCon_c {σ : AST} {K : AV → AST → Prop} (hK : K (.ptr (some (σ.objs.length + 1, []))) (σ.app [.map [] 0, .cells (.agg [.mp (some σ.objs.length)])])) : TCalls Try.prog 25 [] σ K := by
  refine tcalls_walk Try.f25 _ [.tmp 0] Try.func25 rfl rfl rfl mixed (Nat.le_of_ble_eq_true rfl) rfl fun hlen => ?_
  repeat' (first | (simp -dsimp only [↓reduceIte, go_sem]) | (refine arr_intro fun _ => ?_) | (refine later_intro ⟨keeps_nil, ?_⟩) | (refine later_intro ⟨keeps_refl, ?_⟩) | (with_reducible refine keeps_go ?_ ?_; focus (first | (simp [keeps_cons, keeps_none, objs_app, objs_app0]; done) | (simp only [keeps_cons, keeps_none, objs_app0, objs_app, and_true]; first | rfl | exact ⟨rfl, rfl⟩ | exact ⟨rfl, rfl, rfl⟩))) | (with_reducible refine (And.intro (a := keeps _ _ _) ?_ ?_); focus (first | (simp [keeps_cons, keeps_none, objs_app, objs_app0]; done) | (simp only [keeps_cons, keeps_none, objs_app0, objs_app, and_true]; first | rfl | exact ⟨rfl, rfl⟩ | exact ⟨rfl, rfl, rfl⟩))) | (refine both_ways ?_ ?_) | (rw [wrap_i64 (by omega) (by omega)]) | (refine guardV_split (fun h => ?_) (fun h => ?_) <;> (try rw [h]) <;> (try simp at h) <;> (try (exfalso; omega))))
  exact hK
theorem newKey_c {σ : AST} {K : AV → AST → Prop} (hK : K (.ptr (some (σ.objs.length + 1, []))) (σ.app [.map [] 0, .cells (.agg [.mp (some σ.objs.length)])])) : TCalls Try.prog 26 [] σ K := by
  refine tcalls_walk Try.f26 _ [.tmp 0] Try.func26 rfl rfl rfl mixed (Nat.le_of_ble_eq_true rfl) rfl fun hlen => ?_
  repeat' (first | (simp -dsimp only [↓reduceIte, go_sem]) | (refine arr_intro fun _ => ?_) | (refine later_intro ⟨keeps_nil, ?_⟩) | (refine later_intro ⟨keeps_refl, ?_⟩) | (with_reducible refine keeps_go ?_ ?_; focus (first | (simp [keeps_cons, keeps_none, objs_app, objs_app0]; done) | (simp only [keeps_cons, keeps_none, objs_app0, objs_app, and_true]; first | rfl | exact ⟨rfl, rfl⟩ | exact ⟨rfl, rfl, rfl⟩))) | (with_reducible refine (And.intro (a := keeps _ _ _) ?_ ?_); focus (first | (simp [keeps_cons, keeps_none, objs_app, objs_app0]; done) | (simp only [keeps_cons, keeps_none, objs_app0, objs_app, and_true]; first | rfl | exact ⟨rfl, rfl⟩ | exact ⟨rfl, rfl, rfl⟩))) | (refine both_ways ?_ ?_) | (rw [wrap_i64 (by omega) (by omega)]) | (refine guardV_split (fun h => ?_) (fun h => ?_) <;> (try rw [h]) <;> (try simp at h) <;> (try (exfalso; omega))))
  exact hK
theorem forget_c {σ : AST} {c mi ck : Nat} {es : List (Nat × AV × AV)} {K : AV → AST → Prop} (oc : σ.objs[c]? = some (.cells (.agg [.mp (some mi)]))) (om : σ.objs[mi]? = some (.map es ck)) (hK : K (.tuple []) (σ.set mi (.map [] ck))) : TCalls Try.prog 31 [.ptr (some (c, []))] σ K := by
  have cc := cellAt_known oc
  refine tcalls_walk Try.f31 _ [] Try.func31 rfl rfl rfl mixed (Nat.le_of_ble_eq_true rfl) rfl fun hlen => ?_
  repeat' (first | (simp -dsimp only [↓reduceIte, go_sem, cc, om, oc]) | (refine arr_intro fun _ => ?_) | (refine later_intro ⟨keeps_nil, ?_⟩) | (refine later_intro ⟨keeps_refl, ?_⟩) | (with_reducible refine keeps_go ?_ ?_; focus (first | (simp [keeps_cons, keeps_none, objs_app, objs_app0]; done) | (simp only [keeps_cons, keeps_none, objs_app0, objs_app, and_true]; first | rfl | exact ⟨rfl, rfl⟩ | exact ⟨rfl, rfl, rfl⟩))) | (with_reducible refine (And.intro (a := keeps _ _ _) ?_ ?_); focus (first | (simp [keeps_cons, keeps_none, objs_app, objs_app0]; done) | (simp only [keeps_cons, keeps_none, objs_app0, objs_app, and_true]; first | rfl | exact ⟨rfl, rfl⟩ | exact ⟨rfl, rfl, rfl⟩))) | (refine both_ways ?_ ?_) | (rw [wrap_i64 (by omega) (by omega)]) | (refine guardV_split (fun h => ?_) (fun h => ?_) <;> (try rw [h]) <;> (try simp at h) <;> (try (exfalso; omega))))
  refine ⟨⟨_, _, rfl, Try.underlying99⟩, ?_⟩
  simp only [om]
  repeat' (first | (simp -dsimp only [↓reduceIte, go_sem]) | (refine arr_intro fun _ => ?_) | (refine later_intro ⟨keeps_nil, ?_⟩) | (refine later_intro ⟨keeps_refl, ?_⟩) | (with_reducible refine keeps_go ?_ ?_; focus (first | (simp [keeps_cons, keeps_none, objs_app, objs_app0]; done) | (simp only [keeps_cons, keeps_none, objs_app0, objs_app, and_true]; first | rfl | exact ⟨rfl, rfl⟩ | exact ⟨rfl, rfl, rfl⟩))) | (with_reducible refine (And.intro (a := keeps _ _ _) ?_ ?_); focus (first | (simp [keeps_cons, keeps_none, objs_app, objs_app0]; done) | (simp only [keeps_cons, keeps_none, objs_app0, objs_app, and_true]; first | rfl | exact ⟨rfl, rfl⟩ | exact ⟨rfl, rfl, rfl⟩))) | (refine both_ways ?_ ?_) | (rw [wrap_i64 (by omega) (by omega)]) | (refine guardV_split (fun h => ?_) (fun h => ?_) <;> (try rw [h]) <;> (try simp at h) <;> (try (exfalso; omega))))
  exact hK
end Go.Aff.L10

/- Layer 32, walked: whose number a message is of; commits. -/
-- cuts
namespace Go.Aff.L10
open Go.Proofs Go.Aff Go.Aff.L01 Classical
set_option linter.unusedVariables false
set_option linter.unusedSimpArgs false
set_option maxRecDepth 20000
attribute [local go_sem] push_app app_app length_app cellAt_app cellAt_app0 set_app set_app0 objs_app objs_app0 List.cons_append List.nil_append List.length_cons List.length_nil List.getElem?_cons_zero List.getElem?_cons_succ List.set_cons_zero List.set_cons_succ List.length_map
attribute [-go_sem] cellAt_new
attribute [-simp] List.length_flatMap
attribute [local go_sem] Try.underlying3 Try.underlying4 Try.underlying5 Try.underlying9 Try.underlying42 Try.underlying43 Try.underlying46 Try.underlying51 Try.underlying39 Try.underlying37 subPs_0 subAt_0 subSet_0 subPs_1 subAt_1 subSet_1 subPs_2 subAt_2 subSet_2 subPs_3 subAt_3 subSet_3 subPs_4 subAt_4 subSet_4 subPs_5 subAt_5 subSet_5 sizes_sub shapes_sub fits_sub zero_sub zt_sub built_sub Try.underlying45 pendPs_0 pendAt_0 pendSet_0 pendPs_1 pendAt_1 pendSet_1 pendPs_2 pendAt_2 pendSet_2 pendPs_3 pendAt_3 pendSet_3 pendPs_4 pendAt_4 pendSet_4 pendPs_5 pendAt_5 pendSet_5 sizes_pend shapes_pend fits_pend zero_pend zt_pend built_pend Try.underlying96 repPs_0 repAt_0 repSet_0 repPs_1 repAt_1 repSet_1 repPs_2 repAt_2 repSet_2 repPs_3 repAt_3 repSet_3 repPs_4 repAt_4 repSet_4 repPs_5 repAt_5 repSet_5 repPs_6 repAt_6 repSet_6 repPs_7 repAt_7 repSet_7 repPs_8 repAt_8 repSet_8 repPs_9 repAt_9 repSet_9 sizes_rep shapes_rep fits_rep zero_rep zt_rep built_rep Try.underlying48 blobPs_0 blobAt_0 blobSet_0 blobPs_1 blobAt_1 blobSet_1 blobPs_2 blobAt_2 blobSet_2 blobPs_3 blobAt_3 blobSet_3 sizes_blob shapes_blob fits_blob zero_blob zt_blob built_blob Try.underlying50 msgPs_0 msgAt_0 msgSet_0 msgPs_1 msgAt_1 msgSet_1 msgPs_2 msgAt_2 msgSet_2 msgPs_3 msgAt_3 msgSet_3 msgPs_4 msgAt_4 msgSet_4 msgPs_5 msgAt_5 msgSet_5 msgPs_6 msgAt_6 msgSet_6 msgPs_7 msgAt_7 msgSet_7 msgPs_8 msgAt_8 msgSet_8 msgPs_9 msgAt_9 msgSet_9 sizes_msg shapes_msg fits_msg zero_msg zt_msg built_msg Try.underlying53 at_Ps_0 at_Set_0 at_Ps_1 at_Set_1 sizes_at_ shapes_at_
attribute [local go_sem] fits3 fits4 fits5 fits9 fits23 fits26 fits31 fits34 fits52 zt3 zero3 zt34 zero34 zt23 zero23 bin_sub_eql bin_pend_eql bin_pend_neq bin_blob_eql bin_dig23_eql bin_dig23_neq slice23
attribute [local go_sem ↓] blockQ_exit2
attribute [local simp] dig_ext
attribute [local go_sem] postPs_0 postAt_0 postSet_0 postPs_1 postAt_1 postSet_1 postPs_2 postAt_2 postSet_2 sizes_post shapes_post fits_post zero_post zt_post built_post Try.underlying34 keyPs_0 keyAt_0 keySet_0 keyPs_1 keyAt_1 keySet_1 keyPs_2 keyAt_2 keySet_2 sizes_key shapes_key fits_key zero_key zt_key built_key Try.underlying74 conPs_0 conAt_0 conSet_0 conPs_1 conAt_1 conSet_1 sizes_con shapes_con fits_con zero_con zt_con built_con Try.underlying76 Try.underlying22 Try.underlying24 Try.underlying25 Try.underlying27 Try.underlying30 Try.underlying51 Try.underlying99 Try.underlying101 Try.underlying102 Try.underlying104
def named (m : Msg) : Key × Bool := if m.kind = 1 then (⟨m.kind, m.client, m.sub.num⟩, true) else if m.kind = 4 then (⟨m.kind, m.blob.owner, m.blob.num⟩, true) else (key0, false)
theorem named_c {m : Msg} {t u : Tk} {σ : AST} {K : AV → AST → Prop} (hK : K (.tuple [keyV (named m).1, .bool (named m).2]) σ) : TCalls Try.prog 29 [msgV t u m] σ K := by
  refine TCalls.drop ?_
  have hfin : ∀ s' x v, Ext σ s' → named m = (x, v) → Ext σ s' ∧ (AV.tuple [keyV x, .bool v]).noRef = true ∧ K (AV.tuple [keyV x, .bool v]).strip σ := fun s' x v hx he => by
    refine ⟨hx, by simp [AV.noRef, AV.noRefs, keyPs], ?_⟩
    simp only [AV.strip, AV.strips, strip_key]
    rw [he] at hK; exact hK
  refine tcalls_walk Try.f29 _ [.cell 2 74, .tmp 3] Try.func29 rfl rfl rfl mixed (Nat.le_of_ble_eq_true rfl) rfl fun hlen => ?_
  by_cases h1 : m.kind = 1
  · have hn : named m = (⟨m.kind, m.client, m.sub.num⟩, true) := by unfold named; rw [if_pos h1]
    repeat' (first | (simp -dsimp only [↓reduceIte, go_sem, h1]) | (refine arr_intro fun _ => ?_) | (refine later_intro ⟨keeps_nil, ?_⟩) | (refine later_intro ⟨keeps_refl, ?_⟩) | (with_reducible refine keeps_go ?_ ?_; focus (first | (simp [keeps_cons, keeps_none, objs_app, objs_app0]; done) | (simp only [keeps_cons, keeps_none, objs_app0, objs_app, and_true]; first | rfl | exact ⟨rfl, rfl⟩ | exact ⟨rfl, rfl, rfl⟩))) | (with_reducible refine (And.intro (a := keeps _ _ _) ?_ ?_); focus (first | (simp [keeps_cons, keeps_none, objs_app, objs_app0]; done) | (simp only [keeps_cons, keeps_none, objs_app0, objs_app, and_true]; first | rfl | exact ⟨rfl, rfl⟩ | exact ⟨rfl, rfl, rfl⟩))) | (refine both_ways ?_ ?_) | (rw [wrap_i64 (by omega) (by omega)]) | (refine guardV_split (fun h => ?_) (fun h => ?_) <;> (try rw [h]) <;> (try simp at h) <;> (try (exfalso; omega))))
    rw [h1] at hn
    exact hfin _ _ _ (Ext.app _ _) hn
  · by_cases h4 : m.kind = 4
    · have hn : named m = (⟨m.kind, m.blob.owner, m.blob.num⟩, true) := by unfold named; rw [if_neg h1, if_pos h4]
      repeat' (first | (simp -dsimp only [↓reduceIte, go_sem, h1, h4]) | (refine arr_intro fun _ => ?_) | (refine later_intro ⟨keeps_nil, ?_⟩) | (refine later_intro ⟨keeps_refl, ?_⟩) | (with_reducible refine keeps_go ?_ ?_; focus (first | (simp [keeps_cons, keeps_none, objs_app, objs_app0]; done) | (simp only [keeps_cons, keeps_none, objs_app0, objs_app, and_true]; first | rfl | exact ⟨rfl, rfl⟩ | exact ⟨rfl, rfl, rfl⟩))) | (with_reducible refine (And.intro (a := keeps _ _ _) ?_ ?_); focus (first | (simp [keeps_cons, keeps_none, objs_app, objs_app0]; done) | (simp only [keeps_cons, keeps_none, objs_app0, objs_app, and_true]; first | rfl | exact ⟨rfl, rfl⟩ | exact ⟨rfl, rfl, rfl⟩))) | (refine both_ways ?_ ?_) | (rw [wrap_i64 (by omega) (by omega)]) | (refine guardV_split (fun h => ?_) (fun h => ?_) <;> (try rw [h]) <;> (try simp at h) <;> (try (exfalso; omega))))
      rw [h4] at hn
      exact hfin _ _ _ (Ext.app _ _) hn
    · have hn : named m = (key0, false) := by unfold named; rw [if_neg h1, if_neg h4]
      repeat' (first | (simp -dsimp only [↓reduceIte, go_sem, h1, h4]) | (refine arr_intro fun _ => ?_) | (refine later_intro ⟨keeps_nil, ?_⟩) | (refine later_intro ⟨keeps_refl, ?_⟩) | (with_reducible refine keeps_go ?_ ?_; focus (first | (simp [keeps_cons, keeps_none, objs_app, objs_app0]; done) | (simp only [keeps_cons, keeps_none, objs_app0, objs_app, and_true]; first | rfl | exact ⟨rfl, rfl⟩ | exact ⟨rfl, rfl, rfl⟩))) | (with_reducible refine (And.intro (a := keeps _ _ _) ?_ ?_); focus (first | (simp [keeps_cons, keeps_none, objs_app, objs_app0]; done) | (simp only [keeps_cons, keeps_none, objs_app0, objs_app, and_true]; first | rfl | exact ⟨rfl, rfl⟩ | exact ⟨rfl, rfl, rfl⟩))) | (refine both_ways ?_ ?_) | (rw [wrap_i64 (by omega) (by omega)]) | (refine guardV_split (fun h => ?_) (fun h => ?_) <;> (try rw [h]) <;> (try simp at h) <;> (try (exfalso; omega))))
      exact hfin _ _ _ (Ext.app _ _) hn
def comM32 (m : Msg) : Prop := m.kind = 3 ∨ m.kind = 10
theorem commit_c {m : Msg} {t u : Tk} {σ : AST} {K : AV → AST → Prop} (hK : K (.bool (decide (comM32 m))) σ) : TCalls Try.prog 34 [msgV t u m] σ K := by
  refine TCalls.drop ?_
  have hfin : ∀ s' b, Ext σ s' → decide (comM32 m) = b → Ext σ s' ∧ (AV.bool b).noRef = true ∧ K (AV.bool b).strip σ := fun s' b hx he => ⟨hx, rfl, by rw [he] at hK; simpa [AV.strip] using hK⟩
  refine tcalls_walk Try.f34 _ [.tmp 2] Try.func34 rfl rfl rfl mixed (Nat.le_of_ble_eq_true rfl) rfl fun hlen => ?_
  by_cases h1 : m.kind = 3
  · repeat' (first | (simp -dsimp only [↓reduceIte, go_sem, h1]) | (refine arr_intro fun _ => ?_) | (refine later_intro ⟨keeps_nil, ?_⟩) | (refine later_intro ⟨keeps_refl, ?_⟩) | (with_reducible refine keeps_go ?_ ?_; focus (first | (simp [keeps_cons, keeps_none, objs_app, objs_app0]; done) | (simp only [keeps_cons, keeps_none, objs_app0, objs_app, and_true]; first | rfl | exact ⟨rfl, rfl⟩ | exact ⟨rfl, rfl, rfl⟩))) | (with_reducible refine (And.intro (a := keeps _ _ _) ?_ ?_); focus (first | (simp [keeps_cons, keeps_none, objs_app, objs_app0]; done) | (simp only [keeps_cons, keeps_none, objs_app0, objs_app, and_true]; first | rfl | exact ⟨rfl, rfl⟩ | exact ⟨rfl, rfl, rfl⟩))) | (refine both_ways ?_ ?_) | (rw [wrap_i64 (by omega) (by omega)]) | (refine guardV_split (fun h => ?_) (fun h => ?_) <;> (try rw [h]) <;> (try simp at h) <;> (try (exfalso; omega))))
    exact hfin _ _ (Ext.app _ _) (by simp [comM32, h1])
  · by_cases h2 : m.kind = 10
    · repeat' (first | (simp -dsimp only [↓reduceIte, go_sem, h1, h2]) | (refine arr_intro fun _ => ?_) | (refine later_intro ⟨keeps_nil, ?_⟩) | (refine later_intro ⟨keeps_refl, ?_⟩) | (with_reducible refine keeps_go ?_ ?_; focus (first | (simp [keeps_cons, keeps_none, objs_app, objs_app0]; done) | (simp only [keeps_cons, keeps_none, objs_app0, objs_app, and_true]; first | rfl | exact ⟨rfl, rfl⟩ | exact ⟨rfl, rfl, rfl⟩))) | (with_reducible refine (And.intro (a := keeps _ _ _) ?_ ?_); focus (first | (simp [keeps_cons, keeps_none, objs_app, objs_app0]; done) | (simp only [keeps_cons, keeps_none, objs_app0, objs_app, and_true]; first | rfl | exact ⟨rfl, rfl⟩ | exact ⟨rfl, rfl, rfl⟩))) | (refine both_ways ?_ ?_) | (rw [wrap_i64 (by omega) (by omega)]) | (refine guardV_split (fun h => ?_) (fun h => ?_) <;> (try rw [h]) <;> (try simp at h) <;> (try (exfalso; omega))))
      exact hfin _ _ (Ext.app _ _) (by simp [comM32, h2])
    · repeat' (first | (simp -dsimp only [↓reduceIte, go_sem, h1, h2]) | (refine arr_intro fun _ => ?_) | (refine later_intro ⟨keeps_nil, ?_⟩) | (refine later_intro ⟨keeps_refl, ?_⟩) | (with_reducible refine keeps_go ?_ ?_; focus (first | (simp [keeps_cons, keeps_none, objs_app, objs_app0]; done) | (simp only [keeps_cons, keeps_none, objs_app0, objs_app, and_true]; first | rfl | exact ⟨rfl, rfl⟩ | exact ⟨rfl, rfl, rfl⟩))) | (with_reducible refine (And.intro (a := keeps _ _ _) ?_ ?_); focus (first | (simp [keeps_cons, keeps_none, objs_app, objs_app0]; done) | (simp only [keeps_cons, keeps_none, objs_app0, objs_app, and_true]; first | rfl | exact ⟨rfl, rfl⟩ | exact ⟨rfl, rfl, rfl⟩))) | (refine both_ways ?_ ?_) | (rw [wrap_i64 (by omega) (by omega)]) | (refine guardV_split (fun h => ?_) (fun h => ?_) <;> (try rw [h]) <;> (try simp at h) <;> (try (exfalso; omega))))
      exact hfin _ _ (Ext.app _ _) (by simp [comM32, h1, h2])
end Go.Aff.L10

