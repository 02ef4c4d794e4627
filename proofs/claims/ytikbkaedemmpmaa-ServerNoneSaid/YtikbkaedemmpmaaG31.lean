import Derived.Test.YtikbkaedemmpmaaG30
import Derived.Test.YtikbkaedemmpmaaG21

set_option linter.unusedSimpArgs false
set_option linter.unusedVariables false

/- Layer 11, walked: stores in memory. -/
-- cuts
namespace Go.Aff.L10
open Go.Proofs Go.Aff Go.Aff.L01 Classical
set_option linter.unusedVariables false
set_option linter.unusedSimpArgs false
set_option maxRecDepth 20000
attribute [local go_sem] push_app app_app length_app cellAt_app cellAt_app0 set_app set_app0 objs_app objs_app0 List.cons_append List.nil_append List.length_cons List.length_nil List.getElem?_cons_zero List.getElem?_cons_succ List.set_cons_zero List.set_cons_succ List.length_map
attribute [-go_sem] cellAt_new
attribute [-simp] List.length_flatMap
attribute [local go_sem] Try.underlying3 Try.underlying4 Try.underlying5 Try.underlying9 Try.underlying36 Try.underlying37 Try.underlying42 Try.underlying45 Try.underlying31 Try.underlying61 subPs_0 subAt_0 subSet_0 subPs_1 subAt_1 subSet_1 subPs_2 subAt_2 subSet_2 subPs_3 subAt_3 subSet_3 subPs_4 subAt_4 subSet_4 subPs_5 subAt_5 subSet_5 sizes_sub shapes_sub fits_sub zero_sub zt_sub built_sub Try.underlying41 pendPs_0 pendAt_0 pendSet_0 pendPs_1 pendAt_1 pendSet_1 pendPs_2 pendAt_2 pendSet_2 pendPs_3 pendAt_3 pendSet_3 pendPs_4 pendAt_4 pendSet_4 pendPs_5 pendAt_5 pendSet_5 sizes_pend shapes_pend fits_pend zero_pend zt_pend built_pend Try.underlying92 repPs_0 repAt_0 repSet_0 repPs_1 repAt_1 repSet_1 repPs_2 repAt_2 repSet_2 repPs_3 repAt_3 repSet_3 repPs_4 repAt_4 repSet_4 repPs_5 repAt_5 repSet_5 repPs_6 repAt_6 repSet_6 repPs_7 repAt_7 repSet_7 repPs_8 repAt_8 repSet_8 repPs_9 repAt_9 repSet_9 sizes_rep shapes_rep fits_rep zero_rep zt_rep built_rep Try.underlying44 blobPs_0 blobAt_0 blobSet_0 blobPs_1 blobAt_1 blobSet_1 blobPs_2 blobAt_2 blobSet_2 blobPs_3 blobAt_3 blobSet_3 sizes_blob shapes_blob fits_blob zero_blob zt_blob built_blob Try.underlying39 msgPs_0 msgAt_0 msgSet_0 msgPs_1 msgAt_1 msgSet_1 msgPs_2 msgAt_2 msgSet_2 msgPs_3 msgAt_3 msgSet_3 msgPs_4 msgAt_4 msgSet_4 msgPs_5 msgAt_5 msgSet_5 msgPs_6 msgAt_6 msgSet_6 msgPs_7 msgAt_7 msgSet_7 msgPs_8 msgAt_8 msgSet_8 msgPs_9 msgAt_9 msgSet_9 sizes_msg shapes_msg fits_msg zero_msg zt_msg built_msg Try.underlying47 at_Ps_0 at_Set_0 at_Ps_1 at_Set_1 sizes_at_ shapes_at_
attribute [local go_sem] fits3 fits4 fits5 fits9 fits23 fits26 fits31 fits34 fits52 zt3 zero3 zt34 zero34 zt23 zero23 bin_sub_eql bin_pend_eql bin_pend_neq bin_blob_eql bin_dig23_eql bin_dig23_neq slice23
attribute [local go_sem ↓] blockQ_exit2
attribute [local simp] dig_ext
attribute [local go_sem] bkeyPs_0 bkeyAt_0 bkeySet_0 bkeyPs_1 bkeyAt_1 bkeySet_1 sizes_bkey shapes_bkey fits_bkey zero_bkey zt_bkey built_bkey Try.underlying95 bin_blob_neq fits58 stAt zero60 zt60 built60 fits60 shape_mp Try.underlying97 Try.underlying99 Try.underlying28
theorem objs_setSB {s : AST} {k : Nat} {o : AObj} (h : k < s.objs.length) : (s.set k o).objs[k]? = some o := by simp only [AST.set]; rw [List.getElem?_set_self h]
theorem objs_setNB {s : AST} {j k : Nat} {o : AObj} (h : j ≠ k) : (s.set j o).objs[k]? = s.objs[k]? := by simp only [AST.set]; rw [List.getElem?_set_ne h]
theorem set_appB {s : AST} {i : Nat} {o : AObj} {l : List AObj} (h : i < s.objs.length) : (s.app l).set i o = (s.set i o).app l := by
  simp only [AST.set, AST.app]; rw [List.set_append_left _ _ h]
theorem ext_knownB {a b : AST} {k : Nat} {o : AObj} (h : Ext a b) (ho : a.objs[k]? = some o) : b.objs[k]? = some o := by
  obtain ⟨O, T, rfl⟩ := h
  rw [List.getElem?_append_left (List.getElem?_eq_some_iff.1 ho).1]; exact ho
theorem cell_ltB {s : AST} {j : Nat} {o : AObj} (h : s.objs[j]? = some o) : j < s.objs.length := (List.getElem?_eq_some_iff.1 h).1
def kOf (b : Blob) : BKey := ⟨b.owner, b.num⟩
def entB (e : Nat × Blob) : Nat × AV × AV := (e.1, .agg (bkeyPs (kOf e.2)), .agg (blobPs e.2))
theorem findB {o n : Int} : ∀ {E : List (Nat × Blob)}, findE Try.prog 95 (.agg (bkeyPs ⟨o, n⟩)) (E.map entB) = some (bfind (E.map (·.2)) o n)
  | [] => rfl
  | e :: E => by
    have ih := findB (o := o) (n := n) (E := E)
    simp only [List.map_cons, findE, entB, eqK, bkey_ok, if_true, eq_bkey]
    unfold bfind at ih ⊢
    rw [List.findIdx?_cons]
    by_cases h : e.2.owner = o ∧ e.2.num = n
    · obtain ⟨rfl, rfl⟩ := h
      simp [isB, kOf]
    · have h1 : ¬ ((⟨o, n⟩ : BKey) = kOf e.2) := fun hh => h (by simp only [kOf, BKey.mk.injEq] at hh; exact ⟨hh.1.symm, hh.2.symm⟩)
      have h2 : isB o n e.2 = false := by simp only [isB, decide_eq_false_iff_not]; exact h
      rw [h2]
      simp only [decide_eq_false h1]
      change (findE Try.prog 95 (.agg (bkeyPs ⟨o, n⟩)) (E.map entB)).map _ = _
      rw [ih]; simp
/-- A store in memory, and what else is known of memory. -/
structure SF (σ0 s : AST) (j mi : Nat) (B : List Blob) (F : List (Nat × AObj)) : Prop where
  x : Ext σ0 s
  jn : σ0.objs.length ≤ j
  mn : σ0.objs.length ≤ mi
  jm : j ≠ mi
  o : s.objs[j]? = some (.cells (.agg [.mp (some mi)]))
  om : ∃ (E : List (Nat × Blob)) (ck : Nat), E.map (·.2) = B ∧ s.objs[mi]? = some (.map (E.map entB) ck) ∧ (∀ e ∈ E, e.1 < ck) ∧ (E.map (·.1)).Nodup
  f : ∀ x ∈ F, x.1 ≠ j ∧ x.1 ≠ mi ∧ s.objs[x.1]? = some x.2
section
variable {σ0 s s2 : AST} {j mi : Nat} {B : List Blob} {F : List (Nat × AObj)} {K : AV → AST → Prop}
theorem SF.ext (h : SF σ0 s j mi B F) (e : Ext s s2) : SF σ0 s2 j mi B F := by
  obtain ⟨E, ck, h1, h2, h3, h4⟩ := h.om
  exact ⟨h.x.trans e, h.jn, h.mn, h.jm, ext_knownB e h.o, ⟨E, ck, h1, ext_knownB e h2, h3, h4⟩, fun x hx => ⟨(h.f x hx).1, (h.f x hx).2.1, ext_knownB e (h.f x hx).2.2⟩⟩
theorem SF.more (h : SF σ0 s j mi B F) {i : Nat} {o : AObj} (ho : s.objs[i]? = some o) (h1 : i ≠ j) (h2 : i ≠ mi) : SF σ0 s j mi B ((i, o) :: F) :=
  ⟨h.x, h.jn, h.mn, h.jm, h.o, h.om, fun x hx => by
    rcases List.mem_cons.1 hx with rfl | hx
    · exact ⟨h1, h2, ho⟩
    · exact h.f x hx⟩
theorem SF.less {y : Nat × AObj} (h : SF σ0 s j mi B (y :: F)) : SF σ0 s j mi B F := ⟨h.x, h.jn, h.mn, h.jm, h.o, h.om, fun x hx => h.f x (List.mem_cons_of_mem _ hx)⟩
theorem SF.lt (h : SF σ0 s j mi B F) : j < s.objs.length ∧ mi < s.objs.length := by
  obtain ⟨E, ck, _, h2, _⟩ := h.om
  exact ⟨cell_ltB h.o, cell_ltB h2⟩
theorem SF.box (h : SF σ0 s j mi B F) (o : AObj) : SF σ0 (s.app [o]) j mi B ((s.objs.length, o) :: F) := by
  have hl := h.lt
  exact (h.ext (Ext.app _ _)).more objs_app0 (by omega) (by omega)
/-- The map is put in place of another one. -/
theorem SF.put (h : SF σ0 s j mi B F) {E : List (Nat × Blob)} {ck : Nat} (h1 : ∀ e ∈ E, e.1 < ck) (h2 : (E.map (·.1)).Nodup) : SF σ0 (s.set mi (.map (E.map entB) ck)) j mi (E.map (·.2)) F :=
  ⟨h.x.set h.mn, h.jn, h.mn, h.jm, by rw [objs_setNB (Ne.symm h.jm)]; exact h.o, ⟨E, ck, rfl, objs_setSB h.lt.2, h1, h2⟩, fun x hx => ⟨(h.f x hx).1, (h.f x hx).2.1, by rw [objs_setNB (Ne.symm (h.f x hx).2.1)]; exact (h.f x hx).2.2⟩⟩
theorem lookupB {σ : AST} {E : List (Nat × Blob)} {ck : Nat} {o n : Int} {KV : AV → Prop} (ho : σ.objs[mi]? = some (.map (E.map entB) ck))
    (h1 : ∀ i b, bfind (E.map (·.2)) o n = some i → (E.map (·.2))[i]? = some b → KV (.tuple [.agg (blobPs b), .bool true])) (h2 : bfind (E.map (·.2)) o n = none → KV (.tuple [.agg (blobPs blob0), .bool false])) :
    lookupW Try.prog σ 97 (.mp (some mi)) (.agg (bkeyPs ⟨o, n⟩)) true KV := by
  refine ⟨95, 39, Try.underlying97, bkey_ok, ?_⟩
  simp only [ho]
  refine ⟨_, findB, ?_⟩
  cases hf : bfind (E.map (·.2)) o n with
  | none =>
    refine ⟨by rw [zero_blob]; exact of_eq_true zt_blob, ?_⟩
    rw [zero_blob]; exact h2 hf
  | some i =>
    intro e he
    rw [List.getElem?_map] at he
    obtain ⟨x, hx, rfl⟩ := Option.map_eq_some_iff.1 he
    exact h1 i x.2 hf (by rw [List.getElem?_map, hx]; rfl)
theorem updateB {σ : AST} {E : List (Nat × Blob)} {ck : Nat} {b : Blob} {KS : AST → Prop} (ho : σ.objs[mi]? = some (.map (E.map entB) ck)) (hf : bfind (E.map (·.2)) b.owner b.num = none)
    (hK : KS (σ.set mi (.map ((E ++ [(ck, b)]).map entB) (ck + 1)))) : mapUpdateW Try.prog σ 97 (.mp (some mi)) (.agg (bkeyPs ⟨b.owner, b.num⟩)) (.agg (blobPs b)) KS := by
  refine ⟨95, 39, Try.underlying97, bkey_ok, rfl, ?_⟩
  simp only [ho]
  refine ⟨_, findB, ?_⟩
  rw [hf]
  simpa [entB, kOf] using hK
theorem deleteB {σ : AST} {E : List (Nat × Blob)} {ck i : Nat} {o n : Int} {KS : AST → Prop} (ho : σ.objs[mi]? = some (.map (E.map entB) ck)) (hf : bfind (E.map (·.2)) o n = some i)
    (hK : KS (σ.set mi (.map ((E.eraseIdx i).map entB) ck))) : deleteW Try.prog ⟨[97, 95]⟩ (.mp (some mi)) (.agg (bkeyPs ⟨o, n⟩)) σ KS := by
  refine ⟨97, 95, 39, rfl, Try.underlying97, bkey_ok, ?_⟩
  simp only [ho]
  refine ⟨_, findB, ?_⟩
  rw [hf]
  simp only
  have : (E.map entB).eraseIdx i = (E.eraseIdx i).map entB := by
    rw [List.eraseIdx_eq_take_drop_succ, List.eraseIdx_eq_take_drop_succ, List.map_append, List.map_take, List.map_drop]
  rw [this]; exact hK
end
theorem bright_c {b : Blob} {σ : AST} {K : AV → AST → Prop} (hK : K (.bool (decide b.Rt)) σ) : TCalls Try.prog 35 [.agg (blobPs b)] σ K := by
  refine TCalls.drop ?_
  refine tcalls_walk Try.f35 _ [.tmp 2] Try.func35 rfl rfl rfl mixed (Nat.le_of_ble_eq_true rfl) rfl fun hlen => ?_
  repeat' (first | (simp -dsimp only [↓reduceIte, go_sem]) | (refine arr_intro fun _ => ?_) | (refine later_intro ⟨keeps_nil, ?_⟩) | (refine later_intro ⟨keeps_refl, ?_⟩) | (with_reducible refine keeps_go ?_ ?_; focus (first | (simp [keeps_cons, keeps_none, objs_app, objs_app0]; done) | (simp only [keeps_cons, keeps_none, objs_app0, objs_app, and_true]; first | rfl | exact ⟨rfl, rfl⟩ | exact ⟨rfl, rfl, rfl⟩))) | (with_reducible refine (And.intro (a := keeps _ _ _) ?_ ?_); focus (first | (simp [keeps_cons, keeps_none, objs_app, objs_app0]; done) | (simp only [keeps_cons, keeps_none, objs_app0, objs_app, and_true]; first | rfl | exact ⟨rfl, rfl⟩ | exact ⟨rfl, rfl, rfl⟩))) | (refine both_ways ?_ ?_) | (rw [wrap_i64 (by omega) (by omega)]) | (refine guardV_split (fun h => ?_) (fun h => ?_) <;> (try rw [h]) <;> (try simp at h) <;> (try (exfalso; omega))))
  all_goals (first | exact hK | (exfalso; omega) | (refine bool_endD hK ?_; simp_all [Blob.Rt] <;> fail) | (refine bool_endDX (Ext.app _ _) hK ?_; simp_all [Blob.Rt] <;> fail) | (refine bool_endDX (Ext.refl _) hK ?_; simp_all [Blob.Rt] <;> fail) | (refine bool_endDX hx hK ?_; simp_all [Blob.Rt] <;> fail) | (refine bool_endD hK ?_; simp [Blob.Rt]; omega) | (refine bool_endDX (Ext.app _ _) hK ?_; simp [Blob.Rt]; omega) | (refine bool_endDX (Ext.refl _) hK ?_; simp [Blob.Rt]; omega) | (refine bool_endDX hx hK ?_; simp [Blob.Rt]; omega) | (refine bool_endD hK ?_; simp_all [Blob.Rt]; omega) | (refine bool_endDX (Ext.app _ _) hK ?_; simp_all [Blob.Rt]; omega) | (refine bool_endDX (Ext.refl _) hK ?_; simp_all [Blob.Rt]; omega) | (refine bool_endDX hx hK ?_; simp_all [Blob.Rt]; omega) | (refine bool_endD hK ?_; simp_all [Blob.Rt] <;> omega) | (refine bool_endDX (Ext.app _ _) hK ?_; simp_all [Blob.Rt] <;> omega) | (refine bool_endDX (Ext.refl _) hK ?_; simp_all [Blob.Rt] <;> omega) | (refine bool_endDX hx hK ?_; simp_all [Blob.Rt] <;> omega))
end Go.Aff.L10

/- Layer 11, walked: New, Used, Get. -/
-- cuts
namespace Go.Aff.L10
open Go.Proofs Go.Aff Go.Aff.L01 Classical
set_option linter.unusedVariables false
set_option linter.unusedSimpArgs false
set_option maxRecDepth 20000
attribute [local go_sem] push_app app_app length_app cellAt_app cellAt_app0 set_app set_app0 objs_app objs_app0 List.cons_append List.nil_append List.length_cons List.length_nil List.getElem?_cons_zero List.getElem?_cons_succ List.set_cons_zero List.set_cons_succ List.length_map
attribute [-go_sem] cellAt_new
attribute [-simp] List.length_flatMap
attribute [local go_sem] Try.underlying3 Try.underlying4 Try.underlying5 Try.underlying9 Try.underlying36 Try.underlying37 Try.underlying42 Try.underlying45 Try.underlying31 Try.underlying61 subPs_0 subAt_0 subSet_0 subPs_1 subAt_1 subSet_1 subPs_2 subAt_2 subSet_2 subPs_3 subAt_3 subSet_3 subPs_4 subAt_4 subSet_4 subPs_5 subAt_5 subSet_5 sizes_sub shapes_sub fits_sub zero_sub zt_sub built_sub Try.underlying41 pendPs_0 pendAt_0 pendSet_0 pendPs_1 pendAt_1 pendSet_1 pendPs_2 pendAt_2 pendSet_2 pendPs_3 pendAt_3 pendSet_3 pendPs_4 pendAt_4 pendSet_4 pendPs_5 pendAt_5 pendSet_5 sizes_pend shapes_pend fits_pend zero_pend zt_pend built_pend Try.underlying92 repPs_0 repAt_0 repSet_0 repPs_1 repAt_1 repSet_1 repPs_2 repAt_2 repSet_2 repPs_3 repAt_3 repSet_3 repPs_4 repAt_4 repSet_4 repPs_5 repAt_5 repSet_5 repPs_6 repAt_6 repSet_6 repPs_7 repAt_7 repSet_7 repPs_8 repAt_8 repSet_8 repPs_9 repAt_9 repSet_9 sizes_rep shapes_rep fits_rep zero_rep zt_rep built_rep Try.underlying44 blobPs_0 blobAt_0 blobSet_0 blobPs_1 blobAt_1 blobSet_1 blobPs_2 blobAt_2 blobSet_2 blobPs_3 blobAt_3 blobSet_3 sizes_blob shapes_blob fits_blob zero_blob zt_blob built_blob Try.underlying39 msgPs_0 msgAt_0 msgSet_0 msgPs_1 msgAt_1 msgSet_1 msgPs_2 msgAt_2 msgSet_2 msgPs_3 msgAt_3 msgSet_3 msgPs_4 msgAt_4 msgSet_4 msgPs_5 msgAt_5 msgSet_5 msgPs_6 msgAt_6 msgSet_6 msgPs_7 msgAt_7 msgSet_7 msgPs_8 msgAt_8 msgSet_8 msgPs_9 msgAt_9 msgSet_9 sizes_msg shapes_msg fits_msg zero_msg zt_msg built_msg Try.underlying47 at_Ps_0 at_Set_0 at_Ps_1 at_Set_1 sizes_at_ shapes_at_
attribute [local go_sem] fits3 fits4 fits5 fits9 fits23 fits26 fits31 fits34 fits52 zt3 zero3 zt34 zero34 zt23 zero23 bin_sub_eql bin_pend_eql bin_pend_neq bin_blob_eql bin_dig23_eql bin_dig23_neq slice23
attribute [local go_sem ↓] blockQ_exit2
attribute [local simp] dig_ext
attribute [local go_sem] bkeyPs_0 bkeyAt_0 bkeySet_0 bkeyPs_1 bkeyAt_1 bkeySet_1 sizes_bkey shapes_bkey fits_bkey zero_bkey zt_bkey built_bkey Try.underlying95 bin_blob_neq fits58 stAt zero60 zt60 built60 fits60 shape_mp Try.underlying97 Try.underlying99 Try.underlying28
theorem snew_c {σ : AST} {K : AV → AST → Prop} (hK : ∀ s' j mi, SF σ s' j mi [] [] → K (.ptr (some (j, []))) s') : TCalls Try.prog 18 [] σ K := by
  refine tcalls_walk Try.f18 _ [.tmp 0] Try.func18 rfl rfl rfl mixed (Nat.le_of_ble_eq_true rfl) rfl fun hlen => ?_
  repeat' (first | (simp -dsimp only [↓reduceIte, go_sem]) | (refine arr_intro fun _ => ?_) | (refine later_intro ⟨keeps_nil, ?_⟩) | (refine later_intro ⟨keeps_refl, ?_⟩) | (with_reducible refine keeps_go ?_ ?_; focus (first | (simp [keeps_cons, keeps_none, objs_app, objs_app0]; done) | (simp only [keeps_cons, keeps_none, objs_app0, objs_app, and_true]; first | rfl | exact ⟨rfl, rfl⟩ | exact ⟨rfl, rfl, rfl⟩))) | (with_reducible refine (And.intro (a := keeps _ _ _) ?_ ?_); focus (first | (simp [keeps_cons, keeps_none, objs_app, objs_app0]; done) | (simp only [keeps_cons, keeps_none, objs_app0, objs_app, and_true]; first | rfl | exact ⟨rfl, rfl⟩ | exact ⟨rfl, rfl, rfl⟩))) | (refine both_ways ?_ ?_) | (rw [wrap_i64 (by omega) (by omega)]) | (refine guardV_split (fun h => ?_) (fun h => ?_) <;> (try rw [h]) <;> (try simp at h) <;> (try (exfalso; omega))))
  refine hK _ (σ.objs.length + 1) σ.objs.length ⟨Ext.app _ _, by omega, by omega, by omega, by rw [objs_app]; rfl, ⟨[], 0, rfl, by rw [objs_app0]; rfl, by simp, by simp⟩, by simp⟩
theorem usedB_le {L : List Blob} {o : Int} (h : ∀ b ∈ L, b.Rt) : usedB L o ≤ L.length * 4096 := by
  induction L with
  | nil => simp [usedB]
  | cons b L ih =>
    have h1 := ih fun x hx => h x (List.mem_cons_of_mem _ hx)
    have h2 := (h b (List.mem_cons_self ..)).2.2.2.2
    have e : usedB (b :: L) o = lenOf o b + usedB L o := by simp [usedB]
    have h3 : lenOf o b ≤ b.cipher.length := by unfold lenOf; split <;> omega
    rw [e, List.length_cons]; omega
theorem usedN_le {L : List Blob} {o : Int} : usedN L o ≤ L.length := List.countP_le_length
section
variable {σ0 s : AST} {j mi : Nat} {B : List Blob} {F : List (Nat × AObj)} {K : AV → AST → Prop}
theorem sused_nil {σ : AST} {o : Int} {K : AV → AST → Prop} (hK : K (.tuple [.int .i64 0, .int .i64 0]) σ) : TCalls Try.prog 36 [.ptr none, .int .i64 o] σ K := by
  refine tcalls_walk Try.f36 _ [.tmp 4, .tmp 5] Try.func36 rfl rfl rfl mixed (Nat.le_of_ble_eq_true rfl) rfl fun hlen => ?_
  repeat' (first | (simp -dsimp only [↓reduceIte, go_sem]) | (refine arr_intro fun _ => ?_) | (refine later_intro ⟨keeps_nil, ?_⟩) | (refine later_intro ⟨keeps_refl, ?_⟩) | (with_reducible refine keeps_go ?_ ?_; focus (first | (simp [keeps_cons, keeps_none, objs_app, objs_app0]; done) | (simp only [keeps_cons, keeps_none, objs_app0, objs_app, and_true]; first | rfl | exact ⟨rfl, rfl⟩ | exact ⟨rfl, rfl, rfl⟩))) | (with_reducible refine (And.intro (a := keeps _ _ _) ?_ ?_); focus (first | (simp [keeps_cons, keeps_none, objs_app, objs_app0]; done) | (simp only [keeps_cons, keeps_none, objs_app0, objs_app, and_true]; first | rfl | exact ⟨rfl, rfl⟩ | exact ⟨rfl, rfl, rfl⟩))) | (refine both_ways ?_ ?_) | (rw [wrap_i64 (by omega) (by omega)]) | (refine guardV_split (fun h => ?_) (fun h => ?_) <;> (try rw [h]) <;> (try simp at h) <;> (try (exfalso; omega))))
  exact hK
theorem sused_c (h : SF σ0 s j mi B F) (hB : BOk B) {o : Int} (hK : ∀ s', Ext s s' → K (.tuple [.int .i64 (usedN B o : Nat), .int .i64 (usedB B o : Nat)]) s') : TCalls Try.prog 36 [.ptr (some (j, [])), .int .i64 o] s K := by
  obtain ⟨E, ck, rfl, hm, hck, hnd⟩ := h.om
  have cj := cellAt_known h.o
  have hlt := h.lt
  refine tcalls_walk Try.f36 _ [.tmp 4, .tmp 5] Try.func36 rfl rfl rfl mixed (Nat.le_of_ble_eq_true rfl) rfl fun hlen => ?_
  repeat' (first | (simp -dsimp only [↓reduceIte, go_sem, cj]) | (refine arr_intro fun _ => ?_) | (refine later_intro ⟨keeps_nil, ?_⟩) | (refine later_intro ⟨keeps_refl, ?_⟩) | (with_reducible refine keeps_go ?_ ?_; focus (first | (simp [keeps_cons, keeps_none, objs_app, objs_app0]; done) | (simp only [keeps_cons, keeps_none, objs_app0, objs_app, and_true]; first | rfl | exact ⟨rfl, rfl⟩ | exact ⟨rfl, rfl, rfl⟩))) | (with_reducible refine (And.intro (a := keeps _ _ _) ?_ ?_); focus (first | (simp [keeps_cons, keeps_none, objs_app, objs_app0]; done) | (simp only [keeps_cons, keeps_none, objs_app0, objs_app, and_true]; first | rfl | exact ⟨rfl, rfl⟩ | exact ⟨rfl, rfl, rfl⟩))) | (refine both_ways ?_ ?_) | (rw [wrap_i64 (by omega) (by omega)]) | (refine guardV_split (fun h => ?_) (fun h => ?_) <;> (try rw [h]) <;> (try simp at h) <;> (try (exfalso; omega))))
  refine ⟨⟨95, 39, Try.underlying97⟩, ?_⟩
  simp only [hm]
  intro l b
  repeat' (first | (simp -dsimp only [↓reduceIte, go_sem]) | (refine arr_intro fun _ => ?_) | (refine later_intro ⟨keeps_nil, ?_⟩) | (refine later_intro ⟨keeps_refl, ?_⟩) | (with_reducible refine keeps_go ?_ ?_; focus (first | (simp [keeps_cons, keeps_none, objs_app, objs_app0]; done) | (simp only [keeps_cons, keeps_none, objs_app0, objs_app, and_true]; first | rfl | exact ⟨rfl, rfl⟩ | exact ⟨rfl, rfl, rfl⟩))) | (with_reducible refine (And.intro (a := keeps _ _ _) ?_ ?_); focus (first | (simp [keeps_cons, keeps_none, objs_app, objs_app0]; done) | (simp only [keeps_cons, keeps_none, objs_app0, objs_app, and_true]; first | rfl | exact ⟨rfl, rfl⟩ | exact ⟨rfl, rfl, rfl⟩))) | (refine both_ways ?_ ?_) | (rw [wrap_i64 (by omega) (by omega)]) | (refine guardV_split (fun h => ?_) (fun h => ?_) <;> (try rw [h]) <;> (try simp at h) <;> (try (exfalso; omega))))
  have hlen : E.length ≤ 2048 := by have := hB.len; rwa [List.length_map] at this
  have hck' : ∀ e ∈ E.map entB, e.1 < ck := fun e he => by obtain ⟨x, hx, rfl⟩ := List.mem_map.1 he; exact hck x hx
  refine awp_rounds (fun (i : Nat) τ s' => ∃ (D : List (Nat × Blob)) (last : Nat), D.length = i ∧ Met E D ∧ ck ≤ last ∧ Ext s s' ∧ s'.objs[s.objs.length]? = some (iterO l b mi ck (D.map (·.1)).toArray last) ∧ τ 1 = .int .i64 o ∧ τ 6 = .int .i64 (usedN (D.map (·.2)) o : Nat) ∧ τ 7 = .int .i64 (usedB (D.map (·.2)) o : Nat) ∧ τ 16 = .ptr (some (s.objs.length, []))) (fun i => E.length - i) 0 ?_ ?_
  · refine ⟨[], ck, rfl, ⟨by simp, by simp⟩, Nat.le_refl _, Ext.app _ _, by rw [objs_app0]; rfl, ?_, ?_, ?_, ?_⟩ <;> (try simp only [go_sem]) <;> (try rfl)
  · rintro i τ s' ⟨D, last, hDl, hD, hla, hx, hit, t1, t6, t7, t16⟩
    have hm' := ext_knownB hx hm
    have hDlen := hD.len
    repeat' (first | (simp -dsimp only [↓reduceIte, go_sem, t1, t6, t7, t16]) | (refine arr_intro fun _ => ?_) | (refine later_intro ⟨keeps_nil, ?_⟩) | (refine later_intro ⟨keeps_refl, ?_⟩) | (with_reducible refine keeps_go ?_ ?_; focus (first | (simp [keeps_cons, keeps_none, objs_app, objs_app0]; done) | (simp only [keeps_cons, keeps_none, objs_app0, objs_app, and_true]; first | rfl | exact ⟨rfl, rfl⟩ | exact ⟨rfl, rfl, rfl⟩))) | (with_reducible refine (And.intro (a := keeps _ _ _) ?_ ?_); focus (first | (simp [keeps_cons, keeps_none, objs_app, objs_app0]; done) | (simp only [keeps_cons, keeps_none, objs_app0, objs_app, and_true]; first | rfl | exact ⟨rfl, rfl⟩ | exact ⟨rfl, rfl, rfl⟩))) | (refine both_ways ?_ ?_) | (rw [wrap_i64 (by omega) (by omega)]) | (refine guardV_split (fun h => ?_) (fun h => ?_) <;> (try rw [h]) <;> (try simp at h) <;> (try (exfalso; omega))))
    refine ⟨rfl, s.objs.length, l, b, mi, ck, _, last, _, _, rfl, hit, hm', hck', hla, fun e he hne => ?_, fun hall => ?_⟩
    · obtain ⟨e, he0, rfl⟩ := List.mem_map.1 he
      have hne' : ¬ e.1 ∈ D.map (·.1) := by simpa [entB] using hne
      have hD' := hD.add he0 hne'
      have hl2 := hD'.len
      rw [List.length_append] at hl2
      simp only [List.length_singleton] at hl2
      have hil := cell_ltB hit
      have oit : ∀ l, ((s'.set s.objs.length (iterO l b mi ck ((D.map (·.1)).toArray.push (entB e).1) ck))).objs[s.objs.length]? = some (iterO l b mi ck ((D.map (·.1)).toArray.push (entB e).1) ck) := fun l => objs_setSB hil
      have omi : ∀ o, (s'.set s.objs.length o).objs[mi]? = some (.map (E.map entB) ck) := fun o => by rw [objs_setNB (by omega)]; exact hm'
      repeat' (first | (simp -dsimp only [↓reduceIte, go_sem, t1, t6, t7, t16]) | (refine arr_intro fun _ => ?_) | (refine later_intro ⟨keeps_nil, ?_⟩) | (refine later_intro ⟨keeps_refl, ?_⟩) | (with_reducible refine keeps_go ?_ ?_; focus (first | (simp [keeps_cons, keeps_none, objs_app, objs_app0]; done) | (simp only [keeps_cons, keeps_none, objs_app0, objs_app, and_true]; first | rfl | exact ⟨rfl, rfl⟩ | exact ⟨rfl, rfl, rfl⟩))) | (with_reducible refine (And.intro (a := keeps _ _ _) ?_ ?_); focus (first | (simp [keeps_cons, keeps_none, objs_app, objs_app0]; done) | (simp only [keeps_cons, keeps_none, objs_app0, objs_app, and_true]; first | rfl | exact ⟨rfl, rfl⟩ | exact ⟨rfl, rfl, rfl⟩))) | (refine both_ways ?_ ?_) | (rw [wrap_i64 (by omega) (by omega)]) | (refine guardV_split (fun h => ?_) (fun h => ?_) <;> (try rw [h]) <;> (try simp at h) <;> (try (exfalso; omega))))
      refine ⟨s.objs.length, l, b, mi, ck, (D.map (·.1)).toArray, _, entB e, ck, rfl, oit _, omi _, he, ?_⟩
      have hx3 := hx.set (o := iterO l b mi ck ((D.map (·.1)).toArray.push (entB e).1) ck) (Nat.le_refl s.objs.length)
      have oit3 : (s'.set s.objs.length (iterO l b mi ck ((D.map (·.1)).toArray.push (entB e).1) ck)).objs[s.objs.length]? = some (iterO l b mi ck ((D ++ [e]).map (·.1)).toArray ck) := by
        rw [objs_setSB hil]
        have : (D.map (·.1)).toArray.push (entB e).1 = ((D ++ [e]).map (·.1)).toArray := by simp [entB]
        rw [this]
      generalize s'.set s.objs.length (iterO l b mi ck ((D.map (·.1)).toArray.push (entB e).1) ck) = s3 at *
      have k1 : (entB e).2.1 = .agg (bkeyPs (kOf e.2)) := rfl
      have k2 : (entB e).2.2 = .agg (blobPs e.2) := rfl
      have k3 : (kOf e.2).owner = e.2.owner := rfl
      have hrt : ∀ b ∈ D.map (·.2), b.Rt := fun b hb => by
        obtain ⟨x, hx, rfl⟩ := List.mem_map.1 hb
        exact hB.rt _ (List.mem_map_of_mem (hD.sub x hx))
      have hn := usedN_le (L := D.map (·.2)) (o := o)
      have hb := usedB_le (L := D.map (·.2)) (o := o) hrt
      rw [List.length_map] at hn hb
      have her := (hB.rt e.2 (List.mem_map_of_mem he0)).2.2.2.2
      have w1 : IntKind.i64.wrap ((usedN (D.map (·.2)) o : Nat) + 1) = ((usedN (D.map (·.2)) o + 1 : Nat) : Int) := by rw [wrap_i64 (by omega) (by omega)]; simp
      have w2 : IntKind.i64.wrap ((usedB (D.map (·.2)) o : Nat) + (e.2.cipher.length : Nat)) = ((usedB (D.map (·.2)) o + e.2.cipher.length : Nat) : Int) := by rw [wrap_i64 (by omega) (by omega)]; simp
      by_cases ho : e.2.owner = o
      · have d1 : usedN ((D ++ [e]).map (·.2)) o = usedN (D.map (·.2)) o + 1 := by rw [List.map_append, usedN_app]; simp [usedN, ho]
        have d2 : usedB ((D ++ [e]).map (·.2)) o = usedB (D.map (·.2)) o + e.2.cipher.length := by rw [List.map_append, usedB_app]; simp [usedB, lenOf, ho]
        have hq : (e.2.owner == o) = true := by simp [ho]
        repeat' (first | (simp -dsimp only [↓reduceIte, go_sem, t1, t6, t7, t16, k1, k2, k3, hq, w1, w2]) | (refine arr_intro fun _ => ?_) | (refine later_intro ⟨keeps_nil, ?_⟩) | (refine later_intro ⟨keeps_refl, ?_⟩) | (with_reducible refine keeps_go ?_ ?_; focus (first | (simp [keeps_cons, keeps_none, objs_app, objs_app0]; done) | (simp only [keeps_cons, keeps_none, objs_app0, objs_app, and_true]; first | rfl | exact ⟨rfl, rfl⟩ | exact ⟨rfl, rfl, rfl⟩))) | (with_reducible refine (And.intro (a := keeps _ _ _) ?_ ?_); focus (first | (simp [keeps_cons, keeps_none, objs_app, objs_app0]; done) | (simp only [keeps_cons, keeps_none, objs_app0, objs_app, and_true]; first | rfl | exact ⟨rfl, rfl⟩ | exact ⟨rfl, rfl, rfl⟩))) | (refine both_ways ?_ ?_) | (rw [wrap_i64 (by omega) (by omega)]) | (refine guardV_split (fun h => ?_) (fun h => ?_) <;> (try rw [h]) <;> (try simp at h) <;> (try (exfalso; omega))))
        refine later_intro ⟨i + 1, by omega, D ++ [e], ck, by simp [hDl], hD', Nat.le_refl _, hx3.trans (Ext.app _ _), objs_known_app oit3 _, ?_, ?_, ?_, ?_⟩ <;> (try simp only [go_sem, t1, t6, t7, t16, d1, d2]) <;> (try rfl)
      · have d1 : usedN ((D ++ [e]).map (·.2)) o = usedN (D.map (·.2)) o := by rw [List.map_append, usedN_app]; simp [usedN, ho]
        have d2 : usedB ((D ++ [e]).map (·.2)) o = usedB (D.map (·.2)) o := by rw [List.map_append, usedB_app]; simp [usedB, lenOf, ho]
        have hq : (e.2.owner == o) = false := by simp [ho]
        repeat' (first | (simp -dsimp only [↓reduceIte, go_sem, t1, t6, t7, t16, k1, k2, k3, hq, w1, w2]) | (refine arr_intro fun _ => ?_) | (refine later_intro ⟨keeps_nil, ?_⟩) | (refine later_intro ⟨keeps_refl, ?_⟩) | (with_reducible refine keeps_go ?_ ?_; focus (first | (simp [keeps_cons, keeps_none, objs_app, objs_app0]; done) | (simp only [keeps_cons, keeps_none, objs_app0, objs_app, and_true]; first | rfl | exact ⟨rfl, rfl⟩ | exact ⟨rfl, rfl, rfl⟩))) | (with_reducible refine (And.intro (a := keeps _ _ _) ?_ ?_); focus (first | (simp [keeps_cons, keeps_none, objs_app, objs_app0]; done) | (simp only [keeps_cons, keeps_none, objs_app0, objs_app, and_true]; first | rfl | exact ⟨rfl, rfl⟩ | exact ⟨rfl, rfl, rfl⟩))) | (refine both_ways ?_ ?_) | (rw [wrap_i64 (by omega) (by omega)]) | (refine guardV_split (fun h => ?_) (fun h => ?_) <;> (try rw [h]) <;> (try simp at h) <;> (try (exfalso; omega))))
        refine later_intro ⟨i + 1, by omega, D ++ [e], ck, by simp [hDl], hD', Nat.le_refl _, hx3.trans (Ext.app _ _), objs_known_app oit3 _, ?_, ?_, ?_, ?_⟩ <;> (try simp only [go_sem, t1, t6, t7, t16, d1, d2]) <;> (try rfl)
    · have hperm := hD.all hnd fun e he => by
        have := hall (entB e) (List.mem_map_of_mem he)
        simpa [entB] using this
      have e1 := usedN_perm (hperm.map (·.2)) (o := o)
      have e2 := usedB_perm (hperm.map (·.2)) (o := o)
      repeat' (first | (simp -dsimp only [↓reduceIte, go_sem, t1, t6, t7, t16, e1, e2]) | (refine arr_intro fun _ => ?_) | (refine later_intro ⟨keeps_nil, ?_⟩) | (refine later_intro ⟨keeps_refl, ?_⟩) | (with_reducible refine keeps_go ?_ ?_; focus (first | (simp [keeps_cons, keeps_none, objs_app, objs_app0]; done) | (simp only [keeps_cons, keeps_none, objs_app0, objs_app, and_true]; first | rfl | exact ⟨rfl, rfl⟩ | exact ⟨rfl, rfl, rfl⟩))) | (with_reducible refine (And.intro (a := keeps _ _ _) ?_ ?_); focus (first | (simp [keeps_cons, keeps_none, objs_app, objs_app0]; done) | (simp only [keeps_cons, keeps_none, objs_app0, objs_app, and_true]; first | rfl | exact ⟨rfl, rfl⟩ | exact ⟨rfl, rfl, rfl⟩))) | (refine both_ways ?_ ?_) | (rw [wrap_i64 (by omega) (by omega)]) | (refine guardV_split (fun h => ?_) (fun h => ?_) <;> (try rw [h]) <;> (try simp at h) <;> (try (exfalso; omega))))
      exact hK _ hx
end
end Go.Aff.L10

